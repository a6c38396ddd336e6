import Derived.Test.YtdkcpnmaglkmnaaS30l
/-! Walks of chapter 30: Joints, of the program and of the reference. -/
namespace Go.Proofs.Ytdkcpnmaglkmnaa
open Go.RowKit Go.Deep
set_option linter.unusedVariables false
set_option maxRecDepth 100000

/-- a row in new blocks, and an error -/
def RowResE (w : World) (F : List Int) (c : Int) (e : Ending) (w' : World) : Prop :=
  ∃ A cap, e = .returned (.tuple #[.slice A F.length cap, .int .i64 c]) ∧ Rd w' w'.heap.size A F ∧ Below w.heap.size w w'

set_option maxHeartbeats 4000000 in
theorem lJoints {w : World} {B : Nat} {A : Option Addr} {L : List Int} {cap : Nat} (h : Rd w B A L) (hB : B ≤ w.heap.size) (W H a : Int) :
    Calls Try.prog 21 #[.agg #[.int .i64 W, .int .i64 H, .slice A L.length cap], .int .i64 a] w (RowResE w (jntF W H L a) (lkd W H L a)) := by
  have hal : Below w.heap.size w (w.alloc (.cells #[.int .i64 W, .int .i64 H, .slice A L.length cap] 24)) := (Below.refl _ _).alloc (Nat.le_refl _) _
  have hsz : (w.alloc (.cells #[.int .i64 W, .int .i64 H, .slice A L.length cap] 24)).heap.size = w.heap.size + 1 := by simp
  have b0 : (w.alloc (.cells #[.int .i64 W, .int .i64 H, .slice A L.length cap] 24)).cell? ⟨w.heap.size, 0, none⟩ = some (.int .i64 W) := by simp
  have b1 : (w.alloc (.cells #[.int .i64 W, .int .i64 H, .slice A L.length cap] 24)).cell? ⟨w.heap.size, 1, none⟩ = some (.int .i64 H) := by simp
  have b2 : (w.alloc (.cells #[.int .i64 W, .int .i64 H, .slice A L.length cap] 24)).cell? ⟨w.heap.size, 2, none⟩ = some (.slice A L.length cap) := by simp
  have HSZ := Lib.hid hsz
  have HAL := Lib.hid hal
  have CA : Hid (∀ u, Below w.heap.size w u → Calls Try.prog 33 #[.agg #[.int .i64 W, .int .i64 H, .slice A L.length cap], .int .i64 a] u fun e w' => e = .returned (.int .i64 (lkd W H L a)) ∧ Below u.heap.size u w') := Lib.hid fun u hu => lLooked (h.below hu hB) (Nat.le_trans hB hu.size) W H a
  have HR := Lib.hid h
  by_cases hk : lkd W H L a = 0
  · have HK := Lib.hid hk
    rw [hk] at CA
    obtain ⟨q0, q1, q2⟩ := lkd_zero hk
    obtain ⟨W, H, rfl, rfl, hv⟩ := lck_zero q0
    have hF : Hid (jntF W H L a = ints (jntTo W L a L.length)) := Lib.hid (by rw [jntF, if_pos hk, Int.toNat_natCast])
    have HV := Lib.hid hv
    have l144 := hv.len144
    clear hk q0 hv h hal hsz
    go_enter Try.func21, Try.ntmps21
    go_wp2_with fail
    generalize w.alloc (.cells #[.int .i64 W, .int .i64 H, .slice A L.length cap] 24) = w1 at *
    refine (CA.out _ HAL.out).mono ?_
    rintro e w2 ⟨rfl, hb⟩
    have hz := HSZ.out
    replace b0 := ((bcell hb).1 _ _ (by omega)).trans b0
    replace b1 := ((bcell hb).1 _ _ (by omega)).trans b1
    replace b2 := ((bcell hb).1 _ _ (by omega)).trans b2
    have HB2 := Lib.hid (HAL.out.trans (hb.mono HAL.out.size))
    have HD2 : Hid (w.heap.size < w2.heap.size) := Lib.hid (by have := hb.size; omega)
    clear hb hz CA
    go_wp2_with fail
    refine (lParts (HR.out.below HB2.out hB) (Nat.le_trans hB HB2.out.size) HV.out q1).mono ?_
    rintro e w3 ⟨A', c', rfl, hr3, hb3⟩
    have hd2 := HD2.out
    have C0 := Lib.hid (((bcell hb3).1 _ _ hd2).trans b0)
    have C1 := Lib.hid (((bcell hb3).1 _ _ hd2).trans b1)
    have C2 := Lib.hid (((bcell hb3).1 _ _ hd2).trans b2)
    have HB3 := Lib.hid (HB2.out.trans (hb3.mono HB2.out.size))
    have HD3 : Hid (w.heap.size < w3.heap.size) := Lib.hid (by have := hb3.size; omega)
    have hNl := partsK_len (W := W) (L := L) (a := a)
    generalize hN : (partsK W L a).length = N at *
    have HN := Lib.hid hN
    have b2 := C2.out
    clear hr3 hb3 b0 b1 hd2 hN
    obtain ⟨jI, hjI, hy0, hy1, hy2⟩ := info_parts infoInt'
    have HJI := Lib.hid hjI
    clear hjI
    go_wp2
    clear b2
    go_loopw [4, 23] (fun pv kv wi => ∃ (k : Nat), k ≤ L.length ∧ kv = .int .i64 k ∧ Hid (wi.ownsRow w3.heap.size 3 1 pv (ints (jntTo W L a k)).length ((ints (jntTo W L a k)).map (Value.int .i64))) ∧ Hid (Below w3.heap.size w3 wi)) (fun _ kv _ => L.length - (intOf kv).toNat)
    case atStart => exact ⟨0, by omega, rfl, Lib.hid (own_row_nil _ _ _), Lib.hid (Below.refl _ _)⟩
    case round =>
      obtain ⟨k, hk, rfl, hrow, hbi⟩ := hrel
      have d0 := ((bcell hbi.out).1 _ _ HD3.out).trans C0.out
      have d1 := ((bcell hbi.out).1 _ _ HD3.out).trans C1.out
      have d2 := ((bcell hbi.out).1 _ _ HD3.out).trans C2.out
      have HBI := Lib.hid (HB3.out.trans (hbi.out.mono HB3.out.size))
      by_cases hkl : k < L.length
      · have hRw := HR.out.below HBI.out hB
        obtain ⟨bb, off, x, rfl, hbb, hx, hxi, hcx⟩ := hRw.at_ hkl
        have HRW := Lib.hid hRw
        have HX := Lib.hid hx
        clear hx hxi hRw
        by_cases hxa : x = a
        · have hb1 : (x == a) = true := by simpa using hxa
          have HMI : Hid (mineB L a k = true) := Lib.hid (mineB_iff.2 (by rw [HX.out, hxa]))
          clear hxa
          go_wp2_with fail
          refine (lWith (cap := cap) HRW.out (Nat.le_trans hB HBI.out.size) W H hkl (x := -1) ⟨by decide, by decide⟩).mono ?_
          rintro e w4 ⟨A4, c4, rfl, r4, _, hb4⟩
          have CP := lParts (cap := c4) r4 (Nat.le_refl _) (HV.out.set k ⟨by decide, by decide⟩) q1
          rw [List.length_set] at CP
          have HCP := Lib.hid CP
          clear CP
          go_wp2_with fail
          refine HCP.out.mono ?_
          rintro e w5 ⟨A5, c5, rfl, r5, hb5⟩
          have hM5 := partsK_len (W := W) (L := L.set k (-1)) (a := a)
          rw [List.length_set] at hM5
          have hbw := hb4.trans (hb5.mono hb4.size)
          have HRO := Lib.hid (row_below hrow.out hbw)
          have HBW := Lib.hid (hbi.out.trans (hbw.mono hbi.out.size))
          generalize hM : (partsK W (L.set k (-1)) a).length = M at *
          have hJ : isJnt W L a k = decide (N < M) := by rw [isJnt, HMI.out, hM, HN.out]; rfl
          clear d0 d1 d2 r4 r5 hb4 hb5 hrow hbi hbw hcx hb1 HRW hM
          by_cases hlt : N < M
          · have HJ : Hid (jntTo W L a (k + 1) = jntTo W L a k ++ [k]) := Lib.hid (jntTo_yes (by rw [hJ]; simpa using hlt))
            have hjl := jntTo_len W L a k
            have hoz := Lib.hid (row_below HRO.out (Below.alloc (Below.refl w5.heap.size w5) (Nat.le_refl _) (.cells #[.int .i64 (k : Int)] 3)))
            have hcz := Lib.hid (new_one w5 (.int .i64 (k : Int)) 3)
            have hbz := Lib.hid (Below.alloc (Below.refl w5.heap.size w5) (Nat.le_refl _) (.cells #[.int .i64 (k : Int)] 3))
            have hwz : Hid ((w5.alloc (.cells #[.int .i64 (k : Int)] 3)).heap.size = w5.heap.size + 1) := Lib.hid (by simp)
            have hzs := HBW.out.size
            clear hJ HRO
            generalize hgw : w5.alloc (.cells #[.int .i64 (k : Int)] 3) = wa at *
            go_wp2_with (at_builtin; refine wpList_append_own_at _ rfl _ _ 22 rfl w3.heap.size 3 jI (.int .i64 0) 1 8 Try.underlying22 HJI.out hy0 hy1 hy2 rfl (by decide) _ (ints (jntTo W L a k)).length _ rfl hoz.out ⟨w5.heap.size, 0, none⟩ 1 1 [.int .i64 (k : Int)] rfl (by simp) hcz.out (by simp [Value.oneCell']) (by rw [ints_length]; unfold maxLen; omega) (by rw [ints_length]; omega) (by rw [hwz.out]; omega) ?_)
            intro v' w8 hown hgrow _ hat
            have HB8 : Hid (Below w3.heap.size w3 w8) := Lib.hid ((HBW.out.trans (hbz.out.mono hzs)).grown hgrow (by rw [hwz.out]; omega) (fun q hq => (hoz.out.lt q hq).1))
            have HO8 : Hid (w8.ownsRow w3.heap.size 3 1 v' (ints (jntTo W L a (k + 1))).length ((ints (jntTo W L a (k + 1))).map (Value.int .i64))) := Lib.hid (by rw [HJ.out, ints_snoc]; simpa using hown)
            clear hown hgrow hat hgw hlt
            go_wp2
            go_roundw
            case rel => exact ⟨k + 1, by omega, by go_num, HO8, HB8⟩
            case measure => simp [intOf]; omega
          · have HJ : Hid (jntTo W L a (k + 1) = jntTo W L a k) := Lib.hid (jntTo_no (by rw [hJ]; simpa using hlt))
            clear hJ
            go_wp2
            go_roundw
            case rel => exact ⟨k + 1, by omega, by go_num, by rw [HJ.out]; exact HRO, HBW⟩
            case measure => simp [intOf]; omega
        · have hb1 : (x == a) = false := by simpa using hxa
          have HJ : Hid (jntTo W L a (k + 1) = jntTo W L a k) := Lib.hid (jntTo_no (by
            have : mineB L a k = false := by
              cases hh : mineB L a k
              · rfl
              · have h1 := mineB_iff.1 hh
                rw [HX.out] at h1
                cases h1
                exact absurd rfl hxa
            rw [isJnt, this]; rfl))
          clear hxa
          go_wp2
          go_roundw
          case rel => exact ⟨k + 1, by omega, by go_num, by rw [HJ.out]; exact hrow, hbi⟩
          case measure => simp [intOf]; omega
      · obtain ⟨pa, pc, rfl, hpa⟩ := row_slice hrow.out
        have hjl := jntTo_len W L a k
        have R1 := Lib.hid (row_rd hrow.out (fun x hx => by
          obtain ⟨q, hq, rfl⟩ := List.mem_map.1 hx
          have := jntTo_lt hq
          exact ⟨by omega, by omega⟩) (by rw [ints_length]; omega))
        have hkn : k = L.length := by omega
        have HF : Hid (jntF W H L a = ints (jntTo W L a k)) := Lib.hid (by rw [hF.out, hkn])
        clear hrow hpa hbi hkn
        go_wp2
        go_ret2
        rw [HF.out, HK.out]
        exact ⟨pa, pc, rfl, R1.out, HBI.out⟩
  · have hne : (lkd W H L a != 0) = true := by simpa using hk
    have hF : Hid (jntF W H L a = []) := Lib.hid (by rw [jntF, if_neg hk])
    clear hk h hal hsz
    generalize lkd W H L a = c at *
    go_enter Try.func21, Try.ntmps21
    go_wp2_with fail
    generalize w.alloc (.cells #[.int .i64 W, .int .i64 H, .slice A L.length cap] 24) = w1 at *
    refine (CA.out _ HAL.out).mono ?_
    rintro e w2 ⟨rfl, hb⟩
    have hz := HSZ.out
    replace b0 := ((bcell hb).1 _ _ (by omega)).trans b0
    replace b1 := ((bcell hb).1 _ _ (by omega)).trans b1
    replace b2 := ((bcell hb).1 _ _ (by omega)).trans b2
    have HB2 := Lib.hid (HAL.out.trans (hb.mono HAL.out.size))
    clear hb hz
    have HB3 := HB2
    clear b0 b1 b2 CA
    go_wp2
    go_ret2
    rw [hF.out]
    exact ⟨none, 0, rfl, Rd.nil _ _ _, HB3.out⟩

set_option maxHeartbeats 4000000 in
theorem lrJoints {w : World} {B : Nat} {A : Option Addr} {L : List Int} {cap : Nat} (h : Rd w B A L) (hB : B ≤ w.heap.size) (W H a : Int) :
    Calls Try.prog 22 #[.agg #[.int .i64 W, .int .i64 H, .slice A L.length cap], .int .i64 a] w (RowResE w (jntF W H L a) (lkd W H L a)) := by
  have hal : Below w.heap.size w (w.alloc (.cells #[.int .i64 W, .int .i64 H, .slice A L.length cap] 24)) := (Below.refl _ _).alloc (Nat.le_refl _) _
  have hsz : (w.alloc (.cells #[.int .i64 W, .int .i64 H, .slice A L.length cap] 24)).heap.size = w.heap.size + 1 := by simp
  have b0 : (w.alloc (.cells #[.int .i64 W, .int .i64 H, .slice A L.length cap] 24)).cell? ⟨w.heap.size, 0, none⟩ = some (.int .i64 W) := by simp
  have b1 : (w.alloc (.cells #[.int .i64 W, .int .i64 H, .slice A L.length cap] 24)).cell? ⟨w.heap.size, 1, none⟩ = some (.int .i64 H) := by simp
  have b2 : (w.alloc (.cells #[.int .i64 W, .int .i64 H, .slice A L.length cap] 24)).cell? ⟨w.heap.size, 2, none⟩ = some (.slice A L.length cap) := by simp
  have HSZ := Lib.hid hsz
  have HAL := Lib.hid hal
  have CA : Hid (∀ u, Below w.heap.size w u → Calls Try.prog 36 #[.agg #[.int .i64 W, .int .i64 H, .slice A L.length cap], .int .i64 a] u fun e w' => e = .returned (.int .i64 (lkd W H L a)) ∧ Below u.heap.size u w') := Lib.hid fun u hu => lrLooked (h.below hu hB) (Nat.le_trans hB hu.size) W H a
  have HR := Lib.hid h
  by_cases hk : lkd W H L a = 0
  · have HK := Lib.hid hk
    rw [hk] at CA
    obtain ⟨q0, q1, q2⟩ := lkd_zero hk
    obtain ⟨W, H, rfl, rfl, hv⟩ := lck_zero q0
    have hF : Hid (jntF W H L a = ints (jntTo W L a L.length)) := Lib.hid (by rw [jntF, if_pos hk, Int.toNat_natCast])
    have HV := Lib.hid hv
    have l144 := hv.len144
    clear hk q0 hv h hal hsz
    go_enter Try.func22, Try.ntmps22
    go_wp2_with fail
    generalize w.alloc (.cells #[.int .i64 W, .int .i64 H, .slice A L.length cap] 24) = w1 at *
    refine (CA.out _ HAL.out).mono ?_
    rintro e w2 ⟨rfl, hb⟩
    have hz := HSZ.out
    replace b0 := ((bcell hb).1 _ _ (by omega)).trans b0
    replace b1 := ((bcell hb).1 _ _ (by omega)).trans b1
    replace b2 := ((bcell hb).1 _ _ (by omega)).trans b2
    have HB2 := Lib.hid (HAL.out.trans (hb.mono HAL.out.size))
    have HD2 : Hid (w.heap.size < w2.heap.size) := Lib.hid (by have := hb.size; omega)
    clear hb hz CA
    go_wp2_with fail
    refine (lrParted (HR.out.below HB2.out hB) (Nat.le_trans hB HB2.out.size) HV.out q1).mono ?_
    rintro e w3 ⟨A', c', rfl, hr3, hb3⟩
    have hd2 := HD2.out
    have C0 := Lib.hid (((bcell hb3).1 _ _ hd2).trans b0)
    have C1 := Lib.hid (((bcell hb3).1 _ _ hd2).trans b1)
    have C2 := Lib.hid (((bcell hb3).1 _ _ hd2).trans b2)
    have HB3 := Lib.hid (HB2.out.trans (hb3.mono HB2.out.size))
    have HD3 : Hid (w.heap.size < w3.heap.size) := Lib.hid (by have := hb3.size; omega)
    have hNl := partsK_len (W := W) (L := L) (a := a)
    generalize hN : (partsK W L a).length = N at *
    have HN := Lib.hid hN
    have b2 := C2.out
    clear hr3 hb3 b0 b1 hd2 hN
    obtain ⟨jI, hjI, hy0, hy1, hy2⟩ := info_parts infoInt'
    have HJI := Lib.hid hjI
    clear hjI
    go_wp2
    clear b2
    go_loopw [7, 8] (fun pv kv wi => ∃ (k : Nat), k ≤ L.length ∧ kv = .int .i64 k ∧ Hid (wi.ownsRow w3.heap.size 3 1 pv (ints (jntTo W L a k)).length ((ints (jntTo W L a k)).map (Value.int .i64))) ∧ Hid (Below w3.heap.size w3 wi)) (fun _ kv _ => L.length - (intOf kv).toNat)
    case atStart => exact ⟨0, by omega, rfl, Lib.hid (own_row_nil _ _ _), Lib.hid (Below.refl _ _)⟩
    case round =>
      obtain ⟨k, hk, rfl, hrow, hbi⟩ := hrel
      have d0 := ((bcell hbi.out).1 _ _ HD3.out).trans C0.out
      have d1 := ((bcell hbi.out).1 _ _ HD3.out).trans C1.out
      have d2 := ((bcell hbi.out).1 _ _ HD3.out).trans C2.out
      have HBI := Lib.hid (HB3.out.trans (hbi.out.mono HB3.out.size))
      by_cases hkl : k < L.length
      · have hRw := HR.out.below HBI.out hB
        obtain ⟨bb, off, x, rfl, hbb, hx, hxi, hcx⟩ := hRw.at_ hkl
        have HRW := Lib.hid hRw
        have HX := Lib.hid hx
        clear hx hxi hRw
        by_cases hxa : x = a
        · have hb1 : (x == a) = true := by simpa using hxa
          have HMI : Hid (mineB L a k = true) := Lib.hid (mineB_iff.2 (by rw [HX.out, hxa]))
          clear hxa
          go_wp2_with fail
          refine (lrGiven (cap := cap) HRW.out (Nat.le_trans hB HBI.out.size) W H hkl (x := -1) ⟨by decide, by decide⟩).mono ?_
          rintro e w4 ⟨A4, c4, rfl, r4, _, hb4⟩
          have CP := lrParted (cap := c4) r4 (Nat.le_refl _) (HV.out.set k ⟨by decide, by decide⟩) q1
          rw [List.length_set] at CP
          have HCP := Lib.hid CP
          clear CP
          go_wp2_with fail
          refine HCP.out.mono ?_
          rintro e w5 ⟨A5, c5, rfl, r5, hb5⟩
          have hM5 := partsK_len (W := W) (L := L.set k (-1)) (a := a)
          rw [List.length_set] at hM5
          have hbw := hb4.trans (hb5.mono hb4.size)
          have HRO := Lib.hid (row_below hrow.out hbw)
          have HBW := Lib.hid (hbi.out.trans (hbw.mono hbi.out.size))
          generalize hM : (partsK W (L.set k (-1)) a).length = M at *
          have hJ : isJnt W L a k = decide (N < M) := by rw [isJnt, HMI.out, hM, HN.out]; rfl
          clear d0 d1 d2 r4 r5 hb4 hb5 hrow hbi hbw hcx hb1 HRW hM
          by_cases hlt : N < M
          · have HJ : Hid (jntTo W L a (k + 1) = jntTo W L a k ++ [k]) := Lib.hid (jntTo_yes (by rw [hJ]; simpa using hlt))
            have hjl := jntTo_len W L a k
            have hoz := Lib.hid (row_below HRO.out (Below.alloc (Below.refl w5.heap.size w5) (Nat.le_refl _) (.cells #[.int .i64 (k : Int)] 3)))
            have hcz := Lib.hid (new_one w5 (.int .i64 (k : Int)) 3)
            have hbz := Lib.hid (Below.alloc (Below.refl w5.heap.size w5) (Nat.le_refl _) (.cells #[.int .i64 (k : Int)] 3))
            have hwz : Hid ((w5.alloc (.cells #[.int .i64 (k : Int)] 3)).heap.size = w5.heap.size + 1) := Lib.hid (by simp)
            have hzs := HBW.out.size
            clear hJ HRO
            generalize hgw : w5.alloc (.cells #[.int .i64 (k : Int)] 3) = wa at *
            go_wp2_with (at_builtin; refine wpList_append_own_at _ rfl _ _ 22 rfl w3.heap.size 3 jI (.int .i64 0) 1 8 Try.underlying22 HJI.out hy0 hy1 hy2 rfl (by decide) _ (ints (jntTo W L a k)).length _ rfl hoz.out ⟨w5.heap.size, 0, none⟩ 1 1 [.int .i64 (k : Int)] rfl (by simp) hcz.out (by simp [Value.oneCell']) (by rw [ints_length]; unfold maxLen; omega) (by rw [ints_length]; omega) (by rw [hwz.out]; omega) ?_)
            intro v' w8 hown hgrow _ hat
            have HB8 : Hid (Below w3.heap.size w3 w8) := Lib.hid ((HBW.out.trans (hbz.out.mono hzs)).grown hgrow (by rw [hwz.out]; omega) (fun q hq => (hoz.out.lt q hq).1))
            have HO8 : Hid (w8.ownsRow w3.heap.size 3 1 v' (ints (jntTo W L a (k + 1))).length ((ints (jntTo W L a (k + 1))).map (Value.int .i64))) := Lib.hid (by rw [HJ.out, ints_snoc]; simpa using hown)
            clear hown hgrow hat hgw hlt
            go_wp2
            go_roundw
            case rel => exact ⟨k + 1, by omega, by go_num, HO8, HB8⟩
            case measure => simp [intOf]; omega
          · have HJ : Hid (jntTo W L a (k + 1) = jntTo W L a k) := Lib.hid (jntTo_no (by rw [hJ]; simpa using hlt))
            clear hJ
            go_wp2
            go_roundw
            case rel => exact ⟨k + 1, by omega, by go_num, by rw [HJ.out]; exact HRO, HBW⟩
            case measure => simp [intOf]; omega
        · have hb1 : (x == a) = false := by simpa using hxa
          have HJ : Hid (jntTo W L a (k + 1) = jntTo W L a k) := Lib.hid (jntTo_no (by
            have : mineB L a k = false := by
              cases hh : mineB L a k
              · rfl
              · have h1 := mineB_iff.1 hh
                rw [HX.out] at h1
                cases h1
                exact absurd rfl hxa
            rw [isJnt, this]; rfl))
          clear hxa
          go_wp2
          go_roundw
          case rel => exact ⟨k + 1, by omega, by go_num, by rw [HJ.out]; exact hrow, hbi⟩
          case measure => simp [intOf]; omega
      · obtain ⟨pa, pc, rfl, hpa⟩ := row_slice hrow.out
        have hjl := jntTo_len W L a k
        have R1 := Lib.hid (row_rd hrow.out (fun x hx => by
          obtain ⟨q, hq, rfl⟩ := List.mem_map.1 hx
          have := jntTo_lt hq
          exact ⟨by omega, by omega⟩) (by rw [ints_length]; omega))
        have hkn : k = L.length := by omega
        have HF : Hid (jntF W H L a = ints (jntTo W L a k)) := Lib.hid (by rw [hF.out, hkn])
        clear hrow hpa hbi hkn
        go_wp2
        go_ret2
        rw [HF.out, HK.out]
        exact ⟨pa, pc, rfl, R1.out, HBI.out⟩
  · have hne : (lkd W H L a != 0) = true := by simpa using hk
    have hF : Hid (jntF W H L a = []) := Lib.hid (by rw [jntF, if_neg hk])
    clear hk h hal hsz
    generalize lkd W H L a = c at *
    go_enter Try.func22, Try.ntmps22
    go_wp2_with fail
    generalize w.alloc (.cells #[.int .i64 W, .int .i64 H, .slice A L.length cap] 24) = w1 at *
    refine (CA.out _ HAL.out).mono ?_
    rintro e w2 ⟨rfl, hb⟩
    have hz := HSZ.out
    replace b0 := ((bcell hb).1 _ _ (by omega)).trans b0
    replace b1 := ((bcell hb).1 _ _ (by omega)).trans b1
    replace b2 := ((bcell hb).1 _ _ (by omega)).trans b2
    have HB2 := Lib.hid (HAL.out.trans (hb.mono HAL.out.size))
    clear hb hz
    go_wp2_with fail
    refine (CA.out _ HB2.out).mono ?_
    rintro e w3 ⟨rfl, hb⟩
    have HB3 := Lib.hid (HB2.out.trans (hb.mono HB2.out.size))
    clear hb
    clear b0 b1 b2 CA
    go_wp2
    go_ret2
    rw [hF.out]
    exact ⟨none, 0, rfl, Rd.nil _ _ _, HB3.out⟩

end Go.Proofs.Ytdkcpnmaglkmnaa

import Derived.Test.YtdkcpnmaglkmnaaW30y
import Derived.Test.YtdkcpnmaglkmnaaS30o
/-! The walk of the statement LandGives. (Printed by gen30gv.py.) -/
namespace Go.Proofs.Ytdkcpnmaglkmnaa
open Go.RowKit Go.Deep
set_option linter.unusedVariables false
set_option maxRecDepth 100000

set_option maxHeartbeats 8000000 in
theorem landGives {w : World} {A : Option Addr} {L : List Int} {cap : Nat} (h : Rd w w.heap.size A L) (W H p t : Int) (_h1 : I64 W) (_h2 : I64 H) (_h3 : I64 p) (_h4 : I64 t) :
    Calls Try.prog 7 #[.agg #[.int .i64 W, .int .i64 H, .slice A L.length cap], .int .i64 p, .int .i64 t] w fun e w' => e = .returned (.bool true) ∧ Below w.heap.size w w' := by
  have hal : Below w.heap.size w (w.alloc (.cells #[.int .i64 W, .int .i64 H, .slice A L.length cap] 24)) := (Below.refl _ _).alloc (Nat.le_refl _) _
  have hsz : (w.alloc (.cells #[.int .i64 W, .int .i64 H, .slice A L.length cap] 24)).heap.size = w.heap.size + 1 := by simp
  have b0 : (w.alloc (.cells #[.int .i64 W, .int .i64 H, .slice A L.length cap] 24)).cell? ⟨w.heap.size, 0, none⟩ = some (.int .i64 W) := by simp
  have b1 : (w.alloc (.cells #[.int .i64 W, .int .i64 H, .slice A L.length cap] 24)).cell? ⟨w.heap.size, 1, none⟩ = some (.int .i64 H) := by simp
  have b2 : (w.alloc (.cells #[.int .i64 W, .int .i64 H, .slice A L.length cap] 24)).cell? ⟨w.heap.size, 2, none⟩ = some (.slice A L.length cap) := by simp
  have hlen := h.len
  have HR : Hid (∀ u, Below w.heap.size w u → w.heap.size ≤ u.heap.size ∧ Rd u w.heap.size A L) := Lib.hid fun u hu => ⟨hu.size, h.below hu (Nat.le_refl _)⟩
  have HSZ := Lib.hid hsz
  have HAL := Lib.hid hal
  clear h hal hsz _h1 _h2 _h3 _h4
  go_enter Try.func7, Try.ntmps7
  go_wp2_with fail
  generalize w.alloc (.cells #[.int .i64 W, .int .i64 H, .slice A L.length cap] 24) = w0 at *
  have HB0 := Lib.hid (And.intro b0 (And.intro b1 b2))
  have KEEP : Hid (∀ u, Below w0.heap.size w0 u → u.cell? ⟨w.heap.size, 0, none⟩ = some (.int .i64 W) ∧ u.cell? ⟨w.heap.size, 1, none⟩ = some (.int .i64 H) ∧ u.cell? ⟨w.heap.size, 2, none⟩ = some (.slice A L.length cap)) := Lib.hid fun u hu => by
    have hz := HSZ.out
    exact ⟨((bcell hu).1 _ _ (by omega)).trans HB0.out.1, ((bcell hu).1 _ _ (by omega)).trans HB0.out.2.1, ((bcell hu).1 _ _ (by omega)).trans HB0.out.2.2⟩
  have TOT : Hid (∀ u, Below w0.heap.size w0 u → Below w.heap.size w u) := Lib.hid fun u hu => HAL.out.trans (hu.mono HAL.out.size)
  refine (alive30 w0).mono ?_
  rintro e w1 ⟨rfl, hb⟩
  have B1 := Lib.hid hb
  clear hb b0 b1 b2
  obtain ⟨c0, c1, c2⟩ := KEEP.out _ B1.out
  have R := HR.out _ (TOT.out _ B1.out)
  go_wp2_with fail
  refine (great30 W H hlen).mono ?_
  rintro e w2 ⟨g1, rfl, hb⟩
  have B2 := Lib.hid (B1.out.trans (hb.mono B1.out.size))
  clear hb c0 c1 c2 R
  obtain ⟨c0, c1, c2⟩ := KEEP.out _ B2.out
  have R := HR.out _ (TOT.out _ B2.out)
  cases g1
  case true =>
    go_wp2
    go_ret
    exact ⟨rfl, TOT.out _ B2.out⟩
  case false =>
  go_wp2_with fail
  refine (lrCheck R.2 R.1 W H).mono ?_
  rintro e w3 ⟨rfl, hb⟩
  have B3 := Lib.hid (B2.out.trans (hb.mono B2.out.size))
  clear hb c0 c1 c2 R
  obtain ⟨c0, c1, c2⟩ := KEEP.out _ B3.out
  have R := HR.out _ (TOT.out _ B3.out)
  by_cases hl : lck W H L = 0
  case neg =>
    have hne : (lck W H L != 0) = true := by simpa using hl
    generalize lck W H L = c at *
    go_wp2
    go_ret
    exact ⟨rfl, TOT.out _ B3.out⟩
  case pos =>
  obtain ⟨W, H, rfl, rfl, hv⟩ := lck_zero hl
  have HL := Lib.hid hl
  have HV := Lib.hid hv
  rw [hl]
  clear hl hv
  go_wp2_with fail
  refine (lGive R.2 R.1 W H p t).mono ?_
  rintro e w4 ⟨A4, k4, rfl, hr, hb⟩
  have B4 := Lib.hid (B3.out.trans (hb.mono B3.out.size))
  have R4 := Lib.hid hr
  clear hr hb c0 c1 c2 R
  by_cases hg : gvE30 W H L p t = 0
  case neg =>
    have hne : (gvE30 W H L p t != 0) = true := by simpa using hg
    have hlen0 : gvL30 W H L p t = [] := by rw [gvL30, if_neg hg]
    rw [hlen0]
    generalize gvE30 W H L p t = x1 at *
    generalize gvW30 W H L p t = x2 at *
    generalize gvH30 W H L p t = x3 at *
    have hb := ((Below.refl w4.heap.size w4).alloc (Nat.le_refl _) (.cells #[.int .i64 x2, .int .i64 x3, .slice A4 0 k4] 24))
    have hn := three_cells (heap_alloc_new w4 (.cells #[.int .i64 x2, .int .i64 x3, .slice A4 0 k4] 24))
    obtain ⟨g0, g1, g2⟩ := hn
    have T := Lib.hid (TOT.out _ (B4.out.trans (hb.mono B4.out.size)))
    clear hb g0 g1 hg hlen0
    go_wp2
    go_ret
    exact ⟨rfl, T.out⟩
  case pos =>
  obtain ⟨k, rfl, hk, t0, t5, q1, q2, q3, q4, q5, v2, q6, q7, q8⟩ := gives_ok HV.out HL.out hg
  rw [hg, q3, q4, q5]
  rw [q5] at R4
  have m1 : (L.set k t).length = L.length := List.length_set
  have m2 : (L.set k t)[k]? = some t := List.getElem?_set_self hk
  have m3 : ∀ i x, i ≠ k → L[i]? = some x → (L.set k t)[i]? = some x := fun i x hi hx => by rw [List.getElem?_set_ne (Ne.symm hi)]; exact hx
  have hz0 : ∃ z, L[k]? = some z ∧ L.getD k 0 = z := ⟨L[k], by simp [hk], by rw [List.getD_eq_getElem?_getD, List.getElem?_eq_getElem hk]; rfl⟩
  obtain ⟨z, hz1, hz2⟩ := hz0
  rw [hz2] at q1 q2 q7 q8
  generalize hM : L.set k t = M at *
  have hzb := HV.out.bd z (List.mem_of_getElem? hz1)
  have HP : Hid (∀ c : Int, 0 ≤ c → c ≤ 5 → prtF W H M c = partsK W M c ∧ lkd W H M c = 0) := Lib.hid fun c c0 c1 => by
    have : lkd W H M c = 0 := lkd_ok (lck_of v2) (by omega)
    exact ⟨by rw [prtF, if_pos this, Int.toNat_natCast], this⟩
  have V2 := Lib.hid v2
  have M1 := Lib.hid m1
  have M3 := Lib.hid m3
  have M2 := Lib.hid m2
  have Q6 := Lib.hid q6
  have Q7 := Lib.hid q7
  have Q8 := Lib.hid q8
  have HZ1 := Lib.hid hz1
  clear m1 v2 m3 m2 q6 q7 q8 q1 q3 q4 q5 hz1 hz2 hg hM q2
  have hb : Below w4.heap.size w4 (w4.alloc (.cells #[.int .i64 (W : Int), .int .i64 (H : Int), .slice A4 M.length k4] 24)) := (Below.refl _ _).alloc (Nat.le_refl _) _
  have hn := three_cells (heap_alloc_new w4 (.cells #[.int .i64 (W : Int), .int .i64 (H : Int), .slice A4 M.length k4] 24))
  have hs : (w4.alloc (.cells #[.int .i64 (W : Int), .int .i64 (H : Int), .slice A4 M.length k4] 24)).heap.size = w4.heap.size + 1 := by simp
  have B5 := Lib.hid (B4.out.trans (hb.mono B4.out.size))
  have R5 := Lib.hid ((R4.out.below hb (Nat.le_refl _)).more hb.size)
  have HN := Lib.hid hn
  have HS := Lib.hid hs
  clear hb hs hn R4
  obtain ⟨n0, n1, n2⟩ := HN.out
  go_wp2_with fail
  clear n0 n1 n2
  generalize w4.alloc (.cells #[.int .i64 (W : Int), .int .i64 (H : Int), .slice A4 M.length k4] 24) = w5 at *
  have KG : Hid (∀ u, Below w5.heap.size w5 u → (u.cell? ⟨w4.heap.size, 0, none⟩ = some (.int .i64 (W : Int)) ∧ u.cell? ⟨w4.heap.size, 1, none⟩ = some (.int .i64 (H : Int)) ∧ u.cell? ⟨w4.heap.size, 2, none⟩ = some (.slice A4 M.length k4)) ∧ (u.cell? ⟨w.heap.size, 0, none⟩ = some (.int .i64 (W : Int)) ∧ u.cell? ⟨w.heap.size, 1, none⟩ = some (.int .i64 (H : Int)) ∧ u.cell? ⟨w.heap.size, 2, none⟩ = some (.slice A L.length cap)) ∧ Rd u w5.heap.size A4 M ∧ Rd u w.heap.size A L ∧ w5.heap.size ≤ u.heap.size ∧ w.heap.size ≤ u.heap.size ∧ Below w.heap.size w u) := Lib.hid fun u hu => by
    have hu0 := B5.out.trans (hu.mono B5.out.size)
    have hz := HS.out
    exact ⟨cells_below HN.out hu (by omega), KEEP.out _ hu0, R5.out.below hu (Nat.le_refl _), (HR.out _ (TOT.out _ hu0)).2, hu.size, (HR.out _ (TOT.out _ hu0)).1, TOT.out _ hu0⟩
  clear HN HS R5 B5 B4 B3 B2 B1 TOT KEEP HR HSZ HAL HB0
  have K := KG.out _ (Below.refl _ _)
  refine (lrCheck (cap := k4) K.2.2.1 (Nat.le_refl _) W H).mono ?_
  rintro e w6 ⟨rfl, hb⟩
  rw [lck_of V2.out]
  have B6 := Lib.hid hb
  clear hb K
  obtain ⟨⟨n0, n1, n2⟩, ⟨c0, c1, c2⟩, r1, r2, z1, z2, _⟩ := KG.out _ B6.out
  have hkM : k < M.length := by rw [M1.out]; exact hk
  obtain ⟨b4, o4, y, hA4, hb4, hy, hyi, hyc⟩ := r1.at_ hkM
  have hyt : y = t := by rw [M2.out] at hy; injection hy with hy; exact hy.symm
  subst hyt
  obtain ⟨bb, oo, z', hA, hbb, hz', hzi, hzc⟩ := r2.at_ hk
  have hzz : z' = z := by rw [HZ1.out] at hz'; injection hz' with hz'; exact hz'.symm
  subst hzz
  subst hA4 hA
  clear hy hz' hyi hb4 hbb r1 r2 z1 z2 hzc hzi
  go_wp2_with fail
  clear n0 n1 n2 c0 c1 c2 hyc
  go_loopw [10] (fun i wr => ∃ (j : Nat), j ≤ L.length ∧ i = .int .i64 j ∧ Hid (Below w5.heap.size w5 wr)) (fun i _ => L.length - (intOf i).toNat)
  case atStart => exact ⟨0, by omega, rfl, B6⟩
  case round =>
    obtain ⟨j, hj, rfl, hw⟩ := hrel
    obtain ⟨⟨n0, n1, n2⟩, ⟨c0, c1, c2⟩, r1, r2, z1, z2, _⟩ := KG.out _ hw.out
    clear n0 n1 c0 c1
    by_cases hlt : j < L.length
    · obtain ⟨bx, ox, x, hA, hbx, hx, hxi, hxc⟩ := r2.at_ hlt
      obtain ⟨by', oy, y', hA', hby, hy, hyi, hyc⟩ := r1.at_ (show j < M.length by rw [M1.out]; exact hlt)
      cases hA
      cases hA'
      by_cases hjk : j = k
      · subst hjk
        clear hx hxi hbx hy hyi hby r1 r2 z1 z2
        go_wp2
        go_quiet (fail)
        go_wp2
        go_roundw
        case rel => exact ⟨j + 1, by omega, by go_num, Lib.hid (below_drewN hw.out _)⟩
        case measure => simp [intOf]; omega
      · have hyx : y' = x := by rw [M3.out j x hjk hx] at hy; injection hy with hy; exact hy.symm
        subst hyx
        have hne : ((j : Int) != (k : Int)) = true := by simp; omega
        have hjM : j < M.length := by rw [M1.out]; exact hlt
        clear hx hxi hbx hy hyi hby r1 r2 z1 z2
        go_wp2
        go_quiet (fail)
        go_wp2
        go_roundw
        case rel => exact ⟨j + 1, by omega, by go_num, Lib.hid (below_drewN hw.out _)⟩
        case measure => simp [intOf]; omega
    · obtain ⟨bb', oo', z2', hA, hbb, hz', hzi, hzc⟩ := r2.at_ hk
      cases hA
      have hzz : z2' = z' := by rw [HZ1.out] at hz'; injection hz' with hz'; exact hz'.symm
      subst hzz
      have BW := hw
      obtain ⟨⟨n0, n1, _⟩, ⟨c0, c1, _⟩, _⟩ := KG.out _ hw.out
      clear hz' hzi hbb r1 r2 z1 z2 hw
      go_wp2_with fail
      clear n0 n1 n2 c0 c1 c2 hzc
      have KK := KG.out _ BW.out
      refine (lPartsE (cap := k4) KK.2.2.1 KK.2.2.2.2.1 W H y).mono ?_
      rw [(HP.out y t0 t5).1, (HP.out y t0 t5).2]
      clear KK
      rintro e w7 ⟨A7, k7, rfl, _, hb⟩
      rw [Q6.out]
      have B7 := Lib.hid (BW.out.trans (hb.mono BW.out.size))
      clear hb BW Q6
      by_cases hz0 : z2' < 0
      · have T := Lib.hid (KG.out _ B7.out).2.2.2.2.2.2
        go_wp2
        go_ret
        exact ⟨rfl, T.out⟩
      · obtain ⟨⟨n0, n1, n2⟩, ⟨c0, c1, c2⟩, r1, r2, z1, z2, _⟩ := KG.out _ B7.out
        have R1 := Lib.hid r1
        have Z1 := Lib.hid z1
        clear r1 r2 z1 z2
        go_wp2_with fail
        clear n0 n1 n2 c0 c1 c2
        refine (lPartsE (cap := k4) R1.out Z1.out W H z2').mono ?_
        rw [(HP.out z2' (by omega) hzb.2).1, (HP.out z2' (by omega) hzb.2).2]
        rintro e w8 ⟨A8, k8, rfl, _, hb⟩
        have B8 := Lib.hid (B7.out.trans (hb.mono B7.out.size))
        have q7 := Q7.out (by omega)
        generalize (partsK W M z2').length = n8 at *
        clear hb R1 Z1
        obtain ⟨⟨n0, n1, n2⟩, ⟨c0, c1, c2⟩, r1, r2, z1, z2, _⟩ := KG.out _ B8.out
        have R1 := Lib.hid r1
        have Z1 := Lib.hid z1
        clear r1 r2 z1 z2
        go_wp2_with fail
        clear n0 n1 n2 c0 c1 c2
        refine (lGive (cap := k4) R1.out Z1.out W H k z2').mono ?_
        rintro e w9 ⟨A9, k9, rfl, hr9, hb⟩
        have B9 := Lib.hid (B8.out.trans (hb.mono B8.out.size))
        clear hb R1 Z1
        rcases Q8.out with ⟨q1, q2, q3, q4⟩ | hno
        · rw [q1, q2, q3, q4]
          rw [q4] at hr9
          clear q1 q2 q3 q4 Q8 Q7
          have hb : Below w9.heap.size w9 (w9.alloc (.cells #[.int .i64 (W : Int), .int .i64 (H : Int), .slice A9 L.length k9] 24)) := (Below.refl _ _).alloc (Nat.le_refl _) _
          have hn := three_cells (heap_alloc_new w9 (.cells #[.int .i64 (W : Int), .int .i64 (H : Int), .slice A9 L.length k9] 24))
          have B10 := Lib.hid (B9.out.trans (hb.mono B9.out.size))
          have R10 := Lib.hid ((hr9.below hb (Nat.le_refl _)).more hb.size)
          obtain ⟨n0, n1, n2⟩ := hn
          obtain ⟨_, ⟨c0, c1, c2⟩, _, r2, _, z2, T⟩ := KG.out _ B10.out
          have R2 := Lib.hid r2
          have Z2 := Lib.hid z2
          have T10 := Lib.hid T
          clear hb hr9 r2 z2 T
          go_wp2_with fail
          clear n0 n1 n2 c0 c1 c2
          generalize w9.alloc (.cells #[.int .i64 (W : Int), .int .i64 (H : Int), .slice A9 L.length k9] 24) = w10 at *
          refine (sameLand (cap := k9) (cap' := cap) R10.out R2.out (Nat.le_refl _) Z2.out W H).mono ?_
          rintro e w11 ⟨rfl, hb⟩
          rw [show decide (L = L) = true by simp]
          have T11 := Lib.hid (T10.out.trans (hb.mono T10.out.size))
          clear hb
          go_wp2
          go_ret
          exact ⟨rfl, T11.out⟩
        · rw [hno (by omega)]
          generalize gvW30 (W : Int) (H : Int) M (k : Int) z2' = x1 at *
          generalize gvH30 (W : Int) (H : Int) M (k : Int) z2' = x2 at *
          generalize (gvL30 (W : Int) (H : Int) M (k : Int) z2') = x3 at *
          have hb : Below w9.heap.size w9 (w9.alloc (.cells #[.int .i64 x1, .int .i64 x2, .slice A9 x3.length k9] 24)) := (Below.refl _ _).alloc (Nat.le_refl _) _
          have B10 := Lib.hid (B9.out.trans (hb.mono B9.out.size))
          have T10 := Lib.hid (KG.out _ B10.out).2.2.2.2.2.2
          clear hb hr9 Q8 Q7 hno
          go_wp2
          go_ret
          exact ⟨rfl, T10.out⟩
end Go.Proofs.Ytdkcpnmaglkmnaa

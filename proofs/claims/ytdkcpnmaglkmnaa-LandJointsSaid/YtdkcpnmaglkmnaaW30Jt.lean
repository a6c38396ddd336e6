import Derived.Deep.DeepCutAuto
import Derived.Deep.CutBlock
import Derived.BigQuiet
import Derived.Test.YtdkcpnmaglkmnaaW30y
import Derived.Test.YtdkcpnmaglkmnaaW30Gr
import Derived.Test.YtdkcpnmaglkmnaaW30s
import Derived.Test.YtdkcpnmaglkmnaaS30r
/-! The walk of the statement LandJoints. -/
namespace Go.Proofs.Ytdkcpnmaglkmnaa
open Go.RowKit Go.Deep
set_option linter.unusedVariables false
set_option maxRecDepth 100000

set_option maxHeartbeats 16000000 in
theorem landJoints {w : World} {A : Option Addr} {L : List Int} {cap : Nat} (h : Rd w w.heap.size A L) (W H a : Int) (_h1 : I64 W) (_h2 : I64 H) (_h3 : I64 a) :
    Calls Try.prog 10 #[.agg #[.int .i64 W, .int .i64 H, .slice A L.length cap], .int .i64 a] w fun e w' => e = .returned (.bool true) ∧ Below w.heap.size w w' := by
  have hal : Below w.heap.size w (w.alloc (.cells #[.int .i64 W, .int .i64 H, .slice A L.length cap] 24)) := (Below.refl _ _).alloc (Nat.le_refl _) _
  have hsz : (w.alloc (.cells #[.int .i64 W, .int .i64 H, .slice A L.length cap] 24)).heap.size = w.heap.size + 1 := by simp
  have b0 : (w.alloc (.cells #[.int .i64 W, .int .i64 H, .slice A L.length cap] 24)).cell? ⟨w.heap.size, 0, none⟩ = some (.int .i64 W) := by simp
  have b1 : (w.alloc (.cells #[.int .i64 W, .int .i64 H, .slice A L.length cap] 24)).cell? ⟨w.heap.size, 1, none⟩ = some (.int .i64 H) := by simp
  have b2 : (w.alloc (.cells #[.int .i64 W, .int .i64 H, .slice A L.length cap] 24)).cell? ⟨w.heap.size, 2, none⟩ = some (.slice A L.length cap) := by simp
  have hlen := h.len
  have HR : Hid (∀ u, Below w.heap.size w u → w.heap.size ≤ u.heap.size ∧ Rd u w.heap.size A L) := Lib.hid fun u hu => ⟨hu.size, h.below hu (Nat.le_refl _)⟩
  have HSZ := Lib.hid hsz
  have HAL := Lib.hid hal
  clear h hal hsz _h1 _h2 _h3
  go_enter Try.func10, Try.ntmps10
  go_wp2_with fail
  generalize w.alloc (.cells #[.int .i64 W, .int .i64 H, .slice A L.length cap] 24) = w0 at *
  have HB0 := Lib.hid (And.intro b0 (And.intro b1 b2))
  have KEEP : Hid (∀ u, Below w0.heap.size w0 u → u.cell? ⟨w.heap.size, 0, none⟩ = some (.int .i64 W) ∧ u.cell? ⟨w.heap.size, 1, none⟩ = some (.int .i64 H) ∧ u.cell? ⟨w.heap.size, 2, none⟩ = some (.slice A L.length cap)) := Lib.hid fun u hu => by
    have hz := HSZ.out
    exact ⟨((bcell hu).1 _ _ (by omega)).trans HB0.out.1, ((bcell hu).1 _ _ (by omega)).trans HB0.out.2.1, ((bcell hu).1 _ _ (by omega)).trans HB0.out.2.2⟩
  have TOT : Hid (∀ u, Below w0.heap.size w0 u → Below w.heap.size w u) := Lib.hid fun u hu => HAL.out.trans (hu.mono HAL.out.size)
  refine (alive30 w0).mono ?_
  rintro e w1 ⟨rfl, hb⟩
  have B1 := Lib.hid hb
  clear hb b0 b1 b2
  obtain ⟨c0, c1, c2⟩ := KEEP.out _ B1.out
  have R := HR.out _ (TOT.out _ B1.out)
  go_wp2_with fail
  refine (great30b W H hlen).mono ?_
  rintro e w2 ⟨g1, rfl, hgr, hb⟩
  have HGR := Lib.hid hgr
  clear hgr
  have B2 := Lib.hid (B1.out.trans (hb.mono B1.out.size))
  clear hb c0 c1 c2 R
  obtain ⟨c0, c1, c2⟩ := KEEP.out _ B2.out
  have R := HR.out _ (TOT.out _ B2.out)
  cases g1
  case true =>
    go_wp2
    go_ret
    exact ⟨rfl, TOT.out _ B2.out⟩
  case false =>
  go_wp2_with fail
  refine (lrCheck R.2 R.1 W H).mono ?_
  rintro e w3 ⟨rfl, hb⟩
  have B3 := Lib.hid (B2.out.trans (hb.mono B2.out.size))
  clear hb c0 c1 c2 R
  obtain ⟨c0, c1, c2⟩ := KEEP.out _ B3.out
  have R := HR.out _ (TOT.out _ B3.out)
  by_cases hl : lck W H L = 0
  case neg =>
    have hne : (lck W H L != 0) = true := by simpa using hl
    generalize lck W H L = c at *
    go_wp2
    go_ret
    exact ⟨rfl, TOT.out _ B3.out⟩
  case pos =>
  obtain ⟨W, H, rfl, rfl, hv⟩ := lck_zero hl
  have HL := Lib.hid hl
  have HV := Lib.hid hv
  rw [hl]
  clear hl hv
  by_cases q1 : a < 0
  case pos =>
    go_wp2
    go_ret
    exact ⟨rfl, TOT.out _ B3.out⟩
  case neg =>
  by_cases q2 : 6 ≤ a
  case pos =>
    go_wp2
    go_ret
    exact ⟨rfl, TOT.out _ B3.out⟩
  case neg =>
  have hlk : lkd W H L a = 0 := lkd_ok (lck_of HV.out) (by omega)
  have hpf : prtF W H L a = (partsL L.length (mineB L a) (linkB W L a)).map ints := by rw [prtF, if_pos hlk, Int.toNat_natCast]; rfl
  have hjf : jntF W H L a = ints (jntTo W L a L.length) := by rw [jntF, if_pos hlk, Int.toNat_natCast]
  have ha0 : 0 ≤ a := by omega
  have ha5 : a < 6 := by omega
  clear q1 q2
  go_wp2_with fail
  refine (lPartsE R.2 R.1 W H a).mono ?_
  rintro e w4 ⟨A4, k4, rfl, hr, hb⟩
  have hpl : (partsK W L a).length = (prtF W H L a).length := by rw [hpf]; rfl
  have HPL := Lib.hid hpl
  have HPF := Lib.hid hpf
  rw [hlk]
  have B4 := Lib.hid (B3.out.trans (hb.mono B3.out.size))
  have R4 := Lib.hid hr
  clear hr hb c0 c1 c2 R hpf hpl
  obtain ⟨c0, c1, c2⟩ := KEEP.out _ B4.out
  have R := HR.out _ (TOT.out _ B4.out)
  go_wp2_with fail
  refine (lJoints R.2 R.1 W H a).mono ?_
  rintro e w5 ⟨A5, k5, rfl, hr, hb⟩
  rw [hlk]
  have HJF := Lib.hid hjf
  have B5 := Lib.hid (B4.out.trans (hb.mono B4.out.size))
  replace R4 := Lib.hid ((R4.out.below hb (Nat.le_refl _)).more hb.size)
  have R5 := Lib.hid hr
  clear hr hb c0 c1 c2 R hjf hlk
  have KG : Hid (∀ u, Below w5.heap.size w5 u → (u.cell? ⟨w.heap.size, 0, none⟩ = some (.int .i64 (W : Int)) ∧ u.cell? ⟨w.heap.size, 1, none⟩ = some (.int .i64 (H : Int)) ∧ u.cell? ⟨w.heap.size, 2, none⟩ = some (.slice A L.length cap)) ∧ Rd2 u w5.heap.size A4 (prtF W H L a) ∧ Rd u w5.heap.size A5 (jntF W H L a) ∧ Rd u w.heap.size A L ∧ w5.heap.size ≤ u.heap.size ∧ w.heap.size ≤ u.heap.size ∧ Below w.heap.size w u) := Lib.hid fun u hu => by
    have hu0 := B5.out.trans (hu.mono B5.out.size)
    exact ⟨KEEP.out _ hu0, R4.out.below hu (Nat.le_refl _), R5.out.below hu (Nat.le_refl _), (HR.out _ (TOT.out _ hu0)).2, hu.size, (HR.out _ (TOT.out _ hu0)).1, TOT.out _ hu0⟩
  have BIG : Hid (w.heap.size < w5.heap.size) := Lib.hid (by have := HSZ.out; have := B5.out.size; omega)
  have hgl := R4.out.len
  have hjl := R5.out.len
  clear R4 R5 B5 B4 B3 B2 B1 TOT KEEP HR HSZ HAL HB0 HGR
  have FOK := Lib.hid (parts_ok W L a)
  have FG : Hid (∀ (i : Nat) (x : List Int), (prtF W H L a)[i]? = some x → ∃ P, (partsL L.length (mineB L a) (linkB W L a))[i]? = some P ∧ x = ints P) := Lib.hid fun i x h => by
    rw [HPF.out, List.getElem?_map] at h
    cases hp : (partsL L.length (mineB L a) (linkB W L a))[i]? with
    | none => rw [hp] at h; cases h
    | some P => rw [hp] at h; simp at h; exact ⟨P, rfl, h.symm⟩
  have FL : Hid ((prtF W H L a).length = (partsL L.length (mineB L a) (linkB W L a)).length) := Lib.hid (by rw [HPF.out, List.length_map])
  generalize prtF W H L a = G at *
  generalize hF : partsL L.length (mineB L a) (linkB W L a) = F at *
  clear HPF hF
  have JAT : Hid (∀ k : Nat, k < L.length → mineB L a k = true → ((jntTo W L a k).length ≤ (jntF W H L a).length) ∧ ((jntF W H L a)[(jntTo W L a k).length]? = some (k : Int) ↔ G.length < (partsK W (L.set k (-1)) a).length)) := Lib.hid fun k hk hm => by
    rw [HJF.out]
    refine ⟨by rw [ints_length]; exact List.Sublist.length_le (List.Sublist.filter _ (List.range_sublist.2 (by omega))), ?_⟩
    rw [← HPL.out]
    have h1 := jnt_at (W := W) (L := L) (a := a) hk
    rw [isJnt, hm, Bool.true_and, decide_eq_true_iff] at h1
    rw [← h1]
    constructor
    · intro h
      rw [ints, List.getElem?_map] at h
      cases hq : (jntTo W L a L.length)[(jntTo W L a k).length]? with
      | none => rw [hq] at h; cases h
      | some q => rw [hq] at h; exact congrArg some (Int.ofNat.inj (Option.some.inj h))
    · intro h
      exact ints_at h
  have JNX : Hid (∀ k : Nat, k < L.length → (jntTo W L a (k + 1)).length = (jntTo W L a k).length + if mineB L a k = true ∧ G.length < (partsK W (L.set k (-1)) a).length then 1 else 0) := Lib.hid fun k hk => by
    rw [← HPL.out]
    cases hj : isJnt W L a k
    · rw [jntTo_no hj, if_neg]
      · rfl
      · rintro ⟨h1, h2⟩
        rw [isJnt, h1, Bool.true_and, decide_eq_false_iff_not] at hj
        exact hj h2
    · rw [jntTo_yes hj, if_pos]
      · simp
      · rw [isJnt, Bool.and_eq_true, decide_eq_true_iff] at hj
        exact hj
  have JLN : Hid ((jntTo W L a L.length).length = (jntF W H L a).length) := Lib.hid (by rw [HJF.out, ints_length])
  have LESS : Hid (∀ k : Nat, k < L.length → G.length ≤ (partsK W (L.set k (-1)) a).length + 1) := Lib.hid fun k hk => by rw [← HPL.out]; exact parts_less hk ha0
  generalize jntF W H L a = J at *
  clear HJF HPL
  have l144 := HV.out.len144
  have hmk := fun u => run_make_row' (P := Try.prog) 22 3 (.int .i64 0) 8 Try.underlying22 infoInt' rfl .i64 .i64 L.length (by omega) (by omega) u
  obtain ⟨⟨c0, c1, c2⟩, _, _, _, _, _, _⟩ := KG.out _ (Below.refl _ _)
  go_wp2_with fail
  clear hmk c0 c1 c2
  have HOWN := Lib.hid (Own.made w5 3 L.length)
  have HB6 := Lib.hid (Below.alloc (B := w5.heap.size) (Below.refl _ w5) (Nat.le_refl _) (.cells (madeCells #[Value.int .i64 0] L.length) 3))
  generalize w5.alloc (.cells (madeCells #[Value.int .i64 0] L.length) 3) = w6 at *
  go_loopw [11] (fun iv wr => ∃ (i : Nat) (O : List Int), i ≤ G.length ∧ iv = .int .i64 i ∧ Hid (Num L.length F i 0 O) ∧ Hid (Own wr w5.heap.size 3 O) ∧ Hid (Below w5.heap.size w5 wr)) (fun iv _ => G.length - (intOf iv).toNat)
  case atStart => exact ⟨0, _, by omega, rfl, Lib.hid (Num.start F L.length), HOWN, HB6⟩
  case round =>
    clear HOWN HB6
    obtain ⟨i, O, hi, rfl, hN, hO, hw⟩ := hrel
    by_cases hlt : i < G.length
    · obtain ⟨_, r2, _, _, z1, _, _⟩ := KG.out _ hw.out
      obtain ⟨b, off, x, A1, c1, hA, hbb, hx, hc, hrd⟩ := r2.at_ hlt
      subst hA
      obtain ⟨P, hP, hxP⟩ := FG.out i x hx
      have hxl := hrd.len
      have HRD : Hid (∀ u, Below w5.heap.size w5 u → u.cell? ⟨b, off + i, none⟩ = some (.slice A1 x.length c1) ∧ Rd u w5.heap.size A1 x) := Lib.hid (by
        intro u hu
        obtain ⟨_, r2', _⟩ := KG.out _ hu
        obtain ⟨b', off', x', A1', c1', hA', hbb', hx', hc', hrd'⟩ := r2'.at_ hlt
        cases hA'
        obtain ⟨_, r20, _⟩ := KG.out _ (Below.refl w5.heap.size w5)
        obtain ⟨b0, off0, x0, A10, c10, hA0, hbb0, hx0, hc0, hrd0⟩ := r20.at_ hlt
        cases hA0
        have e1 := ((bcell hw.out).1 _ _ hbb0).trans hc0
        have e2 : x0 = x := by rw [hx] at hx0; cases hx0; rfl
        subst e2
        rw [hc] at e1
        cases e1
        exact ⟨((bcell hu).1 _ _ hbb).trans hc0, hrd0.below hu (Nat.le_refl _)⟩)
      have HXP := Lib.hid hxP
      have HPP := Lib.hid hP
      have hgi : (0 : Int) ≤ (i : Int) := by omega
      have hgi2 : (i : Int) < (G.length : Int) := by omega
      clear hx hrd hP hxP r2 z1 hc
      go_wp2_with fail
      go_loopw [12] (fun kv wk => ∃ (k : Nat) (O : List Int), k ≤ x.length ∧ kv = .int .i64 k ∧ Hid (Num L.length F i k O) ∧ Hid (Own wk w5.heap.size 3 O) ∧ Hid (Below w5.heap.size w5 wk)) (fun kv _ => x.length - (intOf kv).toNat)
      case atStart => exact ⟨0, O, by omega, rfl, hN, hO, hw⟩
      case round =>
        rename World => wk
        clear hN hO hw
        obtain ⟨k, O', hk, rfl, hN, hO, hw⟩ := hrel
        obtain ⟨hc, hrd⟩ := HRD.out _ hw.out
        by_cases hkl : k < x.length
        · obtain ⟨b1, o1, y, hA1, hb1, hy, hyi, hyc⟩ := hrd.at_ hkl
          subst hA1
          obtain ⟨q, hq, hyq⟩ : ∃ q, P[k]? = some q ∧ y = (q : Int) := by
            rw [HXP.out, ints, List.getElem?_map] at hy
            cases hp : P[k]? with
            | none => rw [hp] at hy; cases hy
            | some q => rw [hp] at hy; exact ⟨q, rfl, by simpa using hy.symm⟩
          subst hyq
          obtain ⟨n1, n2, n3⟩ := hN.out.fresh FOK.out HPP.out hq
          have N4 := Lib.hid (hN.out.step FOK.out HPP.out hq)
          have hmine := mineB_iff.1 n2
          obtain ⟨⟨c0, c1', c2⟩, _, _, rL, _, _, _⟩ := KG.out _ hw.out
          obtain ⟨b2, o2, v, hA2, hb2, hv, hvi, hvc⟩ := rL.at_ n1
          have hva : v = a := by rw [hmine] at hv; cases hv; rfl
          subst hva
          subst hA2
          have oc := hO.out.cell n3
          have ofz := hO.out.frozen q
          have hol : O'.length = L.length := hN.out.len
          have hq0 : (0 : Int) ≤ (q : Int) := by omega
          have hq1 : (q : Int) < (L.length : Int) := by omega
          have hq2 : ¬ (q : Int) < 0 := by omega
          have HOL := Lib.hid hol
          have hiw : IntKind.i64.wrap ((i : Int) + 1) = (i : Int) + 1 := IntWalk.i64_in _ (by omega)
          clear hv hvi hy hyi hb1 hb2 n2 n3 hmine rL hol hrd c0 c1' hq hbb
          go_wp2_with fail
          have O5 := Lib.hid (hO.out.store q ((i : Int) + 1))
          have B5' := Lib.hid (hw.out.setCell (p := ⟨w5.heap.size, q, none⟩) (Nat.le_refl _) (.int .i64 ((i : Int) + 1)))
          go_roundw
          case rel => exact ⟨k + 1, _, by omega, by go_num, N4, O5, B5'⟩
          case measure => simp [intOf]; omega
        · have hkx : k = x.length := by omega
          have N5 : Hid (Num L.length F (i + 1) 0 O') := Lib.hid (Num.next (by have := hN.out; rw [hkx, HXP.out, ints_length] at this; exact this) HPP.out)
          clear hrd
          go_wp2
          go_roundw
          case rel => exact ⟨i + 1, O', by omega, by go_num, N5, hO, hw⟩
          case measure => simp [intOf]; omega
    · have N6 : Hid (Num L.length F F.length 0 O) := Lib.hid (by have := hN.out; rw [show i = F.length by have := FL.out; omega] at this; exact this)
      obtain ⟨f1, f2, f3⟩ := N6.out.fin FOK.out
      have hol : O.length = L.length := N6.out.len
      have F1 := Lib.hid f1
      have F2 := Lib.hid f2
      have F3 := Lib.hid f3
      have HOL := Lib.hid hol
      clear f1 f2 f3 hol N6 hN FG FL FOK
      go_wp2_with fail
      go_loopw [14, 15] (fun nv kv wr => ∃ (m k : Nat), k ≤ L.length ∧ nv = .int .i64 m ∧ kv = .int .i64 k ∧ Hid (m = (jntTo W L a k).length) ∧ Hid (Own wr w5.heap.size 3 O) ∧ Hid (Below w5.heap.size w5 wr)) (fun _ kv _ => L.length - (intOf kv).toNat)
      case atStart => exact ⟨0, 0, by omega, rfl, rfl, Lib.hid rfl, hO, hw⟩
      case round =>
        rename World => wr
        clear hO hw
        obtain ⟨m, k, hk, rfl, rfl, hm, hO, hw⟩ := hrel
        have hmk : m ≤ k := by rw [hm.out]; exact jntTo_len W L a k
        obtain ⟨⟨c0, c1, c2⟩, _, _, rL, _, _, _⟩ := KG.out _ hw.out
        by_cases hkl : k < L.length
        · obtain ⟨bb, off, x, hA, hbb, hx, hxi, hxc⟩ := rL.at_ hkl
          subst hA
          by_cases hxa : x = a
          · obtain rfl : a = x := hxa.symm
            have hmine : mineB L a k = true := mineB_iff.2 hx
            obtain ⟨j, hy, hjF⟩ := F1.out k hkl hmine
            obtain ⟨y, hyj⟩ : ∃ y : Int, y = (j : Int) + 1 := ⟨_, rfl⟩
            rw [← hyj] at hy
            have hy0 : 0 < y := by omega
            have oc := hO.out.cell hy
            have HY := Lib.hid hy
            have HMI := Lib.hid hmine
            clear hx hxi hyj hy hmine rL hjF
            go_wp2_with fail
            go_quiet (fail)
            clear oc c0 c1 c2 hxc
            generalize hwy : wr.drewN _ = wy
            have BY := Lib.hid (hw.out.trans ((hwy ▸ below_drewN (Below.refl wr.heap.size wr) _ : Below wr.heap.size wr wy).mono hw.out.size))
            have OY : Hid (Own wy w5.heap.size 3 O) := Lib.hid (by rw [← hwy]; exact hO.out.drewN _)
            clear hwy
            obtain ⟨⟨c0, c1, c2⟩, _, _, rL, _, _, _⟩ := KG.out _ BY.out
            obtain ⟨bb', off', x', hA, hbb', hx', hxi', hxc⟩ := rL.at_ hkl
            cases hA
            obtain rfl : a = x' := by
              have h2 := mineB_iff.1 HMI.out
              rw [hx'] at h2; cases h2; rfl
            clear hx' hxi' hbb' rL
            have oc := OY.out.cell HY.out
            go_wp2_with fail
            go_cut [198] (fun t wx => t = .bool false ∧ Hid (Own wx w5.heap.size 3 O) ∧ Hid (Below w5.heap.size w5 wx))
            case first =>
              as_aux_lemma =>
              have hW0 := HV.out.w0
              have hW12 := HV.out.w1
              have NB : ∀ q, q < L.length → nbB W k q = true → ∃ y1, O[q]? = some y1 ∧ (y1 = 0 ∨ y1 = y) := by
                intro q hq hn
                cases hmq : mineB L a q
                · exact ⟨0, F2.out q hq hmq, .inl rfl⟩
                · have := F3.out k q hkl hq HMI.out (linkB_iff.2 ⟨HMI.out, hmq, hn⟩)
                  exact ⟨y, by rw [← this]; exact HY.out, .inr rfl⟩
              have LEFT : Hid (k % W = 0 ∨ ∃ k1 y1, 0 < k % W ∧ k = k1 + 1 ∧ O[k1]? = some y1 ∧ (y1 = 0 ∨ y1 = y)) := Lib.hid (by
                rcases Nat.eq_zero_or_pos (k % W) with h0 | h0
                · exact .inl h0
                · have hk0 : 0 < k := by
                    rcases Nat.eq_zero_or_pos k with h | h
                    · rw [h, Nat.zero_mod] at h0; omega
                    · exact h
                  obtain ⟨y1, h1, h2⟩ := NB (k - 1) (by omega) (nb_left hW0 h0)
                  exact .inr ⟨k - 1, y1, h0, by omega, h1, h2⟩)
              have DOWN : Hid (k < W ∨ ∃ k2 y2, W ≤ k ∧ k = k2 + W ∧ O[k2]? = some y2 ∧ (y2 = 0 ∨ y2 = y)) := Lib.hid (by
                rcases Nat.lt_or_ge k W with h0 | h0
                · exact .inl h0
                · obtain ⟨y1, h1, h2⟩ := NB (k - W) (by omega) (nb_down hW0 h0)
                  exact .inr ⟨k - W, y1, h0, by omega, h1, h2⟩)
              clear NB
              have d1 : W ≠ 0 := by omega
              have t1 : Int.tmod (k : Int) W = ((k % W : Nat) : Int) := Int.tmod_eq_emod_of_nonneg (by omega)
              generalize hkw : k % W = kw at *
              rcases LEFT.out with hl0 | ⟨k1, y1, hl0, hk1, ho1, hy1⟩
              · have hd1 : decide ((0 : Int) < (kw : Int)) = false := decide_eq_false (by omega)
                have hn1 : decide (0 < kw) = false := decide_eq_false (by omega)
                rcases DOWN.out with hl1 | ⟨k2, y2, hl1, hk2, ho2, hy2⟩
                · have hd2 : decide ((W : Int) ≤ (k : Int)) = false := decide_eq_false (by omega)
                  have hn2 : decide (W ≤ k) = false := decide_eq_false (by omega)
                  go_quiet (fail)
                  (try go_wp2_with fail)
                  go_meet
                  exact ⟨rfl, Lib.hid (OY.out.drewN _), Lib.hid (below_drewN BY.out _)⟩
                · have hd2 : decide ((W : Int) ≤ (k : Int)) = true := decide_eq_true (by omega)
                  have hn2 : decide (W ≤ k) = true := decide_eq_true (by omega)
                  have hw2 : IntKind.i64.wrap ((k : Int) - (W : Int)) = (k2 : Int) := by rw [show (k : Int) - (W : Int) = (k2 : Int) by omega]; exact IntWalk.i64_in _ (by omega)
                  have hk2l : k2 < L.length := by omega
                  have oc2 := OY.out.cell ho2
                  clear ho2 hk2
                  rcases hy2 with rfl | rfl
                  · go_quiet (fail)
                    (try go_wp2_with fail)
                    go_meet
                    exact ⟨rfl, Lib.hid (OY.out.drewN _), Lib.hid (below_drewN BY.out _)⟩
                  · go_quiet (fail)
                    (try go_wp2_with fail)
                    go_meet
                    exact ⟨rfl, Lib.hid (OY.out.drewN _), Lib.hid (below_drewN BY.out _)⟩
              · have hd1 : decide ((0 : Int) < (kw : Int)) = true := decide_eq_true (by omega)
                have hn1 : decide (0 < kw) = true := decide_eq_true (by omega)
                have hw1 : IntKind.i64.wrap ((k : Int) - 1) = (k1 : Int) := by rw [show (k : Int) - 1 = (k1 : Int) by omega]; exact IntWalk.i64_in _ (by omega)
                have hk1l : k1 < L.length := by omega
                have oc1 := OY.out.cell ho1
                rcases DOWN.out with hl1 | ⟨k2, y2, hl1, hk2, ho2, hy2⟩
                · have hd2 : decide ((W : Int) ≤ (k : Int)) = false := decide_eq_false (by omega)
                  have hn2 : decide (W ≤ k) = false := decide_eq_false (by omega)
                  clear ho1 hk1
                  rcases hy1 with rfl | rfl
                  · go_quiet (fail)
                    (try go_wp2_with fail)
                    go_meet
                    exact ⟨rfl, Lib.hid (OY.out.drewN _), Lib.hid (below_drewN BY.out _)⟩
                  · go_quiet (fail)
                    (try go_wp2_with fail)
                    go_meet
                    exact ⟨rfl, Lib.hid (OY.out.drewN _), Lib.hid (below_drewN BY.out _)⟩
                · have hd2 : decide ((W : Int) ≤ (k : Int)) = true := decide_eq_true (by omega)
                  have hn2 : decide (W ≤ k) = true := decide_eq_true (by omega)
                  have hw2 : IntKind.i64.wrap ((k : Int) - (W : Int)) = (k2 : Int) := by rw [show (k : Int) - (W : Int) = (k2 : Int) by omega]; exact IntWalk.i64_in _ (by omega)
                  have hk2l : k2 < L.length := by omega
                  have oc2 := OY.out.cell ho2
                  clear ho1 hk1 ho2 hk2
                  rcases hy1 with rfl | rfl
                  · rcases hy2 with rfl | rfl
                    · go_quiet (fail)
                      (try go_wp2_with fail)
                      go_meet
                      exact ⟨rfl, Lib.hid (OY.out.drewN _), Lib.hid (below_drewN BY.out _)⟩
                    · go_quiet (fail)
                      (try go_wp2_with fail)
                      go_meet
                      exact ⟨rfl, Lib.hid (OY.out.drewN _), Lib.hid (below_drewN BY.out _)⟩
                  · rcases hy2 with rfl | rfl
                    · go_quiet (fail)
                      (try go_wp2_with fail)
                      go_meet
                      exact ⟨rfl, Lib.hid (OY.out.drewN _), Lib.hid (below_drewN BY.out _)⟩
                    · go_quiet (fail)
                      (try go_wp2_with fail)
                      go_meet
                      exact ⟨rfl, Lib.hid (OY.out.drewN _), Lib.hid (below_drewN BY.out _)⟩
            case rest =>
            as_aux_lemma =>
            rename World => wz
            obtain ⟨rfl, OZ, BZ⟩ := hcut
            clear c0 c1 c2 hxc oc OY BY hO hw
            obtain ⟨⟨c0, c1, c2⟩, _, _, rL, _, _, _⟩ := KG.out _ BZ.out
            obtain ⟨bb', off', x', hA, hbb', hx', hxi', hxc⟩ := rL.at_ hkl
            cases hA
            obtain rfl : a = x' := by
              have h2 := mineB_iff.1 HMI.out
              rw [hx'] at h2; cases h2; rfl
            clear hx' hxi' hbb' rL
            go_wp2_with fail
            have hzw : w.heap.size < wz.heap.size := by have := BIG.out; have := BZ.out.size; omega
            obtain ⟨i0, hi0, hz0, hz1, hz2⟩ := info_parts infoInt'
            have HI := Lib.hid hi0
            have hn : 0 < L.length := by omega
            have HCE : Hid (∀ u, Below wz.heap.size wz u → ∀ (j : Nat) (v : Value), (L.map (Value.int .i64))[j]? = some v → u.cell? ((⟨bb, off, none⟩ : Addr).add j) = some v) := Lib.hid (fun u hu => by
              obtain ⟨_, _, _, rL, _⟩ := KG.out u (BZ.out.trans (hu.mono BZ.out.size))
              obtain ⟨bb', off', e, _, hc⟩ := rL.2.2 hn
              cases e
              exact cells_ints hc)
            have HBD : Hid (Below wz.heap.size wz wz.drew) := Lib.hid (below_drewN (Below.refl _ _) 1)
            have HOC : ((wz.drew.alloc (.cells #[] 3))).ownsRow wz.heap.size 3 1 (.slice (some ⟨wz.heap.size, 0, none⟩) 0 0) 0 [] := own_empty wz.drew 3
            have HOB := HOC.alloc (.cells #[.int .i64 0, .int .i64 0, .slice none 0 0] 24)
            have HOA : (((wz.drew.alloc (.cells #[.int .i64 0, .int .i64 0, .slice none 0 0] 24)).alloc (.cells #[] 3))).ownsRow (wz.heap.size + 1) 3 1 (.slice (some ⟨wz.heap.size + 1, 0, none⟩) 0 0) 0 [] := by
              have h1 := own_empty (wz.drew.alloc (.cells #[.int .i64 0, .int .i64 0, .slice none 0 0] 24)) 3
              have h2 : (wz.drew.alloc (.cells #[.int .i64 0, .int .i64 0, .slice none 0 0] 24)).heap.size = wz.heap.size + 1 := by simp
              rwa [h2] at h1
            have HHB : (((wz.drew.alloc (.cells #[] 3)).alloc (.cells #[.int .i64 0, .int .i64 0, .slice none 0 0] 24))).heap[wz.heap.size + 1]? = some (.cells #[.int .i64 0, .int .i64 0, .slice none 0 0] 24 (0, 0)) := heap_alloc2_new wz.drew (.cells #[] 3) (.cells #[.int .i64 0, .int .i64 0, .slice none 0 0] 24)
            have HHA : (((wz.drew.alloc (.cells #[.int .i64 0, .int .i64 0, .slice none 0 0] 24)).alloc (.cells #[] 3))).heap[wz.heap.size]? = some (.cells #[.int .i64 0, .int .i64 0, .slice none 0 0] 24 (0, 0)) := heap_alloc2_old wz.drew (.cells #[.int .i64 0, .int .i64 0, .slice none 0 0] 24) (.cells #[] 3)
            have KA := Lib.hid (land0 HHA)
            have KB := Lib.hid (land0 HHB)
            have HHA' := Lib.hid HHA
            have HHB' := Lib.hid HHB
            have SBA : Hid (Below wz.heap.size wz ((wz.drew.alloc (.cells #[.int .i64 0, .int .i64 0, .slice none 0 0] 24)).alloc (.cells #[] 3)) ∧ wz.heap.size < (((wz.drew.alloc (.cells #[.int .i64 0, .int .i64 0, .slice none 0 0] 24)).alloc (.cells #[] 3))).heap.size) := Lib.hid ⟨((below_drewN (Below.refl wz.heap.size wz) 1).alloc (Nat.le_refl _) _).alloc (by simp) _, by simp <;> omega⟩
            have SBB : Hid (Below wz.heap.size wz ((wz.drew.alloc (.cells #[] 3)).alloc (.cells #[.int .i64 0, .int .i64 0, .slice none 0 0] 24)) ∧ wz.heap.size + 1 < (((wz.drew.alloc (.cells #[] 3)).alloc (.cells #[.int .i64 0, .int .i64 0, .slice none 0 0] 24))).heap.size) := Lib.hid ⟨((below_drewN (Below.refl wz.heap.size wz) 1).alloc (Nat.le_refl _) _).alloc (by simp) _, by simp <;> omega⟩
            have SBC : Hid (Below wz.heap.size wz (wz.drew.alloc (.cells #[] 3))) := Lib.hid ((below_drewN (Below.refl wz.heap.size wz) 1).alloc (Nat.le_refl _) _)
            have HOC' := Lib.hid HOC
            have HOB' := Lib.hid HOB
            have HOA' := Lib.hid HOA
            clear HHA HHB HOA HOB HOC hxc hi0
            have hS0 : wz.drew.cell? ⟨w.heap.size, 0, none⟩ = some (.int .i64 (W : Int)) ∧ wz.drew.cell? ⟨w.heap.size, 1, none⟩ = some (.int .i64 (H : Int)) ∧ wz.drew.cell? ⟨w.heap.size, 2, none⟩ = some (.slice (some ⟨bb, off, none⟩) L.length cap) := ⟨c0, c1, c2⟩
            go_cut [16] (fun t wx => ∃ gp g cp : Nat, t = .pointer (some ⟨gp, 0, none⟩) ∧ Hid (wx.cell? ⟨gp, 0, none⟩ = some (.int .i64 (W : Int)) ∧ wx.cell? ⟨gp, 1, none⟩ = some (.int .i64 (H : Int)) ∧ wx.cell? ⟨gp, 2, none⟩ = some (.slice (some ⟨g, 0, none⟩) L.length cp)) ∧ Hid (OwnP wx g 3 L) ∧ Hid (wz.heap.size ≤ g ∧ g ≠ gp ∧ gp < wx.heap.size) ∧ Hid (Below wz.heap.size wz wx))
            case first =>
              as_aux_lemma =>
              go_region_held3 (fun w' => w'.cell? ⟨w.heap.size, 0, none⟩ = some (.int .i64 (W : Int)) ∧ w'.cell? ⟨w.heap.size, 1, none⟩ = some (.int .i64 (H : Int)) ∧ w'.cell? ⟨w.heap.size, 2, none⟩ = some (.slice (some ⟨bb, off, none⟩) L.length cap)) (first | assumption | go_keep | (refine ⟨?_, ?_, ?_⟩ <;> (rw [World.cell?_setCell_far _ _ _ _ (by simp; try omega), World.cell?_setCell_far _ _ _ _ (by simp; try omega), World.cell?_setCell_far _ _ _ _ (by simp; try omega)]; assumption)))
                (first | (refine step_append_lies _ (by rfl) _ _ 22 (by rfl) (wz.heap.size + 1) 3 i0 (.int .i64 0) 1 8 Try.underlying22 HI.out hz0 hz1 hz2 rfl (by omega) (.slice (some ⟨wz.heap.size + 1, 0, none⟩) 0 0) 0 [] (by rfl) HOA'.out ⟨bb, off, none⟩ L.length cap (L.map (Value.int .i64)) (by rfl) (by simp) (HCE.out _ ((HBD.out.alloc (by simp <;> omega) _).alloc (by simp <;> omega) _)) (ints_oneCell _ _) (by omega) (by unfold maxLen; omega) (by omega) (by simp <;> omega) _ rfl ?_; intro g cp w8 hown8 hgrow hat hlt8; obtain ⟨s0, s1, s2, s3⟩ := sFacts SBA.out.1 (q := (wz.heap.size + 1)) hgrow (by omega) (by omega) c0 c1 c2; obtain ⟨k0, k1, k2, j0, j1, j2⟩ := kFacts (q := (wz.heap.size + 1)) hgrow SBA.out.2 (by omega) KA.out) | (refine step_append_lies _ (by rfl) _ _ 22 (by rfl) (wz.heap.size) 3 i0 (.int .i64 0) 1 8 Try.underlying22 HI.out hz0 hz1 hz2 rfl (by omega) (.slice (some ⟨wz.heap.size, 0, none⟩) 0 0) 0 [] (by rfl) HOB'.out ⟨bb, off, none⟩ L.length cap (L.map (Value.int .i64)) (by rfl) (by simp) (HCE.out _ ((HBD.out.alloc (by simp <;> omega) _).alloc (by simp <;> omega) _)) (ints_oneCell _ _) (by omega) (by unfold maxLen; omega) (by omega) (by simp <;> omega) _ rfl ?_; intro g cp w8 hown8 hgrow hat hlt8; obtain ⟨s0, s1, s2, s3⟩ := sFacts SBB.out.1 (q := (wz.heap.size)) hgrow (by omega) (by omega) c0 c1 c2; obtain ⟨k0, k1, k2, j0, j1, j2⟩ := kFacts (q := (wz.heap.size)) hgrow SBB.out.2 (by omega) KB.out) | (refine step_append_lies _ (by rfl) _ _ 22 (by rfl) (wz.heap.size) 3 i0 (.int .i64 0) 1 8 Try.underlying22 HI.out hz0 hz1 hz2 rfl (by omega) (.slice (some ⟨wz.heap.size, 0, none⟩) 0 0) 0 [] (by rfl) HOC'.out ⟨bb, off, none⟩ L.length cap (L.map (Value.int .i64)) (by rfl) (by simp) (HCE.out _ (HBD.out.alloc (by simp <;> omega) _)) (ints_oneCell _ _) (by omega) (by unfold maxLen; omega) (by omega) (by simp <;> omega) _ rfl ?_; intro g cp w8 hown8 hgrow hat hlt8; obtain ⟨s0, s1, s2, s3⟩ := sFacts SBC.out (q := (wz.heap.size)) hgrow (by omega) (by omega) c0 c1 c2))
              · have O8 := oFacts hown8 hn
                have hBz : Below wz.heap.size wz (w8.alloc (.cells #[.int .i64 (W : Int), .int .i64 (H : Int), (.slice (some ⟨g, 0, none⟩) L.length cp)] 24)) := (SBC.out.grown hgrow (by have := SBC.out.size; have h1 : (wz.alloc (.cells #[] 3)).drew.heap.size = (wz.drew.alloc (.cells #[] 3)).heap.size := rfl; omega) (fun k hk => by simp [Value.ownBlock] at hk; omega)).alloc (by have := hgrow.size; have := SBC.out.size; have h1 : (wz.alloc (.cells #[] 3)).drew.heap.size = (wz.drew.alloc (.cells #[] 3)).heap.size := rfl; omega) _
                have hP := three_cells (heap_alloc_new w8 (.cells #[.int .i64 (W : Int), .int .i64 (H : Int), (.slice (some ⟨g, 0, none⟩) L.length cp)] 24))
                have hO := O8.1.alloc (.cells #[.int .i64 (W : Int), .int .i64 (H : Int), (.slice (some ⟨g, 0, none⟩) L.length cp)] 24)
                (try go_wp2_with fail)
                go_meet
                exact ⟨w8.heap.size, g, cp, rfl, Lib.hid hP, Lib.hid hO, Lib.hid ⟨O8.2, by have := O8.1.lt; omega, by simp⟩, Lib.hid hBz⟩
              · have O8 := oFacts hown8 hn
                have hsz8 : ((wz.drew.alloc (.cells #[] 3)).alloc (.cells #[.int .i64 0, .int .i64 0, .slice none 0 0] 24)).heap.size ≤ w8.heap.size := hgrow.size
                have hs2 := SBB.out.1.size
                have hs3 := SBB.out.2
                have hBz : Below wz.heap.size wz (((w8.setCell ⟨wz.heap.size + 1, 0, none⟩ (.int .i64 (W : Int))).setCell ⟨wz.heap.size + 1, 1, none⟩ (.int .i64 (H : Int))).setCell ⟨wz.heap.size + 1, 2, none⟩ (.slice (some ⟨g, 0, none⟩) L.length cp)) := (((SBB.out.1.grown hgrow (show wz.heap.size ≤ ((wz.drew.alloc (.cells #[] 3)).alloc (.cells #[.int .i64 0, .int .i64 0, .slice none 0 0] 24)).heap.size by omega) (fun k hk => by simp [Value.ownBlock] at hk; omega)).setCell (p := ⟨wz.heap.size + 1, 0, none⟩) (by show wz.heap.size ≤ wz.heap.size + 1; omega) (.int .i64 (W : Int))).setCell (p := ⟨wz.heap.size + 1, 1, none⟩) (by show wz.heap.size ≤ wz.heap.size + 1; omega) (.int .i64 (H : Int))).setCell (p := ⟨wz.heap.size + 1, 2, none⟩) (by show wz.heap.size ≤ wz.heap.size + 1; omega) (.slice (some ⟨g, 0, none⟩) L.length cp)
                have hP : (((w8.setCell ⟨wz.heap.size + 1, 0, none⟩ (.int .i64 (W : Int))).setCell ⟨wz.heap.size + 1, 1, none⟩ (.int .i64 (H : Int))).setCell ⟨wz.heap.size + 1, 2, none⟩ (.slice (some ⟨g, 0, none⟩) L.length cp)).heap[wz.heap.size + 1]? = some (.cells #[.int .i64 (W : Int), .int .i64 (H : Int), (.slice (some ⟨g, 0, none⟩) L.length cp)] 24 (0, 0)) := three_set ((hgrow.block (wz.heap.size + 1) (show wz.heap.size + 1 < ((wz.drew.alloc (.cells #[] 3)).alloc (.cells #[.int .i64 0, .int .i64 0, .slice none 0 0] 24)).heap.size by omega) (by simp [Value.ownBlock])).trans HHB'.out) _ _ _
                have hgp : g ≠ wz.heap.size + 1 := by
                  rcases hat with h1 | h1
                  · have : wz.heap.size = g := by simpa [Value.ownBlock] using h1
                    omega
                  · have h2 : g = ((wz.drew.alloc (.cells #[] 3)).alloc (.cells #[.int .i64 0, .int .i64 0, .slice none 0 0] 24)).heap.size := h1
                    omega
                have hO := ((O8.1.far (p := ⟨wz.heap.size + 1, 0, none⟩) hgp (.int .i64 (W : Int))).far (p := ⟨wz.heap.size + 1, 1, none⟩) hgp (.int .i64 (H : Int))).far (p := ⟨wz.heap.size + 1, 2, none⟩) hgp (.slice (some ⟨g, 0, none⟩) L.length cp)
                have hgb : wz.heap.size ≤ g := by have := O8.2; omega
                (try go_wp2_with fail)
                go_meet
                exact ⟨wz.heap.size + 1, g, cp, rfl, Lib.hid (three_cells hP), Lib.hid hO, Lib.hid ⟨hgb, hgp, by simp [World.setCell]; omega⟩, Lib.hid hBz⟩
              · have O8 := oFacts hown8 hn
                have hsz8 : ((wz.drew.alloc (.cells #[.int .i64 0, .int .i64 0, .slice none 0 0] 24)).alloc (.cells #[] 3)).heap.size ≤ w8.heap.size := hgrow.size
                have hs2 := SBA.out.1.size
                have hs3 := SBA.out.2
                have hBz : Below wz.heap.size wz (((w8.setCell ⟨wz.heap.size, 0, none⟩ (.int .i64 (W : Int))).setCell ⟨wz.heap.size, 1, none⟩ (.int .i64 (H : Int))).setCell ⟨wz.heap.size, 2, none⟩ (.slice (some ⟨g, 0, none⟩) L.length cp)) := (((SBA.out.1.grown hgrow (show wz.heap.size ≤ ((wz.drew.alloc (.cells #[.int .i64 0, .int .i64 0, .slice none 0 0] 24)).alloc (.cells #[] 3)).heap.size by omega) (fun k hk => by simp [Value.ownBlock] at hk; omega)).setCell (p := ⟨wz.heap.size, 0, none⟩) (by show wz.heap.size ≤ wz.heap.size; omega) (.int .i64 (W : Int))).setCell (p := ⟨wz.heap.size, 1, none⟩) (by show wz.heap.size ≤ wz.heap.size; omega) (.int .i64 (H : Int))).setCell (p := ⟨wz.heap.size, 2, none⟩) (by show wz.heap.size ≤ wz.heap.size; omega) (.slice (some ⟨g, 0, none⟩) L.length cp)
                have hP : (((w8.setCell ⟨wz.heap.size, 0, none⟩ (.int .i64 (W : Int))).setCell ⟨wz.heap.size, 1, none⟩ (.int .i64 (H : Int))).setCell ⟨wz.heap.size, 2, none⟩ (.slice (some ⟨g, 0, none⟩) L.length cp)).heap[wz.heap.size]? = some (.cells #[.int .i64 (W : Int), .int .i64 (H : Int), (.slice (some ⟨g, 0, none⟩) L.length cp)] 24 (0, 0)) := three_set ((hgrow.block (wz.heap.size) (show wz.heap.size < ((wz.drew.alloc (.cells #[.int .i64 0, .int .i64 0, .slice none 0 0] 24)).alloc (.cells #[] 3)).heap.size by omega) (by simp [Value.ownBlock])).trans HHA'.out) _ _ _
                have hgp : g ≠ wz.heap.size := by
                  rcases hat with h1 | h1
                  · have : wz.heap.size + 1 = g := by simpa [Value.ownBlock] using h1
                    omega
                  · have h2 : g = ((wz.drew.alloc (.cells #[.int .i64 0, .int .i64 0, .slice none 0 0] 24)).alloc (.cells #[] 3)).heap.size := h1
                    omega
                have hO := ((O8.1.far (p := ⟨wz.heap.size, 0, none⟩) hgp (.int .i64 (W : Int))).far (p := ⟨wz.heap.size, 1, none⟩) hgp (.int .i64 (H : Int))).far (p := ⟨wz.heap.size, 2, none⟩) hgp (.slice (some ⟨g, 0, none⟩) L.length cp)
                have hgb : wz.heap.size ≤ g := by have := O8.2; omega
                (try go_wp2_with fail)
                go_meet
                exact ⟨wz.heap.size, g, cp, rfl, Lib.hid (three_cells hP), Lib.hid hO, Lib.hid ⟨hgb, hgp, by simp [World.setCell]; omega⟩, Lib.hid hBz⟩
            case rest =>
            as_aux_lemma =>
            rename World => wg
            obtain ⟨gp, g, cp, rfl, C3, OG, GN, BG⟩ := hcut
            have OZg : Hid (Own wg w5.heap.size 3 O) := Lib.hid (OZ.out.below BG.out OZ.out.lt)
            have BZg := Lib.hid (BZ.out.trans (BG.out.mono BZ.out.size))
            have g5 : w5.heap.size ≤ g := by have := GN.out.1; have := BZ.out.size; omega
            have g6 : w5.heap.size ≠ g := by have := GN.out.1; have := OZ.out.lt; omega
            obtain ⟨n0, n1, n2⟩ := C3.out
            have oc := OG.out.cell (mineB_iff.1 HMI.out)
            have ofz := OG.out.frozen k
            have OX := Lib.hid (OG.out.store k (-1))
            have BX := Lib.hid (BZg.out.setCell (p := ⟨g, k, none⟩) g5 (.int .i64 (-1)))
            have OOX := Lib.hid (OZg.out.far (p := ⟨g, k, none⟩) g6 (.int .i64 (-1)))
            have m0 := (oth_cell (w := wg) (p := ⟨g, k, none⟩) (q := ⟨gp, 0, none⟩) (.int .i64 (-1)) GN.out.2.1).trans n0
            have m1 := (oth_cell (w := wg) (p := ⟨g, k, none⟩) (q := ⟨gp, 1, none⟩) (.int .i64 (-1)) GN.out.2.1).trans n1
            have m2 := (oth_cell (w := wg) (p := ⟨g, k, none⟩) (q := ⟨gp, 2, none⟩) (.int .i64 (-1)) GN.out.2.1).trans n2
            obtain ⟨wx, hwx⟩ : ∃ wx, wg.setCell ⟨g, k, none⟩ (.int .i64 (-1)) = wx := ⟨_, rfl⟩
            rw [hwx] at OX BX OOX m0 m1 m2
            have v2 : VL W H (L.set k (-1)) := HV.out.set k (by omega)
            have RX : Hid (Rd wx wx.heap.size (some ⟨g, 0, none⟩) (L.set k (-1))) := Lib.hid (OX.out.rd (fun z hz => by have := v2.bd z hz; unfold I64; omega) (by rw [List.length_set]; exact hlen) OX.out.lt)
            have hlk2 : lkd W H (L.set k (-1)) a = 0 := lkd_ok (lck_of v2) (by omega)
            have hpf2 : prtF W H (L.set k (-1)) a = partsK W (L.set k (-1)) a := by rw [prtF, if_pos hlk2, Int.toNat_natCast]
            have CP := lPartsE (cap := cp) RX.out (Nat.le_refl _) W H a
            rw [hpf2, hlk2, List.length_set] at CP
            have HCP := Lib.hid CP
            clear CP hlk2 hpf2 v2 RX OX OG C3 OZ BZ OZg BZg BG GN c0 c1 c2 g5 g6 hn HCE HBD HOA' HOB' HOC' SBA SBB SBC KA KB HHA' HHB' hz0 hz1 hz2 HI hS0
            go_wp2_with fail
            refine HCP.out.mono ?_
            rintro e wp ⟨A9, k9, rfl, _, hb⟩
            have BP := Lib.hid (BX.out.trans (hb.mono BX.out.size))
            have OP : Hid (Own wp w5.heap.size 3 O) := Lib.hid (OOX.out.below hb OOX.out.lt)
            clear hb HCP m0 m1 m2 n0 n1 n2 oc ofz hwx BX OOX
            have hjat := JAT.out k hkl HMI.out
            have hjnx := JNX.out k hkl
            have hless := LESS.out k hkl
            generalize hNN : (partsK W (L.set k (-1)) a).length = N at *
            clear hNN
            rw [← hm.out] at hjat hjnx
            obtain ⟨hjle, hjiff⟩ := hjat
            obtain ⟨_, _, rJ, _, _, _, _⟩ := KG.out _ BP.out
            obtain ⟨gm, hgm⟩ : ∃ gm : Int, gm = (G.length : Int) - 1 := ⟨_, rfl⟩
            have hgw : IntKind.i64.wrap ((G.length : Int) - 1) = gm := by rw [← hgm]; exact IntWalk.i64_in _ (by omega)
            have hgd : decide ((N : Int) < gm) = false := decide_eq_false (by omega)
            clear hgm hless
            by_cases hj : G.length < N
            · have hd1 : decide ((G.length : Int) < (N : Int)) = true := decide_eq_true (by omega)
              have hn1 : decide (G.length < N) = true := decide_eq_true hj
              have hjm := hjiff.2 hj
              have hmJ : m < J.length := (List.getElem?_eq_some_iff.1 hjm).1
              obtain ⟨b7, o7, z, hA, hb7, hz, hzi, hzc⟩ := rJ.at_ hmJ
              subst hA
              rw [hjm] at hz
              cases hz
              have hm3 : Hid (m + 1 = (jntTo W L a (k + 1)).length) := Lib.hid (by rw [hjnx, if_pos ⟨HMI.out, hj⟩])
              clear hjiff hjnx hjm hzi hb7 rJ hm hjle
              go_wp2
              go_roundw
              case rel => exact ⟨m + 1, k + 1, by omega, by go_num, by go_num, hm3, OP, BP⟩
              case measure => simp [intOf]; omega
            · have hd1 : decide ((G.length : Int) < (N : Int)) = false := decide_eq_false (by omega)
              have hn1 : decide (G.length < N) = false := decide_eq_false hj
              have hm3 : Hid (m = (jntTo W L a (k + 1)).length) := Lib.hid (by rw [hjnx, if_neg (fun h => hj h.2)]; rfl)
              by_cases hmJ : m < J.length
              · obtain ⟨b7, o7, z, hA, hb7, hz, hzi, hzc⟩ := rJ.at_ hmJ
                subst hA
                have hzk : (z == (k : Int)) = false := by
                  rw [beq_eq_false_iff_ne]
                  rintro rfl
                  exact hj (hjiff.1 hz)
                clear hjiff hjnx hz hzi hb7 rJ hm hjle
                go_wp2
                go_roundw
                case rel => exact ⟨m, k + 1, by omega, rfl, by go_num, hm3, OP, BP⟩
                case measure => simp [intOf]; omega
              · clear hjiff hjnx rJ hm hjle
                go_wp2
                go_roundw
                case rel => exact ⟨m, k + 1, by omega, rfl, by go_num, hm3, OP, BP⟩
                case measure => simp [intOf]; omega
          · as_aux_lemma =>
            have hm0 : mineB L a k = false := by
              cases h : mineB L a k
              · rfl
              · have := mineB_iff.1 h; rw [hx] at this; cases this; exact absurd rfl hxa
            have hy := F2.out k hkl hm0
            have oc := hO.out.cell hy
            have hb1 : (x == a) = false := by simpa using hxa
            have hb2 : (x != a) = true := by simpa using hxa
            have hm2 : Hid (m = (jntTo W L a (k + 1)).length) := Lib.hid (by rw [JNX.out k hkl, if_neg (by rw [hm0]; simp)]; exact hm.out)
            have HX := Lib.hid hx
            clear hx hxi hy hm0 rL
            go_wp2_with fail
            go_quiet (fail)
            clear oc c0 c1 c2 hxc
            generalize hwy : wr.drewN _ = wy
            have BY := Lib.hid (hw.out.trans ((hwy ▸ below_drewN (Below.refl wr.heap.size wr) _ : Below wr.heap.size wr wy).mono hw.out.size))
            have OY : Hid (Own wy w5.heap.size 3 O) := Lib.hid (by rw [← hwy]; exact hO.out.drewN _)
            clear hwy
            obtain ⟨⟨c0, c1, c2⟩, _, _, rL, _, _, _⟩ := KG.out _ BY.out
            obtain ⟨bb', off', x', hA, hbb', hx', hxi', hxc⟩ := rL.at_ hkl
            cases hA
            rw [HX.out] at hx'
            cases hx'
            clear hxi' hbb' rL
            go_wp2_with fail
            go_quiet (fail)
            clear c0 c1 c2 hxc
            generalize hwz : wy.drewN _ = wz
            have BZ := Lib.hid (BY.out.trans ((hwz ▸ below_drewN (Below.refl wy.heap.size wy) _ : Below wy.heap.size wy wz).mono BY.out.size))
            have OZ : Hid (Own wz w5.heap.size 3 O) := Lib.hid (by rw [← hwz]; exact OY.out.drewN _)
            clear hwz BY OY
            obtain ⟨⟨c0, c1, c2⟩, _, _, rL, _, _, _⟩ := KG.out _ BZ.out
            obtain ⟨bb', off', x'', hA, hbb', hx', hxi', hxc⟩ := rL.at_ hkl
            cases hA
            rw [HX.out] at hx'
            cases hx'
            clear hxi' hbb' rL
            go_wp2
            go_roundw
            case rel => exact ⟨m, k + 1, by omega, rfl, by go_num, hm2, OZ, BZ⟩
            case measure => simp [intOf]; omega
        · have hkL : k = L.length := by omega
          have hmJ : m = J.length := by rw [hm.out, hkL]; exact JLN.out
          have T9 := Lib.hid (KG.out _ hw.out).2.2.2.2.2.2
          clear rL hm hkL
          subst hmJ
          go_wp2
          go_ret
          exact ⟨rfl, T9.out⟩
end Go.Proofs.Ytdkcpnmaglkmnaa

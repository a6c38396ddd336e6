import Derived.Test.YtjaobcmladkjcaaS34e
/-! The walk of the statement DissolveSafe. -/
namespace Go.Proofs.Ytjaobcmladkjcaa
open Go.RowKit Go.Deep
set_option linter.unusedVariables false

set_option maxRecDepth 100000 in
set_option maxHeartbeats 2000000 in
theorem safes {w : World} {A A' : Option Addr} {L O : List Int} {cap cap' : Nat} (h : Rd w w.heap.size A L) (h' : Rd w w.heap.size A' O) (r : Int) (_h1 : I64 r) :
    Calls Try.prog 4 #[.slice A L.length cap, .slice A' O.length cap', .int .i64 r] w fun e w' => e = .returned (.bool true) ∧ Below w.heap.size w w' := by
  have l1 := h.len
  have l2 := h'.len
  have R : ∀ u, Below w.heap.size w u → w.heap.size ≤ u.heap.size ∧ Rd u w.heap.size A L ∧ Rd u w.heap.size A' O := fun u hu => ⟨hu.size, h.below hu (Nat.le_refl _), h'.below hu (Nat.le_refl _)⟩
  have HR := Lib.hid R
  clear R h h' _h1
  by_cases hl : lok L O = 0
  · by_cases ho : r < 0 ∨ 1 < r
    · have HL := Lib.hid hl
      clear hl
      rcases ho with ho | ho
      all_goals
        go_enter Try.func4, Try.ntmps4
        go_wp2_with fail
        refine (alive w).mono ?_
        rintro e w1 ⟨rfl, hb⟩
        have H1 := HR.out w1 hb
        go_wp2_with fail
        refine (rOffers H1.2.1 H1.2.2).mono ?_
        rw [HL.out]
        rintro e w2 ⟨rfl, rfl⟩
        clear H1
        go_wp2
        go_ret
        exact ⟨rfl, hb⟩
    · have r0 : 0 ≤ r := by omega
      have r1 : r ≤ 1 := by omega
      have hr : r = 0 ∨ r = 1 := by omega
      have hV := lok_ok hl
      have he := sE_ok hl hr
      obtain ⟨b, v, g, s, eb, eg, hs⟩ := hV.sale
      have hbl := hs.best.lt_len
      have hlen := hV.len
      have hten := hV.v.ten
      have hS := hV.v.sum_pos
      have hS' := hV.v.sum
      have hps := pyL_small he
      have hsafe : ∀ j, j < L.length → SafeAt L O (pyL L O r) b r j := fun j hj => safe_at hl hr eb hj
      have hzero : sumL (pyL L O r) = 0 := by rw [pyL_ok he eb]; exact sum_payL (by omega)
      have HL := Lib.hid hl
      have HE := Lib.hid he
      have EB := Lib.hid eb
      have HV := Lib.hid hV.v
      have HSF := Lib.hid hsafe
      have HZ := Lib.hid hzero
      have HPL := Lib.hid hps.1
      have HLEN := Lib.hid hlen
      clear hl hV eb eg hs hsafe hzero ho hlen hps he hr
      have CG : Hid (∀ (u : World) (k o : Int), Below w.heap.size w u → Calls Try.prog 21 #[.slice A L.length cap, .slice A' O.length cap', .int .i64 r, .int .i64 k, .int .i64 o] u fun e u' => e = .returned (.tuple #[.int .i64 (gV L O r k o), .int .i64 (gE L O r k o)]) ∧ Below u.heap.size u u') :=
        Lib.hid fun u k o hu => dGain (HR.out u hu).2.1 (HR.out u hu).1 (HR.out u hu).2.2 (HR.out u hu).1 r k o
      have CS : Hid (∀ u, Below w.heap.size w u → Calls Try.prog 22 #[.slice A L.length cap] u fun e u' => e = .returned (.int .i64 (sumL L)) ∧ u = u') :=
        Lib.hid fun u hu => rSum (cap := cap) (HR.out u hu).2.1 HV.out
      go_enter Try.func4, Try.ntmps4
      go_wp2_with fail
      refine (alive w).mono ?_
      rintro e w1 ⟨rfl, hb⟩
      have H1 := HR.out w1 hb
      go_wp2_with fail
      refine (rOffers H1.2.1 H1.2.2).mono ?_
      rw [HL.out]
      rintro e w2 ⟨rfl, rfl⟩
      go_wp2_with fail
      refine (dBuyer H1.2.1 H1.2.2 H1.1).mono ?_
      rw [HL.out, byE_ok' HL.out, EB.out]
      rintro e w2 ⟨rfl, hb2⟩
      replace hb := hb.trans (hb2.mono hb.size)
      clear H1 hb2
      have H1 := HR.out w2 hb
      go_wp2_with fail
      refine (dPay H1.2.1 H1.1 H1.2.2 H1.1 r).mono ?_
      rw [HE.out]
      rintro e w3 ⟨AP, cp, rfl, hrp, hb2⟩
      replace hb := hb.trans (hb2.mono hb.size)
      clear H1 hb2
      have HRP := Lib.hid hrp
      have HB := Lib.hid hb
      have hpl : ((pyL L O r).length : Int) = L.length := by rw [HPL.out]
      have hne : (((pyL L O r).length : Int) != (L.length : Int)) = false := by rw [hpl]; simp
      clear hrp hb hpl
      generalize hP : pyL L O r = P at *
      have HPP := Lib.hid hP
      clear hP
      have hpn : P.length = L.length := HPL.out
      have HPN := Lib.hid hpn
      clear hpn
      go_wp2
      clear hne
      go_loopw [12, 13] (fun f i wr => ∃ (k : Nat) (m : Int), k ≤ P.length ∧ i = .int .i64 k ∧ f = .int .i64 m ∧ -10000000 * (k : Int) ≤ m ∧ m ≤ 10000000 * (k : Int) ∧ Hid (Below w3.heap.size w3 wr) ∧ Hid (m + sumL (P.drop k) = 0)) (fun _ i _ => P.length - (intOf i).toNat)
      case atStart => exact ⟨0, 0, by omega, rfl, rfl, by omega, by omega, Lib.hid (Below.refl _ _), Lib.hid (by rw [List.drop_zero, HZ.out]; rfl)⟩
      case round =>
        obtain ⟨k, m, hk, rfl, rfl, hm0, hm1, hw, hf⟩ := hrel
        have hPt : P.length ≤ 10 := by rw [HPN.out]; exact hten
        by_cases hlt : k < P.length
        · have HBW := Lib.hid (HB.out.trans (hw.out.mono HB.out.size))
          obtain ⟨y, o, hy, ho, hy0, hy1, ho0, ho1, hjb, hjn, hgt, hge⟩ := (HSF.out k (by rw [← HPN.out]; exact hlt)).pay
          have hkO : k < O.length := (List.getElem?_eq_some_iff.1 ho).1
          obtain ⟨b1, o1, rfl, hb1, hcells⟩ := (HRP.out.below hw.out (Nat.le_refl _)).2.2 (by omega)
          have c1 := hcells k y hy
          obtain ⟨b2, o2, rfl, hb2, hcells2⟩ := (HR.out wr HBW.out).2.2.2.2 (by omega)
          have c2 := hcells2 k o ho
          have hnext : Hid (m + y + sumL (P.drop (k + 1)) = 0) := Lib.hid (by have := hf.out; rw [sumL_drop hy] at this; omega)
          have C := CG.out wr k o HBW.out
          rw [hge] at C
          have HY := Lib.hid hy
          have HO := Lib.hid ho
          have HGE := Lib.hid hge
          clear hcells hcells2 hy ho hge
          generalize gV L O r k o = gv at *
          have hnge : ¬ gv ≤ -sumL L := by omega
          by_cases hkb : k = b
          · have hj := hjb hkb
            have hj1 := hj.1
            have hj2 := hj.2
            have d1 : ((k : Int) == b) = true := by simp; omega
            have d1' : (k == b) = true := by simp; omega
            clear hjb hjn hj hkb
            by_cases hyn : y < 0
            · have d2 : decide (y < 0) = true := by simpa using hyn
              go_wp2_with (first | (go_at_call 21; refine C.mono ?_; rintro e w5 ⟨rfl, hb5⟩; have HB5 := Lib.hid (HBW.out.trans (hb5.mono HBW.out.size)); have HW5 := Lib.hid (hw.out.trans (hb5.mono hw.out.size)); have c3 := (bcell (hb5.mono hw.out.size)).1 b1 (o1 + k) hb1; rw [c1] at c3; clear hb5) | (go_at_call 22; refine (CS.out _ (by assumption)).mono ?_; rintro e w6 ⟨rfl, rfl⟩))
              go_roundw
              case rel => exact ⟨k + 1, m + y, by omega, by go_num, rfl, by omega, by omega, HW5, hnext⟩
              case measure => simp [intOf]; omega
            · have d2 : decide (y < 0) = false := by simpa using hyn
              have hy00 : y = 0 := by omega
              have d3 : (y != 0) = false := by rw [hy00]; decide
              have HY0 := Lib.hid hy00
              clear hy00
              go_wp2_with (first | (go_at_call 21; refine C.mono ?_; rintro e w5 ⟨rfl, hb5⟩; have HB5 := Lib.hid (HBW.out.trans (hb5.mono HBW.out.size)); have HW5 := Lib.hid (hw.out.trans (hb5.mono hw.out.size)); have c3 := (bcell (hb5.mono hw.out.size)).1 b1 (o1 + k) hb1; rw [c1] at c3; clear hb5) | (go_at_call 22; refine (CS.out _ (by assumption)).mono ?_; rintro e w6 ⟨rfl, rfl⟩))
              go_roundw
              case rel => exact ⟨k + 1, m + y, by omega, by go_num, rfl, by omega, by omega, HW5, hnext⟩
              case measure => simp [intOf]; omega
          · have hyn := hjn hkb
            have d1 : ((k : Int) == b) = false := by simp; omega
            have d1' : (k == b) = false := by simp; omega
            have d2 : decide (y < 0) = false := by simp; omega
            clear hjb hjn hkb
            go_wp2_with (first | (go_at_call 21; refine C.mono ?_; rintro e w5 ⟨rfl, hb5⟩; have HB5 := Lib.hid (HBW.out.trans (hb5.mono HBW.out.size)); have HW5 := Lib.hid (hw.out.trans (hb5.mono hw.out.size)); have c3 := (bcell (hb5.mono hw.out.size)).1 b1 (o1 + k) hb1; rw [c1] at c3; clear hb5) | (go_at_call 22; refine (CS.out _ (by assumption)).mono ?_; rintro e w6 ⟨rfl, rfl⟩))
            go_roundw
            case rel => exact ⟨k + 1, m + y, by omega, by go_num, rfl, by omega, by omega, HW5, hnext⟩
            case measure => simp [intOf]; omega
        · have hz : m = 0 := by have := hf.out; rw [drop_end (by omega)] at this; simpa [sumL] using this
          subst hz
          go_wp2
          go_ret
          exact ⟨rfl, HB.out.trans (hw.out.mono HB.out.size)⟩
  · have hbn : (lok L O != 0) = true := by simpa using hl
    clear hl
    go_enter Try.func4, Try.ntmps4
    go_wp2_with fail
    refine (alive w).mono ?_
    rintro e w1 ⟨rfl, hb⟩
    have H1 := HR.out w1 hb
    go_wp2_with fail
    refine (rOffers H1.2.1 H1.2.2).mono ?_
    rintro e w2 ⟨rfl, rfl⟩
    clear H1
    generalize lok L O = c at *
    go_wp2
    go_ret
    exact ⟨rfl, hb⟩
end Go.Proofs.Ytjaobcmladkjcaa

import Derived.Test.YtjaobcmladkjcaaS34d
import Derived.Test.YtjaobcmladkjcaaBase2
/-! The walk of the statement DissolveTrue. -/
namespace Go.Proofs.Ytjaobcmladkjcaa
open Go.RowKit Go.Deep
set_option linter.unusedVariables false

set_option maxRecDepth 100000 in
set_option maxHeartbeats 2000000 in
theorem trues {w : World} {A A' : Option Addr} {L O : List Int} {cap cap' : Nat} (h : Rd w w.heap.size A L) (h' : Rd w w.heap.size A' O) (o : Int) (_h1 : I64 o) :
    Calls Try.prog 5 #[.slice A L.length cap, .slice A' O.length cap', .int .i64 o] w fun e w' => e = .returned (.bool true) ∧ Below w.heap.size w w' := by
  have l1 := h.len
  have l2 := h'.len
  have R : ∀ u, Below w.heap.size w u → w.heap.size ≤ u.heap.size ∧ Rd u w.heap.size A L ∧ Rd u w.heap.size A' O := fun u hu => ⟨hu.size, h.below hu (Nat.le_refl _), h'.below hu (Nat.le_refl _)⟩
  have HR := Lib.hid R
  clear R h h' _h1
  by_cases hl : lok L O = 0
  · by_cases ho : o < 0 ∨ 1000000 < o
    · have HL := Lib.hid hl
      clear hl
      rcases ho with ho | ho
      all_goals
        go_enter Try.func5, Try.ntmps5
        go_wp2_with fail
        refine (alive w).mono ?_
        rintro e w1 ⟨rfl, hb⟩
        have H1 := HR.out w1 hb
        go_wp2_with fail
        refine (rOffers H1.2.1 H1.2.2).mono ?_
        rw [HL.out]
        rintro e w2 ⟨rfl, rfl⟩
        clear H1
        go_wp2
        go_ret
        exact ⟨rfl, hb⟩
    · have o0 : 0 ≤ o := by omega
      have o1 : o ≤ 1000000 := by omega
      have hV := lok_ok hl
      obtain ⟨b, v, g, s, eb, eg, hs⟩ := hV.sale
      have hT := truth hl eb hs.best.val o0 o1
      have hbl := hs.best.lt_len
      have hvb := hV.bd v (mem_of hs.best.val)
      have hlen := hV.len
      have hten := hV.v.ten
      have hbd := hV.bd
      have HL := Lib.hid hl
      have HBV := Lib.hid hs.best.val
      have EB := Lib.hid eb
      have HT := Lib.hid hT
      have HBD := Lib.hid hbd
      have HO2 : Hid (O.length ≤ 10) := Lib.hid (by omega)
      have HLEN := Lib.hid hlen
      clear hl hV eb eg hs hT hbd ho hlen hten
      obtain ⟨i0, hi, hz0, hz1, hz2⟩ := info_parts infoInt
      have HI := Lib.hid hi
      clear hi
      go_enter Try.func5, Try.ntmps5
      go_wp2_with fail
      refine (alive w).mono ?_
      rintro e w1 ⟨rfl, hb⟩
      have H1 := HR.out w1 hb
      go_wp2_with fail
      refine (rOffers H1.2.1 H1.2.2).mono ?_
      rw [HL.out]
      rintro e w2 ⟨rfl, rfl⟩
      go_wp2_with fail
      refine (dBuyer H1.2.1 H1.2.2 H1.1).mono ?_
      rw [HL.out, byE_ok' HL.out, EB.out]
      rintro e w2 ⟨rfl, hb2⟩
      replace hb := hb.trans (hb2.mono hb.size)
      clear H1 hb2
      obtain ⟨bb, off, rfl, hbbl, hcells⟩ := (HR.out w2 hb).2.2.2.2 (by omega)
      have hcb := hcells b v HBV.out
      clear hcells
      have HB2 := Lib.hid hb
      clear hb
      go_wp2_with fail
      have H1 := HR.out w2 HB2.out
      refine (dGain H1.2.1 H1.1 H1.2.2 H1.1 0 b v).mono ?_
      rw [HT.out.1]
      rintro e w3 ⟨rfl, hb2⟩
      have HB3 := Lib.hid (HB2.out.trans (hb2.mono HB2.out.size))
      clear H1 hb2 hcb
      have H3 := Lib.hid (HR.out w3 HB3.out)
      have hown0 := Lib.hid (own_empty w3 3)
      have hal := Below.alloc (B := w3.heap.size) (Below.refl _ w3) (Nat.le_refl _) (.cells #[] 3)
      have hsz : (w3.alloc (.cells #[] 3)).heap.size = w3.heap.size + 1 := by simp
      obtain ⟨bb', off', e, hbbl', hcells⟩ := (H3.out.2.2.below hal H3.out.1).2.2 (by omega)
      cases e
      have HCE := Lib.hid (cells_ints hcells)
      have HAL := Lib.hid hal
      have HSZ := Lib.hid hsz
      clear hcells hal hsz
      generalize hw4 : w3.alloc (.cells #[] 3) = w4 at *
      have HW4 := Lib.hid hw4
      clear hw4
      have hx4 : w3.alloc (.cells #[] 3) = w4 := HW4.out
      go_wp2_with (at_builtin; refine wpList_append_own _ rfl _ _ 22 rfl w3.heap.size 3 i0 (.int .i64 0) 1 8 Try.underlying22 HI.out hz0 hz1 hz2 rfl (by decide) _ 0 [] rfl hown0.out ⟨bb, off, none⟩ O.length cap' (O.map (Value.int .i64)) rfl (by simp) HCE.out (ints_oneCell _ _) (by unfold maxLen; omega) (by omega) (by rw [HSZ.out]; omega) ?_)
      intro v' w5 hown5 hgrow _
      have hb5 : Below w3.heap.size w3 w5 := HAL.out.grown hgrow (by rw [HSZ.out]; omega) (by intro k hk; simp [Value.ownBlock] at hk; omega)
      obtain ⟨gg, c5, hv5, hgg, hP⟩ := ownP_of_row hown5 (by omega)
      rw [hv5]
      have hc5 := hP.cell HBV.out
      have hf5 := hP.frozen b
      have hst := hP.store b o
      have hw6 : Below w3.heap.size w3 (w5.setCell ⟨gg, b, none⟩ (.int .i64 o)) := hb5.setCell (p := ⟨gg, b, none⟩) hgg (.int .i64 o)
      have HST := Lib.hid hst
      have HW6 := Lib.hid hw6
      clear hown5 hgrow hP hst hw6 hx4 hv5 HW4 hown0 HAL HCE HSZ
      have HB6 := Lib.hid (HB3.out.trans (HW6.out.mono HB3.out.size))
      have H6 := Lib.hid (HR.out _ HB6.out)
      obtain ⟨bb', off', e, _, hcells⟩ := H6.out.2.2.2.2 (by omega)
      cases e
      have hc6 := hcells b v HBV.out
      clear hcells
      go_wp2_with fail
      have hlo : ∀ x ∈ O.set b o, I64 x := by
        intro x hx
        rcases List.mem_or_eq_of_mem_set hx with hx | rfl
        · have := HBD.out x hx; unfold I64; omega
        · unfold I64; omega
      have hlr := HST.out.rd hlo (by simp; omega) HST.out.lt
      have C := dGain (cap := cap) (cap' := c5) H6.out.2.1 H6.out.1 hlr (Nat.le_refl _) 0 b v
      rw [HT.out.2.1, List.length_set] at C
      refine C.mono ?_
      rintro e w7 ⟨rfl, hb7⟩
      have HB7 := Lib.hid (HB6.out.trans (hb7.mono HB6.out.size))
      have hle := HT.out.2.2
      clear C hlr hlo hc6 hc5 hf5 hb5 hb7
      generalize gV L (O.set b o) 0 b v = gl at *
      generalize gV L O 0 b v = gt at *
      go_wp2
      go_ret
      exact ⟨by first | rfl | simp [hle], HB7.out⟩
  · have hbn : (lok L O != 0) = true := by simpa using hl
    clear hl
    go_enter Try.func5, Try.ntmps5
    go_wp2_with fail
    refine (alive w).mono ?_
    rintro e w1 ⟨rfl, hb⟩
    have H1 := HR.out w1 hb
    go_wp2_with fail
    refine (rOffers H1.2.1 H1.2.2).mono ?_
    rintro e w2 ⟨rfl, rfl⟩
    clear H1
    generalize lok L O = c at *
    go_wp2
    go_ret
    exact ⟨rfl, hb⟩
end Go.Proofs.Ytjaobcmladkjcaa

import Derived.Test.YtjgobpejifhphaaW35h
/-! Walks of chapter 35: looked.
-/
namespace Go.Proofs.Ytjgobpejifhphaa
open Go.RowKit Go.Deep
set_option linter.unusedVariables false
set_option maxRecDepth 100000

theorem lkd35_chk {O V : List Int} {R : List (List Int)} {a : Int} (h : chk35 O R ≠ 0) : lkd35 O R a V = chk35 O R := by rw [lkd35, if_pos h]
theorem lkd35_ag {O V : List Int} {R : List (List Int)} {a : Int} (h : chk35 O R = 0) (h1 : a < 0 ∨ (R.length : Int) ≤ a) : lkd35 O R a V = 2 := by rw [lkd35, if_neg (by omega), if_pos h1]
theorem lkd35_val {O V : List Int} {R : List (List Int)} {a : Int} (h : chk35 O R = 0) (h1 : ¬ (a < 0 ∨ (R.length : Int) ≤ a)) (h2 : val35 V ≠ 0) : lkd35 O R a V = val35 V := by rw [lkd35, if_neg (by omega), if_neg h1, if_pos h2]
theorem lkd35_len {O V : List Int} {R : List (List Int)} {a : Int} (h : chk35 O R = 0) (h1 : ¬ (a < 0 ∨ (R.length : Int) ≤ a)) (h2 : val35 V = 0) : lkd35 O R a V = if V.length ≠ O.length then 8 else 0 := by rw [lkd35, if_neg (by omega), if_neg h1, if_neg (by omega)]
set_option maxHeartbeats 2000000 in
theorem lLooked35 {w : World} {B C D : Nat} {A A' A3 : Option Addr} {O V : List Int} {R : List (List Int)} {cap cap' cap3 : Nat} (a : Int) (h : Rd w B A O) (h' : Rd2 w C A' R) (h3 : Rd w D A3 V) (hB : B ≤ w.heap.size) (hC : C ≤ w.heap.size) (hD : D ≤ w.heap.size) (hR : ∀ l ∈ R, l.length < 1000) :
    Calls Try.prog 43 #[.slice A O.length cap, .slice A' R.length cap', .int .i64 a, .slice A3 V.length cap3] w fun e w' => e = .returned (.int .i64 (lkd35 O R a V)) ∧ Below w.heap.size w w' := by
  have C1 := lCheck35 (cap := cap) (cap' := cap') h h' hB hC hR
  have l1 := h.len
  have l2 := h'.len
  have l3 := h3.len
  by_cases hk : chk35 O R = 0
  · have f0 : (chk35 O R != 0) = false := by simpa using hk
    have HC2 : Hid (∀ u, Below w.heap.size w u → Calls Try.prog 55 #[.slice A3 V.length cap3] u fun e w' => e = .returned (.int .i64 (val35 V)) ∧ u = w') := Lib.hid fun u hu => lCheckV (h3.below hu hD)
    have HK := Lib.hid hk
    rw [hk] at C1
    clear hk h h' h3 f0
    by_cases ha : a < 0 ∨ (R.length : Int) ≤ a
    · have HT := Lib.hid (lkd35_ag (V := V) HK.out ha)
      by_cases ha0 : a < 0
      · have g1 : decide (a < 0) = true := decide_eq_true ha0
        clear ha ha0
        go_enter Try.func43, Try.ntmps43
        go_wp2_with fail
        refine C1.mono ?_
        rintro e w1 ⟨rfl, hb⟩
        have HB := Lib.hid hb
        clear hb C1
        go_wp2
        go_ret
        exact ⟨ret_int HT.out.symm, HB.out⟩
      · have g1 : decide (a < 0) = false := decide_eq_false ha0
        have g2 : decide ((R.length : Int) ≤ a) = true := decide_eq_true (by omega)
        clear ha ha0
        go_enter Try.func43, Try.ntmps43
        go_wp2_with fail
        refine C1.mono ?_
        rintro e w1 ⟨rfl, hb⟩
        have HB := Lib.hid hb
        clear hb C1
        go_wp2
        go_ret
        exact ⟨ret_int HT.out.symm, HB.out⟩
    · have g1 : decide (a < 0) = false := decide_eq_false (by omega)
      have g2 : decide ((R.length : Int) ≤ a) = false := decide_eq_false (by omega)
      by_cases hv : val35 V = 0
      · have HT := Lib.hid (lkd35_len HK.out ha hv)
        rw [hv] at HC2
        clear ha hv
        go_enter Try.func43, Try.ntmps43
        go_wp2_with fail
        refine C1.mono ?_
        rintro e w1 ⟨rfl, hb⟩
        have HB := Lib.hid hb
        clear hb C1
        go_wp2_with fail
        refine (HC2.out _ HB.out).mono ?_
        rintro e w2 ⟨rfl, rfl⟩
        by_cases hl : V.length = O.length
        · have g3 : ((V.length : Int) != (O.length : Int)) = false := by rw [bne_eq_false_iff_eq]; omega
          rw [if_neg (by omega)] at HT
          clear hl
          go_wp2
          go_ret
          exact ⟨ret_int HT.out.symm, HB.out⟩
        · have g3 : ((V.length : Int) != (O.length : Int)) = true := by rw [bne_iff_ne]; omega
          rw [if_pos hl] at HT
          clear hl
          go_wp2
          go_ret
          exact ⟨ret_int HT.out.symm, HB.out⟩
      · have HT := Lib.hid (lkd35_val HK.out ha hv)
        have g3 : (val35 V != 0) = true := by rw [bne_iff_ne]; exact hv
        clear ha hv
        generalize val35 V = c at *
        go_enter Try.func43, Try.ntmps43
        go_wp2_with fail
        refine C1.mono ?_
        rintro e w1 ⟨rfl, hb⟩
        have HB := Lib.hid hb
        clear hb C1
        go_wp2_with fail
        refine (HC2.out _ HB.out).mono ?_
        rintro e w2 ⟨rfl, rfl⟩
        go_wp2
        go_ret
        exact ⟨ret_int HT.out.symm, HB.out⟩
  · have HT := Lib.hid (lkd35_chk (V := V) (a := a) hk)
    have g3 : (chk35 O R != 0) = true := by rw [bne_iff_ne]; exact hk
    clear hk h h' h3
    generalize chk35 O R = c at *
    go_enter Try.func43, Try.ntmps43
    go_wp2_with fail
    refine C1.mono ?_
    rintro e w1 ⟨rfl, hb⟩
    have HB := Lib.hid hb
    clear hb C1
    go_wp2
    go_ret
    exact ⟨ret_int HT.out.symm, HB.out⟩
set_option maxHeartbeats 2000000 in
theorem rLooked35 {w : World} {B C D : Nat} {A A' A3 : Option Addr} {O V : List Int} {R : List (List Int)} {cap cap' cap3 : Nat} (a : Int) (h : Rd w B A O) (h' : Rd2 w C A' R) (h3 : Rd w D A3 V) :
    Calls Try.prog 58 #[.slice A O.length cap, .slice A' R.length cap', .int .i64 a, .slice A3 V.length cap3] w fun e w' => e = .returned (.int .i64 (lkd35 O R a V)) ∧ w = w' := by
  have C1 := rCheck35 (cap := cap) (cap' := cap') h h'
  have l1 := h.len
  have l2 := h'.len
  have l3 := h3.len
  have C2 := rVals (cap := cap3) h3
  clear h h' h3
  by_cases hk : chk35 O R = 0
  · have HK := Lib.hid hk
    rw [hk] at C1
    clear hk
    by_cases ha : a < 0 ∨ (R.length : Int) ≤ a
    · have HT := Lib.hid (lkd35_ag (V := V) HK.out ha)
      by_cases ha0 : a < 0
      · have g1 : decide (a < 0) = true := decide_eq_true ha0
        clear ha ha0
        go_enter Try.func58, Try.ntmps58
        go_wp2_with (go_at_call 17; refine C1.mono ?_; rintro e w' ⟨rfl, rfl⟩)
        go_ret
        exact ⟨ret_int HT.out.symm, rfl⟩
      · have g1 : decide (a < 0) = false := decide_eq_false ha0
        have g2 : decide ((R.length : Int) ≤ a) = true := decide_eq_true (by omega)
        clear ha ha0
        go_enter Try.func58, Try.ntmps58
        go_wp2_with (go_at_call 17; refine C1.mono ?_; rintro e w' ⟨rfl, rfl⟩)
        go_ret
        exact ⟨ret_int HT.out.symm, rfl⟩
    · have g1 : decide (a < 0) = false := decide_eq_false (by omega)
      have g2 : decide ((R.length : Int) ≤ a) = false := decide_eq_false (by omega)
      by_cases hv : val35 V = 0
      · have HT := Lib.hid (lkd35_len HK.out ha hv)
        rw [hv] at C2
        clear ha hv
        by_cases hl : V.length = O.length
        · have g3 : ((V.length : Int) != (O.length : Int)) = false := by rw [bne_eq_false_iff_eq]; omega
          rw [if_neg (by omega)] at HT
          clear hl
          go_enter Try.func58, Try.ntmps58
          go_wp2_with (first | (go_at_call 17; refine C1.mono ?_; rintro e w' ⟨rfl, rfl⟩) | (go_at_call 18; refine C2.mono ?_; rintro e w' ⟨rfl, rfl⟩))
          go_ret
          exact ⟨ret_int HT.out.symm, rfl⟩
        · have g3 : ((V.length : Int) != (O.length : Int)) = true := by rw [bne_iff_ne]; omega
          rw [if_pos hl] at HT
          clear hl
          go_enter Try.func58, Try.ntmps58
          go_wp2_with (first | (go_at_call 17; refine C1.mono ?_; rintro e w' ⟨rfl, rfl⟩) | (go_at_call 18; refine C2.mono ?_; rintro e w' ⟨rfl, rfl⟩))
          go_ret
          exact ⟨ret_int HT.out.symm, rfl⟩
      · have HT := Lib.hid (lkd35_val HK.out ha hv)
        have g3 : (val35 V != 0) = true := by rw [bne_iff_ne]; exact hv
        clear ha hv
        generalize val35 V = c at *
        go_enter Try.func58, Try.ntmps58
        go_wp2_with (first | (go_at_call 17; refine C1.mono ?_; rintro e w' ⟨rfl, rfl⟩) | (go_at_call 18; refine C2.mono ?_; rintro e w' ⟨rfl, rfl⟩))
        go_ret
        exact ⟨ret_int HT.out.symm, rfl⟩
  · have HT := Lib.hid (lkd35_chk (V := V) (a := a) hk)
    have g3 : (chk35 O R != 0) = true := by rw [bne_iff_ne]; exact hk
    clear hk
    generalize chk35 O R = c at *
    go_enter Try.func58, Try.ntmps58
    go_wp2_with (go_at_call 17; refine C1.mono ?_; rintro e w' ⟨rfl, rfl⟩)
    go_ret
    exact ⟨ret_int HT.out.symm, rfl⟩
end Go.Proofs.Ytjgobpejifhphaa

import Derived.Test.YtefbkdjppfofmaaW26g
/-! Walks of chapter 26: looked. -/
namespace Go.Proofs.Ytefbkdjppfofmaa
open Go.RowKit Go.Deep
set_option linter.unusedVariables false
set_option maxRecDepth 100000

set_option maxHeartbeats 1000000 in
theorem lLooked26 {w : World} {B C : Nat} {A A' : Option Addr} {W : List (List Bool)} {a : List Int} {cap cap' : Nat} (h : RdB2 w B A W) (h' : Rd w C A' a) (hB : B ≤ w.heap.size) (hC : C ≤ w.heap.size) :
    Calls Try.prog 28 #[.slice A W.length cap, .slice A' a.length cap'] w fun e w' => e = .returned (.int .i64 (lkd26 W a)) ∧ Below w.heap.size w w' := by
  have C1 := lCheck26 (cap := cap) h hB
  have H := Lib.hid h
  have H' := Lib.hid h'
  clear h h'
  by_cases hk : chk26 W = 0
  · rw [hk] at C1
    obtain ⟨m, n, v⟩ := chk26_zero hk
    have HV := Lib.hid v
    have HL : Hid (lkd26 W a = if fullB W a = true then 0 else 8) := Lib.hid (by rw [lkd26, if_neg (by simp [hk])])
    clear hk v
    go_enter Try.func28, Try.ntmps28
    go_wp2_with fail
    refine C1.mono ?_
    rintro e w1 ⟨rfl, hb⟩
    have HB := Lib.hid hb
    clear hb C1
    go_wp2_with fail
    refine (lComplete (cap := cap) (cap' := cap') (H.out.below HB.out hB) (H'.out.below HB.out hC) (Nat.le_trans hB HB.out.size) (Nat.le_trans hC HB.out.size) HV.out).mono ?_
    rintro e w2 ⟨rfl, hb⟩
    have HB2 := Lib.hid (HB.out.trans (hb.mono HB.out.size))
    clear hb
    cases hf : fullB W a
    all_goals
      rw [hf] at HL
      clear hf
      go_wp2
      go_ret
      exact ⟨ret_int HL.out.symm, HB2.out⟩
  · have hne : (chk26 W != 0) = true := by simpa using hk
    have HL : Hid (lkd26 W a = chk26 W) := Lib.hid (by rw [lkd26, if_pos hk])
    clear hk
    generalize chk26 W = c at *
    go_enter Try.func28, Try.ntmps28
    go_wp2_with fail
    refine C1.mono ?_
    rintro e w1 ⟨rfl, hb⟩
    have HB := Lib.hid hb
    clear hb C1
    go_wp2
    go_ret
    exact ⟨ret_int HL.out.symm, HB.out⟩
set_option maxHeartbeats 1000000 in
theorem lrLooked26 {w : World} {B C : Nat} {A A' : Option Addr} {W : List (List Bool)} {a : List Int} {cap cap' : Nat} (h : RdB2 w B A W) (h' : Rd w C A' a) (hB : B ≤ w.heap.size) (hC : C ≤ w.heap.size) :
    Calls Try.prog 30 #[.slice A W.length cap, .slice A' a.length cap'] w fun e w' => e = .returned (.int .i64 (lkd26 W a)) ∧ Below w.heap.size w w' := by
  have C1 := lrCheck26 (cap := cap) h hB
  have H := Lib.hid h
  have H' := Lib.hid h'
  have hwl := h.len
  clear h h'
  by_cases hk : chk26 W = 0
  · rw [hk] at C1
    obtain ⟨m, n, v⟩ := chk26_zero hk
    have HV := Lib.hid v
    have HL : Hid (lkd26 W a = if fullB W a = true then 0 else 8) := Lib.hid (by rw [lkd26, if_neg (by simp [hk])])
    clear hk v
    go_enter Try.func30, Try.ntmps30
    go_wp2_with fail
    refine C1.mono ?_
    rintro e w1 ⟨rfl, hb⟩
    have HB := Lib.hid hb
    clear hb C1
    go_wp2_with fail
    refine (lrComplete (cap := cap) (cap' := cap') (H.out.below HB.out hB) (H'.out.below HB.out hC) HV.out).mono ?_
    rintro e w2 ⟨rfl, rfl⟩
    cases hf : fullB W a
    all_goals
      rw [hf] at HL
      clear hf
      go_wp2
      go_ret
      exact ⟨ret_int HL.out.symm, HB.out⟩
  · have hne : (chk26 W != 0) = true := by simpa using hk
    have HL : Hid (lkd26 W a = chk26 W) := Lib.hid (by rw [lkd26, if_pos hk])
    have C2 : Hid (∀ u, Below w.heap.size w u → Calls Try.prog 18 #[.slice A W.length cap] u fun e w' => e = .returned (.int .i64 (chk26 W)) ∧ Below u.heap.size u w') := Lib.hid fun u hu => lrCheck26 (H.out.below hu hB) (Nat.le_trans hB hu.size)
    clear hk
    generalize chk26 W = c at *
    go_enter Try.func30, Try.ntmps30
    go_wp2_with fail
    refine C1.mono ?_
    rintro e w1 ⟨rfl, hb⟩
    have HB := Lib.hid hb
    clear hb C1
    go_wp2_with fail
    refine (C2.out _ HB.out).mono ?_
    rintro e w2 ⟨rfl, hb⟩
    have HB2 := Lib.hid (HB.out.trans (hb.mono HB.out.size))
    clear hb
    go_wp2
    go_ret
    exact ⟨ret_int HL.out.symm, HB2.out⟩
end Go.Proofs.Ytefbkdjppfofmaa

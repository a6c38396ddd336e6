import Derived.Test.YtefbkdjppfofmaaW26q
import Derived.Test.YtefbkdjppfofmaaW26u
import Derived.Test.YtefbkdjppfofmaaSame26
/-! The walk of LevelChains. -/
namespace Go.Proofs.Ytefbkdjppfofmaa
open Go.RowKit Go.Deep
set_option linter.unusedVariables false
set_option maxRecDepth 100000

set_option maxHeartbeats 4000000 in
theorem levelChains {w : World} {A A' A3 : Option Addr} {W : List (List Bool)} {a L : List Int} {cap cap' cap3 : Nat} (h : RdB2 w w.heap.size A W) (h' : Rd w w.heap.size A' a) (h3 : Rd w w.heap.size A3 L) (hcap : L.length ≤ cap3 ∧ (A3 = none → cap3 = 0)) :
    Calls Try.prog 3 #[.slice A W.length cap, .slice A' a.length cap', .slice A3 L.length cap3] w fun e w' => e = .returned (.bool true) ∧ Below w.heap.size w w' := by
  have l1 := h.len
  have l2 := h'.len
  have l3 := h3.len
  have hc := hcap.1
  have H := Lib.hid h
  have H' := Lib.hid h'
  have H3 := Lib.hid h3
  clear h h' h3 hcap
  by_cases g : 30 < W.length ∨ 30 < a.length ∨ 30 < L.length
  · have f1 : (decide ((30 : Int) < (W.length : Int)) || (decide ((30 : Int) < (a.length : Int)) || decide ((30 : Int) < (L.length : Int)))) = true := by
      rcases g with g | g | g
      · rw [decide_eq_true (show (30 : Int) < (W.length : Int) by omega)]; rfl
      · rw [decide_eq_true (show (30 : Int) < (a.length : Int) by omega)]; simp
      · rw [decide_eq_true (show (30 : Int) < (L.length : Int) by omega)]; simp
    clear f1
    rcases Decidable.em (30 < W.length) with g1 | g1
    · have q1 : decide ((30 : Int) < (W.length : Int)) = true := decide_eq_true (by omega)
      go_enter Try.func3, Try.ntmps3
      go_wp2
      go_ret
      exact ⟨rfl, Below.refl _ _⟩
    · have q1 : decide ((30 : Int) < (W.length : Int)) = false := decide_eq_false (by omega)
      rcases Decidable.em (30 < a.length) with g2 | g2
      · have q2 : decide ((30 : Int) < (a.length : Int)) = true := decide_eq_true (by omega)
        go_enter Try.func3, Try.ntmps3
        go_wp2
        go_ret
        exact ⟨rfl, Below.refl _ _⟩
      · have q2 : decide ((30 : Int) < (a.length : Int)) = false := decide_eq_false (by omega)
        have g3 : 30 < L.length := by omega
        have q3 : decide ((30 : Int) < (L.length : Int)) = true := decide_eq_true (by omega)
        go_enter Try.func3, Try.ntmps3
        go_wp2
        go_ret
        exact ⟨rfl, Below.refl _ _⟩
  · have g1 : W.length ≤ 30 := by omega
    have g2 : a.length ≤ 30 := by omega
    have g3 : L.length ≤ 30 := by omega
    clear g
    have R : ∀ u, Below w.heap.size w u → w.heap.size ≤ u.heap.size := fun u hu => hu.size
    go_enter Try.func3, Try.ntmps3
    go_wp2_with fail
    refine (lCountsE (cap := cap) (cap' := cap') H.out H'.out (Nat.le_refl _) (Nat.le_refl _)).mono ?_
    rintro e w1 ⟨A1, c1, rfl, r1, b1⟩
    have R1 := Lib.hid r1
    have B1 := Lib.hid b1
    clear r1 b1
    go_wp2_with fail
    refine (lrCountsE (cap := cap) (cap' := cap') (H.out.below B1.out (Nat.le_refl _)) (H'.out.below B1.out (Nat.le_refl _)) B1.out.size B1.out.size).mono ?_
    rintro e w2 ⟨A12, c2, rfl, r2, b2⟩
    have R2 := Lib.hid r2
    have B2 := Lib.hid (B1.out.trans (b2.mono B1.out.size))
    replace R1 := Lib.hid (R1.out.below b2 (Nat.le_refl _) |>.more b2.size)
    clear r2 b2
    go_wp2_with fail
    refine (lChainE (cap := cap) (cap' := cap') (H.out.below B2.out (Nat.le_refl _)) (H'.out.below B2.out (Nat.le_refl _)) B2.out.size B2.out.size).mono ?_
    rintro e w3 ⟨A13, c3, rfl, r3, b3⟩
    have R3 := Lib.hid r3
    have B3 := Lib.hid (B2.out.trans (b3.mono B2.out.size))
    replace R1 := Lib.hid (R1.out.below b3 (Nat.le_refl _) |>.more b3.size)
    replace R2 := Lib.hid (R2.out.below b3 (Nat.le_refl _) |>.more b3.size)
    clear r3 b3
    go_wp2_with fail
    refine (lrChainE (cap := cap) (cap' := cap') (H.out.below B3.out (Nat.le_refl _)) (H'.out.below B3.out (Nat.le_refl _)) B3.out.size B3.out.size).mono ?_
    rintro e w4 ⟨A14, c4, rfl, r4, b4⟩
    have R4 := Lib.hid r4
    have B4 := Lib.hid (B3.out.trans (b4.mono B3.out.size))
    replace R1 := Lib.hid (R1.out.below b4 (Nat.le_refl _) |>.more b4.size)
    replace R2 := Lib.hid (R2.out.below b4 (Nat.le_refl _) |>.more b4.size)
    replace R3 := Lib.hid (R3.out.below b4 (Nat.le_refl _) |>.more b4.size)
    clear r4 b4
    go_wp2_with fail
    refine (lPassE (cap := cap) (cap' := cap') (cap3 := cap3) (H.out.below B4.out (Nat.le_refl _)) (H'.out.below B4.out (Nat.le_refl _)) (H3.out.below B4.out (Nat.le_refl _)) B4.out.size B4.out.size B4.out.size (by omega) hc).mono ?_
    rintro e w5 ⟨A15, c5, rfl, r5, b5⟩
    have R5 := Lib.hid r5
    have B5 := Lib.hid (B4.out.trans (b5.mono B4.out.size))
    replace R1 := Lib.hid (R1.out.below b5 (Nat.le_refl _) |>.more b5.size)
    replace R2 := Lib.hid (R2.out.below b5 (Nat.le_refl _) |>.more b5.size)
    replace R3 := Lib.hid (R3.out.below b5 (Nat.le_refl _) |>.more b5.size)
    replace R4 := Lib.hid (R4.out.below b5 (Nat.le_refl _) |>.more b5.size)
    clear r5 b5
    go_wp2_with fail
    refine (lrPassE (cap := cap) (cap' := cap') (cap3 := cap3) (H.out.below B5.out (Nat.le_refl _)) (H'.out.below B5.out (Nat.le_refl _)) (H3.out.below B5.out (Nat.le_refl _)) B5.out.size B5.out.size B5.out.size (by omega) hc).mono ?_
    rintro e w6 ⟨A16, c6, rfl, r6, b6⟩
    have R6 := Lib.hid r6
    have B6 := Lib.hid (B5.out.trans (b6.mono B5.out.size))
    replace R1 := Lib.hid (R1.out.below b6 (Nat.le_refl _) |>.more b6.size)
    replace R2 := Lib.hid (R2.out.below b6 (Nat.le_refl _) |>.more b6.size)
    replace R3 := Lib.hid (R3.out.below b6 (Nat.le_refl _) |>.more b6.size)
    replace R4 := Lib.hid (R4.out.below b6 (Nat.le_refl _) |>.more b6.size)
    replace R5 := Lib.hid (R5.out.below b6 (Nat.le_refl _) |>.more b6.size)
    clear r6 b6
    have S1 := Lib.hid (same26 (cap := c1) (cap' := c2) R1.out R2.out (Nat.le_refl _) (Nat.le_refl _))
    generalize cntF W a = F1 at *
    generalize chF W a = F2 at *
    generalize psF W a L = F3 at *
    generalize lkd26 W a = e1 at *
    generalize chC W a = e2 at *
    generalize psC W a L = e3 at *
    rw [decide_eq_true (rfl : F1 = F1)] at S1
    go_wp2_with fail
    refine S1.out.mono ?_
    rintro e w7 ⟨rfl, b7⟩
    have s2 := same26 (cap := c3) (cap' := c4) (R3.out.below b7 (Nat.le_refl _)) (R4.out.below b7 (Nat.le_refl _)) b7.size b7.size
    rw [decide_eq_true (rfl : F2 = F2)] at s2
    have S2 := Lib.hid s2
    have B7 := Lib.hid (B6.out.trans (b7.mono B6.out.size))
    have R57 := Lib.hid (R5.out.below b7 (Nat.le_refl _))
    have R67 := Lib.hid (R6.out.below b7 (Nat.le_refl _))
    have Z7 := Lib.hid b7.size
    clear s2 b7 S1
    go_wp2_with fail
    refine S2.out.mono ?_
    rintro e w8 ⟨rfl, b8⟩
    have hz := Z7.out
    have s3 := same26 (cap := c5) (cap' := c6) (R57.out.below b8 hz) (R67.out.below b8 hz) (Nat.le_trans hz b8.size) (Nat.le_trans hz b8.size)
    rw [decide_eq_true (rfl : F3 = F3)] at s3
    have S3 := Lib.hid s3
    have B8 := Lib.hid (B7.out.trans (b8.mono B7.out.size))
    clear s3 b8 S2 hz
    go_wp2_with fail
    refine S3.out.mono ?_
    rintro e w9 ⟨rfl, b9⟩
    have B9 := Lib.hid (B8.out.trans (b9.mono B8.out.size))
    clear b9 S3
    go_wp2
    go_ret
    exact ⟨rfl, B9.out⟩
end Go.Proofs.Ytefbkdjppfofmaa

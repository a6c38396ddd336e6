import Derived.Test.YtjaobcmladkjcaaW34j
import Derived.Test.YtjaobcmladkjcaaSame
/-! Walks of chapter 34: the reference's Price; the statement DissolvePays. -/
namespace Go.Proofs.Ytjaobcmladkjcaa
open Go.RowKit Go.Deep
set_option linter.unusedVariables false

theorem sE_zero {L O : List Int} {r : Int} (he : sE L O r = 0) : lok L O = 0 := by
  rcases Decidable.em (lok L O = 0) with h0 | h0
  · exact h0
  · rw [sE_lok h0] at he; exact absurd he h0
theorem rPrice {w : World} {B C : Nat} {A A' : Option Addr} {L O : List Int} {cap cap' : Nat} (h : Rd w B A L) (h' : Rd w C A' O) (hC : C ≤ w.heap.size) (r : Int) :
    Calls Try.prog 13 #[.slice A L.length cap, .slice A' O.length cap', .int .i64 r] w fun e w' => e = .returned (.tuple #[.int .i64 (sP L O r), .int .i64 (sE L O r)]) ∧ Below w.heap.size w w' := by
  have C1 := rLooked (cap := cap) (cap' := cap') h h' r
  by_cases he : sE L O r = 0
  · have C2 := rPriced (cap' := cap') h' hC r (sE_zero he)
    rw [sP, if_pos he, he]
    rw [he] at C1
    clear h h' hC he
    generalize priceOf O r = p at *
    go_enter Try.func13, Try.ntmps13
    go_wp2_with (first | (go_at_call 30; refine C1.mono ?_; rintro e w1 ⟨rfl, rfl⟩) | (go_at_call 31; refine C2.mono ?_; rintro e w1 ⟨rfl, hbel⟩))
    go_ret2
    exact ⟨rfl, hbel⟩
  · rw [sP, if_neg he]
    have hb : (sE L O r != 0) = true := by simpa using he
    clear he h h' hC
    generalize sE L O r = c at *
    go_enter Try.func13, Try.ntmps13
    go_wp2_with (go_at_call 30; refine C1.mono ?_; rintro e w1 ⟨rfl, rfl⟩)
    go_ret2
    exact ⟨rfl, Below.refl _ _⟩

set_option maxHeartbeats 1000000 in
theorem pays {w : World} {A A' : Option Addr} {L O : List Int} {cap cap' : Nat} (h : Rd w w.heap.size A L) (h' : Rd w w.heap.size A' O) (r : Int) (_hr : I64 r) :
    Calls Try.prog 3 #[.slice A L.length cap, .slice A' O.length cap', .int .i64 r] w fun e w' => e = .returned (.bool true) ∧ Below w.heap.size w w' := by
  have l1 := h.len
  have l2 := h'.len
  by_cases h40 : 40 < L.length
  · clear h h'
    go_enter Try.func3, Try.ntmps3
    go_wp2
    go_ret
    exact ⟨rfl, Below.refl _ _⟩
  by_cases h41 : 40 < O.length
  · clear h h'
    go_enter Try.func3, Try.ntmps3
    go_wp2
    go_ret
    exact ⟨rfl, Below.refl _ _⟩
  have R : ∀ u, Below w.heap.size w u → w.heap.size ≤ u.heap.size ∧ Rd u w.heap.size A L ∧ Rd u w.heap.size A' O := fun u hu => ⟨hu.size, h.below hu (Nat.le_refl _), h'.below hu (Nat.le_refl _)⟩
  have HR := Lib.hid R
  clear R h h'
  go_enter Try.func3, Try.ntmps3
  go_wp2_with fail
  refine (dBuyer (HR.out w (Below.refl _ _)).2.1 (HR.out w (Below.refl _ _)).2.2 (HR.out w (Below.refl _ _)).1).mono ?_
  rintro e w1 ⟨rfl, hb⟩
  have H1 := HR.out w1 hb
  go_wp2_with fail
  refine (rBuyer H1.2.1 H1.2.2 H1.1).mono ?_
  rintro e w2 ⟨rfl, hb2⟩
  replace hb := hb.trans (hb2.mono hb.size)
  clear H1 hb2
  have H1 := HR.out w2 hb
  go_wp2_with fail
  refine (dPrice H1.2.1 H1.2.2 H1.1 r).mono ?_
  rintro e w3 ⟨rfl, hb2⟩
  replace hb := hb.trans (hb2.mono hb.size)
  clear H1 hb2
  have H1 := HR.out w3 hb
  go_wp2_with fail
  refine (rPrice H1.2.1 H1.2.2 H1.1 r).mono ?_
  rintro e w4 ⟨rfl, hb2⟩
  replace hb := hb.trans (hb2.mono hb.size)
  clear H1 hb2
  have H1 := HR.out w4 hb
  go_wp2_with fail
  refine (dPay H1.2.1 H1.1 H1.2.2 H1.1 r).mono ?_
  rintro e w5 ⟨A1, c1, rfl, hr1, hb2⟩
  replace hb := hb.trans (hb2.mono hb.size)
  clear H1 hb2
  have H1 := HR.out w5 hb
  go_wp2_with fail
  refine (rPay H1.2.1 H1.1 H1.2.2 H1.1 r).mono ?_
  rintro e w6 ⟨A2, c2, rfl, hr2, hb2⟩
  replace hr1 := hr1.below hb2 (Nat.le_refl _)
  have hs5 := hb2.size
  replace hb := hb.trans (hb2.mono hb.size)
  clear H1 hb2
  have H1 := HR.out w6 hb
  have R1 := Lib.hid hr1
  have R2 := Lib.hid hr2
  have HH := Lib.hid H1
  clear hr1 hr2 H1
  go_wp2_with fail
  refine (dCheck HH.out.2.1).mono ?_
  rintro e w7 ⟨rfl, rfl⟩
  go_wp2_with fail
  refine (rCheck HH.out.2.1).mono ?_
  rintro e w7 ⟨rfl, rfl⟩
  go_wp2_with fail
  refine (sameInts R1.out R2.out hs5 (Nat.le_refl _)).mono ?_
  rintro e w7 ⟨rfl, hb2⟩
  have hb3 := Lib.hid (hb.trans (hb2.mono hb.size))
  clear hb hb2
  have hd : decide (pyL L O r = pyL L O r) = true := by simp
  go_wp2
  go_ret
  exact ⟨rfl, hb3.out⟩
end Go.Proofs.Ytjaobcmladkjcaa

import Derived.Test.YtjgobpejifhphaaW35d
/-! The law LieBids. -/
namespace Go.Proofs.Ytjgobpejifhphaa
open Go.RowKit Go.Deep
set_option linter.unusedVariables false
set_option maxRecDepth 100000

set_option maxHeartbeats 1000000 in
theorem lieBids {w : World} {A A' : Option Addr} {L O : List Int} {cap cap' : Nat} (h : Rd w w.heap.size A L) (h' : Rd w w.heap.size A' O) (r p wv top : Int) (_h1 : I64 r) (_h2 : I64 p) (_h3 : I64 wv) (_h4 : I64 top) :
    Calls Try.prog 6 #[.slice A L.length cap, .slice A' O.length cap', .int .i64 r, .int .i64 p, .int .i64 wv, .int .i64 top] w fun e w' => e = .returned (.bool true) ∧ Below w.heap.size w w' := by
  have l1 := h.len
  have l2 := h'.len
  by_cases h40 : 40 < L.length
  · clear h h'
    go_enter Try.func6, Try.ntmps6
    go_wp2
    go_ret
    exact ⟨rfl, Below.refl _ _⟩
  by_cases h41 : 40 < O.length
  · clear h h'
    go_enter Try.func6, Try.ntmps6
    go_wp2
    go_ret
    exact ⟨rfl, Below.refl _ _⟩
  have R : ∀ u, Below w.heap.size w u → w.heap.size ≤ u.heap.size ∧ Rd u w.heap.size A L ∧ Rd u w.heap.size A' O := fun u hu => ⟨hu.size, h.below hu (Nat.le_refl _), h'.below hu (Nat.le_refl _)⟩
  have HR := Lib.hid R
  clear R h h' _h1 _h2 _h3 _h4
  go_enter Try.func6, Try.ntmps6
  go_wp2_with fail
  have H1 := HR.out w (Below.refl _ _)
  refine (pBid H1.2.1 H1.1 H1.2.2 H1.1 r p wv top).mono ?_
  rintro e w1 ⟨rfl, hb⟩
  clear H1
  have H1 := HR.out w1 hb
  go_wp2_with fail
  refine (rBid H1.2.1 H1.1 H1.2.2 H1.1 r p wv top).mono ?_
  rintro e w2 ⟨rfl, hb2⟩
  replace hb := hb.trans (hb2.mono hb.size)
  clear H1 hb2
  generalize bdR L O r p wv top = x at *
  generalize bdE L O r p wv top = y at *
  go_wp2
  go_ret
  exact ⟨rfl, hb⟩
end Go.Proofs.Ytjgobpejifhphaa

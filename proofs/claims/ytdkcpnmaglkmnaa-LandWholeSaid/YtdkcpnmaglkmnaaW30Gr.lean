import Derived.Test.YtdkcpnmaglkmnaaW30i
/-! The walk of Great of chapter 30, with what it says. -/
namespace Go.Proofs.Ytdkcpnmaglkmnaa
open Go.RowKit
set_option linter.unusedVariables false
set_option maxRecDepth 100000

def GreatRes (w : World) (n : Nat) (W H : Int) (e : Ending) (w' : World) : Prop := ∃ b : Bool, e = .returned (.bool b) ∧ (b = false → n ≤ 40 ∨ 12 < W ∨ 12 < H) ∧ Below w.heap.size w w'
theorem great30b {w : World} {A : Option Addr} {n cap : Nat} (W H : Int) (hn : n * 8 ≤ 140737488351232) : Calls Try.prog 11 #[.agg #[.int .i64 W, .int .i64 H, .slice A n cap]] w (GreatRes w n W H) := by
  have hal : Below w.heap.size w (w.alloc (.cells #[.int .i64 W, .int .i64 H, .slice A n cap] 24)) := (Below.refl _ _).alloc (Nat.le_refl _) _
  have HAL := Lib.hid hal
  clear hal
  by_cases h1 : 40 < n
  · by_cases h2 : W ≤ 12
    · by_cases h3 : H ≤ 12
      · go_enter Try.func11, Try.ntmps11
        go_wp2
        go_ret
        exact ⟨_, rfl, fun h => (by first | omega | cases h), HAL.out⟩
      · by_cases h4 : 400 < n
        all_goals
          go_enter Try.func11, Try.ntmps11
          go_wp2
          go_ret
          exact ⟨_, rfl, fun h => (by first | omega | cases h), HAL.out⟩
    · by_cases h4 : 400 < n
      all_goals
        go_enter Try.func11, Try.ntmps11
        go_wp2
        go_ret
        exact ⟨_, rfl, fun h => (by first | omega | cases h), HAL.out⟩
  · have h4 : ¬ 400 < n := by omega
    go_enter Try.func11, Try.ntmps11
    go_wp2
    go_ret
    exact ⟨_, rfl, fun h => (by first | omega | cases h), HAL.out⟩

end Go.Proofs.Ytdkcpnmaglkmnaa

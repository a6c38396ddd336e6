import Derived.Test.YtjgobpejifhphaaS34b
/-! Walks of chapter 34: ruled, the two rules, sold. -/
namespace Go.Proofs.Ytjgobpejifhphaa
open Go.RowKit
set_option linter.unusedVariables false

theorem ruled0 {w : World} : Calls Try.prog 97 #[.int .i64 0] w fun e w' => e = .returned (.tuple #[.iface 127 (.agg #[]), .bool true]) ∧ w = w' := by
  go_enter Try.func97, Try.ntmps97
  go_wp2
  go_ret2
  exact ⟨rfl, rfl⟩
theorem ruled1 {w : World} : Calls Try.prog 97 #[.int .i64 1] w fun e w' => e = .returned (.tuple #[.iface 128 (.agg #[]), .bool true]) ∧ w = w' := by
  go_enter Try.func97, Try.ntmps97
  go_wp2
  go_ret2
  exact ⟨rfl, rfl⟩
theorem ruledNo {w : World} {r : Int} (h0 : (r == 0) = false) (h1 : (r == 1) = false) : Calls Try.prog 97 #[.int .i64 r] w fun e w' => e = .returned (.tuple #[.nilIface, .bool false]) ∧ w = w' := by
  go_enter Try.func97, Try.ntmps97
  go_wp2
  go_ret2
  exact ⟨rfl, rfl⟩
theorem price0 {w : World} (a b : Int) : Calls Try.prog 150 #[.agg #[], .int .i64 a, .int .i64 b] w fun e w' => e = .returned (.int .i64 b) ∧ Below w.heap.size w w' := by
  go_enter Try.func150, Try.ntmps150
  go_wp2
  go_ret
  exact ⟨rfl, (Below.refl _ _).alloc (Nat.le_refl _) _⟩
theorem price1 {w : World} (a b : Int) (h0 : 0 ≤ a) (h1 : a ≤ 1000000) (h2 : 0 ≤ b) (h3 : b ≤ 1000000) : Calls Try.prog 151 #[.agg #[], .int .i64 a, .int .i64 b] w fun e w' => e = .returned (.int .i64 ((a + b) / 2)) ∧ Below w.heap.size w w' := by
  go_enter Try.func151, Try.ntmps151
  go_wp2
  go_ret
  exact ⟨rfl, (Below.refl _ _).alloc (Nat.le_refl _) _⟩
end Go.Proofs.Ytjgobpejifhphaa

import Derived.Test.YtjgobpejifhphaaW33a
import Derived.Test.YtjgobpejifhphaaW33b
/-! Walks: slices.SortStableFunc at 12 or fewer; holiday's rank. -/
namespace Go.Proofs.Ytjgobpejifhphaa
open Go.RowKit Go.Deep
set_option linter.unusedVariables false
set_option maxRecDepth 100000

set_option maxRecDepth 100000 in
set_option maxHeartbeats 1000000 in
theorem stableCmp {w : World} {g F : Nat} {caps : Array Value} {c : Int → Int → Int} {p : Int → Prop} {D0 : List Int} {cap : Nat}
    (hF : ∀ args (u : World), (callFunc F args).run Try.prog u = .ok (.enter F args) u)
    (hc : Cmps w g F caps c p) (hp : ∀ x ∈ D0, p x) (ho : Own w g 3 D0) (hn : 1 ≤ D0.length) (hn2 : D0.length ≤ 12) :
    Calls Try.prog 87 #[.slice (some ⟨g, 0, none⟩) D0.length cap, .int .i64 D0.length, .func (.func F) #[] caps] w
      fun e w' => e = .returned (.tuple #[]) ∧ Own w' g 3 (isort (ltOf c) D0) ∧ Below g w w' := by
  have C := insCmp (cap := cap) hF hc hp ho hn (by omega)
  clear hc hp ho
  generalize isort (ltOf c) D0 = R at *
  generalize D0.length = n at *
  go_enter Try.func87, Try.ntmps87
  go_wp2
  refine wp_loop_rounds 1 ?_
  rw [rounds_succ]
  go_wp2_with (go_at_call 104; refine C.mono ?_; rintro e w1 ⟨rfl, hO, hB⟩)
  have HO := Lib.hid hO
  have HB := Lib.hid hB
  clear hO hB C
  refine wp_loop_rounds 1 ?_
  rw [rounds_succ]
  go_wp2
  go_end0
  exact ⟨rfl, HO.out, HB.out⟩
theorem sortStable {w : World} {g F : Nat} {caps : Array Value} {c : Int → Int → Int} {p : Int → Prop} {D0 : List Int} {cap : Nat}
    (hF : ∀ args (u : World), (callFunc F args).run Try.prog u = .ok (.enter F args) u)
    (hc : Cmps w g F caps c p) (hp : ∀ x ∈ D0, p x) (ho : Own w g 3 D0) (hn : 1 ≤ D0.length) (hn2 : D0.length ≤ 12) :
    Calls Try.prog 56 #[.slice (some ⟨g, 0, none⟩) D0.length cap, .func (.func F) #[] caps] w
      fun e w' => e = .returned (.tuple #[]) ∧ Own w' g 3 (isort (ltOf c) D0) ∧ Below g w w' := by
  have C := stableCmp (cap := cap) hF hc hp ho hn hn2
  clear hc hp ho
  generalize isort (ltOf c) D0 = R at *
  generalize D0.length = n at *
  go_enter Try.func56, Try.ntmps56
  go_wp2_with (go_at_call 87; refine C.mono ?_; rintro e w1 ⟨rfl, hO, hB⟩)
  go_end0
  exact ⟨rfl, hO, hB⟩
end Go.Proofs.Ytjgobpejifhphaa

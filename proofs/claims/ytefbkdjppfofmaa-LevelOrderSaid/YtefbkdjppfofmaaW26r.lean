import Derived.Test.YtefbkdjppfofmaaS33l
import Derived.Test.YtefbkdjppfofmaaS26e
import Derived.Test.YtefbkdjppfofmaaW26b
import Derived.Test.YtefbkdjppfofmaaW26f
import Derived.Deep.DeepCutAuto
import Derived.Deep.CutBlock
/-! Walks of chapter 26: slices.Clone of any list, pass. -/
namespace Go.Proofs.Ytefbkdjppfofmaa
open Go.RowKit Go.Deep
set_option linter.unusedVariables false
set_option maxRecDepth 100000

/-- a copy: a new row, or an empty slice -/
def CopyRes (w : World) (T : Nat) (L : List Int) (e : Ending) (w' : World) : Prop :=
  ∃ A c, e = .returned (.slice A L.length c) ∧ (0 < L.length → ∃ g, A = some ⟨g, 0, none⟩ ∧ w.heap.size ≤ g ∧ OwnP w' g T L) ∧ Below w.heap.size w w'
set_option maxHeartbeats 400000 in
theorem cloneA {w : World} {B : Nat} {A : Option Addr} {L : List Int} {cap : Nat} (h : Rd w B A L) (hB : B ≤ w.heap.size) :
    Calls Try.prog 43 #[.slice A L.length cap] w (CopyRes w 3 L) := by
  by_cases hn : 0 < L.length
  · refine (clone h hB hn).mono ?_
    rintro e w' ⟨g, c, rfl, hg, hP, hb⟩
    exact ⟨_, c, rfl, fun _ => ⟨g, rfl, hg, hP⟩, hb⟩
  · have hL : L = [] := List.eq_nil_of_length_eq_zero (by omega)
    subst hL
    clear h hn
    show Calls Try.prog 43 #[.slice A 0 cap] w (CopyRes w 3 [])
    have hq := fun u a => Lib.run_eql_slice_nil (P := Try.prog) u 23 3 a 0 cap 0 0 Try.underlying23
    obtain ⟨i0, hi, hz0, hz1, hz2⟩ := info_parts infoInt'
    cases A with
    | none =>
      go_enter Try.func43, Try.ntmps43
      go_wp2
      go_ret
      exact ⟨none, 0, rfl, fun h => absurd h (by simp), Below.refl _ _⟩
    | some p =>
      have HO := Lib.hid (own_empty w 3)
      have HAL := Lib.hid (Below.alloc (B := w.heap.size) (Below.refl _ w) (Nat.le_refl _) (.cells #[] 3))
      have HSZ : Hid ((w.alloc (.cells #[] 3)).heap.size = w.heap.size + 1) := Lib.hid (by simp)
      have HI := Lib.hid hi
      clear hi
      go_enter Try.func43, Try.ntmps43
      generalize hw4 : w.alloc (.cells #[] 3) = w4 at *
      go_wp2_with (at_builtin; refine wpList_append_opt rfl _ _ 23 rfl w.heap.size 3 i0 (.int .i64 0) 1 8 Try.underlying23 HI.out hz0 hz1 hz2 rfl (by decide) _ 0 [] rfl HO.out (some p) 0 cap [] rfl rfl (fun h => rfl) (fun _ _ j u hu => by simp at hu) (by simp) (by unfold maxLen; omega) (by omega) (by rw [HSZ.out]; omega) ?_)
      intro v' w5 hown hgr hat
      have hb5 : Below w.heap.size w w5 := HAL.out.grown hgr (by rw [HSZ.out]; omega) (by intro k hk; simp [Value.ownBlock] at hk; omega)
      obtain ⟨A5, c5, hv5, _⟩ := row_slice hown
      subst hv5
      have HB5 := Lib.hid hb5
      clear hown hgr hat hb5 HO HAL HSZ hw4
      go_wp2
      go_ret
      exact ⟨A5, c5, rfl, fun h => absurd h (by simp), HB5.out⟩
/-- what pass leaves: the allocation, or none -/
def PassRes (w : World) (r : Option (List Int)) (e : Ending) (w' : World) : Prop :=
  ∃ A c, e = .returned (.tuple #[.slice A (r.getD []).length c, .bool r.isSome]) ∧ Rd w' w'.heap.size A (r.getD []) ∧ Below w.heap.size w w'
end Go.Proofs.Ytefbkdjppfofmaa

import Derived.Test.YtdkcpnmaglkmnaaW30m
import Derived.Test.YtdkcpnmaglkmnaaSort
import Derived.Test.YtdkcpnmaglkmnaaS33j
import Derived.Sort.OwnSortedInts
/-! slices.Sort on a row of the call's own, of whatever length. -/
namespace Go.Proofs.Ytdkcpnmaglkmnaa
open Go.RowKit Go.Deep
set_option linter.unusedVariables false
set_option maxRecDepth 100000

/-- in order -/
def sortI (L : List Int) : List Int := L.mergeSort fun x y => decide (x ≤ y)
theorem sortI_perm (L : List Int) : (sortI L).Perm L := List.mergeSort_perm _ _
theorem sortI_length (L : List Int) : (sortI L).length = L.length := (sortI_perm L).length_eq
theorem sortI_sorted (L : List Int) : (sortI L).Pairwise (· ≤ ·) := by
  have h := List.pairwise_mergeSort (le := fun (x y : Int) => decide (x ≤ y)) (fun a b c h1 h2 => by simp at h1 h2 ⊢; omega) (fun a b => by simp; omega) L
  exact h.imp fun h => by simpa using h
theorem sortRow {w : World} {base g cap : Nat} {D0 : List Int} (ho : w.ownsRow base 3 1 (.slice (some ⟨g, 0, none⟩) D0.length cap) D0.length (D0.map (Value.int .i64))) (hn : 1 ≤ D0.length) (hl : D0.length < 1000) :
    Calls Try.prog 53 #[.slice (some ⟨g, 0, none⟩) D0.length cap] w
      fun e w' => e = .returned (.tuple #[]) ∧ w'.ownsRow base 3 1 (.slice (some ⟨g, 0, none⟩) (sortI D0).length cap) (sortI D0).length ((sortI D0).map (Value.int .i64)) ∧ w.grownBy w' (some g) := by
  obtain ⟨g', cap', e1, hb, hp⟩ := ownP_of_row ho (by omega)
  cases e1
  rcases ho.2 with ⟨h0, _⟩ | ⟨g2, cap2, cur, hv, hg, hh, h1, h2, h3, h4⟩
  · cases h0
  cases hv
  have hH : Go.Sort.Holds (Value.int .i64) w g 0 D0.toArray := by
    intro j hj
    have hj' : j < D0.length := by simpa using hj
    refine ⟨?_, hp.frozen _⟩
    rw [Nat.zero_add]
    have := hp.cell (i := j) (x := D0[j]) (by simp [hj'])
    rw [this]
    simp [hj']
  refine (Try.slices_Sort_int g 0 cap D0 w hH hp.lt (by omega)).mono ?_
  rintro e w' ⟨rfl, n, os, rfl⟩
  refine ⟨rfl, ?_, grownBy_sortedI _⟩
  have := ownsRow_sortedI (n := n) (os := os) (sortI_length D0) hg hh h1 h2 h3
  rw [sortI_length]
  exact this
end Go.Proofs.Ytdkcpnmaglkmnaa

/-! Plain law: a list of integers in order. No statement about the program. -/
namespace Go.Proofs.Ytjgobpejifhphaa

/-- in order -/
def sortI (L : List Int) : List Int := L.mergeSort fun x y => decide (x ≤ y)
theorem sortI_perm (L : List Int) : (sortI L).Perm L := List.mergeSort_perm _ _
theorem sortI_length (L : List Int) : (sortI L).length = L.length := (sortI_perm L).length_eq
theorem sortI_sorted (L : List Int) : (sortI L).Pairwise (· ≤ ·) := by
  have h := List.pairwise_mergeSort (le := fun (x y : Int) => decide (x ≤ y)) (fun a b c h1 h2 => by simp at h1 h2 ⊢; omega) (fun a b => by simp; omega) L
  exact h.imp fun h => by simpa using h
end Go.Proofs.Ytjgobpejifhphaa

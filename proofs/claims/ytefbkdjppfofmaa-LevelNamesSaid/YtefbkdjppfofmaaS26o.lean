import Derived.Test.YtefbkdjppfofmaaS26h
/-! Plain law: putting a list in order by exchanging neighbours. No statement about the program. -/
namespace Go.Proofs.Ytefbkdjppfofmaa
set_option linter.unusedVariables false

def swapL (L : List Int) (k : Nat) : List Int := (L.set (k + 1) (L.getD k 0)).set k (L.getD (k + 1) 0)
theorem swapL_length (L : List Int) (k : Nat) : (swapL L k).length = L.length := by simp [swapL]
theorem swapL_at {L : List Int} {k j : Nat} (h : k + 1 < L.length) : (swapL L k).getD j 0 = if j = k then L.getD (k + 1) 0 else if j = k + 1 then L.getD k 0 else L.getD j 0 := by
  rw [swapL]
  by_cases h1 : j = k
  · subst h1
    rw [if_pos rfl, List.getD_eq_getElem?_getD, List.getElem?_set_self (by rw [List.length_set]; omega)]; rfl
  · rw [if_neg h1, List.getD_eq_getElem?_getD, List.getElem?_set_ne (by omega)]
    by_cases h2 : j = k + 1
    · subst h2
      rw [if_pos rfl, List.getElem?_set_self h]; rfl
    · rw [if_neg h2, List.getElem?_set_ne (by omega), ← List.getD_eq_getElem?_getD]
theorem swapL_perm {L : List Int} {k : Nat} (h : k + 1 < L.length) : (swapL L k).Perm L := by
  obtain ⟨A, u, v, B, hL, hA⟩ : ∃ A u v B, L = A ++ u :: v :: B ∧ A.length = k := by
    refine ⟨L.take k, L[k], L[k + 1], L.drop (k + 2), ?_, by rw [List.length_take]; omega⟩
    have h1 := List.drop_eq_getElem_cons (show k < L.length by omega)
    have h2 := List.drop_eq_getElem_cons h
    rw [← h2, ← h1, List.take_append_drop]
  subst hA
  have e1 : L.getD A.length 0 = u := by rw [hL, List.getD_eq_getElem?_getD, List.getElem?_append_right (Nat.le_refl _), Nat.sub_self]; rfl
  have e2 : L.getD (A.length + 1) 0 = v := by rw [hL, List.getD_eq_getElem?_getD, List.getElem?_append_right (by omega), Nat.add_sub_cancel_left]; rfl
  have e3 : swapL L A.length = A ++ v :: u :: B := by
    rw [swapL, e1, e2, hL, List.set_append_right _ _ (by omega), Nat.add_sub_cancel_left]
    rw [List.set_append_right _ _ (Nat.le_refl _), Nat.sub_self]
    rfl
  rw [e3, hL]
  exact List.Perm.append_left A (List.Perm.swap u v B)
/-- in order up to place i, place k left aside -/
def SortedBut (L : List Int) (i k : Nat) : Prop := (∀ p q, p < q → q ≤ i → p ≠ k → q ≠ k → L.getD p 0 ≤ L.getD q 0) ∧ ∀ q, k < q → q ≤ i → L.getD k 0 ≤ L.getD q 0
def SortedTo (L : List Int) (i : Nat) : Prop := ∀ p q, p < q → q < i → L.getD p 0 ≤ L.getD q 0
theorem SortedTo.one (L : List Int) : SortedTo L 1 := fun p q h1 h2 => by omega
theorem SortedTo.begin {L : List Int} {i : Nat} (h : SortedTo L i) : SortedBut L i i := ⟨fun p q h1 h2 h3 h4 => h p q h1 (by omega), fun q h1 h2 => by omega⟩
theorem SortedBut.step {L : List Int} {i k : Nat} (h : SortedBut L i (k + 1)) (hki : k + 1 ≤ i) (hk : k + 1 < L.length) (hlt : L.getD (k + 1) 0 < L.getD k 0) : SortedBut (swapL L k) i k := by
  refine ⟨fun p q h1 h2 h3 h4 => ?_, fun q h1 h2 => ?_⟩
  · rw [swapL_at hk, swapL_at hk, if_neg h3, if_neg h4]
    by_cases hp : p = k + 1
    · rw [if_pos hp, if_neg (by omega)]
      exact h.1 k q (by omega) h2 (by omega) (by omega)
    · rw [if_neg hp]
      by_cases hq : q = k + 1
      · rw [if_pos hq]
        exact h.1 p k (by omega) (by omega) hp (by omega)
      · rw [if_neg hq]
        exact h.1 p q h1 h2 hp hq
  · rw [swapL_at hk, swapL_at hk, if_pos rfl, if_neg (by omega)]
    by_cases hq : q = k + 1
    · rw [if_pos hq]; omega
    · rw [if_neg hq]
      exact h.2 q (by omega) h2
theorem SortedBut.end_ {L : List Int} {i k : Nat} (h : SortedBut L i k) (hki : k ≤ i) (hk : k = 0 ∨ ¬ L.getD k 0 < L.getD (k - 1) 0) : SortedTo L (i + 1) := by
  intro p q h1 h2
  by_cases hp : p = k
  · subst hp
    exact h.2 q h1 (by omega)
  · by_cases hq : q = k
    · subst hq
      rcases hk with hk | hk
      · omega
      · by_cases hpk : p = q - 1
        · subst hpk; omega
        · have := h.1 p (q - 1) (by omega) (by omega) (by omega) (by omega)
          omega
    · exact h.1 p q h1 (by omega) hp hq
theorem sorted_all {L M : List Int} (h : SortedTo L L.length) (hp : L.Perm M) : L = sortI M := by
  have h1 : (sortI M).Perm L := (sortI_perm M).trans hp.symm
  refine (h1.symm.eq_of_pairwise (fun a b _ _ h2 h3 => by omega) ?_ (sortI_sorted M))
  rw [List.pairwise_iff_getElem]
  intro i j hi hj hij
  have := h i j hij hj
  rw [List.getD_eq_getElem?_getD, List.getElem?_eq_getElem hi, List.getD_eq_getElem?_getD, List.getElem?_eq_getElem hj] at this
  exact this
end Go.Proofs.Ytefbkdjppfofmaa

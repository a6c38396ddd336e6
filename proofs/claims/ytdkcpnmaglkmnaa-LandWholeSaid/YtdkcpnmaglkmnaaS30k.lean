import Derived.Test.YtdkcpnmaglkmnaaS30i
/-! Plain law: the labels of the reference's search for parts. No statement about the program. -/
namespace Go.Proofs.Ytdkcpnmaglkmnaa
set_option linter.unusedVariables false

/-- the labels: every one of the agent's parcels bears the number of a parcel of its part -/
structure Lab (n : Nat) (E : Nat → Bool) (R : Nat → Nat → Bool) (O : List Int) : Prop where
  len : O.length = n
  mine : ∀ i, i < n → E i = true → ∃ r : Nat, O[i]? = some (r : Int) ∧ r ≤ i ∧ Con R i r
  none : ∀ i, i < n → E i = false → O[i]? = some (-1)
/-- nothing to do for these two -/
def Still (nb : Nat → Nat → Bool) (O : List Int) (i k : Nat) : Prop :=
  ∀ x y, O[i]? = some x → O[k]? = some y → 0 ≤ x → 0 ≤ y → x < y → nb i k = true → False
def osum (O : List Int) : Nat := (O.map Int.toNat).sum
theorem osum_set : ∀ {O : List Int} {k : Nat} {x y : Int}, O[k]? = some y → x.toNat < y.toNat → osum (O.set k x) < osum O
  | [], k, x, y, h, _ => by simp at h
  | z :: O, 0, x, y, h, hlt => by
    simp at h
    subst h
    simp [osum]
    omega
  | z :: O, k + 1, x, y, h, hlt => by
    have := osum_set (O := O) (k := k) (by simpa using h) hlt
    simp [osum] at this ⊢
    omega
section
variable {n : Nat} {E : Nat → Bool} {R nb : Nat → Nat → Bool} {O : List Int}
theorem Lab.pos (h : Lab n E R O) {i : Nat} (hi : i < n) {x : Int} (hx : O[i]? = some x) : (0 ≤ x ↔ E i = true) := by
  cases hE : E i
  · have := h.none i hi hE
    rw [hx] at this
    cases this
    simp
  · obtain ⟨r, h1, _⟩ := h.mine i hi hE
    rw [hx] at h1
    cases h1
    simp
theorem Lab.bd (h : Lab n E R O) {i : Nat} (hi : i < n) {x : Int} (hx : O[i]? = some x) : -1 ≤ x ∧ x ≤ i := by
  cases hE : E i
  · have := h.none i hi hE
    rw [hx] at this
    cases this
    omega
  · obtain ⟨r, h1, h2, _⟩ := h.mine i hi hE
    rw [hx] at h1
    cases h1
    omega
theorem Lab.start {O : List Int} (hl : O.length = n) (h : ∀ i, i < n → O[i]? = some (if E i then (i : Int) else -1)) : Lab n E R O where
  len := hl
  mine := fun i hi hE => ⟨i, by rw [h i hi, if_pos hE], Nat.le_refl _, .refl⟩
  none := fun i hi hE => by rw [h i hi, hE]; rfl
theorem Lab.set (h : Lab n E R O) (hsym : ∀ a b, R a b = true → R b a = true) {i k : Nat} (hi : i < n) (hk : k < n) {x y : Int} (hx : O[i]? = some x) (hy : O[k]? = some y) (h0 : 0 ≤ x) (h1 : 0 ≤ y) (hlt : x < y) (hr : R i k = true) : Lab n E R (O.set k x) where
  len := by rw [List.length_set]; exact h.len
  mine := fun j hj hE => by
    by_cases hjk : j = k
    · subst hjk
      obtain ⟨r, h2, h3, h4⟩ := h.mine i hi ((h.pos hi hx).1 h0)
      obtain ⟨r', h2', h3', h4'⟩ := h.mine j hj hE
      rw [hx] at h2
      rw [hy] at h2'
      cases h2
      cases h2'
      exact ⟨r, List.getElem?_set_self (by rw [h.len]; exact hj), by omega, (Con.one (hsym _ _ hr)).trans h4⟩
    · rw [List.getElem?_set_ne (by omega)]
      exact h.mine j hj hE
  none := fun j hj hE => by
    by_cases hjk : j = k
    · subst hjk
      have := (h.pos hj hy).1 h1
      rw [hE] at this
      cases this
    · rw [List.getElem?_set_ne (by omega)]
      exact h.none j hj hE
theorem Lab.same (h : Lab n E R O) (hE : ∀ a b, R a b = true → E a = true ∧ E b = true) (hsym : ∀ a b, R a b = true → R b a = true) (hnb : ∀ a b, R a b = true → nb a b = true) (hlt : ∀ a b, R a b = true → b < n) (hs : ∀ i k, i < n → k < n → Still nb O i k) {i k : Nat} (hc : Con R i k) : O[k]? = O[i]? := by
  induction hc with
  | refl => rfl
  | step hc hr ih =>
    rename_i j k
    rw [← ih]
    have hj := hlt _ _ (hsym _ _ hr)
    have hk := hlt _ _ hr
    obtain ⟨r, h1, _⟩ := h.mine j hj (hE _ _ hr).1
    obtain ⟨r', h1', _⟩ := h.mine k hk (hE _ _ hr).2
    have s1 := hs j k hj hk r r' h1 h1' (by omega) (by omega)
    have s2 := hs k j hk hj r' r h1' h1 (by omega) (by omega)
    rw [h1, h1']
    have : r = r' := by
      rcases Nat.lt_trichotomy r r' with hh | hh | hh
      · exact (s1 (by omega) (hnb _ _ hr)).elim
      · exact hh
      · exact (s2 (by omega) (hnb _ _ (hsym _ _ hr))).elim
    rw [this]
/-- the parcels that bear a number -/
def selO (O : List Int) (i k : Nat) : List Nat := (List.range k).filter fun j => decide (O[j]? = some (i : Int))
theorem selO_yes {i k : Nat} (h : O[k]? = some (i : Int)) : selO O i (k + 1) = selO O i k ++ [k] := by
  simp [selO, List.range_succ, List.filter_append, h]
theorem selO_no {i k : Nat} (h : O[k]? ≠ some (i : Int)) : selO O i (k + 1) = selO O i k := by
  simp [selO, List.range_succ, List.filter_append, h]
theorem selO_len (O : List Int) (i k : Nat) : (selO O i k).length ≤ k := by
  have := List.length_filter_le (fun j => decide (O[j]? = some (i : Int))) (List.range k)
  simp [selO] at this ⊢
  exact this
theorem selO_lt {O : List Int} {i k j : Nat} (h : j ∈ selO O i k) : j < k := by
  simp [selO] at h; exact h.1
/-- a finished label -/
structure Fin30 (n : Nat) (E : Nat → Bool) (R : Nat → Nat → Bool) (O : List Int) : Prop where
  lead : ∀ i, i < n → (O[i]? = some (i : Int) ↔ isLead n E R i = true)
  sel : ∀ i, i < n → O[i]? = some (i : Int) → selO O i n = comp n R i
theorem Lab.fin (h : Lab n E R O) (hE : ∀ a b, R a b = true → E a = true ∧ E b = true) (hsym : ∀ a b, R a b = true → R b a = true) (hnb : ∀ a b, R a b = true → nb a b = true) (hlt : ∀ a b, R a b = true → b < n) (hs : ∀ i k, i < n → k < n → Still nb O i k) : Fin30 n E R O where
  lead := fun i hi => by
    rw [isLead_iff hlt hi]
    constructor
    · intro ho
      refine ⟨(h.pos hi ho).1 (by omega), fun k hk hc => ?_⟩
      have h1 := h.same hE hsym hnb hlt hs hc
      rw [ho] at h1
      have := (h.bd (i := k) (by omega) h1).2
      omega
    · rintro ⟨hEi, hl⟩
      obtain ⟨r, h1, h2, h3⟩ := h.mine i hi hEi
      have : r = i := by
        rcases Nat.lt_or_ge r i with hh | hh
        · exact (hl r hh h3).elim
        · omega
      rw [h1, this]
  sel := fun i hi ho => by
    refine sorted_ext (List.Pairwise.filter _ List.pairwise_lt_range) (comp_sorted n R i) fun k => ?_
    rw [mem_comp hlt hi]
    simp only [selO, List.mem_filter, List.mem_range, decide_eq_true_eq]
    constructor
    · rintro ⟨hk, hok⟩
      obtain ⟨r, h1, h2, h3⟩ := h.mine k hk ((h.pos hk hok).1 (by omega))
      rw [hok] at h1
      have : r = i := by cases h1; rfl
      subst this
      exact h3.symm hsym
    · intro hc
      refine ⟨?_, (h.same hE hsym hnb hlt hs hc).trans ho⟩
      rcases hc.inv with rfl | ⟨j, hj⟩
      · exact hi
      · exact hlt _ _ hj
end
end Go.Proofs.Ytdkcpnmaglkmnaa

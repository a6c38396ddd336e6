import Derived.Test.YtefbkdjppfofmaaS26e
/-! Plain law: which lists are chains; what Pass returns. No statement about the program. -/
namespace Go.Proofs.Ytefbkdjppfofmaa
set_option linter.unusedVariables false

def badAt (m : Nat) (L : List Int) (i : Nat) : Bool := decide (L.getD i 0 < 0) || decide ((m : Int) ≤ L.getD i 0) || (L.take i).any fun x => x == L.getD i 0
def chainBad (m : Nat) (L : List Int) : Bool := (List.range L.length).any (badAt m L)
def natL (L : List Int) : List Nat := L.map Int.toNat
theorem natL_length (L : List Int) : (natL L).length = L.length := by simp [natL]
/-- what the rest of the list says -/
def badFrom (m : Nat) (L : List Int) (i : Nat) : Bool := ((List.range L.length).drop i).any (badAt m L)
theorem badFrom_zero {m : Nat} {L : List Int} : badFrom m L 0 = chainBad m L := rfl
theorem badFrom_at {m : Nat} {L : List Int} {i : Nat} (h : i < L.length) : badFrom m L i = (badAt m L i || badFrom m L (i + 1)) := by
  rw [badFrom, drop_range h, List.any_cons]; rfl
theorem badFrom_end {m : Nat} {L : List Int} {i : Nat} (h : L.length ≤ i) : badFrom m L i = false := by
  rw [badFrom, List.drop_eq_nil_of_le (by simpa using h)]; rfl
theorem good_chain {m : Nat} {L : List Int} (h : chainBad m L = false) : L = NL (natL L) ∧ (∀ x ∈ natL L, x < m) ∧ (natL L).Nodup := by
  have hall : ∀ i, i < L.length → badAt m L i = false := by
    intro i hi
    rw [chainBad, List.any_eq_false] at h
    have := h i (List.mem_range.2 hi)
    simpa using this
  have hb : ∀ i (hi : i < L.length), 0 ≤ L[i] ∧ L[i] < m ∧ ∀ j (hj : j < i), L[j] ≠ L[i] := by
    intro i hi
    have h1 := hall i hi
    have hg : L.getD i 0 = L[i] := by rw [List.getD_eq_getElem?_getD, List.getElem?_eq_getElem hi]; rfl
    rw [badAt, hg, Bool.or_eq_false_iff, Bool.or_eq_false_iff] at h1
    obtain ⟨⟨h2, h3⟩, h4⟩ := h1
    have h2' := of_decide_eq_false h2
    have h3' := of_decide_eq_false h3
    refine ⟨by omega, by omega, fun j hj he => ?_⟩
    rw [List.any_eq_false] at h4
    refine h4 L[j] ?_ (by simpa using he)
    rw [List.mem_take_iff_getElem]
    exact ⟨j, by omega, rfl⟩
  refine ⟨?_, ?_, ?_⟩
  · apply List.ext_getElem
    · simp [NL, natL]
    · intro i h1 h2
      simp only [NL, natL, List.getElem_map]
      have := (hb i h1).1
      omega
  · intro x hx
    rw [natL, List.mem_map] at hx
    obtain ⟨y, hy, rfl⟩ := hx
    obtain ⟨i, hi, rfl⟩ := List.mem_iff_getElem.1 hy
    have h1 := (hb i hi).1
    have h2 := (hb i hi).2.1
    omega
  · rw [natL, List.Nodup, List.pairwise_map, List.pairwise_iff_getElem]
    intro i j hi hj hij
    have h1 := (hb i hi).1
    have h2 := (hb j hj).1
    have h3 := (hb j hj).2.2 i hij
    omega
/-- what Pass returns for a complete allocation -/
def psO (W : List (List Bool)) (a L : List Int) : Option (List Int) := if chainBad W.length L = true ∨ L.length < 2 then none else passF W a 0 (natL L) a
end Go.Proofs.Ytefbkdjppfofmaa

import Derived.Test.YtefbkdjppfofmaaS26e
/-! Plain law: the first short chain, from a level on. No statement about the program. -/
namespace Go.Proofs.Ytefbkdjppfofmaa
set_option linter.unusedVariables false

def shortFrom (m : Nat) (ext : List Nat → List (List Nat)) (short : List Nat → Bool) (n : Nat) : Option (List Nat) := ((List.range m).drop n).findSome? fun k => (lvl m ext k).find? short
section
variable {m : Nat} {ext : List Nat → List (List Nat)} {short : List Nat → Bool} {n : Nat}
theorem shortFrom_zero : shortFrom m ext short 0 = firstShort m ext short := rfl
theorem shortFrom_at (h : n < m) : shortFrom m ext short n = ((lvl m ext n).find? short).or (shortFrom m ext short (n + 1)) := by
  unfold shortFrom
  rw [drop_range h, List.findSome?_cons]
  cases (lvl m ext n).find? short <;> rfl
theorem shortFrom_end (h : m ≤ n) : shortFrom m ext short n = none := by
  rw [shortFrom, List.drop_eq_nil_of_le (by simpa using h)]; rfl
end
theorem shortFrom_one {m : Nat} {ext : List Nat → List (List Nat)} (a : List Int) (hm : 0 < m) : shortFrom m ext (shortB a) 1 = firstShort m ext (shortB a) := by
  rw [← shortFrom_zero, shortFrom_at hm]
  have : (lvl m ext 0).find? (shortB a) = none := by
    rw [List.find?_eq_none]
    intro l hl
    rw [lvl, List.mem_map] at hl
    obtain ⟨k, _, rfl⟩ := hl
    rw [short_one]; simp
  rw [this]; rfl
theorem find_drop {short : List Nat → Bool} {P : List (List Nat)} {i : Nat} {l : List Nat} (h : P[i]? = some l) : (P.drop i).find? short = if short l = true then some l else (P.drop (i + 1)).find? short := by
  obtain ⟨hi, e⟩ := List.getElem?_eq_some_iff.1 h
  rw [List.drop_eq_getElem_cons hi, e, List.find?_cons]
  cases short l <;> rfl
end Go.Proofs.Ytefbkdjppfofmaa

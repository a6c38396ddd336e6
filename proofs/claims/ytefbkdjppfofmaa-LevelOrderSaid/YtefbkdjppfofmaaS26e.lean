import Derived.Test.YtefbkdjppfofmaaS26c
import Derived.Test.YtefbkdjppfofmaaS26d
/-! Plain law: chains as lists of numbers; extensions one by one. No statement about the program. -/
namespace Go.Proofs.Ytefbkdjppfofmaa
set_option linter.unusedVariables false

/-- a list of agents as integers -/
def NL (l : List Nat) : List Int := l.map fun (x : Nat) => (x : Int)
theorem NL_length (l : List Nat) : (NL l).length = l.length := by simp [NL]
theorem NL_snoc (l : List Nat) (k : Nat) : NL (l ++ [k]) = NL l ++ [(k : Int)] := by simp [NL]
theorem NL_one (k : Nat) : NL [k] = [(k : Int)] := rfl
theorem NL_at {l : List Nat} {i k : Nat} (h : l[i]? = some k) : (NL l)[i]? = some (k : Int) := by simp [NL, h]
theorem NL_at' {l : List Nat} {i : Nat} {x : Int} (h : (NL l)[i]? = some x) : ∃ k : Nat, x = k ∧ l[i]? = some k := by
  rw [NL, List.getElem?_map] at h
  cases hk : l[i]? with
  | none => rw [hk] at h; cases h
  | some k => rw [hk] at h; cases h; exact ⟨k, rfl, rfl⟩
theorem NL_small {l : List Nat} {m : Nat} (h : ∀ x ∈ l, x < m) : ∀ x ∈ NL l, 0 ≤ x ∧ x < m := by
  intro x hx
  rw [NL, List.mem_map] at hx
  obtain ⟨k, hk, rfl⟩ := hx
  have := h k hk
  omega
theorem NL_any (l : List Nat) (k : Nat) : ((NL l).any fun x => x == (k : Int)) = l.contains k := by
  rw [NL, List.any_map, Bool.eq_iff_iff, List.any_eq_true, List.contains_iff_mem]
  constructor
  · rintro ⟨x, hx, h⟩
    have h1 : (x : Int) = (k : Int) := by simpa using h
    have h2 : x = k := by omega
    exact h2 ▸ hx
  · intro h
    exact ⟨k, h, by simp⟩
/-- the extensions of a chain by the first j agents -/
def extTo (link : Nat → Nat → Bool) (l : List Nat) (j : Nat) : List (List Nat) := ((List.range j).filter fun k => !l.contains k && link (l.getLastD 0) k).map fun k => l ++ [k]
section
variable {link : Nat → Nat → Bool} {l : List Nat} {j : Nat}
theorem extTo_zero : extTo link l 0 = [] := rfl
theorem extTo_all {m : Nat} : extTo link l m = extL m link l := rfl
theorem extTo_yes (h1 : l.contains j = false) (h2 : link (l.getLastD 0) j = true) : extTo link l (j + 1) = extTo link l j ++ [l ++ [j]] := by
  rw [extTo, extTo, List.range_succ, List.filter_append, List.map_append]
  congr 1
  rw [List.filter_cons_of_pos (by rw [h1, h2]; rfl)]; rfl
theorem extTo_no (h : (!l.contains j && link (l.getLastD 0) j) = false) : extTo link l (j + 1) = extTo link l j := by
  rw [extTo, extTo, List.range_succ, List.filter_append, List.map_append, List.filter_cons_of_neg (by rw [h]; simp)]
  simp
theorem extTo_len (h : j ≤ 6) : (extTo link l j).length ≤ 6 := by
  rw [extTo, List.length_map]
  have := List.length_filter_le (fun k => !l.contains k && link (l.getLastD 0) k) (List.range j)
  rw [List.length_range] at this
  omega
end
/-- is the chain short? -/
def shortB (a : List Int) (l : List Nat) : Bool := decide (cntTo a (l.getLastD 0) a.length + 2 ≤ cntTo a (l.headD 0) a.length)
theorem short_one (a : List Int) (k : Nat) : shortB a [k] = false := by
  unfold shortB
  simp
theorem last_at {l : List Nat} (h : 0 < l.length) : l[l.length - 1]? = some (l.getLastD 0) := by
  cases l with
  | nil => simp at h
  | cons x t =>
    rw [List.getLastD_cons, ← List.getLast?_eq_getElem?]
    simp [List.getLast?_cons]
theorem head_at {l : List Nat} (h : 0 < l.length) : l[0]? = some (l.headD 0) := by
  cases l with
  | nil => simp at h
  | cons x t => rfl
theorem mem_last {l : List Nat} (h : 0 < l.length) : l.getLastD 0 ∈ l := List.mem_of_getElem? (last_at h)
theorem mem_head {l : List Nat} (h : 0 < l.length) : l.headD 0 ∈ l := List.mem_of_getElem? (head_at h)
/-- the first short chain by goods from number f on, or nothing -/
def chainN (m : Nat) (link : Nat → Nat → Bool) (a : List Int) : List Nat := (firstShort m (extL m link) (shortB a)).getD []
theorem lvl_zero_snoc {m : Nat} {ext : List Nat → List (List Nat)} : lvl m ext 0 = (List.range m).map fun i => [i] := rfl
theorem ones_snoc (k : Nat) : ((List.range (k + 1)).map fun i => [i]) = ((List.range k).map fun i => [i]) ++ [[k]] := by
  rw [List.range_succ, List.map_append]; rfl
end Go.Proofs.Ytefbkdjppfofmaa

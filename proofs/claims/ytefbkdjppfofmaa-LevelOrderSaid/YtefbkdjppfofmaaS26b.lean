import Derived.Test.YtefbkdjppfofmaaS26a
/-! Plain law: wishes, allocations, counts, passing along a chain. No statement about the program. -/
namespace Go.Proofs.Ytefbkdjppfofmaa
set_option linter.unusedVariables false

/-- does agent i want good g? -/
def wishB (W : List (List Bool)) (i g : Nat) : Bool := (W.getD i []).getD g false
/-- does someone want it? -/
def wishAny (W : List (List Bool)) (g : Nat) : Bool := (List.range W.length).any fun i => wishB W i g
/-- the error of wishes -/
def chk26 (W : List (List Bool)) : Int :=
  if 6 < W.length ∨ W.any (fun l => decide (10 < l.length)) = true then 4
  else if W = [] ∨ W.any (fun l => decide (l.length ≠ (W.getD 0 []).length)) = true then 8 else 0
/-- wishes without error -/
structure VW (m n : Nat) (W : List (List Bool)) : Prop where
  m0 : 0 < m
  m6 : m ≤ 6
  n10 : n ≤ 10
  len : W.length = m
  row : ∀ l ∈ W, l.length = n
theorem chk26_zero {W : List (List Bool)} (h : chk26 W = 0) : ∃ m n, VW m n W := by
  unfold chk26 at h
  split at h
  · exact absurd h (by decide)
  · rename_i h1
    split at h
    · exact absurd h (by decide)
    · rename_i h2
      rw [not_or] at h1 h2
      obtain ⟨a1, a2⟩ := h1
      obtain ⟨b1, b2⟩ := h2
      have hr : ∀ l ∈ W, l.length = (W.getD 0 []).length := by
        intro l hl
        refine Decidable.byContradiction fun hne => b2 (List.any_eq_true.2 ⟨l, hl, by simpa using hne⟩)
      have h10 : ∀ l ∈ W, l.length ≤ 10 := by
        intro l hl
        refine Decidable.byContradiction fun hne => a2 (List.any_eq_true.2 ⟨l, hl, by simp; omega⟩)
      cases W with
      | nil => exact absurd rfl b1
      | cons x t => exact ⟨(x :: t).length, x.length, by simp, by omega, h10 x (by simp), rfl, fun l hl => hr l hl⟩
/-- is this entry of an allocation right? (as the program asks) -/
def rightP (W : List (List Bool)) (g : Nat) (x : Int) : Bool :=
  !(decide (x < -1) || decide ((W.length : Int) ≤ x) || (wishAny W g != decide (0 ≤ x)) || (decide (0 ≤ x) && !wishB W x.toNat g))
/-- as the reference asks -/
def rightR (W : List (List Bool)) (g : Nat) (x : Int) : Bool :=
  !(decide (x < -1) || decide ((W.length : Int) ≤ x) || (decide (0 ≤ x) && !wishB W x.toNat g) || (decide (x < 0) && wishAny W g))
theorem right_eq (W : List (List Bool)) (g : Nat) (x : Int) : rightP W g x = rightR W g x := by
  unfold rightP rightR
  by_cases h1 : x < -1
  · simp [h1]
  · by_cases h2 : (W.length : Int) ≤ x
    · simp [h2]
    · by_cases h3 : 0 ≤ x
      · have h4 : ¬ x < 0 := by omega
        have e1 : decide (x < -1) = false := decide_eq_false h1
        have e2 : decide ((W.length : Int) ≤ x) = false := decide_eq_false h2
        have e3 : decide (0 ≤ x) = true := decide_eq_true h3
        have e4 : decide (x < 0) = false := decide_eq_false h4
        rw [e1, e2, e3, e4]
        cases hw : wishB W x.toNat g
        · cases wishAny W g <;> rfl
        · have : wishAny W g = true := List.any_eq_true.2 ⟨x.toNat, List.mem_range.2 (by omega), hw⟩
          rw [this]; rfl
      · have h4 : x < 0 := by omega
        have e1 : decide (x < -1) = false := decide_eq_false h1
        have e2 : decide ((W.length : Int) ≤ x) = false := decide_eq_false h2
        have e3 : decide (0 ≤ x) = false := decide_eq_false h3
        have e4 : decide (x < 0) = true := decide_eq_true h4
        rw [e1, e2, e3, e4]
        cases wishAny W g <;> cases wishB W x.toNat g <;> rfl
/-- a complete allocation -/
def fullB (W : List (List Bool)) (a : List Int) : Bool := decide (a.length = (W.getD 0 []).length) && (List.range a.length).all fun g => rightR W g (a.getD g 0)
def lkd26 (W : List (List Bool)) (a : List Int) : Int := if chk26 W ≠ 0 then chk26 W else if fullB W a = true then 0 else 8
/-- how many of the first k goods agent i has -/
def cntTo (a : List Int) (i : Nat) : Nat → Nat
  | 0 => 0
  | k + 1 => cntTo a i k + if a.getD k 0 = (i : Int) then 1 else 0
def cntK (a : List Int) (n k : Nat) : List Int := (List.range n).map fun i => (cntTo a i k : Int)
theorem cntK_length (a : List Int) (n k : Nat) : (cntK a n k).length = n := by simp [cntK]
theorem cntK_zero (a : List Int) (n : Nat) : cntK a n 0 = List.replicate n 0 := by
  apply List.ext_getElem
  · simp [cntK]
  · intro i h1 h2; simp [cntK, cntTo]
theorem cntTo_le (a : List Int) (i : Nat) : ∀ k, cntTo a i k ≤ k
  | 0 => by simp [cntTo]
  | k + 1 => by
    have := cntTo_le a i k
    rw [cntTo]
    split <;> omega
theorem cntK_yes {a : List Int} {n k i : Nat} (hi : i < n) (h : a.getD k 0 = (i : Int)) : cntK a n (k + 1) = (cntK a n k).set i ((cntTo a i k : Int) + 1) := by
  apply List.ext_getElem
  · simp [cntK]
  · intro j h1 h2
    rw [List.getElem_set]
    simp only [cntK, List.getElem_map, List.getElem_range, cntTo]
    by_cases hij : i = j
    · subst hij
      rw [if_pos h, if_pos rfl]; omega
    · rw [if_neg hij, if_neg (by rw [h]; omega)]; simp
theorem cntK_no {a : List Int} {n k : Nat} (h : a.getD k 0 < 0) : cntK a n (k + 1) = cntK a n k := by
  apply List.ext_getElem
  · simp [cntK]
  · intro j h1 h2
    simp only [cntK, List.getElem_map, List.getElem_range, cntTo]
    rw [if_neg (by omega)]; simp
/-- is agent p linked to agent q: has p a good that q wants? -/
def linkA (W : List (List Bool)) (a : List Int) (p q : Nat) : Bool := (List.range a.length).any fun g => decide (a.getD g 0 = (p : Int)) && wishB W q g
/-- the first good of p that q wants -/
def goodOf (W : List (List Bool)) (a : List Int) (p q : Nat) : Option Nat := (List.range a.length).find? fun g => decide (a.getD g 0 = (p : Int)) && wishB W q g
/-- passing along a chain -/
def passL (W : List (List Bool)) (a : List Int) : List Nat → List Int → Option (List Int)
  | x :: y :: t, out => match goodOf W a x y with
    | none => none
    | some g => passL W a (y :: t) (out.set g (y : Int))
  | _, out => some out
/-- what has been passed: an entry differs only where it was one of those before -/
def Passed (a out : List Int) (old : List Nat) : Prop := out.length = a.length ∧ ∀ g, g < a.length → out.getD g 0 = a.getD g 0 ∨ ∃ x ∈ old, a.getD g 0 = (x : Int)
theorem Passed.start (a : List Int) : Passed a a [] := ⟨rfl, fun g _ => .inl rfl⟩
theorem Passed.set {a out : List Int} {old : List Nat} (h : Passed a out old) {g x : Nat} (y : Int) (hx : a.getD g 0 = (x : Int)) : Passed a (out.set g y) (old ++ [x]) := by
  refine ⟨by rw [List.length_set]; exact h.1, fun q hq => ?_⟩
  by_cases hgq : g = q
  · subst hgq
    exact .inr ⟨x, by simp, hx⟩
  · rcases h.2 q hq with h1 | ⟨z, hz, h2⟩
    · left
      rw [List.getD_eq_getElem?_getD, List.getElem?_set_ne hgq, ← List.getD_eq_getElem?_getD]; exact h1
    · exact .inr ⟨z, by simp [hz], h2⟩
/-- who is not one of those before still has what it had -/
theorem Passed.still {a out : List Int} {old : List Nat} (h : Passed a out old) {g x : Nat} (hg : g < a.length) (hx : a.getD g 0 = (x : Int)) (hn : x ∉ old) : out.getD g 0 = (x : Int) := by
  rcases h.2 g hg with h1 | ⟨z, hz, h2⟩
  · rw [h1, hx]
  · exfalso
    rw [hx] at h2
    have : x = z := by omega
    exact hn (this ▸ hz)
end Go.Proofs.Ytefbkdjppfofmaa

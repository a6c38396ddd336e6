import Derived.Test.YtefbkdjppfofmaaS26b
/-! Plain law: passing along a chain, by goods from a number on. No statement about the program. -/
namespace Go.Proofs.Ytefbkdjppfofmaa
set_option linter.unusedVariables false

/-- does agent p have good g, and does q want it? -/
def passB (W : List (List Bool)) (a : List Int) (p q g : Nat) : Bool := decide (a.getD g 0 = (p : Int)) && wishB W q g
/-- the first good from number k on that p can pass to q -/
def goodK (W : List (List Bool)) (a : List Int) (p q k : Nat) : Option Nat := ((List.range a.length).drop k).find? (passB W a p q)
section
variable {W : List (List Bool)} {a : List Int} {p q k : Nat}
theorem drop_range {n k : Nat} (h : k < n) : (List.range n).drop k = k :: (List.range n).drop (k + 1) := by
  rw [List.drop_eq_getElem_cons (by simpa using h)]; simp
theorem goodK_yes (hk : k < a.length) (h : passB W a p q k = true) : goodK W a p q k = some k := by
  rw [goodK, drop_range hk, List.find?_cons_of_pos h]
theorem goodK_no (hk : k < a.length) (h : passB W a p q k = false) : goodK W a p q k = goodK W a p q (k + 1) := by
  rw [goodK, drop_range hk, List.find?_cons_of_neg (by simp [h])]; rfl
theorem goodK_end (hk : a.length ≤ k) : goodK W a p q k = none := by
  rw [goodK, List.drop_eq_nil_of_le (by simpa using hk)]; rfl
theorem goodK_some {g : Nat} (h : goodK W a p q k = some g) : g < a.length ∧ passB W a p q g = true := by
  have h1 := List.find?_some h
  have h2 := List.mem_of_find?_eq_some h
  exact ⟨List.mem_range.1 (List.mem_of_mem_drop h2), h1⟩
theorem goodOf_zero : goodOf W a p q = goodK W a p q 0 := rfl
end
/-- passing along a chain, by goods from number f on -/
def passF (W : List (List Bool)) (a : List Int) (f : Nat) : List Nat → List Int → Option (List Int)
  | x :: y :: t, out => match goodK W a x y f with
    | none => none
    | some g => passF W a f (y :: t) (out.set g (y : Int))
  | [_], out => some out
  | [], out => some out
section
variable {W : List (List Bool)} {a out : List Int} {f i : Nat} {P : List Nat}
/-- the rest of the way: from the chain's number i on -/
theorem passF_none {x y : Nat} {t : List Nat} (h : goodK W a x y f = none) : passF W a f (x :: y :: t) out = none := by rw [passF, h]
theorem passF_some {x y g : Nat} {t : List Nat} (h : goodK W a x y f = some g) : passF W a f (x :: y :: t) out = passF W a f (y :: t) (out.set g (y : Int)) := by rw [passF, h]
theorem passF_short (h : P.length ≤ 1) : passF W a f P out = some out := by
  match P, h with
  | [], _ => rfl
  | [_], _ => rfl
  | _ :: _ :: _, h => simp at h
theorem drop_two {x y : Nat} (hx : P[i]? = some x) (hy : P[i + 1]? = some y) : P.drop i = x :: y :: P.drop (i + 2) := by
  obtain ⟨h1, e1⟩ := List.getElem?_eq_some_iff.1 hx
  obtain ⟨h2, e2⟩ := List.getElem?_eq_some_iff.1 hy
  rw [List.drop_eq_getElem_cons h1, List.drop_eq_getElem_cons h2, e1, e2]
theorem drop_one {y : Nat} (hy : P[i + 1]? = some y) : P.drop (i + 1) = y :: P.drop (i + 2) := by
  obtain ⟨h2, e2⟩ := List.getElem?_eq_some_iff.1 hy
  rw [List.drop_eq_getElem_cons h2, e2]
/-- one step of the way -/
theorem passF_at {x y : Nat} (hx : P[i]? = some x) (hy : P[i + 1]? = some y) : passF W a f (P.drop i) out = match goodK W a x y f with
    | none => none
    | some g => passF W a f (P.drop (i + 1)) (out.set g (y : Int)) := by
  rw [drop_two hx hy, drop_one hy]; rfl
end
end Go.Proofs.Ytefbkdjppfofmaa

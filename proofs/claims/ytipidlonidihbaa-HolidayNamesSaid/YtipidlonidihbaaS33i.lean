import Derived.Test.YtipidlonidihbaaS33f
/-! Plain functions: a calendar, and how often agents had a place. No statement about the program. -/
namespace Go.Proofs.Ytipidlonidihbaa
set_option linter.unusedVariables false

/-- the calendar: the error, who had places so far, the credits -/
def runGo : List Int → List (List Int) → List (Int × List Int) → Int × List (List Int) × List Int
  | A, F, [] => (0, F, A)
  | A, F, h :: t => if gvE A h.2 h.1 ≠ 0 then (gvE A h.2 h.1, [], []) else runGo (gvA A h.2 h.1) (F ++ [gvF A h.2 h.1]) t
theorem runGo_err {A : List Int} {F : List (List Int)} {m : Int} {B : List Int} {t : List (Int × List Int)} (h : gvE A B m ≠ 0) : runGo A F ((m, B) :: t) = (gvE A B m, [], []) := by
  rw [runGo, if_pos h]
theorem runGo_ok {A : List Int} {F : List (List Int)} {m : Int} {B : List Int} {t : List (Int × List Int)} (h : gvE A B m = 0) : runGo A F ((m, B) :: t) = runGo (gvA A B m) (F ++ [gvF A B m]) t := by
  rw [runGo, if_neg (by simpa using h)]
def runV (C : List Int) (HL : List (Int × List Int)) : Int × List (List Int) × List Int :=
  if hck C ≠ 0 then (hck C, [], []) else if 400 < HL.length then (4, [], []) else runGo C [] HL
theorem runV_bad {C : List Int} {HL : List (Int × List Int)} (h : hck C ≠ 0) : runV C HL = (hck C, [], []) := by rw [runV, if_pos h]
theorem runV_many {C : List Int} {HL : List (Int × List Int)} (h : hck C = 0) (h2 : 400 < HL.length) : runV C HL = (4, [], []) := by rw [runV, if_neg (by simpa using h), if_pos h2]
theorem runV_go {C : List Int} {HL : List (Int × List Int)} (h : hck C = 0) (h2 : ¬ 400 < HL.length) : runV C HL = runGo C [] HL := by rw [runV, if_neg (by simpa using h), if_neg h2]

/-- one row of Had: the counts, the last agent -/
def hadRow (n : Nat) : List Int → Int → List Int → Option (List Int)
  | O, _, [] => some O
  | O, last, a :: t => if a ≤ last ∨ (n : Int) ≤ a then none else hadRow n (O.set a.toNat (O.getD a.toNat 0 + 1)) a t
def hadGo (n : Nat) : List Int → List (List Int) → Option (List Int)
  | O, [] => some O
  | O, r :: t => match hadRow n O (-1) r with
    | none => none
    | some O' => hadGo n O' t
theorem hadRow_no {n : Nat} {O : List Int} {last a : Int} {t : List Int} (h : a ≤ last ∨ (n : Int) ≤ a) : hadRow n O last (a :: t) = none := by rw [hadRow, if_pos h]
theorem hadRow_yes {n : Nat} {O : List Int} {last a : Int} {t : List Int} (h : ¬ (a ≤ last ∨ (n : Int) ≤ a)) : hadRow n O last (a :: t) = hadRow n (O.set a.toNat (O.getD a.toNat 0 + 1)) a t := by rw [hadRow, if_neg h]
theorem hadGo_no {n : Nat} {O r : List Int} {t : List (List Int)} (h : hadRow n O (-1) r = none) : hadGo n O (r :: t) = none := by rw [hadGo, h]
theorem hadGo_yes {n : Nat} {O O' r : List Int} {t : List (List Int)} (h : hadRow n O (-1) r = some O') : hadGo n O (r :: t) = hadGo n O' t := by rw [hadGo, h]
def hadS (n : Int) (F : List (List Int)) : Option (List Int) := hadGo n.toNat (List.replicate n.toNat 0) F
def hadE (n : Int) (F : List (List Int)) : Int := if n < 1 ∨ 12 < n then 2 else if 400 < F.length then 4 else if hadS n F = none then 8 else 0
def hadV (n : Int) (F : List (List Int)) : List Int := if hadE n F = 0 then (hadS n F).getD [] else []
theorem hadE_arg {n : Int} {F : List (List Int)} (h : n < 1 ∨ 12 < n) : hadE n F = 2 ∧ hadV n F = [] := by
  have h1 : hadE n F = 2 := by rw [hadE, if_pos h]
  exact ⟨h1, by rw [hadV, h1, if_neg (by decide)]⟩
theorem hadE_many {n : Int} {F : List (List Int)} (h : ¬ (n < 1 ∨ 12 < n)) (h2 : 400 < F.length) : hadE n F = 4 ∧ hadV n F = [] := by
  have h1 : hadE n F = 4 := by rw [hadE, if_neg h, if_pos h2]
  exact ⟨h1, by rw [hadV, h1, if_neg (by decide)]⟩
theorem hadE_bad {n : Int} {F : List (List Int)} (h : ¬ (n < 1 ∨ 12 < n)) (h2 : ¬ 400 < F.length) (h3 : hadS n F = none) : hadE n F = 8 ∧ hadV n F = [] := by
  have h1 : hadE n F = 8 := by rw [hadE, if_neg h, if_neg h2, if_pos h3]
  exact ⟨h1, by rw [hadV, h1, if_neg (by decide)]⟩
theorem hadE_ok {n : Int} {F : List (List Int)} {O : List Int} (h : ¬ (n < 1 ∨ 12 < n)) (h2 : ¬ 400 < F.length) (h3 : hadS n F = some O) : hadE n F = 0 ∧ hadV n F = O := by
  have h1 : hadE n F = 0 := by rw [hadE, if_neg h, if_neg h2, if_neg (by rw [h3]; simp)]
  exact ⟨h1, by rw [hadV, h1, if_pos rfl, h3]; rfl⟩
end Go.Proofs.Ytipidlonidihbaa

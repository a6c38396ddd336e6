import Derived.Test.YtjgobpejifhphaaBase2
/-! Plain: stable insertion, as lists. -/
namespace Go.Proofs.Ytjgobpejifhphaa
set_option linter.unusedVariables false

/-- v goes into a list that is given from its end on: it passes all that it is less than -/
def insRev (lt : Int → Int → Bool) (v : Int) : List Int → List Int
  | [] => [v]
  | x :: t => if lt v x then x :: insRev lt v t else v :: x :: t
theorem insRev_yes {lt : Int → Int → Bool} {v x : Int} {t : List Int} (h : lt v x = true) : insRev lt v (x :: t) = x :: insRev lt v t := by rw [insRev, if_pos h]
theorem insRev_no {lt : Int → Int → Bool} {v x : Int} {t : List Int} (h : lt v x = false) : insRev lt v (x :: t) = v :: x :: t := by rw [insRev, if_neg (by simp [h])]
/-- the list sorted so far, from its end on -/
def isRev (lt : Int → Int → Bool) : List Int → List Int → List Int
  | R, [] => R
  | R, v :: t => isRev lt (insRev lt v R) t
def isort (lt : Int → Int → Bool) (D : List Int) : List Int := (isRev lt [] D).reverse
theorem insRev_length (lt : Int → Int → Bool) (v : Int) : ∀ X, (insRev lt v X).length = X.length + 1
  | [] => rfl
  | x :: t => by
    unfold insRev
    split
    · simp [insRev_length lt v t]
    · simp
theorem insRev_mem {lt : Int → Int → Bool} {v y : Int} : ∀ {X : List Int}, y ∈ insRev lt v X ↔ y = v ∨ y ∈ X
  | [] => by simp [insRev]
  | x :: t => by
    unfold insRev
    split
    · simp only [List.mem_cons, insRev_mem (X := t)]
      constructor
      · rintro (h | h | h) <;> simp [h]
      · rintro (h | h | h) <;> simp [h]
    · simp
theorem isRev_snoc (lt : Int → Int → Bool) (v : Int) : ∀ (L R : List Int), isRev lt R (L ++ [v]) = insRev lt v (isRev lt R L)
  | [], R => rfl
  | x :: t, R => by simp only [List.cons_append, isRev]; exact isRev_snoc lt v t _
theorem isRev_length (lt : Int → Int → Bool) : ∀ (L R : List Int), (isRev lt R L).length = R.length + L.length
  | [], R => by simp [isRev]
  | x :: t, R => by simp only [isRev, isRev_length lt t, insRev_length, List.length_cons]; omega
theorem isRev_mem {lt : Int → Int → Bool} {y : Int} : ∀ {L R : List Int}, y ∈ isRev lt R L ↔ y ∈ R ∨ y ∈ L
  | [], R => by simp [isRev]
  | x :: t, R => by
    simp only [isRev, isRev_mem (L := t), insRev_mem, List.mem_cons]
    constructor
    · rintro ((h | h) | h) <;> simp [h]
    · rintro (h | h | h) <;> simp [h]
theorem isort_length (lt : Int → Int → Bool) (D : List Int) : (isort lt D).length = D.length := by simp [isort, isRev_length]
theorem isort_mem {lt : Int → Int → Bool} {y : Int} {D : List Int} : y ∈ isort lt D ↔ y ∈ D := by simp [isort, isRev_mem]

/-- the data in the inner loop: v stands behind X; what it has passed, Y (nearest first), behind it; then the rest -/
structure InsAt (lt : Int → Int → Bool) (D R : List Int) (i j : Nat) (v : Int) (X Y rest : List Int) : Prop where
  eq : D = X.reverse ++ v :: (Y.reverse ++ rest)
  len : X.length = j
  all : X.length + Y.length = i
  res : insRev lt v R = Y ++ insRev lt v X
theorem InsAt.start {lt : Int → Int → Bool} {R rest : List Int} {v : Int} : InsAt lt (R.reverse ++ v :: rest) R R.length R.length v R [] rest := ⟨by simp, rfl, by simp, rfl⟩
theorem InsAt.cells {lt : Int → Int → Bool} {D R X Y rest : List Int} {i j : Nat} {v x : Int} (h : InsAt lt D R i (j + 1) v (x :: X) Y rest) : D[j + 1]? = some v ∧ D[j]? = some x := by
  have hl : X.length = j := by have := h.len; simpa using this
  have e := h.eq
  rw [List.reverse_cons, List.append_assoc] at e
  rw [e]
  constructor
  · rw [List.getElem?_append_right (by simp; omega)]; simp [hl]
  · rw [List.getElem?_append_right (by simp; omega)]; simp [hl]
theorem InsAt.swap {lt : Int → Int → Bool} {D R X Y rest : List Int} {i j : Nat} {v x : Int} (h : InsAt lt D R i (j + 1) v (x :: X) Y rest) (hlt : lt v x = true) :
    InsAt lt ((D.set (j + 1) x).set j v) R i j v X (Y ++ [x]) rest := by
  have hl : X.length = j := by have := h.len; simpa using this
  have e := h.eq
  rw [List.reverse_cons, List.append_assoc] at e
  refine ⟨?_, hl, by have := h.all; simp at this ⊢; omega, ?_⟩
  · rw [e, List.set_append_right _ _ (by simp; omega), List.set_append_right _ _ (by simp; omega)]
    simp [hl]
  · rw [h.res, insRev_yes hlt]; simp
theorem InsAt.done {lt : Int → Int → Bool} {D R X Y rest : List Int} {i j : Nat} {v : Int} (h : InsAt lt D R i j v X Y rest) (hs : X = [] ∨ ∃ x t, X = x :: t ∧ lt v x = false) :
    D = (insRev lt v R).reverse ++ rest := by
  rw [h.res, h.eq]
  rcases hs with rfl | ⟨x, t, rfl, hf⟩
  · simp [insRev]
  · rw [insRev_no hf]; simp
end Go.Proofs.Ytjgobpejifhphaa

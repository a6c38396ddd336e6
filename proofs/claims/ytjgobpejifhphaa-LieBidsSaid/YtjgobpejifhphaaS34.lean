import Derived.Test.YtjgobpejifhphaaBase
/-! The plain functions that the functions of chapter 34 compute. No statement about the program. -/
namespace Go.Proofs.Ytjgobpejifhphaa
set_option linter.unusedVariables false

def chkGo : Int → List Int → Int → Int
  | _, [], fin => fin
  | left, x :: t, fin => if x < 1 ∨ left < x then 8 else chkGo (left - x) t fin
/-- the error of shares -/
def chk (L : List Int) : Int := if 10 < L.length then 4 else chkGo 1000 L (if L.length < 2 then 8 else 0)
def sumL : List Int → Int
  | [] => 0
  | x :: t => x + sumL t

theorem chkGo_cons (left x fin : Int) (t : List Int) : chkGo left (x :: t) fin = if x < 1 ∨ left < x then 8 else chkGo (left - x) t fin := rfl
theorem chkGo_no {left x fin : Int} {t : List Int} (h : x < 1 ∨ left < x) : chkGo left (x :: t) fin = 8 := by rw [chkGo_cons, if_pos h]
theorem chkGo_yes {left x fin : Int} {t : List Int} (h1 : ¬ x < 1) (h2 : ¬ left < x) : chkGo left (x :: t) fin = chkGo (left - x) t fin := by rw [chkGo_cons, if_neg (by omega)]
theorem chk_many {L : List Int} (h : 10 < L.length) : chk L = 4 := by rw [chk, if_pos h]
theorem chk_go {L : List Int} (h : ¬ 10 < L.length) : chkGo 1000 L (if L.length < 2 then 8 else 0) = chk L := by rw [chk, if_neg h]

/-- what valid shares are -/
theorem chkGo_ok {left fin : Int} : ∀ {L : List Int}, chkGo left L fin = 0 → (∀ x ∈ L, 1 ≤ x) ∧ sumL L ≤ max left 0 ∧ 0 ≤ sumL L ∧ fin = 0 := by
  intro L
  induction L generalizing left with
  | nil => intro h; exact ⟨by simp, by simp [sumL]; omega, by simp [sumL], h⟩
  | cons x t ih =>
    intro h
    rw [chkGo_cons] at h
    split at h
    · exact absurd h (by decide)
    · obtain ⟨h1, h2, h3, h4⟩ := ih h
      refine ⟨?_, by simp only [sumL]; omega, by simp only [sumL]; omega, h4⟩
      intro y hy
      rcases List.mem_cons.1 hy with rfl | hy
      · omega
      · exact h1 y hy
structure Valid (L : List Int) : Prop where
  two : 2 ≤ L.length
  ten : L.length ≤ 10
  pos : ∀ x ∈ L, 1 ≤ x
  sum : sumL L ≤ 1000
theorem chk_ok {L : List Int} (h : chk L = 0) : Valid L := by
  unfold chk at h
  split at h
  · exact absurd h (by decide)
  · obtain ⟨h1, h2, h3, h4⟩ := chkGo_ok h
    refine ⟨?_, by omega, h1, by omega⟩
    split at h4
    · exact absurd h4 (by decide)
    · omega
theorem sumL_le {L : List Int} (h : ∀ x ∈ L, 1 ≤ x) : (L.length : Int) ≤ sumL L := by
  induction L with
  | nil => simp [sumL]
  | cons x t ih =>
    have h1 := h x (by simp)
    have h2 := ih fun y hy => h y (List.mem_cons_of_mem _ hy)
    simp only [sumL, List.length_cons]
    omega
end Go.Proofs.Ytjgobpejifhphaa

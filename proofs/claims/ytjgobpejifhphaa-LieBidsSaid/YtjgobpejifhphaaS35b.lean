import Derived.Test.YtjgobpejifhphaaW33l
/-! Plain law: the best bid. -/
namespace Go.Proofs.Ytjgobpejifhphaa
open Go.RowKit
set_option linter.unusedVariables false

theorem hlk_with {C B : List Int} {a : Nat} {v : Int} (h : hlk C B = 0) (h0 : 0 ≤ v) (h1 : v ≤ 1000000) : hlk C (B.set a v) = 0 := by
  have hV := hlk_ok h
  refine hlk_yes (hlk_hck h) (by simp [hV.len]) ?_
  rw [List.any_eq_false]
  intro x hx
  rcases List.mem_or_eq_of_mem_set hx with hx | rfl
  · have := hV.bd x hx
    simp [badBid]; omega
  · simp [badBid]; omega
theorem freeL_mem {C B : List Int} {m a : Nat} (ha : a < B.length) : (a : Int) ∈ freeL C B m ↔ place C B a < m := by
  simp only [freeL, List.mem_map, List.mem_filter, List.mem_range, decide_eq_true_eq]
  constructor
  · rintro ⟨i, ⟨hi, hp⟩, e⟩
    obtain rfl : i = a := by omega
    exact hp
  · intro h
    exact ⟨a, ⟨ha, h⟩, rfl⟩
theorem fK_count (C B : List Int) (m a : Nat) : ∀ k : Nat, (fK C B m k).countP (fun x => decide (x = (a : Int))) = if a < k ∧ place C B a < m then 1 else 0 := by
  intro k
  induction k with
  | zero => simp [fK]
  | succ k ih =>
    by_cases hm : place C B k < m
    · rw [fK_yes hm, List.countP_append, ih]
      by_cases e : k = a
      · subst e
        rw [if_neg (by omega), if_pos ⟨by omega, hm⟩]
        simp
      · have h1 : [(k : Int)].countP (fun x => decide (x = (a : Int))) = 0 := by simp; omega
        rw [h1]
        by_cases h2 : a < k ∧ place C B a < m
        · rw [if_pos h2, if_pos ⟨by omega, h2.2⟩]
        · rw [if_neg h2, if_neg (by rintro ⟨h3, h4⟩; exact h2 ⟨by omega, h4⟩)]
    · rw [fK_no hm, ih]
      by_cases e : k = a
      · subst e
        rw [if_neg (by omega), if_neg (by rintro ⟨_, h⟩; exact hm h)]
      · by_cases h2 : a < k ∧ place C B a < m
        · rw [if_pos h2, if_pos ⟨by omega, h2.2⟩]
        · rw [if_neg h2, if_neg (by rintro ⟨h3, h4⟩; exact h2 ⟨by omega, h4⟩)]
theorem freeL_count {C B : List Int} {m a : Nat} (ha : a < B.length) : (freeL C B m).countP (fun x => decide (x = (a : Int))) = if place C B a < m then 1 else 0 := by
  rw [← fK_all, fK_count]
  by_cases h : place C B a < m
  · rw [if_pos h, if_pos ⟨ha, h⟩]
  · rw [if_neg h, if_neg (by rintro ⟨_, h2⟩; exact h h2)]

/-- a bid counts if the holiday goes well -/
def bidOk (C B : List Int) (m a : Nat) (b : Int) : Bool := decide (gvE C (B.set a b) m = 0)
def bidG (C B : List Int) (m a : Nat) (wv b : Int) : Int := after C (B.set a b) m a - C.getD a 0 + if place C (B.set a b) a < m then wv else 0
/-- the best of the bids from k on -/
def bidUp (ok : Int → Bool) (g : Int → Int) (k : Int) (s : Option (Int × Int)) : Option (Int × Int) :=
  if ok k = true ∧ (∀ p, s = some p → p.2 < g k) then some (k, g k) else s
def bidGo (ok : Int → Bool) (g : Int → Int) : Nat → Int → Option (Int × Int) → Option (Int × Int)
  | 0, _, s => s
  | n + 1, k, s => bidGo ok g n (k + 1) (bidUp ok g k s)
theorem bidUp_no {ok : Int → Bool} {g : Int → Int} {k : Int} {s : Option (Int × Int)} (h : ok k = false) : bidUp ok g k s = s := by
  rw [bidUp, if_neg]; simp [h]
theorem bidUp_first {ok : Int → Bool} {g : Int → Int} {k : Int} (h : ok k = true) : bidUp ok g k none = some (k, g k) := by
  rw [bidUp, if_pos ⟨h, by intro p hp; cases hp⟩]
theorem bidUp_more {ok : Int → Bool} {g : Int → Int} {k b v : Int} (h : ok k = true) (h2 : v < g k) : bidUp ok g k (some (b, v)) = some (k, g k) := by
  rw [bidUp, if_pos ⟨h, by intro p hp; cases hp; exact h2⟩]
theorem bidUp_less {ok : Int → Bool} {g : Int → Int} {k b v : Int} (h2 : ¬ v < g k) : bidUp ok g k (some (b, v)) = some (b, v) := by
  rw [bidUp, if_neg]
  rintro ⟨_, h⟩
  exact h2 (h _ rfl)
def badBidArg (n : Nat) (a wv top : Int) : Prop := a < 0 ∨ (n : Int) ≤ a ∨ wv < 0 ∨ 1000000 < wv ∨ top < 0 ∨ 300 < top
instance (n : Nat) (a wv top : Int) : Decidable (badBidArg n a wv top) := by unfold badBidArg; infer_instance
def bdS (C B : List Int) (m a wv top : Int) : Option (Int × Int) := bidGo (bidOk C B m.toNat a.toNat) (bidG C B m.toNat a.toNat wv) (top + 1).toNat 0 none
def bdE (C B : List Int) (m a wv top : Int) : Int :=
  if pcE C B m ≠ 0 then pcE C B m else if badBidArg C.length a wv top then 2 else if bdS C B m a wv top = none then 6 else 0
def bdR (C B : List Int) (m a wv top : Int) : Int × Int := if bdE C B m a wv top ≠ 0 then (0, 0) else (bdS C B m a wv top).getD (0, 0)
theorem bdE_pc {C B : List Int} {m a wv top : Int} (h : pcE C B m ≠ 0) : bdE C B m a wv top = pcE C B m := by rw [bdE, if_pos h]
theorem bdE_arg {C B : List Int} {m a wv top : Int} (h : pcE C B m = 0) (h2 : badBidArg C.length a wv top) : bdE C B m a wv top = 2 := by rw [bdE, if_neg (by simp [h]), if_pos h2]
theorem bdE_none {C B : List Int} {m a wv top : Int} (h : pcE C B m = 0) (h2 : ¬ badBidArg C.length a wv top) (h3 : bdS C B m a wv top = none) : bdE C B m a wv top = 6 := by
  rw [bdE, if_neg (by simp [h]), if_neg h2, if_pos h3]
theorem bdE_ok {C B : List Int} {m a wv top : Int} (h : pcE C B m = 0) (h2 : ¬ badBidArg C.length a wv top) (h3 : bdS C B m a wv top ≠ none) : bdE C B m a wv top = 0 := by
  rw [bdE, if_neg (by simp [h]), if_neg h2, if_neg h3]
theorem bdR_no {C B : List Int} {m a wv top : Int} (h : bdE C B m a wv top ≠ 0) : bdR C B m a wv top = (0, 0) := by rw [bdR, if_pos h]
theorem bdR_ok {C B : List Int} {m a wv top : Int} {p : Int × Int} (h : bdE C B m a wv top = 0) (h2 : bdS C B m a wv top = some p) : bdR C B m a wv top = p := by
  rw [bdR, if_neg (by simp [h]), h2]; rfl
end Go.Proofs.Ytjgobpejifhphaa

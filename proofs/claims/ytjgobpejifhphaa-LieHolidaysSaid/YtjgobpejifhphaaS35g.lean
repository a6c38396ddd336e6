import Derived.Test.YtjgobpejifhphaaM35d
/-! Plain law: the best bid. No statement about the program. -/
namespace Go.Proofs.Ytjgobpejifhphaa
set_option linter.unusedVariables false

/-- what is held of the bids below k -/
def BidAt (ok : Int → Bool) (f : Int → Int) (k : Int) (s : Option (Int × Int)) : Prop :=
  (s = none ∧ ∀ j, 0 ≤ j → j < k → ok j = false) ∨ ∃ b g, s = some (b, g) ∧ 0 ≤ b ∧ b < k ∧ ok b = true ∧ g = f b ∧ ∀ j, 0 ≤ j → j < k → ok j = true → f j ≤ g ∧ (f j = g → b ≤ j)
theorem bidUp_at {ok : Int → Bool} {f : Int → Int} {k : Int} {s : Option (Int × Int)} (hk : 0 ≤ k) (h : BidAt ok f k s) : BidAt ok f (k + 1) (bidUp ok f k s) := by
  cases hok : ok k
  · rw [bidUp_no hok]
    rcases h with ⟨rfl, h⟩ | ⟨b, g, rfl, h1, h2, h3, h4, h5⟩
    · refine .inl ⟨rfl, fun j h0 h1 => ?_⟩
      by_cases e : j = k
      · rw [e]; exact hok
      · exact h j h0 (by omega)
    · refine .inr ⟨b, g, rfl, h1, by omega, h3, h4, fun j h6 h7 h8 => ?_⟩
      by_cases e : j = k
      · subst e; rw [hok] at h8; cases h8
      · exact h5 j h6 (by omega) h8
  · rcases h with ⟨rfl, h⟩ | ⟨b, g, rfl, h1, h2, h3, h4, h5⟩
    · rw [bidUp_first hok]
      refine .inr ⟨k, f k, rfl, hk, by omega, hok, rfl, fun j h6 h7 h8 => ?_⟩
      by_cases e : j = k
      · subst e; exact ⟨Int.le_refl _, fun _ => Int.le_refl _⟩
      · rw [h j h6 (by omega)] at h8; cases h8
    · by_cases hg : g < f k
      · rw [bidUp_more hok hg]
        refine .inr ⟨k, f k, rfl, hk, by omega, hok, rfl, fun j h6 h7 h8 => ?_⟩
        by_cases e : j = k
        · subst e; exact ⟨Int.le_refl _, fun _ => Int.le_refl _⟩
        · have := (h5 j h6 (by omega) h8).1
          omega
      · rw [bidUp_less hg]
        refine .inr ⟨b, g, rfl, h1, by omega, h3, h4, fun j h6 h7 h8 => ?_⟩
        by_cases e : j = k
        · subst e; omega
        · exact h5 j h6 (by omega) h8
theorem bidGo_at {ok : Int → Bool} {f : Int → Int} : ∀ (n : Nat) (k : Int) (s : Option (Int × Int)), 0 ≤ k → BidAt ok f k s → BidAt ok f (k + n) (bidGo ok f n k s)
  | 0, k, s, hk, h => by rw [bidGo]; simpa using h
  | n + 1, k, s, hk, h => by
    rw [bidGo, show k + ((n + 1 : Nat) : Int) = (k + 1) + (n : Int) by omega]
    exact bidGo_at n (k + 1) _ (by omega) (bidUp_at hk h)
/-- what the statement on the best bid asks -/
theorem bid_law {C B : List Int} {m a : Nat} {wv : Int} (hl : hlk C B = 0) (hm : m ≤ C.length) (ha : a < C.length) (h0 : 0 ≤ wv) (h1 : wv ≤ 1000000) :
    (bdE C B m a wv 60 = 6 ∧ ∀ j, 0 ≤ j → j ≤ 60 → bidOk C B m a j = false) ∨
    (bdE C B m a wv 60 = 0 ∧ ∃ b g, bdR C B m a wv 60 = (b, g) ∧ 0 ≤ b ∧ b ≤ 60 ∧ bidOk C B m a b = true ∧ g = bidG C B m a wv b ∧ ∀ j, 0 ≤ j → j ≤ 60 → bidOk C B m a j = true → bidG C B m a wv j ≤ g ∧ (bidG C B m a wv j = g → b ≤ j)) := by
  have hp := pcE_ok (C := C) (B := B) (m := (m : Int)) hl (by omega)
  have hb : ¬ badBidArg C.length (a : Int) wv 60 := by unfold badBidArg; omega
  have hS : bdS C B m a wv 60 = bidGo (bidOk C B m a) (bidG C B m a wv) 61 0 none := by rw [bdS, Int.toNat_natCast, Int.toNat_natCast]; rfl
  have hat := bidGo_at (ok := bidOk C B m a) (f := bidG C B m a wv) 61 0 none (by omega) (.inl ⟨rfl, fun j h0 h1 => by omega⟩)
  rw [← hS] at hat
  rcases hat with ⟨e, h⟩ | ⟨b, g, e, h2, h3, h4, h5, h6⟩
  · exact .inl ⟨bdE_none hp hb e, fun j h2 h3 => h j h2 (by omega)⟩
  · have he := bdE_ok hp hb (by rw [e]; simp)
    exact .inr ⟨he, b, g, bdR_ok he e, h2, by omega, h4, h5, fun j h7 h8 => h6 j h7 (by omega)⟩
theorem hlk_of {C B : List Int} (h : hck C = 0) (h2 : bidsOk B C.length = true) : hlk C B = 0 := by
  rw [bidsOk, Bool.and_eq_true, decide_eq_true_iff] at h2
  exact hlk_yes h (by omega) (by simpa using h2.1)
end Go.Proofs.Ytjgobpejifhphaa

import Derived.Test.YtkoipecnmijfoaaGreatM35b
import Derived.Test.YtkoipecnmijfoaaGreatM35c
/-! Plain law: the best offer. No statement about the program. -/
namespace Go.Proofs.YtkoipecnmijfoaaGreat
set_option linter.unusedVariables false

/-- the first of the best numbers below k -/
def BestN (f : Int → Int) (k : Int) (r : Int × Int) : Prop := 0 ≤ r.1 ∧ r.1 < k ∧ r.2 = f r.1 ∧ ∀ j, 0 ≤ j → j < k → f j ≤ r.2 ∧ (f j = r.2 → r.1 ≤ j)
theorem offGo_best {f : Int → Int} : ∀ (n : Nat) (k b g : Int), (k = 0 ∧ 0 < n ∨ 0 < k ∧ BestN f k (b, g)) → BestN f (k + n) (offGo f n k b g)
  | 0, k, b, g, h => by
    rcases h with ⟨_, h⟩ | ⟨_, h⟩
    · omega
    · rw [offGo]; simpa using h
  | n + 1, k, b, g, h => by
    by_cases hy : k = 0 ∨ g < f k
    · rw [offGo_yes hy, show k + ((n + 1 : Nat) : Int) = (k + 1) + (n : Int) by omega]
      refine offGo_best n (k + 1) k (f k) (.inr ⟨by rcases h with h | h <;> omega, by rcases h with h | h <;> (simp only; omega), by simp only; omega, rfl, fun j h0 h1 => ?_⟩)
      rcases h with ⟨h, _⟩ | ⟨hk, h1', h2, h3, h4⟩
      · obtain rfl : j = k := by omega
        exact ⟨Int.le_refl _, fun _ => Int.le_refl _⟩
      · by_cases e : j = k
        · subst e
          exact ⟨Int.le_refl _, fun _ => Int.le_refl _⟩
        · have := (h4 j h0 (by omega)).1
          simp only at this ⊢
          omega
    · rw [offGo_no hy, show k + ((n + 1 : Nat) : Int) = (k + 1) + (n : Int) by omega]
      rw [not_or] at hy
      rcases h with ⟨h, _⟩ | ⟨hk, h1', h2, h3, h4⟩
      · omega
      · refine offGo_best n (k + 1) b g (.inr ⟨by omega, h1', by simp only at h2 ⊢; omega, h3, fun j h0 h1 => ?_⟩)
        by_cases e : j = k
        · subst e
          simp only at h2 ⊢
          omega
        · exact h4 j h0 (by omega)
/-- another valid offer -/
theorem lok_set {L O : List Int} (h : lok L O = 0) (p : Nat) {o : Int} (h0 : 0 ≤ o) (h1 : o ≤ 1000000) : lok L (O.set p o) = 0 := by
  rw [lok] at h
  split at h
  · rename_i h2; exact absurd h h2
  · rename_i h2
    split at h
    · exact absurd h (by decide)
    · rename_i h3
      rw [not_or] at h3
      refine lok_yes (by simpa using h2) (by rw [List.length_set]; omega) ?_
      rw [List.any_eq_false]
      intro x hx
      rcases List.mem_or_eq_of_mem_set hx with hx | rfl
      · have := h3.2
        rw [Bool.not_eq_true, List.any_eq_false] at this
        exact this x hx
      · rw [badOffer, decide_eq_false (by omega), decide_eq_false (by omega)]; simp
theorem lok_len0 {L O : List Int} (h : lok L O = 0) : O.length = L.length := by
  rw [lok] at h
  split at h
  · rename_i h2; exact absurd h h2
  · split at h
    · exact absurd h (by decide)
    · rename_i h3
      rw [not_or] at h3
      omega
theorem gE_set {L O : List Int} (h : lok L O = 0) {r wv : Int} {p : Nat} (hr : r = 0 ∨ r = 1) (hp : p < L.length) (hw0 : 0 ≤ wv) (hw1 : wv ≤ 1000000) {o : Int} (h0 : 0 ≤ o) (h1 : o ≤ 1000000) : gE L (O.set p o) r p wv = 0 :=
  gE_ok (sE_ok (lok_set h p h0 h1) hr) (by unfold badGain; omega)
theorem gE_valid {L O : List Int} (h : lok L O = 0) {r wv : Int} {p : Nat} (hr : r = 0 ∨ r = 1) (hp : p < L.length) (hw0 : 0 ≤ wv) (hw1 : wv ≤ 1000000) : gE L O r p wv = 0 :=
  gE_ok (sE_ok h hr) (by unfold badGain; omega)
/-- what the statement on the best offer asks -/
theorem offer_law {L O : List Int} (h : lok L O = 0) {r wv : Int} {p : Nat} (hr : r = 0 ∨ r = 1) (hp : p < L.length) (hw0 : 0 ≤ wv) (hw1 : wv ≤ 1000000) {top : Int} (ht0 : 0 ≤ top) (ht1 : top ≤ 300) :
    ofE L O r p wv top = 0 ∧ 0 ≤ (ofR L O r p wv top).1 ∧ (ofR L O r p wv top).1 ≤ top ∧ gV L (O.set p (ofR L O r p wv top).1) r p wv = (ofR L O r p wv top).2 ∧
      ∀ o, 0 ≤ o → o ≤ top → gV L (O.set p o) r p wv ≤ (ofR L O r p wv top).2 ∧ (gV L (O.set p o) r p wv = (ofR L O r p wv top).2 → (ofR L O r p wv top).1 ≤ o) := by
  have he := ofE_ok (top := top) (gE_valid h hr hp hw0 hw1) (by omega)
  have hf : ∀ o, lieGain L O r p wv o = gV L (O.set p o) r p wv := fun o => by rw [lieGain, Int.toNat_natCast]
  rw [ofR_ok he]
  obtain ⟨h1, h2, h3, h4⟩ := offGo_best (f := lieGain L O r p wv) (top + 1).toNat 0 0 0 (.inl ⟨rfl, by omega⟩)
  rw [hf] at h3
  refine ⟨he, h1, by omega, h3.symm, fun o h5 h6 => ?_⟩
  have := h4 o h5 (by omega)
  rw [hf] at this
  exact this
end Go.Proofs.YtkoipecnmijfoaaGreat

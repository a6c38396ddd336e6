import Derived.Test.YtjgobpejifhphaaW34f
/-! Plain facts on the greatest offer. -/
namespace Go.Proofs.Ytjgobpejifhphaa
set_option linter.unusedVariables false

/-- what has been found among the first k offers -/
structure BInv (O : List Int) (but : Int) (k : Nat) (f fv : Int) : Prop where
  none_ : f < 0 → ∀ j : Nat, j < k → (j : Int) = but
  some_ : 0 ≤ f → ∃ g : Nat, f = g ∧ g < k ∧ f ≠ but ∧ O[g]? = some fv ∧ (∀ (j : Nat) y, j < k → (j : Int) ≠ but → O[j]? = some y → y ≤ fv) ∧ (∀ (j : Nat) y, j < g → (j : Int) ≠ but → O[j]? = some y → y < fv)

theorem BInv.step {O : List Int} {but : Int} {k : Nat} {f fv x : Int} (h : BInv O but k f fv) (hx : O[k]? = some x) :
    (¬ (k : Int) = but → betterB f fv x = true → BInv O but (k + 1) k x) ∧ ((k : Int) = but ∨ betterB f fv x = false → BInv O but (k + 1) f fv) := by
  constructor
  · intro hb hbt
    refine ⟨fun h0 => by omega, fun _ => ⟨k, rfl, by omega, hb, hx, ?_, ?_⟩⟩
    · intro j y hj hjb hy
      rcases Nat.lt_or_ge j k with hlt | hge
      · rcases Int.lt_or_le f 0 with h0 | h0
        · exact absurd (h.none_ h0 j hlt) hjb
        · obtain ⟨g, e, hg, hgb, hgv, hle, _⟩ := h.some_ h0
          have := hle j y hlt hjb hy
          simp [betterB] at hbt; omega
      · obtain rfl : j = k := by omega
        rw [hx] at hy; cases hy; omega
    · intro j y hj hjb hy
      rcases Int.lt_or_le f 0 with h0 | h0
      · exact absurd (h.none_ h0 j hj) hjb
      · obtain ⟨g, e, hg, hgb, hgv, hle, _⟩ := h.some_ h0
        have := hle j y hj hjb hy
        simp [betterB] at hbt; omega
  · intro hor
    refine ⟨fun h0 j hj => ?_, fun h0 => ?_⟩
    · rcases Nat.lt_or_ge j k with hlt | hge
      · exact h.none_ h0 j hlt
      · obtain rfl : j = k := by omega
        rcases hor with hor | hor
        · exact hor
        · simp [betterB] at hor; omega
    · obtain ⟨g, e, hg, hgb, hgv, hle, hlt⟩ := h.some_ h0
      refine ⟨g, e, by omega, hgb, hgv, ?_, hlt⟩
      intro j y hj hjb hy
      rcases Nat.lt_or_ge j k with hlt | hge
      · exact hle j y hlt hjb hy
      · obtain rfl : j = k := by omega
        rw [hx] at hy; cases hy
        rcases hor with hor | hor
        · exact absurd hor hjb
        · simp [betterB] at hor; omega

theorem bestGo_inv {O : List Int} {but : Int} : ∀ (n k : Nat) (f fv : Int), O.length - k = n → k ≤ O.length → BInv O but k f fv → ∃ gv, BInv O but O.length (bestGo but (O.drop k) k f fv) gv := by
  intro n
  induction n with
  | zero =>
    intro k f fv hn hk h
    rw [drop_end (by omega)]
    have : k = O.length := by omega
    subst this
    exact ⟨fv, h⟩
  | succ n ih =>
    intro k f fv hn hk h
    obtain ⟨x, hx⟩ : ∃ x, O[k]? = some x := ⟨O[k]'(by omega), by simp⟩
    rw [drop_of hx]
    have hs := h.step hx
    by_cases hb : (k : Int) = but
    · rw [bestGo_but hb]
      exact_mod_cast ih (k + 1) f fv (by omega) (by omega) (hs.2 (.inl hb))
    · cases hbt : betterB f fv x
      · rw [bestGo_no hbt]
        exact_mod_cast ih (k + 1) f fv (by omega) (by omega) (hs.2 (.inr hbt))
      · rw [bestGo_yes hb hbt]
        exact_mod_cast ih (k + 1) k x (by omega) (by omega) (hs.1 hb hbt)

/-- best is the first place, but one, of the greatest offer -/
structure IsBest (O : List Int) (but : Int) (g : Nat) (v : Int) : Prop where
  val : O[g]? = some v
  ne : (g : Int) ≠ but
  le : ∀ (j : Nat) y, (j : Int) ≠ but → O[j]? = some y → y ≤ v
  lt : ∀ (j : Nat) y, j < g → (j : Int) ≠ but → O[j]? = some y → y < v
theorem bestOf_is {O : List Int} {but : Int} (h : ∃ j : Nat, j < O.length ∧ (j : Int) ≠ but) : ∃ (g : Nat) (v : Int), bestOf O but = g ∧ IsBest O but g v := by
  obtain ⟨gv, hi⟩ := bestGo_inv (O := O) (but := but) O.length 0 (-1) 0 (by omega) (by omega) ⟨fun _ j hj => by omega, fun h => by omega⟩
  obtain ⟨j, hj, hjb⟩ := h
  simp only [List.drop_zero] at hi
  change BInv O but O.length (bestOf O but) gv at hi
  rcases Int.lt_or_le (bestOf O but) 0 with h0 | h0
  · exact absurd (hi.none_ h0 j hj) hjb
  · obtain ⟨g, e, hg, hgb, hgv, hle, hlt⟩ := hi.some_ h0
    exact ⟨g, gv, e, hgv, by rw [← e]; exact hgb, fun j y hjb hy => hle j y (List.getElem?_eq_some_iff.1 hy).1 hjb hy, hlt⟩
theorem IsBest.lt_len {O : List Int} {but : Int} {g : Nat} {v : Int} (h : IsBest O but g v) : g < O.length := (List.getElem?_eq_some_iff.1 h.val).1

/-- the offers: two or more, each from 0 to a million -/
structure VO (L O : List Int) : Prop where
  v : Valid L
  len : O.length = L.length
  bd : ∀ x ∈ O, 0 ≤ x ∧ x ≤ 1000000
theorem lok_ok {L O : List Int} (h : lok L O = 0) : VO L O := by
  unfold lok at h
  split at h
  · contradiction
  · rename_i h0
    split at h
    · exact absurd h (by decide)
    · rename_i h1
      refine ⟨chk_ok (by simpa using h0), by omega, fun x hx => ?_⟩
      have h2 : O.any badOffer = false := by
        cases hb : O.any badOffer
        · rfl
        · exact absurd (.inr hb) h1
      have := List.any_eq_false.1 h2 x hx
      simp [badOffer] at this
      omega
/-- the buyer b with the greatest offer v, and the greatest offer s of the others -/
structure Sale (O : List Int) (b : Nat) (v : Int) (g : Nat) (s : Int) : Prop where
  best : IsBest O (-1) b v
  second : IsBest O b g s
theorem VO.sale {L O : List Int} (h : VO L O) : ∃ b v g s, bestOf O (-1) = (b : Nat) ∧ bestOf O b = (g : Nat) ∧ Sale O b v g s := by
  have h2 := h.v.two
  have hl := h.len
  obtain ⟨b, v, e, hb⟩ := bestOf_is (O := O) (but := -1) ⟨0, by omega, by decide⟩
  obtain ⟨g, s, e', hg⟩ := bestOf_is (O := O) (but := b) (by
    by_cases h0 : b = 0
    · exact ⟨1, by omega, by omega⟩
    · exact ⟨0, by omega, by omega⟩)
  exact ⟨b, v, g, s, e, e', hb, hg⟩
end Go.Proofs.Ytjgobpejifhphaa

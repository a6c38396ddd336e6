import Derived.Test.YtkoipecnmijfoaaGreatM35c
/-! Texts that were built one by one, in one file. -/
-- holds: S34d

section
/-! Plain law: the buyer gains nothing by another offer. -/
namespace Go.Proofs.YtkoipecnmijfoaaGreat
set_option linter.unusedVariables false

theorem payL_own {p S : Int} {b : Nat} {L : List Int} (hb : b < L.length) : (payL p S b L)[b]? = some (-(partSum p S b L 0)) := by
  simp [payL, hb]
theorem payL_ought {p S : Int} {b j : Nat} {L : List Int} {x : Int} (hj : j ≠ b) (hx : L[j]? = some x) : (payL p S b L)[j]? = some (part p S x) := by
  obtain ⟨h, e⟩ := List.getElem?_eq_some_iff.1 hx
  simp [payL, h, hj, List.getD, e]
/-- the sum of all but one, counted from k -/
def sumBut (b : Nat) : List Int → Nat → Int
  | [], _ => 0
  | x :: t, k => (if k = b then 0 else x) + sumBut b t (k + 1)
theorem sumBut_ge {b : Nat} : ∀ {L : List Int} {k : Nat}, b < k → sumBut b L k = sumL L
  | [], _, _ => rfl
  | x :: t, k, h => by rw [sumBut, sumL, if_neg (by omega), sumBut_ge (by omega)]
theorem sumBut_at {b : Nat} : ∀ {L : List Int} {k : Nat} {x : Int}, k ≤ b → L[b - k]? = some x → sumBut b L k + x = sumL L
  | [], _, _, _, h => by simp at h
  | y :: t, k, x, hk, h => by
    by_cases e : k = b
    · subst e
      simp at h; subst h
      rw [sumBut, sumL, if_pos rfl, sumBut_ge (by omega)]; omega
    · rw [sumBut, sumL, if_neg e]
      have h' : t[b - (k + 1)]? = some x := by
        rw [show b - k = (b - (k + 1)) + 1 by omega] at h
        simpa using h
      have := sumBut_at (k := k + 1) (by omega) h'
      omega
theorem partSum_mul {p S : Int} {b : Nat} (hS : 1 ≤ S) : ∀ {L : List Int} {k : Nat}, S * partSum p S b L k ≤ p * sumBut b L k
  | [], k => by simp [partSum, sumBut]
  | x :: t, k => by
    have ih := partSum_mul (p := p) (b := b) hS (L := t) (k := k + 1)
    simp only [partSum, sumBut]
    rw [Int.mul_add, Int.mul_add]
    have h1 : S * part p S x ≤ p * x := Int.mul_ediv_self_le (by omega)
    split
    · simp; exact ih
    · omega

/-- offers with another number in b's place -/
theorem set_other {O : List Int} {b : Nat} {o : Int} {j : Nat} (hj : j ≠ b) : (O.set b o)[j]? = O[j]? := List.getElem?_set_ne (by omega)

theorem pyL_ok {L O : List Int} {r : Int} {b : Nat} (he : sE L O r = 0) (eb : bestOf O (-1) = b) : pyL L O r = payL (priceOf O r) (sumL L) b L := by
  rw [pyL, if_pos he, eb, Int.toNat_natCast]

theorem lie_valid {L O : List Int} {b : Nat} {o : Int} (h : lok L O = 0) (h0 : 0 ≤ o) (h1 : o ≤ 1000000) : lok L (O.set b o) = 0 := by
  have hV := lok_ok h
  have hc : chk L = 0 := by
    rcases Decidable.em (chk L = 0) with h2 | h2
    · exact h2
    · rw [lok_chk h2] at h; exact absurd h h2
  refine lok_yes hc (by simp [hV.len]) ?_
  rw [List.any_eq_false]
  intro x hx
  rcases List.mem_or_eq_of_mem_set hx with hx | rfl
  · have := hV.bd x hx; simp [badOffer]; omega
  · simp [badOffer]; omega

theorem truth {L O : List Int} {b : Nat} {v o : Int} (h : lok L O = 0) (eb : bestOf O (-1) = b) (hv : O[b]? = some v) (h0 : 0 ≤ o) (h1 : o ≤ 1000000) :
    gE L O 0 b v = 0 ∧ gE L (O.set b o) 0 b v = 0 ∧ gV L (O.set b o) 0 b v ≤ gV L O 0 b v := by
  have hV := lok_ok h
  have h' := lie_valid (b := b) h h0 h1
  have hV' := lok_ok h'
  obtain ⟨b1, v1, g, s, e1, eg, hs⟩ := hV.sale
  obtain rfl : b = b1 := by omega
  obtain rfl : v = v1 := by have := hs.best.val; rw [hv] at this; cases this; rfl
  obtain ⟨b2, v2, g2, s2, e2, eg2, hs2⟩ := hV'.sale
  have he := sE_ok h (r := 0) (.inl rfl)
  have he' := sE_ok h' (r := 0) (.inl rfl)
  have hbl := hs.best.lt_len
  have hlen := hV.len
  have hvb := hV.bd v (mem_of hv)
  have hbad : ¬ badGain L.length (b : Int) v := by unfold badGain; omega
  have hgE := gE_ok (r := 0) (O := O) he hbad
  have hgE' := gE_ok (r := 0) (O := O.set b o) he' hbad
  refine ⟨hgE, hgE', ?_⟩
  obtain ⟨x, hx⟩ : ∃ x, L[b]? = some x := ⟨L[b]'(by omega), by simp⟩
  have p0 := priceOf_sale (r := 0) e1 eg hs
  have p1 := priceOf_sale (r := 0) e2 eg2 hs2
  rw [if_neg (by decide)] at p0 p1
  have hS := hV.v.sum_pos
  have hxb := hV.v.le (mem_of hx)
  have hy : (pyL L O 0)[b]? = some (-(partSum s (sumL L) b L 0)) := by rw [pyL_ok he e1, p0]; exact payL_own (by omega)
  rw [gV_ok hgE hx hy, e1, if_pos rfl]
  by_cases hbb : b2 = b
  · subst hbb
    -- the same buyer at the same price
    have hss : s2 = s := by
      have q1 := hs.second.le g2 s2 hs2.second.ne (by have := hs2.second.val; rwa [set_other (by have := hs2.second.ne; omega)] at this)
      have q2 := hs2.second.le g s hs.second.ne (by rw [set_other (by have := hs.second.ne; omega)]; exact hs.second.val)
      omega
    have hy2 : (pyL L (O.set b2 o) 0)[b2]? = some (-(partSum s (sumL L) b2 L 0)) := by rw [pyL_ok he' e2, p1, hss]; exact payL_own (by omega)
    rw [gV_ok hgE' hx hy2, e2, if_pos rfl]
    exact Int.le_refl _
  · have hs2s : s2 ≤ s := by
      have q1 : v2 ≤ s := hs.second.le b2 v2 (by omega) (by have := hs2.best.val; rwa [set_other hbb] at this)
      have q2 := hs2.best.le g2 s2 (by omega) hs2.second.val
      omega
    have hsv : s ≤ v := hs.best.le g s (by omega) hs.second.val
    have hs2b := hV'.bd s2 (mem_of hs2.second.val)
    have hy2 : (pyL L (O.set b o) 0)[b]? = some (part s2 (sumL L) x) := by rw [pyL_ok he' e2, p1]; exact payL_ought (by omega) hx
    rw [gV_ok hgE' hx hy2, e2, if_neg (by omega)]
    have a1 := partSum_mul (p := s) (S := sumL L) (b := b) (by omega) (L := L) (k := 0)
    have a2 := sumBut_at (b := b) (L := L) (k := 0) (x := x) (by omega) (by simpa using hx)
    have a3 : sumL L * part s2 (sumL L) x ≤ s2 * x := Int.mul_ediv_self_le (by omega)
    have a4 : s2 * x ≤ s * x := Int.mul_le_mul_of_nonneg_right hs2s (by omega)
    have a5 : s * sumL L ≤ v * sumL L := Int.mul_le_mul_of_nonneg_right hsv (by omega)
    have a6 : s * sumL L = s * sumBut b L 0 + s * x := by rw [← a2, Int.mul_add]
    have a7 : v * sumL L = sumL L * v := Int.mul_comm _ _
    rw [Int.mul_add, Int.mul_add, Int.mul_neg, Int.mul_zero]
    omega
theorem byE_ok' {L O : List Int} (h : lok L O = 0) : byE L O = bestOf O (-1) := by rw [byE, if_pos h]
end Go.Proofs.YtkoipecnmijfoaaGreat
end

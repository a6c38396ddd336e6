import Derived.Test.YtjaobcmladkjcaaS34d
/-! Plain law: payments add up to 0; whoever offers the truth is safe. -/
namespace Go.Proofs.Ytjaobcmladkjcaa
set_option linter.unusedVariables false

theorem sum_pay {p S c : Int} {b : Nat} : ∀ {L : List Int} {k : Nat},
    sumL ((List.range L.length).map fun j => if j + k = b then c else part p S (L.getD j 0)) = partSum p S b L k + (if k ≤ b ∧ b < k + L.length then c else 0)
  | [], k => by simp [sumL, partSum]; omega
  | x :: t, k => by
    have ih := sum_pay (p := p) (S := S) (c := c) (b := b) (L := t) (k := k + 1)
    rw [List.length_cons, List.range_succ_eq_map, List.map_cons, List.map_map]
    simp only [sumL, partSum]
    have e : ((fun j => if j + k = b then c else part p S ((x :: t).getD j 0)) ∘ Nat.succ) = fun j => if j + (k + 1) = b then c else part p S (t.getD j 0) := by
      funext j
      simp only [Function.comp, Nat.succ_eq_add_one, List.getD_cons_succ, Nat.add_assoc, Nat.add_comm 1 k]
    rw [e, ih]
    simp only [List.getD_cons_zero, Nat.zero_add]
    by_cases h : k = b
    · subst h
      rw [if_pos rfl, if_neg (by omega), if_pos rfl, if_pos (by omega)]; omega
    · rw [if_neg h, if_neg h]
      by_cases h2 : k + 1 ≤ b ∧ b < k + 1 + t.length
      · rw [if_pos h2, if_pos (by omega)]; omega
      · rw [if_neg h2, if_neg (by omega)]; omega
theorem sum_payL {p S : Int} {b : Nat} {L : List Int} (hb : b < L.length) : sumL (payL p S b L) = 0 := by
  have := sum_pay (p := p) (S := S) (c := -(partSum p S b L 0)) (b := b) (L := L) (k := 0)
  simp only [Nat.add_zero] at this
  rw [payL, this, if_pos (by omega)]
  omega

/-- what the law asks of each partner -/
structure SafeAt (L O P : List Int) (b : Nat) (r : Int) (j : Nat) : Prop where
  pay : ∃ y o, P[j]? = some y ∧ O[j]? = some o ∧ -10000000 ≤ y ∧ y ≤ 10000000 ∧ 0 ≤ o ∧ o ≤ 1000000 ∧ (j = b → y ≤ 0 ∧ 0 ≤ gV L O r j o) ∧ (j ≠ b → 0 ≤ y) ∧ -(sumL L) < gV L O r j o ∧ gE L O r j o = 0
theorem safe_at {L O : List Int} {r : Int} {b : Nat} (h : lok L O = 0) (hr : r = 0 ∨ r = 1) (eb : bestOf O (-1) = b) {j : Nat} (hj : j < L.length) : SafeAt L O (pyL L O r) b r j := by
  have hV := lok_ok h
  obtain ⟨b1, v, g, s, e1, eg, hs⟩ := hV.sale
  obtain rfl : b = b1 := by omega
  have he := sE_ok h (r := r) hr
  have hbl := hs.best.lt_len
  have hlen := hV.len
  have pr := priceOf_sale (r := r) e1 eg hs
  have hvb := hV.bd v (mem_of hs.best.val)
  have hsb := hV.bd s (mem_of hs.second.val)
  have hsv : s ≤ v := hs.best.le g s (by omega) hs.second.val
  have hp1 : s ≤ priceOf O r := by rw [pr]; split <;> omega
  have hp2 : priceOf O r ≤ v := by rw [pr]; split <;> omega
  obtain ⟨x, hx⟩ : ∃ x, L[j]? = some x := ⟨L[j], by simp [hj]⟩
  obtain ⟨o, ho⟩ : ∃ o, O[j]? = some o := ⟨O[j]'(by omega), by simp⟩
  have hob := hV.bd o (mem_of ho)
  have hps := pyL_small he
  obtain ⟨y, hy⟩ : ∃ y, (pyL L O r)[j]? = some y := ⟨(pyL L O r)[j]'(by rw [hps.1]; exact hj), by simp⟩
  have hyb := hps.2 y (mem_of hy)
  have hbad : ¬ badGain L.length (j : Int) o := by unfold badGain; omega
  have hgE := gE_ok (r := r) (O := O) he hbad
  have hgV := gV_ok hgE hx hy
  have hS := hV.v.sum_pos
  have hxb := hV.v.le (mem_of hx)
  have hy' := hy
  rw [pyL_ok he e1] at hy'
  generalize hpp : priceOf O r = p at *
  refine ⟨⟨y, o, hy, ho, hyb.1, hyb.2, hob.1, hob.2, ?_, ?_, ?_, hgE⟩⟩
  · rintro rfl
    rw [payL_own (by omega)] at hy'
    cases hy'
    have hov : o = v := by have := hs.best.val; rw [ho] at this; cases this; rfl
    subst hov
    have a0 := partSum_bd (b := j) (S := sumL L) (p := p) (by omega) (by omega) (L := L) (k := 0) fun z hz => ⟨hV.v.pos z hz, le_sumL hV.v.pos hz⟩
    refine ⟨by omega, ?_⟩
    rw [hgV, e1, if_pos rfl]
    have a1 := partSum_mul (p := p) (S := sumL L) (b := j) (by omega) (L := L) (k := 0)
    have a2 := sumBut_at (b := j) (L := L) (k := 0) (x := x) (by omega) (by simpa using hx)
    have a3 : 0 ≤ sumBut j L 0 := by have := le_sumL hV.v.pos (mem_of hx); omega
    have a4 : p * sumBut j L 0 ≤ o * sumBut j L 0 := Int.mul_le_mul_of_nonneg_right hp2 a3
    have a5 : sumL L * o = o * sumBut j L 0 + x * o := by rw [← a2, Int.add_mul, Int.mul_comm (sumBut j L 0) o]
    rw [Int.mul_add, Int.mul_neg]
    omega
  · intro hjb
    rw [payL_ought hjb hx] at hy'
    cases hy'
    exact (part_bd (by omega) (by omega) hxb.1 (le_sumL hV.v.pos (mem_of hx))).1
  · by_cases hjb : j = b
    · subst hjb
      rw [payL_own (by omega)] at hy'
      cases hy'
      have hov : o = v := by have := hs.best.val; rw [ho] at this; cases this; rfl
      subst hov
      rw [hgV, e1, if_pos rfl]
      have a1 := partSum_mul (p := p) (S := sumL L) (b := j) (by omega) (L := L) (k := 0)
      have a2 := sumBut_at (b := j) (L := L) (k := 0) (x := x) (by omega) (by simpa using hx)
      have a3 : 0 ≤ sumBut j L 0 := by have := le_sumL hV.v.pos (mem_of hx); omega
      have a4 : p * sumBut j L 0 ≤ o * sumBut j L 0 := Int.mul_le_mul_of_nonneg_right hp2 a3
      have a5 : sumL L * o = o * sumBut j L 0 + x * o := by rw [← a2, Int.add_mul, Int.mul_comm (sumBut j L 0) o]
      rw [Int.mul_add, Int.mul_neg]
      omega
    · rw [payL_ought hjb hx] at hy'
      cases hy'
      rw [hgV, e1, if_neg (by omega), Int.add_zero]
      have hos : o ≤ s := hs.second.le j o (by omega) ho
      have a1 : x * o ≤ x * p := Int.mul_le_mul_of_nonneg_left (by omega) (by omega)
      have a2 := Int.mul_ediv_add_emod (p * x) (sumL L)
      have a3 := Int.emod_lt_of_pos (p * x) (show 0 < sumL L by omega)
      have a4 : p * x = x * p := Int.mul_comm _ _
      unfold part
      omega
end Go.Proofs.Ytjaobcmladkjcaa

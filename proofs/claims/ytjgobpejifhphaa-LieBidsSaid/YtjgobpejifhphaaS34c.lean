import Derived.Test.YtjgobpejifhphaaW34i
/-! Plain facts on payments. -/
namespace Go.Proofs.Ytjgobpejifhphaa
set_option linter.unusedVariables false

/-- what partner j has for its x shares at price p -/
def part (p S x : Int) : Int := p * x / S
def partSum (p S : Int) (b : Nat) : List Int → Nat → Int
  | [], _ => 0
  | x :: t, k => (if k = b then 0 else part p S x) + partSum p S b t (k + 1)
/-- the payments after the first k partners -/
structure PayAt (p S : Int) (L : List Int) (b k : Nat) (P : List Int) : Prop where
  len : P.length = L.length
  own : ∀ t, P[b]? = some t → t + -(partSum p S b (L.drop k) k) = -(partSum p S b L 0)
  ought : ∀ j x, j ≠ b → L[j]? = some x → P[j]? = some (if j < k then part p S x else 0)
def payL (p S : Int) (b : Nat) (L : List Int) : List Int := (List.range L.length).map fun j => if j = b then -(partSum p S b L 0) else part p S (L.getD j 0)
theorem PayAt.start (p S : Int) (L : List Int) (b : Nat) : PayAt p S L b 0 (List.replicate L.length 0) := by
  refine ⟨by simp, ?_, ?_⟩
  · intro t ht
    have : t = 0 := by
      obtain ⟨h, e⟩ := List.getElem?_eq_some_iff.1 ht
      simpa using e.symm
    subst this
    simp
  · intro j x hj hx
    have := (List.getElem?_eq_some_iff.1 hx).1
    simp [this]
theorem partSum_drop {p S : Int} {b : Nat} {L : List Int} {k : Nat} {x : Int} (h : L[k]? = some x) : partSum p S b (L.drop k) k = (if k = b then 0 else part p S x) + partSum p S b (L.drop (k + 1)) (k + 1) := by rw [drop_of h]; rfl
theorem PayAt.skip {p S : Int} {L P : List Int} {b k : Nat} {x : Int} (h : PayAt p S L b k P) (hx : L[k]? = some x) (hk : k = b) : PayAt p S L b (k + 1) P := by
  refine ⟨h.len, ?_, ?_⟩
  · intro t ht
    have := h.own t ht
    rw [partSum_drop hx, if_pos hk] at this
    omega
  · intro j y hj hy
    rw [h.ought j y hj hy]
    congr 1
    by_cases h1 : j < k
    · rw [if_pos h1, if_pos (by omega)]
    · rw [if_neg h1, if_neg (by omega)]
theorem PayAt.zero {p S : Int} {L P : List Int} {b k : Nat} {x : Int} (h : PayAt p S L b k P) (hx : L[k]? = some x) (hk : k ≠ b) : P[k]? = some 0 := by
  have := h.ought k x hk hx
  rwa [if_neg (by omega)] at this
theorem PayAt.next {p S : Int} {L P : List Int} {b k : Nat} {x t : Int} (h : PayAt p S L b k P) (hx : L[k]? = some x) (hk : k ≠ b) (ht : P[b]? = some t) :
    PayAt p S L b (k + 1) ((P.set k (part p S x)).set b (t - part p S x)) := by
  have hkl := (List.getElem?_eq_some_iff.1 hx).1
  have hbl := (List.getElem?_eq_some_iff.1 ht).1
  have hl := h.len
  refine ⟨by simp [hl], ?_, ?_⟩
  · intro u hu
    have e : u = t - part p S x := by
      rw [List.getElem?_set_self (by simp; omega)] at hu
      cases hu; rfl
    have := h.own t ht
    rw [partSum_drop hx, if_neg hk] at this
    omega
  · intro j y hj hy
    rw [List.getElem?_set_ne (by omega)]
    by_cases hjk : j = k
    · subst hjk
      rw [hx] at hy; cases hy
      rw [List.getElem?_set_self (by omega), if_pos (by omega)]
    · rw [List.getElem?_set_ne (by omega), h.ought j y hj hy]
      congr 1
      by_cases h1 : j < k
      · rw [if_pos h1, if_pos (by omega)]
      · rw [if_neg h1, if_neg (by omega)]
theorem PayAt.done {p S : Int} {L P : List Int} {b : Nat} (h : PayAt p S L b L.length P) (hb : b < L.length) : P = payL p S b L := by
  apply List.ext_getElem?
  intro j
  rcases Nat.lt_or_ge j L.length with hlt | hge
  · have hx : L[j]? = some L[j] := by simp [hlt]
    simp only [payL, List.getElem?_map, List.getElem?_range hlt, Option.map_some]
    by_cases hj : j = b
    · subst hj
      obtain ⟨t, ht⟩ : ∃ t, P[j]? = some t := ⟨P[j]'(by have := h.len; omega), by simp⟩
      have := h.own t ht
      rw [List.drop_length] at this
      simp only [partSum] at this
      rw [if_pos rfl, ht]
      congr 1; omega
    · rw [h.ought j _ hj hx, if_pos hlt, if_neg hj]
      simp [List.getD, hlt]
  · rw [List.getElem?_eq_none (by have := h.len; omega), List.getElem?_eq_none (by simp [payL]; omega)]

/-- what the sizes are -/
theorem mul_bd {p x : Int} (h0 : 0 ≤ p) (h1 : p ≤ 1000000) (h2 : 1 ≤ x) (h3 : x ≤ 1000) : 0 ≤ p * x ∧ p * x ≤ 1000000000 := by
  refine ⟨Int.mul_nonneg h0 (by omega), ?_⟩
  have h4 := Int.mul_le_mul h1 h3 (by omega) (by omega)
  omega
theorem le_sumL {L : List Int} (h : ∀ x ∈ L, 1 ≤ x) {x : Int} (hx : x ∈ L) : x ≤ sumL L := by
  induction L with
  | nil => simp at hx
  | cons y t ih =>
    have h1 := h y (by simp)
    have h2 := sumL_nonneg (L := t) fun z hz => h z (List.mem_cons_of_mem _ hz)
    simp only [sumL]
    rcases List.mem_cons.1 hx with rfl | hx
    · omega
    · have := ih (fun z hz => h z (List.mem_cons_of_mem _ hz)) hx
      omega
theorem Valid.le {L : List Int} (h : Valid L) {x : Int} (hx : x ∈ L) : 1 ≤ x ∧ x ≤ 1000 := ⟨h.pos x hx, by have := le_sumL h.pos hx; have := h.sum; omega⟩
theorem Valid.sum_pos {L : List Int} (h : Valid L) : 2 ≤ sumL L := by have := sumL_le h.pos; have := h.two; omega
theorem part_bd {p S x : Int} (h0 : 0 ≤ p) (h1 : p ≤ 1000000) (h2 : 1 ≤ x) (h3 : x ≤ S) : 0 ≤ part p S x ∧ part p S x ≤ p := by
  unfold part
  refine ⟨Int.ediv_nonneg (Int.mul_nonneg h0 (by omega)) (by omega), ?_⟩
  have h4 : p * x ≤ p * S := Int.mul_le_mul_of_nonneg_left h3 h0
  have := Int.ediv_le_ediv (c := S) (by omega) h4
  rwa [Int.mul_ediv_cancel _ (by omega)] at this
theorem partSum_bd {p S : Int} {b : Nat} (h0 : 0 ≤ p) (h1 : p ≤ 1000000) : ∀ {L : List Int} {k : Nat}, (∀ x ∈ L, 1 ≤ x ∧ x ≤ S) → 0 ≤ partSum p S b L k ∧ partSum p S b L k ≤ 1000000 * L.length
  | [], k, _ => by simp [partSum]
  | x :: t, k, h => by
    have hx := h x (by simp)
    have ih := partSum_bd (p := p) (S := S) (b := b) h0 h1 (L := t) (k := k + 1) fun y hy => h y (List.mem_cons_of_mem _ hy)
    have hp := part_bd h0 h1 hx.1 hx.2
    simp only [partSum, List.length_cons]
    split <;> omega
/-- the payments are small -/
theorem PayAt.small {p : Int} {L P : List Int} {b k : Nat} (h : PayAt p (sumL L) L b k P) (hv : Valid L) (h0 : 0 ≤ p) (h1 : p ≤ 1000000) : ∀ x ∈ P, -10000000 ≤ x ∧ x ≤ 10000000 := by
  intro x hx
  obtain ⟨j, hj, e⟩ := List.getElem_of_mem hx
  have hjl : j < L.length := by have := h.len; omega
  have hq : P[j]? = some x := by simp [hj, e]
  have hall : ∀ y ∈ L, 1 ≤ y ∧ y ≤ sumL L := fun y hy => ⟨hv.pos y hy, le_sumL hv.pos hy⟩
  by_cases hjb : j = b
  · subst hjb
    have e1 := h.own x hq
    have b1 := partSum_bd (b := j) h0 h1 (S := sumL L) (L := L) (k := 0) hall
    have b2 := partSum_bd (b := j) h0 h1 (S := sumL L) (L := L.drop k) (k := k) fun y hy => hall y (List.mem_of_mem_drop hy)
    have : (L.drop k).length ≤ L.length := by simp
    have := hv.ten
    omega
  · have e1 := h.ought j L[j] hjb (by simp [hjl])
    rw [hq] at e1
    have hy := hall L[j] (List.getElem_mem hjl)
    have := part_bd h0 h1 hy.1 hy.2
    split at e1 <;> cases e1 <;> omega
theorem priceOf_bd {L O : List Int} {r : Int} (h : lok L O = 0) : 0 ≤ priceOf O r ∧ priceOf O r ≤ 1000000 := by
  have hV := lok_ok h
  obtain ⟨b, v, g, s, eb, eg, hs⟩ := hV.sale
  rw [priceOf_sale eb eg hs]
  have h1 := hV.bd v (mem_of hs.best.val)
  have h2 := hV.bd s (mem_of hs.second.val)
  split <;> omega
end Go.Proofs.Ytjgobpejifhphaa

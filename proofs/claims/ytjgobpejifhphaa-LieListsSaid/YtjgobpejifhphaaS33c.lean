import Derived.Test.YtjgobpejifhphaaS33b
/-! Plain law: the price. -/
namespace Go.Proofs.Ytjgobpejifhphaa
set_option linter.unusedVariables false

def prOf (C B : List Int) (m : Int) : Int := if m = 0 ∨ m = (B.length : Int) then 0 else B.getD ((rkList C B).getD m.toNat 0).toNat 0
theorem prOf_zero {C B : List Int} {m : Int} (h : m = 0 ∨ m = (B.length : Int)) : prOf C B m = 0 := by rw [prOf, if_pos h]
theorem prOf_at {C B : List Int} {m i : Nat} {x : Int} (h0 : m ≠ 0) (h1 : m ≠ B.length) (hi : (rkList C B)[m]? = some (i : Int)) (hx : B[i]? = some x) : prOf C B m = x := by
  rw [prOf, if_neg (by omega)]
  have e : (rkList C B).getD m 0 = (i : Int) := by simp [List.getD, hi]
  rw [Int.toNat_natCast, e, Int.toNat_natCast]
  simp [List.getD, hx]
theorem getD_of {L : List Int} {i : Nat} {x : Int} (h : L[i]? = some x) : L.getD i 0 = x := by simp [List.getD, h]
/-- whoever stands later bids no more -/
theorem bid_le {C B : List Int} {i j : Nat} (hi : i < B.length) (hj : j < B.length) (h : place C B i ≤ place C B j) : B.getD j 0 ≤ B.getD i 0 := by
  have h1 := at_place (C := C) hi
  have h2 := at_place (C := C) hj
  rcases Nat.lt_or_ge (place C B i) (place C B j) with hlt | hge
  · have hp := List.pairwise_iff_getElem.1 (rkList_pw C B) (place C B i) (place C B j) (by rw [rkList_length]; exact h1.2) (by rw [rkList_length]; exact h2.2) hlt
    obtain ⟨_, e1⟩ := List.getElem?_eq_some_iff.1 h1.1
    obtain ⟨_, e2⟩ := List.getElem?_eq_some_iff.1 h2.1
    rw [e1, e2, ahdI_iff] at hp
    simp only [Int.toNat_natCast] at hp
    omega
  · have e : place C B i = place C B j := by omega
    have h3 := h1.1
    rw [e, h2.1] at h3
    have : (j : Int) = (i : Int) := by simpa using h3
    have : j = i := by omega
    subst this
    exact Int.le_refl _
/-- the greatest bid of those among the first k that stand at m or later -/
structure PmAt (C B : List Int) (m k : Nat) (p : Int) : Prop where
  lo : 0 ≤ p
  hi : p ≤ 1000000
  le : ∀ i, i < k → m ≤ place C B i → B.getD i 0 ≤ p
  is : p = 0 ∨ ∃ i, i < k ∧ m ≤ place C B i ∧ B.getD i 0 = p
theorem PmAt.start (C B : List Int) (m : Nat) : PmAt C B m 0 0 := ⟨by omega, by omega, by intro i hi; omega, .inl rfl⟩
theorem PmAt.skip {C B : List Int} {m k : Nat} {p : Int} (h : PmAt C B m k p) (hk : ¬ m ≤ place C B k) : PmAt C B m (k + 1) p :=
  ⟨h.lo, h.hi, fun i hi hm => by
    rcases Nat.lt_or_ge i k with hlt | hge
    · exact h.le i hlt hm
    · obtain rfl : i = k := by omega
      exact absurd hm hk, by
    rcases h.is with h0 | ⟨i, h1, h2, h3⟩
    · exact .inl h0
    · exact .inr ⟨i, by omega, h2, h3⟩⟩
theorem PmAt.next {C B : List Int} {m k : Nat} {p x : Int} (h : PmAt C B m k p) (hk : m ≤ place C B k) (hx : B.getD k 0 = x) (h0 : 0 ≤ x) (h1 : x ≤ 1000000) : PmAt C B m (k + 1) (max p x) := by
  have hlo := h.lo
  have hhi := h.hi
  refine ⟨by omega, by omega, fun i hi hm => ?_, ?_⟩
  · rcases Nat.lt_or_ge i k with hlt | hge
    · have := h.le i hlt hm; omega
    · obtain rfl : i = k := by omega
      omega
  · rcases Int.le_total x p with hle | hle
    · rw [Int.max_eq_left hle]
      rcases h.is with h0 | ⟨j, h1, h2, h3⟩
      · exact .inl h0
      · exact .inr ⟨j, by omega, h2, h3⟩
    · rw [Int.max_eq_right hle]
      exact .inr ⟨k, by omega, hk, hx⟩
theorem PmAt.done {C B : List Int} {m : Nat} {p : Int} (h : PmAt C B m B.length p) (hm0 : 0 < m) (hm : m ≤ B.length) (hB : ∀ x ∈ B, 0 ≤ x ∧ x ≤ 1000000) : p = prOf C B m := by
  by_cases e : m = B.length
  · rw [prOf_zero (.inr (by omega))]
    rcases h.is with h0 | ⟨i, h1, h2, h3⟩
    · exact h0
    · have := (at_place (C := C) h1).2; omega
  · obtain ⟨i, hi, hil, hpl⟩ := rk_nat (C := C) (B := B) (k := m) (by omega)
    obtain ⟨x, hx⟩ : ∃ x, B[i]? = some x := ⟨B[i], by simp [hil]⟩
    rw [prOf_at (by omega) e hi hx]
    have hxd := getD_of hx
    have h1 := h.le i hil (by omega)
    have hxb := hB x (List.mem_of_getElem? hx)
    rcases h.is with h0 | ⟨j, h2, h3, h4⟩
    · omega
    · have := bid_le (C := C) hil h2 (by omega)
      omega
theorem prOf_bd {C B : List Int} {m : Int} (hB : ∀ x ∈ B, 0 ≤ x ∧ x ≤ 1000000) (h0 : 0 ≤ m) (h1 : m ≤ B.length) : 0 ≤ prOf C B m ∧ prOf C B m ≤ 1000000 := by
  by_cases h : m = 0 ∨ m = (B.length : Int)
  · rw [prOf_zero h]; omega
  · obtain ⟨k, rfl⟩ := Int.eq_ofNat_of_zero_le h0
    obtain ⟨i, hi, hil, hpl⟩ := rk_nat (C := C) (B := B) (k := k) (by omega)
    obtain ⟨x, hx⟩ : ∃ x, B[i]? = some x := ⟨B[i], by simp [hil]⟩
    rw [prOf_at (by omega) (by omega) hi hx]
    exact hB x (List.mem_of_getElem? hx)
/-- the agents are written at their places, one by one -/
structure WrAt (C B : List Int) (k : Nat) (D : List Int) : Prop where
  len : D.length = B.length
  at_ : ∀ i, i < k → D[place C B i]? = some (i : Int)
theorem WrAt.next {C B D : List Int} {k : Nat} (h : WrAt C B k D) (hk : k < B.length) : WrAt C B (k + 1) (D.set (place C B k) (k : Int)) := by
  refine ⟨by simp [h.len], fun i hi => ?_⟩
  have hp := at_place (C := C) hk
  by_cases e : i = k
  · subst e
    rw [List.getElem?_set_self (by rw [h.len]; exact hp.2)]
  · have hil : i < B.length := by omega
    have hpi := at_place (C := C) hil
    rw [List.getElem?_set_ne, h.at_ i (by omega)]
    intro e2
    rw [← e2, hp.1] at hpi
    have h3 := hpi.1
    simp at h3
    omega
theorem WrAt.done {C B D : List Int} (h : WrAt C B B.length D) : D = rkList C B := by
  apply List.ext_getElem?
  intro j
  rcases Nat.lt_or_ge j B.length with hlt | hge
  · obtain ⟨i, hi, hil, hpl⟩ := rk_nat (C := C) (B := B) hlt
    rw [hi, ← hpl]
    exact h.at_ i hil
  · rw [List.getElem?_eq_none (by have := h.len; omega), List.getElem?_eq_none (by rw [rkList_length]; omega)]
end Go.Proofs.Ytjgobpejifhphaa

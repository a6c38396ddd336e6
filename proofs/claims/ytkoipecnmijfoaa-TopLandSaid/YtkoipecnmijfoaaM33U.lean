import Derived.Test.YtkoipecnmijfoaaM33T
import Derived.Test.YtkoipecnmijfoaaM33T
import Derived.Test.YtkoipecnmijfoaaM35a
/-! Texts that were built one by one, in one file. -/
-- holds: S33f S33h

section
/-! Plain law: the lists of the reference's Give as they grow. -/
namespace Go.Proofs.Ytkoipecnmijfoaa
open Go.RowKit
set_option linter.unusedVariables false

def fK (C B : List Int) (m k : Nat) : List Int := ((List.range k).filter fun i => decide (place C B i < m)).map fun (i : Nat) => (i : Int)
theorem fK_yes {C B : List Int} {m k : Nat} (h : place C B k < m) : fK C B m (k + 1) = fK C B m k ++ [(k : Int)] := by
  unfold fK
  rw [List.range_succ, List.filter_append, List.map_append]
  simp [h]
theorem fK_no {C B : List Int} {m k : Nat} (h : ¬ place C B k < m) : fK C B m (k + 1) = fK C B m k := by
  unfold fK
  rw [List.range_succ, List.filter_append, List.map_append]
  simp [h]
theorem fK_all (C B : List Int) (m : Nat) : fK C B m B.length = freeL C B m := rfl
theorem fK_len (C B : List Int) (m k : Nat) : (fK C B m k).length ≤ k := by
  unfold fK
  rw [List.length_map]
  exact Nat.le_trans (List.length_filter_le _ _) (by simp)
def aK (C B : List Int) (m k : Nat) : List Int := (List.range B.length).map fun i => if i < k then after C B m i else C.getD i 0
theorem aK_length (C B : List Int) (m k : Nat) : (aK C B m k).length = B.length := by simp [aK]
theorem aK_get {C B : List Int} {m k i : Nat} (h : i < B.length) : (aK C B m k)[i]? = some (if i < k then after C B m i else C.getD i 0) := by simp [aK, h]
theorem aK_cur {C B : List Int} {m k : Nat} (h : k < B.length) : (aK C B m k)[k]? = some (C.getD k 0) := by rw [aK_get h, if_neg (by omega)]
theorem aK_set {C B : List Int} {m k : Nat} (h : k < B.length) : (aK C B m k).set k (after C B m k) = aK C B m (k + 1) := by
  apply List.ext_getElem?
  intro j
  rcases Nat.lt_or_ge j B.length with hlt | hge
  · by_cases e : j = k
    · subst e
      rw [List.getElem?_set_self (by rw [aK_length]; exact hlt), aK_get hlt, if_pos (by omega)]
    · rw [List.getElem?_set_ne (by omega), aK_get hlt, aK_get hlt]
      by_cases h2 : j < k
      · rw [if_pos h2, if_pos (by omega)]
      · rw [if_neg h2, if_neg (by omega)]
  · rw [List.getElem?_eq_none (by simp [aK_length]; omega), List.getElem?_eq_none (by rw [aK_length]; omega)]
theorem aK_zero {C B : List Int} {m : Nat} (h : C.length = B.length) : aK C B m 0 = C := by
  rw [list_range h]
  unfold aK
  apply List.map_congr_left
  intro i hi
  rw [if_neg (by omega), ← list_range h]
theorem aK_all (C B : List Int) (m : Nat) : aK C B m B.length = aftL C B m := by
  apply List.map_congr_left
  intro i hi
  rw [if_pos (by simpa using hi)]
theorem out_cons {x : Int} {t : List Int} : (x :: t).any outOf = (outOf x || t.any outOf) := rfl
end Go.Proofs.Ytkoipecnmijfoaa
end

section
/-! Plain law of HolidaySums: who is free, the sum, the bids on both sides of the price. -/
namespace Go.Proofs.Ytkoipecnmijfoaa
open Go.RowKit
set_option linter.unusedVariables false

theorem fK_pre {C B : List Int} {m i : Nat} : ∀ n, i ≤ n → ∃ t, fK C B m n = fK C B m i ++ t ∧ ∀ x ∈ t, (i : Int) ≤ x := by
  intro n hn
  induction n with
  | zero =>
    obtain rfl : i = 0 := by omega
    exact ⟨[], by simp, by simp⟩
  | succ n ih =>
    rcases Nat.lt_or_ge n i with hlt | hge
    · obtain rfl : i = n + 1 := by omega
      exact ⟨[], by simp, by simp⟩
    · obtain ⟨t, ht, hx⟩ := ih hge
      by_cases hm : place C B n < m
      · refine ⟨t ++ [(n : Int)], by rw [fK_yes hm, ht, List.append_assoc], ?_⟩
        intro x hx'
        rcases List.mem_append.1 hx' with h | h
        · exact hx x h
        · simp at h; omega
      · exact ⟨t, by rw [fK_no hm, ht], hx⟩
theorem free_hit {C B : List Int} {m i : Nat} (hi : i < B.length) (h : place C B i < m) : (freeL C B m)[(fK C B m i).length]? = some (i : Int) := by
  obtain ⟨t, ht, _⟩ := fK_pre (C := C) (B := B) (m := m) (i := i + 1) B.length (by omega)
  rw [← fK_all, ht, fK_yes h]
  simp
theorem free_miss {C B : List Int} {m i : Nat} {x : Int} (hi : i < B.length) (h : ¬ place C B i < m) (hx : (freeL C B m)[(fK C B m i).length]? = some x) : x ≠ i := by
  obtain ⟨t, ht, hall⟩ := fK_pre (C := C) (B := B) (m := m) (i := i + 1) B.length (by omega)
  rw [← fK_all, ht, fK_no h, List.getElem?_append_right (by simp)] at hx
  have := hall x (List.mem_of_getElem? hx)
  omega
theorem fK_le {C B : List Int} {m i : Nat} (hi : i ≤ B.length) (hm : m ≤ B.length) : (fK C B m i).length ≤ m := by
  obtain ⟨t, ht, _⟩ := fK_pre (C := C) (B := B) (m := m) (i := i) B.length hi
  have h := freeL_length (C := C) hm
  rw [← fK_all, ht, List.length_append] at h
  omega
/-- the sum of the first k of the credits after -/
def aS (C B : List Int) (m k : Nat) : Int := sumI ((List.range k).map (after C B m))
theorem sumI_append : ∀ (L M : List Int), sumI (L ++ M) = sumI L + sumI M
  | [], M => by simp [sumI]
  | x :: t, M => by
    have := sumI_append t M
    simp only [List.cons_append, sumI]
    omega
theorem aS_succ (C B : List Int) (m k : Nat) : aS C B m (k + 1) = aS C B m k + after C B m k := by
  unfold aS
  rw [List.range_succ, List.map_append, sumI_append]
  simp [sumI]
theorem aS_eq (C B : List Int) (m : Nat) : ∀ k : Nat, aS C B m k = sumI ((List.range k).map fun i => C.getD i 0) - prOf C B m * (fK C B m k).length + gQ C B m * k
    + (k - (((fK C B (((C.length : Int) - gR C B m).toNat) k).length : Nat) : Int)) := by
  intro k
  induction k with
  | zero => simp [aS, fK, sumI]
  | succ k ih =>
    rw [aS_succ, ih, List.range_succ, List.map_append, sumI_append]
    have e0 : sumI [C.getD k 0] = C.getD k 0 := by simp [sumI]
    rw [List.map_cons, List.map_nil, e0]
    have e1 : (prOf C B m * ((fK C B m (k + 1)).length : Int)) = prOf C B m * ((fK C B m k).length : Int) + (if place C B k < m then prOf C B m else 0) := by
      by_cases h : place C B k < m
      · rw [fK_yes h, if_pos h, List.length_append, List.length_singleton, Int.natCast_add, Int.mul_add]
        simp
      · rw [fK_no h, if_neg h]; omega
    have e2 : ((((fK C B (((C.length : Int) - gR C B m).toNat) (k + 1)).length : Nat) : Int)) = ((fK C B (((C.length : Int) - gR C B m).toNat) k).length : Int) + (1 - extra C B m k) := by
      unfold extra
      by_cases h : place C B k < ((C.length : Int) - gR C B m).toNat
      · rw [fK_yes h, List.length_append, List.length_singleton, if_neg (by omega)]; omega
      · rw [fK_no h]
        by_cases h2 : (C.length : Int) - gR C B m ≤ place C B k
        · rw [if_pos h2]; omega
        · omega
    have e3 : gQ C B m * ((k + 1 : Nat) : Int) = gQ C B m * (k : Int) + gQ C B m := by
      rw [Int.natCast_add, Int.mul_add]; simp
    rw [e1, e2, e3]
    unfold after paid
    omega
theorem aS_zero {C B : List Int} {m : Nat} (hC : VC C) (hl : B.length = C.length) (hm : m ≤ B.length) (h0 : 0 ≤ prOf C B m) (h1 : prOf C B m ≤ 1000000) : aS C B m B.length = 0 := by
  have hqr := gQR (C := C) (B := B) (m := m) hC.one hC.twelve (by omega) h0 h1
  rw [aS_eq]
  have hs : sumI ((List.range B.length).map fun i => C.getD i 0) = 0 := by rw [← list_range hl.symm]; exact hC.sum
  have e1 : ((fK C B m B.length).length : Int) = m := by rw [fK_all, freeL_length hm]
  have e2 : ((fK C B (((C.length : Int) - gR C B m).toNat) B.length).length : Int) = C.length - gR C B m := by
    rw [fK_all, freeL_length (by omega)]
    omega
  rw [hs, e1, e2]
  have h3 := Int.mul_ediv_add_emod (prOf C B m * m) (C.length : Int)
  have h4 : gQ C B m * (B.length : Int) = (C.length : Int) * gQ C B m := by rw [hl, Int.mul_comm]
  unfold gQ gR at *
  omega
theorem aS_bd {C B : List Int} {m : Nat} (hb : ∀ i, -2000000 ≤ after C B m i ∧ after C B m i ≤ 13000001) : ∀ k : Nat, -2000000 * (k : Int) ≤ aS C B m k ∧ aS C B m k ≤ 13000001 * (k : Int) := by
  intro k
  induction k with
  | zero => simp [aS, sumI]
  | succ k ih =>
    rw [aS_succ]
    have := hb k
    omega
end Go.Proofs.Ytkoipecnmijfoaa
end

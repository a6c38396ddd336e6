import Derived.Test.YtipidlonidihbaaS33d
/-! Plain law: the numbers of Give. -/
namespace Go.Proofs.Ytipidlonidihbaa
set_option linter.unusedVariables false

def outOf (x : Int) : Bool := decide (x < -1000000) || decide (1000000 < x)
def gvE (C B : List Int) (m : Int) : Int := if pcE C B m ≠ 0 then pcE C B m else if (aftL C B m.toNat).any outOf then 16 else 0
def gvF (C B : List Int) (m : Int) : List Int := if gvE C B m = 0 then freeL C B m.toNat else []
def gvA (C B : List Int) (m : Int) : List Int := if gvE C B m = 0 then aftL C B m.toNat else []
theorem gvE_pc {C B : List Int} {m : Int} (h : pcE C B m ≠ 0) : gvE C B m = pcE C B m := by rw [gvE, if_pos h]
theorem gvE_out {C B : List Int} {m : Nat} (h : pcE C B m = 0) (h2 : (aftL C B m).any outOf = true) : gvE C B m = 16 := by
  rw [gvE, if_neg (by simp [h]), Int.toNat_natCast, if_pos h2]
theorem gvE_ok {C B : List Int} {m : Nat} (h : pcE C B m = 0) (h2 : (aftL C B m).any outOf = false) : gvE C B m = 0 := by
  rw [gvE, if_neg (by simp [h]), Int.toNat_natCast, h2]; rfl
theorem aftL_length (C B : List Int) (m : Nat) : (aftL C B m).length = B.length := by simp [aftL]
theorem freeL_length {C B : List Int} {m : Nat} (hm : m ≤ B.length) : (freeL C B m).length = m := by
  rw [← free_sorted hm, isort_length]
  simp [rkList_length]; omega
theorem any_out {L : List Int} (h : 1 ≤ L.length) : L.any outOf = (decide (minL L < -1000000) || decide (1000000 < maxL L)) := by
  rw [Bool.eq_iff_iff]
  simp only [List.any_eq_true, outOf, Bool.or_eq_true, decide_eq_true_eq, minL_lt h, maxL_lt h]
  constructor
  · rintro ⟨x, hx, h1 | h1⟩
    · exact .inl ⟨x, hx, h1⟩
    · exact .inr ⟨x, hx, h1⟩
  · rintro (⟨x, hx, h1⟩ | ⟨x, hx, h1⟩)
    · exact ⟨x, hx, .inl h1⟩
    · exact ⟨x, hx, .inr h1⟩
/-- what is paid out to each, and what is left -/
theorem gQR {C B : List Int} {m : Nat} (hC : 1 ≤ C.length) (hC2 : C.length ≤ 12) (hm : m ≤ C.length) (h0 : 0 ≤ prOf C B m) (h1 : prOf C B m ≤ 1000000) :
    0 ≤ prOf C B m * m ∧ prOf C B m * m ≤ 12000000 ∧ 0 ≤ gQ C B m ∧ gQ C B m ≤ 12000000 ∧ 0 ≤ gR C B m ∧ gR C B m < C.length
    ∧ (prOf C B m * m).tdiv C.length = gQ C B m ∧ (prOf C B m * m).tmod C.length = gR C B m := by
  have a1 : 0 ≤ prOf C B m * m := Int.mul_nonneg h0 (by omega)
  have a2 : prOf C B m * m ≤ 12000000 := by
    have : prOf C B m * m ≤ 1000000 * 12 := Int.mul_le_mul h1 (by omega) (by omega) (by omega)
    omega
  unfold gQ gR
  have b1 := Int.ediv_nonneg a1 (show (0 : Int) ≤ C.length by omega)
  have b2 := Int.ediv_le_self (C.length : Int) a1
  exact ⟨a1, a2, b1, by omega, Int.emod_nonneg _ (by omega), Int.emod_lt_of_pos _ (by omega), Int.tdiv_eq_ediv_of_nonneg a1, Int.tmod_eq_emod_of_nonneg a1⟩
theorem paid_bd {C B : List Int} {m i : Nat} (hC : ∀ x ∈ C, -1000000 ≤ x ∧ x ≤ 1000000) (h0 : 0 ≤ prOf C B m) (h1 : prOf C B m ≤ 1000000) : -2000000 ≤ paid C B m i ∧ paid C B m i ≤ 1000000 := by
  unfold paid
  have : -1000000 ≤ C.getD i 0 ∧ C.getD i 0 ≤ 1000000 := by
    rcases Nat.lt_or_ge i C.length with h | h
    · have := hC _ (List.getElem_mem h)
      simpa [List.getD, h] using this
    · simp [List.getD, List.getElem?_eq_none h]
  split <;> omega
theorem after_bd {C B : List Int} {m i : Nat} (hp : -2000000 ≤ paid C B m i ∧ paid C B m i ≤ 1000000) (h0 : 0 ≤ gQ C B m) (h1 : gQ C B m ≤ 12000000) : -2000000 ≤ after C B m i ∧ after C B m i ≤ 13000001 := by
  unfold after extra
  split <;> omega
theorem aftL_i64 {C B : List Int} {m : Nat} (hp : ∀ i, -2000000 ≤ paid C B m i ∧ paid C B m i ≤ 1000000) (h0 : 0 ≤ gQ C B m) (h1 : gQ C B m ≤ 12000000) : ∀ x ∈ aftL C B m, -9223372036854775808 ≤ x ∧ x ≤ 9223372036854775807 := by
  intro x hx
  simp only [aftL, List.mem_map] at hx
  obtain ⟨i, _, rfl⟩ := hx
  have := after_bd (hp i) h0 h1
  omega
theorem freeL_i64 {C B : List Int} {m : Nat} (h : B.length ≤ 40) : ∀ x ∈ freeL C B m, -9223372036854775808 ≤ x ∧ x ≤ 9223372036854775807 := by
  intro x hx
  simp only [freeL, List.mem_map, List.mem_filter, List.mem_range] at hx
  obtain ⟨i, ⟨hi, _⟩, rfl⟩ := hx
  omega
/-- the clone, before any place is paid, and behind the last -/
theorem sel_paid {C B : List Int} {m : Nat} (hl : C.length = B.length) : sel C B 0 (fun i => C.getD i 0) (fun i => C.getD i 0 - prOf C B m) = C
    ∧ sel C B m (fun i => C.getD i 0) (fun i => C.getD i 0 - prOf C B m) = sel C B 0 (paid C B m) (after C B m) := by
  refine ⟨by rw [sel_zero]; exact (list_range hl).symm, sel_congr fun i hi => ?_⟩
  unfold paid
  split <;> omega
theorem sel_aft (C B : List Int) (m : Nat) : sel C B B.length (paid C B m) (after C B m) = aftL C B m := sel_all _ _ _ _
end Go.Proofs.Ytipidlonidihbaa

import Derived.Test.YtipidlonidihbaaW33o
/-! Plain law of HolidayMore. -/
namespace Go.Proofs.Ytipidlonidihbaa
open Go.RowKit
set_option linter.unusedVariables false

theorem prOf_le {C B : List Int} {m : Nat} (h1 : 1 ≤ m) (h2 : m < B.length) (hB : ∀ x ∈ B, 0 ≤ x ∧ x ≤ 1000000) : prOf C B ((m : Int) + 1) ≤ prOf C B m := by
  by_cases e : m + 1 = B.length
  · rw [prOf_zero (m := (m : Int) + 1) (.inr (by omega))]
    exact (prOf_bd hB (by omega) (by omega)).1
  · obtain ⟨i, hi, hil, hpi⟩ := rk_nat (C := C) (B := B) (k := m) h2
    obtain ⟨j, hj, hjl, hpj⟩ := rk_nat (C := C) (B := B) (k := m + 1) (by omega)
    have a1 := prOf_at (C := C) (B := B) (m := m) (x := B[i]) (by omega) (by omega) hi (by simp [hil])
    have a2 := prOf_at (C := C) (B := B) (m := m + 1) (x := B[j]) (by omega) (by omega) hj (by simp [hjl])
    have h := bid_le (C := C) hil hjl (by omega)
    have e1 : ((m + 1 : Nat) : Int) = (m : Int) + 1 := by omega
    rw [e1] at a2
    rw [a1, a2]
    simpa [List.getD, hil, hjl] using h
theorem foldl_max_ge : ∀ {L : List Int} {m : Int}, m ≤ L.foldl max m ∧ ∀ x ∈ L, x ≤ L.foldl max m
  | [], m => ⟨Int.le_refl _, by simp⟩
  | y :: t, m => by
    rw [List.foldl_cons]
    have h := foldl_max_ge (L := t) (m := max m y)
    refine ⟨by omega, fun x hx => ?_⟩
    rcases List.mem_cons.1 hx with rfl | hx
    · omega
    · exact h.2 x hx
theorem foldl_max_le {b : Int} : ∀ {L : List Int} {m : Int}, m ≤ b → (∀ x ∈ L, x ≤ b) → L.foldl max m ≤ b
  | [], m, h, _ => h
  | y :: t, m, h, h2 => by
    rw [List.foldl_cons]
    have := h2 y (by simp)
    exact foldl_max_le (by omega) (fun x hx => h2 x (by simp [hx]))
/-- whoever bids more than all stands first -/
theorem top_first {C B : List Int} {a : Nat} {v : Int} (ha : a < B.length) (hv : ∀ x ∈ B, x < v) : (rkList C (B.set a v))[0]? = some (a : Int) := by
  have hl : (B.set a v).length = B.length := by simp
  have hat := at_place (C := C) (B := B.set a v) (i := a) (by rw [hl]; exact ha)
  have h0 : place C (B.set a v) a = 0 := by
    unfold place plc
    rw [List.length_eq_zero_iff, List.filter_eq_nil_iff]
    intro j hj
    have hjl : j < B.length := by simpa [hl] using hj
    simp only [Bool.and_eq_true, decide_eq_true_eq, not_and]
    intro hne hah
    rw [ahd_iff] at hah
    have e1 : (B.set a v).getD a 0 = v := by simp [List.getD, ha]
    have e2 : (B.set a v).getD j 0 = B[j] := by rw [List.getD, List.getElem?_set_ne (Ne.symm hne)]; simp [hjl]
    rw [e1, e2] at hah
    have := hv B[j] (List.getElem_mem hjl)
    omega
  rw [h0] at hat
  exact hat.1
theorem hlk_set {C B : List Int} {a : Nat} {v : Int} (h : hlk C B = 0) (h0 : 0 ≤ v) (h1 : v ≤ 1000000) : hlk C (B.set a v) = 0 := by
  have hV := hlk_ok h
  refine hlk_yes (hlk_hck h) (by simp [hV.len]) ?_
  rw [List.any_eq_false]
  intro x hx
  rcases List.mem_or_eq_of_mem_set hx with hx | rfl
  · have := hV.bd x hx
    simp [badBid]; omega
  · simp [badBid]; omega
end Go.Proofs.Ytipidlonidihbaa

import Derived.Test.YtipidlonidihbaaW33k
/-! Plain law: the lists of the reference's Give as they grow. -/
namespace Go.Proofs.Ytipidlonidihbaa
open Go.RowKit
set_option linter.unusedVariables false

def fK (C B : List Int) (m k : Nat) : List Int := ((List.range k).filter fun i => decide (place C B i < m)).map fun (i : Nat) => (i : Int)
theorem fK_yes {C B : List Int} {m k : Nat} (h : place C B k < m) : fK C B m (k + 1) = fK C B m k ++ [(k : Int)] := by
  unfold fK
  rw [List.range_succ, List.filter_append, List.map_append]
  simp [h]
theorem fK_no {C B : List Int} {m k : Nat} (h : ¬ place C B k < m) : fK C B m (k + 1) = fK C B m k := by
  unfold fK
  rw [List.range_succ, List.filter_append, List.map_append]
  simp [h]
theorem fK_all (C B : List Int) (m : Nat) : fK C B m B.length = freeL C B m := rfl
theorem fK_len (C B : List Int) (m k : Nat) : (fK C B m k).length ≤ k := by
  unfold fK
  rw [List.length_map]
  exact Nat.le_trans (List.length_filter_le _ _) (by simp)
def aK (C B : List Int) (m k : Nat) : List Int := (List.range B.length).map fun i => if i < k then after C B m i else C.getD i 0
theorem aK_length (C B : List Int) (m k : Nat) : (aK C B m k).length = B.length := by simp [aK]
theorem aK_get {C B : List Int} {m k i : Nat} (h : i < B.length) : (aK C B m k)[i]? = some (if i < k then after C B m i else C.getD i 0) := by simp [aK, h]
theorem aK_cur {C B : List Int} {m k : Nat} (h : k < B.length) : (aK C B m k)[k]? = some (C.getD k 0) := by rw [aK_get h, if_neg (by omega)]
theorem aK_set {C B : List Int} {m k : Nat} (h : k < B.length) : (aK C B m k).set k (after C B m k) = aK C B m (k + 1) := by
  apply List.ext_getElem?
  intro j
  rcases Nat.lt_or_ge j B.length with hlt | hge
  · by_cases e : j = k
    · subst e
      rw [List.getElem?_set_self (by rw [aK_length]; exact hlt), aK_get hlt, if_pos (by omega)]
    · rw [List.getElem?_set_ne (by omega), aK_get hlt, aK_get hlt]
      by_cases h2 : j < k
      · rw [if_pos h2, if_pos (by omega)]
      · rw [if_neg h2, if_neg (by omega)]
  · rw [List.getElem?_eq_none (by simp [aK_length]; omega), List.getElem?_eq_none (by rw [aK_length]; omega)]
theorem aK_zero {C B : List Int} {m : Nat} (h : C.length = B.length) : aK C B m 0 = C := by
  rw [list_range h]
  unfold aK
  apply List.map_congr_left
  intro i hi
  rw [if_neg (by omega), ← list_range h]
theorem aK_all (C B : List Int) (m : Nat) : aK C B m B.length = aftL C B m := by
  apply List.map_congr_left
  intro i hi
  rw [if_pos (by simpa using hi)]
theorem row_below {w w' : World} {base e size : Nat} {v : Value} {n : Nat} {xs : List Value} (h : w.ownsRow base e size v n xs) (hb : Below w.heap.size w w') : w'.ownsRow base e size v n xs := by
  refine ⟨h.1, ?_⟩
  rcases h.2 with h2 | ⟨g, cap, cur, hv, hg, hh, r⟩
  · exact .inl h2
  · have hlt : g < w.heap.size := by
      rcases Nat.lt_or_ge g w.heap.size with hlt | hge
      · exact hlt
      · rw [Array.getElem?_eq_none hge] at hh; cases hh
    exact .inr ⟨g, cap, cur, hv, hg, (hb.block g hlt).trans hh, r⟩
theorem out_cons {x : Int} {t : List Int} : (x :: t).any outOf = (outOf x || t.any outOf) := rfl
theorem row_slice {w : World} {base e size : Nat} {v : Value} {n : Nat} {xs : List Value} (h : w.ownsRow base e size v n xs) : ∃ A c, v = .slice A n c ∧ (∀ p, A = some p → base ≤ p.block) := by
  rcases h.2 with ⟨rfl, rfl⟩ | ⟨g, cap, cur, rfl, hg, _⟩
  · exact ⟨none, 0, rfl, by intro p h; cases h⟩
  · exact ⟨_, cap, rfl, by intro p h; cases h; exact hg⟩
theorem row_rd {w : World} {base T : Nat} {A : Option Addr} {c : Nat} {L : List Int} (h : w.ownsRow base T 1 (.slice A L.length c) L.length (L.map (Value.int .i64))) (hi : ∀ x ∈ L, I64 x) (hl : L.length * 8 ≤ 140737488351232) : Rd w w.heap.size A L := by
  by_cases h0 : L.length = 0
  · rw [List.length_eq_zero_iff] at h0
    subst h0
    exact Rd.nil _ _ _
  · obtain ⟨g, cap, e, hg, hP⟩ := ownP_of_row h (by omega)
    cases e
    exact hP.rd hi hl hP.lt
end Go.Proofs.Ytipidlonidihbaa

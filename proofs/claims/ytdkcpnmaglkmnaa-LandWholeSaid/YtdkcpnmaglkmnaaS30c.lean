import Derived.Test.YtdkcpnmaglkmnaaBase3
/-! Plain functions on land. No statement about the program. -/
namespace Go.Proofs.Ytdkcpnmaglkmnaa
set_option linter.unusedVariables false

def badOwn (a : Int) : Bool := decide (a < -1) || decide (6 ≤ a)
/-- the error of land -/
def lck (W H : Int) (L : List Int) : Int := if 12 < W ∨ 12 < H then 4 else if W < 1 ∨ H < 1 ∨ (L.length : Int) ≠ W * H ∨ L.any badOwn = true then 8 else 0
theorem lck_many {W H : Int} {L : List Int} (h : 12 < W ∨ 12 < H) : lck W H L = 4 := by rw [lck, if_pos h]
theorem lck_bad {W H : Int} {L : List Int} (h : ¬ (12 < W ∨ 12 < H)) (h2 : W < 1 ∨ H < 1 ∨ (L.length : Int) ≠ W * H ∨ L.any badOwn = true) : lck W H L = 8 := by rw [lck, if_neg h, if_pos h2]
theorem lck_ok {W H : Int} {L : List Int} (h : ¬ (12 < W ∨ 12 < H)) (h2 : ¬ (W < 1 ∨ H < 1 ∨ (L.length : Int) ≠ W * H ∨ L.any badOwn = true)) : lck W H L = 0 := by rw [lck, if_neg h, if_neg h2]
/-- land without error -/
structure VL (w h : Nat) (L : List Int) : Prop where
  w0 : 1 ≤ w
  w1 : w ≤ 12
  h0 : 1 ≤ h
  h1 : h ≤ 12
  len : L.length = w * h
  bd : ∀ x ∈ L, -1 ≤ x ∧ x ≤ 5
theorem mul_le_144 {a b : Nat} (ha : a ≤ 12) (hb : b ≤ 12) : a * b ≤ 144 := Nat.le_trans (Nat.mul_le_mul ha hb) (by decide)
theorem VL.len144 {w h : Nat} {L : List Int} (v : VL w h L) : L.length ≤ 144 := by rw [v.len]; exact mul_le_144 v.w1 v.h1
theorem lck_zero {W H : Int} {L : List Int} (h : lck W H L = 0) : ∃ w h : Nat, W = w ∧ H = h ∧ VL w h L := by
  unfold lck at h
  split at h
  · exact absurd h (by decide)
  · rename_i h1
    split at h
    · exact absurd h (by decide)
    · rename_i h2
      obtain ⟨w, rfl⟩ := Int.eq_ofNat_of_zero_le (show 0 ≤ W by omega)
      obtain ⟨k, rfl⟩ := Int.eq_ofNat_of_zero_le (show 0 ≤ H by omega)
      refine ⟨w, k, rfl, rfl, by omega, by omega, by omega, by omega, ?_, ?_⟩
      · have : (L.length : Int) = (w : Int) * k := by
          rcases Decidable.em ((L.length : Int) = (w : Int) * k) with h3 | h3
          · exact h3
          · exact absurd (.inr (.inr (.inl h3))) h2
        rw [← Int.natCast_mul] at this
        omega
      · have h3 : L.any badOwn = false := by
          cases hb : L.any badOwn
          · rfl
          · exact absurd (.inr (.inr (.inr hb))) h2
        intro x hx
        have := List.any_eq_false.1 h3 x hx
        simp [badOwn] at this
        omega
theorem lck_of {w h : Nat} {L : List Int} (v : VL w h L) : lck w h L = 0 := by
  have := v.w0; have := v.w1; have := v.h0; have := v.h1
  refine lck_ok (by omega) ?_
  rintro (h1 | h1 | h1 | h1)
  · omega
  · omega
  · apply h1; rw [v.len, Int.natCast_mul]
  · obtain ⟨x, hx, hb⟩ := List.any_eq_true.1 h1
    have := v.bd x hx
    simp [badOwn] at hb
    omega
/-- the error of land and an agent -/
def lkd (W H : Int) (L : List Int) (a : Int) : Int := if lck W H L ≠ 0 then lck W H L else if a < 0 ∨ 6 ≤ a then 2 else 0
theorem lkd_chk {W H : Int} {L : List Int} {a : Int} (h : lck W H L ≠ 0) : lkd W H L a = lck W H L := by rw [lkd, if_pos h]
theorem lkd_arg {W H : Int} {L : List Int} {a : Int} (h : lck W H L = 0) (h2 : a < 0 ∨ 6 ≤ a) : lkd W H L a = 2 := by rw [lkd, if_neg (by simp [h]), if_pos h2]
theorem lkd_ok {W H : Int} {L : List Int} {a : Int} (h : lck W H L = 0) (h2 : ¬ (a < 0 ∨ 6 ≤ a)) : lkd W H L a = 0 := by rw [lkd, if_neg (by simp [h]), if_neg h2]
theorem lkd_zero {W H : Int} {L : List Int} {a : Int} (h : lkd W H L a = 0) : lck W H L = 0 ∧ 0 ≤ a ∧ a ≤ 5 := by
  unfold lkd at h
  split at h
  · contradiction
  · rename_i h0
    split at h
    · exact absurd h (by decide)
    · exact ⟨by simpa using h0, by omega, by omega⟩
/-- the owner of a place: -1 outside -/
def atL (w h : Nat) (L : List Int) (x y : Int) : Int := if x < 0 ∨ y < 0 ∨ (w : Int) ≤ x ∨ (h : Int) ≤ y then -1 else L.getD (y.toNat * w + x.toNat) 0
theorem atL_out {w h : Nat} {L : List Int} {x y : Int} (hx : x < 0 ∨ y < 0 ∨ (w : Int) ≤ x ∨ (h : Int) ≤ y) : atL w h L x y = -1 := by rw [atL, if_pos hx]
theorem atL_in {w h : Nat} {L : List Int} {x y : Nat} (hx : x < w) (hy : y < h) : atL w h L x y = L.getD (y * w + x) 0 := by
  rw [atL, if_neg (by omega), Int.toNat_natCast, Int.toNat_natCast]
theorem idx_lt {w h x y : Nat} (hx : x < w) (hy : y < h) : y * w + x < w * h := by
  have h2 : (y + 1) * w ≤ h * w := Nat.mul_le_mul_right _ (by omega)
  rw [Nat.add_mul] at h2
  rw [Nat.mul_comm w h]
  omega
theorem atL_bd {w h : Nat} {L : List Int} (v : VL w h L) (x y : Int) : -1 ≤ atL w h L x y ∧ atL w h L x y ≤ 5 := by
  by_cases hx : x < 0 ∨ y < 0 ∨ (w : Int) ≤ x ∨ (h : Int) ≤ y
  · rw [atL_out hx]; omega
  · obtain ⟨xn, rfl⟩ := Int.eq_ofNat_of_zero_le (show 0 ≤ x by omega)
    obtain ⟨yn, rfl⟩ := Int.eq_ofNat_of_zero_le (show 0 ≤ y by omega)
    have hl := idx_lt (w := w) (h := h) (x := xn) (y := yn) (by omega) (by omega)
    rw [atL_in (by omega) (by omega), List.getD_eq_getElem?_getD, List.getElem?_eq_getElem (by rw [v.len]; exact hl)]
    exact v.bd _ (List.getElem_mem _)
end Go.Proofs.Ytdkcpnmaglkmnaa

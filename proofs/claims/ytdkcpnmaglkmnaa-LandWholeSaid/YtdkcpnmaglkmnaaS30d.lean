import Derived.Test.YtdkcpnmaglkmnaaW30e
/-! Plain law: sides, boundaries and borders of land. -/
namespace Go.Proofs.Ytdkcpnmaglkmnaa
set_option linter.unusedVariables false

theorem ownF_grid {W H : Nat} {L : List Int} {a : Int} (ha : 0 ≤ a) : InGrid (ownF W H L a) W H := by
  constructor
  · intro x y h
    by_cases ho : x < 0 ∨ y < 0 ∨ (W : Int) ≤ x ∨ (H : Int) ≤ y
    · unfold ownF at h; rw [atL_out ho] at h; simp at h; omega
    · omega
  · intro x y h
    by_cases ho : x < 0 ∨ y < 0 ∨ (W : Int) ≤ x ∨ (H : Int) ≤ y
    · unfold ownF at h; rw [atL_out ho] at h; simp at h; omega
    · omega
theorem ownF_no {W H : Nat} {L : List Int} {a : Int} (ha : 0 ≤ a) {x y : Int} (h : x < 0 ∨ y < 0 ∨ (W : Int) ≤ x ∨ (H : Int) ≤ y) : ownF W H L a x y = false := by
  unfold ownF
  rw [atL_out h]
  simp; omega
/-- the owner of a parcel -/
theorem own_at {W H : Nat} {L : List Int} (v : VL W H L) {i : Nat} (hi : i < L.length) : L.getD i 0 = atL W H L ((i % W : Nat) : Int) ((i / W : Nat) : Int) := by
  have hW := v.w0
  have h1 : i % W < W := Nat.mod_lt _ hW
  have h2 : i / W < H := by
    rw [Nat.div_lt_iff_lt_mul hW, Nat.mul_comm]
    rw [v.len] at hi; exact hi
  rw [atL_in h1 h2, Nat.mul_comm, Nat.div_add_mod]
/-- the sides, place by place -/
theorem sidesN_grid {W H : Nat} {L : List Int} (v : VL W H L) (a : Int) (p : Int → Bool) :
    sidesN W H L a p = sumN H (fun y => sumN W (fun x => if ownF W H L a x y then (one (p (atL W H L ((x : Int) + 1) y)) + one (p (atL W H L ((x : Int) - 1) y))) + (one (p (atL W H L x ((y : Int) + 1))) + one (p (atL W H L x ((y : Int) - 1)))) else 0)) := by
  rw [← sumN_grid W v.w0 (fun x y => if ownF W H L a x y then (one (p (atL W H L ((x : Int) + 1) y)) + one (p (atL W H L ((x : Int) - 1) y))) + (one (p (atL W H L x ((y : Int) + 1))) + one (p (atL W H L x ((y : Int) - 1)))) else 0) H]
  unfold sidesN
  rw [v.len]
  refine sumN_congr fun i hi => ?_
  have ho := own_at v (i := i) (by rw [v.len]; exact hi)
  unfold sideG ownF
  rw [ho]
  have e1 : (i : Int) % (W : Int) = ((i % W : Nat) : Int) := rfl
  have e2 : (i : Int) / (W : Int) = ((i / W : Nat) : Int) := rfl
  rw [e1, e2]
  generalize ((i % W : Nat) : Int) = x
  generalize ((i / W : Nat) : Int) = y
  by_cases h : atL W H L x y = a
  · rw [if_pos h, if_pos (by simpa using h)]
    simp only [sumN, dxI, dyI]
    simp only [if_true, if_false, Int.add_zero, Nat.zero_add, show ¬ (0 = 2) by decide, show ¬ (0 = 3) by decide, show ¬ (1 = 0) by decide, show ¬ (1 = 2) by decide, show ¬ (2 = 0) by decide, show ¬ (2 = 1) by decide, show ¬ (2 = 3) by decide, show ¬ (3 = 0) by decide, show ¬ (3 = 2) by decide, show ¬ (3 = 1) by decide, show ¬ (0 = 1) by decide]
    rw [show x + -1 = x - 1 by omega, show y + -1 = y - 1 by omega]
    omega
  · rw [if_neg h, if_neg (by simpa using h)]
/-- the boundary, by the changes between places -/
theorem boundary_eq {W H : Nat} {L : List Int} (v : VL W H L) {a : Int} (ha : 0 ≤ a) :
    sumN (H + 2) (fun yy => sumN (W + 2) (fun xx => one (ownF W H L a ((xx : Int) - 1) ((yy : Int) - 1) != ownF W H L a (xx : Int) ((yy : Int) - 1)) + one (ownF W H L a ((xx : Int) - 1) ((yy : Int) - 1) != ownF W H L a ((xx : Int) - 1) (yy : Int))))
      = sidesN W H L a (fun x => x != a) := by
  rw [boundary_law W H (ownF W H L a) (fun x y hx => ownF_no ha (.inl hx)) (fun x y hx => ownF_no ha (.inr (.inr (.inl hx)))) (fun x y hy => ownF_no ha (.inr (.inl hy))) (fun x y hy => ownF_no ha (.inr (.inr (.inr hy))))]
  rw [sidesN_grid v]
  rfl
/-- the border, by pairs of parcels -/
theorem border_eq {W H : Nat} {L : List Int} (v : VL W H L) {a b : Int} (hb : 0 ≤ b) :
    sumN L.length (fun i => sumN L.length (fun k => one ((L.getD i 0 == a) && ((L.getD k 0 == b) && nbB W i k)))) = sidesN W H L a (fun x => x == b) := by
  rw [sidesN_grid v]
  rw [← sumN_grid W v.w0 (fun x y => if ownF W H L a x y then (one (atL W H L ((x : Int) + 1) y == b) + one (atL W H L ((x : Int) - 1) y == b)) + (one (atL W H L x ((y : Int) + 1) == b) + one (atL W H L x ((y : Int) - 1) == b)) else 0) H]
  rw [v.len]
  refine sumN_congr fun i hi => ?_
  have ho := own_at v (i := i) (by rw [v.len]; exact hi)
  have key : sumN (W * H) (fun k => one ((L.getD i 0 == a) && ((L.getD k 0 == b) && nbB W i k)))
      = sumN H (fun y => sumN W (fun x => one ((L.getD i 0 == a) && (ownF W H L b x y && decide ((((i % W : Nat) : Int) - x) * (((i % W : Nat) : Int) - x) + (((i / W : Nat) : Int) - y) * (((i / W : Nat) : Int) - y) = 1))))) := by
    rw [← sumN_grid W v.w0 (fun x y => one ((L.getD i 0 == a) && (ownF W H L b x y && decide ((((i % W : Nat) : Int) - x) * (((i % W : Nat) : Int) - x) + (((i / W : Nat) : Int) - y) * (((i / W : Nat) : Int) - y) = 1)))) H]
    refine sumN_congr fun k hk => ?_
    have hok := own_at v (i := k) (by rw [v.len]; exact hk)
    rw [hok]
    rfl
  rw [key]
  by_cases h : L.getD i 0 = a
  · have h1 : (L.getD i 0 == a) = true := by simpa using h
    rw [h1]
    simp only [Bool.true_and]
    rw [border_law W H (ownF W H L b) (fun x y hx => ownF_no hb (.inl hx)) (fun x y hx => ownF_no hb (.inr (.inr (.inl hx)))) (fun x y hy => ownF_no hb (.inr (.inl hy))) (fun x y hy => ownF_no hb (.inr (.inr (.inr hy))))]
    have h2 : ownF W H L a ((i % W : Nat) : Int) ((i / W : Nat) : Int) = true := by unfold ownF; rw [← ho]; exact h1
    rw [if_pos h2]
    rfl
  · have h1 : (L.getD i 0 == a) = false := by simpa using h
    rw [h1]
    have h2 : ownF W H L a ((i % W : Nat) : Int) ((i / W : Nat) : Int) = false := by unfold ownF; rw [← ho]; exact h1
    rw [h2]
    simp only [Bool.false_and, Bool.false_eq_true, if_false]
    exact sumN_zero fun y _ => sumN_zero fun x _ => rfl
end Go.Proofs.Ytdkcpnmaglkmnaa

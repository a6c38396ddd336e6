import Derived.Test.YtdkcpnmaglkmnaaW30f
import Derived.Test.YtdkcpnmaglkmnaaS30h
/-! Plain law: the boundary is the borders and the sides beside nobody. No statement about the program. -/
namespace Go.Proofs.Ytdkcpnmaglkmnaa
set_option linter.unusedVariables false

theorem nbB_comm (W i k : Nat) : nbB W i k = nbB W k i := by
  rw [Bool.eq_iff_iff]
  exact ⟨nbB_symm, nbB_symm⟩
/-- borders are the same both ways -/
theorem border_comm {W H : Nat} {L : List Int} (v : VL W H L) {a b : Int} (ha : 0 ≤ a) (hb : 0 ≤ b) : sidesN W H L a (fun x => x == b) = sidesN W H L b (fun x => x == a) := by
  rw [← border_eq v hb, ← border_eq v ha, sumN_swap]
  refine sumN_congr fun i hi => sumN_congr fun k hk => ?_
  rw [nbB_comm W k i]
  cases (L.getD k 0 == a) <;> cases (L.getD i 0 == b) <;> rfl
theorem pt_sum {z a : Int} (h1 : -1 ≤ z) (h2 : z ≤ 5) (ha : 0 ≤ a) : one (z != a) = sumN 6 (fun c => if (c : Int) = a then 0 else one (z == (c : Int))) + one (decide (z < 0)) := by
  have hc : z = -1 ∨ z = 0 ∨ z = 1 ∨ z = 2 ∨ z = 3 ∨ z = 4 ∨ z = 5 := by omega
  by_cases hz : z = a
  · subst hz
    have h0 : ¬ z < 0 := by omega
    have e1 : (z != z) = false := by simp
    rw [e1]
    have e2 : decide (z < 0) = false := by simpa using h0
    rw [e2]
    show 0 = sumN 6 _ + 0
    rw [sumN_zero]
    intro c hc
    by_cases h : (c : Int) = z
    · rw [if_pos h]
    · rw [if_neg h]
      have : (z == (c : Int)) = false := by simpa using (fun e => h (Eq.symm e))
      rw [this]; rfl
  · have e1 : (z != a) = true := by simpa using hz
    rw [e1]
    have key : ∀ c : Nat, (if (c : Int) = a then 0 else one (z == (c : Int))) = one (z == (c : Int)) := by
      intro c
      by_cases h : (c : Int) = a
      · rw [if_pos h]
        have : (z == (c : Int)) = false := by rw [h]; simpa using hz
        rw [this]; rfl
      · rw [if_neg h]
    rw [sumN_congr (fun c _ => key c)]
    rcases hc with rfl | rfl | rfl | rfl | rfl | rfl | rfl <;> decide
theorem sumN_ite (n : Nat) (b : Prop) [Decidable b] (f : Nat → Nat) : sumN n (fun i => if b then 0 else f i) = if b then 0 else sumN n f := by
  by_cases h : b
  · rw [if_pos h]; exact sumN_zero fun i _ => if_pos h
  · rw [if_neg h]; exact sumN_congr fun i _ => if_neg h
/-- the borders of a with the agents below c -/
def brdTo (W H : Nat) (L : List Int) (a : Int) (c : Nat) : Nat := sumN c fun c => if (c : Int) = a then 0 else sidesN W H L a (fun x => x == (c : Int))
theorem borders_law {W H : Nat} {L : List Int} (v : VL W H L) {a : Int} (ha : 0 ≤ a) : sidesN W H L a (fun x => x != a) = brdTo W H L a 6 + sidesN W H L a (fun x => decide (x < 0)) := by
  have e : brdTo W H L a 6 = sumN L.length (fun i => sumN 6 fun c => if (c : Int) = a then 0 else sideG W H L a (fun x => x == (c : Int)) i) := by
    rw [brdTo, ← sumN_swap 6 L.length]
    refine sumN_congr fun c _ => ?_
    rw [sumN_ite]; rfl
  rw [e]
  unfold sidesN
  rw [← sumN_add]
  refine sumN_congr fun i hi => ?_
  unfold sideG
  by_cases hm : L.getD i 0 = a
  · simp only [if_pos hm]
    have e2 : ∀ c : Nat, c < 6 → (if (c : Int) = a then 0 else sumN 4 (fun j => one (atL W H L ((i : Int) % W + dxI j) ((i : Int) / W + dyI j) == (c : Int)))) = sumN 4 (fun j => if (c : Int) = a then 0 else one (atL W H L ((i : Int) % W + dxI j) ((i : Int) / W + dyI j) == (c : Int))) := by
      intro c _; rw [sumN_ite]
    rw [sumN_congr e2, sumN_swap 6 4, ← sumN_add]
    refine sumN_congr fun j hj => ?_
    have hb := atL_bd v ((i : Int) % W + dxI j) ((i : Int) / W + dyI j)
    exact pt_sum hb.1 hb.2 ha
  · simp only [if_neg hm]
    rw [sumN_zero]
    intro c hc
    split <;> rfl
end Go.Proofs.Ytdkcpnmaglkmnaa

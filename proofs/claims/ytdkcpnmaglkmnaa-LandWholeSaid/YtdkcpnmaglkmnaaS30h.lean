import Derived.Test.YtdkcpnmaglkmnaaS30g
import Derived.Test.YtdkcpnmaglkmnaaS30d
/-! Plain law: the parts of an agent on land, and the search for them. No statement about the program. -/
namespace Go.Proofs.Ytdkcpnmaglkmnaa
set_option linter.unusedVariables false

/-- is this parcel a's? -/
def mineB (L : List Int) (a : Int) (i : Nat) : Bool := decide (L[i]? = some a)
/-- are these two of a's parcels, and neighbours? -/
def linkB (W : Nat) (L : List Int) (a : Int) (i k : Nat) : Bool := mineB L a i && (mineB L a k && nbB W i k)
theorem mineB_iff {L : List Int} {a : Int} {i : Nat} : mineB L a i = true ↔ L[i]? = some a := by simp [mineB]
theorem mineB_lt {L : List Int} {a : Int} {i : Nat} (h : mineB L a i = true) : i < L.length := (List.getElem?_eq_some_iff.1 (mineB_iff.1 h)).1
theorem mineB_getD {L : List Int} {a : Int} {i : Nat} (hi : i < L.length) : mineB L a i = (L.getD i 0 == a) := by
  rw [Bool.eq_iff_iff]
  simp [mineB, hi, List.getD_eq_getElem?_getD]
theorem nbB_symm {W i k : Nat} (h : nbB W i k = true) : nbB W k i = true := by
  unfold nbB at *
  simp only [decide_eq_true_eq] at *
  rw [← Int.neg_sub ((i : Int) % W), ← Int.neg_sub ((i : Int) / W), Int.neg_mul_neg, Int.neg_mul_neg]
  exact h
theorem linkB_iff {W : Nat} {L : List Int} {a : Int} {i k : Nat} : linkB W L a i k = true ↔ mineB L a i = true ∧ mineB L a k = true ∧ nbB W i k = true := by
  simp [linkB]
theorem linkB_symm {W : Nat} {L : List Int} {a : Int} (i k : Nat) (h : linkB W L a i k = true) : linkB W L a k i = true := by
  obtain ⟨h1, h2, h3⟩ := linkB_iff.1 h
  exact linkB_iff.2 ⟨h2, h1, nbB_symm h3⟩
theorem linkB_lt {W : Nat} {L : List Int} {a : Int} (i k : Nat) (h : linkB W L a i k = true) : k < L.length := mineB_lt (linkB_iff.1 h).2.1
theorem linkB_mine {W : Nat} {L : List Int} {a : Int} {i k : Nat} (hi : mineB L a i = true) (h : Con (linkB W L a) i k) : mineB L a k = true :=
  h.closed (S := fun k => mineB L a k = true) (fun _ _ _ hr => (linkB_iff.1 hr).2.1) hi
/-- the neighbours of a parcel, by the ways to them -/
theorem nbB_way {W i k : Nat} (h : nbB W i k = true) : ∃ j, j < 4 ∧ (k : Int) % W = (i : Int) % W + dxI j ∧ (k : Int) / W = (i : Int) / W + dyI j := by
  unfold nbB at h
  simp only [decide_eq_true_eq] at h
  rcases mul_one_cases h with ⟨h1, h2⟩ | ⟨h1, h2⟩ | ⟨h1, h2⟩ | ⟨h1, h2⟩
  · exact ⟨2, by omega, by simp [dxI]; omega, by simp [dyI]; omega⟩
  · exact ⟨0, by omega, by simp [dxI]; omega, by simp [dyI]; omega⟩
  · exact ⟨3, by omega, by simp [dxI]; omega, by simp [dyI]; omega⟩
  · exact ⟨1, by omega, by simp [dxI]; omega, by simp [dyI]; omega⟩
theorem way_nbB {W i k j : Nat} (hj : j < 4) (h1 : (k : Int) % W = (i : Int) % W + dxI j) (h2 : (k : Int) / W = (i : Int) / W + dyI j) : nbB W i k = true := by
  have hc : j = 0 ∨ j = 1 ∨ j = 2 ∨ j = 3 := by omega
  unfold nbB
  rw [h1, h2]
  generalize (i : Int) % W = p
  generalize (i : Int) / W = q
  rcases hc with rfl | rfl | rfl | rfl
  · rw [show p - (p + dxI 0) = -1 by simp [dxI]; omega, show q - (q + dyI 0) = 0 by simp [dyI]]; decide
  · rw [show p - (p + dxI 1) = 0 by simp [dxI], show q - (q + dyI 1) = -1 by simp [dyI]; omega]; decide
  · rw [show p - (p + dxI 2) = 1 by simp [dxI]; omega, show q - (q + dyI 2) = 0 by simp [dyI]]; decide
  · rw [show p - (p + dxI 3) = 0 by simp [dxI], show q - (q + dyI 3) = 1 by simp [dyI]; omega]; decide
/-- the place that a way from p leads to -/
def wayX (W p j : Nat) : Int := (p : Int) % W + dxI j
def wayY (W p j : Nat) : Int := (p : Int) / W + dyI j
def wayN (W p j : Nat) : Int := wayY W p j * W + wayX W p j
theorem way_hit {W H : Nat} {L : List Int} (v : VL W H L) {a : Int} (ha : 0 ≤ a) {p j : Nat} (hj : j < 4) (h : atL W H L (wayX W p j) (wayY W p j) = a) :
    ∃ q : Nat, wayN W p j = q ∧ mineB L a q = true ∧ nbB W p q = true := by
  have hW := v.w0
  by_cases ho : wayX W p j < 0 ∨ wayY W p j < 0 ∨ (W : Int) ≤ wayX W p j ∨ (H : Int) ≤ wayY W p j
  · rw [atL_out ho] at h; omega
  · obtain ⟨x, hx⟩ := Int.eq_ofNat_of_zero_le (show 0 ≤ wayX W p j by omega)
    obtain ⟨y, hy⟩ := Int.eq_ofNat_of_zero_le (show 0 ≤ wayY W p j by omega)
    have hxw : x < W := by omega
    have hyh : y < H := by omega
    have hlt := idx_lt hxw hyh
    rw [hx, hy] at h
    rw [atL_in hxw hyh] at h
    refine ⟨y * W + x, by rw [wayN, hx, hy]; simp, ?_, ?_⟩
    · rw [mineB_getD (by rw [v.len]; exact hlt), h]; simp
    · refine way_nbB hj ?_ ?_
      · show _ = wayX W p j
        rw [hx]
        have : (y * W + x) % W = x := by rw [Nat.mul_comm, Nat.mul_add_mod]; exact Nat.mod_eq_of_lt hxw
        exact_mod_cast this
      · show _ = wayY W p j
        rw [hy]
        have : (y * W + x) / W = y := by rw [Nat.mul_comm, Nat.mul_add_div (by omega), Nat.div_eq_of_lt hxw]; omega
        exact_mod_cast this
theorem way_of {W H : Nat} {L : List Int} (v : VL W H L) {a : Int} {p q : Nat} (hq : mineB L a q = true) (h : nbB W p q = true) :
    ∃ j, j < 4 ∧ atL W H L (wayX W p j) (wayY W p j) = a ∧ wayN W p j = q := by
  obtain ⟨j, hj, h1, h2⟩ := nbB_way h
  have hql := mineB_lt hq
  have ho := own_at v hql
  rw [mineB_getD hql] at hq
  simp at hq
  refine ⟨j, hj, ?_, ?_⟩
  · unfold wayX wayY
    rw [← h1, ← h2]
    have e1 : (q : Int) % (W : Int) = ((q % W : Nat) : Int) := rfl
    have e2 : (q : Int) / (W : Int) = ((q / W : Nat) : Int) := rfl
    rw [e1, e2, ← ho]
    exact hq
  · unfold wayN wayX wayY
    rw [← h1, ← h2, Int.mul_comm]
    exact Int.mul_ediv_add_emod _ _
end Go.Proofs.Ytdkcpnmaglkmnaa

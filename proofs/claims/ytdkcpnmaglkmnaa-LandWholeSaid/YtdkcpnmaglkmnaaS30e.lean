import Derived.Test.YtdkcpnmaglkmnaaS30d
import Derived.Test.YtdkcpnmaglkmnaaW30i
/-! Plain law: the walk as a list of corners. -/
namespace Go.Proofs.Ytdkcpnmaglkmnaa
set_option linter.unusedVariables false

def startS (W i : Nat) : St := ⟨(i : Int) % W, (i : Int) / W, 0⟩
theorem start_edge {W H : Nat} {L : List Int} (v : VL W H L) {a : Int} (ha : 0 ≤ a) {i : Nat} (hi : i < L.length) (hx : L.getD i 0 = a) (hmin : ∀ j, j < i → L.getD j 0 ≠ a) : Edge (ownF W H L a) (startS W i) := by
  have ho := own_at v hi
  have hW := v.w0
  refine ⟨by show 0 < 4; omega, ?_, ?_⟩
  · show (atL W H L ((i % W : Nat) : Int) ((i / W : Nat) : Int) == a) = true
    rw [← ho, hx]; simp
  · have e1 : (startS W i).rx = ((i % W : Nat) : Int) := by
      show (i : Int) % W + dxI 3 = ((i % W : Nat) : Int)
      have : dxI 3 = 0 := by decide
      rw [this, Int.add_zero]; rfl
    have e2 : (startS W i).ry = ((i / W : Nat) : Int) - 1 := by
      show (i : Int) / W + dyI 3 = ((i / W : Nat) : Int) - 1
      have : dyI 3 = -1 := by decide
      rw [this]; rfl
    rw [e1, e2]
    by_cases hy : i / W = 0
    · exact ownF_no ha (.inr (.inl (by rw [hy]; decide)))
    · obtain ⟨y, hy'⟩ : ∃ y, i / W = y + 1 := Nat.exists_eq_succ_of_ne_zero hy
      have hm := Nat.mod_lt i hW
      have hd := Nat.div_add_mod i W
      have hyH : y < H := by
        have h2 : i / W < H := by
          rw [Nat.div_lt_iff_lt_mul hW, Nat.mul_comm]
          rw [v.len] at hi; exact hi
        omega
      rw [hy', show (((y + 1 : Nat) : Int) - 1) = (y : Int) by omega]
      unfold ownF
      rw [atL_in hm hyH]
      have hlt : y * W + i % W < i := by
        rw [hy', Nat.mul_add, Nat.mul_one, Nat.mul_comm] at hd
        omega
      simpa using hmin _ hlt
/-- the first k corners -/
def ptsK (f : Int → Int → Bool) (s : St) (k : Nat) : List (Int × Int) := (List.range k).map fun i => (cornX (itN f i s), cornY (itN f i s))
theorem ptsK_length (f : Int → Int → Bool) (s : St) (k : Nat) : (ptsK f s k).length = k := by simp [ptsK]
theorem ptsK_succ (f : Int → Int → Bool) (s : St) (k : Nat) : ptsK f s (k + 1) = ptsK f s k ++ [(cornX (itN f k s), cornY (itN f k s))] := by
  simp [ptsK, List.range_succ]
/-- the number of the first parcel -/
def fst (L : List Int) (a : Int) : Int := fIdx (fun x => a == x) L 0
def wkE (W H : Int) (L : List Int) (a : Int) : Int := if lkd W H L a ≠ 0 then lkd W H L a else if fst L a < 0 then 6 else 0
def wkS (W : Int) (L : List Int) (a : Int) : St := startS W.toNat (fst L a).toNat
def wkF (W H : Int) (L : List Int) (a : Int) : Int → Int → Bool := ownF W.toNat H.toNat L a
noncomputable def wkP (W H : Int) (L : List Int) (a : Int) : List (Int × Int) := if wkE W H L a = 0 then ptsK (wkF W H L a) (wkS W L a) (walkN (wkF W H L a) (wkS W L a)) else []
theorem wkE_chk {W H : Int} {L : List Int} {a : Int} (h : lkd W H L a ≠ 0) : wkE W H L a = lkd W H L a ∧ wkP W H L a = [] := by
  have h1 : wkE W H L a = lkd W H L a := by rw [wkE, if_pos h]
  exact ⟨h1, by rw [wkP, h1, if_neg h]⟩
theorem wkE_none {W H : Int} {L : List Int} {a : Int} (h : lkd W H L a = 0) (h2 : fst L a < 0) : wkE W H L a = 6 ∧ wkP W H L a = [] := by
  have h1 : wkE W H L a = 6 := by rw [wkE, if_neg (by simp [h]), if_pos h2]
  exact ⟨h1, by rw [wkP, h1, if_neg (by decide)]⟩
/-- a walk: where it begins, how long it is -/
structure WalkOk (f : Int → Int → Bool) (W H : Nat) (s : St) (N : Nat) : Prop where
  grid : InGrid f W H
  e0 : Edge f s
  d0 : s.d = 0
  n0 : 0 < N
  nW : N ≤ W * H * 4
  back : itN f N s = s
  low : ∀ k, 0 < k → k < N → itN f k s ≠ s
theorem WalkOk.edge {f : Int → Int → Bool} {W H : Nat} {s : St} {N : Nat} (h : WalkOk f W H s N) (k : Nat) : Edge f (itN f k s) := itN_edge h.e0 k
theorem WalkOk.bd {f : Int → Int → Bool} {W H : Nat} {s : St} {N : Nat} (h : WalkOk f W H s N) (k : Nat) : (0 ≤ (itN f k s).x ∧ (itN f k s).x < W) ∧ 0 ≤ (itN f k s).y ∧ (itN f k s).y < H :=
  ⟨h.grid.x _ _ (h.edge k).l, h.grid.y _ _ (h.edge k).l⟩
theorem wk_ok {W H : Nat} {L : List Int} (v : VL W H L) {a : Int} (ha : 0 ≤ a) (hk : lkd W H L a = 0) (h2 : ¬ fst L a < 0) :
    ∃ i : Nat, i < L.length ∧ fst L a = i ∧ L.getD i 0 = a ∧ wkE W H L a = 0 ∧ wkP W H L a = ptsK (ownF W H L a) (startS W i) (walkN (ownF W H L a) (startS W i)) ∧ WalkOk (ownF W H L a) W H (startS W i) (walkN (ownF W H L a) (startS W i)) := by
  rcases fIdx_eq (p := fun x => a == x) (L := L) (k := 0) with h | ⟨i, hi, h1, ⟨x, hx, hp⟩, h3⟩
  · exfalso; apply h2; show fIdx _ L 0 < 0; rw [h]; decide
  · have hxa : L.getD i 0 = a := by
      rw [List.getD_eq_getElem?_getD, hx]
      have : a = x := by simpa using hp
      exact this.symm
    have hmin : ∀ j, j < i → L.getD j 0 ≠ a := by
      intro j hj e
      have hjl : j < L.length := by omega
      have := h3 j hj L[j] (by simp [hjl])
      rw [List.getD_eq_getElem?_getD, List.getElem?_eq_getElem hjl] at e
      simp at this e
      exact this e.symm
    have hE : wkE W H L a = 0 := by rw [wkE, if_neg (by simp [hk]), if_neg h2]
    have hf : fst L a = i := by show fIdx _ L 0 = i; rw [h1]; omega
    have he := start_edge v ha hi hxa hmin
    have hg := ownF_grid (W := W) (H := H) (L := L) ha
    obtain ⟨s1, s2, s3, s4⟩ := walkN_spec hg he
    refine ⟨i, hi, hf, hxa, hE, ?_, hg, he, rfl, s1, s2, s3, s4⟩
    rw [wkP, if_pos hE, wkF, wkS, hf, Int.toNat_natCast, Int.toNat_natCast, Int.toNat_natCast]
end Go.Proofs.Ytdkcpnmaglkmnaa

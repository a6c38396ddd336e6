import Derived.Test.YtdkcpnmaglkmnaaS30t
/-! Plain law: the reference's search for holes. No statement about the program. -/
namespace Go.Proofs.Ytdkcpnmaglkmnaa
set_option linter.unusedVariables false

/-- how many are not marked -/
def cntF (O : List Bool) : Nat := O.countP fun b => !b
theorem cntF_set : ∀ {O : List Bool} {i : Nat}, O[i]? = some false → cntF (O.set i true) < cntF O
  | [], i, h => by simp at h
  | z :: O, 0, h => by
    simp at h
    subst h
    simp [cntF]
  | z :: O, i + 1, h => by
    have := cntF_set (O := O) (i := i) (by simpa using h)
    simp only [cntF, List.set_cons_succ, List.countP_cons] at this ⊢
    omega
/-- outside of the land -/
def outB (W H : Nat) (x y : Int) : Bool := decide (x < 0) || (decide (y < 0) || (decide ((W : Int) ≤ x) || decide ((H : Int) ≤ y)))
theorem outB_iff {W H : Nat} {x y : Int} : outB W H x y = true ↔ (x < 0 ∨ y < 0 ∨ (W : Int) ≤ x ∨ (H : Int) ≤ y) := by
  unfold outB
  simp only [Bool.or_eq_true, decide_eq_true_iff]
/-- the place at (x, y) is outside or marked -/
def nearB (W H : Nat) (O : List Bool) (x y : Int) : Bool := outB W H x y || O.getD (y * W + x).toNat false
def StillH (W H : Nat) (L : List Int) (a : Int) (O : List Bool) (i : Nat) (dx dy : Int) : Prop :=
  O[i]? = some false → mineB L a i = false → nearB W H O ((i : Int) % W + dx) ((i : Int) / W + dy) = false
/-- the marks: places that are free -/
structure FreeL (W H : Nat) (L : List Int) (a : Int) (O : List Bool) : Prop where
  len : O.length = L.length
  ok : ∀ i, O[i]? = some true → mineB L a i = false ∧ Free (ownF W H L a) W H ((i : Int) % W) ((i : Int) / W)
section
variable {W H : Nat} {L : List Int} {a : Int} {O O' : List Bool} {b : Bool} {i : Nat} {dx dy : Int}
theorem FreeL.start : FreeL W H L a (List.replicate L.length false) where
  len := by simp
  ok := fun i h => by
    rw [List.getElem?_replicate] at h
    split at h
    · cases h
    · cases h
theorem in_num (v : VL W H L) {x y : Int} (h : outB W H x y = false) : ∃ j : Nat, j < L.length ∧ (j : Int) % W = x ∧ (j : Int) / W = y ∧ (y * W + x).toNat = j := by
  have hno : ¬ (x < 0 ∨ y < 0 ∨ (W : Int) ≤ x ∨ (H : Int) ≤ y) := fun hc => by rw [outB_iff.2 hc] at h; cases h
  obtain ⟨j, h1, h2, h3⟩ := grid_num v hno
  refine ⟨j, h1, h2, h3, ?_⟩
  have := Int.emod_add_mul_ediv (j : Int) W
  rw [h2, h3, Int.mul_comm] at this
  omega
theorem in_num2 (v : VL W H L) {x y : Int} (h : outB W H x y = false) : ∃ j : Nat, j < L.length ∧ y * W + x = (j : Int) ∧ 0 ≤ x ∧ x < W ∧ ∀ O : List Bool, nearB W H O x y = O.getD j false := by
  obtain ⟨j, h1, h2, h3, h4⟩ := in_num v h
  have hno : ¬ (x < 0 ∨ y < 0 ∨ (W : Int) ≤ x ∨ (H : Int) ≤ y) := fun hc => by rw [outB_iff.2 hc] at h; cases h
  refine ⟨j, h1, ?_, by omega, by omega, fun O => by rw [nearB, h, h4, Bool.false_or]⟩
  have := Int.emod_add_mul_ediv (j : Int) W
  rw [h2, h3, Int.mul_comm] at this
  omega
theorem out_cases (W H : Nat) (x y : Int) : (decide (x < 0) = true ∧ outB W H x y = true) ∨ (decide (x < 0) = false ∧ decide (y < 0) = true ∧ outB W H x y = true) ∨
    (decide (x < 0) = false ∧ decide (y < 0) = false ∧ decide ((W : Int) ≤ x) = true ∧ outB W H x y = true) ∨ (decide (x < 0) = false ∧ decide (y < 0) = false ∧ decide ((W : Int) ≤ x) = false ∧ decide ((H : Int) ≤ y) = true ∧ outB W H x y = true) ∨
    (decide (x < 0) = false ∧ decide (y < 0) = false ∧ decide ((W : Int) ≤ x) = false ∧ decide ((H : Int) ≤ y) = false ∧ outB W H x y = false) := by
  unfold outB
  cases decide (x < 0) <;> cases decide (y < 0) <;> cases decide ((W : Int) ≤ x) <;> cases decide ((H : Int) ≤ y) <;> simp
theorem near_out {O : List Bool} {x y : Int} (h : outB W H x y = true) : nearB W H O x y = true := by rw [nearB, h]; rfl
theorem FreeL.set (v : VL W H L) (h : FreeL W H L a O) (hi : i < L.length) (hm : mineB L a i = false) (hx : -1 ≤ dx ∧ dx ≤ 1) (hy : -1 ≤ dy ∧ dy ≤ 1) (hn : nearB W H O ((i : Int) % W + dx) ((i : Int) / W + dy) = true) : FreeL W H L a (O.set i true) where
  len := by rw [List.length_set]; exact h.len
  ok := fun j hj => by
    by_cases hji : j = i
    · subst hji
      refine ⟨hm, ?_⟩
      have hf : Free (ownF W H L a) W H ((j : Int) % W + dx) ((j : Int) / W + dy) := by
        cases ho : outB W H ((j : Int) % W + dx) ((j : Int) / W + dy)
        · obtain ⟨k, h1, h2, h3, h4⟩ := in_num v ho
          rw [nearB, ho, h4, Bool.false_or, List.getD_eq_getElem?_getD] at hn
          cases hk : O[k]? with
          | none => rw [hk] at hn; cases hn
          | some z =>
            rw [hk] at hn
            have hz : z = true := hn
            subst hz
            have := (h.ok k hk).2
            rw [h2, h3] at this
            exact this
        · exact .out (outB_iff.1 ho)
      exact .step hf (by rw [own_mine v hi]; exact hm) (by omega) (by omega)
    · rw [List.getElem?_set_ne (by omega)] at hj
      exact h.ok j hj
/-- a pass that marked nothing: all that is free is marked -/
theorem FreeL.fin (v : VL W H L) (h : FreeL W H L a O) (hs : ∀ i dx dy, i < L.length → (-1 ≤ dx ∧ dx ≤ 1) → (-1 ≤ dy ∧ dy ≤ 1) → StillH W H L a O i dx dy) {x y : Int} (hf : Free (ownF W H L a) W H x y) :
    ∀ i : Nat, i < L.length → (i : Int) % W = x → (i : Int) / W = y → mineB L a i = false → O[i]? = some true := by
  induction hf with
  | out ho =>
    intro i hi h1 h2 _
    exfalso
    have e1 := Int.emod_nonneg (i : Int) (show (W : Int) ≠ 0 by have := v.w0; omega)
    have e2 := Int.emod_lt_of_pos (i : Int) (show (0 : Int) < W by have := v.w0; omega)
    have e3 : 0 ≤ (i : Int) / W := Int.ediv_nonneg (by omega) (by omega)
    have e4 : (i : Int) / W < H := by
      have : i / W < H := by
        rw [Nat.div_lt_iff_lt_mul v.w0, Nat.mul_comm]
        rw [v.len] at hi; exact hi
      exact_mod_cast this
    omega
  | @step x y x' y' hf0 hn hx hy ih =>
    intro i hi h1 h2 hm
    obtain ⟨z, hz⟩ : ∃ z, O[i]? = some z := ⟨O[i]'(by rw [h.len]; exact hi), by simp⟩
    cases z
    · exfalso
      have := hs i (x - x') (y - y') hi (by omega) (by omega) hz hm
      rw [h1, h2, show x' + (x - x') = x by omega, show y' + (y - y') = y by omega, nearB] at this
      cases ho : outB W H x y
      · obtain ⟨k, k1, k2, k3, k4⟩ := in_num v ho
        rw [ho, k4, Bool.false_or, List.getD_eq_getElem?_getD] at this
        have hmk : mineB L a k = false := by
          cases hmm : mineB L a k
          · rfl
          · have hno : ownF W H L a x y = false := by
              cases hf0 with
              | out ho' => rw [outB_iff.2 ho'] at ho; cases ho
              | step _ h' _ _ => exact h'
            rw [← k2, ← k3, own_mine v k1, hmm] at hno
            cases hno
        rw [ih k k1 k2 k3 hmk] at this
        cases this
      · rw [ho] at this; cases this
    · exact hz
theorem FreeL.hole (v : VL W H L) (h : FreeL W H L a O) (hs : ∀ i dx dy, i < L.length → (-1 ≤ dx ∧ dx ≤ 1) → (-1 ≤ dy ∧ dy ≤ 1) → StillH W H L a O i dx dy) :
    holB W H L a = true ↔ ∃ i, i < L.length ∧ O[i]? = some false ∧ mineB L a i = false := by
  rw [holB_iff]
  constructor
  · rintro ⟨i, hi, hm, hno⟩
    obtain ⟨z, hz⟩ : ∃ z, O[i]? = some z := ⟨O[i]'(by rw [h.len]; exact hi), by simp⟩
    cases z
    · exact ⟨i, hi, hz, hm⟩
    · exact absurd (h.ok i hz).2 hno
  · rintro ⟨i, hi, hz, hm⟩
    refine ⟨i, hi, hm, fun hf => ?_⟩
    rw [h.fin v hs hf i hi rfl rfl hm] at hz
    cases hz
/-- how far a pass has come -/
def PassH (W H : Nat) (L : List Int) (a : Int) (O O' : List Bool) (b : Bool) (i : Nat) (dx dy : Int) : Prop :=
  (b = false → O' = O ∧ ∀ (i' : Nat) (dx' dy' : Int), (i' < i ∨ i' = i ∧ (dx' < dx ∨ dx' = dx ∧ dy' < dy)) → i' < L.length → (-1 ≤ dx' ∧ dx' ≤ 1) → (-1 ≤ dy' ∧ dy' ≤ 1) → StillH W H L a O i' dx' dy') ∧ (b = true → cntF O' < cntF O)
theorem PassH.start : PassH W H L a O O false 0 (-1) (-1) := ⟨fun _ => ⟨rfl, fun _ _ _ h _ _ _ => by omega⟩, fun h => by cases h⟩
theorem PassH.rowY (h : PassH W H L a O O' b i dx 2) : PassH W H L a O O' b i (dx + 1) (-1) :=
  ⟨fun hb => ⟨(h.1 hb).1, fun i' dx' dy' hi hl hx hy => (h.1 hb).2 i' dx' dy' (by omega) hl hx hy⟩, h.2⟩
theorem PassH.rowX (h : PassH W H L a O O' b i 2 (-1)) : PassH W H L a O O' b (i + 1) (-1) (-1) :=
  ⟨fun hb => ⟨(h.1 hb).1, fun i' dx' dy' hi hl hx hy => (h.1 hb).2 i' dx' dy' (by omega) hl hx hy⟩, h.2⟩
theorem PassH.skip (h : PassH W H L a O O' b i (-1) (-1)) (hs : O'[i]? = some true ∨ mineB L a i = true) : PassH W H L a O O' b (i + 1) (-1) (-1) :=
  ⟨fun hb => ⟨(h.1 hb).1, fun i' dx' dy' hi hl hx hy => by
    by_cases he : i' = i
    · subst he
      intro h1 h2
      rw [(h.1 hb).1] at hs
      rcases hs with hs | hs
      · rw [h1] at hs; cases hs
      · rw [h2] at hs; cases hs
    · exact (h.1 hb).2 i' dx' dy' (by omega) hl hx hy⟩, h.2⟩
theorem PassH.keep (h : PassH W H L a O O' b i dx dy) (hs : StillH W H L a O' i dx dy) : PassH W H L a O O' b i dx (dy + 1) :=
  ⟨fun hb => ⟨(h.1 hb).1, fun i' dx' dy' hi hl hx hy => by
    by_cases he : i' = i ∧ dx' = dx ∧ dy' = dy
    · obtain ⟨rfl, rfl, rfl⟩ := he
      rw [← (h.1 hb).1]
      exact hs
    · exact (h.1 hb).2 i' dx' dy' (by omega) hl hx hy⟩, h.2⟩
theorem PassH.put (h : PassH W H L a O O' b i dx dy) (hz : O'[i]? = some false) : PassH W H L a O (O'.set i true) true i dx (dy + 1) := by
  refine ⟨fun hb => (by cases hb), fun _ => ?_⟩
  have h1 := cntF_set hz
  cases b
  · rw [(h.1 rfl).1] at h1 ⊢
    exact h1
  · exact Nat.lt_trans h1 (h.2 rfl)
theorem PassH.done {n : Nat} (h : PassH W H L a O O' false n (-1) (-1)) (hn : n = L.length) : O' = O ∧ ∀ i dx dy, i < L.length → (-1 ≤ dx ∧ dx ≤ 1) → (-1 ≤ dy ∧ dy ≤ 1) → StillH W H L a O i dx dy :=
  ⟨(h.1 rfl).1, fun i dx dy hi hx hy => (h.1 rfl).2 i dx dy (by omega) hi hx hy⟩
end
end Go.Proofs.Ytdkcpnmaglkmnaa

import Derived.Test.YtjgobpejifhphaaW33f
/-! Plain law: the ranking is in order, and the place of an agent is where it stands in it. -/
namespace Go.Proofs.Ytjgobpejifhphaa
set_option linter.unusedVariables false

theorem ahd_iff {C B : List Int} {a b : Nat} : ahd C B a b = true ↔
    (B.getD b 0 < B.getD a 0) ∨ (B.getD a 0 = B.getD b 0 ∧ (C.getD b 0 < C.getD a 0 ∨ (C.getD a 0 = C.getD b 0 ∧ a < b))) := by
  unfold ahd ahdV
  generalize B.getD a 0 = x
  generalize B.getD b 0 = y
  generalize C.getD a 0 = u
  generalize C.getD b 0 = v
  split
  · simp only [decide_eq_true_eq]; omega
  · split
    · simp only [decide_eq_true_eq]; omega
    · simp only [decide_eq_true_eq]; omega
def ahdI (C B : List Int) (a b : Int) : Bool := ahd C B a.toNat b.toNat
theorem ahdI_iff {C B : List Int} {a b : Int} : ahdI C B a b = true ↔
    (B.getD b.toNat 0 < B.getD a.toNat 0) ∨ (B.getD a.toNat 0 = B.getD b.toNat 0 ∧ (C.getD b.toNat 0 < C.getD a.toNat 0 ∨ (C.getD a.toNat 0 = C.getD b.toNat 0 ∧ a.toNat < b.toNat))) := ahd_iff
theorem ahdI_trans {C B : List Int} {a b c : Int} (h : ahdI C B a b = true) (h' : ahdI C B b c = true) : ahdI C B a c = true := by
  rw [ahdI_iff] at *
  omega
theorem ahdI_asymm {C B : List Int} {a b : Int} (h : ahdI C B a b = true) : ahdI C B b a = false := by
  cases hb : ahdI C B b a
  · rfl
  · rw [ahdI_iff] at h hb
    omega
theorem ahdI_irrefl (C B : List Int) (a : Int) : ahdI C B a a = false := by
  cases hb : ahdI C B a a
  · rfl
  · rw [ahdI_iff] at hb
    omega
theorem ltOf_iff {C B : List Int} {v x : Int} : ltOf (rkCmp C B) v x = true ↔ (B.getD x.toNat 0 < B.getD v.toNat 0) ∨ (B.getD x.toNat 0 = B.getD v.toNat 0 ∧ C.getD x.toNat 0 < C.getD v.toNat 0) := by
  unfold ltOf rkCmp orI cmpI
  simp only [decide_eq_true_eq]
  generalize B.getD x.toNat 0 = a
  generalize B.getD v.toNat 0 = b
  generalize C.getD x.toNat 0 = c
  generalize C.getD v.toNat 0 = d
  (repeat' split) <;> omega
theorem lt_ahd {C B : List Int} {v x : Int} (hx : 0 ≤ x) (h : x < v) : ltOf (rkCmp C B) v x = ahdI C B v x := by
  rw [Bool.eq_iff_iff, ltOf_iff, ahdI_iff]
  omega
theorem not_lt_ahd {C B : List Int} {v x : Int} (hx : 0 ≤ x) (h : x < v) (hl : ltOf (rkCmp C B) v x = false) : ahdI C B x v = true := by
  have h1 : ¬ (ltOf (rkCmp C B) v x = true) := by simp [hl]
  rw [ltOf_iff] at h1
  rw [ahdI_iff]
  omega
theorem insRev_pw {C B : List Int} {v : Int} : ∀ {X : List Int}, (∀ x ∈ X, 0 ≤ x ∧ x < v) → X.Pairwise (fun a b => ahdI C B b a = true) → (insRev (ltOf (rkCmp C B)) v X).Pairwise (fun a b => ahdI C B b a = true)
  | [], _, _ => by simp [insRev]
  | x :: t, hm, hp => by
    rw [List.pairwise_cons] at hp
    have hx := hm x (by simp)
    cases hl : ltOf (rkCmp C B) v x
    · rw [insRev_no hl, List.pairwise_cons, List.pairwise_cons]
      have hxv := not_lt_ahd hx.1 hx.2 hl
      refine ⟨?_, hp.1, hp.2⟩
      intro y hy
      rcases List.mem_cons.1 hy with rfl | hy
      · exact hxv
      · exact ahdI_trans (hp.1 y hy) hxv
    · rw [insRev_yes hl, List.pairwise_cons]
      refine ⟨?_, insRev_pw (fun y hy => hm y (List.mem_cons_of_mem _ hy)) hp.2⟩
      intro y hy
      rcases insRev_mem.1 hy with rfl | hy
      · rw [← lt_ahd hx.1 hx.2]; exact hl
      · exact hp.1 y hy
theorem iota_succ (n : Nat) : iota (n + 1) = iota n ++ [(n : Int)] := by simp [iota, List.range_succ]
theorem isRev_pw {C B : List Int} : ∀ n : Nat, (isRev (ltOf (rkCmp C B)) [] (iota n)).Pairwise (fun a b => ahdI C B b a = true)
  | 0 => by simp [iota, isRev]
  | n + 1 => by
    rw [iota_succ, isRev_snoc]
    refine insRev_pw ?_ (isRev_pw n)
    intro x hx
    rw [isRev_mem] at hx
    rcases hx with hx | hx
    · simp at hx
    · obtain ⟨a, rfl, ha⟩ := iota_mem.1 hx
      omega
theorem rkList_pw (C B : List Int) : (rkList C B).Pairwise (fun a b => ahdI C B a b = true) := by
  unfold rkList isort
  rw [List.pairwise_reverse]
  exact isRev_pw _
theorem insRev_perm (lt : Int → Int → Bool) (v : Int) : ∀ X : List Int, (insRev lt v X).Perm (v :: X)
  | [] => List.Perm.refl _
  | x :: t => by
    unfold insRev
    split
    · exact ((insRev_perm lt v t).cons x).trans (List.Perm.swap v x t)
    · exact List.Perm.refl _
theorem isRev_perm (lt : Int → Int → Bool) : ∀ (L R : List Int), (isRev lt R L).Perm (R ++ L)
  | [], R => by simp [isRev]
  | v :: t, R => by
    have h1 := isRev_perm lt t (insRev lt v R)
    have h2 : (insRev lt v R ++ t).Perm ((v :: R) ++ t) := (insRev_perm lt v R).append_right t
    have h3 : ((v :: R) ++ t).Perm (R ++ v :: t) := by
      rw [List.cons_append]
      exact List.perm_middle.symm
    exact (h1.trans h2).trans h3
theorem isort_perm (lt : Int → Int → Bool) (D : List Int) : (isort lt D).Perm D := by
  unfold isort
  exact (List.reverse_perm _).trans (by simpa using isRev_perm lt D [])
theorem rkList_perm (C B : List Int) : (rkList C B).Perm (iota B.length) := isort_perm _ _
theorem countP_iota (p : Int → Bool) (n : Nat) : (iota n).countP p = ((List.range n).filter fun (k : Nat) => p (k : Int)).length := by
  rw [iota, List.countP_map, List.countP_eq_length_filter]; rfl
theorem count_split {C B : List Int} {X Y : List Int} {i : Int} (h : (X ++ i :: Y).Pairwise (fun a b => ahdI C B a b = true)) :
    (X ++ i :: Y).countP (fun j => decide (j ≠ i) && ahdI C B j i) = X.length := by
  rw [List.pairwise_append, List.pairwise_cons] at h
  obtain ⟨hX, ⟨hi, hY⟩, hXY⟩ := h
  rw [List.countP_append, List.countP_cons]
  have h1 : X.countP (fun j => decide (j ≠ i) && ahdI C B j i) = X.length := by
    rw [List.countP_eq_length]
    intro a ha
    have h := hXY a ha i (by simp)
    have hne : a ≠ i := by
      rintro rfl
      rw [ahdI_irrefl] at h; cases h
    simp [hne, h]
  have h2 : Y.countP (fun j => decide (j ≠ i) && ahdI C B j i) = 0 := by
    rw [List.countP_eq_zero]
    intro a ha
    have h := ahdI_asymm (hi a ha)
    simp [h]
  rw [h1, h2]
  simp
/-- the place of the agent that stands at k is k -/
theorem place_at {C B : List Int} {k i : Nat} (h : (rkList C B)[k]? = some (i : Int)) : place C B i = k ∧ i < B.length ∧ k < B.length := by
  obtain ⟨hk, e⟩ := List.getElem?_eq_some_iff.1 h
  have hi : (i : Int) ∈ rkList C B := List.mem_of_getElem? h
  obtain ⟨a, ha, hal⟩ := rkList_mem.1 hi
  have hpw := rkList_pw C B
  have hsplit : rkList C B = (rkList C B).take k ++ (i : Int) :: (rkList C B).drop (k + 1) := by
    rw [← e, List.getElem_cons_drop hk, List.take_append_drop]
  have hc : (rkList C B).countP (fun j => decide (j ≠ (i : Int)) && ahdI C B j i) = k := by
    rw [hsplit] at hpw
    have := count_split hpw
    rw [← hsplit] at this
    rw [this]; simp; omega
  rw [(rkList_perm C B).countP_eq, countP_iota] at hc
  refine ⟨?_, by omega, by rw [rkList_length] at hk; exact hk⟩
  rw [← hc]
  unfold place plc
  congr 1
  apply List.filter_congr
  intro j _
  have e1 : decide ((j : Int) ≠ (i : Int)) = decide (j ≠ i) := decide_eq_decide.2 (by constructor <;> intro h <;> omega)
  rw [e1]; rfl
/-- every agent stands somewhere -/
theorem at_place {C B : List Int} {i : Nat} (h : i < B.length) : (rkList C B)[place C B i]? = some (i : Int) ∧ place C B i < B.length := by
  have hm : (i : Int) ∈ rkList C B := rkList_mem.2 ⟨i, rfl, h⟩
  obtain ⟨k, hk, e⟩ := List.getElem_of_mem hm
  have hq : (rkList C B)[k]? = some (i : Int) := by simp [hk, e]
  have hp := place_at hq
  rw [hp.1]
  exact ⟨hq, hp.2.2⟩
theorem rk_nat {C B : List Int} {k : Nat} (h : k < B.length) : ∃ i : Nat, (rkList C B)[k]? = some (i : Int) ∧ i < B.length ∧ place C B i = k := by
  have hk : k < (rkList C B).length := by rw [rkList_length]; exact h
  have hm : (rkList C B)[k] ∈ rkList C B := List.getElem_mem hk
  obtain ⟨i, e, hi⟩ := rkList_mem.1 hm
  have hq : (rkList C B)[k]? = some (i : Int) := by simp [hk, e]
  exact ⟨i, hq, hi, (place_at hq).1⟩
end Go.Proofs.Ytjgobpejifhphaa

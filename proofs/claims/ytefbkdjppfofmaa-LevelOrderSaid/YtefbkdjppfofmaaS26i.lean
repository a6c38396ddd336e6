import Derived.Test.YtefbkdjppfofmaaS26h
import Derived.Test.YtefbkdjppfofmaaW26c
/-! Plain law: an allocation without a short chain is as even as can be. No statement about the program. -/
namespace Go.Proofs.Ytefbkdjppfofmaa
set_option linter.unusedVariables false
open Classical

theorem wishAny_of {W : List (List Bool)} {q g : Nat} (hq : q < W.length) (h : wishB W q g = true) : wishAny W g = true := List.any_eq_true.2 ⟨q, List.mem_range.2 hq, h⟩
theorem wishAny_ex {W : List (List Bool)} {g : Nat} (h : wishAny W g = true) : ∃ q, q < W.length ∧ wishB W q g = true := by
  obtain ⟨q, hq, h1⟩ := List.any_eq_true.1 h
  exact ⟨q, List.mem_range.1 hq, h1⟩
/-- a complete allocation -/
structure FullA (W : List (List Bool)) (m n : Nat) (a : List Int) : Prop where
  len : a.length = n
  at_ : ∀ g, g < n → (a.getD g 0 = -1 ∧ wishAny W g = false) ∨ ∃ q : Nat, q < m ∧ a.getD g 0 = q ∧ wishB W q g = true
theorem wrow_len {m n : Nat} {W : List (List Bool)} (v : VW m n W) : (W.getD 0 []).length = n := by
  have h0 : 0 < W.length := by rw [v.len]; exact v.m0
  rw [List.getD_eq_getElem?_getD, List.getElem?_eq_getElem h0]
  exact v.row _ (List.getElem_mem h0)
theorem full_of {m n : Nat} {W : List (List Bool)} {a : List Int} (v : VW m n W) (h : fullB W a = true) : FullA W m n a := by
  rw [fullB, Bool.and_eq_true, decide_eq_true_iff, List.all_eq_true, wrow_len v] at h
  refine ⟨h.1, fun g hg => ?_⟩
  have hr := h.2 g (List.mem_range.2 (by omega))
  have hm := v.len
  rw [rightR, Bool.not_eq_true', Bool.or_eq_false_iff, Bool.or_eq_false_iff, Bool.or_eq_false_iff] at hr
  obtain ⟨⟨⟨h1, h2⟩, h3⟩, h4⟩ := hr
  have h1' := of_decide_eq_false h1
  have h2' := of_decide_eq_false h2
  by_cases h0 : 0 ≤ a.getD g 0
  · right
    rw [decide_eq_true h0, Bool.true_and] at h3
    refine ⟨(a.getD g 0).toNat, by omega, by omega, by simpa using h3⟩
  · left
    rw [decide_eq_true (show a.getD g 0 < 0 by omega), Bool.true_and] at h4
    exact ⟨by omega, h4⟩
theorem full_to {m n : Nat} {W : List (List Bool)} {a : List Int} (v : VW m n W) (h : FullA W m n a) : fullB W a = true := by
  rw [fullB, Bool.and_eq_true, decide_eq_true_iff, List.all_eq_true, wrow_len v]
  refine ⟨h.len, fun g hg => ?_⟩
  have hg' : g < n := by have := List.mem_range.1 hg; have := h.len; omega
  have hm := v.len
  rcases h.at_ g hg' with ⟨h1, h2⟩ | ⟨q, h1, h2, h3⟩
  · rw [rightR, h1, h2]
    rw [decide_eq_false (show ¬ ((-1 : Int) < -1) by omega), decide_eq_false (show ¬ ((W.length : Int) ≤ -1) by omega), decide_eq_false (show ¬ ((0 : Int) ≤ -1) by omega)]
    simp
  · rw [rightR, h2]
    rw [decide_eq_false (show ¬ ((q : Int) < -1) by omega), decide_eq_false (show ¬ ((W.length : Int) ≤ (q : Int)) by omega), decide_eq_true (show (0 : Int) ≤ (q : Int) by omega), decide_eq_false (show ¬ ((q : Int) < 0) by omega), Int.toNat_natCast, h3]
    rfl
/-- how many goods an agent has -/
def cn (a : List Int) (i : Nat) : Int := (cntTo a i a.length : Int)
def ind (a : List Int) (i g : Nat) : Int := if a.getD g 0 = (i : Int) then 1 else 0
theorem cntTo_sm (a : List Int) (i : Nat) : ∀ k : Nat, (cntTo a i k : Int) = sm (ind a i) k
  | 0 => rfl
  | k + 1 => by
    simp only [cntTo, sm, ind]
    have := cntTo_sm a i k
    split <;> simp_all
theorem cn_nonneg (a : List Int) (i : Nat) : 0 ≤ cn a i := by unfold cn; omega
theorem cntK_cn (a : List Int) (m : Nat) : cntK a m a.length = (List.range m).map (cn a) := rfl
theorem sm_swap (F : Nat → Nat → Int) : ∀ (m n : Nat), sm (fun i => sm (F i) n) m = sm (fun g => sm (fun i => F i g) m) n
  | 0, n => by simp only [sm]; exact (sm_zero n).symm
  | m + 1, n => by
    simp only [sm]
    rw [sm_swap F m n, ← sm_add]
theorem sm_single {q k : Nat} (c : Int) (h : q < k) : sm (fun i => if i = q then c else 0) k = c := by
  induction k with
  | zero => omega
  | succ k ih =>
    simp only [sm]
    by_cases hq : q < k
    · rw [ih hq, if_neg (by omega)]; omega
    · rw [if_pos (by omega)]
      have : sm (fun i => if i = q then c else 0) k = sm (fun _ => 0) k := sm_congr fun i hi => if_neg (by omega)
      rw [this, sm_zero]; omega
theorem sm_nonneg {F : Nat → Int} {k : Nat} (h : ∀ i, i < k → 0 ≤ F i) : 0 ≤ sm F k := by
  rw [← sm_zero k]
  exact sm_le h
/-- the goods of the agents of R -/
theorem sum_set (R : Nat → Prop) (a : List Int) (m : Nat) : sm (fun i => if R i then cn a i else 0) m = sm (fun g => sm (fun i => if R i then ind a i g else 0) m) a.length := by
  rw [← sm_swap]
  refine sm_congr fun i _ => ?_
  by_cases h : R i
  · simp only [if_pos h]; exact cntTo_sm a i _
  · simp only [if_neg h]; exact (sm_zero _).symm
theorem ind_at {R : Nat → Prop} {a : List Int} {m g q : Nat} (h : a.getD g 0 = (q : Int)) (hq : q < m) : sm (fun i => if R i then ind a i g else 0) m = if R q then 1 else 0 := by
  have e : sm (fun i => if R i then ind a i g else 0) m = sm (fun i => if i = q then (if R q then (1 : Int) else 0) else 0) m := by
    refine sm_congr fun i _ => ?_
    by_cases hi : i = q
    · subst hi
      have h1 : ind a i g = 1 := by rw [ind, if_pos h]
      rw [if_pos rfl, h1]
    · have h1 : ind a i g = 0 := by rw [ind, if_neg (by rw [h]; omega)]
      rw [if_neg hi, h1]
      split <;> rfl
  rw [e, sm_single _ hq]
theorem ind_none {R : Nat → Prop} {a : List Int} {m g : Nat} (h : a.getD g 0 < 0) : sm (fun i => if R i then ind a i g else 0) m = 0 := by
  have e : sm (fun i => if R i then ind a i g else 0) m = sm (fun _ => 0) m := by
    refine sm_congr fun i _ => ?_
    have h1 : ind a i g = 0 := by rw [ind, if_neg (by omega)]
    rw [h1]
    split <;> rfl
  rw [e, sm_zero]
theorem ind_nonneg {R : Nat → Prop} {a : List Int} {m g : Nat} : 0 ≤ sm (fun i => if R i then ind a i g else 0) m :=
  sm_nonneg fun i _ => by
    unfold ind
    split
    · split <;> decide
    · decide
section
variable {W : List (List Bool)} {a b : List Int} {m n f : Nat}
theorem link_iff {p q f : Nat} : linkK W a p q f = true ↔ ∃ g, f ≤ g ∧ g < a.length ∧ a.getD g 0 = (p : Int) ∧ wishB W q g = true := by
  rw [linkK, List.any_eq_true]
  constructor
  · rintro ⟨g, hg, h⟩
    rw [Bool.and_eq_true, decide_eq_true_iff] at h
    rw [List.mem_drop_iff_getElem] at hg
    obtain ⟨i, hi, e⟩ := hg
    simp at e
    rw [List.length_range] at hi
    exact ⟨g, by omega, by omega, h.1, h.2⟩
  · rintro ⟨g, h1, h2, h3, h4⟩
    refine ⟨g, ?_, by rw [h4, decide_eq_true h3]; rfl⟩
    rw [List.mem_drop_iff_getElem]
    exact ⟨g - f, by simp; omega, by simp; omega⟩
/-- without a short chain -/
def NoShort (W : List (List Bool)) (m : Nat) (a : List Int) (f : Nat) : Prop := firstShort m (extL m (fun p q => linkK W a p q f)) (shortB a) = none
theorem noShort_all (h : NoShort W m a f) : ∀ k l, l ∈ lvl m (extL m (fun p q => linkK W a p q f)) k → shortB a l = false := by
  intro k l hl
  rw [NoShort, firstShort, List.findSome?_eq_none_iff] at h
  rcases Nat.lt_or_ge k m with hk | hk
  · have := h k (List.mem_range.2 hk)
    rw [List.find?_eq_none] at this
    simpa using this l hl
  · rw [lvl_none hk] at hl; simp at hl
/-- reached from somebody with t goods or more -/
def Reach (W : List (List Bool)) (m : Nat) (a : List Int) (f : Nat) (t : Int) (j : Nat) : Prop :=
  ∃ k l, l ∈ lvl m (extL m (fun p q => linkK W a p q f)) k ∧ t ≤ cn a (l.headD 0) ∧ l.getLastD 0 = j
theorem lvl_prefix {link : Nat → Nat → Bool} : ∀ {k : Nat} {l : List Nat} {x : Nat}, l ∈ lvl m (extL m link) k → x ∈ l → ∃ k' p, p ∈ lvl m (extL m link) k' ∧ p.headD 0 = l.headD 0 ∧ p.getLastD 0 = x
  | 0, l, x, hl, hx => by
    refine ⟨0, l, hl, rfl, ?_⟩
    rw [lvl, List.mem_map] at hl
    obtain ⟨i, _, rfl⟩ := hl
    simp at hx; subst hx; rfl
  | k + 1, l, x, hl, hx => by
    have hl' := hl
    rw [lvl_succ, List.mem_flatMap] at hl
    obtain ⟨p, hp, hl2⟩ := hl
    obtain ⟨y, _, rfl, _, _⟩ := mem_ext hl2
    rcases List.mem_append.1 hx with hx | hx
    · obtain ⟨k', p', h1, h2, h3⟩ := lvl_prefix hp hx
      refine ⟨k', p', h1, h2.trans ?_, h3⟩
      have hpl := (chain_ok hp).len
      cases p with
      | nil => simp at hpl
      | cons c t => rfl
    · simp at hx; subst hx
      exact ⟨k + 1, _, hl', rfl, by simp⟩
theorem reach_self {t : Int} {i : Nat} (hi : i < m) (h : t ≤ cn a i) : Reach W m a f t i :=
  ⟨0, [i], by rw [lvl, List.mem_map]; exact ⟨i, List.mem_range.2 hi, rfl⟩, h, rfl⟩
theorem reach_step {t : Int} {j k : Nat} (h : Reach W m a f t j) (hk : k < m) (hl : linkK W a j k f = true) : Reach W m a f t k := by
  obtain ⟨d, l, h1, h2, h3⟩ := h
  by_cases hm : k ∈ l
  · obtain ⟨d', p, g1, g2, g3⟩ := lvl_prefix h1 hm
    exact ⟨d', p, g1, by rw [g2]; exact h2, g3⟩
  · refine ⟨d + 1, l ++ [k], ?_, ?_, by simp⟩
    · rw [lvl_succ, List.mem_flatMap]
      refine ⟨l, h1, ?_⟩
      rw [extL, List.mem_map]
      refine ⟨k, List.mem_filter.2 ⟨List.mem_range.2 hk, ?_⟩, rfl⟩
      rw [h3, hl]
      simp [hm]
    · have hpl := (chain_ok h1).len
      cases l with
      | nil => simp at hpl
      | cons c t => exact h2
theorem reach_ge (hno : NoShort W m a f) {t : Int} {j : Nat} (h : Reach W m a f t j) : t - 1 ≤ cn a j := by
  obtain ⟨d, l, h1, h2, h3⟩ := h
  have hs := noShort_all hno d l h1
  rw [shortB] at hs
  have hs' := of_decide_eq_false hs
  rw [h3] at hs'
  unfold cn at h2 ⊢
  omega
/-- who is reached keeps its goods among those that are reached, whatever other allocation has the same first goods -/
theorem major_set (hno : NoShort W m a f) (ha : FullA W m n a) (hb : FullA W m n b) (hm : W.length = m) (hpre : ∀ g, g < f → g < n → a.getD g 0 = b.getD g 0) (t : Int) :
    sm (fun i => if Reach W m a f t i then cn a i else 0) m ≤ sm (fun i => if Reach W m a f t i then cn b i else 0) m := by
  rw [sum_set, sum_set, ha.len, hb.len]
  refine sm_le fun g hg => ?_
  rcases ha.at_ g hg with ⟨h1, h2⟩ | ⟨q, h1, h2, h3⟩
  · rw [ind_none (a := a) (by omega)]
    exact ind_nonneg
  · rw [ind_at h2 h1]
    by_cases hR : Reach W m a f t q
    · rw [if_pos hR]
      rcases hb.at_ g hg with ⟨g1, g2⟩ | ⟨q', g1, g2, g3⟩
      · exact absurd (wishAny_of (by omega) h3) (by rw [g2]; decide)
      · rw [ind_at g2 g1, if_pos]
        · exact Int.le_refl _
        · rcases Nat.lt_or_ge g f with hgf | hgf
          · have := hpre g hgf hg
            have : q' = q := by omega
            rw [this]; exact hR
          · exact reach_step hR g1 (link_iff.2 ⟨g, hgf, by rw [ha.len]; exact hg, h2, g3⟩)
    · rw [if_neg hR]
      exact ind_nonneg
theorem major_P (hno : NoShort W m a f) (ha : FullA W m n a) (hb : FullA W m n b) (hm : W.length = m) (hpre : ∀ g, g < f → g < n → a.getD g 0 = b.getD g 0) (s : Int) (hs : 0 ≤ s) :
    PL s ((List.range m).map (cn a)) ≤ PL s ((List.range m).map (cn b)) := by
  rw [PL_map, PL_map]
  have h1 := major_set hno ha hb hm hpre (s + 1)
  have e1 : sm (fun i => max (cn a i - s) 0) m = sm (fun i => if Reach W m a f (s + 1) i then cn a i else 0) m + sm (fun i => if Reach W m a f (s + 1) i then -s else 0) m := by
    rw [← sm_add]
    refine sm_congr fun i hi => ?_
    by_cases hR : Reach W m a f (s + 1) i
    · have := reach_ge hno hR
      simp only [if_pos hR]; omega
    · have : ¬ s + 1 ≤ cn a i := fun h => hR (reach_self hi h)
      simp only [if_neg hR]; omega
  have e2 : sm (fun i => if Reach W m a f (s + 1) i then cn b i else 0) m + sm (fun i => if Reach W m a f (s + 1) i then -s else 0) m ≤ sm (fun i => max (cn b i - s) 0) m := by
    rw [← sm_add]
    refine sm_le fun i hi => ?_
    by_cases hR : Reach W m a f (s + 1) i
    · simp only [if_pos hR]; omega
    · simp only [if_neg hR]; omega
  omega
/-- the sum of the counts does not hang on the allocation -/
theorem full_sum (ha : FullA W m n a) (hm : W.length = m) : SL ((List.range m).map (cn a)) = sm (fun g => if wishAny W g = true then 1 else 0) n := by
  rw [SL_map]
  have h := sum_set (fun _ => True) a m
  simp only [if_true] at h
  have h2 : sm (fun i => cn a i) m = sm (cn a) m := rfl
  rw [← h2, h, ha.len]
  refine sm_congr fun g hg => ?_
  rcases ha.at_ g hg with ⟨h1, h2⟩ | ⟨q, h1, h2, h3⟩
  · have := ind_none (R := fun _ => True) (a := a) (m := m) (g := g) (by omega)
    simp only [if_true] at this
    rw [this, h2]; rfl
  · have := ind_at (R := fun _ => True) (a := a) (m := m) (g := g) h2 h1
    simp only [if_true] at this
    rw [this, wishAny_of (by omega) h3]; rfl
/-- the theorem: without a short chain none with the same first goods is more even -/
theorem noShort_best (hno : NoShort W m a f) (ha : FullA W m n a) (hb : FullA W m n b) (hm : W.length = m) (hpre : ∀ g, g < f → g < n → a.getD g 0 = b.getD g 0) :
    0 ≤ cmpS ((List.range m).map (cn a)) ((List.range m).map (cn b)) := by
  refine cmpS_major (by simp) (fun c hc => ?_) (by rw [full_sum ha hm, full_sum hb hm]) fun s hs => major_P hno ha hb hm hpre s hs
  rw [List.mem_map] at hc
  obtain ⟨i, _, rfl⟩ := hc
  exact cn_nonneg _ _
end
end Go.Proofs.Ytefbkdjppfofmaa

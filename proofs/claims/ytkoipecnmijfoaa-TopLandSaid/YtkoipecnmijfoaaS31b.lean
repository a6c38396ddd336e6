import Derived.Test.YtkoipecnmijfoaaM30T
import Derived.Test.YtkoipecnmijfoaaW31r
/-! Plain law: land of one row: parts are runs; divisions; borders. No statement about the program. -/
namespace Go.Proofs.Ytkoipecnmijfoaa
set_option linter.unusedVariables false

theorem nb_row {m j k : Nat} (hj : j < m) (hk : k < m) : nbB m j k = true ↔ j + 1 = k ∨ k + 1 = j := by
  unfold nbB
  rw [decide_eq_true_iff]
  have e1 : (j : Int) % m = j := by exact_mod_cast Nat.mod_eq_of_lt hj
  have e2 : (k : Int) % m = k := by exact_mod_cast Nat.mod_eq_of_lt hk
  have e3 : (j : Int) / m = 0 := by exact_mod_cast Nat.div_eq_of_lt hj
  have e4 : (k : Int) / m = 0 := by exact_mod_cast Nat.div_eq_of_lt hk
  rw [e1, e2, e3, e4, Int.sub_self, Int.mul_zero, Int.add_zero]
  constructor
  · intro h
    have h2 : ((j : Int) - k) * ((j : Int) - k) + 0 * 0 = 1 := by omega
    rcases mul_one_cases h2 with ⟨h3, _⟩ | ⟨h3, _⟩ | ⟨_, h3⟩ | ⟨_, h3⟩ <;> omega
  · rintro (h | h)
    · rw [show (j : Int) - k = -1 by omega]; rfl
    · rw [show (j : Int) - k = 1 by omega]; rfl
/-- a run of agent i begins at place k -/
def runB (a : List Int) (i : Int) (k : Nat) : Bool := decide (a[k]? = some i) && (decide (k = 0) || decide (a[k - 1]? ≠ some i))
theorem lead_run {a : List Int} {i : Int} {k : Nat} (hk : k < a.length) : isLead a.length (mineB a i) (linkB a.length a i) k = runB a i k := by
  have hiff : isLead a.length (mineB a i) (linkB a.length a i) k = true ↔ runB a i k = true := by
    rw [isLead_iff linkB_lt hk, runB, Bool.and_eq_true, Bool.or_eq_true, decide_eq_true_iff, decide_eq_true_iff, decide_eq_true_iff, mineB_iff]
    refine and_congr_right fun hE => ⟨fun h => ?_, fun h j hj hc => ?_⟩
    · by_cases h0 : k = 0
      · exact .inl h0
      · exact .inr fun hp => h (k - 1) (by omega) (.one (linkB_iff.2 ⟨mineB_iff.2 hE, mineB_iff.2 hp, (nb_row hk (by omega)).2 (.inr (by omega))⟩))
    · have key : ∀ q, Con (linkB a.length a i) j q → q < k := by
        intro q hq
        induction hq with
        | refl => exact hj
        | @step q q' _ hr ih =>
          obtain ⟨h1, h2, h3⟩ := linkB_iff.1 hr
          have hql := mineB_lt h1
          have hql' := mineB_lt h2
          rcases (nb_row hql hql').1 h3 with h4 | h4
          · by_cases hqk : q' = k
            · exfalso
              rcases h with h | h
              · omega
              · exact h (by rw [show k - 1 = q by omega]; exact mineB_iff.1 h1)
            · omega
          · omega
      have := key k (hc.symm linkB_symm)
      omega
  cases h1 : isLead a.length (mineB a i) (linkB a.length a i) k <;> cases h2 : runB a i k
  · rfl
  · rw [h2] at hiff; rw [hiff.2 rfl] at h1; cases h1
  · rw [h1] at hiff; rw [hiff.1 rfl] at h2; cases h2
  · rfl
/-- how many runs an agent has -/
def runsN (a : List Int) (i : Int) : Nat := ((List.range a.length).filter (runB a i)).length
theorem parts_runs (a : List Int) (i : Int) : (partsK a.length a i).length = runsN a i := by
  show ((((List.range a.length).filter (isLead a.length (mineB a i) (linkB a.length a i))).map (comp a.length (linkB a.length a i))).map ints).length = _
  rw [List.length_map, List.length_map, runsN]
  congr 1
  refine List.filter_congr fun k hk => lead_run (by simpa using hk)
theorem run_mem {a : List Int} {i : Int} {k : Nat} : k ∈ (List.range a.length).filter (runB a i) ↔ a[k]? = some i ∧ (k = 0 ∨ a[k - 1]? ≠ some i) := by
  rw [List.mem_filter, List.mem_range, runB, Bool.and_eq_true, Bool.or_eq_true, decide_eq_true_iff, decide_eq_true_iff, decide_eq_true_iff]
  constructor
  · rintro ⟨_, h⟩; exact h
  · intro h
    exact ⟨(List.getElem?_eq_some_iff.1 h.1).1, h⟩
/-- one member at most -/
theorem len_one {l : List Nat} (hn : l.Nodup) : l.length ≤ 1 ↔ ∀ p q, p ∈ l → q ∈ l → p = q := by
  match l, hn with
  | [], _ => simp
  | [x], _ => simp
  | x :: y :: t, hn =>
    rw [List.nodup_cons] at hn
    constructor
    · intro h; simp at h
    · intro h
      have := h x y (by simp) (by simp)
      subst this
      simp at hn
theorem runs_le {a : List Int} {i : Int} : runsN a i ≤ 1 ↔ ∀ p q, (a[p]? = some i ∧ (p = 0 ∨ a[p - 1]? ≠ some i)) → (a[q]? = some i ∧ (q = 0 ∨ a[q - 1]? ≠ some i)) → p = q := by
  unfold runsN
  rw [len_one (List.nodup_range.filter _)]
  constructor
  · intro h p q hp hq
    exact h p q (run_mem.2 hp) (run_mem.2 hq)
  · intro h p q hp hq
    exact h p q (run_mem.1 hp) (run_mem.1 hq)
/-- where the run of a place begins -/
theorem run_start {a : List Int} {i : Int} : ∀ k, a[k]? = some i → ∃ s, s ≤ k ∧ (a[s]? = some i ∧ (s = 0 ∨ a[s - 1]? ≠ some i)) ∧ ∀ t, s ≤ t → t ≤ k → a[t]? = some i
  | 0, h => ⟨0, Nat.le_refl _, ⟨h, .inl rfl⟩, fun t _ ht => by rw [show t = 0 by omega]; exact h⟩
  | k + 1, h => by
    by_cases hp : a[k]? = some i
    · obtain ⟨s, h1, h2, h3⟩ := run_start k hp
      refine ⟨s, by omega, h2, fun t ht1 ht2 => ?_⟩
      by_cases ht : t = k + 1
      · rw [ht]; exact h
      · exact h3 t ht1 (by omega)
    · exact ⟨k + 1, Nat.le_refl _, ⟨h, .inr hp⟩, fun t _ _ => by rw [show t = k + 1 by omega]; exact h⟩
/-- a division: no agent has two runs -/
theorem div_runs {a : List Int} : DivOk a ↔ ∀ i, runsN a i ≤ 1 := by
  constructor
  · intro h i
    rw [runs_le]
    have key : ∀ p q, p < q → (a[p]? = some i ∧ (p = 0 ∨ a[p - 1]? ≠ some i)) → (a[q]? = some i ∧ (q = 0 ∨ a[q - 1]? ≠ some i)) → False := by
      intro p q hlt hp hq
      have all : ∀ t, p + t < q → a[p + t]? = some i := by
        intro t
        induction t with
        | zero => intro _; exact hp.1
        | succ t ih =>
          intro ht
          exact h (p + t) q i (by omega) (ih (by omega)) hq.1
      rcases hq.2 with h1 | h1
      · omega
      · exact h1 (by have := all (q - 1 - p) (by omega); rwa [show p + (q - 1 - p) = q - 1 by omega] at this)
    intro p q hp hq
    rcases Nat.lt_trichotomy p q with h1 | h1 | h1
    · exact (key p q h1 hp hq).elim
    · exact h1
    · exact (key q p h1 hq hp).elim
  · intro h j k x hjk hj hk
    apply Classical.byContradiction
    intro hne
    obtain ⟨s1, h1, h2, h3⟩ := run_start j hj
    obtain ⟨s2, h4, h5, h6⟩ := run_start k hk
    have := runs_le.1 (h x) s1 s2 h2 h5
    subst this
    exact hne (h6 (j + 1) (by omega) (by omega))

/-! borders -/
def rgt (a : List Int) (q : Nat) : Int := if q + 1 < a.length then a.getD (q + 1) 0 else -1
def lft (a : List Int) (q : Nat) : Int := if 0 < q then a.getD (q - 1) 0 else -1
theorem side_row {a : List Int} (hm : 1 ≤ a.length) {i : Int} {p : Int → Bool} (hp : p (-1) = false) {q : Nat} (hq : q < a.length) :
    sideG a.length 1 a i p q = if a.getD q 0 = i then one (p (rgt a q)) + one (p (lft a q)) else 0 := by
  unfold sideG
  have e1 : (q : Int) % a.length = q := by exact_mod_cast Nat.mod_eq_of_lt hq
  have e2 : (q : Int) / a.length = 0 := by exact_mod_cast Nat.div_eq_of_lt hq
  rw [e1, e2]
  have r0 : atL a.length 1 a ((q : Int) + dxI 0) (0 + dyI 0) = rgt a q := by
    have h1 : (q : Int) + dxI 0 = ((q + 1 : Nat) : Int) := by simp [dxI]
    have h2 : (0 : Int) + dyI 0 = ((0 : Nat) : Int) := by simp [dyI]
    rw [h1, h2, rgt]
    by_cases h : q + 1 < a.length
    · rw [if_pos h, atL_in h (by omega), Nat.zero_mul, Nat.zero_add]
    · rw [if_neg h, atL_out (by omega)]
  have r1 : atL a.length 1 a ((q : Int) + dxI 1) (0 + dyI 1) = -1 := atL_out (by simp [dyI])
  have r2 : atL a.length 1 a ((q : Int) + dxI 2) (0 + dyI 2) = lft a q := by
    have h2 : (0 : Int) + dyI 2 = ((0 : Nat) : Int) := by simp [dyI]
    rw [h2, lft]
    by_cases h : 0 < q
    · have h1 : (q : Int) + dxI 2 = ((q - 1 : Nat) : Int) := by simp [dxI]; omega
      rw [if_pos h, h1, atL_in (by omega) (by omega), Nat.zero_mul, Nat.zero_add]
    · rw [if_neg h, atL_out (by simp [dxI]; omega)]
  have r3 : atL a.length 1 a ((q : Int) + dxI 3) (0 + dyI 3) = -1 := atL_out (by simp [dyI])
  by_cases h : a.getD q 0 = i
  · rw [if_pos h, if_pos h]
    simp only [sumN]
    rw [r0, r1, r2, r3, hp]
    simp [one]
  · rw [if_neg h, if_neg h]
/-- the agents below i at a place -/
theorem sum_below (i : Nat) (r : Int) : sumN i (fun k => one (r == (k : Int))) = one (decide (0 ≤ r ∧ r < i)) := by
  induction i with
  | zero => rw [sumN, decide_eq_false (by omega)]; rfl
  | succ i ih =>
    rw [sumN, ih]
    by_cases h : r = (i : Int)
    · rw [beq_iff_eq.2 h, decide_eq_false (by omega), decide_eq_true (by omega)]; rfl
    · rw [beq_eq_false_iff_ne.2 h]
      by_cases h2 : 0 ≤ r ∧ r < i
      · rw [decide_eq_true h2, decide_eq_true (by omega)]; rfl
      · rw [decide_eq_false h2, decide_eq_false (by omega)]; rfl
/-- the borders of agent i with those below k -/
def brdTo1 (a : List Int) (i k : Nat) : Nat := sumN k fun j => sidesN a.length 1 a (i : Int) (fun x => x == (j : Int))
/-- the borders of the agents below i with each other -/
def brdAll (a : List Int) (i : Nat) : Nat := sumN i fun j => brdTo1 a j j
/-- the places at which the agent changes -/
def chgN (a : List Int) : Nat := sumN a.length fun q => if 0 < q then one (a.getD (q - 1) 0 != a.getD q 0) else 0
theorem brd_at {a : List Int} (hm : 1 ≤ a.length) (i : Nat) : brdTo1 a i i = sumN a.length fun q => if a.getD q 0 = (i : Int) then one (decide (0 ≤ rgt a q ∧ rgt a q < i)) + one (decide (0 ≤ lft a q ∧ lft a q < i)) else 0 := by
  unfold brdTo1 sidesN
  rw [sumN_swap]
  refine sumN_congr fun q hq => ?_
  by_cases h : a.getD q 0 = (i : Int)
  · rw [if_pos h, ← sum_below, ← sum_below, ← sumN_add]
    refine sumN_congr fun j hj => ?_
    rw [side_row hm (by rw [beq_eq_false_iff_ne]; omega) hq, if_pos h]
  · rw [if_neg h]
    refine sumN_zero fun j hj => ?_
    rw [side_row hm (by rw [beq_eq_false_iff_ne]; omega) hq, if_neg h]
theorem sum_pick {n : Nat} {x : Int} (h0 : 0 ≤ x) (h1 : x < n) (f : Nat → Nat) : sumN n (fun i => if x = (i : Int) then f i else 0) = f x.toNat := by
  induction n with
  | zero => omega
  | succ n ih =>
    rw [sumN]
    by_cases h : x = (n : Int)
    · rw [if_pos h, sumN_zero (fun i hi => by rw [if_neg (by omega)]), show x.toNat = n by omega, Nat.zero_add]
    · rw [if_neg h, ih (by omega), Nat.add_zero]
theorem sum_shift (n : Nat) (g : Nat → Nat) : sumN n (fun q => if q + 1 < n then g (q + 1) else 0) = sumN n (fun q => if 0 < q then g q else 0) := by
  cases n with
  | zero => rfl
  | succ n =>
    rw [sumN_front n (fun q => if 0 < q then g q else 0), sumN]
    rw [if_neg (show ¬ n + 1 < n + 1 by omega), if_neg (show ¬ 0 < 0 by omega), Nat.add_zero, Nat.zero_add]
    exact sumN_congr fun q hq => by rw [if_pos (by omega), if_pos (by omega)]
theorem brd_all {a : List Int} {n : Nat} (hm : 1 ≤ a.length) (ha : ∀ x ∈ a, 0 ≤ x ∧ x < n) : brdAll a n = chgN a := by
  have hb : ∀ q, q < a.length → 0 ≤ a.getD q 0 ∧ a.getD q 0 < n := fun q hq => by
    rw [List.getD_eq_getElem?_getD, List.getElem?_eq_getElem hq]
    exact ha _ (List.getElem_mem hq)
  unfold brdAll
  rw [sumN_congr (fun i _ => brd_at hm i), sumN_swap]
  have h1 : sumN a.length (fun q => sumN n fun i => if a.getD q 0 = (i : Int) then one (decide (0 ≤ rgt a q ∧ rgt a q < i)) + one (decide (0 ≤ lft a q ∧ lft a q < i)) else 0)
      = sumN a.length (fun q => (if q + 1 < a.length then one (decide (a.getD (q + 1) 0 < a.getD (q + 1 - 1) 0)) else 0) + (if 0 < q then one (decide (a.getD (q - 1) 0 < a.getD q 0)) else 0)) := by
    refine sumN_congr fun q hq => ?_
    obtain ⟨h0, hn⟩ := hb q hq
    rw [sum_pick h0 hn (fun i => one (decide (0 ≤ rgt a q ∧ rgt a q < i)) + one (decide (0 ≤ lft a q ∧ lft a q < i))), Int.toNat_of_nonneg h0]
    congr 1
    · rw [rgt]
      by_cases h : q + 1 < a.length
      · rw [if_pos h, if_pos h, Nat.add_sub_cancel]
        have := (hb (q + 1) h).1
        congr 1
        rw [decide_eq_decide]; omega
      · rw [if_neg h, if_neg h, decide_eq_false (by omega)]; rfl
    · rw [lft]
      by_cases h : 0 < q
      · rw [if_pos h, if_pos h]
        have := (hb (q - 1) (by omega)).1
        congr 1
        rw [decide_eq_decide]; omega
      · rw [if_neg h, if_neg h, decide_eq_false (by omega)]; rfl
  rw [h1, sumN_add, sum_shift a.length (fun q => one (decide (a.getD q 0 < a.getD (q - 1) 0))), ← sumN_add]
  unfold chgN
  refine sumN_congr fun q hq => ?_
  by_cases h : 0 < q
  · rw [if_pos h, if_pos h, if_pos h]
    generalize a.getD q 0 = x
    generalize a.getD (q - 1) 0 = y
    rcases Int.lt_trichotomy x y with h2 | h2 | h2
    · rw [decide_eq_true h2, decide_eq_false (by omega), bne_iff_ne.2 (by omega)]; rfl
    · subst h2
      rw [decide_eq_false (by omega)]
      simp [one]
    · rw [decide_eq_false (by omega), decide_eq_true h2, bne_iff_ne.2 (by omega)]; rfl
  · rw [if_neg h, if_neg h, if_neg h]
theorem runs_sum (a : List Int) (i : Int) : runsN a i = sumN a.length fun q => one (runB a i q) := by
  unfold runsN
  have key : ∀ n, ((List.range n).filter (runB a i)).length = sumN n fun q => one (runB a i q) := by
    intro n
    induction n with
    | zero => rfl
    | succ n ih =>
      rw [List.range_succ, List.filter_append, List.length_append, ih, sumN]
      congr 1
      cases h : runB a i n <;> simp [h, one]
  exact key _
/-- all runs -/
theorem runs_all {a : List Int} {n : Nat} (hm : 1 ≤ a.length) (ha : ∀ x ∈ a, 0 ≤ x ∧ x < n) : sumN n (fun i => runsN a (i : Int)) = chgN a + 1 := by
  have hb : ∀ q, q < a.length → 0 ≤ a.getD q 0 ∧ a.getD q 0 < n := fun q hq => by
    rw [List.getD_eq_getElem?_getD, List.getElem?_eq_getElem hq]
    exact ha _ (List.getElem_mem hq)
  have hg : ∀ q, q < a.length → a[q]? = some (a.getD q 0) := fun q hq => by
    rw [List.getD_eq_getElem?_getD, List.getElem?_eq_getElem hq]; rfl
  rw [sumN_congr (fun i _ => runs_sum a i), sumN_swap]
  have h1 : sumN a.length (fun q => sumN n fun i => one (runB a (i : Int) q)) = sumN a.length (fun q => (if 0 < q then one (a.getD (q - 1) 0 != a.getD q 0) else 0) + if q = 0 then 1 else 0) := by
    refine sumN_congr fun q hq => ?_
    obtain ⟨h0, hn⟩ := hb q hq
    have e : ∀ i : Nat, one (runB a (i : Int) q) = if a.getD q 0 = (i : Int) then (if q = 0 then 1 else one (a.getD (q - 1) 0 != a.getD q 0)) else 0 := by
      intro i
      unfold runB
      rw [hg q hq]
      by_cases hi : a.getD q 0 = (i : Int)
      · rw [if_pos hi, decide_eq_true (by rw [hi]), Bool.true_and]
        by_cases hq0 : q = 0
        · rw [if_pos hq0, decide_eq_true hq0]; rfl
        · rw [if_neg hq0, decide_eq_false hq0, Bool.false_or, hg (q - 1) (by omega)]
          congr 1
          by_cases he : a.getD (q - 1) 0 = a.getD q 0
          · rw [decide_eq_false (by rw [he, hi]; simp), he]; simp
          · rw [decide_eq_true (by intro h; injection h with h; exact he (by rw [h, hi])), bne_iff_ne.2 he]
      · rw [if_neg hi, decide_eq_false (by intro h; injection h with h; exact hi h)]; rfl
    rw [sumN_congr (fun i _ => e i), sum_pick h0 hn (fun _ => if q = 0 then 1 else one (a.getD (q - 1) 0 != a.getD q 0))]
    by_cases hq0 : q = 0
    · rw [if_pos hq0, if_neg (by omega), if_pos hq0]
    · rw [if_neg hq0, if_pos (by omega), if_neg hq0, Nat.add_zero]
  rw [h1, sumN_add]
  congr 1
  have e : ∀ n, 1 ≤ n → sumN n (fun q => if q = 0 then 1 else 0) = 1 := by
    intro n hn
    obtain ⟨k, rfl⟩ : ∃ k, n = k + 1 := ⟨n - 1, by omega⟩
    rw [sumN_front, if_pos rfl, sumN_zero (fun i _ => by rw [if_neg (by omega)])]
  exact e _ hm
/-- how many agents below i have land -/
def haveN (a : List Int) (i : Nat) : Nat := sumN i fun j => one (decide (0 < runsN a (j : Int)))
/-- what is asked of borders -/
theorem borders_row {a : List Int} {n : Nat} (hm : 1 ≤ a.length) (ha : ∀ x ∈ a, 0 ≤ x ∧ x < n) (hd : DivOk a) : brdAll a n + 1 = haveN a n := by
  rw [brd_all hm ha, ← runs_all hm ha]
  refine sumN_congr fun i _ => ?_
  have := div_runs.1 hd (i : Int)
  by_cases h : 0 < runsN a (i : Int)
  · rw [decide_eq_true h]; unfold one; simp; omega
  · rw [decide_eq_false h]; unfold one; simp; omega
end Go.Proofs.Ytkoipecnmijfoaa

import Derived.Test.YtkoipecnmijfoaaM35a
/-! Plain law: strips: how far an agent needs, the table of sets, divisions of at least a level. No statement about the program. -/
namespace Go.Proofs.Ytkoipecnmijfoaa
set_option linter.unusedVariables false

/-- a value; 0 outside -/
def valV (V : List (List Int)) (i k : Nat) : Int := (V.getD i []).getD k 0
/-- values without error: n agents, m parcels -/
structure VS (V : List (List Int)) (m : Nat) : Prop where
  n0 : 1 ≤ V.length
  n6 : V.length ≤ 6
  m16 : m ≤ 16
  row : ∀ l ∈ V, l.length = m
  bd : ∀ l ∈ V, ∀ x ∈ l, 0 ≤ x ∧ x ≤ 1000
def badV (x : Int) : Bool := decide (x < 0) || decide (1000 < x)
def badRow (m : Nat) (l : List Int) : Bool := decide (l.length ≠ m) || l.any badV
/-- the error of values -/
def chk31 (V : List (List Int)) : Int := if 6 < V.length ∨ V.any (fun l => decide (16 < l.length)) = true then 4 else if V.length = 0 ∨ V.any (badRow (V.getD 0 []).length) = true then 8 else 0
theorem chk31_zero {V : List (List Int)} (h : chk31 V = 0) : VS V (V.getD 0 []).length := by
  unfold chk31 at h
  split at h
  · exact absurd h (by decide)
  · rename_i h1
    split at h
    · exact absurd h (by decide)
    · rename_i h2
      have h3 : V.length ≠ 0 := fun e => h2 (.inl e)
      have h4 : V.any (badRow (V.getD 0 []).length) = false := by
        cases hb : V.any (badRow (V.getD 0 []).length)
        · rfl
        · exact absurd (.inr hb) h2
      have h5 : V.any (fun l => decide (16 < l.length)) = false := by
        cases hb : V.any (fun l => decide (16 < l.length))
        · rfl
        · exact absurd (.inr hb) h1
      have h0 : V.getD 0 [] ∈ V := by
        rw [List.getD_eq_getElem?_getD, List.getElem?_eq_getElem (by omega)]
        exact List.getElem_mem _
      have hrow : ∀ l ∈ V, l.length = (V.getD 0 []).length ∧ l.any badV = false := fun l hl => by
        have := List.any_eq_false.1 h4 l hl
        rw [badRow, Bool.or_eq_true, decide_eq_true_iff] at this
        refine ⟨Classical.byContradiction fun e => this (.inl e), ?_⟩
        cases hb : l.any badV
        · rfl
        · exact absurd (.inr hb) this
      refine ⟨by omega, Nat.le_of_not_lt fun e => h1 (.inl e), ?_, fun l hl => (hrow l hl).1, fun l hl x hx => ?_⟩
      · have := List.any_eq_false.1 h5 _ h0
        simp at this
        simpa using this
      · have := List.any_eq_false.1 (hrow l hl).2 x hx
        simp [badV] at this
        omega
theorem valV_bd {V : List (List Int)} {m : Nat} (v : VS V m) (i k : Nat) : 0 ≤ valV V i k ∧ valV V i k ≤ 1000 := by
  unfold valV
  rw [List.getD_eq_getElem?_getD (l := V)]
  cases hr : V[i]? with
  | none => simp
  | some l =>
    rw [Option.getD_some, List.getD_eq_getElem?_getD]
    cases hx : l[k]? with
    | none => simp
    | some x => exact v.bd l (List.mem_of_getElem? hr) x (List.mem_of_getElem? hx)

/-! how many parcels are needed -/
def rc (n : Nat) : List Int → Int → Nat → Nat
  | [], L, p => if 0 < L then n + 1 else p
  | x :: t, L, p => if 0 < L then rc n t (L - x) (p + 1) else p
/-- from a parcel on, for a level -/
def reachN (l : List Int) (p : Nat) (L : Int) : Nat := rc l.length (l.drop p) L p
theorem rc_stop {n : Nat} {t : List Int} {L : Int} {p : Nat} (h : ¬ 0 < L) : rc n t L p = p := by cases t <;> rw [rc, if_neg h]
theorem rc_go {n : Nat} {x : Int} {t : List Int} {L : Int} {p : Nat} (h : 0 < L) : rc n (x :: t) L p = rc n t (L - x) (p + 1) := by rw [rc, if_pos h]
theorem rc_end {n : Nat} {L : Int} {p : Nat} (h : 0 < L) : rc n [] L p = n + 1 := by rw [rc, if_pos h]
theorem rc_cut {n : Nat} : ∀ {t : List Int} {L : Int} {p : Nat}, rc n t L p ≤ n → ∃ c, c ≤ t.length ∧ rc n t L p = p + c ∧ L ≤ (t.take c).sum ∧ (0 < L → 1 ≤ c)
  | [], L, p, h => by
    by_cases hL : 0 < L
    · rw [rc_end hL] at h; omega
    · exact ⟨0, Nat.le_refl _, by rw [rc_stop hL]; rfl, by simp; omega, fun h => absurd h hL⟩
  | x :: t, L, p, h => by
    by_cases hL : 0 < L
    · rw [rc_go hL] at h ⊢
      obtain ⟨c, h1, h2, h3, _⟩ := rc_cut h
      exact ⟨c + 1, by simp; omega, by omega, by simp; omega, fun _ => by omega⟩
    · exact ⟨0, by omega, by rw [rc_stop hL]; rfl, by simp; omega, fun h => absurd h hL⟩
theorem rc_le {n : Nat} : ∀ {t : List Int} {L : Int} {p : Nat}, p + t.length ≤ n + 1 → rc n t L p ≤ n + 1
  | [], L, p, h => by
    by_cases hL : 0 < L
    · rw [rc_end hL]; exact Nat.le_refl _
    · rw [rc_stop hL]; simpa using h
  | x :: t, L, p, h => by
    rw [List.length_cons] at h
    by_cases hL : 0 < L
    · rw [rc_go hL]; exact rc_le (by omega)
    · rw [rc_stop hL]; omega
theorem reachN_le {l : List Int} {p : Nat} {L : Int} (hp : p ≤ l.length + 1) : reachN l p L ≤ l.length + 1 := by
  unfold reachN
  by_cases h : p ≤ l.length
  · exact rc_le (by rw [List.length_drop]; omega)
  · rw [List.drop_eq_nil_of_le (by omega)]
    exact rc_le (by simpa using hp)

/-! the table -/
/-- an entry, when k agents have been looked at; T: the entries before -/
def entK (V : List (List Int)) (L : Int) (m : Nat) (T : Nat → Nat) (s : Nat) : Nat → Nat
  | 0 => m + 1
  | k + 1 => if s.testBit k then min (entK V L m T s k) (reachN (V.getD k []) (T (s - 2 ^ k)) L) else entK V L m T s k
theorem entK_le {V : List (List Int)} {L : Int} {m : Nat} {T : Nat → Nat} {s : Nat} : ∀ k, entK V L m T s k ≤ m + 1
  | 0 => Nat.le_refl _
  | k + 1 => by
    have := entK_le (V := V) (L := L) (m := m) (T := T) (s := s) k
    rw [entK]
    split
    · exact Nat.le_trans (Nat.min_le_left _ _) this
    · exact this
theorem entK_get {V : List (List Int)} {L : Int} {m : Nat} {T : Nat → Nat} {s : Nat} : ∀ k, entK V L m T s k ≤ m → ∃ i, i < k ∧ s.testBit i = true ∧ entK V L m T s k = reachN (V.getD i []) (T (s - 2 ^ i)) L
  | 0, h => by rw [entK] at h; omega
  | k + 1, h => by
    rw [entK] at h ⊢
    by_cases hb : s.testBit k = true
    · rw [if_pos hb] at h ⊢
      by_cases hle : entK V L m T s k ≤ reachN (V.getD k []) (T (s - 2 ^ k)) L
      · rw [Nat.min_eq_left hle] at h ⊢
        obtain ⟨i, h1, h2, h3⟩ := entK_get k h
        exact ⟨i, by omega, h2, h3⟩
      · rw [Nat.min_eq_right (by omega)] at h ⊢
        exact ⟨k, by omega, hb, rfl⟩
    · rw [if_neg hb] at h ⊢
      obtain ⟨i, h1, h2, h3⟩ := entK_get k h
      exact ⟨i, by omega, h2, h3⟩
theorem entK_ext {V : List (List Int)} {L : Int} {m : Nat} {T T' : Nat → Nat} {s : Nat} (h : ∀ j, j < s → T j = T' j) : ∀ k, entK V L m T s k = entK V L m T' s k
  | 0 => rfl
  | k + 1 => by
    rw [entK, entK, entK_ext h k]
    by_cases hb : s.testBit k = true
    · rw [if_pos hb, if_pos hb, h]
      have := Nat.ge_two_pow_of_testBit hb
      have : 0 < 2 ^ k := Nat.two_pow_pos k
      omega
    · rw [if_neg hb, if_neg hb]
/-- the table of a level -/
structure TabOk (V : List (List Int)) (m : Nat) (L : Int) (T : Nat → Nat) : Prop where
  zero : T 0 = 0
  ent : ∀ s, 0 < s → s < 2 ^ V.length → T s = entK V L m T s V.length

/-! divisions of at least a level, from a place on -/
/-- what the rest of a division can be: at a place, with an agent that has a sum, when the agents of a set are still to come -/
inductive Compl (V : List (List Int)) (m : Nat) (L : Int) : Nat → Nat → Int → Nat → List Int → Prop
  | done {g s : Nat} {sum : Int} : L ≤ sum → (∀ i, i < V.length → s.testBit i = true → L ≤ 0) → Compl V m L m g sum s []
  | same {k g s : Nat} {sum : Int} {l : List Int} : k < m → Compl V m L (k + 1) g (sum + valV V g k) s l → Compl V m L k g sum s ((g : Int) :: l)
  | next {k g s i : Nat} {sum : Int} {l : List Int} : k < m → i < V.length → i ≠ g → s.testBit i = true → L ≤ sum → Compl V m L (k + 1) i (valV V i k) (s - 2 ^ i) l → Compl V m L k g sum s ((i : Int) :: l)
section
variable {V : List (List Int)} {m : Nat} {L : Int}
theorem Compl.len {k g s : Nat} {sum : Int} {l : List Int} (h : Compl V m L k g sum s l) : k + l.length = m := by
  induction h with
  | done _ _ => rfl
  | same _ _ ih => rw [List.length_cons]; omega
  | next _ _ _ _ _ _ ih => rw [List.length_cons]; omega
theorem Compl.mem {k g s : Nat} {sum : Int} {l : List Int} (h : Compl V m L k g sum s l) (hg : g < V.length) : ∀ x ∈ l, 0 ≤ x ∧ x < V.length := by
  induction h with
  | done _ _ => intro x hx; cases hx
  | same _ _ ih =>
    intro x hx
    rcases List.mem_cons.1 hx with rfl | hx
    · omega
    · exact ih hg x hx
  | next _ hi _ _ _ _ ih =>
    intro x hx
    rcases List.mem_cons.1 hx with rfl | hx
    · omega
    · exact ih hi x hx
theorem Compl.inv {k g s : Nat} {sum : Int} {l : List Int} (h : Compl V m L k g sum s l) (hk : k < m) :
    (∃ l', l = (g : Int) :: l' ∧ Compl V m L (k + 1) g (sum + valV V g k) s l') ∨ (∃ i l', i < V.length ∧ i ≠ g ∧ s.testBit i = true ∧ L ≤ sum ∧ l = (i : Int) :: l' ∧ Compl V m L (k + 1) i (valV V i k) (s - 2 ^ i) l') := by
  have hl := h.len
  cases h with
  | done _ _ => simp at hl; omega
  | same _ h2 => exact .inl ⟨_, rfl, h2⟩
  | next _ h2 h3 h4 h5 h6 => exact .inr ⟨_, _, h2, h3, h4, h5, rfl, h6⟩
/-- what begins with agent i -/
theorem Compl.head {k g s i : Nat} {sum : Int} {l : List Int} (h : Compl V m L k g sum s ((i : Int) :: l)) (hk : k < m) :
    (i = g ∧ Compl V m L (k + 1) g (sum + valV V g k) s l) ∨ (i ≠ g ∧ s.testBit i = true ∧ L ≤ sum ∧ Compl V m L (k + 1) i (valV V i k) (s - 2 ^ i) l) := by
  rcases h.inv hk with ⟨l', h1, h2⟩ | ⟨j, l', _, h2, h3, h4, h5, h6⟩
  · injection h1 with e1 e2
    subst e2
    exact .inl ⟨by omega, h2⟩
  · injection h5 with e1 e2
    subst e2
    obtain rfl : i = j := by omega
    exact .inr ⟨h2, h3, h4, h6⟩
/-- with more it is as good -/
theorem Compl.more {k g s : Nat} {sum sum' : Int} {l : List Int} (h : Compl V m L k g sum s l) (hle : sum ≤ sum') : Compl V m L k g sum' s l := by
  induction h generalizing sum' with
  | done h1 h2 => exact .done (by omega) h2
  | same h1 _ ih => exact .same h1 (ih (by omega))
  | next h1 h2 h3 h4 h5 h6 _ => exact .next h1 h2 h3 h4 (by omega) h6
/-- what an agent has from a place on -/
def restV (V : List (List Int)) (m i k : Nat) : Int := (((V.getD i []).drop k).take (m - k)).sum
theorem restV_step {i k : Nat} (v : VS V m) (hk : k < m) : restV V m i k = valV V i k + restV V m i (k + 1) := by
  unfold restV valV
  by_cases hi : i < V.length
  · have hl : (V.getD i []).length = m := by
      rw [List.getD_eq_getElem?_getD, List.getElem?_eq_getElem hi]
      exact v.row _ (List.getElem_mem hi)
    rw [List.drop_eq_getElem_cons (by omega), show m - k = (m - (k + 1)) + 1 by omega, List.take_succ_cons, List.sum_cons, List.getD_eq_getElem?_getD (l := V.getD i []), List.getElem?_eq_getElem (by omega), Option.getD_some]
  · have : V.getD i [] = [] := by rw [List.getD_eq_getElem?_getD, List.getElem?_eq_none (by omega)]; rfl
    rw [this]; simp
theorem restV_end {i : Nat} : restV V m i m = 0 := by unfold restV; simp
theorem restV_nonneg (v : VS V m) (i : Nat) : ∀ d k, k + d = m → 0 ≤ restV V m i k
  | 0, k, h => by rw [show k = m by omega, restV_end]; exact Int.le_refl _
  | d + 1, k, h => by
    rw [restV_step v (by omega)]
    have := restV_nonneg v i d (k + 1) (by omega)
    have := (valV_bd v i k).1
    omega
theorem bit6 : ∀ s, s < 64 → ∀ j, j < 6 → ∀ i, i < 6 → s.testBit j = true → (s - 2 ^ j).testBit i = (s.testBit i && decide (i ≠ j)) := by decide +kernel
theorem bit_sub (v : VS V m) {s j i : Nat} (hs : s < 64) (hj : j < V.length) (hi : i < V.length) (hb : s.testBit j = true) : (s - 2 ^ j).testBit i = (s.testBit i && decide (i ≠ j)) :=
  bit6 s hs j (by have := v.n6; omega) i (by have := v.n6; omega) hb
/-- each agent can have its level -/
theorem Compl.level (v : VS V m) (hL : 0 < L) {k g s : Nat} {sum : Int} {l : List Int} (h : Compl V m L k g sum s l) (hs : s < 64) : L ≤ sum + restV V m g k ∧ ∀ i, i < V.length → s.testBit i = true → L ≤ restV V m i k := by
  induction h with
  | done h1 h2 => exact ⟨by rw [restV_end]; omega, fun i hi hb => by have := h2 i hi hb; omega⟩
  | @same k g s sum l hk _ ih =>
    rw [restV_step v hk]
    have ih := ih hs
    refine ⟨by omega, fun i hi hb => ?_⟩
    have := ih.2 i hi hb
    rw [restV_step v hk]
    have := (valV_bd v i k).1
    omega
  | @next k g s j sum l hk hj hne hb hsum _ ih =>
    have ih := ih (Nat.lt_of_le_of_lt (Nat.sub_le _ _) hs)
    have hg0 := restV_nonneg v g (m - k) k (by omega)
    refine ⟨by omega, fun i hi hbi => ?_⟩
    rw [restV_step v hk]
    by_cases hij : i = j
    · subst hij; exact ih.1
    · have := ih.2 i hi (by rw [bit_sub v hs hj hi hb, hbi, decide_eq_true hij]; rfl)
      have := (valV_bd v i k).1
      omega
/-- an agent goes on from p to q -/
theorem Compl.run (v : VS V m) {g s : Nat} {l : List Int} : ∀ (d p : Nat) {sum : Int}, p + d ≤ m → Compl V m L (p + d) g (sum + (((V.getD g []).drop p).take d).sum) s l → Compl V m L p g sum s (List.replicate d (g : Int) ++ l)
  | 0, p, sum, h, hc => by simpa using hc
  | d + 1, p, sum, h, hc => by
    refine .same (by omega) (Compl.run v d (p + 1) (by omega) ?_)
    have e : (((V.getD g []).drop p).take (d + 1)).sum = valV V g p + (((V.getD g []).drop (p + 1)).take d).sum := by
      unfold valV
      by_cases hi : g < V.length
      · have hl : (V.getD g []).length = m := by
          rw [List.getD_eq_getElem?_getD, List.getElem?_eq_getElem hi]
          exact v.row _ (List.getElem_mem hi)
        rw [List.drop_eq_getElem_cons (by omega), List.take_succ_cons, List.sum_cons, List.getD_eq_getElem?_getD (l := V.getD g []), List.getElem?_eq_getElem (by omega), Option.getD_some]
      · have : V.getD g [] = [] := by rw [List.getD_eq_getElem?_getD, List.getElem?_eq_none (by omega)]; rfl
        rw [this]; simp
    rw [e] at hc
    rw [show p + (d + 1) = p + 1 + d by omega] at hc
    rw [Int.add_assoc]
    exact hc
/-- a division of at least a level that begins with an agent -/
def Begin (V : List (List Int)) (m : Nat) (L : Int) (g : Nat) (l : List Int) : Prop := Compl V m L 1 g (valV V g 0) (2 ^ V.length - 1 - 2 ^ g) l
def full (V : List (List Int)) : Nat := 2 ^ V.length - 1
theorem full6 : ∀ n, n < 7 → (2 ^ n - 1 < 64 ∧ ∀ i, i < n → (2 ^ n - 1).testBit i = true) := by decide +kernel
theorem full_lt (v : VS V m) : full V < 64 := (full6 _ (by have := v.n6; omega)).1
theorem full_bit (v : VS V m) {i : Nat} (hi : i < V.length) : (full V).testBit i = true := (full6 _ (by have := v.n6; omega)).2 i hi
theorem bits_zero : ∀ n, n < 7 → ∀ s, s < 2 ^ n → (∀ i, i < n → s.testBit i = false) → s = 0 := by decide +kernel
theorem sub6 : ∀ s, s < 64 → ∀ j, j < 6 → s.testBit j = true → s - 2 ^ j < s ∧ 2 ^ j ≤ s := by decide +kernel
theorem comp6 : ∀ n, n < 7 → ∀ s, s < 2 ^ n → ∀ j, j < n → s.testBit j = true → (2 ^ n - 1 - (s - 2 ^ j)).testBit j = true ∧ 2 ^ n - 1 - (s - 2 ^ j) - 2 ^ j = 2 ^ n - 1 - s := by decide +kernel
/-- what the table says can be had: whatever goes on from there begins somewhere -/
theorem table_begin (v : VS V m) (hm : 1 ≤ m) (hL : 0 < L) {T : Nat → Nat} (ht : TabOk V m L T) : ∀ (c s : Nat), s ≤ c → 0 < s → s ≤ full V → T s ≤ m →
    ∃ g, g < V.length ∧ s.testBit g = true ∧ ∀ l, (∀ sum, L ≤ sum → Compl V m L (T s) g sum (full V - s) l) → ∃ g0 l0, g0 < V.length ∧ Begin V m L g0 l0
  | 0, s, h, h0, _, _ => by omega
  | c + 1, s, h, h0, hf, hT => by
    have hfull := full_lt v
    have hn6 := v.n6
    have hp : full V = 2 ^ V.length - 1 := rfl
    have hpos : 0 < 2 ^ V.length := Nat.two_pow_pos _
    have hs2 : s < 2 ^ V.length := by omega
    rw [ht.ent s h0 hs2] at hT
    obtain ⟨i, hi, hb, he⟩ := entK_get _ hT
    rw [← ht.ent s h0 hs2] at he hT
    have hsub := sub6 s (by omega) i (by omega) hb
    have hcomp := comp6 V.length (by omega) s hs2 i hi hb
    have hrl : (V.getD i []).length = m := by
      rw [List.getD_eq_getElem?_getD, List.getElem?_eq_getElem hi]
      exact v.row _ (List.getElem_mem hi)
    -- the stretch of the last agent
    have hcut : T (s - 2 ^ i) ≤ m ∧ ∃ d, T s = T (s - 2 ^ i) + d ∧ T (s - 2 ^ i) + d ≤ m ∧ 1 ≤ d ∧ L ≤ (((V.getD i []).drop (T (s - 2 ^ i))).take d).sum := by
      rw [he] at hT
      unfold reachN at hT he
      rw [hrl] at hT he
      obtain ⟨d, h1, h2, h3, h4⟩ := rc_cut hT
      rw [List.length_drop, hrl] at h1
      have hd := h4 hL
      rw [h2] at hT
      exact ⟨by omega, d, by rw [he, h2], hT, hd, h3⟩
    obtain ⟨hq, d, hd1, hd2, hd3, hd4⟩ := hcut
    refine ⟨i, hi, hb, fun l hl => ?_⟩
    by_cases hz : s - 2 ^ i = 0
    · -- the first agent
      rw [hz, ht.zero] at hd1 hd2 hd4
      have h5 : full V - s = full V - 2 ^ i := by omega
      refine ⟨i, List.replicate (d - 1) (i : Int) ++ l, hi, ?_⟩
      have h6 := hl _ hd4
      rw [hd1, h5] at h6
      have e : ((List.drop 0 (V.getD i [])).take d).sum = valV V i 0 + (((V.getD i []).drop 1).take (d - 1)).sum := by
        rw [List.drop_zero]
        unfold valV
        obtain ⟨y, r, hyr⟩ : ∃ y r, V.getD i [] = y :: r := by
          cases hc : V.getD i [] with
          | nil => rw [hc] at hrl; simp at hrl; omega
          | cons y r => exact ⟨y, r, rfl⟩
        obtain ⟨d', rfl⟩ : ∃ d', d = d' + 1 := ⟨d - 1, by omega⟩
        rw [hyr, List.take_succ_cons, List.sum_cons, Nat.add_sub_cancel]
        simp
      rw [e] at h6
      exact Compl.run v (d - 1) 1 (by omega) (by rw [show 1 + (d - 1) = 0 + d by omega]; exact h6)
    · obtain ⟨g', hg', hb', hgo⟩ := table_begin v hm hL ht c (s - 2 ^ i) (by omega) (by omega) (by omega) hq
      have hne : i ≠ g' := by
        rintro rfl
        rw [bit_sub v (by omega) hi hi hb] at hb'
        simp at hb'
      refine hgo ((i : Int) :: (List.replicate (d - 1) (i : Int) ++ l)) fun sum hsum => ?_
      rw [hp]
      refine .next (by omega) hi hne hcomp.1 hsum ?_
      rw [hcomp.2]
      have h6 := hl _ hd4
      rw [hd1, hp] at h6
      have e : (((V.getD i []).drop (T (s - 2 ^ i))).take d).sum = valV V i (T (s - 2 ^ i)) + (((V.getD i []).drop (T (s - 2 ^ i) + 1)).take (d - 1)).sum := by
        unfold valV
        obtain ⟨d', rfl⟩ : ∃ d', d = d' + 1 := ⟨d - 1, by omega⟩
        rw [List.drop_eq_getElem_cons (by omega), List.getD_eq_getElem?_getD (l := V.getD i []), List.getElem?_eq_getElem (by omega), Option.getD_some, List.take_succ_cons, List.sum_cons, Nat.add_sub_cancel]
      rw [e] at h6
      exact Compl.run v (d - 1) (T (s - 2 ^ i) + 1) (by omega) (by rw [show T (s - 2 ^ i) + 1 + (d - 1) = T (s - 2 ^ i) + d by omega]; exact h6)
/-- .. and so there is a division -/
theorem table_has (v : VS V m) (hm : 1 ≤ m) (hL : 0 < L) {T : Nat → Nat} (ht : TabOk V m L T) (h : T (full V) ≤ m) : ∃ g0 l0, g0 < V.length ∧ Begin V m L g0 l0 := by
  have hn0 := v.n0
  have h2 : 2 ^ 1 ≤ 2 ^ V.length := Nat.pow_le_pow_right (by omega) hn0
  obtain ⟨g, hg, _, hgo⟩ := table_begin v hm hL ht (full V) (full V) (Nat.le_refl _) (by unfold full; omega) (Nat.le_refl _) h
  refine hgo (List.replicate (m - T (full V)) (g : Int) ++ []) fun sum hsum => ?_
  refine Compl.run v _ _ (by omega) ?_
  rw [show T (full V) + (m - T (full V)) = m by omega, Nat.sub_self]
  have h0 : 0 ≤ (((V.getD g []).drop (T (full V))).take (m - T (full V))).sum := restV_nonneg v g (m - T (full V)) (T (full V)) (by omega)
  exact .done (by omega) fun i _ hb => by rw [Nat.zero_testBit] at hb; cases hb
/-- at the level 0 there is one -/
theorem none_has (v : VS V m) (hm : 1 ≤ m) : ∃ g0 l0, g0 < V.length ∧ Begin V m 0 g0 l0 := by
  refine ⟨0, List.replicate (m - 1) ((0 : Nat) : Int) ++ [], v.n0, Compl.run v (m - 1) 1 (by omega) ?_⟩
  rw [show 1 + (m - 1) = m by omega]
  have h0 : 0 ≤ (((V.getD 0 []).drop 1).take (m - 1)).sum := restV_nonneg v 0 (m - 1) 1 (by omega)
  have := (valV_bd v 0 0).1
  exact .done (by omega) fun i _ _ => by omega
/-- what is asked of the best division -/
theorem begin_ok (v : VS V m) (hm : 1 ≤ m) {g : Nat} {l : List Int} (hg : g < V.length) (h : Begin V m L g l) :
    ((g : Int) :: l).length = m ∧ (∀ x ∈ (g : Int) :: l, 0 ≤ x ∧ x < V.length) ∧ (0 < L → ∀ i, i < V.length → L ≤ restV V m i 0) := by
  refine ⟨?_, ?_, fun hL i hi => ?_⟩
  · have := h.len
    rw [List.length_cons]; omega
  · intro x hx
    rcases List.mem_cons.1 hx with rfl | hx
    · omega
    · exact h.mem hg x hx
  · have hfull := full_lt v
    have h1 := h.level v hL (Nat.lt_of_le_of_lt (Nat.sub_le _ _) hfull)
    rw [restV_step v (by omega), Nat.zero_add]
    by_cases hig : i = g
    · subst hig; exact h1.1
    · have := h1.2 i hi (by
        have := bit_sub v hfull hg hi (full_bit v hg)
        unfold full at this
        rw [this]
        have h9 := full_bit v hi
        unfold full at h9
        rw [h9, decide_eq_true hig]; rfl)
      have := (valV_bd v i 0).1
      omega
end
end Go.Proofs.Ytkoipecnmijfoaa

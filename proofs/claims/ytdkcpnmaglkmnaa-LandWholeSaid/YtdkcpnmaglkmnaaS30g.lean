import Derived.Test.YtdkcpnmaglkmnaaBase3
import Derived.Test.YtdkcpnmaglkmnaaS30a
/-! Plain law: what hangs together. No statement about the program. -/
namespace Go.Proofs.Ytdkcpnmaglkmnaa
set_option linter.unusedVariables false

/-- j hangs together with i -/
inductive Con (R : Nat → Nat → Bool) (i : Nat) : Nat → Prop
  | refl : Con R i i
  | step {j k : Nat} : Con R i j → R j k = true → Con R i k
theorem Con.trans {R : Nat → Nat → Bool} {i j k : Nat} (h : Con R i j) (h2 : Con R j k) : Con R i k := by
  induction h2 with
  | refl => exact h
  | step _ hr ih => exact .step ih hr
theorem Con.one {R : Nat → Nat → Bool} {i j : Nat} (h : R i j = true) : Con R i j := .step .refl h
theorem Con.symm {R : Nat → Nat → Bool} (hs : ∀ a b, R a b = true → R b a = true) {i j : Nat} (h : Con R i j) : Con R j i := by
  induction h with
  | refl => exact .refl
  | step _ hr ih => exact (Con.one (hs _ _ hr)).trans ih
theorem Con.inv {R : Nat → Nat → Bool} {i j : Nat} (h : Con R i j) : i = j ∨ ∃ k, R k j = true := by
  cases h with
  | refl => exact .inl rfl
  | step _ hr => exact .inr ⟨_, hr⟩
theorem Con.inv0 {R : Nat → Nat → Bool} {i j : Nat} (h : Con R i j) : i = j ∨ ∃ k, R i k = true := by
  induction h with
  | refl => exact .inl rfl
  | step _ hr ih =>
    rcases ih with rfl | ih
    · exact .inr ⟨_, hr⟩
    · exact .inr ih
/-- what is closed under neighbours and has i has all -/
theorem Con.closed {R : Nat → Nat → Bool} {S : Nat → Prop} (hS : ∀ a b, S a → R a b = true → S b) {i j : Nat} (hi : S i) (h : Con R i j) : S j := by
  induction h with
  | refl => exact hi
  | step _ hr ih => exact hS _ _ ih hr
theorem Con.mono {R R' : Nat → Nat → Bool} (hR : ∀ a b, R a b = true → R' a b = true) {i j : Nat} (h : Con R i j) : Con R' i j := by
  induction h with
  | refl => exact .refl
  | step _ hr ih => exact .step ih (hR _ _ hr)

/-- a set and its neighbours -/
def grow (n : Nat) (R : Nat → Nat → Bool) (S : List Nat) : List Nat := (List.range n).filter fun k => S.contains k || S.any fun j => R j k
def growN (n : Nat) (R : Nat → Nat → Bool) (S : List Nat) : Nat → List Nat
  | 0 => S
  | f + 1 => grow n R (growN n R S f)
/-- all that hangs together with i, in order -/
def comp (n : Nat) (R : Nat → Nat → Bool) (i : Nat) : List Nat := growN n R [i] (n + 1)
theorem mem_grow {n : Nat} {R : Nat → Nat → Bool} {S : List Nat} {k : Nat} : k ∈ grow n R S ↔ k < n ∧ (k ∈ S ∨ ∃ j ∈ S, R j k = true) := by
  simp [grow, List.mem_filter]
/-- how many are not in it -/
def lacks (n : Nat) (S : List Nat) : Nat := sumN n fun k => one (!S.contains k)
theorem sumN_mono {n : Nat} {f g : Nat → Nat} (h : ∀ i, i < n → f i ≤ g i) : sumN n f ≤ sumN n g := by
  induction n with
  | zero => exact Nat.le_refl _
  | succ n ih =>
    have h1 := ih fun i hi => h i (by omega)
    have h2 := h n (by omega)
    rw [sumN, sumN]; omega
theorem sumN_lt {n : Nat} {f g : Nat → Nat} (h : ∀ i, i < n → f i ≤ g i) {k : Nat} (hk : k < n) (hlt : f k < g k) : sumN n f < sumN n g := by
  induction n with
  | zero => omega
  | succ n ih =>
    rw [sumN, sumN]
    have h2 := h n (by omega)
    by_cases hkn : k = n
    · subst hkn
      have := sumN_mono (f := f) (g := g) fun i hi => h i (Nat.lt_succ_of_lt hi)
      omega
    · have := ih (fun i hi => h i (by omega)) (by omega)
      omega
theorem lacks_le (n : Nat) (S : List Nat) : lacks n S ≤ n := by
  have := sumN_le (n := n) (f := fun k => one (!S.contains k)) (c := 1) fun i _ => one_le _
  unfold lacks; omega
/-- closed under neighbours -/
def Shut (R : Nat → Nat → Bool) (T : List Nat) : Prop := ∀ a b, a ∈ T → R a b = true → b ∈ T
theorem growN_lt {n : Nat} {R : Nat → Nat → Bool} {i : Nat} (hi : i < n) : ∀ f, ∀ k ∈ growN n R [i] f, k < n
  | 0, k, hk => by rw [growN, List.mem_singleton] at hk; omega
  | f + 1, k, hk => (mem_grow.1 hk).1
theorem growN_self {n : Nat} {R : Nat → Nat → Bool} {i : Nat} (hi : i < n) : ∀ f, i ∈ growN n R [i] f
  | 0 => by simp [growN]
  | f + 1 => mem_grow.2 ⟨hi, .inl (growN_self hi f)⟩
theorem growN_con {n : Nat} {R : Nat → Nat → Bool} {i : Nat} : ∀ f, ∀ k ∈ growN n R [i] f, Con R i k
  | 0, k, hk => by rw [growN, List.mem_singleton] at hk; subst hk; exact .refl
  | f + 1, k, hk => by
    rcases (mem_grow.1 hk).2 with h | ⟨j, hj, hr⟩
    · exact growN_con f k h
    · exact .step (growN_con f j hj) hr
theorem lacks_lt {n : Nat} {R : Nat → Nat → Bool} (hR : ∀ a b, R a b = true → b < n) {T : List Nat} (h : ¬ Shut R T) : lacks n (grow n R T) < lacks n T := by
  have : ∃ a b, a ∈ T ∧ R a b = true ∧ b ∉ T := by
    apply Classical.byContradiction
    intro hno
    apply h
    intro a b ha hr
    apply Classical.byContradiction
    intro hb
    exact hno ⟨a, b, ha, hr, hb⟩
  obtain ⟨a, b, ha, hr, hb⟩ := this
  have hbn := hR a b hr
  have hin : b ∈ grow n R T := mem_grow.2 ⟨hbn, .inr ⟨a, ha, hr⟩⟩
  refine sumN_lt (k := b) (fun i hi => ?_) hbn ?_
  · by_cases hiT : i ∈ T
    · have : i ∈ grow n R T := mem_grow.2 ⟨hi, .inl hiT⟩
      simp [one, this]
    · have h1 : one (!T.contains i) = 1 := by simp [one, hiT]
      rw [h1]
      exact one_le _
  · rw [one, one, if_neg (by simpa using hin), if_pos (by simpa using hb)]
    omega
theorem growN_step {n : Nat} {R : Nat → Nat → Bool} (hR : ∀ a b, R a b = true → b < n) {i : Nat} (hi : i < n) : ∀ f, Shut R (growN n R [i] f) ∨ lacks n (growN n R [i] f) + f ≤ n
  | 0 => .inr (by have := lacks_le n (growN n R [i] 0); omega)
  | f + 1 => by
    by_cases hs : Shut R (growN n R [i] f)
    · left
      intro a b ha hr
      refine mem_grow.2 ⟨hR a b hr, .inl ?_⟩
      rcases (mem_grow.1 ha).2 with h | ⟨j, hj, hr2⟩
      · exact hs a b h hr
      · exact hs a b (hs j a hj hr2) hr
    · rcases growN_step hR hi f with h | h
      · exact absurd h hs
      · right
        have := lacks_lt hR hs
        rw [growN]; omega
theorem comp_shut {n : Nat} {R : Nat → Nat → Bool} (hR : ∀ a b, R a b = true → b < n) {i : Nat} (hi : i < n) : Shut R (comp n R i) := by
  rcases growN_step hR hi (n + 1) with h | h
  · exact h
  · omega
theorem mem_comp {n : Nat} {R : Nat → Nat → Bool} (hR : ∀ a b, R a b = true → b < n) {i : Nat} (hi : i < n) (k : Nat) : k ∈ comp n R i ↔ Con R i k :=
  ⟨growN_con _ k, fun h => h.closed (S := fun k => k ∈ comp n R i) (comp_shut hR hi) (growN_self hi _)⟩
theorem comp_lt {n : Nat} {R : Nat → Nat → Bool} {i : Nat} (hi : i < n) : ∀ k ∈ comp n R i, k < n := growN_lt hi _
theorem comp_sorted (n : Nat) (R : Nat → Nat → Bool) (i : Nat) : (comp n R i).Pairwise (· < ·) := List.Pairwise.filter _ List.pairwise_lt_range
/-- sorted lists with the same members are the same -/
theorem sorted_ext : ∀ {A B : List Nat}, A.Pairwise (· < ·) → B.Pairwise (· < ·) → (∀ k, k ∈ A ↔ k ∈ B) → A = B := by
  intro A B ha hb h
  have hp : A.Perm B := by
    rw [List.perm_ext_iff_of_nodup (ha.imp fun h => Nat.ne_of_lt h) (hb.imp fun h => Nat.ne_of_lt h)]
    exact h
  exact hp.eq_of_pairwise (fun a b _ _ h1 h2 => absurd h2 (by omega)) ha hb

/-- the first of its part -/
def isLead (n : Nat) (E : Nat → Bool) (R : Nat → Nat → Bool) (i : Nat) : Bool := E i && (comp n R i).all fun k => decide (i ≤ k)
def partsL (n : Nat) (E : Nat → Bool) (R : Nat → Nat → Bool) : List (List Nat) := ((List.range n).filter (isLead n E R)).map (comp n R)
theorem isLead_iff {n : Nat} {E : Nat → Bool} {R : Nat → Nat → Bool} (hR : ∀ a b, R a b = true → b < n) {i : Nat} (hi : i < n) : isLead n E R i = true ↔ E i = true ∧ ∀ k, k < i → ¬ Con R i k := by
  rw [isLead, Bool.and_eq_true, List.all_eq_true]
  refine and_congr Iff.rfl ⟨fun h k hk hc => ?_, fun h k hk => ?_⟩
  · have := h k ((mem_comp hR hi k).2 hc)
    simp at this; omega
  · apply decide_eq_true
    apply Classical.byContradiction
    intro hlt
    exact h k (by omega) ((mem_comp hR hi k).1 hk)
/-- the parts up to i -/
def partsTo (n : Nat) (E : Nat → Bool) (R : Nat → Nat → Bool) (i : Nat) : List (List Nat) := ((List.range i).filter (isLead n E R)).map (comp n R)
theorem partsTo_zero (n : Nat) (E : Nat → Bool) (R : Nat → Nat → Bool) : partsTo n E R 0 = [] := rfl
theorem partsTo_n (n : Nat) (E : Nat → Bool) (R : Nat → Nat → Bool) : partsTo n E R n = partsL n E R := rfl
theorem partsTo_no {n : Nat} {E : Nat → Bool} {R : Nat → Nat → Bool} {i : Nat} (h : isLead n E R i = false) : partsTo n E R (i + 1) = partsTo n E R i := by
  simp [partsTo, List.range_succ, List.filter_append, h]
theorem partsTo_yes {n : Nat} {E : Nat → Bool} {R : Nat → Nat → Bool} {i : Nat} (h : isLead n E R i = true) : partsTo n E R (i + 1) = partsTo n E R i ++ [comp n R i] := by
  simp [partsTo, List.range_succ, List.filter_append, h]
end Go.Proofs.Ytdkcpnmaglkmnaa

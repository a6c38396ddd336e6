import Derived.Test.YtefbkdjppfofmaaSortI
import Derived.Test.YtefbkdjppfofmaaS26g
/-! Plain law: sums, shapes, which of two shapes is more even. No statement about the program. -/
namespace Go.Proofs.Ytefbkdjppfofmaa
set_option linter.unusedVariables false

/-- sums over the first k numbers -/
def sm (F : Nat → Int) : Nat → Int
  | 0 => 0
  | k + 1 => sm F k + F k
theorem sm_le {F G : Nat → Int} : ∀ {k : Nat}, (∀ i, i < k → F i ≤ G i) → sm F k ≤ sm G k
  | 0, _ => by simp [sm]
  | k + 1, h => by
    have h1 := sm_le (k := k) fun i hi => h i (by omega)
    have h2 := h k (by omega)
    simp only [sm]; omega
theorem sm_congr {F G : Nat → Int} : ∀ {k : Nat}, (∀ i, i < k → F i = G i) → sm F k = sm G k
  | 0, _ => by simp [sm]
  | k + 1, h => by
    have h1 := sm_congr (k := k) fun i hi => h i (by omega)
    have h2 := h k (by omega)
    simp only [sm]; omega
theorem sm_add (F G : Nat → Int) : ∀ k : Nat, sm (fun i => F i + G i) k = sm F k + sm G k
  | 0 => by simp [sm]
  | k + 1 => by simp only [sm]; rw [sm_add F G k]; omega
theorem sm_zero : ∀ k : Nat, sm (fun _ => 0) k = 0
  | 0 => rfl
  | k + 1 => by simp only [sm]; rw [sm_zero k]; rfl
theorem sm_one (i0 : Nat) : ∀ {k : Nat}, sm (fun i => if i = i0 then 1 else 0) k = if i0 < k then 1 else 0
  | 0 => by simp [sm]
  | k + 1 => by
    simp only [sm]
    rw [sm_one i0 (k := k)]
    by_cases h1 : i0 < k
    · rw [if_pos h1, if_neg (by omega), if_pos (by omega)]; rfl
    · by_cases h2 : k = i0
      · rw [if_neg h1, if_pos h2, if_pos (by omega)]; rfl
      · rw [if_neg h1, if_neg h2, if_neg (by omega)]; rfl
/-- what lies above s, the sum, what lacks to s -/
def PL (s : Int) : List Int → Int
  | [] => 0
  | c :: t => max (c - s) 0 + PL s t
def SL : List Int → Int
  | [] => 0
  | c :: t => c + SL t
def QL (s : Int) : List Int → Int
  | [] => 0
  | c :: t => max (s - c) 0 + QL s t
theorem PL_append (s : Int) : ∀ (L M : List Int), PL s (L ++ M) = PL s L + PL s M
  | [], M => by simp [PL]
  | c :: t, M => by simp only [List.cons_append, PL]; rw [PL_append s t M]; omega
theorem SL_append : ∀ (L M : List Int), SL (L ++ M) = SL L + SL M
  | [], M => by simp [SL]
  | c :: t, M => by simp only [List.cons_append, SL]; rw [SL_append t M]; omega
theorem PL_perm {s : Int} {L M : List Int} (h : L.Perm M) : PL s L = PL s M := by
  induction h with
  | nil => rfl
  | cons x _ ih => simp only [PL]; omega
  | swap x y l => simp only [PL]; omega
  | trans _ _ h1 h2 => omega
theorem SL_perm {L M : List Int} (h : L.Perm M) : SL L = SL M := by
  induction h with
  | nil => rfl
  | cons x _ ih => simp only [SL]; omega
  | swap x y l => simp only [SL]; omega
  | trans _ _ h1 h2 => omega
theorem PL_map (s : Int) (F : Nat → Int) : ∀ k : Nat, PL s ((List.range k).map F) = sm (fun i => max (F i - s) 0) k
  | 0 => rfl
  | k + 1 => by
    rw [List.range_succ, List.map_append, PL_append, PL_map s F k]
    simp only [List.map_cons, List.map_nil, PL, sm]; omega
theorem SL_map (F : Nat → Int) : ∀ k : Nat, SL ((List.range k).map F) = sm F k
  | 0 => rfl
  | k + 1 => by
    rw [List.range_succ, List.map_append, SL_append, SL_map F k]
    simp only [List.map_cons, List.map_nil, SL, sm]; omega
theorem QL_eq (s : Int) : ∀ L : List Int, QL s L = PL s L - SL L + (L.length : Int) * s
  | [] => by simp [QL, PL, SL]
  | c :: t => by
    simp only [QL, PL, SL, List.length_cons]
    rw [QL_eq s t]
    have : ((t.length + 1 : Nat) : Int) * s = (t.length : Int) * s + s := by rw [Int.natCast_add, Int.add_mul]; omega
    rw [this]; omega
theorem QL_nonneg (s : Int) : ∀ L : List Int, 0 ≤ QL s L
  | [] => by simp [QL]
  | c :: t => by have := QL_nonneg s t; simp only [QL]; omega
theorem QL_zero (s : Int) : ∀ {L : List Int}, (∀ c ∈ L, s ≤ c) → QL s L = 0
  | [], _ => rfl
  | c :: t, h => by
    have h1 := QL_zero s (L := t) fun x hx => h x (by simp [hx])
    have h2 := h c (by simp)
    simp only [QL]; omega
/-- which list is greater -/
def cmpL : List Int → List Int → Int
  | x :: xs, y :: ys => if y < x then 1 else if x < y then -1 else cmpL xs ys
  | _, _ => 0
theorem cmpL_self : ∀ L : List Int, cmpL L L = 0
  | [] => rfl
  | x :: t => by simp only [cmpL]; rw [if_neg (by omega), if_neg (by omega), cmpL_self t]
theorem cmpL_cases : ∀ (L M : List Int), cmpL L M = -1 ∨ cmpL L M = 0 ∨ cmpL L M = 1
  | x :: xs, y :: ys => by
    simp only [cmpL]
    split
    · exact .inr (.inr rfl)
    · split
      · exact .inl rfl
      · exact cmpL_cases xs ys
  | [], _ => .inr (.inl rfl)
  | _ :: _, [] => .inr (.inl rfl)
theorem cmpL_eq : ∀ {L M : List Int}, L.length = M.length → cmpL L M = 0 → L = M
  | [], [], _, _ => rfl
  | x :: xs, y :: ys, hl, h => by
    simp only [cmpL] at h
    split at h
    · exact absurd h (by decide)
    · split at h
      · exact absurd h (by decide)
      · have : x = y := by omega
        rw [this, cmpL_eq (by simpa using hl) h]
theorem cmpL_swap : ∀ (L M : List Int), cmpL M L = - cmpL L M
  | x :: xs, y :: ys => by
    simp only [cmpL]
    by_cases h1 : y < x
    · rw [if_pos h1, if_neg (by omega), if_pos h1]
    · by_cases h2 : x < y
      · rw [if_pos h2, if_neg h1, if_pos h2]; rfl
      · rw [if_neg h2, if_neg h1, if_neg h1, if_neg h2]
        exact cmpL_swap xs ys
  | [], [] => rfl
  | [], _ :: _ => rfl
  | _ :: _, [] => rfl
theorem cmpL_trans : ∀ {L M N : List Int}, L.length = M.length → M.length = N.length → 0 ≤ cmpL L M → 0 ≤ cmpL M N → 0 ≤ cmpL L N
  | [], [], [], _, _, _, _ => by decide
  | x :: xs, y :: ys, z :: zs, h1, h2, h3, h4 => by
    simp only [cmpL] at h3 h4 ⊢
    by_cases a1 : y < x
    · by_cases a2 : z < y
      · rw [if_pos (by omega)]; decide
      · by_cases a3 : y < z
        · rw [if_neg a2, if_pos a3] at h4; exact absurd h4 (by decide)
        · rw [if_pos (by omega)]; decide
    · by_cases a2 : x < y
      · rw [if_neg a1, if_pos a2] at h3; exact absurd h3 (by decide)
      · rw [if_neg a1, if_neg a2] at h3
        have e : x = y := by omega
        subst e
        by_cases a3 : z < x
        · rw [if_pos a3]; decide
        · by_cases a4 : x < z
          · rw [if_neg a3, if_pos a4] at h4; exact absurd h4 (by decide)
          · rw [if_neg a3, if_neg a4] at h4
            rw [if_neg a3, if_neg a4]
            exact cmpL_trans (by simpa using h1) (by simpa using h2) h3 h4
/-- who lacks less to every number is not the smaller one -/
theorem cmpL_ge : ∀ {x y : List Int}, x.length = y.length → y.Pairwise (· ≤ ·) → (∀ c ∈ y, 0 ≤ c) → (∀ s : Int, 0 ≤ s → QL s x ≤ QL s y) → 0 ≤ cmpL x y
  | [], [], _, _, _, _ => by decide
  | u :: x, v :: y, hl, hy, hp, h => by
    rw [List.pairwise_cons] at hy
    simp only [cmpL]
    by_cases h1 : v < u
    · rw [if_pos h1]; decide
    · by_cases h2 : u < v
      · exfalso
        have h3 := h v (hp v (by simp))
        have h4 := QL_zero v (L := y) hy.1
        have h5 := QL_nonneg v x
        simp only [QL] at h3
        omega
      · rw [if_neg h1, if_neg h2]
        have e : u = v := by omega
        subst e
        refine cmpL_ge (by simpa using hl) hy.2 (fun c hc => hp c (by simp [hc])) fun s hs => ?_
        have := h s hs
        simp only [QL] at this
        omega
/-- counts in increasing order, behind as many zeros as fill it -/
def shapeI (L : List Int) : List Int := List.replicate (6 - L.length) 0 ++ sortI L
theorem shapeI_length {L : List Int} (h : L.length ≤ 6) : (shapeI L).length = 6 := by
  rw [shapeI, List.length_append, List.length_replicate, sortI_length]; omega
theorem sortI_congr {L M : List Int} (h : L.Perm M) : sortI L = sortI M := by
  have h1 : (sortI L).Perm (sortI M) := (sortI_perm L).trans (h.trans (sortI_perm M).symm)
  exact h1.eq_of_pairwise (fun a b _ _ h2 h3 => by omega) (sortI_sorted L) (sortI_sorted M)
theorem cmpL_append : ∀ (P L M : List Int), cmpL (P ++ L) (P ++ M) = cmpL L M
  | [], _, _ => rfl
  | x :: t, L, M => by simp only [List.cons_append, cmpL]; rw [if_neg (by omega), if_neg (by omega), cmpL_append t L M]
/-- which shape is more even -/
def cmpS (L M : List Int) : Int := cmpL (shapeI L) (shapeI M)
theorem cmpS_sort {L M : List Int} (h : L.length = M.length) : cmpS L M = cmpL (sortI L) (sortI M) := by
  rw [cmpS, shapeI, shapeI, h, cmpL_append]
theorem cmpS_self (L : List Int) : cmpS L L = 0 := cmpL_self _
theorem cmpS_swap (L M : List Int) : cmpS M L = - cmpS L M := cmpL_swap _ _
theorem cmpS_cases (L M : List Int) : cmpS L M = -1 ∨ cmpS L M = 0 ∨ cmpS L M = 1 := cmpL_cases _ _
theorem cmpS_trans {L M N : List Int} (h1 : L.length = M.length) (h2 : M.length = N.length) (h3 : 0 ≤ cmpS L M) (h4 : 0 ≤ cmpS M N) : 0 ≤ cmpS L N := by
  rw [cmpS_sort h1] at h3
  rw [cmpS_sort h2] at h4
  rw [cmpS_sort (h1.trans h2)]
  exact cmpL_trans (by rw [sortI_length, sortI_length, h1]) (by rw [sortI_length, sortI_length, h2]) h3 h4
theorem cmpS_zero {L M : List Int} (h : L.length = M.length) : cmpS L M = 0 ↔ shapeI L = shapeI M := by
  constructor
  · intro h1
    rw [cmpS_sort h] at h1
    rw [shapeI, shapeI, h, cmpL_eq (by rw [sortI_length, sortI_length, h]) h1]
  · intro h1
    rw [cmpS, h1, cmpL_self]
theorem sort_of_shape {L M : List Int} (h : L.length = M.length) (h1 : shapeI L = shapeI M) : sortI L = sortI M := by
  rw [shapeI, shapeI, h] at h1
  exact List.append_cancel_left h1
/-- majorised: not less even -/
theorem cmpS_major {x y : List Int} (hl : x.length = y.length) (hp : ∀ c ∈ y, 0 ≤ c) (hs : SL x = SL y) (h : ∀ s : Int, 0 ≤ s → PL s x ≤ PL s y) : 0 ≤ cmpS x y := by
  rw [cmpS_sort hl]
  refine cmpL_ge (by rw [sortI_length, sortI_length, hl]) (sortI_sorted y) (fun c hc => hp c ((sortI_perm y).mem_iff.1 hc)) fun s h0 => ?_
  rw [QL_eq, QL_eq, PL_perm (sortI_perm x), PL_perm (sortI_perm y), SL_perm (sortI_perm x), SL_perm (sortI_perm y), sortI_length, sortI_length, hl, hs]
  have := h s h0
  omega
/-- and strictly more even, if somewhere less lies above -/
theorem cmpS_strict {x y : List Int} (hl : x.length = y.length) (hp : ∀ c ∈ y, 0 ≤ c) (hs : SL x = SL y) (h : ∀ s : Int, 0 ≤ s → PL s x ≤ PL s y) (s0 : Int) (h0 : PL s0 x < PL s0 y) : cmpS x y = 1 := by
  have h1 := cmpS_major hl hp hs h
  rcases cmpS_cases x y with h2 | h2 | h2
  · omega
  · exfalso
    have h3 := sort_of_shape hl ((cmpS_zero hl).1 h2)
    have h4 : PL s0 x = PL s0 y := by rw [← PL_perm (sortI_perm x), ← PL_perm (sortI_perm y), h3]
    omega
  · exact h2
end Go.Proofs.Ytefbkdjppfofmaa

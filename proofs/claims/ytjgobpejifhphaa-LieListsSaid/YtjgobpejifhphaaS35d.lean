import Derived.Test.YtjgobpejifhphaaS35c
/-! Plain law: all rankings in the order of lists; the best one. No statement about the program. -/
namespace Go.Proofs.Ytjgobpejifhphaa
set_option linter.unusedVariables false

/-- all rankings of m goods that begin with b and have f more goods -/
def rkF (m : Nat) : Nat → List Int → List (List Int)
  | 0, b => [b]
  | f + 1, b => (List.range m).flatMap fun (g : Nat) => if (b.any fun y => y == (g : Int)) = true then [] else rkF m f (b ++ [(g : Int)])
def rkAll (m : Nat) : List (List Int) := rkF m m []
/-- the last rise below place k -/
def riseAt (l : List Int) : Nat → Option Nat
  | 0 => none
  | k + 1 => if l.getD (k + 1) 0 < l.getD k 0 then riseAt l k else some k
/-- the last place up to k with no less than x -/
def overAt (l : List Int) (x : Int) : Nat → Nat
  | 0 => 0
  | k + 1 => if l.getD (k + 1) 0 < x then overAt l x k else k + 1
def swp (l : List Int) (i k : Nat) : List Int := (l.set i (l.getD k 0)).set k (l.getD i 0)
def revFrom (l : List Int) (i : Nat) : List Int := l.take i ++ (l.drop i).reverse
/-- the next ranking -/
def nextL (l : List Int) : Option (List Int) :=
  match riseAt l (l.length - 1) with
  | none => none
  | some i => some (revFrom (swp l i (overAt l (l.getD i 0) (l.length - 1))) (i + 1))
def pathB : List (List Int) → Bool
  | [] => true
  | [a] => (nextL a).isNone
  | a :: b :: t => (nextL a == some b) && pathB (b :: t)
theorem path_all : ∀ m : Nat, m ≤ 6 → (rkAll m).head? = some (iota m) ∧ pathB (rkAll m) = true := by
  have h : ∀ m : Fin 7, (rkAll m).head? = some (iota m) ∧ pathB (rkAll m) = true := by decide +kernel
  intro m hm
  exact h ⟨m, by omega⟩
theorem path_at : ∀ {L : List (List Int)} {k : Nat} {a : List Int}, pathB L = true → L[k]? = some a → nextL a = L[k + 1]?
  | [], k, a, _, h => by simp at h
  | [x], 0, a, hp, h => by
    cases h
    simp only [pathB, Option.isNone_iff_eq_none] at hp
    rw [hp]; rfl
  | [x], k + 1, a, hp, h => by simp at h
  | x :: y :: t, 0, a, hp, h => by
    cases h
    simp only [pathB, Bool.and_eq_true, beq_iff_eq] at hp
    rw [hp.1]; rfl
  | x :: y :: t, k + 1, a, hp, h => by
    simp only [pathB, Bool.and_eq_true] at hp
    have := path_at (L := y :: t) (k := k) hp.2 (by simpa using h)
    rw [this]; simp
theorem rkF_perm {m : Nat} : ∀ (f : Nat) (b : List Int), b.Nodup → (∀ x ∈ b, x ∈ iota m) → b.length + f = m → ∀ l ∈ rkF m f b, (iota m).Perm l
  | 0, b, hn, hb, hl, l, h => by
    rw [rkF, List.mem_singleton] at h
    subst h
    exact (perm_of_sub hn hb (by rw [iota_length]; omega)).symm
  | f + 1, b, hn, hb, hl, l, h => by
    rw [rkF, List.mem_flatMap] at h
    obtain ⟨g, hg, h⟩ := h
    rw [List.mem_range] at hg
    split at h
    · simp at h
    · rename_i hq
      refine rkF_perm f (b ++ [(g : Int)]) ?_ ?_ (by simp; omega) l h
      · rw [List.nodup_append]
        refine ⟨hn, by simp, fun x hx y hy hxy => hq ?_⟩
        rw [List.mem_singleton] at hy
        rw [List.any_eq_true]
        exact ⟨x, hx, by rw [hxy, hy]; simp⟩
      · intro x hx
        rw [List.mem_append, List.mem_singleton] at hx
        rcases hx with hx | rfl
        · exact hb x hx
        · exact iota_mem.2 ⟨g, rfl, hg⟩
theorem rkAll_perm {m : Nat} {l : List Int} (h : l ∈ rkAll m) : (iota m).Perm l := rkF_perm m [] (by simp) (by simp) (by simp) l h
theorem rkF_all {m : Nat} : ∀ (f : Nat) (b c : List Int), c.length = f → (iota m).Perm (b ++ c) → b ++ c ∈ rkF m f b
  | 0, b, c, hl, h => by
    rw [rkF, List.eq_nil_of_length_eq_zero hl]; simp
  | f + 1, b, x :: c, hl, h => by
    obtain ⟨g, rfl, hg⟩ := iota_mem.1 (h.mem_iff.2 (by simp : x ∈ b ++ x :: c))
    rw [rkF, List.mem_flatMap]
    refine ⟨g, List.mem_range.2 hg, ?_⟩
    have hn : (b ++ (g : Int) :: c).Nodup := h.nodup_iff.1 (iota_nodup m)
    rw [if_neg (by
      rw [List.any_eq_true]
      rintro ⟨y, hy, e⟩
      rw [beq_iff_eq] at e
      rw [List.nodup_append] at hn
      exact hn.2.2 y hy (g : Int) (by simp) e)]
    have := rkF_all f (b ++ [(g : Int)]) c (by simpa using hl) (by simpa using h)
    simpa using this
theorem rkAll_mem {m : Nat} {l : List Int} : l ∈ rkAll m ↔ (iota m).Perm l :=
  ⟨rkAll_perm, fun h => by
    have := rkF_all (m := m) m [] l (by rw [← h.length_eq, iota_length]) (by simpa using h)
    exact this⟩
/-- the best one so far: the first of those with the greatest worth -/
def bestL (f : List Int → Int) : List (List Int) → List Int × Int → List Int × Int
  | [], r => r
  | x :: t, r => bestL f t (if r.2 < f x then (x, f x) else r)
theorem bestL_snoc (f : List Int → Int) : ∀ (L : List (List Int)) (x : List Int) (r : List Int × Int), bestL f (L ++ [x]) r = if (bestL f L r).2 < f x then (x, f x) else bestL f L r
  | [], x, r => rfl
  | y :: t, x, r => by rw [List.cons_append, bestL, bestL_snoc f t x, bestL]
theorem bestL_ge (f : List Int → Int) : ∀ (L : List (List Int)) (r : List Int × Int), r.2 ≤ (bestL f L r).2 ∧ ∀ x ∈ L, f x ≤ (bestL f L r).2
  | [], r => ⟨Int.le_refl _, by simp⟩
  | y :: t, r => by
    have h := bestL_ge f t (if r.2 < f y then (y, f y) else r)
    rw [bestL]
    refine ⟨?_, fun x hx => ?_⟩
    · refine Int.le_trans ?_ h.1
      split
      · exact Int.le_of_lt (by assumption)
      · exact Int.le_refl _
    · rw [List.mem_cons] at hx
      rcases hx with rfl | hx
      · refine Int.le_trans ?_ h.1
        split
        · exact Int.le_refl _
        · omega
      · exact h.2 x hx
theorem bestL_in (f : List Int → Int) : ∀ (L : List (List Int)) (r : List Int × Int), bestL f L r = r ∨ ((bestL f L r).1 ∈ L ∧ (bestL f L r).2 = f (bestL f L r).1 ∧ r.2 < (bestL f L r).2)
  | [], r => .inl rfl
  | y :: t, r => by
    rw [bestL]
    rcases bestL_in f t (if r.2 < f y then (y, f y) else r) with h | ⟨h1, h2, h3⟩
    · rw [h]
      split
      · exact .inr ⟨by simp, rfl, by assumption⟩
      · exact .inl rfl
    · refine .inr ⟨List.mem_cons_of_mem _ h1, h2, Int.lt_of_le_of_lt ?_ h3⟩
      split
      · exact Int.le_of_lt (by assumption)
      · exact Int.le_refl _
/-- what an agent has with a ranking of its own; its best ranking -/
def hasW (O : List Int) (R : List (List Int)) (a : Int) (V : List Int) (l : List Int) : Int := hasV O (R.set a.toNat l) a V
def bestR (O : List Int) (R : List (List Int)) (a : Int) (V : List Int) : List Int × Int := bestL (hasW O R a V) (rkAll O.length) ([], -1)
theorem OR.set {O : List Int} {R : List (List Int)} (h : OR O R) (a : Nat) {l : List Int} (hl : (iota O.length).Perm l) : OR O (R.set a l) :=
  ⟨by simpa using h.r0, by simpa using h.r6, h.o6, fun x hx => by
    rcases List.mem_or_eq_of_mem_set hx with h1 | rfl
    · exact h.ord x h1
    · exact hl, by simpa using h.ag⟩
structure VR (V : List Int) (O : List Int) : Prop where
  len : V.length = O.length
  bd : ∀ x ∈ V, 0 ≤ x ∧ x ≤ 1000
theorem val35_zero {V : List Int} (h : val35 V = 0) : V.length ≤ 6 ∧ ∀ x ∈ V, 0 ≤ x ∧ x ≤ 1000 := by
  rw [val35] at h
  split at h
  · exact absurd h (by decide)
  · rename_i h1
    split at h
    · exact absurd h (by decide)
    · rename_i h2
      refine ⟨by omega, fun x hx => Decidable.byContradiction fun hc => h2 ?_⟩
      rw [List.any_eq_true]
      refine ⟨x, hx, ?_⟩
      rw [Bool.or_eq_true, decide_eq_true_iff, decide_eq_true_iff]
      omega
theorem lkd35_zero {O : List Int} {R : List (List Int)} {a : Int} {V : List Int} (h : lkd35 O R a V = 0) : OR O R ∧ VR V O ∧ 0 ≤ a ∧ a < (R.length : Int) := by
  rw [lkd35] at h
  split at h
  · rename_i h1; exact absurd h h1
  · rename_i h1
    split at h
    · exact absurd h (by decide)
    · split at h
      · rename_i h3; exact absurd h h3
      · rename_i h3
        split at h
        · exact absurd h (by decide)
        · rename_i h4
          exact ⟨chk35_zero (by omega), ⟨by omega, (val35_zero (by omega)).2⟩, by omega, by omega⟩
theorem hasW_bd {O : List Int} {R : List (List Int)} {a : Int} {V l : List Int} (h : OR O R) (hv : VR V O) : 0 ≤ hasW O R a V l ∧ hasW O R a V l ≤ 6000 := by
  have := hasTo_bd (A := pickK O (R.set a.toNat l) O.length) (a := a) hv.bd O.length
  have := h.o6
  rw [hasW, hasV]
  omega
theorem bestR_ok {O : List Int} {R : List (List Int)} {a : Int} {V : List Int} (h : OR O R) (hv : VR V O) : (bestR O R a V).1 ∈ rkAll O.length ∧ (bestR O R a V).2 = hasW O R a V (bestR O R a V).1 := by
  rcases bestL_in (hasW O R a V) (rkAll O.length) ([], -1) with h1 | ⟨h1, h2, h3⟩
  · have hm : iota O.length ∈ rkAll O.length := rkAll_mem.2 (List.Perm.refl _)
    have h2 := (bestL_ge (hasW O R a V) (rkAll O.length) ([], -1)).2 _ hm
    have h3 := (hasW_bd (a := a) (l := iota O.length) h hv).1
    rw [h1] at h2
    simp only at h2
    omega
  · exact ⟨h1, h2⟩
end Go.Proofs.Ytjgobpejifhphaa

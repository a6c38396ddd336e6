import Derived.Test.YtkoipecnmijfoaaGreatM35a
import Derived.RangeFuncBox
import Derived.RangeFuncLeaves
import Derived.RangeFuncNested
import Derived.Shelf.Abstract
import Derived.OwnWalkIn
import Derived.TacticsInMore
import Derived.LoopNIn
import Derived.LoopIn
import Derived.Maps.AppendAt
import Derived.Test.YtkoipecnmijfoaaGreatSort
import Derived.Sort.OwnSortedInts
import Derived.Test.YtkoipecnmijfoaaGreatRev
import Derived.Deep.RegionLaw
import Derived.Laws.CopyOwn
import Derived.StillTailTactics
import Derived.RangeFuncWrites
import Derived.RangeFuncCalls
/-! Texts that were built one by one, in one file. -/
-- holds: SortI S35c S35d Seq Sorted W35f W35g W35h W35i W35j W35k W35l W35m W35n W35o W35p W35q W35r W35s W35t Range W35u W35v CloneA W35w W35x W35y

section
/-! Plain law: a list of integers in order. No statement about the program. -/
namespace Go.Proofs.YtkoipecnmijfoaaGreat

/-- in order -/
def sortI (L : List Int) : List Int := L.mergeSort fun x y => decide (x ≤ y)
theorem sortI_perm (L : List Int) : (sortI L).Perm L := List.mergeSort_perm _ _
theorem sortI_length (L : List Int) : (sortI L).length = L.length := (sortI_perm L).length_eq
theorem sortI_sorted (L : List Int) : (sortI L).Pairwise (· ≤ ·) := by
  have h := List.pairwise_mergeSort (le := fun (x y : Int) => decide (x ≤ y)) (fun a b c h1 h2 => by simp at h1 h2 ⊢; omega) (fun a b => by simp; omega) L
  exact h.imp fun h => by simpa using h
end Go.Proofs.YtkoipecnmijfoaaGreat
end

section
/-! Plain law: orders, picking. No statement about the program. -/
namespace Go.Proofs.YtkoipecnmijfoaaGreat
set_option linter.unusedVariables false

/-- a list that has each of a list's different members, and no more of them, is it in another order -/
theorem perm_of_sub : ∀ {A B : List Int}, A.Nodup → (∀ x ∈ A, x ∈ B) → B.length ≤ A.length → A.Perm B
  | [], B, _, _, h => by
    have : B = [] := List.eq_nil_of_length_eq_zero (by simpa using h)
    rw [this]
  | a :: A, B, hn, hs, h => by
    rw [List.nodup_cons] at hn
    have ha : a ∈ B := hs a (by simp)
    have h1 : A.Perm (B.erase a) := perm_of_sub hn.2 (fun x hx => (List.mem_erase_of_ne (by rintro rfl; exact hn.1 hx)).2 (hs x (by simp [hx]))) (by
      rw [List.length_erase_of_mem ha]
      simp at h; omega)
    exact (h1.cons a).trans (List.perm_cons_erase ha).symm
theorem iota_nodup (n : Nat) : (iota n).Nodup := by
  rw [iota, List.Nodup, List.pairwise_map]
  exact List.Pairwise.imp (fun h => by omega) (List.nodup_range (n := n))
theorem iota_sorted (n : Nat) : (iota n).Pairwise (· ≤ ·) := by
  rw [iota, List.pairwise_map]
  exact List.Pairwise.imp (fun h => by omega) (List.pairwise_lt_range (n := n))
theorem sort_iota {L : List Int} {n : Nat} (h : (iota n).Perm L) : sortI L = iota n :=
  ((sortI_perm L).trans h.symm).eq_of_pairwise (fun a b _ _ h2 h3 => by omega) (sortI_sorted L) (iota_sorted n)
theorem any_drop {α : Type} {L : List α} {k : Nat} {x : α} {p : α → Bool} (h : L[k]? = some x) : (L.drop k).any p = (p x || (L.drop (k + 1)).any p) := by rw [dropA_of h]; rfl
theorem any_end {α : Type} {L : List α} {k : Nat} {p : α → Bool} (h : L.length ≤ k) : (L.drop k).any p = false := by rw [List.drop_eq_nil_of_le h]; rfl
theorem all_drop {α : Type} {L : List α} {k : Nat} {x : α} {p : α → Bool} (h : L[k]? = some x) : (L.drop k).all p = (p x && (L.drop (k + 1)).all p) := by rw [dropA_of h]; rfl
theorem all_end {α : Type} {L : List α} {k : Nat} {p : α → Bool} (h : L.length ≤ k) : (L.drop k).all p = true := by rw [List.drop_eq_nil_of_le h]; rfl
/-- has a list each number from 0 to n - 1 once? as the program asks, and as the reference asks -/
def ordP (L : List Int) (n : Nat) : Bool := decide (sortI L = iota L.length) && decide (L.length = n)
def ordB (L : List Int) (n : Nat) : Bool := ((List.range n).all fun k => L.any fun x => x == (k : Int)) && decide (L.length = n)
theorem ordB_iff {L : List Int} {n : Nat} : ordB L n = true ↔ (iota n).Perm L := by
  rw [ordB, Bool.and_eq_true, decide_eq_true_iff, List.all_eq_true]
  constructor
  · rintro ⟨h1, h2⟩
    refine perm_of_sub (iota_nodup n) (fun x hx => ?_) (by rw [iota_length]; omega)
    obtain ⟨a, rfl, ha⟩ := iota_mem.1 hx
    have := h1 a (List.mem_range.2 ha)
    rw [List.any_eq_true] at this
    obtain ⟨y, hy, e⟩ := this
    rw [beq_iff_eq] at e
    rw [← e]; exact hy
  · intro h
    refine ⟨fun k hk => ?_, by rw [← h.length_eq, iota_length]⟩
    rw [List.any_eq_true]
    exact ⟨(k : Int), h.mem_iff.1 (iota_mem.2 ⟨k, rfl, List.mem_range.1 hk⟩), by simp⟩
theorem ord_eq (L : List Int) (n : Nat) : ordP L n = ordB L n := by
  rw [Bool.eq_iff_iff, ordB_iff, ordP, Bool.and_eq_true, decide_eq_true_iff, decide_eq_true_iff]
  constructor
  · rintro ⟨h1, h2⟩
    rw [h2] at h1
    have := sortI_perm L
    rwa [h1] at this
  · intro h
    have hl : L.length = n := by rw [← h.length_eq, iota_length]
    exact ⟨by rw [hl]; exact sort_iota h, hl⟩
/-- the error of an order and rankings -/
def badAg (O : List Int) (m : Nat) : Bool := O.any fun i => decide (i < 0) || decide ((m : Int) ≤ i)
def chk35 (O : List Int) (R : List (List Int)) : Int :=
  if 6 < R.length ∨ 6 < O.length then 4
  else if R = [] ∨ (R.any fun l => !ordB l O.length) = true ∨ badAg O R.length = true then 8 else 0
structure OR (O : List Int) (R : List (List Int)) : Prop where
  r0 : 0 < R.length
  r6 : R.length ≤ 6
  o6 : O.length ≤ 6
  ord : ∀ l ∈ R, (iota O.length).Perm l
  ag : ∀ x ∈ O, 0 ≤ x ∧ x < (R.length : Int)
theorem chk35_zero {O : List Int} {R : List (List Int)} (h : chk35 O R = 0) : OR O R := by
  rw [chk35] at h
  split at h
  · exact absurd h (by decide)
  · rename_i h1
    split at h
    · exact absurd h (by decide)
    · rename_i h2
      rw [not_or] at h1
      rw [not_or, not_or] at h2
      obtain ⟨a1, a2, a3⟩ := h2
      refine ⟨by cases R with | nil => exact absurd rfl a1 | cons x t => simp, by omega, by omega, fun l hl => ?_, fun x hx => ?_⟩
      · refine ordB_iff.1 ?_
        cases he : ordB l O.length
        · exact absurd (List.any_eq_true.2 ⟨l, hl, by rw [he]; rfl⟩) a2
        · rfl
      · refine Decidable.byContradiction fun hc => a3 ?_
        rw [badAg, List.any_eq_true]
        refine ⟨x, hx, ?_⟩
        rw [Bool.or_eq_true, decide_eq_true_iff, decide_eq_true_iff]
        omega
/-- the error of values -/
def val35 (V : List Int) : Int := if 6 < V.length then 4 else if (V.any fun x => decide (x < 0) || decide (1000 < x)) = true then 8 else 0
/-- .. of all -/
def lkd35 (O : List Int) (R : List (List Int)) (a : Int) (V : List Int) : Int :=
  if chk35 O R ≠ 0 then chk35 O R else if a < 0 ∨ (R.length : Int) ≤ a then 2 else if val35 V ≠ 0 then val35 V else if V.length ≠ O.length then 8 else 0
/-- picking -/
def freeG (out : List Int) (g : Int) : Bool := decide (out.getD g.toNat 0 < 0)
def pickS (out : List Int) (i : Int) (L : List Int) : List Int :=
  match L.find? (freeG out) with
  | some g => out.set g.toNat i
  | none => out
def pickK (O : List Int) (R : List (List Int)) : Nat → List Int
  | 0 => List.replicate O.length (-1)
  | k + 1 => pickS (pickK O R k) (O.getD k 0) (R.getD (O.getD k 0).toNat [])
theorem pickS_length (out : List Int) (i : Int) (L : List Int) : (pickS out i L).length = out.length := by
  rw [pickS]; split <;> simp
theorem pickK_length (O : List Int) (R : List (List Int)) : ∀ k, (pickK O R k).length = O.length
  | 0 => by simp [pickK]
  | k + 1 => by rw [pickK, pickS_length, pickK_length O R k]
def negs (L : List Int) : Nat := L.countP fun x => decide (x < 0)
theorem negs_set : ∀ (L : List Int) (g : Nat) (x : Int), negs L ≤ negs (L.set g x) + 1
  | [], _, _ => by simp [negs]
  | y :: t, 0, x => by
    simp only [List.set_cons_zero, negs, List.countP_cons]
    split <;> split <;> omega
  | y :: t, g + 1, x => by
    have := negs_set t g x
    simp only [List.set_cons_succ, negs, List.countP_cons] at this ⊢
    split <;> omega
theorem negs_pick (O : List Int) (R : List (List Int)) : ∀ k, O.length ≤ negs (pickK O R k) + k
  | 0 => by
    rw [pickK, negs]
    have : (List.replicate O.length (-1 : Int)).countP (fun x => decide (x < 0)) = O.length := by
      rw [List.countP_eq_length.2, List.length_replicate]
      intro a ha
      rw [List.mem_replicate] at ha
      rw [ha.2]; rfl
    omega
  | k + 1 => by
    have h := negs_pick O R k
    rw [pickK, pickS]
    split
    · rename_i g _
      have := negs_set (pickK O R k) g.toNat (O.getD k 0)
      omega
    · omega
theorem pickK_bd {O : List Int} {R : List (List Int)} (h : OR O R) : ∀ k, k ≤ O.length → ∀ x ∈ pickK O R k, -1 ≤ x ∧ x < (R.length : Int)
  | 0, _ => fun x hx => by
    rw [pickK, List.mem_replicate] at hx
    omega
  | k + 1, hk => fun x hx => by
    have hb := pickK_bd h k (by omega)
    rw [pickK, pickS] at hx
    split at hx
    · rcases List.mem_or_eq_of_mem_set hx with hx | hx
      · exact hb x hx
      · have hm : O.getD k 0 ∈ O := by
          rw [List.getD_eq_getElem?_getD, List.getElem?_eq_getElem (by omega)]; exact List.getElem_mem _
        have := h.ag _ hm
        omega
    · exact hb x hx
/-- there is one left in each turn -/
theorem pick_some {O : List Int} {R : List (List Int)} (h : OR O R) {k : Nat} (hk : k < O.length) {L : List Int} (hL : (iota O.length).Perm L) : ∃ g : Nat, L.find? (freeG (pickK O R k)) = some (g : Int) ∧ g < O.length := by
  have h1 := negs_pick O R k
  have h2 : 0 < negs (pickK O R k) := by omega
  rw [negs, List.countP_pos_iff] at h2
  obtain ⟨x, hx, hx0⟩ := h2
  obtain ⟨q, hq, rfl⟩ := List.getElem_of_mem hx
  have hql : q < O.length := by rw [pickK_length] at hq; exact hq
  have hm : (q : Int) ∈ L := hL.mem_iff.1 (iota_mem.2 ⟨q, rfl, hql⟩)
  have hf : freeG (pickK O R k) (q : Int) = true := by
    rw [freeG, Int.toNat_natCast, List.getD_eq_getElem?_getD, List.getElem?_eq_getElem hq]
    exact hx0
  cases he : L.find? (freeG (pickK O R k)) with
  | none =>
    rw [List.find?_eq_none] at he
    exact absurd hf (he _ hm)
  | some g =>
    obtain ⟨a, rfl, ha⟩ := iota_mem.1 (hL.mem_iff.2 (List.mem_of_find?_eq_some he))
    exact ⟨a, rfl, ha⟩
/-- what an agent has -/
def hasTo (A V : List Int) (a : Int) : Nat → Int
  | 0 => 0
  | k + 1 => hasTo A V a k + if A.getD k 0 = a then V.getD k 0 else 0
def hasV (O : List Int) (R : List (List Int)) (a : Int) (V : List Int) : Int := hasTo (pickK O R O.length) V a O.length
theorem hasTo_bd {A V : List Int} {a : Int} (hV : ∀ x ∈ V, 0 ≤ x ∧ x ≤ 1000) : ∀ k : Nat, 0 ≤ hasTo A V a k ∧ hasTo A V a k ≤ 1000 * k
  | 0 => by simp [hasTo]
  | k + 1 => by
    have h := hasTo_bd (A := A) (a := a) hV k
    have hv : 0 ≤ V.getD k 0 ∧ V.getD k 0 ≤ 1000 := by
      rw [List.getD_eq_getElem?_getD]
      cases he : V[k]? with
      | none => simp
      | some x => exact hV x (List.mem_of_getElem? he)
    rw [hasTo]
    split <;> omega
end Go.Proofs.YtkoipecnmijfoaaGreat
end

section
/-! Plain law: all rankings in the order of lists; the best one. No statement about the program. -/
namespace Go.Proofs.YtkoipecnmijfoaaGreat
set_option linter.unusedVariables false

/-- all rankings of m goods that begin with b and have f more goods -/
def rkF (m : Nat) : Nat → List Int → List (List Int)
  | 0, b => [b]
  | f + 1, b => (List.range m).flatMap fun (g : Nat) => if (b.any fun y => y == (g : Int)) = true then [] else rkF m f (b ++ [(g : Int)])
def rkAll (m : Nat) : List (List Int) := rkF m m []
/-- the last rise below place k -/
def riseAt (l : List Int) : Nat → Option Nat
  | 0 => none
  | k + 1 => if l.getD (k + 1) 0 < l.getD k 0 then riseAt l k else some k
/-- the last place up to k with no less than x -/
def overAt (l : List Int) (x : Int) : Nat → Nat
  | 0 => 0
  | k + 1 => if l.getD (k + 1) 0 < x then overAt l x k else k + 1
def swp (l : List Int) (i k : Nat) : List Int := (l.set i (l.getD k 0)).set k (l.getD i 0)
def revFrom (l : List Int) (i : Nat) : List Int := l.take i ++ (l.drop i).reverse
/-- the next ranking -/
def nextL (l : List Int) : Option (List Int) :=
  match riseAt l (l.length - 1) with
  | none => none
  | some i => some (revFrom (swp l i (overAt l (l.getD i 0) (l.length - 1))) (i + 1))
def pathB : List (List Int) → Bool
  | [] => true
  | [a] => (nextL a).isNone
  | a :: b :: t => (nextL a == some b) && pathB (b :: t)
theorem path_all : ∀ m : Nat, m ≤ 6 → (rkAll m).head? = some (iota m) ∧ pathB (rkAll m) = true := by
  have h : ∀ m : Fin 7, (rkAll m).head? = some (iota m) ∧ pathB (rkAll m) = true := by decide +kernel
  intro m hm
  exact h ⟨m, by omega⟩
theorem path_at : ∀ {L : List (List Int)} {k : Nat} {a : List Int}, pathB L = true → L[k]? = some a → nextL a = L[k + 1]?
  | [], k, a, _, h => by simp at h
  | [x], 0, a, hp, h => by
    cases h
    simp only [pathB, Option.isNone_iff_eq_none] at hp
    rw [hp]; rfl
  | [x], k + 1, a, hp, h => by simp at h
  | x :: y :: t, 0, a, hp, h => by
    cases h
    simp only [pathB, Bool.and_eq_true, beq_iff_eq] at hp
    rw [hp.1]; rfl
  | x :: y :: t, k + 1, a, hp, h => by
    simp only [pathB, Bool.and_eq_true] at hp
    have := path_at (L := y :: t) (k := k) hp.2 (by simpa using h)
    rw [this]; simp
theorem rkF_perm {m : Nat} : ∀ (f : Nat) (b : List Int), b.Nodup → (∀ x ∈ b, x ∈ iota m) → b.length + f = m → ∀ l ∈ rkF m f b, (iota m).Perm l
  | 0, b, hn, hb, hl, l, h => by
    rw [rkF, List.mem_singleton] at h
    subst h
    exact (perm_of_sub hn hb (by rw [iota_length]; omega)).symm
  | f + 1, b, hn, hb, hl, l, h => by
    rw [rkF, List.mem_flatMap] at h
    obtain ⟨g, hg, h⟩ := h
    rw [List.mem_range] at hg
    split at h
    · simp at h
    · rename_i hq
      refine rkF_perm f (b ++ [(g : Int)]) ?_ ?_ (by simp; omega) l h
      · rw [List.nodup_append]
        refine ⟨hn, by simp, fun x hx y hy hxy => hq ?_⟩
        rw [List.mem_singleton] at hy
        rw [List.any_eq_true]
        exact ⟨x, hx, by rw [hxy, hy]; simp⟩
      · intro x hx
        rw [List.mem_append, List.mem_singleton] at hx
        rcases hx with hx | rfl
        · exact hb x hx
        · exact iota_mem.2 ⟨g, rfl, hg⟩
theorem rkAll_perm {m : Nat} {l : List Int} (h : l ∈ rkAll m) : (iota m).Perm l := rkF_perm m [] (by simp) (by simp) (by simp) l h
theorem rkF_all {m : Nat} : ∀ (f : Nat) (b c : List Int), c.length = f → (iota m).Perm (b ++ c) → b ++ c ∈ rkF m f b
  | 0, b, c, hl, h => by
    rw [rkF, List.eq_nil_of_length_eq_zero hl]; simp
  | f + 1, b, x :: c, hl, h => by
    obtain ⟨g, rfl, hg⟩ := iota_mem.1 (h.mem_iff.2 (by simp : x ∈ b ++ x :: c))
    rw [rkF, List.mem_flatMap]
    refine ⟨g, List.mem_range.2 hg, ?_⟩
    have hn : (b ++ (g : Int) :: c).Nodup := h.nodup_iff.1 (iota_nodup m)
    rw [if_neg (by
      rw [List.any_eq_true]
      rintro ⟨y, hy, e⟩
      rw [beq_iff_eq] at e
      rw [List.nodup_append] at hn
      exact hn.2.2 y hy (g : Int) (by simp) e)]
    have := rkF_all f (b ++ [(g : Int)]) c (by simpa using hl) (by simpa using h)
    simpa using this
theorem rkAll_mem {m : Nat} {l : List Int} : l ∈ rkAll m ↔ (iota m).Perm l :=
  ⟨rkAll_perm, fun h => by
    have := rkF_all (m := m) m [] l (by rw [← h.length_eq, iota_length]) (by simpa using h)
    exact this⟩
/-- the best one so far: the first of those with the greatest worth -/
def bestL (f : List Int → Int) : List (List Int) → List Int × Int → List Int × Int
  | [], r => r
  | x :: t, r => bestL f t (if r.2 < f x then (x, f x) else r)
theorem bestL_snoc (f : List Int → Int) : ∀ (L : List (List Int)) (x : List Int) (r : List Int × Int), bestL f (L ++ [x]) r = if (bestL f L r).2 < f x then (x, f x) else bestL f L r
  | [], x, r => rfl
  | y :: t, x, r => by rw [List.cons_append, bestL, bestL_snoc f t x, bestL]
theorem bestL_ge (f : List Int → Int) : ∀ (L : List (List Int)) (r : List Int × Int), r.2 ≤ (bestL f L r).2 ∧ ∀ x ∈ L, f x ≤ (bestL f L r).2
  | [], r => ⟨Int.le_refl _, by simp⟩
  | y :: t, r => by
    have h := bestL_ge f t (if r.2 < f y then (y, f y) else r)
    rw [bestL]
    refine ⟨?_, fun x hx => ?_⟩
    · refine Int.le_trans ?_ h.1
      split
      · exact Int.le_of_lt (by assumption)
      · exact Int.le_refl _
    · rw [List.mem_cons] at hx
      rcases hx with rfl | hx
      · refine Int.le_trans ?_ h.1
        split
        · exact Int.le_refl _
        · omega
      · exact h.2 x hx
theorem bestL_in (f : List Int → Int) : ∀ (L : List (List Int)) (r : List Int × Int), bestL f L r = r ∨ ((bestL f L r).1 ∈ L ∧ (bestL f L r).2 = f (bestL f L r).1 ∧ r.2 < (bestL f L r).2)
  | [], r => .inl rfl
  | y :: t, r => by
    rw [bestL]
    rcases bestL_in f t (if r.2 < f y then (y, f y) else r) with h | ⟨h1, h2, h3⟩
    · rw [h]
      split
      · exact .inr ⟨by simp, rfl, by assumption⟩
      · exact .inl rfl
    · refine .inr ⟨List.mem_cons_of_mem _ h1, h2, Int.lt_of_le_of_lt ?_ h3⟩
      split
      · exact Int.le_of_lt (by assumption)
      · exact Int.le_refl _
/-- what an agent has with a ranking of its own; its best ranking -/
def hasW (O : List Int) (R : List (List Int)) (a : Int) (V : List Int) (l : List Int) : Int := hasV O (R.set a.toNat l) a V
def bestR (O : List Int) (R : List (List Int)) (a : Int) (V : List Int) : List Int × Int := bestL (hasW O R a V) (rkAll O.length) ([], -1)
theorem OR.set {O : List Int} {R : List (List Int)} (h : OR O R) (a : Nat) {l : List Int} (hl : (iota O.length).Perm l) : OR O (R.set a l) :=
  ⟨by simpa using h.r0, by simpa using h.r6, h.o6, fun x hx => by
    rcases List.mem_or_eq_of_mem_set hx with h1 | rfl
    · exact h.ord x h1
    · exact hl, by simpa using h.ag⟩
structure VR (V : List Int) (O : List Int) : Prop where
  len : V.length = O.length
  bd : ∀ x ∈ V, 0 ≤ x ∧ x ≤ 1000
theorem val35_zero {V : List Int} (h : val35 V = 0) : V.length ≤ 6 ∧ ∀ x ∈ V, 0 ≤ x ∧ x ≤ 1000 := by
  rw [val35] at h
  split at h
  · exact absurd h (by decide)
  · rename_i h1
    split at h
    · exact absurd h (by decide)
    · rename_i h2
      refine ⟨by omega, fun x hx => Decidable.byContradiction fun hc => h2 ?_⟩
      rw [List.any_eq_true]
      refine ⟨x, hx, ?_⟩
      rw [Bool.or_eq_true, decide_eq_true_iff, decide_eq_true_iff]
      omega
theorem lkd35_zero {O : List Int} {R : List (List Int)} {a : Int} {V : List Int} (h : lkd35 O R a V = 0) : OR O R ∧ VR V O ∧ 0 ≤ a ∧ a < (R.length : Int) := by
  rw [lkd35] at h
  split at h
  · rename_i h1; exact absurd h h1
  · rename_i h1
    split at h
    · exact absurd h (by decide)
    · split at h
      · rename_i h3; exact absurd h h3
      · rename_i h3
        split at h
        · exact absurd h (by decide)
        · rename_i h4
          exact ⟨chk35_zero (by omega), ⟨by omega, (val35_zero (by omega)).2⟩, by omega, by omega⟩
theorem hasW_bd {O : List Int} {R : List (List Int)} {a : Int} {V l : List Int} (h : OR O R) (hv : VR V O) : 0 ≤ hasW O R a V l ∧ hasW O R a V l ≤ 6000 := by
  have := hasTo_bd (A := pickK O (R.set a.toNat l) O.length) (a := a) hv.bd O.length
  have := h.o6
  rw [hasW, hasV]
  omega
theorem bestR_ok {O : List Int} {R : List (List Int)} {a : Int} {V : List Int} (h : OR O R) (hv : VR V O) : (bestR O R a V).1 ∈ rkAll O.length ∧ (bestR O R a V).2 = hasW O R a V (bestR O R a V).1 := by
  rcases bestL_in (hasW O R a V) (rkAll O.length) ([], -1) with h1 | ⟨h1, h2, h3⟩
  · have hm : iota O.length ∈ rkAll O.length := rkAll_mem.2 (List.Perm.refl _)
    have h2 := (bestL_ge (hasW O R a V) (rkAll O.length) ([], -1)).2 _ hm
    have h3 := (hasW_bd (a := a) (l := iota O.length) h hv).1
    rw [h1] at h2
    simp only at h2
    omega
  · exact ⟨h1, h2⟩
end Go.Proofs.YtkoipecnmijfoaaGreat
end

section
/-! slices.Values, AppendSeq, Collect at []int. -/
namespace Go.Proofs.YtkoipecnmijfoaaGreat
open Go.RowKit Go.Shelf Go.Deep
set_option linter.unusedVariables false
attribute [local go_sem] Oper.semAt_some

def uptoL {α : Type} (f : Nat → α) (k : Nat) : List α := (List.range k).map f
theorem uptoL_succ {α : Type} (f : Nat → α) (k : Nat) : uptoL f (k + 1) = uptoL f k ++ [f k] := by simp [uptoL, List.range_succ]
theorem uptoL_length {α : Type} (f : Nat → α) (k : Nat) : (uptoL f k).length = k := by simp [uptoL]
theorem uptoL_all (zs : List Int) : uptoL (fun j => zs[j]?.getD 0) zs.length = zs := by
  apply List.ext_getElem
  · simp [uptoL]
  · intro i h1 h2
    simp [uptoL, h2]
theorem uptoL_take (zs : List Int) {k : Nat} (hk : k ≤ zs.length) : uptoL (fun j => zs[j]?.getD 0) k = zs.take k := by
  apply List.ext_getElem
  · simp [uptoL, hk]
  · intro i h1 h2
    have : i < zs.length := by simp [uptoL] at h1; omega
    simp [uptoL, this]

set_option maxRecDepth 100000 in
set_option maxHeartbeats 2000000 in
/-- the closure of slices.Values -/
theorem values1_in (F : Fence) (n : Nat) (h7 : F.fn 73) (hro : F.round = none) (hn : 1 ≤ n) (l Bs n₀ len cap : Nat) (A : Option Addr) (zs : List Int) (hreach : len * 8 ≤ 140737488351232) (J Jx : List Int → World → Prop)
    (hY : ∀ pre x W, J pre W → pre.length < len → YieldAt F (n - 1) Tryz.prog l #[.int .i64 x] W fun e W' =>
      (e = .returned (.bool true) ∧ J (pre ++ [x]) W' ∧ Below n₀ W W') ∨ (e = .returned (.bool false) ∧ Jx (pre ++ [x]) W'))
    (W : World) (hBs : W.cell? ⟨Bs, 0, none⟩ = some (.slice A len cap)) (hb : 0 < len → ∃ b off, A = some ⟨b, off, none⟩ ∧ b < n₀ ∧ ∀ j, j < len → W.cell? ⟨b, off + j, none⟩ = some (.int .i64 (zs[j]?.getD 0))) (h0 : J [] W) :
    CallsIn F n Tryz.prog 73 #[.func (.yield l) #[] #[], .pointer (some ⟨Bs, 0, none⟩)] W fun e W' => (∃ v, e = .returned v) ∧
      ((∃ ys, ys = uptoL (fun j => zs[j]?.getD 0) len ∧ J ys W') ∨ (∃ pre, (∃ k, k ≤ len ∧ pre = uptoL (fun j => zs[j]?.getD 0) k) ∧ Jx pre W')) := by
  refine callsIn_of_wp Tryz.func73 rfl h7 ?_ hro
  simp only [Tryz.ntmps73, List.size_toArray, List.length_cons, List.length_nil, Nat.reduceAdd, Nat.reduceSub, Array.replicate_succ, Array.replicate_zero, List.push_toArray, List.append_toArray, List.nil_append, List.cons_append]
  gi_wp2
  gi_loopw [7] (fun i wr => ∃ k : Nat, k ≤ len ∧ i = .int .i64 k ∧ J (uptoL (fun j => zs[j]?.getD 0) k) wr ∧ Below n₀ W wr)
    (fun i _ => len - (intOf i).toNat)
  case atStart => exact ⟨0, Nat.zero_le _, rfl, h0, Below.refl _ _⟩
  case round =>
    obtain ⟨k, hk, rfl, hJs, hnx⟩ := hrel
    by_cases hlt : k < len
    · obtain ⟨b, off, rfl, hbn, hc⟩ := hb (by omega)
      have hcx' : wr.cell? ⟨b, off + k, none⟩ = some (.int .i64 (zs[k]?.getD 0)) := (hnx.cell (p := ⟨b, off + k, none⟩) hbn).trans (hc k hlt)
      obtain ⟨fn, tmps, assign, body, hy, hR⟩ := hY _ (zs[k]?.getD 0) wr hJs (by rw [uptoL_length]; exact hlt)
      clear hb hc
      gi_wp2
      refine hR.mono ?_
      rintro e W3 (⟨rfl, hJ3, hk3⟩ | ⟨rfl, hJx3⟩)
      · gi_wp2
        go_roundw
        case rel => exact ⟨k + 1, by omega, by simp, by rw [uptoL_succ]; exact hJ3, hnx.trans hk3⟩
        case measure => simp [intOf]; omega
      · gi_wp2
        refine bodyPost_ret (results_none rfl _ _ _) rfl ?_
        exact ⟨⟨_, rfl⟩, .inr ⟨_, ⟨k + 1, by omega, (uptoL_succ _ _).symm⟩, hJx3⟩⟩
    · obtain rfl : k = len := by omega
      clear hb
      gi_wp2
      go_end0
      exact ⟨⟨_, rfl⟩, .inl ⟨_, rfl, hJs⟩⟩

set_option maxHeartbeats 1000000 in
/-- slices.Values: the slice value is boxed; the function value captures the box -/
theorem values_in (F : Fence) (n : Nat) (h5 : F.fn 50) (hro : F.round = none) (a : Option Addr) (len cap : Nat) (w : World) :
    CallsIn F n Tryz.prog 50 #[.slice a len cap] w fun e w' => e = .returned (.func (.func 73) #[] #[.pointer (some ⟨w.heap.size, 0, none⟩)]) ∧ w' = w.alloc (.cells #[.slice a len cap] 22) := by
  refine callsIn_of_wp Tryz.func50 rfl h5 ?_ hro
  simp only [Tryz.ntmps50, List.size_toArray, List.length_cons, List.length_nil, Nat.reduceAdd, Nat.reduceSub, Array.replicate_succ, Array.replicate_zero, List.push_toArray, List.append_toArray, List.nil_append, List.cons_append]
  gi_wp2
  go_ret
  exact ⟨rfl, rfl⟩

/-- what slices.Values hands back gives all of zs, in order -/
theorem values_stops (F : Fence) (n : Nat) (h7 : F.fn 73) (hro : F.round = none) (hn : 1 ≤ n) (Bs n₀ cap : Nat) (A : Option Addr) (zs : List Int) (w : World) (hBs : Bs < w.heap.size) (hn₀ : n₀ ≤ w.heap.size)
    (hc : w.cell? ⟨Bs, 0, none⟩ = some (.slice A zs.length cap)) (hI : Rd w n₀ A zs) :
    SeqStopsK F n Tryz.prog 73 #[.pointer (some ⟨Bs, 0, none⟩)] (fun x : Int => #[Value.int .i64 x]) (Below n₀) (fun ys => ys = zs) (fun pre => pre <+: zs) zs.length w := fun l J Jx W hW _ _ hY h0 => by
  have hc' := (hW.cell (p := ⟨Bs, 0, none⟩) hBs).trans hc
  have hR := hI.below hW hn₀
  refine (values1_in F n h7 hro hn l Bs n₀ zs.length cap A zs hI.2.1 J Jx hY W hc' (fun h => ?_) h0).mono ?_
  · obtain ⟨b, off, e, hb, hcs⟩ := hR.2.2 h
    exact ⟨b, off, e, hb, fun j hj => hcs j _ (by simp [hj])⟩
  · rintro e W' ⟨he, ⟨ys, rfl, hj⟩ | ⟨pre, ⟨k, hk, rfl⟩, hj⟩⟩
    · exact ⟨he, .inl ⟨_, uptoL_all zs, hj⟩⟩
    · exact ⟨he, .inr ⟨_, by rw [uptoL_take zs hk]; exact List.take_prefix _ _, hj⟩⟩

theorem infoIntS : (Tryz.prog.info? 3).map (fun i => (i.zero, i.size, i.bytes)) = some (some (.int .i64 0), 1, 8) := by kernel_rfl
set_option maxRecDepth 100000 in
set_option maxHeartbeats 2000000 in
/-- slices.AppendSeq onto nil, of what slices.Values hands back -/
theorem appendSeq_in (F : Fence) (n : Nat) (h3 : F.fn 81) (h5 : F.fn 73) (hro : F.round = none) (hn : 3 ≤ n) (Bs cap : Nat) (A : Option Addr) (zs : List Int) (w : World) (hBs : Bs < w.heap.size)
    (hcB : w.cell? ⟨Bs, 0, none⟩ = some (.slice A zs.length cap)) (hI : Rd w w.heap.size A zs) :
    CallsIn F n Tryz.prog 81 #[.slice none 0 0, .func (.func 73) #[] #[.pointer (some ⟨Bs, 0, none⟩)]] w fun e W' => ∃ v, e = .returned v ∧ W'.ownsRow w.heap.size 3 1 v zs.length (zs.map (Value.int .i64)) ∧ (v = .slice none 0 0 ↔ zs = []) ∧ Below w.heap.size w W' := by
  have h1 : 1 ≤ n := by omega
  have hlen := hI.2.1
  obtain ⟨i0, hi, hz0, hz1, hz2⟩ := info_parts infoIntS
  refine callsIn_of_wp_marks Tryz.func81 rfl h3 ?_ hro
  simp only [Tryz.ntmps81, List.size_toArray, List.length_cons, List.length_nil, Nat.reduceAdd, Nat.reduceSub, Array.replicate_succ, Array.replicate_zero, List.push_toArray, List.append_toArray, List.nil_append, List.cons_append]
  gi_wp2
  have bO := Boxed.new w 22 (.slice none 0 0)
  have hB0 : Below w.heap.size w (w.alloc (.cells #[.slice none 0 0] 22)) := (Below.refl _ w).alloc (Nat.le_refl _) _
  refine wpIn_rangeFunc_ownG hro h1 (gf := 73) (lb := #[.pointer (some ⟨Bs, 0, none⟩)]) rfl h5 (enters_of Tryz.func73 (by kernel_rfl) rfl)
    (values_stops F (n - 1) h5 hro (by omega) Bs w.heap.size cap A zs _ (by simp; omega) (by simp) ((hB0.cell (p := ⟨Bs, 0, none⟩) hBs).trans hcB) (hI.below hB0 (Nat.le_refl _))) belowK_t (belowK_b (by simp)) (Below.refl _ _) (fun _ => rfl)
    (fun pre W => (∃ v, Boxed W w.heap.size 22 v ∧ W.ownsRow w.heap.size 3 1 v pre.length (pre.map (Value.int .i64)) ∧ (v = .slice none 0 0 ↔ pre = [])) ∧ Below w.heap.size w W)
    (fun _ _ _ => False)
    (OwnFrom.and (Own.from (holdsRow_own w.heap.size w.heap.size 22 3 1 (fun pre : List Int => pre.length) (fun pre : List Int => pre.map (Value.int .i64)) (fun pre v => v = .slice none 0 0 ↔ pre = [])) _) (ownFrom_below (Nat.le_refl _) (by simp)))
    (fun _ _ _ _ _ hs _ _ => hs)
    ⟨⟨_, bO, World.ownsRow_nil _ _ _ _, by simp⟩, hB0⟩
    (fun x => { tmps := #[.slice none 0 0, .func (.func 73) #[] #[.pointer (some ⟨Bs, 0, none⟩)], .pointer (some ⟨w.heap.size, 0, none⟩), undef, .slice none 0 0, .int .i64 x, .func (.func 73) #[] #[.pointer (some ⟨Bs, 0, none⟩)], .int .i64 x, undef, undef, undef, undef, undef], defers := [] }) ?assign ?body ?done ?stop
  case assign =>
    intro l x W K hK
    gi_wp2
    exact hK
  case body =>
    rintro l pre x W ⟨⟨v, hv, hrow, hnil⟩, hB⟩ hlt
    have hc := hv.cell
    gi_wp2_with (gi_at_builtin; refine wpListIn_append_own _ rfl _ _ 22 rfl w.heap.size 3 i0 (.int .i64 0) 1 8 Tryz.underlying22 hi hz0 hz1 hz2 rfl (by decide) _ _ _ rfl (hrow.alloc _) ⟨W.heap.size, 0, none⟩ 1 1 [.int .i64 x] rfl rfl (cell_one_new _ _ _) (by simp [Value.oneCell']) (by unfold maxLen; omega) (by omega) (by have := hB.size; simp; omega) ?_; intro v' w1 hown' hgrow _; obtain ⟨g', cap', rfl⟩ := ownsRow_succ hown'; obtain ⟨hv1, hv2, hr2, hk2, hb2⟩ := hv.appended (by decide) hrow hB.size (Nat.le_refl _) hown' hgrow; have hc1 := hv1.cell; have hf1 := hv1.frozen)
    exact ⟨hk2.from _, hb2, ⟨_, hv2, by simpa using hr2, by simp⟩, hB.trans hb2⟩
  case done =>
    rintro D ys W hD rfl ⟨⟨v, hv, hrow, hnil⟩, hB⟩ hK
    have hc := hv.cell
    gi_wp2
    refine ⟨by simp, .inl ⟨_, _, rfl, run_takeDeferred hK, ?_⟩⟩
    exact ⟨_, results_tmp rfl _ _ _, v, rfl, ownsRow_putObj hrow _ hK rfl, hnil, hB.trans (belowK_b (w := w) (Nat.le_refl _) W D _ _ (by simp at hD; omega) hK rfl rfl)⟩
  case stop =>
    rintro D c pre W _ _ h _
    exact h.elim
end Go.Proofs.YtkoipecnmijfoaaGreat
end

section
/-! slices.Sort on a row of the call's own, slices.Collect, slices.Sorted at []int. -/
namespace Go.Proofs.YtkoipecnmijfoaaGreat
open Go.RowKit Go.Deep
set_option linter.unusedVariables false
set_option maxRecDepth 100000

theorem sortRow {w : World} {base g cap : Nat} {D0 : List Int} (ho : w.ownsRow base 3 1 (.slice (some ⟨g, 0, none⟩) D0.length cap) D0.length (D0.map (Value.int .i64))) (hn : 1 ≤ D0.length) (hl : D0.length < 100000000000000) :
    Calls Tryz.prog 72 #[.slice (some ⟨g, 0, none⟩) D0.length cap] w
      fun e w' => e = .returned (.tuple #[]) ∧ w'.ownsRow base 3 1 (.slice (some ⟨g, 0, none⟩) (sortI D0).length cap) (sortI D0).length ((sortI D0).map (Value.int .i64)) ∧ w.grownBy w' (some g) := by
  obtain ⟨g', cap', e1, hb, hp⟩ := ownP_of_row ho (by omega)
  cases e1
  rcases ho.2 with ⟨h0, _⟩ | ⟨g2, cap2, cur, hv, hg, hh, h1, h2, h3, h4⟩
  · cases h0
  cases hv
  have hH : Go.Sort.Holds (Value.int .i64) w g 0 D0.toArray := by
    intro j hj
    have hj' : j < D0.length := by simpa using hj
    refine ⟨?_, hp.frozen _⟩
    rw [Nat.zero_add]
    have := hp.cell (i := j) (x := D0[j]) (by simp [hj'])
    rw [this]
    simp [hj']
  refine (Tryz.slices_Sort_int g 0 cap D0 w hH hp.lt (by omega)).mono ?_
  rintro e w' ⟨rfl, n, os, rfl⟩
  refine ⟨rfl, ?_, grownBy_sortedI _⟩
  have := ownsRow_sortedI (n := n) (os := os) (sortI_length D0) hg hh h1 h2 h3
  rw [sortI_length]
  exact this

/-- a list in a row of the call's own, nil just where it is empty -/
def SeqRes (w : World) (L : List Int) (e : Ending) (w' : World) : Prop :=
  ∃ v, e = .returned v ∧ w'.ownsRow w.heap.size 3 1 v L.length (L.map (Value.int .i64)) ∧ (v = .slice none 0 0 ↔ L = []) ∧ Below w.heap.size w w'
theorem collectV {w : World} {Bs cap : Nat} {A : Option Addr} {zs : List Int} (hBs : Bs < w.heap.size) (hcB : w.cell? ⟨Bs, 0, none⟩ = some (.slice A zs.length cap)) (hI : Rd w w.heap.size A zs) :
    Calls Tryz.prog 71 #[.func (.func 73) #[] #[.pointer (some ⟨Bs, 0, none⟩)]] w (SeqRes w zs) := by
  have C1 := callsIn_wide.1 (appendSeq_in Fence.wide 3 trivial trivial rfl (by omega) Bs cap A zs w hBs hcB hI)
  clear hBs hcB hI
  go_enter Tryz.func71, Tryz.ntmps71
  go_wp2_with fail
  refine C1.mono ?_
  rintro e w1 ⟨v, rfl, ho, hn, hb⟩
  have HO := Lib.hid ho
  have HN := Lib.hid hn
  have HB := Lib.hid hb
  clear ho hn hb C1
  go_wp2
  go_ret
  exact ⟨v, rfl, HO.out, HN.out, HB.out⟩
/-- a list in a slice -/
def SortedRes (w : World) (L : List Int) (e : Ending) (w' : World) : Prop :=
  ∃ A c, e = .returned (.slice A L.length c) ∧ (0 < L.length → ∃ g, A = some ⟨g, 0, none⟩ ∧ w.heap.size ≤ g ∧ OwnP w' g 3 L) ∧ Below w.heap.size w w'
theorem sortedV {w : World} {Bs cap : Nat} {A : Option Addr} {zs : List Int} (hBs : Bs < w.heap.size) (hcB : w.cell? ⟨Bs, 0, none⟩ = some (.slice A zs.length cap)) (hI : Rd w w.heap.size A zs) (hl : zs.length < 100000000000000) :
    Calls Tryz.prog 49 #[.func (.func 73) #[] #[.pointer (some ⟨Bs, 0, none⟩)]] w (SortedRes w (sortI zs)) := by
  have C1 := collectV hBs hcB hI
  clear hBs hcB hI
  go_enter Tryz.func49, Tryz.ntmps49
  go_wp2_with fail
  refine C1.mono ?_
  rintro e w1 ⟨v, rfl, ho, hn, hb⟩
  have HB := Lib.hid hb
  clear hb C1
  by_cases h0 : zs = []
  · subst h0
    obtain rfl := hn.2 rfl
    clear ho hn
    have CS := Tryz.slices_Sort_int_none none 0 w1
    go_wp2_with fail
    refine CS.mono ?_
    rintro e w2 ⟨rfl, rfl⟩
    go_wp2
    go_ret
    exact ⟨none, 0, by rw [show (sortI []).length = 0 by simp [sortI]]; rfl, fun h => by simp [sortI] at h, HB.out⟩
  · obtain ⟨g, c, rfl, hg, hP⟩ := ownP_of_row ho (List.length_pos_iff.2 h0)
    have CS := sortRow ho (List.length_pos_iff.2 h0) hl
    have HG := Lib.hid hg
    clear ho hn hP
    go_wp2_with fail
    refine CS.mono ?_
    rintro e w2 ⟨rfl, ho2, hgr⟩
    have hl2 : (sortI zs).length = zs.length := sortI_length zs
    obtain ⟨g', c', e', hg', hP2⟩ := ownP_of_row ho2 (by rw [hl2]; exact List.length_pos_iff.2 h0)
    cases e'
    have HP2 := Lib.hid hP2
    have HB2 := Lib.hid (HB.out.grown hgr HB.out.size (fun k hk => by cases hk; exact HG.out))
    have HL2 := Lib.hid hl2
    clear ho2 hgr hg' hP2 hl2 CS
    go_wp2
    go_ret
    exact ⟨some ⟨g, 0, none⟩, c, by rw [HL2.out]; rfl, fun _ => ⟨g, rfl, HG.out, HP2.out⟩, HB2.out⟩
end Go.Proofs.YtkoipecnmijfoaaGreat
end

section
/-! Walks of chapter 35: is a list an order?
-/
namespace Go.Proofs.YtkoipecnmijfoaaGreat
open Go.RowKit Go.Deep Go.Shelf
set_option linter.unusedVariables false
set_option maxRecDepth 100000

set_option maxHeartbeats 400000 in
theorem r29Has {w : World} {B : Nat} {A : Option Addr} {L : List Int} {cap : Nat} (h : Rd w B A L) (y : Int) :
    Calls Tryz.prog 57 #[.slice A L.length cap, .int .i64 y] w fun e w' => e = .returned (.bool (L.any fun x => x == y)) ∧ w = w' := by
  have hlen := h.len
  have H := Lib.hid h
  clear h
  go_enter Tryz.func57, Tryz.ntmps57
  go_wp2
  go_loop [5] (fun iv => ∃ (k : Nat), k ≤ L.length ∧ iv = .int .i64 k ∧ Hid ((L.drop k).any (fun x => x == y) = L.any fun x => x == y)) (fun iv => L.length - (intOf iv).toNat)
  case atStart => exact ⟨0, by omega, rfl, Lib.hid rfl⟩
  case round =>
    obtain ⟨k, hk, rfl, hr⟩ := hrel
    by_cases hlt : k < L.length
    · obtain ⟨b, off, x, rfl, hb, hx, hi, hc⟩ := H.out.at_ hlt
      have HA := Lib.hid (any_drop (p := fun x => x == y) hx)
      clear hx hi hb
      cases hxy : (x == y)
      · have HT : Hid ((L.drop (k + 1)).any (fun x => x == y) = L.any fun x => x == y) := Lib.hid (by rw [← hr.out, HA.out, hxy]; rfl)
        go_wp2
        go_round
        case rel => exact ⟨k + 1, by omega, by go_num, HT⟩
        case measure => simp [intOf]; omega
      · have HT : Hid ((L.any fun x => x == y) = true) := Lib.hid (by rw [← hr.out, HA.out, hxy]; rfl)
        go_wp2
        go_ret
        exact ⟨ret_bool HT.out.symm, rfl⟩
    · have HT : Hid ((L.any fun x => x == y) = false) := Lib.hid (by rw [← hr.out, any_end (by omega)])
      go_wp2
      go_ret
      exact ⟨ret_bool HT.out.symm, rfl⟩
set_option maxHeartbeats 400000 in
theorem r29Order {w : World} {B : Nat} {A : Option Addr} {L : List Int} {cap n : Nat} (h : Rd w B A L) (hn : n ≤ 100000000000000) :
    Calls Tryz.prog 28 #[.slice A L.length cap, .int .i64 n] w fun e w' => e = .returned (.bool (ordB L n)) ∧ w = w' := by
  have hlen := h.len
  have H := Lib.hid h
  clear h
  have CH : Hid (∀ k : Nat, Calls Tryz.prog 57 #[.slice A L.length cap, .int .i64 (k : Int)] w fun e w' => e = .returned (.bool (L.any fun x => x == (k : Int))) ∧ w = w') := Lib.hid fun k => r29Has (cap := cap) H.out (k : Int)
  go_enter Tryz.func28, Tryz.ntmps28
  go_wp2
  go_loop [5] (fun iv => ∃ (k : Nat), k ≤ n ∧ iv = .int .i64 k ∧ Hid (((List.range n).drop k).all (fun k => L.any fun x => x == (k : Int)) = (List.range n).all fun k => L.any fun x => x == (k : Int))) (fun iv => n - (intOf iv).toNat)
  case atStart => exact ⟨0, by omega, rfl, Lib.hid rfl⟩
  case round =>
    obtain ⟨k, hk, rfl, hr⟩ := hrel
    by_cases hlt : k < n
    · have HA := Lib.hid (all_drop (L := List.range n) (p := fun k => L.any fun x => x == (k : Int)) (List.getElem?_range hlt))
      have CK := Lib.hid (CH.out k)
      cases hxy : (L.any fun x => x == (k : Int))
      · have HT : Hid (ordB L n = false) := Lib.hid (by rw [ordB, ← hr.out, HA.out, hxy]; rfl)
        rw [hxy] at CK
        clear hxy HA hr
        go_wp2_with fail
        refine CK.out.mono ?_
        rintro e w' ⟨rfl, rfl⟩
        go_wp2
        go_ret
        exact ⟨ret_bool HT.out.symm, rfl⟩
      · have HT : Hid (((List.range n).drop (k + 1)).all (fun k => L.any fun x => x == (k : Int)) = (List.range n).all fun k => L.any fun x => x == (k : Int)) := Lib.hid (by rw [← hr.out, HA.out, hxy]; rfl)
        rw [hxy] at CK
        clear hxy HA hr
        go_wp2_with fail
        refine CK.out.mono ?_
        rintro e w' ⟨rfl, rfl⟩
        go_wp2
        go_round
        case rel => exact ⟨k + 1, by omega, by go_num, HT⟩
        case measure => simp [intOf]; omega
    · have HT : Hid (ordB L n = ((L.length : Int) == (n : Int))) := Lib.hid (by
        rw [ordB, ← hr.out, all_end (by simp; omega), Bool.true_and, Bool.eq_iff_iff, decide_eq_true_iff, beq_iff_eq]; omega)
      clear hr
      go_wp2
      go_ret
      exact ⟨ret_bool HT.out.symm, rfl⟩
set_option maxHeartbeats 1000000 in
theorem lIsOrder {w : World} {B : Nat} {A : Option Addr} {L : List Int} {cap n : Nat} (h : Rd w B A L) (hB : B ≤ w.heap.size) (hl : L.length < 100000000000000) (hn : n ≤ 100000000000000) :
    Calls Tryz.prog 53 #[.slice A L.length cap, .int .i64 n] w fun e w' => e = .returned (.bool (ordB L n)) ∧ Below w.heap.size w w' := by
  have CV := callsIn_wide.1 (values_in Fence.wide 3 trivial rfl A L.length cap w)
  have hb : Below w.heap.size w (w.alloc (.cells #[.slice A L.length cap] 22)) := (Below.refl _ _).alloc (Nat.le_refl _) _
  have CS := sortedV (w := w.alloc (.cells #[.slice A L.length cap] 22)) (Bs := w.heap.size) (cap := cap) (A := A) (zs := L) (by simp) ((cell_of_row _ _ 0 _ _ (0, 0) (heap_alloc_new _ _)).trans rfl) ((h.below hb hB).more (by simp; omega)) hl
  have HCV := Lib.hid CV
  have HCS := Lib.hid CS
  have HB := Lib.hid hb
  have HO : Hid (∀ x : Bool, ordP L n = x → ordB L n = x) := Lib.hid fun x hx => by rw [← ord_eq]; exact hx
  clear CV CS hb h
  generalize hw1 : w.alloc (.cells #[.slice A L.length cap] 22) = w1 at *
  go_enter Tryz.func53, Tryz.ntmps53
  go_wp2_with fail
  refine HCV.out.mono ?_
  rintro e w' ⟨rfl, rfl⟩
  clear HCV
  go_wp2_with fail
  refine HCS.out.mono ?_
  rintro e w2 ⟨A2, c2, rfl, hown, hb2⟩
  rw [sortI_length] at hown ⊢
  have HOW := Lib.hid hown
  have HB2 := Lib.hid (HB.out.trans (hb2.mono HB.out.size))
  clear hown hb2 HCS HB hw1
  go_wp2_with fail
  go_loopw [11] (fun iv wr => ∃ (k : Nat), k ≤ L.length ∧ iv = .int .i64 k ∧ Hid (∀ j, j < k → (sortI L)[j]? = some (j : Int)) ∧ wr = w2) (fun iv _ => L.length - (intOf iv).toNat)
  case atStart => exact ⟨0, by omega, rfl, Lib.hid (fun j hj => by omega), rfl⟩
  case round =>
    obtain ⟨k, hk, rfl, hs, rfl⟩ := hrel
    by_cases hlt : k < L.length
    · obtain ⟨g, rfl, hg, hP⟩ := HOW.out (by omega)
      have hlk : k < (sortI L).length := by rw [sortI_length]; exact hlt
      have hx := List.getElem?_eq_getElem hlk
      have hc := hP.cell hx
      have HX := Lib.hid hx
      clear hP hx
      generalize (sortI L)[k] = x at *
      by_cases hxk : x = (k : Int)
      · have q1 : (x != (k : Int)) = false := by simpa using hxk
        have HS : Hid (∀ j, j < k + 1 → (sortI L)[j]? = some (j : Int)) := Lib.hid fun j hj => by
          rcases Nat.lt_or_ge j k with h | h
          · exact hs.out j h
          · have : j = k := by omega
            rw [this, HX.out, hxk]
        clear hxk hs
        go_wp2
        go_roundw
        case rel => exact ⟨k + 1, by omega, by go_num, HS, by trivial⟩
        case measure => simp [intOf]; omega
      · have q1 : (x != (k : Int)) = true := by simpa using hxk
        have HT : Hid (ordB L n = false) := Lib.hid (HO.out _ (by
          rw [ordP, Bool.and_eq_false_iff]
          left
          rw [decide_eq_false_iff_not]
          intro he
          rw [he] at HX
          have h1 := HX.out
          simp [iota, hlt] at h1
          exact hxk h1.symm))
        clear hxk hs
        go_wp2
        go_ret
        exact ⟨ret_bool HT.out.symm, HB2.out⟩
    · have HT : Hid (ordB L n = ((L.length : Int) == (n : Int))) := Lib.hid (HO.out _ (by
        have hkl : k = L.length := by omega
        subst hkl
        rw [ordP, decide_eq_true (iota_of (sortI_length L) fun j hj => hs.out j hj), Bool.true_and, Bool.eq_iff_iff, decide_eq_true_iff, beq_iff_eq]; omega))
      clear hs
      go_wp2
      go_ret
      exact ⟨ret_bool HT.out.symm, HB2.out⟩
end Go.Proofs.YtkoipecnmijfoaaGreat
end

section
/-! Walks of slices.IndexFunc and slices.ContainsFunc over [][]int and over []int. -/
namespace Go.Proofs.YtkoipecnmijfoaaGreat
open Go.RowKit
set_option linter.unusedVariables false
set_option maxRecDepth 100000

/-- the place of the first row that p takes, counted from k; -1 if there is none -/
def rIdx {α : Type} (p : α → Bool) : List α → Int → Int
  | [], _ => -1
  | x :: t, k => if p x then k else rIdx p t (k + 1)
theorem rIdx_yes {α : Type} {p : α → Bool} {x : α} {k : Int} {t : List α} (h : p x = true) : rIdx p (x :: t) k = k := by rw [rIdx, if_pos h]
theorem rIdx_no {α : Type} {p : α → Bool} {x : α} {k : Int} {t : List α} (h : p x = false) : rIdx p (x :: t) k = rIdx p t (k + 1) := by rw [rIdx, if_neg (by simp [h])]
theorem rIdx_any {α : Type} {p : α → Bool} : ∀ {L : List α} {k : Int}, 0 ≤ k → decide (0 ≤ rIdx p L k) = L.any p
  | [], k, hk => by simp [rIdx]
  | x :: t, k, hk => by
    by_cases h : p x = true
    · rw [rIdx_yes h]; simp [h, hk]
    · have h' : p x = false := by simpa using h
      rw [rIdx_no h', rIdx_any (by omega)]; simp [h']

set_option maxHeartbeats 400000 in
/-- the function may make memory -/
theorem indexRowsM {w : World} {B : Nat} {A : Option Addr} {W : List (List Int)} {cap : Nat} (h : Rd2 w B A W) (hB : B ≤ w.heap.size) (F : Nat) (caps : Array Value) (p : List Int → Bool)
    (hF : ∀ args (u : World), (callFunc F args).run Tryz.prog u = .ok (.enter F args) u)
    (hp : ∀ A1 x c (u : World), x ∈ W → Rd u B A1 x → Below w.heap.size w u → Calls Tryz.prog F (#[.slice A1 x.length c] ++ caps) u fun e w' => e = .returned (.bool (p x)) ∧ Below u.heap.size u w') :
    Calls Tryz.prog 70 #[.slice A W.length cap, .func (.func F) #[] caps] w fun e w' => e = .returned (.int .i64 (rIdx p W 0)) ∧ Below w.heap.size w w' := by
  have hlen := h.len
  have H := Lib.hid h; clear h
  have HP := Lib.hid hp; clear hp
  go_enter Tryz.func70, Tryz.ntmps70
  go_wp2
  go_loopw [8] (fun i wr => ∃ (k : Nat), k ≤ W.length ∧ i = .int .i64 k ∧ Hid (rIdx p (W.drop k) k = rIdx p W 0) ∧ Hid (Below w.heap.size w wr)) (fun i _ => W.length - (intOf i).toNat)
  case atStart => exact ⟨0, by omega, rfl, Lib.hid (by simp), Lib.hid (Below.refl _ _)⟩
  case round =>
    obtain ⟨k, hk, rfl, hr, hb⟩ := hrel
    by_cases hlt : k < W.length
    · obtain ⟨b, off, x, A1, c1, rfl, hb', hx, hc, hrd⟩ := (H.out.below hb.out hB).at_ hlt
      have HX := Lib.hid hx
      have HM := Lib.hid (List.mem_of_getElem? hx)
      have HR := Lib.hid hrd
      clear hx hrd
      go_wp2_with fail
      refine (HP.out A1 x c1 wr HM.out HR.out hb.out).mono ?_
      rintro e w' ⟨rfl, hb2⟩
      have HB2 := Lib.hid (hb.out.trans (hb2.mono hb.out.size))
      clear hb2
      by_cases hpx : p x = true
      · go_wp2
        go_ret
        exact ⟨ret_int (by rw [← hr.out, dropA_of HX.out, rIdx_yes hpx]), HB2.out⟩
      · have hpf : p x = false := by simpa using hpx
        go_wp2
        go_roundw
        case rel => exact ⟨k + 1, by omega, by go_num, Lib.hid (by rw [← hr.out, dropA_of HX.out, rIdx_no hpf]; rfl), HB2⟩
        case measure => simp [intOf]; omega
    · go_wp2
      go_ret
      exact ⟨ret_int (by rw [← hr.out, List.drop_eq_nil_of_le (by omega)]; rfl), hb.out⟩

theorem containsRowsM {w : World} {B : Nat} {A : Option Addr} {W : List (List Int)} {cap : Nat} (h : Rd2 w B A W) (hB : B ≤ w.heap.size) (F : Nat) (caps : Array Value) (p : List Int → Bool)
    (hF : ∀ args (u : World), (callFunc F args).run Tryz.prog u = .ok (.enter F args) u)
    (hp : ∀ A1 x c (u : World), x ∈ W → Rd u B A1 x → Below w.heap.size w u → Calls Tryz.prog F (#[.slice A1 x.length c] ++ caps) u fun e w' => e = .returned (.bool (p x)) ∧ Below u.heap.size u w') :
    Calls Tryz.prog 45 #[.slice A W.length cap, .func (.func F) #[] caps] w fun e w' => e = .returned (.bool (W.any p)) ∧ Below w.heap.size w w' := by
  have C := indexRowsM (cap := cap) h hB F caps p hF hp
  have hany : decide (0 ≤ rIdx p W 0) = W.any p := rIdx_any (by omega)
  have HA := Lib.hid hany
  clear hany h hp hF
  generalize rIdx p W 0 = i at *
  go_enter Tryz.func45, Tryz.ntmps45
  go_wp2_with (go_at_call 70; refine C.mono ?_; rintro e w' ⟨rfl, hb⟩)
  go_ret
  exact ⟨ret_bool HA.out, hb⟩
set_option maxHeartbeats 400000 in
theorem indexInts {w : World} {B : Nat} {A : Option Addr} {W : List Int} {cap : Nat} (h : Rd w B A W) (F : Nat) (caps : Array Value) (p : Int → Bool)
    (hF : ∀ args (u : World), (callFunc F args).run Tryz.prog u = .ok (.enter F args) u)
    (hp : ∀ x, x ∈ W → I64 x → Calls Tryz.prog F (#[.int .i64 x] ++ caps) w fun e w' => e = .returned (.bool (p x)) ∧ w = w') :
    Calls Tryz.prog 24 #[.slice A W.length cap, .func (.func F) #[] caps] w fun e w' => e = .returned (.int .i64 (rIdx p W 0)) ∧ w = w' := by
  have hlen := h.len
  have H := Lib.hid h; clear h
  have HP := Lib.hid hp; clear hp
  go_enter Tryz.func24, Tryz.ntmps24
  go_wp2
  go_loop [5, 8] (fun _ i => ∃ (k : Nat), k ≤ W.length ∧ i = .int .i64 k ∧ Hid (rIdx p (W.drop k) k = rIdx p W 0)) (fun _ i => W.length - (intOf i).toNat)
  case atStart => exact ⟨0, by omega, rfl, Lib.hid (by simp)⟩
  case round =>
    obtain ⟨k, hk, rfl, hr⟩ := hrel
    by_cases hlt : k < W.length
    · obtain ⟨b, off, x, rfl, hb, hx, hrd, hc⟩ := H.out.at_ hlt
      have HX := Lib.hid hx
      have HM := Lib.hid (List.mem_of_getElem? hx)
      have HR := Lib.hid hrd
      clear hx hrd
      go_wp2_with fail
      refine (HP.out x HM.out HR.out).mono ?_
      rintro e w' ⟨rfl, rfl⟩
      by_cases hpx : p x = true
      · go_wp2
        go_ret
        exact ⟨ret_int (by rw [← hr.out, dropA_of HX.out, rIdx_yes hpx]), rfl⟩
      · have hpf : p x = false := by simpa using hpx
        go_wp2
        go_round
        case rel => exact ⟨k + 1, by omega, by go_num, Lib.hid (by rw [← hr.out, dropA_of HX.out, rIdx_no hpf]; rfl)⟩
        case measure => simp [intOf]; omega
    · go_wp2
      go_ret
      exact ⟨ret_int (by rw [← hr.out, List.drop_eq_nil_of_le (by omega)]; rfl), rfl⟩

theorem containsInts {w : World} {B : Nat} {A : Option Addr} {W : List Int} {cap : Nat} (h : Rd w B A W) (F : Nat) (caps : Array Value) (p : Int → Bool)
    (hF : ∀ args (u : World), (callFunc F args).run Tryz.prog u = .ok (.enter F args) u)
    (hp : ∀ x, x ∈ W → I64 x → Calls Tryz.prog F (#[.int .i64 x] ++ caps) w fun e w' => e = .returned (.bool (p x)) ∧ w = w') :
    Calls Tryz.prog 47 #[.slice A W.length cap, .func (.func F) #[] caps] w fun e w' => e = .returned (.bool (W.any p)) ∧ w = w' := by
  have C := indexInts (cap := cap) h F caps p hF hp
  have hany : decide (0 ≤ rIdx p W 0) = W.any p := rIdx_any (by omega)
  have HA := Lib.hid hany
  clear hany h hp hF
  generalize rIdx p W 0 = i at *
  go_enter Tryz.func47, Tryz.ntmps47
  go_wp2_with (go_at_call 24; refine C.mono ?_; rintro e w' ⟨rfl, rfl⟩)
  go_ret
  exact ⟨ret_bool HA.out, rfl⟩
end Go.Proofs.YtkoipecnmijfoaaGreat
end

section
/-! Walks of chapter 35: check, looked.
-/
namespace Go.Proofs.YtkoipecnmijfoaaGreat
open Go.RowKit Go.Deep
set_option linter.unusedVariables false
set_option maxRecDepth 100000

theorem lChkA {w : World} {B : Nat} {A1 : Option Addr} {l : List Int} {c n g capO : Nat} {AO : Option Addr} (h : Rd w B A1 l) (hB : B ≤ w.heap.size) (hl : l.length < 100000000000000) (hn : n ≤ 100000000000000) (hg : w.cell? ⟨g, 0, none⟩ = some (.slice AO n capO)) :
    Calls Tryz.prog 52 #[.slice A1 l.length c, .pointer (some ⟨g, 0, none⟩)] w fun e w' => e = .returned (.bool (!ordB l n)) ∧ Below w.heap.size w w' := by
  have C := lIsOrder (cap := c) h hB hl hn
  clear h
  cases ho : ordB l n
  all_goals
    rw [ho] at C
    clear ho
    go_enter Tryz.func52, Tryz.ntmps52
    go_wp2_with (go_at_call 53; refine C.mono ?_; rintro e w' ⟨rfl, hb⟩)
    go_ret
    exact ⟨ret_bool rfl, hb⟩
theorem lChkB {w : World} {x : Int} {m g capR : Nat} {AR : Option Addr} (hg : w.cell? ⟨g, 0, none⟩ = some (.slice AR m capR)) :
    Calls Tryz.prog 54 #[.int .i64 x, .pointer (some ⟨g, 0, none⟩)] w fun e w' => e = .returned (.bool (decide (x < 0) || decide ((m : Int) ≤ x))) ∧ w = w' := by
  cases h1 : decide (x < 0) <;> cases h2 : decide ((m : Int) ≤ x)
  all_goals
    go_enter Tryz.func54, Tryz.ntmps54
    go_wp2
    go_ret
    exact ⟨ret_bool rfl, rfl⟩
theorem lChkV {w : World} {x : Int} :
    Calls Tryz.prog 58 #[.int .i64 x] w fun e w' => e = .returned (.bool (decide (x < 0) || decide (1000 < x))) ∧ w = w' := by
  cases h1 : decide (x < 0) <;> cases h2 : decide (1000 < x)
  all_goals
    go_enter Tryz.func58, Tryz.ntmps58
    go_wp2
    go_ret
    exact ⟨ret_bool rfl, rfl⟩
theorem chk35_many {O : List Int} {R : List (List Int)} (h : 6 < R.length ∨ 6 < O.length) : chk35 O R = 4 := by rw [chk35, if_pos h]
theorem chk35_bad {O : List Int} {R : List (List Int)} (h1 : ¬ 6 < R.length) (h2 : ¬ 6 < O.length) (h : R = [] ∨ (R.any fun l => !ordB l O.length) = true ∨ badAg O R.length = true) : chk35 O R = 8 := by
  rw [chk35, if_neg (by omega), if_pos h]
theorem chk35_ok {O : List Int} {R : List (List Int)} (h1 : ¬ 6 < R.length) (h2 : ¬ 6 < O.length) (h3 : 0 < R.length) (h4 : (R.any fun l => !ordB l O.length) = false) (h5 : badAg O R.length = false) : chk35 O R = 0 := by
  rw [chk35, if_neg (by omega), if_neg]
  rintro (h | h | h)
  · rw [h] at h3; simp at h3
  · rw [h4] at h; cases h
  · rw [h5] at h; cases h
set_option maxHeartbeats 2000000 in
theorem lCheck35 {w : World} {B C : Nat} {A A' : Option Addr} {O : List Int} {R : List (List Int)} {cap cap' : Nat} (h : Rd w B A O) (h' : Rd2 w C A' R) (hB : B ≤ w.heap.size) (hC : C ≤ w.heap.size) (hR : ∀ l ∈ R, l.length < 100000000000000) :
    Calls Tryz.prog 26 #[.slice A O.length cap, .slice A' R.length cap'] w fun e w' => e = .returned (.int .i64 (chk35 O R)) ∧ Below w.heap.size w w' := by
  have l1 := h.len
  have l2 := h'.len
  have hb : Below w.heap.size w ((w.alloc (.cells #[.slice A O.length cap] 22)).alloc (.cells #[.slice A' R.length cap'] 23)) := ((Below.refl _ _).alloc (Nat.le_refl _) _).alloc (by simp) _
  have ho : ((w.alloc (.cells #[.slice A O.length cap] 22)).alloc (.cells #[.slice A' R.length cap'] 23)).cell? ⟨w.heap.size, 0, none⟩ = some (.slice A O.length cap) := by simp
  have hr : ((w.alloc (.cells #[.slice A O.length cap] 22)).alloc (.cells #[.slice A' R.length cap'] 23)).cell? ⟨w.heap.size + 1, 0, none⟩ = some (.slice A' R.length cap') := by simp
  have hs : ((w.alloc (.cells #[.slice A O.length cap] 22)).alloc (.cells #[.slice A' R.length cap'] 23)).heap.size = w.heap.size + 2 := by simp
  have HS := Lib.hid hs
  have HB := Lib.hid hb
  have H := Lib.hid (h.below hb hB)
  have H' := Lib.hid (h'.below hb hC)
  clear h h' hb hs
  go_enter Tryz.func26, Tryz.ntmps26
  generalize hw2 : (w.alloc (.cells #[.slice A O.length cap] 22)).alloc (.cells #[.slice A' R.length cap'] 23) = w2 at *
  have HW2 := Lib.hid hw2
  clear hw2
  have hx2 : (w.alloc (.cells #[.slice A O.length cap] 22)).alloc (.cells #[.slice A' R.length cap'] 23) = w2 := HW2.out
  have hp0 : ∀ A1 x c (u : World), x ∈ R → Rd u C A1 x → Below w2.heap.size w2 u → Calls Tryz.prog 52 (#[.slice A1 x.length c] ++ #[.pointer (some ⟨w.heap.size, 0, none⟩)]) u fun e w' => e = .returned (.bool (!ordB x O.length)) ∧ Below u.heap.size u w' := by
    intro A1 x c u hx hu hbu
    have hsz := HS.out
    exact lChkA hu (by have := hbu.size; omega) (hR x hx) (by omega) ((hbu.cell (p := ⟨w.heap.size, 0, none⟩) (by show w.heap.size < _; omega)).trans ho)
  have CA := containsRowsM (cap := cap') H'.out (by rw [HS.out]; omega) 52 #[.pointer (some ⟨w.heap.size, 0, none⟩)] (fun l => !ordB l O.length) (fun args u => by kernel_rfl) hp0
  have HCB : Hid (∀ u, Below w2.heap.size w2 u → Calls Tryz.prog 47 #[.slice A O.length cap, .func (.func 54) #[] #[.pointer (some ⟨w.heap.size + 1, 0, none⟩)]] u fun e w' => e = .returned (.bool (badAg O R.length)) ∧ u = w') := Lib.hid fun u hu =>
    containsInts (cap := cap) (H.out.below hu (by rw [HS.out]; omega)) 54 #[.pointer (some ⟨w.heap.size + 1, 0, none⟩)] (fun i => decide (i < 0) || decide ((R.length : Int) ≤ i)) (fun args u => by kernel_rfl) (fun x _ _ => lChkB ((hu.cell (p := ⟨w.heap.size + 1, 0, none⟩) (by show w.heap.size + 1 < _; rw [HS.out]; omega)).trans hr))
  have HCA := Lib.hid CA
  clear CA hp0
  by_cases h6 : 6 < R.length
  · have f1 : decide (6 < (R.length : Int)) = true := decide_eq_true (by omega)
    have HT := Lib.hid (chk35_many (O := O) (.inl h6))
    go_wp2
    go_ret
    exact ⟨ret_int HT.out.symm, HB.out⟩
  · have f1 : decide (6 < (R.length : Int)) = false := decide_eq_false (by omega)
    by_cases h6' : 6 < O.length
    · have f2 : decide (6 < (O.length : Int)) = true := decide_eq_true (by omega)
      have HT := Lib.hid (chk35_many (R := R) (.inr h6'))
      go_wp2
      go_ret
      exact ⟨ret_int HT.out.symm, HB.out⟩
    · have f2 : decide (6 < (O.length : Int)) = false := decide_eq_false (by omega)
      by_cases h0 : R.length = 0
      · have f3 : ((R.length : Int) == 0) = true := by rw [h0]; rfl
        have HT := Lib.hid (chk35_bad h6 h6' (.inl (List.eq_nil_of_length_eq_zero h0)))
        clear h0
        go_wp2
        go_ret
        exact ⟨ret_int HT.out.symm, HB.out⟩
      · have f3 : ((R.length : Int) == 0) = false := by rw [beq_eq_false_iff_ne]; omega
        cases ha : R.any fun l => !ordB l O.length
        · rw [ha] at HCA
          cases hbd : badAg O R.length
          · have HT := Lib.hid (chk35_ok h6 h6' (by omega) ha hbd)
            rw [hbd] at HCB
            clear ha hbd
            go_wp2_with fail
            refine HCA.out.mono ?_
            rintro e w3 ⟨rfl, hb3⟩
            have HB3 := Lib.hid (HB.out.trans (hb3.mono (by rw [HS.out]; omega)))
            have c1 : w3.cell? ⟨w.heap.size, 0, none⟩ = some (.slice A O.length cap) := (hb3.cell (p := ⟨w.heap.size, 0, none⟩) (by show w.heap.size < _; rw [HS.out]; omega)).trans ho
            have HCB3 := Lib.hid (HCB.out w3 hb3)
            clear hb3
            go_wp2_with fail
            refine HCB3.out.mono ?_
            rintro e w4 ⟨rfl, rfl⟩
            go_wp2
            go_ret
            exact ⟨ret_int HT.out.symm, HB3.out⟩
          · have HT := Lib.hid (chk35_bad h6 h6' (.inr (.inr hbd)))
            rw [hbd] at HCB
            clear ha hbd
            go_wp2_with fail
            refine HCA.out.mono ?_
            rintro e w3 ⟨rfl, hb3⟩
            have HB3 := Lib.hid (HB.out.trans (hb3.mono (by rw [HS.out]; omega)))
            have c1 : w3.cell? ⟨w.heap.size, 0, none⟩ = some (.slice A O.length cap) := (hb3.cell (p := ⟨w.heap.size, 0, none⟩) (by show w.heap.size < _; rw [HS.out]; omega)).trans ho
            have HCB3 := Lib.hid (HCB.out w3 hb3)
            clear hb3
            go_wp2_with fail
            refine HCB3.out.mono ?_
            rintro e w4 ⟨rfl, rfl⟩
            go_wp2
            go_ret
            exact ⟨ret_int HT.out.symm, HB3.out⟩
        · have HT := Lib.hid (chk35_bad h6 h6' (.inr (.inl ha)))
          rw [ha] at HCA
          clear ha
          go_wp2_with fail
          refine HCA.out.mono ?_
          rintro e w3 ⟨rfl, hb3⟩
          have HB3 := Lib.hid (HB.out.trans (hb3.mono (by rw [HS.out]; omega)))
          clear hb3
          go_wp2
          go_ret
          exact ⟨ret_int HT.out.symm, HB3.out⟩
set_option maxHeartbeats 2000000 in
theorem rCheck35 {w : World} {B C : Nat} {A A' : Option Addr} {O : List Int} {R : List (List Int)} {cap cap' : Nat} (h : Rd w B A O) (h' : Rd2 w C A' R) :
    Calls Tryz.prog 9 #[.slice A O.length cap, .slice A' R.length cap'] w fun e w' => e = .returned (.int .i64 (chk35 O R)) ∧ w = w' := by
  have l1 := h.len
  have l2 := h'.len
  have H := Lib.hid h
  have H' := Lib.hid h'
  clear h h'
  by_cases h6 : 6 < R.length
  · have f1 : decide (6 < (R.length : Int)) = true := decide_eq_true (by omega)
    have HT := Lib.hid (chk35_many (O := O) (.inl h6))
    go_enter Tryz.func9, Tryz.ntmps9
    go_wp2
    go_ret
    exact ⟨ret_int HT.out.symm, rfl⟩
  · have f1 : decide (6 < (R.length : Int)) = false := decide_eq_false (by omega)
    by_cases h6' : 6 < O.length
    · have f2 : decide (6 < (O.length : Int)) = true := decide_eq_true (by omega)
      have HT := Lib.hid (chk35_many (R := R) (.inr h6'))
      go_enter Tryz.func9, Tryz.ntmps9
      go_wp2
      go_ret
      exact ⟨ret_int HT.out.symm, rfl⟩
    · have f2 : decide (6 < (O.length : Int)) = false := decide_eq_false (by omega)
      by_cases h0 : R.length = 0
      · have f3 : ((R.length : Int) == 0) = true := by rw [h0]; rfl
        have HT := Lib.hid (chk35_bad h6 h6' (.inl (List.eq_nil_of_length_eq_zero h0)))
        clear h0
        go_enter Tryz.func9, Tryz.ntmps9
        go_wp2
        go_ret
        exact ⟨ret_int HT.out.symm, rfl⟩
      · have f3 : ((R.length : Int) == 0) = false := by rw [beq_eq_false_iff_ne]; omega
        have HT1 : Hid (badAg O R.length = true → chk35 O R = 8) := Lib.hid fun h => chk35_bad h6 h6' (.inr (.inr h))
        have HT2 : Hid ((R.any fun l => !ordB l O.length) = true → chk35 O R = 8) := Lib.hid fun h => chk35_bad h6 h6' (.inr (.inl h))
        have HT3 : Hid ((R.any fun l => !ordB l O.length) = false → badAg O R.length = false → chk35 O R = 0) := Lib.hid fun h1 h2 => chk35_ok h6 h6' (by omega) h1 h2
        go_enter Tryz.func9, Tryz.ntmps9
        go_wp2_with fail
        clear f1 f2 f3
        go_loop [5] (fun iv => ∃ (k : Nat), k ≤ R.length ∧ iv = .int .i64 k ∧ Hid ((R.drop k).any (fun l => !ordB l O.length) = R.any fun l => !ordB l O.length)) (fun iv => R.length - (intOf iv).toNat)
        case atStart => exact ⟨0, by omega, rfl, Lib.hid rfl⟩
        case round =>
          obtain ⟨k, hk, rfl, hr⟩ := hrel
          by_cases hlt : k < R.length
          · obtain ⟨b, off, x, A1, c1, rfl, hb, hx, hc, hrd⟩ := H'.out.at_ hlt
            have HA := Lib.hid (any_drop (p := fun l : List Int => !ordB l O.length) hx)
            have HCO := Lib.hid (r29Order (cap := c1) (n := O.length) hrd (by omega))
            clear hx hrd hb
            cases ho : ordB x O.length
            · have HT := Lib.hid (HT2.out (by rw [← hr.out, HA.out, ho]; rfl))
              rw [ho] at HCO
              clear ho
              go_wp2_with fail
              refine HCO.out.mono ?_
              rintro e w4 ⟨rfl, rfl⟩
              go_wp2
              go_ret
              exact ⟨ret_int HT.out.symm, rfl⟩
            · have HR : Hid ((R.drop (k + 1)).any (fun l => !ordB l O.length) = R.any fun l => !ordB l O.length) := Lib.hid (by rw [← hr.out, HA.out, ho]; rfl)
              rw [ho] at HCO
              clear ho
              go_wp2_with fail
              refine HCO.out.mono ?_
              rintro e w4 ⟨rfl, rfl⟩
              go_wp2
              go_round
              case rel => exact ⟨k + 1, by omega, by go_num, HR⟩
              case measure => simp [intOf]; omega
          · have HT4 : Hid (badAg O R.length = false → chk35 O R = 0) := Lib.hid (HT3.out (by rw [← hr.out, any_end (by omega)]))
            clear hr HT2 HT3
            go_wp2_with fail
            go_loop [6] (fun iv => ∃ (k : Nat), k ≤ O.length ∧ iv = .int .i64 k ∧ Hid ((O.drop k).any (fun i => decide (i < 0) || decide ((R.length : Int) ≤ i)) = badAg O R.length)) (fun iv => O.length - (intOf iv).toNat)
            case atStart => exact ⟨0, by omega, rfl, Lib.hid rfl⟩
            case round =>
              obtain ⟨j, hj, rfl, hr⟩ := hrel
              by_cases hlt : j < O.length
              · obtain ⟨b, off, x, rfl, hb, hx, hi, hc⟩ := H.out.at_ hlt
                have HA := Lib.hid (any_drop (p := fun i : Int => decide (i < 0) || decide ((R.length : Int) ≤ i)) hx)
                clear hx hb
                by_cases hx0 : x < 0
                · have g1 : decide (x < 0) = true := decide_eq_true hx0
                  have HT := Lib.hid (HT1.out (by rw [← hr.out, HA.out, g1]; rfl))
                  go_wp2
                  go_ret
                  exact ⟨ret_int HT.out.symm, rfl⟩
                · have g1 : decide (x < 0) = false := decide_eq_false hx0
                  by_cases hx1 : (R.length : Int) ≤ x
                  · have g2 : decide ((R.length : Int) ≤ x) = true := decide_eq_true hx1
                    have HT := Lib.hid (HT1.out (by rw [← hr.out, HA.out, g1, g2]; rfl))
                    go_wp2
                    go_ret
                    exact ⟨ret_int HT.out.symm, rfl⟩
                  · have g2 : decide ((R.length : Int) ≤ x) = false := decide_eq_false hx1
                    have HR : Hid ((O.drop (j + 1)).any (fun i => decide (i < 0) || decide ((R.length : Int) ≤ i)) = badAg O R.length) := Lib.hid (by rw [← hr.out, HA.out, g1, g2]; rfl)
                    go_wp2
                    go_round
                    case rel => exact ⟨j + 1, by omega, by go_num, HR⟩
                    case measure => simp [intOf]; omega
              · have HT := Lib.hid (HT4.out (by rw [← hr.out, any_end (by omega)]))
                go_wp2
                go_ret
                exact ⟨ret_int HT.out.symm, rfl⟩
set_option maxHeartbeats 1000000 in
theorem lCheckV {w : World} {B : Nat} {A : Option Addr} {V : List Int} {cap : Nat} (h : Rd w B A V) :
    Calls Tryz.prog 29 #[.slice A V.length cap] w fun e w' => e = .returned (.int .i64 (val35 V)) ∧ w = w' := by
  have C := containsInts (cap := cap) h 58 #[] (fun x => decide (x < 0) || decide (1000 < x)) (fun args u => by kernel_rfl) (fun x _ _ => lChkV)
  have l1 := h.len
  have HV : Hid (val35 V = if 6 < V.length then 4 else if (V.any fun x => decide (x < 0) || decide (1000 < x)) = true then 8 else 0) := Lib.hid rfl
  clear h
  by_cases h6 : 6 < V.length
  · have f1 : decide (6 < (V.length : Int)) = true := decide_eq_true (by omega)
    rw [if_pos h6] at HV
    clear C
    go_enter Tryz.func29, Tryz.ntmps29
    go_wp2
    go_ret
    exact ⟨ret_int HV.out.symm, rfl⟩
  · have f1 : decide (6 < (V.length : Int)) = false := decide_eq_false (by omega)
    rw [if_neg h6] at HV
    cases hb : V.any fun x => decide (x < 0) || decide (1000 < x)
    all_goals
      rw [hb] at HV C
      clear hb
      go_enter Tryz.func29, Tryz.ntmps29
      go_wp2_with (go_at_call 47; refine C.mono ?_; rintro e w' ⟨rfl, rfl⟩)
      go_ret
      exact ⟨ret_int HV.out.symm, rfl⟩
set_option maxHeartbeats 1000000 in
theorem rVals {w : World} {B : Nat} {A : Option Addr} {V : List Int} {cap : Nat} (h : Rd w B A V) :
    Calls Tryz.prog 10 #[.slice A V.length cap] w fun e w' => e = .returned (.int .i64 (val35 V)) ∧ w = w' := by
  have l1 := h.len
  have H := Lib.hid h
  have HV : Hid (val35 V = if 6 < V.length then 4 else if (V.any fun x => decide (x < 0) || decide (1000 < x)) = true then 8 else 0) := Lib.hid rfl
  clear h
  by_cases h6 : 6 < V.length
  · have f1 : decide (6 < (V.length : Int)) = true := decide_eq_true (by omega)
    rw [if_pos h6] at HV
    go_enter Tryz.func10, Tryz.ntmps10
    go_wp2
    go_ret
    exact ⟨ret_int HV.out.symm, rfl⟩
  · have f1 : decide (6 < (V.length : Int)) = false := decide_eq_false (by omega)
    rw [if_neg h6] at HV
    go_enter Tryz.func10, Tryz.ntmps10
    go_wp2_with fail
    clear f1
    go_loop [3] (fun iv => ∃ (k : Nat), k ≤ V.length ∧ iv = .int .i64 k ∧ Hid ((V.drop k).any (fun i => decide (i < 0) || decide (1000 < i)) = V.any fun i => decide (i < 0) || decide (1000 < i))) (fun iv => V.length - (intOf iv).toNat)
    case atStart => exact ⟨0, by omega, rfl, Lib.hid rfl⟩
    case round =>
      obtain ⟨j, hj, rfl, hr⟩ := hrel
      by_cases hlt : j < V.length
      · obtain ⟨b, off, x, rfl, hb, hx, hi, hc⟩ := H.out.at_ hlt
        have HA := Lib.hid (any_drop (p := fun i : Int => decide (i < 0) || decide (1000 < i)) hx)
        clear hx hb
        by_cases hx0 : x < 0
        · have g1 : decide (x < 0) = true := decide_eq_true hx0
          have HT : Hid (val35 V = 8) := Lib.hid (by rw [HV.out, ← hr.out, HA.out, g1]; rfl)
          go_wp2
          go_ret
          exact ⟨ret_int HT.out.symm, rfl⟩
        · have g1 : decide (x < 0) = false := decide_eq_false hx0
          by_cases hx1 : 1000 < x
          · have g2 : decide (1000 < x) = true := decide_eq_true hx1
            have HT : Hid (val35 V = 8) := Lib.hid (by rw [HV.out, ← hr.out, HA.out, g1, g2]; rfl)
            go_wp2
            go_ret
            exact ⟨ret_int HT.out.symm, rfl⟩
          · have g2 : decide (1000 < x) = false := decide_eq_false hx1
            have HR : Hid ((V.drop (j + 1)).any (fun i => decide (i < 0) || decide (1000 < i)) = V.any fun i => decide (i < 0) || decide (1000 < i)) := Lib.hid (by rw [← hr.out, HA.out, g1, g2]; rfl)
            go_wp2
            go_round
            case rel => exact ⟨j + 1, by omega, by go_num, HR⟩
            case measure => simp [intOf]; omega
      · have HT : Hid (val35 V = 0) := Lib.hid (by rw [HV.out, ← hr.out, any_end (by omega)]; rfl)
        go_wp2
        go_ret
        exact ⟨ret_int HT.out.symm, rfl⟩
end Go.Proofs.YtkoipecnmijfoaaGreat
end

section
/-! Walks of chapter 35: looked.
-/
namespace Go.Proofs.YtkoipecnmijfoaaGreat
open Go.RowKit Go.Deep
set_option linter.unusedVariables false
set_option maxRecDepth 100000

theorem lkd35_chk {O V : List Int} {R : List (List Int)} {a : Int} (h : chk35 O R ≠ 0) : lkd35 O R a V = chk35 O R := by rw [lkd35, if_pos h]
theorem lkd35_ag {O V : List Int} {R : List (List Int)} {a : Int} (h : chk35 O R = 0) (h1 : a < 0 ∨ (R.length : Int) ≤ a) : lkd35 O R a V = 2 := by rw [lkd35, if_neg (by omega), if_pos h1]
theorem lkd35_val {O V : List Int} {R : List (List Int)} {a : Int} (h : chk35 O R = 0) (h1 : ¬ (a < 0 ∨ (R.length : Int) ≤ a)) (h2 : val35 V ≠ 0) : lkd35 O R a V = val35 V := by rw [lkd35, if_neg (by omega), if_neg h1, if_pos h2]
theorem lkd35_len {O V : List Int} {R : List (List Int)} {a : Int} (h : chk35 O R = 0) (h1 : ¬ (a < 0 ∨ (R.length : Int) ≤ a)) (h2 : val35 V = 0) : lkd35 O R a V = if V.length ≠ O.length then 8 else 0 := by rw [lkd35, if_neg (by omega), if_neg h1, if_neg (by omega)]
set_option maxHeartbeats 2000000 in
theorem lLooked35 {w : World} {B C D : Nat} {A A' A3 : Option Addr} {O V : List Int} {R : List (List Int)} {cap cap' cap3 : Nat} (a : Int) (h : Rd w B A O) (h' : Rd2 w C A' R) (h3 : Rd w D A3 V) (hB : B ≤ w.heap.size) (hC : C ≤ w.heap.size) (hD : D ≤ w.heap.size) (hR : ∀ l ∈ R, l.length < 100000000000000) :
    Calls Tryz.prog 32 #[.slice A O.length cap, .slice A' R.length cap', .int .i64 a, .slice A3 V.length cap3] w fun e w' => e = .returned (.int .i64 (lkd35 O R a V)) ∧ Below w.heap.size w w' := by
  have C1 := lCheck35 (cap := cap) (cap' := cap') h h' hB hC hR
  have l1 := h.len
  have l2 := h'.len
  have l3 := h3.len
  by_cases hk : chk35 O R = 0
  · have f0 : (chk35 O R != 0) = false := by simpa using hk
    have HC2 : Hid (∀ u, Below w.heap.size w u → Calls Tryz.prog 29 #[.slice A3 V.length cap3] u fun e w' => e = .returned (.int .i64 (val35 V)) ∧ u = w') := Lib.hid fun u hu => lCheckV (h3.below hu hD)
    have HK := Lib.hid hk
    rw [hk] at C1
    clear hk h h' h3 f0
    by_cases ha : a < 0 ∨ (R.length : Int) ≤ a
    · have HT := Lib.hid (lkd35_ag (V := V) HK.out ha)
      by_cases ha0 : a < 0
      · have g1 : decide (a < 0) = true := decide_eq_true ha0
        clear ha ha0
        go_enter Tryz.func32, Tryz.ntmps32
        go_wp2_with fail
        refine C1.mono ?_
        rintro e w1 ⟨rfl, hb⟩
        have HB := Lib.hid hb
        clear hb C1
        go_wp2
        go_ret
        exact ⟨ret_int HT.out.symm, HB.out⟩
      · have g1 : decide (a < 0) = false := decide_eq_false ha0
        have g2 : decide ((R.length : Int) ≤ a) = true := decide_eq_true (by omega)
        clear ha ha0
        go_enter Tryz.func32, Tryz.ntmps32
        go_wp2_with fail
        refine C1.mono ?_
        rintro e w1 ⟨rfl, hb⟩
        have HB := Lib.hid hb
        clear hb C1
        go_wp2
        go_ret
        exact ⟨ret_int HT.out.symm, HB.out⟩
    · have g1 : decide (a < 0) = false := decide_eq_false (by omega)
      have g2 : decide ((R.length : Int) ≤ a) = false := decide_eq_false (by omega)
      by_cases hv : val35 V = 0
      · have HT := Lib.hid (lkd35_len HK.out ha hv)
        rw [hv] at HC2
        clear ha hv
        go_enter Tryz.func32, Tryz.ntmps32
        go_wp2_with fail
        refine C1.mono ?_
        rintro e w1 ⟨rfl, hb⟩
        have HB := Lib.hid hb
        clear hb C1
        go_wp2_with fail
        refine (HC2.out _ HB.out).mono ?_
        rintro e w2 ⟨rfl, rfl⟩
        by_cases hl : V.length = O.length
        · have g3 : ((V.length : Int) != (O.length : Int)) = false := by rw [bne_eq_false_iff_eq]; omega
          rw [if_neg (by omega)] at HT
          clear hl
          go_wp2
          go_ret
          exact ⟨ret_int HT.out.symm, HB.out⟩
        · have g3 : ((V.length : Int) != (O.length : Int)) = true := by rw [bne_iff_ne]; omega
          rw [if_pos hl] at HT
          clear hl
          go_wp2
          go_ret
          exact ⟨ret_int HT.out.symm, HB.out⟩
      · have HT := Lib.hid (lkd35_val HK.out ha hv)
        have g3 : (val35 V != 0) = true := by rw [bne_iff_ne]; exact hv
        clear ha hv
        generalize val35 V = c at *
        go_enter Tryz.func32, Tryz.ntmps32
        go_wp2_with fail
        refine C1.mono ?_
        rintro e w1 ⟨rfl, hb⟩
        have HB := Lib.hid hb
        clear hb C1
        go_wp2_with fail
        refine (HC2.out _ HB.out).mono ?_
        rintro e w2 ⟨rfl, rfl⟩
        go_wp2
        go_ret
        exact ⟨ret_int HT.out.symm, HB.out⟩
  · have HT := Lib.hid (lkd35_chk (V := V) (a := a) hk)
    have g3 : (chk35 O R != 0) = true := by rw [bne_iff_ne]; exact hk
    clear hk h h' h3
    generalize chk35 O R = c at *
    go_enter Tryz.func32, Tryz.ntmps32
    go_wp2_with fail
    refine C1.mono ?_
    rintro e w1 ⟨rfl, hb⟩
    have HB := Lib.hid hb
    clear hb C1
    go_wp2
    go_ret
    exact ⟨ret_int HT.out.symm, HB.out⟩
end Go.Proofs.YtkoipecnmijfoaaGreat
end

section
/-! Walks of chapter 35: slices.Repeat of one number.
-/
namespace Go.Proofs.YtkoipecnmijfoaaGreat
open Go.RowKit Go.Deep
set_option linter.unusedVariables false
set_option maxRecDepth 100000

/-- k cells of x, then zeros -/
def rpL (x : Int) (n k : Nat) : List Value := (List.replicate k x ++ List.replicate (n - k) 0).map (Value.int .i64)
def rpC (x : Int) (c : Nat) : List Value := (List.replicate c x).map (Value.int .i64)
theorem rpC_length (x : Int) (c : Nat) : (rpC x c).length = c := by simp [rpC]
theorem rpC_one (x : Int) (c : Nat) : ∀ v ∈ rpC x c, v.oneCell' = true := fun v hv => ints_oneCell _ _ v hv
theorem rpC_le {x : Int} {c k m : Nat} (h : c = min k m) (j : Nat) (v : Value) (hj : (rpC x c)[j]? = some v) : (rpC x k)[j]? = some v := by
  have hlt := (List.getElem?_eq_some_iff.1 hj).1
  rw [rpC_length] at hlt
  rw [rpC, List.getElem?_map, List.getElem?_eq_getElem (by simpa using hlt), List.getElem_replicate] at hj
  rw [rpC, List.getElem?_map, List.getElem?_eq_getElem (by simp; omega), List.getElem_replicate]
  exact hj
theorem rpL_length {x : Int} {n k : Nat} (h : k ≤ n) : (rpL x n k).length = n := by simp [rpL]; omega
theorem splice_rp {x : Int} {n k c : Nat} (h : k + c ≤ n) : splice (rpL x n k) k (rpC x c) = rpL x n (k + c) := by
  rw [splice, rpC_length, rpL, rpL, rpC, ← List.map_take, ← List.map_drop, ← List.map_append, ← List.map_append]
  congr 1
  apply List.ext_getElem
  · simp; omega
  · intro i h1 h2
    simp only [List.getElem_append, List.length_take, List.length_append, List.length_replicate, List.getElem_take, List.getElem_replicate, List.getElem_drop]
    repeat' split
    all_goals first | rfl | omega
theorem rpL_cell {w : World} {g T : Nat} {x : Int} {n k : Nat} (h : w.heap[g]? = some (.cells (rpL x n k).toArray T (0, 0))) : ∀ (j : Nat) (v : Value), (rpC x k)[j]? = some v → w.cell? ((⟨g, 0, none⟩ : Addr).add j) = some v := by
  intro j v hj
  rw [addr_add, Nat.zero_add, cell_of_row w g j _ T (0, 0) h]
  rw [rpC, List.getElem?_map] at hj
  have hlt : j < k := by
    rcases Nat.lt_or_ge j k with h | h
    · exact h
    · rw [List.getElem?_eq_none (by simpa using h)] at hj; cases hj
  rw [List.getElem?_eq_getElem (by simpa using hlt), List.getElem_replicate] at hj
  simp only [Option.map_some, Option.some.injEq] at hj
  rw [← hj]
  simp only [rpL, List.getElem?_toArray, List.getElem?_map]
  rw [List.getElem?_append_left (by simpa using hlt), List.getElem?_eq_getElem (by simpa using hlt), List.getElem_replicate]
  rfl
theorem own_rp {w : World} {g T : Nat} {x : Int} {n : Nat} (h : w.heap[g]? = some (.cells (rpL x n n).toArray T (0, 0))) : Own w g T (List.replicate n x) := by
  rw [Own, h, rpL, Nat.sub_self]
  simp
theorem rp_own {w : World} {g T : Nat} {x : Int} {n : Nat} (h : Own w g T (List.replicate n 0)) : w.heap[g]? = some (.cells (rpL x n 0).toArray T (0, 0)) := by
  rw [h, rpL]
  simp
theorem one_src {w : World} {g0 : Nat} {x : Int} {c : Nat} (h : w.cell? ⟨g0, 0, none⟩ = some (.int .i64 x)) (hc : c ≤ 1) : ∀ (j : Nat) (v : Value), (rpC x c)[j]? = some v → w.cell? ((⟨g0, 0, none⟩ : Addr).add j) = some v := by
  intro j v hj
  rw [rpC, List.getElem?_map] at hj
  rcases Nat.lt_or_ge j c with hlt | hge
  · rw [List.getElem?_eq_getElem (by simpa using hlt), List.getElem_replicate] at hj
    simp only [Option.map_some, Option.some.injEq] at hj
    obtain rfl : j = 0 := by omega
    rw [addr_add, ← hj]; exact h
  · rw [List.getElem?_eq_none (by simpa using hge)] at hj; cases hj
/-- a new row that is just L -/
def NewOwn (w : World) (T : Nat) (L : List Int) (e : Ending) (w' : World) : Prop :=
  ∃ g, e = .returned (.slice (some ⟨g, 0, none⟩) L.length L.length) ∧ w.heap.size ≤ g ∧ Own w' g T L ∧ Below w.heap.size w w'
set_option maxHeartbeats 400000 in
theorem repeat1 {w : World} {g0 n : Nat} {x : Int} (hc : w.cell? ⟨g0, 0, none⟩ = some (.int .i64 x)) (hg0 : g0 < w.heap.size) (hn : n ≤ 1000) :
    Calls Tryz.prog 55 #[.slice (some ⟨g0, 0, none⟩) 1 1, .int .i64 (n : Int)] w (NewOwn w 3 (List.replicate n x)) := by
  have CM := Tryz.bits_Mul 1 n (by decide) (by omega) w
  rw [Nat.one_mul, Nat.div_eq_of_lt (by omega), Nat.mod_eq_of_lt (by omega)] at CM
  have hmk := fun u => run_make_row' (P := Tryz.prog) 22 3 (.int .i64 0) 8 Tryz.underlying22 infoInt' rfl .i64 .i64 n (by omega) (by omega) u
  have f1 : decide ((9223372036854775807 : Int) < (n : Int)) = false := decide_eq_false (by omega)
  have f2 : decide ((n : Int) < 0) = false := decide_eq_false (by omega)
  have HG0 := Lib.hid hg0
  clear hg0
  go_enter Tryz.func55, Tryz.ntmps55
  go_wp2_with fail
  refine CM.mono ?_
  rintro e w ⟨rfl, rfl⟩
  clear CM
  have hown := Own.made w 3 n
  have hb1 := Below.alloc (B := w.heap.size) (Below.refl _ w) (Nat.le_refl _) (.cells (madeCells #[Value.int .i64 0] n) 3)
  have HC := Lib.hid ((hb1.cell (p := ⟨g0, 0, none⟩) HG0.out).trans hc)
  have HR0 := Lib.hid (rp_own (x := x) hown)
  have HB1 := Lib.hid hb1
  have hmk0 := hmk w
  have HM1 : Hid (min 1 n ≤ n) := Lib.hid (by omega)
  clear hown hb1 hc hmk
  generalize w.alloc (.cells (madeCells #[Value.int .i64 0] n) 3) = w2 at *
  go_wp2_with (with_reducible show wpList _ _ _ _ _ _; refine wpList_copy_splice (o := ⟨some 33, _, _, _, _, _⟩) rfl (.tmp 31) (.tmp 32) 22 22 rfl 3 Tryz.underlying22 (by kernel_rfl) _ _ _ _ _ _ rfl rfl w.heap.size 0 (rpL x n 0) 3 HR0.out (rpC x (min 1 n)) (rpC_length _ _) (fun h => ⟨rfl, ⟨g0, 0, none⟩, rfl, one_src HC.out (Nat.min_le_left _ _)⟩) (by rw [rpC_length, rpL_length (Nat.zero_le _)]; have := HM1.out; omega) (rpC_one _ _) w.heap.size w HB1.out (Nat.le_refl _) ?_; intro w3 hg3 hb3; rw [splice_rp (by have := HM1.out; omega), Nat.zero_add] at hg3; have HB3 := Lib.hid hb3; clear hb3)
  have HR3 := hg3
  clear hg3 HR0 HC HB1 hmk0
  go_loopw [8] (fun iv wr => ∃ k : Nat, k ≤ n ∧ (0 < n → 0 < k) ∧ iv = .int .i64 k ∧ Hid (wr.heap[w.heap.size]? = some (.cells (rpL x n k).toArray 3 (0, 0))) ∧ Hid (Below w.heap.size w wr)) (fun iv _ => n - (intOf iv).toNat)
  case atStart => exact ⟨min 1 n, by omega, by omega, by simp [rpC_length], HR3, HB3⟩
  case round =>
    obtain ⟨k, hk, hk0, rfl, hr, hb⟩ := hrel
    by_cases hlt : k < n
    · have HK : Hid (0 < k) := Lib.hid (hk0 (by omega))
      clear hk0
      obtain ⟨c, hc1, hc2, hc3⟩ : ∃ c, c = min k (n - k) ∧ k + c ≤ n ∧ 0 < c := ⟨_, rfl, by omega, by have := HK.out; omega⟩
      have HC1 := Lib.hid hc1
      have HRD : Hid (wr.drew.heap[w.heap.size]? = some (.cells (rpL x n k).toArray 3 (0, 0))) := Lib.hid hr.out
      have hne : ¬ n = k := by omega
      have hrun := run_copy_row (P := Tryz.prog) wr.drew 22 22 3 3 w.heap.size k (n - k) (n - k) ⟨w.heap.size, 0, none⟩ k n (rpL x n k).toArray 3 (rpC x c) Tryz.underlying22 (by kernel_rfl) HRD.out ((rpC_length _ _).trans HC1.out) (fun j v hj => rpL_cell HRD.out j v (rpC_le HC1.out j v hj)) (by rw [rpC_length, List.size_toArray, rpL_length hk]; omega) (rpC_one _ _)
      rw [List.toList_toArray] at hrun
      have hset := setRow_heap wr.drew w.heap.size _ (splice (rpL x n k) k (rpC x c)).toArray 3 _ HRD.out
      have hbel := below_setRow hb.out.drew (Nat.le_refl _) (splice (rpL x n k) k (rpC x c)).toArray
      rw [splice_rp hc2] at hset hbel
      have HSET := Lib.hid hset
      have HBEL := Lib.hid hbel
      have he : (List.take k (rpL x n k) ++ (rpC x c ++ List.drop (k + (rpC x c).length) (rpL x n k))) = rpL x n (k + c) := splice_rp hc2
      rw [List.append_assoc, he, rpC_length] at hrun
      clear hset hbel he hc1
      generalize wr.drew.setRow w.heap.size (rpL x n (k + c)).toArray = w4 at *
      go_wp2_with fail
      go_region
      go_wp2
      go_roundw
      case rel => exact ⟨k + c, by omega, by omega, by go_num, HSET, HBEL⟩
      case measure => simp [intOf]; omega
    · obtain rfl : k = n := by omega
      clear hk0
      go_wp2
      go_ret
      exact ⟨w.heap.size, by rw [List.length_replicate]; rfl, Nat.le_refl _, own_rp hr.out, hb.out⟩
end Go.Proofs.YtkoipecnmijfoaaGreat
end

section
/-! Walks of chapter 35: pick.
-/
namespace Go.Proofs.YtkoipecnmijfoaaGreat
open Go.RowKit Go.Deep
set_option linter.unusedVariables false
set_option maxRecDepth 100000

theorem rIdx_find {p : Int → Bool} : ∀ {L : List Int} {g : Int} (k : Nat), L.find? p = some g → ∃ j : Nat, rIdx p L k = ((k + j : Nat) : Int) ∧ L[j]? = some g
  | [], g, k, h => by simp at h
  | x :: t, g, k, h => by
    by_cases hx : p x = true
    · rw [List.find?_cons_of_pos hx] at h
      cases h
      exact ⟨0, by rw [rIdx_yes hx]; rfl, rfl⟩
    · have hx' : p x = false := by simpa using hx
      rw [List.find?_cons_of_neg hx] at h
      obtain ⟨j, h1, h2⟩ := rIdx_find (k + 1) h
      exact ⟨j + 1, by rw [rIdx_no hx', show (k : Int) + 1 = ((k + 1 : Nat) : Int) by omega, h1]; congr 1; omega, by simpa using h2⟩
theorem pickK_at {O : List Int} {R : List (List Int)} {k : Nat} {i g : Int} {L : List Int} (hi : O[k]? = some i) (hL : R[i.toNat]? = some L) (hg : L.find? (freeG (pickK O R k)) = some g) : pickK O R (k + 1) = (pickK O R k).set g.toNat i := by
  have h1 : O.getD k 0 = i := by rw [List.getD_eq_getElem?_getD, hi]; rfl
  have h2 : R.getD i.toNat [] = L := by rw [List.getD_eq_getElem?_getD, hL]; rfl
  rw [pickK, h1, h2, pickS, hg]
theorem lPickG {w : World} {b g c : Nat} {T : Nat} {out : List Int} {x : Int} (hb : w.cell? ⟨b, 0, none⟩ = some (.slice (some ⟨g, 0, none⟩) out.length c)) (ho : Own w g T out) (hx : ∃ a : Nat, x = a ∧ a < out.length) :
    Calls Tryz.prog 56 #[.int .i64 x, .pointer (some ⟨b, 0, none⟩)] w fun e w' => e = .returned (.bool (freeG out x)) ∧ w = w' := by
  obtain ⟨a, rfl, ha⟩ := hx
  obtain ⟨y, hy⟩ : ∃ y, out[a]? = some y := ⟨out[a], by simp [ha]⟩
  have hc := ho.cell hy
  have hf : freeG out (a : Int) = decide (y < 0) := by rw [freeG, Int.toNat_natCast, List.getD_eq_getElem?_getD, hy]; rfl
  have HF := Lib.hid hf
  clear hf hy ho
  go_enter Tryz.func56, Tryz.ntmps56
  go_wp2
  go_ret
  exact ⟨ret_bool HF.out.symm, rfl⟩
/-- a number or an order that fits -/
theorem OR.at_ {O : List Int} {R : List (List Int)} (h : OR O R) {k : Nat} {i : Int} (hi : O[k]? = some i) : ∃ a : Nat, i = a ∧ a < R.length := by
  have := h.ag i (List.mem_of_getElem? hi)
  exact ⟨i.toNat, by omega, by omega⟩
theorem OR.mem {O : List Int} {R : List (List Int)} (h : OR O R) {a : Nat} {L : List Int} (hL : R[a]? = some L) {x : Int} (hx : x ∈ L) : ∃ g : Nat, x = g ∧ g < O.length :=
  iota_mem.1 ((h.ord L (List.mem_of_getElem? hL)).mem_iff.2 hx)
theorem OR.len {O : List Int} {R : List (List Int)} (h : OR O R) {a : Nat} {L : List Int} (hL : R[a]? = some L) : L.length = O.length := by
  rw [← (h.ord L (List.mem_of_getElem? hL)).length_eq, iota_length]
set_option maxHeartbeats 1000000 in
theorem lPickW {w : World} {B C : Nat} {A A' : Option Addr} {O : List Int} {R : List (List Int)} {cap cap' : Nat} (h : Rd w B A O) (h' : Rd2 w C A' R) (hB : B ≤ w.heap.size) (hC : C ≤ w.heap.size) (hor : OR O R) :
    Calls Tryz.prog 27 #[.slice A O.length cap, .slice A' R.length cap'] w (NewOwn w 3 (pickK O R O.length)) := by
  have HOR := Lib.hid hor
  have H := Lib.hid h
  have H' := Lib.hid h'
  have l1 := hor.o6
  have l2 := hor.r6
  have hal : Below w.heap.size w (w.alloc (.cells #[.int .i64 (-1)] 3)) := (Below.refl _ _).alloc (Nat.le_refl _) _
  have hc0 : (w.alloc (.cells #[.int .i64 (-1)] 3)).cell? ⟨w.heap.size, 0, none⟩ = some (.int .i64 (-1)) := by simp
  have hs0 : (w.alloc (.cells #[.int .i64 (-1)] 3)).heap.size = w.heap.size + 1 := by simp
  have CR := repeat1 (n := O.length) hc0 (by rw [hs0]; omega) (by omega)
  have HAL := Lib.hid hal
  have HS0 := Lib.hid hs0
  clear h h' hor hal hc0 hs0
  go_enter Tryz.func27, Tryz.ntmps27
  go_wp2_with fail
  refine CR.mono ?_
  rintro e w2 ⟨g, rfl, hg, ho, hb2⟩
  rw [List.length_replicate]
  have hgs := HS0.out
  have hbx := (HAL.out.trans (hb2.mono (by omega))).alloc (by have := hb2.size; omega) (.cells #[.slice (some ⟨g, 0, none⟩) O.length O.length] 22)
  have hox := ho.alloc (.cells #[.slice (some ⟨g, 0, none⟩) O.length O.length] 22)
  have hcx : (w2.alloc (.cells #[.slice (some ⟨g, 0, none⟩) O.length O.length] 22)).cell? ⟨w2.heap.size, 0, none⟩ = some (.slice (some ⟨g, 0, none⟩) O.length O.length) := by simp
  have HGL := Lib.hid ho.lt
  have HG : Hid (w.heap.size ≤ g) := Lib.hid (by omega)
  have HBX := Lib.hid hbx
  have HOX := Lib.hid hox
  have HCX := Lib.hid hcx
  clear hg ho hb2 hgs hbx hox hcx CR HAL HS0
  go_wp2_with fail
  generalize hw3 : w2.alloc (.cells #[.slice (some ⟨g, 0, none⟩) O.length O.length] 22) = w3 at *
  clear hw3
  generalize hbb : w2.heap.size = bx at *
  clear hbb w2
  go_loopw [15] (fun iv wr => ∃ k : Nat, k ≤ O.length ∧ iv = .int .i64 k ∧ Hid (Own wr g 3 (pickK O R k)) ∧ Hid (wr.cell? ⟨bx, 0, none⟩ = some (.slice (some ⟨g, 0, none⟩) O.length O.length)) ∧ Hid (Below w.heap.size w wr)) (fun iv _ => O.length - (intOf iv).toNat)
  case atStart => exact ⟨0, by omega, rfl, HOX, HCX, HBX⟩
  case round =>
    obtain ⟨k, hk, rfl, ho, hc, hb⟩ := hrel
    by_cases hlt : k < O.length
    · obtain ⟨b1, o1, i, rfl, hb1, hi, hi64, hci⟩ := (H.out.below hb.out hB).at_ hlt
      obtain ⟨a, rfl, ha⟩ := HOR.out.at_ hi
      obtain ⟨b2, o2, L, A2, c2, rfl, hb2, hL, hcL, hrd⟩ := (H'.out.below hb.out hC).at_ ha
      obtain ⟨gd, hgd, hgl⟩ := pick_some HOR.out hlt (HOR.out.ord L (List.mem_of_getElem? hL))
      obtain ⟨j, hj1, hj2⟩ := rIdx_find 0 hgd
      rw [Nat.zero_add] at hj1
      have hjl : j < L.length := (List.getElem?_eq_some_iff.1 hj2).1
      have hll := HOR.out.len hL
      obtain ⟨b3, o3, x3, rfl, hb3, hx3, _, hc3⟩ := hrd.at_ hjl
      rw [hj2] at hx3
      cases hx3
      have hpl := pickK_length O R k
      obtain ⟨y, hy⟩ : ∃ y, (pickK O R k)[gd]? = some y := ⟨(pickK O R k)[gd]'(by omega), by simp⟩
      have hcy := ho.out.cell hy
      have hfy := ho.out.frozen gd
      have hst := pickK_at (L := L) hi (by rw [Int.toNat_natCast]; exact hL) hgd
      rw [Int.toNat_natCast] at hst
      have hnext := ho.out.drew.store gd (a : Int)
      rw [← hst] at hnext
      have CI := indexInts (cap := c2) hrd 56 #[.pointer (some ⟨bx, 0, none⟩)] (freeG (pickK O R k)) (fun args u => by kernel_rfl) (fun x hx _ => lPickG (b := bx) (g := g) (c := O.length) (by rw [hpl]; exact hc.out) ho.out (by rw [hpl]; exact HOR.out.mem hL hx))
      rw [show ((0 : Nat) : Int) = 0 from rfl] at hj1
      rw [hj1] at CI
      have HNEXT := Lib.hid hnext
      have hcb := hc.out
      have HB3 := Lib.hid (hb.out.drew.setCell (p := ⟨g, gd, none⟩) HG.out (.int .i64 (a : Int)))
      have HCI := Lib.hid CI
      have hne : bx ≠ g := by have := HGL.out; omega
      have hcn : (wr.drew.setCell ⟨g, gd, none⟩ (.int .i64 (a : Int))).cell? ⟨bx, 0, none⟩ = some (.slice (some ⟨g, 0, none⟩) O.length O.length) := (World.cell?_setCell_other _ _ _ _ (by intro e; cases e; exact hne rfl)).trans hc.out
      have HCN := Lib.hid hcn
      have hjo : (j : Int) < (L.length : Int) := by omega
      have hgo : (gd : Int) < (O.length : Int) := by omega
      clear CI hnext hst hpl hgd hj1 hj2 hi64 hi hL hll hrd hcn hy
      go_wp2_with fail
      refine HCI.out.mono ?_
      rintro e w4 ⟨rfl, rfl⟩
      go_wp2_with fail
      go_still_tail 10, (by kernel_rfl)
      change wpList _ _ _ _ _ wr.drew
      have hcy' : wr.drew.cell? ⟨g, gd, none⟩ = some (.int .i64 y) := hcy
      have hfy' : wr.drew.frozen? ⟨g, gd, none⟩ = false := hfy
      go_wp2
      go_roundw
      case rel => exact ⟨k + 1, by omega, by go_num, HNEXT, HCN, HB3⟩
      case measure => simp [intOf]; omega
    · obtain rfl : k = O.length := by omega
      have hcb := hc.out
      go_wp2
      go_ret
      exact ⟨g, by rw [pickK_length]; rfl, HG.out, ho.out, hb.out⟩
end Go.Proofs.YtkoipecnmijfoaaGreat
end

section
/-! Walks of chapter 35: the reference's picked; Pick; has.
-/
namespace Go.Proofs.YtkoipecnmijfoaaGreat
open Go.RowKit Go.Deep
set_option linter.unusedVariables false
set_option maxRecDepth 100000

theorem find_drop {p : Int → Bool} {L : List Int} {q : Nat} {x g : Int} (hx : L[q]? = some x) (h : (L.drop q).find? p = some g) : (p x = true ∧ x = g) ∨ (p x = false ∧ (L.drop (q + 1)).find? p = some g) := by
  rw [dropA_of hx] at h
  by_cases hp : p x = true
  · rw [List.find?_cons_of_pos hp] at h
    cases h
    exact .inl ⟨hp, rfl⟩
  · rw [List.find?_cons_of_neg hp] at h
    exact .inr ⟨by simpa using hp, h⟩
end Go.Proofs.YtkoipecnmijfoaaGreat
end

section
/-! Walks of chapter 35: Pick, has, sum, Has.
-/
namespace Go.Proofs.YtkoipecnmijfoaaGreat
open Go.RowKit Go.Deep
set_option linter.unusedVariables false
set_option maxRecDepth 100000

/-- a list and an error -/
def RowE (w : World) (L : List Int) (c : Int) (e : Ending) (w' : World) : Prop :=
  ∃ A cap, e = .returned (.tuple #[.slice A L.length cap, .int .i64 c]) ∧ Rd w' w'.heap.size A L ∧ Below w.heap.size w w'
theorem RowE.none_ (w w' : World) (c : Int) (h : Below w.heap.size w w') : RowE w [] c (.returned (.tuple #[.slice none 0 0, .int .i64 c])) w' := ⟨none, 0, rfl, Rd.nil _ _ _, h⟩
def pkL (O : List Int) (R : List (List Int)) : List Int := if chk35 O R = 0 then pickK O R O.length else []
theorem pick_rd {w : World} {g T : Nat} {O : List Int} {R : List (List Int)} {k : Nat} (h : OR O R) (hk : k ≤ O.length) (ho : Own w g T (pickK O R k)) : Rd w w.heap.size (some ⟨g, 0, none⟩) (pickK O R k) :=
  ho.rd (fun x hx => by have := pickK_bd h k hk x hx; have := h.r6; unfold I64; omega) (by rw [pickK_length]; have := h.o6; omega) ho.lt
set_option maxHeartbeats 1000000 in
theorem lPickE {w : World} {B C : Nat} {A A' : Option Addr} {O : List Int} {R : List (List Int)} {cap cap' : Nat} (h : Rd w B A O) (h' : Rd2 w C A' R) (hB : B ≤ w.heap.size) (hC : C ≤ w.heap.size) (hR : ∀ l ∈ R, l.length < 100000000000000) :
    Calls Tryz.prog 7 #[.slice A O.length cap, .slice A' R.length cap'] w (RowE w (pkL O R) (chk35 O R)) := by
  have C1 := lCheck35 (cap := cap) (cap' := cap') h h' hB hC hR
  by_cases hk : chk35 O R = 0
  · have HOR := Lib.hid (chk35_zero hk)
    have C2 : Hid (∀ u, Below w.heap.size w u → Calls Tryz.prog 27 #[.slice A O.length cap, .slice A' R.length cap'] u (NewOwn u 3 (pickK O R O.length))) := Lib.hid fun u hu => lPickW (h.below hu hB) (h'.below hu hC) (Nat.le_trans hB hu.size) (Nat.le_trans hC hu.size) HOR.out
    have HL : Hid (pkL O R = pickK O R O.length) := Lib.hid (by rw [pkL, if_pos hk])
    rw [hk] at C1 ⊢
    clear hk h h'
    go_enter Tryz.func7, Tryz.ntmps7
    go_wp2_with fail
    refine C1.mono ?_
    rintro e w1 ⟨rfl, hb⟩
    have HB := Lib.hid hb
    clear hb C1
    go_wp2_with fail
    refine (C2.out _ HB.out).mono ?_
    rintro e w2 ⟨g, rfl, hg, ho, hb2⟩
    have HO := Lib.hid ho
    have HB2 := Lib.hid (HB.out.trans (hb2.mono HB.out.size))
    clear hg ho hb2
    go_wp2
    go_ret2
    rw [HL.out]
    exact ⟨_, _, rfl, pick_rd HOR.out (Nat.le_refl _) HO.out, HB2.out⟩
  · have HL : Hid (pkL O R = []) := Lib.hid (by rw [pkL, if_neg hk])
    have hne : (chk35 O R != 0) = true := by rw [bne_iff_ne]; exact hk
    clear hk h h'
    generalize chk35 O R = c at *
    go_enter Tryz.func7, Tryz.ntmps7
    go_wp2_with fail
    refine C1.mono ?_
    rintro e w1 ⟨rfl, hb⟩
    have HB := Lib.hid hb
    clear hb C1
    go_wp2
    go_ret2
    rw [HL.out]
    exact RowE.none_ _ _ _ HB.out
theorem hasTo_succ {A V : List Int} {a i v : Int} {k : Nat} (hi : A[k]? = some i) (hv : V[k]? = some v) : hasTo A V a (k + 1) = hasTo A V a k + if i = a then v else 0 := by
  rw [hasTo, List.getD_eq_getElem?_getD, hi, List.getD_eq_getElem?_getD, hv]; rfl
set_option maxHeartbeats 1000000 in
theorem lHasW {w : World} {B C D : Nat} {A A' A3 : Option Addr} {O V : List Int} {R : List (List Int)} {cap cap' cap3 : Nat} (a : Int) (h : Rd w B A O) (h' : Rd2 w C A' R) (h3 : Rd w D A3 V) (hB : B ≤ w.heap.size) (hC : C ≤ w.heap.size) (hD : D ≤ w.heap.size) (hor : OR O R) (hv : VR V O) :
    Calls Tryz.prog 35 #[.slice A O.length cap, .slice A' R.length cap', .int .i64 a, .slice A3 V.length cap3] w fun e w' => e = .returned (.int .i64 (hasV O R a V)) ∧ Below w.heap.size w w' := by
  have C1 := lPickW (cap := cap) (cap' := cap') h h' hB hC hor
  have hpl := pickK_length O R O.length
  have hps := fun (u : World) (g : Nat) (ho : Own u g 3 (pickK O R O.length)) => pick_rd hor (Nat.le_refl _) ho
  have hvl := hv.len
  have hbd := fun k => hasTo_bd (A := pickK O R O.length) (a := a) hv.bd k
  have HH : Hid (hasV O R a V = hasTo (pickK O R O.length) V a O.length) := Lib.hid rfl
  have l1 := hor.o6
  generalize pickK O R O.length = P at *
  have H3 := Lib.hid h3
  have HPS := Lib.hid hps
  have HBD := Lib.hid hbd
  have HPL := Lib.hid hpl
  have HVL := Lib.hid hvl
  clear h h' h3 hor hv hps hbd hvl hpl
  go_enter Tryz.func35, Tryz.ntmps35
  go_wp2_with fail
  refine C1.mono ?_
  rintro e w1 ⟨g, rfl, hg, ho, hb⟩
  rw [HPL.out]
  have HRD := Lib.hid (HPS.out _ _ ho)
  have H3' := Lib.hid (H3.out.below hb hD)
  have HB := Lib.hid hb
  clear hg ho hb C1 HPS
  go_wp2_with fail
  go_loop [9, 16] (fun acc iv => ∃ k : Nat, k ≤ O.length ∧ iv = .int .i64 k ∧ acc = .int .i64 (hasTo P V a k)) (fun _ iv => O.length - (intOf iv).toNat)
  case atStart => exact ⟨0, by omega, rfl, rfl⟩
  case round =>
    obtain ⟨k, hk, rfl, rfl⟩ := hrel
    have hb1 := HBD.out k
    by_cases hlt : k < O.length
    · obtain ⟨b1, o1, i, e1, hbb, hi, hi64, hci⟩ := HRD.out.at_ (k := k) (by rw [HPL.out]; exact hlt)
      cases e1
      obtain ⟨b2, o2, v, rfl, hb2, hvv, hv64, hcv⟩ := H3'.out.at_ (k := k) (by rw [HVL.out]; exact hlt)
      have hvk : (k : Int) < (V.length : Int) := by have := HVL.out; omega
      have hst := hasTo_succ (a := a) hi hvv
      have hb2' := HBD.out (k + 1)
      rw [Nat.zero_add] at hci
      clear hi hvv hi64 hv64
      have HRES : Hid (∀ n2, n2 = hasTo P V a (k + 1) → n2 = hasTo P V a (k + 1)) := Lib.hid fun _ h => h
      by_cases hia : i = a
      · subst hia
        rw [if_pos rfl] at hst
        have HST := Lib.hid hst
        rw [hst] at hb2'
        have hlim : -9223372036854775808 ≤ hasTo P V i k + v ∧ hasTo P V i k + v ≤ 9223372036854775807 := by omega
        clear hst
        generalize hasTo P V i k = n1 at *
        go_wp2
        go_round
        case rel => exact ⟨k + 1, by omega, by go_num, by rw [HST.out]⟩
        case measure => simp [intOf]; omega
      · have hne : (i == a) = false := by rw [beq_eq_false_iff_ne]; exact hia
        rw [if_neg hia, Int.add_zero] at hst
        have HST := Lib.hid hst
        clear hst hb2' hia
        generalize hasTo P V a k = n1 at *
        go_wp2
        go_round
        case rel => exact ⟨k + 1, by omega, by go_num, by rw [HST.out]⟩
        case measure => simp [intOf]; omega
    · obtain rfl : k = O.length := by omega
      go_wp2
      go_ret
      exact ⟨ret_int HH.out.symm, HB.out⟩
theorem infoRow : (Tryz.prog.info? 22).map (fun i => (i.zero, i.size, i.bytes)) = some (some (.slice none 0 0), 1, 24) := by kernel_rfl
theorem VRowsN.snoc0 {w : World} {f : Value} {vs : List Value} {F : List (List Int)} (h : VRowsN w f vs F) {A : Option Addr} {L : List Int} {c : Nat} (hr : Rd w w.heap.size A L) (hn : 0 < L.length → ∀ p, A = some p → f.ownBlock ≠ some p.block) : VRowsN w f (vs ++ [.slice A L.length c]) (F ++ [L]) := by
  refine ⟨by simp [h.1], fun i M hi => ?_⟩
  rcases Nat.lt_or_ge i F.length with hlt | hge
  · rw [List.getElem?_append_left hlt] at hi
    obtain ⟨A', c', h1, h2, h3⟩ := h.2 i M hi
    exact ⟨A', c', by rw [List.getElem?_append_left (by rw [h.1]; exact hlt)]; exact h1, h2, h3⟩
  · rw [List.getElem?_append_right hge] at hi
    have hi0 : i - F.length = 0 := by
      rcases Nat.eq_zero_or_pos (i - F.length) with h0 | h0
      · exact h0
      · rw [List.getElem?_eq_none (by simp; omega)] at hi; cases hi
    rw [hi0] at hi
    cases hi
    exact ⟨A, c, by rw [List.getElem?_append_right (by rw [h.1]; exact hge), h.1, hi0]; rfl, hr, hn⟩
theorem set_take_succ {α : Type} {R : List α} {a k : Nat} {x : α} (h : (R.set a x).length = R.length) {y : α} (hy : (R.set a x)[k]? = some y) : (R.set a x).take (k + 1) = (R.set a x).take k ++ [y] := takeA_succ hy
end Go.Proofs.YtkoipecnmijfoaaGreat
end

section
/-! Walks of chapter 35: the reference's sum; Has.
-/
namespace Go.Proofs.YtkoipecnmijfoaaGreat
open Go.RowKit Go.Deep
set_option linter.unusedVariables false
set_option maxRecDepth 100000

/-- the values vs are slices that read as the lists F below block B of the world w -/
def VFix (w : World) (B : Nat) (vs : List Value) (F : List (List Int)) : Prop :=
  vs.length = F.length ∧ ∀ (i : Nat) (L : List Int), F[i]? = some L → ∃ A c, vs[i]? = some (.slice A L.length c) ∧ Rd w B A L
theorem VFix.nil (w : World) (B : Nat) : VFix w B [] [] := ⟨rfl, by simp⟩
theorem VFix.snoc {w : World} {B : Nat} {vs : List Value} {F : List (List Int)} (h : VFix w B vs F) {A : Option Addr} {L : List Int} (c : Nat) (hr : Rd w B A L) : VFix w B (vs ++ [.slice A L.length c]) (F ++ [L]) := by
  refine ⟨by simp [h.1], fun i M hi => ?_⟩
  rcases Nat.lt_or_ge i F.length with hlt | hge
  · rw [List.getElem?_append_left hlt] at hi
    obtain ⟨A', c', h1, h2⟩ := h.2 i M hi
    exact ⟨A', c', by rw [List.getElem?_append_left (by rw [h.1]; exact hlt)]; exact h1, h2⟩
  · rw [List.getElem?_append_right hge] at hi
    have hi0 : i - F.length = 0 := by
      rcases Nat.eq_zero_or_pos (i - F.length) with h0 | h0
      · exact h0
      · rw [List.getElem?_eq_none (by simp; omega)] at hi; cases hi
    rw [hi0] at hi
    cases hi
    exact ⟨A, c, by rw [List.getElem?_append_right (by rw [h.1]; exact hge), h.1, hi0]; rfl, hr⟩
theorem VFix.rows {w w' : World} {vs : List Value} {F : List (List Int)} (h : VFix w w.heap.size vs F) (hb : Below w.heap.size w w') : VRows w' vs F :=
  ⟨h.1, fun i L hi => by
    obtain ⟨A, c, h1, h2⟩ := h.2 i L hi
    exact ⟨A, c, h1, (h2.below hb (Nat.le_refl _)).more hb.size⟩⟩
end Go.Proofs.YtkoipecnmijfoaaGreat
end

section
/-! Walks of chapter 35: Has.
-/
namespace Go.Proofs.YtkoipecnmijfoaaGreat
open Go.RowKit Go.Deep
set_option linter.unusedVariables false
set_option maxRecDepth 100000

def hsV (O : List Int) (R : List (List Int)) (a : Int) (V : List Int) : Int := if lkd35 O R a V = 0 then hasV O R a V else 0
/-- two numbers -/
def TwoI (w : World) (n c : Int) (e : Ending) (w' : World) : Prop := e = .returned (.tuple #[.int .i64 n, .int .i64 c]) ∧ Below w.heap.size w w'
set_option maxHeartbeats 1000000 in
theorem lHasE {w : World} {B C D : Nat} {A A' A3 : Option Addr} {O V : List Int} {R : List (List Int)} {cap cap' cap3 : Nat} (a : Int) (h : Rd w B A O) (h' : Rd2 w C A' R) (h3 : Rd w D A3 V) (hB : B ≤ w.heap.size) (hC : C ≤ w.heap.size) (hD : D ≤ w.heap.size) (hR : ∀ l ∈ R, l.length < 100000000000000) :
    Calls Tryz.prog 13 #[.slice A O.length cap, .slice A' R.length cap', .int .i64 a, .slice A3 V.length cap3] w (TwoI w (hsV O R a V) (lkd35 O R a V)) := by
  have C1 := lLooked35 (cap := cap) (cap' := cap') (cap3 := cap3) a h h' h3 hB hC hD hR
  by_cases hk : lkd35 O R a V = 0
  · obtain ⟨hor, hv, ha0, ha1⟩ := lkd35_zero hk
    have C2 : Hid (∀ u, Below w.heap.size w u → Calls Tryz.prog 35 #[.slice A O.length cap, .slice A' R.length cap', .int .i64 a, .slice A3 V.length cap3] u fun e w' => e = .returned (.int .i64 (hasV O R a V)) ∧ Below u.heap.size u w') := Lib.hid fun u hu => lHasW a (h.below hu hB) (h'.below hu hC) (h3.below hu hD) (Nat.le_trans hB hu.size) (Nat.le_trans hC hu.size) (Nat.le_trans hD hu.size) hor hv
    have HL : Hid (hsV O R a V = hasV O R a V) := Lib.hid (by rw [hsV, if_pos hk])
    rw [hk] at C1 ⊢
    rw [HL.out]
    clear hk h h' h3 hor hv ha0 ha1 HL
    generalize hasV O R a V = n at *
    go_enter Tryz.func13, Tryz.ntmps13
    go_wp2_with fail
    refine C1.mono ?_
    rintro e w1 ⟨rfl, hb⟩
    have HB := Lib.hid hb
    clear hb C1
    go_wp2_with fail
    refine (C2.out _ HB.out).mono ?_
    rintro e w2 ⟨rfl, hb⟩
    have HB2 := Lib.hid (HB.out.trans (hb.mono HB.out.size))
    clear hb
    go_wp2
    go_ret2
    exact ⟨rfl, HB2.out⟩
  · have HL : Hid (hsV O R a V = 0) := Lib.hid (by rw [hsV, if_neg hk])
    have hne : (lkd35 O R a V != 0) = true := by rw [bne_iff_ne]; exact hk
    rw [HL.out]
    clear hk h h' h3 HL
    generalize lkd35 O R a V = c at *
    go_enter Tryz.func13, Tryz.ntmps13
    go_wp2_with fail
    refine C1.mono ?_
    rintro e w1 ⟨rfl, hb⟩
    have HB := Lib.hid hb
    clear hb C1
    go_wp2
    go_ret2
    exact ⟨rfl, HB.out⟩
end Go.Proofs.YtkoipecnmijfoaaGreat
end

section
/-! Walks of chapter 35: True.
-/
namespace Go.Proofs.YtkoipecnmijfoaaGreat
open Go.RowKit Go.Deep
set_option linter.unusedVariables false
set_option maxRecDepth 100000

def trCmp (V : List Int) (a b : Int) : Int := V.getD b.toNat 0 - V.getD a.toNat 0
/-- the true ranking -/
def truL (V : List Int) : List Int := rkList [] V
theorem tr_lt (V : List Int) : ltOf (trCmp V) = ltOf (rkCmp [] V) := by
  funext a b
  rw [Bool.eq_iff_iff, ltOf_iff]
  unfold ltOf trCmp
  simp only [decide_eq_true_eq]
  simp only [List.getD_nil]
  omega
theorem truL_eq (V : List Int) : isort (ltOf (trCmp V)) (iota V.length) = truL V := by rw [tr_lt]; rfl
theorem truL_length (V : List Int) : (truL V).length = V.length := rkList_length _ _
def trL (V : List Int) : List Int := if val35 V = 0 then truL V else []
theorem tr_rd {w : World} {g T : Nat} {V : List Int} (h : OwnP w g T (truL V)) (hl : V.length ≤ 40) : Rd w w.heap.size (some ⟨g, 0, none⟩) (truL V) := rk_rd h hl
set_option maxHeartbeats 400000 in
theorem lTrue1 {w : World} {D b1 : Nat} {A : Option Addr} {V : List Int} {cap a b : Nat} (hbox : w.cell? ⟨b1, 0, none⟩ = some (.slice A V.length cap)) (h : Rd w D A V) (ha : a < V.length) (hb : b < V.length) (hV : ∀ x ∈ V, 0 ≤ x ∧ x ≤ 1000) :
    Calls Tryz.prog 31 #[.int .i64 (a : Int), .int .i64 (b : Int), .pointer (some ⟨b1, 0, none⟩)] w fun e w' => e = .returned (.int .i64 (trCmp V a b)) ∧ Below w.heap.size w w' := by
  obtain ⟨x, hx⟩ : ∃ x, V[a]? = some x := ⟨V[a], by simp [ha]⟩
  obtain ⟨y, hy⟩ : ∃ y, V[b]? = some y := ⟨V[b], by simp [hb]⟩
  have hxb := hV x (List.mem_of_getElem? hx)
  have hyb := hV y (List.mem_of_getElem? hy)
  have hf := Lib.hid (show trCmp V a b = y - x by rw [trCmp, Int.toNat_natCast, Int.toNat_natCast, List.getD_eq_getElem?_getD, hy, List.getD_eq_getElem?_getD, hx]; rfl)
  obtain ⟨b2, o2, rfl, _, hc⟩ := h.2.2 (by omega)
  have cx := hc a x hx
  have cy := hc b y hy
  have hli := h.len
  have hai : (a : Int) < (V.length : Int) := by omega
  have hbi : (b : Int) < (V.length : Int) := by omega
  clear hc hx hy h hV
  go_enter Tryz.func31, Tryz.ntmps31
  go_wp2
  go_quiet (fail)
  have HB := Lib.hid (below_drewN (Below.refl w.heap.size w) nq)
  go_wp2
  go_ret
  exact ⟨ret_int hf.out.symm, HB.out⟩
theorem ins0 {w : World} (A : Option Addr) (cap F : Nat) (caps : Array Value) :
    Calls Tryz.prog 75 #[.slice A 0 cap, .int .i64 0, .int .i64 0, .func (.func F) #[] caps] w fun e w' => e = .returned (.tuple #[]) ∧ w = w' := by
  go_enter Tryz.func75, Tryz.ntmps75
  go_wp2
  refine wp_loop_rounds 1 ?_
  rw [rounds_succ]
  go_wp2
  go_end0
  exact ⟨rfl, rfl⟩
theorem stab0 {w : World} (A : Option Addr) (cap F : Nat) (caps : Array Value) :
    Calls Tryz.prog 59 #[.slice A 0 cap, .int .i64 0, .func (.func F) #[] caps] w fun e w' => e = .returned (.tuple #[]) ∧ w = w' := by
  have C := ins0 (w := w) A cap F caps
  go_enter Tryz.func59, Tryz.ntmps59
  go_wp2
  refine wp_loop_rounds 1 ?_
  rw [rounds_succ]
  go_wp2_with (go_at_call 75; refine C.mono ?_; rintro e w1 ⟨rfl, rfl⟩)
  refine wp_loop_rounds 1 ?_
  rw [rounds_succ]
  go_wp2
  go_end0
  exact ⟨rfl, rfl⟩
theorem stable0 {w : World} (A : Option Addr) (cap F : Nat) (caps : Array Value) :
    Calls Tryz.prog 30 #[.slice A 0 cap, .func (.func F) #[] caps] w fun e w' => e = .returned (.tuple #[]) ∧ w = w' := by
  have C := stab0 (w := w) A cap F caps
  go_enter Tryz.func30, Tryz.ntmps30
  go_wp2_with (go_at_call 59; refine C.mono ?_; rintro e w1 ⟨rfl, rfl⟩)
  go_end0
  exact ⟨rfl, rfl⟩
set_option maxHeartbeats 2000000 in
theorem lTrueE {w : World} {B : Nat} {A : Option Addr} {V : List Int} {cap : Nat} (h : Rd w B A V) (hB : B ≤ w.heap.size) :
    Calls Tryz.prog 11 #[.slice A V.length cap] w (RowE w (trL V) (val35 V)) := by
  have hal := (Below.refl w.heap.size w).alloc (Nat.le_refl _) (.cells #[.slice A V.length cap] 22)
  have hbx : (w.alloc (.cells #[.slice A V.length cap] 22)).cell? ⟨w.heap.size, 0, none⟩ = some (.slice A V.length cap) := by simp
  have hsz : (w.alloc (.cells #[.slice A V.length cap] 22)).heap.size = w.heap.size + 1 := by simp
  have C1 := lCheckV (cap := cap) (h.below hal hB)
  by_cases hk : val35 V = 0
  · obtain ⟨h6, hbd⟩ := val35_zero hk
    have hmk := fun u => run_make_row' (P := Tryz.prog) 22 3 (.int .i64 0) 8 Tryz.underlying22 infoInt' rfl .i64 .i64 V.length (by omega) (by omega) u
    have HL : Hid (trL V = truL V) := Lib.hid (by rw [trL, if_pos hk])
    rw [hk] at C1 ⊢
    have H := Lib.hid (h.below hal hB)
    have HBD := Lib.hid hbd
    have HAL := Lib.hid hal
    have HSZ := Lib.hid hsz
    clear hk h hbd hal hsz
    go_enter Tryz.func11, Tryz.ntmps11
    generalize hw1 : w.alloc (.cells #[.slice A V.length cap] 22) = w1 at *
    go_wp2_with (go_at_call 29; refine C1.mono ?_; rintro e w' ⟨rfl, rfl⟩)
    clear hmk C1 hw1
    have hown := Own.made w1 3 V.length
    have hb2 := Below.alloc (B := w1.heap.size) (Below.refl _ w1) (Nat.le_refl _) (.cells (madeCells #[Value.int .i64 0] V.length) 3)
    have HOWN := Lib.hid hown
    have HB2 := Lib.hid hb2
    have HBX := Lib.hid hbx
    clear hown hb2 hbx
    generalize w1.alloc (.cells (madeCells #[Value.int .i64 0] V.length) 3) = w2 at *
    go_loopw [17] (fun i wr => ∃ (k : Nat) (L : List Int), k ≤ V.length ∧ i = .int .i64 k ∧ Hid (L.length = V.length) ∧ Hid (∀ j : Nat, j < k → L[j]? = some (j : Int)) ∧ Hid (Own wr w1.heap.size 3 L) ∧ Hid (Below w1.heap.size w1 wr)) (fun i _ => V.length - (intOf i).toNat)
    case atStart => exact ⟨0, _, by omega, rfl, Lib.hid (by simp), Lib.hid (by omega), HOWN, HB2⟩
    case round =>
      obtain ⟨k, L, hk, rfl, hLl, hLv, hO, hBw⟩ := hrel
      by_cases hlt : k < V.length
      · obtain ⟨y, hy⟩ : ∃ y, L[k]? = some y := ⟨L[k]'(by rw [hLl.out]; exact hlt), by simp⟩
        have c1 := hO.out.cell hy
        have f1 := hO.out.frozen k
        have hO' := Lib.hid (hO.out.store k (k : Int))
        have hB' := Lib.hid (hBw.out.setCell (p := ⟨w1.heap.size, k, none⟩) (Nat.le_refl _) (.int .i64 (k : Int)))
        have hLv' : Hid (∀ j : Nat, j < k + 1 → (L.set k (k : Int))[j]? = some (j : Int)) := Lib.hid (by
          intro j hj
          by_cases e : j = k
          · subst e; rw [List.getElem?_set_self (by rw [hLl.out]; exact hlt)]
          · rw [List.getElem?_set_ne (by omega)]; exact hLv.out j (by omega))
        have hLl' : Hid ((L.set k (k : Int)).length = V.length) := Lib.hid (by simp [hLl.out])
        clear hy
        go_wp2
        go_roundw
        case rel => exact ⟨k + 1, _, by omega, by go_num, hLl', hLv', hO', hB'⟩
        case measure => simp [intOf]; omega
      · have hL : L = iota V.length := iota_of hLl.out (fun j hj => hLv.out j (by omega))
        have hO' : Own wr w1.heap.size 3 (iota V.length) := hL ▸ hO.out
        have HBW := Lib.hid (HAL.out.trans (hBw.out.mono HAL.out.size))
        by_cases h0 : V.length = 0
        · have HV0 : Hid (truL V = []) := Lib.hid (List.eq_nil_of_length_eq_zero (by rw [truL_length]; exact h0))
          have CS := stable0 (w := wr) (some ⟨w1.heap.size, 0, none⟩) 0 31 #[.pointer (some ⟨w.heap.size, 0, none⟩)]
          have HCS := Lib.hid CS
          clear CS hO' hL
          generalize hn0 : V.length = n0 at *
          subst h0
          go_wp2_with (go_at_call 30; refine HCS.out.mono ?_; rintro e w5 ⟨rfl, rfl⟩)
          go_ret2
          rw [HL.out, HV0.out]
          exact ⟨_, 0, rfl, Rd.nil _ _ _, HBW.out⟩
        · have hcm : Cmps wr w1.heap.size 31 #[.pointer (some ⟨w.heap.size, 0, none⟩)] (trCmp V) (fun x => ∃ a : Nat, x = a ∧ a < V.length) := by
            intro u hu a b ⟨a', ha, ha'⟩ ⟨b', hb, hb'⟩
            subst ha
            subst hb
            have hu2 := hBw.out.trans hu
            have hsz := HSZ.out
            exact lTrue1 (D := w1.heap.size) (cap := cap)
              ((hu2.cell (p := ⟨w.heap.size, 0, none⟩) (by show w.heap.size < _; omega)).trans HBX.out)
              ((H.out.more (by omega)).below hu2 (Nat.le_refl _)) ha' hb' HBD.out
          have CS := sortStable (cap := V.length) (D0 := iota V.length) (fun args u => by kernel_rfl) hcm (fun x hx => iota_mem.1 hx) hO' (by rw [iota_length]; omega) (by rw [iota_length]; omega)
          rw [iota_length, truL_eq] at CS
          have HCS := Lib.hid CS
          clear CS hcm hO' hL
          go_wp2_with (go_at_call 30; refine HCS.out.mono ?_; rintro e w5 ⟨rfl, hO5, hB5⟩)
          go_ret2
          rw [HL.out]
          exact ⟨_, V.length, by rw [truL_length]; rfl, tr_rd hO5.pre (by omega), HBW.out.trans (hB5.mono HAL.out.size)⟩
  · have HL : Hid (trL V = []) := Lib.hid (by rw [trL, if_neg hk])
    have hne : (val35 V != 0) = true := by rw [bne_iff_ne]; exact hk
    have HAL := Lib.hid hal
    rw [HL.out]
    clear hk h hal hsz
    generalize val35 V = c at *
    go_enter Tryz.func11, Tryz.ntmps11
    generalize hw1 : w.alloc (.cells #[.slice A V.length cap] 22) = w1 at *
    go_wp2_with (go_at_call 29; refine C1.mono ?_; rintro e w' ⟨rfl, rfl⟩)
    go_ret2
    exact RowE.none_ _ _ _ HAL.out
end Go.Proofs.YtkoipecnmijfoaaGreat
end

section
/-! Walks of chapter 35: the reference's True.
-/
namespace Go.Proofs.YtkoipecnmijfoaaGreat
open Go.RowKit Go.Deep
set_option linter.unusedVariables false
set_option maxRecDepth 100000

theorem plcT {V : List Int} {g q : Nat} {v x : Int} (hv : V[q]? = some v) (hx : V[g]? = some x) :
    plc [] V g (q + 1) = if x < v ∨ (v = x ∧ q < g) then plc [] V g q + 1 else plc [] V g q := by
  have ha : ahd [] V q g = if v ≠ x then decide (x < v) else decide (q < g) := by
    rw [ahd, List.getD_eq_getElem?_getD, hv, List.getD_eq_getElem?_getD, hx, ahdV]
    simp
  by_cases hqg : q = g
  · subst hqg
    rw [hv] at hx
    cases hx
    rw [plc_self rfl, if_neg (by omega)]
  · cases hc : ahd [] V q g
    · rw [plc_no hc, if_neg]
      rw [hc] at ha
      split at ha
      · have := of_decide_eq_false ha.symm; omega
      · have := of_decide_eq_false ha.symm; omega
    · rw [plc_yes hqg hc, if_pos]
      rw [hc] at ha
      split at ha
      · have := of_decide_eq_true ha.symm; omega
      · have := of_decide_eq_true ha.symm; omega
end Go.Proofs.YtkoipecnmijfoaaGreat
end

section
/-! Walks of chapter 35: the reference's Rankings.
-/
namespace Go.Proofs.YtkoipecnmijfoaaGreat
open Go.RowKit Go.Deep
set_option linter.unusedVariables false
set_option maxRecDepth 100000

/-- slices that are not empty lie from block Bn on -/
def LBv (Bn : Nat) (vs : List Value) : Prop := ∀ v ∈ vs, ∀ A n c, v = .slice A n c → 0 < n → ∀ p, A = some p → Bn ≤ p.block
theorem LBv.nil (Bn : Nat) : LBv Bn [] := by intro v hv; simp at hv
theorem LBv.append {Bn : Nat} {vs us : List Value} (h : LBv Bn vs) (h' : LBv Bn us) : LBv Bn (vs ++ us) := by
  intro v hv
  rcases List.mem_append.1 hv with hv | hv
  · exact h v hv
  · exact h' v hv
theorem LBv.mono {Bn Bm : Nat} {vs : List Value} (h : LBv Bn vs) (hm : Bm ≤ Bn) : LBv Bm vs := fun v hv A n c e hn p hp => Nat.le_trans hm (h v hv A n c e hn p hp)
theorem VRows.toN {w : World} {f : Value} {Bn : Nat} {vs : List Value} {F : List (List Int)} (h : VRows w vs F) (hl : LBv Bn vs) (hf : ∀ q, f.ownBlock = some q → q < Bn) : VRowsN w f vs F :=
  ⟨h.1, fun i L hi => by
    obtain ⟨A, c, h1, h2⟩ := h.2 i L hi
    refine ⟨A, c, h1, h2, fun h0 p hp hq => ?_⟩
    have := hl _ (List.mem_of_getElem? h1) A L.length c rfl h0 p hp
    have := hf _ hq
    omega⟩
/-- rows in the making -/
def RkRes (w : World) (Bn : Nat) (F : List (List Int)) (e : Ending) (w' : World) : Prop :=
  ∃ A c vs, e = .returned (.slice A F.length c) ∧ VRows w' vs F ∧ LBv Bn vs ∧ (A = none → F.length = 0) ∧ (∀ ad, A = some ad → ∀ j u, vs[j]? = some u → w'.cell? (ad.add j) = some u) ∧ Rd2 w' w'.heap.size A F ∧ Below w.heap.size w w'
theorem rk_of_row {w w' : World} {Bn base T c : Nat} {A : Option Addr} {F : List (List Int)} {vs : List Value} (ho : w'.ownsRow base T 1 (.slice A F.length c) F.length vs) (hv : VRows w' vs F) (hl : LBv Bn vs) (hF : F.length * 24 ≤ 140737488351232) (hb : Below w.heap.size w w') : RkRes w Bn F (.returned (.slice A F.length c)) w' := by
  refine ⟨A, c, vs, rfl, hv, hl, fun hA => ?_, fun ad hA j u hj => ?_, rd2_of_row ho hv hF, hb⟩
  · rcases Nat.eq_zero_or_pos F.length with h | h
    · exact h
    · obtain ⟨g, cap, e, _⟩ := ho.form h
      rw [hA] at e; cases e
  · have h0 : 0 < F.length := by
      have := (List.getElem?_eq_some_iff.1 hj).1
      rw [hv.1] at this; omega
    obtain ⟨g, cap, e, _⟩ := ho.form h0
    cases e
    cases hA
    exact ho.cells (g := g) rfl j u hj
theorem rkF_len (m : Nat) : ∀ (f : Nat) (b : List Int), (rkF m f b).length ≤ m ^ f
  | 0, b => by simp [rkF]
  | f + 1, b => by
    have key : ∀ G : List Nat, (G.flatMap fun (g : Nat) => if (b.any fun y => y == (g : Int)) = true then [] else rkF m f (b ++ [(g : Int)])).length ≤ G.length * m ^ f := by
      intro G
      induction G with
      | nil => simp
      | cons g t ih =>
        rw [List.flatMap_cons, List.length_append, List.length_cons, Nat.succ_mul]
        have h1 : (if (b.any fun y => y == (g : Int)) = true then [] else rkF m f (b ++ [(g : Int)])).length ≤ m ^ f := by
          split
          · simp
          · exact rkF_len m f _
        omega
    have := key (List.range m)
    rw [List.length_range] at this
    rw [rkF, Nat.pow_succ, Nat.mul_comm]
    exact this
def rkG (m f : Nat) (b : List Int) (k : Nat) : List (List Int) := (List.range k).flatMap fun (g : Nat) => if (b.any fun y => y == (g : Int)) = true then [] else rkF m f (b ++ [(g : Int)])
theorem rkG_succ (m f : Nat) (b : List Int) (k : Nat) : rkG m f b (k + 1) = rkG m f b k ++ if (b.any fun y => y == (k : Int)) = true then [] else rkF m f (b ++ [(k : Int)]) := by
  rw [rkG, List.range_succ, List.flatMap_append, rkG]; simp
theorem rkG_all (m f : Nat) (b : List Int) : rkG m f b m = rkF m (f + 1) b := rfl
theorem rkF_small {m f : Nat} (hm : m ≤ 6) (hf : f ≤ 6) (b : List Int) : (rkF m f b).length ≤ 46656 := by
  refine Nat.le_trans (rkF_len m f b) (Nat.le_trans (Nat.pow_le_pow_left hm f) ?_)
  exact Nat.le_trans (Nat.pow_le_pow_right (by decide) hf) (by decide)
theorem rkG_small {m f : Nat} (hm : m ≤ 6) (hf : f ≤ 6) (b : List Int) : ∀ k : Nat, (rkG m f b k).length ≤ k * 46656
  | 0 => by simp [rkG]
  | k + 1 => by
    rw [rkG_succ, List.length_append, Nat.succ_mul]
    have h1 := rkG_small hm hf b k
    have h2 : (if (b.any fun y => y == (k : Int)) = true then [] else rkF m f (b ++ [(k : Int)])).length ≤ 46656 := by
      split
      · simp
      · exact rkF_small hm hf _
    omega
theorem any_take_succ {b : List Int} {k : Nat} {x : Int} {p : Int → Bool} (h : b[k]? = some x) : (b.take (k + 1)).any p = ((b.take k).any p || p x) := by
  rw [takeA_succ h, List.any_append]; simp
theorem rd_none {w : World} {B : Nat} {A : Option Addr} {L : List Int} (h : Rd w B A L) (hA : A = none) : L.length = 0 := by
  rcases Nat.eq_zero_or_pos L.length with h0 | h0
  · exact h0
  · obtain ⟨b, off, e, _⟩ := h.2.2 h0
    rw [hA] at e; cases e
theorem rd_news {w : World} {B : Nat} {A : Option Addr} {L : List Int} (h : Rd w B A L) : ∀ ad, A = some ad → ∀ j u, (L.map (Value.int .i64))[j]? = some u → w.cell? (ad.add j) = some u := by
  intro ad hA j u hj
  have h0 : 0 < L.length := by
    have := (List.getElem?_eq_some_iff.1 hj).1
    simp at this; omega
  obtain ⟨b, off, e, hb, hc⟩ := h.2.2 h0
  rw [hA] at e
  cases e
  exact cells_ints hc j u hj
end Go.Proofs.YtkoipecnmijfoaaGreat
end

section
/-! Walks of chapter 35: the reference's Rankings.
-/
namespace Go.Proofs.YtkoipecnmijfoaaGreat
open Go.RowKit Go.Deep
set_option linter.unusedVariables false
set_option maxRecDepth 100000

theorem infoIntR : (Tryz.prog.info? 3).map (fun i => (i.zero, i.size, i.bytes)) = some (some (.int .i64 0), 1, 8) := by kernel_rfl
end Go.Proofs.YtkoipecnmijfoaaGreat
end

section
/-! Walks of chapter 35: the reference's List.
-/
namespace Go.Proofs.YtkoipecnmijfoaaGreat
open Go.RowKit Go.Deep
set_option linter.unusedVariables false
set_option maxRecDepth 100000

def lsL (O : List Int) (R : List (List Int)) (a : Int) (V : List Int) : List Int := if lkd35 O R a V = 0 then (bestR O R a V).1 else []
def lsN (O : List Int) (R : List (List Int)) (a : Int) (V : List Int) : Int := if lkd35 O R a V = 0 then (bestR O R a V).2 else 0
/-- a list, a number and an error -/
def RowNE (w : World) (L : List Int) (n c : Int) (e : Ending) (w' : World) : Prop :=
  ∃ A cap, e = .returned (.tuple #[.slice A L.length cap, .int .i64 n, .int .i64 c]) ∧ Rd w' w'.heap.size A L ∧ Below w.heap.size w w'
theorem bestL_take {f : List Int → Int} {L : List (List Int)} {i : Nat} {x : List Int} (h : L[i]? = some x) (r : List Int × Int) : bestL f (L.take (i + 1)) r = if (bestL f (L.take i) r).2 < f x then (x, f x) else bestL f (L.take i) r := by
  rw [takeA_succ h, bestL_snoc]
theorem rkAll_pos (n : Nat) : 0 < (rkAll n).length := List.length_pos_of_mem (rkAll_mem.2 (List.Perm.refl _))
end Go.Proofs.YtkoipecnmijfoaaGreat
end

section
/-! A range over a function that yields one slice again and again, which it changes between the rounds. No statement about the program. -/
namespace Go.Proofs.YtkoipecnmijfoaaGreat
open Go.RowKit
set_option linter.unusedVariables false

/-- how a round ends: the loop's own two blocks, the slice's block s + 2 and block m lie as they lay -/
def roundEnd (s m : Nat) (I : Nat → World → Prop) (k : Nat) (W : World) : Exit → Act → World → Prop
  | .normal, _, W' => W'.heap[s]? = W.heap[s]? ∧ W'.heap[s + 1]? = W.heap[s + 1]? ∧ W'.heap[s + 2]? = W.heap[s + 2]? ∧ W'.heap[m]? = W.heap[m]? ∧ I (k + 1) W'
  | _, _, _ => False
/-- the function that yields: with whatever the caller knows of the world when k rounds are over, as long as it does not look at block s + 2 -/
def YieldsRow (P : Program) (gf : Nat) (lb : Array Value) (s m T len cap : Nat) (RK : List (List Int)) (w : World) : Prop :=
  ∀ (l : Nat) (J : Nat → World → Prop) (W : World), Below s w W → W.heap.size = s + 2 → (∀ k A B, J k A → A.grownBy B (some (s + 2)) → J k B) →
    (∀ k x A, RK[k]? = some x → J k A → Own A (s + 2) T x → YieldAt Fence.wide 3 P l #[.slice (some ⟨s + 2, 0, none⟩) len cap] A fun e B => e = .returned (.bool true) ∧ J (k + 1) B ∧ Own B (s + 2) T x ∧ B.heap[m]? = A.heap[m]?) → J 0 W →
    Calls P gf (#[.func (.yield l) #[] #[]] ++ lb) W fun e W' => (∃ v, e = .returned v) ∧ J RK.length W'
theorem heap_lt' {w : World} {g : Nat} {o : Obj} (h : w.heap[g]? = some o) : g < w.heap.size := (Array.getElem?_eq_some_iff.1 h).1
theorem grown_put {W : World} {l : Nat} (o : Obj) : W.grownBy (W.putObj l o) (some l) := grownBy_putObj' W l o
theorem rangeRow {P : Program} {g : Operand} {ps : Array Tmp} {assign body : Code} {Q : Exit → Act → World → Prop} {a : Act} {w : World} {n gf m T len cap : Nat} {lb : Array Value} {RK : List (List Int)}
    (hg : a.eval g = .func (.func gf) #[] lb) (eg : ∀ args w, (callFunc gf args).run P w = .ok (.enter gf args) w) (hps : ps.size = 1) (hm : m < w.heap.size)
    (hit : YieldsRow P gf lb w.heap.size m T len cap RK w)
    (I : Nat → World → Prop) (hI : ∀ k A B r, I k A → A.grownBy B (some r) → w.heap.size ≤ r → r ≤ w.heap.size + 2 → I k B) (h0 : I 0 w) (a₁ : Act)
    (hassign : ∀ (l : Nat) (W : World) (K : Act → World → Prop), K a₁ W →
      assign.wpIn (Fence.wide.inRound l) 3 P (Exit.then K (fun _ _ _ => False)) { tmps := (ps.zip #[.slice (some ⟨w.heap.size + 2, 0, none⟩) len cap]).foldl (fun t (p, v) => t.setIfInBounds p v) a.tmps, defers := [] } W)
    (hbody : ∀ (l k : Nat) (x : List Int) (W : World), RK[k]? = some x → I k W → Own W (w.heap.size + 2) T x → body.wpIn (Fence.wide.inRound l) 3 P (roundEnd w.heap.size m I k W) a₁ W)
    (hdone : ∀ W, I RK.length W → W.heap[w.heap.size]? = some (.deferred (some [])) → Q .normal { a with defers := { target := .collected w.heap.size, args := #[] } :: a.defers } W) :
    (Code.rangeFunc g ps assign body).wpIn Fence.wide n P Q a w := by
  refine wpIn_rangeFunc fun fn hfn => ?_
  -- the record of the loop, in a state st
  generalize hs : w.heap.size = s at *
  obtain ⟨rec, hrec⟩ : ∃ rec : LoopState → Loop, rec = fun st => { state := st, pending := none, fn, tmps := a.tmps, params := ps, assign, body, defers := s } := ⟨_, rfl⟩
  obtain ⟨u, hu⟩ : ∃ u, u = (w.alloc (.deferred (some []))).alloc (.loop (rec .ready)) := ⟨_, rfl⟩
  have us : u.heap.size = s + 2 := by rw [hu]; simp [hs]
  have u0 : u.heap[s]? = some (.deferred (some [])) := by
    rw [hu, Below.heap_alloc _ _ _ (by simp [hs]), ← hs]; exact World.alloc_heap_new _ _
  have u1 : u.heap[s + 1]? = some (.loop (rec .ready)) := by
    have := World.alloc_heap_new (w.alloc (.deferred (some []))) (.loop (rec .ready))
    rw [World.size_alloc, hs] at this
    rw [hu]; exact this
  have ub : Below s w u := by
    rw [hu]; exact ((Below.refl _ w).alloc (by omega) _).alloc (by simp [hs]) _
  have ug : w.grownBy u (some s) := by
    refine ⟨ub.os, ub.tape, ub.output, by omega, fun k hk _ => ub.block k (by omega)⟩
  let J : Nat → World → Prop := fun k W => I k W ∧ W.heap[s + 1]? = some (.loop (rec .ready)) ∧ W.heap[s]? = some (.deferred (some []))
  refine ⟨s + 1, [{ target := .collected s, args := #[] }], u, { target := .fn (.func gf) lb, args := #[.func (.yield (s + 1)) #[] #[]] }, u, gf, #[.func (.yield (s + 1)) #[] #[]] ++ lb, u, ?_, ?_, fun _ _ => trivial, ?_, fun h => by simp [Fence.wide] at h, ?_⟩
  · rw [hu, hrec, ← hs]; exact run_enterLoop_outer _ _ _ _ _
  · simp only [resolve, hg]
    simp [go_sem]
  · simp [invoke, go_sem, eg]
  · refine (callsIn_wide.2 (hit (s + 1) J u ub us ?_ ?_ ⟨hI 0 w u s h0 ug (Nat.le_refl _) (by omega), u1, u0⟩)).mono ?_
    · rintro k A B ⟨h1, h2, h3⟩ hgr
      exact ⟨hI k A B _ h1 hgr (by omega) (Nat.le_refl _), (hgr.block _ (heap_lt' h2) (by simp)).trans h2, (hgr.block _ (heap_lt' h3) (by simp)).trans h3⟩
    · rintro k x A hx ⟨h1, h2, h3⟩ ho
      have hy := run_yield (P := P) (args := #[.slice (some ⟨s + 2, 0, none⟩) len cap]) h2 (by rw [hrec, hps]; rfl)
      rw [hrec] at hy
      obtain ⟨A2, hA2⟩ : ∃ A2, A2 = A.putObj (s + 1) (.loop { rec .ready with state := .busy }) := ⟨_, rfl⟩
      have g2 : A.grownBy A2 (some (s + 1)) := by rw [hA2]; exact grown_put _
      have b1 : A2.heap[s + 1]? = some (.loop { rec .ready with state := .busy }) := by rw [hA2]; exact World.putObj_heap_same (heap_lt' h2)
      have b0 : A2.heap[s]? = some (.deferred (some [])) := (g2.block _ (heap_lt' h3) (by simp)).trans h3
      have o2 : Own A2 (s + 2) T x := ho.grown g2 (by simp)
      have hbg := run_beginRound (P := P) h2 (by rw [hrec])
      rw [← hA2] at hbg
      have key : ∀ W', roundEnd s m I k A2 .normal a₁ W' → ∃ v B, (Instr.endRound (s + 1) none).run P W' = .ok v B ∧ (Ending.returned v = .returned (.bool true) ∧ J (k + 1) B ∧ Own B (s + 2) T x ∧ B.heap[m]? = A.heap[m]?) := by
        rintro W' ⟨e0, e1, e2, e3, e4⟩
        have l1 := e1.trans b1
        have hend := run_endRound (P := P) none l1
        obtain ⟨B, hB⟩ : ∃ B, B = W'.putObj (s + 1) (.loop (rec .ready)) := ⟨_, rfl⟩
        have gB : W'.grownBy B (some (s + 1)) := by rw [hB]; exact grown_put _
        refine ⟨_, B, ?_, rfl, ⟨hI _ W' B _ e4 gB (by omega) (by omega), ?_, ?_⟩, ?_, ?_⟩
        · rw [hend, hB, hrec]; rfl
        · rw [hB]; exact World.putObj_heap_same (heap_lt' l1)
        · exact ((gB.block _ (heap_lt' (e0.trans b0)) (by simp)).trans e0).trans b0
        · have : Own W' (s + 2) T x := e2.trans o2
          exact this.grown gB (by simp)
        · have hml : m < W'.heap.size := by have := heap_lt' l1; omega
          have hma : m < A.heap.size := by have := heap_lt' h2; omega
          exact ((gB.block m hml (by simp; omega)).trans e3).trans (g2.block m hma (by simp; omega))
      refine ⟨fn, _, assign, body, hy, roundIn_of_wpIn trivial (hassign _ A _ ⟨A2, hbg, wpIn_mono (hbody _ k x A2 hx (hI _ A A2 _ h1 g2 (by omega) (by omega)) o2) ?_⟩)⟩
      intro e a3 W3 hp
      cases e with
      | normal => exact key W3 hp
      | ret => exact hp.elim
      | exit id => exact hp.elim
      | goto t => exact hp.elim
      | panic c => exact hp.elim
      | outgrown => exact hp.elim
    · rintro e W2 ⟨⟨v, rfl⟩, h1, h2, h3⟩
      have hend := run_endLoop (P := P) h2 (by rw [hrec]; simp)
      obtain ⟨B, hB⟩ : ∃ B, B = W2.putObj (s + 1) (.loop { rec .ready with state := .exhausted }) := ⟨_, rfl⟩
      have gB : W2.grownBy B (some (s + 1)) := by rw [hB]; exact grown_put _
      refine ⟨none, B, ?_, ?_⟩
      · rw [hend, hB, hrec]
      · exact hdone B (hI _ W2 B _ h1 gB (by omega) (by omega)) ((gB.block _ (heap_lt' h3) (by simp)).trans h3)
end Go.Proofs.YtkoipecnmijfoaaGreat
end

section
/-! Walks of chapter 35: all rankings, one after another.
-/
namespace Go.Proofs.YtkoipecnmijfoaaGreat
open Go.RowKit Go.Deep Go.Sort
set_option linter.unusedVariables false
set_option maxRecDepth 100000

theorem rev_length (L : List Int) (i : Nat) : (revFrom L i).length = L.length := by simp [revFrom]; omega
theorem own_putRow {w : World} {g T n off : Nat} {L : List Int} (h : Own w g T L) (ho : off ≤ L.length) :
    Own (putRow (Value.int .i64) (Sort.ahead w n) g off (L.drop off).reverse.toArray) g T (revFrom L off) := by
  have e : (putRow (Value.int .i64) (Sort.ahead w n) g off (L.drop off).reverse.toArray).heap[g]? = some (.cells (putCells (Value.int .i64) off (L.drop off).reverse.toArray (L.map (Value.int .i64)).toArray) T (0, 0)) := by
    have h' : w.heap[g]? = some (.cells (L.map (Value.int .i64)).toArray T (0, 0)) := h
    simp [putRow, mapBlock, Sort.ahead, Array.getElem?_modify, h', onCells]
  rw [Own, e]
  congr 2
  apply Array.ext
  · simp [putCells, rev_length]
  · intro i h1 h2
    have hi : i < L.length := by simpa [putCells] using h1
    simp only [putCells, Array.getElem_mapIdx, List.size_toArray, List.length_reverse, List.length_drop, List.getElem_toArray, List.getElem_map]
    by_cases hio : off ≤ i
    · rw [if_pos ⟨hio, by omega⟩]
      congr 1
      simp only [revFrom]
      rw [List.getElem_append_right (by simp; omega)]
      rw [getElem!_pos _ _ (by simp; omega)]
      simp
      congr 1
      omega
    · rw [if_neg (by omega)]
      congr 1
      simp only [revFrom]
      rw [List.getElem_append_left (by simp; omega), List.getElem_take]
theorem grown_putRow {w : World} {g n off : Nat} {d : Array Int} : w.grownBy (putRow (Value.int .i64) (Sort.ahead w n) g off d) (some g) := by
  refine ⟨rfl, rfl, rfl, by simp, fun k hk hne => ?_⟩
  have : g ≠ k := fun e => hne (by rw [e])
  simp [putRow, mapBlock, Sort.ahead, Array.getElem?_modify, this]
theorem own_holds {w : World} {g T off : Nat} {L : List Int} (h : Own w g T L) : Holds (Value.int .i64) w g off (L.drop off).toArray := by
  intro j hj
  have hj' : off + j < L.length := by simp at hj; omega
  refine ⟨?_, h.frozen _⟩
  rw [h.cell (i := off + j) (x := L[off + j]) (by simp [hj'])]
  simp [hj']
theorem grown_alloc (w : World) (o : Obj) (r : Option Nat) : w.grownBy (w.alloc o) r := ⟨rfl, rfl, rfl, by simp, fun k hk _ => Below.heap_alloc w o k hk⟩
theorem grown_set (w : World) (g i : Nat) (v : Value) : w.grownBy (w.setCell ⟨g, i, none⟩ v) (some g) := ⟨rfl, rfl, rfl, by simp [World.setCell], fun k hk hne => Below.heap_setCell w ⟨g, i, none⟩ v k (fun e => hne (by rw [e]))⟩
theorem grown_drew (w : World) (n : Nat) (r : Option Nat) : w.grownBy (w.drewN n) r := ⟨rfl, rfl, rfl, Nat.le_refl _, fun _ _ _ => rfl⟩
/-- how many rankings are still to come -/
def lenFrom : Nat → List Int → Nat
  | 0, _ => 0
  | f + 1, x => match nextL x with | some y => lenFrom f y + 1 | none => 0
theorem lenFrom_at {RK : List (List Int)} (hp : pathB RK = true) : ∀ (f k : Nat) (x : List Int), RK[k]? = some x → RK.length - 1 - k ≤ f → lenFrom f x = RK.length - 1 - k
  | 0, k, x, hx, hf => by rw [lenFrom]; omega
  | f + 1, k, x, hx, hf => by
    have hk := (List.getElem?_eq_some_iff.1 hx).1
    have hn := path_at hp hx
    rw [lenFrom, hn]
    by_cases h : k + 1 < RK.length
    · rw [List.getElem?_eq_getElem h]
      simp only
      rw [lenFrom_at hp f (k + 1) _ (List.getElem?_eq_getElem h) (by omega)]
      omega
    · rw [List.getElem?_eq_none (by omega)]
      simp only
      omega
theorem own_inj {w : World} {g T : Nat} {L M : List Int} (h : Own w g T L) (h' : Own w g T M) : L = M := by
  rw [Own] at h h'
  rw [h] at h'
  have : L.map (Value.int .i64) = M.map (Value.int .i64) := by
    simpa using h'
  exact (List.map_inj_right (fun a b hab => by cases hab; rfl)).1 this
open Classical in
noncomputable def leftIn (f g T : Nat) (w : World) : Nat := if h : ∃ x, Own w g T x then lenFrom f h.choose + 1 else 0
theorem leftIn_eq {f g T : Nat} {w : World} {x : List Int} (h : Own w g T x) : leftIn f g T w = lenFrom f x + 1 := by
  have he : ∃ x, Own w g T x := ⟨x, h⟩
  rw [leftIn, dif_pos he, own_inj he.choose_spec h]
end Go.Proofs.YtkoipecnmijfoaaGreat
end

section
/-! Walks of chapter 35: all rankings, one after another: the iterator.
-/
namespace Go.Proofs.YtkoipecnmijfoaaGreat
open Go.RowKit Go.Deep Go.Sort
set_option linter.unusedVariables false
set_option maxRecDepth 100000
attribute [local go_sem] Oper.semAt_some

theorem riseAt_yes {l : List Int} {k : Nat} (h : l.getD (k + 1) 0 < l.getD k 0) : riseAt l (k + 1) = riseAt l k := by rw [riseAt, if_pos h]
theorem riseAt_no {l : List Int} {k : Nat} (h : ¬ l.getD (k + 1) 0 < l.getD k 0) : riseAt l (k + 1) = some k := by rw [riseAt, if_neg h]
theorem overAt_yes {l : List Int} {x : Int} {k : Nat} (h : l.getD (k + 1) 0 < x) : overAt l x (k + 1) = overAt l x k := by rw [overAt, if_pos h]
theorem overAt_no {l : List Int} {x : Int} {k : Nat} (h : ¬ l.getD k 0 < x) : overAt l x k = k := by
  cases k with
  | zero => rfl
  | succ k => rw [overAt, if_neg h]
set_option maxHeartbeats 1000000 in
theorem lRankIt {w : World} {s m n : Nat} (hs : w.heap.size = s) (hm : m < s) (hbox : w.cell? ⟨m, 0, none⟩ = some (.int .i64 (n : Int))) (hn : n ≤ 6) :
    YieldsRow Tryz.prog 60 #[.pointer (some ⟨m, 0, none⟩)] s m 3 n n (rkAll n) w := by
  intro l J W hW hWs hJ hY h0
  obtain ⟨hhead, hpath⟩ := path_all n hn
  have hRKs := rkF_small hn hn []
  have hlen : ∀ {k : Nat} {x : List Int}, (rkAll n)[k]? = some x → x.length = n := fun h => by rw [← (rkAll_perm (List.mem_of_getElem? h)).length_eq, iota_length]
  have hb1 : W.cell? ⟨m, 0, none⟩ = some (.int .i64 (n : Int)) := (hW.cell (p := ⟨m, 0, none⟩) hm).trans hbox
  have hmk := run_make_row' (P := Tryz.prog) 22 3 (.int .i64 0) 8 Tryz.underlying22 infoInt' rfl .i64 .i64 n (by omega) (by omega) W
  have hown := Own.made W 3 n
  rw [hWs] at hown hmk
  have h2 := hJ 0 W _ h0 (grown_alloc W (.cells (madeCells #[Value.int .i64 0] n) 3) _)
  have hg2 := grown_alloc W (.cells (madeCells #[Value.int .i64 0] n) 3) (some (s + 2))
  have HOWN := Lib.hid hown
  have HJ0 := Lib.hid h2
  have HG0 := Lib.hid hg2
  have HJ := Lib.hid hJ
  have HY := Lib.hid hY
  have HLEN := Lib.hid (fun (k : Nat) (x : List Int) (h : (rkAll n)[k]? = some x) => hlen h)
  have HP := Lib.hid hpath
  have HH : Hid ((rkAll n)[0]? = some (iota n)) := Lib.hid (by rw [← List.head?_eq_getElem?]; exact hhead)
  have HCELL : Hid (∀ u : World, W.grownBy u (some (s + 2)) → u.cell? ⟨m, 0, none⟩ = some (.int .i64 (n : Int))) := Lib.hid fun u hu => (hu.cell (a := ⟨m, 0, none⟩) hb1 (by simp; omega))
  have hlf := fun (k : Nat) (x : List Int) h => lenFrom_at hpath 46656 k x h (by have : (rkAll n).length ≤ 46656 := hRKs; omega)
  have HLF := Lib.hid hlf
  clear hown h2 hg2 hJ hY hhead hpath hlen h0 hlf hbox
  generalize (46656 : Nat) = ff at *
  generalize rkAll n = RK at *
  go_enter Tryz.func60, Tryz.ntmps60
  generalize W.alloc (.cells (madeCells #[Value.int .i64 0] n) 3) = w2 at *
  go_wp2_with fail
  clear hmk
  go_loopw [11] (fun iv wr => ∃ (k : Nat) (L : List Int), k ≤ n ∧ iv = .int .i64 k ∧ Hid (L.length = n) ∧ Hid (∀ j : Nat, j < k → L[j]? = some (j : Int)) ∧ Hid (Own wr (s + 2) 3 L) ∧ Hid (W.grownBy wr (some (s + 2))) ∧ Hid (J 0 wr)) (fun iv _ => n - (intOf iv).toNat)
  case atStart => exact ⟨0, _, by omega, rfl, Lib.hid (by simp), Lib.hid (by omega), HOWN, HG0, HJ0⟩
  case round =>
    obtain ⟨k, L, hk, rfl, hLl, hLv, hO, hG, hJ0⟩ := hrel
    by_cases hlt : k < n
    · obtain ⟨y, hy⟩ : ∃ y, L[k]? = some y := ⟨L[k]'(by rw [hLl.out]; exact hlt), by simp⟩
      have c1 := hO.out.cell hy
      have f1 := hO.out.frozen k
      have hO' := Lib.hid (hO.out.store k (k : Int))
      have hG' := Lib.hid (hG.out.trans (grown_set wr (s + 2) k (.int .i64 (k : Int))))
      have hJ' := Lib.hid (HJ.out 0 wr _ hJ0.out (grown_set wr (s + 2) k (.int .i64 (k : Int))))
      have hLv' : Hid (∀ j : Nat, j < k + 1 → (L.set k (k : Int))[j]? = some (j : Int)) := Lib.hid (by
        intro j hj
        by_cases e : j = k
        · subst e; rw [List.getElem?_set_self (by rw [hLl.out]; exact hlt)]
        · rw [List.getElem?_set_ne (by omega)]; exact hLv.out j (by omega))
      have hLl' : Hid ((L.set k (k : Int)).length = n) := Lib.hid (by simp [hLl.out])
      clear hy
      go_wp2
      go_roundw
      case rel => exact ⟨k + 1, _, by omega, by go_num, hLl', hLv', hO', hG', hJ'⟩
      case measure => simp [intOf]; omega
    · have hL : L = iota n := iota_of hLl.out (fun j hj => hLv.out j (by omega))
      have hO' : Own wr (s + 2) 3 (iota n) := hL ▸ hO.out
      have HO1 := Lib.hid hO'
      have HG1 := hG
      have HJ1 := hJ0
      clear hO' hO hG hJ0 hL hLv hLl
      go_wp2_with fail
      clear hlt hk
      generalize wr = wo at *
      go_loopw [5] (fun _ wr => ∃ (k : Nat) (x : List Int), Hid (RK[k]? = some x) ∧ Hid (Own wr (s + 2) 3 x) ∧ Hid (wr.heap[m]? = W.heap[m]?) ∧ Hid (J k wr)) (fun _ wr => leftIn ff (s + 2) 3 wr)
      case atStart => exact ⟨0, _, HH, HO1, Lib.hid (HG1.out.block _ (by omega) (by simp; omega)), HJ1⟩
      case round =>
        obtain ⟨k, x, hx, hO, hG, hJk⟩ := hrel
        obtain ⟨fn, tmps, assign, body, hy, hR⟩ := HY.out k x wr hx.out hJk.out hO.out
        have HX := hx
        have hlk := HLEN.out k x hx.out
        have hlx := HLF.out k x hx.out
        have hnx := path_at HP.out hx.out
        have hmeas := leftIn_eq (f := ff) hO.out
        have hklt : k < RK.length := (List.getElem?_eq_some_iff.1 hx.out).1
        have HBM := Lib.hid (fun (u : World) (hu : u.heap[m]? = wr.heap[m]?) => (World.cell?_of_block (a := ⟨m, 0, none⟩) (hu.trans hG.out)).trans hb1)
        have HGS := hG
        rw [hmeas]
        have HLX := Lib.hid hlx
        have HNX := Lib.hid hnx
        clear hG hx hlx hnx hmeas
        refine (wpIn_wide (n := 4)).1 ?_
        gi_wp2
        refine hR.mono ?_
        rintro e W3 ⟨rfl, hJ3, hO3, hm3⟩
        have hb3 := HBM.out W3 hm3
        have HJ3 := Lib.hid hJ3
        have HO3 := Lib.hid hO3
        have HM3 := Lib.hid (show W3.heap[m]? = W.heap[m]? from hm3.trans HGS.out)
        clear hR hy hJ3 hO3 hm3 HBM
        gi_wp2
        refine (wpIn_wide (n := 4)).2 ?_
        have HCM := Lib.hid (fun (u : World) (hu : u.heap[m]? = W.heap[m]?) => (World.cell?_of_block (a := ⟨m, 0, none⟩) hu).trans hb1)
        have HNL : Hid (nextL x = match riseAt x (n - 1) with | none => none | some i => some (revFrom (swp x i (overAt x (x.getD i 0) (n - 1))) (i + 1))) := Lib.hid (by rw [nextL, hlk] <;> rfl)
        clear hb3
        have hn2 : (n : Int) - 2 = ((n - 1 : Nat) : Int) - 1 ∨ ((n : Int) - 2 = -2 ∧ n - 1 = 0) := by omega
        go_loopw [5] (fun iv wr => ∃ (j : Nat) (i : Int), j ≤ n - 1 ∧ iv = .int .i64 i ∧ ((j = 0 ∧ i < 0 ∧ -2 ≤ i) ∨ (0 < j ∧ i = (j : Int) - 1)) ∧ Hid (riseAt x j = riseAt x (n - 1)) ∧ Hid (Own wr (s + 2) 3 x) ∧ Hid (J (k + 1) wr) ∧ Hid (wr.heap[m]? = W.heap[m]?)) (fun iv _ => (intOf iv + 2).toNat)
        case atStart => exact ⟨n - 1, _, Nat.le_refl _, rfl, by omega, Lib.hid rfl, HO3, HJ3, HM3⟩
        case round =>
          obtain ⟨j, i, hj, rfl, hij, hri, hO, hJk, hmm⟩ := hrel
          rcases hij with ⟨rfl, hi0, hi2⟩ | ⟨hj0, hij⟩
          · have d1 : decide (0 ≤ i) = false := decide_eq_false (by omega)
            have HEND : Hid (RK.length = k + 1) := Lib.hid (by
              have h1 := HNL.out
              rw [← hri.out] at h1
              rw [HNX.out] at h1
              have h2 : RK[k + 1]? = none := h1
              rw [List.getElem?_eq_none_iff] at h2
              omega)
            clear hn2
            go_wp2_with fail
            go_quiet (fail)
            have HJE := Lib.hid (HJ.out _ _ _ hJk.out (grown_drew wr nq _))
            go_wp2
            refine (wpIn_wide (n := 4)).2 ?_
            go_wp2
            refine bodyPost_ret (results_none rfl _ _ _) rfl ?_
            exact ⟨⟨_, rfl⟩, by rw [HEND.out]; exact HJE.out⟩
          · obtain ⟨q, rfl⟩ : ∃ q, j = q + 1 := ⟨j - 1, by omega⟩
            obtain rfl : i = (q : Int) := by omega
            obtain ⟨y0, hy0⟩ : ∃ y, x[q]? = some y := ⟨x[q]'(by omega), by simp⟩
            obtain ⟨y1, hy1⟩ : ∃ y, x[q + 1]? = some y := ⟨x[q + 1]'(by omega), by simp⟩
            have c0 := hO.out.cell hy0
            have c1 := hO.out.cell hy1
            have hd0 := getD_of hy0
            have hd1 := getD_of hy1
            have d1 : decide (0 ≤ (q : Int)) = true := decide_eq_true (by omega)
            have i1 : (q : Int) < (n : Int) := by omega
            have i2 : (q : Int) + 1 < (n : Int) := by omega
            clear hn2 hij hj0
            by_cases hyy : y1 < y0
            · have d2 : decide (y1 < y0) = true := decide_eq_true hyy
              have HRI : Hid (riseAt x q = riseAt x (n - 1)) := Lib.hid (by rw [← hri.out, riseAt_yes (by rw [hd0, hd1]; exact hyy)])
              clear hyy hd0 hd1 hy0 hy1
              go_wp2_with fail
              go_quiet (fail)
              have HJE := Lib.hid (HJ.out _ _ _ hJk.out (grown_drew wr nq _))
              have HOE := Lib.hid (hO.out.drewN nq)
              go_wp2
              go_roundw
              case rel => exact ⟨q, _, by omega, rfl, by omega, HRI, HOE, HJE, hmm⟩
              case measure => simp [intOf]; omega
            · have d2 : decide (y1 < y0) = false := decide_eq_false hyy
              have hri2 : riseAt x (n - 1) = some q := by rw [← hri.out, riseAt_no (by rw [hd0, hd1]; exact hyy)]
              have hnl := HNL.out
              rw [hri2] at hnl
              have HNL2 : Hid (nextL x = some (revFrom (swp x q (overAt x y0 (n - 1))) (q + 1))) := Lib.hid (by rw [← hd0]; exact hnl)
              have HY0 := Lib.hid hy0
              have HD0 := Lib.hid hd0
              clear hyy hd0 hd1 hy0 hy1 hri hri2 hnl HNL
              go_wp2_with fail
              go_quiet (fail)
              have HJE := Lib.hid (HJ.out _ _ _ hJk.out (grown_drew wr nq _))
              have HOE := Lib.hid (hO.out.drewN nq)
              have HME : Hid ((wr.drewN nq).heap[m]? = W.heap[m]?) := Lib.hid hmm.out
              clear hJk hO hmm c0 c1
              generalize wr.drewN nq = w5 at *
              have hb5 := HCM.out w5 HME.out
              go_wp2
              refine (wpIn_wide (n := 4)).2 ?_
              go_wp2_with fail
              clear hb5
              have hn1 : (n : Int) - 1 = ((n - 1 : Nat) : Int) := by omega
              go_loopw [6] (fun tv wr => ∃ t : Nat, q ≤ t ∧ t ≤ n - 1 ∧ tv = .int .i64 t ∧ Hid (overAt x y0 t = overAt x y0 (n - 1)) ∧ Hid (Own wr (s + 2) 3 x) ∧ Hid (J (k + 1) wr) ∧ Hid (wr.heap[m]? = W.heap[m]?)) (fun tv _ => (intOf tv).toNat)
              case atStart => exact ⟨n - 1, by omega, Nat.le_refl _, by rw [hn1], Lib.hid rfl, HOE, HJE, HME⟩
              case round =>
                obtain ⟨t, htq, htn, rfl, hov, hO, hJk, hmm⟩ := hrel
                obtain ⟨z, hz⟩ : ∃ z, x[t]? = some z := ⟨x[t]'(by omega), by simp⟩
                have c0 := hO.out.cell HY0.out
                have c1 := hO.out.cell hz
                have hdz := getD_of hz
                have i3 : (t : Int) < (n : Int) := by omega
                clear hn1
                by_cases hzy : z < y0
                · obtain ⟨t', rfl⟩ : ∃ t', t = t' + 1 := ⟨t - 1, by
                    have : t ≠ q := by
                      rintro rfl
                      rw [HD0.out] at hdz
                      omega
                    omega⟩
                  have htq' : q ≤ t' := by
                    have : t' + 1 ≠ q := by
                      intro e
                      rw [e, HD0.out] at hdz
                      omega
                    omega
                  have d3 : decide (z < y0) = true := decide_eq_true hzy
                  have HOV : Hid (overAt x y0 t' = overAt x y0 (n - 1)) := Lib.hid (by rw [← hov.out, overAt_yes (by rw [hdz]; exact hzy)])
                  clear hzy hdz hz
                  go_wp2_with fail
                  go_quiet (fail)
                  have HJE := Lib.hid (HJ.out _ _ _ hJk.out (grown_drew wr nq _))
                  have HOE := Lib.hid (hO.out.drewN nq)
                  go_wp2
                  go_roundw
                  case rel => exact ⟨t', htq', by omega, by go_num, HOV, HOE, HJE, hmm⟩
                  case measure => simp [intOf]
                · have d3 : decide (z < y0) = false := decide_eq_false hzy
                  have hov2 : overAt x y0 (n - 1) = t := by rw [← hov.out, overAt_no (by rw [hdz]; exact hzy)]
                  have hsw : swp x q t = (x.set q z).set t y0 := by rw [swp, hdz, HD0.out]
                  have hnl := HNL2.out
                  rw [hov2, hsw] at hnl
                  have HN3 := Lib.hid hnl
                  have HZ := Lib.hid hz
                  have HOV := Lib.hid hov2
                  clear hzy hdz hz hov hov2 hsw hnl HNL2
                  go_wp2_with fail
                  go_quiet (fail)
                  have HJE := Lib.hid (HJ.out _ _ _ hJk.out (grown_drew wr nq _))
                  have HOE := Lib.hid (hO.out.drewN nq)
                  have HME : Hid ((wr.drewN nq).heap[m]? = W.heap[m]?) := Lib.hid hmm.out
                  clear hJk hO hmm c0 c1
                  generalize wr.drewN nq = w6 at *
                  go_wp2
                  have c0 := HOE.out.cell HY0.out
                  have c1 := HOE.out.cell HZ.out
                  have f0 := HOE.out.frozen q
                  have f1 := HOE.out.frozen t
                  have hs1 := HOE.out.store q z
                  obtain ⟨zz, hzz⟩ : ∃ zz, (x.set q z)[t]? = some zz := ⟨(x.set q z)[t]'(by simp; omega), by simp⟩
                  have s1 := hs1.cell hzz
                  have s2 := hs1.frozen t
                  have HOS := Lib.hid (hs1.store t y0)
                  have HJS := Lib.hid (HJ.out _ _ _ (HJ.out _ _ _ HJE.out (grown_set w6 (s + 2) q (.int .i64 z))) (grown_set _ (s + 2) t (.int .i64 y0)))
                  have HMS : Hid (((w6.setCell ⟨s + 2, q, none⟩ (.int .i64 z)).setCell ⟨s + 2, t, none⟩ (.int .i64 y0)).heap[m]? = W.heap[m]?) := Lib.hid (by
                    rw [Below.heap_setCell _ _ _ _ (by show m ≠ s + 2; omega), Below.heap_setCell _ _ _ _ (by show m ≠ s + 2; omega)]; exact HME.out)
                  clear hs1 hzz
                  go_region
                  clear c0 c1 f0 f1 s1 s2 HOE HJE HME
                  have HO7 := Lib.hid HOS.out.drew
                  have HJ7 := Lib.hid (HJ.out _ _ _ HJS.out (grown_drew ((w6.setCell ⟨s + 2, q, none⟩ (.int .i64 z)).setCell ⟨s + 2, t, none⟩ (.int .i64 y0)) 1 _))
                  have HM7 : Hid (((w6.setCell ⟨s + 2, q, none⟩ (.int .i64 z)).setCell ⟨s + 2, t, none⟩ (.int .i64 y0)).drew.heap[m]? = W.heap[m]?) := Lib.hid HMS.out
                  clear HOS HJS HMS
                  change Hid (J (k + 1) ((w6.setCell ⟨s + 2, q, none⟩ (.int .i64 z)).setCell ⟨s + 2, t, none⟩ (.int .i64 y0)).drew) at HJ7
                  generalize ((w6.setCell ⟨s + 2, q, none⟩ (.int .i64 z)).setCell ⟨s + 2, t, none⟩ (.int .i64 y0)).drew = w7 at *
                  have hLl : ((x.set q z).set t y0).length = n := by simp; omega
                  have hnq : ¬ n = q + 1 := by omega
                  obtain ⟨Y, hY7⟩ : ∃ Y, Y = (x.set q z).set t y0 := ⟨_, rfl⟩
                  rw [← hY7] at HO7 HN3 hLl
                  clear hY7
                  have CR := Tryz.slices_Reverse_int (s + 2) (q + 1) (n - (q + 1)) (Y.drop (q + 1)) w7 (own_holds HO7.out) (by simp; omega)
                  rw [List.length_drop, hLl] at CR
                  have HCR := Lib.hid CR
                  have HLL := Lib.hid hLl
                  clear CR hLl
                  go_wp2_with fail
                  refine HCR.out.mono ?_
                  rintro e w8 ⟨rfl, nn, rfl⟩
                  have HO8 := Lib.hid (own_putRow (n := nn) (off := q + 1) HO7.out (by rw [HLL.out]; omega))
                  have HJ8 := Lib.hid (HJ.out _ _ _ HJ7.out (grown_putRow (w := w7) (g := s + 2) (n := nn) (off := q + 1) (d := (Y.drop (q + 1)).reverse.toArray)))
                  have HM8 : Hid ((putRow (Value.int .i64) (Sort.ahead w7 nn) (s + 2) (q + 1) (Y.drop (q + 1)).reverse.toArray).heap[m]? = W.heap[m]?) := Lib.hid (((grown_putRow (w := w7) (g := s + 2) (n := nn) (off := q + 1) (d := (Y.drop (q + 1)).reverse.toArray)).block m (by have := heap_lt' (HO7.out); omega) (by simp; omega)).trans HM7.out)
                  have HXN : Hid (RK[k + 1]? = some (revFrom Y (q + 1))) := Lib.hid (by rw [← HNX.out, HN3.out])
                  have hms := leftIn_eq (f := ff) HO8.out
                  have hl2 := HLF.out _ _ HXN.out
                  have hl1 := HLX.out
                  have HMEAS : Hid (leftIn ff (s + 2) 3 (putRow (Value.int .i64) (Sort.ahead w7 nn) (s + 2) (q + 1) (Y.drop (q + 1)).reverse.toArray) < lenFrom ff x + 1) := Lib.hid (by
                    have := (List.getElem?_eq_some_iff.1 HXN.out).1
                    rw [hms, hl2, hl1]; omega)
                  clear hms hl2 hl1 HO7 HJ7 HM7 HCR
                  generalize putRow (Value.int .i64) (Sort.ahead w7 nn) (s + 2) (q + 1) (Y.drop (q + 1)).reverse.toArray = w8 at *
                  go_wp2
                  go_roundw
                  case rel => exact ⟨k + 1, _, HXN, HO8, HM8, HJ8⟩
                  case measure => exact HMEAS.out
end Go.Proofs.YtkoipecnmijfoaaGreat
end

section
/-! slices.Clone of any list of integers; of a list of lists. -/
namespace Go.Proofs.YtkoipecnmijfoaaGreat
open Go.RowKit Go.Deep
set_option linter.unusedVariables false
set_option maxRecDepth 100000

/-- a copy: a new row, or an empty slice -/
def CopyRes (w : World) (T : Nat) (L : List Int) (e : Ending) (w' : World) : Prop :=
  ∃ A c, e = .returned (.slice A L.length c) ∧ (0 < L.length → ∃ g, A = some ⟨g, 0, none⟩ ∧ w.heap.size ≤ g ∧ OwnP w' g T L) ∧ Below w.heap.size w w'
set_option maxHeartbeats 400000 in
theorem cloneA {w : World} {B : Nat} {A : Option Addr} {L : List Int} {cap : Nat} (h : Rd w B A L) (hB : B ≤ w.heap.size) :
    Calls Tryz.prog 22 #[.slice A L.length cap] w (CopyRes w 3 L) := by
  by_cases hn : 0 < L.length
  · refine (clone h hB hn).mono ?_
    rintro e w' ⟨g, c, rfl, hg, hP, hb⟩
    exact ⟨_, c, rfl, fun _ => ⟨g, rfl, hg, hP⟩, hb⟩
  · have hL : L = [] := List.eq_nil_of_length_eq_zero (by omega)
    subst hL
    clear h hn
    show Calls Tryz.prog 22 #[.slice A 0 cap] w (CopyRes w 3 [])
    have hq := fun u a => Lib.run_eql_slice_nil (P := Tryz.prog) u 22 3 a 0 cap 0 0 Tryz.underlying22
    obtain ⟨i0, hi, hz0, hz1, hz2⟩ := info_parts infoInt'
    cases A with
    | none =>
      go_enter Tryz.func22, Tryz.ntmps22
      go_wp2
      go_ret
      exact ⟨none, 0, rfl, fun h => absurd h (by simp), Below.refl _ _⟩
    | some p =>
      have HO := Lib.hid (own_empty w 3)
      have HAL := Lib.hid (Below.alloc (B := w.heap.size) (Below.refl _ w) (Nat.le_refl _) (.cells #[] 3))
      have HSZ : Hid ((w.alloc (.cells #[] 3)).heap.size = w.heap.size + 1) := Lib.hid (by simp)
      have HI := Lib.hid hi
      clear hi
      go_enter Tryz.func22, Tryz.ntmps22
      generalize hw4 : w.alloc (.cells #[] 3) = w4 at *
      go_wp2_with (at_builtin; refine wpList_append_opt rfl _ _ 22 rfl w.heap.size 3 i0 (.int .i64 0) 1 8 Tryz.underlying22 HI.out hz0 hz1 hz2 rfl (by decide) _ 0 [] rfl HO.out (some p) 0 cap [] rfl rfl (fun h => rfl) (fun _ _ j u hu => by simp at hu) (by simp) (by unfold maxLen; omega) (by omega) (by rw [HSZ.out]; omega) ?_)
      intro v' w5 hown hgr hat
      have hb5 : Below w.heap.size w w5 := HAL.out.grown hgr (by rw [HSZ.out]; omega) (by intro k hk; simp [Value.ownBlock] at hk; omega)
      obtain ⟨A5, c5, hv5, _⟩ := row_slice hown
      subst hv5
      have HB5 := Lib.hid hb5
      clear hown hgr hat hb5 HO HAL HSZ hw4
      go_wp2
      go_ret
      exact ⟨A5, c5, rfl, fun h => absurd h (by simp), HB5.out⟩
theorem infoRowC : (Tryz.prog.info? 22).map (fun i => (i.zero, i.size, i.bytes)) = some (some (.slice none 0 0), 1, 24) := by kernel_rfl
/-- a new row of lists -/
def RowsRes (w : World) (B T : Nat) (R : List (List Int)) (e : Ending) (w' : World) : Prop :=
  ∃ g c vs, e = .returned (.slice (some ⟨g, 0, none⟩) R.length c) ∧ w.heap.size ≤ g ∧ w'.ownsRow w.heap.size T 1 (.slice (some ⟨g, 0, none⟩) R.length c) R.length vs ∧ (∀ (i : Nat) (L : List Int), R[i]? = some L → ∃ A1 c, vs[i]? = some (.slice A1 L.length c) ∧ Rd w B A1 L) ∧ Below w.heap.size w w'
set_option maxHeartbeats 400000 in
theorem cloneRows {w : World} {B : Nat} {A : Option Addr} {R : List (List Int)} {cap : Nat} (h : Rd2 w B A R) (hB : B ≤ w.heap.size) (hn : 0 < R.length) :
    Calls Tryz.prog 33 #[.slice A R.length cap] w (RowsRes w B 22 R) := by
  have hlen := h.len
  obtain ⟨i0, hi, hz0, hz1, hz2⟩ := info_parts infoRowC
  have hown0 := own_empty w 22
  have hal := Below.alloc (B := w.heap.size) (Below.refl _ w) (Nat.le_refl _) (.cells #[] 22)
  have hsz : (w.alloc (.cells #[] 22)).heap.size = w.heap.size + 1 := by simp
  obtain ⟨vs, hv1, _, hv3, hv4⟩ := rd2_vals h
  obtain ⟨bb, off, rfl, hbb, _⟩ := h.2 hn
  have HV3 := Lib.hid hv3
  have HV4 : Hid (∀ j u, vs[j]? = some u → (w.alloc (.cells #[] 22)).cell? ((⟨bb, off, none⟩ : Addr).add j) = some u) := Lib.hid fun j u hj => cell_kept hal (Nat.le_refl _) (hv4 _ rfl j u hj)
  have HO1 : Hid (∀ u ∈ vs, u.oneCell' = true) := Lib.hid (by
    intro u hu
    obtain ⟨i, hi⟩ := List.getElem?_of_mem hu
    have hlt := (List.getElem?_eq_some_iff.1 hi).1
    rw [hv1] at hlt
    obtain ⟨A', c', h1, _⟩ := hv3 i R[i] (by simp [hlt])
    rw [hi] at h1
    cases h1
    rfl)
  have HV1 := Lib.hid hv1
  have HI := Lib.hid hi
  have HO := Lib.hid hown0
  have HAL := Lib.hid hal
  have HSZ := Lib.hid hsz
  have hq := fun u => Lib.run_eql_slice_nil (P := Tryz.prog) u 23 22 (some ⟨bb, off, none⟩) R.length cap 0 0 Tryz.underlying23
  clear hal hsz hi hown0 h hv1 hv3 hv4
  go_enter Tryz.func33, Tryz.ntmps33
  generalize hw4 : w.alloc (.cells #[] 22) = w4 at *
  have HW4 := Lib.hid hw4
  clear hw4
  have hx4 : w.alloc (.cells #[] 22) = w4 := HW4.out
  go_wp2_with (at_builtin; refine wpList_append_own _ rfl _ _ 23 rfl w.heap.size 22 i0 (.slice none 0 0) 1 24 Tryz.underlying23 HI.out hz0 hz1 hz2 rfl (by decide) _ 0 [] rfl HO.out ⟨bb, off, none⟩ R.length cap vs rfl (by rw [HV1.out, Nat.mul_one]) HV4.out HO1.out (by unfold maxLen; omega) (by omega) (by rw [HSZ.out]; omega) ?_)
  intro v' w5 hown5 hgrow _
  have hb5 : Below w.heap.size w w5 := HAL.out.grown hgrow (by rw [HSZ.out]; omega) (by intro k hk; simp [Value.ownBlock] at hk; omega)
  have hown6 : w5.ownsRow w.heap.size 22 1 v' R.length vs := by simpa using hown5
  obtain ⟨gg, c5, hv5, hgg, _⟩ := hown6.form hn
  rw [hv5] at hown6
  have HP := Lib.hid hown6
  rw [hv5]
  have HB5 := Lib.hid hb5
  clear hown5 hgrow hb5 hx4 hv5 HW4 HAL HV4 HSZ hown6
  go_wp2
  go_ret
  exact ⟨gg, c5, vs, rfl, hgg, HP.out, HV3.out, HB5.out⟩
end Go.Proofs.YtkoipecnmijfoaaGreat
end

section
/-! Walks of chapter 35: List.
-/
namespace Go.Proofs.YtkoipecnmijfoaaGreat
open Go.RowKit Go.Deep
set_option linter.unusedVariables false
set_option maxRecDepth 100000
attribute [local go_sem] Oper.semAt_some

/-- what List holds when k rankings have been tried -/
structure LSt (w : World) (b12 gA cA T3 T22 : Nat) (vO vV : Value) (C a : Nat) (R : List (List Int)) (r : List Int × Int) (W : World) : Prop where
  below : Below w.heap.size w W
  size : b12 + 4 ≤ W.heap.size
  row : ∃ base us, W.ownsRow base T22 1 (.slice (some ⟨gA, 0, none⟩) R.length cA) R.length us ∧ us.length = R.length ∧ ∀ (j : Nat) (L : List Int), j ≠ a → R[j]? = some L → ∃ A1 c, us[j]? = some (.slice A1 L.length c) ∧ Rd w C A1 L
  c4 : W.cell? ⟨w.heap.size, 0, none⟩ = some vO
  c6 : W.cell? ⟨w.heap.size + 1, 0, none⟩ = some (.int .i64 (a : Int))
  c7 : W.cell? ⟨w.heap.size + 1 + 1, 0, none⟩ = some vV
  c12 : W.cell? ⟨b12, 0, none⟩ = some (.slice (some ⟨gA, 0, none⟩) R.length cA)
  best : ∃ A c, W.cell? ⟨b12 + 1, 0, none⟩ = some (.slice A r.1.length c) ∧ (0 < r.1.length → ∃ g, A = some ⟨g, 0, none⟩ ∧ b12 + 6 < g ∧ OwnP W g T3 r.1)
  f13 : W.frozen? ⟨b12 + 1, 0, none⟩ = false
  got : W.cell? ⟨b12 + 1 + 1, 0, none⟩ = some (.int .i64 r.2)
  f14 : W.frozen? ⟨b12 + 1 + 1, 0, none⟩ = false
theorem OwnP.grown {w w' : World} {g T : Nat} {L : List Int} {row : Option Nat} (h : OwnP w g T L) (hg : w.grownBy w' row) (hne : some g ≠ row) : OwnP w' g T L := by
  obtain ⟨cs, h1, h2⟩ := h
  exact ⟨cs, (hg.block g (heap_lt' h1) hne).trans h1, h2⟩
theorem frozen_of_block {w w' : World} {a : Addr} (h : w'.heap[a.block]? = w.heap[a.block]?) : w'.frozen? a = w.frozen? a := World.frozen?_of_block h
theorem LSt.turn {w : World} {b12 gA cA T3 T22 : Nat} {vO vV : Value} {C a : Nat} {R : List (List Int)} {rr : List Int × Int} {A B : World} {r : Nat}
    (h : LSt w b12 gA cA T3 T22 vO vV C a R rr A) (hg : A.grownBy B (some r)) (h1 : b12 + 4 ≤ r) (h2 : r ≤ b12 + 6) (hw : w.heap.size + 2 < gA) (hA : gA < b12) : LSt w b12 gA cA T3 T22 vO vV C a R rr B := by
  have hs := h.size
  have cell : ∀ (b : Nat) (v : Value), b < b12 + 4 → A.cell? ⟨b, 0, none⟩ = some v → B.cell? ⟨b, 0, none⟩ = some v := fun b v hb hc => hg.cell hc (by simp; omega)
  have fr : ∀ b, b < b12 + 4 → A.frozen? ⟨b, 0, none⟩ = false → B.frozen? ⟨b, 0, none⟩ = false := fun b hb hf => (frozen_of_block (a := ⟨b, 0, none⟩) (hg.block b (by omega) (by simp; omega))).trans hf
  refine ⟨?_, by have := hg.size; omega, ?_, cell _ _ (by omega) h.c4, cell _ _ (by omega) h.c6, cell _ _ (by omega) h.c7, cell _ _ (by omega) h.c12, ?_, fr _ (by omega) h.f13, cell _ _ (by omega) h.got, fr _ (by omega) h.f14⟩
  · exact h.below.grown hg h.below.size (fun q hq => by cases hq; omega)
  · obtain ⟨base, us, ho, hl, hr⟩ := h.row
    exact ⟨base, us, ho.kept hg (.inr (by simp [Value.ownBlock]; omega)), hl, hr⟩
  · obtain ⟨Ab, c, hc, hp⟩ := h.best
    refine ⟨Ab, c, cell _ _ (by omega) hc, fun h0 => ?_⟩
    obtain ⟨g, e, hgb, hP⟩ := hp h0
    exact ⟨g, e, hgb, hP.grown hg (by simp; omega)⟩
/-- a row of rows that reads as the rankings with another one -/
theorem rows_set {w W : World} {C a : Nat} {R : List (List Int)} {us : List Value} {x : List Int} {A : Option Addr} {c : Nat} (hl : us.length = R.length) (hr : ∀ (j : Nat) (L : List Int), j ≠ a → R[j]? = some L → ∃ A1 c, us[j]? = some (.slice A1 L.length c) ∧ Rd w C A1 L)
    (hb : Below w.heap.size w W) (hC : C ≤ w.heap.size) (hx : Rd W W.heap.size A x) (ha : a < R.length) : VRows W (us.set a (.slice A x.length c)) (R.set a x) := by
  refine ⟨by simp [hl], fun i L hi => ?_⟩
  by_cases hia : i = a
  · subst hia
    rw [List.getElem?_set_self ha] at hi
    cases hi
    exact ⟨A, c, by rw [List.getElem?_set_self (by omega)], hx⟩
  · rw [List.getElem?_set_ne (by omega)] at hi
    obtain ⟨A1, c1, h1, h2⟩ := hr i L hia hi
    exact ⟨A1, c1, by rw [List.getElem?_set_ne (by omega)]; exact h1, (h2.below hb hC).more (Nat.le_trans hC hb.size)⟩
theorem Rd.back {w w' : World} {B C : Nat} {A : Option Addr} {L : List Int} (h : Rd w' C A L) (hb : Below B w w') (hC : C ≤ B) : Rd w C A L :=
  ⟨h.1, h.2.1, fun hn => by
    obtain ⟨b, off, e, hlt, hc⟩ := h.2.2 hn
    exact ⟨b, off, e, hlt, fun i x hx => (hb.cell (p := ⟨b, off + i, none⟩) (by show b < B; omega)).symm.trans (hc i x hx)⟩⟩
/-- the ranking is laid into the rows; what has made memory alone comes behind it -/
theorem LSt.next {w : World} {b12 gA cA T3 T22 : Nat} {vO vV : Value} {C a : Nat} {R : List (List Int)} {rr : List Int × Int} {W W2 : World} {u : Value}
    (h : LSt w b12 gA cA T3 T22 vO vV C a R rr W) (hw : w.heap.size + 2 < gA) (hA : gA < b12) (hb : Below (W.setCell ⟨gA, a, none⟩ u).heap.size (W.setCell ⟨gA, a, none⟩ u) W2) : LSt w b12 gA cA T3 T22 vO vV C a R rr W2 := by
  have hs := h.size
  have hs1 : (W.setCell ⟨gA, a, none⟩ u).heap.size = W.heap.size := by simp [World.setCell]
  have blk : ∀ b, b < W.heap.size → b ≠ gA → W2.heap[b]? = W.heap[b]? := fun b hb1 hb2 => (hb.block b (by rw [hs1]; exact hb1)).trans (Below.heap_setCell W ⟨gA, a, none⟩ u b hb2)
  have cell : ∀ (b : Nat) (v : Value), b < b12 + 4 → b ≠ gA → W.cell? ⟨b, 0, none⟩ = some v → W2.cell? ⟨b, 0, none⟩ = some v := fun b v hb1 hb2 hc => (World.cell?_of_block (a := ⟨b, 0, none⟩) (blk b (by omega) hb2)).trans hc
  have fr : ∀ b, b < b12 + 4 → b ≠ gA → W.frozen? ⟨b, 0, none⟩ = false → W2.frozen? ⟨b, 0, none⟩ = false := fun b hb1 hb2 hf => (frozen_of_block (a := ⟨b, 0, none⟩) (blk b (by omega) hb2)).trans hf
  refine ⟨(h.below.setCell (p := ⟨gA, a, none⟩) (by show w.heap.size ≤ gA; omega) u).trans (hb.mono (by rw [hs1]; exact h.below.size)), by have := hb.size; omega, ?_, cell _ _ (by omega) (by omega) h.c4, cell _ _ (by omega) (by omega) h.c6, cell _ _ (by omega) (by omega) h.c7, cell _ _ (by omega) (by omega) h.c12, ?_, fr _ (by omega) (by omega) h.f13, cell _ _ (by omega) (by omega) h.got, fr _ (by omega) (by omega) h.f14⟩
  · obtain ⟨base, us, ho, hl, hr⟩ := h.row
    refine ⟨base, us.set a u, row_below (ho.stored a u).1 hb, by simp [hl], fun j L hj hL => ?_⟩
    obtain ⟨A1, c, h1, h2⟩ := hr j L hj hL
    exact ⟨A1, c, by rw [List.getElem?_set_ne (by omega)]; exact h1, h2⟩
  · obtain ⟨Ab, c, hc, hp⟩ := h.best
    refine ⟨Ab, c, cell _ _ (by omega) (by omega) hc, fun h0 => ?_⟩
    obtain ⟨g, e, hgb, hP⟩ := hp h0
    have hgl := hP.lt
    obtain ⟨cs, h1, h2⟩ := hP
    exact ⟨g, e, hgb, cs, (blk g hgl (by omega)).trans h1, h2⟩
/-- a better one is kept -/
theorem LSt.better {w : World} {b12 gA cA T3 T22 : Nat} {vO vV : Value} {C a : Nat} {R : List (List Int)} {rr : List Int × Int} {W W3 : World} {x : List Int} {n : Int} {A : Option Addr} {c : Nat}
    (h : LSt w b12 gA cA T3 T22 vO vV C a R rr W) (hw : w.heap.size + 2 < gA) (hA : gA < b12) (h6 : b12 + 6 < W.heap.size) (hb : Below W.heap.size W W3) (hp : 0 < x.length → ∃ g, A = some ⟨g, 0, none⟩ ∧ W.heap.size ≤ g ∧ OwnP W3 g T3 x) :
    LSt w b12 gA cA T3 T22 vO vV C a R (x, n) ((W3.setCell ⟨b12 + 1, 0, none⟩ (.slice A x.length c)).setCell ⟨b12 + 1 + 1, 0, none⟩ (.int .i64 n)) := by
  have hs := h.size
  have hs3 := hb.size
  have hbw := h.below.size
  have hz : ((W3.setCell ⟨b12 + 1, 0, none⟩ (.slice A x.length c)).setCell ⟨b12 + 1 + 1, 0, none⟩ (.int .i64 n)).heap.size = W3.heap.size := by simp [World.setCell]
  have blk3 : ∀ b, b ≠ b12 + 1 → b ≠ b12 + 1 + 1 → ((W3.setCell ⟨b12 + 1, 0, none⟩ (.slice A x.length c)).setCell ⟨b12 + 1 + 1, 0, none⟩ (.int .i64 n)).heap[b]? = W3.heap[b]? := fun b h1 h2 =>
    (Below.heap_setCell _ ⟨b12 + 1 + 1, 0, none⟩ _ b h2).trans (Below.heap_setCell _ ⟨b12 + 1, 0, none⟩ _ b h1)
  have blk : ∀ b, b < W.heap.size → b ≠ b12 + 1 → b ≠ b12 + 1 + 1 → ((W3.setCell ⟨b12 + 1, 0, none⟩ (.slice A x.length c)).setCell ⟨b12 + 1 + 1, 0, none⟩ (.int .i64 n)).heap[b]? = W.heap[b]? := fun b h0 h1 h2 => (blk3 b h1 h2).trans (hb.block b h0)
  have cell : ∀ (b : Nat) (v : Value), b < b12 + 1 → W.cell? ⟨b, 0, none⟩ = some v → ((W3.setCell ⟨b12 + 1, 0, none⟩ (.slice A x.length c)).setCell ⟨b12 + 1 + 1, 0, none⟩ (.int .i64 n)).cell? ⟨b, 0, none⟩ = some v := fun b v hb1 hc => (World.cell?_of_block (a := ⟨b, 0, none⟩) (blk b (by omega) (by omega) (by omega))).trans hc
  obtain ⟨Ab, cb, hcb, _⟩ := h.best
  have e13 : W3.cell? ⟨b12 + 1, 0, none⟩ = some (.slice Ab rr.1.length cb) := cell_kept hb (Nat.le_refl _) hcb
  have e14 : W3.cell? ⟨b12 + 1 + 1, 0, none⟩ = some (.int .i64 rr.2) := cell_kept hb (Nat.le_refl _) h.got
  have g13 : W3.frozen? ⟨b12 + 1, 0, none⟩ = false := (frozen_of_block (a := ⟨b12 + 1, 0, none⟩) (hb.block _ (by show b12 + 1 < _; omega))).trans h.f13
  have g14 : W3.frozen? ⟨b12 + 1 + 1, 0, none⟩ = false := (frozen_of_block (a := ⟨b12 + 1 + 1, 0, none⟩) (hb.block _ (by show b12 + 1 + 1 < _; omega))).trans h.f14
  refine ⟨((h.below.trans (hb.mono hbw)).setCell (p := ⟨b12 + 1, 0, none⟩) (by show w.heap.size ≤ b12 + 1; omega) _).setCell (p := ⟨b12 + 1 + 1, 0, none⟩) (by show w.heap.size ≤ b12 + 1 + 1; omega) _, by rw [hz]; omega, ?_, cell _ _ (by omega) h.c4, cell _ _ (by omega) h.c6, cell _ _ (by omega) h.c7, cell _ _ (by omega) h.c12, ?_, by rw [World.frozen?_setCell, World.frozen?_setCell]; exact g13, ?_, by rw [World.frozen?_setCell, World.frozen?_setCell]; exact g14⟩
  · obtain ⟨base, us, ho, hl, hr⟩ := h.row
    refine ⟨base, us, ?_, hl, hr⟩
    have h1 : W3.ownsRow base T22 1 (.slice (some ⟨gA, 0, none⟩) R.length cA) R.length us := row_below ho hb
    have h2 := h1.kept (grown_set W3 (b12 + 1) 0 (.slice A x.length c)) (.inr (by simp [Value.ownBlock]; omega))
    exact h2.kept (grown_set _ (b12 + 1 + 1) 0 (.int .i64 n)) (.inr (by simp [Value.ownBlock]; omega))
  · refine ⟨A, c, ?_, fun h0 => ?_⟩
    · rw [World.cell?_of_block (a := ⟨b12 + 1, 0, none⟩) (Below.heap_setCell _ ⟨b12 + 1 + 1, 0, none⟩ _ _ (by show b12 + 1 ≠ b12 + 1 + 1; omega))]
      exact World.cell?_setCell_same _ _ _ e13
    · obtain ⟨g, e, hg, hP⟩ := hp h0
      obtain ⟨cs, h1, h2⟩ := hP
      exact ⟨g, e, by omega, cs, (blk3 g (by omega) (by omega)).trans h1, h2⟩
  · have e14' : (W3.setCell ⟨b12 + 1, 0, none⟩ (.slice A x.length c)).cell? ⟨b12 + 1 + 1, 0, none⟩ = some (.int .i64 rr.2) :=
      (World.cell?_of_block (a := ⟨b12 + 1 + 1, 0, none⟩) (Below.heap_setCell _ ⟨b12 + 1, 0, none⟩ _ _ (by show b12 + 1 + 1 ≠ b12 + 1; omega))).trans e14
    exact World.cell?_setCell_same _ _ _ e14'
end Go.Proofs.YtkoipecnmijfoaaGreat
end

section
/-! Walks of chapter 35: List.
-/
namespace Go.Proofs.YtkoipecnmijfoaaGreat
open Go.RowKit Go.Deep
set_option linter.unusedVariables false
set_option maxRecDepth 100000
attribute [local go_sem] Oper.semAt_some

theorem lRankings {w : World} (n : Int) : Calls Tryz.prog 34 #[.int .i64 n] w fun e w' => e = .returned (.func (.func 60) #[] #[.pointer (some ⟨w.heap.size, 0, none⟩)]) ∧ w' = w.alloc (.cells #[.int .i64 n] 3) := by
  go_enter Tryz.func34, Tryz.ntmps34
  go_wp2
  go_ret
  exact ⟨rfl, rfl⟩
theorem cellNew (w : World) (v : Value) (T : Nat) : (w.alloc (.cells #[v] T)).cell? ⟨w.heap.size, 0, none⟩ = some v := (cell_of_row _ _ 0 _ T (0, 0) (heap_alloc_new _ _)).trans rfl
theorem frozenNew (w : World) (v : Value) (T : Nat) : (w.alloc (.cells #[v] T)).frozen? ⟨w.heap.size, 0, none⟩ = false := frozen_of_row _ _ 0 _ T (heap_alloc_new _ _)
theorem cellOld {w : World} {p : Addr} {v : Value} (h : w.cell? p = some v) (o : Obj) : (w.alloc o).cell? p = some v := cell_kept ((Below.refl _ _).alloc (Nat.le_refl _) _) (Nat.le_refl _) h
theorem frozenOld {w : World} {p : Addr} (h : w.frozen? p = false) (hp : p.block < w.heap.size) (o : Obj) : (w.alloc o).frozen? p = false := (frozen_of_block (Below.heap_alloc w o _ hp)).trans h
theorem sizeA (w : World) (o : Obj) : (w.alloc o).heap.size = w.heap.size + 1 := by simp
/-- three new cells, one after another -/
theorem three (w : World) (v1 v2 v3 : Value) (T1 T2 T3 : Nat) (w3 : World) (h : ((w.alloc (.cells #[v1] T1)).alloc (.cells #[v2] T2)).alloc (.cells #[v3] T3) = w3) :
    Below w.heap.size w w3 ∧ w3.heap.size = w.heap.size + 3 ∧ w3.cell? ⟨w.heap.size, 0, none⟩ = some v1 ∧ w3.cell? ⟨w.heap.size + 1, 0, none⟩ = some v2 ∧ w3.cell? ⟨w.heap.size + 1 + 1, 0, none⟩ = some v3 ∧ w3.frozen? ⟨w.heap.size + 1, 0, none⟩ = false ∧ w3.frozen? ⟨w.heap.size + 1 + 1, 0, none⟩ = false := by
  have c1 := cellNew w v1 T1
  have c2 := cellNew (w.alloc (.cells #[v1] T1)) v2 T2
  have c3 := cellNew ((w.alloc (.cells #[v1] T1)).alloc (.cells #[v2] T2)) v3 T3
  have f2 := frozenNew (w.alloc (.cells #[v1] T1)) v2 T2
  have f3 := frozenNew ((w.alloc (.cells #[v1] T1)).alloc (.cells #[v2] T2)) v3 T3
  rw [sizeA] at c2 f2
  rw [sizeA, sizeA] at c3 f3
  subst h
  refine ⟨(((Below.refl _ _).alloc (Nat.le_refl _) _).alloc (by rw [sizeA]; omega) _).alloc (by rw [sizeA, sizeA]; omega) _, by rw [sizeA, sizeA, sizeA], cellOld (cellOld c1 _) _, cellOld c2 _, c3, frozenOld f2 (by rw [sizeA, sizeA]; show w.heap.size + 1 < _; omega) _, f3⟩
set_option maxHeartbeats 1000000 in
theorem lListE {w : World} {B C D : Nat} {A A' A3 : Option Addr} {O V : List Int} {R : List (List Int)} {cap cap' cap3 : Nat} (a : Int) (h : Rd w B A O) (h' : Rd2 w C A' R) (h3 : Rd w D A3 V) (hB : B ≤ w.heap.size) (hC : C ≤ w.heap.size) (hD : D ≤ w.heap.size) (hR : ∀ l ∈ R, l.length < 100000000000000) :
    Calls Tryz.prog 12 #[.slice A O.length cap, .slice A' R.length cap', .int .i64 a, .slice A3 V.length cap3] w (RowNE w (lsL O R a V) (lsN O R a V) (lkd35 O R a V)) := by
  obtain ⟨w3, hw3⟩ : ∃ w3, ((w.alloc (.cells #[.slice A O.length cap] 22)).alloc (.cells #[.int .i64 a] 3)).alloc (.cells #[.slice A3 V.length cap3] 22) = w3 := ⟨_, rfl⟩
  obtain ⟨hb3, hs3, k4, k6, k7, _, _⟩ := three _ _ _ _ _ _ _ _ hw3
  have C1 := lLooked35 (cap := cap) (cap' := cap') (cap3 := cap3) a (h.below hb3 hB) (h'.below hb3 hC) (h3.below hb3 hD) (by rw [hs3]; omega) (by rw [hs3]; omega) (by rw [hs3]; omega) hR
  have HB3 := Lib.hid hb3
  have HS3 := Lib.hid hs3
  clear hb3 hs3
  by_cases hk : lkd35 O R a V = 0
  · obtain ⟨hor, hv, ha0, ha1⟩ := lkd35_zero hk
    obtain ⟨k, rfl⟩ : ∃ k : Nat, a = k := ⟨a.toNat, by omega⟩
    have hkR : k < R.length := by omega
    have HL : Hid (lsL O R k V = (bestL (hasW O R k V) (rkAll O.length) ([], -1)).1) := Lib.hid (by rw [lsL, if_pos hk]; rfl)
    have HN : Hid (lsN O R k V = (bestL (hasW O R k V) (rkAll O.length) ([], -1)).2) := Lib.hid (by rw [lsN, if_pos hk]; rfl)
    rw [hk] at C1 ⊢
    have CC : Hid (∀ u, Below w.heap.size w u → Calls Tryz.prog 33 #[.slice A' R.length cap'] u (RowsRes u C 22 R)) := Lib.hid fun u hu => cloneRows (h'.below hu hC) (Nat.le_trans hC hu.size) (by omega)
    have H := Lib.hid h
    have H3 := Lib.hid h3
    have HOR := Lib.hid hor
    have HV := Lib.hid hv
    clear hk h h' h3 hor hv ha0 ha1
    refine (callsIn_wide (n := 5)).1 (callsIn_of_wp_marks Tryz.func12 rfl trivial ?_ rfl)
    simp only [Tryz.ntmps12, List.size_toArray, List.length_cons, List.length_nil, Nat.reduceAdd, Nat.reduceSub, Array.replicate_succ, Array.replicate_zero, List.push_toArray, List.append_toArray, List.nil_append, List.cons_append]
    refine (wpIn_wide (n := 5)).2 ?_
    go_wp2_with fail
    refine C1.mono ?_
    rintro e w4 ⟨rfl, hb4⟩
    have k4' : w4.cell? ⟨w.heap.size, 0, none⟩ = some (.slice A O.length cap) := (hb4.cell (p := ⟨w.heap.size, 0, none⟩) (by show w.heap.size < _; rw [HS3.out]; omega)).trans k4
    have k6' : w4.cell? ⟨w.heap.size + 1, 0, none⟩ = some (.int .i64 (k : Int)) := (hb4.cell (p := ⟨w.heap.size + 1, 0, none⟩) (by show w.heap.size + 1 < _; rw [HS3.out]; omega)).trans k6
    have k7' : w4.cell? ⟨w.heap.size + 1 + 1, 0, none⟩ = some (.slice A3 V.length cap3) := (hb4.cell (p := ⟨w.heap.size + 1 + 1, 0, none⟩) (by show w.heap.size + 1 + 1 < _; rw [HS3.out]; omega)).trans k7
    have HB4 := Lib.hid (HB3.out.trans (hb4.mono HB3.out.size))
    have HS4 : Hid (w.heap.size + 3 ≤ w4.heap.size) := Lib.hid (by have := hb4.size; have := HS3.out; omega)
    clear hb4 k4 k6 k7 C1 HB3 HS3 hw3
    go_wp2_with fail
    refine (CC.out w4 HB4.out).mono ?_
    rintro e w5 ⟨gA, cA, vs, rfl, hgA, hown, hvs, hb5⟩
    have k4 := (cell_kept hb5 (Nat.le_refl _) k4')
    have k6 := (cell_kept hb5 (Nat.le_refl _) k6')
    have k7 := (cell_kept hb5 (Nat.le_refl _) k7')
    have HB5 := Lib.hid (HB4.out.trans (hb5.mono HB4.out.size))
    have HOW := Lib.hid hown
    have HVS := Lib.hid hvs
    have HGA := Lib.hid hgA
    clear hgA hown hvs hb5 k4' k6' k7' CC
    obtain ⟨w6, hw6⟩ : ∃ w6, ((w5.alloc (.cells #[.slice (some ⟨gA, 0, none⟩) R.length cA] 23)).alloc (.cells #[.slice none 0 0] 22)).alloc (.cells #[.int .i64 (-1)] 3) = w6 := ⟨_, rfl⟩
    obtain ⟨hb6, hs6, n12, n13, n14, f13, f14⟩ := three _ _ _ _ _ _ _ _ hw6
    have k4' := cell_kept hb6 (Nat.le_refl _) k4
    have k6' := cell_kept hb6 (Nat.le_refl _) k6
    have k7' := cell_kept hb6 (Nat.le_refl _) k7
    have HB6 := Lib.hid (HB5.out.trans (hb6.mono HB5.out.size))
    have HS6 := Lib.hid hs6
    have HOW6 := Lib.hid (row_below HOW.out hb6)
    have HGL : Hid (gA < w5.heap.size) := Lib.hid (HOW.out.lt gA rfl).2
    clear hb6 hs6 k4 k6 k7 HOW
    have CRK := lRankings (w := w6) (O.length : Int)
    go_wp2_with fail
    refine CRK.mono ?_
    rintro e w7 ⟨rfl, hw7⟩
    have hal7 := Below.alloc (B := w6.heap.size) (Below.refl _ w6) (Nat.le_refl _) (.cells #[.int .i64 (O.length : Int)] 3)
    have cm := cellNew w6 (.int .i64 (O.length : Int)) 3
    have hs7 := sizeA w6 (.cells #[.int .i64 (O.length : Int)] 3)
    rw [← hw7] at hal7 cm hs7
    clear hw7 hw6
    have hst : LSt w w5.heap.size gA cA 3 22 (.slice A O.length cap) (.slice A3 V.length cap3) C k R ([], -1) w7 :=
      ⟨HB6.out.trans (hal7.mono HB6.out.size), by rw [hs7, HS6.out]; omega, ⟨_, vs, row_below HOW6.out hal7, by have := HOW6.out.1; omega, fun j L _ hj => by
        obtain ⟨A1, c, h1, h2⟩ := HVS.out j L hj
        exact ⟨A1, c, h1, h2.back HB4.out hC⟩⟩, cell_kept hal7 (Nat.le_refl _) k4', cell_kept hal7 (Nat.le_refl _) k6', cell_kept hal7 (Nat.le_refl _) k7', cell_kept hal7 (Nat.le_refl _) n12, ⟨none, 0, cell_kept hal7 (Nat.le_refl _) n13, fun h => absurd h (by simp)⟩, (frozen_of_block (a := ⟨w5.heap.size + 1, 0, none⟩) (hal7.block _ (by show w5.heap.size + 1 < _; rw [HS6.out]; omega))).trans f13, cell_kept hal7 (Nat.le_refl _) n14, (frozen_of_block (a := ⟨w5.heap.size + 1 + 1, 0, none⟩) (hal7.block _ (by show w5.heap.size + 1 + 1 < _; rw [HS6.out]; omega))).trans f14⟩
    have HST := Lib.hid hst
    have HCM := Lib.hid cm
    have HS7 : Hid (w7.heap.size = w5.heap.size + 4) := Lib.hid (by rw [hs7, HS6.out])
    have hIt := lRankIt (w := w7) (s := w7.heap.size) (m := w6.heap.size) (n := O.length) rfl (by rw [hs7]; omega) cm HOR.out.o6
    have HIT := Lib.hid hIt
    have HM : Hid (w6.heap.size = w5.heap.size + 3) := HS6
    have hm7 : w6.heap.size < w7.heap.size := by rw [hs7]; omega
    have HGA2 : Hid (w.heap.size + 2 < gA ∧ gA < w5.heap.size) := Lib.hid ⟨by have := HS4.out; have := HGA.out; omega, HGL.out⟩
    clear hst cm hs7 hal7 HS6 HOW6 HVS n12 n13 n14 f13 f14 k4' k6' k7' CRK hIt
    go_wp2_with fail
    refine (wpIn_wide (n := 5)).1 ?_
    refine rangeRow (gf := 60) (lb := #[.pointer (some ⟨w6.heap.size, 0, none⟩)]) (T := 3) (len := O.length) (cap := O.length) (RK := rkAll O.length) (m := w6.heap.size) rfl (fun args u => by kernel_rfl) rfl hm7 HIT.out
      (fun k' W => LSt w w5.heap.size gA cA 3 22 (.slice A O.length cap) (.slice A3 V.length cap3) C k R (bestL (hasW O R k V) ((rkAll O.length).take k') ([], -1)) W)
      (fun k' X Y r h hg h1 h2 => h.turn hg (by rw [← HS7.out]; exact h1) (by rw [HS7.out] at h2; omega) HGA2.out.1 HGA2.out.2) HST.out ?a1 ?assign ?body ?done
    case assign =>
      intro l W K hK
      gi_wp2
      exact hK
    case body =>
      intro l k' x W hx hI hO
      have hs7 := HS7.out
      have hg2 := HGA2.out.1
      have hg3 := HGA2.out.2
      have hm3 := HM.out
      have hox := hO.lt
      have hW1s : (W.setCell ⟨gA, k, none⟩ (.slice (some ⟨w7.heap.size + 2, 0, none⟩) O.length O.length)).heap.size = W.heap.size := by simp [World.setCell]
      have hbW := hI.below
      have hbW1 := hbW.setCell (p := ⟨gA, k, none⟩) (by show w.heap.size ≤ gA; omega) (.slice (some ⟨w7.heap.size + 2, 0, none⟩) O.length O.length)
      have hperm := rkAll_perm (List.mem_of_getElem? hx)
      have hxl : x.length = O.length := by rw [← hperm.length_eq, iota_length]
      obtain ⟨base, us, hrow, hul, hur⟩ := hI.row
      have hst := hrow.stored k (.slice (some ⟨w7.heap.size + 2, 0, none⟩) O.length O.length)
      have hfz := hrow.frozenAt k
      obtain ⟨v0, hv0⟩ : ∃ v0, us[k]? = some v0 := ⟨us[k]'(by omega), by simp⟩
      have hc0 : W.cell? ⟨gA, k, none⟩ = some v0 := (hrow.cellAt k (by omega)).trans hv0
      have hO1 : Own (W.setCell ⟨gA, k, none⟩ (.slice (some ⟨w7.heap.size + 2, 0, none⟩) O.length O.length)) (w7.heap.size + 2) 3 x := hO.far (by show w7.heap.size + 2 ≠ gA; omega) _
      have hxi : ∀ y ∈ x, I64 y := fun y hy => by
        obtain ⟨g, rfl, hg⟩ := iota_mem.1 (hperm.mem_iff.2 hy)
        have := HOR.out.o6
        unfold I64; omega
      have hrx := hO1.rd hxi (by have := HOR.out.o6; omega) hO1.lt
      have hvr := rows_set (c := O.length) hul hur hbW1 hC hrx hkR
      rw [hxl] at hvr
      have hlen2 : (R.set k x).length = R.length := by simp
      have hst1 := hst.1
      rw [← hlen2] at hst1
      have hrd2 := rd2_of_row hst1 hvr (by rw [hlen2]; have := HOR.out.r6; omega)
      have CH := lHasW (cap := cap) (cap' := cA) (cap3 := cap3) (k : Int) (H.out.below hbW1 hB) hrd2 (H3.out.below hbW1 hD) (Nat.le_trans hB hbW1.size) (Nat.le_refl _) (Nat.le_trans hD hbW1.size) (HOR.out.set k hperm) HV.out
      rw [hlen2] at CH
      have hval : hasV O (R.set k x) (k : Int) V = hasW O R (k : Int) V x := by rw [hasW, Int.toNat_natCast]
      rw [hval] at CH
      have cel : ∀ (b : Nat) (v : Value), b ≠ gA → W.cell? ⟨b, 0, none⟩ = some v → (W.setCell ⟨gA, k, none⟩ (.slice (some ⟨w7.heap.size + 2, 0, none⟩) O.length O.length)).cell? ⟨b, 0, none⟩ = some v := fun b v hb hc => (World.cell?_of_block (a := ⟨b, 0, none⟩) (Below.heap_setCell W ⟨gA, k, none⟩ _ b hb)).trans hc
      have c12 := hI.c12
      have c6 := hI.c6
      have d4 := cel _ _ (by omega) hI.c4
      have d6 := cel _ _ (by omega) c6
      have d7 := cel _ _ (by omega) hI.c7
      have d12 := cel _ _ (by omega) c12
      have hbt := bestL_take (f := hasW O R k V) hx ([], -1)
      have HCH := Lib.hid CH
      have HI' := Lib.hid hI
      have HBT := Lib.hid hbt
      have HXL := Lib.hid hxl
      have HXI := Lib.hid hxi
      have HO := Lib.hid hO
      have hklt : (k : Int) < (R.length : Int) := by omega
      have hBel : Hid (∀ b, b < W.heap.size → b ≠ gA → (W.setCell ⟨gA, k, none⟩ (.slice (some ⟨w7.heap.size + 2, 0, none⟩) O.length O.length)).heap[b]? = W.heap[b]?) := Lib.hid fun b _ hb => Below.heap_setCell W ⟨gA, k, none⟩ _ b hb
      have HO1 := Lib.hid hO1
      have HW1S := Lib.hid hW1s
      clear hs7 hm3 hbW hbW1 hperm hrow hul hur hst hv0 hvr hlen2 hst1 hrd2 CH hval cel hI hbt hx hxl hxi hO hrx hO1 hW1s
      generalize hasW O R (k : Int) V x = n1 at *
      have hx6 : w5.heap.size + 6 < W.heap.size := by rw [HS7.out] at hox; omega
      have HX6 := Lib.hid hx6
      obtain ⟨r0, hr0⟩ : ∃ r0, r0 = bestL (hasW O R (k : Int) V) ((rkAll O.length).take k') ([], -1) := ⟨_, rfl⟩
      rw [← hr0] at HI' HBT
      have HM4 : Hid (w6.heap.size < W.heap.size ∧ w6.heap.size ≠ gA ∧ w6.heap.size ≠ w5.heap.size + 1 ∧ w6.heap.size ≠ w5.heap.size + 1 + 1) := Lib.hid ⟨by omega, by have := HM.out; omega, by have := HM.out; omega, by have := HM.out; omega⟩
      have HS8 : Hid (w5.heap.size + 4 ≤ w7.heap.size) := Lib.hid (by rw [HS7.out]; omega)
      clear hr0 hx6
      by_cases hg : r0.2 < n1
      · rw [if_pos hg] at HBT
        have d1 : decide (r0.2 < n1) = true := decide_eq_true hg
        clear hg
        generalize hr2 : r0.2 = g0 at *
        gi_wp2_with (first | (refine ⟨trivial, ?_⟩; gi_at_call 35; refine (CallsIn.inRound l (callsIn_wide.2 HCH.out)).mono ?_; rintro e W2 ⟨rfl, hb2⟩; have HI2 := Lib.hid (HI'.out.next hg2 hg3 hb2); have HB2 := Lib.hid hb2; have c14 : W2.cell? ⟨w5.heap.size + 1 + 1, 0, none⟩ = some (.int .i64 g0) := by { have := HI2.out.got; rw [hr2] at this; exact this }; clear hb2 HCH d4 d6 d7 d12 hc0 hfz c12 c6; have HCL := Lib.hid (cloneA (cap := O.length) ((((HO1.out.below HB2.out HO1.out.lt).rd HXI.out (by rw [HXL.out]; have := HOR.out.o6; omega) (Own.lt (HO1.out.below HB2.out HO1.out.lt)))) ) (Nat.le_refl _)); rw [HXL.out] at HCL))
        refine ⟨trivial, (CallsIn.inRound l (callsIn_wide.2 HCL.out)).mono ?_⟩
        rintro e W3 ⟨A9, c9, rfl, hp9, hb9⟩
        have hW2 : w5.heap.size + 6 < W2.heap.size := by have := HB2.out.size; rw [HW1S.out] at this; have := HX6.out; omega
        have HFIN := Lib.hid (HI2.out.better (n := n1) (c := c9) hg2 hg3 hW2 hb9 hp9)
        obtain ⟨Ab, cb, hcb, _⟩ := HI2.out.best
        have e13 := cell_kept hb9 (Nat.le_refl _) hcb
        have g13 : W3.frozen? ⟨w5.heap.size + 1, 0, none⟩ = false := (frozen_of_block (a := ⟨w5.heap.size + 1, 0, none⟩) (hb9.block _ (by show w5.heap.size + 1 < _; omega))).trans HI2.out.f13
        have g14 : (W3.setCell ⟨w5.heap.size + 1, 0, none⟩ (.slice A9 x.length c9)).frozen? ⟨w5.heap.size + 1 + 1, 0, none⟩ = false := by
          rw [World.frozen?_setCell]
          exact (frozen_of_block (a := ⟨w5.heap.size + 1 + 1, 0, none⟩) (hb9.block _ (by show w5.heap.size + 1 + 1 < _; omega))).trans HI2.out.f14
        have e14 : (W3.setCell ⟨w5.heap.size + 1, 0, none⟩ (.slice A9 x.length c9)).cell? ⟨w5.heap.size + 1 + 1, 0, none⟩ = some (.int .i64 g0) :=
          (World.cell?_of_block (a := ⟨w5.heap.size + 1 + 1, 0, none⟩) (Below.heap_setCell _ ⟨w5.heap.size + 1, 0, none⟩ _ _ (by show w5.heap.size + 1 + 1 ≠ w5.heap.size + 1; omega))).trans (cell_kept hb9 (Nat.le_refl _) c14)
        have HB9 := Lib.hid hb9
        have HW2 := Lib.hid hW2
        clear hcb hp9 hb9 hW2 HCL c14
        gi_wp2
        have hkeep : ∀ b, b < W.heap.size → b ≠ gA → b ≠ w5.heap.size + 1 → b ≠ w5.heap.size + 1 + 1 → ((W3.setCell ⟨w5.heap.size + 1, 0, none⟩ (.slice A9 x.length c9)).setCell ⟨w5.heap.size + 1 + 1, 0, none⟩ (.int .i64 n1)).heap[b]? = W.heap[b]? := fun b h1 h2 h3 h4 =>
          (Below.heap_setCell _ ⟨w5.heap.size + 1 + 1, 0, none⟩ _ b h4).trans ((Below.heap_setCell _ ⟨w5.heap.size + 1, 0, none⟩ _ b h3).trans ((HB9.out.block b (by have := HB2.out.size; rw [HW1S.out] at this; omega)).trans ((HB2.out.block b (by rw [HW1S.out]; exact h1)).trans (hBel.out b h1 h2))))
        have h8 := HS8.out
        refine ⟨hkeep _ (by omega) (by omega) (by omega) (by omega), hkeep _ (by omega) (by omega) (by omega) (by omega), hkeep _ (by omega) (by omega) (by omega) (by omega), hkeep _ HM4.out.1 HM4.out.2.1 HM4.out.2.2.1 HM4.out.2.2.2, ?_⟩
        show LSt _ _ _ _ _ _ _ _ _ _ _ (bestL (hasW O R (k : Int) V) ((rkAll O.length).take (k' + 1)) ([], -1)) _
        rw [HBT.out]
        exact HFIN.out
      · rw [if_neg hg] at HBT
        have d1 : decide (r0.2 < n1) = false := decide_eq_false hg
        clear hg
        generalize hr2 : r0.2 = g0 at *
        gi_wp2_with (first | (refine ⟨trivial, ?_⟩; gi_at_call 35; refine (CallsIn.inRound l (callsIn_wide.2 HCH.out)).mono ?_; rintro e W2 ⟨rfl, hb2⟩; have HI2 := Lib.hid (HI'.out.next hg2 hg3 hb2); have HB2 := Lib.hid hb2; have c14 : W2.cell? ⟨w5.heap.size + 1 + 1, 0, none⟩ = some (.int .i64 g0) := by { have := HI2.out.got; rw [hr2] at this; exact this }; clear hb2 HCH d4 d6 d7 d12 hc0 hfz c12 c6))
        have hkeep : ∀ b, b < W.heap.size → b ≠ gA → W2.heap[b]? = W.heap[b]? := fun b h1 h2 => (HB2.out.block b (by rw [HW1S.out]; exact h1)).trans (hBel.out b h1 h2)
        refine ⟨hkeep _ (by omega) (by have := HS8.out; omega), hkeep _ (by omega) (by have := HS8.out; omega), hkeep _ (by omega) (by have := HS8.out; omega), hkeep _ HM4.out.1 HM4.out.2.1, ?_⟩
        show LSt _ _ _ _ _ _ _ _ _ _ _ (bestL (hasW O R (k : Int) V) ((rkAll O.length).take (k' + 1)) ([], -1)) W2
        rw [HBT.out]
        exact HI2.out
    case done =>
      intro W hI hD
      rw [List.take_length] at hI
      obtain ⟨Ab, cb, hcb, hpb⟩ := hI.best
      have hcg := hI.got
      have HBW := Lib.hid hI.below
      have HPB := Lib.hid hpb
      have HDD := Lib.hid hD
      clear hI hpb hD
      have hok := bestR_ok (a := (k : Int)) HOR.out HV.out
      rw [bestR] at hok
      have hp9 := rkAll_perm hok.1
      have HI9 : Hid ((∀ y ∈ (bestL (hasW O R (k : Int) V) (rkAll O.length) ([], -1)).1, I64 y) ∧ (bestL (hasW O R (k : Int) V) (rkAll O.length) ([], -1)).1.length ≤ 6) := Lib.hid ⟨fun y hy => by
        obtain ⟨g, rfl, hg⟩ := iota_mem.1 (hp9.mem_iff.2 hy)
        have := HOR.out.o6
        unfold I64; omega, by rw [← hp9.length_eq, iota_length]; exact HOR.out.o6⟩
      clear hok hp9
      generalize bestL (hasW O R (k : Int) V) (rkAll O.length) ([], -1) = r9 at *
      obtain ⟨L9, n9⟩ := r9
      gi_wp2
      go_wp2_with fail
      go_quiet (fail)
      have HDQ : Hid ((W.drewN nq).heap[w7.heap.size]? = some (.deferred (some []))) := HDD
      have HBQ := Lib.hid (below_drewN HBW.out nq)
      have HPQ : Hid (0 < L9.length → ∃ g, Ab = some ⟨g, 0, none⟩ ∧ w5.heap.size + 6 < g ∧ OwnP (W.drewN nq) g 3 L9) := HPB
      generalize W.drewN nq = W9 at *
      go_wp2
      refine ⟨by simp, .inl ⟨_, _, rfl, run_takeDeferred HDQ.out, ?_⟩⟩
      rw [show lsL O R (k : Int) V = L9 from HL.out, show lsN O R (k : Int) V = n9 from HN.out]
      have h8 := HS7.out
      have hgr : W9.grownBy (W9.putObj w7.heap.size (.deferred none)) (some w7.heap.size) := grown_put _
      refine ⟨_, results_tmp3 rfl _ _ _, Ab, cb, rfl, ?_, HBQ.out.grown hgr HBQ.out.size (fun q hq => by cases hq; have := HGA2.out; omega)⟩
      by_cases h0 : 0 < L9.length
      · obtain ⟨g, rfl, hg, hP⟩ := HPQ.out h0
        have hP2 := hP.grown hgr (by simp; omega)
        exact hP2.rd HI9.out.1 (by have : L9.length ≤ 6 := HI9.out.2; omega) hP2.lt
      · obtain rfl : L9 = [] := List.eq_nil_of_length_eq_zero (by omega)
        exact Rd.nil _ _ _
  · have HL : Hid (lsL O R a V = []) := Lib.hid (by rw [lsL, if_neg hk])
    have HN : Hid (lsN O R a V = 0) := Lib.hid (by rw [lsN, if_neg hk])
    have hne : (lkd35 O R a V != 0) = true := by rw [bne_iff_ne]; exact hk
    rw [HL.out, HN.out]
    clear hk h h' h3 HL HN
    generalize lkd35 O R a V = c at *
    go_enter Tryz.func12, Tryz.ntmps12
    go_wp2_with fail
    refine C1.mono ?_
    rintro e w4 ⟨rfl, hb4⟩
    have HB4 := Lib.hid (HB3.out.trans (hb4.mono HB3.out.size))
    clear hb4 k4 k6 k7 C1 hw3
    go_wp2
    go_ret3
    exact ⟨none, 0, rfl, Rd.nil _ _ _, HB4.out⟩
end Go.Proofs.YtkoipecnmijfoaaGreat
end

section
/-! Walks of chapter 35: Same, Great; the law of lists.
-/
namespace Go.Proofs.YtkoipecnmijfoaaGreat
open Go.RowKit Go.Deep
set_option linter.unusedVariables false
set_option maxRecDepth 100000

theorem drop_eq_of35 {L M : List Int} {k : Nat} {x y : Int} (hx : L[k]? = some x) (hy : M[k]? = some y) : (L.drop k = M.drop k) ↔ (x = y ∧ L.drop (k + 1) = M.drop (k + 1)) := by
  rw [drop_of hx, drop_of hy]; simp
/-- more than the statements consider? -/
def GreatRes (w : World) (O V : List Int) (R : List (List Int)) (e : Ending) (w' : World) : Prop :=
  ∃ b : Bool, e = .returned (.bool b) ∧ w = w' ∧ (b = false → (∀ l ∈ R, l.length ≤ 30) ∧ R.length ≤ 20 ∧ O.length ≤ 30 ∧ V.length ≤ 30)
end Go.Proofs.YtkoipecnmijfoaaGreat
end

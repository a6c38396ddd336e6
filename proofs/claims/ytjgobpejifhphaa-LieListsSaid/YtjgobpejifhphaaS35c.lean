import Derived.Test.YtjgobpejifhphaaW33d
import Derived.Test.YtjgobpejifhphaaBase3
import Derived.Test.YtjgobpejifhphaaSortI
/-! Plain law: orders, picking. No statement about the program. -/
namespace Go.Proofs.Ytjgobpejifhphaa
set_option linter.unusedVariables false

/-- a list that has each of a list's different members, and no more of them, is it in another order -/
theorem perm_of_sub : ∀ {A B : List Int}, A.Nodup → (∀ x ∈ A, x ∈ B) → B.length ≤ A.length → A.Perm B
  | [], B, _, _, h => by
    have : B = [] := List.eq_nil_of_length_eq_zero (by simpa using h)
    rw [this]
  | a :: A, B, hn, hs, h => by
    rw [List.nodup_cons] at hn
    have ha : a ∈ B := hs a (by simp)
    have h1 : A.Perm (B.erase a) := perm_of_sub hn.2 (fun x hx => (List.mem_erase_of_ne (by rintro rfl; exact hn.1 hx)).2 (hs x (by simp [hx]))) (by
      rw [List.length_erase_of_mem ha]
      simp at h; omega)
    exact (h1.cons a).trans (List.perm_cons_erase ha).symm
theorem iota_nodup (n : Nat) : (iota n).Nodup := by
  rw [iota, List.Nodup, List.pairwise_map]
  exact List.Pairwise.imp (fun h => by omega) (List.nodup_range (n := n))
theorem iota_sorted (n : Nat) : (iota n).Pairwise (· ≤ ·) := by
  rw [iota, List.pairwise_map]
  exact List.Pairwise.imp (fun h => by omega) (List.pairwise_lt_range (n := n))
theorem sort_iota {L : List Int} {n : Nat} (h : (iota n).Perm L) : sortI L = iota n :=
  ((sortI_perm L).trans h.symm).eq_of_pairwise (fun a b _ _ h2 h3 => by omega) (sortI_sorted L) (iota_sorted n)
theorem any_drop {α : Type} {L : List α} {k : Nat} {x : α} {p : α → Bool} (h : L[k]? = some x) : (L.drop k).any p = (p x || (L.drop (k + 1)).any p) := by rw [dropA_of h]; rfl
theorem any_end {α : Type} {L : List α} {k : Nat} {p : α → Bool} (h : L.length ≤ k) : (L.drop k).any p = false := by rw [List.drop_eq_nil_of_le h]; rfl
theorem all_drop {α : Type} {L : List α} {k : Nat} {x : α} {p : α → Bool} (h : L[k]? = some x) : (L.drop k).all p = (p x && (L.drop (k + 1)).all p) := by rw [dropA_of h]; rfl
theorem all_end {α : Type} {L : List α} {k : Nat} {p : α → Bool} (h : L.length ≤ k) : (L.drop k).all p = true := by rw [List.drop_eq_nil_of_le h]; rfl
/-- has a list each number from 0 to n - 1 once? as the program asks, and as the reference asks -/
def ordP (L : List Int) (n : Nat) : Bool := decide (sortI L = iota L.length) && decide (L.length = n)
def ordB (L : List Int) (n : Nat) : Bool := ((List.range n).all fun k => L.any fun x => x == (k : Int)) && decide (L.length = n)
theorem ordB_iff {L : List Int} {n : Nat} : ordB L n = true ↔ (iota n).Perm L := by
  rw [ordB, Bool.and_eq_true, decide_eq_true_iff, List.all_eq_true]
  constructor
  · rintro ⟨h1, h2⟩
    refine perm_of_sub (iota_nodup n) (fun x hx => ?_) (by rw [iota_length]; omega)
    obtain ⟨a, rfl, ha⟩ := iota_mem.1 hx
    have := h1 a (List.mem_range.2 ha)
    rw [List.any_eq_true] at this
    obtain ⟨y, hy, e⟩ := this
    rw [beq_iff_eq] at e
    rw [← e]; exact hy
  · intro h
    refine ⟨fun k hk => ?_, by rw [← h.length_eq, iota_length]⟩
    rw [List.any_eq_true]
    exact ⟨(k : Int), h.mem_iff.1 (iota_mem.2 ⟨k, rfl, List.mem_range.1 hk⟩), by simp⟩
theorem ord_eq (L : List Int) (n : Nat) : ordP L n = ordB L n := by
  rw [Bool.eq_iff_iff, ordB_iff, ordP, Bool.and_eq_true, decide_eq_true_iff, decide_eq_true_iff]
  constructor
  · rintro ⟨h1, h2⟩
    rw [h2] at h1
    have := sortI_perm L
    rwa [h1] at this
  · intro h
    have hl : L.length = n := by rw [← h.length_eq, iota_length]
    exact ⟨by rw [hl]; exact sort_iota h, hl⟩
/-- the error of an order and rankings -/
def badAg (O : List Int) (m : Nat) : Bool := O.any fun i => decide (i < 0) || decide ((m : Int) ≤ i)
def chk35 (O : List Int) (R : List (List Int)) : Int :=
  if 6 < R.length ∨ 6 < O.length then 4
  else if R = [] ∨ (R.any fun l => !ordB l O.length) = true ∨ badAg O R.length = true then 8 else 0
structure OR (O : List Int) (R : List (List Int)) : Prop where
  r0 : 0 < R.length
  r6 : R.length ≤ 6
  o6 : O.length ≤ 6
  ord : ∀ l ∈ R, (iota O.length).Perm l
  ag : ∀ x ∈ O, 0 ≤ x ∧ x < (R.length : Int)
theorem chk35_zero {O : List Int} {R : List (List Int)} (h : chk35 O R = 0) : OR O R := by
  rw [chk35] at h
  split at h
  · exact absurd h (by decide)
  · rename_i h1
    split at h
    · exact absurd h (by decide)
    · rename_i h2
      rw [not_or] at h1
      rw [not_or, not_or] at h2
      obtain ⟨a1, a2, a3⟩ := h2
      refine ⟨by cases R with | nil => exact absurd rfl a1 | cons x t => simp, by omega, by omega, fun l hl => ?_, fun x hx => ?_⟩
      · refine ordB_iff.1 ?_
        cases he : ordB l O.length
        · exact absurd (List.any_eq_true.2 ⟨l, hl, by rw [he]; rfl⟩) a2
        · rfl
      · refine Decidable.byContradiction fun hc => a3 ?_
        rw [badAg, List.any_eq_true]
        refine ⟨x, hx, ?_⟩
        rw [Bool.or_eq_true, decide_eq_true_iff, decide_eq_true_iff]
        omega
/-- the error of values -/
def val35 (V : List Int) : Int := if 6 < V.length then 4 else if (V.any fun x => decide (x < 0) || decide (1000 < x)) = true then 8 else 0
/-- .. of all -/
def lkd35 (O : List Int) (R : List (List Int)) (a : Int) (V : List Int) : Int :=
  if chk35 O R ≠ 0 then chk35 O R else if a < 0 ∨ (R.length : Int) ≤ a then 2 else if val35 V ≠ 0 then val35 V else if V.length ≠ O.length then 8 else 0
/-- picking -/
def freeG (out : List Int) (g : Int) : Bool := decide (out.getD g.toNat 0 < 0)
def pickS (out : List Int) (i : Int) (L : List Int) : List Int :=
  match L.find? (freeG out) with
  | some g => out.set g.toNat i
  | none => out
def pickK (O : List Int) (R : List (List Int)) : Nat → List Int
  | 0 => List.replicate O.length (-1)
  | k + 1 => pickS (pickK O R k) (O.getD k 0) (R.getD (O.getD k 0).toNat [])
theorem pickS_length (out : List Int) (i : Int) (L : List Int) : (pickS out i L).length = out.length := by
  rw [pickS]; split <;> simp
theorem pickK_length (O : List Int) (R : List (List Int)) : ∀ k, (pickK O R k).length = O.length
  | 0 => by simp [pickK]
  | k + 1 => by rw [pickK, pickS_length, pickK_length O R k]
def negs (L : List Int) : Nat := L.countP fun x => decide (x < 0)
theorem negs_set : ∀ (L : List Int) (g : Nat) (x : Int), negs L ≤ negs (L.set g x) + 1
  | [], _, _ => by simp [negs]
  | y :: t, 0, x => by
    simp only [List.set_cons_zero, negs, List.countP_cons]
    split <;> split <;> omega
  | y :: t, g + 1, x => by
    have := negs_set t g x
    simp only [List.set_cons_succ, negs, List.countP_cons] at this ⊢
    split <;> omega
theorem negs_pick (O : List Int) (R : List (List Int)) : ∀ k, O.length ≤ negs (pickK O R k) + k
  | 0 => by
    rw [pickK, negs]
    have : (List.replicate O.length (-1 : Int)).countP (fun x => decide (x < 0)) = O.length := by
      rw [List.countP_eq_length.2, List.length_replicate]
      intro a ha
      rw [List.mem_replicate] at ha
      rw [ha.2]; rfl
    omega
  | k + 1 => by
    have h := negs_pick O R k
    rw [pickK, pickS]
    split
    · rename_i g _
      have := negs_set (pickK O R k) g.toNat (O.getD k 0)
      omega
    · omega
theorem pickK_bd {O : List Int} {R : List (List Int)} (h : OR O R) : ∀ k, k ≤ O.length → ∀ x ∈ pickK O R k, -1 ≤ x ∧ x < (R.length : Int)
  | 0, _ => fun x hx => by
    rw [pickK, List.mem_replicate] at hx
    omega
  | k + 1, hk => fun x hx => by
    have hb := pickK_bd h k (by omega)
    rw [pickK, pickS] at hx
    split at hx
    · rcases List.mem_or_eq_of_mem_set hx with hx | hx
      · exact hb x hx
      · have hm : O.getD k 0 ∈ O := by
          rw [List.getD_eq_getElem?_getD, List.getElem?_eq_getElem (by omega)]; exact List.getElem_mem _
        have := h.ag _ hm
        omega
    · exact hb x hx
/-- there is one left in each turn -/
theorem pick_some {O : List Int} {R : List (List Int)} (h : OR O R) {k : Nat} (hk : k < O.length) {L : List Int} (hL : (iota O.length).Perm L) : ∃ g : Nat, L.find? (freeG (pickK O R k)) = some (g : Int) ∧ g < O.length := by
  have h1 := negs_pick O R k
  have h2 : 0 < negs (pickK O R k) := by omega
  rw [negs, List.countP_pos_iff] at h2
  obtain ⟨x, hx, hx0⟩ := h2
  obtain ⟨q, hq, rfl⟩ := List.getElem_of_mem hx
  have hql : q < O.length := by rw [pickK_length] at hq; exact hq
  have hm : (q : Int) ∈ L := hL.mem_iff.1 (iota_mem.2 ⟨q, rfl, hql⟩)
  have hf : freeG (pickK O R k) (q : Int) = true := by
    rw [freeG, Int.toNat_natCast, List.getD_eq_getElem?_getD, List.getElem?_eq_getElem hq]
    exact hx0
  cases he : L.find? (freeG (pickK O R k)) with
  | none =>
    rw [List.find?_eq_none] at he
    exact absurd hf (he _ hm)
  | some g =>
    obtain ⟨a, rfl, ha⟩ := iota_mem.1 (hL.mem_iff.2 (List.mem_of_find?_eq_some he))
    exact ⟨a, rfl, ha⟩
/-- what an agent has -/
def hasTo (A V : List Int) (a : Int) : Nat → Int
  | 0 => 0
  | k + 1 => hasTo A V a k + if A.getD k 0 = a then V.getD k 0 else 0
def hasV (O : List Int) (R : List (List Int)) (a : Int) (V : List Int) : Int := hasTo (pickK O R O.length) V a O.length
theorem hasTo_bd {A V : List Int} {a : Int} (hV : ∀ x ∈ V, 0 ≤ x ∧ x ≤ 1000) : ∀ k : Nat, 0 ≤ hasTo A V a k ∧ hasTo A V a k ≤ 1000 * k
  | 0 => by simp [hasTo]
  | k + 1 => by
    have h := hasTo_bd (A := A) (a := a) hV k
    have hv : 0 ≤ V.getD k 0 ∧ V.getD k 0 ≤ 1000 := by
      rw [List.getD_eq_getElem?_getD]
      cases he : V[k]? with
      | none => simp
      | some x => exact hV x (List.mem_of_getElem? he)
    rw [hasTo]
    split <;> omega
end Go.Proofs.Ytjgobpejifhphaa

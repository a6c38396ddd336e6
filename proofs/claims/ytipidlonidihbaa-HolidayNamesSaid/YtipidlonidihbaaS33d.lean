import Derived.Test.YtipidlonidihbaaW33h
import Derived.Test.YtipidlonidihbaaW33j
/-! Plain law: who has a place, and the credits after a holiday. -/
namespace Go.Proofs.Ytipidlonidihbaa
set_option linter.unusedVariables false

/-- a list over the agents: new for those ranked among the first k, old for the others -/
def sel (C B : List Int) (k : Nat) (old new : Nat → Int) : List Int := (List.range B.length).map fun i => if place C B i < k then new i else old i
theorem sel_length (C B : List Int) (k : Nat) (old new : Nat → Int) : (sel C B k old new).length = B.length := by simp [sel]
theorem sel_get {C B : List Int} {k i : Nat} {old new : Nat → Int} (h : i < B.length) : (sel C B k old new)[i]? = some (if place C B i < k then new i else old i) := by
  simp [sel, h]
theorem sel_cur {C B : List Int} {k i : Nat} {old new : Nat → Int} (h : i < B.length) (hp : place C B i = k) : (sel C B k old new)[i]? = some (old i) := by
  rw [sel_get h, if_neg (by omega)]
theorem place_inj {C B : List Int} {i j : Nat} (hi : i < B.length) (hj : j < B.length) (h : place C B i = place C B j) : i = j := by
  have h1 := (at_place (C := C) hi).1
  have h2 := (at_place (C := C) hj).1
  rw [h, h2] at h1
  have : (j : Int) = (i : Int) := by simpa using h1
  omega
theorem sel_set {C B : List Int} {k i : Nat} {old new : Nat → Int} (h : i < B.length) (hp : place C B i = k) : (sel C B k old new).set i (new i) = sel C B (k + 1) old new := by
  apply List.ext_getElem?
  intro j
  rcases Nat.lt_or_ge j B.length with hlt | hge
  · by_cases e : j = i
    · subst e
      rw [List.getElem?_set_self (by rw [sel_length]; exact hlt), sel_get hlt, if_pos (by omega)]
    · rw [List.getElem?_set_ne (by omega), sel_get hlt, sel_get hlt]
      have hne : place C B j ≠ k := fun e2 => e (place_inj (C := C) hlt h (by omega))
      by_cases h2 : place C B j < k
      · rw [if_pos h2, if_pos (by omega)]
      · rw [if_neg h2, if_neg (by omega)]
  · rw [List.getElem?_eq_none (by simp [sel_length]; omega), List.getElem?_eq_none (by rw [sel_length]; omega)]
theorem sel_zero (C B : List Int) (old new : Nat → Int) : sel C B 0 old new = (List.range B.length).map old := by simp [sel]
theorem sel_congr {C B : List Int} {k : Nat} {old new old' new' : Nat → Int} (h : ∀ i, i < B.length → (if place C B i < k then new i else old i) = old' i) : sel C B k old new = sel C B 0 old' new' := by
  rw [sel_zero]
  apply List.map_congr_left
  intro i hi
  exact h i (by simpa using hi)
theorem sel_all (C B : List Int) (old new : Nat → Int) : sel C B B.length old new = (List.range B.length).map new := by
  apply List.map_congr_left
  intro i hi
  rw [if_pos (at_place (by simpa using hi)).2]
theorem list_range {L : List Int} {n : Nat} (h : L.length = n) : L = (List.range n).map fun i => L.getD i 0 := by
  apply List.ext_getElem?
  intro j
  rcases Nat.lt_or_ge j n with hlt | hge
  · rw [List.getElem?_map, List.getElem?_range hlt]
    have : L[j]? = some L[j] := by simp
    simp [List.getD, this]
  · rw [List.getElem?_eq_none (by omega), List.getElem?_eq_none (by simp; omega)]

def gQ (C B : List Int) (m : Nat) : Int := prOf C B m * m / C.length
def gR (C B : List Int) (m : Nat) : Int := prOf C B m * m % C.length
/-- what agent i has when the places are paid, and at the end -/
def paid (C B : List Int) (m i : Nat) : Int := C.getD i 0 - (if place C B i < m then prOf C B m else 0)
def extra (C B : List Int) (m i : Nat) : Int := if (C.length : Int) - gR C B m ≤ (place C B i : Int) then 1 else 0
def after (C B : List Int) (m i : Nat) : Int := paid C B m i + gQ C B m + extra C B m i
def aftL (C B : List Int) (m : Nat) : List Int := (List.range B.length).map (after C B m)
def freeL (C B : List Int) (m : Nat) : List Int := ((List.range B.length).filter fun i => decide (place C B i < m)).map fun (i : Nat) => (i : Int)

theorem isRev_le : ∀ (L R : List Int), R.Pairwise (fun a b => b ≤ a) → (isRev ltI R L).Pairwise (fun a b => b ≤ a) := by
  have ins : ∀ (v : Int) (X : List Int), X.Pairwise (fun a b => b ≤ a) → (insRev ltI v X).Pairwise (fun a b => b ≤ a) := by
    intro v X
    induction X with
    | nil => intro _; simp [insRev]
    | cons x t ih =>
      intro h
      rw [List.pairwise_cons] at h
      cases hl : ltI v x
      · rw [insRev_no hl, List.pairwise_cons, List.pairwise_cons]
        have hxv : x ≤ v := by simp [ltI] at hl; exact hl
        refine ⟨?_, h.1, h.2⟩
        intro y hy
        rcases List.mem_cons.1 hy with rfl | hy
        · exact hxv
        · have := h.1 y hy; omega
      · rw [insRev_yes hl, List.pairwise_cons]
        have hvx : v < x := by simpa [ltI] using hl
        refine ⟨?_, ih h.2⟩
        intro y hy
        rcases insRev_mem.1 hy with rfl | hy
        · omega
        · exact h.1 y hy
  intro L
  induction L with
  | nil => intro R h; exact h
  | cons v t ih => intro R h; exact ih _ (ins v R h)
theorem isort_le (D : List Int) : (isort ltI D).Pairwise (fun a b => a ≤ b) := by
  unfold isort
  rw [List.pairwise_reverse]
  exact isRev_le D [] List.Pairwise.nil
theorem freeL_le (C B : List Int) (m : Nat) : (freeL C B m).Pairwise (fun a b => a ≤ b) := by
  unfold freeL
  rw [List.pairwise_map]
  have h : (List.range B.length).Pairwise (fun a b => a < b) := List.pairwise_lt_range
  exact (h.filter _).imp fun {a b} hab => by omega
theorem take_filter {C B : List Int} {m : Nat} (hm : m ≤ B.length) : (rkList C B).filter (fun a => decide (place C B a.toNat < m)) = (rkList C B).take m := by
  have hpl : ∀ (j : Nat) (x : Int), (rkList C B)[j]? = some x → place C B x.toNat = j := by
    intro j x hx
    obtain ⟨i, rfl, hi⟩ := rkList_mem.1 (List.mem_of_getElem? hx)
    rw [Int.toNat_natCast]
    exact (place_at hx).1
  conv => lhs; rw [← List.take_append_drop m (rkList C B)]
  rw [List.filter_append]
  have h1 : ((rkList C B).take m).filter (fun a => decide (place C B a.toNat < m)) = (rkList C B).take m := by
    rw [List.filter_eq_self]
    intro x hx
    obtain ⟨j, hj, e⟩ := List.getElem_of_mem hx
    have hjm : j < m := by
      have h0 := hj
      rw [List.length_take] at h0
      omega
    have hq : (rkList C B)[j]? = some x := by
      have : ((rkList C B).take m)[j]? = some x := by rw [List.getElem?_eq_getElem hj, e]
      rwa [List.getElem?_take_of_lt hjm] at this
    simp [hpl j x hq, hjm]
  have h2 : ((rkList C B).drop m).filter (fun a => decide (place C B a.toNat < m)) = [] := by
    rw [List.filter_eq_nil_iff]
    intro x hx
    obtain ⟨j, hj, e⟩ := List.getElem_of_mem hx
    have hq : (rkList C B)[m + j]? = some x := by
      have : ((rkList C B).drop m)[j]? = some x := by rw [List.getElem?_eq_getElem hj, e]
      rwa [List.getElem?_drop] at this
    simp [hpl _ x hq]
  rw [h1, h2, List.append_nil]
theorem free_sorted {C B : List Int} {m : Nat} (hm : m ≤ B.length) : isort ltI ((rkList C B).take m) = freeL C B m := by
  refine List.Perm.eq_of_pairwise (le := fun a b => a ≤ b) ?_ (isort_le _) (freeL_le C B m) ?_
  · intro a b _ _ h1 h2; omega
  · have h1 := isort_perm ltI ((rkList C B).take m)
    have h2 := (rkList_perm C B).filter (fun a => decide (place C B a.toNat < m))
    rw [take_filter hm] at h2
    refine h1.trans (h2.trans ?_)
    unfold iota freeL
    rw [List.filter_map]
    exact List.Perm.of_eq (by congr 1)
end Go.Proofs.Ytipidlonidihbaa

import Derived.Test.YtefbkdjppfofmaaS26j
import Derived.Test.YtefbkdjppfofmaaW26a
/-! Plain law: the most even allocation, the least list of it. No statement about the program. -/
namespace Go.Proofs.Ytefbkdjppfofmaa
set_option linter.unusedVariables false
open Classical

def cnts (m : Nat) (a : List Int) : List Int := (List.range m).map (cn a)
theorem cnts_length (m : Nat) (a : List Int) : (cnts m a).length = m := by simp [cnts]
/-- none is more even -/
structure Opt (W : List (List Bool)) (m n : Nat) (a : List Int) : Prop where
  full : FullA W m n a
  best : ∀ b, FullA W m n b → 0 ≤ cmpS (cnts m a) (cnts m b)
def SameTo (g : Nat) (a b : List Int) : Prop := ∀ k, k < g → a.getD k 0 = b.getD k 0
def leTake (g : Nat) (a b : List Int) : Prop := SameTo g a b ∨ ∃ k, k < g ∧ SameTo k a b ∧ a.getD k 0 < b.getD k 0
def LexTo (W : List (List Bool)) (m n g : Nat) (a : List Int) : Prop := ∀ b, Opt W m n b → leTake g a b
/-- the most even allocation: the least list of all -/
structure EvenOk (W : List (List Bool)) (m n : Nat) (a : List Int) : Prop where
  opt : Opt W m n a
  lex : LexTo W m n n a
section
variable {W : List (List Bool)} {m n g : Nat} {a b c : List Int}
theorem opt_of (hm : W.length = m) (hno : NoShort W m a 0) (ha : FullA W m n a) : Opt W m n a := ⟨ha, fun b hb => noShort_best hno ha hb hm fun k hk => by omega⟩
theorem opt_same (h : Opt W m n a) (hb : FullA W m n b) (he : shapeI (cnts m b) = shapeI (cnts m a)) : Opt W m n b := by
  refine ⟨hb, fun c hc => ?_⟩
  have := h.best c hc
  rw [cmpS] at this ⊢
  rw [he]; exact this
theorem opt_shape (ha : Opt W m n a) (hb : Opt W m n b) : shapeI (cnts m a) = shapeI (cnts m b) := by
  have h1 := ha.best b hb.full
  have h2 := hb.best a ha.full
  rw [cmpS_swap] at h2
  exact (cmpS_zero (by rw [cnts_length, cnts_length])).1 (by omega)
theorem opt_noShort (hm : W.length = m) (ha : Opt W m n a) (f : Nat) : NoShort W m a f := by
  rw [NoShort]
  cases hf : firstShort m (extL m fun p q => linkK W a p q f) (shortB a) with
  | none => rfl
  | some l =>
    exfalso
    rw [firstShort, List.findSome?_eq_some_iff] at hf
    obtain ⟨l1, k, l2, _, h2, _⟩ := hf
    have hl := List.mem_of_find?_eq_some h2
    have hs := List.find?_some h2
    obtain ⟨out, _, hfo, hcn, _⟩ := pass_chain hm ha.full hl
    have hck := chain_ok hl
    have hlen0 : 0 < l.length := by rw [hck.len]; omega
    have h3 := pass_better hm ha.full hfo (hck.lt _ (mem_head hlen0)) (hck.lt _ (mem_last hlen0)) (short_of hs) hcn
    have h4 := ha.best out hfo
    rw [cmpS_swap] at h4
    have h5 : cmpS (cnts m out) (cnts m a) = 1 := h3
    omega
/-- exactly -/
theorem opt_iff (hm : W.length = m) (ha : FullA W m n a) : Opt W m n a ↔ NoShort W m a 0 := ⟨fun h => opt_noShort hm h 0, fun h => opt_of hm h ha⟩
theorem SameTo.symm (h : SameTo g a b) : SameTo g b a := fun k hk => (h k hk).symm
theorem SameTo.trans (h : SameTo g a b) (h' : SameTo g b c) : SameTo g a c := fun k hk => (h k hk).trans (h' k hk)
theorem SameTo.less {k : Nat} (h : SameTo g a b) (hk : k ≤ g) : SameTo k a b := fun j hj => h j (by omega)
theorem leTake.same (h : leTake g a b) (hs : SameTo g a c) : leTake g c b := by
  rcases h with h | ⟨k, hk, h1, h2⟩
  · exact .inl (hs.symm.trans h)
  · exact .inr ⟨k, hk, (hs.symm.less (by omega)).trans h1, by rw [← hs k hk]; exact h2⟩
theorem leTake.step (h : leTake g a b) (hg : SameTo g a b → a.getD g 0 ≤ b.getD g 0) : leTake (g + 1) a b := by
  rcases h with h | ⟨k, hk, h1, h2⟩
  · have h3 := hg h
    by_cases he : a.getD g 0 = b.getD g 0
    · refine .inl fun k hk => ?_
      rcases Nat.lt_or_ge k g with hlt | hge
      · exact h k hlt
      · have : k = g := by omega
        rw [this]; exact he
    · exact .inr ⟨g, by omega, h, by omega⟩
  · exact .inr ⟨k, by omega, h1, h2⟩
theorem LexTo.zero : LexTo W m n 0 a := fun b _ => .inl fun k hk => by omega
/-- no smaller agent before i serves at good g -/
def NoneBefore (W : List (List Bool)) (m n : Nat) (a : List Int) (g i : Nat) : Prop := ∀ b, Opt W m n b → SameTo g a b → ∀ q : Nat, q < i → b.getD g 0 ≠ (q : Int)
theorem NoneBefore.zero : NoneBefore W m n a g 0 := fun b _ _ q hq => by omega
/-- the good is done: a keeps it -/
theorem LexTo.keep (hm : W.length = m) (hg : g < n) (h : LexTo W m n g a) (ha : FullA W m n a) (hno : ∀ q : Nat, a.getD g 0 = (q : Int) → NoneBefore W m n a g q) : LexTo W m n (g + 1) a := fun b hb => (h b hb).step fun hs => by
  rcases ha.at_ g hg with ⟨h1, h2⟩ | ⟨q, h1, h2, h3⟩
  · rcases hb.full.at_ g hg with ⟨g1, g2⟩ | ⟨q', g1, g2, g3⟩ <;> omega
  · rcases hb.full.at_ g hg with ⟨g1, g2⟩ | ⟨q', g1, g2, g3⟩
    · exact absurd (wishAny_of (by omega) h3) (by rw [g2]; decide)
    · rw [h2, g2]
      rcases Nat.lt_or_ge q' q with hlt | hge
      · exact absurd g2 (hno q h2 b hb hs q' hlt)
      · omega
/-- the good is done: another agent is better -/
theorem LexTo.take (hm : W.length = m) (hg : g < n) (h : LexTo W m n g a) (hb : FullA W m n b) (hs : SameTo g a b) {i : Nat} (hi : b.getD g 0 = (i : Int)) (hno : NoneBefore W m n a g i) : LexTo W m n (g + 1) b :=
  LexTo.keep hm hg (fun c hc => (h c hc).same hs) hb fun q hq c hc hbc r hr => by
    have : q = i := by omega
    exact hno c hc (hs.trans hbc) r (by omega)
/-- what leveled has made of the allocation with agent i at good g tells whether i serves -/
theorem NoneBefore.step (hm : W.length = m) (hg : g < n) {i : Nat} (h : NoneBefore W m n a g i) (ha : Opt W m n a) (hb : FullA W m n b) (hsb : SameTo g a b) (hib : b.getD g 0 = (i : Int)) (hno : NoShort W m b (g + 1)) (hne : shapeI (cnts m b) ≠ shapeI (cnts m a)) :
    NoneBefore W m n a g (i + 1) := fun c hc hs q hq => by
  rcases Nat.lt_or_ge q i with hlt | hge
  · exact h c hc hs q hlt
  · have hqi : q = i := by omega
    subst hqi
    intro hcq
    apply hne
    have hsame : ∀ k, k < g + 1 → k < n → b.getD k 0 = c.getD k 0 := by
      intro k hk _
      rcases Nat.lt_or_ge k g with hlt | hge
      · exact (hsb k hlt).symm.trans (hs k hlt)
      · have : k = g := by omega
        rw [this, hib, hcq]
    have h1 := noShort_best hno hb hc.full hm hsame
    have h2 := hc.best b hb
    rw [cmpS_swap] at h2
    have h1' : 0 ≤ cmpS (cnts m b) (cnts m c) := h1
    have h3 := (cmpS_zero (by rw [cnts_length, cnts_length])).1 (show cmpS (cnts m b) (cnts m c) = 0 by omega)
    rw [h3, opt_shape hc ha]
theorem NoneBefore.skip {i : Nat} (hm : W.length = m) (hg : g < n) (h : NoneBefore W m n a g i) (hw : wishB W i g = false) : NoneBefore W m n a g (i + 1) := fun c hc hs q hq => by
  rcases Nat.lt_or_ge q i with hlt | hge
  · exact h c hc hs q hlt
  · have hqi : q = i := by omega
    subst hqi
    intro hcq
    rcases hc.full.at_ g hg with ⟨g1, _⟩ | ⟨q', g1, g2, g3⟩
    · omega
    · have : q' = q := by omega
      rw [this, hw] at g3; cases g3
theorem even_unique (ha : EvenOk W m n a) (hb : EvenOk W m n b) : a = b := by
  have h1 := ha.lex b hb.opt
  have h2 := hb.lex a ha.opt
  have hs : SameTo n a b := by
    rcases h1 with h1 | ⟨k, hk, s1, l1⟩
    · exact h1
    · exfalso
      rcases h2 with h2 | ⟨j, hj, s2, l2⟩
      · have := h2 k hk; omega
      · rcases Nat.lt_trichotomy j k with h | h | h
        · have := s1 j h; omega
        · subst h; omega
        · have := s2 k h; omega
  apply List.ext_getElem
  · rw [ha.opt.full.len, hb.opt.full.len]
  · intro i h1 h2
    have := hs i (by rw [← ha.opt.full.len]; exact h1)
    rw [List.getD_eq_getElem?_getD, List.getElem?_eq_getElem h1, List.getD_eq_getElem?_getD, List.getElem?_eq_getElem h2] at this
    exact this
end
/-- the first agent that wants the good, or -1 -/
def firstA (W : List (List Bool)) (g : Nat) : Int := rIdx (fun l => l.getD g false) W 0
theorem rIdx_cases {α : Type} {p : α → Bool} : ∀ {L : List α} {k : Int}, (rIdx p L k = -1 ∧ ∀ x ∈ L, p x = false) ∨ ∃ (i : Nat) (x : α), L[i]? = some x ∧ p x = true ∧ rIdx p L k = k + (i : Int) ∧ ∀ j : Nat, j < i → ∀ y, L[j]? = some y → p y = false
  | [], k => .inl ⟨rfl, by simp⟩
  | x :: t, k => by
    cases h : p x
    · rw [rIdx_no h]
      rcases rIdx_cases (p := p) (L := t) (k := k + 1) with ⟨h1, h2⟩ | ⟨i, y, h1, h2, h3, h4⟩
      · exact .inl ⟨h1, fun z hz => by rcases List.mem_cons.1 hz with rfl | hz; exact h; exact h2 z hz⟩
      · refine .inr ⟨i + 1, y, by simpa using h1, h2, by rw [h3]; omega, fun j hj z hz => ?_⟩
        cases j with
        | zero => simp at hz; subst hz; exact h
        | succ j => exact h4 j (by omega) z (by simpa using hz)
    · exact .inr ⟨0, x, rfl, h, by rw [rIdx_yes h]; omega, fun j hj => by omega⟩
theorem firstA_cases (W : List (List Bool)) (g : Nat) : (firstA W g = -1 ∧ wishAny W g = false) ∨ ∃ q : Nat, q < W.length ∧ firstA W g = (q : Int) ∧ wishB W q g = true ∧ ∀ j, j < q → wishB W j g = false := by
  rcases rIdx_cases (p := fun l : List Bool => l.getD g false) (L := W) (k := 0) with ⟨h1, h2⟩ | ⟨i, x, h1, h2, h3, h4⟩
  · refine .inl ⟨h1, ?_⟩
    rw [wishAny, List.any_eq_false]
    intro q hq
    have hq' := List.mem_range.1 hq
    rw [wishB, List.getD_eq_getElem?_getD (l := W), List.getElem?_eq_getElem hq']
    have := h2 _ (List.getElem_mem hq')
    simpa using this
  · have hi := (List.getElem?_eq_some_iff.1 h1).1
    refine .inr ⟨i, hi, by rw [firstA, h3]; omega, ?_, fun j hj => ?_⟩
    · rw [wishB, List.getD_eq_getElem?_getD (l := W), h1]; exact h2
    · have hjl : j < W.length := by omega
      rw [wishB, List.getD_eq_getElem?_getD (l := W), List.getElem?_eq_getElem hjl]
      exact h4 j hj _ (List.getElem?_eq_getElem hjl)
def firstL (W : List (List Bool)) (n : Nat) : List Int := (List.range n).map (firstA W)
theorem firstL_at {W : List (List Bool)} {n g : Nat} (hg : g < n) : (firstL W n).getD g 0 = firstA W g := by
  rw [firstL, List.getD_eq_getElem?_getD, List.getElem?_map, List.getElem?_range hg]; rfl
theorem first_full {W : List (List Bool)} {m n : Nat} (hm : W.length = m) : FullA W m n (firstL W n) := by
  refine ⟨by simp [firstL], fun g hg => ?_⟩
  rw [firstL_at hg]
  rcases firstA_cases W g with h | ⟨q, h1, h2, h3, _⟩
  · exact .inl h
  · exact .inr ⟨q, by omega, h2, h3⟩
end Go.Proofs.Ytefbkdjppfofmaa

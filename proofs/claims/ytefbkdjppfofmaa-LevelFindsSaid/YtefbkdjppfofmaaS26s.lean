import Derived.Test.YtefbkdjppfofmaaS26m
/-! Plain law: the complete allocations one by one, in the order of lists. No statement about the program. -/
namespace Go.Proofs.Ytefbkdjppfofmaa
set_option linter.unusedVariables false
open Classical

/-- the next agent behind x that wants good g -/
def nextAt (W : List (List Bool)) (m g : Nat) (x : Int) : Option Nat := if x < 0 then none else ((List.range m).drop (x.toNat + 1)).find? fun i => wishB W i g
/-- the last place below k at which the list can be raised -/
def nxtF (W : List (List Bool)) (m : Nat) (a : List Int) : Nat → Option (Nat × Nat)
  | 0 => none
  | k + 1 => match nextAt W m k (a.getD k 0) with
    | some i => some (k, i)
    | none => nxtF W m a k
/-- raised at place g, least behind -/
def setNx (W : List (List Bool)) (a : List Int) (n g i : Nat) : List Int := (List.range n).map fun k => if k < g then a.getD k 0 else if k = g then (i : Int) else firstA W k
theorem setNx_length (W : List (List Bool)) (a : List Int) (n g i : Nat) : (setNx W a n g i).length = n := by simp [setNx]
theorem setNx_at {W : List (List Bool)} {a : List Int} {n g i k : Nat} (h : k < n) : (setNx W a n g i).getD k 0 = if k < g then a.getD k 0 else if k = g then (i : Int) else firstA W k := by
  rw [setNx, List.getD_eq_getElem?_getD, List.getElem?_map, List.getElem?_range h]; rfl
section
variable {W : List (List Bool)} {m n g i : Nat} {a b c : List Int} {x : Int}
theorem nextAt_none (h : nextAt W m g x = none) (h0 : 0 ≤ x) {q : Nat} (hq : q < m) (hw : wishB W q g = true) : (q : Int) ≤ x := by
  rw [nextAt, if_neg (by omega), List.find?_eq_none] at h
  refine Decidable.byContradiction fun hc => ?_
  refine h q ?_ hw
  rw [List.mem_drop_iff_getElem]
  exact ⟨q - (x.toNat + 1), by simp; omega, by simp; omega⟩
theorem nextAt_some (h : nextAt W m g x = some i) : 0 ≤ x ∧ x < i ∧ i < m ∧ wishB W i g = true ∧ ∀ q : Nat, x < q → q < i → wishB W q g = false := by
  rw [nextAt] at h
  split at h
  · cases h
  · rename_i h0
    have h1 := List.find?_some h
    rw [List.find?_eq_some_iff_getElem] at h
    obtain ⟨_, j, hj, he, hb⟩ := h
    simp at hj he
    refine ⟨by omega, by omega, by omega, h1, fun q hq1 hq2 => ?_⟩
    have := hb (q - (x.toNat + 1)) (by omega)
    simp at this
    rwa [show x.toNat + 1 + (q - (x.toNat + 1)) = q by omega] at this
theorem nxtF_none : ∀ {k : Nat}, nxtF W m a k = none → ∀ g, g < k → nextAt W m g (a.getD g 0) = none
  | k + 1, h, g, hg => by
    rw [nxtF] at h
    cases hk : nextAt W m k (a.getD k 0) with
    | some i => rw [hk] at h; cases h
    | none =>
      rw [hk] at h
      rcases Nat.lt_or_ge g k with h1 | h1
      · exact nxtF_none h g h1
      · have : g = k := by omega
        rw [this]; exact hk
theorem nxtF_some : ∀ {k : Nat}, nxtF W m a k = some (g, i) → g < k ∧ nextAt W m g (a.getD g 0) = some i ∧ ∀ h, g < h → h < k → nextAt W m h (a.getD h 0) = none
  | k + 1, h => by
    rw [nxtF] at h
    cases hk : nextAt W m k (a.getD k 0) with
    | some j =>
      rw [hk] at h
      cases h
      exact ⟨by omega, hk, fun h h1 h2 => by omega⟩
    | none =>
      rw [hk] at h
      obtain ⟨h1, h2, h3⟩ := nxtF_some h
      refine ⟨by omega, h2, fun q hq1 hq2 => ?_⟩
      rcases Nat.lt_or_ge q k with h4 | h4
      · exact h3 q hq1 h4
      · have : q = k := by omega
        rw [this]; exact hk
/-- before in the order of lists -/
def lt26 (n : Nat) (a b : List Int) : Prop := ∃ k, k < n ∧ SameTo k a b ∧ a.getD k 0 < b.getD k 0
theorem le26_of_not (h : ¬ lt26 n a b) : leTake n b a := by
  rcases Classical.em (SameTo n a b) with hs | hs
  · exact .inl hs.symm
  · have : ∃ k, k < n ∧ a.getD k 0 ≠ b.getD k 0 := by
      refine Classical.byContradiction fun hc => hs fun k hk => ?_
      exact Classical.byContradiction fun h2 => hc ⟨k, hk, h2⟩
    obtain ⟨k, ⟨hk, hne⟩, hmin⟩ := Nat.strong_ex this
    have hsame : SameTo k a b := fun j hj => Classical.byContradiction fun h2 => hmin j hj ⟨by omega, h2⟩
    refine .inr ⟨k, hk, hsame.symm, ?_⟩
    have : ¬ a.getD k 0 < b.getD k 0 := fun h2 => h ⟨k, hk, hsame, h2⟩
    omega
where
  Nat.strong_ex {p : Nat → Prop} (h : ∃ k, p k) : ∃ k, p k ∧ ∀ j, j < k → ¬ p j := by
    obtain ⟨k, hk⟩ := h
    induction k using Nat.strongRecOn with
    | _ k ih =>
      by_cases hc : ∃ j, j < k ∧ p j
      · obtain ⟨j, hj, hp⟩ := hc
        exact ih j hj hp
      · exact ⟨k, hk, fun j hj hp => hc ⟨j, hj, hp⟩⟩
/-- no complete allocation is behind a list that cannot be raised -/
theorem nx_last (hm : W.length = m) (ha : FullA W m n a) (hb : FullA W m n b) (h : nxtF W m a n = none) : ¬ lt26 n a b := by
  rintro ⟨k, hk, hs, hlt⟩
  have hn := nxtF_none h k hk
  rcases ha.at_ k hk with ⟨g1, g2⟩ | ⟨q, g1, g2, g3⟩
  · rcases hb.at_ k hk with ⟨f1, _⟩ | ⟨r, f1, f2, f3⟩
    · omega
    · rw [wishAny_of (by omega) f3] at g2; cases g2
  · rcases hb.at_ k hk with ⟨f1, _⟩ | ⟨r, f1, f2, f3⟩
    · omega
    · have := nextAt_none hn (by omega) f1 f3
      omega
theorem nx_full (hm : W.length = m) (ha : FullA W m n a) (h : nxtF W m a n = some (g, i)) : FullA W m n (setNx W a n g i) := by
  obtain ⟨h1, h2, _⟩ := nxtF_some h
  obtain ⟨f0, f1, f2, f3, f4⟩ := nextAt_some h2
  refine ⟨setNx_length _ _ _ _ _, fun k hk => ?_⟩
  rw [setNx_at hk]
  by_cases hkg : k < g
  · rw [if_pos hkg]; exact ha.at_ k hk
  · rw [if_neg hkg]
    by_cases hke : k = g
    · rw [if_pos hke]; exact .inr ⟨i, f2, rfl, by rw [hke]; exact f3⟩
    · rw [if_neg hke]
      rcases firstA_cases W k with h | ⟨q, q1, q2, q3, _⟩
      · exact .inl h
      · exact .inr ⟨q, by omega, q2, q3⟩
theorem nx_lt (h : nxtF W m a n = some (g, i)) : lt26 n a (setNx W a n g i) := by
  obtain ⟨h1, h2, _⟩ := nxtF_some h
  obtain ⟨f0, f1, _⟩ := nextAt_some h2
  exact ⟨g, h1, fun k hk => by rw [setNx_at (by omega), if_pos hk], by rw [setNx_at h1, if_neg (by omega), if_pos rfl]; exact f1⟩
/-- the raised list is the next one -/
theorem nx_next (hm : W.length = m) (ha : FullA W m n a) (hb : FullA W m n b) (h : nxtF W m a n = some (g, i)) (hlt : lt26 n a b) : leTake n (setNx W a n g i) b := by
  obtain ⟨h1, h2, h3⟩ := nxtF_some h
  obtain ⟨f0, f1, f2, f3, f4⟩ := nextAt_some h2
  obtain ⟨k, hk, hs, hl⟩ := hlt
  have hkg : k ≤ g := by
    refine Nat.le_of_not_lt fun hc => ?_
    have hn := h3 k hc hk
    rcases ha.at_ k hk with ⟨g1, g2⟩ | ⟨q, g1, g2, g3⟩
    · rcases hb.at_ k hk with ⟨e1, _⟩ | ⟨r, e1, e2, e3⟩
      · omega
      · rw [wishAny_of (by omega) e3] at g2; cases g2
    · rcases hb.at_ k hk with ⟨e1, _⟩ | ⟨r, e1, e2, e3⟩
      · omega
      · have := nextAt_none hn (by omega) e1 e3
        omega
  rcases Nat.lt_or_ge k g with hlt | hge
  · exact .inr ⟨k, hk, fun j hj => by rw [setNx_at (by omega), if_pos (by omega)]; exact hs j hj, by rw [setNx_at hk, if_pos hlt]; exact hl⟩
  · obtain rfl : k = g := by omega
    rcases hb.at_ k hk with ⟨e1, _⟩ | ⟨r, e1, e2, e3⟩
    · omega
    · have hri : i ≤ r := Nat.le_of_not_lt fun hc => by
        have := f4 r (by omega) hc
        rw [this] at e3; cases e3
      have hsame : SameTo k (setNx W a n k i) b := fun j hj => by rw [setNx_at (by omega), if_pos hj]; exact hs j hj
      rcases Nat.lt_or_ge i r with hlt | hge
      · exact .inr ⟨k, hk, hsame, by rw [setNx_at hk, if_neg (by omega), if_pos rfl]; omega⟩
      · have hir : i = r := by omega
        have hall : ∀ d, k + 1 + d ≤ n → leTake (k + 1 + d) (setNx W a n k i) b := by
          intro d
          induction d with
          | zero =>
            intro _
            refine leTake.step (.inl hsame) fun _ => ?_
            rw [setNx_at hk, if_neg (by omega), if_pos rfl]; omega
          | succ d ih =>
            intro hd
            show leTake ((k + 1 + d) + 1) (setNx W a n k i) b
            refine leTake.step (ih (by omega)) fun _ => ?_
            rw [setNx_at (by omega), if_neg (by omega), if_neg (by omega)]
            rcases firstA_cases W (k + 1 + d) with ⟨q1, q2⟩ | ⟨q, q1, q2, q3, q4⟩
            · rcases hb.at_ (k + 1 + d) (by omega) with ⟨p1, _⟩ | ⟨p, p1, p2, p3⟩ <;> omega
            · rcases hb.at_ (k + 1 + d) (by omega) with ⟨p1, p2⟩ | ⟨p, p1, p2, p3⟩
              · rw [wishAny_of (by omega) q3] at p2; cases p2
              · have : q ≤ p := Nat.le_of_not_lt fun hc => by rw [q4 p hc] at p3; cases p3
                omega
        have := hall (n - (k + 1)) (by omega)
        rwa [show k + 1 + (n - (k + 1)) = n by omega] at this
/-- the least list -/
theorem first_least (hm : W.length = m) (hb : FullA W m n b) : ∀ d, d ≤ n → leTake d (firstL W n) b
  | 0, _ => .inl fun k hk => by omega
  | d + 1, hd => by
    refine (first_least hm hb d (by omega)).step fun _ => ?_
    rw [firstL_at (by omega)]
    rcases firstA_cases W d with ⟨q1, q2⟩ | ⟨q, q1, q2, q3, q4⟩
    · rcases hb.at_ d (by omega) with ⟨p1, _⟩ | ⟨p, p1, p2, p3⟩ <;> omega
    · rcases hb.at_ d (by omega) with ⟨p1, p2⟩ | ⟨p, p1, p2, p3⟩
      · rw [wishAny_of (by omega) q3] at p2; cases p2
      · have : q ≤ p := Nat.le_of_not_lt fun hc => by rw [q4 p hc] at p3; cases p3
        omega
/-- the best list so far: of all that are not behind a -/
structure BestTo (W : List (List Bool)) (m n : Nat) (a best : List Int) : Prop where
  fa : FullA W m n a
  fb : FullA W m n best
  ge : ∀ b, FullA W m n b → ¬ lt26 n a b → 0 ≤ cmpS (cnts m best) (cnts m b)
  le : ∀ b, FullA W m n b → ¬ lt26 n a b → cmpS (cnts m best) (cnts m b) = 0 → leTake n best b
  in_ : ¬ lt26 n a best
theorem lt_irrefl26 : ¬ lt26 n a a := by rintro ⟨k, _, _, h⟩; omega
theorem lt_asymm26 (h : lt26 n a b) : ¬ leTake n b a := by
  obtain ⟨k, hk, hs, hl⟩ := h
  rintro (h | ⟨j, hj, h1, h2⟩)
  · have := h k hk; omega
  · rcases Nat.lt_trichotomy j k with h | h | h
    · have := hs j h; omega
    · subst h; omega
    · have := h1 k h; omega
theorem lt_of_le (h : leTake n a b) (hne : ¬ SameTo n a b) : lt26 n a b := by
  rcases h with h | h
  · exact absurd h hne
  · exact h
theorem lt_trans26 (h1 : lt26 n a b) (h2 : lt26 n b c) : lt26 n a c := by
  obtain ⟨k, hk, s1, l1⟩ := h1
  obtain ⟨j, hj, s2, l2⟩ := h2
  rcases Nat.lt_trichotomy j k with h | h | h
  · exact ⟨j, hj, (s1.less (by omega)).trans s2, by rw [s1 j h]; exact l2⟩
  · subst h
    exact ⟨j, hj, s1.trans s2, by omega⟩
  · exact ⟨k, hk, s1.trans (s2.less (by omega)), by rw [← s2 k h]; exact l1⟩
theorem cnts_same (ha : FullA W m n a) (hb : FullA W m n b) (h : SameTo n a b) : a = b := by
  apply List.ext_getElem
  · rw [ha.len, hb.len]
  · intro i h1 h2
    have := h i (by rw [← ha.len]; exact h1)
    rw [List.getD_eq_getElem?_getD, List.getElem?_eq_getElem h1, List.getD_eq_getElem?_getD, List.getElem?_eq_getElem h2] at this
    exact this
theorem BestTo.start (hm : W.length = m) : BestTo W m n (firstL W n) (firstL W n) := by
  have hf : FullA W m n (firstL W n) := first_full hm
  refine ⟨hf, hf, fun b hb hn => ?_, fun b hb hn _ => first_least hm hb n (Nat.le_refl _), lt_irrefl26⟩
  have hs : SameTo n (firstL W n) b := Classical.byContradiction fun hc => hn (lt_of_le (first_least hm hb n (Nat.le_refl _)) hc)
  rw [cnts_same hf hb hs, cmpS_self]; decide
/-- what is not behind the next list: what was not behind this one, and the next list itself -/
theorem nx_split (hm : W.length = m) (ha : FullA W m n a) (hb : FullA W m n b) (h : nxtF W m a n = some (g, i)) (hn : ¬ lt26 n (setNx W a n g i) b) : ¬ lt26 n a b ∨ b = setNx W a n g i := by
  by_cases hl : lt26 n a b
  · right
    have h1 := nx_next hm ha hb h hl
    have hs : SameTo n (setNx W a n g i) b := Classical.byContradiction fun hc => hn (lt_of_le h1 hc)
    exact (cnts_same (nx_full hm ha h) hb hs).symm
  · exact .inl hl
theorem BestTo.keep {best : List Int} (hm : W.length = m) (h : BestTo W m n a best) (hx : nxtF W m a n = some (g, i)) (hle : cmpS (cnts m (setNx W a n g i)) (cnts m best) ≤ 0) : BestTo W m n (setNx W a n g i) best := by
  have hf := nx_full hm h.fa hx
  have hin : ¬ lt26 n (setNx W a n g i) best := fun hc => h.in_ (lt_trans26 (nx_lt hx) hc)
  refine ⟨hf, h.fb, fun b hb hn => ?_, fun b hb hn he => ?_, hin⟩
  · rcases nx_split hm h.fa hb hx hn with h1 | rfl
    · exact h.ge b hb h1
    · rw [cmpS_swap] at hle; omega
  · rcases nx_split hm h.fa hb hx hn with h1 | rfl
    · exact h.le b hb h1 he
    · exact le26_of_not hin
theorem BestTo.take {best : List Int} (hm : W.length = m) (h : BestTo W m n a best) (hx : nxtF W m a n = some (g, i)) (hgt : 0 < cmpS (cnts m (setNx W a n g i)) (cnts m best)) : BestTo W m n (setNx W a n g i) (setNx W a n g i) := by
  have hf := nx_full hm h.fa hx
  refine ⟨hf, hf, fun b hb hn => ?_, fun b hb hn he => ?_, lt_irrefl26⟩
  · rcases nx_split hm h.fa hb hx hn with h1 | rfl
    · exact cmpS_trans (by rw [cnts_length, cnts_length]) (by rw [cnts_length, cnts_length]) (Int.le_of_lt hgt) (h.ge b hb h1)
    · rw [cmpS_self]; decide
  · rcases nx_split hm h.fa hb hx hn with h1 | rfl
    · exfalso
      have h2 := h.ge b hb h1
      have h3 : 0 ≤ cmpS (cnts m b) (cnts m (setNx W a n g i)) := by rw [cmpS_swap]; omega
      have h4 := cmpS_trans (by rw [cnts_length, cnts_length]) (by rw [cnts_length, cnts_length]) h2 h3
      rw [cmpS_swap] at h4
      omega
    · exact .inl fun k _ => rfl
theorem BestTo.done {best : List Int} (hm : W.length = m) (h : BestTo W m n a best) (hx : nxtF W m a n = none) : EvenOk W m n best := by
  refine ⟨⟨h.fb, fun b hb => h.ge b hb (nx_last hm h.fa hb hx)⟩, fun b hb => ?_⟩
  refine h.le b hb.full (nx_last hm h.fa hb.full hx) ?_
  have h1 := h.ge b hb.full (nx_last hm h.fa hb.full hx)
  have h2 := hb.best best h.fb
  rw [cmpS_swap] at h2
  omega
end
/-- a number that every next list raises -/
def valK (a : List Int) : Nat → Int
  | 0 => 0
  | k + 1 => valK a k * 8 + (a.getD k 0 + 1)
def capK : Nat → Int
  | 0 => 0
  | k + 1 => capK k * 8 + 8
theorem val_same {a b : List Int} : ∀ {k : Nat}, SameTo k a b → valK a k = valK b k
  | 0, _ => rfl
  | k + 1, h => by simp only [valK]; rw [val_same (k := k) (h.less (by omega)), h k (by omega)]
theorem val_cap {W : List (List Bool)} {m n : Nat} {a : List Int} (h6 : m ≤ 6) (ha : FullA W m n a) : ∀ {k : Nat}, k ≤ n → 0 ≤ valK a k ∧ valK a k ≤ capK k
  | 0, _ => by simp [valK, capK]
  | k + 1, h => by
    have ih := val_cap h6 ha (k := k) (by omega)
    simp only [valK, capK]
    rcases ha.at_ k (by omega) with ⟨h1, _⟩ | ⟨q, h1, h2, _⟩ <;> omega
theorem val_lt {W : List (List Bool)} {m n : Nat} {a b : List Int} (h6 : m ≤ 6) (ha : FullA W m n a) (hb : FullA W m n b) {k : Nat} (hs : SameTo k a b) (hl : a.getD k 0 < b.getD k 0) : ∀ d, k + 1 + d ≤ n → valK a (k + 1 + d) < valK b (k + 1 + d)
  | 0, h => by
    show valK a k * 8 + (a.getD k 0 + 1) < valK b k * 8 + (b.getD k 0 + 1)
    rw [val_same hs]; omega
  | d + 1, h => by
    have ih := val_lt h6 ha hb hs hl d (by omega)
    show valK a (k + 1 + d) * 8 + (a.getD (k + 1 + d) 0 + 1) < valK b (k + 1 + d) * 8 + (b.getD (k + 1 + d) 0 + 1)
    rcases ha.at_ (k + 1 + d) (by omega) with ⟨h1, _⟩ | ⟨q, h1, h2, _⟩ <;> rcases hb.at_ (k + 1 + d) (by omega) with ⟨g1, _⟩ | ⟨r, g1, g2, _⟩ <;> omega
theorem val_of_lt {W : List (List Bool)} {m n : Nat} {a b : List Int} (h6 : m ≤ 6) (ha : FullA W m n a) (hb : FullA W m n b) (h : lt26 n a b) : valK a n < valK b n := by
  obtain ⟨k, hk, hs, hl⟩ := h
  have := val_lt h6 ha hb hs hl (n - (k + 1)) (by omega)
  rwa [show k + 1 + (n - (k + 1)) = n by omega] at this
end Go.Proofs.Ytefbkdjppfofmaa

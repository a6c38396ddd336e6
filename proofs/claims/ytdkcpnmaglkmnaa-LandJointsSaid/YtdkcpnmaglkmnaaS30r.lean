import Derived.Test.YtdkcpnmaglkmnaaS30o
/-! Plain law: the parts as numbers of the parcels; the joints in order. No statement about the program. -/
namespace Go.Proofs.Ytdkcpnmaglkmnaa
set_option linter.unusedVariables false
set_option linter.unusedSectionVars false

/-- what the parts are -/
structure PartsOk (n : Nat) (E : Nat → Bool) (R : Nat → Nat → Bool) (F : List (List Nat)) : Prop where
  mine : ∀ (i : Nat) (P : List Nat) (k : Nat), F[i]? = some P → k ∈ P → k < n ∧ E k = true
  one : ∀ (i j : Nat) (P Q : List Nat) (k : Nat), F[i]? = some P → F[j]? = some Q → k ∈ P → k ∈ Q → i = j
  all : ∀ k, k < n → E k = true → ∃ (i : Nat) (P : List Nat), F[i]? = some P ∧ k ∈ P
  nd : ∀ (i : Nat) (P : List Nat), F[i]? = some P → P.Nodup
  link : ∀ a b, R a b = true → ∀ (i : Nat) (P : List Nat), F[i]? = some P → a ∈ P → b ∈ P
theorem parts_ok (W : Nat) (L : List Int) (a : Int) : PartsOk L.length (mineB L a) (linkB W L a) (partsL L.length (mineB L a) (linkB W L a)) := by
  have key : ∀ (i : Nat) (P : List Nat), (partsL L.length (mineB L a) (linkB W L a))[i]? = some P → ∃ l, ((List.range L.length).filter (isLead L.length (mineB L a) (linkB W L a)))[i]? = some l ∧ P = comp L.length (linkB W L a) l ∧ l < L.length ∧ mineB L a l = true ∧ ∀ k, k < l → ¬ Con (linkB W L a) l k := by
    intro i P h
    rw [partsL, List.getElem?_map] at h
    cases hl : ((List.range L.length).filter (isLead L.length (mineB L a) (linkB W L a)))[i]? with
    | none => rw [hl] at h; cases h
    | some l =>
      rw [hl] at h
      simp at h
      obtain ⟨h1, h2⟩ := List.mem_filter.1 (List.mem_of_getElem? hl)
      have h3 := List.mem_range.1 h1
      obtain ⟨h4, h5⟩ := (lead_K h3).1 h2
      exact ⟨l, rfl, h.symm, h3, h4, h5⟩
  refine ⟨?_, ?_, ?_, ?_, ?_⟩
  · intro i P k h hk
    obtain ⟨l, _, rfl, h1, h2, _⟩ := key i P h
    have hc := (mem_comp linkB_lt h1 k).1 hk
    exact ⟨mineB_lt (linkB_mine h2 hc), linkB_mine h2 hc⟩
  · intro i j P Q k h h' hk hk'
    obtain ⟨l, g1, rfl, h1, h2, h3⟩ := key i P h
    obtain ⟨l', g1', rfl, h1', h2', h3'⟩ := key j Q h'
    have hc := (mem_comp linkB_lt h1 k).1 hk
    have hc' := (mem_comp linkB_lt h1' k).1 hk'
    have c1 : Con (linkB W L a) l l' := hc.trans (hc'.symm linkB_symm)
    have c2 : Con (linkB W L a) l' l := hc'.trans (hc.symm linkB_symm)
    have e : l = l' := by
      rcases Nat.lt_trichotomy l l' with hlt | hlt | hlt
      · exact absurd c2 (h3' l hlt)
      · exact hlt
      · exact absurd c1 (h3 l' hlt)
    subst e
    have hp : ((List.range L.length).filter (isLead L.length (mineB L a) (linkB W L a))).Pairwise (· < ·) := List.Pairwise.filter _ List.pairwise_lt_range
    rw [List.pairwise_iff_getElem] at hp
    obtain ⟨q1, e1⟩ := List.getElem?_eq_some_iff.1 g1
    obtain ⟨q2, e2⟩ := List.getElem?_eq_some_iff.1 g1'
    rcases Nat.lt_trichotomy i j with hlt | hlt | hlt
    · have := hp i j q1 q2 hlt; omega
    · exact hlt
    · have := hp j i q2 q1 hlt; omega
  · intro k hk hE
    obtain ⟨m, hm, hc, hl⟩ := least_one (p := fun q => Con (linkB W L a) k q) (n := k) .refl
    have hml : m < L.length := by omega
    have hmm := linkB_mine hE hc
    have hmem : m ∈ (List.range L.length).filter (isLead L.length (mineB L a) (linkB W L a)) := List.mem_filter.2 ⟨List.mem_range.2 hml, (lead_K hml).2 ⟨hmm, fun q hq hc2 => hl q hq (hc.trans hc2)⟩⟩
    obtain ⟨i, hi⟩ := List.getElem?_of_mem hmem
    exact ⟨i, comp L.length (linkB W L a) m, by rw [partsL, List.getElem?_map, hi]; rfl, (mem_comp linkB_lt hml k).2 (hc.symm linkB_symm)⟩
  · intro i P h
    obtain ⟨l, _, rfl, _⟩ := key i P h
    have := comp_sorted L.length (linkB W L a) l
    exact this.imp (fun h => Nat.ne_of_lt h)
  · intro x y hr i P h hx
    obtain ⟨l, _, rfl, h1, _⟩ := key i P h
    exact (mem_comp linkB_lt h1 y).2 (((mem_comp linkB_lt h1 x).1 hx).trans (Con.one hr))

/-- the parcels that have a number when the first i parts and k parcels of the next are through -/
def Cov (F : List (List Nat)) (i k q : Nat) : Prop := (∃ (j : Nat) (P : List Nat), j < i ∧ F[j]? = some P ∧ q ∈ P) ∨ (∃ P, F[i]? = some P ∧ q ∈ P.take k)
structure Num (n : Nat) (F : List (List Nat)) (i k : Nat) (O : List Int) : Prop where
  len : O.length = n
  no : ∀ q, q < n → ¬ Cov F i k q → O[q]? = some 0
  yes : ∀ (q j : Nat) (P : List Nat), F[j]? = some P → q ∈ P → Cov F i k q → O[q]? = some ((j : Int) + 1)
section
variable {n : Nat} {E : Nat → Bool} {R : Nat → Nat → Bool} {F : List (List Nat)} {O : List Int} {i k q : Nat} {P : List Nat}
theorem Num.start (F : List (List Nat)) (n : Nat) : Num n F 0 0 (List.replicate n 0) where
  len := by simp
  no := fun q hq _ => by rw [List.getElem?_replicate, if_pos hq]
  yes := fun q j P _ _ h => by
    rcases h with ⟨j, P, hj, _⟩ | ⟨P, _, h⟩
    · omega
    · simp at h
theorem Num.fresh (hN : Num n F i k O) (hF : PartsOk n E R F) (hP : F[i]? = some P) (hq : P[k]? = some q) : q < n ∧ E q = true ∧ O[q]? = some 0 := by
  have hm := List.mem_of_getElem? hq
  obtain ⟨h1, h2⟩ := hF.mine i P q hP hm
  refine ⟨h1, h2, hN.no q h1 ?_⟩
  rintro (⟨j, Q, hj, hQ, hqQ⟩ | ⟨Q, hQ, hqQ⟩)
  · have := hF.one i j P Q q hP hQ hm hqQ; omega
  · rw [hP] at hQ
    cases hQ
    obtain ⟨m, hmk, e⟩ := List.mem_take_iff_getElem.1 hqQ
    have hnd := hF.nd i P hP
    obtain ⟨hk, e2⟩ := List.getElem?_eq_some_iff.1 hq
    have hp := List.pairwise_iff_getElem.1 hnd m k (by omega) hk (by omega)
    exact hp (e.trans e2.symm)
theorem Num.step (hN : Num n F i k O) (hF : PartsOk n E R F) (hP : F[i]? = some P) (hq : P[k]? = some q) : Num n F i (k + 1) (O.set q ((i : Int) + 1)) := by
  obtain ⟨h1, h2, h3⟩ := hN.fresh hF hP hq
  have hm := List.mem_of_getElem? hq
  obtain ⟨hk, e2⟩ := List.getElem?_eq_some_iff.1 hq
  have hcq : Cov F i (k + 1) q := .inr ⟨P, hP, List.mem_take_iff_getElem.2 ⟨k, by omega, e2⟩⟩
  refine ⟨by rw [List.length_set]; exact hN.len, fun q' hq' hc => ?_, fun q' j Q hQ hq' hc => ?_⟩
  · have hne : q ≠ q' := by rintro rfl; exact hc hcq
    rw [List.getElem?_set_ne hne]
    refine hN.no q' hq' fun hc' => hc ?_
    rcases hc' with h | ⟨Q, hQ, hm'⟩
    · exact .inl h
    · obtain ⟨m, hmk, e⟩ := List.mem_take_iff_getElem.1 hm'
      exact .inr ⟨Q, hQ, List.mem_take_iff_getElem.2 ⟨m, by omega, e⟩⟩
  · by_cases hne : q = q'
    · subst hne
      have := hF.one i j P Q q hP hQ hm hq'
      subst this
      exact List.getElem?_set_self (by rw [hN.len]; exact h1)
    · rw [List.getElem?_set_ne hne]
      refine hN.yes q' j Q hQ hq' ?_
      rcases hc with h | ⟨Q', hQ', hm'⟩
      · exact .inl h
      · obtain ⟨m, hmk, e⟩ := List.mem_take_iff_getElem.1 hm'
        rw [hP] at hQ'
        cases hQ'
        refine .inr ⟨P, hP, List.mem_take_iff_getElem.2 ⟨m, ?_, e⟩⟩
        rcases Nat.lt_or_ge m k with hlt | hge
        · omega
        · have : m = k := by omega
          subst this
          exact absurd (e2.symm.trans e) hne
theorem cov_next (hP : F[i]? = some P) : Cov F (i + 1) 0 q ↔ Cov F i P.length q := by
  constructor
  · rintro (⟨j, Q, hj, hQ, hq⟩ | ⟨Q, hQ, hq⟩)
    · rcases Nat.lt_or_ge j i with hlt | hge
      · exact .inl ⟨j, Q, hlt, hQ, hq⟩
      · have : j = i := by omega
        subst this
        rw [hP] at hQ
        cases hQ
        exact .inr ⟨P, hP, by rw [List.take_length]; exact hq⟩
    · simp at hq
  · rintro (⟨j, Q, hj, hQ, hq⟩ | ⟨Q, hQ, hq⟩)
    · exact .inl ⟨j, Q, by omega, hQ, hq⟩
    · rw [hP] at hQ
      cases hQ
      rw [List.take_length] at hq
      exact .inl ⟨i, P, by omega, hP, hq⟩
theorem Num.next (hN : Num n F i P.length O) (hP : F[i]? = some P) : Num n F (i + 1) 0 O :=
  ⟨hN.len, fun q hq hc => hN.no q hq fun h => hc ((cov_next hP).2 h), fun q j Q hQ hq hc => hN.yes q j Q hQ hq ((cov_next hP).1 hc)⟩
theorem Num.fin (hN : Num n F F.length 0 O) (hF : PartsOk n E R F) : (∀ q, q < n → E q = true → ∃ j : Nat, O[q]? = some ((j : Int) + 1) ∧ j < F.length) ∧ (∀ q, q < n → E q = false → O[q]? = some 0) ∧ (∀ a b, a < n → b < n → E a = true → R a b = true → O[a]? = O[b]?) := by
  have cov : ∀ (q j : Nat) (P : List Nat), F[j]? = some P → q ∈ P → Cov F F.length 0 q := fun q j P hP hq => .inl ⟨j, P, (List.getElem?_eq_some_iff.1 hP).1, hP, hq⟩
  refine ⟨fun q hq hE => ?_, fun q hq hE => ?_, fun x y hx hy hE hr => ?_⟩
  · obtain ⟨j, P, hP, hqP⟩ := hF.all q hq hE
    exact ⟨j, hN.yes q j P hP hqP (cov q j P hP hqP), (List.getElem?_eq_some_iff.1 hP).1⟩
  · refine hN.no q hq ?_
    rintro (⟨j, Q, hj, hQ, hqQ⟩ | ⟨Q, hQ, hqQ⟩)
    · rw [(hF.mine j Q q hQ hqQ).2] at hE; cases hE
    · simp at hqQ
  · obtain ⟨j, P, hP, hxP⟩ := hF.all x hx hE
    have hyP := hF.link x y hr j P hP hxP
    rw [hN.yes x j P hP hxP (cov x j P hP hxP), hN.yes y j P hP hyP (cov y j P hP hyP)]
end
/-- the filtered numbers in order -/
theorem filter_at (p : Nat → Bool) {n k : Nat} (hk : k < n) : ((List.range n).filter p)[((List.range k).filter p).length]? = some k ↔ p k = true := by
  obtain ⟨m, rfl⟩ : ∃ m, n = k + (m + 1) := ⟨n - k - 1, by omega⟩
  rw [List.range_add, List.filter_append, List.getElem?_append_right (Nat.le_refl _), Nat.sub_self, List.range_succ_eq_map, List.map_cons, Nat.add_zero]
  cases hp : p k
  · rw [List.filter_cons_of_neg (by simp [hp])]
    constructor
    · intro h
      have hm := List.mem_of_getElem? h
      obtain ⟨h1, _⟩ := List.mem_filter.1 hm
      simp at h1
    · intro h; cases h
  · rw [List.filter_cons_of_pos hp]
    simp
theorem jnt_at {W : Nat} {L : List Int} {a : Int} {k : Nat} (hk : k < L.length) : (jntTo W L a L.length)[(jntTo W L a k).length]? = some k ↔ isJnt W L a k = true := filter_at _ hk
/-- the parcel to the left, the one below -/
theorem nb_left {W k : Nat} (hW : 0 < W) (h : 0 < k % W) : nbB W k (k - 1) = true := by
  have hd := Nat.div_add_mod k W
  have hm := Nat.mod_lt k hW
  have e : k - 1 = W * (k / W) + (k % W - 1) := by omega
  have m1 : (k - 1) % W = k % W - 1 := by rw [e, Nat.mul_add_mod, Nat.mod_eq_of_lt (show k % W - 1 < W by omega)]
  have d1 : (k - 1) / W = k / W := by rw [e, Nat.mul_add_div hW, Nat.div_eq_of_lt (show k % W - 1 < W by omega), Nat.add_zero]
  refine way_nbB (j := 2) (by decide) ?_ ?_
  · rw [show dxI 2 = -1 by decide]
    show (((k - 1) % W : Nat) : Int) = ((k % W : Nat) : Int) + -1
    rw [m1]; omega
  · rw [show dyI 2 = 0 by decide]
    show (((k - 1) / W : Nat) : Int) = ((k / W : Nat) : Int) + 0
    rw [d1]; omega
theorem nb_down {W k : Nat} (hW : 0 < W) (h : W ≤ k) : nbB W k (k - W) = true := by
  have hd := Nat.div_add_mod k W
  have hm := Nat.mod_lt k hW
  have h1 : 1 ≤ k / W := (Nat.one_le_div_iff hW).2 h
  have m1 : (k - W) % W = k % W := (Nat.mod_eq_sub_mod h).symm
  have d1 : k / W = (k - W) / W + 1 := Nat.div_eq_sub_div hW h
  refine way_nbB (j := 3) (by decide) ?_ ?_
  · rw [show dxI 3 = 0 by decide]
    show (((k - W) % W : Nat) : Int) = ((k % W : Nat) : Int) + 0
    rw [m1]; omega
  · rw [show dyI 3 = -1 by decide]
    show (((k - W) / W : Nat) : Int) = ((k / W : Nat) : Int) + -1
    omega
end Go.Proofs.Ytdkcpnmaglkmnaa

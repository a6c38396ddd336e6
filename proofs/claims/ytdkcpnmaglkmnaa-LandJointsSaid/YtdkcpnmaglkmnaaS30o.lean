import Derived.Test.YtdkcpnmaglkmnaaS30m
/-! Plain laws: how many parts there are; giving, and giving back. No statement about the program. -/
namespace Go.Proofs.Ytdkcpnmaglkmnaa
open Go.RowKit
set_option linter.unusedVariables false

theorem partsK_count (W : Nat) (L : List Int) (a : Int) : (partsK W L a).length = ((List.range L.length).filter (isLead L.length (mineB L a) (linkB W L a))).length := by
  simp [partsK, partsL]
theorem lead_K {W : Nat} {L : List Int} {a : Int} {i : Nat} (hi : i < L.length) : isLead L.length (mineB L a) (linkB W L a) i = true ↔ mineB L a i = true ∧ ∀ k, k < i → ¬ Con (linkB W L a) i k :=
  isLead_iff linkB_lt hi
/-- whoever has a parcel has a part -/
theorem partsK_pos {W : Nat} {L : List Int} {a : Int} {i : Nat} (h : mineB L a i = true) : 0 < (partsK W L a).length := by
  have hi := mineB_lt h
  obtain ⟨m, hm, hc, hl⟩ := least_one (p := fun k => Con (linkB W L a) i k) (n := i) .refl
  have hml : m < L.length := by omega
  have hmm := linkB_mine h hc
  rw [partsK_count]
  refine List.length_pos_of_mem (a := m) (List.mem_filter.2 ⟨List.mem_range.2 hml, (lead_K hml).2 ⟨hmm, fun k hk hc2 => hl k hk (hc.trans hc2)⟩⟩)
theorem partsK_none {W : Nat} {L : List Int} {a : Int} (h : ∀ i, mineB L a i = false) : partsK W L a = [] := by
  rw [← List.length_eq_zero_iff, partsK_count, List.length_eq_zero_iff, List.filter_eq_nil_iff]
  intro i hi
  have hil := List.mem_range.1 hi
  rw [lead_K hil, h i]
  simp
theorem cnt_one (p q : Nat → Bool) (c : Nat) (h : ∀ i, i ≠ c → p i = true → q i = true) : ∀ n, ((List.range n).filter p).length ≤ ((List.range n).filter q).length + (if c < n then 1 else 0)
  | 0 => by simp
  | n + 1 => by
    have ih := cnt_one p q c h n
    rw [List.range_succ, List.filter_append, List.filter_append, List.length_append, List.length_append]
    by_cases hn : n = c
    · have h1 : ([n].filter p).length ≤ 1 := List.length_filter_le p [n]
      rw [if_neg (by omega)] at ih
      rw [if_pos (by omega)]
      omega
    · have h1 : ([n].filter p).length ≤ ([n].filter q).length := by
        cases hp : p n
        · simp [hp]
        · simp [hp, h n hn hp]
      have h2 : (if c < n then 1 else 0) = (if c < n + 1 then 1 else 0) := by
        by_cases hc : c < n
        · rw [if_pos hc, if_pos (by omega)]
        · rw [if_neg hc, if_neg (by omega)]
      omega
theorem mineB_set {L : List Int} {a x : Int} {c i : Nat} (hi : i ≠ c) : mineB (L.set c x) a i = mineB L a i := by
  unfold mineB
  rw [List.getElem?_set_ne (Ne.symm hi)]
/-- without a parcel there are as many parts, or one less, or more -/
theorem parts_less {W : Nat} {L : List Int} {a : Int} {c : Nat} (hc : c < L.length) (ha : 0 ≤ a) : (partsK W L a).length ≤ (partsK W (L.set c (-1)) a).length + 1 := by
  have h1 := cnt_one (isLead L.length (mineB L a) (linkB W L a)) (isLead L.length (mineB (L.set c (-1)) a) (linkB W (L.set c (-1)) a)) c ?_ L.length
  · rw [partsK_count, partsK_count, List.length_set]
    rw [if_pos hc] at h1
    exact h1
  · intro i hi hl
    have hil : i < L.length := by
      rw [isLead, Bool.and_eq_true] at hl
      exact mineB_lt hl.1
    have h2 := (lead_K (W := W) (L := L) (a := a) hil).1 hl
    have hil' : i < (L.set c (-1)).length := by rw [List.length_set]; exact hil
    have h3 := (lead_K (W := W) (L := L.set c (-1)) (a := a) hil').2 ⟨by rw [mineB_set hi]; exact h2.1, fun k hk hcon => h2.2 k hk (hcon.mono fun u v huv => ?_)⟩
    · rw [List.length_set] at h3; exact h3
    · obtain ⟨m1, m2, m3⟩ := linkB_iff.1 huv
      have hne : ∀ u, mineB (L.set c (-1)) a u = true → u ≠ c := by
        rintro u hu rfl
        have := mineB_iff.1 hu
        rw [List.getElem?_set_self hc] at this
        injection this with this
        omega
      rw [mineB_set (hne _ m1)] at m1
      rw [mineB_set (hne _ m2)] at m2
      exact linkB_iff.2 ⟨m1, m2, m3⟩

/-- what a gift shows -/
theorem gives_ok {W H : Nat} {L : List Int} {p t : Int} (v : VL W H L) (hl : lck W H L = 0) (h : gvE30 W H L p t = 0) :
    ∃ k : Nat, p = k ∧ k < L.length ∧ 0 ≤ t ∧ t ≤ 5 ∧ wasL L p = L.getD k 0 ∧ L.getD k 0 ≠ t ∧ gvW30 W H L p t = W ∧ gvH30 W H L p t = H ∧ gvL30 W H L p t = L.set k t ∧ VL W H (L.set k t) ∧ (partsK W (L.set k t) t).length = 1
      ∧ (0 ≤ L.getD k 0 → (partsK W (L.set k t) (L.getD k 0)).length ≤ 1)
      ∧ ((gvE30 W H (L.set k t) p (L.getD k 0) = 0 ∧ gvW30 W H (L.set k t) p (L.getD k 0) = W ∧ gvH30 W H (L.set k t) p (L.getD k 0) = H ∧ gvL30 W H (L.set k t) p (L.getD k 0) = L) ∨ (0 ≤ L.getD k 0 → gvE30 W H (L.set k t) p (L.getD k 0) = 20)) := by
  have h0 := h
  rw [gvE30, if_neg (by simp [hl])] at h0
  by_cases c1 : p < 0 ∨ (L.length : Int) ≤ p ∨ t < 0 ∨ 6 ≤ t
  · rw [if_pos c1] at h0; exact absurd h0 (by decide)
  rw [if_neg c1] at h0
  by_cases c2 : wasL L p = t
  · rw [if_pos c2] at h0; exact absurd h0 (by decide)
  rw [if_neg c2] at h0
  by_cases c3 : 1 < (partsK (W : Int).toNat (L.set p.toNat t) t).length ∨ (0 ≤ wasL L p ∧ 1 < (partsK (W : Int).toNat (L.set p.toNat t) (wasL L p)).length)
  · rw [if_pos c3] at h0; exact absurd h0 (by decide)
  obtain ⟨_, q1, q2, q3⟩ := gv30_ok hl c1 c2 c3
  obtain ⟨k, rfl⟩ : ∃ k : Nat, p = k := ⟨p.toNat, by omega⟩
  rw [Int.toNat_natCast] at q3 c3
  rw [Int.toNat_natCast] at c3
  have hw : wasL L k = L.getD k 0 := by rw [wasL, Int.toNat_natCast]
  rw [hw] at c2 c3
  have hk : k < L.length := by omega
  have v2 : VL W H (L.set k t) := v.set k (by omega)
  have hpos := partsK_pos (W := W) (mineB_iff.2 (List.getElem?_set_self (a := t) hk) : mineB (L.set k t) t k = true)
  refine ⟨k, rfl, hk, by omega, by omega, hw, c2, q1, q2, q3, v2, by omega, by omega, ?_⟩
  by_cases hb : 0 ≤ L.getD k 0
  · have hbd := v.bd (L.getD k 0) (by rw [List.getD_eq_getElem?_getD, List.getElem?_eq_getElem hk]; simp)
    have hl2 := lck_of v2
    have d1 : ¬ ((k : Int) < 0 ∨ ((L.set k t).length : Int) ≤ k ∨ L.getD k 0 < 0 ∨ 6 ≤ L.getD k 0) := by rw [List.length_set]; omega
    have hw2 : wasL (L.set k t) k = t := by
      rw [wasL, Int.toNat_natCast, List.getD_eq_getElem?_getD, List.getElem?_set_self hk]; rfl
    have d2 : wasL (L.set k t) k ≠ L.getD k 0 := by rw [hw2]; exact Ne.symm c2
    by_cases d3 : 1 < (partsK (W : Int).toNat ((L.set k t).set (k : Int).toNat (L.getD k 0)) (L.getD k 0)).length ∨ (0 ≤ wasL (L.set k t) k ∧ 1 < (partsK (W : Int).toNat ((L.set k t).set (k : Int).toNat (L.getD k 0)) (wasL (L.set k t) k)).length)
    · exact .inr fun _ => (gv30_apart hl2 d1 d2 d3).1
    · obtain ⟨r0, r1, r2, r3⟩ := gv30_ok hl2 d1 d2 d3
      refine .inl ⟨r0, r1, r2, r3.trans ?_⟩
      rw [Int.toNat_natCast, List.set_set]
      rw [List.getD_eq_getElem?_getD, List.getElem?_eq_getElem hk]
      simp
  · exact .inr fun hh => absurd hh hb
end Go.Proofs.Ytdkcpnmaglkmnaa

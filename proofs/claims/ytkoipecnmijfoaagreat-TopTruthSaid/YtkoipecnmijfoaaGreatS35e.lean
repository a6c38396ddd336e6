import Derived.Test.YtkoipecnmijfoaaGreatM35b
/-! Plain law: picking turn by turn; the true ranking; the best list. No statement about the program. -/
namespace Go.Proofs.YtkoipecnmijfoaaGreat
set_option linter.unusedVariables false

/-- what is taken stays taken -/
theorem pickS_keep {out : List Int} {i : Int} {L : List Int} {g : Nat} {x : Int} (hx : out[g]? = some x) (h0 : 0 ≤ x) : (pickS out i L)[g]? = some x := by
  rw [pickS]
  split
  · rename_i gd hf
    have hfr := List.find?_some hf
    have hne : gd.toNat ≠ g := by
      rintro rfl
      rw [freeG, List.getD_eq_getElem?_getD, hx] at hfr
      simp at hfr
      omega
    rw [List.getElem?_set_ne hne]; exact hx
  · exact hx
theorem pickK_keep {O : List Int} {R : List (List Int)} {k g : Nat} {x : Int} (hx : (pickK O R k)[g]? = some x) (h0 : 0 ≤ x) : ∀ j, (pickK O R (k + j))[g]? = some x
  | 0 => hx
  | j + 1 => by rw [← Nat.add_assoc, pickK]; exact pickS_keep (pickK_keep hx h0 j) h0
/-- what has gone, good by good -/
def goneK (O : List Int) (R : List (List Int)) (k : Nat) : List Bool := (pickK O R k).map fun x => decide (0 ≤ x)
theorem goneK_length (O : List Int) (R : List (List Int)) (k : Nat) : (goneK O R k).length = O.length := by rw [goneK, List.length_map, pickK_length]
theorem goneK_zero (O : List Int) (R : List (List Int)) : goneK O R 0 = List.replicate O.length false := by rw [goneK, pickK, List.map_replicate]; rfl
/-- one turn -/
theorem turn_at {O : List Int} {R : List (List Int)} (h : OR O R) {k : Nat} (hk : k < O.length) :
    ∃ (a g : Nat) (L : List Int), O[k]? = some (a : Int) ∧ a < R.length ∧ R[a]? = some L ∧ (iota O.length).Perm L ∧ L.find? (freeG (pickK O R k)) = some (g : Int) ∧ g < O.length ∧
      pickK O R (k + 1) = (pickK O R k).set g a ∧ (pickK O R k)[g]? = some (-1) := by
  obtain ⟨a, ha, hl⟩ := h.at_ (k := k) (i := O[k]) (by simp [hk])
  have hi : O[k]? = some (a : Int) := by rw [List.getElem?_eq_getElem hk, ha]
  have hL : R[a]? = some R[a] := by simp [hl]
  have hp := h.ord R[a] (List.getElem_mem hl)
  obtain ⟨g, hg, hgl⟩ := pick_some h hk hp
  have hst := pickK_at (L := R[a]) hi (by rw [Int.toNat_natCast]; exact hL) hg
  rw [Int.toNat_natCast] at hst
  refine ⟨a, g, R[a], hi, hl, hL, hp, hg, hgl, hst, ?_⟩
  have hf := List.find?_some hg
  obtain ⟨y, hy⟩ : ∃ y, (pickK O R k)[g]? = some y := ⟨(pickK O R k)[g]'(by rw [pickK_length]; exact hgl), by simp⟩
  rw [freeG, Int.toNat_natCast, List.getD_eq_getElem?_getD, hy] at hf
  simp at hf
  have := (pickK_bd h k (by omega) y (List.mem_of_getElem? hy)).1
  rw [hy]; congr 1; omega
theorem goneK_set {O : List Int} {R : List (List Int)} {k g a : Nat} (h : pickK O R (k + 1) = (pickK O R k).set g a) : goneK O R (k + 1) = (goneK O R k).set g true := by
  rw [goneK, h, goneK, List.map_set]
  simp
/-- .. and what it leaves in the end -/
theorem turn_end {O : List Int} {R : List (List Int)} {k g a : Nat} (hg : g < O.length) (hk : k < O.length) (h : pickK O R (k + 1) = (pickK O R k).set g a) : (pickK O R O.length)[g]? = some (a : Int) := by
  have h1 : (pickK O R (k + 1))[g]? = some (a : Int) := by rw [h, List.getElem?_set_self (by rw [pickK_length]; exact hg)]
  have := pickK_keep h1 (by omega) (O.length - (k + 1))
  rwa [show k + 1 + (O.length - (k + 1)) = O.length by omega] at this

/-! what an agent has, turn by turn -/
theorem hasTo_over {A V : List Int} {a : Int} {g : Nat} {i : Int} : ∀ n : Nat, n ≤ g → hasTo (A.set g i) V a n = hasTo A V a n
  | 0, _ => rfl
  | n + 1, h => by
    rw [hasTo, hasTo, hasTo_over n (by omega), List.getD_eq_getElem?_getD, List.getElem?_set_ne (by omega), ← List.getD_eq_getElem?_getD]
theorem hasTo_set {A V : List Int} {a i : Int} {g : Nat} (hg : g < A.length) (hn : A.getD g 0 ≠ a) : ∀ n : Nat, g < n → hasTo (A.set g i) V a n = hasTo A V a n + if i = a then V.getD g 0 else 0
  | 0, h => by omega
  | n + 1, h => by
    rcases Nat.lt_or_ge g n with h1 | h1
    · rw [hasTo, hasTo, hasTo_set hg hn n h1, List.getD_eq_getElem?_getD (l := A.set g i), List.getElem?_set_ne (by omega), ← List.getD_eq_getElem?_getD]
      omega
    · obtain rfl : n = g := by omega
      rw [hasTo, hasTo, hasTo_over n (by omega), if_neg hn, List.getD_eq_getElem?_getD (l := A.set n i), List.getElem?_set_self hg]
      simp
def hasK (O : List Int) (R : List (List Int)) (a : Nat) (V : List Int) (k : Nat) : Int := hasTo (pickK O R k) V a O.length
theorem hasK_zero (O : List Int) (R : List (List Int)) (a : Nat) (V : List Int) : hasK O R a V 0 = 0 := by
  have : ∀ n, n ≤ O.length → hasTo (List.replicate O.length (-1)) V (a : Int) n = 0 := by
    intro n
    induction n with
    | zero => intro _; rfl
    | succ n ih =>
      intro hn
      rw [hasTo, ih (by omega), if_neg]
      · rfl
      · rw [List.getD_eq_getElem?_getD, List.getElem?_replicate, if_pos (by omega), Option.getD_some]
        omega
  exact this _ (Nat.le_refl _)
theorem hasK_succ {O : List Int} {R : List (List Int)} {k g b : Nat} (a : Nat) (V : List Int) (hg : g < O.length) (hf : (pickK O R k)[g]? = some (-1)) (h : pickK O R (k + 1) = (pickK O R k).set g b) : hasK O R a V (k + 1) = hasK O R a V k + if b = a then V.getD g 0 else 0 := by
  rw [hasK, hasK, h, hasTo_set (by rw [pickK_length]; exact hg) (by rw [List.getD_eq_getElem?_getD, hf]; simp only [Option.getD_some]; omega) _ hg]
  congr 1
  by_cases hb : b = a
  · rw [if_pos hb, if_pos (by omega)]
  · rw [if_neg hb, if_neg (by omega)]
/-- a list is true: values go down in it -/
def Down (V : List Int) (t : List Int) : Prop := t.Pairwise fun x y => V.getD y.toNat 0 ≤ V.getD x.toNat 0
theorem find_down {V t : List Int} {p : Int → Bool} {g : Int} (hd : Down V t) (h : t.find? p = some g) : ∀ x ∈ t, p x = true → V.getD x.toNat 0 ≤ V.getD g.toNat 0 := by
  induction t with
  | nil => simp at h
  | cons y t ih =>
    rw [Down, List.pairwise_cons] at hd
    intro x hx hp
    by_cases hy : p y = true
    · rw [List.find?_cons_of_pos hy] at h
      cases h
      rcases List.mem_cons.1 hx with rfl | hx
      · exact Int.le_refl _
      · exact hd.1 x hx
    · rw [List.find?_cons_of_neg hy] at h
      rcases List.mem_cons.1 hx with rfl | hx
      · exact absurd hp hy
      · exact ih hd.2 h x hx hp
theorem set_at {R : List (List Int)} {a b : Nat} {l : List Int} : (R.set a l)[b]? = if b = a then (if a < R.length then some l else none) else R[b]? := by
  by_cases h : b = a
  · subst h
    rw [if_pos rfl]
    split
    · rw [List.getElem?_set_self (by assumption)]
    · rw [List.getElem?_eq_none (by simp; omega)]
  · rw [if_neg h, List.getElem?_set_ne (by omega)]
/-- without a turn an agent's ranking does not matter -/
theorem pick_same {O : List Int} {R : List (List Int)} {a : Nat} {l t : List Int} (hl : OR O (R.set a l)) (ht : OR O (R.set a t)) : ∀ k, k ≤ O.length → (O.take k).count (a : Int) = 0 → pickK O (R.set a l) k = pickK O (R.set a t) k
  | 0, _, _ => rfl
  | k + 1, hk, hc => by
    obtain ⟨b, g, L, h1, h2, h3, h4, h5, h6, h7, h8⟩ := turn_at hl (k := k) (by omega)
    obtain ⟨b', g', L', k1, k2, k3, k4, k5, k6, k7, k8⟩ := turn_at ht (k := k) (by omega)
    rw [List.take_add_one, h1, List.count_append] at hc
    have hb : b ≠ a := by
      rintro rfl
      simp at hc
    have ih := pick_same hl ht k (by omega) (by omega)
    rw [h1] at k1
    obtain rfl : b = b' := by have := Option.some.inj k1; omega
    rw [List.getElem?_set_ne (by omega)] at h3 k3
    rw [h3] at k3
    cases k3
    rw [ih, k5] at h5
    cases h5
    rw [h7, k7, ih]
theorem hasK_none {O : List Int} {R : List (List Int)} {a : Nat} {V : List Int} (h : OR O R) : ∀ k, k ≤ O.length → (O.take k).count (a : Int) = 0 → hasK O R a V k = 0
  | 0, _, _ => hasK_zero _ _ _ _
  | k + 1, hk, hc => by
    obtain ⟨b, g, L, h1, h2, h3, h4, h5, h6, h7, h8⟩ := turn_at h (k := k) (by omega)
    rw [List.take_add_one, h1, List.count_append] at hc
    have hb : b ≠ a := by
      rintro rfl
      simp at hc
    rw [hasK_succ a V h6 h8 h7, hasK_none h k (by omega) (by omega), if_neg hb]; rfl
/-- with at most one turn the truth is best -/
theorem truth_once {O : List Int} {R : List (List Int)} {a : Nat} {V l t : List Int} (ha : a < R.length) (hl : OR O (R.set a l)) (ht : OR O (R.set a t)) (hd : Down V t) (hpl : (iota O.length).Perm l) (hpt : (iota O.length).Perm t) :
    ∀ k, k ≤ O.length → (O.take k).count (a : Int) ≤ 1 → hasK O (R.set a l) a V k ≤ hasK O (R.set a t) a V k
  | 0, _, _ => by rw [hasK_zero, hasK_zero]; exact Int.le_refl _
  | k + 1, hk, hc => by
    obtain ⟨b, g, L, h1, h2, h3, h4, h5, h6, h7, h8⟩ := turn_at hl (k := k) (by omega)
    obtain ⟨b', g', L', k1, k2, k3, k4, k5, k6, k7, k8⟩ := turn_at ht (k := k) (by omega)
    rw [h1] at k1
    obtain rfl : b = b' := by have := Option.some.inj k1; omega
    rw [hasK_succ a V h6 h8 h7, hasK_succ a V k6 k8 k7]
    rw [List.take_add_one, h1, List.count_append] at hc
    by_cases hb : b = a
    · subst hb
      have hc0 : (O.take k).count (b : Int) = 0 := by simp at hc; omega
      rw [hasK_none hl k (by omega) hc0, hasK_none ht k (by omega) hc0, if_pos rfl, if_pos rfl]
      rw [pick_same hl ht k (by omega) hc0] at h5
      rw [List.getElem?_set_self ha] at h3 k3
      cases h3
      cases k3
      have := find_down hd k5 (g : Int) (hpt.mem_iff.1 (hpl.mem_iff.2 (List.mem_of_find?_eq_some h5))) (List.find?_some h5)
      simp only [Int.toNat_natCast] at this
      omega
    · rw [if_neg hb, if_neg hb]
      have := truth_once ha hl ht hd hpl hpt k (by omega) (by omega)
      omega
theorem hasK_up {O : List Int} {R : List (List Int)} {a : Nat} {V : List Int} (h : OR O R) (hV : ∀ x ∈ V, 0 ≤ x ∧ x ≤ 1000) {k : Nat} : ∀ j, k + j ≤ O.length → hasK O R a V k ≤ hasK O R a V (k + j)
  | 0, _ => Int.le_refl _
  | j + 1, hj => by
    obtain ⟨b, g, L, h1, h2, h3, h4, h5, h6, h7, h8⟩ := turn_at h (k := k + j) (by omega)
    have ih := hasK_up (a := a) (k := k) h hV j (by omega)
    rw [← Nat.add_assoc, hasK_succ a V h6 h8 h7]
    have : 0 ≤ V.getD g 0 := by
      rw [List.getD_eq_getElem?_getD]
      cases he : V[g]? with
      | none => simp
      | some x => exact (hV x (List.mem_of_getElem? he)).1
    split <;> omega
/-- an agent with all turns has all goods -/
theorem pick_all {O : List Int} {R : List (List Int)} {a : Nat} (h : OR O R) (ha : ∀ x ∈ O, x = (a : Int)) : pickK O R O.length = List.replicate O.length (a : Int) := by
  have hneg : ∀ k, k ≤ O.length → negs (pickK O R k) + k = O.length ∧ ∀ x ∈ pickK O R k, x = -1 ∨ x = (a : Int) := by
    intro k
    induction k with
    | zero =>
      intro _
      refine ⟨?_, fun x hx => ?_⟩
      · rw [pickK, negs, List.countP_eq_length.2, List.length_replicate]
        · rfl
        · intro b hb
          rw [List.mem_replicate] at hb
          rw [hb.2]; rfl
      · rw [pickK, List.mem_replicate] at hx
        exact .inl hx.2
    | succ k ih =>
      intro hk
      obtain ⟨i1, i2⟩ := ih (by omega)
      obtain ⟨b, g, L, h1, h2, h3, h4, h5, h6, h7, h8⟩ := turn_at h (k := k) (by omega)
      have hb : (b : Int) = (a : Int) := ha _ (List.mem_of_getElem? h1)
      refine ⟨?_, fun x hx => ?_⟩
      · have hc : negs ((pickK O R k).set g b) + 1 = negs (pickK O R k) := by
          have hlt : g < (pickK O R k).length := by rw [pickK_length]; exact h6
          have he : (pickK O R k)[g] = -1 := by rw [List.getElem?_eq_getElem hlt] at h8; simpa using h8
          have hd : pickK O R k = (pickK O R k).take g ++ (-1) :: (pickK O R k).drop (g + 1) := by
            rw [← he, ← List.drop_eq_getElem_cons hlt, List.take_append_drop]
          have hs : (pickK O R k).set g (b : Int) = (pickK O R k).take g ++ (b : Int) :: (pickK O R k).drop (g + 1) := by
            rw [List.set_eq_take_append_cons_drop, if_pos hlt]
          rw [hs]
          conv => rhs; rw [hd]
          simp only [negs, List.countP_append, List.countP_cons]
          rw [if_neg (by simp), if_pos (by decide)]
          omega
        rw [h7]
        omega
      · rw [h7] at hx
        rcases List.mem_or_eq_of_mem_set hx with hx | rfl
        · exact i2 x hx
        · exact .inr hb
  obtain ⟨h1, h2⟩ := hneg O.length (Nat.le_refl _)
  have h0 : negs (pickK O R O.length) = 0 := by omega
  rw [List.eq_replicate_iff]
  refine ⟨pickK_length _ _ _, fun x hx => ?_⟩
  rcases h2 x hx with rfl | h3
  · exfalso
    rw [negs, List.countP_eq_zero] at h0
    exact h0 _ hx rfl
  · exact h3
theorem truL_perm (V : List Int) : (iota V.length).Perm (truL V) := (rkList_perm [] V).symm
theorem truL_pw (V : List Int) : (truL V).Pairwise fun a b => ahdI [] V a b = true := rkList_pw [] V
theorem ahd_nil {V : List Int} {a b : Int} (h : ahdI [] V a b = true) : V.getD b.toNat 0 < V.getD a.toNat 0 ∨ (V.getD a.toNat 0 = V.getD b.toNat 0 ∧ a.toNat < b.toNat) := by
  rcases ahdI_iff.1 h with h | ⟨h1, h2⟩
  · exact .inl h
  · simp only [List.getD_nil] at h2
    exact .inr ⟨h1, by omega⟩
theorem truL_down (V : List Int) : Down V (truL V) := (truL_pw V).imp fun h => by rcases ahd_nil h with h | h <;> omega
/-- the errors, the other way -/
theorem chk35_of {O : List Int} {R : List (List Int)} (h : OR O R) : chk35 O R = 0 := by
  rw [chk35, if_neg (by have := h.r6; have := h.o6; omega), if_neg]
  rintro (h1 | h1 | h1)
  · have := h.r0; rw [h1] at this; simp at this
  · rw [List.any_eq_true] at h1
    obtain ⟨l, hl, he⟩ := h1
    rw [ordB_iff.2 (h.ord l hl)] at he
    cases he
  · rw [badAg, List.any_eq_true] at h1
    obtain ⟨x, hx, he⟩ := h1
    rw [Bool.or_eq_true, decide_eq_true_iff, decide_eq_true_iff] at he
    have := h.ag x hx
    omega
theorem val35_of {V O : List Int} (h : VR V O) (hl : O.length ≤ 6) : val35 V = 0 := by
  rw [val35, if_neg (by have := h.len; omega), if_neg]
  rw [List.any_eq_true]
  rintro ⟨x, hx, he⟩
  rw [Bool.or_eq_true, decide_eq_true_iff, decide_eq_true_iff] at he
  have := h.bd x hx
  omega
theorem lkd35_of {O V : List Int} {R : List (List Int)} {a : Int} (h : OR O R) (hv : VR V O) (h0 : 0 ≤ a) (h1 : a < (R.length : Int)) : lkd35 O R a V = 0 := by
  rw [lkd35, if_neg (by rw [chk35_of h]; simp), if_neg (by omega), if_neg (by rw [val35_of hv h.o6]; simp), if_neg (by rw [hv.len]; simp)]
/-- what the statement on truth asks -/
theorem truth_law {O V : List Int} {R : List (List Int)} {a : Nat} (h : OR O R) (hv : VR V O) (ha : a < R.length) :
    hasW O R a V (truL V) ≤ (bestR O R a V).2 ∧ ((O.count (a : Int) ≤ 1 ∨ O.count (a : Int) = O.length) → hasW O R a V (truL V) = (bestR O R a V).2) ∧
      (∀ x, O[0]? = some (a : Int) → (truL V)[0]? = some x → V.getD x.toNat 0 ≤ hasW O R a V (truL V)) := by
  have hpt : (iota O.length).Perm (truL V) := by rw [← hv.len]; exact truL_perm V
  have hot := h.set a hpt
  obtain ⟨b1, b2⟩ := bestR_ok (a := (a : Int)) h hv
  have hmax := (bestL_ge (hasW O R a V) (rkAll O.length) ([], -1)).2
  have hle : hasW O R a V (truL V) ≤ (bestR O R a V).2 := hmax _ (rkAll_mem.2 hpt)
  have hW : ∀ l, hasW O R a V l = hasK O (R.set a l) a V O.length := fun l => by rw [hasW, Int.toNat_natCast]; rfl
  refine ⟨hle, fun hc => Int.le_antisymm hle ?_, fun x hx ht => ?_⟩
  · rw [b2]
    have hpl := rkAll_perm b1
    have hol := h.set a hpl
    generalize (bestR O R a V).1 = l at *
    rw [hW, hW]
    rcases hc with hc | hc
    · exact truth_once ha hol hot (truL_down V) hpl hpt O.length (Nat.le_refl _) (by rw [List.take_length]; exact hc)
    · have hall : ∀ x ∈ O, x = (a : Int) := fun x hx => ((List.count_eq_length.1 hc) x hx).symm
      rw [hasK, hasK, pick_all hol hall, pick_all hot hall]
      exact Int.le_refl _
  · have hn : 0 < O.length := (List.getElem?_eq_some_iff.1 hx).1
    obtain ⟨b, g, L, h1, h2, h3, h4, h5, h6, h7, h8⟩ := turn_at hot (k := 0) hn
    rw [hx] at h1
    obtain rfl : a = b := by have := Option.some.inj h1; omega
    rw [List.getElem?_set_self ha] at h3
    cases h3
    have hf : ∀ y, freeG (pickK O (R.set a (truL V)) 0) y = true ∨ freeG (pickK O (R.set a (truL V)) 0) y = false := fun y => by cases freeG (pickK O (R.set a (truL V)) 0) y <;> simp
    have hgx : (g : Int) = x := by
      cases htl : truL V with
      | nil => rw [htl] at ht; simp at ht
      | cons y t =>
        rw [htl] at ht h5
        obtain rfl : y = x := by simpa using ht
        have hy : y ∈ truL V := by rw [htl]; simp
        obtain ⟨c, rfl, hc⟩ := iota_mem.1 (hpt.mem_iff.2 hy)
        rw [List.find?_cons_of_pos] at h5
        · cases h5; rfl
        · rw [freeG, pickK, Int.toNat_natCast, List.getD_eq_getElem?_getD, List.getElem?_replicate, if_pos hc]; rfl
    rw [hW]
    have h9 := hasK_up (a := a) hot hv.bd (k := 1) (O.length - 1) (by omega)
    rw [show 1 + (O.length - 1) = O.length by omega] at h9
    have h10 := hasK_succ (k := 0) a V h6 h8 h7
    rw [hasK_zero, if_pos rfl] at h10
    rw [← hgx, Int.toNat_natCast]
    rw [Nat.zero_add] at h10
    omega

/-! the order of lists -/
def LexLt (x y : List Int) : Prop := ∃ (k : Nat) (p q : Int), x.take k = y.take k ∧ x[k]? = some p ∧ y[k]? = some q ∧ p < q
theorem rkF_begin {m : Nat} : ∀ (f : Nat) (b l : List Int), l ∈ rkF m f b → ∃ t, l = b ++ t
  | 0, b, l, h => ⟨[], by rw [rkF, List.mem_singleton] at h; simp [h]⟩
  | f + 1, b, l, h => by
    rw [rkF, List.mem_flatMap] at h
    obtain ⟨g, hg, h⟩ := h
    split at h
    · simp at h
    · obtain ⟨t, rfl⟩ := rkF_begin f _ l h
      exact ⟨(g : Int) :: t, by simp⟩
theorem rkF_pw {m : Nat} : ∀ (f : Nat) (b : List Int), (rkF m f b).Pairwise LexLt
  | 0, b => by rw [rkF]; simp
  | f + 1, b => by
    rw [rkF, List.pairwise_flatMap]
    refine ⟨fun g _ => ?_, ?_⟩
    · split
      · exact List.Pairwise.nil
      · exact rkF_pw f _
    · refine (List.pairwise_lt_range (n := m)).imp fun {g g'} hlt x hx y hy => ?_
      split at hx
      · simp at hx
      · split at hy
        · simp at hy
        · obtain ⟨s, rfl⟩ := rkF_begin f _ x hx
          obtain ⟨t, rfl⟩ := rkF_begin f _ y hy
          exact ⟨b.length, (g : Int), (g' : Int), by simp, by simp, by simp, by omega⟩
theorem bestL_first (f : List Int → Int) : ∀ (L : List (List Int)) (r : List Int × Int), L.Pairwise LexLt → (∀ x ∈ L, f x ≤ r.2 → True) →
    (bestL f L r = r ∨ ∀ y ∈ L, f y = (bestL f L r).2 → y = (bestL f L r).1 ∨ LexLt (bestL f L r).1 y)
  | [], r, _, _ => .inl rfl
  | x :: t, r, hp, ht => by
    rw [List.pairwise_cons] at hp
    rw [bestL]
    by_cases hx : r.2 < f x
    · rw [if_pos hx]
      right
      have hin := bestL_in f t (x, f x)
      rcases bestL_first f t (x, f x) hp.2 (fun _ _ _ => trivial) with h | h
      · rw [h]
        intro y hy he
        rcases List.mem_cons.1 hy with rfl | hy
        · exact .inl rfl
        · exact .inr (hp.1 y hy)
      · intro y hy he
        rcases hin with h' | ⟨h1, h2, h3⟩
        · rw [h'] at he ⊢
          rcases List.mem_cons.1 hy with rfl | hy
          · exact .inl rfl
          · exact .inr (hp.1 y hy)
        · rcases List.mem_cons.1 hy with rfl | hy
          · simp only at h3; omega
          · exact h y hy he
    · rw [if_neg hx]
      have hin := bestL_in f t r
      rcases hin with h' | ⟨h1, h2, h3⟩
      · exact .inl h'
      · rcases bestL_first f t r hp.2 (fun _ _ _ => trivial) with h | h
        · exact .inl h
        · right
          intro y hy he
          rcases List.mem_cons.1 hy with rfl | hy
          · omega
          · exact h y hy he
/-- what the statement on the best list asks -/
theorem best_law {O V : List Int} {R : List (List Int)} {a : Nat} (h : OR O R) (hv : VR V O) {l : List Int} (hl : (iota O.length).Perm l) :
    hasW O R a V l ≤ (bestR O R a V).2 ∧ (hasW O R a V l = (bestR O R a V).2 → l = (bestR O R a V).1 ∨ LexLt (bestR O R a V).1 l) := by
  have hmax := (bestL_ge (hasW O R a V) (rkAll O.length) ([], -1)).2
  refine ⟨hmax _ (rkAll_mem.2 hl), fun he => ?_⟩
  obtain ⟨b1, b2⟩ := bestR_ok (a := (a : Int)) h hv
  rcases bestL_first (hasW O R a V) (rkAll O.length) ([], -1) (rkF_pw _ _) (fun _ _ _ => trivial) with h1 | h1
  · exfalso
    have h2 : (bestR O R a V).2 = -1 := by rw [bestR, h1]
    have := (hasW_bd (a := (a : Int)) (l := l) h hv).1
    omega
  · exact h1 l (rkAll_mem.2 hl) he
end Go.Proofs.YtkoipecnmijfoaaGreat

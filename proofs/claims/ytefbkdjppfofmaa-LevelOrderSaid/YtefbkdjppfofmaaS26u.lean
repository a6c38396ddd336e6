import Derived.Test.YtefbkdjppfofmaaS26m
/-! Plain law: the wishes turned round, and one good more. No statement about the program. -/
namespace Go.Proofs.Ytefbkdjppfofmaa
set_option linter.unusedVariables false

/-- agents and goods in reverse order -/
def trnd (W : List (List Bool)) : List (List Bool) := (W.map List.reverse).reverse
theorem trnd_length (W : List (List Bool)) : (trnd W).length = W.length := by simp [trnd]
theorem trnd_trnd (W : List (List Bool)) : trnd (trnd W) = W := by
  rw [trnd, trnd, List.map_reverse, List.reverse_reverse, List.map_map]
  have : (List.reverse ∘ List.reverse : List Bool → List Bool) = id := by funext l; simp
  rw [this, List.map_id]
section
variable {W : List (List Bool)} {m n : Nat} {a b : List Int}
theorem trnd_vw (v : VW m n W) : VW m n (trnd W) := ⟨v.m0, v.m6, v.n10, by rw [trnd_length, v.len], fun l hl => by
  rw [trnd, List.mem_reverse, List.mem_map] at hl
  obtain ⟨x, hx, rfl⟩ := hl
  rw [List.length_reverse, v.row x hx]⟩
theorem wish_trnd (v : VW m n W) {i g : Nat} (hi : i < m) (hg : g < n) : wishB (trnd W) i g = wishB W (m - 1 - i) (n - 1 - g) := by
  have hm := v.len
  have hj : m - 1 - i < W.length := by omega
  have hrow := v.row _ (List.getElem_mem hj)
  have e1 : (trnd W).getD i [] = (W[m - 1 - i]).reverse := by
    rw [List.getD_eq_getElem?_getD, trnd, List.getElem?_reverse (by simp; omega), List.length_map, List.getElem?_map, hm, List.getElem?_eq_getElem hj]
    rfl
  have e2 : W.getD (m - 1 - i) [] = W[m - 1 - i] := by rw [List.getD_eq_getElem?_getD, List.getElem?_eq_getElem hj]; rfl
  rw [wishB, wishB, e1, e2, List.getD_eq_getElem?_getD, List.getElem?_reverse (by omega), hrow, List.getD_eq_getElem?_getD]
theorem any_trnd (v : VW m n W) {g : Nat} (hg : g < n) : wishAny (trnd W) g = wishAny W (n - 1 - g) := by
  have hm := v.len
  have hm0 := v.m0
  rw [Bool.eq_iff_iff]
  constructor
  · intro h
    obtain ⟨q, hq, hw⟩ := wishAny_ex h
    rw [trnd_length, hm] at hq
    rw [wish_trnd v hq hg] at hw
    exact wishAny_of (by omega) hw
  · intro h
    obtain ⟨q, hq, hw⟩ := wishAny_ex h
    refine wishAny_of (q := m - 1 - q) (by rw [trnd_length]; omega) ?_
    rw [wish_trnd v (by omega) hg, show m - 1 - (m - 1 - q) = q by omega]
    exact hw
/-- an allocation turned round -/
def fl (m : Nat) (x : Int) : Int := if x < 0 then x else (m : Int) - 1 - x
def flip (m : Nat) (a : List Int) : List Int := (a.map (fl m)).reverse
theorem flip_length : (flip m a).length = a.length := by simp [flip]
theorem flip_at {g : Nat} (hg : g < a.length) : (flip m a).getD g 0 = fl m (a.getD (a.length - 1 - g) 0) := by
  have hj : a.length - 1 - g < a.length := by omega
  rw [List.getD_eq_getElem?_getD, flip, List.getElem?_reverse (by simpa using hg), List.length_map, List.getElem?_map, List.getElem?_eq_getElem hj, List.getD_eq_getElem?_getD, List.getElem?_eq_getElem hj]
  rfl
theorem full_flip (v : VW m n W) (h : FullA W m n a) : FullA (trnd W) m n (flip m a) := by
  refine ⟨by rw [flip_length, h.len], fun g hg => ?_⟩
  have hl := h.len
  rw [flip_at (by omega), hl]
  rcases h.at_ (n - 1 - g) (by omega) with ⟨h1, h2⟩ | ⟨q, h1, h2, h3⟩
  · left
    rw [any_trnd v hg]
    exact ⟨by rw [h1]; rfl, h2⟩
  · right
    refine ⟨m - 1 - q, by omega, ?_, ?_⟩
    · rw [h2, fl, if_neg (by omega)]; omega
    · rw [wish_trnd v (by omega) hg, show m - 1 - (m - 1 - q) = q by omega]; exact h3
theorem cntTo_count (a : List Int) (i : Nat) : ∀ k : Nat, k ≤ a.length → cntTo a i k = (a.take k).count (i : Int)
  | 0, _ => by simp [cntTo]
  | k + 1, hk => by
    have hk' : k < a.length := by omega
    rw [cntTo, cntTo_count a i k (by omega), List.take_add_one, List.getElem?_eq_getElem hk', List.getD_eq_getElem?_getD, List.getElem?_eq_getElem hk', List.count_append]
    simp only [Option.toList_some, Option.getD_some, List.count_singleton]
    congr 1
    by_cases h : a[k] = (i : Int)
    · rw [if_pos h]; simp [h]
    · rw [if_neg h]; simp [h]
theorem cn_count (a : List Int) (i : Nat) : cn a i = (a.count (i : Int) : Int) := by rw [cn, cntTo_count a i _ (Nat.le_refl _), List.take_length]
theorem full_range (h : FullA W m n a) {x : Int} (hx : x ∈ a) : x = -1 ∨ ∃ q : Nat, q < m ∧ x = (q : Int) := by
  obtain ⟨g, hg, rfl⟩ := List.getElem_of_mem hx
  have hl := h.len
  have h1 := h.at_ g (by omega)
  rw [List.getD_eq_getElem?_getD, List.getElem?_eq_getElem hg] at h1
  rcases h1 with ⟨h1, _⟩ | ⟨q, hq, h2, _⟩
  · exact .inl h1
  · exact .inr ⟨q, hq, h2⟩
theorem cn_flip (h : FullA W m n a) {i : Nat} (hi : i < m) : cn (flip m a) i = cn a (m - 1 - i) := by
  rw [cn_count, cn_count, flip, List.count_reverse]
  congr 1
  rw [List.count, List.count, List.countP_map]
  refine List.countP_congr fun x hx => ?_
  rcases full_range h hx with rfl | ⟨q, hq, rfl⟩
  · simp [fl]
  · simp only [Function.comp, fl, beq_iff_eq]
    rw [if_neg (by omega)]
    omega
theorem cnts_flip (h : FullA W m n a) : cnts m (flip m a) = (cnts m a).reverse := by
  apply List.ext_getElem
  · simp [cnts]
  · intro i h1 h2
    have hi : i < m := by simpa [cnts] using h1
    rw [List.getElem_reverse]
    simp only [cnts, List.getElem_map, List.getElem_range, List.length_map, List.length_range]
    exact cn_flip h hi
theorem shape_flip (h : FullA W m n a) : shapeI (cnts m (flip m a)) = shapeI (cnts m a) := by
  rw [cnts_flip h, shapeI, shapeI, List.length_reverse, sortI_congr (List.reverse_perm _)]
/-- turned round: as even -/
theorem order_zero (v : VW m n W) (ha : Opt W m n a) (hb : Opt (trnd W) m n b) : cmpS (cnts m a) (cnts m b) = 0 := by
  have h1 := hb.best _ (full_flip v ha.full)
  have h2 : FullA W m n (flip m b) := by
    have := full_flip (trnd_vw v) hb.full
    rwa [trnd_trnd] at this
  have h3 := ha.best _ h2
  have h4 : 0 ≤ cmpS (cnts m a) (cnts m b) := by
    rw [cmpS] at h3 ⊢; rwa [shape_flip hb.full] at h3
  have h5 : 0 ≤ cmpS (cnts m b) (cnts m a) := by
    rw [cmpS] at h1 ⊢; rwa [shape_flip ha.full] at h1
  rw [cmpS_swap] at h5
  omega
theorem QL_perm {s : Int} {L M : List Int} (h : L.Perm M) : QL s L = QL s M := by rw [QL_eq, QL_eq, PL_perm h, SL_perm h, h.length_eq]
theorem QL_le {s : Int} {F G : Nat → Int} (h : ∀ i, G i ≤ F i) : ∀ {l : List Nat}, QL s (l.map F) ≤ QL s (l.map G)
  | [] => by simp [QL]
  | i :: t => by
    have h1 := QL_le (s := s) h (l := t)
    have h2 := h i
    simp only [List.map_cons, QL]
    omega
/-- one good more -/
def wideW (W : List (List Bool)) (X : List Bool) : List (List Bool) := (List.range W.length).map fun i => W.getD i [] ++ [X.getD i false]
variable {X : List Bool}
theorem wide_length : (wideW W X).length = W.length := by simp [wideW]
theorem wide_get {i : Nat} (hi : i < W.length) : (wideW W X)[i]? = some (W.getD i [] ++ [X.getD i false]) := by rw [wideW, List.getElem?_map, List.getElem?_range hi]; rfl
theorem getD_len (v : VW m n W) {i : Nat} (hi : i < W.length) : (W.getD i []).length = n := by
  rw [List.getD_eq_getElem?_getD, List.getElem?_eq_getElem hi]
  exact v.row _ (List.getElem_mem hi)
theorem wide_vw (v : VW m n W) (h : n < 10) : VW m (n + 1) (wideW W X) := ⟨v.m0, v.m6, by omega, by rw [wide_length, v.len], fun l hl => by
  rw [wideW, List.mem_map] at hl
  obtain ⟨i, hi, rfl⟩ := hl
  rw [List.length_append, getD_len v (List.mem_range.1 hi)]; rfl⟩
theorem wish_wide (v : VW m n W) {i g : Nat} (hi : i < m) (hg : g < n) : wishB (wideW W X) i g = wishB W i g := by
  have hi' : i < W.length := by rw [v.len]; exact hi
  rw [wishB, wishB, List.getD_eq_getElem?_getD (l := wideW W X), wide_get hi', Option.getD_some, List.getD_eq_getElem?_getD (l := W.getD i [] ++ _), List.getElem?_append_left (by rw [getD_len v hi']; exact hg), ← List.getD_eq_getElem?_getD]
theorem wish_last (v : VW m n W) {i : Nat} (hi : i < m) : wishB (wideW W X) i n = X.getD i false := by
  have hi' : i < W.length := by rw [v.len]; exact hi
  have hl := getD_len v hi'
  rw [wishB, List.getD_eq_getElem?_getD (l := wideW W X), wide_get hi', Option.getD_some, List.getD_eq_getElem?_getD (l := W.getD i [] ++ _), List.getElem?_append_right (by omega), hl, Nat.sub_self]
  rfl
theorem any_wide (v : VW m n W) {g : Nat} (hg : g < n) : wishAny (wideW W X) g = wishAny W g := by
  have hm := v.len
  rw [Bool.eq_iff_iff]
  constructor
  · intro h
    obtain ⟨q, hq, hw⟩ := wishAny_ex h
    rw [wide_length, hm] at hq
    rw [wish_wide v hq hg] at hw
    exact wishAny_of (by omega) hw
  · intro h
    obtain ⟨q, hq, hw⟩ := wishAny_ex h
    exact wishAny_of (q := q) (by rw [wide_length]; exact hq) (by rw [wish_wide v (by omega) hg]; exact hw)
theorem getD_snoc_left {a : List Int} {x : Int} {g : Nat} (hg : g < a.length) : (a ++ [x]).getD g 0 = a.getD g 0 := by
  rw [List.getD_eq_getElem?_getD, List.getElem?_append_left hg, ← List.getD_eq_getElem?_getD]
theorem getD_snoc_last {a : List Int} {x : Int} : (a ++ [x]).getD a.length 0 = x := by
  rw [List.getD_eq_getElem?_getD, List.getElem?_append_right (Nat.le_refl _), Nat.sub_self]; rfl
theorem full_snoc (v : VW m n W) (h : FullA W m n a) {x : Int} (hx : (x = -1 ∧ wishAny (wideW W X) n = false) ∨ ∃ q : Nat, q < m ∧ x = (q : Int) ∧ wishB (wideW W X) q n = true) : FullA (wideW W X) m (n + 1) (a ++ [x]) := by
  have hl := h.len
  refine ⟨by rw [List.length_append, hl]; rfl, fun g hg => ?_⟩
  rcases Nat.lt_or_ge g n with hlt | hge
  · rw [getD_snoc_left (by omega), any_wide v hlt]
    rcases h.at_ g hlt with h1 | ⟨q, h1, h2, h3⟩
    · exact .inl h1
    · exact .inr ⟨q, h1, h2, by rw [wish_wide v h1 hlt]; exact h3⟩
  · have e : g = a.length := by omega
    rw [e, getD_snoc_last, hl]
    exact hx
theorem full_init (v : VW m n W) (h : FullA (wideW W X) m (n + 1) b) : FullA W m n (b.take n) := by
  have hl := h.len
  refine ⟨by rw [List.length_take, hl]; omega, fun g hg => ?_⟩
  have e : (b.take n).getD g 0 = b.getD g 0 := by rw [List.getD_eq_getElem?_getD, List.getElem?_take, if_pos hg, ← List.getD_eq_getElem?_getD]
  rw [e]
  rcases h.at_ g (by omega) with ⟨h1, h2⟩ | ⟨q, h1, h2, h3⟩
  · exact .inl ⟨h1, by rw [any_wide v hg] at h2; exact h2⟩
  · exact .inr ⟨q, h1, h2, by rw [wish_wide v h1 hg] at h3; exact h3⟩
theorem cn_snoc (a : List Int) (x : Int) (i : Nat) : cn (a ++ [x]) i = cn a i + if x = (i : Int) then 1 else 0 := by
  rw [cn_count, cn_count, List.count_append, List.count_singleton]
  by_cases h : x = (i : Int)
  · rw [if_pos h]; simp [h]
  · rw [if_neg h]; simp [h]
theorem take_snoc (hl : b.length = n + 1) : b = b.take n ++ [b.getD n 0] := by
  have hn : n < b.length := by omega
  rw [List.getD_eq_getElem?_getD, List.getElem?_eq_getElem hn]
  have := List.take_append_getElem hn
  rw [Option.getD_some, this, List.take_of_length_le (by omega)]
/-- nobody wants it: as even -/
theorem wide_none (v : VW m n W) (ha : Opt W m n a) (hb : Opt (wideW W X) m (n + 1) b) (hno : wishAny (wideW W X) n = false) : cmpS (cnts m b) (cnts m a) = 0 := by
  have e1 : ∀ c : List Int, cnts m (c ++ [-1]) = cnts m c := fun c => by
    rw [cnts, cnts]
    refine List.map_congr_left fun i _ => ?_
    rw [cn_snoc, if_neg (by omega)]; omega
  have h1 := hb.best _ (full_snoc v ha.full (x := -1) (.inl ⟨rfl, hno⟩))
  rw [e1] at h1
  have h2 := ha.best _ (full_init v hb.full)
  have hlast : b.getD n 0 = -1 := by
    rcases hb.full.at_ n (by omega) with ⟨h, _⟩ | ⟨q, hq, _, h3⟩
    · exact h
    · exact absurd (wishAny_of (by rw [wide_length, v.len]; exact hq) h3) (by rw [hno]; decide)
  have h3 : cnts m b = cnts m (b.take n) := by
    have := take_snoc hb.full.len
    rw [hlast] at this
    rw [this, e1, ← this]
  rw [← h3, cmpS_swap] at h2
  omega
/-- someone wants it: more even -/
theorem wide_some (v : VW m n W) (ha : Opt W m n a) (hb : Opt (wideW W X) m (n + 1) b) (hsome : wishAny (wideW W X) n = true) : cmpS (cnts m b) (cnts m a) = 1 := by
  obtain ⟨q, hq, hw⟩ := wishAny_ex hsome
  rw [wide_length, v.len] at hq
  have hbe := hb.best _ (full_snoc v ha.full (x := (q : Int)) (.inr ⟨q, hq, rfl, hw⟩))
  have hge : ∀ i, cn a i ≤ cn (a ++ [(q : Int)]) i := fun i => by rw [cn_snoc]; split <;> omega
  have hl : (cnts m (a ++ [(q : Int)])).length = (cnts m a).length := by rw [cnts_length, cnts_length]
  have hsum : SL (cnts m (a ++ [(q : Int)])) = SL (cnts m a) + 1 := by
    rw [cnts, cnts, SL_map, SL_map, sm_congr (G := fun i => cn a i + if i = q then 1 else 0) (fun i hi => by
      rw [cn_snoc]; congr 1
      by_cases h : i = q
      · rw [if_pos h, if_pos (by omega)]
      · rw [if_neg h, if_neg (by omega)]), sm_add, sm_one, if_pos hq]
  have hq1 : cmpS (cnts m (a ++ [(q : Int)])) (cnts m a) = 1 := by
    have h0 : 0 ≤ cmpS (cnts m (a ++ [(q : Int)])) (cnts m a) := by
      rw [cmpS_sort hl]
      refine cmpL_ge (by rw [sortI_length, sortI_length, hl]) (sortI_sorted _) (fun c hc => ?_) fun s h0 => ?_
      · have := (sortI_perm (cnts m a)).mem_iff.1 hc
        rw [cnts, List.mem_map] at this
        obtain ⟨i, _, rfl⟩ := this
        exact cn_nonneg a i
      · rw [QL_perm (sortI_perm _), QL_perm (sortI_perm _), cnts, cnts]
        exact QL_le fun i => hge i
    rcases cmpS_cases (cnts m (a ++ [(q : Int)])) (cnts m a) with h | h | h
    · omega
    · exfalso
      have h3 := sort_of_shape hl ((cmpS_zero hl).1 h)
      have h4 : SL (cnts m (a ++ [(q : Int)])) = SL (cnts m a) := by rw [← SL_perm (sortI_perm (cnts m (a ++ [(q : Int)]))), ← SL_perm (sortI_perm (cnts m a)), h3]
      omega
    · exact h
  have ht := cmpS_trans (by rw [cnts_length, cnts_length]) hl hbe (by omega)
  rcases cmpS_cases (cnts m b) (cnts m a) with h | h | h
  · omega
  · exfalso
    have h3 := (cmpS_zero (by rw [cnts_length, cnts_length])).1 h
    have h4 : cmpS (cnts m a) (cnts m (a ++ [(q : Int)])) = cmpS (cnts m b) (cnts m (a ++ [(q : Int)])) := by rw [cmpS, cmpS, h3]
    rw [cmpS_swap, hq1] at h4
    omega
  · exact h
end
end Go.Proofs.Ytefbkdjppfofmaa

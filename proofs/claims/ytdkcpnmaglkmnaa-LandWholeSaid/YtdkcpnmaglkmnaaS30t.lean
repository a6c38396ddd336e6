import Derived.Test.YtdkcpnmaglkmnaaS30s
import Derived.Test.YtdkcpnmaglkmnaaS30f
import Derived.Test.YtdkcpnmaglkmnaaS30i
import Derived.Test.YtdkcpnmaglkmnaaW30q
/-! Plain law: the walk has all sides exactly if the estate is connected and without a hole. No statement about the program. -/
namespace Go.Proofs.Ytdkcpnmaglkmnaa
set_option linter.unusedVariables false

/-! how many -/
/-- how many numbers below n have a property -/
def cntN (p : Nat → Bool) (n : Nat) : Nat := sumN n fun i => one (p i)
theorem cntN_le {p : Nat → Bool} : ∀ n : Nat, cntN p n ≤ n
  | 0 => Nat.le_refl _
  | n + 1 => by
    have h1 := cntN_le (p := p) n
    have h2 := one_le (p n)
    unfold cntN at *
    rw [sumN]; omega
/-- without one of its members a set has one member fewer -/
theorem cntN_but {p : Nat → Bool} {c : Nat} (hc : p c = true) : ∀ n : Nat, c < n → cntN p n = cntN (fun i => p i && decide (i ≠ c)) n + 1
  | 0, h => absurd h (by omega)
  | n + 1, h => by
    unfold cntN at *
    rw [sumN, sumN]
    by_cases hn : c = n
    · subst hn
      have : sumN c (fun i => one (p i)) = sumN c (fun i => one (p i && decide (i ≠ c))) := sumN_congr fun i hi => by
        rw [decide_eq_true (by omega), Bool.and_true]
      rw [this, hc]
      simp [one]
    · have := cntN_but hc n (by omega)
      unfold cntN at this
      have e : one (p n && decide (n ≠ c)) = one (p n) := by rw [decide_eq_true (show n ≠ c by omega), Bool.and_true]
      have t2 : sumN n (fun i => one (p i)) = sumN n (fun i => one (p i && decide (i ≠ c))) + 1 := this
      show sumN n (fun i => one (p i)) + one (p n) = sumN n (fun i => one (p i && decide (i ≠ c))) + one (p n && decide (n ≠ c)) + 1
      rw [e, t2]
      omega
theorem cntN_none {p : Nat → Bool} {n : Nat} : cntN p n = 0 ↔ ∀ i, i < n → p i = false := by
  induction n with
  | zero => exact ⟨fun _ i h => absurd h (by omega), fun _ => rfl⟩
  | succ n ih =>
    unfold cntN at *
    rw [sumN]
    constructor
    · intro h i hi
      have h1 : one (p n) = 0 := by omega
      have h2 := ih.1 (by omega)
      by_cases hn : i = n
      · subst hn
        cases hp : p i
        · rfl
        · rw [hp] at h1; simp [one] at h1
      · exact h2 i (by omega)
    · intro h
      rw [ih.2 fun i hi => h i (by omega), h n (by omega)]
      rfl
/-- different members of a set: not more than it has, and as many only if they are all -/
theorem list_in_set {m : Nat} : ∀ {l : List Nat} {p : Nat → Bool}, l.Nodup → (∀ c ∈ l, c < m ∧ p c = true) → l.length ≤ cntN p m ∧ (l.length = cntN p m ↔ ∀ c, c < m → p c = true → c ∈ l)
  | [], p, _, _ => by
    refine ⟨Nat.zero_le _, ?_⟩
    constructor
    · intro h c hc hp
      have := (cntN_none (p := p) (n := m)).1 (by simpa using h.symm) c hc
      rw [hp] at this; cases this
    · intro h
      symm
      refine cntN_none.2 fun i hi => ?_
      cases hp : p i
      · rfl
      · exact absurd (h i hi hp) (by simp)
  | c :: l, p, hn, hp => by
    rw [List.nodup_cons] at hn
    obtain ⟨hcm, hcp⟩ := hp c (by simp)
    have e := cntN_but hcp m hcm
    obtain ⟨i1, i2⟩ := list_in_set (l := l) (p := fun i => p i && decide (i ≠ c)) hn.2 fun d hd => by
      obtain ⟨h1, h2⟩ := hp d (by simp [hd])
      refine ⟨h1, ?_⟩
      rw [h2, decide_eq_true]
      · rfl
      · rintro rfl; exact hn.1 hd
    rw [List.length_cons, e]
    refine ⟨by omega, ?_⟩
    rw [show (l.length + 1 = cntN (fun i => p i && decide (i ≠ c)) m + 1) ↔ (l.length = cntN (fun i => p i && decide (i ≠ c)) m) by omega, i2]
    constructor
    · intro h d hd hdp
      by_cases hdc : d = c
      · rw [hdc]; simp
      · exact List.mem_cons_of_mem _ (h d hd (by rw [hdp, decide_eq_true hdc]; rfl))
    · intro h d hd hdp
      rw [Bool.and_eq_true, decide_eq_true_iff] at hdp
      rcases List.mem_cons.1 (h d hd hdp.1) with rfl | hd2
      · exact absurd rfl hdp.2
      · exact hd2
/-- sums of four, one by one -/
theorem sumN_four (n : Nat) (g : Nat → Nat → Nat) : sumN n (fun i => sumN 4 (g i)) = sumN (n * 4) (fun c => g (c / 4) (c % 4)) := by
  induction n with
  | zero => rfl
  | succ n ih =>
    rw [sumN, ih, show (n + 1) * 4 = n * 4 + 4 by omega]
    simp only [sumN]
    rw [show n * 4 + 3 = n * 4 + 3 from rfl, show (n * 4) / 4 = n by omega, show (n * 4) % 4 = 0 by omega, show (n * 4 + 1) / 4 = n by omega, show (n * 4 + 1) % 4 = 1 by omega, show (n * 4 + 2) / 4 = n by omega, show (n * 4 + 2) % 4 = 2 by omega, show (n * 4 + 3) / 4 = n by omega, show (n * 4 + 3) % 4 = 3 by omega]
    omega

/-! the sides as numbers -/
def sideB (W H : Nat) (L : List Int) (a : Int) (c : Nat) : Bool := (L.getD (c / 4) 0 == a) && (atL W H L (((c / 4 : Nat) : Int) % W + dxI (c % 4)) (((c / 4 : Nat) : Int) / W + dyI (c % 4)) != a)
def stOf (W c : Nat) : St := ⟨((c / 4 : Nat) : Int) % W, ((c / 4 : Nat) : Int) / W, (c % 4 + 1) % 4⟩
/-- the number of a side -/
def cde (W : Nat) (s : St) : Nat := (s.y.toNat * W + s.x.toNat) * 4 + (s.d + 3) % 4
theorem stOf_cde {f : Int → Int → Bool} {W H : Nat} (g : InGrid f W H) {s : St} (h : Edge f s) : stOf W (cde W s) = s := by
  have hx := g.x _ _ h.l
  have hy := g.y _ _ h.l
  have hd := h.d
  obtain ⟨x, y, d⟩ := s
  simp only at hx hy hd
  obtain ⟨x, rfl⟩ := Int.eq_ofNat_of_zero_le hx.1
  obtain ⟨y, rfl⟩ := Int.eq_ofNat_of_zero_le hy.1
  have hxW : x < W := by omega
  simp only [cde, stOf, Int.toNat_natCast]
  have e1 : ((y * W + x) * 4 + (d + 3) % 4) / 4 = y * W + x := by omega
  have e2 : ((y * W + x) * 4 + (d + 3) % 4) % 4 = (d + 3) % 4 := by omega
  rw [e1, e2]
  refine st_eq ?_ ?_ (by omega)
  · have : (y * W + x) % W = x := by rw [Nat.mul_add_mod']; exact Nat.mod_eq_of_lt hxW
    exact_mod_cast this
  · have : (y * W + x) / W = y := by rw [Nat.mul_comm, Nat.mul_add_div (by omega), Nat.div_eq_of_lt hxW]; omega
    exact_mod_cast this
theorem cde_lt {f : Int → Int → Bool} {W H : Nat} (g : InGrid f W H) {s : St} (h : Edge f s) : cde W s < W * H * 4 := by
  have hx := g.x _ _ h.l
  have hy := g.y _ _ h.l
  have := idx_lt (w := W) (h := H) (x := s.x.toNat) (y := s.y.toNat) (by omega) (by omega)
  unfold cde
  omega
theorem sideB_iff {W H : Nat} {L : List Int} (v : VL W H L) {a : Int} {c : Nat} (hc : c < W * H * 4) : sideB W H L a c = true ↔ Edge (ownF W H L a) (stOf W c) := by
  have hi : c / 4 < L.length := by rw [v.len]; omega
  have ho := own_at v hi
  have hj : ((c % 4 + 1) % 4 + 3) % 4 = c % 4 := by omega
  unfold sideB
  rw [Bool.and_eq_true, beq_iff_eq, bne_iff_ne, ho]
  constructor
  · rintro ⟨h1, h2⟩
    refine ⟨by show (c % 4 + 1) % 4 < 4; omega, ?_, ?_⟩
    · show (atL W H L ((c / 4 : Nat) % W : Nat) ((c / 4 : Nat) / W : Nat) == a) = true
      rw [h1]; simp
    · show (atL W H L (((c / 4 : Nat) : Int) % W + dxI (((c % 4 + 1) % 4 + 3) % 4)) (((c / 4 : Nat) : Int) / W + dyI (((c % 4 + 1) % 4 + 3) % 4)) == a) = false
      rw [hj]; simpa using h2
  · intro h
    have h1 : (atL W H L ((c / 4 : Nat) % W : Nat) ((c / 4 : Nat) / W : Nat) == a) = true := h.l
    have h2 : (atL W H L (((c / 4 : Nat) : Int) % W + dxI (((c % 4 + 1) % 4 + 3) % 4)) (((c / 4 : Nat) : Int) / W + dyI (((c % 4 + 1) % 4 + 3) % 4)) == a) = false := h.r
    rw [hj] at h2
    exact ⟨by simpa using h1, by simpa using h2⟩
theorem sides_cnt {W H : Nat} {L : List Int} (v : VL W H L) (a : Int) : sidesN W H L a (fun x => x != a) = cntN (sideB W H L a) (W * H * 4) := by
  unfold sidesN cntN
  rw [v.len]
  refine Eq.trans ?_ (sumN_four (W * H) (fun i j => one ((L.getD i 0 == a) && (atL W H L ((i : Int) % W + dxI j) ((i : Int) / W + dyI j) != a))))
  refine sumN_congr fun i _ => ?_
  unfold sideG
  by_cases h : L.getD i 0 = a
  · rw [if_pos h]
    refine sumN_congr fun j _ => ?_
    rw [beq_iff_eq.2 h, Bool.true_and]
  · rw [if_neg h]
    symm
    refine sumN_zero fun j _ => ?_
    rw [beq_eq_false_iff_ne.2 h, Bool.false_and]; rfl

/-! the walk as a set of sides -/
theorem WalkOk.diff {f : Int → Int → Bool} {W H : Nat} {s : St} {N : Nat} (h : WalkOk f W H s N) {i j : Nat} (hij : i < j) (hj : j < N) : itN f i s ≠ itN f j s := fun e => by
  have := itN_back h.e0 i (j - i) (by rw [show i + (j - i) = j by omega]; exact e)
  exact h.low (j - i) (by omega) (by omega) this.symm
theorem WalkOk.wrap {f : Int → Int → Bool} {W H : Nat} {s : St} {N : Nat} (h : WalkOk f W H s N) : ∀ k, ∃ j, j < N ∧ itN f j s = itN f k s
  | 0 => ⟨0, h.n0, rfl⟩
  | k + 1 => by
    obtain ⟨j, hj, e⟩ := h.wrap k
    by_cases hl : j + 1 < N
    · exact ⟨j + 1, hl, by rw [itN_succ, itN_succ, e]⟩
    · refine ⟨0, h.n0, ?_⟩
      rw [itN_succ, ← e, ← itN_succ, show j + 1 = N by omega, h.back]; rfl
theorem walk_cnt {W H : Nat} {L : List Int} (v : VL W H L) {a : Int} {s : St} {N : Nat} (h : WalkOk (ownF W H L a) W H s N) :
    N ≤ sidesN W H L a (fun x => x != a) ∧ (N = sidesN W H L a (fun x => x != a) ↔ ∀ t, Edge (ownF W H L a) t → ∃ k, itN (ownF W H L a) k s = t) := by
  have hnd : ((List.range N).map fun k => cde W (itN (ownF W H L a) k s)).Nodup := by
    refine List.Pairwise.map (R := fun i j => i < j ∧ j < N) _ (fun i j hij e => ?_) ?_
    · have e1 := stOf_cde h.grid (h.edge i)
      rw [e, stOf_cde h.grid (h.edge j)] at e1
      exact h.diff hij.1 hij.2 e1.symm
    · refine (List.pairwise_lt_range (n := N)).imp_of_mem fun {i j} _ hj hij => ⟨hij, by simpa using hj⟩
  obtain ⟨c1, c2⟩ := list_in_set (m := W * H * 4) (p := sideB W H L a) hnd fun c hc => by
    obtain ⟨k, _, rfl⟩ := List.mem_map.1 hc
    have hlt := cde_lt h.grid (h.edge k)
    refine ⟨hlt, (sideB_iff v hlt).2 ?_⟩
    rw [stOf_cde h.grid (h.edge k)]
    exact h.edge k
  rw [List.length_map, List.length_range, ← sides_cnt v] at c1 c2
  refine ⟨c1, c2.trans ⟨fun hall t ht => ?_, fun hall c hc hp => ?_⟩⟩
  · have hlt := cde_lt h.grid ht
    obtain ⟨k, _, e⟩ := List.mem_map.1 (hall _ hlt ((sideB_iff v hlt).2 (by rw [stOf_cde h.grid ht]; exact ht)))
    refine ⟨k, ?_⟩
    rw [← stOf_cde h.grid ht, ← e, stOf_cde h.grid (h.edge k)]
  · obtain ⟨k, hk⟩ := hall _ ((sideB_iff v hc).1 hp)
    obtain ⟨j, hj, e⟩ := h.wrap k
    refine List.mem_map.2 ⟨j, by simpa using hj, ?_⟩
    rw [e, hk]
    unfold cde stOf
    simp only
    have hi : c / 4 < W * H := by omega
    have e1 : (((c / 4 : Nat) : Int) % W).toNat = (c / 4) % W := rfl
    have e2 : (((c / 4 : Nat) : Int) / W).toNat = (c / 4) / W := rfl
    have e3 : c / 4 / W * W + c / 4 % W = c / 4 := by rw [Nat.mul_comm]; exact Nat.div_add_mod _ _
    rw [e1, e2, e3]
    omega
/-- a walk keeps its own sides -/
theorem WalkOk.kept {f : Int → Int → Bool} {W H : Nat} {s : St} {N : Nat} (h : WalkOk f W H s N) : ∃ o : St → Bool, Kept f o ∧ (∀ t, o t = true ↔ ∃ k, itN f k s = t) := by
  classical
  refine ⟨fun t => decide (∃ k, itN f k s = t), fun t ht => ?_, fun t => decide_eq_true_iff⟩
  refine decide_eq_decide.2 ⟨?_, ?_⟩
  · rintro ⟨k, hk⟩
    rcases k with _ | k
    · have e : nxt f (itN f (N - 1) s) = nxt f t := by
        rw [← itN_succ, show N - 1 + 1 = N by have := h.n0; omega, h.back]; exact hk
      exact ⟨N - 1, nxt_inj (h.edge _) ht e⟩
    · exact ⟨k, nxt_inj (h.edge _) ht hk⟩
  · rintro ⟨k, hk⟩
    exact ⟨k + 1, by rw [itN_succ, hk]⟩
theorem walk_whole {f : Int → Int → Bool} {W H : Nat} {s : St} {N : Nat} (h : WalkOk f W H s N) (hfr : Free f W H s.rx s.ry) :
    (∀ t, Edge f t → ∃ k, itN f k s = t) ↔ (∀ x y, f x y = true → Hang f s.x s.y x y) ∧ (∀ x y, f x y = false → Free f W H x y) := by
  refine ⟨all_whole h.grid h.e0 hfr, fun ⟨h1, h2⟩ t ht => ?_⟩
  obtain ⟨o, k1, k2⟩ := h.kept
  exact (k2 t).1 (kept_all h.grid k1 h.e0 ((k2 s).2 ⟨0, rfl⟩) h1 h2 ht)

/-! parcels by numbers -/
theorem own_mine {W H : Nat} {L : List Int} (v : VL W H L) {a : Int} {i : Nat} (hi : i < L.length) : ownF W H L a ((i : Int) % W) ((i : Int) / W) = mineB L a i := by
  have ho := own_at v hi
  rw [mineB_getD hi, ho]; rfl
theorem grid_num {W H : Nat} {L : List Int} (v : VL W H L) {x y : Int} (h : ¬ (x < 0 ∨ y < 0 ∨ (W : Int) ≤ x ∨ (H : Int) ≤ y)) : ∃ i : Nat, i < L.length ∧ (i : Int) % W = x ∧ (i : Int) / W = y := by
  obtain ⟨x, rfl⟩ := Int.eq_ofNat_of_zero_le (show 0 ≤ x by omega)
  obtain ⟨y, rfl⟩ := Int.eq_ofNat_of_zero_le (show 0 ≤ y by omega)
  have hxW : x < W := by omega
  refine ⟨y * W + x, by rw [v.len]; exact idx_lt hxW (by omega), ?_, ?_⟩
  · have : (y * W + x) % W = x := by rw [Nat.mul_add_mod']; exact Nat.mod_eq_of_lt hxW
    exact_mod_cast this
  · have : (y * W + x) / W = y := by rw [Nat.mul_comm, Nat.mul_add_div (by omega), Nat.div_eq_of_lt hxW]; omega
    exact_mod_cast this
theorem num_inj {W i j : Nat} (h1 : (i : Int) % W = (j : Int) % W) (h2 : (i : Int) / W = (j : Int) / W) : i = j := by
  have e1 : i % W = j % W := by exact_mod_cast h1
  have e2 : i / W = j / W := by exact_mod_cast h2
  have := Nat.div_add_mod i W
  have := Nat.div_add_mod j W
  rw [e1, e2] at *
  omega
theorem con_hang {W H : Nat} {L : List Int} (v : VL W H L) {a : Int} {i j : Nat} (h : Con (linkB W L a) i j) : Hang (ownF W H L a) ((i : Int) % W) ((i : Int) / W) ((j : Int) % W) ((j : Int) / W) := by
  induction h with
  | refl => exact .refl
  | step hc hr ih =>
    obtain ⟨_, hm, hn⟩ := linkB_iff.1 hr
    obtain ⟨d, hd, e1, e2⟩ := nbB_way hn
    refine .step ih (by rw [own_mine v (mineB_lt hm)]; exact hm) ?_
    rw [e1, e2]
    have hc : d = 0 ∨ d = 1 ∨ d = 2 ∨ d = 3 := by omega
    rcases hc with rfl | rfl | rfl | rfl <;> simp [dxI, dyI] <;> omega
theorem hang_con {W H : Nat} {L : List Int} (v : VL W H L) {a : Int} (ha : 0 ≤ a) {i : Nat} (hi : mineB L a i = true) {x y : Int} (h : Hang (ownF W H L a) ((i : Int) % W) ((i : Int) / W) x y) :
    ∃ j : Nat, (j : Int) % W = x ∧ (j : Int) / W = y ∧ Con (linkB W L a) i j := by
  induction h with
  | refl => exact ⟨i, rfl, rfl, .refl⟩
  | @step x y x' y' _ h2 hc ih =>
    obtain ⟨j, e1, e2, hj⟩ := ih
    have hg := ownF_grid (W := W) (H := H) (L := L) ha
    have hin : ¬ (x' < 0 ∨ y' < 0 ∨ (W : Int) ≤ x' ∨ (H : Int) ≤ y') := by
      have := hg.x _ _ h2
      have := hg.y _ _ h2
      omega
    obtain ⟨k, hk, e3, e4⟩ := grid_num v hin
    have hmk : mineB L a k = true := by rw [← own_mine v hk, e3, e4]; exact h2
    refine ⟨k, e3, e4, .step hj (linkB_iff.2 ⟨linkB_mine hi hj, hmk, ?_⟩)⟩
    have key : ∃ d, d < 4 ∧ (k : Int) % W = (j : Int) % W + dxI d ∧ (k : Int) / W = (j : Int) / W + dyI d := by
      rw [e3, e4, e1, e2]
      rcases hc with ⟨rfl | rfl, rfl⟩ | ⟨rfl, rfl | rfl⟩
      · exact ⟨2, by omega, by simp [dxI] <;> omega, by simp [dyI]⟩
      · exact ⟨0, by omega, by simp [dxI], by simp [dyI]⟩
      · exact ⟨3, by omega, by simp [dxI], by simp [dyI] <;> omega⟩
      · exact ⟨1, by omega, by simp [dxI], by simp [dyI]⟩
    obtain ⟨d, hd, k1, k2⟩ := key
    exact way_nbB hd k1 k2
/-- the first parcel: one part exactly if all hang together with it -/
theorem parts_one {W : Nat} {L : List Int} {a : Int} {i : Nat} (hi : mineB L a i = true) (hmin : ∀ j, j < i → mineB L a j = false) :
    (partsK W L a).length = 1 ↔ ∀ j, mineB L a j = true → Con (linkB W L a) i j := by
  have hil := mineB_lt hi
  have hlead : isLead L.length (mineB L a) (linkB W L a) i = true := (isLead_iff linkB_lt hil).2 ⟨hi, fun k hk hc => by
    have := linkB_mine hi hc
    rw [hmin k hk] at this; cases this⟩
  have hlen : (partsK W L a).length = ((List.range L.length).filter (isLead L.length (mineB L a) (linkB W L a))).length := by
    show ((((List.range L.length).filter (isLead L.length (mineB L a) (linkB W L a))).map (comp L.length (linkB W L a))).map ints).length = _
    rw [List.length_map, List.length_map]
  have hmem : i ∈ (List.range L.length).filter (isLead L.length (mineB L a) (linkB W L a)) := List.mem_filter.2 ⟨by simpa using hil, hlead⟩
  have hnd : ((List.range L.length).filter (isLead L.length (mineB L a) (linkB W L a))).Nodup := (List.nodup_range).filter _
  have hmm : ∀ k, k ∈ (List.range L.length).filter (isLead L.length (mineB L a) (linkB W L a)) ↔ k < L.length ∧ isLead L.length (mineB L a) (linkB W L a) k = true := fun k => by
    rw [List.mem_filter, List.mem_range]
  rw [hlen]
  generalize (List.range L.length).filter (isLead L.length (mineB L a) (linkB W L a)) = F at *
  constructor
  · intro h1 j hj
    obtain ⟨x, rfl⟩ := List.length_eq_one_iff.1 h1
    obtain rfl : i = x := by simpa using hmem
    obtain ⟨m, hm, hc, hlow⟩ := least_one (p := fun k => Con (linkB W L a) j k) (n := j) Con.refl
    have hml := mineB_lt (linkB_mine hj hc)
    have : m ∈ [i] := (hmm m).2 ⟨hml, (isLead_iff linkB_lt hml).2 ⟨linkB_mine hj hc, fun k hk hc2 => hlow k hk (hc.trans hc2)⟩⟩
    obtain rfl : m = i := by simpa using this
    exact hc.symm linkB_symm
  · intro h
    refine List.length_eq_one_iff.2 ⟨i, ?_⟩
    have hall : ∀ k ∈ F, k = i := fun k hk => by
      obtain ⟨hkl, hle⟩ := (hmm k).1 hk
      obtain ⟨hE, hno⟩ := (isLead_iff linkB_lt hkl).1 hle
      rcases Nat.lt_trichotomy k i with hlt | he | hgt
      · rw [hmin k hlt] at hE; cases hE
      · exact he
      · exact absurd ((h k hE).symm linkB_symm) (hno i hgt)
    match F, hmem, hnd, hall with
    | [x], _, _, hall => rw [hall x (by simp)]
    | x :: y :: t, _, hnd, hall =>
      exfalso
      have h1 := hall x (by simp)
      have h2 := hall y (by simp)
      rw [List.nodup_cons] at hnd
      exact hnd.1 (by rw [h1, ← h2]; simp)
theorem parts_none {W : Nat} {L : List Int} {a : Int} (h : ∀ j, mineB L a j = false) : (partsK W L a).length = 0 := by
  show ((((List.range L.length).filter (isLead L.length (mineB L a) (linkB W L a))).map (comp L.length (linkB W L a))).map ints).length = _
  rw [List.length_map, List.length_map, List.length_eq_zero_iff, List.filter_eq_nil_iff]
  intro k _ hk
  unfold isLead at hk
  rw [h k] at hk
  cases hk
/-- an agent has a hole -/
def Hole (W H : Nat) (L : List Int) (a : Int) : Prop := ∃ i, i < L.length ∧ mineB L a i = false ∧ ¬ Free (ownF W H L a) W H ((i : Int) % W) ((i : Int) / W)
noncomputable def holB (W H : Nat) (L : List Int) (a : Int) : Bool := by classical exact decide (Hole W H L a)
theorem holB_iff {W H : Nat} {L : List Int} {a : Int} : holB W H L a = true ↔ Hole W H L a := by
  classical
  unfold holB; exact decide_eq_true_iff
/-- what LandWhole asks -/
theorem whole_law {W H : Nat} {L : List Int} (v : VL W H L) {a : Int} (ha : 0 ≤ a) (hk : lkd W H L a = 0) :
    ((partsK W L a).length = 0 ∧ wkE W H L a = 6 ∧ bdyN W H L a = 0) ∨
      (1 ≤ (partsK W L a).length ∧ wkE W H L a = 0 ∧ ((wkP W H L a).length : Int) ≤ bdyN W H L a ∧ (((wkP W H L a).length : Int) = bdyN W H L a ↔ (partsK W L a).length = 1 ∧ holB W H L a = false)) := by
  have hb : bdyN W H L a = (sidesN W H L a (fun x => x != a) : Nat) := by rw [bdyN, if_pos hk, Int.toNat_natCast, Int.toNat_natCast]
  by_cases hf : fst L a < 0
  · left
    have hno : ∀ j, mineB L a j = false := fun j => by
      cases hm : mineB L a j
      · rfl
      · exfalso
        have hj := mineB_lt hm
        have e := mineB_getD (a := a) hj
        rw [hm] at e
        rcases fIdx_eq (p := fun x => a == x) (L := L) (k := 0) with h | ⟨i, hi, h1, _⟩
        · have := fIdx_none (p := fun x => a == x) (by omega) h a (List.mem_of_getElem? (mineB_iff.1 hm))
          simp at this
        · have : fst L a = i := by show fIdx _ L 0 = i; rw [h1]; omega
          omega
    refine ⟨parts_none hno, (wkE_none hk hf).1, ?_⟩
    rw [hb, sidesN, sumN_zero]
    · rfl
    · intro i hi
      unfold sideG
      rw [if_neg]
      intro he
      have := mineB_getD (a := a) hi
      rw [hno i, he] at this
      simp at this
  · right
    obtain ⟨i, hi, hfi, hx, hE, hP, hW⟩ := wk_ok v ha hk hf
    have hmi : mineB L a i = true := by rw [mineB_getD hi, hx]; simp
    have hmin : ∀ j, j < i → mineB L a j = false := fun j hj => by
      cases hm : mineB L a j
      · rfl
      · exfalso
        rcases fIdx_eq (p := fun x => a == x) (L := L) (k := 0) with h | ⟨i', hi', h1, _, h3⟩
        · have : fst L a = -1 := h
          omega
        · have e : fst L a = i' := by show fIdx _ L 0 = i'; rw [h1]; omega
          have := h3 j (by omega) a (mineB_iff.1 hm)
          simp at this
    have hg := ownF_grid (W := W) (H := H) (L := L) ha
    -- below the first parcel all is free
    have hfr : Free (ownF W H L a) W H (startS W i).rx (startS W i).ry := by
      have e1 : (startS W i).rx = (i : Int) % W := by
        show (i : Int) % W + dxI 3 = _
        simp [dxI]
      have e2 : (startS W i).ry = (i : Int) / W - 1 := by
        show (i : Int) / W + dyI 3 = _
        simp [dyI]; omega
      rw [e1, e2]
      have hm := Nat.mod_lt i v.w0
      have hd := Nat.div_add_mod i W
      have hyH : i / W < H := by
        rw [Nat.div_lt_iff_lt_mul v.w0, Nat.mul_comm]
        rw [v.len] at hi; exact hi
      have col : ∀ n : Nat, n ≤ i / W → Free (ownF W H L a) W H ((i : Int) % W) ((n : Int) - 1) := by
        intro n
        induction n with
        | zero => intro _; exact .out (.inr (.inl (by omega)))
        | succ n ih =>
          intro hn
          refine .step (ih (by omega)) ?_ (.inr (.inl rfl)) (.inr (.inr (by omega)))
          have hnW : n * W + i % W < i := by
            have : n * W ≤ (i / W - 1) * W := Nat.mul_le_mul_right _ (by omega)
            have e3 : (i / W - 1) * W + W = W * (i / W) := by
              rw [Nat.mul_comm W]
              have : i / W = (i / W - 1) + 1 := by omega
              conv => rhs; rw [this, Nat.add_mul, Nat.one_mul]
            omega
          have hl : n * W + i % W < L.length := by omega
          have k1 : ((n * W + i % W : Nat) : Int) % W = (i : Int) % W := by
            have : (n * W + i % W) % W = i % W := by rw [Nat.mul_add_mod', Nat.mod_mod]
            exact_mod_cast this
          have k2 : ((n * W + i % W : Nat) : Int) / W = (n : Int) := by
            have : (n * W + i % W) / W = n := by rw [Nat.mul_comm, Nat.mul_add_div v.w0, Nat.div_eq_of_lt hm]; omega
            exact_mod_cast this
          rw [show (((n + 1 : Nat) : Int) - 1) = (n : Int) by omega, ← k1, ← k2, own_mine v hl]
          exact hmin _ hnW
      have := col (i / W) (Nat.le_refl _)
      exact_mod_cast this
    obtain ⟨c1, c2⟩ := walk_cnt v hW
    have hlen : (wkP W H L a).length = walkN (ownF W H L a) (startS W i) := by rw [hP, ptsK_length]
    have hp1 := parts_one (W := W) hmi hmin
    have hp0 : 1 ≤ (partsK W L a).length := by
      have hlead : isLead L.length (mineB L a) (linkB W L a) i = true := (isLead_iff linkB_lt hi).2 ⟨hmi, fun k hk hc => by
        have := linkB_mine hmi hc
        rw [hmin k hk] at this; cases this⟩
      show 1 ≤ ((((List.range L.length).filter (isLead L.length (mineB L a) (linkB W L a))).map (comp L.length (linkB W L a))).map ints).length
      rw [List.length_map, List.length_map]
      exact List.length_pos_of_mem (List.mem_filter.2 ⟨by simpa using hi, hlead⟩)
    refine ⟨hp0, hE, by rw [hb, hlen]; exact_mod_cast c1, ?_⟩
    rw [hb, hlen, show ((walkN (ownF W H L a) (startS W i) : Nat) : Int) = (sidesN W H L a (fun x => x != a) : Nat) ↔ walkN (ownF W H L a) (startS W i) = sidesN W H L a (fun x => x != a) by omega, c2, walk_whole hW hfr, hp1]
    refine and_congr ⟨fun h j hj => ?_, fun h x y hf => ?_⟩ ⟨fun h => ?_, fun h x y hf => ?_⟩
    · have hjl := mineB_lt hj
      obtain ⟨j', e1, e2, hc⟩ := hang_con v ha hmi (h ((j : Int) % W) ((j : Int) / W) (by rw [own_mine v hjl]; exact hj))
      rw [← num_inj e1 e2]; exact hc
    · have hin : ¬ (x < 0 ∨ y < 0 ∨ (W : Int) ≤ x ∨ (H : Int) ≤ y) := by
        have := hg.x _ _ hf
        have := hg.y _ _ hf
        omega
      obtain ⟨j, hj, e1, e2⟩ := grid_num v hin
      have hm : mineB L a j = true := by rw [← own_mine v hj, e1, e2]; exact hf
      have := con_hang v (h j hm)
      rw [e1, e2] at this
      exact this
    · cases hh : holB W H L a
      · rfl
      · exfalso
        obtain ⟨j, hj, hm, hno⟩ := holB_iff.1 hh
        exact hno (h _ _ (by rw [own_mine v hj]; exact hm))
    · by_cases hin : x < 0 ∨ y < 0 ∨ (W : Int) ≤ x ∨ (H : Int) ≤ y
      · exact .out hin
      · obtain ⟨j, hj, e1, e2⟩ := grid_num v hin
        apply Classical.byContradiction
        intro hno
        have : holB W H L a = true := holB_iff.2 ⟨j, hj, by rw [← own_mine v hj, e1, e2]; exact hf, by rw [e1, e2]; exact hno⟩
        rw [h] at this; cases this
end Go.Proofs.Ytdkcpnmaglkmnaa

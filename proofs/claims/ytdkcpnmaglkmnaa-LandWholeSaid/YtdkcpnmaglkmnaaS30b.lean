/-! Plain law: the walk round the places of a set. No statement about the program. -/
namespace Go.Proofs.Ytdkcpnmaglkmnaa
set_option linter.unusedVariables false

/-- the way of a direction: right, up, left, down -/
def dxI (d : Nat) : Int := if d = 0 then 1 else if d = 2 then -1 else 0
def dyI (d : Nat) : Int := if d = 1 then 1 else if d = 3 then -1 else 0
/-- the corner of a place at which its side begins -/
def cxI (d : Nat) : Int := if d = 1 ∨ d = 2 then 1 else 0
def cyI (d : Nat) : Int := if d = 2 ∨ d = 3 then 1 else 0
theorem d_two {d : Nat} (h : d < 4) : dxI ((d + 2) % 4) = - dxI d ∧ dyI ((d + 2) % 4) = - dyI d := by
  have : d = 0 ∨ d = 1 ∨ d = 2 ∨ d = 3 := by omega
  rcases this with rfl | rfl | rfl | rfl <;> decide
theorem d_opp {d : Nat} (h : d < 4) : dxI ((d + 3) % 4) = - dxI ((d + 1) % 4) ∧ dyI ((d + 3) % 4) = - dyI ((d + 1) % 4) := by
  have : d = 0 ∨ d = 1 ∨ d = 2 ∨ d = 3 := by omega
  rcases this with rfl | rfl | rfl | rfl <;> decide
theorem d_perp {d : Nat} (h : d < 4) : dxI ((d + 1) % 4) = - dyI d ∧ dyI ((d + 1) % 4) = dxI d := by
  have : d = 0 ∨ d = 1 ∨ d = 2 ∨ d = 3 := by omega
  rcases this with rfl | rfl | rfl | rfl <;> decide

/-- a place and a side of it (0 below, 1 right, 2 above, 3 left) -/
structure St where
  x : Int
  y : Int
  d : Nat
deriving DecidableEq

variable {f : Int → Int → Bool}
/-- the place to the right of the side -/
def St.rx (s : St) : Int := s.x + dxI ((s.d + 3) % 4)
def St.ry (s : St) : Int := s.y + dyI ((s.d + 3) % 4)
/-- the side belongs to the boundary of the set f -/
structure Edge (f : Int → Int → Bool) (s : St) : Prop where
  d : s.d < 4
  l : f s.x s.y = true
  r : f s.rx s.ry = false
def St.onx (s : St) : Int := s.x + dxI s.d
def St.ony (s : St) : Int := s.y + dyI s.d
def St.ox (s : St) : Int := s.onx + dxI ((s.d + 3) % 4)
def St.oy (s : St) : Int := s.ony + dyI ((s.d + 3) % 4)
/-- the next side of the walk -/
def nxt (f : Int → Int → Bool) (s : St) : St :=
  if f s.onx s.ony = false then ⟨s.x, s.y, (s.d + 1) % 4⟩
  else if f s.ox s.oy = false then ⟨s.onx, s.ony, s.d⟩
  else ⟨s.ox, s.oy, (s.d + 3) % 4⟩
theorem nxt_left {s : St} (h : f s.onx s.ony = false) : nxt f s = ⟨s.x, s.y, (s.d + 1) % 4⟩ := by rw [nxt, if_pos h]
theorem nxt_on {s : St} (h : f s.onx s.ony = true) (h2 : f s.ox s.oy = false) : nxt f s = ⟨s.onx, s.ony, s.d⟩ := by rw [nxt, if_neg (by simp [h]), if_pos h2]
theorem nxt_right {s : St} (h : f s.onx s.ony = true) (h2 : f s.ox s.oy = true) : nxt f s = ⟨s.ox, s.oy, (s.d + 3) % 4⟩ := by rw [nxt, if_neg (by simp [h]), if_neg (by simp [h2])]
def prv (f : Int → Int → Bool) (s : St) : St :=
  if f (s.x + dxI ((s.d + 2) % 4)) (s.y + dyI ((s.d + 2) % 4)) = false then ⟨s.x, s.y, (s.d + 3) % 4⟩
  else if f (s.x + dxI ((s.d + 2) % 4) + dxI ((s.d + 3) % 4)) (s.y + dyI ((s.d + 2) % 4) + dyI ((s.d + 3) % 4)) = false then ⟨s.x + dxI ((s.d + 2) % 4), s.y + dyI ((s.d + 2) % 4), s.d⟩
  else ⟨s.x + dxI ((s.d + 2) % 4) + dxI ((s.d + 3) % 4), s.y + dyI ((s.d + 2) % 4) + dyI ((s.d + 3) % 4), (s.d + 1) % 4⟩

theorem nxt_edge {s : St} (h : Edge f s) : Edge f (nxt f s) := by
  obtain ⟨x, y, d⟩ := s
  have hd : d < 4 := h.d
  have p1 := d_perp hd
  have p2 := d_opp hd
  have p3 := d_two hd
  by_cases h1 : f (St.onx ⟨x, y, d⟩) (St.ony ⟨x, y, d⟩) = true
  · by_cases h2 : f (St.ox ⟨x, y, d⟩) (St.oy ⟨x, y, d⟩) = true
    · rw [nxt_right h1 h2]
      refine ⟨Nat.mod_lt _ (by omega), h2, ?_⟩
      have hr := h.r
      have e1 : St.rx ⟨St.ox ⟨x, y, d⟩, St.oy ⟨x, y, d⟩, (d + 3) % 4⟩ = St.rx ⟨x, y, d⟩ := by
        simp only [St.rx, St.ox, St.onx]
        rw [show ((d + 3) % 4 + 3) % 4 = (d + 2) % 4 by omega]
        omega
      have e2 : St.ry ⟨St.ox ⟨x, y, d⟩, St.oy ⟨x, y, d⟩, (d + 3) % 4⟩ = St.ry ⟨x, y, d⟩ := by
        simp only [St.ry, St.oy, St.ony]
        rw [show ((d + 3) % 4 + 3) % 4 = (d + 2) % 4 by omega]
        omega
      rw [e1, e2]
      exact hr
    · have h2' : f (St.ox ⟨x, y, d⟩) (St.oy ⟨x, y, d⟩) = false := by simpa using h2
      rw [nxt_on h1 h2']
      exact ⟨hd, h1, h2'⟩
  · have h1' : f (St.onx ⟨x, y, d⟩) (St.ony ⟨x, y, d⟩) = false := by simpa using h1
    rw [nxt_left h1']
    refine ⟨Nat.mod_lt _ (by omega), h.l, ?_⟩
    have e1 : St.rx ⟨x, y, (d + 1) % 4⟩ = St.onx ⟨x, y, d⟩ := by
      simp only [St.rx, St.onx]
      rw [show ((d + 1) % 4 + 3) % 4 = d by omega]
    have e2 : St.ry ⟨x, y, (d + 1) % 4⟩ = St.ony ⟨x, y, d⟩ := by
      simp only [St.ry, St.ony]
      rw [show ((d + 1) % 4 + 3) % 4 = d by omega]
    rw [e1, e2]
    exact h1'

theorem prv_a {x y : Int} {d : Nat} (h : f (x + dxI ((d + 2) % 4)) (y + dyI ((d + 2) % 4)) = false) : prv f ⟨x, y, d⟩ = ⟨x, y, (d + 3) % 4⟩ := by
  rw [prv]; exact if_pos h
theorem prv_b {x y : Int} {d : Nat} (h : f (x + dxI ((d + 2) % 4)) (y + dyI ((d + 2) % 4)) = true)
    (h2 : f (x + dxI ((d + 2) % 4) + dxI ((d + 3) % 4)) (y + dyI ((d + 2) % 4) + dyI ((d + 3) % 4)) = false) : prv f ⟨x, y, d⟩ = ⟨x + dxI ((d + 2) % 4), y + dyI ((d + 2) % 4), d⟩ := by
  rw [prv]; exact (if_neg (by simp [h])).trans (if_pos h2)
theorem prv_c {x y : Int} {d : Nat} (h : f (x + dxI ((d + 2) % 4)) (y + dyI ((d + 2) % 4)) = true)
    (h2 : f (x + dxI ((d + 2) % 4) + dxI ((d + 3) % 4)) (y + dyI ((d + 2) % 4) + dyI ((d + 3) % 4)) = true) : prv f ⟨x, y, d⟩ = ⟨x + dxI ((d + 2) % 4) + dxI ((d + 3) % 4), y + dyI ((d + 2) % 4) + dyI ((d + 3) % 4), (d + 1) % 4⟩ := by
  rw [prv]; exact (if_neg (by simp [h])).trans (if_neg (by simp [h2]))
theorem st_eq {x y x' y' : Int} {d d' : Nat} (h1 : x = x') (h2 : y = y') (h3 : d = d') : (⟨x, y, d⟩ : St) = ⟨x', y', d'⟩ := by rw [h1, h2, h3]
theorem f_at {x y x' y' : Int} {b : Bool} (h : f x y = b) (h1 : x' = x) (h2 : y' = y) : f x' y' = b := by rw [h1, h2]; exact h
theorem prv_nxt {s : St} (h : Edge f s) : prv f (nxt f s) = s := by
  obtain ⟨x, y, d⟩ := s
  have hd : d < 4 := h.d
  have p1 := d_perp hd
  have p2 := d_opp hd
  have p3 := d_two hd
  have hl : f x y = true := h.l
  have hr : f (x + dxI ((d + 3) % 4)) (y + dyI ((d + 3) % 4)) = false := h.r
  by_cases h1 : f (St.onx ⟨x, y, d⟩) (St.ony ⟨x, y, d⟩) = true
  · have h1' : f (x + dxI d) (y + dyI d) = true := h1
    by_cases h2 : f (St.ox ⟨x, y, d⟩) (St.oy ⟨x, y, d⟩) = true
    · rw [nxt_right h1 h2]
      simp only [St.ox, St.oy, St.onx, St.ony]
      have e1 : ((d + 3) % 4 + 2) % 4 = (d + 1) % 4 := by omega
      have e2 : ((d + 3) % 4 + 3) % 4 = (d + 2) % 4 := by omega
      rw [prv_c (f_at h1' (by rw [e1]; omega) (by rw [e1]; omega)) (f_at hl (by rw [e1, e2]; omega) (by rw [e1, e2]; omega))]
      exact st_eq (by rw [e1, e2]; omega) (by rw [e1, e2]; omega) (by omega)
    · have h2' : f (St.ox ⟨x, y, d⟩) (St.oy ⟨x, y, d⟩) = false := by simpa using h2
      rw [nxt_on h1 h2']
      simp only [St.onx, St.ony]
      rw [prv_b (f_at hl (by omega) (by omega)) (f_at hr (by omega) (by omega))]
      exact st_eq (by omega) (by omega) rfl
  · have h1' : f (St.onx ⟨x, y, d⟩) (St.ony ⟨x, y, d⟩) = false := by simpa using h1
    rw [nxt_left h1']
    have e1 : ((d + 1) % 4 + 2) % 4 = (d + 3) % 4 := by omega
    rw [prv_a (f_at hr (by rw [e1]) (by rw [e1]))]
    exact st_eq rfl rfl (show ((d + 1) % 4 + 3) % 4 = d by omega)
theorem nxt_inj {s t : St} (hs : Edge f s) (ht : Edge f t) (h : nxt f s = nxt f t) : s = t := by
  rw [← prv_nxt hs, ← prv_nxt ht, h]

/-- the walk, side by side -/
def itN (f : Int → Int → Bool) : Nat → St → St
  | 0, s => s
  | n + 1, s => nxt f (itN f n s)
theorem itN_succ (n : Nat) (s : St) : itN f (n + 1) s = nxt f (itN f n s) := rfl
theorem itN_edge {s : St} (h : Edge f s) : ∀ n, Edge f (itN f n s)
  | 0 => h
  | n + 1 => nxt_edge (itN_edge h n)
theorem itN_back {s : St} (h : Edge f s) : ∀ (i j : Nat), itN f i s = itN f (i + j) s → s = itN f j s
  | 0, j, e => by simpa [itN] using e
  | i + 1, j, e => by
    rw [show i + 1 + j = (i + j) + 1 by omega, itN_succ, itN_succ] at e
    exact itN_back h i j (nxt_inj (itN_edge h _) (itN_edge h _) e)
/-- of more numbers than there are below m, two are the same -/
theorem pigeon : ∀ (m : Nat) (c : Nat → Nat), (∀ i, i ≤ m → c i < m) → ∃ i j, i < j ∧ j ≤ m ∧ c i = c j
  | 0, c, h => absurd (h 0 (by omega)) (by omega)
  | m + 1, c, h => by
    by_cases hx : ∃ i, i ≤ m ∧ c i = c (m + 1)
    · obtain ⟨i, hi, e⟩ := hx
      exact ⟨i, m + 1, by omega, by omega, e⟩
    · -- put what is m in the place of the last one
      have hne : ∀ i, i ≤ m → c i ≠ c (m + 1) := fun i hi e => hx ⟨i, hi, e⟩
      obtain ⟨i, j, hij, hj, e⟩ := pigeon m (fun i => if c i = m then c (m + 1) else c i) (fun i hi => by
        have h1 := h i (by omega)
        have h2 := h (m + 1) (by omega)
        have h3 := hne i hi
        show (if c i = m then c (m + 1) else c i) < m
        split <;> omega)
      refine ⟨i, j, hij, by omega, ?_⟩
      have hi2 := hne i (by omega)
      have hj2 := hne j (by omega)
      split at e <;> split at e <;> omega
theorem least_one {p : Nat → Prop} : ∀ {n : Nat}, p n → ∃ m, m ≤ n ∧ p m ∧ ∀ k, k < m → ¬ p k := by
  intro n
  induction n using Nat.strongRecOn with
  | ind n ih =>
    intro hn
    by_cases h : ∃ k, k < n ∧ p k
    · obtain ⟨k, hk, hp⟩ := h
      obtain ⟨m, hm, h1, h2⟩ := ih k hk hp
      exact ⟨m, by omega, h1, h2⟩
    · exact ⟨n, Nat.le_refl _, hn, fun k hk hp => h ⟨k, hk, hp⟩⟩

/-- the set lies in a grid -/
structure InGrid (f : Int → Int → Bool) (W H : Nat) : Prop where
  x : ∀ x y, f x y = true → 0 ≤ x ∧ x < W
  y : ∀ x y, f x y = true → 0 ≤ y ∧ y < H
def codeSt (W : Nat) (s : St) : Nat := (s.y.toNat * W + s.x.toNat) * 4 + s.d
theorem code_lt {W H : Nat} (hg : InGrid f W H) {s : St} (h : Edge f s) : codeSt W s < W * H * 4 := by
  have hx := hg.x _ _ h.l
  have hy := hg.y _ _ h.l
  have hd := h.d
  unfold codeSt
  have h1 : s.y.toNat * W + s.x.toNat < W * H := by
    have h2 : (s.y.toNat + 1) * W ≤ H * W := Nat.mul_le_mul_right _ (by omega)
    rw [Nat.add_mul] at h2
    rw [Nat.mul_comm W H]
    omega
  omega
theorem code_inj {W H : Nat} (hg : InGrid f W H) {s t : St} (hs : Edge f s) (ht : Edge f t) (h : codeSt W s = codeSt W t) : s = t := by
  have hx := hg.x _ _ hs.l
  have hy := hg.y _ _ hs.l
  have gx := hg.x _ _ ht.l
  have gy := hg.y _ _ ht.l
  have hd := hs.d
  have gd := ht.d
  unfold codeSt at h
  have e1 : s.d = t.d := by omega
  have e2 : s.y.toNat * W + s.x.toNat = t.y.toNat * W + t.x.toNat := by omega
  have e3 : s.x.toNat = t.x.toNat := by
    have a := Nat.mul_add_mod' s.y.toNat W s.x.toNat
    have b := Nat.mul_add_mod' t.y.toNat W t.x.toNat
    rw [e2] at a
    rw [a, Nat.mod_eq_of_lt (by omega), Nat.mod_eq_of_lt (by omega)] at b
    exact b
  have e4 : s.y.toNat = t.y.toNat := by
    rw [e3] at e2
    exact Nat.eq_of_mul_eq_mul_right (by omega : 0 < W) (by omega)
  obtain ⟨sx, sy, sd⟩ := s
  obtain ⟨tx, ty, td⟩ := t
  simp only at *
  rw [show sx = tx by omega, show sy = ty by omega, e1]
/-- the walk comes back -/
theorem comes_back {W H : Nat} (hg : InGrid f W H) {s : St} (h : Edge f s) : ∃ N, 0 < N ∧ N ≤ W * H * 4 ∧ itN f N s = s ∧ ∀ k, 0 < k → k < N → itN f k s ≠ s := by
  obtain ⟨i, j, hij, hj, e⟩ := pigeon (W * H * 4) (fun i => codeSt W (itN f i s)) (fun i _ => code_lt hg (itN_edge h i))
  have e2 := code_inj hg (itN_edge h i) (itN_edge h j) e
  rw [show j = i + (j - i) by omega] at e2
  have e3 := itN_back h _ _ e2
  obtain ⟨N, hN, ⟨h1, h2⟩, h3⟩ := least_one (p := fun n => 0 < n ∧ itN f n s = s) (n := j - i) ⟨by omega, e3.symm⟩
  exact ⟨N, h1, by omega, h2, fun k hk hk2 h4 => h3 k hk2 ⟨hk, h4⟩⟩
/-- how long the walk is -/
noncomputable def walkN (f : Int → Int → Bool) (s : St) : Nat := by
  classical exact if h : ∃ N, 0 < N ∧ itN f N s = s ∧ ∀ k, 0 < k → k < N → itN f k s ≠ s then Classical.choose h else 0
theorem walkN_spec {W H : Nat} (hg : InGrid f W H) {s : St} (h : Edge f s) : 0 < walkN f s ∧ walkN f s ≤ W * H * 4 ∧ itN f (walkN f s) s = s ∧ ∀ k, 0 < k → k < walkN f s → itN f k s ≠ s := by
  obtain ⟨N, h1, h2, h3, h4⟩ := comes_back hg h
  have hex : ∃ N, 0 < N ∧ itN f N s = s ∧ ∀ k, 0 < k → k < N → itN f k s ≠ s := ⟨N, h1, h3, h4⟩
  have hs := Classical.choose_spec hex
  have e : walkN f s = Classical.choose hex := by unfold walkN; rw [dif_pos hex]
  rw [← e] at hs
  refine ⟨hs.1, ?_, hs.2.1, hs.2.2⟩
  rcases Nat.lt_or_ge N (walkN f s) with hlt | hge
  · exact absurd h3 (hs.2.2 N h1 hlt)
  · omega
/-- the corners of the walk -/
def cornX (s : St) : Int := s.x + cxI s.d
def cornY (s : St) : Int := s.y + cyI s.d
theorem corner_step {d : Nat} (h : d < 4) : cxI d + dxI d = cxI ((d + 1) % 4) ∧ cyI d + dyI d = cyI ((d + 1) % 4) := by
  have : d = 0 ∨ d = 1 ∨ d = 2 ∨ d = 3 := by omega
  rcases this with rfl | rfl | rfl | rfl <;> decide
theorem corner_right {d : Nat} (h : d < 4) : dxI d + dxI ((d + 3) % 4) + cxI ((d + 3) % 4) = cxI ((d + 1) % 4) ∧ dyI d + dyI ((d + 3) % 4) + cyI ((d + 3) % 4) = cyI ((d + 1) % 4) := by
  have : d = 0 ∨ d = 1 ∨ d = 2 ∨ d = 3 := by omega
  rcases this with rfl | rfl | rfl | rfl <;> decide
theorem corner_on {d : Nat} (h : d < 4) : dxI d + cxI d = cxI ((d + 1) % 4) ∧ dyI d + cyI d = cyI ((d + 1) % 4) := by
  have := corner_step h; omega
/-- the next corner lies one step on -/
theorem corn_nxt {s : St} (h : Edge f s) : cornX (nxt f s) = cornX s + dxI s.d ∧ cornY (nxt f s) = cornY s + dyI s.d := by
  obtain ⟨x, y, d⟩ := s
  have hd : d < 4 := h.d
  have q1 := corner_step hd
  have q2 := corner_right hd
  by_cases h1 : f (St.onx ⟨x, y, d⟩) (St.ony ⟨x, y, d⟩) = true
  · by_cases h2 : f (St.ox ⟨x, y, d⟩) (St.oy ⟨x, y, d⟩) = true
    · rw [nxt_right h1 h2]
      simp only [cornX, cornY, St.ox, St.oy, St.onx, St.ony]
      omega
    · have h2' : f (St.ox ⟨x, y, d⟩) (St.oy ⟨x, y, d⟩) = false := by simpa using h2
      rw [nxt_on h1 h2']
      simp only [cornX, cornY, St.onx, St.ony]
      omega
  · have h1' : f (St.onx ⟨x, y, d⟩) (St.ony ⟨x, y, d⟩) = false := by simpa using h1
    rw [nxt_left h1']
    simp only [cornX, cornY]
    omega
end Go.Proofs.Ytdkcpnmaglkmnaa

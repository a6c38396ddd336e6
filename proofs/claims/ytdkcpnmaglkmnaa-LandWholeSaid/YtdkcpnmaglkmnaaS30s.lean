import Derived.Test.YtdkcpnmaglkmnaaS30b
/-! Plain law: sets of sides that the walk keeps; the parity of such sides along a row. No statement about the program. -/
namespace Go.Proofs.Ytdkcpnmaglkmnaa
set_option linter.unusedVariables false

/-- a set of sides of the boundary that the walk does not leave -/
def Kept (f : Int → Int → Bool) (o : St → Bool) : Prop := ∀ s, Edge f s → o (nxt f s) = o s
section
variable {f : Int → Int → Bool} {o : St → Bool}
/-- the side between (x - 1, y) and (x, y), if it is one of the set -/
def vE (f : Int → Int → Bool) (o : St → Bool) (x y : Int) : Bool := (f (x - 1) y && (!f x y && o ⟨x - 1, y, 1⟩)) || (f x y && (!f (x - 1) y && o ⟨x, y, 3⟩))
/-- the side between (x, y - 1) and (x, y) -/
def hE (f : Int → Int → Bool) (o : St → Bool) (x y : Int) : Bool := (f x (y - 1) && (!f x y && o ⟨x, y - 1, 2⟩)) || (f x y && (!f x (y - 1) && o ⟨x, y, 0⟩))
theorem kept_left (h : Kept f o) {x y u v p q : Int} {d e : Nat} (hd : d < 4) (hl : f x y = true) (hr : f p q = false) (hp : p = x + dxI ((d + 3) % 4)) (hq : q = y + dyI ((d + 3) % 4))
    (hn : f u v = false) (hu : u = x + dxI d) (hv : v = y + dyI d) (hde : e = (d + 1) % 4) : o ⟨x, y, e⟩ = o ⟨x, y, d⟩ := by
  subst hde; subst hp; subst hq; subst hu; subst hv
  have := h ⟨x, y, d⟩ ⟨hd, hl, hr⟩
  rw [nxt_left (s := ⟨x, y, d⟩) hn] at this
  exact this
theorem kept_on (h : Kept f o) {x y u v p q r t : Int} {d : Nat} (hd : d < 4) (hl : f x y = true) (hr : f p q = false) (hp : p = x + dxI ((d + 3) % 4)) (hq : q = y + dyI ((d + 3) % 4))
    (hn : f u v = true) (hu : u = x + dxI d) (hv : v = y + dyI d) (h2 : f r t = false) (h3 : r = u + dxI ((d + 3) % 4)) (h4 : t = v + dyI ((d + 3) % 4)) : o ⟨u, v, d⟩ = o ⟨x, y, d⟩ := by
  subst hp; subst hq; subst h3; subst h4; subst hu; subst hv
  have := h ⟨x, y, d⟩ ⟨hd, hl, hr⟩
  rw [nxt_on (s := ⟨x, y, d⟩) hn h2] at this
  exact this
theorem kept_right (h : Kept f o) {x y u v p q r t : Int} {d e : Nat} (hd : d < 4) (hl : f x y = true) (hr : f p q = false) (hp : p = x + dxI ((d + 3) % 4)) (hq : q = y + dyI ((d + 3) % 4))
    (hn : f u v = true) (hu : u = x + dxI d) (hv : v = y + dyI d) (h2 : f r t = true) (h3 : r = u + dxI ((d + 3) % 4)) (h4 : t = v + dyI ((d + 3) % 4)) (hde : e = (d + 3) % 4) : o ⟨r, t, e⟩ = o ⟨x, y, d⟩ := by
  subst hp; subst hq; subst h3; subst h4; subst hu; subst hv; subst hde
  have := h ⟨x, y, d⟩ ⟨hd, hl, hr⟩
  rw [nxt_right (s := ⟨x, y, d⟩) hn h2] at this
  exact this

theorem bit_law : ∀ (ne nw sw se i0 i1 i2 i3 u0 u1 u2 u3 : Bool),
    (ne = true → nw = false → se = false → u0 = i3) → (ne = true → nw = false → se = true → sw = false → u3 = i3) → (ne = true → nw = false → se = true → sw = true → u2 = i3) →
    (nw = true → sw = false → ne = false → u1 = i0) → (nw = true → sw = false → ne = true → se = false → u0 = i0) → (nw = true → sw = false → ne = true → se = true → u3 = i0) →
    (sw = true → se = false → nw = false → u2 = i1) → (sw = true → se = false → nw = true → ne = false → u1 = i1) → (sw = true → se = false → nw = true → ne = true → u0 = i1) →
    (se = true → ne = false → sw = false → u3 = i2) → (se = true → ne = false → sw = true → nw = false → u2 = i2) → (se = true → ne = false → sw = true → nw = true → u1 = i2) →
    (xor (xor ((nw && (!ne && u1)) || (ne && (!nw && i3))) ((sw && (!se && i1)) || (se && (!sw && u3)))) (xor ((se && (!ne && i2)) || (ne && (!se && u0))) ((sw && (!nw && u2)) || (nw && (!sw && i0))))) = false := by
  intro ne nw sw se i0 i1 i2 i3 u0 u1 u2 u3
  cases ne <;> cases nw <;> cases sw <;> cases se <;> simp <;> (try (intros; subst_vars; try simp)) <;> (try (cases u0 <;> cases u2 <;> rfl))
/-- at a corner the sides of the set are even in number -/
theorem corner_even (h : Kept f o) (x y : Int) : xor (xor (vE f o x y) (vE f o x (y - 1))) (xor (hE f o x y) (hE f o (x - 1) y)) = false := by
  unfold vE hE
  refine bit_law (f x y) (f (x - 1) y) (f (x - 1) (y - 1)) (f x (y - 1)) (o ⟨x - 1, y, 0⟩) (o ⟨x - 1, y - 1, 1⟩) (o ⟨x, y - 1, 2⟩) (o ⟨x, y, 3⟩) (o ⟨x, y, 0⟩) (o ⟨x - 1, y, 1⟩) (o ⟨x - 1, y - 1, 2⟩) (o ⟨x, y - 1, 3⟩) ?_ ?_ ?_ ?_ ?_ ?_ ?_ ?_ ?_ ?_ ?_ ?_
  · intro a b c
    exact kept_left h (d := 3) (by omega) a b (by simp [dxI] <;> omega) (by simp [dyI] <;> omega) c (by simp [dxI] <;> omega) (by simp [dyI] <;> omega) rfl
  · intro a b c e
    exact kept_on h (d := 3) (by omega) a b (by simp [dxI] <;> omega) (by simp [dyI] <;> omega) c (by simp [dxI] <;> omega) (by simp [dyI] <;> omega) e (by simp [dxI] <;> omega) (by simp [dyI] <;> omega)
  · intro a b c e
    exact kept_right h (d := 3) (by omega) a b (by simp [dxI] <;> omega) (by simp [dyI] <;> omega) c (by simp [dxI] <;> omega) (by simp [dyI] <;> omega) e (by simp [dxI] <;> omega) (by simp [dyI] <;> omega) rfl
  · intro a b c
    exact kept_left h (d := 0) (by omega) a b (by simp [dxI] <;> omega) (by simp [dyI] <;> omega) c (by simp [dxI] <;> omega) (by simp [dyI] <;> omega) rfl
  · intro a b c e
    exact kept_on h (d := 0) (by omega) a b (by simp [dxI] <;> omega) (by simp [dyI] <;> omega) c (by simp [dxI] <;> omega) (by simp [dyI] <;> omega) e (by simp [dxI] <;> omega) (by simp [dyI] <;> omega)
  · intro a b c e
    exact kept_right h (d := 0) (by omega) a b (by simp [dxI] <;> omega) (by simp [dyI] <;> omega) c (by simp [dxI] <;> omega) (by simp [dyI] <;> omega) e (by simp [dxI] <;> omega) (by simp [dyI] <;> omega) rfl
  · intro a b c
    exact kept_left h (d := 1) (by omega) a b (by simp [dxI] <;> omega) (by simp [dyI] <;> omega) c (by simp [dxI] <;> omega) (by simp [dyI] <;> omega) rfl
  · intro a b c e
    exact kept_on h (d := 1) (by omega) a b (by simp [dxI] <;> omega) (by simp [dyI] <;> omega) c (by simp [dxI] <;> omega) (by simp [dyI] <;> omega) e (by simp [dxI] <;> omega) (by simp [dyI] <;> omega)
  · intro a b c e
    exact kept_right h (d := 1) (by omega) a b (by simp [dxI] <;> omega) (by simp [dyI] <;> omega) c (by simp [dxI] <;> omega) (by simp [dyI] <;> omega) e (by simp [dxI] <;> omega) (by simp [dyI] <;> omega) rfl
  · intro a b c
    exact kept_left h (d := 2) (by omega) a b (by simp [dxI] <;> omega) (by simp [dyI] <;> omega) c (by simp [dxI] <;> omega) (by simp [dyI] <;> omega) rfl
  · intro a b c e
    exact kept_on h (d := 2) (by omega) a b (by simp [dxI] <;> omega) (by simp [dyI] <;> omega) c (by simp [dxI] <;> omega) (by simp [dyI] <;> omega) e (by simp [dxI] <;> omega) (by simp [dyI] <;> omega)
  · intro a b c e
    exact kept_right h (d := 2) (by omega) a b (by simp [dxI] <;> omega) (by simp [dyI] <;> omega) c (by simp [dxI] <;> omega) (by simp [dyI] <;> omega) e (by simp [dxI] <;> omega) (by simp [dyI] <;> omega) rfl

/-- the parity of the sides of the set to the left of a place -/
def parN (f : Int → Int → Bool) (o : St → Bool) (y : Int) : Nat → Bool
  | 0 => false
  | n + 1 => xor (parN f o y n) (vE f o (n : Int) y)
def par (f : Int → Int → Bool) (o : St → Bool) (x y : Int) : Bool := parN f o y (x + 1).toNat
theorem vE_neg (hf : ∀ x y : Int, x < 0 → f x y = false) {x y : Int} (hx : x < 0) : vE f o x y = false := by
  unfold vE; rw [hf x y hx, hf (x - 1) y (by omega)]; rfl
theorem par_neg {x y : Int} (hx : x < 0) : par f o x y = false := by
  unfold par; rw [show (x + 1).toNat = 0 by omega]; rfl
theorem par_right (hf : ∀ x y : Int, x < 0 → f x y = false) (x y : Int) : par f o x y = xor (par f o (x - 1) y) (vE f o x y) := by
  by_cases hx : x < 0
  · rw [par_neg hx, par_neg (by omega), vE_neg hf hx]; rfl
  · unfold par
    rw [show (x + 1).toNat = x.toNat + 1 by omega, show (x - 1 + 1).toNat = x.toNat by omega, parN, Int.toNat_of_nonneg (by omega)]
theorem hE_neg (hf : ∀ x y : Int, x < 0 → f x y = false) {x y : Int} (hx : x < 0) : hE f o x y = false := by
  unfold hE; rw [hf x y hx, hf x (y - 1) hx]; rfl
theorem par_up (hf : ∀ x y : Int, x < 0 → f x y = false) (h : Kept f o) (y : Int) : ∀ n : Nat, par f o ((n : Int) - 1) y = xor (par f o ((n : Int) - 1) (y - 1)) (hE f o ((n : Int) - 1) y)
  | 0 => by rw [par_neg (by omega), par_neg (by omega), hE_neg hf (by omega)]; rfl
  | n + 1 => by
    have ih := par_up hf h y n
    have h1 := par_right (o := o) hf (n : Int) y
    have h2 := par_right (o := o) hf (n : Int) (y - 1)
    have h3 := corner_even h (n : Int) y
    rw [show ((n + 1 : Nat) : Int) - 1 = (n : Int) by omega, h1, h2, ih]
    generalize par f o ((n : Int) - 1) (y - 1) = p at *
    generalize vE f o (n : Int) y = v1 at *
    generalize vE f o (n : Int) (y - 1) = v2 at *
    generalize hE f o (n : Int) y = e1 at *
    generalize hE f o ((n : Int) - 1) y = e2 at *
    clear ih h1 h2
    cases p <;> cases v1 <;> cases v2 <;> cases e1 <;> cases e2 <;> simp_all
theorem par_above (hf : ∀ x y : Int, x < 0 → f x y = false) (h : Kept f o) (x y : Int) : par f o x y = xor (par f o x (y - 1)) (hE f o x y) := by
  by_cases hx : x < 0
  · rw [par_neg hx, par_neg hx, hE_neg hf hx]; rfl
  · have := par_up hf h y (x + 1).toNat
    rwa [Int.toNat_of_nonneg (by omega), show x + 1 - 1 = x by omega] at this
/-- between two sides of a set, and only there, the parity changes -/
theorem par_edge (hf : ∀ x y : Int, x < 0 → f x y = false) (h : Kept f o) {s : St} (hs : Edge f s) : par f o s.x s.y = xor (par f o s.rx s.ry) (o s) := by
  obtain ⟨x, y, d⟩ := s
  have hd : d < 4 := hs.d
  have hl : f x y = true := hs.l
  have hr := hs.r
  have hc : d = 0 ∨ d = 1 ∨ d = 2 ∨ d = 3 := by omega
  rcases hc with rfl | rfl | rfl | rfl
  · have e1 : St.rx ⟨x, y, 0⟩ = x := by simp [St.rx, dxI]
    have e2 : St.ry ⟨x, y, 0⟩ = y - 1 := by simp [St.ry, dyI] <;> omega
    rw [e1, e2] at hr ⊢
    have := par_above (o := o) hf h x y
    rw [hE, hl, hr] at this
    simpa using this
  · have e1 : St.rx ⟨x, y, 1⟩ = x + 1 := by simp [St.rx, dxI]
    have e2 : St.ry ⟨x, y, 1⟩ = y := by simp [St.ry, dyI]
    rw [e1, e2] at hr ⊢
    have := par_right (o := o) hf (x + 1) y
    rw [vE, show x + 1 - 1 = x by omega, hl, hr] at this
    rw [this]
    simp
  · have e1 : St.rx ⟨x, y, 2⟩ = x := by simp [St.rx, dxI]
    have e2 : St.ry ⟨x, y, 2⟩ = y + 1 := by simp [St.ry, dyI]
    rw [e1, e2] at hr ⊢
    have := par_above (o := o) hf h x (y + 1)
    rw [hE, show y + 1 - 1 = y by omega, hl, hr] at this
    rw [this]
    simp
  · have e1 : St.rx ⟨x, y, 3⟩ = x - 1 := by simp [St.rx, dxI] <;> omega
    have e2 : St.ry ⟨x, y, 3⟩ = y := by simp [St.ry, dyI]
    rw [e1, e2] at hr ⊢
    have := par_right (o := o) hf x y
    rw [vE, hl, hr] at this
    simpa using this
/-- places beside each other, both in the set of places or both outside -/
theorem par_same_right (hf : ∀ x y : Int, x < 0 → f x y = false) {x y : Int} (e : f (x + 1) y = f x y) : par f o (x + 1) y = par f o x y := by
  have := par_right (o := o) hf (x + 1) y
  rw [vE, show x + 1 - 1 = x by omega, e] at this
  rw [this]
  cases f x y <;> simp
theorem par_same_up (hf : ∀ x y : Int, x < 0 → f x y = false) (h : Kept f o) {x y : Int} (e : f x (y + 1) = f x y) : par f o x (y + 1) = par f o x y := by
  have := par_above (o := o) hf h x (y + 1)
  rw [hE, show y + 1 - 1 = y by omega, e] at this
  rw [this]
  cases f x y <;> simp
/-- .. outside, across a corner -/
theorem par_diag (hf : ∀ x y : Int, x < 0 → f x y = false) (h : Kept f o) {x y : Int} (h1 : f x y = false) (h2 : f (x - 1) (y - 1) = false) : par f o x y = par f o (x - 1) (y - 1) := by
  by_cases hnw : f (x - 1) y = true
  · by_cases hse : f x (y - 1) = true
    · have k1 := par_right (o := o) hf x y
      have k2 := par_above (o := o) hf h (x - 1) y
      have k3 := kept_left h (d := 0) (e := 1) (by omega) hnw h2 (by simp [dxI] <;> omega) (by simp [dyI] <;> omega) h1 (by simp [dxI] <;> omega) (by simp [dyI] <;> omega) rfl
      rw [vE, hnw, h1] at k1
      rw [hE, hnw, h2] at k2
      rw [k1, k2, k3]
      simp
    · have hse' : f x (y - 1) = false := by simpa using hse
      have k1 := par_same_up (o := o) hf h (x := x) (y := y - 1) (by rw [show y - 1 + 1 = y by omega, h1, hse'])
      have k2 := par_same_right (o := o) hf (x := x - 1) (y := y - 1) (by rw [show x - 1 + 1 = x by omega, hse', h2])
      rw [show y - 1 + 1 = y by omega] at k1
      rw [show x - 1 + 1 = x by omega] at k2
      rw [k1, k2]
  · have hnw' : f (x - 1) y = false := by simpa using hnw
    have k1 := par_same_right (o := o) hf (x := x - 1) (y := y) (by rw [show x - 1 + 1 = x by omega, h1, hnw'])
    have k2 := par_same_up (o := o) hf h (x := x - 1) (y := y - 1) (by rw [show y - 1 + 1 = y by omega, hnw', h2])
    rw [show x - 1 + 1 = x by omega] at k1
    rw [show y - 1 + 1 = y by omega] at k2
    rw [k1, k2]
theorem par_diag2 (hf : ∀ x y : Int, x < 0 → f x y = false) (h : Kept f o) {x y : Int} (h1 : f (x - 1) y = false) (h2 : f x (y - 1) = false) : par f o (x - 1) y = par f o x (y - 1) := by
  by_cases hne : f x y = true
  · by_cases hsw : f (x - 1) (y - 1) = true
    · have k1 := par_right (o := o) hf x y
      have k2 := par_above (o := o) hf h x y
      have k3 := kept_left h (d := 3) (e := 0) (by omega) hne h1 (by simp [dxI] <;> omega) (by simp [dyI] <;> omega) h2 (by simp [dxI] <;> omega) (by simp [dyI] <;> omega) rfl
      rw [vE, hne, h1] at k1
      rw [hE, hne, h2, k3] at k2
      rw [k1] at k2
      simpa using k2
    · have hsw' : f (x - 1) (y - 1) = false := by simpa using hsw
      have k1 := par_same_up (o := o) hf h (x := x - 1) (y := y - 1) (by rw [show y - 1 + 1 = y by omega, h1, hsw'])
      have k2 := par_same_right (o := o) hf (x := x - 1) (y := y - 1) (by rw [show x - 1 + 1 = x by omega, hsw', h2])
      rw [show y - 1 + 1 = y by omega] at k1
      rw [show x - 1 + 1 = x by omega] at k2
      rw [k1, k2]
  · have hne' : f x y = false := by simpa using hne
    have k1 := par_same_right (o := o) hf (x := x - 1) (y := y) (by rw [show x - 1 + 1 = x by omega, h1, hne'])
    have k2 := par_same_up (o := o) hf h (x := x) (y := y - 1) (by rw [show y - 1 + 1 = y by omega, hne', h2])
    rw [show x - 1 + 1 = x by omega] at k1
    rw [show y - 1 + 1 = y by omega] at k2
    rw [← k1, k2]
/-- places from which the outside can be reached, also across corners -/
inductive Free (f : Int → Int → Bool) (W H : Nat) : Int → Int → Prop
  | out {x y : Int} : (x < 0 ∨ y < 0 ∨ (W : Int) ≤ x ∨ (H : Int) ≤ y) → Free f W H x y
  | step {x y x' y' : Int} : Free f W H x y → f x' y' = false → (x' = x - 1 ∨ x' = x ∨ x' = x + 1) → (y' = y - 1 ∨ y' = y ∨ y' = y + 1) → Free f W H x' y'
theorem InGrid.out {W H : Nat} (g : InGrid f W H) {x y : Int} (h : x < 0 ∨ y < 0 ∨ (W : Int) ≤ x ∨ (H : Int) ≤ y) : f x y = false := by
  cases hb : f x y
  · rfl
  · have := g.x x y hb
    have := g.y x y hb
    omega
theorem Free.no {W H : Nat} (g : InGrid f W H) {x y : Int} (h : Free f W H x y) : f x y = false := by
  cases h with
  | out h => exact g.out h
  | step _ h _ _ => exact h
theorem par_out {W H : Nat} (g : InGrid f W H) (h : Kept f o) {x y : Int} (hx : x < 0 ∨ y < 0 ∨ (W : Int) ≤ x ∨ (H : Int) ≤ y) : par f o x y = false := by
  have hf : ∀ x y : Int, x < 0 → f x y = false := fun x y hx => g.out (.inl hx)
  -- a row without places of the set
  have row : ∀ y : Int, (y < 0 ∨ (H : Int) ≤ y) → ∀ n : Nat, par f o ((n : Int) - 1) y = false := by
    intro y hy n
    induction n with
    | zero => exact par_neg (by omega)
    | succ n ih =>
      have k := par_right (o := o) hf (n : Int) y
      rw [show ((n + 1 : Nat) : Int) - 1 = (n : Int) by omega, k, ih, vE, g.out (x := (n : Int)) (y := y) (by omega), g.out (x := (n : Int) - 1) (y := y) (by omega)]
      rfl
  have row' : ∀ x y : Int, (y < 0 ∨ (H : Int) ≤ y) → par f o x y = false := by
    intro x y hy
    by_cases hx : x < 0
    · exact par_neg hx
    · have := row y hy (x + 1).toNat
      rwa [Int.toNat_of_nonneg (by omega), show x + 1 - 1 = x by omega] at this
  by_cases h1 : x < 0
  · exact par_neg h1
  by_cases h2 : y < 0 ∨ (H : Int) ≤ y
  · exact row' x y h2
  have h3 : (W : Int) ≤ x := by omega
  -- a column beyond the set
  have col : ∀ n : Nat, par f o x ((n : Int) - 1) = false := by
    intro n
    induction n with
    | zero => exact row' _ _ (by omega)
    | succ n ih =>
      have k := par_above (o := o) hf h x (n : Int)
      rw [show ((n + 1 : Nat) : Int) - 1 = (n : Int) by omega, k, ih, hE, g.out (x := x) (y := (n : Int)) (by omega), g.out (x := x) (y := (n : Int) - 1) (by omega)]
      rfl
  have := col (y + 1).toNat
  rwa [Int.toNat_of_nonneg (by omega), show y + 1 - 1 = y by omega] at this
theorem par_free {W H : Nat} (g : InGrid f W H) (h : Kept f o) {x y : Int} (hx : Free f W H x y) : par f o x y = false := by
  have hf : ∀ x y : Int, x < 0 → f x y = false := fun x y hx => g.out (.inl hx)
  induction hx with
  | out h1 => exact par_out g h h1
  | @step x y x' y' h1 h2 hx hy ih =>
    have h0 := h1.no g
    rw [← ih]
    rcases hx with rfl | rfl | rfl <;> rcases hy with rfl | rfl | rfl
    · exact (par_diag hf h h0 h2).symm
    · have k := par_same_right (o := o) hf (x := x - 1) (y := y') (by rw [show x - 1 + 1 = x by omega, h0, h2])
      rw [show x - 1 + 1 = x by omega] at k
      exact k.symm
    · have := par_diag2 (x := x) (y := y + 1) hf h h2 (by rw [show y + 1 - 1 = y by omega]; exact h0)
      rw [show y + 1 - 1 = y by omega] at this
      exact this
    · have k := par_same_up (o := o) hf h (x := x') (y := y - 1) (by rw [show y - 1 + 1 = y by omega, h0, h2])
      rw [show y - 1 + 1 = y by omega] at k
      exact k.symm
    · rfl
    · exact par_same_up hf h (by rw [h0, h2])
    · have := par_diag2 (x := x + 1) (y := y) hf h (by rw [show x + 1 - 1 = x by omega]; exact h0) h2
      rw [show x + 1 - 1 = x by omega] at this
      exact this.symm
    · exact par_same_right hf (by rw [h0, h2])
    · have := par_diag (x := x + 1) (y := y + 1) hf h h2 (by rw [show x + 1 - 1 = x by omega, show y + 1 - 1 = y by omega]; exact h0)
      rw [show x + 1 - 1 = x by omega, show y + 1 - 1 = y by omega] at this
      exact this

/-- places of the set that hang together -/
inductive Hang (f : Int → Int → Bool) (x0 y0 : Int) : Int → Int → Prop
  | refl : Hang f x0 y0 x0 y0
  | step {x y x' y' : Int} : Hang f x0 y0 x y → f x' y' = true → ((x' = x - 1 ∨ x' = x + 1) ∧ y' = y ∨ x' = x ∧ (y' = y - 1 ∨ y' = y + 1)) → Hang f x0 y0 x' y'
theorem Hang.yes {x0 y0 x y : Int} (h : Hang f x0 y0 x y) (h0 : f x0 y0 = true) : f x y = true := by
  cases h with
  | refl => exact h0
  | step _ h _ => exact h
theorem par_hang (hf : ∀ x y : Int, x < 0 → f x y = false) (h : Kept f o) {x0 y0 x y : Int} (h0 : f x0 y0 = true) (hx : Hang f x0 y0 x y) : par f o x y = par f o x0 y0 := by
  induction hx with
  | refl => rfl
  | @step x y x' y' h1 h2 hc ih =>
    have hy := h1.yes h0
    rw [← ih]
    rcases hc with ⟨rfl | rfl, rfl⟩ | ⟨rfl, rfl | rfl⟩
    · have k := par_same_right (o := o) hf (x := x - 1) (y := y') (by rw [show x - 1 + 1 = x by omega, hy, h2])
      rw [show x - 1 + 1 = x by omega] at k
      exact k.symm
    · exact par_same_right hf (by rw [hy, h2])
    · have k := par_same_up (o := o) hf h (x := x') (y := y - 1) (by rw [show y - 1 + 1 = y by omega, hy, h2])
      rw [show y - 1 + 1 = y by omega] at k
      exact k.symm
    · exact par_same_up hf h (by rw [hy, h2])
/-- connected and without a hole: a set of sides that the walk keeps, with one side in it, has all -/
theorem kept_all {W H : Nat} (g : InGrid f W H) (h : Kept f o) {s : St} (hs : Edge f s) (hos : o s = true) (hcon : ∀ x y, f x y = true → Hang f s.x s.y x y) (hfree : ∀ x y, f x y = false → Free f W H x y) {t : St} (ht : Edge f t) : o t = true := by
  have hf : ∀ x y : Int, x < 0 → f x y = false := fun x y hx => g.out (.inl hx)
  have k1 := par_edge hf h hs
  have k2 := par_edge hf h ht
  rw [par_free g h (hfree _ _ hs.r), hos] at k1
  rw [par_free g h (hfree _ _ ht.r), par_hang hf h hs.l (hcon _ _ ht.l), k1] at k2
  simpa using k2.symm

/-! what the walk meets -/
theorem nxt_hang {x0 y0 : Int} {s : St} (hs : Edge f s) (h : Hang f x0 y0 s.x s.y) : Hang f x0 y0 (nxt f s).x (nxt f s).y := by
  obtain ⟨x, y, d⟩ := s
  have hd : d < 4 := hs.d
  by_cases h1 : f (St.onx ⟨x, y, d⟩) (St.ony ⟨x, y, d⟩) = true
  · have hon : Hang f x0 y0 (St.onx ⟨x, y, d⟩) (St.ony ⟨x, y, d⟩) := by
      refine .step h h1 ?_
      simp only [St.onx, St.ony]
      have hc : d = 0 ∨ d = 1 ∨ d = 2 ∨ d = 3 := by omega
      rcases hc with rfl | rfl | rfl | rfl <;> simp [dxI, dyI] <;> omega
    by_cases h2 : f (St.ox ⟨x, y, d⟩) (St.oy ⟨x, y, d⟩) = true
    · rw [nxt_right h1 h2]
      refine .step hon h2 ?_
      simp only [St.ox, St.oy]
      generalize St.onx ⟨x, y, d⟩ = u
      generalize St.ony ⟨x, y, d⟩ = v
      have hc : d = 0 ∨ d = 1 ∨ d = 2 ∨ d = 3 := by omega
      rcases hc with rfl | rfl | rfl | rfl <;> simp [dxI, dyI] <;> omega
    · rw [nxt_on h1 (by simpa using h2)]
      exact hon
  · rw [nxt_left (by simpa using h1)]
    exact h
theorem nxt_free {W H : Nat} {s : St} (hs : Edge f s) (h : Free f W H s.rx s.ry) : Free f W H (nxt f s).rx (nxt f s).ry := by
  have he := nxt_edge hs
  obtain ⟨x, y, d⟩ := s
  have hd : d < 4 := hs.d
  refine .step h he.r ?_ ?_ <;> clear h he
  all_goals
    by_cases h1 : f (St.onx ⟨x, y, d⟩) (St.ony ⟨x, y, d⟩) = true
    · by_cases h2 : f (St.ox ⟨x, y, d⟩) (St.oy ⟨x, y, d⟩) = true
      · rw [nxt_right h1 h2]
        simp only [St.rx, St.ry, St.ox, St.oy, St.onx, St.ony]
        have hc : d = 0 ∨ d = 1 ∨ d = 2 ∨ d = 3 := by omega
        rcases hc with rfl | rfl | rfl | rfl <;> simp [dxI, dyI] <;> omega
      · rw [nxt_on h1 (by simpa using h2)]
        simp only [St.rx, St.ry, St.onx, St.ony]
        have hc : d = 0 ∨ d = 1 ∨ d = 2 ∨ d = 3 := by omega
        rcases hc with rfl | rfl | rfl | rfl <;> simp [dxI, dyI] <;> omega
    · rw [nxt_left (by simpa using h1)]
      simp only [St.rx, St.ry]
      have hc : d = 0 ∨ d = 1 ∨ d = 2 ∨ d = 3 := by omega
      rcases hc with rfl | rfl | rfl | rfl <;> simp [dxI, dyI] <;> omega
theorem it_hang {s : St} (hs : Edge f s) : ∀ k, Hang f s.x s.y (itN f k s).x (itN f k s).y
  | 0 => .refl
  | k + 1 => nxt_hang (itN_edge hs k) (it_hang hs k)
theorem it_free {W H : Nat} {s : St} (hs : Edge f s) (h : Free f W H s.rx s.ry) : ∀ k, Free f W H (itN f k s).rx (itN f k s).ry
  | 0 => h
  | k + 1 => nxt_free (itN_edge hs k) (it_free hs h k)
/-- down a column, as long as it goes -/
theorem down_to (p : Int → Bool) : ∀ (n : Nat) (y : Int), y ≤ n → p y = true → (∀ z : Int, z < 0 → p z = false) → ∃ z, z ≤ y ∧ p (z - 1) = false ∧ ∀ t, z ≤ t → t ≤ y → p t = true
  | 0, y, hy, hp, hn => by
    have h0 : y = 0 := by
      rcases Int.lt_or_le y 0 with h | h
      · rw [hn y h] at hp; cases hp
      · omega
    subst h0
    exact ⟨0, by omega, hn _ (by omega), fun t h1 h2 => by rw [show t = 0 by omega]; exact hp⟩
  | n + 1, y, hy, hp, hn => by
    cases hb : p (y - 1)
    · exact ⟨y, by omega, hb, fun t h1 h2 => by rw [show t = y by omega]; exact hp⟩
    · obtain ⟨z, h1, h2, h3⟩ := down_to p n (y - 1) (by omega) hb hn
      refine ⟨z, by omega, h2, fun t h4 h5 => ?_⟩
      by_cases ht : t = y
      · rw [ht]; exact hp
      · exact h3 t h4 (by omega)
theorem hang_column {x : Int} : ∀ (n : Nat) {y z : Int}, y = z + n → (∀ t, z ≤ t → t ≤ y → f x t = true) → Hang f x z x y
  | 0, y, z, h, _ => by rw [show y = z by omega]; exact .refl
  | n + 1, y, z, h, ht => .step (hang_column n (y := y - 1) (by omega) fun t h1 h2 => ht t h1 (by omega)) (ht y (by omega) (by omega)) (.inr ⟨rfl, .inr (by omega)⟩)
theorem Hang.trans {x0 y0 x1 y1 x y : Int} (h : Hang f x0 y0 x1 y1) (h2 : Hang f x1 y1 x y) : Hang f x0 y0 x y := by
  induction h2 with
  | refl => exact h
  | step _ h1 hc ih => exact .step ih h1 hc
/-- a walk that has all sides: connected and without a hole -/
theorem all_whole {W H : Nat} (g : InGrid f W H) {s : St} (hs : Edge f s) (hfr : Free f W H s.rx s.ry) (hall : ∀ t, Edge f t → ∃ k, itN f k s = t) :
    (∀ x y, f x y = true → Hang f s.x s.y x y) ∧ (∀ x y, f x y = false → Free f W H x y) := by
  refine ⟨fun x y h => ?_, fun x y h => ?_⟩
  · have hy := g.y x y h
    obtain ⟨z, h1, h2, h3⟩ := down_to (fun t => f x t) y.toNat y (by omega) h (fun t ht => g.out (.inr (.inl ht)))
    have he : Edge f ⟨x, z, 0⟩ := ⟨by show 0 < 4; omega, (show f x z = true from h3 z (Int.le_refl _) h1), by
      have e1 : St.rx ⟨x, z, 0⟩ = x := by simp [St.rx, dxI]
      have e2 : St.ry ⟨x, z, 0⟩ = z - 1 := by simp [St.ry, dyI] <;> omega
      rw [e1, e2]; exact h2⟩
    obtain ⟨k, hk⟩ := hall _ he
    have := it_hang hs k
    rw [hk] at this
    exact this.trans (hang_column (y := y) (z := z) (y - z).toNat (by omega) fun t h4 h5 => h3 t h4 h5)
  · apply Classical.byContradiction
    intro hno
    -- down to the first place that is not free
    have key : ∀ (n : Nat) (y : Int), y ≤ n → ¬ Free f W H x y → f x y = false → ∃ z, ¬ Free f W H x z ∧ f x (z - 1) = true ∧ f x z = false := by
      intro n
      induction n with
      | zero =>
        intro y hy h1 h2
        rcases Int.lt_or_le y 0 with h | h
        · exact absurd (.out (.inr (.inl h))) h1
        · obtain rfl : y = 0 := by omega
          exact absurd (.step (.out (x := x) (y := -1) (.inr (.inl (by omega)))) h2 (.inr (.inl rfl)) (.inr (.inr (by omega)))) h1
      | succ n ih =>
        intro y hy h1 h2
        cases hb : f x (y - 1)
        · refine ih (y - 1) (by omega) (fun hf => h1 ?_) hb
          exact .step hf h2 (.inr (.inl rfl)) (.inr (.inr (by omega)))
        · exact ⟨y, h1, hb, h2⟩
    obtain ⟨z, h1, h2, h3⟩ := key y.toNat y (by omega) hno h
    have he : Edge f ⟨x, z - 1, 2⟩ := ⟨by show 2 < 4; omega, h2, by
      have e1 : St.rx ⟨x, z - 1, 2⟩ = x := by simp [St.rx, dxI]
      have e2 : St.ry ⟨x, z - 1, 2⟩ = z := by simp [St.ry, dyI] <;> omega
      rw [e1, e2]; exact h3⟩
    obtain ⟨k, hk⟩ := hall _ he
    have := it_free hs hfr k
    rw [hk] at this
    have e1 : St.rx ⟨x, z - 1, 2⟩ = x := by simp [St.rx, dxI]
    have e2 : St.ry ⟨x, z - 1, 2⟩ = z := by simp [St.ry, dyI] <;> omega
    rw [e1, e2] at this
    exact h1 this
end
end Go.Proofs.Ytdkcpnmaglkmnaa

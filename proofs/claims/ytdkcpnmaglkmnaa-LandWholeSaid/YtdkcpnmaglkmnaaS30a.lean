/-! Plain law: sums of counts over a grid. No statement about the program. -/
namespace Go.Proofs.Ytdkcpnmaglkmnaa
set_option linter.unusedVariables false

/-- the sum of the first n numbers -/
def sumN : Nat → (Nat → Nat) → Nat
  | 0, _ => 0
  | n + 1, f => sumN n f + f n
/-- 1 if so -/
def one (b : Bool) : Nat := if b then 1 else 0
theorem one_le (b : Bool) : one b ≤ 1 := by unfold one; split <;> omega
theorem sumN_succ (n : Nat) (f : Nat → Nat) : sumN (n + 1) f = sumN n f + f n := rfl
theorem sumN_congr {n : Nat} {f g : Nat → Nat} (h : ∀ i, i < n → f i = g i) : sumN n f = sumN n g := by
  induction n with
  | zero => rfl
  | succ n ih => rw [sumN, sumN, ih (fun i hi => h i (by omega)), h n (by omega)]
theorem sumN_zero {n : Nat} {f : Nat → Nat} (h : ∀ i, i < n → f i = 0) : sumN n f = 0 := by
  induction n with
  | zero => rfl
  | succ n ih => rw [sumN, ih (fun i hi => h i (by omega)), h n (by omega)]
theorem sumN_add (n : Nat) (f g : Nat → Nat) : sumN n (fun i => f i + g i) = sumN n f + sumN n g := by
  induction n with
  | zero => rfl
  | succ n ih => simp only [sumN, ih]; omega
theorem sumN_front (n : Nat) (f : Nat → Nat) : sumN (n + 1) f = f 0 + sumN n (fun i => f (i + 1)) := by
  induction n with
  | zero => simp [sumN]
  | succ n ih => rw [sumN_succ, ih, sumN_succ]; omega
theorem sumN_le {n : Nat} {f : Nat → Nat} {c : Nat} (h : ∀ i, i < n → f i ≤ c) : sumN n f ≤ n * c := by
  induction n with
  | zero => simp [sumN]
  | succ n ih =>
    have h1 := ih fun i hi => h i (by omega)
    have h2 := h n (by omega)
    rw [sumN, Nat.add_mul]
    omega
theorem sumN_swap (n m : Nat) (f : Nat → Nat → Nat) : sumN n (fun i => sumN m (fun j => f i j)) = sumN m (fun j => sumN n (fun i => f i j)) := by
  induction n with
  | zero => rw [sumN]; exact (sumN_zero fun _ _ => rfl).symm
  | succ n ih => rw [sumN, ih, ← sumN_add]; rfl
theorem sumN_pad (n k : Nat) (f : Nat → Nat) (h : ∀ i, n ≤ i → i < n + k → f i = 0) : sumN (n + k) f = sumN n f := by
  induction k with
  | zero => rfl
  | succ k ih => rw [← Nat.add_assoc, sumN, ih (fun i h1 h2 => h i h1 (by omega)), h (n + k) (by omega) (by omega)]; rfl
/-- a grid, row by row -/
theorem sumN_grid (W : Nat) (hW : 0 < W) (f : Nat → Nat → Nat) : ∀ H : Nat, sumN (W * H) (fun i => f (i % W) (i / W)) = sumN H (fun y => sumN W (fun x => f x y))
  | 0 => by simp [sumN]
  | H + 1 => by
    have key : ∀ k, k ≤ W → sumN (W * H + k) (fun i => f (i % W) (i / W)) = sumN (W * H) (fun i => f (i % W) (i / W)) + sumN k (fun x => f x H) := by
      intro k
      induction k with
      | zero => intro _; rfl
      | succ k ih =>
        intro hk
        have h1 : (W * H + k) % W = k := by rw [Nat.mul_add_mod]; exact Nat.mod_eq_of_lt (by omega)
        have h2 : (W * H + k) / W = H := by
          rw [Nat.mul_add_div hW, Nat.div_eq_of_lt (by omega)]; omega
        rw [← Nat.add_assoc, sumN, ih (by omega), sumN_succ, h1, h2]
        omega
    rw [Nat.mul_add, Nat.mul_one, key W (Nat.le_refl _), sumN_grid W hW f H, sumN_succ]

/-- the changes along a row: those to the right and those to the left of what is in it -/
theorem row_changes (W : Nat) (h : Int → Bool) (h0 : ∀ x : Int, x < 0 → h x = false) (h1 : ∀ x : Int, (W : Int) ≤ x → h x = false) :
    sumN (W + 2) (fun xx => one (h ((xx : Int) - 1) != h (xx : Int))) = sumN W (fun x => if h x then one (!h ((x : Int) + 1)) + one (!h ((x : Int) - 1)) else 0) := by
  have e1 : ∀ p q : Bool, one (p != q) = one (p && !q) + one (!p && q) := by decide
  rw [sumN_congr (g := fun xx => one (h ((xx : Int) - 1) && !h (xx : Int)) + one (!h ((xx : Int) - 1) && h (xx : Int))) (fun i _ => e1 _ _), sumN_add]
  have a1 : sumN (W + 2) (fun xx => one (h ((xx : Int) - 1) && !h (xx : Int))) = sumN W (fun x => one (h x && !h ((x : Int) + 1))) := by
    rw [sumN_front (W + 1)]
    have z0 : h (((0 : Nat) : Int) - 1) = false := h0 _ (by omega)
    rw [z0]
    have : sumN (W + 1) (fun i => one (h (((i + 1 : Nat) : Int) - 1) && !h ((i + 1 : Nat) : Int))) = sumN (W + 1) (fun x => one (h x && !h ((x : Int) + 1))) :=
      sumN_congr fun i _ => by
        rw [show (((i + 1 : Nat) : Int) - 1) = (i : Int) by omega, show ((i + 1 : Nat) : Int) = (i : Int) + 1 by omega]
    rw [this, sumN_succ, h1 (W : Int) (by omega)]
    simp [one]
  have a2 : sumN (W + 2) (fun xx => one (!h ((xx : Int) - 1) && h (xx : Int))) = sumN W (fun x => one (!h ((x : Int) - 1) && h x)) :=
    sumN_pad W 2 _ fun i hi _ => by rw [h1 (i : Int) (by omega)]; simp [one]
  rw [a1, a2, ← sumN_add]
  refine sumN_congr fun i _ => ?_
  cases h (i : Int) <;> simp [one]

/-- the boundary of a set of places: the changes in rows and columns are its sides -/
theorem boundary_law (W H : Nat) (f : Int → Int → Bool) (hx0 : ∀ x y : Int, x < 0 → f x y = false) (hx1 : ∀ x y : Int, (W : Int) ≤ x → f x y = false)
    (hy0 : ∀ x y : Int, y < 0 → f x y = false) (hy1 : ∀ x y : Int, (H : Int) ≤ y → f x y = false) :
    sumN (H + 2) (fun yy => sumN (W + 2) (fun xx => one (f ((xx : Int) - 1) ((yy : Int) - 1) != f (xx : Int) ((yy : Int) - 1)) + one (f ((xx : Int) - 1) ((yy : Int) - 1) != f ((xx : Int) - 1) (yy : Int))))
      = sumN H (fun y => sumN W (fun x => if f x y then (one (!f ((x : Int) + 1) y) + one (!f ((x : Int) - 1) y)) + (one (!f x ((y : Int) + 1)) + one (!f x ((y : Int) - 1))) else 0)) := by
  have hrow : ∀ yy : Nat, sumN (W + 2) (fun xx => one (f ((xx : Int) - 1) ((yy : Int) - 1) != f (xx : Int) ((yy : Int) - 1))) = sumN W (fun x => if f x ((yy : Int) - 1) then one (!f ((x : Int) + 1) ((yy : Int) - 1)) + one (!f ((x : Int) - 1) ((yy : Int) - 1)) else 0) :=
    fun yy => row_changes W (fun x => f x ((yy : Int) - 1)) (fun x hx => hx0 _ _ hx) (fun x hx => hx1 _ _ hx)
  have hcol : ∀ xx : Nat, sumN (H + 2) (fun yy => one (f ((xx : Int) - 1) ((yy : Int) - 1) != f ((xx : Int) - 1) (yy : Int))) = sumN H (fun y => if f ((xx : Int) - 1) y then one (!f ((xx : Int) - 1) ((y : Int) + 1)) + one (!f ((xx : Int) - 1) ((y : Int) - 1)) else 0) :=
    fun xx => row_changes H (fun y => f ((xx : Int) - 1) y) (fun y hy => hy0 _ _ hy) (fun y hy => hy1 _ _ hy)
  rw [sumN_congr (fun yy _ => sumN_add (W + 2) _ _), sumN_add, sumN_congr (fun yy _ => hrow yy), sumN_swap (H + 2) (W + 2), sumN_congr (fun xx _ => hcol xx)]
  -- the rows: the first and the last are empty
  have b1 : sumN (H + 2) (fun yy => sumN W (fun x => if f x ((yy : Int) - 1) then one (!f ((x : Int) + 1) ((yy : Int) - 1)) + one (!f ((x : Int) - 1) ((yy : Int) - 1)) else 0))
      = sumN H (fun y => sumN W (fun x => if f x y then one (!f ((x : Int) + 1) y) + one (!f ((x : Int) - 1) y) else 0)) := by
    rw [sumN_front (H + 1), sumN_succ]
    rw [sumN_zero (n := W) (f := fun x => if f x (((0 : Nat) : Int) - 1) then _ else 0) (fun x _ => by rw [hy0 _ _ (by omega)]; rfl)]
    rw [sumN_zero (n := W) (f := fun x => if f x (((H + 1 : Nat) : Int) - 1) then _ else 0) (fun x _ => by rw [hy1 _ _ (by omega)]; rfl)]
    rw [Nat.zero_add, Nat.add_zero]
    exact sumN_congr fun y _ => by rw [show (((y + 1 : Nat) : Int) - 1) = (y : Int) by omega]
  have b2 : sumN (W + 2) (fun xx => sumN H (fun y => if f ((xx : Int) - 1) y then one (!f ((xx : Int) - 1) ((y : Int) + 1)) + one (!f ((xx : Int) - 1) ((y : Int) - 1)) else 0))
      = sumN H (fun y => sumN W (fun x => if f x y then one (!f x ((y : Int) + 1)) + one (!f x ((y : Int) - 1)) else 0)) := by
    rw [sumN_swap H W, sumN_front (W + 1), sumN_succ]
    rw [sumN_zero (n := H) (f := fun y => if f (((0 : Nat) : Int) - 1) y then _ else 0) (fun y _ => by rw [hx0 _ _ (by omega)]; rfl)]
    rw [sumN_zero (n := H) (f := fun y => if f (((W + 1 : Nat) : Int) - 1) y then _ else 0) (fun y _ => by rw [hx1 _ _ (by omega)]; rfl)]
    rw [Nat.zero_add, Nat.add_zero]
    exact sumN_congr fun x _ => by rw [show (((x + 1 : Nat) : Int) - 1) = (x : Int) by omega]
  rw [b1, b2, ← sumN_add]
  refine sumN_congr fun y _ => ?_
  rw [← sumN_add]
  refine sumN_congr fun x _ => ?_
  cases f (x : Int) (y : Int) <;> simp

theorem mul_one_cases {p q : Int} (h : p * p + q * q = 1) : (p = 1 ∧ q = 0) ∨ (p = -1 ∧ q = 0) ∨ (p = 0 ∧ q = 1) ∨ (p = 0 ∧ q = -1) := by
  have hp : 0 ≤ p * p := by
    rcases Int.le_total 0 p with h0 | h0
    · exact Int.mul_nonneg h0 h0
    · exact Int.mul_nonneg_of_nonpos_of_nonpos h0 h0
  have hq : 0 ≤ q * q := by
    rcases Int.le_total 0 q with h0 | h0
    · exact Int.mul_nonneg h0 h0
    · exact Int.mul_nonneg_of_nonpos_of_nonpos h0 h0
  have bound : ∀ r : Int, r * r ≤ 1 → -1 ≤ r ∧ r ≤ 1 := by
    intro r hr
    refine ⟨?_, ?_⟩
    · rcases Int.lt_or_le r (-1) with h1 | h1
      · have : 2 * 2 ≤ (-r) * (-r) := Int.mul_le_mul (by omega) (by omega) (by omega) (by omega)
        rw [Int.neg_mul_neg] at this
        omega
      · exact h1
    · rcases Int.lt_or_le 1 r with h1 | h1
      · have : 2 * 2 ≤ r * r := Int.mul_le_mul (by omega) (by omega) (by omega) (by omega)
        omega
      · exact h1
  have bp := bound p (by omega)
  have bq := bound q (by omega)
  have cp : p = -1 ∨ p = 0 ∨ p = 1 := by omega
  have cq : q = -1 ∨ q = 0 ∨ q = 1 := by omega
  rcases cp with rfl | rfl | rfl <;> rcases cq with rfl | rfl | rfl <;> simp at h ⊢

/-- how often a value is met at one place -/
theorem sumN_at (n : Nat) (u : Int) (c : Nat) : sumN n (fun x => if (x : Int) = u then c else 0) = if 0 ≤ u ∧ u < n then c else 0 := by
  induction n with
  | zero => rw [sumN, if_neg (by omega)]
  | succ n ih =>
    rw [sumN, ih]
    by_cases h : (n : Int) = u
    · rw [if_pos h, if_neg (by omega), if_pos (by omega)]; omega
    · rw [if_neg h]
      by_cases h2 : 0 ≤ u ∧ u < n
      · rw [if_pos h2, if_pos (by omega)]; omega
      · rw [if_neg h2, if_neg (by omega)]
theorem sumN_at2 (W H : Nat) (u v : Int) (c : Nat) : sumN H (fun y => sumN W (fun x => if (x : Int) = u ∧ (y : Int) = v then c else 0)) = if (0 ≤ u ∧ u < W) ∧ 0 ≤ v ∧ v < H then c else 0 := by
  have e : sumN H (fun y => sumN W (fun x => if (x : Int) = u ∧ (y : Int) = v then c else 0)) = sumN H (fun y => if (y : Int) = v then (if 0 ≤ u ∧ u < W then c else 0) else 0) :=
    sumN_congr fun y _ => by
      by_cases h : (y : Int) = v
      · rw [if_pos h, ← sumN_at]
        exact sumN_congr fun x _ => by simp [h]
      · rw [if_neg h]
        exact sumN_zero fun x _ => by rw [if_neg (by simp [h])]
  rw [e, sumN_at]
  by_cases h1 : 0 ≤ u ∧ u < (W : Int)
  · simp [h1]
  · simp [h1]

/-- the neighbours of a place that are in a set of places -/
theorem border_law (W H : Nat) (g : Int → Int → Bool) (hx0 : ∀ x y : Int, x < 0 → g x y = false) (hx1 : ∀ x y : Int, (W : Int) ≤ x → g x y = false)
    (hy0 : ∀ x y : Int, y < 0 → g x y = false) (hy1 : ∀ x y : Int, (H : Int) ≤ y → g x y = false) (u v : Int) :
    sumN H (fun y => sumN W (fun x => one (g x y && decide ((u - x) * (u - x) + (v - y) * (v - y) = 1))))
      = (one (g (u + 1) v) + one (g (u - 1) v)) + (one (g u (v + 1)) + one (g u (v - 1))) := by
  have pt : ∀ x y : Int, one (g x y && decide ((u - x) * (u - x) + (v - y) * (v - y) = 1))
      = ((if x = u + 1 ∧ y = v then one (g (u + 1) v) else 0) + (if x = u - 1 ∧ y = v then one (g (u - 1) v) else 0)) + ((if x = u ∧ y = v + 1 then one (g u (v + 1)) else 0) + (if x = u ∧ y = v - 1 then one (g u (v - 1)) else 0)) := by
    intro x y
    by_cases h : (u - x) * (u - x) + (v - y) * (v - y) = 1
    · rw [decide_eq_true h, Bool.and_true]
      rcases mul_one_cases h with ⟨h1, h2⟩ | ⟨h1, h2⟩ | ⟨h1, h2⟩ | ⟨h1, h2⟩
      · obtain rfl : x = u - 1 := by omega
        obtain rfl : y = v := by omega
        rw [if_neg (by omega), if_pos (by omega), if_neg (by omega), if_neg (by omega)]; omega
      · obtain rfl : x = u + 1 := by omega
        obtain rfl : y = v := by omega
        rw [if_pos (by omega), if_neg (by omega), if_neg (by omega), if_neg (by omega)]; omega
      · obtain rfl : x = u := by omega
        obtain rfl : y = v - 1 := by omega
        rw [if_neg (by omega), if_neg (by omega), if_neg (by omega), if_pos (by omega)]; omega
      · obtain rfl : x = u := by omega
        obtain rfl : y = v + 1 := by omega
        rw [if_neg (by omega), if_neg (by omega), if_pos (by omega), if_neg (by omega)]; omega
    · rw [decide_eq_false h, Bool.and_false]
      have n1 : ¬ (x = u + 1 ∧ y = v) := by
        rintro ⟨rfl, rfl⟩; apply h; rw [show u - (u + 1) = -1 by omega, show y - y = 0 by omega]; decide
      have n2 : ¬ (x = u - 1 ∧ y = v) := by
        rintro ⟨rfl, rfl⟩; apply h; rw [show u - (u - 1) = 1 by omega, show y - y = 0 by omega]; decide
      have n3 : ¬ (x = u ∧ y = v + 1) := by
        rintro ⟨rfl, rfl⟩; apply h; rw [show v - (v + 1) = -1 by omega, show x - x = 0 by omega]; decide
      have n4 : ¬ (x = u ∧ y = v - 1) := by
        rintro ⟨rfl, rfl⟩; apply h; rw [show v - (v - 1) = 1 by omega, show x - x = 0 by omega]; decide
      rw [if_neg n1, if_neg n2, if_neg n3, if_neg n4]; rfl
  have e : sumN H (fun y => sumN W (fun x => one (g x y && decide ((u - x) * (u - x) + (v - y) * (v - y) = 1))))
      = (sumN H (fun y => sumN W (fun x => if (x : Int) = u + 1 ∧ (y : Int) = v then one (g (u + 1) v) else 0)) + sumN H (fun y => sumN W (fun x => if (x : Int) = u - 1 ∧ (y : Int) = v then one (g (u - 1) v) else 0)))
        + (sumN H (fun y => sumN W (fun x => if (x : Int) = u ∧ (y : Int) = v + 1 then one (g u (v + 1)) else 0)) + sumN H (fun y => sumN W (fun x => if (x : Int) = u ∧ (y : Int) = v - 1 then one (g u (v - 1)) else 0))) := by
    rw [← sumN_add, ← sumN_add, ← sumN_add]
    refine sumN_congr fun y _ => ?_
    rw [← sumN_add, ← sumN_add, ← sumN_add]
    exact sumN_congr fun x _ => pt x y
  have out : ∀ a b : Int, (if (0 ≤ a ∧ a < (W : Int)) ∧ 0 ≤ b ∧ b < (H : Int) then one (g a b) else 0) = one (g a b) := by
    intro a b
    by_cases h : (0 ≤ a ∧ a < (W : Int)) ∧ 0 ≤ b ∧ b < (H : Int)
    · rw [if_pos h]
    · rw [if_neg h]
      have : g a b = false := by
        by_cases q1 : a < 0
        · exact hx0 _ _ q1
        · by_cases q2 : (W : Int) ≤ a
          · exact hx1 _ _ q2
          · by_cases q3 : b < 0
            · exact hy0 _ _ q3
            · exact hy1 _ _ (by omega)
      rw [this]; rfl
  rw [e, sumN_at2, sumN_at2, sumN_at2, sumN_at2, out, out, out, out]
end Go.Proofs.Ytdkcpnmaglkmnaa

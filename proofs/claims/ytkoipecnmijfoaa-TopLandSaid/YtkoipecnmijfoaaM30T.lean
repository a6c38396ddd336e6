import Derived.Test.YtkoipecnmijfoaaM35a
import Derived.Maps.OwnSet
import Derived.Maps.OwnOps
import Derived.Test.YtkoipecnmijfoaaSort
import Derived.Sort.OwnSortedInts
import Derived.Deep.DeepMust
/-! Texts that were built one by one, in one file. -/
-- holds: S30c W30a W30b W30c S30b W30d S30a W30e S30d W30f S30g W30m W30n S30h S30i S30j W30o W30q

section
/-! Plain functions on land. No statement about the program. -/
namespace Go.Proofs.Ytkoipecnmijfoaa
set_option linter.unusedVariables false

def badOwn (a : Int) : Bool := decide (a < -1) || decide (6 ≤ a)
/-- the error of land -/
def lck (W H : Int) (L : List Int) : Int := if 12 < W ∨ 12 < H then 4 else if W < 1 ∨ H < 1 ∨ (L.length : Int) ≠ W * H ∨ L.any badOwn = true then 8 else 0
theorem lck_many {W H : Int} {L : List Int} (h : 12 < W ∨ 12 < H) : lck W H L = 4 := by rw [lck, if_pos h]
theorem lck_bad {W H : Int} {L : List Int} (h : ¬ (12 < W ∨ 12 < H)) (h2 : W < 1 ∨ H < 1 ∨ (L.length : Int) ≠ W * H ∨ L.any badOwn = true) : lck W H L = 8 := by rw [lck, if_neg h, if_pos h2]
theorem lck_ok {W H : Int} {L : List Int} (h : ¬ (12 < W ∨ 12 < H)) (h2 : ¬ (W < 1 ∨ H < 1 ∨ (L.length : Int) ≠ W * H ∨ L.any badOwn = true)) : lck W H L = 0 := by rw [lck, if_neg h, if_neg h2]
/-- land without error -/
structure VL (w h : Nat) (L : List Int) : Prop where
  w0 : 1 ≤ w
  w1 : w ≤ 12
  h0 : 1 ≤ h
  h1 : h ≤ 12
  len : L.length = w * h
  bd : ∀ x ∈ L, -1 ≤ x ∧ x ≤ 5
theorem mul_le_144 {a b : Nat} (ha : a ≤ 12) (hb : b ≤ 12) : a * b ≤ 144 := Nat.le_trans (Nat.mul_le_mul ha hb) (by decide)
theorem VL.len144 {w h : Nat} {L : List Int} (v : VL w h L) : L.length ≤ 144 := by rw [v.len]; exact mul_le_144 v.w1 v.h1
theorem lck_zero {W H : Int} {L : List Int} (h : lck W H L = 0) : ∃ w h : Nat, W = w ∧ H = h ∧ VL w h L := by
  unfold lck at h
  split at h
  · exact absurd h (by decide)
  · rename_i h1
    split at h
    · exact absurd h (by decide)
    · rename_i h2
      obtain ⟨w, rfl⟩ := Int.eq_ofNat_of_zero_le (show 0 ≤ W by omega)
      obtain ⟨k, rfl⟩ := Int.eq_ofNat_of_zero_le (show 0 ≤ H by omega)
      refine ⟨w, k, rfl, rfl, by omega, by omega, by omega, by omega, ?_, ?_⟩
      · have : (L.length : Int) = (w : Int) * k := by
          rcases Decidable.em ((L.length : Int) = (w : Int) * k) with h3 | h3
          · exact h3
          · exact absurd (.inr (.inr (.inl h3))) h2
        rw [← Int.natCast_mul] at this
        omega
      · have h3 : L.any badOwn = false := by
          cases hb : L.any badOwn
          · rfl
          · exact absurd (.inr (.inr (.inr hb))) h2
        intro x hx
        have := List.any_eq_false.1 h3 x hx
        simp [badOwn] at this
        omega
theorem lck_of {w h : Nat} {L : List Int} (v : VL w h L) : lck w h L = 0 := by
  have := v.w0; have := v.w1; have := v.h0; have := v.h1
  refine lck_ok (by omega) ?_
  rintro (h1 | h1 | h1 | h1)
  · omega
  · omega
  · apply h1; rw [v.len, Int.natCast_mul]
  · obtain ⟨x, hx, hb⟩ := List.any_eq_true.1 h1
    have := v.bd x hx
    simp [badOwn] at hb
    omega
/-- the error of land and an agent -/
def lkd (W H : Int) (L : List Int) (a : Int) : Int := if lck W H L ≠ 0 then lck W H L else if a < 0 ∨ 6 ≤ a then 2 else 0
theorem lkd_chk {W H : Int} {L : List Int} {a : Int} (h : lck W H L ≠ 0) : lkd W H L a = lck W H L := by rw [lkd, if_pos h]
theorem lkd_arg {W H : Int} {L : List Int} {a : Int} (h : lck W H L = 0) (h2 : a < 0 ∨ 6 ≤ a) : lkd W H L a = 2 := by rw [lkd, if_neg (by simp [h]), if_pos h2]
theorem lkd_ok {W H : Int} {L : List Int} {a : Int} (h : lck W H L = 0) (h2 : ¬ (a < 0 ∨ 6 ≤ a)) : lkd W H L a = 0 := by rw [lkd, if_neg (by simp [h]), if_neg h2]
theorem lkd_zero {W H : Int} {L : List Int} {a : Int} (h : lkd W H L a = 0) : lck W H L = 0 ∧ 0 ≤ a ∧ a ≤ 5 := by
  unfold lkd at h
  split at h
  · contradiction
  · rename_i h0
    split at h
    · exact absurd h (by decide)
    · exact ⟨by simpa using h0, by omega, by omega⟩
/-- the owner of a place: -1 outside -/
def atL (w h : Nat) (L : List Int) (x y : Int) : Int := if x < 0 ∨ y < 0 ∨ (w : Int) ≤ x ∨ (h : Int) ≤ y then -1 else L.getD (y.toNat * w + x.toNat) 0
theorem atL_out {w h : Nat} {L : List Int} {x y : Int} (hx : x < 0 ∨ y < 0 ∨ (w : Int) ≤ x ∨ (h : Int) ≤ y) : atL w h L x y = -1 := by rw [atL, if_pos hx]
theorem atL_in {w h : Nat} {L : List Int} {x y : Nat} (hx : x < w) (hy : y < h) : atL w h L x y = L.getD (y * w + x) 0 := by
  rw [atL, if_neg (by omega), Int.toNat_natCast, Int.toNat_natCast]
theorem idx_lt {w h x y : Nat} (hx : x < w) (hy : y < h) : y * w + x < w * h := by
  have h2 : (y + 1) * w ≤ h * w := Nat.mul_le_mul_right _ (by omega)
  rw [Nat.add_mul] at h2
  rw [Nat.mul_comm w h]
  omega
theorem atL_bd {w h : Nat} {L : List Int} (v : VL w h L) (x y : Int) : -1 ≤ atL w h L x y ∧ atL w h L x y ≤ 5 := by
  by_cases hx : x < 0 ∨ y < 0 ∨ (w : Int) ≤ x ∨ (h : Int) ≤ y
  · rw [atL_out hx]; omega
  · obtain ⟨xn, rfl⟩ := Int.eq_ofNat_of_zero_le (show 0 ≤ x by omega)
    obtain ⟨yn, rfl⟩ := Int.eq_ofNat_of_zero_le (show 0 ≤ y by omega)
    have hl := idx_lt (w := w) (h := h) (x := xn) (y := yn) (by omega) (by omega)
    rw [atL_in (by omega) (by omega), List.getD_eq_getElem?_getD, List.getElem?_eq_getElem (by rw [v.len]; exact hl)]
    exact v.bd _ (List.getElem_mem _)
end Go.Proofs.Ytkoipecnmijfoaa
end

section
/-! Walks of chapter 30: Check, looked. -/
namespace Go.Proofs.Ytkoipecnmijfoaa
open Go.RowKit Go.Deep
set_option linter.unusedVariables false
set_option maxRecDepth 100000

theorem isAgent {w : World} (a : Int) : Calls Try.prog 22 #[.int .i64 a] w fun e w' => e = .returned (.bool (!decide (a < 0 ∨ 6 ≤ a))) ∧ w = w' := by
  by_cases h1 : 0 ≤ a
  · by_cases h2 : a < 6
    all_goals
      go_enter Try.func22, Try.ntmps22
      go_wp2
      go_ret
      exact ⟨ret_bool (by simp [h2]; try omega), rfl⟩
  · go_enter Try.func22, Try.ntmps22
    go_wp2
    go_ret
    exact ⟨ret_bool (by simp; try omega), rfl⟩
theorem lCheck1 {w : World} (x : Int) : Calls Try.prog 53 #[.int .i64 x] w fun e w' => e = .returned (.bool (badOwn x)) ∧ w = w' := by
  by_cases h1 : x < -1
  · go_enter Try.func53, Try.ntmps53
    go_wp2
    go_ret
    exact ⟨ret_bool (by simp [badOwn, h1]), rfl⟩
  · by_cases h2 : 6 ≤ x
    all_goals
      go_enter Try.func53, Try.ntmps53
      go_wp2
      go_ret
      exact ⟨ret_bool (by simp [badOwn, h1, h2]), rfl⟩

set_option maxHeartbeats 1000000 in
theorem lCheck {w : World} {B : Nat} {A : Option Addr} {L : List Int} {cap : Nat} (h : Rd w B A L) (hB : B ≤ w.heap.size) (W H : Int) :
    Calls Try.prog 40 #[.agg #[.int .i64 W, .int .i64 H, .slice A L.length cap]] w fun e w' => e = .returned (.int .i64 (lck W H L)) ∧ Below w.heap.size w w' := by
  have hlen := h.len
  have hal : Below w.heap.size w (w.alloc (.cells #[.int .i64 W, .int .i64 H, .slice A L.length cap] 35)) := (Below.refl _ _).alloc (Nat.le_refl _) _
  by_cases hm : 12 < W ∨ 12 < H
  · rw [lck_many hm]
    have hmax : ¬ H ≤ W → 12 < H := by omega
    have hmax2 : H ≤ W → 12 < W := by omega
    clear h hm
    by_cases hwh : H ≤ W
    · have h12 := hmax2 hwh
      clear hmax hmax2
      go_enter Try.func40, Try.ntmps40
      go_wp2
      go_ret
      exact ⟨rfl, hal⟩
    · have h12 := hmax hwh
      clear hmax hmax2
      go_enter Try.func40, Try.ntmps40
      go_wp2
      go_ret
      exact ⟨rfl, hal⟩
  · have w12 : ¬ 12 < W := by omega
    have h12 : ¬ 12 < H := by omega
    by_cases h1 : W < 1 ∨ H < 1
    · rw [lck_bad hm (by rcases h1 with h1 | h1; exact .inl h1; exact .inr (.inl h1))]
      have hmin : ¬ W ≤ H → H < 1 := by omega
      have hmin2 : W ≤ H → W < 1 := by omega
      clear h hm h1
      by_cases hwh : H ≤ W
      all_goals (by_cases hwh2 : W ≤ H)
      all_goals (try (exfalso; omega))
      all_goals
        first | (have h13 := hmin hwh2) | (have h13 := hmin2 hwh2)
        clear hmin hmin2
        go_enter Try.func40, Try.ntmps40
        go_wp2
        go_ret
        exact ⟨rfl, hal⟩
    · obtain ⟨w', rfl⟩ := Int.eq_ofNat_of_zero_le (show 0 ≤ W by omega)
      obtain ⟨k, rfl⟩ := Int.eq_ofNat_of_zero_le (show 0 ≤ H by omega)
      have hp := mul_le_144 (a := w') (b := k) (by omega) (by omega)
      have hp0 : 0 ≤ (w' : Int) * k := by rw [← Int.natCast_mul]; omega
      have hp1 : (w' : Int) * k ≤ 144 := by rw [← Int.natCast_mul]; omega
      have w13 : ¬ (w' : Int) < 1 := by omega
      have h13 : ¬ (k : Int) < 1 := by omega
      have hRA := h.below hal hB
      have CF := containsFunc (cap := cap) hRA 53 #[] badOwn (fun args u => by kernel_rfl) (fun x _ => by simpa using lCheck1 x)
      by_cases hl : (L.length : Int) = (w' : Int) * k
      · have hbb : ((L.length : Int) != (w' : Int) * k) = false := by simpa using hl
        have HL := Lib.hid hl
        have hres : Hid ((if L.any badOwn = true then (8 : Int) else 0) = lck w' k L) := Lib.hid (by
          by_cases hb : L.any badOwn = true
          · rw [if_pos hb, lck_bad hm (.inr (.inr (.inr hb)))]
          · rw [if_neg hb, lck_ok hm (by rintro (q | q | q | q); exact w13 q; exact h13 q; exact q hl; exact hb q)])
        clear h hm h1 hl hRA hp
        cases hb : L.any badOwn
        all_goals
          rw [hb] at CF hres
          clear hb
          by_cases hwh : (k : Int) ≤ w'
          all_goals (by_cases hwh2 : (w' : Int) ≤ k)
          all_goals (try (exfalso; omega))
          all_goals
            go_enter Try.func40, Try.ntmps40
            go_wp2_with (go_at_call 30; refine CF.mono ?_; rintro e w' ⟨rfl, rfl⟩)
            go_ret
            exact ⟨ret_int hres.out, hal⟩
      · have hbb : ((L.length : Int) != (w' : Int) * k) = true := by simpa using hl
        rw [lck_bad hm (.inr (.inr (.inl hl)))]
        clear h hm h1 hl hRA CF hp
        by_cases hwh : (k : Int) ≤ w'
        all_goals (by_cases hwh2 : (w' : Int) ≤ k)
        all_goals (try (exfalso; omega))
        all_goals
          go_enter Try.func40, Try.ntmps40
          go_wp2
          go_ret
          exact ⟨rfl, hal⟩
end Go.Proofs.Ytkoipecnmijfoaa
end

section
/-! Walks of chapter 30: the reference's Check, looked, at, At. -/
namespace Go.Proofs.Ytkoipecnmijfoaa
open Go.RowKit Go.Deep
set_option linter.unusedVariables false
set_option maxRecDepth 100000

set_option maxHeartbeats 1000000 in
theorem lLooked {w : World} {B : Nat} {A : Option Addr} {L : List Int} {cap : Nat} (h : Rd w B A L) (hB : B ≤ w.heap.size) (W H a : Int) :
    Calls Try.prog 21 #[.agg #[.int .i64 W, .int .i64 H, .slice A L.length cap], .int .i64 a] w fun e w' => e = .returned (.int .i64 (lkd W H L a)) ∧ Below w.heap.size w w' := by
  have hal : Below w.heap.size w (w.alloc (.cells #[.int .i64 W, .int .i64 H, .slice A L.length cap] 35)) := (Below.refl _ _).alloc (Nat.le_refl _) _
  have C1 := lCheck (cap := cap) (h.below hal hB) (Nat.le_trans hB hal.size) W H
  have C2 := fun u => isAgent (w := u) a
  have HAL := Lib.hid hal
  by_cases hc : lck W H L = 0
  · rw [hc] at C1
    by_cases ha : a < 0 ∨ 6 ≤ a
    · rw [lkd_arg hc ha]
      have hd : (!decide (a < 0 ∨ 6 ≤ a)) = false := by simp; omega
      rw [hd] at C2
      have HC2 := Lib.hid C2
      clear h hc ha hd C2 hal
      go_enter Try.func21, Try.ntmps21
      go_wp2_with (first | (go_at_call 40; refine C1.mono ?_; rintro e w1 ⟨rfl, hb⟩) | (go_at_call 22; refine (HC2.out _).mono ?_; rintro e w2 ⟨rfl, rfl⟩))
      go_ret
      exact ⟨rfl, HAL.out.trans (hb.mono HAL.out.size)⟩
    · rw [lkd_ok hc ha]
      have hd : (!decide (a < 0 ∨ 6 ≤ a)) = true := by simp; omega
      rw [hd] at C2
      have HC2 := Lib.hid C2
      clear h hc ha hd C2 hal
      go_enter Try.func21, Try.ntmps21
      go_wp2_with (first | (go_at_call 40; refine C1.mono ?_; rintro e w1 ⟨rfl, hb⟩) | (go_at_call 22; refine (HC2.out _).mono ?_; rintro e w2 ⟨rfl, rfl⟩))
      go_ret
      exact ⟨rfl, HAL.out.trans (hb.mono HAL.out.size)⟩
  · rw [lkd_chk hc]
    have hb : (lck W H L != 0) = true := by simpa using hc
    clear h hc C2 hal
    generalize lck W H L = c at *
    go_enter Try.func21, Try.ntmps21
    go_wp2_with (go_at_call 40; refine C1.mono ?_; rintro e w1 ⟨rfl, hb1⟩)
    go_ret
    exact ⟨rfl, HAL.out.trans (hb1.mono HAL.out.size)⟩

end Go.Proofs.Ytkoipecnmijfoaa
end

section
/-! Walks of chapter 30: at, At. -/
namespace Go.Proofs.Ytkoipecnmijfoaa
open Go.RowKit Go.Deep
set_option linter.unusedVariables false
set_option maxRecDepth 100000

set_option maxHeartbeats 1000000 in
theorem lAt {w : World} {B : Nat} {A : Option Addr} {L : List Int} {cap W H : Nat} (h : Rd w B A L) (hB : B ≤ w.heap.size) (v : VL W H L) (x y : Int) :
    Calls Try.prog 42 #[.agg #[.int .i64 W, .int .i64 H, .slice A L.length cap], .int .i64 x, .int .i64 y] w fun e w' => e = .returned (.int .i64 (atL W H L x y)) ∧ Below w.heap.size w w' := by
  have hal : Below w.heap.size w (w.alloc (.cells #[.int .i64 W, .int .i64 H, .slice A L.length cap] 35)) := (Below.refl _ _).alloc (Nat.le_refl _) _
  have HAL := Lib.hid hal
  by_cases ho : x < 0 ∨ y < 0 ∨ (W : Int) ≤ x ∨ (H : Int) ≤ y
  · rw [atL_out ho]
    clear h hal v
    by_cases x0 : x < 0
    · have hmin : ¬ x ≤ y → y < 0 := by omega
      clear ho
      by_cases hxy : x ≤ y
      · go_enter Try.func42, Try.ntmps42
        go_wp2
        go_ret
        exact ⟨rfl, HAL.out⟩
      · have hy := hmin hxy
        clear hmin
        go_enter Try.func42, Try.ntmps42
        go_wp2
        go_ret
        exact ⟨rfl, HAL.out⟩
    · by_cases y0 : y < 0
      · have hxy : ¬ x ≤ y := by omega
        clear ho
        go_enter Try.func42, Try.ntmps42
        go_wp2
        go_ret
        exact ⟨rfl, HAL.out⟩
      · by_cases xw : (W : Int) ≤ x
        · clear ho
          by_cases hxy : x ≤ y
          all_goals
            go_enter Try.func42, Try.ntmps42
            go_wp2
            go_ret
            exact ⟨rfl, HAL.out⟩
        · have yh : (H : Int) ≤ y := by omega
          clear ho
          by_cases hxy : x ≤ y
          all_goals
            go_enter Try.func42, Try.ntmps42
            go_wp2
            go_ret
            exact ⟨rfl, HAL.out⟩
  · obtain ⟨xn, rfl⟩ := Int.eq_ofNat_of_zero_le (show 0 ≤ x by omega)
    obtain ⟨yn, rfl⟩ := Int.eq_ofNat_of_zero_le (show 0 ≤ y by omega)
    have hx : xn < W := by omega
    have hy : yn < H := by omega
    have hl := idx_lt hx hy
    have v1 := v.w1
    have v2 := v.h1
    have hm := mul_le_144 (a := yn) (b := W) (by omega) (by omega)
    have hm0 : 0 ≤ (yn : Int) * W := by rw [← Int.natCast_mul]; omega
    have hm1 : (yn : Int) * W ≤ 144 := by rw [← Int.natCast_mul]; omega
    obtain ⟨b, off, z, rfl, hb, hz, hi, hc⟩ := (h.below hal hB).at_ (k := yn * W + xn) (by rw [v.len]; exact hl)
    have hres : Hid (atL W H L xn yn = z) := Lib.hid (by rw [atL_in hx hy, List.getD_eq_getElem?_getD, hz]; rfl)
    have hlen : yn * W + xn < L.length := by rw [v.len]; exact hl
    have l144 := v.len144
    have x0 : ¬ (xn : Int) < 0 := by omega
    have y0 : ¬ (yn : Int) < 0 := by omega
    have hlenI : (yn : Int) * W + xn < L.length := by rw [← Int.natCast_mul]; omega
    have htn : ((yn : Int) * W + xn).toNat = yn * W + xn := by rw [← Int.natCast_mul]; omega
    clear h hal v hz hi hm ho hl
    by_cases hxy : xn ≤ yn
    all_goals
      go_enter Try.func42, Try.ntmps42
      go_wp2
      go_ret
      exact ⟨ret_int hres.out.symm, HAL.out⟩

end Go.Proofs.Ytkoipecnmijfoaa
end

section
/-! Plain law: the walk round the places of a set. No statement about the program. -/
namespace Go.Proofs.Ytkoipecnmijfoaa
set_option linter.unusedVariables false

/-- the way of a direction: right, up, left, down -/
def dxI (d : Nat) : Int := if d = 0 then 1 else if d = 2 then -1 else 0
def dyI (d : Nat) : Int := if d = 1 then 1 else if d = 3 then -1 else 0
/-- the corner of a place at which its side begins -/
def cxI (d : Nat) : Int := if d = 1 ∨ d = 2 then 1 else 0
def cyI (d : Nat) : Int := if d = 2 ∨ d = 3 then 1 else 0
theorem d_two {d : Nat} (h : d < 4) : dxI ((d + 2) % 4) = - dxI d ∧ dyI ((d + 2) % 4) = - dyI d := by
  have : d = 0 ∨ d = 1 ∨ d = 2 ∨ d = 3 := by omega
  rcases this with rfl | rfl | rfl | rfl <;> decide
theorem d_opp {d : Nat} (h : d < 4) : dxI ((d + 3) % 4) = - dxI ((d + 1) % 4) ∧ dyI ((d + 3) % 4) = - dyI ((d + 1) % 4) := by
  have : d = 0 ∨ d = 1 ∨ d = 2 ∨ d = 3 := by omega
  rcases this with rfl | rfl | rfl | rfl <;> decide
theorem d_perp {d : Nat} (h : d < 4) : dxI ((d + 1) % 4) = - dyI d ∧ dyI ((d + 1) % 4) = dxI d := by
  have : d = 0 ∨ d = 1 ∨ d = 2 ∨ d = 3 := by omega
  rcases this with rfl | rfl | rfl | rfl <;> decide

/-- a place and a side of it (0 below, 1 right, 2 above, 3 left) -/
structure St where
  x : Int
  y : Int
  d : Nat
deriving DecidableEq

variable {f : Int → Int → Bool}
/-- the place to the right of the side -/
def St.rx (s : St) : Int := s.x + dxI ((s.d + 3) % 4)
def St.ry (s : St) : Int := s.y + dyI ((s.d + 3) % 4)
/-- the side belongs to the boundary of the set f -/
structure Edge (f : Int → Int → Bool) (s : St) : Prop where
  d : s.d < 4
  l : f s.x s.y = true
  r : f s.rx s.ry = false
def St.onx (s : St) : Int := s.x + dxI s.d
def St.ony (s : St) : Int := s.y + dyI s.d
def St.ox (s : St) : Int := s.onx + dxI ((s.d + 3) % 4)
def St.oy (s : St) : Int := s.ony + dyI ((s.d + 3) % 4)
/-- the next side of the walk -/
def nxt (f : Int → Int → Bool) (s : St) : St :=
  if f s.onx s.ony = false then ⟨s.x, s.y, (s.d + 1) % 4⟩
  else if f s.ox s.oy = false then ⟨s.onx, s.ony, s.d⟩
  else ⟨s.ox, s.oy, (s.d + 3) % 4⟩
theorem nxt_left {s : St} (h : f s.onx s.ony = false) : nxt f s = ⟨s.x, s.y, (s.d + 1) % 4⟩ := by rw [nxt, if_pos h]
theorem nxt_on {s : St} (h : f s.onx s.ony = true) (h2 : f s.ox s.oy = false) : nxt f s = ⟨s.onx, s.ony, s.d⟩ := by rw [nxt, if_neg (by simp [h]), if_pos h2]
theorem nxt_right {s : St} (h : f s.onx s.ony = true) (h2 : f s.ox s.oy = true) : nxt f s = ⟨s.ox, s.oy, (s.d + 3) % 4⟩ := by rw [nxt, if_neg (by simp [h]), if_neg (by simp [h2])]
def prv (f : Int → Int → Bool) (s : St) : St :=
  if f (s.x + dxI ((s.d + 2) % 4)) (s.y + dyI ((s.d + 2) % 4)) = false then ⟨s.x, s.y, (s.d + 3) % 4⟩
  else if f (s.x + dxI ((s.d + 2) % 4) + dxI ((s.d + 3) % 4)) (s.y + dyI ((s.d + 2) % 4) + dyI ((s.d + 3) % 4)) = false then ⟨s.x + dxI ((s.d + 2) % 4), s.y + dyI ((s.d + 2) % 4), s.d⟩
  else ⟨s.x + dxI ((s.d + 2) % 4) + dxI ((s.d + 3) % 4), s.y + dyI ((s.d + 2) % 4) + dyI ((s.d + 3) % 4), (s.d + 1) % 4⟩

theorem nxt_edge {s : St} (h : Edge f s) : Edge f (nxt f s) := by
  obtain ⟨x, y, d⟩ := s
  have hd : d < 4 := h.d
  have p1 := d_perp hd
  have p2 := d_opp hd
  have p3 := d_two hd
  by_cases h1 : f (St.onx ⟨x, y, d⟩) (St.ony ⟨x, y, d⟩) = true
  · by_cases h2 : f (St.ox ⟨x, y, d⟩) (St.oy ⟨x, y, d⟩) = true
    · rw [nxt_right h1 h2]
      refine ⟨Nat.mod_lt _ (by omega), h2, ?_⟩
      have hr := h.r
      have e1 : St.rx ⟨St.ox ⟨x, y, d⟩, St.oy ⟨x, y, d⟩, (d + 3) % 4⟩ = St.rx ⟨x, y, d⟩ := by
        simp only [St.rx, St.ox, St.onx]
        rw [show ((d + 3) % 4 + 3) % 4 = (d + 2) % 4 by omega]
        omega
      have e2 : St.ry ⟨St.ox ⟨x, y, d⟩, St.oy ⟨x, y, d⟩, (d + 3) % 4⟩ = St.ry ⟨x, y, d⟩ := by
        simp only [St.ry, St.oy, St.ony]
        rw [show ((d + 3) % 4 + 3) % 4 = (d + 2) % 4 by omega]
        omega
      rw [e1, e2]
      exact hr
    · have h2' : f (St.ox ⟨x, y, d⟩) (St.oy ⟨x, y, d⟩) = false := by simpa using h2
      rw [nxt_on h1 h2']
      exact ⟨hd, h1, h2'⟩
  · have h1' : f (St.onx ⟨x, y, d⟩) (St.ony ⟨x, y, d⟩) = false := by simpa using h1
    rw [nxt_left h1']
    refine ⟨Nat.mod_lt _ (by omega), h.l, ?_⟩
    have e1 : St.rx ⟨x, y, (d + 1) % 4⟩ = St.onx ⟨x, y, d⟩ := by
      simp only [St.rx, St.onx]
      rw [show ((d + 1) % 4 + 3) % 4 = d by omega]
    have e2 : St.ry ⟨x, y, (d + 1) % 4⟩ = St.ony ⟨x, y, d⟩ := by
      simp only [St.ry, St.ony]
      rw [show ((d + 1) % 4 + 3) % 4 = d by omega]
    rw [e1, e2]
    exact h1'

theorem prv_a {x y : Int} {d : Nat} (h : f (x + dxI ((d + 2) % 4)) (y + dyI ((d + 2) % 4)) = false) : prv f ⟨x, y, d⟩ = ⟨x, y, (d + 3) % 4⟩ := by
  rw [prv]; exact if_pos h
theorem prv_b {x y : Int} {d : Nat} (h : f (x + dxI ((d + 2) % 4)) (y + dyI ((d + 2) % 4)) = true)
    (h2 : f (x + dxI ((d + 2) % 4) + dxI ((d + 3) % 4)) (y + dyI ((d + 2) % 4) + dyI ((d + 3) % 4)) = false) : prv f ⟨x, y, d⟩ = ⟨x + dxI ((d + 2) % 4), y + dyI ((d + 2) % 4), d⟩ := by
  rw [prv]; exact (if_neg (by simp [h])).trans (if_pos h2)
theorem prv_c {x y : Int} {d : Nat} (h : f (x + dxI ((d + 2) % 4)) (y + dyI ((d + 2) % 4)) = true)
    (h2 : f (x + dxI ((d + 2) % 4) + dxI ((d + 3) % 4)) (y + dyI ((d + 2) % 4) + dyI ((d + 3) % 4)) = true) : prv f ⟨x, y, d⟩ = ⟨x + dxI ((d + 2) % 4) + dxI ((d + 3) % 4), y + dyI ((d + 2) % 4) + dyI ((d + 3) % 4), (d + 1) % 4⟩ := by
  rw [prv]; exact (if_neg (by simp [h])).trans (if_neg (by simp [h2]))
theorem st_eq {x y x' y' : Int} {d d' : Nat} (h1 : x = x') (h2 : y = y') (h3 : d = d') : (⟨x, y, d⟩ : St) = ⟨x', y', d'⟩ := by rw [h1, h2, h3]
theorem f_at {x y x' y' : Int} {b : Bool} (h : f x y = b) (h1 : x' = x) (h2 : y' = y) : f x' y' = b := by rw [h1, h2]; exact h
theorem prv_nxt {s : St} (h : Edge f s) : prv f (nxt f s) = s := by
  obtain ⟨x, y, d⟩ := s
  have hd : d < 4 := h.d
  have p1 := d_perp hd
  have p2 := d_opp hd
  have p3 := d_two hd
  have hl : f x y = true := h.l
  have hr : f (x + dxI ((d + 3) % 4)) (y + dyI ((d + 3) % 4)) = false := h.r
  by_cases h1 : f (St.onx ⟨x, y, d⟩) (St.ony ⟨x, y, d⟩) = true
  · have h1' : f (x + dxI d) (y + dyI d) = true := h1
    by_cases h2 : f (St.ox ⟨x, y, d⟩) (St.oy ⟨x, y, d⟩) = true
    · rw [nxt_right h1 h2]
      simp only [St.ox, St.oy, St.onx, St.ony]
      have e1 : ((d + 3) % 4 + 2) % 4 = (d + 1) % 4 := by omega
      have e2 : ((d + 3) % 4 + 3) % 4 = (d + 2) % 4 := by omega
      rw [prv_c (f_at h1' (by rw [e1]; omega) (by rw [e1]; omega)) (f_at hl (by rw [e1, e2]; omega) (by rw [e1, e2]; omega))]
      exact st_eq (by rw [e1, e2]; omega) (by rw [e1, e2]; omega) (by omega)
    · have h2' : f (St.ox ⟨x, y, d⟩) (St.oy ⟨x, y, d⟩) = false := by simpa using h2
      rw [nxt_on h1 h2']
      simp only [St.onx, St.ony]
      rw [prv_b (f_at hl (by omega) (by omega)) (f_at hr (by omega) (by omega))]
      exact st_eq (by omega) (by omega) rfl
  · have h1' : f (St.onx ⟨x, y, d⟩) (St.ony ⟨x, y, d⟩) = false := by simpa using h1
    rw [nxt_left h1']
    have e1 : ((d + 1) % 4 + 2) % 4 = (d + 3) % 4 := by omega
    rw [prv_a (f_at hr (by rw [e1]) (by rw [e1]))]
    exact st_eq rfl rfl (show ((d + 1) % 4 + 3) % 4 = d by omega)
theorem nxt_inj {s t : St} (hs : Edge f s) (ht : Edge f t) (h : nxt f s = nxt f t) : s = t := by
  rw [← prv_nxt hs, ← prv_nxt ht, h]

/-- the walk, side by side -/
def itN (f : Int → Int → Bool) : Nat → St → St
  | 0, s => s
  | n + 1, s => nxt f (itN f n s)
theorem itN_succ (n : Nat) (s : St) : itN f (n + 1) s = nxt f (itN f n s) := rfl
theorem itN_edge {s : St} (h : Edge f s) : ∀ n, Edge f (itN f n s)
  | 0 => h
  | n + 1 => nxt_edge (itN_edge h n)
theorem itN_back {s : St} (h : Edge f s) : ∀ (i j : Nat), itN f i s = itN f (i + j) s → s = itN f j s
  | 0, j, e => by simpa [itN] using e
  | i + 1, j, e => by
    rw [show i + 1 + j = (i + j) + 1 by omega, itN_succ, itN_succ] at e
    exact itN_back h i j (nxt_inj (itN_edge h _) (itN_edge h _) e)
/-- of more numbers than there are below m, two are the same -/
theorem pigeon : ∀ (m : Nat) (c : Nat → Nat), (∀ i, i ≤ m → c i < m) → ∃ i j, i < j ∧ j ≤ m ∧ c i = c j
  | 0, c, h => absurd (h 0 (by omega)) (by omega)
  | m + 1, c, h => by
    by_cases hx : ∃ i, i ≤ m ∧ c i = c (m + 1)
    · obtain ⟨i, hi, e⟩ := hx
      exact ⟨i, m + 1, by omega, by omega, e⟩
    · -- put what is m in the place of the last one
      have hne : ∀ i, i ≤ m → c i ≠ c (m + 1) := fun i hi e => hx ⟨i, hi, e⟩
      obtain ⟨i, j, hij, hj, e⟩ := pigeon m (fun i => if c i = m then c (m + 1) else c i) (fun i hi => by
        have h1 := h i (by omega)
        have h2 := h (m + 1) (by omega)
        have h3 := hne i hi
        show (if c i = m then c (m + 1) else c i) < m
        split <;> omega)
      refine ⟨i, j, hij, by omega, ?_⟩
      have hi2 := hne i (by omega)
      have hj2 := hne j (by omega)
      split at e <;> split at e <;> omega
theorem least_one {p : Nat → Prop} : ∀ {n : Nat}, p n → ∃ m, m ≤ n ∧ p m ∧ ∀ k, k < m → ¬ p k := by
  intro n
  induction n using Nat.strongRecOn with
  | ind n ih =>
    intro hn
    by_cases h : ∃ k, k < n ∧ p k
    · obtain ⟨k, hk, hp⟩ := h
      obtain ⟨m, hm, h1, h2⟩ := ih k hk hp
      exact ⟨m, by omega, h1, h2⟩
    · exact ⟨n, Nat.le_refl _, hn, fun k hk hp => h ⟨k, hk, hp⟩⟩

/-- the set lies in a grid -/
structure InGrid (f : Int → Int → Bool) (W H : Nat) : Prop where
  x : ∀ x y, f x y = true → 0 ≤ x ∧ x < W
  y : ∀ x y, f x y = true → 0 ≤ y ∧ y < H
def codeSt (W : Nat) (s : St) : Nat := (s.y.toNat * W + s.x.toNat) * 4 + s.d
theorem code_lt {W H : Nat} (hg : InGrid f W H) {s : St} (h : Edge f s) : codeSt W s < W * H * 4 := by
  have hx := hg.x _ _ h.l
  have hy := hg.y _ _ h.l
  have hd := h.d
  unfold codeSt
  have h1 : s.y.toNat * W + s.x.toNat < W * H := by
    have h2 : (s.y.toNat + 1) * W ≤ H * W := Nat.mul_le_mul_right _ (by omega)
    rw [Nat.add_mul] at h2
    rw [Nat.mul_comm W H]
    omega
  omega
theorem code_inj {W H : Nat} (hg : InGrid f W H) {s t : St} (hs : Edge f s) (ht : Edge f t) (h : codeSt W s = codeSt W t) : s = t := by
  have hx := hg.x _ _ hs.l
  have hy := hg.y _ _ hs.l
  have gx := hg.x _ _ ht.l
  have gy := hg.y _ _ ht.l
  have hd := hs.d
  have gd := ht.d
  unfold codeSt at h
  have e1 : s.d = t.d := by omega
  have e2 : s.y.toNat * W + s.x.toNat = t.y.toNat * W + t.x.toNat := by omega
  have e3 : s.x.toNat = t.x.toNat := by
    have a := Nat.mul_add_mod' s.y.toNat W s.x.toNat
    have b := Nat.mul_add_mod' t.y.toNat W t.x.toNat
    rw [e2] at a
    rw [a, Nat.mod_eq_of_lt (by omega), Nat.mod_eq_of_lt (by omega)] at b
    exact b
  have e4 : s.y.toNat = t.y.toNat := by
    rw [e3] at e2
    exact Nat.eq_of_mul_eq_mul_right (by omega : 0 < W) (by omega)
  obtain ⟨sx, sy, sd⟩ := s
  obtain ⟨tx, ty, td⟩ := t
  simp only at *
  rw [show sx = tx by omega, show sy = ty by omega, e1]
/-- the walk comes back -/
theorem comes_back {W H : Nat} (hg : InGrid f W H) {s : St} (h : Edge f s) : ∃ N, 0 < N ∧ N ≤ W * H * 4 ∧ itN f N s = s ∧ ∀ k, 0 < k → k < N → itN f k s ≠ s := by
  obtain ⟨i, j, hij, hj, e⟩ := pigeon (W * H * 4) (fun i => codeSt W (itN f i s)) (fun i _ => code_lt hg (itN_edge h i))
  have e2 := code_inj hg (itN_edge h i) (itN_edge h j) e
  rw [show j = i + (j - i) by omega] at e2
  have e3 := itN_back h _ _ e2
  obtain ⟨N, hN, ⟨h1, h2⟩, h3⟩ := least_one (p := fun n => 0 < n ∧ itN f n s = s) (n := j - i) ⟨by omega, e3.symm⟩
  exact ⟨N, h1, by omega, h2, fun k hk hk2 h4 => h3 k hk2 ⟨hk, h4⟩⟩
/-- how long the walk is -/
noncomputable def walkN (f : Int → Int → Bool) (s : St) : Nat := by
  classical exact if h : ∃ N, 0 < N ∧ itN f N s = s ∧ ∀ k, 0 < k → k < N → itN f k s ≠ s then Classical.choose h else 0
theorem walkN_spec {W H : Nat} (hg : InGrid f W H) {s : St} (h : Edge f s) : 0 < walkN f s ∧ walkN f s ≤ W * H * 4 ∧ itN f (walkN f s) s = s ∧ ∀ k, 0 < k → k < walkN f s → itN f k s ≠ s := by
  obtain ⟨N, h1, h2, h3, h4⟩ := comes_back hg h
  have hex : ∃ N, 0 < N ∧ itN f N s = s ∧ ∀ k, 0 < k → k < N → itN f k s ≠ s := ⟨N, h1, h3, h4⟩
  have hs := Classical.choose_spec hex
  have e : walkN f s = Classical.choose hex := by unfold walkN; rw [dif_pos hex]
  rw [← e] at hs
  refine ⟨hs.1, ?_, hs.2.1, hs.2.2⟩
  rcases Nat.lt_or_ge N (walkN f s) with hlt | hge
  · exact absurd h3 (hs.2.2 N h1 hlt)
  · omega
/-- the corners of the walk -/
def cornX (s : St) : Int := s.x + cxI s.d
def cornY (s : St) : Int := s.y + cyI s.d
theorem corner_step {d : Nat} (h : d < 4) : cxI d + dxI d = cxI ((d + 1) % 4) ∧ cyI d + dyI d = cyI ((d + 1) % 4) := by
  have : d = 0 ∨ d = 1 ∨ d = 2 ∨ d = 3 := by omega
  rcases this with rfl | rfl | rfl | rfl <;> decide
theorem corner_right {d : Nat} (h : d < 4) : dxI d + dxI ((d + 3) % 4) + cxI ((d + 3) % 4) = cxI ((d + 1) % 4) ∧ dyI d + dyI ((d + 3) % 4) + cyI ((d + 3) % 4) = cyI ((d + 1) % 4) := by
  have : d = 0 ∨ d = 1 ∨ d = 2 ∨ d = 3 := by omega
  rcases this with rfl | rfl | rfl | rfl <;> decide
theorem corner_on {d : Nat} (h : d < 4) : dxI d + cxI d = cxI ((d + 1) % 4) ∧ dyI d + cyI d = cyI ((d + 1) % 4) := by
  have := corner_step h; omega
/-- the next corner lies one step on -/
theorem corn_nxt {s : St} (h : Edge f s) : cornX (nxt f s) = cornX s + dxI s.d ∧ cornY (nxt f s) = cornY s + dyI s.d := by
  obtain ⟨x, y, d⟩ := s
  have hd : d < 4 := h.d
  have q1 := corner_step hd
  have q2 := corner_right hd
  by_cases h1 : f (St.onx ⟨x, y, d⟩) (St.ony ⟨x, y, d⟩) = true
  · by_cases h2 : f (St.ox ⟨x, y, d⟩) (St.oy ⟨x, y, d⟩) = true
    · rw [nxt_right h1 h2]
      simp only [cornX, cornY, St.ox, St.oy, St.onx, St.ony]
      omega
    · have h2' : f (St.ox ⟨x, y, d⟩) (St.oy ⟨x, y, d⟩) = false := by simpa using h2
      rw [nxt_on h1 h2']
      simp only [cornX, cornY, St.onx, St.ony]
      omega
  · have h1' : f (St.onx ⟨x, y, d⟩) (St.ony ⟨x, y, d⟩) = false := by simpa using h1
    rw [nxt_left h1']
    simp only [cornX, cornY]
    omega
end Go.Proofs.Ytkoipecnmijfoaa
end

section
/-! Walks of chapter 30: neighbours, step, left, edge, steps. -/
namespace Go.Proofs.Ytkoipecnmijfoaa
open Go.RowKit Go.Deep
set_option linter.unusedVariables false
set_option maxRecDepth 100000

theorem res4 {fn : Func} {t u v x : Tmp} (h : fn.results = #[.tmp t, .tmp u, .tmp v, .tmp x]) (tmps : Array Value) (P : Program) (w : World) :
    (results fn tmps).run P w = .ok (.tuple #[tmps.getD t undef, tmps.getD u undef, tmps.getD v undef, tmps.getD x undef]) w := by simp [results, h]
theorem ret4 {a b c d a' b' c' d' : Int} (h1 : a = a') (h2 : b = b') (h3 : c = c') (h4 : d = d') :
    Ending.returned (.tuple #[.int .i64 a, .int .i64 b, .int .i64 c, .int .i64 d]) = .returned (.tuple #[.int .i64 a', .int .i64 b', .int .i64 c', .int .i64 d']) := by rw [h1, h2, h3, h4]
/-- the places of a set -/
def ownF (W H : Nat) (L : List Int) (a : Int) (x y : Int) : Bool := atL W H L x y == a

/-- the neighbours, by their numbers -/
def nbB (W i k : Nat) : Bool := decide (((i : Int) % W - (k : Int) % W) * ((i : Int) % W - (k : Int) % W) + ((i : Int) / W - (k : Int) / W) * ((i : Int) / W - (k : Int) / W) = 1)
theorem divmod_bd {W i : Nat} (hW : 1 ≤ W) (hi : i < 144) : 0 ≤ (i : Int) % W ∧ (i : Int) % W < W ∧ 0 ≤ (i : Int) / W ∧ (i : Int) / W ≤ 143 := by
  refine ⟨Int.emod_nonneg _ (by omega), Int.emod_lt_of_pos _ (by omega), Int.ediv_nonneg (by omega) (by omega), ?_⟩
  have h3 := Nat.div_le_self i W
  have e : (i : Int) / (W : Int) = ((i / W : Nat) : Int) := rfl
  rw [e]
  exact Int.le_trans (Int.ofNat_le.2 h3) (by omega)
theorem sq_bd {p b : Int} (h0 : -b ≤ p) (h1 : p ≤ b) (hb : 0 ≤ b) : 0 ≤ p * p ∧ p * p ≤ b * b := by
  rcases Int.le_total 0 p with h | h
  · exact ⟨Int.mul_nonneg h h, Int.mul_le_mul h1 h1 h hb⟩
  · have e : p * p = (-p) * (-p) := by rw [Int.neg_mul_neg]
    rw [e]
    exact ⟨Int.mul_nonneg (by omega) (by omega), Int.mul_le_mul (by omega) (by omega) (by omega) hb⟩

end Go.Proofs.Ytkoipecnmijfoaa
end

section
/-! Plain law: sums of counts over a grid. No statement about the program. -/
namespace Go.Proofs.Ytkoipecnmijfoaa
set_option linter.unusedVariables false

/-- the sum of the first n numbers -/
def sumN : Nat → (Nat → Nat) → Nat
  | 0, _ => 0
  | n + 1, f => sumN n f + f n
/-- 1 if so -/
def one (b : Bool) : Nat := if b then 1 else 0
theorem one_le (b : Bool) : one b ≤ 1 := by unfold one; split <;> omega
theorem sumN_succ (n : Nat) (f : Nat → Nat) : sumN (n + 1) f = sumN n f + f n := rfl
theorem sumN_congr {n : Nat} {f g : Nat → Nat} (h : ∀ i, i < n → f i = g i) : sumN n f = sumN n g := by
  induction n with
  | zero => rfl
  | succ n ih => rw [sumN, sumN, ih (fun i hi => h i (by omega)), h n (by omega)]
theorem sumN_zero {n : Nat} {f : Nat → Nat} (h : ∀ i, i < n → f i = 0) : sumN n f = 0 := by
  induction n with
  | zero => rfl
  | succ n ih => rw [sumN, ih (fun i hi => h i (by omega)), h n (by omega)]
theorem sumN_add (n : Nat) (f g : Nat → Nat) : sumN n (fun i => f i + g i) = sumN n f + sumN n g := by
  induction n with
  | zero => rfl
  | succ n ih => simp only [sumN, ih]; omega
theorem sumN_front (n : Nat) (f : Nat → Nat) : sumN (n + 1) f = f 0 + sumN n (fun i => f (i + 1)) := by
  induction n with
  | zero => simp [sumN]
  | succ n ih => rw [sumN_succ, ih, sumN_succ]; omega
theorem sumN_le {n : Nat} {f : Nat → Nat} {c : Nat} (h : ∀ i, i < n → f i ≤ c) : sumN n f ≤ n * c := by
  induction n with
  | zero => simp [sumN]
  | succ n ih =>
    have h1 := ih fun i hi => h i (by omega)
    have h2 := h n (by omega)
    rw [sumN, Nat.add_mul]
    omega
theorem sumN_swap (n m : Nat) (f : Nat → Nat → Nat) : sumN n (fun i => sumN m (fun j => f i j)) = sumN m (fun j => sumN n (fun i => f i j)) := by
  induction n with
  | zero => rw [sumN]; exact (sumN_zero fun _ _ => rfl).symm
  | succ n ih => rw [sumN, ih, ← sumN_add]; rfl
theorem sumN_pad (n k : Nat) (f : Nat → Nat) (h : ∀ i, n ≤ i → i < n + k → f i = 0) : sumN (n + k) f = sumN n f := by
  induction k with
  | zero => rfl
  | succ k ih => rw [← Nat.add_assoc, sumN, ih (fun i h1 h2 => h i h1 (by omega)), h (n + k) (by omega) (by omega)]; rfl
/-- a grid, row by row -/
theorem sumN_grid (W : Nat) (hW : 0 < W) (f : Nat → Nat → Nat) : ∀ H : Nat, sumN (W * H) (fun i => f (i % W) (i / W)) = sumN H (fun y => sumN W (fun x => f x y))
  | 0 => by simp [sumN]
  | H + 1 => by
    have key : ∀ k, k ≤ W → sumN (W * H + k) (fun i => f (i % W) (i / W)) = sumN (W * H) (fun i => f (i % W) (i / W)) + sumN k (fun x => f x H) := by
      intro k
      induction k with
      | zero => intro _; rfl
      | succ k ih =>
        intro hk
        have h1 : (W * H + k) % W = k := by rw [Nat.mul_add_mod]; exact Nat.mod_eq_of_lt (by omega)
        have h2 : (W * H + k) / W = H := by
          rw [Nat.mul_add_div hW, Nat.div_eq_of_lt (by omega)]; omega
        rw [← Nat.add_assoc, sumN, ih (by omega), sumN_succ, h1, h2]
        omega
    rw [Nat.mul_add, Nat.mul_one, key W (Nat.le_refl _), sumN_grid W hW f H, sumN_succ]

/-- the changes along a row: those to the right and those to the left of what is in it -/
theorem row_changes (W : Nat) (h : Int → Bool) (h0 : ∀ x : Int, x < 0 → h x = false) (h1 : ∀ x : Int, (W : Int) ≤ x → h x = false) :
    sumN (W + 2) (fun xx => one (h ((xx : Int) - 1) != h (xx : Int))) = sumN W (fun x => if h x then one (!h ((x : Int) + 1)) + one (!h ((x : Int) - 1)) else 0) := by
  have e1 : ∀ p q : Bool, one (p != q) = one (p && !q) + one (!p && q) := by decide
  rw [sumN_congr (g := fun xx => one (h ((xx : Int) - 1) && !h (xx : Int)) + one (!h ((xx : Int) - 1) && h (xx : Int))) (fun i _ => e1 _ _), sumN_add]
  have a1 : sumN (W + 2) (fun xx => one (h ((xx : Int) - 1) && !h (xx : Int))) = sumN W (fun x => one (h x && !h ((x : Int) + 1))) := by
    rw [sumN_front (W + 1)]
    have z0 : h (((0 : Nat) : Int) - 1) = false := h0 _ (by omega)
    rw [z0]
    have : sumN (W + 1) (fun i => one (h (((i + 1 : Nat) : Int) - 1) && !h ((i + 1 : Nat) : Int))) = sumN (W + 1) (fun x => one (h x && !h ((x : Int) + 1))) :=
      sumN_congr fun i _ => by
        rw [show (((i + 1 : Nat) : Int) - 1) = (i : Int) by omega, show ((i + 1 : Nat) : Int) = (i : Int) + 1 by omega]
    rw [this, sumN_succ, h1 (W : Int) (by omega)]
    simp [one]
  have a2 : sumN (W + 2) (fun xx => one (!h ((xx : Int) - 1) && h (xx : Int))) = sumN W (fun x => one (!h ((x : Int) - 1) && h x)) :=
    sumN_pad W 2 _ fun i hi _ => by rw [h1 (i : Int) (by omega)]; simp [one]
  rw [a1, a2, ← sumN_add]
  refine sumN_congr fun i _ => ?_
  cases h (i : Int) <;> simp [one]

/-- the boundary of a set of places: the changes in rows and columns are its sides -/
theorem boundary_law (W H : Nat) (f : Int → Int → Bool) (hx0 : ∀ x y : Int, x < 0 → f x y = false) (hx1 : ∀ x y : Int, (W : Int) ≤ x → f x y = false)
    (hy0 : ∀ x y : Int, y < 0 → f x y = false) (hy1 : ∀ x y : Int, (H : Int) ≤ y → f x y = false) :
    sumN (H + 2) (fun yy => sumN (W + 2) (fun xx => one (f ((xx : Int) - 1) ((yy : Int) - 1) != f (xx : Int) ((yy : Int) - 1)) + one (f ((xx : Int) - 1) ((yy : Int) - 1) != f ((xx : Int) - 1) (yy : Int))))
      = sumN H (fun y => sumN W (fun x => if f x y then (one (!f ((x : Int) + 1) y) + one (!f ((x : Int) - 1) y)) + (one (!f x ((y : Int) + 1)) + one (!f x ((y : Int) - 1))) else 0)) := by
  have hrow : ∀ yy : Nat, sumN (W + 2) (fun xx => one (f ((xx : Int) - 1) ((yy : Int) - 1) != f (xx : Int) ((yy : Int) - 1))) = sumN W (fun x => if f x ((yy : Int) - 1) then one (!f ((x : Int) + 1) ((yy : Int) - 1)) + one (!f ((x : Int) - 1) ((yy : Int) - 1)) else 0) :=
    fun yy => row_changes W (fun x => f x ((yy : Int) - 1)) (fun x hx => hx0 _ _ hx) (fun x hx => hx1 _ _ hx)
  have hcol : ∀ xx : Nat, sumN (H + 2) (fun yy => one (f ((xx : Int) - 1) ((yy : Int) - 1) != f ((xx : Int) - 1) (yy : Int))) = sumN H (fun y => if f ((xx : Int) - 1) y then one (!f ((xx : Int) - 1) ((y : Int) + 1)) + one (!f ((xx : Int) - 1) ((y : Int) - 1)) else 0) :=
    fun xx => row_changes H (fun y => f ((xx : Int) - 1) y) (fun y hy => hy0 _ _ hy) (fun y hy => hy1 _ _ hy)
  rw [sumN_congr (fun yy _ => sumN_add (W + 2) _ _), sumN_add, sumN_congr (fun yy _ => hrow yy), sumN_swap (H + 2) (W + 2), sumN_congr (fun xx _ => hcol xx)]
  -- the rows: the first and the last are empty
  have b1 : sumN (H + 2) (fun yy => sumN W (fun x => if f x ((yy : Int) - 1) then one (!f ((x : Int) + 1) ((yy : Int) - 1)) + one (!f ((x : Int) - 1) ((yy : Int) - 1)) else 0))
      = sumN H (fun y => sumN W (fun x => if f x y then one (!f ((x : Int) + 1) y) + one (!f ((x : Int) - 1) y) else 0)) := by
    rw [sumN_front (H + 1), sumN_succ]
    rw [sumN_zero (n := W) (f := fun x => if f x (((0 : Nat) : Int) - 1) then _ else 0) (fun x _ => by rw [hy0 _ _ (by omega)]; rfl)]
    rw [sumN_zero (n := W) (f := fun x => if f x (((H + 1 : Nat) : Int) - 1) then _ else 0) (fun x _ => by rw [hy1 _ _ (by omega)]; rfl)]
    rw [Nat.zero_add, Nat.add_zero]
    exact sumN_congr fun y _ => by rw [show (((y + 1 : Nat) : Int) - 1) = (y : Int) by omega]
  have b2 : sumN (W + 2) (fun xx => sumN H (fun y => if f ((xx : Int) - 1) y then one (!f ((xx : Int) - 1) ((y : Int) + 1)) + one (!f ((xx : Int) - 1) ((y : Int) - 1)) else 0))
      = sumN H (fun y => sumN W (fun x => if f x y then one (!f x ((y : Int) + 1)) + one (!f x ((y : Int) - 1)) else 0)) := by
    rw [sumN_swap H W, sumN_front (W + 1), sumN_succ]
    rw [sumN_zero (n := H) (f := fun y => if f (((0 : Nat) : Int) - 1) y then _ else 0) (fun y _ => by rw [hx0 _ _ (by omega)]; rfl)]
    rw [sumN_zero (n := H) (f := fun y => if f (((W + 1 : Nat) : Int) - 1) y then _ else 0) (fun y _ => by rw [hx1 _ _ (by omega)]; rfl)]
    rw [Nat.zero_add, Nat.add_zero]
    exact sumN_congr fun x _ => by rw [show (((x + 1 : Nat) : Int) - 1) = (x : Int) by omega]
  rw [b1, b2, ← sumN_add]
  refine sumN_congr fun y _ => ?_
  rw [← sumN_add]
  refine sumN_congr fun x _ => ?_
  cases f (x : Int) (y : Int) <;> simp

theorem mul_one_cases {p q : Int} (h : p * p + q * q = 1) : (p = 1 ∧ q = 0) ∨ (p = -1 ∧ q = 0) ∨ (p = 0 ∧ q = 1) ∨ (p = 0 ∧ q = -1) := by
  have hp : 0 ≤ p * p := by
    rcases Int.le_total 0 p with h0 | h0
    · exact Int.mul_nonneg h0 h0
    · exact Int.mul_nonneg_of_nonpos_of_nonpos h0 h0
  have hq : 0 ≤ q * q := by
    rcases Int.le_total 0 q with h0 | h0
    · exact Int.mul_nonneg h0 h0
    · exact Int.mul_nonneg_of_nonpos_of_nonpos h0 h0
  have bound : ∀ r : Int, r * r ≤ 1 → -1 ≤ r ∧ r ≤ 1 := by
    intro r hr
    refine ⟨?_, ?_⟩
    · rcases Int.lt_or_le r (-1) with h1 | h1
      · have : 2 * 2 ≤ (-r) * (-r) := Int.mul_le_mul (by omega) (by omega) (by omega) (by omega)
        rw [Int.neg_mul_neg] at this
        omega
      · exact h1
    · rcases Int.lt_or_le 1 r with h1 | h1
      · have : 2 * 2 ≤ r * r := Int.mul_le_mul (by omega) (by omega) (by omega) (by omega)
        omega
      · exact h1
  have bp := bound p (by omega)
  have bq := bound q (by omega)
  have cp : p = -1 ∨ p = 0 ∨ p = 1 := by omega
  have cq : q = -1 ∨ q = 0 ∨ q = 1 := by omega
  rcases cp with rfl | rfl | rfl <;> rcases cq with rfl | rfl | rfl <;> simp at h ⊢

/-- how often a value is met at one place -/
theorem sumN_at (n : Nat) (u : Int) (c : Nat) : sumN n (fun x => if (x : Int) = u then c else 0) = if 0 ≤ u ∧ u < n then c else 0 := by
  induction n with
  | zero => rw [sumN, if_neg (by omega)]
  | succ n ih =>
    rw [sumN, ih]
    by_cases h : (n : Int) = u
    · rw [if_pos h, if_neg (by omega), if_pos (by omega)]; omega
    · rw [if_neg h]
      by_cases h2 : 0 ≤ u ∧ u < n
      · rw [if_pos h2, if_pos (by omega)]; omega
      · rw [if_neg h2, if_neg (by omega)]
theorem sumN_at2 (W H : Nat) (u v : Int) (c : Nat) : sumN H (fun y => sumN W (fun x => if (x : Int) = u ∧ (y : Int) = v then c else 0)) = if (0 ≤ u ∧ u < W) ∧ 0 ≤ v ∧ v < H then c else 0 := by
  have e : sumN H (fun y => sumN W (fun x => if (x : Int) = u ∧ (y : Int) = v then c else 0)) = sumN H (fun y => if (y : Int) = v then (if 0 ≤ u ∧ u < W then c else 0) else 0) :=
    sumN_congr fun y _ => by
      by_cases h : (y : Int) = v
      · rw [if_pos h, ← sumN_at]
        exact sumN_congr fun x _ => by simp [h]
      · rw [if_neg h]
        exact sumN_zero fun x _ => by rw [if_neg (by simp [h])]
  rw [e, sumN_at]
  by_cases h1 : 0 ≤ u ∧ u < (W : Int)
  · simp [h1]
  · simp [h1]

/-- the neighbours of a place that are in a set of places -/
theorem border_law (W H : Nat) (g : Int → Int → Bool) (hx0 : ∀ x y : Int, x < 0 → g x y = false) (hx1 : ∀ x y : Int, (W : Int) ≤ x → g x y = false)
    (hy0 : ∀ x y : Int, y < 0 → g x y = false) (hy1 : ∀ x y : Int, (H : Int) ≤ y → g x y = false) (u v : Int) :
    sumN H (fun y => sumN W (fun x => one (g x y && decide ((u - x) * (u - x) + (v - y) * (v - y) = 1))))
      = (one (g (u + 1) v) + one (g (u - 1) v)) + (one (g u (v + 1)) + one (g u (v - 1))) := by
  have pt : ∀ x y : Int, one (g x y && decide ((u - x) * (u - x) + (v - y) * (v - y) = 1))
      = ((if x = u + 1 ∧ y = v then one (g (u + 1) v) else 0) + (if x = u - 1 ∧ y = v then one (g (u - 1) v) else 0)) + ((if x = u ∧ y = v + 1 then one (g u (v + 1)) else 0) + (if x = u ∧ y = v - 1 then one (g u (v - 1)) else 0)) := by
    intro x y
    by_cases h : (u - x) * (u - x) + (v - y) * (v - y) = 1
    · rw [decide_eq_true h, Bool.and_true]
      rcases mul_one_cases h with ⟨h1, h2⟩ | ⟨h1, h2⟩ | ⟨h1, h2⟩ | ⟨h1, h2⟩
      · obtain rfl : x = u - 1 := by omega
        obtain rfl : y = v := by omega
        rw [if_neg (by omega), if_pos (by omega), if_neg (by omega), if_neg (by omega)]; omega
      · obtain rfl : x = u + 1 := by omega
        obtain rfl : y = v := by omega
        rw [if_pos (by omega), if_neg (by omega), if_neg (by omega), if_neg (by omega)]; omega
      · obtain rfl : x = u := by omega
        obtain rfl : y = v - 1 := by omega
        rw [if_neg (by omega), if_neg (by omega), if_neg (by omega), if_pos (by omega)]; omega
      · obtain rfl : x = u := by omega
        obtain rfl : y = v + 1 := by omega
        rw [if_neg (by omega), if_neg (by omega), if_pos (by omega), if_neg (by omega)]; omega
    · rw [decide_eq_false h, Bool.and_false]
      have n1 : ¬ (x = u + 1 ∧ y = v) := by
        rintro ⟨rfl, rfl⟩; apply h; rw [show u - (u + 1) = -1 by omega, show y - y = 0 by omega]; decide
      have n2 : ¬ (x = u - 1 ∧ y = v) := by
        rintro ⟨rfl, rfl⟩; apply h; rw [show u - (u - 1) = 1 by omega, show y - y = 0 by omega]; decide
      have n3 : ¬ (x = u ∧ y = v + 1) := by
        rintro ⟨rfl, rfl⟩; apply h; rw [show v - (v + 1) = -1 by omega, show x - x = 0 by omega]; decide
      have n4 : ¬ (x = u ∧ y = v - 1) := by
        rintro ⟨rfl, rfl⟩; apply h; rw [show v - (v - 1) = 1 by omega, show x - x = 0 by omega]; decide
      rw [if_neg n1, if_neg n2, if_neg n3, if_neg n4]; rfl
  have e : sumN H (fun y => sumN W (fun x => one (g x y && decide ((u - x) * (u - x) + (v - y) * (v - y) = 1))))
      = (sumN H (fun y => sumN W (fun x => if (x : Int) = u + 1 ∧ (y : Int) = v then one (g (u + 1) v) else 0)) + sumN H (fun y => sumN W (fun x => if (x : Int) = u - 1 ∧ (y : Int) = v then one (g (u - 1) v) else 0)))
        + (sumN H (fun y => sumN W (fun x => if (x : Int) = u ∧ (y : Int) = v + 1 then one (g u (v + 1)) else 0)) + sumN H (fun y => sumN W (fun x => if (x : Int) = u ∧ (y : Int) = v - 1 then one (g u (v - 1)) else 0))) := by
    rw [← sumN_add, ← sumN_add, ← sumN_add]
    refine sumN_congr fun y _ => ?_
    rw [← sumN_add, ← sumN_add, ← sumN_add]
    exact sumN_congr fun x _ => pt x y
  have out : ∀ a b : Int, (if (0 ≤ a ∧ a < (W : Int)) ∧ 0 ≤ b ∧ b < (H : Int) then one (g a b) else 0) = one (g a b) := by
    intro a b
    by_cases h : (0 ≤ a ∧ a < (W : Int)) ∧ 0 ≤ b ∧ b < (H : Int)
    · rw [if_pos h]
    · rw [if_neg h]
      have : g a b = false := by
        by_cases q1 : a < 0
        · exact hx0 _ _ q1
        · by_cases q2 : (W : Int) ≤ a
          · exact hx1 _ _ q2
          · by_cases q3 : b < 0
            · exact hy0 _ _ q3
            · exact hy1 _ _ (by omega)
      rw [this]; rfl
  rw [e, sumN_at2, sumN_at2, sumN_at2, sumN_at2, out, out, out, out]
end Go.Proofs.Ytkoipecnmijfoaa
end

section
/-! Walks of chapter 30: steps, sides. -/
namespace Go.Proofs.Ytkoipecnmijfoaa
open Go.RowKit Go.Deep
set_option linter.unusedVariables false
set_option maxRecDepth 100000

def stepsV : Value := .agg #[.int .i64 1, .int .i64 0, .int .i64 0, .int .i64 1, .int .i64 (-1), .int .i64 0, .int .i64 0, .int .i64 (-1)]
theorem lSteps {w : World} : Calls Try.prog 41 #[] w fun e w' => e = .returned (.agg #[.int .i64 1, .int .i64 0, .int .i64 0, .int .i64 1, .int .i64 (-1), .int .i64 0, .int .i64 0, .int .i64 (-1)]) ∧ Below w.heap.size w w' := by
  go_enter Try.func41, Try.ntmps41
  go_wp2
  exact bodyPost_ret (v := .agg #[.int .i64 1, .int .i64 0, .int .i64 0, .int .i64 1, .int .i64 (-1), .int .i64 0, .int .i64 0, .int .i64 (-1)]) (by simp [results, Try.results41, go_sem]) rfl ⟨rfl, (Below.refl _ _).alloc (Nat.le_refl _) _⟩

theorem remW {W k : Nat} (hW : 1 ≤ W) (hk : k < 144) (u : World) : (binOp .rem 3 (.int .i64 (k : Int)) (.int .i64 (W : Int))).run Try.prog u = .ok (.int .i64 ((k : Int) % W)) u := by
  have t1 : Int.tmod (k : Int) W = (k : Int) % W := Int.tmod_eq_emod_of_nonneg (by omega)
  obtain ⟨i0, i1, i2, i3⟩ := divmod_bd (W := W) (i := k) hW hk
  have d1 : W ≠ 0 := by omega
  simp only [binOp]
  simp [go_sem, t1, d1]
theorem quoW {W k : Nat} (hW : 1 ≤ W) (hk : k < 144) (u : World) : (binOp .quo 3 (.int .i64 (k : Int)) (.int .i64 (W : Int))).run Try.prog u = .ok (.int .i64 ((k : Int) / W)) u := by
  have t1 : Int.tdiv (k : Int) W = (k : Int) / W := Int.tdiv_eq_ediv_of_nonneg (by omega)
  obtain ⟨i0, i1, i2, i3⟩ := divmod_bd (W := W) (i := k) hW hk
  have d1 : W ≠ 0 := by omega
  simp only [binOp]
  simp [go_sem, t1, d1]
  exact IntWalk.i64_in _ (by omega)
/-- the sides of a's places beyond which p holds -/
def sideG (W H : Nat) (L : List Int) (a : Int) (p : Int → Bool) (i : Nat) : Nat :=
  if L.getD i 0 = a then sumN 4 (fun j => one (p (atL W H L ((i : Int) % W + dxI j) ((i : Int) / W + dyI j)))) else 0
def sidesN (W H : Nat) (L : List Int) (a : Int) (p : Int → Bool) : Nat := sumN L.length (sideG W H L a p)

set_option maxHeartbeats 4000000 in
theorem lSides {w : World} {B : Nat} {A : Option Addr} {L : List Int} {cap W H : Nat} (h : Rd w B A L) (hB : B ≤ w.heap.size) (v : VL W H L) (a : Int) (F : Nat) (caps : Array Value) (p : Int → Bool)
    (hF : ∀ args (u : World), (callFunc F args).run Try.prog u = .ok (.enter F args) u)
    (hp : ∀ u, Below w.heap.size w u → ∀ x, Calls Try.prog F (#[.int .i64 x] ++ caps) u fun e w' => e = .returned (.bool (p x)) ∧ u = w') :
    Calls Try.prog 23 #[.agg #[.int .i64 W, .int .i64 H, .slice A L.length cap], .int .i64 a, .func (.func F) #[] caps] w fun e w' => e = .returned (.int .i64 (sidesN W H L a p : Nat)) ∧ Below w.heap.size w w' := by
  have l144 := v.len144
  have W0 := v.w0
  have W12 := v.w1
  have hal : Below w.heap.size w (w.alloc (.cells #[.int .i64 W, .int .i64 H, .slice A L.length cap] 35)) := (Below.refl _ _).alloc (Nat.le_refl _) _
  have hsz : (w.alloc (.cells #[.int .i64 W, .int .i64 H, .slice A L.length cap] 35)).heap.size = w.heap.size + 1 := by simp
  have b0 : (w.alloc (.cells #[.int .i64 W, .int .i64 H, .slice A L.length cap] 35)).cell? ⟨w.heap.size, 0, none⟩ = some (.int .i64 W) := by simp
  have b1 : (w.alloc (.cells #[.int .i64 W, .int .i64 H, .slice A L.length cap] 35)).cell? ⟨w.heap.size, 1, none⟩ = some (.int .i64 H) := by simp
  have b2 : (w.alloc (.cells #[.int .i64 W, .int .i64 H, .slice A L.length cap] 35)).cell? ⟨w.heap.size, 2, none⟩ = some (.slice A L.length cap) := by simp
  have HAL := Lib.hid hal
  have HSZ := Lib.hid hsz
  have HP := Lib.hid hp
  have HF := Lib.hid hF
  have H0 := Lib.hid h
  have HV := Lib.hid v
  have hg : Hid (sidesN W H L a p = sumN L.length (sideG W H L a p)) := Lib.hid rfl
  have hgb : Hid (∀ i, sideG W H L a p i ≤ 4) := Lib.hid (fun i => by
    unfold sideG
    split
    · exact Nat.le_trans (sumN_le (c := 1) fun j _ => one_le _) (by omega)
    · omega)
  have x0 : ∀ u : World, (Instr.index 72 (.agg #[.int .i64 1, .int .i64 0, .int .i64 0, .int .i64 1, .int .i64 (-1), .int .i64 0, .int .i64 0, .int .i64 (-1)]) (.int .i64 0)).run Try.prog u = .ok (.agg #[.int .i64 1, .int .i64 0]) u := fun u => by kernel_rfl
  have x1 : ∀ u : World, (Instr.index 72 (.agg #[.int .i64 1, .int .i64 0, .int .i64 0, .int .i64 1, .int .i64 (-1), .int .i64 0, .int .i64 0, .int .i64 (-1)]) (.int .i64 1)).run Try.prog u = .ok (.agg #[.int .i64 0, .int .i64 1]) u := fun u => by kernel_rfl
  have x2 : ∀ u : World, (Instr.index 72 (.agg #[.int .i64 1, .int .i64 0, .int .i64 0, .int .i64 1, .int .i64 (-1), .int .i64 0, .int .i64 0, .int .i64 (-1)]) (.int .i64 2)).run Try.prog u = .ok (.agg #[.int .i64 (-1), .int .i64 0]) u := fun u => by kernel_rfl
  have x3 : ∀ u : World, (Instr.index 72 (.agg #[.int .i64 1, .int .i64 0, .int .i64 0, .int .i64 1, .int .i64 (-1), .int .i64 0, .int .i64 0, .int .i64 (-1)]) (.int .i64 3)).run Try.prog u = .ok (.agg #[.int .i64 0, .int .i64 (-1)]) u := fun u => by kernel_rfl
  clear hal hp h v hsz
  go_enter Try.func23, Try.ntmps23
  go_wp2
  generalize w.alloc (.cells #[.int .i64 W, .int .i64 H, .slice A L.length cap] 35) = w1 at *
  have B0 := Lib.hid b0
  have B1 := Lib.hid b1
  have B2 := Lib.hid b2
  clear b0 b1 b2
  go_loopw [7, 15] (fun nv iv wr => ∃ (k n : Nat), k ≤ L.length ∧ iv = .int .i64 k ∧ nv = .int .i64 n ∧ n ≤ 4 * k ∧ Hid (n = sumN k (sideG W H L a p)) ∧ Hid (Below w1.heap.size w1 wr)) (fun _ iv _ => L.length - (intOf iv).toNat)
  case atStart => exact ⟨0, 0, by omega, rfl, rfl, by omega, Lib.hid rfl, Lib.hid (Below.refl _ _)⟩
  case round =>
    obtain ⟨k, n, hk, rfl, rfl, hn, hs, hw⟩ := hrel
    by_cases hlt : k < L.length
    · have hbw := HAL.out.trans (hw.out.mono HAL.out.size)
      obtain ⟨b, off, x, rfl, hb, hx, hi, hc⟩ := (H0.out.below hbw hB).at_ hlt
      have HGX : Hid (L.getD k 0 = x) := Lib.hid (by rw [List.getD_eq_getElem?_getD, hx]; rfl)
      have HBW := Lib.hid hbw
      clear hx hi hbw
      go_wp2_with fail
      refine lSteps.mono ?_
      rintro e w2 ⟨rfl, hb2⟩
      have HW2 := Lib.hid (hw.out.trans (hb2.mono hw.out.size))
      clear hb2 hw hc
      go_wp2
      go_loopw [7, 21] (fun nv jv wi => ∃ (j m : Nat), j ≤ 4 ∧ jv = .int .i64 j ∧ nv = .int .i64 m ∧ m ≤ n + j ∧ Hid (m = n + if x = a then sumN j (fun j => one (p (atL W H L ((k : Int) % W + dxI j) ((k : Int) / W + dyI j)))) else 0) ∧ Hid (Below w1.heap.size w1 wi)) (fun _ jv _ => 4 - (intOf jv).toNat)
      case atStart => exact ⟨0, n, by omega, rfl, rfl, by omega, Lib.hid (by simp [sumN]), HW2⟩
      case round =>
        obtain ⟨j, m, hj, rfl, rfl, hm, hms, hwi⟩ := hrel
        by_cases hjl : j < 4
        · have hcj : j = 0 ∨ j = 1 ∨ j = 2 ∨ j = 3 := by omega
          have hz1 := hwi.out.size
          have hz0 := HSZ.out
          have q0 := ((bcell hwi.out).1 w.heap.size 0 (by omega)).trans B0.out
          have q1 := ((bcell hwi.out).1 w.heap.size 1 (by omega)).trans B1.out
          have q2 := ((bcell hwi.out).1 w.heap.size 2 (by omega)).trans B2.out
          have Q := Lib.hid (And.intro q0 (And.intro q1 q2))
          have HZ : Hid (w.heap.size < wr.heap.size) := Lib.hid (by omega)
          clear hz0 hz1 q0 q1 q2
          by_cases hxa : x = a
          · have hb1 : (x == a) = true := by simpa using hxa
            have HMS : Hid (m = n + sumN j (fun j => one (p (atL W H L ((k : Int) % W + dxI j) ((k : Int) / W + dyI j))))) := Lib.hid (by rw [hms.out, if_pos hxa])
            obtain ⟨z, hz⟩ : ∃ z, atL W H L ((k : Int) % W + dxI j) ((k : Int) / W + dyI j) = z := ⟨_, rfl⟩
            have HZZ := Lib.hid hz
            have HXA := Lib.hid hxa
            obtain ⟨i0, i1, i2, i3⟩ := divmod_bd (W := W) (i := k) W0 (by omega)
            have NEXT : Hid (m + one (p z) = n + if x = a then sumN (j + 1) (fun j => one (p (atL W H L ((k : Int) % W + dxI j) ((k : Int) / W + dyI j)))) else 0) := Lib.hid (by
              rw [if_pos HXA.out, HMS.out, sumN_succ, HZZ.out]; omega)
            clear hms hxa hz HMS
            rcases hcj with rfl | rfl | rfl | rfl
            · have hal1 : Below wr.heap.size wr (wr.alloc (.cells #[.int .i64 1, .int .i64 0] 71)) := (Below.refl _ _).alloc (Nat.le_refl _) _
              have c0 : (wr.alloc (.cells #[.int .i64 1, .int .i64 0] 71)).drew.cell? ⟨wr.heap.size, 0, none⟩ = some (.int .i64 1) := by simp
              have c1 : (wr.alloc (.cells #[.int .i64 1, .int .i64 0] 71)).drew.cell? ⟨wr.heap.size, 1, none⟩ = some (.int .i64 0) := by simp
              have hS0 : (wr.alloc (.cells #[.int .i64 1, .int .i64 0] 71)).drew.cell? ⟨w.heap.size, 0, none⟩ = some (.int .i64 W) ∧ (wr.alloc (.cells #[.int .i64 1, .int .i64 0] 71)).drew.cell? ⟨w.heap.size, 1, none⟩ = some (.int .i64 H) ∧ (wr.alloc (.cells #[.int .i64 1, .int .i64 0] 71)).drew.cell? ⟨w.heap.size, 2, none⟩ = some (.slice (some ⟨b, off, none⟩) L.length cap) ∧ (wr.alloc (.cells #[.int .i64 1, .int .i64 0] 71)).drew.cell? ⟨wr.heap.size, 0, none⟩ = some (.int .i64 1) ∧ (wr.alloc (.cells #[.int .i64 1, .int .i64 0] 71)).drew.cell? ⟨wr.heap.size, 1, none⟩ = some (.int .i64 0) ∧ Hid (Below wr.heap.size wr (wr.alloc (.cells #[.int .i64 1, .int .i64 0] 71)).drew) :=
                ⟨((bcell hal1).1 _ _ HZ.out).trans Q.out.1, ((bcell hal1).1 _ _ HZ.out).trans Q.out.2.1, ((bcell hal1).1 _ _ HZ.out).trans Q.out.2.2, c0, c1, Lib.hid (below_drewN hal1 1)⟩
              have keepS : ∀ u u' : World, (u.cell? ⟨w.heap.size, 0, none⟩ = some (.int .i64 W) ∧ u.cell? ⟨w.heap.size, 1, none⟩ = some (.int .i64 H) ∧ u.cell? ⟨w.heap.size, 2, none⟩ = some (.slice (some ⟨b, off, none⟩) L.length cap) ∧ u.cell? ⟨wr.heap.size, 0, none⟩ = some (.int .i64 1) ∧ u.cell? ⟨wr.heap.size, 1, none⟩ = some (.int .i64 0) ∧ Hid (Below wr.heap.size wr u)) → wr.heap.size < u.heap.size → Below u.heap.size u u' → (u'.cell? ⟨w.heap.size, 0, none⟩ = some (.int .i64 W) ∧ u'.cell? ⟨w.heap.size, 1, none⟩ = some (.int .i64 H) ∧ u'.cell? ⟨w.heap.size, 2, none⟩ = some (.slice (some ⟨b, off, none⟩) L.length cap) ∧ u'.cell? ⟨wr.heap.size, 0, none⟩ = some (.int .i64 1) ∧ u'.cell? ⟨wr.heap.size, 1, none⟩ = some (.int .i64 0) ∧ Hid (Below wr.heap.size wr u')) := by
                intro u u' ⟨g0, g1, g2, g3, g4, g5⟩ hsz hb'
                have hz := HZ.out
                exact ⟨((bcell hb').1 _ _ (by omega)).trans g0, ((bcell hb').1 _ _ (by omega)).trans g1, ((bcell hb').1 _ _ (by omega)).trans g2, ((bcell hb').1 _ _ (by omega)).trans g3, ((bcell hb').1 _ _ (by omega)).trans g4, Lib.hid (g5.out.trans (hb'.mono g5.out.size))⟩
              have szS : ∀ u : World, (u.cell? ⟨w.heap.size, 0, none⟩ = some (.int .i64 W) ∧ u.cell? ⟨w.heap.size, 1, none⟩ = some (.int .i64 H) ∧ u.cell? ⟨w.heap.size, 2, none⟩ = some (.slice (some ⟨b, off, none⟩) L.length cap) ∧ u.cell? ⟨wr.heap.size, 0, none⟩ = some (.int .i64 1) ∧ u.cell? ⟨wr.heap.size, 1, none⟩ = some (.int .i64 0) ∧ Hid (Below wr.heap.size wr u)) → wr.heap.size < u.heap.size := by
                intro u ⟨g0, g1, g2, g3, g4, g5⟩
                exact World.block_lt_of_cell? _ _ g3
              have CATW : Hid (∀ (u : World) (X Y : Int), (u.cell? ⟨w.heap.size, 0, none⟩ = some (.int .i64 W) ∧ u.cell? ⟨w.heap.size, 1, none⟩ = some (.int .i64 H) ∧ u.cell? ⟨w.heap.size, 2, none⟩ = some (.slice (some ⟨b, off, none⟩) L.length cap) ∧ u.cell? ⟨wr.heap.size, 0, none⟩ = some (.int .i64 1) ∧ u.cell? ⟨wr.heap.size, 1, none⟩ = some (.int .i64 0) ∧ Hid (Below wr.heap.size wr u)) → X = (k : Int) % W + dxI 0 → Y = (k : Int) / W + dyI 0 →
                  Calls Try.prog 42 #[.agg #[.int .i64 W, .int .i64 H, .slice (some ⟨b, off, none⟩) L.length cap], .int .i64 X, .int .i64 Y] u fun e u' => e = .returned (.int .i64 z) ∧ (u'.cell? ⟨w.heap.size, 0, none⟩ = some (.int .i64 W) ∧ u'.cell? ⟨w.heap.size, 1, none⟩ = some (.int .i64 H) ∧ u'.cell? ⟨w.heap.size, 2, none⟩ = some (.slice (some ⟨b, off, none⟩) L.length cap) ∧ u'.cell? ⟨wr.heap.size, 0, none⟩ = some (.int .i64 1) ∧ u'.cell? ⟨wr.heap.size, 1, none⟩ = some (.int .i64 0) ∧ Hid (Below wr.heap.size wr u'))) := Lib.hid (by
                rintro u X Y hS rfl rfl
                have hbu := HAL.out.trans ((hwi.out.trans (hS.2.2.2.2.2.out.mono hwi.out.size)).mono HAL.out.size)
                have c := lAt (cap := cap) (H0.out.below hbu hB) (Nat.le_trans hB hbu.size) HV.out ((k : Int) % W + dxI 0) ((k : Int) / W + dyI 0)
                rw [HZZ.out] at c
                exact c.mono fun e u' ⟨he, hb'⟩ => ⟨he, keepS u u' hS (szS u hS) hb'⟩)
              have CPW : Hid (∀ u : World, (u.cell? ⟨w.heap.size, 0, none⟩ = some (.int .i64 W) ∧ u.cell? ⟨w.heap.size, 1, none⟩ = some (.int .i64 H) ∧ u.cell? ⟨w.heap.size, 2, none⟩ = some (.slice (some ⟨b, off, none⟩) L.length cap) ∧ u.cell? ⟨wr.heap.size, 0, none⟩ = some (.int .i64 1) ∧ u.cell? ⟨wr.heap.size, 1, none⟩ = some (.int .i64 0) ∧ Hid (Below wr.heap.size wr u)) → Calls Try.prog F (#[.int .i64 z] ++ caps) u fun e u' => e = .returned (.bool (p z)) ∧ (u'.cell? ⟨w.heap.size, 0, none⟩ = some (.int .i64 W) ∧ u'.cell? ⟨w.heap.size, 1, none⟩ = some (.int .i64 H) ∧ u'.cell? ⟨w.heap.size, 2, none⟩ = some (.slice (some ⟨b, off, none⟩) L.length cap) ∧ u'.cell? ⟨wr.heap.size, 0, none⟩ = some (.int .i64 1) ∧ u'.cell? ⟨wr.heap.size, 1, none⟩ = some (.int .i64 0) ∧ Hid (Below wr.heap.size wr u'))) := Lib.hid (by
                intro u hS
                have hbu := HAL.out.trans ((hwi.out.trans (hS.2.2.2.2.2.out.mono hwi.out.size)).mono HAL.out.size)
                exact (HP.out u hbu z).mono fun e u' ⟨he, hu⟩ => ⟨he, by rw [← hu]; exact hS⟩)
              have d1 : W ≠ 0 := by omega
              have t1 : Int.tmod (k : Int) W = (k : Int) % W := Int.tmod_eq_emod_of_nonneg (by omega)
              have t3 : Int.tdiv (k : Int) W = (k : Int) / W := Int.tdiv_eq_ediv_of_nonneg (by omega)
              have e1 : IntKind.i64.wrap ((k : Int) / W) = (k : Int) / W := IntWalk.i64_in _ (by omega)
              have e2 : IntKind.i64.wrap ((k : Int) % W) = (k : Int) % W := IntWalk.i64_in _ (by omega)
              have e3 : IntKind.i64.wrap ((k : Int) % W + 1) = (k : Int) % W + 1 := IntWalk.i64_in _ (by omega)
              have e4 : IntKind.i64.wrap ((k : Int) / W + 1) = (k : Int) / W + 1 := IntWalk.i64_in _ (by omega)
              have e5 : IntKind.i64.wrap ((k : Int) % W + -1) = (k : Int) % W + -1 := IntWalk.i64_in _ (by omega)
              have e6 : IntKind.i64.wrap ((k : Int) / W + -1) = (k : Int) / W + -1 := IntWalk.i64_in _ (by omega)
              clear keepS szS c0 c1 hal1
              cases hpz : p z
              all_goals
                rw [hpz] at CPW NEXT
                clear hpz
                go_wp2
                go_region_held3 (fun w' => w'.cell? ⟨w.heap.size, 0, none⟩ = some (.int .i64 W) ∧ w'.cell? ⟨w.heap.size, 1, none⟩ = some (.int .i64 H) ∧ w'.cell? ⟨w.heap.size, 2, none⟩ = some (.slice (some ⟨b, off, none⟩) L.length cap) ∧ w'.cell? ⟨wr.heap.size, 0, none⟩ = some (.int .i64 1) ∧ w'.cell? ⟨wr.heap.size, 1, none⟩ = some (.int .i64 0) ∧ Hid (Below wr.heap.size wr w')) (first | assumption | go_keep)
                  (first | (go_at_call 42; refine (CATW.out _ _ _ (by assumption) (by simp [dxI]; try omega) (by simp [dyI]; try omega)).mono ?_; rintro e w3 ⟨rfl, hS3⟩) | (refine (CPW.out _ (by assumption)).mono ?_; rintro e w4 ⟨rfl, hS4⟩))
                have HW4 := Lib.hid (hwi.out.trans (hS4.2.2.2.2.2.out.mono hwi.out.size))
                clear hS4 hS3 hS0 CATW CPW d1 t1 t3 e1 e2 e3 e4 e5 e6
                go_wp2
                go_roundw
                case rel =>
                  first
                  | exact ⟨1, m + 1, by omega, by go_num, by go_num, by omega, Lib.hid (by rw [← NEXT.out]; rfl), HW4⟩
                  | exact ⟨1, m, by omega, by go_num, rfl, by omega, Lib.hid (by rw [← NEXT.out]; rfl), HW4⟩
                case measure => simp [intOf]
            · have hal1 : Below wr.heap.size wr (wr.alloc (.cells #[.int .i64 0, .int .i64 1] 71)) := (Below.refl _ _).alloc (Nat.le_refl _) _
              have c0 : (wr.alloc (.cells #[.int .i64 0, .int .i64 1] 71)).drew.cell? ⟨wr.heap.size, 0, none⟩ = some (.int .i64 0) := by simp
              have c1 : (wr.alloc (.cells #[.int .i64 0, .int .i64 1] 71)).drew.cell? ⟨wr.heap.size, 1, none⟩ = some (.int .i64 1) := by simp
              have hS0 : (wr.alloc (.cells #[.int .i64 0, .int .i64 1] 71)).drew.cell? ⟨w.heap.size, 0, none⟩ = some (.int .i64 W) ∧ (wr.alloc (.cells #[.int .i64 0, .int .i64 1] 71)).drew.cell? ⟨w.heap.size, 1, none⟩ = some (.int .i64 H) ∧ (wr.alloc (.cells #[.int .i64 0, .int .i64 1] 71)).drew.cell? ⟨w.heap.size, 2, none⟩ = some (.slice (some ⟨b, off, none⟩) L.length cap) ∧ (wr.alloc (.cells #[.int .i64 0, .int .i64 1] 71)).drew.cell? ⟨wr.heap.size, 0, none⟩ = some (.int .i64 0) ∧ (wr.alloc (.cells #[.int .i64 0, .int .i64 1] 71)).drew.cell? ⟨wr.heap.size, 1, none⟩ = some (.int .i64 1) ∧ Hid (Below wr.heap.size wr (wr.alloc (.cells #[.int .i64 0, .int .i64 1] 71)).drew) :=
                ⟨((bcell hal1).1 _ _ HZ.out).trans Q.out.1, ((bcell hal1).1 _ _ HZ.out).trans Q.out.2.1, ((bcell hal1).1 _ _ HZ.out).trans Q.out.2.2, c0, c1, Lib.hid (below_drewN hal1 1)⟩
              have keepS : ∀ u u' : World, (u.cell? ⟨w.heap.size, 0, none⟩ = some (.int .i64 W) ∧ u.cell? ⟨w.heap.size, 1, none⟩ = some (.int .i64 H) ∧ u.cell? ⟨w.heap.size, 2, none⟩ = some (.slice (some ⟨b, off, none⟩) L.length cap) ∧ u.cell? ⟨wr.heap.size, 0, none⟩ = some (.int .i64 0) ∧ u.cell? ⟨wr.heap.size, 1, none⟩ = some (.int .i64 1) ∧ Hid (Below wr.heap.size wr u)) → wr.heap.size < u.heap.size → Below u.heap.size u u' → (u'.cell? ⟨w.heap.size, 0, none⟩ = some (.int .i64 W) ∧ u'.cell? ⟨w.heap.size, 1, none⟩ = some (.int .i64 H) ∧ u'.cell? ⟨w.heap.size, 2, none⟩ = some (.slice (some ⟨b, off, none⟩) L.length cap) ∧ u'.cell? ⟨wr.heap.size, 0, none⟩ = some (.int .i64 0) ∧ u'.cell? ⟨wr.heap.size, 1, none⟩ = some (.int .i64 1) ∧ Hid (Below wr.heap.size wr u')) := by
                intro u u' ⟨g0, g1, g2, g3, g4, g5⟩ hsz hb'
                have hz := HZ.out
                exact ⟨((bcell hb').1 _ _ (by omega)).trans g0, ((bcell hb').1 _ _ (by omega)).trans g1, ((bcell hb').1 _ _ (by omega)).trans g2, ((bcell hb').1 _ _ (by omega)).trans g3, ((bcell hb').1 _ _ (by omega)).trans g4, Lib.hid (g5.out.trans (hb'.mono g5.out.size))⟩
              have szS : ∀ u : World, (u.cell? ⟨w.heap.size, 0, none⟩ = some (.int .i64 W) ∧ u.cell? ⟨w.heap.size, 1, none⟩ = some (.int .i64 H) ∧ u.cell? ⟨w.heap.size, 2, none⟩ = some (.slice (some ⟨b, off, none⟩) L.length cap) ∧ u.cell? ⟨wr.heap.size, 0, none⟩ = some (.int .i64 0) ∧ u.cell? ⟨wr.heap.size, 1, none⟩ = some (.int .i64 1) ∧ Hid (Below wr.heap.size wr u)) → wr.heap.size < u.heap.size := by
                intro u ⟨g0, g1, g2, g3, g4, g5⟩
                exact World.block_lt_of_cell? _ _ g3
              have CATW : Hid (∀ (u : World) (X Y : Int), (u.cell? ⟨w.heap.size, 0, none⟩ = some (.int .i64 W) ∧ u.cell? ⟨w.heap.size, 1, none⟩ = some (.int .i64 H) ∧ u.cell? ⟨w.heap.size, 2, none⟩ = some (.slice (some ⟨b, off, none⟩) L.length cap) ∧ u.cell? ⟨wr.heap.size, 0, none⟩ = some (.int .i64 0) ∧ u.cell? ⟨wr.heap.size, 1, none⟩ = some (.int .i64 1) ∧ Hid (Below wr.heap.size wr u)) → X = (k : Int) % W + dxI 1 → Y = (k : Int) / W + dyI 1 →
                  Calls Try.prog 42 #[.agg #[.int .i64 W, .int .i64 H, .slice (some ⟨b, off, none⟩) L.length cap], .int .i64 X, .int .i64 Y] u fun e u' => e = .returned (.int .i64 z) ∧ (u'.cell? ⟨w.heap.size, 0, none⟩ = some (.int .i64 W) ∧ u'.cell? ⟨w.heap.size, 1, none⟩ = some (.int .i64 H) ∧ u'.cell? ⟨w.heap.size, 2, none⟩ = some (.slice (some ⟨b, off, none⟩) L.length cap) ∧ u'.cell? ⟨wr.heap.size, 0, none⟩ = some (.int .i64 0) ∧ u'.cell? ⟨wr.heap.size, 1, none⟩ = some (.int .i64 1) ∧ Hid (Below wr.heap.size wr u'))) := Lib.hid (by
                rintro u X Y hS rfl rfl
                have hbu := HAL.out.trans ((hwi.out.trans (hS.2.2.2.2.2.out.mono hwi.out.size)).mono HAL.out.size)
                have c := lAt (cap := cap) (H0.out.below hbu hB) (Nat.le_trans hB hbu.size) HV.out ((k : Int) % W + dxI 1) ((k : Int) / W + dyI 1)
                rw [HZZ.out] at c
                exact c.mono fun e u' ⟨he, hb'⟩ => ⟨he, keepS u u' hS (szS u hS) hb'⟩)
              have CPW : Hid (∀ u : World, (u.cell? ⟨w.heap.size, 0, none⟩ = some (.int .i64 W) ∧ u.cell? ⟨w.heap.size, 1, none⟩ = some (.int .i64 H) ∧ u.cell? ⟨w.heap.size, 2, none⟩ = some (.slice (some ⟨b, off, none⟩) L.length cap) ∧ u.cell? ⟨wr.heap.size, 0, none⟩ = some (.int .i64 0) ∧ u.cell? ⟨wr.heap.size, 1, none⟩ = some (.int .i64 1) ∧ Hid (Below wr.heap.size wr u)) → Calls Try.prog F (#[.int .i64 z] ++ caps) u fun e u' => e = .returned (.bool (p z)) ∧ (u'.cell? ⟨w.heap.size, 0, none⟩ = some (.int .i64 W) ∧ u'.cell? ⟨w.heap.size, 1, none⟩ = some (.int .i64 H) ∧ u'.cell? ⟨w.heap.size, 2, none⟩ = some (.slice (some ⟨b, off, none⟩) L.length cap) ∧ u'.cell? ⟨wr.heap.size, 0, none⟩ = some (.int .i64 0) ∧ u'.cell? ⟨wr.heap.size, 1, none⟩ = some (.int .i64 1) ∧ Hid (Below wr.heap.size wr u'))) := Lib.hid (by
                intro u hS
                have hbu := HAL.out.trans ((hwi.out.trans (hS.2.2.2.2.2.out.mono hwi.out.size)).mono HAL.out.size)
                exact (HP.out u hbu z).mono fun e u' ⟨he, hu⟩ => ⟨he, by rw [← hu]; exact hS⟩)
              have d1 : W ≠ 0 := by omega
              have t1 : Int.tmod (k : Int) W = (k : Int) % W := Int.tmod_eq_emod_of_nonneg (by omega)
              have t3 : Int.tdiv (k : Int) W = (k : Int) / W := Int.tdiv_eq_ediv_of_nonneg (by omega)
              have e1 : IntKind.i64.wrap ((k : Int) / W) = (k : Int) / W := IntWalk.i64_in _ (by omega)
              have e2 : IntKind.i64.wrap ((k : Int) % W) = (k : Int) % W := IntWalk.i64_in _ (by omega)
              have e3 : IntKind.i64.wrap ((k : Int) % W + 1) = (k : Int) % W + 1 := IntWalk.i64_in _ (by omega)
              have e4 : IntKind.i64.wrap ((k : Int) / W + 1) = (k : Int) / W + 1 := IntWalk.i64_in _ (by omega)
              have e5 : IntKind.i64.wrap ((k : Int) % W + -1) = (k : Int) % W + -1 := IntWalk.i64_in _ (by omega)
              have e6 : IntKind.i64.wrap ((k : Int) / W + -1) = (k : Int) / W + -1 := IntWalk.i64_in _ (by omega)
              clear keepS szS c0 c1 hal1
              cases hpz : p z
              all_goals
                rw [hpz] at CPW NEXT
                clear hpz
                go_wp2
                go_region_held3 (fun w' => w'.cell? ⟨w.heap.size, 0, none⟩ = some (.int .i64 W) ∧ w'.cell? ⟨w.heap.size, 1, none⟩ = some (.int .i64 H) ∧ w'.cell? ⟨w.heap.size, 2, none⟩ = some (.slice (some ⟨b, off, none⟩) L.length cap) ∧ w'.cell? ⟨wr.heap.size, 0, none⟩ = some (.int .i64 0) ∧ w'.cell? ⟨wr.heap.size, 1, none⟩ = some (.int .i64 1) ∧ Hid (Below wr.heap.size wr w')) (first | assumption | go_keep)
                  (first | (go_at_call 42; refine (CATW.out _ _ _ (by assumption) (by simp [dxI]; try omega) (by simp [dyI]; try omega)).mono ?_; rintro e w3 ⟨rfl, hS3⟩) | (refine (CPW.out _ (by assumption)).mono ?_; rintro e w4 ⟨rfl, hS4⟩))
                have HW4 := Lib.hid (hwi.out.trans (hS4.2.2.2.2.2.out.mono hwi.out.size))
                clear hS4 hS3 hS0 CATW CPW d1 t1 t3 e1 e2 e3 e4 e5 e6
                go_wp2
                go_roundw
                case rel =>
                  first
                  | exact ⟨2, m + 1, by omega, by go_num, by go_num, by omega, Lib.hid (by rw [← NEXT.out]; rfl), HW4⟩
                  | exact ⟨2, m, by omega, by go_num, rfl, by omega, Lib.hid (by rw [← NEXT.out]; rfl), HW4⟩
                case measure => simp [intOf]
            · have hal1 : Below wr.heap.size wr (wr.alloc (.cells #[.int .i64 (-1), .int .i64 0] 71)) := (Below.refl _ _).alloc (Nat.le_refl _) _
              have c0 : (wr.alloc (.cells #[.int .i64 (-1), .int .i64 0] 71)).drew.cell? ⟨wr.heap.size, 0, none⟩ = some (.int .i64 (-1)) := by simp
              have c1 : (wr.alloc (.cells #[.int .i64 (-1), .int .i64 0] 71)).drew.cell? ⟨wr.heap.size, 1, none⟩ = some (.int .i64 0) := by simp
              have hS0 : (wr.alloc (.cells #[.int .i64 (-1), .int .i64 0] 71)).drew.cell? ⟨w.heap.size, 0, none⟩ = some (.int .i64 W) ∧ (wr.alloc (.cells #[.int .i64 (-1), .int .i64 0] 71)).drew.cell? ⟨w.heap.size, 1, none⟩ = some (.int .i64 H) ∧ (wr.alloc (.cells #[.int .i64 (-1), .int .i64 0] 71)).drew.cell? ⟨w.heap.size, 2, none⟩ = some (.slice (some ⟨b, off, none⟩) L.length cap) ∧ (wr.alloc (.cells #[.int .i64 (-1), .int .i64 0] 71)).drew.cell? ⟨wr.heap.size, 0, none⟩ = some (.int .i64 (-1)) ∧ (wr.alloc (.cells #[.int .i64 (-1), .int .i64 0] 71)).drew.cell? ⟨wr.heap.size, 1, none⟩ = some (.int .i64 0) ∧ Hid (Below wr.heap.size wr (wr.alloc (.cells #[.int .i64 (-1), .int .i64 0] 71)).drew) :=
                ⟨((bcell hal1).1 _ _ HZ.out).trans Q.out.1, ((bcell hal1).1 _ _ HZ.out).trans Q.out.2.1, ((bcell hal1).1 _ _ HZ.out).trans Q.out.2.2, c0, c1, Lib.hid (below_drewN hal1 1)⟩
              have keepS : ∀ u u' : World, (u.cell? ⟨w.heap.size, 0, none⟩ = some (.int .i64 W) ∧ u.cell? ⟨w.heap.size, 1, none⟩ = some (.int .i64 H) ∧ u.cell? ⟨w.heap.size, 2, none⟩ = some (.slice (some ⟨b, off, none⟩) L.length cap) ∧ u.cell? ⟨wr.heap.size, 0, none⟩ = some (.int .i64 (-1)) ∧ u.cell? ⟨wr.heap.size, 1, none⟩ = some (.int .i64 0) ∧ Hid (Below wr.heap.size wr u)) → wr.heap.size < u.heap.size → Below u.heap.size u u' → (u'.cell? ⟨w.heap.size, 0, none⟩ = some (.int .i64 W) ∧ u'.cell? ⟨w.heap.size, 1, none⟩ = some (.int .i64 H) ∧ u'.cell? ⟨w.heap.size, 2, none⟩ = some (.slice (some ⟨b, off, none⟩) L.length cap) ∧ u'.cell? ⟨wr.heap.size, 0, none⟩ = some (.int .i64 (-1)) ∧ u'.cell? ⟨wr.heap.size, 1, none⟩ = some (.int .i64 0) ∧ Hid (Below wr.heap.size wr u')) := by
                intro u u' ⟨g0, g1, g2, g3, g4, g5⟩ hsz hb'
                have hz := HZ.out
                exact ⟨((bcell hb').1 _ _ (by omega)).trans g0, ((bcell hb').1 _ _ (by omega)).trans g1, ((bcell hb').1 _ _ (by omega)).trans g2, ((bcell hb').1 _ _ (by omega)).trans g3, ((bcell hb').1 _ _ (by omega)).trans g4, Lib.hid (g5.out.trans (hb'.mono g5.out.size))⟩
              have szS : ∀ u : World, (u.cell? ⟨w.heap.size, 0, none⟩ = some (.int .i64 W) ∧ u.cell? ⟨w.heap.size, 1, none⟩ = some (.int .i64 H) ∧ u.cell? ⟨w.heap.size, 2, none⟩ = some (.slice (some ⟨b, off, none⟩) L.length cap) ∧ u.cell? ⟨wr.heap.size, 0, none⟩ = some (.int .i64 (-1)) ∧ u.cell? ⟨wr.heap.size, 1, none⟩ = some (.int .i64 0) ∧ Hid (Below wr.heap.size wr u)) → wr.heap.size < u.heap.size := by
                intro u ⟨g0, g1, g2, g3, g4, g5⟩
                exact World.block_lt_of_cell? _ _ g3
              have CATW : Hid (∀ (u : World) (X Y : Int), (u.cell? ⟨w.heap.size, 0, none⟩ = some (.int .i64 W) ∧ u.cell? ⟨w.heap.size, 1, none⟩ = some (.int .i64 H) ∧ u.cell? ⟨w.heap.size, 2, none⟩ = some (.slice (some ⟨b, off, none⟩) L.length cap) ∧ u.cell? ⟨wr.heap.size, 0, none⟩ = some (.int .i64 (-1)) ∧ u.cell? ⟨wr.heap.size, 1, none⟩ = some (.int .i64 0) ∧ Hid (Below wr.heap.size wr u)) → X = (k : Int) % W + dxI 2 → Y = (k : Int) / W + dyI 2 →
                  Calls Try.prog 42 #[.agg #[.int .i64 W, .int .i64 H, .slice (some ⟨b, off, none⟩) L.length cap], .int .i64 X, .int .i64 Y] u fun e u' => e = .returned (.int .i64 z) ∧ (u'.cell? ⟨w.heap.size, 0, none⟩ = some (.int .i64 W) ∧ u'.cell? ⟨w.heap.size, 1, none⟩ = some (.int .i64 H) ∧ u'.cell? ⟨w.heap.size, 2, none⟩ = some (.slice (some ⟨b, off, none⟩) L.length cap) ∧ u'.cell? ⟨wr.heap.size, 0, none⟩ = some (.int .i64 (-1)) ∧ u'.cell? ⟨wr.heap.size, 1, none⟩ = some (.int .i64 0) ∧ Hid (Below wr.heap.size wr u'))) := Lib.hid (by
                rintro u X Y hS rfl rfl
                have hbu := HAL.out.trans ((hwi.out.trans (hS.2.2.2.2.2.out.mono hwi.out.size)).mono HAL.out.size)
                have c := lAt (cap := cap) (H0.out.below hbu hB) (Nat.le_trans hB hbu.size) HV.out ((k : Int) % W + dxI 2) ((k : Int) / W + dyI 2)
                rw [HZZ.out] at c
                exact c.mono fun e u' ⟨he, hb'⟩ => ⟨he, keepS u u' hS (szS u hS) hb'⟩)
              have CPW : Hid (∀ u : World, (u.cell? ⟨w.heap.size, 0, none⟩ = some (.int .i64 W) ∧ u.cell? ⟨w.heap.size, 1, none⟩ = some (.int .i64 H) ∧ u.cell? ⟨w.heap.size, 2, none⟩ = some (.slice (some ⟨b, off, none⟩) L.length cap) ∧ u.cell? ⟨wr.heap.size, 0, none⟩ = some (.int .i64 (-1)) ∧ u.cell? ⟨wr.heap.size, 1, none⟩ = some (.int .i64 0) ∧ Hid (Below wr.heap.size wr u)) → Calls Try.prog F (#[.int .i64 z] ++ caps) u fun e u' => e = .returned (.bool (p z)) ∧ (u'.cell? ⟨w.heap.size, 0, none⟩ = some (.int .i64 W) ∧ u'.cell? ⟨w.heap.size, 1, none⟩ = some (.int .i64 H) ∧ u'.cell? ⟨w.heap.size, 2, none⟩ = some (.slice (some ⟨b, off, none⟩) L.length cap) ∧ u'.cell? ⟨wr.heap.size, 0, none⟩ = some (.int .i64 (-1)) ∧ u'.cell? ⟨wr.heap.size, 1, none⟩ = some (.int .i64 0) ∧ Hid (Below wr.heap.size wr u'))) := Lib.hid (by
                intro u hS
                have hbu := HAL.out.trans ((hwi.out.trans (hS.2.2.2.2.2.out.mono hwi.out.size)).mono HAL.out.size)
                exact (HP.out u hbu z).mono fun e u' ⟨he, hu⟩ => ⟨he, by rw [← hu]; exact hS⟩)
              have d1 : W ≠ 0 := by omega
              have t1 : Int.tmod (k : Int) W = (k : Int) % W := Int.tmod_eq_emod_of_nonneg (by omega)
              have t3 : Int.tdiv (k : Int) W = (k : Int) / W := Int.tdiv_eq_ediv_of_nonneg (by omega)
              have e1 : IntKind.i64.wrap ((k : Int) / W) = (k : Int) / W := IntWalk.i64_in _ (by omega)
              have e2 : IntKind.i64.wrap ((k : Int) % W) = (k : Int) % W := IntWalk.i64_in _ (by omega)
              have e3 : IntKind.i64.wrap ((k : Int) % W + 1) = (k : Int) % W + 1 := IntWalk.i64_in _ (by omega)
              have e4 : IntKind.i64.wrap ((k : Int) / W + 1) = (k : Int) / W + 1 := IntWalk.i64_in _ (by omega)
              have e5 : IntKind.i64.wrap ((k : Int) % W + -1) = (k : Int) % W + -1 := IntWalk.i64_in _ (by omega)
              have e6 : IntKind.i64.wrap ((k : Int) / W + -1) = (k : Int) / W + -1 := IntWalk.i64_in _ (by omega)
              clear keepS szS c0 c1 hal1
              cases hpz : p z
              all_goals
                rw [hpz] at CPW NEXT
                clear hpz
                go_wp2
                go_region_held3 (fun w' => w'.cell? ⟨w.heap.size, 0, none⟩ = some (.int .i64 W) ∧ w'.cell? ⟨w.heap.size, 1, none⟩ = some (.int .i64 H) ∧ w'.cell? ⟨w.heap.size, 2, none⟩ = some (.slice (some ⟨b, off, none⟩) L.length cap) ∧ w'.cell? ⟨wr.heap.size, 0, none⟩ = some (.int .i64 (-1)) ∧ w'.cell? ⟨wr.heap.size, 1, none⟩ = some (.int .i64 0) ∧ Hid (Below wr.heap.size wr w')) (first | assumption | go_keep)
                  (first | (go_at_call 42; refine (CATW.out _ _ _ (by assumption) (by simp [dxI]; try omega) (by simp [dyI]; try omega)).mono ?_; rintro e w3 ⟨rfl, hS3⟩) | (refine (CPW.out _ (by assumption)).mono ?_; rintro e w4 ⟨rfl, hS4⟩))
                have HW4 := Lib.hid (hwi.out.trans (hS4.2.2.2.2.2.out.mono hwi.out.size))
                clear hS4 hS3 hS0 CATW CPW d1 t1 t3 e1 e2 e3 e4 e5 e6
                go_wp2
                go_roundw
                case rel =>
                  first
                  | exact ⟨3, m + 1, by omega, by go_num, by go_num, by omega, Lib.hid (by rw [← NEXT.out]; rfl), HW4⟩
                  | exact ⟨3, m, by omega, by go_num, rfl, by omega, Lib.hid (by rw [← NEXT.out]; rfl), HW4⟩
                case measure => simp [intOf]
            · have hal1 : Below wr.heap.size wr (wr.alloc (.cells #[.int .i64 0, .int .i64 (-1)] 71)) := (Below.refl _ _).alloc (Nat.le_refl _) _
              have c0 : (wr.alloc (.cells #[.int .i64 0, .int .i64 (-1)] 71)).drew.cell? ⟨wr.heap.size, 0, none⟩ = some (.int .i64 0) := by simp
              have c1 : (wr.alloc (.cells #[.int .i64 0, .int .i64 (-1)] 71)).drew.cell? ⟨wr.heap.size, 1, none⟩ = some (.int .i64 (-1)) := by simp
              have hS0 : (wr.alloc (.cells #[.int .i64 0, .int .i64 (-1)] 71)).drew.cell? ⟨w.heap.size, 0, none⟩ = some (.int .i64 W) ∧ (wr.alloc (.cells #[.int .i64 0, .int .i64 (-1)] 71)).drew.cell? ⟨w.heap.size, 1, none⟩ = some (.int .i64 H) ∧ (wr.alloc (.cells #[.int .i64 0, .int .i64 (-1)] 71)).drew.cell? ⟨w.heap.size, 2, none⟩ = some (.slice (some ⟨b, off, none⟩) L.length cap) ∧ (wr.alloc (.cells #[.int .i64 0, .int .i64 (-1)] 71)).drew.cell? ⟨wr.heap.size, 0, none⟩ = some (.int .i64 0) ∧ (wr.alloc (.cells #[.int .i64 0, .int .i64 (-1)] 71)).drew.cell? ⟨wr.heap.size, 1, none⟩ = some (.int .i64 (-1)) ∧ Hid (Below wr.heap.size wr (wr.alloc (.cells #[.int .i64 0, .int .i64 (-1)] 71)).drew) :=
                ⟨((bcell hal1).1 _ _ HZ.out).trans Q.out.1, ((bcell hal1).1 _ _ HZ.out).trans Q.out.2.1, ((bcell hal1).1 _ _ HZ.out).trans Q.out.2.2, c0, c1, Lib.hid (below_drewN hal1 1)⟩
              have keepS : ∀ u u' : World, (u.cell? ⟨w.heap.size, 0, none⟩ = some (.int .i64 W) ∧ u.cell? ⟨w.heap.size, 1, none⟩ = some (.int .i64 H) ∧ u.cell? ⟨w.heap.size, 2, none⟩ = some (.slice (some ⟨b, off, none⟩) L.length cap) ∧ u.cell? ⟨wr.heap.size, 0, none⟩ = some (.int .i64 0) ∧ u.cell? ⟨wr.heap.size, 1, none⟩ = some (.int .i64 (-1)) ∧ Hid (Below wr.heap.size wr u)) → wr.heap.size < u.heap.size → Below u.heap.size u u' → (u'.cell? ⟨w.heap.size, 0, none⟩ = some (.int .i64 W) ∧ u'.cell? ⟨w.heap.size, 1, none⟩ = some (.int .i64 H) ∧ u'.cell? ⟨w.heap.size, 2, none⟩ = some (.slice (some ⟨b, off, none⟩) L.length cap) ∧ u'.cell? ⟨wr.heap.size, 0, none⟩ = some (.int .i64 0) ∧ u'.cell? ⟨wr.heap.size, 1, none⟩ = some (.int .i64 (-1)) ∧ Hid (Below wr.heap.size wr u')) := by
                intro u u' ⟨g0, g1, g2, g3, g4, g5⟩ hsz hb'
                have hz := HZ.out
                exact ⟨((bcell hb').1 _ _ (by omega)).trans g0, ((bcell hb').1 _ _ (by omega)).trans g1, ((bcell hb').1 _ _ (by omega)).trans g2, ((bcell hb').1 _ _ (by omega)).trans g3, ((bcell hb').1 _ _ (by omega)).trans g4, Lib.hid (g5.out.trans (hb'.mono g5.out.size))⟩
              have szS : ∀ u : World, (u.cell? ⟨w.heap.size, 0, none⟩ = some (.int .i64 W) ∧ u.cell? ⟨w.heap.size, 1, none⟩ = some (.int .i64 H) ∧ u.cell? ⟨w.heap.size, 2, none⟩ = some (.slice (some ⟨b, off, none⟩) L.length cap) ∧ u.cell? ⟨wr.heap.size, 0, none⟩ = some (.int .i64 0) ∧ u.cell? ⟨wr.heap.size, 1, none⟩ = some (.int .i64 (-1)) ∧ Hid (Below wr.heap.size wr u)) → wr.heap.size < u.heap.size := by
                intro u ⟨g0, g1, g2, g3, g4, g5⟩
                exact World.block_lt_of_cell? _ _ g3
              have CATW : Hid (∀ (u : World) (X Y : Int), (u.cell? ⟨w.heap.size, 0, none⟩ = some (.int .i64 W) ∧ u.cell? ⟨w.heap.size, 1, none⟩ = some (.int .i64 H) ∧ u.cell? ⟨w.heap.size, 2, none⟩ = some (.slice (some ⟨b, off, none⟩) L.length cap) ∧ u.cell? ⟨wr.heap.size, 0, none⟩ = some (.int .i64 0) ∧ u.cell? ⟨wr.heap.size, 1, none⟩ = some (.int .i64 (-1)) ∧ Hid (Below wr.heap.size wr u)) → X = (k : Int) % W + dxI 3 → Y = (k : Int) / W + dyI 3 →
                  Calls Try.prog 42 #[.agg #[.int .i64 W, .int .i64 H, .slice (some ⟨b, off, none⟩) L.length cap], .int .i64 X, .int .i64 Y] u fun e u' => e = .returned (.int .i64 z) ∧ (u'.cell? ⟨w.heap.size, 0, none⟩ = some (.int .i64 W) ∧ u'.cell? ⟨w.heap.size, 1, none⟩ = some (.int .i64 H) ∧ u'.cell? ⟨w.heap.size, 2, none⟩ = some (.slice (some ⟨b, off, none⟩) L.length cap) ∧ u'.cell? ⟨wr.heap.size, 0, none⟩ = some (.int .i64 0) ∧ u'.cell? ⟨wr.heap.size, 1, none⟩ = some (.int .i64 (-1)) ∧ Hid (Below wr.heap.size wr u'))) := Lib.hid (by
                rintro u X Y hS rfl rfl
                have hbu := HAL.out.trans ((hwi.out.trans (hS.2.2.2.2.2.out.mono hwi.out.size)).mono HAL.out.size)
                have c := lAt (cap := cap) (H0.out.below hbu hB) (Nat.le_trans hB hbu.size) HV.out ((k : Int) % W + dxI 3) ((k : Int) / W + dyI 3)
                rw [HZZ.out] at c
                exact c.mono fun e u' ⟨he, hb'⟩ => ⟨he, keepS u u' hS (szS u hS) hb'⟩)
              have CPW : Hid (∀ u : World, (u.cell? ⟨w.heap.size, 0, none⟩ = some (.int .i64 W) ∧ u.cell? ⟨w.heap.size, 1, none⟩ = some (.int .i64 H) ∧ u.cell? ⟨w.heap.size, 2, none⟩ = some (.slice (some ⟨b, off, none⟩) L.length cap) ∧ u.cell? ⟨wr.heap.size, 0, none⟩ = some (.int .i64 0) ∧ u.cell? ⟨wr.heap.size, 1, none⟩ = some (.int .i64 (-1)) ∧ Hid (Below wr.heap.size wr u)) → Calls Try.prog F (#[.int .i64 z] ++ caps) u fun e u' => e = .returned (.bool (p z)) ∧ (u'.cell? ⟨w.heap.size, 0, none⟩ = some (.int .i64 W) ∧ u'.cell? ⟨w.heap.size, 1, none⟩ = some (.int .i64 H) ∧ u'.cell? ⟨w.heap.size, 2, none⟩ = some (.slice (some ⟨b, off, none⟩) L.length cap) ∧ u'.cell? ⟨wr.heap.size, 0, none⟩ = some (.int .i64 0) ∧ u'.cell? ⟨wr.heap.size, 1, none⟩ = some (.int .i64 (-1)) ∧ Hid (Below wr.heap.size wr u'))) := Lib.hid (by
                intro u hS
                have hbu := HAL.out.trans ((hwi.out.trans (hS.2.2.2.2.2.out.mono hwi.out.size)).mono HAL.out.size)
                exact (HP.out u hbu z).mono fun e u' ⟨he, hu⟩ => ⟨he, by rw [← hu]; exact hS⟩)
              have d1 : W ≠ 0 := by omega
              have t1 : Int.tmod (k : Int) W = (k : Int) % W := Int.tmod_eq_emod_of_nonneg (by omega)
              have t3 : Int.tdiv (k : Int) W = (k : Int) / W := Int.tdiv_eq_ediv_of_nonneg (by omega)
              have e1 : IntKind.i64.wrap ((k : Int) / W) = (k : Int) / W := IntWalk.i64_in _ (by omega)
              have e2 : IntKind.i64.wrap ((k : Int) % W) = (k : Int) % W := IntWalk.i64_in _ (by omega)
              have e3 : IntKind.i64.wrap ((k : Int) % W + 1) = (k : Int) % W + 1 := IntWalk.i64_in _ (by omega)
              have e4 : IntKind.i64.wrap ((k : Int) / W + 1) = (k : Int) / W + 1 := IntWalk.i64_in _ (by omega)
              have e5 : IntKind.i64.wrap ((k : Int) % W + -1) = (k : Int) % W + -1 := IntWalk.i64_in _ (by omega)
              have e6 : IntKind.i64.wrap ((k : Int) / W + -1) = (k : Int) / W + -1 := IntWalk.i64_in _ (by omega)
              clear keepS szS c0 c1 hal1
              cases hpz : p z
              all_goals
                rw [hpz] at CPW NEXT
                clear hpz
                go_wp2
                go_region_held3 (fun w' => w'.cell? ⟨w.heap.size, 0, none⟩ = some (.int .i64 W) ∧ w'.cell? ⟨w.heap.size, 1, none⟩ = some (.int .i64 H) ∧ w'.cell? ⟨w.heap.size, 2, none⟩ = some (.slice (some ⟨b, off, none⟩) L.length cap) ∧ w'.cell? ⟨wr.heap.size, 0, none⟩ = some (.int .i64 0) ∧ w'.cell? ⟨wr.heap.size, 1, none⟩ = some (.int .i64 (-1)) ∧ Hid (Below wr.heap.size wr w')) (first | assumption | go_keep)
                  (first | (go_at_call 42; refine (CATW.out _ _ _ (by assumption) (by simp [dxI]; try omega) (by simp [dyI]; try omega)).mono ?_; rintro e w3 ⟨rfl, hS3⟩) | (refine (CPW.out _ (by assumption)).mono ?_; rintro e w4 ⟨rfl, hS4⟩))
                have HW4 := Lib.hid (hwi.out.trans (hS4.2.2.2.2.2.out.mono hwi.out.size))
                clear hS4 hS3 hS0 CATW CPW d1 t1 t3 e1 e2 e3 e4 e5 e6
                go_wp2
                go_roundw
                case rel =>
                  first
                  | exact ⟨4, m + 1, by omega, by go_num, by go_num, by omega, Lib.hid (by rw [← NEXT.out]; rfl), HW4⟩
                  | exact ⟨4, m, by omega, by go_num, rfl, by omega, Lib.hid (by rw [← NEXT.out]; rfl), HW4⟩
                case measure => simp [intOf]
          · have hb1 : (x == a) = false := by simpa using hxa
            have HMS : Hid (m = n + if x = a then sumN (j + 1) (fun j => one (p (atL W H L ((k : Int) % W + dxI j) ((k : Int) / W + dyI j)))) else 0) := Lib.hid (by rw [hms.out, if_neg hxa, if_neg hxa])
            clear hms hxa
            rcases hcj with rfl | rfl | rfl | rfl
            all_goals
              go_wp2
              go_quiet (fail)
              go_wp2
              go_roundw
              case rel => exact ⟨_, m, by omega, by go_num, rfl, by omega, HMS, Lib.hid (below_drewN (hwi.out.alloc hwi.out.size _) _)⟩
              case measure => simp [intOf]
        · have hj4 : j = 4 := by omega
          subst hj4
          have HMS : Hid (m = sumN (k + 1) (sideG W H L a p)) := Lib.hid (by
            have e1 : sumN (k + 1) (sideG W H L a p) = n + sideG W H L a p k := by rw [sumN_succ, ← hs.out]
            rw [hms.out, e1, sideG, HGX.out])
          clear hms
          go_wp2
          go_roundw
          case rel => exact ⟨k + 1, m, by omega, by go_num, rfl, by omega, HMS, hwi⟩
          case measure => simp [intOf]; omega
    · have hfin : Hid (n = sidesN W H L a p) := Lib.hid (by rw [hg.out, hs.out, show k = L.length by omega])
      go_wp2
      go_ret
      exact ⟨ret_int (by rw [hfin.out]), HAL.out.trans (hw.out.mono HAL.out.size)⟩
end Go.Proofs.Ytkoipecnmijfoaa
end

section
/-! Plain law: sides, boundaries and borders of land. -/
namespace Go.Proofs.Ytkoipecnmijfoaa
set_option linter.unusedVariables false

theorem ownF_grid {W H : Nat} {L : List Int} {a : Int} (ha : 0 ≤ a) : InGrid (ownF W H L a) W H := by
  constructor
  · intro x y h
    by_cases ho : x < 0 ∨ y < 0 ∨ (W : Int) ≤ x ∨ (H : Int) ≤ y
    · unfold ownF at h; rw [atL_out ho] at h; simp at h; omega
    · omega
  · intro x y h
    by_cases ho : x < 0 ∨ y < 0 ∨ (W : Int) ≤ x ∨ (H : Int) ≤ y
    · unfold ownF at h; rw [atL_out ho] at h; simp at h; omega
    · omega
theorem ownF_no {W H : Nat} {L : List Int} {a : Int} (ha : 0 ≤ a) {x y : Int} (h : x < 0 ∨ y < 0 ∨ (W : Int) ≤ x ∨ (H : Int) ≤ y) : ownF W H L a x y = false := by
  unfold ownF
  rw [atL_out h]
  simp; omega
/-- the owner of a parcel -/
theorem own_at {W H : Nat} {L : List Int} (v : VL W H L) {i : Nat} (hi : i < L.length) : L.getD i 0 = atL W H L ((i % W : Nat) : Int) ((i / W : Nat) : Int) := by
  have hW := v.w0
  have h1 : i % W < W := Nat.mod_lt _ hW
  have h2 : i / W < H := by
    rw [Nat.div_lt_iff_lt_mul hW, Nat.mul_comm]
    rw [v.len] at hi; exact hi
  rw [atL_in h1 h2, Nat.mul_comm, Nat.div_add_mod]
/-- the sides, place by place -/
theorem sidesN_grid {W H : Nat} {L : List Int} (v : VL W H L) (a : Int) (p : Int → Bool) :
    sidesN W H L a p = sumN H (fun y => sumN W (fun x => if ownF W H L a x y then (one (p (atL W H L ((x : Int) + 1) y)) + one (p (atL W H L ((x : Int) - 1) y))) + (one (p (atL W H L x ((y : Int) + 1))) + one (p (atL W H L x ((y : Int) - 1)))) else 0)) := by
  rw [← sumN_grid W v.w0 (fun x y => if ownF W H L a x y then (one (p (atL W H L ((x : Int) + 1) y)) + one (p (atL W H L ((x : Int) - 1) y))) + (one (p (atL W H L x ((y : Int) + 1))) + one (p (atL W H L x ((y : Int) - 1)))) else 0) H]
  unfold sidesN
  rw [v.len]
  refine sumN_congr fun i hi => ?_
  have ho := own_at v (i := i) (by rw [v.len]; exact hi)
  unfold sideG ownF
  rw [ho]
  have e1 : (i : Int) % (W : Int) = ((i % W : Nat) : Int) := rfl
  have e2 : (i : Int) / (W : Int) = ((i / W : Nat) : Int) := rfl
  rw [e1, e2]
  generalize ((i % W : Nat) : Int) = x
  generalize ((i / W : Nat) : Int) = y
  by_cases h : atL W H L x y = a
  · rw [if_pos h, if_pos (by simpa using h)]
    simp only [sumN, dxI, dyI]
    simp only [if_true, if_false, Int.add_zero, Nat.zero_add, show ¬ (0 = 2) by decide, show ¬ (0 = 3) by decide, show ¬ (1 = 0) by decide, show ¬ (1 = 2) by decide, show ¬ (2 = 0) by decide, show ¬ (2 = 1) by decide, show ¬ (2 = 3) by decide, show ¬ (3 = 0) by decide, show ¬ (3 = 2) by decide, show ¬ (3 = 1) by decide, show ¬ (0 = 1) by decide]
    rw [show x + -1 = x - 1 by omega, show y + -1 = y - 1 by omega]
    omega
  · rw [if_neg h, if_neg (by simpa using h)]
/-- the boundary, by the changes between places -/
theorem boundary_eq {W H : Nat} {L : List Int} (v : VL W H L) {a : Int} (ha : 0 ≤ a) :
    sumN (H + 2) (fun yy => sumN (W + 2) (fun xx => one (ownF W H L a ((xx : Int) - 1) ((yy : Int) - 1) != ownF W H L a (xx : Int) ((yy : Int) - 1)) + one (ownF W H L a ((xx : Int) - 1) ((yy : Int) - 1) != ownF W H L a ((xx : Int) - 1) (yy : Int))))
      = sidesN W H L a (fun x => x != a) := by
  rw [boundary_law W H (ownF W H L a) (fun x y hx => ownF_no ha (.inl hx)) (fun x y hx => ownF_no ha (.inr (.inr (.inl hx)))) (fun x y hy => ownF_no ha (.inr (.inl hy))) (fun x y hy => ownF_no ha (.inr (.inr (.inr hy))))]
  rw [sidesN_grid v]
  rfl
/-- the border, by pairs of parcels -/
theorem border_eq {W H : Nat} {L : List Int} (v : VL W H L) {a b : Int} (hb : 0 ≤ b) :
    sumN L.length (fun i => sumN L.length (fun k => one ((L.getD i 0 == a) && ((L.getD k 0 == b) && nbB W i k)))) = sidesN W H L a (fun x => x == b) := by
  rw [sidesN_grid v]
  rw [← sumN_grid W v.w0 (fun x y => if ownF W H L a x y then (one (atL W H L ((x : Int) + 1) y == b) + one (atL W H L ((x : Int) - 1) y == b)) + (one (atL W H L x ((y : Int) + 1) == b) + one (atL W H L x ((y : Int) - 1) == b)) else 0) H]
  rw [v.len]
  refine sumN_congr fun i hi => ?_
  have ho := own_at v (i := i) (by rw [v.len]; exact hi)
  have key : sumN (W * H) (fun k => one ((L.getD i 0 == a) && ((L.getD k 0 == b) && nbB W i k)))
      = sumN H (fun y => sumN W (fun x => one ((L.getD i 0 == a) && (ownF W H L b x y && decide ((((i % W : Nat) : Int) - x) * (((i % W : Nat) : Int) - x) + (((i / W : Nat) : Int) - y) * (((i / W : Nat) : Int) - y) = 1))))) := by
    rw [← sumN_grid W v.w0 (fun x y => one ((L.getD i 0 == a) && (ownF W H L b x y && decide ((((i % W : Nat) : Int) - x) * (((i % W : Nat) : Int) - x) + (((i / W : Nat) : Int) - y) * (((i / W : Nat) : Int) - y) = 1)))) H]
    refine sumN_congr fun k hk => ?_
    have hok := own_at v (i := k) (by rw [v.len]; exact hk)
    rw [hok]
    rfl
  rw [key]
  by_cases h : L.getD i 0 = a
  · have h1 : (L.getD i 0 == a) = true := by simpa using h
    rw [h1]
    simp only [Bool.true_and]
    rw [border_law W H (ownF W H L b) (fun x y hx => ownF_no hb (.inl hx)) (fun x y hx => ownF_no hb (.inr (.inr (.inl hx)))) (fun x y hy => ownF_no hb (.inr (.inl hy))) (fun x y hy => ownF_no hb (.inr (.inr (.inr hy))))]
    have h2 : ownF W H L a ((i % W : Nat) : Int) ((i / W : Nat) : Int) = true := by unfold ownF; rw [← ho]; exact h1
    rw [if_pos h2]
    rfl
  · have h1 : (L.getD i 0 == a) = false := by simpa using h
    rw [h1]
    have h2 : ownF W H L a ((i % W : Nat) : Int) ((i / W : Nat) : Int) = false := by unfold ownF; rw [← ho]; exact h1
    rw [h2]
    simp only [Bool.false_and, Bool.false_eq_true, if_false]
    exact sumN_zero fun y _ => sumN_zero fun x _ => rfl
end Go.Proofs.Ytkoipecnmijfoaa
end

section
/-! Walks of chapter 30: the program's Boundary and Border. -/
namespace Go.Proofs.Ytkoipecnmijfoaa
open Go.RowKit Go.Deep
set_option linter.unusedVariables false
set_option maxRecDepth 100000

theorem beyondC {w : World} {g : Nat} {a : Int} (hc : w.cell? ⟨g, 0, none⟩ = some (.int .i64 a)) (x : Int) :
    Calls Try.prog 24 #[.int .i64 x, .pointer (some ⟨g, 0, none⟩)] w fun e w' => e = .returned (.bool (x == a)) ∧ w = w' := by
  by_cases h : x = a
  · have h1 : (x == a) = true := by simpa using h
    have H1 := Lib.hid h1
    clear h
    go_enter Try.func24, Try.ntmps24
    go_wp2
    go_ret
    exact ⟨ret_bool H1.out.symm, rfl⟩
  · have h1 : (x == a) = false := by simpa using h
    have H1 := Lib.hid h1
    clear h
    go_enter Try.func24, Try.ntmps24
    go_wp2
    go_ret
    exact ⟨ret_bool H1.out.symm, rfl⟩

/-- the number of sides of the boundary -/
def bdyN (W H : Int) (L : List Int) (a : Int) : Int := if lkd W H L a = 0 then (sidesN W.toNat H.toNat L a (fun x => x != a) : Nat) else 0
/-- the border of two agents -/
def brdE (W H : Int) (L : List Int) (a b : Int) : Int := if lkd W H L a ≠ 0 then lkd W H L a else if b < 0 ∨ 6 ≤ b ∨ a = b then 2 else 0
def brdN (W H : Int) (L : List Int) (a b : Int) : Int := if brdE W H L a b = 0 then (sidesN W.toNat H.toNat L a (fun x => x == b) : Nat) else 0

set_option maxHeartbeats 1000000 in
theorem lBorder {w : World} {B : Nat} {A : Option Addr} {L : List Int} {cap : Nat} (h : Rd w B A L) (hB : B ≤ w.heap.size) (W H a b : Int) :
    Calls Try.prog 10 #[.agg #[.int .i64 W, .int .i64 H, .slice A L.length cap], .int .i64 a, .int .i64 b] w fun e w' => e = .returned (.tuple #[.int .i64 (brdN W H L a b), .int .i64 (brdE W H L a b)]) ∧ Below w.heap.size w w' := by
  have hal : Below w.heap.size w ((w.alloc (.cells #[.int .i64 W, .int .i64 H, .slice A L.length cap] 35)).alloc (.cells #[.int .i64 b] 3)) := ((Below.refl _ _).alloc (Nat.le_refl _) _).alloc (by simp) _
  have hsz : ((w.alloc (.cells #[.int .i64 W, .int .i64 H, .slice A L.length cap] 35)).alloc (.cells #[.int .i64 b] 3)).heap.size = w.heap.size + 2 := by simp
  have b0 : ((w.alloc (.cells #[.int .i64 W, .int .i64 H, .slice A L.length cap] 35)).alloc (.cells #[.int .i64 b] 3)).cell? ⟨w.heap.size, 0, none⟩ = some (.int .i64 W) := by simp
  have b1 : ((w.alloc (.cells #[.int .i64 W, .int .i64 H, .slice A L.length cap] 35)).alloc (.cells #[.int .i64 b] 3)).cell? ⟨w.heap.size, 1, none⟩ = some (.int .i64 H) := by simp
  have b2 : ((w.alloc (.cells #[.int .i64 W, .int .i64 H, .slice A L.length cap] 35)).alloc (.cells #[.int .i64 b] 3)).cell? ⟨w.heap.size, 2, none⟩ = some (.slice A L.length cap) := by simp
  have b3 : ((w.alloc (.cells #[.int .i64 W, .int .i64 H, .slice A L.length cap] 35)).alloc (.cells #[.int .i64 b] 3)).cell? ⟨w.heap.size + 1, 0, none⟩ = some (.int .i64 b) := by simp
  have HSZ := Lib.hid hsz
  have HAL := Lib.hid hal
  have C1 := lLooked (cap := cap) (h.below hal hB) (Nat.le_trans hB hal.size) W H a
  have H0 := Lib.hid h
  by_cases hk : lkd W H L a = 0
  · obtain ⟨q0, q1, q2⟩ := lkd_zero hk
    obtain ⟨W, k, rfl, rfl, hv⟩ := lck_zero q0
    rw [hk] at C1
    have HV := Lib.hid hv
    have CI := fun u => isAgent (w := u) b
    by_cases hb : b < 0 ∨ 6 ≤ b
    · have hE : Hid (brdE W k L a b = 2) := Lib.hid (by rw [brdE, if_neg (by simp [hk]), if_pos (by rcases hb with hb | hb; exact .inl hb; exact .inr (.inl hb))])
      have hN : Hid (brdN W k L a b = 0) := Lib.hid (by rw [brdN, hE.out, if_neg (by decide)])
      have hd : (!decide (b < 0 ∨ 6 ≤ b)) = false := by simp; omega
      rw [hd] at CI
      have HCI := Lib.hid CI
      clear hk q0 hv h hal hsz hb hd CI
      go_enter Try.func10, Try.ntmps10
      go_wp2_with fail
      generalize (w.alloc (.cells #[.int .i64 W, .int .i64 k, .slice A L.length cap] 35)).alloc (.cells #[.int .i64 b] 3) = w1 at *
      refine C1.mono ?_
      rintro e w2 ⟨rfl, hb⟩
      have hz := HSZ.out
      replace b3 := ((bcell hb).1 _ _ (by omega)).trans b3
      have HB2 := Lib.hid (HAL.out.trans (hb.mono HAL.out.size))
      clear hb hz b0 b1 b2
      go_wp2_with fail
      refine (HCI.out _).mono ?_
      rintro e w3 ⟨rfl, rfl⟩
      go_wp2
      go_ret2
      rw [hE.out, hN.out]
      exact ⟨rfl, HB2.out⟩
    · have hd : (!decide (b < 0 ∨ 6 ≤ b)) = true := by simp; omega
      rw [hd] at CI
      have HCI := Lib.hid CI
      by_cases hab : a = b
      · have hE : Hid (brdE W k L a b = 2) := Lib.hid (by rw [brdE, if_neg (by simp [hk]), if_pos (.inr (.inr hab))])
        have hN : Hid (brdN W k L a b = 0) := Lib.hid (by rw [brdN, hE.out, if_neg (by decide)])
        have hbb : (a == b) = true := by simpa using hab
        have HAB := Lib.hid hab
        clear hk q0 hv h hal hsz hb hd CI hab
        go_enter Try.func10, Try.ntmps10
        go_wp2_with fail
        generalize (w.alloc (.cells #[.int .i64 W, .int .i64 k, .slice A L.length cap] 35)).alloc (.cells #[.int .i64 b] 3) = w1 at *
        refine C1.mono ?_
        rintro e w2 ⟨rfl, hb⟩
        have hz := HSZ.out
        replace b3 := ((bcell hb).1 _ _ (by omega)).trans b3
        have HB2 := Lib.hid (HAL.out.trans (hb.mono HAL.out.size))
        clear hb hz b0 b1 b2
        go_wp2_with fail
        refine (HCI.out _).mono ?_
        rintro e w3 ⟨rfl, rfl⟩
        go_wp2
        go_ret2
        rw [hE.out, hN.out]
        exact ⟨rfl, HB2.out⟩
      · have hE : Hid (brdE W k L a b = 0) := Lib.hid (by rw [brdE, if_neg (by simp [hk]), if_neg (by omega)])
        have hN : Hid (brdN W k L a b = (sidesN W k L a (fun x => x == b) : Nat)) := Lib.hid (by rw [brdN, hE.out, if_pos rfl, Int.toNat_natCast, Int.toNat_natCast])
        have hbb : (a == b) = false := by simpa using hab
        clear hk q0 hv h hal hsz hb hd CI hab
        go_enter Try.func10, Try.ntmps10
        go_wp2_with fail
        generalize (w.alloc (.cells #[.int .i64 W, .int .i64 k, .slice A L.length cap] 35)).alloc (.cells #[.int .i64 b] 3) = w1 at *
        refine C1.mono ?_
        rintro e w2 ⟨rfl, hb⟩
        have hz := HSZ.out
        replace b0 := ((bcell hb).1 _ _ (by omega)).trans b0
        replace b1 := ((bcell hb).1 _ _ (by omega)).trans b1
        replace b2 := ((bcell hb).1 _ _ (by omega)).trans b2
        replace b3 := ((bcell hb).1 _ _ (by omega)).trans b3
        have HB2 := Lib.hid (HAL.out.trans (hb.mono HAL.out.size))
        have HZ2 : Hid (w.heap.size + 1 < w2.heap.size) := Lib.hid (by have := hb.size; omega)
        have CS := lSides (cap := cap) (H0.out.below HB2.out hB) (Nat.le_trans hB HB2.out.size) HV.out a 24 #[.pointer (some ⟨w.heap.size + 1, 0, none⟩)] (fun x => x == b) (fun args u => by kernel_rfl)
          (fun u hu x => beyondC (((bcell hu).1 _ _ HZ2.out).trans b3) x)
        have HCS := Lib.hid CS
        clear hb hz CS C1
        go_wp2_with fail
        refine (HCI.out _).mono ?_
        rintro e w3 ⟨rfl, rfl⟩
        go_wp2_with fail
        refine HCS.out.mono ?_
        rintro e w3 ⟨rfl, hb3⟩
        have HB3 := Lib.hid (HB2.out.trans (hb3.mono HB2.out.size))
        clear hb3 HCS
        generalize (sidesN W k L a (fun x => x == b)) = nn at *
        go_wp2
        go_ret2
        rw [hE.out, hN.out]
        exact ⟨rfl, HB3.out⟩
  · have hne : (lkd W H L a != 0) = true := by simpa using hk
    have hE : Hid (brdE W H L a b = lkd W H L a) := Lib.hid (by rw [brdE, if_pos hk])
    have hN : Hid (brdN W H L a b = 0) := Lib.hid (by rw [brdN, hE.out, if_neg hk])
    clear hk h hal hsz
    generalize lkd W H L a = c at *
    go_enter Try.func10, Try.ntmps10
    go_wp2_with fail
    refine C1.mono ?_
    rintro e w2 ⟨rfl, hb⟩
    have HB2 := Lib.hid (HAL.out.trans (hb.mono HAL.out.size))
    clear hb
    go_wp2
    go_ret2
    rw [hN.out, hE.out]
    exact ⟨rfl, HB2.out⟩
end Go.Proofs.Ytkoipecnmijfoaa
end

section
/-! Plain law: what hangs together. No statement about the program. -/
namespace Go.Proofs.Ytkoipecnmijfoaa
set_option linter.unusedVariables false

/-- j hangs together with i -/
inductive Con (R : Nat → Nat → Bool) (i : Nat) : Nat → Prop
  | refl : Con R i i
  | step {j k : Nat} : Con R i j → R j k = true → Con R i k
theorem Con.trans {R : Nat → Nat → Bool} {i j k : Nat} (h : Con R i j) (h2 : Con R j k) : Con R i k := by
  induction h2 with
  | refl => exact h
  | step _ hr ih => exact .step ih hr
theorem Con.one {R : Nat → Nat → Bool} {i j : Nat} (h : R i j = true) : Con R i j := .step .refl h
theorem Con.symm {R : Nat → Nat → Bool} (hs : ∀ a b, R a b = true → R b a = true) {i j : Nat} (h : Con R i j) : Con R j i := by
  induction h with
  | refl => exact .refl
  | step _ hr ih => exact (Con.one (hs _ _ hr)).trans ih
theorem Con.inv {R : Nat → Nat → Bool} {i j : Nat} (h : Con R i j) : i = j ∨ ∃ k, R k j = true := by
  cases h with
  | refl => exact .inl rfl
  | step _ hr => exact .inr ⟨_, hr⟩
theorem Con.inv0 {R : Nat → Nat → Bool} {i j : Nat} (h : Con R i j) : i = j ∨ ∃ k, R i k = true := by
  induction h with
  | refl => exact .inl rfl
  | step _ hr ih =>
    rcases ih with rfl | ih
    · exact .inr ⟨_, hr⟩
    · exact .inr ih
/-- what is closed under neighbours and has i has all -/
theorem Con.closed {R : Nat → Nat → Bool} {S : Nat → Prop} (hS : ∀ a b, S a → R a b = true → S b) {i j : Nat} (hi : S i) (h : Con R i j) : S j := by
  induction h with
  | refl => exact hi
  | step _ hr ih => exact hS _ _ ih hr
theorem Con.mono {R R' : Nat → Nat → Bool} (hR : ∀ a b, R a b = true → R' a b = true) {i j : Nat} (h : Con R i j) : Con R' i j := by
  induction h with
  | refl => exact .refl
  | step _ hr ih => exact .step ih (hR _ _ hr)

/-- a set and its neighbours -/
def grow (n : Nat) (R : Nat → Nat → Bool) (S : List Nat) : List Nat := (List.range n).filter fun k => S.contains k || S.any fun j => R j k
def growN (n : Nat) (R : Nat → Nat → Bool) (S : List Nat) : Nat → List Nat
  | 0 => S
  | f + 1 => grow n R (growN n R S f)
/-- all that hangs together with i, in order -/
def comp (n : Nat) (R : Nat → Nat → Bool) (i : Nat) : List Nat := growN n R [i] (n + 1)
theorem mem_grow {n : Nat} {R : Nat → Nat → Bool} {S : List Nat} {k : Nat} : k ∈ grow n R S ↔ k < n ∧ (k ∈ S ∨ ∃ j ∈ S, R j k = true) := by
  simp [grow, List.mem_filter]
/-- how many are not in it -/
def lacks (n : Nat) (S : List Nat) : Nat := sumN n fun k => one (!S.contains k)
theorem sumN_mono {n : Nat} {f g : Nat → Nat} (h : ∀ i, i < n → f i ≤ g i) : sumN n f ≤ sumN n g := by
  induction n with
  | zero => exact Nat.le_refl _
  | succ n ih =>
    have h1 := ih fun i hi => h i (by omega)
    have h2 := h n (by omega)
    rw [sumN, sumN]; omega
theorem sumN_lt {n : Nat} {f g : Nat → Nat} (h : ∀ i, i < n → f i ≤ g i) {k : Nat} (hk : k < n) (hlt : f k < g k) : sumN n f < sumN n g := by
  induction n with
  | zero => omega
  | succ n ih =>
    rw [sumN, sumN]
    have h2 := h n (by omega)
    by_cases hkn : k = n
    · subst hkn
      have := sumN_mono (f := f) (g := g) fun i hi => h i (Nat.lt_succ_of_lt hi)
      omega
    · have := ih (fun i hi => h i (by omega)) (by omega)
      omega
theorem lacks_le (n : Nat) (S : List Nat) : lacks n S ≤ n := by
  have := sumN_le (n := n) (f := fun k => one (!S.contains k)) (c := 1) fun i _ => one_le _
  unfold lacks; omega
/-- closed under neighbours -/
def Shut (R : Nat → Nat → Bool) (T : List Nat) : Prop := ∀ a b, a ∈ T → R a b = true → b ∈ T
theorem growN_lt {n : Nat} {R : Nat → Nat → Bool} {i : Nat} (hi : i < n) : ∀ f, ∀ k ∈ growN n R [i] f, k < n
  | 0, k, hk => by rw [growN, List.mem_singleton] at hk; omega
  | f + 1, k, hk => (mem_grow.1 hk).1
theorem growN_self {n : Nat} {R : Nat → Nat → Bool} {i : Nat} (hi : i < n) : ∀ f, i ∈ growN n R [i] f
  | 0 => by simp [growN]
  | f + 1 => mem_grow.2 ⟨hi, .inl (growN_self hi f)⟩
theorem growN_con {n : Nat} {R : Nat → Nat → Bool} {i : Nat} : ∀ f, ∀ k ∈ growN n R [i] f, Con R i k
  | 0, k, hk => by rw [growN, List.mem_singleton] at hk; subst hk; exact .refl
  | f + 1, k, hk => by
    rcases (mem_grow.1 hk).2 with h | ⟨j, hj, hr⟩
    · exact growN_con f k h
    · exact .step (growN_con f j hj) hr
theorem lacks_lt {n : Nat} {R : Nat → Nat → Bool} (hR : ∀ a b, R a b = true → b < n) {T : List Nat} (h : ¬ Shut R T) : lacks n (grow n R T) < lacks n T := by
  have : ∃ a b, a ∈ T ∧ R a b = true ∧ b ∉ T := by
    apply Classical.byContradiction
    intro hno
    apply h
    intro a b ha hr
    apply Classical.byContradiction
    intro hb
    exact hno ⟨a, b, ha, hr, hb⟩
  obtain ⟨a, b, ha, hr, hb⟩ := this
  have hbn := hR a b hr
  have hin : b ∈ grow n R T := mem_grow.2 ⟨hbn, .inr ⟨a, ha, hr⟩⟩
  refine sumN_lt (k := b) (fun i hi => ?_) hbn ?_
  · by_cases hiT : i ∈ T
    · have : i ∈ grow n R T := mem_grow.2 ⟨hi, .inl hiT⟩
      simp [one, this]
    · have h1 : one (!T.contains i) = 1 := by simp [one, hiT]
      rw [h1]
      exact one_le _
  · rw [one, one, if_neg (by simpa using hin), if_pos (by simpa using hb)]
    omega
theorem growN_step {n : Nat} {R : Nat → Nat → Bool} (hR : ∀ a b, R a b = true → b < n) {i : Nat} (hi : i < n) : ∀ f, Shut R (growN n R [i] f) ∨ lacks n (growN n R [i] f) + f ≤ n
  | 0 => .inr (by have := lacks_le n (growN n R [i] 0); omega)
  | f + 1 => by
    by_cases hs : Shut R (growN n R [i] f)
    · left
      intro a b ha hr
      refine mem_grow.2 ⟨hR a b hr, .inl ?_⟩
      rcases (mem_grow.1 ha).2 with h | ⟨j, hj, hr2⟩
      · exact hs a b h hr
      · exact hs a b (hs j a hj hr2) hr
    · rcases growN_step hR hi f with h | h
      · exact absurd h hs
      · right
        have := lacks_lt hR hs
        rw [growN]; omega
theorem comp_shut {n : Nat} {R : Nat → Nat → Bool} (hR : ∀ a b, R a b = true → b < n) {i : Nat} (hi : i < n) : Shut R (comp n R i) := by
  rcases growN_step hR hi (n + 1) with h | h
  · exact h
  · omega
theorem mem_comp {n : Nat} {R : Nat → Nat → Bool} (hR : ∀ a b, R a b = true → b < n) {i : Nat} (hi : i < n) (k : Nat) : k ∈ comp n R i ↔ Con R i k :=
  ⟨growN_con _ k, fun h => h.closed (S := fun k => k ∈ comp n R i) (comp_shut hR hi) (growN_self hi _)⟩
theorem comp_lt {n : Nat} {R : Nat → Nat → Bool} {i : Nat} (hi : i < n) : ∀ k ∈ comp n R i, k < n := growN_lt hi _
theorem comp_sorted (n : Nat) (R : Nat → Nat → Bool) (i : Nat) : (comp n R i).Pairwise (· < ·) := List.Pairwise.filter _ List.pairwise_lt_range
/-- sorted lists with the same members are the same -/
theorem sorted_ext : ∀ {A B : List Nat}, A.Pairwise (· < ·) → B.Pairwise (· < ·) → (∀ k, k ∈ A ↔ k ∈ B) → A = B := by
  intro A B ha hb h
  have hp : A.Perm B := by
    rw [List.perm_ext_iff_of_nodup (ha.imp fun h => Nat.ne_of_lt h) (hb.imp fun h => Nat.ne_of_lt h)]
    exact h
  exact hp.eq_of_pairwise (fun a b _ _ h1 h2 => absurd h2 (by omega)) ha hb

/-- the first of its part -/
def isLead (n : Nat) (E : Nat → Bool) (R : Nat → Nat → Bool) (i : Nat) : Bool := E i && (comp n R i).all fun k => decide (i ≤ k)
def partsL (n : Nat) (E : Nat → Bool) (R : Nat → Nat → Bool) : List (List Nat) := ((List.range n).filter (isLead n E R)).map (comp n R)
theorem isLead_iff {n : Nat} {E : Nat → Bool} {R : Nat → Nat → Bool} (hR : ∀ a b, R a b = true → b < n) {i : Nat} (hi : i < n) : isLead n E R i = true ↔ E i = true ∧ ∀ k, k < i → ¬ Con R i k := by
  rw [isLead, Bool.and_eq_true, List.all_eq_true]
  refine and_congr Iff.rfl ⟨fun h k hk hc => ?_, fun h k hk => ?_⟩
  · have := h k ((mem_comp hR hi k).2 hc)
    simp at this; omega
  · apply decide_eq_true
    apply Classical.byContradiction
    intro hlt
    exact h k (by omega) ((mem_comp hR hi k).1 hk)
/-- the parts up to i -/
def partsTo (n : Nat) (E : Nat → Bool) (R : Nat → Nat → Bool) (i : Nat) : List (List Nat) := ((List.range i).filter (isLead n E R)).map (comp n R)
theorem partsTo_zero (n : Nat) (E : Nat → Bool) (R : Nat → Nat → Bool) : partsTo n E R 0 = [] := rfl
theorem partsTo_n (n : Nat) (E : Nat → Bool) (R : Nat → Nat → Bool) : partsTo n E R n = partsL n E R := rfl
theorem partsTo_no {n : Nat} {E : Nat → Bool} {R : Nat → Nat → Bool} {i : Nat} (h : isLead n E R i = false) : partsTo n E R (i + 1) = partsTo n E R i := by
  simp [partsTo, List.range_succ, List.filter_append, h]
theorem partsTo_yes {n : Nat} {E : Nat → Bool} {R : Nat → Nat → Bool} {i : Nat} (h : isLead n E R i = true) : partsTo n E R (i + 1) = partsTo n E R i ++ [comp n R i] := by
  simp [partsTo, List.range_succ, List.filter_append, h]
end Go.Proofs.Ytkoipecnmijfoaa
end

section
/-! A map from numbers to booleans that the call has made: reading, storing, striking out. -/
namespace Go.Proofs.Ytkoipecnmijfoaa
open Go.RowKit Go.Deep Go.Maps
set_option linter.unusedVariables false
set_option maxRecDepth 100000

theorem uMap : Try.prog.underlying 76 = some (.map 3 4) := by kernel_rfl
theorem uInt : Try.prog.underlying 3 = some (.int .i64) := by kernel_rfl
theorem uBool : Try.prog.underlying 4 = some .bool := by kernel_rfl
theorem kInt : Keyed Try.prog 3 := int_keyed uInt
theorem zBool (w : World) : (zeroValue 4).run Try.prog w = .ok (.bool false) w := by kernel_rfl
theorem wfk {k : Nat} (hk : k < 1000) : (Lit.int .i64 (k : Int)).wf = true := WalkArith.wf_i64 ⟨by omega, by omega⟩
theorem keyk {k : Nat} (hk : k < 1000) : keyOf Try.prog 3 (.int .i64 (k : Int)) = some (.int .i64 (k : Int)) := keyOf_int_mk uInt (wfk hk)
theorem plainElem_bool_inv {v : Value} {z : DataW Unit × List MemPlace} (h : plainElem Try.prog 4 v = some z) : ∃ x, v = .bool x ∧ z = (.lit (.bool x), []) := by
  unfold plainElem at h
  rw [uBool] at h
  cases v <;> simp at h
  obtain rfl := h
  exact ⟨_, rfl, rfl⟩
/-- block b is a map of at most n entries in which just the numbers of f are true -/
def OwnM (w : World) (b n : Nat) (f : Nat → Bool) : Prop :=
  ∃ D : DataW Unit, w.ownsMap Try.prog 3 (plainElem Try.prog 4) b n D ∧ ∀ k : Nat, k < 1000 → D.atKey (.int .i64 (k : Int)) (.lit (.bool false)) = .lit (.bool (f k))
section
variable {w w' : World} {b n : Nat} {f : Nat → Bool}
theorem OwnM.made (w : World) : OwnM (w.alloc (.map #[] 0)) w.heap.size 0 fun _ => false := ⟨_, World.ownsMap_made w _ _ _, fun k _ => rfl⟩
theorem OwnM.lt (h : OwnM w b n f) : b < w.heap.size := by obtain ⟨D, h1, _⟩ := h; exact h1.lt
theorem OwnM.drew (h : OwnM w b n f) : OwnM w.drew b n f := h
theorem OwnM.same (h : OwnM w b n f) (hb : w'.heap[b]? = w.heap[b]?) : OwnM w' b n f := by
  obtain ⟨D, ⟨es, clock, h1, h2⟩, h3⟩ := h
  exact ⟨D, ⟨es, clock, hb.trans h1, h2⟩, h3⟩
theorem OwnM.alloc (h : OwnM w b n f) (o : Obj) : OwnM (w.alloc o) b n f := h.same (Below.heap_alloc w o b h.lt)
theorem OwnM.below {B : Nat} (h : OwnM w b n f) (hb : Below B w w') (hB : b < B) : OwnM w' b n f := h.same (hb.block b hB)
theorem OwnM.ext {g : Nat → Bool} (h : OwnM w b n f) (hfg : ∀ k, k < 1000 → f k = g k) : OwnM w b n g := by
  obtain ⟨D, h1, h2⟩ := h
  exact ⟨D, h1, fun k hk => by rw [h2 k hk, hfg k hk]⟩
theorem OwnM.more {m : Nat} (h : OwnM w b n f) (hm : n ≤ m) : OwnM w b m f := by
  obtain ⟨D, h1, h2⟩ := h
  exact ⟨D, h1.mono hm, h2⟩
theorem OwnM.look (h : OwnM w b n f) {k : Nat} (hk : k < 1000) : (Instr.lookup 76 (.map (some b)) (.int .i64 (k : Int)) false).run Try.prog w = .ok (.bool (f k)) w := by
  obtain ⟨D, h1, h2⟩ := h
  obtain ⟨v, ps, hrun, hv⟩ := h1.lookup kInt uMap (zBool w) (plainElem_bool uBool false) (keyk hk)
  obtain ⟨x, rfl, hx⟩ := plainElem_bool_inv hv
  rw [h2 k hk] at hx
  simp at hx
  rw [hrun, hx.1]
theorem lit_ne {i k : Nat} (h : i ≠ k) : (Lit.int .i64 (i : Int)) ≠ .int .i64 (k : Int) := by
  intro e; cases e; exact h rfl
theorem OwnM.put (h : OwnM w b n f) (hn : n < 1000) {k : Nat} (hk : k < 1000) : ∃ w1, (Instr.mapUpdate 76 (.map (some b)) (.int .i64 (k : Int)) (.bool true)).run Try.prog w = .ok () w1 ∧ OwnM w1 b (n + 1) (fun i => if i = k then true else f i) ∧ w.grownBy w1 (some b) := by
  obtain ⟨D, h1, h2⟩ := h
  obtain ⟨w1, hrun, ho, hg⟩ := h1.update kInt uMap (by unfold maxLen; omega) (keyk hk) (plainElem_bool uBool true)
  refine ⟨w1, hrun, ⟨_, ho, fun i hi => ?_⟩, hg⟩
  show _ = DataW.lit (Lit.bool (if i = k then true else f i))
  by_cases hik : i = k
  · subst hik
    rw [if_pos rfl]
    exact atKey_put_same h1.isMap (by trivial) _ _
  · rw [if_neg hik, atKey_put_other (lit_ne hik), h2 i hi]
theorem OwnM.cut (h : OwnM w b n f) {k : Nat} (hk : k < 1000) (ty : TypeId) : ∃ w1, (Builtin.delete_ #[76, 3] ty #[.map (some b), .int .i64 (k : Int)]).run Try.prog w = .ok (.tuple #[]) w1 ∧ OwnM w1 b n (fun i => if i = k then false else f i) ∧ w.mapTurned w1 b := by
  obtain ⟨D, h1, h2⟩ := h
  obtain ⟨w1, hrun, ho, hg⟩ := h1.drop kInt uMap (keyk hk) ty
  refine ⟨w1, hrun, ⟨_, ho, fun i hi => ?_⟩, hg⟩
  show _ = DataW.lit (Lit.bool (if i = k then false else f i))
  by_cases hik : i = k
  · subst hik
    rw [if_pos rfl, atKey_del_same]
  · rw [if_neg hik, atKey_del_other (lit_ne hik), h2 i hi]
end
section
variable {w : World} {ops : Array Oper} {rest : List Oper} {o : Oper} {a : Act} {Q : Exit → Act → World → Prop} {b n : Nat} {f : Nat → Bool}
theorem wpm_put (hg : o.guard = none) (m x v : Operand) (hop : o.op = Op.mapUpdate 76 m x v) (hm : a.eval m = .map (some b)) (hown : OwnM w b n f) (hn : n < 1000) {k : Nat} (hk : k < 1000)
    (hx : a.eval x = .int .i64 (k : Int)) (hv : a.eval v = .bool true) (hK : ∀ w1, OwnM w1 b (n + 1) (fun i => if i = k then true else f i) → w.grownBy w1 (some b) → wpList Try.prog ops Q rest (a.put o.dst undef) w1) :
    wpList Try.prog ops Q (o :: rest) a w := by
  refine wpList_plain hg fun K' hK' => ?_
  obtain ⟨w', hrun, r1, r2⟩ := hown.put hn hk
  unfold Oper.wp
  simp [execOp, hop, hm, hx, hv, hrun, Result.andThen]
  exact hK' _ _ (hK w' r1 r2)
theorem wpm_cut (hg : o.guard = none) (m x : Operand) (hop : o.op = Op.call { callee := Callee.builtin Builtin.delete, args := #[m, x], argTypes := #[76, 3] }) (hm : a.eval m = .map (some b)) (hown : OwnM w b n f) {k : Nat} (hk : k < 1000)
    (hx : a.eval x = .int .i64 (k : Int)) (hK : ∀ w1, OwnM w1 b n (fun i => if i = k then false else f i) → w.mapTurned w1 b → wpList Try.prog ops Q rest (a.put o.dst (.tuple #[])) w1) :
    wpList Try.prog ops Q (o :: rest) a w := by
  refine wpList_plain hg fun K' hK' => ?_
  obtain ⟨w', hrun, r1, r2⟩ := hown.cut hk o.type
  unfold Oper.wp
  simp [execOp, hop, resolve, invoke, builtin, hm, hx, hrun, Result.andThen]
  exact hK' _ _ (hK w' r1 r2)
end
end Go.Proofs.Ytkoipecnmijfoaa
end

section
/-! slices.Sort on a row of the call's own, of whatever length. -/
namespace Go.Proofs.Ytkoipecnmijfoaa
open Go.RowKit Go.Deep
set_option linter.unusedVariables false
set_option maxRecDepth 100000

/-- in order -/
def sortI (L : List Int) : List Int := L.mergeSort fun x y => decide (x ≤ y)
theorem sortI_perm (L : List Int) : (sortI L).Perm L := List.mergeSort_perm _ _
theorem sortI_length (L : List Int) : (sortI L).length = L.length := (sortI_perm L).length_eq
theorem sortI_sorted (L : List Int) : (sortI L).Pairwise (· ≤ ·) := by
  have h := List.pairwise_mergeSort (le := fun (x y : Int) => decide (x ≤ y)) (fun a b c h1 h2 => by simp at h1 h2 ⊢; omega) (fun a b => by simp; omega) L
  exact h.imp fun h => by simpa using h
theorem sortRow {w : World} {base g cap : Nat} {D0 : List Int} (ho : w.ownsRow base 3 1 (.slice (some ⟨g, 0, none⟩) D0.length cap) D0.length (D0.map (Value.int .i64))) (hn : 1 ≤ D0.length) (hl : D0.length < 1000) :
    Calls Try.prog 37 #[.slice (some ⟨g, 0, none⟩) D0.length cap] w
      fun e w' => e = .returned (.tuple #[]) ∧ w'.ownsRow base 3 1 (.slice (some ⟨g, 0, none⟩) (sortI D0).length cap) (sortI D0).length ((sortI D0).map (Value.int .i64)) ∧ w.grownBy w' (some g) := by
  obtain ⟨g', cap', e1, hb, hp⟩ := ownP_of_row ho (by omega)
  cases e1
  rcases ho.2 with ⟨h0, _⟩ | ⟨g2, cap2, cur, hv, hg, hh, h1, h2, h3, h4⟩
  · cases h0
  cases hv
  have hH : Go.Sort.Holds (Value.int .i64) w g 0 D0.toArray := by
    intro j hj
    have hj' : j < D0.length := by simpa using hj
    refine ⟨?_, hp.frozen _⟩
    rw [Nat.zero_add]
    have := hp.cell (i := j) (x := D0[j]) (by simp [hj'])
    rw [this]
    simp [hj']
  refine (Try.slices_Sort_int g 0 cap D0 w hH hp.lt (by omega)).mono ?_
  rintro e w' ⟨rfl, n, os, rfl⟩
  refine ⟨rfl, ?_, grownBy_sortedI _⟩
  have := ownsRow_sortedI (n := n) (os := os) (sortI_length D0) hg hh h1 h2 h3
  rw [sortI_length]
  exact this
end Go.Proofs.Ytkoipecnmijfoaa
end

section
/-! Plain law: the parts of an agent on land, and the search for them. No statement about the program. -/
namespace Go.Proofs.Ytkoipecnmijfoaa
set_option linter.unusedVariables false

/-- is this parcel a's? -/
def mineB (L : List Int) (a : Int) (i : Nat) : Bool := decide (L[i]? = some a)
/-- are these two of a's parcels, and neighbours? -/
def linkB (W : Nat) (L : List Int) (a : Int) (i k : Nat) : Bool := mineB L a i && (mineB L a k && nbB W i k)
theorem mineB_iff {L : List Int} {a : Int} {i : Nat} : mineB L a i = true ↔ L[i]? = some a := by simp [mineB]
theorem mineB_lt {L : List Int} {a : Int} {i : Nat} (h : mineB L a i = true) : i < L.length := (List.getElem?_eq_some_iff.1 (mineB_iff.1 h)).1
theorem mineB_getD {L : List Int} {a : Int} {i : Nat} (hi : i < L.length) : mineB L a i = (L.getD i 0 == a) := by
  rw [Bool.eq_iff_iff]
  simp [mineB, hi, List.getD_eq_getElem?_getD]
theorem nbB_symm {W i k : Nat} (h : nbB W i k = true) : nbB W k i = true := by
  unfold nbB at *
  simp only [decide_eq_true_eq] at *
  rw [← Int.neg_sub ((i : Int) % W), ← Int.neg_sub ((i : Int) / W), Int.neg_mul_neg, Int.neg_mul_neg]
  exact h
theorem linkB_iff {W : Nat} {L : List Int} {a : Int} {i k : Nat} : linkB W L a i k = true ↔ mineB L a i = true ∧ mineB L a k = true ∧ nbB W i k = true := by
  simp [linkB]
theorem linkB_symm {W : Nat} {L : List Int} {a : Int} (i k : Nat) (h : linkB W L a i k = true) : linkB W L a k i = true := by
  obtain ⟨h1, h2, h3⟩ := linkB_iff.1 h
  exact linkB_iff.2 ⟨h2, h1, nbB_symm h3⟩
theorem linkB_lt {W : Nat} {L : List Int} {a : Int} (i k : Nat) (h : linkB W L a i k = true) : k < L.length := mineB_lt (linkB_iff.1 h).2.1
theorem linkB_mine {W : Nat} {L : List Int} {a : Int} {i k : Nat} (hi : mineB L a i = true) (h : Con (linkB W L a) i k) : mineB L a k = true :=
  h.closed (S := fun k => mineB L a k = true) (fun _ _ _ hr => (linkB_iff.1 hr).2.1) hi
/-- the neighbours of a parcel, by the ways to them -/
theorem nbB_way {W i k : Nat} (h : nbB W i k = true) : ∃ j, j < 4 ∧ (k : Int) % W = (i : Int) % W + dxI j ∧ (k : Int) / W = (i : Int) / W + dyI j := by
  unfold nbB at h
  simp only [decide_eq_true_eq] at h
  rcases mul_one_cases h with ⟨h1, h2⟩ | ⟨h1, h2⟩ | ⟨h1, h2⟩ | ⟨h1, h2⟩
  · exact ⟨2, by omega, by simp [dxI]; omega, by simp [dyI]; omega⟩
  · exact ⟨0, by omega, by simp [dxI]; omega, by simp [dyI]; omega⟩
  · exact ⟨3, by omega, by simp [dxI]; omega, by simp [dyI]; omega⟩
  · exact ⟨1, by omega, by simp [dxI]; omega, by simp [dyI]; omega⟩
theorem way_nbB {W i k j : Nat} (hj : j < 4) (h1 : (k : Int) % W = (i : Int) % W + dxI j) (h2 : (k : Int) / W = (i : Int) / W + dyI j) : nbB W i k = true := by
  have hc : j = 0 ∨ j = 1 ∨ j = 2 ∨ j = 3 := by omega
  unfold nbB
  rw [h1, h2]
  generalize (i : Int) % W = p
  generalize (i : Int) / W = q
  rcases hc with rfl | rfl | rfl | rfl
  · rw [show p - (p + dxI 0) = -1 by simp [dxI]; omega, show q - (q + dyI 0) = 0 by simp [dyI]]; decide
  · rw [show p - (p + dxI 1) = 0 by simp [dxI], show q - (q + dyI 1) = -1 by simp [dyI]; omega]; decide
  · rw [show p - (p + dxI 2) = 1 by simp [dxI]; omega, show q - (q + dyI 2) = 0 by simp [dyI]]; decide
  · rw [show p - (p + dxI 3) = 0 by simp [dxI], show q - (q + dyI 3) = 1 by simp [dyI]; omega]; decide
/-- the place that a way from p leads to -/
def wayX (W p j : Nat) : Int := (p : Int) % W + dxI j
def wayY (W p j : Nat) : Int := (p : Int) / W + dyI j
def wayN (W p j : Nat) : Int := wayY W p j * W + wayX W p j
theorem way_hit {W H : Nat} {L : List Int} (v : VL W H L) {a : Int} (ha : 0 ≤ a) {p j : Nat} (hj : j < 4) (h : atL W H L (wayX W p j) (wayY W p j) = a) :
    ∃ q : Nat, wayN W p j = q ∧ mineB L a q = true ∧ nbB W p q = true := by
  have hW := v.w0
  by_cases ho : wayX W p j < 0 ∨ wayY W p j < 0 ∨ (W : Int) ≤ wayX W p j ∨ (H : Int) ≤ wayY W p j
  · rw [atL_out ho] at h; omega
  · obtain ⟨x, hx⟩ := Int.eq_ofNat_of_zero_le (show 0 ≤ wayX W p j by omega)
    obtain ⟨y, hy⟩ := Int.eq_ofNat_of_zero_le (show 0 ≤ wayY W p j by omega)
    have hxw : x < W := by omega
    have hyh : y < H := by omega
    have hlt := idx_lt hxw hyh
    rw [hx, hy] at h
    rw [atL_in hxw hyh] at h
    refine ⟨y * W + x, by rw [wayN, hx, hy]; simp, ?_, ?_⟩
    · rw [mineB_getD (by rw [v.len]; exact hlt), h]; simp
    · refine way_nbB hj ?_ ?_
      · show _ = wayX W p j
        rw [hx]
        have : (y * W + x) % W = x := by rw [Nat.mul_comm, Nat.mul_add_mod]; exact Nat.mod_eq_of_lt hxw
        exact_mod_cast this
      · show _ = wayY W p j
        rw [hy]
        have : (y * W + x) / W = y := by rw [Nat.mul_comm, Nat.mul_add_div (by omega), Nat.div_eq_of_lt hxw]; omega
        exact_mod_cast this
theorem way_of {W H : Nat} {L : List Int} (v : VL W H L) {a : Int} {p q : Nat} (hq : mineB L a q = true) (h : nbB W p q = true) :
    ∃ j, j < 4 ∧ atL W H L (wayX W p j) (wayY W p j) = a ∧ wayN W p j = q := by
  obtain ⟨j, hj, h1, h2⟩ := nbB_way h
  have hql := mineB_lt hq
  have ho := own_at v hql
  rw [mineB_getD hql] at hq
  simp at hq
  refine ⟨j, hj, ?_, ?_⟩
  · unfold wayX wayY
    rw [← h1, ← h2]
    have e1 : (q : Int) % (W : Int) = ((q % W : Nat) : Int) := rfl
    have e2 : (q : Int) / (W : Int) = ((q / W : Nat) : Int) := rfl
    rw [e1, e2, ← ho]
    exact hq
  · unfold wayN wayX wayY
    rw [← h1, ← h2, Int.mul_comm]
    exact Int.mul_ediv_add_emod _ _
end Go.Proofs.Ytkoipecnmijfoaa
end

section
/-! Plain law: the search for a part. No statement about the program. -/
namespace Go.Proofs.Ytkoipecnmijfoaa
set_option linter.unusedVariables false

/-- numbers as integers -/
def ints (P : List Nat) : List Int := P.map fun k : Nat => (k : Int)
theorem ints_length (P : List Nat) : (ints P).length = P.length := List.length_map _
theorem ints_snoc (P : List Nat) (q : Nat) : ints (P ++ [q]) = ints P ++ [(q : Int)] := List.map_append
theorem ints_at {P : List Nat} {k p : Nat} (h : P[k]? = some p) : (ints P)[k]? = some (p : Int) := by simp [ints, h]
/-- what is left when the parts of the first i are taken out -/
def LeftOf (n : Nat) (E : Nat → Bool) (R : Nat → Nat → Bool) (i : Nat) (left : Nat → Bool) : Prop := ∀ q, q < n → (left q = true ↔ E q = true ∧ ∀ j, j < i → ¬ Con R j q)
/-- a part in the making -/
structure Bfs (n : Nat) (E : Nat → Bool) (R : Nat → Nat → Bool) (i : Nat) (P : List Nat) (left : Nat → Bool) : Prop where
  nd : P.Nodup
  con : ∀ p ∈ P, Con R i p
  self : i ∈ P
  lt : ∀ p ∈ P, p < n
  lf : ∀ q, q < n → (left q = true ↔ (E q = true ∧ ∀ j, j < i → ¬ Con R j q) ∧ q ∉ P)
/-- the neighbours of the first k are in it -/
def DoneTo (R : Nat → Nat → Bool) (P : List Nat) (k : Nat) : Prop := ∀ m p, m < k → P[m]? = some p → ∀ q, R p q = true → q ∈ P
section
variable {n : Nat} {E : Nat → Bool} {R : Nat → Nat → Bool} {i : Nat} {P : List Nat} {left : Nat → Bool}
theorem nodup_lacks : ∀ {P : List Nat}, P.Nodup → (∀ p ∈ P, p < n) → lacks n P + P.length ≤ n
  | [], _, _ => by have := lacks_le n []; simpa using this
  | p :: P, h, hlt => by
    have h1 := List.nodup_cons.1 h
    have ih := nodup_lacks h1.2 fun q hq => hlt q (List.mem_cons_of_mem _ hq)
    have hp := hlt p List.mem_cons_self
    have : lacks n (p :: P) < lacks n P := by
      refine sumN_lt (k := p) (fun k hk => ?_) hp ?_
      · by_cases hkP : k ∈ P
        · simp [one, hkP]
        · have e1 : one (!P.contains k) = 1 := by simp [one, hkP]
          rw [e1]
          exact one_le _
      · simp [one, h1.1]
    rw [List.length_cons]
    omega
theorem nodup_len {P : List Nat} (h : P.Nodup) (hlt : ∀ p ∈ P, p < n) : P.length ≤ n := by
  have := nodup_lacks h hlt
  omega
theorem Bfs.len (h : Bfs n E R i P left) : P.length ≤ n := nodup_len h.nd h.lt
theorem lead_of_left (h : LeftOf n E R i left) (hi : i < n) (hl : left i = true) (hsym : ∀ a b, R a b = true → R b a = true) : E i = true ∧ ∀ j, j < i → ¬ Con R i j := by
  obtain ⟨h1, h2⟩ := (h i hi).1 hl
  exact ⟨h1, fun j hj hc => h2 j hj (hc.symm hsym)⟩
theorem Bfs.start (h : LeftOf n E R i left) (hi : i < n) : Bfs n E R i [i] (fun q => if q = i then false else left q) where
  nd := by simp
  con := by intro p hp; rw [List.mem_singleton] at hp; subst hp; exact .refl
  self := by simp
  lt := by intro p hp; rw [List.mem_singleton] at hp; omega
  lf := by
    intro q hq
    by_cases hqi : q = i
    · simp [hqi]
    · simp only [hqi, if_false, List.mem_singleton, not_false_eq_true, and_true]
      exact h q hq
theorem Bfs.add (h : Bfs n E R i P left) {p q : Nat} (hp : p ∈ P) (hr : R p q = true) (hq : q < n) (hl : left q = true) : Bfs n E R i (P ++ [q]) (fun k => if k = q then false else left k) where
  nd := by
    rw [List.nodup_append]
    refine ⟨h.nd, by simp, ?_⟩
    intro a ha b hb
    rw [List.mem_singleton] at hb
    subst hb
    intro e
    subst e
    exact ((h.lf a hq).1 hl).2 ha
  con := by
    intro k hk
    rcases List.mem_append.1 hk with hk | hk
    · exact h.con k hk
    · rw [List.mem_singleton] at hk; subst hk; exact .step (h.con p hp) hr
  self := List.mem_append.2 (.inl h.self)
  lt := by
    intro k hk
    rcases List.mem_append.1 hk with hk | hk
    · exact h.lt k hk
    · rw [List.mem_singleton] at hk; omega
  lf := by
    intro k hk
    by_cases hkq : k = q
    · simp [hkq]
    · simp only [hkq, if_false, List.mem_append, List.mem_singleton, or_false]
      exact h.lf k hk
theorem Bfs.in_ (h : Bfs n E R i P left) (hlead : ∀ j, j < i → ¬ Con R i j) (hsym : ∀ a b, R a b = true → R b a = true) {p q : Nat} (hp : p ∈ P) (hr : R p q = true) (hE : E q = true) (hq : q < n) (hl : left q = false) : q ∈ P := by
  apply Classical.byContradiction
  intro hno
  have : left q = true := (h.lf q hq).2 ⟨⟨hE, fun j hj hc => hlead j hj ((Con.step (h.con p hp) hr).trans (hc.symm hsym))⟩, hno⟩
  rw [hl] at this
  cases this
theorem Bfs.all (h : Bfs n E R i P left) (hd : DoneTo R P P.length) (q : Nat) : q ∈ P ↔ Con R i q := by
  refine ⟨h.con q, fun hc => hc.closed (S := fun q => q ∈ P) (fun a b ha hr => ?_) h.self⟩
  obtain ⟨m, hm⟩ := List.getElem?_of_mem ha
  exact hd m a (List.getElem?_eq_some_iff.1 hm).1 hm b hr
theorem Bfs.left_next (h : Bfs n E R i P left) (hd : DoneTo R P P.length) : LeftOf n E R (i + 1) left := by
  intro q hq
  rw [h.lf q hq, h.all hd q, and_assoc]
  refine and_congr Iff.rfl ⟨fun ⟨h1, h2⟩ j hj => ?_, fun h1 => ⟨fun j hj => h1 j (by omega), h1 i (by omega)⟩⟩
  by_cases hji : j = i
  · subst hji; exact h2
  · exact h1 j (by omega)
theorem left_next_no (h : LeftOf n E R i left) (hi : i < n) (hl : left i = false) (hsym : ∀ a b, R a b = true → R b a = true) (hE : ∀ a b, R a b = true → E a = true) : LeftOf n E R (i + 1) left ∧ ¬ (E i = true ∧ ∀ j, j < i → ¬ Con R i j) := by
  have h0 : ¬ (E i = true ∧ ∀ j, j < i → ¬ Con R j i) := by
    intro hc
    have := (h i hi).2 hc
    rw [hl] at this
    cases this
  refine ⟨fun q hq => ?_, fun ⟨h1, h2⟩ => h0 ⟨h1, fun j hj hc => h2 j hj (hc.symm hsym)⟩⟩
  rw [h q hq]
  refine and_congr_right fun hEq => ⟨fun h1 j hj hc => ?_, fun h1 j hj => h1 j (by omega)⟩
  by_cases hji : j = i
  · subst hji
    apply h0
    rcases hc.inv0 with rfl | ⟨k, hk⟩
    · exact ⟨hEq, h1⟩
    · exact ⟨hE _ _ hk, fun j' hj' hc' => h1 j' hj' (hc'.trans hc)⟩
  · exact h1 j (by omega) hc
/-- in order it is the part -/
theorem Bfs.sorted (h : Bfs n E R i P left) (hd : DoneTo R P P.length) (hR : ∀ a b, R a b = true → b < n) (hi : i < n) : sortI (ints P) = ints (comp n R i) := by
  have hp : (ints P).Perm (ints (comp n R i)) := by
    refine List.Perm.map _ ?_
    rw [List.perm_ext_iff_of_nodup h.nd ((comp_sorted n R i).imp fun h => Nat.ne_of_lt h)]
    intro q
    rw [h.all hd, mem_comp hR hi]
  refine ((sortI_perm _).trans hp).eq_of_pairwise (fun a b _ _ h1 h2 => by omega) (sortI_sorted _) ?_
  exact List.Pairwise.map _ (fun a b hab => by omega) (comp_sorted n R i)
end
end Go.Proofs.Ytkoipecnmijfoaa
end

section
/-! Plain law: one step of the search, a way from a parcel. No statement about the program. -/
namespace Go.Proofs.Ytkoipecnmijfoaa
set_option linter.unusedVariables false

/-- the neighbours of p are in P, or beyond a way from j on -/
def WayTo (W H : Nat) (L : List Int) (a : Int) (p : Nat) (P : List Nat) (j : Nat) : Prop :=
  ∀ q, linkB W L a p q = true → q ∈ P ∨ ∃ j', j ≤ j' ∧ j' < 4 ∧ atL W H L (wayX W p j') (wayY W p j') = a ∧ wayN W p j' = q
section
variable {W H : Nat} {L : List Int} {a : Int} {p : Nat} {P : List Nat} {j i : Nat} {left : Nat → Bool}
theorem WayTo.start (v : VL W H L) : WayTo W H L a p P 0 := fun q hr => by
  obtain ⟨_, h2, h3⟩ := linkB_iff.1 hr
  obtain ⟨j, hj, h4, h5⟩ := way_of v h2 h3
  exact .inr ⟨j, by omega, hj, h4, h5⟩
theorem WayTo.skip (h : WayTo W H L a p P j) (hz : atL W H L (wayX W p j) (wayY W p j) ≠ a) : WayTo W H L a p P (j + 1) := fun q hr => by
  rcases h q hr with h1 | ⟨j', h1, h2, h3, h4⟩
  · exact .inl h1
  · by_cases hj : j' = j
    · subst hj; exact absurd h3 hz
    · exact .inr ⟨j', by omega, h2, h3, h4⟩
theorem WayTo.seen (h : WayTo W H L a p P j) {q : Nat} (hq : wayN W p j = q) (hin : q ∈ P) : WayTo W H L a p P (j + 1) := fun q' hr => by
  rcases h q' hr with h1 | ⟨j', h1, h2, h3, h4⟩
  · exact .inl h1
  · by_cases hj : j' = j
    · subst hj
      rw [hq] at h4
      have : q = q' := by exact_mod_cast h4
      rw [← this]
      exact .inl hin
    · exact .inr ⟨j', by omega, h2, h3, h4⟩
theorem WayTo.more (h : WayTo W H L a p P j) (q : Nat) : WayTo W H L a p (P ++ [q]) j := fun q' hr => by
  rcases h q' hr with h1 | h1
  · exact .inl (List.mem_append.2 (.inl h1))
  · exact .inr h1
theorem DoneTo.more {R : Nat → Nat → Bool} {m : Nat} (h : DoneTo R P m) (hm : m ≤ P.length) (q : Nat) : DoneTo R (P ++ [q]) m := fun k x hk hx q' hr => by
  rw [List.getElem?_append_left (by omega)] at hx
  exact List.mem_append.2 (.inl (h k x hk hx q' hr))
theorem DoneTo.next (h : DoneTo (linkB W L a) P j) (hp : P[j]? = some p) (hw : WayTo W H L a p P 4) : DoneTo (linkB W L a) P (j + 1) := fun k x hk hx q hr => by
  by_cases hkj : k = j
  · subst hkj
    rw [hp] at hx
    cases hx
    rcases hw q hr with h1 | ⟨j', h1, h2, _⟩
    · exact h1
    · omega
  · exact h k x (by omega) hx q hr
/-- a way that leads to one of a's parcels -/
theorem way_link (v : VL W H L) (ha : 0 ≤ a) (hj : j < 4) (hp : mineB L a p = true) (hz : atL W H L (wayX W p j) (wayY W p j) = a) : ∃ q : Nat, wayN W p j = q ∧ q < L.length ∧ mineB L a q = true ∧ linkB W L a p q = true := by
  obtain ⟨q, h1, h2, h3⟩ := way_hit v ha hj hz
  exact ⟨q, h1, mineB_lt h2, h2, linkB_iff.2 ⟨hp, h2, h3⟩⟩
end
end Go.Proofs.Ytkoipecnmijfoaa
end

section
/-! The walk of land.parts. -/
namespace Go.Proofs.Ytkoipecnmijfoaa
open Go.RowKit Go.Deep
set_option linter.unusedVariables false
set_option maxRecDepth 100000

/-- the parts of an agent on land -/
def partsK (W : Nat) (L : List Int) (a : Int) : List (List Int) := (partsL L.length (mineB L a) (linkB W L a)).map ints
/-- the parts up to i -/
def partsU (W : Nat) (L : List Int) (a : Int) (i : Nat) : List (List Int) := (partsTo L.length (mineB L a) (linkB W L a) i).map ints
theorem partsU_len (W : Nat) (L : List Int) (a : Int) (i : Nat) : (partsU W L a i).length ≤ i := by
  have h1 := List.length_filter_le (isLead L.length (mineB L a) (linkB W L a)) (List.range i)
  simp [partsU, partsTo] at h1 ⊢
  exact h1
theorem Rd.butMap {w w' : World} {B M n : Nat} {f : Nat → Bool} {A : Option Addr} {L : List Int} (h : Rd w B A L) (hm : OwnM w M n f) (hg : w.grownBy w' (some M)) (hB : B ≤ w.heap.size) : Rd w' w'.heap.size A L :=
  ⟨h.1, h.2.1, fun hn => by
    obtain ⟨b, off, e, hb, hc⟩ := h.2.2 hn
    refine ⟨b, off, e, by have := hg.size; omega, fun i x hx => ?_⟩
    have hcell := hc i x hx
    have hne : b ≠ M := by
      rintro rfl
      obtain ⟨D, ⟨es, clock, h1, _⟩, _⟩ := hm
      rw [World.cell?] at hcell
      simp [h1] at hcell
    exact (World.cell?_of_block (w := w) (w' := w') (a := ⟨b, off + i, none⟩) (hg.block b (by omega) (by simpa using hne))).trans hcell⟩
theorem VRowsN.butMap {w w' : World} {fv : Value} {vs : List Value} {F : List (List Int)} {M n : Nat} {f : Nat → Bool} (h : VRowsN w fv vs F) (hm : OwnM w M n f) (hg : w.grownBy w' (some M)) : VRowsN w' fv vs F :=
  ⟨h.1, fun i L hi => by
    obtain ⟨A, c, h1, h2, h3⟩ := h.2 i L hi
    exact ⟨A, c, h1, h2.butMap hm hg (Nat.le_refl _), h3⟩⟩
theorem grown_below' {a w w' : World} {row : Option Nat} (h : a.grownBy w row) (hb : Below w.heap.size w w') : a.grownBy w' row :=
  h.trans ⟨hb.os, hb.tape, hb.output, hb.size, fun i hi _ => hb.block i hi⟩
theorem row_but {w w' : World} {base e size M : Nat} {v : Value} {n : Nat} {xs : List Value} (h : w.ownsRow base e size v n xs) (hg : w.grownBy w' (some M)) (hM : M < base) : w'.ownsRow base e size v n xs := by
  refine ⟨h.1, ?_⟩
  rcases h.2 with h2 | ⟨g, cap, cur, hv, hgb, hh, r⟩
  · exact .inl h2
  · have hlt : g < w.heap.size := by
      rcases Nat.lt_or_ge g w.heap.size with hlt | hge
      · exact hlt
      · rw [Array.getElem?_eq_none hge] at hh; cases hh
    exact .inr ⟨g, cap, cur, hv, hgb, (hg.block g hlt (by simp; omega)).trans hh, r⟩
/-- what comes out: rows in new blocks -/
def PartsRes (w : World) (F : List (List Int)) (e : Ending) (w' : World) : Prop := ∃ A c, e = .returned (.slice A F.length c) ∧ Rd2 w' w'.heap.size A F ∧ Below w.heap.size w w'

theorem infoSl30 : (Try.prog.info? 23).map (fun i => (i.zero, i.size, i.bytes)) = some (some (.slice none 0 0), 1, 24) := by kernel_rfl

theorem dirs {j : Nat} (hj : j < 4) (u : World) : (Instr.index 72 (.agg #[.int .i64 1, .int .i64 0, .int .i64 0, .int .i64 1, .int .i64 (-1), .int .i64 0, .int .i64 0, .int .i64 (-1)]) (.int .i64 (j : Int))).run Try.prog u = .ok (.agg #[.int .i64 (dxI j), .int .i64 (dyI j)]) u := by
  have hcj : j = 0 ∨ j = 1 ∨ j = 2 ∨ j = 3 := by omega
  have x0 : ∀ u : World, (Instr.index 72 (.agg #[.int .i64 1, .int .i64 0, .int .i64 0, .int .i64 1, .int .i64 (-1), .int .i64 0, .int .i64 0, .int .i64 (-1)]) (.int .i64 0)).run Try.prog u = .ok (.agg #[.int .i64 1, .int .i64 0]) u := fun u => by kernel_rfl
  have x1 : ∀ u : World, (Instr.index 72 (.agg #[.int .i64 1, .int .i64 0, .int .i64 0, .int .i64 1, .int .i64 (-1), .int .i64 0, .int .i64 0, .int .i64 (-1)]) (.int .i64 1)).run Try.prog u = .ok (.agg #[.int .i64 0, .int .i64 1]) u := fun u => by kernel_rfl
  have x2 : ∀ u : World, (Instr.index 72 (.agg #[.int .i64 1, .int .i64 0, .int .i64 0, .int .i64 1, .int .i64 (-1), .int .i64 0, .int .i64 0, .int .i64 (-1)]) (.int .i64 2)).run Try.prog u = .ok (.agg #[.int .i64 (-1), .int .i64 0]) u := fun u => by kernel_rfl
  have x3 : ∀ u : World, (Instr.index 72 (.agg #[.int .i64 1, .int .i64 0, .int .i64 0, .int .i64 1, .int .i64 (-1), .int .i64 0, .int .i64 0, .int .i64 (-1)]) (.int .i64 3)).run Try.prog u = .ok (.agg #[.int .i64 0, .int .i64 (-1)]) u := fun u => by kernel_rfl
  rcases hcj with rfl | rfl | rfl | rfl
  · exact x0 u
  · exact x1 u
  · exact x2 u
  · exact x3 u
theorem dir_bd {j : Nat} (hj : j < 4) : -1 ≤ dxI j ∧ dxI j ≤ 1 ∧ -1 ≤ dyI j ∧ dyI j ≤ 1 := by
  have hcj : j = 0 ∨ j = 1 ∨ j = 2 ∨ j = 3 := by omega
  rcases hcj with rfl | rfl | rfl | rfl <;> decide

set_option maxHeartbeats 4000000 in
theorem lParts {w : World} {B : Nat} {A : Option Addr} {L : List Int} {cap W H : Nat} (h : Rd w B A L) (hB : B ≤ w.heap.size) (v : VL W H L) {a : Int} (ha : 0 ≤ a) :
    Calls Try.prog 26 #[.agg #[.int .i64 W, .int .i64 H, .slice A L.length cap], .int .i64 a] w (PartsRes w (partsK W L a)) := by
  have l144 := v.len144
  have W0 := v.w0
  have W12 := v.w1
  have hal : Below w.heap.size w (w.alloc (.cells #[.int .i64 W, .int .i64 H, .slice A L.length cap] 35)) := (Below.refl _ _).alloc (Nat.le_refl _) _
  have hsz : (w.alloc (.cells #[.int .i64 W, .int .i64 H, .slice A L.length cap] 35)).heap.size = w.heap.size + 1 := by simp
  have b0 : (w.alloc (.cells #[.int .i64 W, .int .i64 H, .slice A L.length cap] 35)).cell? ⟨w.heap.size, 0, none⟩ = some (.int .i64 W) := by simp
  have b1 : (w.alloc (.cells #[.int .i64 W, .int .i64 H, .slice A L.length cap] 35)).cell? ⟨w.heap.size, 1, none⟩ = some (.int .i64 H) := by simp
  have b2 : (w.alloc (.cells #[.int .i64 W, .int .i64 H, .slice A L.length cap] 35)).cell? ⟨w.heap.size, 2, none⟩ = some (.slice A L.length cap) := by simp
  have HAL := Lib.hid hal
  have HSZ := Lib.hid hsz
  have H0 := Lib.hid h
  have HV := Lib.hid v
  have hmk := @run_makeMap Try.prog
  generalize hQ : PartsRes w (partsK W L a) = Q at *
  have HQ := Lib.hid hQ
  obtain ⟨w1, hw1⟩ : ∃ w1, w.alloc (.cells #[.int .i64 W, .int .i64 H, .slice A L.length cap] 35) = w1 := ⟨_, rfl⟩
  have HW1 := Lib.hid hw1
  clear hal h v hQ hw1
  go_enter Try.func26, Try.ntmps26
  go_wp2
  rw [HW1.out] at HAL HSZ b0 b1 b2 ⊢
  clear HW1 hmk
  have HM0 : Hid (OwnM (w1.alloc (.map #[] 0)) (w.heap.size + 1) 0 fun _ => false) := Lib.hid (by have h1 := OwnM.made w1; rw [HSZ.out] at h1; exact h1)
  have HB0 : Hid (Below w1.heap.size w1 (w1.alloc (.map #[] 0))) := Lib.hid ((Below.refl _ _).alloc (Nat.le_refl _) _)
  have hs2 : (w1.alloc (.map #[] 0)).heap.size = w1.heap.size + 1 := by simp
  have HS2 := Lib.hid hs2
  have B0 := Lib.hid b0
  have B1 := Lib.hid b1
  have B2 := Lib.hid b2
  clear b0 b1 b2 hs2 hsz
  generalize w1.alloc (.map #[] 0) = w2 at *
  have HHD : Hid (w.heap.size < w1.heap.size) := Lib.hid (by have := HSZ.out; omega)
  go_loopw [20] (fun iv wr => ∃ (k : Nat), k ≤ L.length ∧ iv = .int .i64 k ∧ Hid (OwnM wr (w.heap.size + 1) k (fun q => decide (q < k) && mineB L a q)) ∧ Hid (Below w1.heap.size w1 wr) ∧ Hid (w1.heap.size < wr.heap.size)) (fun iv _ => L.length - (intOf iv).toNat)
  case atStart => exact ⟨0, by omega, rfl, Lib.hid (HM0.out.ext fun k hk => by simp), HB0, Lib.hid (by have := HS2.out; omega)⟩
  case round =>
    obtain ⟨k, hk, rfl, hm, hbw, hs⟩ := hrel
    have hs' := hs.out
    by_cases hlt : k < L.length
    · have hbw' := HAL.out.trans (hbw.out.mono HAL.out.size)
      obtain ⟨b, off, x, rfl, hb, hx, hi, hc⟩ := (H0.out.below hbw' hB).at_ hlt
      have HX := Lib.hid hx
      clear hbw' hx hi
      by_cases hxa : x = a
      · have hb1 : (x == a) = true := by simpa using hxa
        have HMI : Hid (mineB L a k = true) := Lib.hid (mineB_iff.2 (by rw [HX.out, hxa]))
        clear hxa
        go_wp2_with (first | (at_mapUpdate; go_must (refine wpm_put rfl _ _ _ rfl rfl hm.out (by omega) (k := k) (by omega) rfl rfl ?_; intro w3 hm3 hg3)) | go_in)
        have HM3 : Hid (OwnM w3 (w.heap.size + 1) (k + 1) (fun q => decide (q < k + 1) && mineB L a q)) := Lib.hid (hm3.ext fun q _ => by
          by_cases hqk : q = k
          · subst hqk; simp [HMI.out]
          · rw [if_neg hqk, show decide (q < k) = decide (q < k + 1) by rw [Bool.eq_iff_iff]; simp; omega])
        have HB3 : Hid (Below w1.heap.size w1 w3) := Lib.hid (hbw.out.grown hg3 (by omega) (fun q hq => by cases hq; have := HSZ.out; omega))
        have HS3 : Hid (w1.heap.size < w3.heap.size) := Lib.hid (by have := hg3.size; omega)
        clear hm3 hg3 hm hbw hs hs' hc
        go_wp2
        go_roundw
        case rel => exact ⟨k + 1, by omega, by go_num, HM3, HB3, HS3⟩
        case measure => simp [intOf]; omega
      · have hb1 : (x == a) = false := by simpa using hxa
        have HM3 : Hid (OwnM wr (w.heap.size + 1) (k + 1) (fun q => decide (q < k + 1) && mineB L a q)) := Lib.hid ((hm.out.ext fun q _ => by
          by_cases hqk : q = k
          · subst hqk
            have : mineB L a q = false := by
              cases hh : mineB L a q
              · rfl
              · have := mineB_iff.1 hh
                rw [HX.out] at this
                cases this
                exact absurd rfl hxa
            simp [this]
          · rw [show decide (q < k) = decide (q < k + 1) by rw [Bool.eq_iff_iff]; simp; omega]).more (by omega))
        clear hxa hm
        go_wp2
        go_roundw
        case rel => exact ⟨k + 1, by omega, by go_num, HM3, hbw, hs⟩
        case measure => simp [intOf]; omega
    · have hkn : k = L.length := by omega
      have HM3 : Hid (OwnM wr (w.heap.size + 1) L.length (mineB L a)) := Lib.hid (by
        rw [← hkn]
        refine hm.out.ext fun q _ => ?_
        by_cases hq : q < k
        · simp [hq]
        · cases hh : mineB L a q
          · simp
          · have := mineB_lt hh; omega)
      clear hm hkn hk
      have q2 := ((bcell hbw.out).1 w.heap.size 2 HHD.out).trans B2.out
      have HLF : Hid (LeftOf L.length (mineB L a) (linkB W L a) 0 (mineB L a)) := Lib.hid (fun q hq => by simp)
      obtain ⟨i0, hi, hz0, hz1, hz2⟩ := info_parts infoSl30
      have HI := Lib.hid hi
      clear hi
      go_wp2
      clear q2 hlt
      go_loopw [4, 34] (fun fv iv wo => ∃ (k : Nat) (left : Nat → Bool) (vs : List Value), k ≤ L.length ∧ iv = .int .i64 k ∧ Hid (OwnM wo (w.heap.size + 1) L.length left) ∧ Hid (LeftOf L.length (mineB L a) (linkB W L a) k left)
        ∧ Hid (wo.ownsRow (w.heap.size + 2) 23 1 fv (partsU W L a k).length vs) ∧ Hid (VRowsN wo fv vs (partsU W L a k)) ∧ Hid (Below w1.heap.size w1 wo) ∧ Hid (w1.heap.size < wo.heap.size)) (fun _ iv _ => L.length - (intOf iv).toNat)
      case atStart => exact ⟨0, mineB L a, [], by omega, rfl, HM3, HLF, Lib.hid (own_row_nil _ _ _), Lib.hid (VRowsN.nil _ _), hbw, hs⟩
      case round =>
        clear HM3 HLF hbw hs hs'
        obtain ⟨k, left, vs, hk, rfl, hm, hlf, ho, hv, hbw, hs⟩ := hrel
        have hs' := hs.out
        by_cases hlt : k < L.length
        · have hlk := hm.out.look (k := k) (by omega)
          cases hl : left k
          · rw [hl] at hlk
            have HN := Lib.hid (left_next_no hlf.out hlt hl linkB_symm (fun a b h => (linkB_iff.1 h).1))
            have HU : Hid (partsU W L a (k + 1) = partsU W L a k) := Lib.hid (by
              unfold partsU
              rw [partsTo_no (by
                cases hh : isLead L.length (mineB L a) (linkB W L a) k
                · rfl
                · exact absurd ((isLead_iff linkB_lt hlt).1 hh) HN.out.2)])
            clear hl hlf
            go_wp2
            go_roundw
            case rel => exact ⟨k + 1, left, vs, by omega, by go_num, hm, Lib.hid HN.out.1, by rw [HU.out]; exact ho, by rw [HU.out]; exact hv, hbw, hs⟩
            case measure => simp [intOf]; omega
          · rw [hl] at hlk
            have HLD := Lib.hid (lead_of_left hlf.out hlt hl linkB_symm)
            have HBF := Lib.hid (Bfs.start hlf.out hlt)
            have HU : Hid (partsU W L a (k + 1) = partsU W L a k ++ [ints (comp L.length (linkB W L a) k)]) := Lib.hid (by
              unfold partsU
              rw [partsTo_yes ((isLead_iff linkB_lt hlt).2 HLD.out), List.map_append]
              rfl)
            clear hl
            go_wp2_with (first | (at_delete; go_must (refine wpm_cut rfl _ _ rfl rfl hm.out (k := k) (by omega) rfl ?_; intro w4 hm4 ht4)) | go_in)
            have hg4 := ht4.grown
            have hbw4 : Below w1.heap.size w1 w4 := hbw.out.grown hg4 (by omega) (fun q hq => by cases hq; have := HSZ.out; omega)
            have HM5 : Hid (OwnM (w4.alloc (.cells #[.int .i64 (k : Int)] 3)) (w.heap.size + 1) L.length (fun i => if i = k then false else left i)) := Lib.hid (hm4.alloc _)
            have HG5 : Hid (w4.grownBy (w4.alloc (.cells #[.int .i64 (k : Int)] 3)) (some (w.heap.size + 1))) := Lib.hid (World.grownBy_alloc w4 _ _)
            have HR5 : Hid ((w4.alloc (.cells #[.int .i64 (k : Int)] 3)).ownsRow w4.heap.size 3 1 (.slice (some ⟨w4.heap.size, 0, none⟩) 1 1) (ints [k]).length ((ints [k]).map (Value.int .i64))) :=
              Lib.hid ⟨rfl, .inr ⟨w4.heap.size, 1, #[.int .i64 (k : Int)], rfl, Nat.le_refl _, heap_alloc_new w4 _, Nat.le_refl _, by unfold maxLen; omega, rfl, rfl⟩⟩
            have HS5 : Hid (w4.heap.size < (w4.alloc (.cells #[.int .i64 (k : Int)] 3)).heap.size) := Lib.hid (by simp)
            have HB4 := Lib.hid hbw4
            have HG4 := Lib.hid hg4
            have HM := hm
            have HO := ho
            have HV0 := hv
            have HS := hs
            clear hm4 ht4 hg4 hbw4 hlk hlf hm ho hv hbw hs hs'
            generalize w4.alloc (.cells #[.int .i64 (k : Int)] 3) = w5 at *
            go_loopw [9, 10] (fun pv mv wi => ∃ (P : List Nat) (m : Nat) (lf : Nat → Bool), m ≤ P.length ∧ mv = .int .i64 m ∧ Hid (Bfs L.length (mineB L a) (linkB W L a) k P lf) ∧ Hid (DoneTo (linkB W L a) P m) ∧ Hid (OwnM wi (w.heap.size + 1) L.length lf)
              ∧ Hid (wi.ownsRow w4.heap.size 3 1 pv (ints P).length ((ints P).map (Value.int .i64))) ∧ Hid (w4.grownBy wi (some (w.heap.size + 1))) ∧ Hid (w4.heap.size < wi.heap.size)) (fun _ mv _ => L.length - (intOf mv).toNat)
            case atStart => exact ⟨[k], 0, _, by simp, rfl, HBF, Lib.hid (fun m p hm => absurd hm (by omega)), HM5, HR5, HG5, HS5⟩
            case round =>
              clear HM5 HR5 HG5 HS5 HBF
              obtain ⟨P, m, lf, hmP, rfl, hbf, hdn, hml, hrow, hgr, hsr⟩ := hrel
              have hpos : 0 < P.length := List.length_pos_of_mem hbf.out.self
              have hPn := hbf.out.len
              obtain ⟨N, hN⟩ : ∃ N, (ints P).length = N := ⟨_, rfl⟩
              have hNP : N = P.length := by rw [← hN, ints_length]
              have HN := Lib.hid hN
              by_cases hlt2 : m < P.length
              · obtain ⟨p, hp⟩ : ∃ p, P[m]? = some p := ⟨P[m], by simp [hlt2]⟩
                have hpm := List.mem_of_getElem? hp
                have hpn := hbf.out.lt p hpm
                obtain ⟨g, cp, rfl, hgb, hP⟩ := ownP_of_row hrow.out (by rw [ints_length]; omega)
                have hcp := hP.cell (ints_at hp)
                have hbr : Below w1.heap.size w1 wr := HB4.out.grown hgr.out (by have := HS.out; have := HG4.out.size; omega) (fun q hq => by cases hq; have := HSZ.out; omega)
                have q0 := ((bcell hbr).1 w.heap.size 0 HHD.out).trans B0.out
                have HBR := Lib.hid hbr
                have HPM := Lib.hid hpm
                have HP := Lib.hid hp
                have HGL := Lib.hid hP.lt
                have d1 : W ≠ 0 := by omega
                obtain ⟨i0', i1', i2', i3'⟩ := divmod_bd (W := W) (i := p) W0 (by omega)
                have t1 : Int.tmod (p : Int) W = (p : Int) % W := Int.tmod_eq_emod_of_nonneg (by omega)
                have t3 : Int.tdiv (p : Int) W = (p : Int) / W := Int.tdiv_eq_ediv_of_nonneg (by omega)
                have e1 : IntKind.i64.wrap ((p : Int) / W) = (p : Int) / W := IntWalk.i64_in _ (by omega)
                have e2 : IntKind.i64.wrap ((p : Int) % W) = (p : Int) % W := IntWalk.i64_in _ (by omega)
                have hmN : m < N := by omega
                have hdm : decide ((m : Int) < (N : Int)) = true := by simpa using hmN
                have HX : Hid (wayX W p = fun j => (p : Int) % W + dxI j) := Lib.hid rfl
                have HY : Hid (wayY W p = fun j => (p : Int) / W + dyI j) := Lib.hid rfl
                rw [hN]
                clear hP hbr hp hpm hN hmP
                generalize (p : Int) % W = X at *
                generalize (p : Int) / W = Y at *
                go_wp2
                go_quiet (fail)
                have hdr : Below wr.heap.size wr (wr.drewN nq) := below_drewN (Below.refl _ _) nq
                generalize hwd : wr.drewN nq = wd at *
                go_wp2_with fail
                refine lSteps.mono ?_
                rintro e w6 ⟨rfl, hb6⟩
                have hb7 := hdr.trans (hb6.mono hdr.size)
                have HMI := Lib.hid (hml.out.below hb7 hml.out.lt)
                have HRI := Lib.hid (row_below hrow.out hb7)
                have HGI := Lib.hid (grown_below' hgr.out hb7)
                have HSI : Hid (w4.heap.size < w6.heap.size) := Lib.hid (Nat.lt_of_lt_of_le hsr.out hb7.size)
                clear hb7 hb6 hdr hwd hml hrow hgr hsr q0 hcp d1 t1 t3 e1 e2 hdm
                have HWAY : Hid (WayTo W H L a p P 0) := Lib.hid (WayTo.start HV.out)
                go_wp2
                go_loopw [9, 66] (fun pv jv wi => ∃ (P' : List Nat) (j : Nat) (lf' : Nat → Bool), j ≤ 4 ∧ jv = .int .i64 j ∧ Hid (Bfs L.length (mineB L a) (linkB W L a) k P' lf') ∧ Hid (DoneTo (linkB W L a) P' m) ∧ Hid (P'[m]? = some p)
                  ∧ Hid (WayTo W H L a p P' j) ∧ Hid (OwnM wi (w.heap.size + 1) L.length lf')
                  ∧ Hid (wi.ownsRow w4.heap.size 3 1 pv (ints P').length ((ints P').map (Value.int .i64))) ∧ Hid (w4.grownBy wi (some (w.heap.size + 1))) ∧ Hid (w4.heap.size < wi.heap.size)) (fun _ jv _ => 4 - (intOf jv).toNat)
                case atStart => exact ⟨P, 0, lf, by omega, rfl, hbf, hdn, HP, HWAY, HMI, by have h1 := HRI; rw [ints_length] at h1 ⊢; exact h1, HGI, HSI⟩
                case round =>
                  clear HWAY HMI HRI HGI HSI hbf hdn
                  obtain ⟨P', j, lf', hj, rfl, hbf, hdn, hp, hway, hmi, hrow, hgr, hsr⟩ := hrel
                  have hmp : m < P'.length := (List.getElem?_eq_some_iff.1 hp.out).1
                  have hPn' := hbf.out.len
                  by_cases hj4 : j < 4
                  · have hix := fun u => dirs hj4 u
                    obtain ⟨b1, b2, b3, b4⟩ := dir_bd hj4
                    obtain ⟨z, hz⟩ : ∃ z, atL W H L (X + dxI j) (Y + dyI j) = z := ⟨_, rfl⟩
                    have HWX : Hid (wayX W p j = X + dxI j) := Lib.hid (congrFun HX.out j)
                    have HWY : Hid (wayY W p j = Y + dyI j) := Lib.hid (congrFun HY.out j)
                    have HZ := Lib.hid hz
                    have hbr : Below w1.heap.size w1 wr := HB4.out.grown hgr.out (by have := HS.out; have := HG4.out.size; omega) (fun q hq => by cases hq; have := HSZ.out; omega)
                    have HBR := Lib.hid hbr
                    have m1 : (Y + dyI j) * W ≤ 145 * 12 := Int.mul_le_mul (by omega) (by omega) (by omega) (by omega)
                    have m2 : -1 * (W : Int) ≤ (Y + dyI j) * W := Int.mul_le_mul_of_nonneg_right (by omega) (by omega)
                    have e1 : IntKind.i64.wrap (Y + dyI j) = Y + dyI j := IntWalk.i64_in _ (by omega)
                    have e2 : IntKind.i64.wrap ((Y + dyI j) * W) = (Y + dyI j) * W := IntWalk.i64_in _ (by omega)
                    have e3 : IntKind.i64.wrap ((Y + dyI j) * W + X) = (Y + dyI j) * W + X := IntWalk.i64_in _ (by omega)
                    have e4 : IntKind.i64.wrap ((Y + dyI j) * W + X + dxI j) = (Y + dyI j) * W + X + dxI j := IntWalk.i64_in _ (by omega)
                    have e5 : IntKind.i64.wrap (X + dxI j) = X + dxI j := IntWalk.i64_in _ (by omega)
                    clear hbr hz m1 m2
                    generalize dxI j = dx at *
                    generalize dyI j = dy at *
                    have hal1 : Below wr.heap.size wr (wr.alloc (.cells #[.int .i64 dx, .int .i64 dy] 71)) := (Below.refl _ _).alloc (Nat.le_refl _) _
                    have hszp : (wr.alloc (.cells #[.int .i64 dx, .int .i64 dy] 71)).heap.size = wr.heap.size + 1 := by simp
                    have c0 : (wr.alloc (.cells #[.int .i64 dx, .int .i64 dy] 71)).cell? ⟨wr.heap.size, 0, none⟩ = some (.int .i64 dx) := by simp
                    have c1 : (wr.alloc (.cells #[.int .i64 dx, .int .i64 dy] 71)).cell? ⟨wr.heap.size, 1, none⟩ = some (.int .i64 dy) := by simp
                    have hmp := hmi.out.alloc (.cells #[.int .i64 dx, .int .i64 dy] 71)
                    obtain ⟨wp, hwp⟩ : ∃ wp, wr.alloc (.cells #[.int .i64 dx, .int .i64 dy] 71) = wp := ⟨_, rfl⟩
                    rw [hwp] at hal1 hszp c0 c1 hmp
                    have HBP := Lib.hid (HBR.out.trans (hal1.mono HBR.out.size))
                    have q0 := ((bcell HBP.out).1 w.heap.size 0 HHD.out).trans B0.out
                    have q1 := ((bcell HBP.out).1 w.heap.size 1 HHD.out).trans B1.out
                    have q2 := ((bcell HBP.out).1 w.heap.size 2 HHD.out).trans B2.out
                    have CAT := Lib.hid (lAt (cap := cap) (w := wp) (H0.out.below (HAL.out.trans (HBP.out.mono HAL.out.size)) hB) (Nat.le_trans hB (HAL.out.trans (HBP.out.mono HAL.out.size)).size) HV.out (X + dx) (Y + dy))
                    rw [HZ.out] at CAT
                    have HMP := Lib.hid hmp
                    have HAL1 := Lib.hid hal1
                    have HSZP := Lib.hid hszp
                    clear hal1 hszp hmp
                    go_wp2_with fail
                    refine CAT.out.mono ?_
                    rintro e w6 ⟨rfl, hb6⟩
                    have hm6 := HMP.out.below hb6 HMP.out.lt
                    have HM6 := Lib.hid hm6
                    have hbA := HAL1.out.trans (hb6.mono HAL1.out.size)
                    have HR6 := Lib.hid (row_below hrow.out hbA)
                    have HG6 := Lib.hid (grown_below' hgr.out hbA)
                    have HS6 : Hid (w4.heap.size < w6.heap.size) := Lib.hid (Nat.lt_of_lt_of_le hsr.out hbA.size)
                    clear hbA hrow hgr hsr hmi q0 q1 q2 c0 c1 HAL1 HSZP HMP HBP HBR hwp hb6
                    by_cases hza : z = a
                    · obtain ⟨q, hq, hqn, hqm, hql⟩ := way_link HV.out ha hj4 (linkB_mine HLD.out.1 (hbf.out.con p (List.mem_of_getElem? hp.out))) (by rw [HWX.out, HWY.out, HZ.out, hza])
                      have HQN : Hid (wayN W p j = q) := Lib.hid hq
                      have hq2 : (Y + dy) * W + X + dx = q := by rw [← hq, wayN, HWX.out, HWY.out]; omega
                      have hlk := hm6.look (k := q) (by omega)
                      have HQL := Lib.hid hql
                      have HQM := Lib.hid hqm
                      have hb1 : (z == a) = true := by simpa using hza
                      clear hq hql hqm hza hm6
                      cases hl : lf' q
                      · rw [hl] at hlk
                        have HIN : Hid (q ∈ P') := Lib.hid (hbf.out.in_ HLD.out.2 linkB_symm (List.mem_of_getElem? hp.out) HQL.out HQM.out hqn hl)
                        have HWN : Hid (WayTo W H L a p P' (j + 1)) := Lib.hid (hway.out.seen HQN.out HIN.out)
                        clear hl
                        go_wp2
                        go_roundw
                        case rel => exact ⟨P', j + 1, lf', by omega, by go_num, hbf, hdn, hp, HWN, HM6, HR6, HG6, HS6⟩
                        case measure => simp [intOf]; omega
                      · rw [hl] at hlk
                        obtain ⟨jI, hjI, hy0, hy1, hy2⟩ := info_parts infoInt'
                        have HBF := Lib.hid (hbf.out.add (List.mem_of_getElem? hp.out) HQL.out hqn hl)
                        have HDN := Lib.hid (hdn.out.more (by omega) q)
                        have HPN : Hid ((P' ++ [q])[m]? = some p) := Lib.hid (by rw [List.getElem?_append_left hmp]; exact hp.out)
                        have HWN : Hid (WayTo W H L a p (P' ++ [q]) (j + 1)) := Lib.hid ((hway.out.more q).seen HQN.out (by simp))
                        have HPL := HBF.out.len
                        have HJI := Lib.hid hjI
                        rw [List.length_append] at HPL
                        clear hl hjI hbf hdn hp hway
                        go_wp2_with (first | (at_delete; go_must (refine wpm_cut rfl _ _ rfl rfl HM6.out (k := q) (by omega) rfl ?_; intro w7 hm7 ht7; generalize hst : wpList _ _ _ _ _ _ = Zs)))
                        subst hst
                        have hg7 := ht7.grown
                        have HG7 := Lib.hid (HG6.out.trans hg7)
                        have HR7 := Lib.hid (row_but HR6.out hg7 (by have := HS.out; have := HSZ.out; have := HG4.out.size; omega))
                        have HS7 : Hid (w4.heap.size < w7.heap.size) := Lib.hid (by have := HS6.out; have := hg7.size; omega)
                        have HMX := Lib.hid hm7
                        have hoz := Lib.hid (row_below HR7.out (Below.alloc (Below.refl w7.heap.size w7) (Nat.le_refl _) (.cells #[.int .i64 (q : Int)] 3)))
                        have hcz := Lib.hid (new_one w7 (.int .i64 (q : Int)) 3)
                        have hbz := Lib.hid (Below.alloc (Below.refl w7.heap.size w7) (Nat.le_refl _) (.cells #[.int .i64 (q : Int)] 3))
                        have hwz : Hid ((w7.alloc (.cells #[.int .i64 (q : Int)] 3)).heap.size = w7.heap.size + 1) := Lib.hid (by simp)
                        have hmz := Lib.hid (HMX.out.alloc (.cells #[.int .i64 (q : Int)] 3))
                        have HGZ := Lib.hid (grown_below' HG7.out hbz.out)
                        clear hm7 ht7 hg7 hlk
                        generalize hgw : w7.alloc (.cells #[.int .i64 (q : Int)] 3) = wa at *
                        go_wp2_with (at_builtin; refine wpList_append_own_at _ rfl _ _ 23 rfl w4.heap.size 3 jI (.int .i64 0) 1 8 Try.underlying23 HJI.out hy0 hy1 hy2 rfl (by decide) _ (ints P').length _ rfl hoz.out ⟨w7.heap.size, 0, none⟩ 1 1 [.int .i64 (q : Int)] rfl (by simp) hcz.out (by simp [Value.oneCell']) (by rw [ints_length]; unfold maxLen; omega) (by rw [ints_length]; omega) (by rw [hwz.out]; have := HS7.out; omega) ?_)
                        intro v' w8 hown hgrow _ hat
                        have HG8 := Lib.hid (HGZ.out.andThen hgrow (fun j hj => by have h1 := (hoz.out.lt j hj).1; left; omega))
                        have HM8 : Hid (OwnM w8 (w.heap.size + 1) L.length (fun i => if i = q then false else lf' i)) := Lib.hid (hmz.out.same (hgrow.block _ hmz.out.lt (fun hq => by have h1 := (hoz.out.lt _ hq.symm).1; have := HS.out; have := HSZ.out; have := HG4.out.size; omega)))
                        have HS8 : Hid (w4.heap.size < w8.heap.size) := Lib.hid (by have h1 := hgrow.size; have h2 := hwz.out; have h3 := HS7.out; omega)
                        have HO8 : Hid (w8.ownsRow w4.heap.size 3 1 v' (ints (P' ++ [q])).length ((ints (P' ++ [q])).map (Value.int .i64))) := Lib.hid (by rw [ints_snoc]; simpa using hown)
                        clear hown hgrow hat hgw
                        go_wp2
                        go_roundw
                        case rel => exact ⟨P' ++ [q], j + 1, _, by omega, by go_num, HBF, HDN, HPN, HWN, HM8, HO8, HG8, HS8⟩
                        case measure => simp [intOf]; omega
                    · have hb1 : (z == a) = false := by simpa using hza
                      have HWN : Hid (WayTo W H L a p P' (j + 1)) := Lib.hid (hway.out.skip (by rw [HWX.out, HWY.out, HZ.out]; exact hza))
                      clear hza hm6 
                      go_wp2
                      go_roundw
                      case rel => exact ⟨P', j + 1, lf', by omega, by go_num, hbf, hdn, hp, HWN, HM6, HR6, HG6, HS6⟩
                      case measure => simp [intOf]; omega
                  · have hj5 : j = 4 := by omega
                    have HD : Hid (DoneTo (linkB W L a) P' (m + 1)) := Lib.hid (hdn.out.next hp.out (by rw [← hj5]; exact hway.out))
                    subst hj5
                    clear hdn hway hp hj4 hj
                    go_wp2
                    go_roundw
                    case rel => exact ⟨P', m + 1, lf', by omega, by go_num, hbf, HD, hmi, hrow, hgr, hsr⟩
                    case measure => simp [intOf]; omega
              · obtain ⟨g, cp, rfl, hgb, hP⟩ := ownP_of_row hrow.out (by rw [ints_length]; omega)
                have CS := Lib.hid (sortRow hrow.out (by rw [ints_length]; omega) (by rw [ints_length]; omega))
                have hmP' : m = P.length := by omega
                have HD : Hid (DoneTo (linkB W L a) P P.length) := Lib.hid (by rw [← hmP']; exact hdn.out)
                have HSRT := Lib.hid (hbf.out.sorted HD.out linkB_lt hlt)
                have HLN := Lib.hid (hbf.out.left_next HD.out)
                have HGL := Lib.hid hP.lt
                have hmn : ¬ m < N := by omega
                rw [hN] at CS ⊢
                clear hdn hP hrow hN hlt2 hmP' hNP hmP
                go_wp2_with fail
                refine CS.out.mono ?_
                rintro e w6 ⟨rfl, hr6, hg6⟩
                have hlo : ∀ q, u4.ownBlock = some q → q < _ := fun q hq => (HO.out.lt q hq).2
                have hz4 := HG4.out.size
                have HG6 := Lib.hid ((HG4.out.trans hgr.out).andThen hg6 (fun j hj => by cases hj; left; omega))
                have HV6 := Lib.hid (HV0.out.butMap HM.out HG6.out)
                have HO6 := Lib.hid (row_but HO.out HG6.out (by omega))
                have HM6 : Hid (OwnM w6 (w.heap.size + 1) L.length lf) := Lib.hid (hml.out.same (hg6.block _ hml.out.lt (by have := HS.out; have := HSZ.out; simp; omega)))
                have HB6 : Hid (Below w1.heap.size w1 w6) := Lib.hid ((HB4.out.grown hgr.out (by have := HS.out; omega) (fun q hq => by cases hq; have := HSZ.out; omega)).grown hg6 (by have := HS.out; have := hgr.out.size; omega) (fun q hq => by cases hq; have := HS.out; omega))
                have HS6 : Hid (w1.heap.size < w6.heap.size) := Lib.hid (by have := HS.out; have := hg6.size; have := hgr.out.size; omega)
                rw [HSRT.out] at hr6
                have hCN : (ints (comp L.length (linkB W L a) k)).length = N := by rw [← HSRT.out, sortI_length, HN.out]
                have hCI : ∀ x ∈ ints (comp L.length (linkB W L a) k), I64 x := by
                  intro x hx
                  obtain ⟨q, hq, rfl⟩ := List.mem_map.1 hx
                  have := comp_lt hlt q hq
                  exact ⟨by omega, by omega⟩
                have hFk := partsU_len W L a k
                have hNn : N ≤ 144 := by rw [← hCN, ints_length]; have := nodup_len ((comp_sorted L.length (linkB W L a) k).imp fun h => Nat.ne_of_lt h) (comp_lt hlt); omega
                generalize ints (comp L.length (linkB W L a) k) = C at *
                subst hCN
                have R6 := row_rd hr6 hCI (by omega)
                have HV7 := Lib.hid (HV6.out.snoc R6 (c := cp) (fun p hp hq => by cases hp; have h2 := hlo _ hq; simp at h2; omega))
                generalize hF : partsU W L a k = F at *
                have hoz := Lib.hid (HO6.out.alloc (.cells #[.slice (some ⟨g, 0, none⟩) C.length cp] 23))
                have hcz := Lib.hid (new_one w6 (.slice (some ⟨g, 0, none⟩) C.length cp) 23)
                have hbz := Lib.hid (Below.alloc (Below.refl w6.heap.size w6) (Nat.le_refl _) (.cells #[.slice (some ⟨g, 0, none⟩) C.length cp] 23))
                have hwz : Hid ((w6.alloc (.cells #[.slice (some ⟨g, 0, none⟩) C.length cp] 23)).heap.size = w6.heap.size + 1) := Lib.hid (by simp)
                have hmz := Lib.hid (HM6.out.alloc (.cells #[.slice (some ⟨g, 0, none⟩) C.length cp] 23))
                clear hr6 hg6 hCI R6 hlo hz4 hgr hml CS hsr
                generalize hgw : w6.alloc (.cells #[.slice (some ⟨g, 0, none⟩) C.length cp] 23) = wa at *
                have hvz := Lib.hid (HV7.out.below hbz.out)
                go_wp2_with (at_builtin; refine wpList_append_own_at _ rfl _ _ 22 rfl (w.heap.size + 2) 23 i0 (.slice none 0 0) 1 24 Try.underlying22 HI.out hz0 hz1 hz2 rfl (by decide) _ F.length _ rfl hoz.out ⟨w6.heap.size, 0, none⟩ 1 1 [.slice (some ⟨g, 0, none⟩) C.length cp] rfl (by simp) hcz.out (by simp [Value.oneCell']) (by unfold maxLen; omega) (by omega) (by rw [hwz.out]; have := HS6.out; have := HSZ.out; omega) ?_)
                intro v' w8 hown hgrow _ hat
                have HV8 := Lib.hid (hvz.out.grown hgrow hat)
                have HB8 : Hid (Below w1.heap.size w1 w8) := Lib.hid (HB6.out.trans ((hbz.out.mono HB6.out.size).trans ((Below.refl _ wa).grown hgrow (by rw [hwz.out]; have := HS6.out; omega) (fun q hq => by have h1 := (hoz.out.lt q hq).1; have := HSZ.out; omega))))
                have HM8 : Hid (OwnM w8 (w.heap.size + 1) L.length lf) := Lib.hid (hmz.out.same (hgrow.block _ hmz.out.lt (fun hq => by have h1 := (hoz.out.lt _ hq.symm).1; omega)))
                have HS8 : Hid (w1.heap.size < w8.heap.size) := Lib.hid (by have h1 := hgrow.size; have h2 := hwz.out; have h3 := HS6.out; omega)
                have HO8 := Lib.hid hown
                clear hown hgrow hat hgw hmn hF
                go_wp2
                go_roundw
                case rel => exact ⟨k + 1, lf, _, by omega, by go_num, HM8, HLN, by rw [HU.out]; exact Lib.hid (by simpa using HO8.out), by rw [HU.out]; exact HV8, HB8, HS8⟩
                case measure => simp [intOf]; omega
        · have hkn : k = L.length := by omega
          obtain ⟨fa, fc, rfl, hfa⟩ := row_slice ho.out
          have hle := partsU_len W L a k
          have R2 := Lib.hid (rd2_of_row ho.out hv.out.rows (by omega))
          have HU : Hid (partsU W L a k = partsK W L a) := Lib.hid (by rw [hkn]; rfl)
          have HEND := Lib.hid (HAL.out.trans (hbw.out.mono HAL.out.size))
          have HQ' := HQ
          clear hm hlf ho hv hbw hfa hkn
          go_wp2
          rw [← HQ.out]
          exact ⟨fa, fc, by rw [← HU.out]; rfl, by rw [← HU.out]; exact R2.out, HEND.out⟩
end Go.Proofs.Ytkoipecnmijfoaa
end

section
/-! Walks of chapter 30: Parts, of the program and of the reference. -/
namespace Go.Proofs.Ytkoipecnmijfoaa
open Go.RowKit Go.Deep
set_option linter.unusedVariables false
set_option maxRecDepth 100000

/-- the parts, or none if there is an error -/
def prtF (W H : Int) (L : List Int) (a : Int) : List (List Int) := if lkd W H L a = 0 then partsK W.toNat L a else []
/-- rows in new blocks, and an error -/
def PartsResE (w : World) (F : List (List Int)) (c : Int) (e : Ending) (w' : World) : Prop :=
  ∃ A cap, e = .returned (.tuple #[.slice A F.length cap, .int .i64 c]) ∧ Rd2 w' w'.heap.size A F ∧ Below w.heap.size w w'

set_option maxHeartbeats 1000000 in
theorem lPartsE {w : World} {B : Nat} {A : Option Addr} {L : List Int} {cap : Nat} (h : Rd w B A L) (hB : B ≤ w.heap.size) (W H a : Int) :
    Calls Try.prog 14 #[.agg #[.int .i64 W, .int .i64 H, .slice A L.length cap], .int .i64 a] w (PartsResE w (prtF W H L a) (lkd W H L a)) := by
  have hal : Below w.heap.size w (w.alloc (.cells #[.int .i64 W, .int .i64 H, .slice A L.length cap] 35)) := (Below.refl _ _).alloc (Nat.le_refl _) _
  have hsz : (w.alloc (.cells #[.int .i64 W, .int .i64 H, .slice A L.length cap] 35)).heap.size = w.heap.size + 1 := by simp
  have b0 : (w.alloc (.cells #[.int .i64 W, .int .i64 H, .slice A L.length cap] 35)).cell? ⟨w.heap.size, 0, none⟩ = some (.int .i64 W) := by simp
  have b1 : (w.alloc (.cells #[.int .i64 W, .int .i64 H, .slice A L.length cap] 35)).cell? ⟨w.heap.size, 1, none⟩ = some (.int .i64 H) := by simp
  have b2 : (w.alloc (.cells #[.int .i64 W, .int .i64 H, .slice A L.length cap] 35)).cell? ⟨w.heap.size, 2, none⟩ = some (.slice A L.length cap) := by simp
  have HSZ := Lib.hid hsz
  have HAL := Lib.hid hal
  have C1 := lLooked (cap := cap) (h.below hal hB) (Nat.le_trans hB hal.size) W H a
  have HR := Lib.hid h
  by_cases hk : lkd W H L a = 0
  · have HK := Lib.hid hk
    rw [hk] at C1
    obtain ⟨q0, q1, q2⟩ := lkd_zero hk
    obtain ⟨W, k, rfl, rfl, hv⟩ := lck_zero q0
    have hF : Hid (prtF W k L a = partsK W L a) := Lib.hid (by rw [prtF, if_pos hk, Int.toNat_natCast])
    have HV := Lib.hid hv
    clear hk q0 hv h hal hsz
    go_enter Try.func14, Try.ntmps14
    go_wp2_with fail
    generalize w.alloc (.cells #[.int .i64 W, .int .i64 k, .slice A L.length cap] 35) = w1 at *
    refine C1.mono ?_
    rintro e w2 ⟨rfl, hb⟩
    have hz := HSZ.out
    replace b0 := ((bcell hb).1 _ _ (by omega)).trans b0
    replace b1 := ((bcell hb).1 _ _ (by omega)).trans b1
    replace b2 := ((bcell hb).1 _ _ (by omega)).trans b2
    have HB2 := Lib.hid (HAL.out.trans (hb.mono HAL.out.size))
    clear hb hz C1
    go_wp2_with fail
    refine (lParts (HR.out.below HB2.out hB) (Nat.le_trans hB HB2.out.size) HV.out q1).mono ?_
    rintro e w3 ⟨A', c', rfl, hr3, hb3⟩
    have HR3 := Lib.hid hr3
    have HB3 := Lib.hid (HB2.out.trans (hb3.mono HB2.out.size))
    clear hr3 hb3 b0 b1 b2
    go_wp2
    go_ret2
    rw [hF.out, HK.out]
    exact ⟨A', c', rfl, HR3.out, HB3.out⟩
  · have hne : (lkd W H L a != 0) = true := by simpa using hk
    have hF : Hid (prtF W H L a = []) := Lib.hid (by rw [prtF, if_neg hk])
    clear hk h hal hsz
    generalize lkd W H L a = c at *
    go_enter Try.func14, Try.ntmps14
    go_wp2_with fail
    generalize w.alloc (.cells #[.int .i64 W, .int .i64 H, .slice A L.length cap] 35) = w1 at *
    refine C1.mono ?_
    rintro e w2 ⟨rfl, hb⟩
    have HB2 := Lib.hid (HAL.out.trans (hb.mono HAL.out.size))
    clear hb C1 b0 b1 b2
    go_wp2
    go_ret2
    rw [hF.out]
    exact ⟨none, 0, rfl, RdOf.nil _ _ _, HB2.out⟩

end Go.Proofs.Ytkoipecnmijfoaa
end

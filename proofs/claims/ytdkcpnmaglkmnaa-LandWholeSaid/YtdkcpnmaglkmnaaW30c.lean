import Derived.Test.YtdkcpnmaglkmnaaW30b
/-! Walks of chapter 30: at, At. -/
namespace Go.Proofs.Ytdkcpnmaglkmnaa
open Go.RowKit Go.Deep
set_option linter.unusedVariables false
set_option maxRecDepth 100000

set_option maxHeartbeats 1000000 in
theorem lAt {w : World} {B : Nat} {A : Option Addr} {L : List Int} {cap W H : Nat} (h : Rd w B A L) (hB : B ≤ w.heap.size) (v : VL W H L) (x y : Int) :
    Calls Try.prog 42 #[.agg #[.int .i64 W, .int .i64 H, .slice A L.length cap], .int .i64 x, .int .i64 y] w fun e w' => e = .returned (.int .i64 (atL W H L x y)) ∧ Below w.heap.size w w' := by
  have hal : Below w.heap.size w (w.alloc (.cells #[.int .i64 W, .int .i64 H, .slice A L.length cap] 24)) := (Below.refl _ _).alloc (Nat.le_refl _) _
  have HAL := Lib.hid hal
  by_cases ho : x < 0 ∨ y < 0 ∨ (W : Int) ≤ x ∨ (H : Int) ≤ y
  · rw [atL_out ho]
    clear h hal v
    by_cases x0 : x < 0
    · have hmin : ¬ x ≤ y → y < 0 := by omega
      clear ho
      by_cases hxy : x ≤ y
      · go_enter Try.func42, Try.ntmps42
        go_wp2
        go_ret
        exact ⟨rfl, HAL.out⟩
      · have hy := hmin hxy
        clear hmin
        go_enter Try.func42, Try.ntmps42
        go_wp2
        go_ret
        exact ⟨rfl, HAL.out⟩
    · by_cases y0 : y < 0
      · have hxy : ¬ x ≤ y := by omega
        clear ho
        go_enter Try.func42, Try.ntmps42
        go_wp2
        go_ret
        exact ⟨rfl, HAL.out⟩
      · by_cases xw : (W : Int) ≤ x
        · clear ho
          by_cases hxy : x ≤ y
          all_goals
            go_enter Try.func42, Try.ntmps42
            go_wp2
            go_ret
            exact ⟨rfl, HAL.out⟩
        · have yh : (H : Int) ≤ y := by omega
          clear ho
          by_cases hxy : x ≤ y
          all_goals
            go_enter Try.func42, Try.ntmps42
            go_wp2
            go_ret
            exact ⟨rfl, HAL.out⟩
  · obtain ⟨xn, rfl⟩ := Int.eq_ofNat_of_zero_le (show 0 ≤ x by omega)
    obtain ⟨yn, rfl⟩ := Int.eq_ofNat_of_zero_le (show 0 ≤ y by omega)
    have hx : xn < W := by omega
    have hy : yn < H := by omega
    have hl := idx_lt hx hy
    have v1 := v.w1
    have v2 := v.h1
    have hm := mul_le_144 (a := yn) (b := W) (by omega) (by omega)
    have hm0 : 0 ≤ (yn : Int) * W := by rw [← Int.natCast_mul]; omega
    have hm1 : (yn : Int) * W ≤ 144 := by rw [← Int.natCast_mul]; omega
    obtain ⟨b, off, z, rfl, hb, hz, hi, hc⟩ := (h.below hal hB).at_ (k := yn * W + xn) (by rw [v.len]; exact hl)
    have hres : Hid (atL W H L xn yn = z) := Lib.hid (by rw [atL_in hx hy, List.getD_eq_getElem?_getD, hz]; rfl)
    have hlen : yn * W + xn < L.length := by rw [v.len]; exact hl
    have l144 := v.len144
    have x0 : ¬ (xn : Int) < 0 := by omega
    have y0 : ¬ (yn : Int) < 0 := by omega
    have hlenI : (yn : Int) * W + xn < L.length := by rw [← Int.natCast_mul]; omega
    have htn : ((yn : Int) * W + xn).toNat = yn * W + xn := by rw [← Int.natCast_mul]; omega
    clear h hal v hz hi hm ho hl
    by_cases hxy : xn ≤ yn
    all_goals
      go_enter Try.func42, Try.ntmps42
      go_wp2
      go_ret
      exact ⟨ret_int hres.out.symm, HAL.out⟩

set_option maxHeartbeats 1000000 in
theorem lrAt {w : World} {B : Nat} {A : Option Addr} {L : List Int} {cap W H : Nat} (h : Rd w B A L) (hB : B ≤ w.heap.size) (v : VL W H L) (x y : Int) :
    Calls Try.prog 32 #[.agg #[.int .i64 W, .int .i64 H, .slice A L.length cap], .int .i64 x, .int .i64 y] w fun e w' => e = .returned (.int .i64 (atL W H L x y)) ∧ Below w.heap.size w w' := by
  have hal : Below w.heap.size w (w.alloc (.cells #[.int .i64 W, .int .i64 H, .slice A L.length cap] 24)) := (Below.refl _ _).alloc (Nat.le_refl _) _
  have HAL := Lib.hid hal
  by_cases ho : x < 0 ∨ y < 0 ∨ (W : Int) ≤ x ∨ (H : Int) ≤ y
  · rw [atL_out ho]
    clear h hal v
    by_cases x0 : x < 0
    · clear ho
      go_enter Try.func32, Try.ntmps32
      go_wp2
      go_ret
      exact ⟨rfl, HAL.out⟩
    · by_cases y0 : y < 0
      · clear ho
        go_enter Try.func32, Try.ntmps32
        go_wp2
        go_ret
        exact ⟨rfl, HAL.out⟩
      · by_cases xw : (W : Int) ≤ x
        · clear ho
          go_enter Try.func32, Try.ntmps32
          go_wp2
          go_ret
          exact ⟨rfl, HAL.out⟩
        · have yh : (H : Int) ≤ y := by omega
          clear ho
          go_enter Try.func32, Try.ntmps32
          go_wp2
          go_ret
          exact ⟨rfl, HAL.out⟩
  · obtain ⟨xn, rfl⟩ := Int.eq_ofNat_of_zero_le (show 0 ≤ x by omega)
    obtain ⟨yn, rfl⟩ := Int.eq_ofNat_of_zero_le (show 0 ≤ y by omega)
    have hx : xn < W := by omega
    have hy : yn < H := by omega
    have hl := idx_lt hx hy
    have v1 := v.w1
    have v2 := v.h1
    have hm := mul_le_144 (a := yn) (b := W) (by omega) (by omega)
    have hm0 : 0 ≤ (yn : Int) * W := by rw [← Int.natCast_mul]; omega
    have hm1 : (yn : Int) * W ≤ 144 := by rw [← Int.natCast_mul]; omega
    obtain ⟨b, off, z, rfl, hb, hz, hi, hc⟩ := (h.below hal hB).at_ (k := yn * W + xn) (by rw [v.len]; exact hl)
    have hres : Hid (atL W H L xn yn = z) := Lib.hid (by rw [atL_in hx hy, List.getD_eq_getElem?_getD, hz]; rfl)
    have hlen : yn * W + xn < L.length := by rw [v.len]; exact hl
    have l144 := v.len144
    have x0 : ¬ (xn : Int) < 0 := by omega
    have y0 : ¬ (yn : Int) < 0 := by omega
    have hlenI : (yn : Int) * W + xn < L.length := by rw [← Int.natCast_mul]; omega
    have htn : ((yn : Int) * W + xn).toNat = yn * W + xn := by rw [← Int.natCast_mul]; omega
    clear h hal v hz hi hm ho hl
    go_enter Try.func32, Try.ntmps32
    go_wp2
    go_ret
    exact ⟨ret_int hres.out.symm, HAL.out⟩
end Go.Proofs.Ytdkcpnmaglkmnaa

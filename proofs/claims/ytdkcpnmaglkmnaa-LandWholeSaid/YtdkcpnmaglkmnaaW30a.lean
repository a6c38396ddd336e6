import Derived.Test.YtdkcpnmaglkmnaaS30c
import Derived.Test.YtdkcpnmaglkmnaaW34b
/-! Walks of chapter 30: Check, looked. -/
namespace Go.Proofs.Ytdkcpnmaglkmnaa
open Go.RowKit Go.Deep
set_option linter.unusedVariables false
set_option maxRecDepth 100000

theorem isAgent {w : World} (a : Int) : Calls Try.prog 37 #[.int .i64 a] w fun e w' => e = .returned (.bool (!decide (a < 0 ∨ 6 ≤ a))) ∧ w = w' := by
  by_cases h1 : 0 ≤ a
  · by_cases h2 : a < 6
    all_goals
      go_enter Try.func37, Try.ntmps37
      go_wp2
      go_ret
      exact ⟨ret_bool (by simp [h2]; try omega), rfl⟩
  · go_enter Try.func37, Try.ntmps37
    go_wp2
    go_ret
    exact ⟨ret_bool (by simp; try omega), rfl⟩
theorem lCheck1 {w : World} (x : Int) : Calls Try.prog 50 #[.int .i64 x] w fun e w' => e = .returned (.bool (badOwn x)) ∧ w = w' := by
  by_cases h1 : x < -1
  · go_enter Try.func50, Try.ntmps50
    go_wp2
    go_ret
    exact ⟨ret_bool (by simp [badOwn, h1]), rfl⟩
  · by_cases h2 : 6 ≤ x
    all_goals
      go_enter Try.func50, Try.ntmps50
      go_wp2
      go_ret
      exact ⟨ret_bool (by simp [badOwn, h1, h2]), rfl⟩

set_option maxHeartbeats 1000000 in
theorem lCheck {w : World} {B : Nat} {A : Option Addr} {L : List Int} {cap : Nat} (h : Rd w B A L) (hB : B ≤ w.heap.size) (W H : Int) :
    Calls Try.prog 25 #[.agg #[.int .i64 W, .int .i64 H, .slice A L.length cap]] w fun e w' => e = .returned (.int .i64 (lck W H L)) ∧ Below w.heap.size w w' := by
  have hlen := h.len
  have hal : Below w.heap.size w (w.alloc (.cells #[.int .i64 W, .int .i64 H, .slice A L.length cap] 24)) := (Below.refl _ _).alloc (Nat.le_refl _) _
  by_cases hm : 12 < W ∨ 12 < H
  · rw [lck_many hm]
    have hmax : ¬ H ≤ W → 12 < H := by omega
    have hmax2 : H ≤ W → 12 < W := by omega
    clear h hm
    by_cases hwh : H ≤ W
    · have h12 := hmax2 hwh
      clear hmax hmax2
      go_enter Try.func25, Try.ntmps25
      go_wp2
      go_ret
      exact ⟨rfl, hal⟩
    · have h12 := hmax hwh
      clear hmax hmax2
      go_enter Try.func25, Try.ntmps25
      go_wp2
      go_ret
      exact ⟨rfl, hal⟩
  · have w12 : ¬ 12 < W := by omega
    have h12 : ¬ 12 < H := by omega
    by_cases h1 : W < 1 ∨ H < 1
    · rw [lck_bad hm (by rcases h1 with h1 | h1; exact .inl h1; exact .inr (.inl h1))]
      have hmin : ¬ W ≤ H → H < 1 := by omega
      have hmin2 : W ≤ H → W < 1 := by omega
      clear h hm h1
      by_cases hwh : H ≤ W
      all_goals (by_cases hwh2 : W ≤ H)
      all_goals (try (exfalso; omega))
      all_goals
        first | (have h13 := hmin hwh2) | (have h13 := hmin2 hwh2)
        clear hmin hmin2
        go_enter Try.func25, Try.ntmps25
        go_wp2
        go_ret
        exact ⟨rfl, hal⟩
    · obtain ⟨w', rfl⟩ := Int.eq_ofNat_of_zero_le (show 0 ≤ W by omega)
      obtain ⟨k, rfl⟩ := Int.eq_ofNat_of_zero_le (show 0 ≤ H by omega)
      have hp := mul_le_144 (a := w') (b := k) (by omega) (by omega)
      have hp0 : 0 ≤ (w' : Int) * k := by rw [← Int.natCast_mul]; omega
      have hp1 : (w' : Int) * k ≤ 144 := by rw [← Int.natCast_mul]; omega
      have w13 : ¬ (w' : Int) < 1 := by omega
      have h13 : ¬ (k : Int) < 1 := by omega
      have hRA := h.below hal hB
      have CF := containsFunc (cap := cap) hRA 50 #[] badOwn (fun args u => by kernel_rfl) (fun x _ => by simpa using lCheck1 x)
      by_cases hl : (L.length : Int) = (w' : Int) * k
      · have hbb : ((L.length : Int) != (w' : Int) * k) = false := by simpa using hl
        have HL := Lib.hid hl
        have hres : Hid ((if L.any badOwn = true then (8 : Int) else 0) = lck w' k L) := Lib.hid (by
          by_cases hb : L.any badOwn = true
          · rw [if_pos hb, lck_bad hm (.inr (.inr (.inr hb)))]
          · rw [if_neg hb, lck_ok hm (by rintro (q | q | q | q); exact w13 q; exact h13 q; exact q hl; exact hb q)])
        clear h hm h1 hl hRA hp
        cases hb : L.any badOwn
        all_goals
          rw [hb] at CF hres
          clear hb
          by_cases hwh : (k : Int) ≤ w'
          all_goals (by_cases hwh2 : (w' : Int) ≤ k)
          all_goals (try (exfalso; omega))
          all_goals
            go_enter Try.func25, Try.ntmps25
            go_wp2_with (go_at_call 49; refine CF.mono ?_; rintro e w' ⟨rfl, rfl⟩)
            go_ret
            exact ⟨ret_int hres.out, hal⟩
      · have hbb : ((L.length : Int) != (w' : Int) * k) = true := by simpa using hl
        rw [lck_bad hm (.inr (.inr (.inl hl)))]
        clear h hm h1 hl hRA CF hp
        by_cases hwh : (k : Int) ≤ w'
        all_goals (by_cases hwh2 : (w' : Int) ≤ k)
        all_goals (try (exfalso; omega))
        all_goals
          go_enter Try.func25, Try.ntmps25
          go_wp2
          go_ret
          exact ⟨rfl, hal⟩
end Go.Proofs.Ytdkcpnmaglkmnaa

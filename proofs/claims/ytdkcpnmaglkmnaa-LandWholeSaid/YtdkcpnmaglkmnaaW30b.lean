import Derived.Test.YtdkcpnmaglkmnaaW30a
/-! Walks of chapter 30: the reference's Check, looked, at, At. -/
namespace Go.Proofs.Ytdkcpnmaglkmnaa
open Go.RowKit Go.Deep
set_option linter.unusedVariables false
set_option maxRecDepth 100000

set_option maxHeartbeats 1000000 in
theorem lrCheck {w : World} {B : Nat} {A : Option Addr} {L : List Int} {cap : Nat} (h : Rd w B A L) (hB : B ≤ w.heap.size) (W H : Int) :
    Calls Try.prog 26 #[.agg #[.int .i64 W, .int .i64 H, .slice A L.length cap]] w fun e w' => e = .returned (.int .i64 (lck W H L)) ∧ Below w.heap.size w w' := by
  have hlen := h.len
  have hal : Below w.heap.size w (w.alloc (.cells #[.int .i64 W, .int .i64 H, .slice A L.length cap] 24)) := (Below.refl _ _).alloc (Nat.le_refl _) _
  by_cases w12 : 12 < W
  · rw [lck_many (.inl w12)]
    clear h
    go_enter Try.func26, Try.ntmps26
    go_wp2
    go_ret
    exact ⟨rfl, hal⟩
  by_cases h12 : 12 < H
  · rw [lck_many (.inr h12)]
    clear h
    go_enter Try.func26, Try.ntmps26
    go_wp2
    go_ret
    exact ⟨rfl, hal⟩
  have hm : ¬ (12 < W ∨ 12 < H) := by omega
  by_cases w1 : W < 1
  · rw [lck_bad hm (.inl w1)]
    clear h hm
    go_enter Try.func26, Try.ntmps26
    go_wp2
    go_ret
    exact ⟨rfl, hal⟩
  by_cases h1 : H < 1
  · rw [lck_bad hm (.inr (.inl h1))]
    clear h hm
    go_enter Try.func26, Try.ntmps26
    go_wp2
    go_ret
    exact ⟨rfl, hal⟩
  obtain ⟨w', rfl⟩ := Int.eq_ofNat_of_zero_le (show 0 ≤ W by omega)
  obtain ⟨k, rfl⟩ := Int.eq_ofNat_of_zero_le (show 0 ≤ H by omega)
  have hp := mul_le_144 (a := w') (b := k) (by omega) (by omega)
  have hp0 : 0 ≤ (w' : Int) * k := by rw [← Int.natCast_mul]; omega
  have hp1 : (w' : Int) * k ≤ 144 := by rw [← Int.natCast_mul]; omega
  by_cases hl : (L.length : Int) = (w' : Int) * k
  · have hbb : ((L.length : Int) != (w' : Int) * k) = false := by simpa using hl
    have hres : Hid ((if L.any badOwn = true then (8 : Int) else 0) = lck w' k L) := Lib.hid (by
      by_cases hb : L.any badOwn = true
      · rw [if_pos hb, lck_bad hm (.inr (.inr (.inr hb)))]
      · rw [if_neg hb, lck_ok hm (by rintro (q | q | q | q); exact w1 q; exact h1 q; exact q hl; exact hb q)])
    have hR := Lib.hid (h.below hal hB)
    have HAL := Lib.hid hal
    clear h hm hl hp
    go_enter Try.func26, Try.ntmps26
    go_wp2
    go_loop [3] (fun i => ∃ k : Nat, k ≤ L.length ∧ i = .int .i64 k ∧ Hid ((L.drop k).any badOwn = L.any badOwn)) (fun i => L.length - (intOf i).toNat)
    case atStart => exact ⟨0, by omega, rfl, Lib.hid rfl⟩
    case round =>
      obtain ⟨j, hj, rfl, hr⟩ := hrel
      by_cases hlt : j < L.length
      · obtain ⟨b, off, x, rfl, hb, hx, hi, hc⟩ := hR.out.at_ hlt
        have hst := hr.out
        rw [drop_of hx, List.any_cons] at hst
        have HI := Lib.hid hi
        clear hx hi hr
        by_cases x1 : x < -1
        · have hbad : Hid (lck w' k L = 8) := Lib.hid (by rw [← hres.out, if_pos (by rw [← hst]; simp [badOwn, x1])])
          clear hst
          go_wp2
          go_ret
          exact ⟨ret_int hbad.out.symm, HAL.out⟩
        · by_cases x2 : 6 ≤ x
          · have hbad : Hid (lck w' k L = 8) := Lib.hid (by rw [← hres.out, if_pos (by rw [← hst]; simp [badOwn, x2])])
            clear hst
            go_wp2
            go_ret
            exact ⟨ret_int hbad.out.symm, HAL.out⟩
          · have hnx : Hid ((L.drop (j + 1)).any badOwn = L.any badOwn) := Lib.hid (by rw [← hst]; simp [badOwn, x1, x2])
            clear hst
            go_wp2
            go_round
            case rel => exact ⟨j + 1, by omega, by go_num, hnx⟩
            case measure => simp [intOf]; omega
      · have hok : Hid (lck w' k L = 0) := Lib.hid (by rw [← hres.out, ← hr.out, drop_end (by omega)]; rfl)
        go_wp2
        go_ret
        exact ⟨ret_int hok.out.symm, HAL.out⟩
  · have hbb : ((L.length : Int) != (w' : Int) * k) = true := by simpa using hl
    rw [lck_bad hm (.inr (.inr (.inl hl)))]
    clear h hm hl hp
    go_enter Try.func26, Try.ntmps26
    go_wp2
    go_ret
    exact ⟨rfl, hal⟩

set_option maxHeartbeats 1000000 in
theorem lLooked {w : World} {B : Nat} {A : Option Addr} {L : List Int} {cap : Nat} (h : Rd w B A L) (hB : B ≤ w.heap.size) (W H a : Int) :
    Calls Try.prog 33 #[.agg #[.int .i64 W, .int .i64 H, .slice A L.length cap], .int .i64 a] w fun e w' => e = .returned (.int .i64 (lkd W H L a)) ∧ Below w.heap.size w w' := by
  have hal : Below w.heap.size w (w.alloc (.cells #[.int .i64 W, .int .i64 H, .slice A L.length cap] 24)) := (Below.refl _ _).alloc (Nat.le_refl _) _
  have C1 := lCheck (cap := cap) (h.below hal hB) (Nat.le_trans hB hal.size) W H
  have C2 := fun u => isAgent (w := u) a
  have HAL := Lib.hid hal
  by_cases hc : lck W H L = 0
  · rw [hc] at C1
    by_cases ha : a < 0 ∨ 6 ≤ a
    · rw [lkd_arg hc ha]
      have hd : (!decide (a < 0 ∨ 6 ≤ a)) = false := by simp; omega
      rw [hd] at C2
      have HC2 := Lib.hid C2
      clear h hc ha hd C2 hal
      go_enter Try.func33, Try.ntmps33
      go_wp2_with (first | (go_at_call 25; refine C1.mono ?_; rintro e w1 ⟨rfl, hb⟩) | (go_at_call 37; refine (HC2.out _).mono ?_; rintro e w2 ⟨rfl, rfl⟩))
      go_ret
      exact ⟨rfl, HAL.out.trans (hb.mono HAL.out.size)⟩
    · rw [lkd_ok hc ha]
      have hd : (!decide (a < 0 ∨ 6 ≤ a)) = true := by simp; omega
      rw [hd] at C2
      have HC2 := Lib.hid C2
      clear h hc ha hd C2 hal
      go_enter Try.func33, Try.ntmps33
      go_wp2_with (first | (go_at_call 25; refine C1.mono ?_; rintro e w1 ⟨rfl, hb⟩) | (go_at_call 37; refine (HC2.out _).mono ?_; rintro e w2 ⟨rfl, rfl⟩))
      go_ret
      exact ⟨rfl, HAL.out.trans (hb.mono HAL.out.size)⟩
  · rw [lkd_chk hc]
    have hb : (lck W H L != 0) = true := by simpa using hc
    clear h hc C2 hal
    generalize lck W H L = c at *
    go_enter Try.func33, Try.ntmps33
    go_wp2_with (go_at_call 25; refine C1.mono ?_; rintro e w1 ⟨rfl, hb1⟩)
    go_ret
    exact ⟨rfl, HAL.out.trans (hb1.mono HAL.out.size)⟩

set_option maxHeartbeats 1000000 in
theorem lrLooked {w : World} {B : Nat} {A : Option Addr} {L : List Int} {cap : Nat} (h : Rd w B A L) (hB : B ≤ w.heap.size) (W H a : Int) :
    Calls Try.prog 36 #[.agg #[.int .i64 W, .int .i64 H, .slice A L.length cap], .int .i64 a] w fun e w' => e = .returned (.int .i64 (lkd W H L a)) ∧ Below w.heap.size w w' := by
  have hal : Below w.heap.size w (w.alloc (.cells #[.int .i64 W, .int .i64 H, .slice A L.length cap] 24)) := (Below.refl _ _).alloc (Nat.le_refl _) _
  have hR := h.below hal hB
  have hBs := Nat.le_trans hB hal.size
  have C1 := lrCheck (cap := cap) hR hBs W H
  have HAL := Lib.hid hal
  by_cases hc : lck W H L = 0
  · rw [hc] at C1
    have hf : Hid (lkd W H L a = if a < 0 ∨ 6 ≤ a then 2 else 0) := Lib.hid (by rw [lkd, if_neg (by simp [hc])])
    clear h hc hR hBs hal
    by_cases a1 : a < 0
    · have hf2 : Hid (lkd W H L a = 2) := Lib.hid (by rw [hf.out, if_pos (.inl a1)])
      go_enter Try.func36, Try.ntmps36
      go_wp2_with (go_at_call 26; refine C1.mono ?_; rintro e w1 ⟨rfl, hb⟩)
      go_ret
      exact ⟨ret_int hf2.out.symm, HAL.out.trans (hb.mono HAL.out.size)⟩
    · by_cases a2 : 6 ≤ a
      · have hf2 : Hid (lkd W H L a = 2) := Lib.hid (by rw [hf.out, if_pos (.inr a2)])
        go_enter Try.func36, Try.ntmps36
        go_wp2_with (go_at_call 26; refine C1.mono ?_; rintro e w1 ⟨rfl, hb⟩)
        go_ret
        exact ⟨ret_int hf2.out.symm, HAL.out.trans (hb.mono HAL.out.size)⟩
      · have hf2 : Hid (lkd W H L a = 0) := Lib.hid (by rw [hf.out, if_neg (by omega)])
        go_enter Try.func36, Try.ntmps36
        go_wp2_with (go_at_call 26; refine C1.mono ?_; rintro e w1 ⟨rfl, hb⟩)
        go_ret
        exact ⟨ret_int hf2.out.symm, HAL.out.trans (hb.mono HAL.out.size)⟩
  · rw [lkd_chk hc]
    have hb : (lck W H L != 0) = true := by simpa using hc
    have CC : Hid (∀ u, Below (w.alloc (.cells #[.int .i64 W, .int .i64 H, .slice A L.length cap] 24)).heap.size (w.alloc (.cells #[.int .i64 W, .int .i64 H, .slice A L.length cap] 24)) u →
        Calls Try.prog 26 #[.agg #[.int .i64 W, .int .i64 H, .slice A L.length cap]] u fun e w' => e = .returned (.int .i64 (lck W H L)) ∧ Below u.heap.size u w') := Lib.hid fun u hu => lrCheck (hR.below hu hBs) (Nat.le_trans hBs hu.size) W H
    clear h hc hR hBs hal
    generalize lck W H L = c at *
    go_enter Try.func36, Try.ntmps36
    go_wp2_with fail
    refine C1.mono ?_
    rintro e w1 ⟨rfl, hb1⟩
    obtain ⟨hc1, hf1⟩ := bcell hb1
    have q0 := hc1 w.heap.size 0 (by simp)
    have q1 := hc1 w.heap.size 1 (by simp)
    have q2 := hc1 w.heap.size 2 (by simp)
    have HB1 := Lib.hid hb1
    clear hc1 hf1 hb1 C1
    simp at q0 q1 q2
    go_wp2_with fail
    refine (CC.out _ HB1.out).mono ?_
    rintro e w2 ⟨rfl, hb2⟩
    have HB2 := Lib.hid (HB1.out.trans (hb2.mono HB1.out.size))
    clear hb2
    go_wp2
    go_ret
    exact ⟨rfl, HAL.out.trans (HB2.out.mono HAL.out.size)⟩
end Go.Proofs.Ytdkcpnmaglkmnaa

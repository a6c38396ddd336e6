import Derived.Test.YtjgobpejifhphaaW33g
/-! Walks of chapter 33: the reference's Rank and Price. -/
namespace Go.Proofs.Ytjgobpejifhphaa
open Go.RowKit Go.Deep
set_option linter.unusedVariables false
set_option maxRecDepth 100000

theorem bidsOk_of {C B : List Int} (h : hlk C B = 0) : bidsOk B C.length = true := by
  have hV := hlk_ok h
  have h2 : B.any badBid = false := by
    rw [List.any_eq_false]
    intro x hx
    have := hV.bd x hx
    simp [badBid]; omega
  rw [bidsOk, h2]
  simp [hV.len]
theorem bidsNo_of {C B : List Int} (h : hck C = 0) (h2 : hlk C B ≠ 0) : hlk C B = 8 ∧ bidsOk B C.length = false := by
  by_cases hl : B.length = C.length
  · cases ha : B.any badBid
    · exact absurd (hlk_yes h hl ha) h2
    · exact ⟨hlk_any h ha, by rw [bidsOk, ha]; rfl⟩
  · refine ⟨hlk_len h hl, ?_⟩
    rw [bidsOk]
    have : decide ((B.length : Int) = C.length) = false := by simp; omega
    rw [this, Bool.and_false]


theorem hrLooked {w : World} {B C : Nat} {A A' : Option Addr} {L O : List Int} {cap cap' : Nat} (h : Rd w B A L) (h' : Rd w C A' O) (m : Int) :
    Calls Try.prog 84 #[.slice A L.length cap, .slice A' O.length cap', .int .i64 m] w fun e w' => e = .returned (.int .i64 (pcE L O m)) ∧ w = w' := by
  have C1 := hrCheck (cap := cap) h
  have C2 := rBids (cap' := cap') h' (L.length : Int)
  have l1 := h.len
  clear h h'
  by_cases hc : hck L = 0
  · rw [hc] at C1
    by_cases hl : hlk L O = 0
    · rw [bidsOk_of hl] at C2
      by_cases hm : m < 0 ∨ (L.length : Int) < m
      · rw [pcE_arg hl hm]
        clear hc hl
        rcases hm with hm | hm
        all_goals
          go_enter Try.func84, Try.ntmps84
          go_wp2_with (first | (go_at_call 32; refine C1.mono ?_; rintro e w' ⟨rfl, rfl⟩) | (go_at_call 33; refine C2.mono ?_; rintro e w' ⟨rfl, rfl⟩))
          go_ret
          exact ⟨rfl, rfl⟩
      · rw [pcE_ok hl hm]
        have g0 : ¬ m < 0 := by omega
        have g1 : ¬ (L.length : Int) < m := by omega
        clear hc hl hm
        go_enter Try.func84, Try.ntmps84
        go_wp2_with (first | (go_at_call 32; refine C1.mono ?_; rintro e w' ⟨rfl, rfl⟩) | (go_at_call 33; refine C2.mono ?_; rintro e w' ⟨rfl, rfl⟩))
        go_ret
        exact ⟨rfl, rfl⟩
    · obtain ⟨h8, hno⟩ := bidsNo_of hc hl
      rw [hno] at C2
      rw [pcE_lk hl, h8]
      clear hc hl h8 hno
      go_enter Try.func84, Try.ntmps84
      go_wp2_with (first | (go_at_call 32; refine C1.mono ?_; rintro e w' ⟨rfl, rfl⟩) | (go_at_call 33; refine C2.mono ?_; rintro e w' ⟨rfl, rfl⟩))
      go_ret
      exact ⟨rfl, rfl⟩
  · have hh := hlk_chk (O := O) hc
    rw [pcE_lk (by rw [hh]; exact hc), hh]
    have hb : (hck L != 0) = true := by simpa using hc
    clear hc hh
    generalize hck L = c at *
    go_enter Try.func84, Try.ntmps84
    go_wp2_with (go_at_call 32; refine C1.mono ?_; rintro e w' ⟨rfl, rfl⟩)
    go_ret
    exact ⟨rfl, rfl⟩

set_option maxHeartbeats 2000000 in
theorem hrPriced {w : World} {D : Nat} {A1 A2 : Option Addr} {C B : List Int} {cap1 cap2 : Nat} {m : Nat}
    (hC : Rd w D A1 C) (hB : Rd w D A2 B) (hD : D ≤ w.heap.size) (hV : VB C B) (hm : m ≤ B.length) :
    Calls Try.prog 85 #[.slice A1 C.length cap1, .slice A2 B.length cap2, .int .i64 m] w
      fun e w' => e = .returned (.int .i64 (prOf C B m)) ∧ Below w.heap.size w w' := by
  have l2 := hB.len
  by_cases h0 : m = 0
  · subst h0
    have hf := Lib.hid (prOf_zero (C := C) (B := B) (m := ((0 : Nat) : Int)) (.inl rfl))
    clear hC hB
    go_enter Try.func85, Try.ntmps85
    go_wp2
    refine wp_loop_rounds 1 ?_
    rw [rounds_succ]
    by_cases hz : 0 < B.length
    all_goals
      go_wp2
      go_ret
      exact ⟨ret_int (by rw [hf.out]), Below.refl _ _⟩
  · have hmp : 0 < m := by omega
    have hmi : (0 : Int) < m := by omega
    have CP : Hid (∀ (u : World) (k : Nat), k < B.length → Below w.heap.size w u → Calls Try.prog 88 #[.slice A1 C.length cap1, .slice A2 B.length cap2, .int .i64 k] u
        fun e u' => e = .returned (.int .i64 (place C B k)) ∧ Below u.heap.size u u') :=
      Lib.hid fun u k hk hu => placeW (hC.below hu hD) (hB.below hu hD) (by have := hu.size; omega) hk hV.len
    have HB := Lib.hid hB
    have HD := Lib.hid hD
    have HV := Lib.hid hV
    clear hC hB hD hV h0
    go_enter Try.func85, Try.ntmps85
    go_wp2
    go_loopw [7, 8] (fun p i wr => ∃ (k : Nat) (pv : Int), k ≤ B.length ∧ i = .int .i64 k ∧ p = .int .i64 pv ∧ 0 ≤ pv ∧ pv ≤ 1000000 ∧ Hid (Below w.heap.size w wr) ∧ Hid (PmAt C B m k pv)) (fun _ i _ => B.length - (intOf i).toNat)
    case atStart => exact ⟨0, 0, by omega, rfl, rfl, by omega, by omega, Lib.hid (Below.refl _ _), Lib.hid (PmAt.start _ _ _)⟩
    case round =>
      obtain ⟨k, pv, hk, rfl, rfl, hp0, hp1, hw, hr⟩ := hrel
      by_cases hlt : k < B.length
      · have HCP := Lib.hid (CP.out wr k hlt hw.out)
        by_cases hpl : m ≤ place C B k
        · have hnx : Hid (∀ x, B.getD k 0 = x → 0 ≤ x → x ≤ 1000000 → PmAt C B m (k + 1) (max pv x)) := Lib.hid fun x h1 h2 h3 => hr.out.next hpl h1 h2 h3
          have hpl' : (m : Int) ≤ (place C B k : Int) := by omega
          go_wp2_with fail
          refine HCP.out.mono ?_
          rintro e w3 ⟨rfl, hb3⟩
          have HB3 := Lib.hid (hw.out.trans (hb3.mono hw.out.size))
          obtain ⟨b, off, x, rfl, hbb, hx, hi, hc⟩ := (HB.out.below HB3.out HD.out).at_ hlt
          have hxb := HV.out.bd x (List.mem_of_getElem? hx)
          have hn2 := Lib.hid (hnx.out x (getD_of hx) hxb.1 hxb.2)
          have HX := Lib.hid hx; clear hx
          have HI := Lib.hid hi; clear hi
          clear HCP hb3 hnx
          generalize place C B k = pk at *
          go_wp2
          go_roundw
          case rel => exact ⟨k + 1, max pv x, by omega, by go_num, int_of (by split <;> omega), by omega, by omega, HB3, hn2⟩
          case measure => simp [intOf]; omega
        · have hnx := Lib.hid (hr.out.skip hpl)
          have hpl' : ¬ (m : Int) ≤ (place C B k : Int) := by omega
          go_wp2_with fail
          refine HCP.out.mono ?_
          rintro e w3 ⟨rfl, hb3⟩
          have HB3 := Lib.hid (hw.out.trans (hb3.mono hw.out.size))
          clear HCP hb3
          generalize place C B k = pk at *
          go_wp2
          go_roundw
          case rel => exact ⟨k + 1, pv, by omega, by go_num, rfl, by omega, by omega, HB3, hnx⟩
          case measure => simp [intOf]; omega
      · obtain rfl : k = B.length := by omega
        have hf := Lib.hid (hr.out.done hmp hm HV.out.bd)
        go_wp2
        go_ret
        exact ⟨ret_int hf.out, hw.out⟩

theorem hrPrice {w : World} {B C : Nat} {A A' : Option Addr} {L O : List Int} {cap cap' : Nat} (h : Rd w B A L) (h' : Rd w C A' O) (hB : B ≤ w.heap.size) (hC : C ≤ w.heap.size) (m : Int) :
    Calls Try.prog 53 #[.slice A L.length cap, .slice A' O.length cap', .int .i64 m] w fun e w' => e = .returned (.tuple #[.int .i64 (pcV L O m), .int .i64 (pcE L O m)]) ∧ Below w.heap.size w w' := by
  have C1 := hrLooked (cap := cap) (cap' := cap') h h' m
  by_cases he : pcE L O m = 0
  · rw [pcV, if_pos he, he]
    rw [he] at C1
    obtain ⟨hl, g0, g1⟩ := pcE_zero he
    have hV := hlk_ok hl
    obtain ⟨k, rfl⟩ := Int.eq_ofNat_of_zero_le g0
    have C2 := hrPriced (cap1 := cap) (cap2 := cap') (m := k) (h.more hB) (h'.more hC) (Nat.le_refl _) hV (by have := hV.len; omega)
    clear h h' hB hC he hl hV g0 g1
    generalize prOf L O k = p at *
    go_enter Try.func53, Try.ntmps53
    go_wp2_with (first | (go_at_call 84; refine C1.mono ?_; rintro e w' ⟨rfl, rfl⟩) | (go_at_call 85; refine C2.mono ?_; rintro e w1 ⟨rfl, hb⟩))
    go_ret2
    exact ⟨rfl, hb⟩
  · rw [pcV, if_neg he]
    have hb : (pcE L O m != 0) = true := by simpa using he
    clear he h h'
    generalize pcE L O m = c at *
    go_enter Try.func53, Try.ntmps53
    go_wp2_with (go_at_call 84; refine C1.mono ?_; rintro e w' ⟨rfl, rfl⟩)
    go_ret2
    exact ⟨rfl, Below.refl _ _⟩
end Go.Proofs.Ytjgobpejifhphaa

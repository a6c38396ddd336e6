import Derived.Test.YtipidlonidihbaaW33g
/-! Walks of chapter 33: the reference's Rank and Price. -/
namespace Go.Proofs.Ytipidlonidihbaa
open Go.RowKit Go.Deep
set_option linter.unusedVariables false
set_option maxRecDepth 100000

theorem bidsOk_of {C B : List Int} (h : hlk C B = 0) : bidsOk B C.length = true := by
  have hV := hlk_ok h
  have h2 : B.any badBid = false := by
    rw [List.any_eq_false]
    intro x hx
    have := hV.bd x hx
    simp [badBid]; omega
  rw [bidsOk, h2]
  simp [hV.len]
theorem bidsNo_of {C B : List Int} (h : hck C = 0) (h2 : hlk C B ≠ 0) : hlk C B = 8 ∧ bidsOk B C.length = false := by
  by_cases hl : B.length = C.length
  · cases ha : B.any badBid
    · exact absurd (hlk_yes h hl ha) h2
    · exact ⟨hlk_any h ha, by rw [bidsOk, ha]; rfl⟩
  · refine ⟨hlk_len h hl, ?_⟩
    rw [bidsOk]
    have : decide ((B.length : Int) = C.length) = false := by simp; omega
    rw [this, Bool.and_false]

set_option maxHeartbeats 2000000 in
theorem rRank {w : World} {B C : Nat} {A A' : Option Addr} {L O : List Int} {cap cap' : Nat} (h : Rd w B A L) (h' : Rd w C A' O) (hB : B ≤ w.heap.size) (hC : C ≤ w.heap.size) :
    Calls Try.prog 11 #[.slice A L.length cap, .slice A' O.length cap'] w (ListRes w (rkL L O) (hlk L O)) := by
  have C1 := hrCheck (cap := cap) h
  have C2 := rBids (cap' := cap') h' (L.length : Int)
  have l1 := h.len
  have l2 := h'.len
  by_cases hc : hck L = 0
  · rw [hc] at C1
    by_cases hl : hlk L O = 0
    · have hV := hlk_ok hl
      rw [bidsOk_of hl] at C2
      rw [rkL, if_pos hl, hl]
      have hn : O.length ≤ 40 := by have := hV.len; have := hV.v.twelve; omega
      have hmk := fun u => run_make_row' (P := Try.prog) 22 3 (.int .i64 0) 8 Try.underlying22 infoInt' rfl .i64 .i64 O.length (by omega) (by omega) u
      have CP : Hid (∀ (u : World) (k : Nat), k < O.length → Below w.heap.size w u → Calls Try.prog 31 #[.slice A L.length cap, .slice A' O.length cap', .int .i64 k] u
          fun e u' => e = .returned (.int .i64 (place L O k)) ∧ Below u.heap.size u u') :=
        Lib.hid fun u k hk hu => placeW ((h.more hB).below hu (Nat.le_refl _)) ((h'.more hC).below hu (Nat.le_refl _)) hu.size hk hV.len
      have HN := Lib.hid hn
      clear hc hl hV h h' hn
      go_enter Try.func11, Try.ntmps11
      go_wp2_with (first | (go_at_call 17; refine C1.mono ?_; rintro e w' ⟨rfl, rfl⟩) | (go_at_call 20; refine C2.mono ?_; rintro e w' ⟨rfl, rfl⟩))
      clear hmk C1 C2
      have hown := Lib.hid (Own.made w 3 O.length)
      have hin := Lib.hid (Below.alloc (B := w.heap.size) (Below.refl _ w) (Nat.le_refl _) (.cells (madeCells #[Value.int .i64 0] O.length) 3))
      generalize w.alloc (.cells (madeCells #[Value.int .i64 0] O.length) 3) = w2 at *
      go_loopw [7] (fun i wr => ∃ (k : Nat) (D : List Int), k ≤ O.length ∧ i = .int .i64 k ∧ Hid (Own wr w.heap.size 3 D) ∧ Hid (Below w.heap.size w wr) ∧ Hid (WrAt L O k D)) (fun i _ => O.length - (intOf i).toNat)
      case atStart => exact ⟨0, _, by omega, rfl, hown, hin, Lib.hid ⟨by simp, by intro i hi; omega⟩⟩
      case round =>
        obtain ⟨k, D, hk, rfl, ho, hw, hr⟩ := hrel
        by_cases hlt : k < O.length
        · have hp := at_place (C := L) hlt
          have hpl := hp.2
          have hnext := Lib.hid (hr.out.next hlt)
          obtain ⟨y, hy⟩ : ∃ y, D[place L O k]? = some y := ⟨D[place L O k]'(by rw [hr.out.len]; exact hpl), by simp⟩
          have HY := Lib.hid hy
          have HCP := Lib.hid (CP.out wr k hlt hw.out)
          clear hp hy
          go_wp2_with fail
          refine HCP.out.mono ?_
          rintro e w3 ⟨rfl, hb3⟩
          have ho3 := ho.out.below hb3 ho.out.lt
          have c1 := ho3.cell HY.out
          have f1 := ho3.frozen (place L O k)
          have hb3' := hw.out.trans (hb3.mono hw.out.size)
          have HO4 := Lib.hid (ho3.store (place L O k) (k : Int))
          have HB4 := Lib.hid (hb3'.setCell (p := ⟨w.heap.size, place L O k, none⟩) (Nat.le_refl _) (.int .i64 (k : Int)))
          clear hb3 ho3 hb3' HCP
          generalize place L O k = pk at *
          go_wp2
          go_roundw
          case rel => exact ⟨k + 1, _, by omega, by go_num, HO4, HB4, hnext⟩
          case measure => simp [intOf]; omega
        · obtain rfl : k = O.length := by omega
          have hD := hr.out.done
          have HD := Lib.hid hD
          clear hD
          go_wp2
          go_ret2
          refine ⟨some ⟨w.heap.size, 0, none⟩, O.length, by rw [rkList_length]; rfl, ?_, hw.out⟩
          have hO := ho.out
          rw [HD.out] at hO
          exact rk_rd hO.pre HN.out
    · obtain ⟨h8, hno⟩ := bidsNo_of hc hl
      rw [hno] at C2
      rw [rkL, if_neg hl, h8]
      clear hc hl h8 hno h h'
      go_enter Try.func11, Try.ntmps11
      go_wp2_with (first | (go_at_call 17; refine C1.mono ?_; rintro e w' ⟨rfl, rfl⟩) | (go_at_call 20; refine C2.mono ?_; rintro e w' ⟨rfl, rfl⟩))
      go_ret2
      exact ⟨none, 0, rfl, Rd.nil _ _ _, Below.refl _ _⟩
  · have hh := hlk_chk (O := O) hc
    rw [rkL, if_neg (by rw [hh]; exact hc), hh]
    have hb : (hck L != 0) = true := by simpa using hc
    clear hc h h' hh
    generalize hck L = c at *
    go_enter Try.func11, Try.ntmps11
    go_wp2_with (go_at_call 17; refine C1.mono ?_; rintro e w' ⟨rfl, rfl⟩)
    go_ret2
    exact ⟨none, 0, rfl, Rd.nil _ _ _, Below.refl _ _⟩

theorem hrLooked {w : World} {B C : Nat} {A A' : Option Addr} {L O : List Int} {cap cap' : Nat} (h : Rd w B A L) (h' : Rd w C A' O) (m : Int) :
    Calls Try.prog 33 #[.slice A L.length cap, .slice A' O.length cap', .int .i64 m] w fun e w' => e = .returned (.int .i64 (pcE L O m)) ∧ w = w' := by
  have C1 := hrCheck (cap := cap) h
  have C2 := rBids (cap' := cap') h' (L.length : Int)
  have l1 := h.len
  clear h h'
  by_cases hc : hck L = 0
  · rw [hc] at C1
    by_cases hl : hlk L O = 0
    · rw [bidsOk_of hl] at C2
      by_cases hm : m < 0 ∨ (L.length : Int) < m
      · rw [pcE_arg hl hm]
        clear hc hl
        rcases hm with hm | hm
        all_goals
          go_enter Try.func33, Try.ntmps33
          go_wp2_with (first | (go_at_call 17; refine C1.mono ?_; rintro e w' ⟨rfl, rfl⟩) | (go_at_call 20; refine C2.mono ?_; rintro e w' ⟨rfl, rfl⟩))
          go_ret
          exact ⟨rfl, rfl⟩
      · rw [pcE_ok hl hm]
        have g0 : ¬ m < 0 := by omega
        have g1 : ¬ (L.length : Int) < m := by omega
        clear hc hl hm
        go_enter Try.func33, Try.ntmps33
        go_wp2_with (first | (go_at_call 17; refine C1.mono ?_; rintro e w' ⟨rfl, rfl⟩) | (go_at_call 20; refine C2.mono ?_; rintro e w' ⟨rfl, rfl⟩))
        go_ret
        exact ⟨rfl, rfl⟩
    · obtain ⟨h8, hno⟩ := bidsNo_of hc hl
      rw [hno] at C2
      rw [pcE_lk hl, h8]
      clear hc hl h8 hno
      go_enter Try.func33, Try.ntmps33
      go_wp2_with (first | (go_at_call 17; refine C1.mono ?_; rintro e w' ⟨rfl, rfl⟩) | (go_at_call 20; refine C2.mono ?_; rintro e w' ⟨rfl, rfl⟩))
      go_ret
      exact ⟨rfl, rfl⟩
  · have hh := hlk_chk (O := O) hc
    rw [pcE_lk (by rw [hh]; exact hc), hh]
    have hb : (hck L != 0) = true := by simpa using hc
    clear hc hh
    generalize hck L = c at *
    go_enter Try.func33, Try.ntmps33
    go_wp2_with (go_at_call 17; refine C1.mono ?_; rintro e w' ⟨rfl, rfl⟩)
    go_ret
    exact ⟨rfl, rfl⟩

set_option maxHeartbeats 2000000 in
theorem hrPriced {w : World} {D : Nat} {A1 A2 : Option Addr} {C B : List Int} {cap1 cap2 : Nat} {m : Nat}
    (hC : Rd w D A1 C) (hB : Rd w D A2 B) (hD : D ≤ w.heap.size) (hV : VB C B) (hm : m ≤ B.length) :
    Calls Try.prog 34 #[.slice A1 C.length cap1, .slice A2 B.length cap2, .int .i64 m] w
      fun e w' => e = .returned (.int .i64 (prOf C B m)) ∧ Below w.heap.size w w' := by
  have l2 := hB.len
  by_cases h0 : m = 0
  · subst h0
    have hf := Lib.hid (prOf_zero (C := C) (B := B) (m := ((0 : Nat) : Int)) (.inl rfl))
    clear hC hB
    go_enter Try.func34, Try.ntmps34
    go_wp2
    refine wp_loop_rounds 1 ?_
    rw [rounds_succ]
    by_cases hz : 0 < B.length
    all_goals
      go_wp2
      go_ret
      exact ⟨ret_int (by rw [hf.out]), Below.refl _ _⟩
  · have hmp : 0 < m := by omega
    have hmi : (0 : Int) < m := by omega
    have CP : Hid (∀ (u : World) (k : Nat), k < B.length → Below w.heap.size w u → Calls Try.prog 31 #[.slice A1 C.length cap1, .slice A2 B.length cap2, .int .i64 k] u
        fun e u' => e = .returned (.int .i64 (place C B k)) ∧ Below u.heap.size u u') :=
      Lib.hid fun u k hk hu => placeW (hC.below hu hD) (hB.below hu hD) (by have := hu.size; omega) hk hV.len
    have HB := Lib.hid hB
    have HD := Lib.hid hD
    have HV := Lib.hid hV
    clear hC hB hD hV h0
    go_enter Try.func34, Try.ntmps34
    go_wp2
    go_loopw [7, 8] (fun p i wr => ∃ (k : Nat) (pv : Int), k ≤ B.length ∧ i = .int .i64 k ∧ p = .int .i64 pv ∧ 0 ≤ pv ∧ pv ≤ 1000000 ∧ Hid (Below w.heap.size w wr) ∧ Hid (PmAt C B m k pv)) (fun _ i _ => B.length - (intOf i).toNat)
    case atStart => exact ⟨0, 0, by omega, rfl, rfl, by omega, by omega, Lib.hid (Below.refl _ _), Lib.hid (PmAt.start _ _ _)⟩
    case round =>
      obtain ⟨k, pv, hk, rfl, rfl, hp0, hp1, hw, hr⟩ := hrel
      by_cases hlt : k < B.length
      · have HCP := Lib.hid (CP.out wr k hlt hw.out)
        by_cases hpl : m ≤ place C B k
        · have hnx : Hid (∀ x, B.getD k 0 = x → 0 ≤ x → x ≤ 1000000 → PmAt C B m (k + 1) (max pv x)) := Lib.hid fun x h1 h2 h3 => hr.out.next hpl h1 h2 h3
          have hpl' : (m : Int) ≤ (place C B k : Int) := by omega
          go_wp2_with fail
          refine HCP.out.mono ?_
          rintro e w3 ⟨rfl, hb3⟩
          have HB3 := Lib.hid (hw.out.trans (hb3.mono hw.out.size))
          obtain ⟨b, off, x, rfl, hbb, hx, hi, hc⟩ := (HB.out.below HB3.out HD.out).at_ hlt
          have hxb := HV.out.bd x (List.mem_of_getElem? hx)
          have hn2 := Lib.hid (hnx.out x (getD_of hx) hxb.1 hxb.2)
          have HX := Lib.hid hx; clear hx
          have HI := Lib.hid hi; clear hi
          clear HCP hb3 hnx
          generalize place C B k = pk at *
          go_wp2
          go_roundw
          case rel => exact ⟨k + 1, max pv x, by omega, by go_num, int_of (by split <;> omega), by omega, by omega, HB3, hn2⟩
          case measure => simp [intOf]; omega
        · have hnx := Lib.hid (hr.out.skip hpl)
          have hpl' : ¬ (m : Int) ≤ (place C B k : Int) := by omega
          go_wp2_with fail
          refine HCP.out.mono ?_
          rintro e w3 ⟨rfl, hb3⟩
          have HB3 := Lib.hid (hw.out.trans (hb3.mono hw.out.size))
          clear HCP hb3
          generalize place C B k = pk at *
          go_wp2
          go_roundw
          case rel => exact ⟨k + 1, pv, by omega, by go_num, rfl, by omega, by omega, HB3, hnx⟩
          case measure => simp [intOf]; omega
      · obtain rfl : k = B.length := by omega
        have hf := Lib.hid (hr.out.done hmp hm HV.out.bd)
        go_wp2
        go_ret
        exact ⟨ret_int hf.out, hw.out⟩

theorem hrPrice {w : World} {B C : Nat} {A A' : Option Addr} {L O : List Int} {cap cap' : Nat} (h : Rd w B A L) (h' : Rd w C A' O) (hB : B ≤ w.heap.size) (hC : C ≤ w.heap.size) (m : Int) :
    Calls Try.prog 13 #[.slice A L.length cap, .slice A' O.length cap', .int .i64 m] w fun e w' => e = .returned (.tuple #[.int .i64 (pcV L O m), .int .i64 (pcE L O m)]) ∧ Below w.heap.size w w' := by
  have C1 := hrLooked (cap := cap) (cap' := cap') h h' m
  by_cases he : pcE L O m = 0
  · rw [pcV, if_pos he, he]
    rw [he] at C1
    obtain ⟨hl, g0, g1⟩ := pcE_zero he
    have hV := hlk_ok hl
    obtain ⟨k, rfl⟩ := Int.eq_ofNat_of_zero_le g0
    have C2 := hrPriced (cap1 := cap) (cap2 := cap') (m := k) (h.more hB) (h'.more hC) (Nat.le_refl _) hV (by have := hV.len; omega)
    clear h h' hB hC he hl hV g0 g1
    generalize prOf L O k = p at *
    go_enter Try.func13, Try.ntmps13
    go_wp2_with (first | (go_at_call 33; refine C1.mono ?_; rintro e w' ⟨rfl, rfl⟩) | (go_at_call 34; refine C2.mono ?_; rintro e w1 ⟨rfl, hb⟩))
    go_ret2
    exact ⟨rfl, hb⟩
  · rw [pcV, if_neg he]
    have hb : (pcE L O m != 0) = true := by simpa using he
    clear he h h'
    generalize pcE L O m = c at *
    go_enter Try.func13, Try.ntmps13
    go_wp2_with (go_at_call 33; refine C1.mono ?_; rintro e w' ⟨rfl, rfl⟩)
    go_ret2
    exact ⟨rfl, Below.refl _ _⟩
end Go.Proofs.Ytipidlonidihbaa

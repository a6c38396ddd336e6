import Derived.Test.YtjgobpejifhphaaW35b
/-! Walks of chapter 35: both Bids; the statement LieBids. -/
namespace Go.Proofs.Ytjgobpejifhphaa
open Go.RowKit Go.Deep
set_option linter.unusedVariables false
set_option maxRecDepth 100000

set_option maxHeartbeats 4000000 in
theorem rBid {w : World} {B C : Nat} {A A' : Option Addr} {L O : List Int} {cap cap' : Nat} (h : Rd w B A L) (hB : B ≤ w.heap.size) (h' : Rd w C A' O) (hC : C ≤ w.heap.size) (m a wv top : Int) :
    Calls Try.prog 25 #[.slice A L.length cap, .slice A' O.length cap', .int .i64 m, .int .i64 a, .int .i64 wv, .int .i64 top] w
      fun e w' => e = .returned (.tuple #[.int .i64 (bdR L O m a wv top).1, .int .i64 (bdR L O m a wv top).2, .int .i64 (bdE L O m a wv top)]) ∧ Below w.heap.size w w' := by
  have C1 := hrPrice (cap := cap) (cap' := cap') h h' hB hC m
  by_cases hp : pcE L O m = 0
  · rw [hp] at C1
    by_cases hb : badBidArg L.length a wv top
    · have hE := bdE_arg hp hb
      rw [bdR_no (by rw [hE]; decide), hE]
      clear hE hp h h' hB hC
      generalize pcV L O m = pv at *
      unfold badBidArg at hb
      by_cases q1 : a < 0
      · clear hb
        go_enter Try.func25, Try.ntmps25
        go_wp2_with (go_at_call 53; refine C1.mono ?_; rintro e w1 ⟨rfl, hb1⟩)
        go_ret3
        exact ⟨rfl, hb1⟩
      · by_cases q2 : (L.length : Int) ≤ a
        · clear hb
          go_enter Try.func25, Try.ntmps25
          go_wp2_with (go_at_call 53; refine C1.mono ?_; rintro e w1 ⟨rfl, hb1⟩)
          go_ret3
          exact ⟨rfl, hb1⟩
        · by_cases q3 : wv < 0
          · clear hb
            go_enter Try.func25, Try.ntmps25
            go_wp2_with (go_at_call 53; refine C1.mono ?_; rintro e w1 ⟨rfl, hb1⟩)
            go_ret3
            exact ⟨rfl, hb1⟩
          · by_cases q4 : 1000000 < wv
            · clear hb
              go_enter Try.func25, Try.ntmps25
              go_wp2_with (go_at_call 53; refine C1.mono ?_; rintro e w1 ⟨rfl, hb1⟩)
              go_ret3
              exact ⟨rfl, hb1⟩
            · by_cases q5 : top < 0
              · clear hb
                go_enter Try.func25, Try.ntmps25
                go_wp2_with (go_at_call 53; refine C1.mono ?_; rintro e w1 ⟨rfl, hb1⟩)
                go_ret3
                exact ⟨rfl, hb1⟩
              · have q6 : 300 < top := by omega
                clear hb
                go_enter Try.func25, Try.ntmps25
                go_wp2_with (go_at_call 53; refine C1.mono ?_; rintro e w1 ⟨rfl, hb1⟩)
                go_ret3
                exact ⟨rfl, hb1⟩
    · obtain ⟨hl, g0, g1⟩ := pcE_zero hp
      have hbb := hb
      unfold badBidArg at hbb
      obtain ⟨mm, rfl⟩ := Int.eq_ofNat_of_zero_le g0
      obtain ⟨i, rfl⟩ := Int.eq_ofNat_of_zero_le (show 0 ≤ a by omega)
      have q1 : ¬ ((i : Int) < 0) := by omega
      have q2 : i < L.length := by omega
      have q3 : 0 ≤ wv := by omega
      have q4 : wv ≤ 1000000 := by omega
      have q5 : 0 ≤ top := by omega
      have q6 : top ≤ 300 := by omega
      have hmm : mm ≤ L.length := by omega
      have hS : Hid (bdS L O mm i wv top = bidGo (bidOk L O mm i) (bidG L O mm i wv) (top + 1).toNat 0 none) := Lib.hid (by rw [bdS, Int.toNat_natCast, Int.toNat_natCast])
      have HP := Lib.hid hp
      have HBB := Lib.hid hb
      have hn : ((top + 1).toNat : Int) = top + 1 := by omega
      have CE : Hid (∀ (u : World) (b : Int), Below w.heap.size w u → 0 ≤ b → b ≤ 300 → Calls Try.prog 34 #[.slice A L.length cap, .slice A' O.length cap', .int .i64 mm, .int .i64 i, .int .i64 wv, .int .i64 b] u
        fun e w' => e = .returned (.tuple #[.int .i64 (earnV L O mm i wv b), .bool (bidOk L O mm i b)]) ∧ Below u.heap.size u w') :=
        Lib.hid fun u b hu b0 b1 => earned (((h.more hB).below hu (Nat.le_refl _)).more hu.size) (((h'.more hC).below hu (Nat.le_refl _)).more hu.size) hl hmm q2 q3 q4 b0 b1
      clear hl hb hbb hp h h' hB hC g0 g1
      generalize hN : (top + 1).toNat = n at *
      have HN := Lib.hid hN
      clear hN
      generalize pcV L O mm = pv at *
      have HEV : Hid (∀ b, bidOk L O mm i b = true → earnV L O mm i wv b = bidG L O mm i wv b) := Lib.hid fun b hb => by rw [earnV, if_pos hb]
      generalize bidOk L O mm i = ok at *
      generalize bidG L O mm i wv = gf at *
      generalize earnV L O mm i wv = ev at *
      have d1 : decide ((i : Int) < 0) = false := by simp
      have d2 : decide (L.length ≤ i) = false := by simp; omega
      have d3 : decide (wv < 0) = false := by simp; omega
      have d4 : decide (1000000 < wv) = false := by simp; omega
      have d5 : decide (top < 0) = false := by simp; omega
      have d6 : decide (300 < top) = false := by simp; omega
      go_enter Try.func25, Try.ntmps25
      go_wp2_with (go_at_call 53; refine C1.mono ?_; rintro e w1 ⟨rfl, hb1⟩)
      have HB1 := Lib.hid hb1
      clear hb1 C1
      go_loopw [17, 18, 19] (fun bb gg k wr => ∃ (j mr : Nat) (s : Option (Int × Int)) (bv gv : Int), j + mr = n ∧ k = .int .i64 j ∧ bb = .int .i64 bv ∧ gg = .int .i64 gv ∧ Hid (Below w1.heap.size w1 wr)
        ∧ Hid (bidGo ok gf mr j s = bidGo ok gf n 0 none) ∧ Hid ((s = none ∧ bv = -1 ∧ gv = 0) ∨ (s = some (bv, gv) ∧ 0 ≤ bv))) (fun _ _ k _ => n - (intOf k).toNat)
      case atStart => exact ⟨0, n, none, -1, 0, by omega, rfl, rfl, rfl, Lib.hid (Below.refl _ _), Lib.hid rfl, Lib.hid (.inl ⟨rfl, rfl, rfl⟩)⟩
      case round =>
        obtain ⟨j, mr, s, bv, gv, hjm, rfl, rfl, rfl, hw, hr, hs⟩ := hrel
        have HJM := Lib.hid hjm
        have hjn : j ≤ n := by omega
        clear hjm
        by_cases hlt : j < n
        · obtain ⟨m', hm'⟩ : ∃ m', mr = m' + 1 := ⟨mr - 1, by have := HJM.out; omega⟩
          have hjt : (j : Int) ≤ top := by omega
          have HM := Lib.hid hm'
          clear hm'
          have hup := hr.out
          rw [HM.out] at hup
          replace hup : Hid (bidGo ok gf m' ((j : Int) + 1) (bidUp ok gf j s) = bidGo ok gf n 0 none) := Lib.hid hup
          have CEj := CE.out wr j (HB1.out.trans (hw.out.mono HB1.out.size)) (by omega) (by omega)
          by_cases hok : ok j = true
          · have hev := HEV.out j hok
            rw [hok, hev] at CEj
            rcases hs.out with ⟨rfl, rfl, rfl⟩ | ⟨rfl, hbv⟩
            · rw [bidUp_first hok] at hup
              have HCE := Lib.hid CEj
              clear CEj hr
              go_wp2_with fail
              refine HCE.out.mono ?_
              rintro e w3 ⟨rfl, hb3⟩
              have HW3 := Lib.hid (hw.out.trans (hb3.mono hw.out.size))
              clear HCE hb3 hev hok hs
              go_wp2
              go_roundw
              case rel => exact ⟨j + 1, m', some ((j : Int), gf j), j, gf j, by have := HJM.out; have := HM.out; omega, by go_num, rfl, rfl, HW3, Lib.hid (by rw [← hup.out]; rfl), Lib.hid (.inr ⟨rfl, by omega⟩)⟩
              case measure => simp [intOf]; omega
            · by_cases hg : gv < gf j
              · rw [bidUp_more hok hg] at hup
                have HCE := Lib.hid CEj
                clear CEj hr
                go_wp2_with fail
                refine HCE.out.mono ?_
                rintro e w3 ⟨rfl, hb3⟩
                have HW3 := Lib.hid (hw.out.trans (hb3.mono hw.out.size))
                clear HCE hb3 hev hok hs
                go_wp2
                go_roundw
                case rel => exact ⟨j + 1, m', some ((j : Int), gf j), j, gf j, by have := HJM.out; have := HM.out; omega, by go_num, rfl, rfl, HW3, Lib.hid (by rw [← hup.out]; rfl), Lib.hid (.inr ⟨rfl, by omega⟩)⟩
                case measure => simp [intOf]; omega
              · rw [bidUp_less hg] at hup
                have HCE := Lib.hid CEj
                clear CEj hr
                go_wp2_with fail
                refine HCE.out.mono ?_
                rintro e w3 ⟨rfl, hb3⟩
                have HW3 := Lib.hid (hw.out.trans (hb3.mono hw.out.size))
                clear HCE hb3 hev hok hs
                go_wp2
                go_roundw
                case rel => exact ⟨j + 1, m', some (bv, gv), bv, gv, by have := HJM.out; have := HM.out; omega, by go_num, rfl, rfl, HW3, Lib.hid (by rw [← hup.out]; rfl), Lib.hid (.inr ⟨rfl, hbv⟩)⟩
                case measure => simp [intOf]; omega
          · have hof : ok j = false := by simpa using hok
            rw [hof] at CEj
            rw [bidUp_no hof] at hup
            clear hof hok
            have HCE := Lib.hid CEj
            clear CEj hr
            go_wp2_with fail
            refine HCE.out.mono ?_
            rintro e w3 ⟨rfl, hb3⟩
            have HW3 := Lib.hid (hw.out.trans (hb3.mono hw.out.size))
            clear HCE hb3
            go_wp2
            go_roundw
            case rel => exact ⟨j + 1, m', s, bv, gv, by have := HJM.out; have := HM.out; omega, by go_num, rfl, rfl, HW3, Lib.hid (by rw [← hup.out]; rfl), hs⟩
            case measure => simp [intOf]; omega
        · obtain rfl : mr = 0 := by have := HJM.out; omega
          have hjt' : top < (j : Int) := by omega
          have hfin := hr.out
          rw [show bidGo ok gf 0 j s = s from rfl, ← hS.out] at hfin
          rcases hs.out with ⟨rfl, rfl, rfl⟩ | ⟨rfl, hbv⟩
          · have hE := bdE_none HP.out HBB.out hfin.symm
            have hR := bdR_no (C := L) (B := O) (m := mm) (a := i) (wv := wv) (top := top) (by rw [hE]; decide)
            have HE := Lib.hid hE
            have HRR := Lib.hid hR
            clear hE hR hfin hs hr
            go_wp2
            go_ret3
            rw [HRR.out, HE.out]
            exact ⟨rfl, HB1.out.trans (hw.out.mono HB1.out.size)⟩
          · have hE := bdE_ok HP.out HBB.out (by rw [← hfin]; simp)
            have hR := bdR_ok hE hfin.symm
            have HE := Lib.hid hE
            have HRR := Lib.hid hR
            clear hE hR hfin hs hr
            go_wp2
            go_ret3
            rw [HRR.out, HE.out]
            exact ⟨rfl, HB1.out.trans (hw.out.mono HB1.out.size)⟩
  · have hE := bdE_pc (a := a) (wv := wv) (top := top) hp
    rw [bdR_no (by rw [hE]; exact hp), hE]
    have hb : (pcE L O m != 0) = true := by simpa using hp
    clear hp hE h h' hB hC
    generalize pcE L O m = c at *
    go_enter Try.func25, Try.ntmps25
    go_wp2_with (go_at_call 53; refine C1.mono ?_; rintro e w1 ⟨rfl, hb1⟩)
    go_ret3
    exact ⟨rfl, hb1⟩
end Go.Proofs.Ytjgobpejifhphaa

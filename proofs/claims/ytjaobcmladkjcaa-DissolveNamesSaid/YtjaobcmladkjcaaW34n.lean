import Derived.Test.YtjaobcmladkjcaaW34m
/-! Walks of chapter 34: Shoot at every input. -/
namespace Go.Proofs.Ytjaobcmladkjcaa
open Go.RowKit Go.Deep
set_option linter.unusedVariables false

set_option maxHeartbeats 2000000 in
theorem dShoot {w : World} {B : Nat} {A : Option Addr} {cap : Nat} {L : List Int} (h : Rd w B A L) (hB : B ≤ w.heap.size) (p c wv : Int) :
    Calls Try.prog 24 #[.slice A L.length cap, .int .i64 p, .int .i64 c, .int .i64 wv] w (ShootRes w (shB L p c wv) (shL L p c wv) (shE L p c wv)) := by
  have C1 := dCheck (cap := cap) h
  have hlen := h.len
  by_cases hc : chk L = 0
  · by_cases hb : badShoot L.length p c wv
    · have he := shE_bad hc hb
      rw [shB_no (by rw [he]; decide), shL_no (by rw [he]; decide), he]
      rw [hc] at C1
      clear h hB hc he
      unfold badShoot at hb
      by_cases g0 : L.length = 2
      · have hn : ((L.length : Int) != 2) = false := by simp; omega
        have HG := Lib.hid g0
        have hb' : p < 0 ∨ 1000000 < p ∨ wv < 0 ∨ 1000000 < wv ∨ c < 0 ∨ 1 < c := by omega
        clear hb g0
        by_cases g1 : p < 0 ∨ 1000000 < p
        · have HB := Lib.hid hb'; clear hb'
          have G1 := Lib.hid g1; clear g1
          have c1 := fun u => inNo (w := u) G1.out
          have hC1 := Lib.hid c1; clear c1
          go_enter Try.func24, Try.ntmps24
          go_wp2_with (first | (go_at_call 16; refine C1.mono ?_; rintro e w1 ⟨rfl, rfl⟩) | (go_at_call 33; refine (hC1.out _).mono ?_; rintro e w1 ⟨rfl, rfl⟩))
          go_ret3
          exact ⟨none, 0, rfl, Rd.nil _ _ _, Below.refl _ _⟩
        · have c1 : Hid (∀ u, Calls Try.prog 33 #[.int .i64 p, .int .i64 1000000] u fun e w' => e = .returned (.bool true) ∧ u = w') := Lib.hid fun u => inYes (by omega) (by omega)
          by_cases g2 : wv < 0 ∨ 1000000 < wv
          · have c2 : Hid (∀ u, Calls Try.prog 33 #[.int .i64 wv, .int .i64 1000000] u fun e w' => e = .returned (.bool false) ∧ u = w') := Lib.hid fun u => inNo g2
            clear hb' g1 g2
            go_enter Try.func24, Try.ntmps24
            go_wp2_with (go_at_call 16; refine C1.mono ?_; rintro e w1 ⟨rfl, rfl⟩)
            refine (c1.out _).mono ?_
            rintro e w1 ⟨rfl, rfl⟩
            go_wp2_with fail
            refine (c2.out _).mono ?_
            rintro e w1 ⟨rfl, rfl⟩
            go_wp2
            go_ret3
            exact ⟨none, 0, rfl, Rd.nil _ _ _, Below.refl _ _⟩
          · have c2 : Hid (∀ u, Calls Try.prog 33 #[.int .i64 wv, .int .i64 1000000] u fun e w' => e = .returned (.bool true) ∧ u = w') := Lib.hid fun u => inYes (by omega) (by omega)
            have c3 : Hid (∀ u, Calls Try.prog 33 #[.int .i64 c, .int .i64 1] u fun e w' => e = .returned (.bool false) ∧ u = w') := Lib.hid fun u => inNo (by omega)
            clear hb' g1 g2
            go_enter Try.func24, Try.ntmps24
            go_wp2_with (go_at_call 16; refine C1.mono ?_; rintro e w1 ⟨rfl, rfl⟩)
            refine (c1.out _).mono ?_
            rintro e w1 ⟨rfl, rfl⟩
            go_wp2_with fail
            refine (c2.out _).mono ?_
            rintro e w1 ⟨rfl, rfl⟩
            go_wp2_with fail
            refine (c3.out _).mono ?_
            rintro e w1 ⟨rfl, rfl⟩
            go_wp2
            go_ret3
            exact ⟨none, 0, rfl, Rd.nil _ _ _, Below.refl _ _⟩
      · have hn : ((L.length : Int) != 2) = true := by simp; omega
        clear hb
        go_enter Try.func24, Try.ntmps24
        go_wp2_with ((go_at_call 16; refine C1.mono ?_; rintro e w1 ⟨rfl, rfl⟩))
        go_ret3
        exact ⟨none, 0, rfl, Rd.nil _ _ _, Below.refl _ _⟩
    · rw [show shE L p c wv = 0 from shE_ok hc hb]
      have hb' := hb
      unfold badShoot at hb'
      obtain ⟨x0, x1, rfl⟩ : ∃ x0 x1, L = [x0, x1] := by
        match L, (show L.length = 2 by omega) with
        | [a, b], _ => exact ⟨a, b, rfl⟩
      rcases (show c = 0 ∨ c = 1 by omega) with rfl | rfl
      · exact dShoot0 h hB hc hb
      · exact dShoot1 h hB hc hb
  · have he := shE_chk (p := p) (c := c) (wv := wv) hc
    rw [shB_no (by rw [he]; exact hc), shL_no (by rw [he]; exact hc), he]
    have hb : (chk L != 0) = true := by simpa using hc
    clear hc he h hB
    generalize chk L = cc at *
    go_enter Try.func24, Try.ntmps24
    go_wp2_with ((go_at_call 16; refine C1.mono ?_; rintro e w1 ⟨rfl, rfl⟩))
    go_ret3
    exact ⟨none, 0, rfl, Rd.nil _ _ _, Below.refl _ _⟩

set_option maxHeartbeats 2000000 in
theorem rShoot {w : World} {B : Nat} {A : Option Addr} {cap : Nat} {L : List Int} (h : Rd w B A L) (hB : B ≤ w.heap.size) (p c wv : Int) :
    Calls Try.prog 25 #[.slice A L.length cap, .int .i64 p, .int .i64 c, .int .i64 wv] w (ShootRes w (shB L p c wv) (shL L p c wv) (shE L p c wv)) := by
  have C1 := rCheck (cap := cap) h
  have hlen := h.len
  by_cases hc : chk L = 0
  · by_cases hb : badShoot L.length p c wv
    · have he := shE_bad hc hb
      rw [shB_no (by rw [he]; decide), shL_no (by rw [he]; decide), he]
      rw [hc] at C1
      clear h hB hc he
      unfold badShoot at hb
      by_cases g0 : L.length = 2
      · have hn : ((L.length : Int) != 2) = false := by simp; omega
        have HG := Lib.hid g0
        have hb' : p < 0 ∨ 1000000 < p ∨ wv < 0 ∨ 1000000 < wv ∨ c < 0 ∨ 1 < c := by omega
        clear hb g0
        by_cases g1 : p < 0
        · clear hb'
          go_enter Try.func25, Try.ntmps25
          go_wp2_with ((go_at_call 17; refine C1.mono ?_; rintro e w1 ⟨rfl, rfl⟩))
          go_ret3
          exact ⟨none, 0, rfl, Rd.nil _ _ _, Below.refl _ _⟩
        · by_cases g2 : 1000000 < p
          · clear hb'
            go_enter Try.func25, Try.ntmps25
            go_wp2_with ((go_at_call 17; refine C1.mono ?_; rintro e w1 ⟨rfl, rfl⟩))
            go_ret3
            exact ⟨none, 0, rfl, Rd.nil _ _ _, Below.refl _ _⟩
          · by_cases g3 : wv < 0
            · clear hb'
              go_enter Try.func25, Try.ntmps25
              go_wp2_with ((go_at_call 17; refine C1.mono ?_; rintro e w1 ⟨rfl, rfl⟩))
              go_ret3
              exact ⟨none, 0, rfl, Rd.nil _ _ _, Below.refl _ _⟩
            · by_cases g4 : 1000000 < wv
              · clear hb'
                go_enter Try.func25, Try.ntmps25
                go_wp2_with ((go_at_call 17; refine C1.mono ?_; rintro e w1 ⟨rfl, rfl⟩))
                go_ret3
                exact ⟨none, 0, rfl, Rd.nil _ _ _, Below.refl _ _⟩
              · have g5 : (c != 0) = true := by simp; omega
                have g6 : (c != 1) = true := by simp; omega
                clear hb'
                go_enter Try.func25, Try.ntmps25
                go_wp2_with ((go_at_call 17; refine C1.mono ?_; rintro e w1 ⟨rfl, rfl⟩))
                go_ret3
                exact ⟨none, 0, rfl, Rd.nil _ _ _, Below.refl _ _⟩
      · have hn : ((L.length : Int) != 2) = true := by simp; omega
        clear hb
        go_enter Try.func25, Try.ntmps25
        go_wp2_with ((go_at_call 17; refine C1.mono ?_; rintro e w1 ⟨rfl, rfl⟩))
        go_ret3
        exact ⟨none, 0, rfl, Rd.nil _ _ _, Below.refl _ _⟩
    · rw [show shE L p c wv = 0 from shE_ok hc hb]
      have hb' := hb
      unfold badShoot at hb'
      obtain ⟨x0, x1, rfl⟩ : ∃ x0 x1, L = [x0, x1] := by
        match L, (show L.length = 2 by omega) with
        | [a, b], _ => exact ⟨a, b, rfl⟩
      rcases (show c = 0 ∨ c = 1 by omega) with rfl | rfl
      · exact rShoot0 h hB hc hb
      · exact rShoot1 h hB hc hb
  · have he := shE_chk (p := p) (c := c) (wv := wv) hc
    rw [shB_no (by rw [he]; exact hc), shL_no (by rw [he]; exact hc), he]
    have hb : (chk L != 0) = true := by simpa using hc
    clear hc he h hB
    generalize chk L = cc at *
    go_enter Try.func25, Try.ntmps25
    go_wp2_with ((go_at_call 17; refine C1.mono ?_; rintro e w1 ⟨rfl, rfl⟩))
    go_ret3
    exact ⟨none, 0, rfl, Rd.nil _ _ _, Below.refl _ _⟩
end Go.Proofs.Ytjaobcmladkjcaa

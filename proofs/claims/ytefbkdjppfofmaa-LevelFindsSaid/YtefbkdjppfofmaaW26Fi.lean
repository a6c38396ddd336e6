import Derived.Test.YtefbkdjppfofmaaW26D
import Derived.Test.YtefbkdjppfofmaaW26E
import Derived.Test.YtefbkdjppfofmaaSame26
/-! The walk of LevelFinds. -/
namespace Go.Proofs.Ytefbkdjppfofmaa
open Go.RowKit Go.Deep
set_option linter.unusedVariables false
set_option maxRecDepth 100000

set_option maxHeartbeats 4000000 in
theorem levelFinds {w : World} {A A' A3 : Option Addr} {W : List (List Bool)} {X Y : List Int} {cap cap' cap3 : Nat} (h : RdB2 w w.heap.size A W) (h' : Rd w w.heap.size A' X) (h3 : Rd w w.heap.size A3 Y) :
    Calls Try.prog 5 #[.slice A W.length cap, .slice A' X.length cap', .slice A3 Y.length cap3] w fun e w' => e = .returned (.bool true) ∧ Below w.heap.size w w' := by
  have l1 := h.len
  have l2 := h'.len
  have l3 := h3.len
  have H := Lib.hid h
  have H' := Lib.hid h'
  have H3 := Lib.hid h3
  have CG := Lib.hid (lrGreat (cap := cap) h (Nat.le_refl _))
  clear h h' h3
  go_enter Try.func5, Try.ntmps5
  go_wp2_with fail
  refine CG.out.mono ?_
  rintro e w1 ⟨gb, rfl, b1⟩
  have B1 := Lib.hid b1
  clear b1 CG
  cases gb
  · by_cases g2 : 20 < X.length
    · have q1 : decide ((20 : Int) < (X.length : Int)) = true := decide_eq_true (by omega)
      go_wp2
      go_ret
      exact ⟨rfl, B1.out⟩
    · have q1 : decide ((20 : Int) < (X.length : Int)) = false := decide_eq_false (by omega)
      by_cases g3 : 20 < Y.length
      · have q2 : decide ((20 : Int) < (Y.length : Int)) = true := decide_eq_true (by omega)
        go_wp2
        go_ret
        exact ⟨rfl, B1.out⟩
      · have q2 : decide ((20 : Int) < (Y.length : Int)) = false := decide_eq_false (by omega)
        clear g2 g3
        go_wp2_with fail
        clear q1 q2
        refine (lEven (cap := cap) (H.out.below B1.out (Nat.le_refl _)) B1.out.size).mono ?_
        rintro e w2 hev
        have hb2 : Below w1.heap.size w1 w2 := by
          rcases hev with ⟨_, _, h⟩ | ⟨_, _, _, _, _, _, _, _, _, _, h⟩ <;> exact h
        have B2 := Lib.hid (B1.out.trans (hb2.mono B1.out.size))
        obtain ⟨a, A2, c2, ec, rfl, r2, hec, hun⟩ : ∃ (a : List Int) (A2 : Option Addr) (c2 : Nat) (ec : Int), e = .returned (.tuple #[.slice A2 a.length c2, .int .i64 ec]) ∧ Rd w2 w2.heap.size A2 a ∧ ec = chk26 W ∧ ∀ (u : World) (e' : Ending) (u' : World), EvenRes W u e' u' → ∃ A c, e' = .returned (.tuple #[.slice A a.length c, .int .i64 ec]) ∧ Rd u' u'.heap.size A a ∧ Below u.heap.size u u' := by
          rcases hev with ⟨h0, he, _⟩ | ⟨m, n, a, A2, c2, h0, v, hev, he, r2, _⟩
          · refine ⟨[], none, 0, chk26 W, he, Rd.nil _ _ _, rfl, fun u e' u' hr => ?_⟩
            rcases hr with ⟨_, g1, g2⟩ | ⟨_, _, _, _, _, g0, _⟩
            · exact ⟨none, 0, g1, Rd.nil _ _ _, g2⟩
            · exact absurd g0 h0
          · refine ⟨a, A2, c2, 0, he, r2, h0.symm, fun u e' u' hr => ?_⟩
            rcases hr with ⟨g0, _⟩ | ⟨m', n', a', A3, c3, _, v', hev', g1, g2, g3⟩
            · exact absurd h0 g0
            · have hm : m' = m := v'.len.symm.trans v.len
              subst hm
              have hn : n' = n := by
                have hl := v.len
                have h0 := v.m0
                have e1 := v.row W[0] (List.getElem_mem (by omega))
                have e2 := v'.row W[0] (List.getElem_mem (by omega))
                omega
              subst hn
              have := even_unique hev' hev
              subst this
              exact ⟨A3, c3, g1, g2, g3⟩
        have R2 := Lib.hid r2
        have HEC := Lib.hid hec
        have HUN := Lib.hid hun
        have la : Hid (a.length * 8 ≤ 140737488351232) := Lib.hid r2.len
        clear hev hb2 r2 hec hun
        go_wp2_with fail
        refine (lrEven (cap := cap) (H.out.below B2.out (Nat.le_refl _)) B2.out.size).mono ?_
        rintro e w3 hev3
        obtain ⟨A4, c4, rfl, r3, b3⟩ := HUN.out _ _ _ hev3
        have R3 := Lib.hid r3
        have B3 := Lib.hid (B2.out.trans (b3.mono B2.out.size))
        replace R2 := Lib.hid ((R2.out.below b3 (Nat.le_refl _)).more b3.size)
        clear hev3 r3 b3 HUN
        have C4 := Lib.hid (lMore (cap := cap') (cap' := cap3) (H'.out.below B3.out (Nat.le_refl _)) (H3.out.below B3.out (Nat.le_refl _)) B3.out.size B3.out.size)
        go_wp2_with fail
        refine C4.out.mono ?_
        rintro e w4 ⟨rfl, b4⟩
        have B4 := Lib.hid (B3.out.trans (b4.mono B3.out.size))
        replace R2 := Lib.hid ((R2.out.below b4 (Nat.le_refl _)).more b4.size)
        replace R3 := Lib.hid ((R3.out.below b4 (Nat.le_refl _)).more b4.size)
        clear b4 C4
        have C5 := Lib.hid (lrMore (cap := cap') (cap' := cap3) (H'.out.below B4.out (Nat.le_refl _)) (H3.out.below B4.out (Nat.le_refl _)) B4.out.size B4.out.size)
        go_wp2_with fail
        refine C5.out.mono ?_
        rintro e w5 ⟨rfl, b5⟩
        have B5 := Lib.hid (B4.out.trans (b5.mono B4.out.size))
        replace R2 := Lib.hid ((R2.out.below b5 (Nat.le_refl _)).more b5.size)
        replace R3 := Lib.hid ((R3.out.below b5 (Nat.le_refl _)).more b5.size)
        clear b5 C5
        have C6 := Lib.hid (lCheck26 (cap := cap) (H.out.below B5.out (Nat.le_refl _)) B5.out.size)
        have HC7 : Hid (∀ u : World, Below w.heap.size w u → Calls Try.prog 18 #[.slice A W.length cap] u fun e w' => e = .returned (.int .i64 (chk26 W)) ∧ Below u.heap.size u w') := Lib.hid fun u hu => lrCheck26 (cap := cap) (H.out.below hu (Nat.le_refl _)) hu.size
        clear HEC
        generalize chk26 W = ck at *
        generalize moreV X Y = mv at *
        generalize moreE X Y = me at *
        go_wp2_with fail
        refine C6.out.mono ?_
        rintro e w6 ⟨rfl, b6⟩
        have B6 := Lib.hid (B5.out.trans (b6.mono B5.out.size))
        replace R2 := Lib.hid ((R2.out.below b6 (Nat.le_refl _)).more b6.size)
        replace R3 := Lib.hid ((R3.out.below b6 (Nat.le_refl _)).more b6.size)
        clear b6 C6
        go_wp2_with fail
        refine (HC7.out w6 B6.out).mono ?_
        rintro e w7 ⟨rfl, b7⟩
        have B7 := Lib.hid (B6.out.trans (b7.mono B6.out.size))
        replace R2 := Lib.hid ((R2.out.below b7 (Nat.le_refl _)).more b7.size)
        replace R3 := Lib.hid ((R3.out.below b7 (Nat.le_refl _)).more b7.size)
        clear b7 HC7
        have c8 := same26 (cap := c2) (cap' := c4) R2.out R3.out (Nat.le_refl _) (Nat.le_refl _)
        rw [decide_eq_true (rfl : a = a)] at c8
        have C8 := Lib.hid c8
        clear c8
        go_wp2_with fail
        refine C8.out.mono ?_
        rintro e w8 ⟨rfl, b8⟩
        have B8 := Lib.hid (B7.out.trans (b8.mono B7.out.size))
        clear b8 C8 R2 R3
        go_wp2
        go_ret
        exact ⟨rfl, B8.out⟩
  · go_wp2
    go_ret
    exact ⟨rfl, B1.out⟩
end Go.Proofs.Ytefbkdjppfofmaa

import Derived.Test.YtjaobcmladkjcaaW34n
/-! The walk of the statement DissolveGains. -/
namespace Go.Proofs.Ytjaobcmladkjcaa
open Go.RowKit Go.Deep
set_option linter.unusedVariables false

set_option maxHeartbeats 1000000 in
theorem gains {w : World} {A A' : Option Addr} {L O : List Int} {cap cap' : Nat} (h : Rd w w.heap.size A L) (h' : Rd w w.heap.size A' O) (r i wv p : Int) (_h1 : I64 r) (_h2 : I64 i) (_h3 : I64 wv) (_h4 : I64 p) :
    Calls Try.prog 7 #[.slice A L.length cap, .slice A' O.length cap', .int .i64 r, .int .i64 i, .int .i64 wv, .int .i64 p] w fun e w' => e = .returned (.bool true) ∧ Below w.heap.size w w' := by
  have l1 := h.len
  have l2 := h'.len
  by_cases h40 : 40 < L.length
  · clear h h'
    go_enter Try.func7, Try.ntmps7
    go_wp2
    go_ret
    exact ⟨rfl, Below.refl _ _⟩
  by_cases h41 : 40 < O.length
  · clear h h'
    go_enter Try.func7, Try.ntmps7
    go_wp2
    go_ret
    exact ⟨rfl, Below.refl _ _⟩
  have R : ∀ u, Below w.heap.size w u → w.heap.size ≤ u.heap.size ∧ Rd u w.heap.size A L ∧ Rd u w.heap.size A' O := fun u hu => ⟨hu.size, h.below hu (Nat.le_refl _), h'.below hu (Nat.le_refl _)⟩
  have HR := Lib.hid R
  clear R h h' _h1 _h2 _h3 _h4
  go_enter Try.func7, Try.ntmps7
  go_wp2_with fail
  have H1 := HR.out w (Below.refl _ _)
  refine (dGain H1.2.1 H1.1 H1.2.2 H1.1 r i wv).mono ?_
  rintro e w1 ⟨rfl, hb⟩
  clear H1
  have H1 := HR.out w1 hb
  go_wp2_with fail
  refine (rGain H1.2.1 H1.1 H1.2.2 H1.1 r i wv).mono ?_
  rintro e w2 ⟨rfl, hb2⟩
  replace hb := hb.trans (hb2.mono hb.size)
  clear H1 hb2
  have H1 := HR.out w2 hb
  go_wp2_with fail
  refine (dShoot H1.2.1 H1.1 p i wv).mono ?_
  rintro e w3 ⟨A1, c1, rfl, hr1, hb2⟩
  replace hb := hb.trans (hb2.mono hb.size)
  clear H1 hb2
  have H1 := HR.out w3 hb
  go_wp2_with fail
  refine (rShoot H1.2.1 H1.1 p i wv).mono ?_
  rintro e w4 ⟨A2, c2, rfl, hr2, hb2⟩
  replace hr1 := hr1.below hb2 (Nat.le_refl _)
  have hs5 := hb2.size
  replace hb := hb.trans (hb2.mono hb.size)
  clear H1 hb2
  have R1 := Lib.hid hr1
  have R2 := Lib.hid hr2
  clear hr1 hr2
  generalize gV L O r i wv = gv at *
  generalize gE L O r i wv = ge at *
  generalize shB L p i wv = sb at *
  generalize shE L p i wv = se at *
  generalize shL L p i wv = sl at *
  go_wp2_with fail
  refine (sameInts R1.out R2.out hs5 (Nat.le_refl _)).mono ?_
  rintro e w7 ⟨rfl, hb2⟩
  have hb3 := Lib.hid (hb.trans (hb2.mono hb.size))
  clear hb hb2
  have hd : decide (sl = sl) = true := by simp
  go_wp2
  go_ret
  exact ⟨rfl, hb3.out⟩
end Go.Proofs.Ytjaobcmladkjcaa

import Derived.Test.YtipidlonidihbaaW33u
/-! The walk of the statement HolidayRuns. -/
namespace Go.Proofs.Ytipidlonidihbaa
open Go.RowKit Go.Deep
set_option linter.unusedVariables false
set_option maxRecDepth 100000

set_option maxHeartbeats 2000000 in
theorem holidayRuns {w : World} {A A' A'' : Option Addr} {L : List Int} {HL : List (Int × List Int)} {F : List (List Int)} {cap cap' cap'' : Nat} (h : Rd w w.heap.size A L) (h' : RdH w w.heap.size A' HL) (h'' : Rd2 w w.heap.size A'' F) (n : Int) (_h1 : I64 n) :
    Calls Try.prog 7 #[.slice A L.length cap, .slice A' HL.length cap', .int .i64 n, .slice A'' F.length cap''] w fun e w' => e = .returned (.bool true) ∧ Below w.heap.size w w' := by
  have l1 := h.len
  have l2 := h'.len
  have l3 := h''.len
  have G1 := great33 (cap := cap') h'
  have G2 := great32 (cap := cap'') h''
  have R : ∀ u, Below w.heap.size w u → w.heap.size ≤ u.heap.size ∧ Rd u w.heap.size A L ∧ RdH u w.heap.size A' HL ∧ Rd2 u w.heap.size A'' F := fun u hu => ⟨hu.size, h.below hu (Nat.le_refl _), h'.below hu (Nat.le_refl _), h''.below hu (Nat.le_refl _)⟩
  have HR := Lib.hid R
  clear R h h' h'' _h1
  by_cases h40 : 40 < L.length
  · clear HR G1 G2
    go_enter Try.func7, Try.ntmps7
    go_wp2
    go_ret
    exact ⟨rfl, Below.refl _ _⟩
  · go_enter Try.func7, Try.ntmps7
    go_wp2_with fail
    refine G1.mono ?_
    rintro e w' ⟨g1, rfl, rfl⟩
    cases g1
    case true =>
      clear HR G1 G2
      go_wp2
      go_ret
      exact ⟨rfl, Below.refl _ _⟩
    case false =>
    go_wp2_with fail
    refine G2.mono ?_
    rintro e w' ⟨g2, rfl, rfl⟩
    cases g2
    case true =>
      clear HR G1 G2
      go_wp2
      go_ret
      exact ⟨rfl, Below.refl _ _⟩
    case false =>
    clear G1 G2
    have hb := Below.refl w.heap.size w
    have H1 := HR.out w hb
    go_wp2_with fail
    refine (hRun H1.2.1 H1.2.2.1 H1.1 H1.1).mono ?_
    rintro e w1 ⟨A1, c1, A2, c2, rfl, r1, r2, hb2⟩
    replace hb := hb.trans (hb2.mono hb.size)
    have H1 := HR.out w1 hb
    clear hb2
    go_wp2_with fail
    refine (hrRun H1.2.1 H1.2.2.1 H1.1 H1.1).mono ?_
    rintro e w2 ⟨A3, c3, A4, c4, rfl, r3, r4, hb2⟩
    replace r1 := r1.below hb2 (Nat.le_refl _)
    replace r2 := r2.below hb2 (Nat.le_refl _)
    have z1 := hb2.size
    replace hb := hb.trans (hb2.mono hb.size)
    have H1 := HR.out w2 hb
    clear hb2
    go_wp2_with fail
    refine (hHad H1.2.2.2 H1.1 n).mono ?_
    rintro e w3 ⟨A5, c5, rfl, r5, hb2⟩
    replace r1 := r1.below hb2 z1
    replace r2 := r2.below hb2 z1
    replace r3 := r3.below hb2 (Nat.le_refl _)
    replace r4 := r4.below hb2 (Nat.le_refl _)
    have z2 := hb2.size
    replace hb := hb.trans (hb2.mono hb.size)
    have H1 := HR.out w3 hb
    clear hb2
    go_wp2_with fail
    refine (hrHad H1.2.2.2 H1.1 n).mono ?_
    rintro e w4 ⟨A6, c6, rfl, r6, hb2⟩
    replace r1 := r1.below hb2 (by omega)
    replace r2 := r2.below hb2 (by omega)
    replace r3 := r3.below hb2 z2
    replace r4 := r4.below hb2 z2
    replace r5 := r5.below hb2 (Nat.le_refl _)
    have z3 := hb2.size
    replace hb := hb.trans (hb2.mono hb.size)
    clear hb2 H1
    have CS : Hid (∀ u, Below w4.heap.size w4 u →
        Calls Try.prog 28 #[.slice A1 (runV L HL).2.1.length c1, .slice A3 (runV L HL).2.1.length c3] u (fun e u' => e = .returned (.bool true) ∧ Below u.heap.size u u')
        ∧ Calls Try.prog 18 #[.slice A2 (runV L HL).2.2.length c2, .slice A4 (runV L HL).2.2.length c4] u (fun e u' => e = .returned (.bool true) ∧ Below u.heap.size u u')
        ∧ Calls Try.prog 18 #[.slice A5 (hadV n F).length c5, .slice A6 (hadV n F).length c6] u (fun e u' => e = .returned (.bool true) ∧ Below u.heap.size u u')) := Lib.hid fun u hu => by
      have zz := hu.size
      refine ⟨?_, ?_, ?_⟩
      · exact (sameRows (r1.below hu (by omega)) (r3.below hu (by omega)) (by omega) (by omega)).mono fun e u' ⟨h1, h2⟩ => ⟨by rw [h1]; simp, h2⟩
      · exact (sameInts (r2.below hu (by omega)) (r4.below hu (by omega)) (by omega) (by omega)).mono fun e u' ⟨h1, h2⟩ => ⟨by rw [h1]; simp, h2⟩
      · exact (sameInts (r5.below hu (by omega)) (r6.below hu (by omega)) (by omega) (by omega)).mono fun e u' ⟨h1, h2⟩ => ⟨by rw [h1]; simp, h2⟩
    have HB := Lib.hid hb
    clear r1 r2 r3 r4 r5 r6 hb z1 z2 z3
    generalize runV L HL = rv at *
    generalize hadV n F = hv at *
    generalize hadE n F = he at *
    go_wp2_with fail
    have hx := Below.refl w4.heap.size w4
    refine (CS.out w4 hx).1.mono ?_
    rintro e w7 ⟨rfl, hb2⟩
    replace hx := hx.trans (hb2.mono hx.size)
    clear hb2
    go_wp2_with fail
    refine (CS.out w7 hx).2.1.mono ?_
    rintro e w8 ⟨rfl, hb2⟩
    replace hx := hx.trans (hb2.mono hx.size)
    clear hb2
    go_wp2_with fail
    refine (CS.out w8 hx).2.2.mono ?_
    rintro e w9 ⟨rfl, hb2⟩
    replace hx := hx.trans (hb2.mono hx.size)
    clear hb2
    go_wp2
    go_ret
    exact ⟨rfl, HB.out.trans (hx.mono HB.out.size)⟩
end Go.Proofs.Ytipidlonidihbaa

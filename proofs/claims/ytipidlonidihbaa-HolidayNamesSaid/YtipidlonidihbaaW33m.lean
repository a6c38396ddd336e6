import Derived.Test.YtipidlonidihbaaW33l
import Derived.Test.YtipidlonidihbaaSame
/-! The walk of the statement HolidayGives. -/
namespace Go.Proofs.Ytipidlonidihbaa
open Go.RowKit Go.Deep
set_option linter.unusedVariables false
set_option maxRecDepth 100000

set_option maxRecDepth 100000 in
set_option maxHeartbeats 2000000 in
theorem gives {w : World} {A A' : Option Addr} {L O : List Int} {cap cap' : Nat} (h : Rd w w.heap.size A L) (h' : Rd w w.heap.size A' O) (m : Int) (_h1 : I64 m) :
    Calls Try.prog 3 #[.slice A L.length cap, .slice A' O.length cap', .int .i64 m] w fun e w' => e = .returned (.bool true) ∧ Below w.heap.size w w' := by
  have l1 := h.len
  have l2 := h'.len
  have R : ∀ u, Below w.heap.size w u → w.heap.size ≤ u.heap.size ∧ Rd u w.heap.size A L ∧ Rd u w.heap.size A' O := fun u hu => ⟨hu.size, h.below hu (Nat.le_refl _), h'.below hu (Nat.le_refl _)⟩
  have HR := Lib.hid R
  clear R h h' _h1
  by_cases hs : 40 < L.length ∨ 40 < O.length
  · clear HR
    rcases hs with hs | hs
    · go_enter Try.func3, Try.ntmps3
      go_wp2
      go_ret
      exact ⟨rfl, Below.refl _ _⟩
    · by_cases hs2 : 40 < L.length
      all_goals
        go_enter Try.func3, Try.ntmps3
        go_wp2
        go_ret
        exact ⟨rfl, Below.refl _ _⟩
  · have s1 : ¬ 40 < L.length := by omega
    have s2 : ¬ 40 < O.length := by omega
    clear hs
    go_enter Try.func3, Try.ntmps3
    have hb := Below.refl w.heap.size w
    have H1 := HR.out w hb
    go_wp2_with fail
    refine (hRank H1.2.1 H1.2.2 H1.1 H1.1).mono ?_
    rintro e w1 ⟨A1, c1, rfl, r1, hb2⟩
    replace hb := hb.trans (hb2.mono hb.size)
    have H1 := HR.out w1 hb
    clear hb2
    go_wp2_with fail
    refine (rRank H1.2.1 H1.2.2 H1.1 H1.1).mono ?_
    rintro e w2 ⟨A2, c2, rfl, r2, hb2⟩
    replace r1 := r1.below hb2 (Nat.le_refl _)
    have z1 := hb2.size
    replace hb := hb.trans (hb2.mono hb.size)
    have H1 := HR.out w2 hb
    clear hb2
    go_wp2_with fail
    refine (hPrice H1.2.1 H1.2.2 H1.1 H1.1 m).mono ?_
    rintro e w3 ⟨rfl, hb2⟩
    replace r1 := r1.below hb2 z1
    replace r2 := r2.below hb2 (Nat.le_refl _)
    have z2 := hb2.size
    replace hb := hb.trans (hb2.mono hb.size)
    have H1 := HR.out w3 hb
    clear hb2
    go_wp2_with fail
    refine (hrPrice H1.2.1 H1.2.2 H1.1 H1.1 m).mono ?_
    rintro e w4 ⟨rfl, hb2⟩
    replace r1 := r1.below hb2 (by omega)
    replace r2 := r2.below hb2 z2
    have z3 := hb2.size
    replace hb := hb.trans (hb2.mono hb.size)
    have H1 := HR.out w4 hb
    clear hb2
    go_wp2_with fail
    refine (hGive H1.2.1 H1.2.2 H1.1 H1.1 m).mono ?_
    rintro e w5 ⟨A3, c3, A4, c4, rfl, r3, r4, hb2⟩
    replace r1 := r1.below hb2 (by omega)
    replace r2 := r2.below hb2 (by omega)
    have z4 := hb2.size
    replace hb := hb.trans (hb2.mono hb.size)
    have H1 := HR.out w5 hb
    clear hb2
    go_wp2_with fail
    refine (hrGive H1.2.1 H1.2.2 H1.1 H1.1 m).mono ?_
    rintro e w6 ⟨A5, c5, A6, c6, rfl, r5, r6, hb2⟩
    replace r1 := r1.below hb2 (by omega)
    replace r2 := r2.below hb2 (by omega)
    replace r3 := r3.below hb2 (Nat.le_refl _)
    replace r4 := r4.below hb2 (Nat.le_refl _)
    have z5 := hb2.size
    replace hb := hb.trans (hb2.mono hb.size)
    have H1 := HR.out w6 hb
    clear hb2
    have CK1 := Lib.hid (hCheck (cap := cap) H1.2.1)
    have CK2 := Lib.hid (hrCheck (cap := cap) H1.2.1)
    have CS : Hid (∀ u, Below w6.heap.size w6 u →
        Calls Try.prog 18 #[.slice A1 (rkL L O).length c1, .slice A2 (rkL L O).length c2] u (fun e u' => e = .returned (.bool true) ∧ Below u.heap.size u u')
        ∧ Calls Try.prog 18 #[.slice A3 (gvF L O m).length c3, .slice A5 (gvF L O m).length c5] u (fun e u' => e = .returned (.bool true) ∧ Below u.heap.size u u')
        ∧ Calls Try.prog 18 #[.slice A4 (gvA L O m).length c4, .slice A6 (gvA L O m).length c6] u (fun e u' => e = .returned (.bool true) ∧ Below u.heap.size u u')) := Lib.hid fun u hu => by
      have zz := hu.size
      refine ⟨?_, ?_, ?_⟩
      · exact (sameInts (r1.below hu (by omega)) (r2.below hu (by omega)) (by omega) (by omega)).mono fun e u' ⟨h1, h2⟩ => ⟨by rw [h1]; simp, h2⟩
      · exact (sameInts (r3.below hu (by omega)) (r5.below hu (by omega)) (by omega) (by omega)).mono fun e u' ⟨h1, h2⟩ => ⟨by rw [h1]; simp, h2⟩
      · exact (sameInts (r4.below hu (by omega)) (r6.below hu (by omega)) (by omega) (by omega)).mono fun e u' ⟨h1, h2⟩ => ⟨by rw [h1]; simp, h2⟩
    have HB := Lib.hid hb
    clear r1 r2 r3 r4 r5 r6 H1 hb z1 z2 z3 z4 z5
    go_wp2_with fail
    refine CK1.out.mono ?_
    rintro e w7 ⟨rfl, rfl⟩
    go_wp2_with fail
    refine CK2.out.mono ?_
    rintro e w7 ⟨rfl, rfl⟩
    go_wp2_with fail
    have hx := Below.refl w6.heap.size w6
    refine (CS.out w6 hx).1.mono ?_
    rintro e w7 ⟨rfl, hb2⟩
    replace hx := hx.trans (hb2.mono hx.size)
    clear hb2
    go_wp2_with fail
    refine (CS.out w7 hx).2.1.mono ?_
    rintro e w8 ⟨rfl, hb2⟩
    replace hx := hx.trans (hb2.mono hx.size)
    clear hb2
    go_wp2_with fail
    refine (CS.out w8 hx).2.2.mono ?_
    rintro e w9 ⟨rfl, hb2⟩
    replace hx := hx.trans (hb2.mono hx.size)
    clear hb2
    go_wp2
    go_ret
    exact ⟨rfl, HB.out.trans (hx.mono HB.out.size)⟩
end Go.Proofs.Ytipidlonidihbaa

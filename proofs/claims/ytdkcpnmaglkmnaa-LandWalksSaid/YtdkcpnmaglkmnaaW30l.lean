import Derived.Test.YtdkcpnmaglkmnaaW30j
import Derived.Test.YtdkcpnmaglkmnaaW30k
/-! The walk of the statement LandWalks. -/
namespace Go.Proofs.Ytdkcpnmaglkmnaa
open Go.RowKit Go.Deep
set_option linter.unusedVariables false
set_option maxRecDepth 100000

set_option maxHeartbeats 2000000 in
theorem landWalks {w : World} {A : Option Addr} {L : List Int} {cap : Nat} (h : Rd w w.heap.size A L) (W H a b : Int) (_h1 : I64 W) (_h2 : I64 H) (_h3 : I64 a) (_h4 : I64 b) :
    Calls Try.prog 3 #[.agg #[.int .i64 W, .int .i64 H, .slice A L.length cap], .int .i64 a, .int .i64 b] w fun e w' => e = .returned (.bool true) ∧ Below w.heap.size w w' := by
  have hal : Below w.heap.size w (w.alloc (.cells #[.int .i64 W, .int .i64 H, .slice A L.length cap] 24)) := (Below.refl _ _).alloc (Nat.le_refl _) _
  have hsz : (w.alloc (.cells #[.int .i64 W, .int .i64 H, .slice A L.length cap] 24)).heap.size = w.heap.size + 1 := by simp
  have b0 : (w.alloc (.cells #[.int .i64 W, .int .i64 H, .slice A L.length cap] 24)).cell? ⟨w.heap.size, 0, none⟩ = some (.int .i64 W) := by simp
  have b1 : (w.alloc (.cells #[.int .i64 W, .int .i64 H, .slice A L.length cap] 24)).cell? ⟨w.heap.size, 1, none⟩ = some (.int .i64 H) := by simp
  have b2 : (w.alloc (.cells #[.int .i64 W, .int .i64 H, .slice A L.length cap] 24)).cell? ⟨w.heap.size, 2, none⟩ = some (.slice A L.length cap) := by simp
  have hlen := h.len
  have HR : Hid (∀ u, Below w.heap.size w u → w.heap.size ≤ u.heap.size ∧ Rd u w.heap.size A L) := Lib.hid fun u hu => ⟨hu.size, h.below hu (Nat.le_refl _)⟩
  have HSZ := Lib.hid hsz
  have HAL := Lib.hid hal
  clear h hal hsz _h1 _h2 _h3 _h4
  go_enter Try.func3, Try.ntmps3
  go_wp2_with fail
  generalize w.alloc (.cells #[.int .i64 W, .int .i64 H, .slice A L.length cap] 24) = w0 at *
  have HB0 := Lib.hid (And.intro b0 (And.intro b1 b2))
  have KEEP : Hid (∀ u, Below w0.heap.size w0 u → u.cell? ⟨w.heap.size, 0, none⟩ = some (.int .i64 W) ∧ u.cell? ⟨w.heap.size, 1, none⟩ = some (.int .i64 H) ∧ u.cell? ⟨w.heap.size, 2, none⟩ = some (.slice A L.length cap)) := Lib.hid fun u hu => by
    have hz := HSZ.out
    exact ⟨((bcell hu).1 _ _ (by omega)).trans HB0.out.1, ((bcell hu).1 _ _ (by omega)).trans HB0.out.2.1, ((bcell hu).1 _ _ (by omega)).trans HB0.out.2.2⟩
  have TOT : Hid (∀ u, Below w0.heap.size w0 u → Below w.heap.size w u) := Lib.hid fun u hu => HAL.out.trans (hu.mono HAL.out.size)
  refine (great30 W H hlen).mono ?_
  rintro e w1 ⟨g1, rfl, hb1⟩
  clear b0 b1 b2
  have B1 := Lib.hid hb1
  clear hb1
  cases g1
  case true =>
    go_wp2
    go_ret
    exact ⟨rfl, TOT.out _ B1.out⟩
  case false =>
  obtain ⟨c0, c1, c2⟩ := KEEP.out _ B1.out
  have R := HR.out _ (TOT.out _ B1.out)
  go_wp2_with fail
  refine (lBoundary R.2 R.1 W H a).mono ?_
  rintro e w2 ⟨rfl, hb⟩
  have B2 := Lib.hid (B1.out.trans (hb.mono B1.out.size))
  clear hb c0 c1 c2 R
  obtain ⟨c0, c1, c2⟩ := KEEP.out _ B2.out
  have R := HR.out _ (TOT.out _ B2.out)
  go_wp2_with fail
  refine (lrBoundary R.2 R.1 W H a).mono ?_
  rintro e w3 ⟨rfl, hb⟩
  have B3 := Lib.hid (B2.out.trans (hb.mono B2.out.size))
  clear hb c0 c1 c2 R
  obtain ⟨c0, c1, c2⟩ := KEEP.out _ B3.out
  have R := HR.out _ (TOT.out _ B3.out)
  go_wp2_with fail
  refine (lBorder R.2 R.1 W H a b).mono ?_
  rintro e w4 ⟨rfl, hb⟩
  have B4 := Lib.hid (B3.out.trans (hb.mono B3.out.size))
  clear hb c0 c1 c2 R
  obtain ⟨c0, c1, c2⟩ := KEEP.out _ B4.out
  have R := HR.out _ (TOT.out _ B4.out)
  go_wp2_with fail
  refine (lrBorder R.2 R.1 W H a b).mono ?_
  rintro e w5 ⟨rfl, hb⟩
  have B5 := Lib.hid (B4.out.trans (hb.mono B4.out.size))
  clear hb c0 c1 c2 R
  obtain ⟨c0, c1, c2⟩ := KEEP.out _ B5.out
  have R := HR.out _ (TOT.out _ B5.out)
  go_wp2_with fail
  refine (lWalk R.2 R.1 W H a).mono ?_
  rintro e w6 ⟨A1, k1, rfl, r1, hb⟩
  have B6 := Lib.hid (B5.out.trans (hb.mono B5.out.size))
  have R1 := Lib.hid r1
  clear hb c0 c1 c2 R r1
  obtain ⟨c0, c1, c2⟩ := KEEP.out _ B6.out
  have R := HR.out _ (TOT.out _ B6.out)
  go_wp2_with fail
  refine (lrWalk R.2 R.1 W H a).mono ?_
  rintro e w7 ⟨A2, k2, rfl, r2, hb⟩
  have B7 := Lib.hid (B6.out.trans (hb.mono B6.out.size))
  have R1' := Lib.hid (R1.out.below hb (Nat.le_refl _))
  have Z1 : Hid (w6.heap.size ≤ w7.heap.size) := Lib.hid hb.size
  have R2 := Lib.hid r2
  clear hb c0 c1 c2 R r2 R1
  have CS := samePts (cap := k1) (cap' := k2) R1'.out R2.out Z1.out (Nat.le_refl _)
  have HCS := Lib.hid CS
  clear CS
  generalize bdyN W H L a = x1 at *
  generalize lkd W H L a = x2 at *
  generalize brdN W H L a b = x3 at *
  generalize brdE W H L a b = x4 at *
  generalize wkE W H L a = x5 at *
  generalize wkP W H L a = x6 at *
  go_wp2_with fail
  refine HCS.out.mono ?_
  rintro e w8 ⟨rfl, hb⟩
  have B8 := Lib.hid (B7.out.trans (hb.mono B7.out.size))
  clear hb HCS
  go_wp2
  go_ret
  exact ⟨rfl, TOT.out _ B8.out⟩
end Go.Proofs.Ytdkcpnmaglkmnaa

import Derived.Test.YtdkcpnmaglkmnaaW30v
import Derived.Test.YtdkcpnmaglkmnaaW30w
import Derived.Test.YtdkcpnmaglkmnaaW30x
import Derived.Test.YtdkcpnmaglkmnaaW30i
/-! The walk of the statement LandParts. (Printed by gen30z.py.) -/
namespace Go.Proofs.Ytdkcpnmaglkmnaa
open Go.RowKit Go.Deep
set_option linter.unusedVariables false
set_option maxRecDepth 100000

set_option maxHeartbeats 8000000 in
theorem landParts {w : World} {A : Option Addr} {L : List Int} {cap : Nat} (h : Rd w w.heap.size A L) (W H a p t : Int) (_h1 : I64 W) (_h2 : I64 H) (_h3 : I64 a) (_h4 : I64 p) (_h5 : I64 t) :
    Calls Try.prog 4 #[.agg #[.int .i64 W, .int .i64 H, .slice A L.length cap], .int .i64 a, .int .i64 p, .int .i64 t] w fun e w' => e = .returned (.bool true) ∧ Below w.heap.size w w' := by
  have hal : Below w.heap.size w (w.alloc (.cells #[.int .i64 W, .int .i64 H, .slice A L.length cap] 24)) := (Below.refl _ _).alloc (Nat.le_refl _) _
  have hsz : (w.alloc (.cells #[.int .i64 W, .int .i64 H, .slice A L.length cap] 24)).heap.size = w.heap.size + 1 := by simp
  have b0 : (w.alloc (.cells #[.int .i64 W, .int .i64 H, .slice A L.length cap] 24)).cell? ⟨w.heap.size, 0, none⟩ = some (.int .i64 W) := by simp
  have b1 : (w.alloc (.cells #[.int .i64 W, .int .i64 H, .slice A L.length cap] 24)).cell? ⟨w.heap.size, 1, none⟩ = some (.int .i64 H) := by simp
  have b2 : (w.alloc (.cells #[.int .i64 W, .int .i64 H, .slice A L.length cap] 24)).cell? ⟨w.heap.size, 2, none⟩ = some (.slice A L.length cap) := by simp
  have hlen := h.len
  have HR : Hid (∀ u, Below w.heap.size w u → w.heap.size ≤ u.heap.size ∧ Rd u w.heap.size A L) := Lib.hid fun u hu => ⟨hu.size, h.below hu (Nat.le_refl _)⟩
  have HSZ := Lib.hid hsz
  have HAL := Lib.hid hal
  clear h hal hsz _h1 _h2 _h3 _h4 _h5
  go_enter Try.func4, Try.ntmps4
  go_wp2_with fail
  generalize w.alloc (.cells #[.int .i64 W, .int .i64 H, .slice A L.length cap] 24) = w0 at *
  have HB0 := Lib.hid (And.intro b0 (And.intro b1 b2))
  have KEEP : Hid (∀ u, Below w0.heap.size w0 u → u.cell? ⟨w.heap.size, 0, none⟩ = some (.int .i64 W) ∧ u.cell? ⟨w.heap.size, 1, none⟩ = some (.int .i64 H) ∧ u.cell? ⟨w.heap.size, 2, none⟩ = some (.slice A L.length cap)) := Lib.hid fun u hu => by
    have hz := HSZ.out
    exact ⟨((bcell hu).1 _ _ (by omega)).trans HB0.out.1, ((bcell hu).1 _ _ (by omega)).trans HB0.out.2.1, ((bcell hu).1 _ _ (by omega)).trans HB0.out.2.2⟩
  have TOT : Hid (∀ u, Below w0.heap.size w0 u → Below w.heap.size w u) := Lib.hid fun u hu => HAL.out.trans (hu.mono HAL.out.size)
  refine (great30 W H hlen).mono ?_
  rintro e w1 ⟨g1, rfl, hb1⟩
  clear b0 b1 b2
  have B1 := Lib.hid hb1
  clear hb1
  cases g1
  case true =>
    go_wp2
    go_ret
    exact ⟨rfl, TOT.out _ B1.out⟩
  case false =>
  obtain ⟨c0, c1, c2⟩ := KEEP.out _ B1.out
  have R := HR.out _ (TOT.out _ B1.out)
  go_wp2_with fail
  refine (lPartsE R.2 R.1 W H a).mono ?_
  rintro e w2 ⟨AP1, kP1, rfl, hr, hb⟩
  have B2 := Lib.hid (B1.out.trans (hb.mono B1.out.size))
  have LP1 := Lib.hid hr
  clear hr
  clear hb c0 c1 c2 R
  obtain ⟨c0, c1, c2⟩ := KEEP.out _ B2.out
  have R := HR.out _ (TOT.out _ B2.out)
  go_wp2_with fail
  refine (lrPartsE R.2 R.1 W H a).mono ?_
  rintro e w3 ⟨AP2, kP2, rfl, hr, hb⟩
  have B3 := Lib.hid (B2.out.trans (hb.mono B2.out.size))
  replace LP1 := Lib.hid ((LP1.out.below hb (Nat.le_refl _)).more hb.size)
  have LP2 := Lib.hid hr
  clear hr
  clear hb c0 c1 c2 R
  obtain ⟨c0, c1, c2⟩ := KEEP.out _ B3.out
  have R := HR.out _ (TOT.out _ B3.out)
  go_wp2_with fail
  refine (lJoints R.2 R.1 W H a).mono ?_
  rintro e w4 ⟨AJ1, kJ1, rfl, hr, hb⟩
  have B4 := Lib.hid (B3.out.trans (hb.mono B3.out.size))
  replace LP1 := Lib.hid ((LP1.out.below hb (Nat.le_refl _)).more hb.size)
  replace LP2 := Lib.hid ((LP2.out.below hb (Nat.le_refl _)).more hb.size)
  have LJ1 := Lib.hid hr
  clear hr
  clear hb c0 c1 c2 R
  obtain ⟨c0, c1, c2⟩ := KEEP.out _ B4.out
  have R := HR.out _ (TOT.out _ B4.out)
  go_wp2_with fail
  refine (lrJoints R.2 R.1 W H a).mono ?_
  rintro e w5 ⟨AJ2, kJ2, rfl, hr, hb⟩
  have B5 := Lib.hid (B4.out.trans (hb.mono B4.out.size))
  replace LP1 := Lib.hid ((LP1.out.below hb (Nat.le_refl _)).more hb.size)
  replace LP2 := Lib.hid ((LP2.out.below hb (Nat.le_refl _)).more hb.size)
  replace LJ1 := Lib.hid ((LJ1.out.below hb (Nat.le_refl _)).more hb.size)
  have LJ2 := Lib.hid hr
  clear hr
  clear hb c0 c1 c2 R
  obtain ⟨c0, c1, c2⟩ := KEEP.out _ B5.out
  have R := HR.out _ (TOT.out _ B5.out)
  go_wp2_with fail
  refine (lGive R.2 R.1 W H p t).mono ?_
  rintro e w6 ⟨AG1, kG1, rfl, hr, hb⟩
  have B6 := Lib.hid (B5.out.trans (hb.mono B5.out.size))
  replace LP1 := Lib.hid ((LP1.out.below hb (Nat.le_refl _)).more hb.size)
  replace LP2 := Lib.hid ((LP2.out.below hb (Nat.le_refl _)).more hb.size)
  replace LJ1 := Lib.hid ((LJ1.out.below hb (Nat.le_refl _)).more hb.size)
  replace LJ2 := Lib.hid ((LJ2.out.below hb (Nat.le_refl _)).more hb.size)
  have LG1 := Lib.hid hr
  clear hr
  clear hb c0 c1 c2 R
  obtain ⟨c0, c1, c2⟩ := KEEP.out _ B6.out
  have R := HR.out _ (TOT.out _ B6.out)
  have hb : Below w6.heap.size w6 (w6.alloc (.cells #[.int .i64 (gvW30 W H L p t), .int .i64 (gvH30 W H L p t), .slice AG1 (gvL30 W H L p t).length kG1] 24)) := (Below.refl _ _).alloc (Nat.le_refl _) _
  have hn := three_cells (heap_alloc_new w6 (.cells #[.int .i64 (gvW30 W H L p t), .int .i64 (gvH30 W H L p t), .slice AG1 (gvL30 W H L p t).length kG1] 24))
  have hns : w6.heap.size < (w6.alloc (.cells #[.int .i64 (gvW30 W H L p t), .int .i64 (gvH30 W H L p t), .slice AG1 (gvL30 W H L p t).length kG1] 24)).heap.size := by simp
  have B7 := Lib.hid (B6.out.trans (hb.mono B6.out.size))
  replace LP1 := Lib.hid ((LP1.out.below hb (Nat.le_refl _)).more hb.size)
  replace LP2 := Lib.hid ((LP2.out.below hb (Nat.le_refl _)).more hb.size)
  replace LJ1 := Lib.hid ((LJ1.out.below hb (Nat.le_refl _)).more hb.size)
  replace LJ2 := Lib.hid ((LJ2.out.below hb (Nat.le_refl _)).more hb.size)
  replace LG1 := Lib.hid ((LG1.out.below hb (Nat.le_refl _)).more hb.size)
  have CG1 := Lib.hid hn
  have CG1z := Lib.hid hns
  clear hn hns
  clear hb c0 c1 c2 R
  obtain ⟨c0, c1, c2⟩ := KEEP.out _ B7.out
  have R := HR.out _ (TOT.out _ B7.out)
  go_wp2_with fail
  generalize w6.alloc (.cells #[.int .i64 (gvW30 W H L p t), .int .i64 (gvH30 W H L p t), .slice AG1 (gvL30 W H L p t).length kG1] 24) = w7 at *
  refine (lrGive R.2 R.1 W H p t).mono ?_
  rintro e w8 ⟨AG2, kG2, rfl, hr, hb⟩
  have B8 := Lib.hid (B7.out.trans (hb.mono B7.out.size))
  replace LP1 := Lib.hid ((LP1.out.below hb (Nat.le_refl _)).more hb.size)
  replace LP2 := Lib.hid ((LP2.out.below hb (Nat.le_refl _)).more hb.size)
  replace LJ1 := Lib.hid ((LJ1.out.below hb (Nat.le_refl _)).more hb.size)
  replace LJ2 := Lib.hid ((LJ2.out.below hb (Nat.le_refl _)).more hb.size)
  replace LG1 := Lib.hid ((LG1.out.below hb (Nat.le_refl _)).more hb.size)
  replace CG1 := Lib.hid (cells_below CG1.out hb (by have := CG1z.out; omega))
  replace CG1z := Lib.hid (Nat.lt_of_lt_of_le CG1z.out hb.size)
  have LG2 := Lib.hid hr
  clear hr
  clear hb c0 c1 c2 R
  obtain ⟨c0, c1, c2⟩ := KEEP.out _ B8.out
  have R := HR.out _ (TOT.out _ B8.out)
  have hb : Below w8.heap.size w8 (w8.alloc (.cells #[.int .i64 (gvW30 W H L p t), .int .i64 (gvH30 W H L p t), .slice AG2 (gvL30 W H L p t).length kG2] 24)) := (Below.refl _ _).alloc (Nat.le_refl _) _
  have hn := three_cells (heap_alloc_new w8 (.cells #[.int .i64 (gvW30 W H L p t), .int .i64 (gvH30 W H L p t), .slice AG2 (gvL30 W H L p t).length kG2] 24))
  have hns : w8.heap.size < (w8.alloc (.cells #[.int .i64 (gvW30 W H L p t), .int .i64 (gvH30 W H L p t), .slice AG2 (gvL30 W H L p t).length kG2] 24)).heap.size := by simp
  have B9 := Lib.hid (B8.out.trans (hb.mono B8.out.size))
  replace LP1 := Lib.hid ((LP1.out.below hb (Nat.le_refl _)).more hb.size)
  replace LP2 := Lib.hid ((LP2.out.below hb (Nat.le_refl _)).more hb.size)
  replace LJ1 := Lib.hid ((LJ1.out.below hb (Nat.le_refl _)).more hb.size)
  replace LJ2 := Lib.hid ((LJ2.out.below hb (Nat.le_refl _)).more hb.size)
  replace LG1 := Lib.hid ((LG1.out.below hb (Nat.le_refl _)).more hb.size)
  replace LG2 := Lib.hid ((LG2.out.below hb (Nat.le_refl _)).more hb.size)
  replace CG1 := Lib.hid (cells_below CG1.out hb (by have := CG1z.out; omega))
  replace CG1z := Lib.hid (Nat.lt_of_lt_of_le CG1z.out hb.size)
  have CG2 := Lib.hid hn
  have CG2z := Lib.hid hns
  clear hn hns
  clear hb c0 c1 c2 R
  obtain ⟨c0, c1, c2⟩ := KEEP.out _ B9.out
  have R := HR.out _ (TOT.out _ B9.out)
  have G1 := CG1.out
  have G2 := CG2.out
  obtain ⟨g0, g1, g2⟩ := G1
  obtain ⟨h0, h1, h2⟩ := G2
  go_wp2_with fail
  generalize hwx : w8.alloc (.cells #[.int .i64 (gvW30 W H L p t), .int .i64 (gvH30 W H L p t), .slice AG2 (gvL30 W H L p t).length kG2] 24) = w9 at *
  have HWX := Lib.hid hwx
  clear hwx
  have KS : Hid (∀ u u', (u.cell? ⟨w.heap.size, 0, none⟩ = some (.int .i64 W) ∧ u.cell? ⟨w.heap.size, 1, none⟩ = some (.int .i64 H) ∧ u.cell? ⟨w.heap.size, 2, none⟩ = some (.slice A L.length cap) ∧ u.cell? ⟨w6.heap.size, 0, none⟩ = some (.int .i64 (gvW30 W H L p t)) ∧ u.cell? ⟨w6.heap.size, 1, none⟩ = some (.int .i64 (gvH30 W H L p t)) ∧ u.cell? ⟨w6.heap.size, 2, none⟩ = some (.slice AG1 (gvL30 W H L p t).length kG1) ∧ u.cell? ⟨w8.heap.size, 0, none⟩ = some (.int .i64 (gvW30 W H L p t)) ∧ u.cell? ⟨w8.heap.size, 1, none⟩ = some (.int .i64 (gvH30 W H L p t)) ∧ u.cell? ⟨w8.heap.size, 2, none⟩ = some (.slice AG2 (gvL30 W H L p t).length kG2) ∧ Hid (Below w9.heap.size w9 u)) → Below u.heap.size u u' → (u'.cell? ⟨w.heap.size, 0, none⟩ = some (.int .i64 W) ∧ u'.cell? ⟨w.heap.size, 1, none⟩ = some (.int .i64 H) ∧ u'.cell? ⟨w.heap.size, 2, none⟩ = some (.slice A L.length cap) ∧ u'.cell? ⟨w6.heap.size, 0, none⟩ = some (.int .i64 (gvW30 W H L p t)) ∧ u'.cell? ⟨w6.heap.size, 1, none⟩ = some (.int .i64 (gvH30 W H L p t)) ∧ u'.cell? ⟨w6.heap.size, 2, none⟩ = some (.slice AG1 (gvL30 W H L p t).length kG1) ∧ u'.cell? ⟨w8.heap.size, 0, none⟩ = some (.int .i64 (gvW30 W H L p t)) ∧ u'.cell? ⟨w8.heap.size, 1, none⟩ = some (.int .i64 (gvH30 W H L p t)) ∧ u'.cell? ⟨w8.heap.size, 2, none⟩ = some (.slice AG2 (gvL30 W H L p t).length kG2) ∧ Hid (Below w9.heap.size w9 u'))) := Lib.hid fun u u' hu hb => by
    obtain ⟨a0, a1, a2, a3, a4, a5, a6, a7, a8, a9⟩ := hu
    have z0 := a9.out.size
    have z1 := CG1z.out
    have z2 := CG2z.out
    have z3 := (TOT.out _ B9.out).size
    have z4 := HSZ.out
    have z5 := B9.out.size
    exact ⟨((bcell hb).1 _ _ (by omega)).trans a0, ((bcell hb).1 _ _ (by omega)).trans a1, ((bcell hb).1 _ _ (by omega)).trans a2, ((bcell hb).1 _ _ (by omega)).trans a3, ((bcell hb).1 _ _ (by omega)).trans a4, ((bcell hb).1 _ _ (by omega)).trans a5, ((bcell hb).1 _ _ (by omega)).trans a6, ((bcell hb).1 _ _ (by omega)).trans a7, ((bcell hb).1 _ _ (by omega)).trans a8, Lib.hid (a9.out.trans (hb.mono z0))⟩
  have K1 : Hid (∀ u : World, (u.cell? ⟨w.heap.size, 0, none⟩ = some (.int .i64 W) ∧ u.cell? ⟨w.heap.size, 1, none⟩ = some (.int .i64 H) ∧ u.cell? ⟨w.heap.size, 2, none⟩ = some (.slice A L.length cap) ∧ u.cell? ⟨w6.heap.size, 0, none⟩ = some (.int .i64 (gvW30 W H L p t)) ∧ u.cell? ⟨w6.heap.size, 1, none⟩ = some (.int .i64 (gvH30 W H L p t)) ∧ u.cell? ⟨w6.heap.size, 2, none⟩ = some (.slice AG1 (gvL30 W H L p t).length kG1) ∧ u.cell? ⟨w8.heap.size, 0, none⟩ = some (.int .i64 (gvW30 W H L p t)) ∧ u.cell? ⟨w8.heap.size, 1, none⟩ = some (.int .i64 (gvH30 W H L p t)) ∧ u.cell? ⟨w8.heap.size, 2, none⟩ = some (.slice AG2 (gvL30 W H L p t).length kG2) ∧ Hid (Below w9.heap.size w9 u)) → Calls Try.prog 25 #[.agg #[.int .i64 W, .int .i64 H, .slice A L.length cap]] u fun e u' => e = .returned (.int .i64 (lck W H L)) ∧ (u'.cell? ⟨w.heap.size, 0, none⟩ = some (.int .i64 W) ∧ u'.cell? ⟨w.heap.size, 1, none⟩ = some (.int .i64 H) ∧ u'.cell? ⟨w.heap.size, 2, none⟩ = some (.slice A L.length cap) ∧ u'.cell? ⟨w6.heap.size, 0, none⟩ = some (.int .i64 (gvW30 W H L p t)) ∧ u'.cell? ⟨w6.heap.size, 1, none⟩ = some (.int .i64 (gvH30 W H L p t)) ∧ u'.cell? ⟨w6.heap.size, 2, none⟩ = some (.slice AG1 (gvL30 W H L p t).length kG1) ∧ u'.cell? ⟨w8.heap.size, 0, none⟩ = some (.int .i64 (gvW30 W H L p t)) ∧ u'.cell? ⟨w8.heap.size, 1, none⟩ = some (.int .i64 (gvH30 W H L p t)) ∧ u'.cell? ⟨w8.heap.size, 2, none⟩ = some (.slice AG2 (gvL30 W H L p t).length kG2) ∧ Hid (Below w9.heap.size w9 u'))) := Lib.hid fun u hu => by
    have hw := hu.2.2.2.2.2.2.2.2.2.out
    have hz := hw.size
    have R := HR.out _ (TOT.out _ (B9.out.trans (hw.mono B9.out.size)))
    exact (lCheck (cap := cap) R.2 R.1 W H).mono fun e u' ⟨he, hb⟩ => ⟨he, KS.out _ _ hu hb⟩
  have K2 : Hid (∀ u : World, (u.cell? ⟨w.heap.size, 0, none⟩ = some (.int .i64 W) ∧ u.cell? ⟨w.heap.size, 1, none⟩ = some (.int .i64 H) ∧ u.cell? ⟨w.heap.size, 2, none⟩ = some (.slice A L.length cap) ∧ u.cell? ⟨w6.heap.size, 0, none⟩ = some (.int .i64 (gvW30 W H L p t)) ∧ u.cell? ⟨w6.heap.size, 1, none⟩ = some (.int .i64 (gvH30 W H L p t)) ∧ u.cell? ⟨w6.heap.size, 2, none⟩ = some (.slice AG1 (gvL30 W H L p t).length kG1) ∧ u.cell? ⟨w8.heap.size, 0, none⟩ = some (.int .i64 (gvW30 W H L p t)) ∧ u.cell? ⟨w8.heap.size, 1, none⟩ = some (.int .i64 (gvH30 W H L p t)) ∧ u.cell? ⟨w8.heap.size, 2, none⟩ = some (.slice AG2 (gvL30 W H L p t).length kG2) ∧ Hid (Below w9.heap.size w9 u)) → Calls Try.prog 26 #[.agg #[.int .i64 W, .int .i64 H, .slice A L.length cap]] u fun e u' => e = .returned (.int .i64 (lck W H L)) ∧ (u'.cell? ⟨w.heap.size, 0, none⟩ = some (.int .i64 W) ∧ u'.cell? ⟨w.heap.size, 1, none⟩ = some (.int .i64 H) ∧ u'.cell? ⟨w.heap.size, 2, none⟩ = some (.slice A L.length cap) ∧ u'.cell? ⟨w6.heap.size, 0, none⟩ = some (.int .i64 (gvW30 W H L p t)) ∧ u'.cell? ⟨w6.heap.size, 1, none⟩ = some (.int .i64 (gvH30 W H L p t)) ∧ u'.cell? ⟨w6.heap.size, 2, none⟩ = some (.slice AG1 (gvL30 W H L p t).length kG1) ∧ u'.cell? ⟨w8.heap.size, 0, none⟩ = some (.int .i64 (gvW30 W H L p t)) ∧ u'.cell? ⟨w8.heap.size, 1, none⟩ = some (.int .i64 (gvH30 W H L p t)) ∧ u'.cell? ⟨w8.heap.size, 2, none⟩ = some (.slice AG2 (gvL30 W H L p t).length kG2) ∧ Hid (Below w9.heap.size w9 u'))) := Lib.hid fun u hu => by
    have hw := hu.2.2.2.2.2.2.2.2.2.out
    have hz := hw.size
    have R := HR.out _ (TOT.out _ (B9.out.trans (hw.mono B9.out.size)))
    exact (lrCheck (cap := cap) R.2 R.1 W H).mono fun e u' ⟨he, hb⟩ => ⟨he, KS.out _ _ hu hb⟩
  have K3 : Hid (∀ u : World, (u.cell? ⟨w.heap.size, 0, none⟩ = some (.int .i64 W) ∧ u.cell? ⟨w.heap.size, 1, none⟩ = some (.int .i64 H) ∧ u.cell? ⟨w.heap.size, 2, none⟩ = some (.slice A L.length cap) ∧ u.cell? ⟨w6.heap.size, 0, none⟩ = some (.int .i64 (gvW30 W H L p t)) ∧ u.cell? ⟨w6.heap.size, 1, none⟩ = some (.int .i64 (gvH30 W H L p t)) ∧ u.cell? ⟨w6.heap.size, 2, none⟩ = some (.slice AG1 (gvL30 W H L p t).length kG1) ∧ u.cell? ⟨w8.heap.size, 0, none⟩ = some (.int .i64 (gvW30 W H L p t)) ∧ u.cell? ⟨w8.heap.size, 1, none⟩ = some (.int .i64 (gvH30 W H L p t)) ∧ u.cell? ⟨w8.heap.size, 2, none⟩ = some (.slice AG2 (gvL30 W H L p t).length kG2) ∧ Hid (Below w9.heap.size w9 u)) → Calls Try.prog 27 #[.slice AP1 (prtF W H L a).length kP1, .slice AP2 (prtF W H L a).length kP2] u fun e u' => e = .returned (.bool true) ∧ (u'.cell? ⟨w.heap.size, 0, none⟩ = some (.int .i64 W) ∧ u'.cell? ⟨w.heap.size, 1, none⟩ = some (.int .i64 H) ∧ u'.cell? ⟨w.heap.size, 2, none⟩ = some (.slice A L.length cap) ∧ u'.cell? ⟨w6.heap.size, 0, none⟩ = some (.int .i64 (gvW30 W H L p t)) ∧ u'.cell? ⟨w6.heap.size, 1, none⟩ = some (.int .i64 (gvH30 W H L p t)) ∧ u'.cell? ⟨w6.heap.size, 2, none⟩ = some (.slice AG1 (gvL30 W H L p t).length kG1) ∧ u'.cell? ⟨w8.heap.size, 0, none⟩ = some (.int .i64 (gvW30 W H L p t)) ∧ u'.cell? ⟨w8.heap.size, 1, none⟩ = some (.int .i64 (gvH30 W H L p t)) ∧ u'.cell? ⟨w8.heap.size, 2, none⟩ = some (.slice AG2 (gvL30 W H L p t).length kG2) ∧ Hid (Below w9.heap.size w9 u'))) := Lib.hid fun u hu => by
    have hw := hu.2.2.2.2.2.2.2.2.2.out
    have hz := hw.size
    have R := HR.out _ (TOT.out _ (B9.out.trans (hw.mono B9.out.size)))
    exact (sameParts (cap := kP1) (cap' := kP2) (LP1.out.below hw (Nat.le_refl _)) (LP2.out.below hw (Nat.le_refl _)) hz hz).mono fun e u' ⟨he, hb⟩ => ⟨by rw [he]; simp, KS.out _ _ hu hb⟩
  have K4 : Hid (∀ u : World, (u.cell? ⟨w.heap.size, 0, none⟩ = some (.int .i64 W) ∧ u.cell? ⟨w.heap.size, 1, none⟩ = some (.int .i64 H) ∧ u.cell? ⟨w.heap.size, 2, none⟩ = some (.slice A L.length cap) ∧ u.cell? ⟨w6.heap.size, 0, none⟩ = some (.int .i64 (gvW30 W H L p t)) ∧ u.cell? ⟨w6.heap.size, 1, none⟩ = some (.int .i64 (gvH30 W H L p t)) ∧ u.cell? ⟨w6.heap.size, 2, none⟩ = some (.slice AG1 (gvL30 W H L p t).length kG1) ∧ u.cell? ⟨w8.heap.size, 0, none⟩ = some (.int .i64 (gvW30 W H L p t)) ∧ u.cell? ⟨w8.heap.size, 1, none⟩ = some (.int .i64 (gvH30 W H L p t)) ∧ u.cell? ⟨w8.heap.size, 2, none⟩ = some (.slice AG2 (gvL30 W H L p t).length kG2) ∧ Hid (Below w9.heap.size w9 u)) → Calls Try.prog 28 #[.slice AJ1 (jntF W H L a).length kJ1, .slice AJ2 (jntF W H L a).length kJ2] u fun e u' => e = .returned (.bool true) ∧ (u'.cell? ⟨w.heap.size, 0, none⟩ = some (.int .i64 W) ∧ u'.cell? ⟨w.heap.size, 1, none⟩ = some (.int .i64 H) ∧ u'.cell? ⟨w.heap.size, 2, none⟩ = some (.slice A L.length cap) ∧ u'.cell? ⟨w6.heap.size, 0, none⟩ = some (.int .i64 (gvW30 W H L p t)) ∧ u'.cell? ⟨w6.heap.size, 1, none⟩ = some (.int .i64 (gvH30 W H L p t)) ∧ u'.cell? ⟨w6.heap.size, 2, none⟩ = some (.slice AG1 (gvL30 W H L p t).length kG1) ∧ u'.cell? ⟨w8.heap.size, 0, none⟩ = some (.int .i64 (gvW30 W H L p t)) ∧ u'.cell? ⟨w8.heap.size, 1, none⟩ = some (.int .i64 (gvH30 W H L p t)) ∧ u'.cell? ⟨w8.heap.size, 2, none⟩ = some (.slice AG2 (gvL30 W H L p t).length kG2) ∧ Hid (Below w9.heap.size w9 u'))) := Lib.hid fun u hu => by
    have hw := hu.2.2.2.2.2.2.2.2.2.out
    have hz := hw.size
    have R := HR.out _ (TOT.out _ (B9.out.trans (hw.mono B9.out.size)))
    exact (sameInts (cap := kJ1) (cap' := kJ2) (LJ1.out.below hw (Nat.le_refl _)) (LJ2.out.below hw (Nat.le_refl _)) hz hz).mono fun e u' ⟨he, hb⟩ => ⟨by rw [he]; simp, KS.out _ _ hu hb⟩
  have K5 : Hid (∀ u : World, (u.cell? ⟨w.heap.size, 0, none⟩ = some (.int .i64 W) ∧ u.cell? ⟨w.heap.size, 1, none⟩ = some (.int .i64 H) ∧ u.cell? ⟨w.heap.size, 2, none⟩ = some (.slice A L.length cap) ∧ u.cell? ⟨w6.heap.size, 0, none⟩ = some (.int .i64 (gvW30 W H L p t)) ∧ u.cell? ⟨w6.heap.size, 1, none⟩ = some (.int .i64 (gvH30 W H L p t)) ∧ u.cell? ⟨w6.heap.size, 2, none⟩ = some (.slice AG1 (gvL30 W H L p t).length kG1) ∧ u.cell? ⟨w8.heap.size, 0, none⟩ = some (.int .i64 (gvW30 W H L p t)) ∧ u.cell? ⟨w8.heap.size, 1, none⟩ = some (.int .i64 (gvH30 W H L p t)) ∧ u.cell? ⟨w8.heap.size, 2, none⟩ = some (.slice AG2 (gvL30 W H L p t).length kG2) ∧ Hid (Below w9.heap.size w9 u)) → Calls Try.prog 29 #[.agg #[.int .i64 (gvW30 W H L p t), .int .i64 (gvH30 W H L p t), .slice AG1 (gvL30 W H L p t).length kG1], .agg #[.int .i64 (gvW30 W H L p t), .int .i64 (gvH30 W H L p t), .slice AG2 (gvL30 W H L p t).length kG2]] u fun e u' => e = .returned (.bool true) ∧ (u'.cell? ⟨w.heap.size, 0, none⟩ = some (.int .i64 W) ∧ u'.cell? ⟨w.heap.size, 1, none⟩ = some (.int .i64 H) ∧ u'.cell? ⟨w.heap.size, 2, none⟩ = some (.slice A L.length cap) ∧ u'.cell? ⟨w6.heap.size, 0, none⟩ = some (.int .i64 (gvW30 W H L p t)) ∧ u'.cell? ⟨w6.heap.size, 1, none⟩ = some (.int .i64 (gvH30 W H L p t)) ∧ u'.cell? ⟨w6.heap.size, 2, none⟩ = some (.slice AG1 (gvL30 W H L p t).length kG1) ∧ u'.cell? ⟨w8.heap.size, 0, none⟩ = some (.int .i64 (gvW30 W H L p t)) ∧ u'.cell? ⟨w8.heap.size, 1, none⟩ = some (.int .i64 (gvH30 W H L p t)) ∧ u'.cell? ⟨w8.heap.size, 2, none⟩ = some (.slice AG2 (gvL30 W H L p t).length kG2) ∧ Hid (Below w9.heap.size w9 u'))) := Lib.hid fun u hu => by
    have hw := hu.2.2.2.2.2.2.2.2.2.out
    have hz := hw.size
    have R := HR.out _ (TOT.out _ (B9.out.trans (hw.mono B9.out.size)))
    exact (sameLand (cap := kG1) (cap' := kG2) (LG1.out.below hw (Nat.le_refl _)) (LG2.out.below hw (Nat.le_refl _)) hz hz (gvW30 W H L p t) (gvH30 W H L p t)).mono fun e u' ⟨he, hb⟩ => ⟨by rw [he]; simp, KS.out _ _ hu hb⟩
  have hS0 : (w9.drew.cell? ⟨w.heap.size, 0, none⟩ = some (.int .i64 W) ∧ w9.drew.cell? ⟨w.heap.size, 1, none⟩ = some (.int .i64 H) ∧ w9.drew.cell? ⟨w.heap.size, 2, none⟩ = some (.slice A L.length cap) ∧ w9.drew.cell? ⟨w6.heap.size, 0, none⟩ = some (.int .i64 (gvW30 W H L p t)) ∧ w9.drew.cell? ⟨w6.heap.size, 1, none⟩ = some (.int .i64 (gvH30 W H L p t)) ∧ w9.drew.cell? ⟨w6.heap.size, 2, none⟩ = some (.slice AG1 (gvL30 W H L p t).length kG1) ∧ w9.drew.cell? ⟨w8.heap.size, 0, none⟩ = some (.int .i64 (gvW30 W H L p t)) ∧ w9.drew.cell? ⟨w8.heap.size, 1, none⟩ = some (.int .i64 (gvH30 W H L p t)) ∧ w9.drew.cell? ⟨w8.heap.size, 2, none⟩ = some (.slice AG2 (gvL30 W H L p t).length kG2) ∧ Hid (Below w9.heap.size w9 w9.drew)) := ⟨c0, c1, c2, g0, g1, g2, h0, h1, h2, Lib.hid (below_drewN (Below.refl _ _) 1)⟩
  have T9 := Lib.hid (TOT.out _ B9.out)
  clear R LP1 LP2 LJ1 LJ2 LG1 LG2 CG1 CG2 CG1z CG2z KS KEEP HB0 TOT HR B1 B2 B3 B4 B5 B6 B7 B8 B9 HSZ HAL HWX
  go_region_held3 (fun w' => (w'.cell? ⟨w.heap.size, 0, none⟩ = some (.int .i64 W) ∧ w'.cell? ⟨w.heap.size, 1, none⟩ = some (.int .i64 H) ∧ w'.cell? ⟨w.heap.size, 2, none⟩ = some (.slice A L.length cap) ∧ w'.cell? ⟨w6.heap.size, 0, none⟩ = some (.int .i64 (gvW30 W H L p t)) ∧ w'.cell? ⟨w6.heap.size, 1, none⟩ = some (.int .i64 (gvH30 W H L p t)) ∧ w'.cell? ⟨w6.heap.size, 2, none⟩ = some (.slice AG1 (gvL30 W H L p t).length kG1) ∧ w'.cell? ⟨w8.heap.size, 0, none⟩ = some (.int .i64 (gvW30 W H L p t)) ∧ w'.cell? ⟨w8.heap.size, 1, none⟩ = some (.int .i64 (gvH30 W H L p t)) ∧ w'.cell? ⟨w8.heap.size, 2, none⟩ = some (.slice AG2 (gvL30 W H L p t).length kG2) ∧ Hid (Below w9.heap.size w9 w'))) (first | assumption | go_keep)
    (first | (go_at_call 25; refine (K1.out _ (by assumption)).mono ?_; rintro e y1 ⟨rfl, hS1⟩) | (go_at_call 26; refine (K2.out _ (by assumption)).mono ?_; rintro e y2 ⟨rfl, hS2⟩) | (go_at_call 27; refine (K3.out _ (by assumption)).mono ?_; rintro e y3 ⟨rfl, hS3⟩) | (go_at_call 28; refine (K4.out _ (by assumption)).mono ?_; rintro e y4 ⟨rfl, hS4⟩) | (go_at_call 29; refine (K5.out _ (by assumption)).mono ?_; rintro e y5 ⟨rfl, hS5⟩))
  all_goals
    have T10 := Lib.hid (T9.out.trans (hS5.2.2.2.2.2.2.2.2.2.out.mono T9.out.size))
    clear hS1 hS2 hS3 hS4 hS5 hS0
    go_wp2
    go_ret
    exact ⟨rfl, T10.out⟩
end Go.Proofs.Ytdkcpnmaglkmnaa

import Derived.Deep.DeepCutAuto
import Derived.Deep.CutBlock
import Derived.Test.YtdkcpnmaglkmnaaW30y
import Derived.Test.YtdkcpnmaglkmnaaW30Gr
import Derived.Test.YtdkcpnmaglkmnaaW30c
import Derived.Test.YtdkcpnmaglkmnaaW30Ho
/-! The walk of the statement LandWhole. -/
namespace Go.Proofs.Ytdkcpnmaglkmnaa
open Go.RowKit Go.Deep
set_option linter.unusedVariables false
set_option maxRecDepth 100000

set_option maxHeartbeats 16000000 in
theorem landWhole {w : World} {A : Option Addr} {L : List Int} {cap : Nat} (h : Rd w w.heap.size A L) (W H a : Int) (_h1 : I64 W) (_h2 : I64 H) (_h3 : I64 a) :
    Calls Try.prog 5 #[.agg #[.int .i64 W, .int .i64 H, .slice A L.length cap], .int .i64 a] w fun e w' => e = .returned (.bool true) ∧ Below w.heap.size w w' := by
  have hal : Below w.heap.size w (w.alloc (.cells #[.int .i64 W, .int .i64 H, .slice A L.length cap] 24)) := (Below.refl _ _).alloc (Nat.le_refl _) _
  have hsz : (w.alloc (.cells #[.int .i64 W, .int .i64 H, .slice A L.length cap] 24)).heap.size = w.heap.size + 1 := by simp
  have b0 : (w.alloc (.cells #[.int .i64 W, .int .i64 H, .slice A L.length cap] 24)).cell? ⟨w.heap.size, 0, none⟩ = some (.int .i64 W) := by simp
  have b1 : (w.alloc (.cells #[.int .i64 W, .int .i64 H, .slice A L.length cap] 24)).cell? ⟨w.heap.size, 1, none⟩ = some (.int .i64 H) := by simp
  have b2 : (w.alloc (.cells #[.int .i64 W, .int .i64 H, .slice A L.length cap] 24)).cell? ⟨w.heap.size, 2, none⟩ = some (.slice A L.length cap) := by simp
  have hlen := h.len
  have HR : Hid (∀ u, Below w.heap.size w u → w.heap.size ≤ u.heap.size ∧ Rd u w.heap.size A L) := Lib.hid fun u hu => ⟨hu.size, h.below hu (Nat.le_refl _)⟩
  have HSZ := Lib.hid hsz
  have HAL := Lib.hid hal
  clear h hal hsz _h1 _h2 _h3
  go_enter Try.func5, Try.ntmps5
  go_wp2_with fail
  generalize w.alloc (.cells #[.int .i64 W, .int .i64 H, .slice A L.length cap] 24) = w0 at *
  have HB0 := Lib.hid (And.intro b0 (And.intro b1 b2))
  have KEEP : Hid (∀ u, Below w0.heap.size w0 u → u.cell? ⟨w.heap.size, 0, none⟩ = some (.int .i64 W) ∧ u.cell? ⟨w.heap.size, 1, none⟩ = some (.int .i64 H) ∧ u.cell? ⟨w.heap.size, 2, none⟩ = some (.slice A L.length cap)) := Lib.hid fun u hu => by
    have hz := HSZ.out
    exact ⟨((bcell hu).1 _ _ (by omega)).trans HB0.out.1, ((bcell hu).1 _ _ (by omega)).trans HB0.out.2.1, ((bcell hu).1 _ _ (by omega)).trans HB0.out.2.2⟩
  have TOT : Hid (∀ u, Below w0.heap.size w0 u → Below w.heap.size w u) := Lib.hid fun u hu => HAL.out.trans (hu.mono HAL.out.size)
  refine (alive30 w0).mono ?_
  rintro e w1 ⟨rfl, hb⟩
  have B1 := Lib.hid hb
  clear hb b0 b1 b2
  obtain ⟨c0, c1, c2⟩ := KEEP.out _ B1.out
  have R := HR.out _ (TOT.out _ B1.out)
  go_wp2_with fail
  refine (great30b W H hlen).mono ?_
  rintro e w2 ⟨g1, rfl, hgr, hb⟩
  have HGR := Lib.hid hgr
  clear hgr
  have B2 := Lib.hid (B1.out.trans (hb.mono B1.out.size))
  clear hb c0 c1 c2 R
  obtain ⟨c0, c1, c2⟩ := KEEP.out _ B2.out
  have R := HR.out _ (TOT.out _ B2.out)
  cases g1
  case true =>
    go_wp2
    go_ret
    exact ⟨rfl, TOT.out _ B2.out⟩
  case false =>
  go_wp2_with fail
  refine (lrCheck R.2 R.1 W H).mono ?_
  rintro e w3 ⟨rfl, hb⟩
  have B3 := Lib.hid (B2.out.trans (hb.mono B2.out.size))
  clear hb c0 c1 c2 R
  obtain ⟨c0, c1, c2⟩ := KEEP.out _ B3.out
  have R := HR.out _ (TOT.out _ B3.out)
  by_cases hl : lck W H L = 0
  case neg =>
    have hne : (lck W H L != 0) = true := by simpa using hl
    generalize lck W H L = c at *
    go_wp2
    go_ret
    exact ⟨rfl, TOT.out _ B3.out⟩
  case pos =>
  obtain ⟨W, H, rfl, rfl, hv⟩ := lck_zero hl
  have HL := Lib.hid hl
  have HV := Lib.hid hv
  rw [hl]
  clear hl hv
  by_cases q1 : a < 0
  case pos =>
    go_wp2
    go_ret
    exact ⟨rfl, TOT.out _ B3.out⟩
  case neg =>
  by_cases q2 : 6 ≤ a
  case pos =>
    go_wp2
    go_ret
    exact ⟨rfl, TOT.out _ B3.out⟩
  case neg =>
  have hlk : lkd W H L a = 0 := lkd_ok (lck_of HV.out) (by omega)
  have hpl : (prtF W H L a).length = (partsK W L a).length := by rw [prtF, if_pos hlk, Int.toNat_natCast]
  have WL := Lib.hid (whole_law HV.out (by omega) hlk)
  have HLK := Lib.hid hlk
  have HPL := Lib.hid hpl
  have ha0 : 0 ≤ a := by omega
  have ha5 : a < 6 := by omega
  clear q1 q2 hlk hpl
  go_wp2_with fail
  refine (lPartsE R.2 R.1 W H a).mono ?_
  rintro e w4 ⟨A4, k4, rfl, hr, hb⟩
  rw [HPL.out, HLK.out]
  have B4 := Lib.hid (B3.out.trans (hb.mono B3.out.size))
  clear hr hb c0 c1 c2 R
  obtain ⟨c0, c1, c2⟩ := KEEP.out _ B4.out
  have R := HR.out _ (TOT.out _ B4.out)
  go_wp2_with fail
  refine (lBoundary R.2 R.1 W H a).mono ?_
  rintro e w5 ⟨rfl, hb⟩
  rw [HLK.out]
  have B5 := Lib.hid (B4.out.trans (hb.mono B4.out.size))
  clear hb c0 c1 c2 R
  obtain ⟨c0, c1, c2⟩ := KEEP.out _ B5.out
  have R := HR.out _ (TOT.out _ B5.out)
  go_wp2_with fail
  refine (lWalk R.2 R.1 W H a).mono ?_
  rintro e w6 ⟨A6, k6, rfl, hr, hb⟩
  have B6 := Lib.hid (B5.out.trans (hb.mono B5.out.size))
  clear hr hb c0 c1 c2 R
  obtain ⟨c0, c1, c2⟩ := KEEP.out _ B6.out
  have R := HR.out _ (TOT.out _ B6.out)
  have HH := Lib.hid (lrHoles (cap := cap) R.2 R.1 HV.out a)
  clear R
  generalize holB W H L a = hb at *
  generalize (wkP W H L a).length = m at *
  generalize (partsK W L a).length = n at *
  generalize bdyN W H L a = bd at *
  generalize wkE W H L a = we at *
  have wl := WL.out
  clear WL
  rcases wl with ⟨rfl, rfl, rfl⟩ | ⟨h1, rfl, h2, h3⟩
  · go_wp2
    go_ret
    exact ⟨rfl, TOT.out _ B6.out⟩
  · have d0 : ((n : Int) == 0) = false := by rw [beq_eq_false_iff_ne]; omega
    have d1 : decide ((m : Int) ≤ bd) = true := decide_eq_true h2
    by_cases hn : n = 1
    · subst hn
      have d2 : ((m : Int) == bd) = !hb := by
        cases hb
        · rw [beq_iff_eq.2 (h3.2 ⟨rfl, rfl⟩)]; rfl
        · rw [beq_eq_false_iff_ne.2 (fun e => by have := (h3.1 e).2; cases this)]; rfl
      clear h1 h2 h3
      go_wp2_with fail
      refine HH.out.mono ?_
      rintro e w7 ⟨rfl, hb7⟩
      have B7 := Lib.hid (B6.out.trans (hb7.mono B6.out.size))
      clear hb7 HH
      cases hb
      · go_wp2
        go_ret
        exact ⟨rfl, TOT.out _ B7.out⟩
      · go_wp2
        go_ret
        exact ⟨rfl, TOT.out _ B7.out⟩
    · have d2 : ((m : Int) == bd) = false := beq_eq_false_iff_ne.2 (fun e => hn (h3.1 e).1)
      have d3 : ((n : Int) == 1) = false := by rw [beq_eq_false_iff_ne]; omega
      clear h1 h2 h3 hn HH
      go_wp2
      go_ret
      exact ⟨rfl, TOT.out _ B6.out⟩
end Go.Proofs.Ytdkcpnmaglkmnaa

import Derived.Deep.DeepCutAuto
import Derived.Deep.CutBlock
import Derived.Test.YtkoipecnmijfoaaW31b
import Derived.Test.YtkoipecnmijfoaaW31v
import Derived.Test.YtkoipecnmijfoaaW31s
import Derived.Test.YtkoipecnmijfoaaW31t
import Derived.Test.YtkoipecnmijfoaaW31u
/-! The walk of the statement on strips, land, rotas and holidays. -/
namespace Go.Proofs.Ytkoipecnmijfoaa
open Go.RowKit Go.Deep
set_option linter.unusedVariables false
set_option maxRecDepth 100000

set_option maxHeartbeats 4000000 in
theorem topLand {w : World} {A A' : Option Addr} {V : List (List Int)} {a : List Int} {cap cap' : Nat} (h : Rd2 w w.heap.size A V) (h' : Rd w w.heap.size A' a) :
    Calls Try.prog 3 #[.slice A V.length cap, .slice A' a.length cap'] w fun e w' => e = .returned (.bool true) ∧ Below w.heap.size w w' := by
  have H := Lib.hid fun (u : World) (hu : Below w.heap.size w u) => h.below hu (Nat.le_refl _)
  have H' := Lib.hid fun (u : World) (hu : Below w.heap.size w u) => h'.below hu (Nat.le_refl _)
  have l1 := h.len
  have l2 := h'.len
  clear h h'
  go_enter Try.func3, Try.ntmps3
  go_wp2_with fail
  refine alive33.mono ?_
  rintro e w1 ⟨rfl, hb1⟩
  have HB1 := Lib.hid hb1
  clear hb1
  have CC := Lib.hid (rChk31 (cap := cap) (H.out _ HB1.out) HB1.out.size)
  by_cases hck : chk31 V = 0
  case neg =>
    have q : (chk31 V != 0) = true := by rw [bne_iff_ne]; exact hck
    generalize chk31 V = cv at *
    clear hck
    go_wp2_with fail
    refine CC.out.mono ?_
    rintro e w2 ⟨rfl, hb2⟩
    have HB2 := Lib.hid (HB1.out.trans (hb2.mono HB1.out.size))
    clear hb2 CC
    go_wp2
    go_ret
    exact ⟨rfl, HB2.out⟩
  rw [hck] at CC
  have hv := chk31_zero hck
  obtain ⟨m, hm⟩ : ∃ m, m = (V.getD 0 []).length := ⟨_, rfl⟩
  rw [← hm] at hv
  have HV := Lib.hid hv
  have HCK := Lib.hid hck
  have n0 := hv.n0
  have ROW : Hid (∀ u, Below w.heap.size w u → ∃ b0 o0 A0 c0, A = some ⟨b0, o0, none⟩ ∧ u.cell? ⟨b0, o0, none⟩ = some (.slice A0 m c0)) := Lib.hid fun u hu => by
    obtain ⟨b0, o0, x0, A0, c0, eA, _, hx0, hc0, _⟩ := (H.out _ hu).at_ (show 0 < V.length by omega)
    rw [Nat.add_zero, HV.out.row _ (List.mem_of_getElem? hx0)] at hc0
    exact ⟨b0, o0, A0, c0, eA, hc0⟩
  clear hm hv hck
  go_wp2_with fail
  refine CC.out.mono ?_
  rintro e w2 ⟨rfl, hb2⟩
  have HB2 := Lib.hid (HB1.out.trans (hb2.mono HB1.out.size))
  clear hb2 CC HB1
  obtain ⟨b0, o0, A0, c0, rfl, hc0⟩ := ROW.out _ HB2.out
  by_cases h12 : 12 < m
  · have d1 : decide (12 < (m : Int)) = true := decide_eq_true (by omega)
    go_wp2
    go_ret
    exact ⟨rfl, HB2.out⟩
  have d1 : decide (12 < (m : Int)) = false := decide_eq_false (by omega)
  by_cases h0 : m = 0
  · have q : ((m : Int) == 0) = true := by rw [beq_iff_eq]; omega
    clear h0
    go_wp2
    go_ret
    exact ⟨rfl, HB2.out⟩
  have q0 : ((m : Int) == 0) = false := by rw [beq_eq_false_iff_ne]; omega
  have hm1 : 1 ≤ m := by omega
  have hm12 : m ≤ 12 := by omega
  clear h12 h0
  go_upto_region 4 with fail
  go_cut [44] (fun t wx => t = .bool false ∧ Hid (Below w.heap.size w wx))
  case first =>
    by_cases hl : a.length = m
    · have q1 : ((a.length : Int) == (m : Int)) = true := by rw [beq_iff_eq]; omega
      have CJ := Lib.hid (joined (cap := cap) (cap' := cap') HV.out HCK.out (H.out _ HB2.out) HB2.out.size (H'.out _ HB2.out) HB2.out.size hl hm1 hm12)
      clear hl
      go_wp2_with fail
      refine CJ.out.mono ?_
      rintro e w3 ⟨rfl, hb3⟩
      have HB3 := Lib.hid (HB2.out.trans (hb3.mono HB2.out.size))
      clear hb3 CJ
      go_wp2
      go_meet
      exact ⟨rfl, HB3⟩
    · have q1 : ((a.length : Int) == (m : Int)) = false := by rw [beq_eq_false_iff_ne]; omega
      clear hl
      go_wp2
      go_meet
      exact ⟨rfl, HB2⟩
  case rest =>
  obtain ⟨rfl, HB4⟩ := hcut
  clear hc0 HB2
  have CB := Lib.hid (sBest HV.out HCK.out hm1 hm12 (cap := cap) (H.out _ HB4.out) HB4.out.size)
  go_wp2_with fail
  refine CB.out.mono ?_
  rintro e w5 ⟨A5, c5, g, k, t, rfl, hr5, hg, hbg, hk, _, hb5⟩
  obtain ⟨g1, g2, g3⟩ := begin_ok HV.out hm1 hg hbg
  have HB5 := Lib.hid (HB4.out.trans (hb5.mono HB4.out.size))
  have HR5 := Lib.hid hr5
  have HLV : Hid (∀ i, i < V.length → (k : Int) ≤ restV V m i 0) := Lib.hid fun i hi => by
    by_cases h0 : k = 0
    · subst h0; exact restV_nonneg HV.out i m 0 (by omega)
    · exact g3 (by omega) i hi
  have HG1 := Lib.hid g1
  have HG2 := Lib.hid g2
  clear hr5 hg hbg hb5 CB g1 g2 g3 HB4
  generalize (g : Int) :: t = b at *
  rw [HG1.out]
  obtain ⟨b1, o1, A1, c1, e1, hc1⟩ := ROW.out _ HB5.out
  cases e1
  have CJ := Lib.hid (joined (cap := cap) (cap' := c5) HV.out HCK.out (H.out _ HB5.out) HB5.out.size HR5.out (Nat.le_refl _) HG1.out hm1 hm12)
  rw [HG1.out] at CJ
  have q2 : ((m : Int) != (m : Int)) = false := by simp
  go_wp2_with fail
  refine CJ.out.mono ?_
  rintro e w6 ⟨rfl, hb6⟩
  have HB6 := Lib.hid (HB5.out.trans (hb6.mono HB5.out.size))
  have HR6 := Lib.hid ((HR5.out.below hb6 (Nat.le_refl _)).more hb6.size)
  clear hb6 CJ hc1 HR5 HB5
  have CP := Lib.hid (passed (cap := cap) (cap' := c5) HV.out (H.out _ HB6.out) HB6.out.size HR6.out (Nat.le_refl _) HG1.out hm12 HG2.out (k : Int) (by omega) (by omega) HLV.out)
  rw [HG1.out] at CP
  go_wp2_with fail
  refine CP.out.mono ?_
  rintro e w7 ⟨rfl, hb7⟩
  have HB7 := Lib.hid (HB6.out.trans (hb7.mono HB6.out.size))
  clear hb7 CP
  have CF := Lib.hid (freed (cap := cap) HV.out (H.out _ HB7.out) HB7.out.size hm12)
  go_wp2_with fail
  refine CF.out.mono ?_
  rintro e w8 ⟨rfl, hb8⟩
  have HB8 := Lib.hid (HB7.out.trans (hb8.mono HB7.out.size))
  clear hb8 CF
  go_wp2
  go_ret
  exact ⟨rfl, HB8.out⟩
end Go.Proofs.Ytkoipecnmijfoaa

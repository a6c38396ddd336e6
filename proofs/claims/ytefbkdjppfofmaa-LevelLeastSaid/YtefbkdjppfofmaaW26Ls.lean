import Derived.Test.YtefbkdjppfofmaaS26p
import Derived.Test.YtefbkdjppfofmaaW26A
import Derived.Test.YtefbkdjppfofmaaW26B
import Derived.Test.YtefbkdjppfofmaaW26e
import Derived.Test.YtefbkdjppfofmaaW26f
/-! The walk of LevelLeast. -/
namespace Go.Proofs.Ytefbkdjppfofmaa
open Go.RowKit Go.Deep
set_option linter.unusedVariables false
set_option maxRecDepth 100000

set_option maxHeartbeats 4000000 in
theorem levelLeast {w : World} {A A' : Option Addr} {W : List (List Bool)} {a : List Int} {cap cap' : Nat} (h : RdB2 w w.heap.size A W) (h' : Rd w w.heap.size A' a) :
    Calls Try.prog 4 #[.slice A W.length cap, .slice A' a.length cap'] w fun e w' => e = .returned (.bool true) ∧ Below w.heap.size w w' := by
  have l1 := h.len
  have l2 := h'.len
  have H := Lib.hid h
  have H' := Lib.hid h'
  have HCK : Hid (∀ u : World, Below w.heap.size w u → Calls Try.prog 18 #[.slice A W.length cap] u fun e w' => e = .returned (.int .i64 (chk26 W)) ∧ Below u.heap.size u w') := Lib.hid fun u hu => lrCheck26 (cap := cap) (h.below hu (Nat.le_refl _)) hu.size
  clear h h'
  by_cases hk : chk26 W = 0
  · obtain ⟨m, n, v⟩ := chk26_zero hk
    rw [hk] at HCK
    have HCM : Hid (∀ u : World, Below w.heap.size w u → Calls Try.prog 19 #[.slice A W.length cap, .slice A' a.length cap'] u fun e w' => e = .returned (.bool (fullB W a)) ∧ u = w') := Lib.hid fun u hu => lrComplete (cap := cap) (cap' := cap') (H.out.below hu (Nat.le_refl _)) (H'.out.below hu (Nat.le_refl _)) v
    have HV := Lib.hid v
    have HK := Lib.hid hk
    clear hk v
    cases hf : fullB W a
    · rw [hf] at HCM
      clear hf
      go_enter Try.func4, Try.ntmps4
      go_wp2_with fail
      refine (alive26 w).mono ?_
      rintro e w1 ⟨rfl, b1⟩
      have B1 := Lib.hid b1
      clear b1
      go_wp2_with fail
      refine (HCK.out w1 B1.out).mono ?_
      rintro e w2 ⟨rfl, b2⟩
      have B2 := Lib.hid (B1.out.trans (b2.mono B1.out.size))
      clear b2
      go_wp2_with fail
      refine (HCM.out w2 B2.out).mono ?_
      rintro e w' ⟨rfl, rfl⟩
      go_wp2
      go_ret
      exact ⟨rfl, B2.out⟩
    · have HF := Lib.hid hf
      rw [hf] at HCM
      clear hf
      go_enter Try.func4, Try.ntmps4
      go_wp2_with fail
      refine (alive26 w).mono ?_
      rintro e w1 ⟨rfl, b1⟩
      have B1 := Lib.hid b1
      clear b1
      go_wp2_with fail
      refine (HCK.out w1 B1.out).mono ?_
      rintro e w2 ⟨rfl, b2⟩
      have B2 := Lib.hid (B1.out.trans (b2.mono B1.out.size))
      clear b2
      go_wp2_with fail
      refine (HCM.out w2 B2.out).mono ?_
      rintro e w' ⟨rfl, rfl⟩
      clear HCM HCK
      go_wp2_with fail
      refine (lEven (cap := cap) (H.out.below B2.out (Nat.le_refl _)) B2.out.size).mono ?_
      rintro e w3 (⟨h1, _⟩ | ⟨m', n', b, Ab, cb, _, v', hev, rfl, rb, b3⟩)
      · exact absurd HK.out h1
      have hfb := even_fullB v' hev
      have HFB := Lib.hid hfb
      have HLB := Lib.hid (lkd_ok v' hfb)
      have HLA := Lib.hid (lkd_ok v' HF.out)
      have HCA := Lib.hid (cnt_ok v' HF.out)
      have HCB := Lib.hid (cnt_ok v' hfb)
      have HEV := Lib.hid hev
      have HFA := Lib.hid (full_of v' HF.out)
      have B3 := Lib.hid (B2.out.trans (b3.mono B2.out.size))
      have RB := Lib.hid rb
      have cm := lrComplete (cap := cap) (cap' := cb) (H.out.below B3.out (Nat.le_refl _)) rb v'
      rw [hfb] at cm
      have CM := Lib.hid cm
      have HV2 := Lib.hid v'
      clear hev v' rb b3 HV hfb cm
      go_wp2_with fail
      refine CM.out.mono ?_
      rintro e w' ⟨rfl, rfl⟩
      clear CM
      have c4 := lCountsE (cap := cap) (cap' := cap') (H.out.below B3.out (Nat.le_refl _)) (H'.out.below B3.out (Nat.le_refl _)) B3.out.size B3.out.size
      rw [HLA.out] at c4
      have C4 := Lib.hid c4
      clear c4
      go_wp2_with fail
      refine C4.out.mono ?_
      rintro e w4 ⟨A4, k4, rfl, r4, b4⟩
      have R4 := Lib.hid r4
      have B4 := Lib.hid (B3.out.trans (b4.mono B3.out.size))
      replace RB := Lib.hid ((RB.out.below b4 (Nat.le_refl _)).more b4.size)
      clear r4 b4 C4
      have c5 := lCountsE (cap := cap) (cap' := cb) (H.out.below B4.out (Nat.le_refl _)) RB.out B4.out.size (Nat.le_refl _)
      rw [HLB.out] at c5
      have C5 := Lib.hid c5
      clear c5
      go_wp2_with fail
      refine C5.out.mono ?_
      rintro e w5 ⟨A5, k5, rfl, r5, b5⟩
      have R5 := Lib.hid r5
      have B5 := Lib.hid (B4.out.trans (b5.mono B4.out.size))
      replace RB := Lib.hid ((RB.out.below b5 (Nat.le_refl _)).more b5.size)
      replace R4 := Lib.hid ((R4.out.below b5 (Nat.le_refl _)).more b5.size)
      clear r5 b5 C5
      rw [HCA.out] at R4
      rw [HCB.out] at R5
      rw [HCA.out, HCB.out, cnts_length, cnts_length]
      obtain rfl := HV2.out.len
      have m0 := HV2.out.m0
      have m6 := HV2.out.m6
      have n10 := HV2.out.n10
      have q1 : ((W.length : Int) != (W.length : Int)) = false := by simp
      obtain ⟨bx, ox, rfl, hbx, hcx⟩ := R4.out.2.2 (by rw [cnts_length]; exact m0)
      obtain ⟨by_, oy, rfl, hby, hcy⟩ := R5.out.2.2 (by rw [cnts_length]; exact m0)
      have HCX : Hid (∀ u : World, Below w5.heap.size w5 u → ∀ i, i < W.length → u.cell? ⟨bx, ox + i, none⟩ = some (.int .i64 (cn a i))) := Lib.hid fun u hu i hi => (cell_below hu hbx).trans (hcx i _ (by rw [cnts, List.getElem?_map, List.getElem?_range hi]; rfl))
      have HCY : Hid (∀ u : World, Below w5.heap.size w5 u → ∀ i, i < W.length → u.cell? ⟨by_, oy + i, none⟩ = some (.int .i64 (cn b i))) := Lib.hid fun u hu i hi => (cell_below hu hby).trans (hcy i _ (by rw [cnts, List.getElem?_map, List.getElem?_range hi]; rfl))
      have HBX : Hid (∀ i, 0 ≤ cn a i ∧ cn a i ≤ 10) := Lib.hid fun i => by
        have h1 := cn_nonneg a i
        have h2 := cntTo_le a i a.length
        have h3 := HFA.out.len
        unfold cn at h1 ⊢; omega
      have HBY : Hid (∀ i, 0 ≤ cn b i ∧ cn b i ≤ 10) := Lib.hid fun i => by
        have h1 := cn_nonneg b i
        have h2 := cntTo_le b i b.length
        have h3 := HEV.out.opt.full.len
        unfold cn at h1 ⊢; omega
      clear hcx hcy hbx hby
      go_wp2_with fail
      go_loopw [12, 13, 14, 15, 16] (fun lv mv sv tv iv wr => ∃ (i : Nat), i ≤ W.length ∧ iv = .int .i64 i ∧ lv = .int .i64 (lowK (cn a) i) ∧ mv = .int .i64 (lowK (cn b) i) ∧ sv = .int .i64 (sqK (cn a) i) ∧ tv = .int .i64 (sqK (cn b) i) ∧ Hid (Below w5.heap.size w5 wr)) (fun _ _ _ _ iv _ => W.length - (intOf iv).toNat)
      case atStart => exact ⟨0, by omega, rfl, rfl, rfl, rfl, rfl, Lib.hid (Below.refl _ _)⟩
      case round =>
        obtain ⟨i, hi, rfl, rfl, rfl, rfl, rfl, hb⟩ := hrel
        by_cases hlt : i < W.length
        · have cx := HCX.out wr hb.out i hlt
          have cy := HCY.out wr hb.out i hlt
          have hbx := HBX.out i
          have hby := HBY.out i
          have HL1 : Hid (lowK (cn a) (i + 1) = min (lowK (cn a) i) (cn a i)) := Lib.hid rfl
          have HL2 : Hid (lowK (cn b) (i + 1) = min (lowK (cn b) i) (cn b i)) := Lib.hid rfl
          have HS1 : Hid (sqK (cn a) (i + 1) = sqK (cn a) i + cn a i * cn a i) := Lib.hid rfl
          have HS2 : Hid (sqK (cn b) (i + 1) = sqK (cn b) i + cn b i * cn b i) := Lib.hid rfl
          have hs1 := sqK_bd HBX.out i
          have hs2 := sqK_bd HBY.out i
          have hp1 := sq_bd hbx.1 hbx.2
          have hp2 := sq_bd hby.1 hby.2
          generalize lowK (cn a) i = l1v at *
          generalize lowK (cn b) i = l2v at *
          generalize sqK (cn a) i = s1v at *
          generalize sqK (cn b) i = s2v at *
          generalize cn a i = xv at *
          generalize cn b i = yv at *
          go_wp2_with fail
          go_quiet (fail)
          have HW1 := Lib.hid (below_drewN hb.out nq)
          have cx1 : (wr.drewN nq).cell? ⟨bx, ox + i, none⟩ = some (.int .i64 xv) := cx
          have cy1 : (wr.drewN nq).cell? ⟨by_, oy + i, none⟩ = some (.int .i64 yv) := cy
          clear cx cy hb
          generalize wr.drewN nq = wa at *
          have hm1 : IntKind.i64.wrap (xv * xv) = xv * xv := IntWalk.i64_in _ (by omega)
          have ha1 : IntKind.i64.wrap (s1v + xv * xv) = s1v + xv * xv := IntWalk.i64_in _ (by omega)
          have hm2 : IntKind.i64.wrap (yv * yv) = yv * yv := IntWalk.i64_in _ (by omega)
          have ha2 : IntKind.i64.wrap (s2v + yv * yv) = s2v + yv * yv := IntWalk.i64_in _ (by omega)
          go_wp2_with fail
          go_quiet (fail)
          have HW2 := Lib.hid (below_drewN HW1.out nq)
          have cy2 : (wa.drewN nq).cell? ⟨by_, oy + i, none⟩ = some (.int .i64 yv) := cy1
          clear cx1 cy1 hm1 ha1
          generalize wa.drewN nq = wb at *
          go_wp2_with fail
          go_quiet (fail)
          have HW3 := Lib.hid (below_drewN HW2.out nq)
          clear cy2 hm2 ha2
          generalize wb.drewN nq = wc at *
          go_wp2
          go_roundw
          case rel => exact ⟨i + 1, by omega, by go_num, by rw [HL1.out], by rw [HL2.out], by rw [HS1.out], by rw [HS2.out], HW3⟩
          case measure => simp [intOf]; omega
        · obtain rfl : i = W.length := by omega
          have hlow := least_low rfl HEV.out.opt HFA.out
          have hsq := least_sq rfl n10 HEV.out.opt HFA.out
          have q2 : decide (lowK (cn b) W.length < lowK (cn a) W.length) = false := decide_eq_false (by omega)
          have q3 : decide (sqK (cn a) W.length < sqK (cn b) W.length) = false := decide_eq_false (by omega)
          clear hlow hsq
          generalize lowK (cn a) W.length = l1v at *
          generalize lowK (cn b) W.length = l2v at *
          generalize sqK (cn a) W.length = s1v at *
          generalize sqK (cn b) W.length = s2v at *
          have HBW := Lib.hid (B5.out.trans (hb.out.mono B5.out.size))
          have RBW := Lib.hid ((RB.out.below hb.out (Nat.le_refl _)).more hb.out.size)
          have c6 := lrCompared (cap := k4) (cap' := k5) (n := W.length) ((R4.out.below hb.out (Nat.le_refl _)).more hb.out.size) ((R5.out.below hb.out (Nat.le_refl _)).more hb.out.size) (Nat.le_refl _) (Nat.le_refl _) (cnts_length _ _) (cnts_length _ _) (by omega)
          have C6 := Lib.hid c6
          clear c6 hb HCX HCY
          go_wp2_with fail
          refine C6.out.mono ?_
          rintro e w6 ⟨rfl, b6⟩
          have B6 := Lib.hid (HBW.out.trans (b6.mono HBW.out.size))
          have RBX := Lib.hid ((RBW.out.below b6 (Nat.le_refl _)).more b6.size)
          clear b6 C6 RBW q2 q3
          by_cases hz : cmpS (cnts W.length a) (cnts W.length b) = 0
          · have HLX : Hid (∀ k, k < n' → (∀ j, j < k → a.getD j 0 = b.getD j 0) → b.getD k 0 ≤ a.getD k 0) := Lib.hid fun k hk hs => least_lex HEV.out HFA.out hz hk hs
            rw [hz]
            have hla : a.length = n' := HFA.out.len
            have hlb : b.length = n' := HEV.out.opt.full.len
            have HLAN := Lib.hid hla
            have HLBN := Lib.hid hlb
            clear hz hla hlb
            go_wp2_with fail
            go_loopw [17] (fun gv wr => ∃ (g : Nat), g ≤ a.length ∧ gv = .int .i64 g ∧ Hid (∀ j, j < g → a.getD j 0 = b.getD j 0) ∧ Hid (Below w6.heap.size w6 wr)) (fun gv _ => a.length - (intOf gv).toNat)
            case atStart => exact ⟨0, by omega, rfl, Lib.hid (fun j hj => by omega), Lib.hid (Below.refl _ _)⟩
            case round =>
              obtain ⟨g, hg, rfl, hs, hb⟩ := hrel
              by_cases hlt : g < a.length
              · have hb0 := B6.out.trans (hb.out.mono B6.out.size)
                obtain ⟨ba, oa, xa, rfl, hba, hxa, _, hca⟩ := (H'.out.below hb0 (Nat.le_refl _)).at_ hlt
                obtain ⟨bb, ob, xb, rfl, hbb, hxb, _, hcb⟩ := (RBX.out.below hb.out (Nat.le_refl _)).at_ (k := g) (by rw [HLBN.out, ← HLAN.out]; exact hlt)
                have ga : a.getD g 0 = xa := by rw [List.getD_eq_getElem?_getD, hxa]; rfl
                have gb : b.getD g 0 = xb := by rw [List.getD_eq_getElem?_getD, hxb]; rfl
                have hle := HLX.out g (by rw [← HLAN.out]; exact hlt) hs.out
                rw [ga, gb] at hle
                have hglb : g < b.length := by rw [HLBN.out, ← HLAN.out]; exact hlt
                have HGA := Lib.hid ga
                have HGB := Lib.hid gb
                clear ga gb hxa hxb hba hbb hb0
                by_cases hE : xa = xb
                · have HS2 : Hid (∀ j, j < g + 1 → a.getD j 0 = b.getD j 0) := Lib.hid fun j hj => by
                    rcases Nat.lt_or_ge j g with h | h
                    · exact hs.out j h
                    · have : j = g := by omega
                      rw [this, HGA.out, HGB.out, hE]
                  have q5 : (xa != xb) = false := by rw [hE]; simp
                  have HE := Lib.hid hE
                  clear hE hle
                  go_wp2_with fail
                  go_quiet (fail)
                  have HWD := Lib.hid (below_drewN hb.out nq)
                  clear hca hcb hb
                  generalize wr.drewN nq = wd at *
                  go_wp2
                  go_roundw
                  case rel => exact ⟨g + 1, by omega, by go_num, HS2, HWD⟩
                  case measure => simp [intOf]; omega
                · have q5 : (xa != xb) = true := by simpa using hE
                  have q6 : decide (xb < xa) = true := decide_eq_true (by omega)
                  clear hE hle
                  go_wp2_with fail
                  go_quiet (fail)
                  have HWD := Lib.hid (below_drewN hb.out nq)
                  have da : (wr.drewN nq).cell? ⟨ba, oa + g, none⟩ = some (.int .i64 xa) := hca
                  have db : (wr.drewN nq).cell? ⟨bb, ob + g, none⟩ = some (.int .i64 xb) := hcb
                  clear hca hcb hb
                  generalize wr.drewN nq = wd at *
                  go_wp2_with fail
                  go_quiet (fail)
                  have HWE := Lib.hid (below_drewN HWD.out nq)
                  clear da db
                  generalize wd.drewN nq = we at *
                  go_wp2
                  go_ret
                  exact ⟨rfl, B6.out.trans (HWE.out.mono B6.out.size)⟩
              · go_wp2
                go_ret
                exact ⟨rfl, B6.out.trans (hb.out.mono B6.out.size)⟩
          · have q4 : (cmpS (cnts W.length a) (cnts W.length b) != 0) = true := by simpa using hz
            clear hz
            generalize cmpS (cnts W.length a) (cnts W.length b) = r at *
            go_wp2
            go_ret
            exact ⟨rfl, B6.out⟩
  · have hne : (chk26 W != 0) = true := by simpa using hk
    clear hk
    generalize chk26 W = c at *
    go_enter Try.func4, Try.ntmps4
    go_wp2_with fail
    refine (alive26 w).mono ?_
    rintro e w1 ⟨rfl, b1⟩
    have B1 := Lib.hid b1
    clear b1
    go_wp2_with fail
    refine (HCK.out w1 B1.out).mono ?_
    rintro e w2 ⟨rfl, b2⟩
    have B2 := Lib.hid (B1.out.trans (b2.mono B1.out.size))
    clear b2
    go_wp2
    go_ret
    exact ⟨rfl, B2.out⟩
end Go.Proofs.Ytefbkdjppfofmaa

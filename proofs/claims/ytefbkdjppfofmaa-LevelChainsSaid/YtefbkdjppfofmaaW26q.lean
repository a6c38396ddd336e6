import Derived.Test.YtefbkdjppfofmaaS26f
import Derived.Test.YtefbkdjppfofmaaW26o
import Derived.Test.YtefbkdjppfofmaaW26p
/-! Walks of chapter 26: the reference's Chain. -/
namespace Go.Proofs.Ytefbkdjppfofmaa
open Go.RowKit Go.Deep
set_option linter.unusedVariables false
set_option maxRecDepth 100000

theorem lrChains {w : World} {B C : Nat} {A A' : Option Addr} {W : List (List Bool)} {a : List Int} {cap cap' m n : Nat} (hW : RdB2 w B A W) (ha : Rd w C A' a) (hB : B ≤ w.heap.size) (hC : C ≤ w.heap.size) (v : VW m n W) (hn : a.length = n) :
    ∀ (p : Nat), p ≤ 6 → Calls Try.prog 33 #[.slice A W.length cap, .slice A' a.length cap', .int .i64 ((p : Int) + 1)] w (RowsRes26 w ((lvl m (extL m (linkA W a)) p).map NL))
  | 0, _ => lrChains1 (m := m) v.len v.m6
  | p + 1, hp => by
    have ih := lrChains (cap := cap) (cap' := cap') hW ha hB hC v hn p (by omega)
    have := lrChains2 (cap := cap) (cap' := cap') hW ha hB hC v hn (by omega) ih
    rw [show ((p + 1 : Nat) : Int) + 1 = (p : Int) + 2 by omega]
    exact this

set_option maxHeartbeats 4000000 in
theorem lrChainE {w : World} {B C : Nat} {A A' : Option Addr} {W : List (List Bool)} {a : List Int} {cap cap' : Nat} (h : RdB2 w B A W) (h' : Rd w C A' a) (hB : B ≤ w.heap.size) (hC : C ≤ w.heap.size) :
    Calls Try.prog 13 #[.slice A W.length cap, .slice A' a.length cap'] w (RowRes26 w (chF W a) (chC W a)) := by
  have C1 := lrLooked26 (cap := cap) (cap' := cap') h h' hB hC
  have H := Lib.hid h
  have H' := Lib.hid h'
  have hwl := h.len
  clear h h'
  by_cases hk : lkd26 W a = 0
  · obtain ⟨m, n, v, ha, _, hx⟩ := lkd26_zero hk
    have hm := v.len
    subst hm
    have HK := Lib.hid hk
    have HF : Hid (chF W a = NL (chN W a)) := Lib.hid (by rw [chF, if_pos hk])
    have HCC : Hid (chC W a = if chN W a = [] then 6 else 0) := Lib.hid (by rw [chC, if_pos hk])
    rw [hk] at C1
    have hm6 := v.m6
    have hm0 := v.m0
    have n10 := v.n10
    have HV := Lib.hid v
    have HA := Lib.hid ha
    have HX := Lib.hid hx
    have H1 : Hid (chN W a = (shortFrom W.length (extL W.length (linkA W a)) (shortB a) 1).getD []) := Lib.hid (by rw [shortFrom_one a hm0]; rfl)
    clear hk v ha hx
    go_enter Try.func13, Try.ntmps13
    go_wp2_with fail
    refine C1.mono ?_
    rintro e w1 ⟨rfl, hb⟩
    have HB := Lib.hid hb
    have hc := lrCounted (cap := cap') (n := W.length) (H'.out.below hb hC) (Nat.le_trans hC hb.size) hm6 (by have := HA.out; omega) HX.out
    have HC1 := Lib.hid hc
    clear hb C1 hc
    go_wp2_with fail
    refine HC1.out.mono ?_
    rintro e w2 ⟨rfl, hO, hb⟩
    have HO := Lib.hid hO
    have HOL := Lib.hid hO.lt
    have HB2 := Lib.hid (HB.out.trans (hb.mono HB.out.size))
    generalize w1.heap.size = cb at *
    clear hO hb HC1
    go_wp2_with fail
    generalize hEX : extL W.length (linkA W a) = ext at *
    have HEX := Lib.hid hEX
    clear hEX
    go_loopw [7] (fun iv wr => ∃ (p : Nat), 1 ≤ p ∧ p ≤ W.length ∧ iv = .int .i64 ((p : Int) + 1) ∧ Hid (shortFrom W.length ext (shortB a) p = shortFrom W.length ext (shortB a) 1) ∧ Hid (Below w2.heap.size w2 wr)) (fun iv _ => W.length + 2 - (intOf iv).toNat)
    case atStart => exact ⟨1, by omega, by omega, rfl, Lib.hid rfl, Lib.hid (Below.refl _ _)⟩
    case round =>
      obtain ⟨p, hp1, hpm, rfl, hr, hw⟩ := hrel
      by_cases hlt : p < W.length
      · have hb0 : Below w.heap.size w wr := HB2.out.trans (hw.out.mono HB2.out.size)
        have hc := lrChains (cap := cap) (cap' := cap') (H.out.below hb0 hB) (H'.out.below hb0 hC) (Nat.le_trans hB hb0.size) (Nat.le_trans hC hb0.size) HV.out HA.out p (by omega)
        rw [HEX.out] at hc
        have HC2 := Lib.hid hc
        have HB0 := Lib.hid hb0
        have hst := hr.out
        rw [shortFrom_at hlt] at hst
        have HST := Lib.hid hst
        have HCK : Hid (∀ l ∈ lvl W.length ext p, ChainOk W.length p l) := Lib.hid fun l hl => by rw [← HEX.out] at hl; exact chain_ok hl
        have HLN : Hid ((lvl W.length ext p).length ≤ 279936) := Lib.hid (by rw [← HEX.out]; exact lvl_len6 hm6 p)
        clear hc hb0 hst hr
        generalize lvl W.length ext p = LP at *
        go_wp2_with fail
        refine HC2.out.mono ?_
        rintro e w3 ⟨A9, c9, rfl, hr9, hb3⟩
        have HR9 := Lib.hid hr9
        have hmp : (LP.map NL).length = LP.length := by simp
        rw [hmp]
        have HW3 := Lib.hid (hw.out.trans (hb3.mono hw.out.size))
        have HB3 := Lib.hid (HB0.out.trans (hb3.mono HB0.out.size))
        clear HC2 hr9 hb3 hmp HB0 hw
        go_wp2_with fail
        obtain ⟨wo, hwo⟩ : ∃ wo : World, wo = wr := ⟨_, rfl⟩
        go_loopw [9] (fun iv wr => ∃ (i : Nat), i ≤ LP.length ∧ iv = .int .i64 i ∧ Hid ((LP.drop i).find? (shortB a) = LP.find? (shortB a)) ∧ Hid (Below w3.heap.size w3 wr)) (fun iv _ => LP.length - (intOf iv).toNat)
        case atStart => exact ⟨0, by omega, rfl, Lib.hid rfl, Lib.hid (Below.refl _ _)⟩
        case round =>
          clear hwo
          obtain ⟨i, hi, rfl, hf, hw⟩ := hrel
          have hLP := HLN.out
          by_cases hit : i < LP.length
          · obtain ⟨b9, o9, x, A1, c1, rfl, hb9, hx, hc9, hrd9⟩ := (HR9.out.below hw.out (Nat.le_refl _)).at_ (k := i) (by simpa using hit)
            obtain ⟨l, hl, hxl⟩ : ∃ l, LP[i]? = some l ∧ NL l = x := by
              rw [List.getElem?_map] at hx
              cases h : LP[i]? with
              | none => rw [h] at hx; cases hx
              | some l => rw [h] at hx; exact ⟨l, rfl, by simpa using hx⟩
            subst hxl
            have hck := HCK.out l (List.mem_of_getElem? hl)
            have hN : (NL l).length = p + 1 := by rw [NL_length, hck.len]
            have hlt0 : 0 < l.length := by rw [hck.len]; omega
            obtain ⟨hd, ehd⟩ : ∃ x, l.headD 0 = x := ⟨_, rfl⟩
            obtain ⟨la, ela⟩ : ∃ x, l.getLastD 0 = x := ⟨_, rfl⟩
            have hdm : hd < W.length := hck.lt hd (ehd ▸ mem_head hlt0)
            have lam : la < W.length := hck.lt la (ela ▸ mem_last hlt0)
            have hat0 := NL_at (head_at hlt0)
            have hat1 := NL_at (last_at hlt0)
            rw [hck.len, Nat.add_sub_cancel, ela] at hat1
            rw [ehd] at hat0
            have hsB : shortB a l = decide (cntTo a la a.length + 2 ≤ cntTo a hd a.length) := by rw [shortB, ela, ehd]
            rw [hN] at hc9
            obtain ⟨b2, o2, rfl, hb2, hcells⟩ := hrd9.2.2 (by omega)
            have hc0 := hcells 0 _ hat0
            rw [Nat.add_zero] at hc0
            have hc1 := hcells p _ hat1
            have hO3 := HO.out.below (HW3.out.trans (hw.out.mono HW3.out.size)) HOL.out
            have hoc0 := hO3.cell (i := hd) (x := (cntTo a hd a.length : Int)) (by simp [cntK, hdm])
            have hoc1 := hO3.cell (i := la) (x := (cntTo a la a.length : Int)) (by simp [cntK, lam])
            have hle0 := cntTo_le a hd a.length
            have hle1 := cntTo_le a la a.length
            have a10 : a.length ≤ 10 := by have := HA.out; omega
            have hfd := find_drop (short := shortB a) hl
            rw [hf.out, hsB] at hfd
            have HFD := Lib.hid hfd
            have HRD := Lib.hid hrd9
            have HN1 := Lib.hid hN
            clear hcells hat0 hat1 hO3 hsB hx hl hck hrd9 hN ehd ela hlt0 hf hfd
            generalize cntTo a hd a.length = c0 at *
            generalize cntTo a la a.length = k1 at *
            by_cases hs : k1 + 2 ≤ c0
            · have HCH : Hid (chN W a = l) := Lib.hid (by
                rw [H1.out, ← HST.out, HFD.out, decide_eq_true hs, if_pos rfl]; rfl)
              have HCE : Hid (chC W a = 0) := Lib.hid (by
                rw [HCC.out, HCH.out, if_neg]; intro h; rw [h] at HN1; have := HN1.out; cases this)
              have HFE : Hid (chF W a = NL l) := Lib.hid (by rw [HF.out, HCH.out])
              have f1 : decide ((k1 : Int) + 2 ≤ (c0 : Int)) = true := decide_eq_true (by omega)
              have f2 : decide (k1 + 2 ≤ c0) = true := decide_eq_true (by omega)
              go_wp2_with fail
              go_quiet (fail)
              have hcD : (wr.drewN nq).cell? ⟨b9, o9 + i, none⟩ = some (.slice (some ⟨b2, o2, none⟩) (p + 1) c1) := hc9
              have HWD := Lib.hid (below_drewN hw.out nq)
              have HRDD : Hid (Rd (wr.drewN nq) w3.heap.size (some ⟨b2, o2, none⟩) (NL l)) := Lib.hid HRD.out
              clear hc9 hc0 hc1 hoc0 hoc1 HRD hw
              generalize wr.drewN nq = wd at *
              go_wp2
              go_ret2
              rw [HFE.out, HCE.out]
              exact ⟨some ⟨b2, o2, none⟩, c1, by rw [HN1.out]; rfl, HRDD.out.more HWD.out.size, HB3.out.trans (HWD.out.mono HB3.out.size)⟩
            · have HNX : Hid ((LP.drop (i + 1)).find? (shortB a) = LP.find? (shortB a)) := Lib.hid (by
                rw [HFD.out, decide_eq_false hs, if_neg (by decide)])
              have f1 : decide ((k1 : Int) + 2 ≤ (c0 : Int)) = false := decide_eq_false (by omega)
              have f2 : decide (k1 + 2 ≤ c0) = false := decide_eq_false (by omega)
              go_wp2_with fail
              go_quiet (fail)
              have HWD := Lib.hid (below_drewN hw.out nq)
              clear hc9 hc0 hc1 hoc0 hoc1 HRD hw
              generalize wr.drewN nq = wd at *
              go_wp2
              go_roundw
              case rel => exact ⟨i + 1, by omega, by go_num, HNX, HWD⟩
              case measure => simp [intOf]; omega
          · have hnone : LP.find? (shortB a) = none := by rw [← hf.out, List.drop_eq_nil_of_le (by omega)]; rfl
            have HNX : Hid (shortFrom W.length ext (shortB a) (p + 1) = shortFrom W.length ext (shortB a) 1) := Lib.hid (by rw [← HST.out, hnone]; rfl)
            have HWW := Lib.hid (HW3.out.trans (hw.out.mono HW3.out.size))
            clear hnone hf hw
            go_wp2
            go_roundw
            case rel => exact ⟨p + 1, by omega, by omega, by go_num, HNX, HWW⟩
            case measure => simp [intOf]; omega
      · obtain rfl : p = W.length := by omega
        have HCH : Hid (chN W a = []) := Lib.hid (by rw [H1.out, ← hr.out, shortFrom_end (Nat.le_refl _)]; rfl)
        have HCE : Hid (chC W a = 6) := Lib.hid (by rw [HCC.out, if_pos HCH.out])
        have HFE : Hid (chF W a = []) := Lib.hid (by rw [HF.out, HCH.out]; rfl)
        have HWW := Lib.hid (HB2.out.trans (hw.out.mono HB2.out.size))
        clear hr hw
        go_wp2
        go_ret2
        rw [HFE.out, HCE.out]
        exact ⟨none, 0, rfl, Rd.nil _ _ _, HWW.out⟩
  · have hne : (lkd26 W a != 0) = true := by simpa using hk
    have HF : Hid (chF W a = []) := Lib.hid (by rw [chF, if_neg hk])
    have HE : Hid (chC W a = lkd26 W a) := Lib.hid (by rw [chC, if_neg hk])
    have H2 : Hid (∀ u : World, Below w.heap.size w u → Calls Try.prog 30 #[.slice A W.length cap, .slice A' a.length cap'] u fun e w' => e = .returned (.int .i64 (lkd26 W a)) ∧ Below u.heap.size u w') :=
      Lib.hid fun u hu => lrLooked26 (cap := cap) (cap' := cap') (H.out.below hu hB) (H'.out.below hu hC) (Nat.le_trans hB hu.size) (Nat.le_trans hC hu.size)
    clear hk
    generalize lkd26 W a = c at *
    go_enter Try.func13, Try.ntmps13
    go_wp2_with fail
    refine C1.mono ?_
    rintro e w1 ⟨rfl, hb⟩
    have HB := Lib.hid hb
    clear hb C1
    go_wp2_with fail
    refine (H2.out w1 HB.out).mono ?_
    rintro e w2 ⟨rfl, hb⟩
    have HB2 := Lib.hid (HB.out.trans (hb.mono HB.out.size))
    clear hb H2
    go_wp2
    go_ret2
    rw [HF.out, HE.out]
    exact ⟨none, 0, rfl, Rd.nil _ _ _, HB2.out⟩
end Go.Proofs.Ytefbkdjppfofmaa

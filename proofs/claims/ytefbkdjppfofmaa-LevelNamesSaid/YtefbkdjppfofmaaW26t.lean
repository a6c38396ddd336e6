import Derived.Test.YtefbkdjppfofmaaS26g
import Derived.Test.YtefbkdjppfofmaaW26i
import Derived.Test.YtefbkdjppfofmaaW26k
import Derived.Test.YtefbkdjppfofmaaW26s
/-! Walks of chapter 26: Pass. -/
namespace Go.Proofs.Ytefbkdjppfofmaa
open Go.RowKit Go.Deep
set_option linter.unusedVariables false
set_option maxRecDepth 100000

def psF (W : List (List Bool)) (a L : List Int) : List Int := if lkd26 W a = 0 then (psO W a L).getD [] else []
def psC (W : List (List Bool)) (a L : List Int) : Int := if lkd26 W a = 0 then (if (psO W a L).isSome = true then 0 else 6) else lkd26 W a
theorem Rd.takeN {w : World} {B : Nat} {A : Option Addr} {L : List Int} (h : Rd w B A L) (n : Nat) : Rd w B A (L.take n) :=
  ⟨fun x hx => h.1 x (List.mem_of_mem_take hx), by have := h.2.1; rw [List.length_take]; omega, fun hn => by
    rw [List.length_take] at hn
    obtain ⟨b, off, e, hb, hc⟩ := h.2.2 (by omega)
    refine ⟨b, off, e, hb, fun i x hx => hc i x ?_⟩
    rw [List.getElem?_take] at hx
    split at hx
    · exact hx
    · cases hx⟩
set_option maxHeartbeats 4000000 in
theorem lPassE {w : World} {B C D : Nat} {A A' A3 : Option Addr} {W : List (List Bool)} {a L : List Int} {cap cap' cap3 : Nat} (h : RdB2 w B A W) (h' : Rd w C A' a) (h3 : Rd w D A3 L) (hB : B ≤ w.heap.size) (hC : C ≤ w.heap.size) (hD : D ≤ w.heap.size) (hL : L.length ≤ 100) (hcap : L.length ≤ cap3) :
    Calls Try.prog 14 #[.slice A W.length cap, .slice A' a.length cap', .slice A3 L.length cap3] w (RowRes26 w (psF W a L) (psC W a L)) := by
  have C1 := lLooked26 (cap := cap) (cap' := cap') h h' hB hC
  have H := Lib.hid h
  have H' := Lib.hid h'
  have H3 := Lib.hid h3
  have hwl := h.len
  clear h h' h3
  by_cases hk : lkd26 W a = 0
  · obtain ⟨m, n, v, ha, _, hx⟩ := lkd26_zero hk
    have hm := v.len
    subst hm
    have HF : Hid (psF W a L = (psO W a L).getD []) := Lib.hid (by rw [psF, if_pos hk])
    have HCC : Hid (psC W a L = if (psO W a L).isSome = true then 0 else 6) := Lib.hid (by rw [psC, if_pos hk])
    rw [hk] at C1
    have hm6 := v.m6
    have HV := Lib.hid v
    have HA := Lib.hid ha
    have HX := Lib.hid hx
    clear hk v ha hx
    go_enter Try.func14, Try.ntmps14
    go_wp2_with fail
    refine C1.mono ?_
    rintro e w1 ⟨rfl, hb⟩
    have HB := Lib.hid hb
    have H31 := Lib.hid (H3.out.below hb hD)
    clear hb C1 H3
    go_wp2_with fail
    go_loop [21] (fun iv => ∃ (i : Nat), i ≤ L.length ∧ iv = .int .i64 i ∧ Hid (badFrom W.length L i = chainBad W.length L)) (fun iv => L.length - (intOf iv).toNat)
    case atStart => exact ⟨0, by omega, rfl, Lib.hid rfl⟩
    case round =>
      obtain ⟨i, hi, rfl, hr⟩ := hrel
      by_cases hlt : i < L.length
      · obtain ⟨b, off, x, rfl, hb, hx, hi64, hc⟩ := H31.out.at_ hlt
        have hxg : L.getD i 0 = x := by rw [List.getD_eq_getElem?_getD, hx]; rfl
        have hst := hr.out
        rw [badFrom_at hlt] at hst
        have HST := Lib.hid hst
        have hba : badAt W.length L i = (decide (x < 0) || decide ((W.length : Int) ≤ x) || (L.take i).any fun y => y == x) := by rw [badAt, hxg]
        have HBA := Lib.hid hba
        have hti : (L.take i).length = i := by rw [List.length_take]; omega
        have hicap : i ≤ cap3 := by omega
        have hic : decide (i ≤ cap3) = true := decide_eq_true hicap
        have CC := containsX (cap := cap3) (H31.out.takeN i) x
        rw [hti] at CC
        have HBAD : Hid (chainBad W.length L = true → psO W a L = none) := Lib.hid fun h => by rw [psO, if_pos (.inl h)]
        clear hx hi64 hb hst hba hr hxg hti
        by_cases hx0 : x < 0
        · have HT : Hid (psO W a L = none) := Lib.hid (HBAD.out (by rw [← HST.out, HBA.out, decide_eq_true hx0]; rfl))
          have HFE : Hid (psF W a L = []) := Lib.hid (by rw [HF.out, HT.out]; rfl)
          have HCE : Hid (psC W a L = 6) := Lib.hid (by rw [HCC.out, HT.out]; rfl)
          clear HBA HST HT HBAD
          go_wp2
          go_ret2
          rw [HFE.out, HCE.out]
          exact ⟨none, 0, rfl, Rd.nil _ _ _, HB.out⟩
        · by_cases hxm : (W.length : Int) ≤ x
          · have HT : Hid (psO W a L = none) := Lib.hid (HBAD.out (by rw [← HST.out, HBA.out, decide_eq_true hxm]; simp))
            have HFE : Hid (psF W a L = []) := Lib.hid (by rw [HF.out, HT.out]; rfl)
            have HCE : Hid (psC W a L = 6) := Lib.hid (by rw [HCC.out, HT.out]; rfl)
            clear HBA HST HT HBAD
            go_wp2
            go_ret2
            rw [HFE.out, HCE.out]
            exact ⟨none, 0, rfl, Rd.nil _ _ _, HB.out⟩
          · have hany := HBA.out
            rw [decide_eq_false hx0, decide_eq_false hxm, Bool.false_or, Bool.false_or] at hany
            rw [← hany] at CC
            have HCX := Lib.hid CC
            clear CC hany HBA
            go_wp2_with fail
            refine HCX.out.mono ?_
            rintro e w' ⟨rfl, rfl⟩
            clear HCX
            cases hbd : badAt W.length L i
            · have HN : Hid (badFrom W.length L (i + 1) = chainBad W.length L) := Lib.hid (by rw [← HST.out, hbd]; rfl)
              clear hbd HST HBAD
              go_wp2
              go_round
              case rel => exact ⟨i + 1, by omega, by go_num, HN⟩
              case measure => simp [intOf]; omega
            · have HT : Hid (psO W a L = none) := Lib.hid (HBAD.out (by rw [← HST.out, hbd]; rfl))
              have HFE : Hid (psF W a L = []) := Lib.hid (by rw [HF.out, HT.out]; rfl)
              have HCE : Hid (psC W a L = 6) := Lib.hid (by rw [HCC.out, HT.out]; rfl)
              clear HST HT HBAD hbd
              go_wp2
              go_ret2
              rw [HFE.out, HCE.out]
              exact ⟨none, 0, rfl, Rd.nil _ _ _, HB.out⟩
      · have hgood : chainBad W.length L = false := by rw [← hr.out, badFrom_end (by omega)]
        obtain ⟨g1, g2, g3⟩ := good_chain hgood
        have hnl := natL_length L
        have hP := lPass (cap := cap) (cap' := cap') (cap3 := cap3) (P := natL L) (f := 0) (H.out.below HB.out hB) (H'.out.below HB.out hC) (g1 ▸ H31.out) (Nat.le_trans hB HB.out.size) (Nat.le_trans hC HB.out.size) (Nat.le_trans hD HB.out.size) HV.out HA.out HX.out g2 (by omega) (by omega)
        rw [hnl] at hP
        have HPC : Hid (Calls Try.prog 35 #[.slice A W.length cap, .slice A' a.length cap', .slice A3 L.length cap3, .int .i64 0] w1 (PassRes w1 (passF W a 0 (natL L) a))) := Lib.hid hP
        have HPS : Hid (psO W a L = if L.length < 2 then none else passF W a 0 (natL L) a) := Lib.hid (by
          rw [psO, hgood]
          by_cases h : L.length < 2
          · rw [if_pos (.inr h), if_pos h]
          · rw [if_neg (by rintro (h1 | h1); cases h1; exact h h1), if_neg h])
        clear hgood g1 g2 g3 hnl hP hr
        generalize passF W a 0 (natL L) a = r at *
        go_wp2_with fail
        refine HPC.out.mono ?_
        rintro e w2 ⟨A5, c5, rfl, hr5, hb5⟩
        have HR5 := Lib.hid hr5
        have HB5 := Lib.hid (HB.out.trans (hb5.mono HB.out.size))
        clear HPC hr5 hb5
        cases r with
        | none =>
          have HT : Hid (psO W a L = none) := Lib.hid (by rw [HPS.out]; split <;> rfl)
          have HFE : Hid (psF W a L = []) := Lib.hid (by rw [HF.out, HT.out]; rfl)
          have HCE : Hid (psC W a L = 6) := Lib.hid (by rw [HCC.out, HT.out]; rfl)
          clear HT HPS
          go_wp2
          go_ret2
          rw [HFE.out, HCE.out]
          exact ⟨none, 0, rfl, Rd.nil _ _ _, HB5.out⟩
        | some out =>
          have e1 : (some out).getD [] = out := rfl
          have e2 : (some out).isSome = true := rfl
          rw [e1] at HR5 ⊢
          rw [e2]
          clear e1 e2
          by_cases h2 : L.length < 2
          · have HT : Hid (psO W a L = none) := Lib.hid (by rw [HPS.out, if_pos h2])
            have HFE : Hid (psF W a L = []) := Lib.hid (by rw [HF.out, HT.out]; rfl)
            have HCE : Hid (psC W a L = 6) := Lib.hid (by rw [HCC.out, HT.out]; rfl)
            have f1 : decide ((L.length : Int) < 2) = true := decide_eq_true (by omega)
            clear HT HPS
            go_wp2
            go_ret2
            rw [HFE.out, HCE.out]
            exact ⟨none, 0, rfl, Rd.nil _ _ _, HB5.out⟩
          · have HT : Hid (psO W a L = some out) := Lib.hid (by rw [HPS.out, if_neg h2])
            have HFE : Hid (psF W a L = out) := Lib.hid (by rw [HF.out, HT.out]; rfl)
            have HCE : Hid (psC W a L = 0) := Lib.hid (by rw [HCC.out, HT.out]; rfl)
            have f1 : decide ((L.length : Int) < 2) = false := decide_eq_false (by omega)
            clear HT HPS
            go_wp2
            go_ret2
            rw [HFE.out, HCE.out]
            exact ⟨A5, c5, rfl, HR5.out, HB5.out⟩
  · have hne : (lkd26 W a != 0) = true := by simpa using hk
    have HF : Hid (psF W a L = []) := Lib.hid (by rw [psF, if_neg hk])
    have HE : Hid (psC W a L = lkd26 W a) := Lib.hid (by rw [psC, if_neg hk])
    clear hk
    generalize lkd26 W a = c at *
    go_enter Try.func14, Try.ntmps14
    go_wp2_with fail
    refine C1.mono ?_
    rintro e w1 ⟨rfl, hb⟩
    have HB := Lib.hid hb
    clear hb C1
    go_wp2
    go_ret2
    rw [HF.out, HE.out]
    exact ⟨none, 0, rfl, Rd.nil _ _ _, HB.out⟩
end Go.Proofs.Ytefbkdjppfofmaa

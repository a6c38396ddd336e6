import Derived.Test.YtefbkdjppfofmaaW26j
import Derived.Test.YtefbkdjppfofmaaW26t
/-! Walks of chapter 26: the reference's Pass. -/
namespace Go.Proofs.Ytefbkdjppfofmaa
open Go.RowKit Go.Deep
set_option linter.unusedVariables false
set_option maxRecDepth 100000

/-- a number, or -1 -/
def optI : Option Nat → Int
  | none => -1
  | some g => g
theorem out_of_row {w : World} {w0 base T : Nat} {v : Value} {L : List Int} (h : w.ownsRow base T 1 v L.length (L.map (Value.int .i64))) (hb : w0 ≤ base) : ∃ A c, v = .slice A L.length c ∧ OutAt w0 w A T L.length L := by
  by_cases h0 : 0 < L.length
  · obtain ⟨g, c, rfl, hg, hP⟩ := ownP_of_row h h0
    exact ⟨_, c, rfl, fun _ => ⟨g, rfl, by omega, hP⟩⟩
  · obtain ⟨A, c, rfl, _⟩ := row_slice h
    exact ⟨A, c, rfl, fun h => absurd h h0⟩
theorem rd_none {w : World} {B : Nat} {A : Option Addr} {L : List Int} (h : Rd w B A L) : A = none → L.length = 0 := fun hA => by
  rcases Nat.eq_zero_or_pos L.length with h0 | h0
  · exact h0
  · obtain ⟨b, o, e, _⟩ := h.2.2 h0
    rw [hA] at e; cases e
theorem rd_cells {w : World} {B : Nat} {A : Option Addr} {L : List Int} (h : Rd w B A L) : ∀ ad, A = some ad → ∀ (j : Nat) (u : Value), (L.map (Value.int .i64))[j]? = some u → w.cell? (ad.add j) = some u := by
  intro ad hA j u hu
  have hl : 0 < L.length := by
    have := (List.getElem?_eq_some_iff.1 hu).1
    simp at this; omega
  obtain ⟨b, o, e, _, hc⟩ := h.2.2 hl
  rw [hA] at e
  cases e
  exact cells_ints hc j u hu
theorem not_mem_take {P : List Nat} (h : P.Nodup) {i p : Nat} (hp : P[i]? = some p) : p ∉ P.take i := by
  obtain ⟨hi, e⟩ := List.getElem?_eq_some_iff.1 hp
  intro hm
  rw [List.mem_take_iff_getElem] at hm
  obtain ⟨j, hj, he⟩ := hm
  have hji : j < i := by omega
  rw [List.Nodup, List.pairwise_iff_getElem] at h
  exact h j i (by omega) hi hji (he.trans e.symm)
theorem take_snoc {P : List Nat} {i p : Nat} (hp : P[i]? = some p) : P.take i ++ [p] = P.take (i + 1) := by
  rw [List.take_add_one, hp]; rfl
set_option maxHeartbeats 4000000 in
theorem lrPassE {w : World} {B C D : Nat} {A A' A3 : Option Addr} {W : List (List Bool)} {a L : List Int} {cap cap' cap3 : Nat} (h : RdB2 w B A W) (h' : Rd w C A' a) (h3 : Rd w D A3 L) (hB : B ≤ w.heap.size) (hC : C ≤ w.heap.size) (hD : D ≤ w.heap.size) (hL : L.length ≤ 100) (hcap : L.length ≤ cap3) :
    Calls Try.prog 15 #[.slice A W.length cap, .slice A' a.length cap', .slice A3 L.length cap3] w (RowRes26 w (psF W a L) (psC W a L)) := by
  have C1 := lrLooked26 (cap := cap) (cap' := cap') h h' hB hC
  have H := Lib.hid h
  have H' := Lib.hid h'
  have H3 := Lib.hid h3
  have hwl := h.len
  clear h h' h3
  by_cases hk : lkd26 W a = 0
  · obtain ⟨m, n, v, ha, _, hx⟩ := lkd26_zero hk
    have hm := v.len
    subst hm
    have HF : Hid (psF W a L = (psO W a L).getD []) := Lib.hid (by rw [psF, if_pos hk])
    have HCC : Hid (psC W a L = if (psO W a L).isSome = true then 0 else 6) := Lib.hid (by rw [psC, if_pos hk])
    rw [hk] at C1
    have hm6 := v.m6
    have n10 := v.n10
    have a10 : a.length ≤ 10 := by omega
    have HV := Lib.hid v
    have HA := Lib.hid ha
    have HX := Lib.hid hx
    have HH := Lib.hid H.out
    clear hk v ha hx
    go_enter Try.func15, Try.ntmps15
    go_wp2_with fail
    refine C1.mono ?_
    rintro e w1 ⟨rfl, hb⟩
    have HB := Lib.hid hb
    clear hb C1
    by_cases h2 : L.length < 2
    · have HT : Hid (psO W a L = none) := Lib.hid (by rw [psO, if_pos (.inr h2)])
      have HFE : Hid (psF W a L = []) := Lib.hid (by rw [HF.out, HT.out]; rfl)
      have HCE : Hid (psC W a L = 6) := Lib.hid (by rw [HCC.out, HT.out]; rfl)
      have f1 : decide ((L.length : Int) < 2) = true := decide_eq_true (by omega)
      clear HT
      go_wp2
      go_ret2
      rw [HFE.out, HCE.out]
      exact ⟨none, 0, rfl, Rd.nil _ _ _, HB.out⟩
    · have f1 : decide ((L.length : Int) < 2) = false := decide_eq_false (by omega)
      go_wp2_with fail
      clear f1
      go_loopw [8] (fun iv wr => ∃ (i : Nat), i ≤ L.length ∧ iv = .int .i64 i ∧ Hid (badFrom W.length L i = chainBad W.length L) ∧ Hid (Below w.heap.size w wr)) (fun iv _ => L.length - (intOf iv).toNat)
      case atStart => exact ⟨0, by omega, rfl, Lib.hid rfl, HB⟩
      case round =>
        obtain ⟨i, hi, rfl, hr, hw⟩ := hrel
        by_cases hlt : i < L.length
        · have hrd := H3.out.below hw.out hD
          obtain ⟨b, off, x, rfl, hb, hx, hi64, hc⟩ := hrd.at_ hlt
          have hxg : L.getD i 0 = x := by rw [List.getD_eq_getElem?_getD, hx]; rfl
          have hst := hr.out
          rw [badFrom_at hlt] at hst
          have HST := Lib.hid hst
          have hba : badAt W.length L i = (decide (x < 0) || decide ((W.length : Int) ≤ x) || (L.take i).any fun y => y == x) := by rw [badAt, hxg]
          have HBA := Lib.hid hba
          have hti : (L.take i).length = i := by rw [List.length_take]; omega
          have hicap : i ≤ cap3 := by omega
          have hic : decide (i ≤ cap3) = true := decide_eq_true hicap
          have HCX : Hid (∀ k : Nat, Calls Try.prog 36 #[.slice (some ⟨b, off, none⟩) i cap3, .int .i64 x] (wr.drewN k) fun e w' => e = .returned (.bool ((L.take i).any fun y => y == x)) ∧ wr.drewN k = w') := Lib.hid fun k => by
            have := lrHas (w := wr.drewN k) (cap := cap3) (hrd.takeN i) x
            rw [hti] at this
            exact this
          have HBAD : Hid (chainBad W.length L = true → psO W a L = none) := Lib.hid fun h => by rw [psO, if_pos (.inl h)]
          clear hx hi64 hb hst hba hr hxg hti hrd
          by_cases hx0 : x < 0
          · have HT : Hid (psO W a L = none) := Lib.hid (HBAD.out (by rw [← HST.out, HBA.out, decide_eq_true hx0]; rfl))
            have q1 : decide (x < 0) = true := decide_eq_true hx0
            have HFE : Hid (psF W a L = []) := Lib.hid (by rw [HF.out, HT.out]; rfl)
            have HCE : Hid (psC W a L = 6) := Lib.hid (by rw [HCC.out, HT.out]; rfl)
            clear HBA HST HT HBAD
            go_wp2_with fail
            go_quiet (fail)
            have HWD := Lib.hid (below_drewN hw.out nq)
            clear hc hw
            generalize wr.drewN nq = wd at *
            go_wp2
            go_ret2
            rw [HFE.out, HCE.out]
            exact ⟨none, 0, rfl, Rd.nil _ _ _, HWD.out⟩
          · by_cases hxm : (W.length : Int) ≤ x
            · have HT : Hid (psO W a L = none) := Lib.hid (HBAD.out (by rw [← HST.out, HBA.out, decide_eq_true hxm]; simp))
              have q1 : decide (x < 0) = false := decide_eq_false hx0
              have q2 : decide ((W.length : Int) ≤ x) = true := decide_eq_true hxm
              have HFE : Hid (psF W a L = []) := Lib.hid (by rw [HF.out, HT.out]; rfl)
              have HCE : Hid (psC W a L = 6) := Lib.hid (by rw [HCC.out, HT.out]; rfl)
              clear HBA HST HT HBAD
              go_wp2_with fail
              go_quiet (fail)
              have HWD := Lib.hid (below_drewN hw.out nq)
              clear hc hw
              generalize wr.drewN nq = wd at *
              go_wp2
              go_ret2
              rw [HFE.out, HCE.out]
              exact ⟨none, 0, rfl, Rd.nil _ _ _, HWD.out⟩
            · have hany := HBA.out
              rw [decide_eq_false hx0, decide_eq_false hxm, Bool.false_or, Bool.false_or] at hany
              rw [← hany] at HCX
              have q1 : decide (x < 0) = false := decide_eq_false hx0
              have q2 : decide ((W.length : Int) ≤ x) = false := decide_eq_false hxm
              clear hany HBA
              cases hbd : badAt W.length L i
              · have HN : Hid (badFrom W.length L (i + 1) = chainBad W.length L) := Lib.hid (by rw [← HST.out, hbd]; rfl)
                rw [hbd] at HCX
                clear hbd HST HBAD
                go_wp2_with fail
                go_quiet ((go_at_call 36; exact Calls.quiet_of_same ((HCX.out _).mono fun _ _ h => ⟨h.1, h.2.symm⟩)))
                have HWD := Lib.hid (below_drewN hw.out nq)
                clear hc hw HCX
                generalize wr.drewN nq = wd at *
                go_wp2
                go_roundw
                case rel => exact ⟨i + 1, by omega, by go_num, HN, HWD⟩
                case measure => simp [intOf]; omega
              · have HT : Hid (psO W a L = none) := Lib.hid (HBAD.out (by rw [← HST.out, hbd]; rfl))
                have HFE : Hid (psF W a L = []) := Lib.hid (by rw [HF.out, HT.out]; rfl)
                have HCE : Hid (psC W a L = 6) := Lib.hid (by rw [HCC.out, HT.out]; rfl)
                rw [hbd] at HCX
                clear HST HT HBAD hbd
                go_wp2_with fail
                go_quiet ((go_at_call 36; exact Calls.quiet_of_same ((HCX.out _).mono fun _ _ h => ⟨h.1, h.2.symm⟩)))
                have HWD := Lib.hid (below_drewN hw.out nq)
                clear hc hw HCX
                generalize wr.drewN nq = wd at *
                go_wp2
                go_ret2
                rw [HFE.out, HCE.out]
                exact ⟨none, 0, rfl, Rd.nil _ _ _, HWD.out⟩
        · have hgood : chainBad W.length L = false := by rw [← hr.out, badFrom_end (by omega)]
          obtain ⟨hNL, hPm, hnd⟩ := good_chain hgood
          have HPS : Hid (psO W a L = passF W a 0 (natL L) a) := Lib.hid (by
            rw [psO, hgood, if_neg]; rintro (h1 | h1); cases h1; exact h2 h1)
          have hlp := natL_length L
          have HP3 : Hid (Rd w D A3 (NL (natL L))) := Lib.hid (hNL ▸ H3.out)
          rw [← hlp]
          have hPl : (natL L).length ≤ 100 := by omega
          have hP2 : 2 ≤ (natL L).length := by omega
          have hge : ¬ i < (natL L).length := by omega
          have HPM := Lib.hid hPm
          have HND := Lib.hid hnd
          clear hgood hNL hPm hnd hr hlp hcap h2 H3 hi hlt
          generalize natL L = P at *
          generalize hRR : psO W a L = r at *
          clear hRR hL
          generalize psF W a L = rF at *
          generalize psC W a L = rC at *
          obtain ⟨j0, hj0, jz0, jz1, jz2⟩ := info_parts infoInt'
          have HJ := Lib.hid hj0
          have hal0 := Below.alloc (Below.refl wr.heap.size wr) (Nat.le_refl _) (.cells #[] 3)
          have hra := (H'.out.below hw.out hC).below hal0 (by have := hw.out.size; omega)
          have HRN := Lib.hid (rd_none hra)
          have HRC := Lib.hid (rd_cells hra)
          have HO0 := Lib.hid (own_empty wr 3)
          have HAL0 := Lib.hid hal0
          have HS0 : Hid ((wr.alloc (.cells #[] 3)).heap.size = wr.heap.size + 1) := Lib.hid (by simp)
          have HMI : Hid ((a.map (Value.int .i64)).length = a.length * 1) := Lib.hid (by simp)
          clear hal0 hra hj0
          generalize hw4 : wr.alloc (.cells #[] 3) = w4 at *
          go_wp2_with (at_builtin; refine wpList_append_opt rfl _ _ 23 rfl wr.heap.size 3 j0 (.int .i64 0) 1 8 Try.underlying23 HJ.out jz0 jz1 jz2 rfl (by decide) _ 0 [] rfl HO0.out A' a.length cap' (a.map (Value.int .i64)) rfl HMI.out HRN.out HRC.out (ints_oneCell _ _) (by unfold maxLen; omega) (by omega) (by rw [HS0.out]; omega) ?_)
          intro v5 w5 hown5 hgr5 _
          obtain ⟨A5, c5, rfl, hO5⟩ := out_of_row hown5 hw.out.size
          have HO5 := Lib.hid hO5
          have hb5 : Below wr.heap.size wr w5 := HAL0.out.grown hgr5 (by rw [HS0.out]; omega) (by intro k hk; simp [Value.ownBlock] at hk; omega)
          have HB5 := Lib.hid (hw.out.trans (hb5.mono hw.out.size))
          have HPS0 : Hid (passF W a 0 (P.drop 0) a = r) := Lib.hid (by rw [HPS.out]; rfl)
          clear hown5 hgr5 hO5 hb5 HO0 HAL0 HS0 HRC hw4 HPS hw HRN
          go_wp2_with fail
          go_loopw [10] (fun iv wr => ∃ (i : Nat) (out : List Int), i + 1 ≤ P.length ∧ iv = .int .i64 ((i : Int) + 1) ∧ Hid (passF W a 0 (P.drop i) out = r) ∧ Hid (Passed a out (P.take i)) ∧ Hid (∀ x ∈ out, -1 ≤ x ∧ x < 100) ∧ Hid (OutAt w.heap.size wr A5 3 a.length out) ∧ Hid (Below w.heap.size w wr)) (fun iv _ => P.length + 2 - (intOf iv).toNat)
          case atStart => exact ⟨0, a, by omega, rfl, HPS0, Lib.hid (Passed.start a), Lib.hid (fun x hx => by have := HX.out x hx; omega), HO5, HB5⟩
          case round =>
            clear HPS0 HO5 HB5 hge
            obtain ⟨i, out, hi, rfl, hr, hps, hox, ho, hb⟩ := hrel
            by_cases hlt : i + 1 < P.length
            · obtain ⟨p, hp⟩ : ∃ p, P[i]? = some p := ⟨P[i], by simp⟩
              obtain ⟨q, hq⟩ : ∃ q, P[i + 1]? = some q := ⟨P[i + 1], by simp⟩
              have hst := hr.out
              rw [passF_at hp hq] at hst
              have HST := Lib.hid hst
              have hqm : q < W.length := HPM.out q (List.mem_of_getElem? hq)
              have hpm : p < W.length := HPM.out p (List.mem_of_getElem? hp)
              have HNT := Lib.hid (not_mem_take HND.out hp)
              have HTS := Lib.hid (take_snoc hp)
              obtain ⟨bl, ol, rfl, hbl, hcl⟩ := HP3.out.2.2 (by rw [NL_length]; omega)
              have HP0 : Hid (w.cell? ⟨bl, ol + i, none⟩ = some (.int .i64 (p : Int))) := Lib.hid (hcl i _ (NL_at hp))
              have HQ0 : Hid (w.cell? ⟨bl, ol + (i + 1), none⟩ = some (.int .i64 (q : Int))) := Lib.hid (hcl (i + 1) _ (NL_at hq))
              have hblw : bl < w.heap.size := by omega
              clear hst hp hq hcl hr
              go_wp2_with fail
              obtain ⟨wo, hwo⟩ : ∃ wo : World, wo = wr := ⟨_, rfl⟩
              go_loopw [11, 12] (fun fv gv wr => ∃ (k : Nat) (z : Int), k ≤ a.length ∧ gv = .int .i64 z ∧ Hid (z = (k : Int) - 1) ∧ fv = .int .i64 (optI (goodK W a p q k)) ∧ Hid (OutAt w.heap.size wr A5 3 a.length out) ∧ Hid (Below w.heap.size w wr)) (fun _ gv _ => ((intOf gv) + 1).toNat)
              case atStart => exact ⟨a.length, _, by omega, rfl, Lib.hid rfl, by rw [goodK_end (Nat.le_refl _)]; rfl, ho, hb⟩
              case round =>
                clear ho hb hwo
                obtain ⟨k, z, hk, rfl, hz, rfl, ho, hb⟩ := hrel
                by_cases hk0 : k = 0
                · subst hk0
                  obtain rfl : z = -1 := by rw [hz.out]; rfl
                  cases hgk : goodK W a p q 0 with
                  | none =>
                    have HRN : Hid (r = none) := Lib.hid (by rw [← HST.out, hgk])
                    have HFE : Hid (rF = []) := Lib.hid (by rw [HF.out, HRN.out]; rfl)
                    have HCE : Hid (rC = 6) := Lib.hid (by rw [HCC.out, HRN.out]; rfl)
                    have e1 : optI none = -1 := rfl
                    rw [e1]
                    clear hgk hz e1 HRN
                    go_wp2
                    go_ret2
                    rw [HFE.out, HCE.out]
                    exact ⟨none, 0, rfl, Rd.nil _ _ _, hb.out⟩
                  | some g =>
                    have hgs := goodK_some hgk
                    have hgp : a.getD g 0 = (p : Int) := by
                      have := hgs.2
                      rw [passB, Bool.and_eq_true, decide_eq_true_iff] at this
                      exact this.1
                    have HNX : Hid (passF W a 0 (P.drop (i + 1)) (out.set g (q : Int)) = r) := Lib.hid (by rw [← HST.out, hgk])
                    have e1 : optI (some g) = (g : Int) := rfl
                    rw [e1]
                    have hgl := hgs.1
                    obtain ⟨g1, rfl, hg1, hPo⟩ := ho.out (by omega)
                    have hol : out.length = a.length := hps.out.1
                    obtain ⟨y, hy⟩ : ∃ y, out[g]? = some y := ⟨out[g]'(by rw [hol]; exact hgl), by simp⟩
                    have oc := hPo.cell hy
                    have ofz := hPo.frozen g
                    have hqc : wr.cell? ⟨bl, ol + (i + 1), none⟩ = some (.int .i64 (q : Int)) := (cell_below hb.out hblw).trans HQ0.out
                    have HO2 : Hid (OutAt w.heap.size (wr.setCell ⟨g1, g, none⟩ (.int .i64 (q : Int))) (some ⟨g1, 0, none⟩) 3 a.length (out.set g (q : Int))) := Lib.hid fun _ => ⟨g1, rfl, hg1, hPo.store g _⟩
                    have HB2 := Lib.hid (hb.out.setCell (p := ⟨g1, g, none⟩) hg1 (.int .i64 (q : Int)))
                    have HPS2 : Hid (Passed a (out.set g (q : Int)) (P.take (i + 1))) := Lib.hid (by rw [← HTS.out]; exact hps.out.set _ hgp)
                    have HOX : Hid (∀ x ∈ out.set g (q : Int), -1 ≤ x ∧ x < 100) := Lib.hid fun x hx => by
                      rcases List.mem_or_eq_of_mem_set hx with h | h
                      · exact hox.out x h
                      · subst h; omega
                    clear hgs hgk hPo hy ho hb hox hps hz e1 hgp hol
                    go_wp2
                    go_roundw
                    case rel => exact ⟨i + 1, _, by omega, by go_num, HNX, HPS2, HOX, HO2, HB2⟩
                    case measure => simp [intOf]; omega
                · obtain ⟨j, rfl⟩ : ∃ j, k = j + 1 := ⟨k - 1, by omega⟩
                  obtain rfl : z = (j : Int) := by rw [hz.out]; omega
                  have hkl : j < a.length := by omega
                  have hkn : j < n := by rw [← HA.out]; exact hkl
                  obtain ⟨b, off, x, eA, hbA, hxa, hi64, hca⟩ := (H'.out.below hb.out hC).at_ hkl
                  have hxg : a.getD j 0 = x := by rw [List.getD_eq_getElem?_getD, hxa]; rfl
                  have hpc : wr.cell? ⟨bl, ol + i, none⟩ = some (.int .i64 (p : Int)) := (cell_below hb.out hblw).trans HP0.out
                  have hqc : wr.cell? ⟨bl, ol + (i + 1), none⟩ = some (.int .i64 (q : Int)) := (cell_below hb.out hblw).trans HQ0.out
                  obtain ⟨b', off', A2, c2, b3, o3, row, eW, eA2, g1c, g2c, _, _⟩ := wish_cell (HH.out.below hb.out hB) HV.out hqm hkn
                  obtain ⟨g1, eA5, hg1, hPo⟩ := ho.out (by omega)
                  have hol : out.length = a.length := hps.out.1
                  obtain ⟨y0, hy0⟩ : ∃ y0, out[j]? = some y0 := ⟨out[j]'(by rw [hol]; exact hkl), by simp⟩
                  have oc := hPo.cell hy0
                  have hyg : out.getD j 0 = y0 := by rw [List.getD_eq_getElem?_getD, hy0]; rfl
                  subst eA eW eA2 eA5
                  have hpb := passB_of (W := W) (p := p) (q := q) hxg
                  have HPB := Lib.hid hpb
                  have HSTILL : Hid (x = (p : Int) → y0 = (p : Int)) := Lib.hid fun h => by
                    rw [← hyg]; exact hps.out.still hkl (hxg.trans h) HNT.out
                  clear hxg hpb hxa hi64 hbA hPo hy0 hyg hz hol
                  generalize wishB W q j = y at *
                  have hil : i < P.length := by omega
                  have hwi : IntKind.i64.wrap (i : Int) = i := IntWalk.i64_in _ (by omega)
                  by_cases hxp : x = (p : Int)
                  · subst hxp
                    have hyp : y0 = (p : Int) := HSTILL.out rfl
                    subst hyp
                    have hbt : ((p : Int) == (p : Int)) = true := beq_self_eq_true _
                    clear HSTILL
                    cases y
                    · have HNX : Hid (goodK W a p q j = goodK W a p q (j + 1)) := Lib.hid (goodK_no hkl (by rw [HPB.out]; simp))
                      clear HPB
                      go_wp2_with fail
                      go_quiet (fail)
                      have HO2 := Lib.hid (ho.out.drewN nq)
                      have HB2 := Lib.hid (below_drewN hb.out nq)
                      clear ho hb hca hpc hqc g1c g2c oc
                      generalize wr.drewN nq = wd at *
                      go_wp2
                      go_roundw
                      case rel => exact ⟨j, (j : Int) - 1, by omega, by go_num, Lib.hid rfl, by rw [HNX.out], HO2, HB2⟩
                      case measure => simp [intOf]
                    · have HNX : Hid (goodK W a p q j = some j) := Lib.hid (goodK_yes hkl (by rw [HPB.out]; simp))
                      clear HPB
                      go_wp2_with fail
                      go_quiet (fail)
                      have HO2 := Lib.hid (ho.out.drewN nq)
                      have HB2 := Lib.hid (below_drewN hb.out nq)
                      clear ho hb hca hpc hqc g1c g2c oc
                      generalize wr.drewN nq = wd at *
                      go_wp2
                      go_roundw
                      case rel => exact ⟨j, (j : Int) - 1, by omega, by go_num, Lib.hid rfl, by rw [HNX.out]; rfl, HO2, HB2⟩
                      case measure => simp [intOf]
                  · have hbf : (x == (p : Int)) = false := by simpa using hxp
                    have HNX : Hid (goodK W a p q j = goodK W a p q (j + 1)) := Lib.hid (goodK_no hkl (by rw [HPB.out, decide_eq_false hxp]; rfl))
                    clear HPB hxp HSTILL
                    go_wp2_with fail
                    go_quiet (fail)
                    have HO2 := Lib.hid (ho.out.drewN nq)
                    have HB2 := Lib.hid (below_drewN hb.out nq)
                    clear ho hb hca hpc hqc g1c g2c oc
                    generalize wr.drewN nq = wd at *
                    go_wp2
                    go_roundw
                    case rel => exact ⟨j, (j : Int) - 1, by omega, by go_num, Lib.hid rfl, by rw [HNX.out], HO2, HB2⟩
                    case measure => simp [intOf]
            · have HRE : Hid (r = some out) := Lib.hid (by rw [← hr.out, passF_short (by rw [List.length_drop]; omega)])
              have HFE : Hid (rF = out) := Lib.hid (by rw [HF.out, HRE.out]; rfl)
              have HCE : Hid (rC = 0) := Lib.hid (by rw [HCC.out, HRE.out]; rfl)
              have hrd := ho.out.rd hps.out.1 a10 hox.out
              have HRD := Lib.hid hrd
              have HOL : Hid (out.length = a.length) := Lib.hid hps.out.1
              clear hr hrd ho HRE
              go_wp2
              go_ret2
              rw [HFE.out, HCE.out]
              exact ⟨A5, c5, by rw [HOL.out]; rfl, HRD.out, hb.out⟩
  · have hne : (lkd26 W a != 0) = true := by simpa using hk
    have HF : Hid (psF W a L = []) := Lib.hid (by rw [psF, if_neg hk])
    have HE : Hid (psC W a L = lkd26 W a) := Lib.hid (by rw [psC, if_neg hk])
    have H2 : Hid (∀ u : World, Below w.heap.size w u → Calls Try.prog 30 #[.slice A W.length cap, .slice A' a.length cap'] u fun e w' => e = .returned (.int .i64 (lkd26 W a)) ∧ Below u.heap.size u w') :=
      Lib.hid fun u hu => lrLooked26 (cap := cap) (cap' := cap') (H.out.below hu hB) (H'.out.below hu hC) (Nat.le_trans hB hu.size) (Nat.le_trans hC hu.size)
    clear hk
    generalize lkd26 W a = c at *
    go_enter Try.func15, Try.ntmps15
    go_wp2_with fail
    refine C1.mono ?_
    rintro e w1 ⟨rfl, hb⟩
    have HB := Lib.hid hb
    clear hb C1
    go_wp2_with fail
    refine (H2.out w1 HB.out).mono ?_
    rintro e w2 ⟨rfl, hb⟩
    have HB2 := Lib.hid (HB.out.trans (hb.mono HB.out.size))
    clear hb H2
    go_wp2
    go_ret2
    rw [HF.out, HE.out]
    exact ⟨none, 0, rfl, Rd.nil _ _ _, HB2.out⟩
end Go.Proofs.Ytefbkdjppfofmaa

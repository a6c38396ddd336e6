import Derived.Test.YtipidlonidihbaaS33k
import Derived.Test.YtipidlonidihbaaS33l
import Derived.Test.YtipidlonidihbaaW33v
import Derived.Test.YtipidlonidihbaaW33n
/-! The walk of the statement HolidayParts. -/
namespace Go.Proofs.Ytipidlonidihbaa
open Go.RowKit Go.Deep
set_option linter.unusedVariables false
set_option maxRecDepth 100000

theorem runV_of {C : List Int} {HL : List (Int × List Int)} (h : hck C = 0) (hl : HL.length ≤ 40) : runV C HL = runGo C [] HL := runV_go h (by omega)

set_option maxHeartbeats 2000000 in
theorem holidayParts {w : World} {A A' : Option Addr} {L : List Int} {HL : List (Int × List Int)} {cap cap' : Nat} (h : Rd w w.heap.size A L) (h' : RdH w w.heap.size A' HL) (hcap : HL.length ≤ cap' ∧ (A' = none → cap' = 0)) (at_ : Int) (_h1 : I64 at_) :
    Calls Try.prog 9 #[.slice A L.length cap, .slice A' HL.length cap', .int .i64 at_] w fun e w' => e = .returned (.bool true) ∧ Below w.heap.size w w' := by
  have l1 := h.len
  have l2 := h'.len
  have CA := alive w
  have R : ∀ u, Below w.heap.size w u → w.heap.size ≤ u.heap.size ∧ Rd u w.heap.size A L ∧ RdH u w.heap.size A' HL := fun u hu => ⟨hu.size, h.below hu (Nat.le_refl _), h'.below hu (Nat.le_refl _)⟩
  have HR := Lib.hid R
  have HCAP := Lib.hid hcap
  clear R h h' _h1 hcap
  go_enter Try.func9, Try.ntmps9
  go_wp2_with fail
  refine CA.mono ?_
  rintro e w0 ⟨rfl, hb0⟩
  have H1 := HR.out w0 hb0
  have G1 := great33 (cap := cap') H1.2.2
  have CC := hrCheck (cap := cap) H1.2.1
  have HB0 := Lib.hid hb0
  clear CA H1 hb0
  go_wp2_with fail
  refine G1.mono ?_
  rintro e w' ⟨g1, rfl, rfl⟩
  cases g1
  case true =>
    clear HR G1 CC
    go_wp2
    go_ret
    exact ⟨rfl, HB0.out⟩
  case false =>
  clear G1
  by_cases hm : 40 < HL.length
  · clear HR CC
    go_wp2
    go_ret
    exact ⟨rfl, HB0.out⟩
  have d40 : decide (40 < (HL.length : Int)) = false := by simp; omega
  by_cases hk : hck L = 0
  · rw [hk] at CC
    by_cases a0 : at_ < 0
    · go_wp2_with (go_at_call 17; refine CC.mono ?_; rintro e w' ⟨rfl, rfl⟩)
      go_ret
      exact ⟨rfl, HB0.out⟩
    · obtain ⟨n, rfl⟩ := Int.eq_ofNat_of_zero_le (show 0 ≤ at_ by omega)
      by_cases a1 : HL.length < n
      · go_wp2_with (go_at_call 17; refine CC.mono ?_; rintro e w' ⟨rfl, rfl⟩)
        go_ret
        exact ⟨rfl, HB0.out⟩
      · have a2 : n ≤ HL.length := by omega
        go_wp2_with fail
        refine CC.mono ?_
        rintro e w' ⟨rfl, rfl⟩
        clear CC
        have hb := HB0.out
        have H1 := HR.out w0 hb
        go_wp2_with fail
        refine (hRun H1.2.1 H1.2.2 H1.1 H1.1).mono ?_
        rintro e w1 ⟨A1, c1, A2, c2, rfl, r1, r2, hb2⟩
        rw [runV_of hk (by omega)] at r1 r2 ⊢
        obtain ⟨e0, F0, M0, h0⟩ : ∃ e0 F0 M0, runGo L [] HL = (e0, F0, M0) := ⟨_, _, _, rfl⟩
        obtain ⟨e1, F1, M1, h1⟩ : ∃ e1 F1 M1, runGo L [] (HL.take n) = (e1, F1, M1) := ⟨_, _, _, rfl⟩
        obtain ⟨e2, F2, M2, h2⟩ : ∃ e2 F2 M2, runGo M1 [] (HL.drop n) = (e2, F2, M2) := ⟨_, _, _, rfl⟩
        have PL := Lib.hid (parts_law (hck_ok hk) (by omega) h0 h1 h2)
        rw [h0] at r1 r2 ⊢
        simp only at r1 r2 ⊢
        have R1 := Lib.hid r1
        have R2 := Lib.hid r2
        have HB2 := Lib.hid hb2
        have H0 := Lib.hid h0
        have H1e := Lib.hid h1
        have H2e := Lib.hid h2
        have HK := Lib.hid hk
        have HB := Lib.hid (hb.trans (hb2.mono hb.size))
        have hn1 : n ≤ cap' := by have := HCAP.out.1; omega
        clear r1 r2 hb2 hb h0 h1 h2 H1 hk
        have HH := HR.out w1 HB.out
        have C1 := hRun (cap := cap) (cap' := cap') HH.2.1 (HH.2.2.take n) HH.1 HH.1
        rw [List.length_take, Nat.min_eq_left a2, runV_of HK.out (by rw [List.length_take]; omega), H1e.out] at C1
        have HC1 := Lib.hid C1
        clear C1 HH
        go_wp2_with fail
        refine HC1.out.mono ?_
        rintro e w2 ⟨A3, c3, A4, c4, rfl, r3, r4, hb3⟩
        simp only at r3 r4
        clear HC1
        by_cases he1 : e1 = 0
        · subst he1
          obtain ⟨hM1, hM1l, he02, hgood⟩ := PL.out.2 rfl
          subst he02
          have HM1 := Lib.hid hM1
          have HM1l := Lib.hid hM1l
          have HG := Lib.hid hgood
          have R3 := Lib.hid r3
          have R4 := Lib.hid r4
          have HB3 := Lib.hid (HB.out.trans (hb3.mono HB.out.size))
          have HB3' := Lib.hid hb3
          clear hM1 hM1l hgood r3 r4 hb3 PL
          have hthree : (A' = none ∧ cap' = 0 ∧ HL = [] ∧ n = 0) ∨ (∃ ad, A' = some ad ∧ cap' = HL.length ∧ n = HL.length) ∨ (∃ ad, A' = some ad ∧ n < cap') := by
            cases A' with
            | none =>
              have hcz := HCAP.out.2 rfl
              have := HCAP.out.1
              exact .inl ⟨rfl, hcz, List.length_eq_zero_iff.1 (by omega), by omega⟩
            | some ad =>
              have := HCAP.out.1
              by_cases hcn : n < cap'
              · exact .inr (.inr ⟨ad, rfl, hcn⟩)
              · exact .inr (.inl ⟨ad, rfl, by omega, by omega⟩)
          have HH := HR.out w2 HB3.out
          have hdl : (HL.drop n).length = HL.length - n := List.length_drop
          have HPOST : Hid (RunRes w2 (runV M1 (HL.drop n)) = RunRes w2 (e0, F2, M2)) := Lib.hid (by rw [runV_of (hck_of HM1.out) (by rw [hdl]; omega), H2e.out])
          have CRUN : Hid (∀ (X : Option Addr) (c : Nat), RdH w2 w.heap.size X (HL.drop n) → Calls Try.prog 24 #[.slice A4 M1.length c4, .slice X (HL.length - n) c] w2 (RunRes w2 (e0, F2, M2))) := Lib.hid (fun X c hX => by
            have C2 := hRun (cap := c4) (cap' := c) R4.out hX (Nat.le_refl _) HH.1
            rw [hdl, HPOST.out] at C2
            exact C2)
          have HHD := Lib.hid HH.2.2
          clear HH hdl HPOST HCAP
          rcases hthree with ⟨rfl, rfl, rfl, rfl⟩ | ⟨ad, rfl, rfl, rfl⟩ | ⟨ad, rfl, hcn⟩
          · go_wp2_with fail
            refine (CRUN.out none 0 (RdOf.nil _ _ _)).mono ?_
            rintro e w3 ⟨A5, c5, A6, c6, rfl, r5, r6, hb5⟩
            simp only at r5 r6
            clear CRUN HHD
            by_cases he : e0 = 0
            · subst he
              obtain ⟨hF, hM, f1, f2, hE, hbd, hlen, hsum, hpl⟩ := HG.out rfl
              subst hM
              have HB5 := Lib.hid hb5
              have q3 := R3.out.below hb5 (Nat.le_refl _)
              obtain ⟨vs1, v1, v2, v3, v4⟩ := rd2_vals q3
              obtain ⟨vs2, u1, u2, u3, u4⟩ := rd2_vals r5
              have hown0 := own_empty w3 22
              have hal := Below.alloc (B := w3.heap.size) (Below.refl _ w3) (Nat.le_refl _) (.cells #[] 22)
              have hsz : (w3.alloc (.cells #[] 22)).heap.size = w3.heap.size + 1 := by simp
              have hz5 := hb5.size
              have n1 := VRowsN.of_vals (w := w3.alloc (.cells #[] 22)) (f := .slice (some ⟨w3.heap.size, 0, none⟩) 0 0) v1 (fun i L hi => by
                obtain ⟨A1, c, h1, h2⟩ := v3 i L hi
                exact ⟨A1, c, h1, h2.below hal (by omega)⟩) (by rw [hsz]; omega) (fun g hg => by simp [Value.ownBlock] at hg; omega)
              have o1 := n1.one
              have k1 : Hid (∀ ad, A3 = some ad → ∀ j u, vs1[j]? = some u → (w3.alloc (.cells #[] 22)).cell? (ad.add j) = some u) := Lib.hid fun ad h j u hu => cell_kept hal (Nat.le_refl _) (v4 ad h j u hu)
              have HV1 := Lib.hid v1
              have HV2 := Lib.hid v2
              have HN1 := Lib.hid n1
              have HO1 := Lib.hid o1
              have HU := Lib.hid (And.intro u1 (And.intro u2 (And.intro u3 u4)))
              have HOWN0 := Lib.hid hown0
              have HAL := Lib.hid hal
              have HSZ := Lib.hid hsz
              have Q5 := Lib.hid (And.intro r5 r6)
              have HFIN := Lib.hid (And.intro hE (And.intro hbd (And.intro hlen (And.intro hsum hpl))))
              have HF0 := Lib.hid hF
              obtain ⟨i0, hi0, hz0, hz1, hz2⟩ := info_parts infoSl
              have HI := Lib.hid hi0
              clear hown0 hal hsz n1 o1 v1 v2 v3 v4 u1 u2 u3 u4 q3 r5 r6 hb5 hE hbd hlen hsum hpl hi0 HG hF
              generalize hwa : w3.alloc (.cells #[] 22) = wa at *
              have HWA := Lib.hid hwa
              clear hwa
              have hwa := HWA.out
              go_wp2_with (at_builtin; refine wpList_append_opt rfl _ _ 44 rfl w3.heap.size 22 i0 (.slice none 0 0) 1 24 Try.underlying44 HI.out hz0 hz1 hz2 rfl (by decide) _ 0 [] rfl HOWN0.out A3 F1.length c3 vs1 rfl (by rw [HV1.out, Nat.mul_one]) HV2.out k1.out HO1.out (by unfold maxLen; omega) (by omega) (by rw [HSZ.out]; omega) ?_)
              intro v' w4 hown hgrow hat
              replace hown : w4.ownsRow w3.heap.size 22 1 v' F1.length vs1 := by simpa using hown
              have hb4 : Below w3.heap.size w3 w4 := HAL.out.grown hgrow (by rw [HSZ.out]; omega) (by intro k hk; simp [Value.ownBlock] at hk; omega)
              have m1 := HN1.out.grown hgrow hat
              have m2 := VRowsN.of_vals (w := w4) (f := v') HU.out.1 (fun i L hi => by
                obtain ⟨A1, c, h1, h2⟩ := HU.out.2.2.1 i L hi
                exact ⟨A1, c, h1, h2.below hb4 (Nat.le_refl _)⟩) hb4.size (fun g hg => (hown.lt g hg).1)
              have HM := Lib.hid (m1.append m2)
              have HO2 := Lib.hid m2.one
              have k2 : Hid (∀ ad, A5 = some ad → ∀ j u, vs2[j]? = some u → w4.cell? (ad.add j) = some u) := Lib.hid fun ad h j u hu => cell_kept hb4 (Nat.le_refl _) (HU.out.2.2.2 ad h j u hu)
              have HU1 := Lib.hid HU.out.1
              have HU2 := Lib.hid HU.out.2.1
              have HOWN4 := Lib.hid hown
              have HB4 := Lib.hid hb4
              clear hown hgrow hat hb4 m1 m2 hwa HWA HAL HSZ k1 HN1 HOWN0 HU HV1 HV2 HO1
              go_wp2_with (at_builtin; refine wpList_append_opt rfl _ _ 44 rfl w3.heap.size 22 i0 (.slice none 0 0) 1 24 Try.underlying44 HI.out hz0 hz1 hz2 rfl (by decide) _ F1.length vs1 rfl HOWN4.out A5 F2.length c5 vs2 rfl (by rw [HU1.out, Nat.mul_one]) HU2.out k2.out HO2.out (by unfold maxLen; omega) (by omega) HB4.out.size ?_)
              intro v2 w5 hown hgrow hat
              have hm5 := HM.out.grown hgrow hat
              have hm5' := hm5
              rw [← HF0.out] at hm5'
              rw [← List.length_append, ← HF0.out] at hown
              have hb5 : Below w3.heap.size w3 w5 := HB4.out.grown hgrow HB4.out.size (fun q hq => (HOWN4.out.lt q hq).1)
              obtain ⟨fa, fc, hfa, _⟩ := row_slice hown
              rw [hfa] at hown ⊢
              have RJ := Lib.hid (rd2_of_row hown hm5'.rows (by rw [HF0.out, List.length_append]; omega))
              have HBW := Lib.hid (HB3'.out.trans ((HB5.out.trans (hb5.mono HB5.out.size)).mono HB3'.out.size))
              have HBF := Lib.hid (HB.out.trans (HBW.out.mono HB.out.size))
              have R15 := Lib.hid (R1.out.below HBW.out (Nat.le_refl _))
              have R25 := Lib.hid (R2.out.below HBW.out (Nat.le_refl _))
              have R65 := Lib.hid (Q5.out.2.below hb5 (Nat.le_refl _))
              have SZ : Hid (w1.heap.size ≤ w5.heap.size ∧ w3.heap.size ≤ w5.heap.size) := Lib.hid ⟨HBW.out.size, hb5.size⟩
              clear hown hgrow hat hm5 hm5' hb5 hfa HM HOWN4 HB4 k2 HU1 HU2 HO2 Q5 R1 R2 R3 R4 HBW HB3' HB5 HB3
              have CH := hHad (cap := c1) R15.out SZ.out.1 (L.length : Int)
              rw [HFIN.out.1] at CH
              have HCH := Lib.hid CH
              clear CH
              go_wp2_with fail
              refine HCH.out.mono ?_
              rintro e w6 ⟨A7, c7, rfl, r7, hb6⟩
              obtain ⟨N, hN⟩ : ∃ N, hadV L.length F0 = N := ⟨_, rfl⟩
              have hfin := HFIN.out
              rw [hN] at hfin r7 ⊢
              have R7 := Lib.hid r7
              have HB6 := Lib.hid hb6
              have hNl := Lib.hid hfin.2.2.1
              have hNb := Lib.hid hfin.2.1
              have hNs := Lib.hid hfin.2.2.2.1
              have hNp := Lib.hid hfin.2.2.2.2
              have hN12 : N.length ≤ 12 := by rw [hNl.out]; exact (hck_ok HK.out).twelve
              clear hN hfin r7 hb6 HCH HFIN
              go_wp2
              go_loop [20, 21] (fun sv i => ∃ (k : Nat) (sm : Int), k ≤ N.length ∧ i = .int .i64 k ∧ sv = .int .i64 sm ∧ 0 ≤ sm ∧ sm ≤ 480 * (k : Int) ∧ Hid (sm = sumI (N.take k))) (fun _ i => N.length - (intOf i).toNat)
              case atStart => exact ⟨0, 0, by omega, rfl, rfl, by omega, by omega, Lib.hid rfl⟩
              case round =>
                obtain ⟨k, sm, hk, rfl, rfl, hs0, hs1, hs⟩ := hrel
                by_cases hlt : k < N.length
                · obtain ⟨b, off, x, rfl, hb, hx, hi, hc⟩ := R7.out.at_ hlt
                  have hxb := hNb.out x (List.mem_of_getElem? hx)
                  have HS := Lib.hid (show sm + x = sumI (N.take (k + 1)) by rw [takeA_succ hx, sumI_append, ← hs.out]; simp [sumI])
                  clear hx hi hs
                  go_wp2
                  go_round
                  case rel => exact ⟨k + 1, sm + x, by omega, by go_num, rfl, by omega, by omega, HS⟩
                  case measure => simp [intOf]; omega
                · have hge : N.length ≤ k := by omega
                  have hS : Hid (sm = sumI (([] : List (Int × List Int)).map (·.1))) := Lib.hid (by rw [hs.out, List.take_of_length_le hge, hNs.out])
                  have hsm : sm ≤ 10000 := by omega
                  clear hs1 hs hk
                  go_wp2
                  clear hge hlt
                  go_loop [20, 22] (fun sv i => ∃ (k : Nat) (sm : Int), k ≤ ([] : List (Int × List Int)).length ∧ i = .int .i64 k ∧ sv = .int .i64 sm ∧ -12 * (k : Int) ≤ sm ∧ sm ≤ 10000 ∧ Hid (sm = sumI ((([] : List (Int × List Int)).drop k).map (·.1)))) (fun _ i => ([] : List (Int × List Int)).length - (intOf i).toNat)
                  case atStart => exact ⟨0, sm, by omega, rfl, rfl, by omega, by omega, hS⟩
                  case round =>
                    obtain ⟨k, sm, hk, rfl, rfl, hs0, hs1, hs⟩ := hrel
                    by_cases hlt : k < ([] : List (Int × List Int)).length
                    · exact absurd hlt (by simp)
                    · have hge : ([] : List (Int × List Int)).length ≤ k := by omega
                      have hz : sm = 0 := by rw [hs.out, drop_end hge]; rfl
                      subst hz
                      clear hs
                      have z1 := SZ.out.1
                      have z2 := SZ.out.2
                      have z6 := HB6.out.size
                      go_wp2_with fail
                      refine (sameRows (cap := c1) (cap' := fc) (R15.out.below HB6.out (by omega)) (RJ.out.below HB6.out (Nat.le_refl _)) (by omega) (by omega)).mono ?_
                      rw [show decide (F0 = F0) = true by simp]
                      rintro e w7 ⟨rfl, hb7⟩
                      have HB7 := Lib.hid (HB6.out.trans (hb7.mono HB6.out.size))
                      have HB7' := Lib.hid hb7
                      have z7 := hb7.size
                      clear hb7
                      go_wp2_with fail
                      refine (sameInts (cap := c2) (cap' := c6) ((R25.out.below HB7.out (by omega))) (R65.out.below HB7.out (by omega)) (by omega) (by omega)).mono ?_
                      rw [show decide (M0 = M0) = true by simp]
                      rintro e w8 ⟨rfl, hb8⟩
                      have HB8 := Lib.hid (HBF.out.trans ((HB7.out.trans (hb8.mono HB7.out.size)).mono HBF.out.size))
                      clear hb8
                      go_wp2
                      go_ret
                      exact ⟨rfl, HB8.out⟩
            · have hne : (e0 != 0) = true := by simpa using he
              have HB5 := Lib.hid (HB3.out.trans (hb5.mono HB3.out.size))
              clear he r5 r6 hb5
              go_wp2
              go_ret
              exact ⟨rfl, HB5.out⟩
          · have C3 := CRUN.out (some ad) 0 (by rw [List.drop_length]; exact RdOf.nil _ _ _)
            rw [Nat.sub_self] at C3
            have HC3 := Lib.hid C3
            clear C3
            go_wp2_with fail
            refine HC3.out.mono ?_
            rintro e w3 ⟨A5, c5, A6, c6, rfl, r5, r6, hb5⟩
            simp only at r5 r6
            clear CRUN HHD
            by_cases he : e0 = 0
            · subst he
              obtain ⟨hF, hM, f1, f2, hE, hbd, hlen, hsum, hpl⟩ := HG.out rfl
              subst hM
              have HB5 := Lib.hid hb5
              have q3 := R3.out.below hb5 (Nat.le_refl _)
              obtain ⟨vs1, v1, v2, v3, v4⟩ := rd2_vals q3
              obtain ⟨vs2, u1, u2, u3, u4⟩ := rd2_vals r5
              have hown0 := own_empty w3 22
              have hal := Below.alloc (B := w3.heap.size) (Below.refl _ w3) (Nat.le_refl _) (.cells #[] 22)
              have hsz : (w3.alloc (.cells #[] 22)).heap.size = w3.heap.size + 1 := by simp
              have hz5 := hb5.size
              have n1 := VRowsN.of_vals (w := w3.alloc (.cells #[] 22)) (f := .slice (some ⟨w3.heap.size, 0, none⟩) 0 0) v1 (fun i L hi => by
                obtain ⟨A1, c, h1, h2⟩ := v3 i L hi
                exact ⟨A1, c, h1, h2.below hal (by omega)⟩) (by rw [hsz]; omega) (fun g hg => by simp [Value.ownBlock] at hg; omega)
              have o1 := n1.one
              have k1 : Hid (∀ ad, A3 = some ad → ∀ j u, vs1[j]? = some u → (w3.alloc (.cells #[] 22)).cell? (ad.add j) = some u) := Lib.hid fun ad h j u hu => cell_kept hal (Nat.le_refl _) (v4 ad h j u hu)
              have HV1 := Lib.hid v1
              have HV2 := Lib.hid v2
              have HN1 := Lib.hid n1
              have HO1 := Lib.hid o1
              have HU := Lib.hid (And.intro u1 (And.intro u2 (And.intro u3 u4)))
              have HOWN0 := Lib.hid hown0
              have HAL := Lib.hid hal
              have HSZ := Lib.hid hsz
              have Q5 := Lib.hid (And.intro r5 r6)
              have HFIN := Lib.hid (And.intro hE (And.intro hbd (And.intro hlen (And.intro hsum hpl))))
              have HF0 := Lib.hid hF
              obtain ⟨i0, hi0, hz0, hz1, hz2⟩ := info_parts infoSl
              have HI := Lib.hid hi0
              clear hown0 hal hsz n1 o1 v1 v2 v3 v4 u1 u2 u3 u4 q3 r5 r6 hb5 hE hbd hlen hsum hpl hi0 HG hF
              generalize hwa : w3.alloc (.cells #[] 22) = wa at *
              have HWA := Lib.hid hwa
              clear hwa
              have hwa := HWA.out
              go_wp2_with (at_builtin; refine wpList_append_opt rfl _ _ 44 rfl w3.heap.size 22 i0 (.slice none 0 0) 1 24 Try.underlying44 HI.out hz0 hz1 hz2 rfl (by decide) _ 0 [] rfl HOWN0.out A3 F1.length c3 vs1 rfl (by rw [HV1.out, Nat.mul_one]) HV2.out k1.out HO1.out (by unfold maxLen; omega) (by omega) (by rw [HSZ.out]; omega) ?_)
              intro v' w4 hown hgrow hat
              replace hown : w4.ownsRow w3.heap.size 22 1 v' F1.length vs1 := by simpa using hown
              have hb4 : Below w3.heap.size w3 w4 := HAL.out.grown hgrow (by rw [HSZ.out]; omega) (by intro k hk; simp [Value.ownBlock] at hk; omega)
              have m1 := HN1.out.grown hgrow hat
              have m2 := VRowsN.of_vals (w := w4) (f := v') HU.out.1 (fun i L hi => by
                obtain ⟨A1, c, h1, h2⟩ := HU.out.2.2.1 i L hi
                exact ⟨A1, c, h1, h2.below hb4 (Nat.le_refl _)⟩) hb4.size (fun g hg => (hown.lt g hg).1)
              have HM := Lib.hid (m1.append m2)
              have HO2 := Lib.hid m2.one
              have k2 : Hid (∀ ad, A5 = some ad → ∀ j u, vs2[j]? = some u → w4.cell? (ad.add j) = some u) := Lib.hid fun ad h j u hu => cell_kept hb4 (Nat.le_refl _) (HU.out.2.2.2 ad h j u hu)
              have HU1 := Lib.hid HU.out.1
              have HU2 := Lib.hid HU.out.2.1
              have HOWN4 := Lib.hid hown
              have HB4 := Lib.hid hb4
              clear hown hgrow hat hb4 m1 m2 hwa HWA HAL HSZ k1 HN1 HOWN0 HU HV1 HV2 HO1
              go_wp2_with (at_builtin; refine wpList_append_opt rfl _ _ 44 rfl w3.heap.size 22 i0 (.slice none 0 0) 1 24 Try.underlying44 HI.out hz0 hz1 hz2 rfl (by decide) _ F1.length vs1 rfl HOWN4.out A5 F2.length c5 vs2 rfl (by rw [HU1.out, Nat.mul_one]) HU2.out k2.out HO2.out (by unfold maxLen; omega) (by omega) HB4.out.size ?_)
              intro v2 w5 hown hgrow hat
              have hm5 := HM.out.grown hgrow hat
              have hm5' := hm5
              rw [← HF0.out] at hm5'
              rw [← List.length_append, ← HF0.out] at hown
              have hb5 : Below w3.heap.size w3 w5 := HB4.out.grown hgrow HB4.out.size (fun q hq => (HOWN4.out.lt q hq).1)
              obtain ⟨fa, fc, hfa, _⟩ := row_slice hown
              rw [hfa] at hown ⊢
              have RJ := Lib.hid (rd2_of_row hown hm5'.rows (by rw [HF0.out, List.length_append]; omega))
              have HBW := Lib.hid (HB3'.out.trans ((HB5.out.trans (hb5.mono HB5.out.size)).mono HB3'.out.size))
              have HBF := Lib.hid (HB.out.trans (HBW.out.mono HB.out.size))
              have R15 := Lib.hid (R1.out.below HBW.out (Nat.le_refl _))
              have R25 := Lib.hid (R2.out.below HBW.out (Nat.le_refl _))
              have R65 := Lib.hid (Q5.out.2.below hb5 (Nat.le_refl _))
              have SZ : Hid (w1.heap.size ≤ w5.heap.size ∧ w3.heap.size ≤ w5.heap.size) := Lib.hid ⟨HBW.out.size, hb5.size⟩
              clear hown hgrow hat hm5 hm5' hb5 hfa HM HOWN4 HB4 k2 HU1 HU2 HO2 Q5 R1 R2 R3 R4 HBW HB3' HB5 HB3
              have CH := hHad (cap := c1) R15.out SZ.out.1 (L.length : Int)
              rw [HFIN.out.1] at CH
              have HCH := Lib.hid CH
              clear CH
              go_wp2_with fail
              refine HCH.out.mono ?_
              rintro e w6 ⟨A7, c7, rfl, r7, hb6⟩
              obtain ⟨N, hN⟩ : ∃ N, hadV L.length F0 = N := ⟨_, rfl⟩
              have hfin := HFIN.out
              rw [hN] at hfin r7 ⊢
              have R7 := Lib.hid r7
              have HB6 := Lib.hid hb6
              have hNl := Lib.hid hfin.2.2.1
              have hNb := Lib.hid hfin.2.1
              have hNs := Lib.hid hfin.2.2.2.1
              have hNp := Lib.hid hfin.2.2.2.2
              have hN12 : N.length ≤ 12 := by rw [hNl.out]; exact (hck_ok HK.out).twelve
              clear hN hfin r7 hb6 HCH HFIN
              go_wp2
              go_loop [20, 21] (fun sv i => ∃ (k : Nat) (sm : Int), k ≤ N.length ∧ i = .int .i64 k ∧ sv = .int .i64 sm ∧ 0 ≤ sm ∧ sm ≤ 480 * (k : Int) ∧ Hid (sm = sumI (N.take k))) (fun _ i => N.length - (intOf i).toNat)
              case atStart => exact ⟨0, 0, by omega, rfl, rfl, by omega, by omega, Lib.hid rfl⟩
              case round =>
                obtain ⟨k, sm, hk, rfl, rfl, hs0, hs1, hs⟩ := hrel
                by_cases hlt : k < N.length
                · obtain ⟨b, off, x, rfl, hb, hx, hi, hc⟩ := R7.out.at_ hlt
                  have hxb := hNb.out x (List.mem_of_getElem? hx)
                  have HS := Lib.hid (show sm + x = sumI (N.take (k + 1)) by rw [takeA_succ hx, sumI_append, ← hs.out]; simp [sumI])
                  clear hx hi hs
                  go_wp2
                  go_round
                  case rel => exact ⟨k + 1, sm + x, by omega, by go_num, rfl, by omega, by omega, HS⟩
                  case measure => simp [intOf]; omega
                · have hge : N.length ≤ k := by omega
                  have hS : Hid (sm = sumI (HL.map (·.1))) := Lib.hid (by rw [hs.out, List.take_of_length_le hge, hNs.out])
                  have hsm : sm ≤ 10000 := by omega
                  clear hs1 hs hk
                  go_wp2
                  clear hge hlt
                  go_loop [20, 22] (fun sv i => ∃ (k : Nat) (sm : Int), k ≤ HL.length ∧ i = .int .i64 k ∧ sv = .int .i64 sm ∧ -12 * (k : Int) ≤ sm ∧ sm ≤ 10000 ∧ Hid (sm = sumI ((HL.drop k).map (·.1)))) (fun _ i => HL.length - (intOf i).toNat)
                  case atStart => exact ⟨0, sm, by omega, rfl, rfl, by omega, by omega, hS⟩
                  case round =>
                    obtain ⟨k, sm, hk, rfl, rfl, hs0, hs1, hs⟩ := hrel
                    by_cases hlt : k < HL.length
                    · have HRW := (HR.out w6 (HBF.out.trans (HB6.out.mono HBF.out.size))).2.2
                      obtain ⟨b, off, pl, bids, A8, c8, e8, hb, hx, hi, hc0, hc1, hrd⟩ := HRW.at_ hlt
                      cases e8
                      have hpb := hNp.out pl (List.mem_map.2 ⟨_, List.mem_of_getElem? hx, rfl⟩)
                      have HS := Lib.hid (show sm - pl = sumI ((HL.drop (k + 1)).map (·.1)) by rw [hs.out, dropA_of hx]; simp [sumI]; omega)
                      clear hx hi hs HRW hrd
                      go_wp2
                      go_round
                      case rel => exact ⟨k + 1, sm - pl, by omega, by go_num, rfl, by omega, by omega, HS⟩
                      case measure => simp [intOf]; omega
                    · have hge : HL.length ≤ k := by omega
                      have hz : sm = 0 := by rw [hs.out, drop_end hge]; rfl
                      subst hz
                      clear hs
                      have z1 := SZ.out.1
                      have z2 := SZ.out.2
                      have z6 := HB6.out.size
                      go_wp2_with fail
                      refine (sameRows (cap := c1) (cap' := fc) (R15.out.below HB6.out (by omega)) (RJ.out.below HB6.out (Nat.le_refl _)) (by omega) (by omega)).mono ?_
                      rw [show decide (F0 = F0) = true by simp]
                      rintro e w7 ⟨rfl, hb7⟩
                      have HB7 := Lib.hid (HB6.out.trans (hb7.mono HB6.out.size))
                      have HB7' := Lib.hid hb7
                      have z7 := hb7.size
                      clear hb7
                      go_wp2_with fail
                      refine (sameInts (cap := c2) (cap' := c6) ((R25.out.below HB7.out (by omega))) (R65.out.below HB7.out (by omega)) (by omega) (by omega)).mono ?_
                      rw [show decide (M0 = M0) = true by simp]
                      rintro e w8 ⟨rfl, hb8⟩
                      have HB8 := Lib.hid (HBF.out.trans ((HB7.out.trans (hb8.mono HB7.out.size)).mono HBF.out.size))
                      clear hb8
                      go_wp2
                      go_ret
                      exact ⟨rfl, HB8.out⟩
            · have hne : (e0 != 0) = true := by simpa using he
              have HB5 := Lib.hid (HB3.out.trans (hb5.mono HB3.out.size))
              clear he r5 r6 hb5
              go_wp2
              go_ret
              exact ⟨rfl, HB5.out⟩
          · go_wp2_with fail
            refine (CRUN.out (some (ad.add (n * 2))) (cap' - n) (HHD.out.drop fun _ b off he => by cases he; rw [addr_add])).mono ?_
            rintro e w3 ⟨A5, c5, A6, c6, rfl, r5, r6, hb5⟩
            simp only at r5 r6
            clear CRUN HHD
            by_cases he : e0 = 0
            · subst he
              obtain ⟨hF, hM, f1, f2, hE, hbd, hlen, hsum, hpl⟩ := HG.out rfl
              subst hM
              have HB5 := Lib.hid hb5
              have q3 := R3.out.below hb5 (Nat.le_refl _)
              obtain ⟨vs1, v1, v2, v3, v4⟩ := rd2_vals q3
              obtain ⟨vs2, u1, u2, u3, u4⟩ := rd2_vals r5
              have hown0 := own_empty w3 22
              have hal := Below.alloc (B := w3.heap.size) (Below.refl _ w3) (Nat.le_refl _) (.cells #[] 22)
              have hsz : (w3.alloc (.cells #[] 22)).heap.size = w3.heap.size + 1 := by simp
              have hz5 := hb5.size
              have n1 := VRowsN.of_vals (w := w3.alloc (.cells #[] 22)) (f := .slice (some ⟨w3.heap.size, 0, none⟩) 0 0) v1 (fun i L hi => by
                obtain ⟨A1, c, h1, h2⟩ := v3 i L hi
                exact ⟨A1, c, h1, h2.below hal (by omega)⟩) (by rw [hsz]; omega) (fun g hg => by simp [Value.ownBlock] at hg; omega)
              have o1 := n1.one
              have k1 : Hid (∀ ad, A3 = some ad → ∀ j u, vs1[j]? = some u → (w3.alloc (.cells #[] 22)).cell? (ad.add j) = some u) := Lib.hid fun ad h j u hu => cell_kept hal (Nat.le_refl _) (v4 ad h j u hu)
              have HV1 := Lib.hid v1
              have HV2 := Lib.hid v2
              have HN1 := Lib.hid n1
              have HO1 := Lib.hid o1
              have HU := Lib.hid (And.intro u1 (And.intro u2 (And.intro u3 u4)))
              have HOWN0 := Lib.hid hown0
              have HAL := Lib.hid hal
              have HSZ := Lib.hid hsz
              have Q5 := Lib.hid (And.intro r5 r6)
              have HFIN := Lib.hid (And.intro hE (And.intro hbd (And.intro hlen (And.intro hsum hpl))))
              have HF0 := Lib.hid hF
              obtain ⟨i0, hi0, hz0, hz1, hz2⟩ := info_parts infoSl
              have HI := Lib.hid hi0
              clear hown0 hal hsz n1 o1 v1 v2 v3 v4 u1 u2 u3 u4 q3 r5 r6 hb5 hE hbd hlen hsum hpl hi0 HG hF
              generalize hwa : w3.alloc (.cells #[] 22) = wa at *
              have HWA := Lib.hid hwa
              clear hwa
              have hwa := HWA.out
              go_wp2_with (at_builtin; refine wpList_append_opt rfl _ _ 44 rfl w3.heap.size 22 i0 (.slice none 0 0) 1 24 Try.underlying44 HI.out hz0 hz1 hz2 rfl (by decide) _ 0 [] rfl HOWN0.out A3 F1.length c3 vs1 rfl (by rw [HV1.out, Nat.mul_one]) HV2.out k1.out HO1.out (by unfold maxLen; omega) (by omega) (by rw [HSZ.out]; omega) ?_)
              intro v' w4 hown hgrow hat
              replace hown : w4.ownsRow w3.heap.size 22 1 v' F1.length vs1 := by simpa using hown
              have hb4 : Below w3.heap.size w3 w4 := HAL.out.grown hgrow (by rw [HSZ.out]; omega) (by intro k hk; simp [Value.ownBlock] at hk; omega)
              have m1 := HN1.out.grown hgrow hat
              have m2 := VRowsN.of_vals (w := w4) (f := v') HU.out.1 (fun i L hi => by
                obtain ⟨A1, c, h1, h2⟩ := HU.out.2.2.1 i L hi
                exact ⟨A1, c, h1, h2.below hb4 (Nat.le_refl _)⟩) hb4.size (fun g hg => (hown.lt g hg).1)
              have HM := Lib.hid (m1.append m2)
              have HO2 := Lib.hid m2.one
              have k2 : Hid (∀ ad, A5 = some ad → ∀ j u, vs2[j]? = some u → w4.cell? (ad.add j) = some u) := Lib.hid fun ad h j u hu => cell_kept hb4 (Nat.le_refl _) (HU.out.2.2.2 ad h j u hu)
              have HU1 := Lib.hid HU.out.1
              have HU2 := Lib.hid HU.out.2.1
              have HOWN4 := Lib.hid hown
              have HB4 := Lib.hid hb4
              clear hown hgrow hat hb4 m1 m2 hwa HWA HAL HSZ k1 HN1 HOWN0 HU HV1 HV2 HO1
              go_wp2_with (at_builtin; refine wpList_append_opt rfl _ _ 44 rfl w3.heap.size 22 i0 (.slice none 0 0) 1 24 Try.underlying44 HI.out hz0 hz1 hz2 rfl (by decide) _ F1.length vs1 rfl HOWN4.out A5 F2.length c5 vs2 rfl (by rw [HU1.out, Nat.mul_one]) HU2.out k2.out HO2.out (by unfold maxLen; omega) (by omega) HB4.out.size ?_)
              intro v2 w5 hown hgrow hat
              have hm5 := HM.out.grown hgrow hat
              have hm5' := hm5
              rw [← HF0.out] at hm5'
              rw [← List.length_append, ← HF0.out] at hown
              have hb5 : Below w3.heap.size w3 w5 := HB4.out.grown hgrow HB4.out.size (fun q hq => (HOWN4.out.lt q hq).1)
              obtain ⟨fa, fc, hfa, _⟩ := row_slice hown
              rw [hfa] at hown ⊢
              have RJ := Lib.hid (rd2_of_row hown hm5'.rows (by rw [HF0.out, List.length_append]; omega))
              have HBW := Lib.hid (HB3'.out.trans ((HB5.out.trans (hb5.mono HB5.out.size)).mono HB3'.out.size))
              have HBF := Lib.hid (HB.out.trans (HBW.out.mono HB.out.size))
              have R15 := Lib.hid (R1.out.below HBW.out (Nat.le_refl _))
              have R25 := Lib.hid (R2.out.below HBW.out (Nat.le_refl _))
              have R65 := Lib.hid (Q5.out.2.below hb5 (Nat.le_refl _))
              have SZ : Hid (w1.heap.size ≤ w5.heap.size ∧ w3.heap.size ≤ w5.heap.size) := Lib.hid ⟨HBW.out.size, hb5.size⟩
              clear hown hgrow hat hm5 hm5' hb5 hfa HM HOWN4 HB4 k2 HU1 HU2 HO2 Q5 R1 R2 R3 R4 HBW HB3' HB5 HB3
              have CH := hHad (cap := c1) R15.out SZ.out.1 (L.length : Int)
              rw [HFIN.out.1] at CH
              have HCH := Lib.hid CH
              clear CH
              go_wp2_with fail
              refine HCH.out.mono ?_
              rintro e w6 ⟨A7, c7, rfl, r7, hb6⟩
              obtain ⟨N, hN⟩ : ∃ N, hadV L.length F0 = N := ⟨_, rfl⟩
              have hfin := HFIN.out
              rw [hN] at hfin r7 ⊢
              have R7 := Lib.hid r7
              have HB6 := Lib.hid hb6
              have hNl := Lib.hid hfin.2.2.1
              have hNb := Lib.hid hfin.2.1
              have hNs := Lib.hid hfin.2.2.2.1
              have hNp := Lib.hid hfin.2.2.2.2
              have hN12 : N.length ≤ 12 := by rw [hNl.out]; exact (hck_ok HK.out).twelve
              clear hN hfin r7 hb6 HCH HFIN
              go_wp2
              go_loop [20, 21] (fun sv i => ∃ (k : Nat) (sm : Int), k ≤ N.length ∧ i = .int .i64 k ∧ sv = .int .i64 sm ∧ 0 ≤ sm ∧ sm ≤ 480 * (k : Int) ∧ Hid (sm = sumI (N.take k))) (fun _ i => N.length - (intOf i).toNat)
              case atStart => exact ⟨0, 0, by omega, rfl, rfl, by omega, by omega, Lib.hid rfl⟩
              case round =>
                obtain ⟨k, sm, hk, rfl, rfl, hs0, hs1, hs⟩ := hrel
                by_cases hlt : k < N.length
                · obtain ⟨b, off, x, rfl, hb, hx, hi, hc⟩ := R7.out.at_ hlt
                  have hxb := hNb.out x (List.mem_of_getElem? hx)
                  have HS := Lib.hid (show sm + x = sumI (N.take (k + 1)) by rw [takeA_succ hx, sumI_append, ← hs.out]; simp [sumI])
                  clear hx hi hs
                  go_wp2
                  go_round
                  case rel => exact ⟨k + 1, sm + x, by omega, by go_num, rfl, by omega, by omega, HS⟩
                  case measure => simp [intOf]; omega
                · have hge : N.length ≤ k := by omega
                  have hS : Hid (sm = sumI (HL.map (·.1))) := Lib.hid (by rw [hs.out, List.take_of_length_le hge, hNs.out])
                  have hsm : sm ≤ 10000 := by omega
                  clear hs1 hs hk
                  go_wp2
                  clear hge hlt
                  go_loop [20, 22] (fun sv i => ∃ (k : Nat) (sm : Int), k ≤ HL.length ∧ i = .int .i64 k ∧ sv = .int .i64 sm ∧ -12 * (k : Int) ≤ sm ∧ sm ≤ 10000 ∧ Hid (sm = sumI ((HL.drop k).map (·.1)))) (fun _ i => HL.length - (intOf i).toNat)
                  case atStart => exact ⟨0, sm, by omega, rfl, rfl, by omega, by omega, hS⟩
                  case round =>
                    obtain ⟨k, sm, hk, rfl, rfl, hs0, hs1, hs⟩ := hrel
                    by_cases hlt : k < HL.length
                    · have HRW := (HR.out w6 (HBF.out.trans (HB6.out.mono HBF.out.size))).2.2
                      obtain ⟨b, off, pl, bids, A8, c8, e8, hb, hx, hi, hc0, hc1, hrd⟩ := HRW.at_ hlt
                      cases e8
                      have hpb := hNp.out pl (List.mem_map.2 ⟨_, List.mem_of_getElem? hx, rfl⟩)
                      have HS := Lib.hid (show sm - pl = sumI ((HL.drop (k + 1)).map (·.1)) by rw [hs.out, dropA_of hx]; simp [sumI]; omega)
                      clear hx hi hs HRW hrd
                      go_wp2
                      go_round
                      case rel => exact ⟨k + 1, sm - pl, by omega, by go_num, rfl, by omega, by omega, HS⟩
                      case measure => simp [intOf]; omega
                    · have hge : HL.length ≤ k := by omega
                      have hz : sm = 0 := by rw [hs.out, drop_end hge]; rfl
                      subst hz
                      clear hs
                      have z1 := SZ.out.1
                      have z2 := SZ.out.2
                      have z6 := HB6.out.size
                      go_wp2_with fail
                      refine (sameRows (cap := c1) (cap' := fc) (R15.out.below HB6.out (by omega)) (RJ.out.below HB6.out (Nat.le_refl _)) (by omega) (by omega)).mono ?_
                      rw [show decide (F0 = F0) = true by simp]
                      rintro e w7 ⟨rfl, hb7⟩
                      have HB7 := Lib.hid (HB6.out.trans (hb7.mono HB6.out.size))
                      have HB7' := Lib.hid hb7
                      have z7 := hb7.size
                      clear hb7
                      go_wp2_with fail
                      refine (sameInts (cap := c2) (cap' := c6) ((R25.out.below HB7.out (by omega))) (R65.out.below HB7.out (by omega)) (by omega) (by omega)).mono ?_
                      rw [show decide (M0 = M0) = true by simp]
                      rintro e w8 ⟨rfl, hb8⟩
                      have HB8 := Lib.hid (HBF.out.trans ((HB7.out.trans (hb8.mono HB7.out.size)).mono HBF.out.size))
                      clear hb8
                      go_wp2
                      go_ret
                      exact ⟨rfl, HB8.out⟩
            · have hne : (e0 != 0) = true := by simpa using he
              have HB5 := Lib.hid (HB3.out.trans (hb5.mono HB3.out.size))
              clear he r5 r6 hb5
              go_wp2
              go_ret
              exact ⟨rfl, HB5.out⟩
        · obtain ⟨q1, q2⟩ := PL.out.1 he1
          subst q1
          subst q2
          have hne : (e0 != 0) = true := by simpa using he1
          have HB3 := Lib.hid (HB.out.trans (hb3.mono HB.out.size))
          clear he1 r3 r4 hb3 PL
          go_wp2
          go_ret
          exact ⟨rfl, HB3.out⟩
  · have hb : (hck L != 0) = true := by simpa using hk
    clear hk HR
    generalize hck L = c at *
    go_wp2_with (go_at_call 17; refine CC.mono ?_; rintro e w' ⟨rfl, rfl⟩)
    go_ret
    exact ⟨rfl, HB0.out⟩
end Go.Proofs.Ytipidlonidihbaa

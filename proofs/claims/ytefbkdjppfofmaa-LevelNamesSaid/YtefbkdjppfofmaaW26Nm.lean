import Derived.Test.YtefbkdjppfofmaaW26N1
/-! The walk of LevelNames. -/
namespace Go.Proofs.Ytefbkdjppfofmaa
open Go.RowKit Go.Deep
set_option linter.unusedVariables false
set_option maxRecDepth 100000
set_option maxHeartbeats 4000000 in
theorem levelNames {w : World} : Calls Try.prog 8 #[] w fun e w' => e = .returned (.bool true) ∧ Below w.heap.size w w' := by
  go_enter Try.func8, Try.ntmps8
  go_wp2_with fail
  refine (chkNil w).mono ?_
  rintro e w1 ⟨rfl, b1⟩
  have B1 := Lib.hid (b1)
  clear b1
  have hm := mk7b
  go_wp2_with fail
  refine (chk7 w1).mono ?_
  rintro e w2 ⟨rfl, b2⟩
  have B2 := Lib.hid (B1.out.trans (b2.mono B1.out.size))
  clear b2
  clear B1
  clear hm
  have hm := mk11b
  go_wp2_with fail
  refine (chk11 w2).mono ?_
  rintro e w3 ⟨rfl, b3⟩
  have B3 := Lib.hid (B2.out.trans (b3.mono B2.out.size))
  clear b3
  clear B2
  clear hm
  go_wp2_with fail
  refine (chkTT w3).mono ?_
  rintro e w4 ⟨rfl, b4⟩
  have B4 := Lib.hid (B3.out.trans (b4.mono B3.out.size))
  clear b4
  clear B3
  go_wp2_with fail
  refine (lExample w4).mono ?_
  rintro e w5 ⟨AX5, cX5, rfl, rX5, b5⟩
  have B5 := Lib.hid (B4.out.trans (b5.mono B4.out.size))
  have RX5 : Hid (RdB2 w5 w5.heap.size AX5 exW) := Lib.hid rX5
  have lX : exW.length = 2 := rfl
  rw [lX]
  clear b5 rX5 B4 lX
  go_wp2_with fail
  refine (countsLit (cap := cX5) (L := [0, 0, -1]) RX5.out (by decide) (by decide) nm_lkd.1).mono ?_
  rintro e w6 ⟨_, _, _, rfl, b6⟩
  have B6 := Lib.hid (B5.out.trans (b6.mono B5.out.size))
  clear b6
  clear B5
  clear RX5
  go_wp2_with fail
  refine (lExample w6).mono ?_
  rintro e w7 ⟨AX7, cX7, rfl, rX7, b7⟩
  have B7 := Lib.hid (B6.out.trans (b7.mono B6.out.size))
  have RX7 : Hid (RdB2 w7 w7.heap.size AX7 exW) := Lib.hid rX7
  have lX : exW.length = 2 := rfl
  rw [lX]
  clear b7 rX7 B6 lX
  go_wp2_with fail
  refine (countsLit (cap := cX7) (L := [0, 1, 1]) RX7.out (by decide) (by decide) nm_lkd.2.1).mono ?_
  rintro e w8 ⟨_, _, _, rfl, b8⟩
  have B8 := Lib.hid (B7.out.trans (b8.mono B7.out.size))
  clear b8
  clear B7
  clear RX7
  go_wp2_with fail
  refine (lExample w8).mono ?_
  rintro e w9 ⟨AX9, cX9, rfl, rX9, b9⟩
  have B9 := Lib.hid (B8.out.trans (b9.mono B8.out.size))
  have RX9 : Hid (RdB2 w9 w9.heap.size AX9 exW) := Lib.hid rX9
  have lX : exW.length = 2 := rfl
  rw [lX]
  clear b9 rX9 B8 lX
  go_wp2_with fail
  refine (countsLit (cap := cX9) (L := [0, 0]) RX9.out (by decide) (by decide) nm_lkd.2.2).mono ?_
  rintro e w10 ⟨_, _, _, rfl, b10⟩
  have B10 := Lib.hid (B9.out.trans (b10.mono B9.out.size))
  clear b10
  clear B9
  clear RX9
  have hm := mk3b
  go_wp2_with fail
  refine (even3 w10).mono ?_
  rintro e w11 ⟨_, _, rfl, b11⟩
  have B11 := Lib.hid (B10.out.trans (b11.mono B10.out.size))
  clear b11
  clear B10
  clear hm
  go_wp2_with fail
  refine (evenNob w11).mono ?_
  rintro e w12 ⟨AE, cE, rfl, rE, b12⟩
  have B12 := Lib.hid (B11.out.trans (b12.mono B11.out.size))
  clear b12
  have RE := Lib.hid rE
  clear rE
  clear B11
  go_wp2_with fail
  refine (lExample w12).mono ?_
  rintro e w13 ⟨AX13, cX13, rfl, rX13, b13⟩
  have B13 := Lib.hid (B12.out.trans (b13.mono B12.out.size))
  replace RE := Lib.hid ((RE.out.below b13 (Nat.le_refl _)).more b13.size)
  have RX13 : Hid (RdB2 w13 w13.heap.size AX13 exW) := Lib.hid rX13
  have lX : exW.length = 2 := rfl
  rw [lX]
  clear b13 rX13 B12 lX
  go_wp2_with fail
  refine (passLit (cap := cX13) (L := [0, 0, 0]) (M := [0]) RX13.out (by decide) (by decide) (by decide) (by decide) nm_ps.1).mono ?_
  rintro e w14 ⟨AP0, cP0, rfl, rP0, b14⟩
  have B14 := Lib.hid (B13.out.trans (b14.mono B13.out.size))
  replace RE := Lib.hid ((RE.out.below b14 (Nat.le_refl _)).more b14.size)
  clear b14
  clear B13
  clear rP0
  generalize (psF exW [0, 0, 0] [0]).length = lP0
  clear RX13
  go_wp2_with fail
  refine (lExample w14).mono ?_
  rintro e w15 ⟨AX15, cX15, rfl, rX15, b15⟩
  have B15 := Lib.hid (B14.out.trans (b15.mono B14.out.size))
  replace RE := Lib.hid ((RE.out.below b15 (Nat.le_refl _)).more b15.size)
  have RX15 : Hid (RdB2 w15 w15.heap.size AX15 exW) := Lib.hid rX15
  have lX : exW.length = 2 := rfl
  rw [lX]
  clear b15 rX15 B14 lX
  go_wp2_with fail
  refine (passLit (cap := cX15) (L := [0, 0, 0]) (M := [1, 0]) RX15.out (by decide) (by decide) (by decide) (by decide) nm_ps.2.1).mono ?_
  rintro e w16 ⟨AP1, cP1, rfl, rP1, b16⟩
  have B16 := Lib.hid (B15.out.trans (b16.mono B15.out.size))
  replace RE := Lib.hid ((RE.out.below b16 (Nat.le_refl _)).more b16.size)
  clear b16
  clear B15
  clear rP1
  generalize (psF exW [0, 0, 0] [1, 0]).length = lP1
  clear RX15
  go_wp2_with fail
  refine (lExample w16).mono ?_
  rintro e w17 ⟨AX17, cX17, rfl, rX17, b17⟩
  have B17 := Lib.hid (B16.out.trans (b17.mono B16.out.size))
  replace RE := Lib.hid ((RE.out.below b17 (Nat.le_refl _)).more b17.size)
  have RX17 : Hid (RdB2 w17 w17.heap.size AX17 exW) := Lib.hid rX17
  have lX : exW.length = 2 := rfl
  rw [lX]
  clear b17 rX17 B16 lX
  go_wp2_with fail
  refine (passLit (cap := cX17) (L := [0, 0, 0]) (M := [0, 0]) RX17.out (by decide) (by decide) (by decide) (by decide) nm_ps.2.2.1).mono ?_
  rintro e w18 ⟨AP2, cP2, rfl, rP2, b18⟩
  have B18 := Lib.hid (B17.out.trans (b18.mono B17.out.size))
  replace RE := Lib.hid ((RE.out.below b18 (Nat.le_refl _)).more b18.size)
  clear b18
  clear B17
  clear rP2
  generalize (psF exW [0, 0, 0] [0, 0]).length = lP2
  clear RX17
  go_wp2_with fail
  refine (lExample w18).mono ?_
  rintro e w19 ⟨AX19, cX19, rfl, rX19, b19⟩
  have B19 := Lib.hid (B18.out.trans (b19.mono B18.out.size))
  replace RE := Lib.hid ((RE.out.below b19 (Nat.le_refl _)).more b19.size)
  have RX19 : Hid (RdB2 w19 w19.heap.size AX19 exW) := Lib.hid rX19
  have lX : exW.length = 2 := rfl
  rw [lX]
  clear b19 rX19 B18 lX
  go_wp2_with fail
  refine (passLit (cap := cX19) (L := [0, 0, 0]) (M := [0, 1]) RX19.out (by decide) (by decide) (by decide) (by decide) nm_ps.2.2.2.1).mono ?_
  rintro e w20 ⟨AP3, cP3, rfl, rP3, b20⟩
  have B20 := Lib.hid (B19.out.trans (b20.mono B19.out.size))
  replace RE := Lib.hid ((RE.out.below b20 (Nat.le_refl _)).more b20.size)
  clear b20
  have RP := Lib.hid rP3
  clear rP3
  clear B19
  have eP := nm_ps.2.2.2.2
  rw [eP] at RP
  rw [eP]
  have lP : ([0, 0, 1] : List Int).length = 3 := rfl
  rw [lP]
  clear eP lP
  clear RX19
  go_wp2_with fail
  refine (moreLit (L := [1, 2]) (M := [3, 0]) (by decide) (by decide) (by decide) (by decide) more1.1 more1.2).mono ?_
  rintro e w21 ⟨rfl, b21⟩
  have B21 := Lib.hid (B20.out.trans (b21.mono B20.out.size))
  replace RE := Lib.hid ((RE.out.below b21 (Nat.le_refl _)).more b21.size)
  replace RP := Lib.hid ((RP.out.below b21 (Nat.le_refl _)).more b21.size)
  clear b21
  clear B20
  go_wp2_with fail
  refine (moreLit (L := [0, 3]) (M := [3, 0]) (by decide) (by decide) (by decide) (by decide) more2.1 more2.2).mono ?_
  rintro e w22 ⟨rfl, b22⟩
  have B22 := Lib.hid (B21.out.trans (b22.mono B21.out.size))
  replace RE := Lib.hid ((RE.out.below b22 (Nat.le_refl _)).more b22.size)
  replace RP := Lib.hid ((RP.out.below b22 (Nat.le_refl _)).more b22.size)
  clear b22
  clear B21
  go_wp2_with fail
  refine (moreNil w22).mono ?_
  rintro e w23 ⟨rfl, b23⟩
  have B23 := Lib.hid (B22.out.trans (b23.mono B22.out.size))
  replace RE := Lib.hid ((RE.out.below b23 (Nat.le_refl _)).more b23.size)
  replace RP := Lib.hid ((RP.out.below b23 (Nat.le_refl _)).more b23.size)
  clear b23
  clear B22
  go_wp2_with fail
  refine (moreLit (L := [-1]) (M := [1]) (v := 0) (c := 8) (by decide) (by decide) (by decide) (by decide) (by rw [moreV, nm_more.2.1, if_neg (by decide)]) nm_more.2.1).mono ?_
  rintro e w24 ⟨rfl, b24⟩
  have B24 := Lib.hid (B23.out.trans (b24.mono B23.out.size))
  replace RE := Lib.hid ((RE.out.below b24 (Nat.le_refl _)).more b24.size)
  replace RP := Lib.hid ((RP.out.below b24 (Nat.le_refl _)).more b24.size)
  clear b24
  clear B23
  have hm := mk7i
  go_wp2_with fail
  go_region_law (go_simp; go_at_call 24; (first | with_reducible refine Calls.mono (more7 w24) ?_ | with_reducible refine Calls.mono (more7s w24) ?_); rintro e w25 ⟨rfl, b25⟩)
  · have B25 := Lib.hid (B24.out.trans (b25.mono B24.out.size))
    replace RE := Lib.hid ((RE.out.below b25 (Nat.le_refl _)).more b25.size)
    replace RP := Lib.hid ((RP.out.below b25 (Nat.le_refl _)).more b25.size)
    clear b25 B24 hm
    go_wp2_with fail
    refine (alive26 w25).mono ?_
    rintro e w26 ⟨rfl, b26⟩
    have B26 := Lib.hid (B25.out.trans (b26.mono B25.out.size))
    replace RE := Lib.hid ((RE.out.below b26 (Nat.le_refl _)).more b26.size)
    replace RP := Lib.hid ((RP.out.below b26 (Nat.le_refl _)).more b26.size)
    clear b26
    clear B25
    go_wp2_with fail
    refine (sameLit (cap := cE) (L := [-1, 0]) RE.out (by decide) (by decide)).mono ?_
    rintro e w27 ⟨rfl, b27⟩
    have B27 := Lib.hid (B26.out.trans (b27.mono B26.out.size))
    replace RP := Lib.hid ((RP.out.below b27 (Nat.le_refl _)).more b27.size)
    clear b27
    clear B26
    go_wp2_with fail
    refine (sameLit (cap := cP3) (L := [0, 0, 1]) RP.out (by decide) (by decide)).mono ?_
    rintro e w28 ⟨rfl, b28⟩
    have B28 := Lib.hid (B27.out.trans (b28.mono B27.out.size))
    clear b28
    clear B27
    go_wp2
    go_ret
    exact ⟨rfl, B28.out⟩
  · have B25 := Lib.hid (B24.out.trans (b25.mono B24.out.size))
    replace RE := Lib.hid ((RE.out.below b25 (Nat.le_refl _)).more b25.size)
    replace RP := Lib.hid ((RP.out.below b25 (Nat.le_refl _)).more b25.size)
    clear b25 B24 hm
    go_wp2_with fail
    refine (alive26 w25).mono ?_
    rintro e w26 ⟨rfl, b26⟩
    have B26 := Lib.hid (B25.out.trans (b26.mono B25.out.size))
    replace RE := Lib.hid ((RE.out.below b26 (Nat.le_refl _)).more b26.size)
    replace RP := Lib.hid ((RP.out.below b26 (Nat.le_refl _)).more b26.size)
    clear b26
    clear B25
    go_wp2_with fail
    refine (sameLit (cap := cE) (L := [-1, 0]) RE.out (by decide) (by decide)).mono ?_
    rintro e w27 ⟨rfl, b27⟩
    have B27 := Lib.hid (B26.out.trans (b27.mono B26.out.size))
    replace RP := Lib.hid ((RP.out.below b27 (Nat.le_refl _)).more b27.size)
    clear b27
    clear B26
    go_wp2_with fail
    refine (sameLit (cap := cP3) (L := [0, 0, 1]) RP.out (by decide) (by decide)).mono ?_
    rintro e w28 ⟨rfl, b28⟩
    have B28 := Lib.hid (B27.out.trans (b28.mono B27.out.size))
    clear b28
    clear B27
    go_wp2
    go_ret
    exact ⟨rfl, B28.out⟩
end Go.Proofs.Ytefbkdjppfofmaa

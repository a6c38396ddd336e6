import Derived.Test.YtjgobpejifhphaaW34k
/-! Walks of chapter 34: both Gains. -/
namespace Go.Proofs.Ytjgobpejifhphaa
open Go.RowKit Go.Deep
set_option linter.unusedVariables false

def badGain (n : Nat) (i wv : Int) : Prop := i < 0 ∨ (n : Int) ≤ i ∨ wv < 0 ∨ 1000000 < wv
instance (n : Nat) (i wv : Int) : Decidable (badGain n i wv) := by unfold badGain; infer_instance
def gE (L O : List Int) (r i wv : Int) : Int := if sE L O r ≠ 0 then sE L O r else if badGain L.length i wv then 2 else 0
def gV (L O : List Int) (r i wv : Int) : Int :=
  if gE L O r i wv ≠ 0 then 0 else sumL L * ((pyL L O r).getD i.toNat 0 + if i = bestOf O (-1) then wv else 0) - L.getD i.toNat 0 * wv
theorem gE_bad {L O : List Int} {r i wv : Int} (h : sE L O r ≠ 0) : gE L O r i wv = sE L O r := by rw [gE, if_pos h]
theorem gE_arg {L O : List Int} {r i wv : Int} (h : sE L O r = 0) (h2 : badGain L.length i wv) : gE L O r i wv = 2 := by rw [gE, if_neg (by simp [h]), if_pos h2]
theorem gE_ok {L O : List Int} {r i wv : Int} (h : sE L O r = 0) (h2 : ¬ badGain L.length i wv) : gE L O r i wv = 0 := by rw [gE, if_neg (by simp [h]), if_neg h2]
theorem gV_no {L O : List Int} {r i wv : Int} (h : gE L O r i wv ≠ 0) : gV L O r i wv = 0 := by rw [gV, if_pos h]
theorem gV_ok {L O : List Int} {r wv : Int} {i : Nat} {x y : Int} (h : gE L O r i wv = 0) (hx : L[i]? = some x) (hy : (pyL L O r)[i]? = some y) :
    gV L O r i wv = sumL L * (y + if (i : Int) = bestOf O (-1) then wv else 0) - x * wv := by
  rw [gV, if_neg (by simp [h])]
  have h1 : L.getD i 0 = x := by simp [List.getD, hx]
  have h2 : (pyL L O r).getD i 0 = y := by simp [List.getD, hy]
  rw [Int.toNat_natCast, h1, h2]

/-- the payments are what PayAt says, and small -/
theorem pyL_small {L O : List Int} {r : Int} (he : sE L O r = 0) : (pyL L O r).length = L.length ∧ ∀ y ∈ pyL L O r, -10000000 ≤ y ∧ y ≤ 10000000 := by
  have hl := sE_zero he
  have hV := lok_ok hl
  obtain ⟨b, v, g, s, eb, eg, hs⟩ := hV.sale
  have hp := priceOf_bd (r := r) hl
  have hbl : b < L.length := by have := hs.best.lt_len; have := hV.len; omega
  rw [pyL, if_pos he, eb, Int.toNat_natCast]
  refine ⟨by simp [payL], ?_⟩
  have hall : ∀ y ∈ L, 1 ≤ y ∧ y ≤ sumL L := fun y hy => ⟨hV.v.pos y hy, le_sumL hV.v.pos hy⟩
  intro y hy
  obtain ⟨j, hj, rfl⟩ := List.mem_map.1 hy
  have hj' : j < L.length := by simpa using hj
  have b1 := partSum_bd (b := b) hp.1 hp.2 (S := sumL L) (L := L) (k := 0) hall
  have := hV.v.ten
  split
  · omega
  · have hx := hall (L.getD j 0) (by simp [List.getD, hj'])
    have := part_bd hp.1 hp.2 hx.1 hx.2
    omega
theorem gain_bd {S y x wv : Int} (h1 : 2 ≤ S) (h2 : S ≤ 1000) (h3 : -11000000 ≤ y) (h4 : y ≤ 11000000) (h5 : 1 ≤ x) (h6 : x ≤ 1000) (h7 : 0 ≤ wv) (h8 : wv ≤ 1000000) :
    (-11000000000 ≤ S * y ∧ S * y ≤ 11000000000) ∧ (0 ≤ x * wv ∧ x * wv ≤ 1000000000) ∧ (0 ≤ S * wv ∧ S * wv ≤ 1000000000) := by
  have a1 : S * y ≤ S * 11000000 := Int.mul_le_mul_of_nonneg_left h4 (by omega)
  have a2 : S * -11000000 ≤ S * y := Int.mul_le_mul_of_nonneg_left h3 (by omega)
  have a3 : x * wv ≤ 1000 * 1000000 := Int.mul_le_mul h6 h8 h7 (by omega)
  have a4 : S * wv ≤ 1000 * 1000000 := Int.mul_le_mul h2 h8 h7 (by omega)
  have a5 : 0 ≤ x * wv := Int.mul_nonneg (by omega) h7
  have a6 : 0 ≤ S * wv := Int.mul_nonneg (by omega) h7
  refine ⟨⟨by omega, by omega⟩, ⟨a5, by omega⟩, ⟨a6, by omega⟩⟩

set_option maxHeartbeats 2000000 in
theorem dGain {w : World} {B C : Nat} {A A' : Option Addr} {L O : List Int} {cap cap' : Nat} (h : Rd w B A L) (hB : B ≤ w.heap.size) (h' : Rd w C A' O) (hC : C ≤ w.heap.size) (r i wv : Int) :
    Calls Try.prog 16 #[.slice A L.length cap, .slice A' O.length cap', .int .i64 r, .int .i64 i, .int .i64 wv] w
      fun e w' => e = .returned (.tuple #[.int .i64 (gV L O r i wv), .int .i64 (gE L O r i wv)]) ∧ Below w.heap.size w w' := by
  have C1 := dPay (cap := cap) (cap' := cap') h hB h' hC r
  have hlen := h.len
  have HB := Lib.hid hB
  have HC := Lib.hid hC
  by_cases he : sE L O r = 0
  · rw [he] at C1
    have hV := lok_ok (sE_zero he)
    have hps := pyL_small he
    by_cases hbad : badGain L.length i wv
    · have hgE := gE_arg (O := O) he hbad
      rw [gV_no (by rw [hgE]; decide), hgE]
      clear hgE hps hV he h h' hB hC
      unfold badGain at hbad
      by_cases g1 : i < 0
      · go_enter Try.func16, Try.ntmps16
        go_wp2_with (go_at_call 40; refine C1.mono ?_; rintro e w1 ⟨A1, c1, rfl, hr1, hb1⟩)
        go_ret2
        exact ⟨rfl, hb1⟩
      · by_cases g2 : (L.length : Int) ≤ i
        · go_enter Try.func16, Try.ntmps16
          go_wp2_with (go_at_call 40; refine C1.mono ?_; rintro e w1 ⟨A1, c1, rfl, hr1, hb1⟩)
          go_ret2
          exact ⟨rfl, hb1⟩
        · by_cases g3 : wv < 0
          · go_enter Try.func16, Try.ntmps16
            go_wp2_with (go_at_call 40; refine C1.mono ?_; rintro e w1 ⟨A1, c1, rfl, hr1, hb1⟩)
            go_ret2
            exact ⟨rfl, hb1⟩
          · have g4 : 1000000 < wv := by omega
            clear hbad
            go_enter Try.func16, Try.ntmps16
            go_wp2_with (go_at_call 40; refine C1.mono ?_; rintro e w1 ⟨A1, c1, rfl, hr1, hb1⟩)
            go_ret2
            exact ⟨rfl, hb1⟩
    · have hgE := gE_ok (O := O) he hbad
      unfold badGain at hbad
      have g1 : 0 ≤ i := by omega
      have g2 : i < (L.length : Int) := by omega
      have g3 : 0 ≤ wv := by omega
      have g4 : wv ≤ 1000000 := by omega
      obtain ⟨k, rfl⟩ := Int.eq_ofNat_of_zero_le g1
      have hk : k < L.length := by omega
      obtain ⟨x, hx⟩ : ∃ x, L[k]? = some x := ⟨L[k], by simp [hk]⟩
      obtain ⟨y, hy⟩ : ∃ y, (pyL L O r)[k]? = some y := ⟨(pyL L O r)[k]'(by rw [hps.1]; exact hk), by simp⟩
      have hyb := hps.2 y (mem_of hy)
      have hxb := hV.v.le (mem_of hx)
      have hS := hV.v.sum_pos
      have hS' := hV.v.sum
      have hfin := Lib.hid (gV_ok hgE hx hy)
      rw [hgE]
      have HH := Lib.hid h
      have HO := Lib.hid h'
      have HV := Lib.hid hV.v
      have HX := Lib.hid hx
      have HY := Lib.hid hy
      have HPL := Lib.hid hps.1
      clear hbad hgE he hps hV h h' hx hy hB hC g1
      have C2 : Hid (∀ u, Below w.heap.size w u → Calls Try.prog 41 #[.slice A' O.length cap', .int .i64 (-1)] u fun e u' => e = .returned (.int .i64 (bestOf O (-1))) ∧ Below u.heap.size u u') :=
        Lib.hid fun u hu => dBest (cap := cap') (HO.out.below hu HC.out) (by have := hu.size; have := HC.out; omega) (-1)
      generalize gV L O r k wv = gv at *
      generalize bestOf O (-1) = bb at *
      by_cases hbb : (k : Int) = bb
      · have hd : ((k : Int) == bb) = true := by simpa using hbb
        rw [if_pos hbb] at hfin
        have HBB := Lib.hid hbb; clear hbb
        have hbd := gain_bd hS hS' (y := y + wv) (by omega) (by omega) hxb.1 hxb.2 g3 g4
        go_enter Try.func16, Try.ntmps16
        go_wp2_with fail
        refine C1.mono ?_
        rintro e w1 ⟨A1, c1, rfl, hr1, hb1⟩
        have HR1 := Lib.hid hr1
        obtain ⟨b1, o1, rfl, hb1l, hcells⟩ := hr1.2.2 (by rw [HPL.out]; omega)
        have hcy := hcells k y HY.out
        have hlp : k < (pyL L O r).length := by rw [HPL.out]; exact hk
        have HB1 := Lib.hid hb1
        clear hcells hr1 hb1 C1
        generalize (pyL L O r).length = pl at *
        go_wp2_with (go_at_call 41; refine (C2.out _ HB1.out).mono ?_; rintro e w2 ⟨rfl, hb2⟩)
        have hb3 := HB1.out.trans (hb2.mono HB1.out.size)
        have CT := fun n => dTotal (cap := cap) (HH.out.below (below_drewN hb3 n) HB.out) HV.out
        obtain ⟨b2, o2, rfl, hb2l, hcells⟩ := (HH.out.below hb3 HB.out).2.2 (by omega)
        have hcx := hcells k x HX.out
        have HB3 := Lib.hid hb3
        have HCT := Lib.hid CT
        clear hcells hb3 hb2 CT
        generalize sumL L = S at *
        have e1 : IntKind.i64.wrap (S * (y + wv)) = S * (y + wv) := IntWalk.i64_in _ (by omega)
        have e2 : IntKind.i64.wrap (x * wv) = x * wv := IntWalk.i64_in _ (by omega)
        have e3 : IntKind.i64.wrap (S * (y + wv) - x * wv) = S * (y + wv) - x * wv := IntWalk.i64_in _ (by omega)
        go_quiet ((go_at_call 42; exact Calls.quiet_of_same ((HCT.out _).mono fun _ _ h => ⟨h.1, h.2.symm⟩)))
        clear e1 e2 e3
        go_wp2
        go_ret2
        exact ⟨by rw [hfin.out]; rfl, below_drewN HB3.out _⟩
      · have hd : ((k : Int) == bb) = false := by simpa using hbb
        rw [if_neg hbb] at hfin
        have HBB := Lib.hid hbb; clear hbb
        have hbd := gain_bd hS hS' (y := y) (by omega) (by omega) hxb.1 hxb.2 g3 g4
        go_enter Try.func16, Try.ntmps16
        go_wp2_with fail
        refine C1.mono ?_
        rintro e w1 ⟨A1, c1, rfl, hr1, hb1⟩
        have HR1 := Lib.hid hr1
        obtain ⟨b1, o1, rfl, hb1l, hcells⟩ := hr1.2.2 (by rw [HPL.out]; omega)
        have hcy := hcells k y HY.out
        have hlp : k < (pyL L O r).length := by rw [HPL.out]; exact hk
        have HB1 := Lib.hid hb1
        clear hcells hr1 hb1 C1
        generalize (pyL L O r).length = pl at *
        go_wp2_with (go_at_call 41; refine (C2.out _ HB1.out).mono ?_; rintro e w2 ⟨rfl, hb2⟩)
        have hb3 := HB1.out.trans (hb2.mono HB1.out.size)
        have CT := fun n => dTotal (cap := cap) (HH.out.below (below_drewN hb3 n) HB.out) HV.out
        obtain ⟨b2, o2, rfl, hb2l, hcells⟩ := (HH.out.below hb3 HB.out).2.2 (by omega)
        have hcx := hcells k x HX.out
        have HB3 := Lib.hid hb3
        have HCT := Lib.hid CT
        clear hcells hb3 hb2 CT
        generalize sumL L = S at *
        have e1 : IntKind.i64.wrap (S * y) = S * y := IntWalk.i64_in _ (by omega)
        have e2 : IntKind.i64.wrap (x * wv) = x * wv := IntWalk.i64_in _ (by omega)
        have e3 : IntKind.i64.wrap (S * y - x * wv) = S * y - x * wv := IntWalk.i64_in _ (by omega)
        go_quiet ((go_at_call 42; exact Calls.quiet_of_same ((HCT.out _).mono fun _ _ h => ⟨h.1, h.2.symm⟩)))
        clear e1 e2 e3
        go_wp2
        go_ret2
        exact ⟨by rw [hfin.out, Int.add_zero]; rfl, below_drewN HB3.out _⟩
  · rw [gV_no (by rw [gE_bad he]; exact he), gE_bad he]
    have hb : (sE L O r != 0) = true := by simpa using he
    clear he h h' hB hC
    generalize sE L O r = c at *
    go_enter Try.func16, Try.ntmps16
    go_wp2_with (go_at_call 40; refine C1.mono ?_; rintro e w1 ⟨A1, c1, rfl, hr1, hb1⟩)
    go_ret2
    exact ⟨rfl, hb1⟩
set_option maxHeartbeats 2000000 in
theorem rGain {w : World} {B C : Nat} {A A' : Option Addr} {L O : List Int} {cap cap' : Nat} (h : Rd w B A L) (hB : B ≤ w.heap.size) (h' : Rd w C A' O) (hC : C ≤ w.heap.size) (r i wv : Int) :
    Calls Try.prog 37 #[.slice A L.length cap, .slice A' O.length cap', .int .i64 r, .int .i64 i, .int .i64 wv] w
      fun e w' => e = .returned (.tuple #[.int .i64 (gV L O r i wv), .int .i64 (gE L O r i wv)]) ∧ Below w.heap.size w w' := by
  have C1 := rPay (cap := cap) (cap' := cap') h hB h' hC r
  have hlen := h.len
  have HB := Lib.hid hB
  have HC := Lib.hid hC
  by_cases he : sE L O r = 0
  · rw [he] at C1
    have hV := lok_ok (sE_zero he)
    have hps := pyL_small he
    by_cases hbad : badGain L.length i wv
    · have hgE := gE_arg (O := O) he hbad
      rw [gV_no (by rw [hgE]; decide), hgE]
      clear hgE hps hV he h h' hB hC
      unfold badGain at hbad
      by_cases g1 : i < 0
      · go_enter Try.func37, Try.ntmps37
        go_wp2_with (go_at_call 66; refine C1.mono ?_; rintro e w1 ⟨A1, c1, rfl, hr1, hb1⟩)
        go_ret2
        exact ⟨rfl, hb1⟩
      · by_cases g2 : (L.length : Int) ≤ i
        · go_enter Try.func37, Try.ntmps37
          go_wp2_with (go_at_call 66; refine C1.mono ?_; rintro e w1 ⟨A1, c1, rfl, hr1, hb1⟩)
          go_ret2
          exact ⟨rfl, hb1⟩
        · by_cases g3 : wv < 0
          · go_enter Try.func37, Try.ntmps37
            go_wp2_with (go_at_call 66; refine C1.mono ?_; rintro e w1 ⟨A1, c1, rfl, hr1, hb1⟩)
            go_ret2
            exact ⟨rfl, hb1⟩
          · have g4 : 1000000 < wv := by omega
            clear hbad
            go_enter Try.func37, Try.ntmps37
            go_wp2_with (go_at_call 66; refine C1.mono ?_; rintro e w1 ⟨A1, c1, rfl, hr1, hb1⟩)
            go_ret2
            exact ⟨rfl, hb1⟩
    · have hgE := gE_ok (O := O) he hbad
      unfold badGain at hbad
      have g1 : 0 ≤ i := by omega
      have g2 : i < (L.length : Int) := by omega
      have g3 : 0 ≤ wv := by omega
      have g4 : wv ≤ 1000000 := by omega
      obtain ⟨k, rfl⟩ := Int.eq_ofNat_of_zero_le g1
      have hk : k < L.length := by omega
      obtain ⟨x, hx⟩ : ∃ x, L[k]? = some x := ⟨L[k], by simp [hk]⟩
      obtain ⟨y, hy⟩ : ∃ y, (pyL L O r)[k]? = some y := ⟨(pyL L O r)[k]'(by rw [hps.1]; exact hk), by simp⟩
      have hyb := hps.2 y (mem_of hy)
      have hxb := hV.v.le (mem_of hx)
      have hS := hV.v.sum_pos
      have hS' := hV.v.sum
      have hfin := Lib.hid (gV_ok hgE hx hy)
      rw [hgE]
      have HH := Lib.hid h
      have HO := Lib.hid h'
      have HV := Lib.hid hV.v
      have HX := Lib.hid hx
      have HY := Lib.hid hy
      have HPL := Lib.hid hps.1
      have hpos : 0 < O.length := by have := hV.len; omega
      clear hbad hgE he hps hV h h' hx hy hB hC g1
      have C2 : Hid (∀ u, Below w.heap.size w u → Calls Try.prog 68 #[.slice A' O.length cap'] u fun e u' => e = .returned (.int .i64 (bestOf O (-1))) ∧ Below u.heap.size u u') :=
        Lib.hid fun u hu => by rw [← boughtOf_eq hpos]; exact rBought (cap := cap') (HO.out.below hu HC.out) (by have := hu.size; have := HC.out; omega) hpos
      have CS : Hid (∀ u, Below w.heap.size w u → Calls Try.prog 67 #[.slice A L.length cap] u fun e u' => e = .returned (.int .i64 (sumL L)) ∧ u = u') :=
        Lib.hid fun u hu => rSum (cap := cap) (HH.out.below hu HB.out) HV.out
      have hbd := gain_bd hS hS' (y := y) (by omega) (by omega) hxb.1 hxb.2 g3 g4
      clear hpos
      generalize gV L O r k wv = gv at *
      generalize bestOf O (-1) = bb at *
      go_enter Try.func37, Try.ntmps37
      go_wp2_with fail
      refine C1.mono ?_
      rintro e w1 ⟨A1, c1, rfl, hr1, hb1⟩
      have HB1 := Lib.hid hb1
      obtain ⟨b2, o2, rfl, hb2l, hcells⟩ := (HH.out.below hb1 HB.out).2.2 (by omega)
      have hcx := hcells k x HX.out
      obtain ⟨b1, o1, rfl, hb1l, hcells1⟩ := hr1.2.2 (by rw [HPL.out]; omega)
      have hcy := hcells1 k y HY.out
      have hlp : k < (pyL L O r).length := by rw [HPL.out]; exact hk
      clear hcells hcells1 hr1 hb1 C1
      generalize (pyL L O r).length = pl at *
      generalize sumL L = S at *
      have e1 : IntKind.i64.wrap (S * y) = S * y := IntWalk.i64_in _ (by omega)
      have e2 : IntKind.i64.wrap (x * wv) = x * wv := IntWalk.i64_in _ (by omega)
      have e3 : IntKind.i64.wrap (S * y - x * wv) = S * y - x * wv := IntWalk.i64_in _ (by omega)
      have E1 := Lib.hid e1
      have E2 := Lib.hid e2
      have E3 := Lib.hid e3
      clear e1 e2 e3
      go_wp2_with (go_at_call 67; refine (CS.out _ HB1.out).mono ?_; rintro e w2 ⟨rfl, rfl⟩)
      have e1 := E1.out
      have e2 := E2.out
      have e3 := E3.out
      go_quiet (fail)
      clear e1 e2 e3
      have HBq : Hid (Below w.heap.size w (w1.drewN nq)) := Lib.hid (below_drewN HB1.out _)
      by_cases hbb : (k : Int) = bb
      · have hd : (bb == (k : Int)) = true := by simpa using hbb.symm
        rw [if_pos hbb] at hfin
        clear hbb
        go_wp2_with (go_at_call 68; refine (C2.out _ HBq.out).mono ?_; rintro e w2 ⟨rfl, hb2⟩)
        go_ret2
        exact ⟨by rw [hfin.out, show S * y - x * wv + S * wv = S * (y + wv) - x * wv by rw [Int.mul_add]; omega]; rfl, HBq.out.trans (hb2.mono HBq.out.size)⟩
      · have hd : (bb == (k : Int)) = false := by simp; omega
        rw [if_neg hbb] at hfin
        clear hbb
        go_wp2_with (go_at_call 68; refine (C2.out _ HBq.out).mono ?_; rintro e w2 ⟨rfl, hb2⟩)
        go_ret2
        exact ⟨by rw [hfin.out, Int.add_zero]; rfl, HBq.out.trans (hb2.mono HBq.out.size)⟩
  · rw [gV_no (by rw [gE_bad he]; exact he), gE_bad he]
    have hb : (sE L O r != 0) = true := by simpa using he
    clear he h h' hB hC
    generalize sE L O r = c at *
    go_enter Try.func37, Try.ntmps37
    go_wp2_with (go_at_call 66; refine C1.mono ?_; rintro e w1 ⟨A1, c1, rfl, hr1, hb1⟩)
    go_ret2
    exact ⟨rfl, hb1⟩
end Go.Proofs.Ytjgobpejifhphaa

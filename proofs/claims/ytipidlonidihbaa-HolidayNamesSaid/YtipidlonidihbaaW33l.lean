import Derived.Test.YtipidlonidihbaaS33f
/-! The walk of the reference's Give. (Printed by gen33g.py.) -/
namespace Go.Proofs.Ytipidlonidihbaa
open Go.RowKit Go.Deep
set_option linter.unusedVariables false
set_option maxRecDepth 100000

set_option maxRecDepth 100000 in
set_option maxHeartbeats 4000000 in
theorem hrGiveX {w : World} {B C : Nat} {A A' : Option Addr} {L O : List Int} {cap cap' : Nat} (h : Rd w B A L) (h' : Rd w C A' O) (hB : B ≤ w.heap.size) (hC : C ≤ w.heap.size) (m : Int) :
    Calls Try.prog 15 #[.slice A L.length cap, .slice A' O.length cap', .int .i64 m] w (GiveResX w (gvF L O m) (gvA L O m) (gvE L O m)) := by
  have CL := hrLooked (cap := cap) (cap' := cap') h h' m
  by_cases he : pcE L O m = 0
  · obtain ⟨hl, g0, g1⟩ := pcE_zero he
    obtain ⟨m, rfl⟩ := Int.eq_ofNat_of_zero_le g0
    have hV := hlk_ok hl
    have hn := hV.v.one
    have hn2 := hV.v.twelve
    have hlen := hV.len
    have hml : m ≤ L.length := by omega
    have hm2 : m ≤ O.length := by omega
    have hpb := prOf_bd (C := L) (B := O) (m := m) hV.bd (by omega) (by omega)
    have hqr := gQR (C := L) (B := O) (m := m) hn hn2 hml hpb.1 hpb.2
    rw [he] at CL
    have CP := hrPriced (cap1 := cap) (cap2 := cap') (h.more hB) (h'.more hC) (Nat.le_refl _) hV hm2
    have CPL : Hid (∀ (u : World) (k : Nat), k < O.length → Below w.heap.size w u → Calls Try.prog 31 #[.slice A L.length cap, .slice A' O.length cap', .int .i64 k] u
        fun e u' => e = .returned (.int .i64 (place L O k)) ∧ Below u.heap.size u u') :=
      Lib.hid fun u k hk hu => placeW ((h.more hB).below hu (Nat.le_refl _)) ((h'.more hC).below hu (Nat.le_refl _)) hu.size hk hlen
    have HR := Lib.hid (fun (u : World) (hu : Below w.heap.size w u) => And.intro ((h.more hB).below hu (Nat.le_refl _)) ((h'.more hC).below hu (Nat.le_refl _)))
    have HE := Lib.hid he
    have HV := Lib.hid hV
    have HPB := Lib.hid hpb
    have HQR := Lib.hid hqr
    have HLEN := Lib.hid hlen
    have ho2 : O.length ≤ 12 := by omega
    clear h h' hB hC he hl g0 g1 hV hpb hqr hlen
    obtain ⟨i0, hi, hz0, hz1, hz2⟩ := info_parts infoInt'
    have HI := Lib.hid hi
    clear hi
    go_enter Try.func15, Try.ntmps15
    go_wp2_with (first | (go_at_call 33; refine CL.mono ?_; rintro e w1 ⟨rfl, rfl⟩) | (go_at_call 34; refine CP.mono ?_; rintro e w1 ⟨rfl, hb1⟩))
    have HB1 := Lib.hid hb1
    clear CL CP hb1
    have d0 : ((L.length : Int) == 0) = false := beq_eq_false_iff_ne.2 (by omega)
    have d1 : (L.length == 0) = false := beq_eq_false_iff_ne.2 (by omega)
    have e1 : IntKind.i64.wrap (prOf L O m * m) = prOf L O m * m := IntWalk.i64_in _ (by have := HQR.out.1; have := HQR.out.2.1; omega)
    have e2 := HQR.out.2.2.2.2.2.2.1
    have e3 := HQR.out.2.2.2.2.2.2.2
    have e4 : IntKind.i64.wrap (gQ L O m) = gQ L O m := IntWalk.i64_in _ (by have := HQR.out.2.2.1; have := HQR.out.2.2.2.1; omega)
    have e5 : IntKind.i64.wrap (gR L O m) = gR L O m := IntWalk.i64_in _ (by have := HQR.out.2.2.2.2.1; have := HQR.out.2.2.2.2.2.1; omega)
    go_quiet (fail)
    clear d0 d1 e1 e2 e3 e4 e5
    have HB1q : Hid (Below w.heap.size w (w1.drewN nq)) := Lib.hid (below_drewN HB1.out _)
    clear HB1
    generalize w1.drewN nq = w2 at *
    have hown0 := Lib.hid (own_empty w2 3)
    have hal := Below.alloc (B := w2.heap.size) (Below.refl _ w2) (Nat.le_refl _) (.cells #[] 3)
    have hsz : (w2.alloc (.cells #[] 3)).heap.size = w2.heap.size + 1 := by simp
    obtain ⟨bb, off, rfl, hbb, hcells⟩ := (((HR.out w2 HB1q.out).1).below hal HB1q.out.size).2.2 (by omega)
    have HCE := Lib.hid (cells_ints hcells)
    have HAL := Lib.hid hal
    have HSZ := Lib.hid hsz
    clear hcells hal hsz
    generalize hw3 : w2.alloc (.cells #[] 3) = w3 at *
    have HW3 := Lib.hid hw3
    clear hw3
    have hx3 : w2.alloc (.cells #[] 3) = w3 := HW3.out
    go_wp2_with (at_builtin; refine wpList_append_own _ rfl _ _ 22 rfl w2.heap.size 3 i0 (.int .i64 0) 1 8 Try.underlying22 HI.out hz0 hz1 hz2 rfl (by decide) _ 0 [] rfl hown0.out ⟨bb, off, none⟩ L.length cap (L.map (Value.int .i64)) rfl (by simp) HCE.out (ints_oneCell _ _) (by unfold maxLen; omega) (by omega) (by rw [HSZ.out]; omega) ?_)
    intro v' w4 hown4 hgrow _
    have hb4 : Below w2.heap.size w2 w4 := HAL.out.grown hgrow (by rw [HSZ.out]; omega) (by intro k hk; simp [Value.ownBlock] at hk; omega)
    obtain ⟨g, cg, hv4, hg, hP⟩ := ownP_of_row hown4 (by omega)
    rw [hv4]
    have HB4 := Lib.hid (HB1q.out.trans (hb4.mono HB1q.out.size))
    have HG := Lib.hid (Nat.le_trans HB1q.out.size hg)
    have hP2 : OwnP w4 g 3 (aK L O m 0) := by rw [aK_zero HLEN.out.symm]; exact hP
    have HP := Lib.hid hP2
    have HG4 := Lib.hid hP.lt
    clear hown4 hgrow hb4 hP hP2 hx3 hv4 HW3 hown0 HAL HCE HSZ hg
    go_wp2
    go_loopw [13, 15] (fun f i wr => ∃ k : Nat, k ≤ O.length ∧ i = .int .i64 k ∧ Hid (wr.ownsRow w4.heap.size 3 1 f (fK L O m k).length ((fK L O m k).map (Value.int .i64)))
      ∧ Hid (OwnP wr g 3 (aK L O m k)) ∧ Hid (Below w.heap.size w wr) ∧ Hid (w4.heap.size ≤ wr.heap.size)) (fun _ i _ => O.length - (intOf i).toNat)
    case atStart => exact ⟨0, by omega, rfl, Lib.hid (own_row_nil _ _ _), HP, HB4, Lib.hid (Nat.le_refl _)⟩
    case round =>
      obtain ⟨k, hk, rfl, ho, hp, hb, hsz⟩ := hrel
      by_cases hlt : k < O.length
      · have HCP := Lib.hid (CPL.out wr k hlt hb.out)
        have hkl : k < L.length := by have := HLEN.out; omega
        go_wp2_with fail
        refine HCP.out.mono ?_
        rintro e wc ⟨rfl, hbc⟩
        have hoc := row_below ho.out hbc
        have hpc := hp.out.below hbc hp.out.lt
        have hBc := hb.out.trans (hbc.mono hb.out.size)
        have hsc : w4.heap.size ≤ wc.heap.size := Nat.le_trans hsz.out hbc.size
        clear HCP ho hp hb hsz hbc
        have hx := getD_bd hkl HV.out.v.bd
        have hpb := HPB.out
        have hq0 := HQR.out.2.2.1
        have hq1 := HQR.out.2.2.2.1
        have hr0 := HQR.out.2.2.2.2.1
        have hr1 := HQR.out.2.2.2.2.2.1
        have hll := HLEN.out
        have hc1 := hpc.cell (aK_cur hlt)
        generalize hxx : L.getD k 0 = x at *
        have HXX := Lib.hid hxx
        clear hxx
        have hf1 := hpc.frozen k
        have hset := aK_set (C := L) (m := m) hlt
        have hP1 := hpc.store k (x + gQ L O m)
        have hO1 := ownsRow_setCell_below hoc (a := ⟨g, k, none⟩) HG4.out (.int .i64 (x + gQ L O m))
        have hB1 := hBc.setCell (p := ⟨g, k, none⟩) HG.out (.int .i64 (x + gQ L O m))
        have hS1 : w4.heap.size ≤ (wc.setCell ⟨g, k, none⟩ (.int .i64 (x + gQ L O m))).heap.size := by simp only [World.size_setCell]; exact hsc
        have hc2 := hP1.cell (i := k) (x := x + gQ L O m) (by rw [List.getElem?_set_self (by rw [aK_length]; exact hlt)])
        have hf2 := hP1.frozen k
        have HSET := Lib.hid hset
        have HLL := Lib.hid hll
        clear hset hpc hoc hBc hsc hll
        by_cases hm : place L O k < m
        · have HAF : (if place L O k < m then prOf L O m else 0) = prOf L O m := if_pos hm
          have hfk := fK_yes hm
          have hwz : Hid (((wc.setCell ⟨g, k, none⟩ (.int .i64 (x + gQ L O m))).alloc (.cells #[.int .i64 k] 3)).heap.size = wc.heap.size + 1) := Lib.hid (by simp)
          have hoz := Lib.hid (hO1.alloc (.cells #[.int .i64 k] 3))
          have hpz := Lib.hid (hP1.alloc (.cells #[.int .i64 k] 3))
          have hbz := Lib.hid (hB1.alloc hB1.size (.cells #[.int .i64 k] 3))
          have hwc : Hid ((wc.setCell ⟨g, k, none⟩ (.int .i64 (x + gQ L O m))).heap.size = wc.heap.size) := Lib.hid (by simp)
          have hcz : Hid (∀ (j : Nat) (u : Value), ([(Value.int .i64 k)])[j]? = some u → ((wc.setCell ⟨g, k, none⟩ (.int .i64 (x + gQ L O m))).alloc (.cells #[.int .i64 k] 3)).cell? ((⟨wc.heap.size, 0, none⟩ : Addr).add j) = some u) := Lib.hid (by
            intro j u hu
            rw [addr_add]
            cases j with
            | zero => simp at hu; subst hu; rw [← hwc.out]; exact (cell_of_row _ _ 0 _ 3 (0, 0) (heap_alloc_new _ _)).trans rfl
            | succ j => simp at hu)
          have HC1 := Lib.hid hc1
          generalize hgw : (wc.setCell ⟨g, k, none⟩ (.int .i64 (x + gQ L O m))).alloc (.cells #[.int .i64 k] 3) = wa at *
          have hlk := fK_len L O m k
          have HFK := Lib.hid hfk
          have hS1' := Lib.hid hS1
          clear hfk hP1 hO1 hB1 hS1
          go_wp2_with (at_builtin; refine wpList_append_own _ rfl _ _ 22 rfl w4.heap.size 3 i0 (.int .i64 0) 1 8 Try.underlying22 HI.out hz0 hz1 hz2 rfl (by decide) _ (fK L O m k).length _ rfl hoz.out ⟨wc.heap.size, 0, none⟩ 1 1 [.int .i64 k] rfl (by simp) hcz.out (by simp [Value.oneCell']) (by unfold maxLen; omega) (by omega) (by rw [hwz.out]; have := hS1'.out; rw [hwc.out] at this; omega) ?_)
          intro v' w5 hown hgrow _
          have hb5 : Below w4.heap.size wa w5 := (Below.refl _ wa).grown hgrow (by rw [hwz.out]; have := hS1'.out; rw [hwc.out] at this; omega) (fun q hq => (hoz.out.lt q hq).1)
          have hp5 := hpz.out.below hb5 HG4.out
          have c5 := hp5.cell (i := k) (x := x + gQ L O m) (by rw [List.getElem?_set_self (by rw [aK_length]; exact hlt)])
          have f5 := hp5.frozen k
          have hP6 := hp5.store k (x + gQ L O m - prOf L O m)
          have hO6 := ownsRow_setCell_below hown (a := ⟨g, k, none⟩) HG4.out (.int .i64 (x + gQ L O m - prOf L O m))
          have hB6 := (hbz.out.trans (hb5.mono (Nat.le_trans HB4.out.size (Nat.le_refl _)))).setCell (p := ⟨g, k, none⟩) HG.out (.int .i64 (x + gQ L O m - prOf L O m))
          have hS6 : w4.heap.size ≤ (w5.setCell ⟨g, k, none⟩ (.int .i64 (x + gQ L O m - prOf L O m))).heap.size := by
            have := hb5.size
            have := hwz.out
            have := hS1'.out
            rw [hwc.out] at this
            simp only [World.size_setCell]
            omega
          have hlist : (((fK L O m k).map (Value.int .i64)) ++ [.int .i64 (k : Int)]) = (fK L O m (k + 1)).map (Value.int .i64) := by rw [HFK.out]; simp
          have hlistn : (fK L O m k).length + 1 = (fK L O m (k + 1)).length := by rw [HFK.out]; simp
          rw [List.set_set] at hP6
          have c6 := hP6.cell (i := k) (x := x + gQ L O m - prOf L O m) (by rw [List.getElem?_set_self (by rw [aK_length]; exact hlt)])
          have f6 := hP6.frozen k
          rw [hlist, hlistn] at hO6
          clear hp5 hb5 hown hgrow hlist hlistn hbz hpz hoz hcz hwz
          by_cases hx2 : (L.length : Int) - gR L O m ≤ place L O k
          · skip
            have haf : after L O m k = x + gQ L O m - prOf L O m + 1 := by
              unfold after paid extra
              rw [HXX.out, HAF]
              rw [if_pos (by have := HLL.out; omega)]
              omega
            have hP7 := hP6.store k (x + gQ L O m - prOf L O m + 1)
            have hO7 := ownsRow_setCell_below hO6 (a := ⟨g, k, none⟩) HG4.out (.int .i64 (x + gQ L O m - prOf L O m + 1))
            have hB7 := Lib.hid (hB6.setCell (p := ⟨g, k, none⟩) HG.out (.int .i64 (x + gQ L O m - prOf L O m + 1)))
            have hS7 : Hid (w4.heap.size ≤ ((w5.setCell ⟨g, k, none⟩ (.int .i64 (x + gQ L O m - prOf L O m))).setCell ⟨g, k, none⟩ (.int .i64 (x + gQ L O m - prOf L O m + 1))).heap.size) := Lib.hid (by simp only [World.size_setCell] at *; exact hS6)
            rw [List.set_set] at hP7
            have e7 : (aK L O m k).set k (x + gQ L O m - prOf L O m + 1) = aK L O m (k + 1) := by rw [← haf]; exact HSET.out
            rw [e7] at hP7
            have HP7 := Lib.hid hP7
            have HO7 := Lib.hid hO7
            clear hP7 hO7 e7 haf
            clear hP6 hO6 hB6 hS6
            go_wp2
            go_roundw
            case rel => exact ⟨k + 1, by omega, by go_num, HO7, HP7, hB7, hS7⟩
            case measure => simp [intOf]; omega
          · skip
            have haf : after L O m k = x + gQ L O m - prOf L O m := by
              unfold after paid extra
              rw [HXX.out, HAF]
              rw [if_neg (by have := HLL.out; omega)]
              omega
            have e7 : (aK L O m k).set k (x + gQ L O m - prOf L O m) = aK L O m (k + 1) := by rw [← haf]; exact HSET.out
            have hP7 := hP6
            rw [e7] at hP7
            have HP7 := Lib.hid hP7
            have HO7 := Lib.hid hO6
            have hB7 := Lib.hid hB6
            have hS7 := Lib.hid hS6
            clear hP7 e7 haf
            clear hP6 hO6 hB6 hS6
            go_wp2
            go_roundw
            case rel => exact ⟨k + 1, by omega, by go_num, HO7, HP7, hB7, hS7⟩
            case measure => simp [intOf]; omega
        · have HAF : (if place L O k < m then prOf L O m else 0) = 0 := if_neg hm
          have hfk := fK_no hm
          rw [← hfk] at hO1
          clear hfk
          by_cases hx2 : (L.length : Int) - gR L O m ≤ place L O k
          · skip
            have haf : after L O m k = x + gQ L O m + 1 := by
              unfold after paid extra
              rw [HXX.out, HAF]
              rw [if_pos (by have := HLL.out; omega)]
              omega
            have hP7 := hP1.store k (x + gQ L O m + 1)
            have hO7 := ownsRow_setCell_below hO1 (a := ⟨g, k, none⟩) HG4.out (.int .i64 (x + gQ L O m + 1))
            have hB7 := Lib.hid (hB1.setCell (p := ⟨g, k, none⟩) HG.out (.int .i64 (x + gQ L O m + 1)))
            have hS7 : Hid (w4.heap.size ≤ ((wc.setCell ⟨g, k, none⟩ (.int .i64 (x + gQ L O m))).setCell ⟨g, k, none⟩ (.int .i64 (x + gQ L O m + 1))).heap.size) := Lib.hid (by simp only [World.size_setCell] at *; exact hS1)
            rw [List.set_set] at hP7
            have e7 : (aK L O m k).set k (x + gQ L O m + 1) = aK L O m (k + 1) := by rw [← haf]; exact HSET.out
            rw [e7] at hP7
            have HP7 := Lib.hid hP7
            have HO7 := Lib.hid hO7
            clear hP7 hO7 e7 haf
            clear hP1 hO1 hB1 hS1
            go_wp2
            go_roundw
            case rel => exact ⟨k + 1, by omega, by go_num, HO7, HP7, hB7, hS7⟩
            case measure => simp [intOf]; omega
          · skip
            have haf : after L O m k = x + gQ L O m := by
              unfold after paid extra
              rw [HXX.out, HAF]
              rw [if_neg (by have := HLL.out; omega)]
              omega
            have e7 : (aK L O m k).set k (x + gQ L O m) = aK L O m (k + 1) := by rw [← haf]; exact HSET.out
            have hP7 := hP1
            rw [e7] at hP7
            have HP7 := Lib.hid hP7
            have HO7 := Lib.hid hO1
            have hB7 := Lib.hid hB1
            have hS7 := Lib.hid hS1
            clear hP7 e7 haf
            clear hP1 hO1 hB1 hS1
            go_wp2
            go_roundw
            case rel => exact ⟨k + 1, by omega, by go_num, HO7, HP7, hB7, hS7⟩
            case measure => simp [intOf]; omega
      · obtain rfl : k = O.length := by omega
        have hoo := ho.out
        have hpp := hp.out
        rw [fK_all] at hoo
        rw [aK_all] at hpp
        have hfl := freeL_length (C := L) hm2
        obtain ⟨fa, fc, rfl, hfa⟩ := row_slice hoo
        have hrf := row_rd hoo (freeL_i64 (by omega)) (by omega)
        have hpd := fun i => paid_bd (C := L) (B := O) (m := m) (i := i) HV.out.v.bd HPB.out.1 HPB.out.2
        have hal := aftL_length L O m
        have hrd : Rd wr wr.heap.size (some ⟨g, 0, none⟩) (aftL L O m) := hpp.rd (aftL_i64 hpd HQR.out.2.2.1 HQR.out.2.2.2.1) (by omega) hpp.lt
        have HFA := Lib.hid hfa
        have HRF := Lib.hid hrf
        have HRD := Lib.hid hrd
        have HB0 := Lib.hid hb.out
        have hal2 : (aftL L O m).length = L.length := hal.trans HLEN.out
        clear hoo hpp ho hp hb hrf hrd hpd hal hsz hfa
        obtain ⟨wo, rfl⟩ : ∃ wo : World, wo = wr := ⟨_, rfl⟩
        have hge : ¬ O.length < L.length := by have := HLEN.out; omega
        go_wp2
        go_loop [17] (fun i => ∃ k : Nat, k ≤ L.length ∧ i = .int .i64 k ∧ Hid (((aftL L O m).drop k).any outOf = (aftL L O m).any outOf)) (fun i => L.length - (intOf i).toNat)
        case atStart => exact ⟨0, by omega, rfl, Lib.hid rfl⟩
        case round =>
          obtain ⟨k, hk, rfl, hr⟩ := hrel
          by_cases hlt : k < L.length
          · obtain ⟨b, off, x, e, hbb', hx, hi, hc⟩ := HRD.out.at_ (k := k) (by omega)
            cases e
            have hdr := drop_of hx
            have hr' := hr.out
            rw [hdr, out_cons] at hr'
            have HX := Lib.hid hx
            clear hx hdr hi
            simp only [Nat.zero_add] at hc
            by_cases o1 : x < -1000000
            · have ho : outOf x = true := by simp [outOf, o1]
              rw [ho, Bool.true_or] at hr'
              have hE := Lib.hid (gvE_out HE.out hr'.symm)
              have hF : Hid (gvF L O m = []) := Lib.hid (by rw [gvF, hE.out, if_neg (by decide)])
              have hA : Hid (gvA L O m = []) := Lib.hid (by rw [gvA, hE.out, if_neg (by decide)])
              clear hr' ho hr
              go_wp2
              go_ret3
              rw [hE.out, hF.out, hA.out]
              exact ⟨none, 0, none, 0, rfl, Rd.nil _ _ _, Rd.nil _ _ _, HB0.out, noFresh _, noFresh _⟩
            · by_cases o2 : 1000000 < x
              · have ho : outOf x = true := by simp [outOf, o2]
                rw [ho, Bool.true_or] at hr'
                have hE := Lib.hid (gvE_out HE.out hr'.symm)
                have hF : Hid (gvF L O m = []) := Lib.hid (by rw [gvF, hE.out, if_neg (by decide)])
                have hA : Hid (gvA L O m = []) := Lib.hid (by rw [gvA, hE.out, if_neg (by decide)])
                clear hr' ho hr
                go_wp2
                go_ret3
                rw [hE.out, hF.out, hA.out]
                exact ⟨none, 0, none, 0, rfl, Rd.nil _ _ _, Rd.nil _ _ _, HB0.out, noFresh _, noFresh _⟩
              · have ho : outOf x = false := by simp [outOf, o1, o2]
                rw [ho, Bool.false_or] at hr'
                have hnx := Lib.hid hr'
                clear hr' ho hr
                go_wp2
                go_round
                case rel => exact ⟨k + 1, by omega, by go_num, hnx⟩
                case measure => simp [intOf]; omega
          · have hr' := hr.out
            rw [drop_end (by omega)] at hr'
            have hE := Lib.hid (gvE_ok HE.out hr'.symm)
            have hF : Hid (gvF L O m = freeL L O m) := Lib.hid (by rw [gvF, if_pos hE.out, Int.toNat_natCast])
            have hA : Hid (gvA L O m = aftL L O m) := Lib.hid (by rw [gvA, if_pos hE.out, Int.toNat_natCast])
            clear hr' hr
            go_wp2
            go_ret3
            rw [hE.out, hF.out, hA.out]
            exact ⟨fa, fc, some ⟨g, 0, none⟩, cg, by rw [hfl, hal2]; rfl, HRF.out, HRD.out, HB0.out, fun p hp => Nat.le_trans HB4.out.size (HFA.out p hp), fun p hp => by cases hp; exact HG.out⟩
  · have hE := gvE_pc he
    have hF : gvF L O m = [] := by rw [gvF, hE, if_neg he]
    have hA : gvA L O m = [] := by rw [gvA, hE, if_neg he]
    rw [hE, hF, hA]
    have hb : (pcE L O m != 0) = true := by simpa using he
    clear he h h' hE hF hA
    generalize pcE L O m = c at *
    go_enter Try.func15, Try.ntmps15
    go_wp2_with (go_at_call 33; refine CL.mono ?_; rintro e w' ⟨rfl, rfl⟩)
    go_ret3
    exact ⟨none, 0, none, 0, rfl, Rd.nil _ _ _, Rd.nil _ _ _, Below.refl _ _, noFresh _, noFresh _⟩
theorem hrGive {w : World} {B C : Nat} {A A' : Option Addr} {L O : List Int} {cap cap' : Nat} (h : Rd w B A L) (h' : Rd w C A' O) (hB : B ≤ w.heap.size) (hC : C ≤ w.heap.size) (m : Int) :
    Calls Try.prog 15 #[.slice A L.length cap, .slice A' O.length cap', .int .i64 m] w (GiveRes w (gvF L O m) (gvA L O m) (gvE L O m)) :=
  (hrGiveX h h' hB hC m).mono fun _ _ h => h.res
end Go.Proofs.Ytipidlonidihbaa

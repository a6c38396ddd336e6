import Derived.Test.YtjgobpejifhphaaW35c
/-! The walk of the program's Bid. -/
namespace Go.Proofs.Ytjgobpejifhphaa
open Go.RowKit Go.Deep
set_option linter.unusedVariables false
set_option maxRecDepth 100000

/-- what the loop's variables hold -/
def BidSt (s : Option (Int × Int)) (bv gv : Int) (fd : Bool) : Prop := (s = none ∧ bv = 0 ∧ gv = 0 ∧ fd = false) ∨ (s = some (bv, gv) ∧ fd = true)

set_option maxHeartbeats 4000000 in
theorem pBid {w : World} {B C : Nat} {A A' : Option Addr} {L O : List Int} {cap cap' : Nat} (h : Rd w B A L) (hB : B ≤ w.heap.size) (h' : Rd w C A' O) (hC : C ≤ w.heap.size) (m a wv top : Int) :
    Calls Try.prog 24 #[.slice A L.length cap, .slice A' O.length cap', .int .i64 m, .int .i64 a, .int .i64 wv, .int .i64 top] w
      fun e w' => e = .returned (.tuple #[.int .i64 (bdR L O m a wv top).1, .int .i64 (bdR L O m a wv top).2, .int .i64 (bdE L O m a wv top)]) ∧ Below w.heap.size w w' := by
  have C1 := hPrice (cap := cap) (cap' := cap') h h' hB hC m
  by_cases hp : pcE L O m = 0
  · rw [hp] at C1
    by_cases hb : badBidArg L.length a wv top
    · have hE := bdE_arg hp hb
      rw [bdR_no (by rw [hE]; decide), hE]
      clear hE hp h h' hB hC
      generalize pcV L O m = pv at *
      unfold badBidArg at hb
      by_cases q1 : a < 0
      · clear hb
        go_enter Try.func24, Try.ntmps24
        go_wp2_with (go_at_call 51; refine C1.mono ?_; rintro e w1 ⟨rfl, hb1⟩)
        go_ret3
        exact ⟨rfl, hb1⟩
      · by_cases q2 : (L.length : Int) ≤ a
        · clear hb
          go_enter Try.func24, Try.ntmps24
          go_wp2_with (go_at_call 51; refine C1.mono ?_; rintro e w1 ⟨rfl, hb1⟩)
          go_ret3
          exact ⟨rfl, hb1⟩
        · by_cases q3 : wv < 0
          · clear hb
            go_enter Try.func24, Try.ntmps24
            go_wp2_with (go_at_call 51; refine C1.mono ?_; rintro e w1 ⟨rfl, hb1⟩)
            go_ret3
            exact ⟨rfl, hb1⟩
          · by_cases q4 : 1000000 < wv
            · clear hb
              go_enter Try.func24, Try.ntmps24
              go_wp2_with (go_at_call 51; refine C1.mono ?_; rintro e w1 ⟨rfl, hb1⟩)
              go_ret3
              exact ⟨rfl, hb1⟩
            · by_cases q5 : top < 0
              · clear hb
                go_enter Try.func24, Try.ntmps24
                go_wp2_with (go_at_call 51; refine C1.mono ?_; rintro e w1 ⟨rfl, hb1⟩)
                go_ret3
                exact ⟨rfl, hb1⟩
              · have q6 : 300 < top := by omega
                clear hb
                go_enter Try.func24, Try.ntmps24
                go_wp2_with (go_at_call 51; refine C1.mono ?_; rintro e w1 ⟨rfl, hb1⟩)
                go_ret3
                exact ⟨rfl, hb1⟩
    · obtain ⟨hl, g0, g1⟩ := pcE_zero hp
      have hbb := hb
      unfold badBidArg at hbb
      obtain ⟨mm, rfl⟩ := Int.eq_ofNat_of_zero_le g0
      obtain ⟨i, rfl⟩ := Int.eq_ofNat_of_zero_le (show 0 ≤ a by omega)
      have hV := hlk_ok hl
      have q1 : ¬ ((i : Int) < 0) := by omega
      have q2 : i < L.length := by omega
      have qo : i < O.length := by have := hV.len; omega
      have q3 : 0 ≤ wv := by omega
      have q4 : wv ≤ 1000000 := by omega
      have q5 : 0 ≤ top := by omega
      have q6 : top ≤ 300 := by omega
      have hmm : mm ≤ L.length := by omega
      have hS : Hid (bdS L O mm i wv top = bidGo (bidOk L O mm i) (bidG L O mm i wv) (top + 1).toNat 0 none) := Lib.hid (by rw [bdS, Int.toNat_natCast, Int.toNat_natCast])
      have HP := Lib.hid hp
      have HBB := Lib.hid hb
      have HV := Lib.hid hV
      have HL := Lib.hid hl
      have hn : ((top + 1).toNat : Int) = top + 1 := by omega
      have HR : Hid (∀ u, Below w.heap.size w u → w.heap.size ≤ u.heap.size ∧ Rd u w.heap.size A L ∧ Rd u w.heap.size A' O) :=
        Lib.hid fun u hu => ⟨hu.size, (h.more hB).below hu (Nat.le_refl _), (h'.more hC).below hu (Nat.le_refl _)⟩
      have HOK : Hid (∀ b, bidOk L O mm i b = decide (gvE L (O.set i b) mm = 0)) := Lib.hid fun b => rfl
      have HGF : Hid (∀ b, bidG L O mm i wv b = after L (O.set i b) mm i - L.getD i 0 + if place L (O.set i b) i < mm then wv else 0) := Lib.hid fun b => rfl
      clear hl hb hbb hp h h' hB hC g0 g1 hV
      generalize hN : (top + 1).toNat = n at *
      have HN := Lib.hid hN
      clear hN
      generalize pcV L O mm = pv at *
      generalize bidOk L O mm i = ok at *
      generalize bidG L O mm i wv = gf at *
      have d1 : decide ((i : Int) < 0) = false := by simp
      have d2 : decide (L.length ≤ i) = false := by simp; omega
      have d3 : decide (wv < 0) = false := by simp; omega
      have d4 : decide (1000000 < wv) = false := by simp; omega
      have d5 : decide (top < 0) = false := by simp; omega
      have d6 : decide (300 < top) = false := by simp; omega
      go_enter Try.func24, Try.ntmps24
      go_wp2_with (go_at_call 51; refine C1.mono ?_; rintro e w1 ⟨rfl, hb1⟩)
      have HB1 := Lib.hid hb1
      clear hb1 C1
      go_loopw [12, 13, 17, 59] (fun bb gg f k wr => ∃ (j mr : Nat) (s : Option (Int × Int)) (bv gv : Int) (fd : Bool), j + mr = n ∧ k = .int .i64 j ∧ bb = .int .i64 bv ∧ gg = .int .i64 gv ∧ f = .bool fd ∧ Hid (Below w1.heap.size w1 wr)
        ∧ Hid (bidGo ok gf mr j s = bidGo ok gf n 0 none) ∧ Hid (BidSt s bv gv fd)) (fun _ _ _ k _ => n - (intOf k).toNat)
      case atStart => exact ⟨0, n, none, 0, 0, false, by omega, rfl, rfl, rfl, rfl, Lib.hid (Below.refl _ _), Lib.hid rfl, Lib.hid (.inl ⟨rfl, rfl, rfl, rfl⟩)⟩
      case round =>
        obtain ⟨j, mr, s, bv, gv, fd, hjm, rfl, rfl, rfl, rfl, hw, hr, hs⟩ := hrel
        have HJM := Lib.hid hjm
        have hjn : j ≤ n := by omega
        clear hjm
        by_cases hlt : j < n
        · obtain ⟨m', hm'⟩ : ∃ m', mr = m' + 1 := ⟨mr - 1, by have := HJM.out; omega⟩
          have hj300 : (j : Int) ≤ 300 := by omega
          have HM := Lib.hid hm'
          clear hm'
          have HBW := Lib.hid (HB1.out.trans (hw.out.mono HB1.out.size))
          have hup := hr.out
          rw [HM.out] at hup
          replace hup : Hid (bidGo ok gf m' ((j : Int) + 1) (bidUp ok gf j s) = bidGo ok gf n 0 none) := Lib.hid hup
          have hl2 := hlk_with (a := i) HL.out (v := (j : Int)) (by omega) (by omega)
          have hV2 := hlk_ok hl2
          have HV2 := Lib.hid hV2
          have HL3 : Hid ((O.set i (j : Int)).length = L.length) := Lib.hid (by rw [List.length_set]; exact HV.out.len)
          have hset : Hid (∀ x ∈ O.set i (j : Int), I64 x) := Lib.hid (fun x hx => by have := hV2.bd x hx; unfold I64; omega)
          have hab : i < (O.set i (j : Int)).length := by rw [List.length_set]; exact qo
          have hok := HOK.out (j : Int)
          have hgf := HGF.out (j : Int)
          have HOJ := Lib.hid hok
          have HGJ := Lib.hid hgf
          clear hl2 hV2 hr hok hgf
          go_wp2_with fail
          refine (withL (HR.out wr HBW.out).2.2 (HR.out wr HBW.out).1 qo j).mono ?_
          rintro e w2 ⟨g2, c2, rfl, hg2, hP2, hb2⟩
          have HB2 := Lib.hid (HBW.out.trans (hb2.mono HBW.out.size))
          have HW2 := Lib.hid (hw.out.trans (hb2.mono hw.out.size))
          generalize O.set i (j : Int) = Q at *
          have hrd := hP2.rd hset.out (by have := HL3.out; have := HV.out.v.twelve; omega) hP2.lt
          have CG := hGive (cap := cap) (cap' := c2) (HR.out w2 HB2.out).2.1 hrd (HR.out w2 HB2.out).1 (Nat.le_refl _) mm
          have hmQ : mm ≤ Q.length := by have := HL3.out; omega
          by_cases hE : gvE L Q mm = 0
          · have hF : gvF L Q mm = freeL L Q mm := by rw [gvF, if_pos hE, Int.toNat_natCast]
            have hA : gvA L Q mm = aftL L Q mm := by rw [gvA, if_pos hE, Int.toNat_natCast]
            have hok : ok j = true := by rw [HOJ.out, hE]; rfl
            rw [hE, hF, hA] at CG
            have HCG := Lib.hid CG
            have HOKJ := Lib.hid hok
            have hn1 := HV.out.v.one
            have hn2 := HV.out.v.twelve
            have hpb := prOf_bd (C := L) (B := Q) (m := mm) HV2.out.bd (by omega) (by omega)
            have hqr := gQR (C := L) (B := Q) (m := mm) hn1 hn2 hmm hpb.1 hpb.2
            have hpd := fun i => paid_bd (C := L) (B := Q) (m := mm) (i := i) HV.out.v.bd hpb.1 hpb.2
            have hyb := after_bd (hpd i) hqr.2.2.1 hqr.2.2.2.1
            clear CG hrd hP2 hb2 hE hF hA hok hpb hqr hpd hn1 hn2
            go_wp2_with fail
            refine HCG.out.mono ?_
            rintro e w3 ⟨A2, k2, A3, k3, rfl, r2, r3, hb3⟩
            have hfl := freeL_length (C := L) hmQ
            have hal : (aftL L Q mm).length = L.length := (aftL_length L Q mm).trans HL3.out
            rw [hfl, hal]
            have HB3 := Lib.hid (HB2.out.trans (hb3.mono HB2.out.size))
            have HW3 := Lib.hid (HW2.out.trans (hb3.mono HW2.out.size))
            obtain ⟨ub, uoff, u, rfl, _, hu, hui, cu⟩ := (HR.out w3 HB3.out).2.1.at_ q2
            obtain ⟨yb, yoff, y, rfl, _, hy, hyi, cy⟩ := r3.at_ (k := i) (by omega)
            have hyv : y = after L Q mm i := by
              have h2 : (aftL L Q mm)[i]? = some (after L Q mm i) := by simp [aftL, hab]
              rw [h2] at hy
              simpa using hy.symm
            have hub := HV.out.v.bd u (List.mem_of_getElem? hu)
            rw [← hyv] at hyb
            have hst := HGJ.out
            rw [getD_of hu, ← hyv] at hst
            have R2 := Lib.hid r2
            have HFL := Lib.hid hfl
            clear hfl hal hu hui hy hyi hyv r2 r3 hb3 HCG HGJ HOJ
            have e1 : IntKind.i64.wrap (y - u) = y - u := IntWalk.i64_in _ (by omega)
            by_cases hp : place L Q i < mm
            · rw [if_pos hp] at hst
              have hin : decide ((i : Int) ∈ freeL L Q mm) = true := decide_eq_true ((freeL_mem hab).2 hp)
              have hst' := hst.symm
              have HST := Lib.hid hst
              have hgb : -17000000 ≤ gf j ∧ gf j ≤ 17000000 := by omega
              clear hst hst'
              go_wp2
              go_quiet (fail)
              have HW4 : Hid (Below w1.heap.size w1 (w3.drewN nq)) := Lib.hid (below_drewN HW3.out _)
              have R4 : Hid (Rd (w3.drewN nq) (w3.drewN nq).heap.size (A2) (freeL L Q mm)) := Lib.hid R2.out
              clear HW3 HB3 R2 e1 cu cy
              generalize w3.drewN nq = w4 at *
              have CC := contW (cap := k2) R4.out (i : Int)
              rw [hin, HFL.out] at CC
              have HCC := Lib.hid CC
              clear hin CC
              go_wp2_with fail
              refine HCC.out.mono ?_
              rintro e w5 ⟨rfl, rfl⟩
              clear HCC
              have hst := HST.out.symm
              obtain ⟨gj, hgj⟩ : ∃ gj, gf j = gj := ⟨_, rfl⟩
              rw [hgj] at hst hgb
              have HGE := Lib.hid hgj
              clear hgj HST
              rcases hs.out with ⟨rfl, rfl, rfl, rfl⟩ | ⟨rfl, rfl⟩
              · rw [bidUp_first HOKJ.out] at hup
                rw [HGE.out] at hup
                go_wp2
                go_roundw
                case rel => exact ⟨j + 1, m', some ((j : Int), gj), j, gj, true, by have := HJM.out; have := HM.out; omega, by go_num, rfl, rfl, rfl, HW4, Lib.hid (by rw [← hup.out]; rfl), Lib.hid (.inr ⟨rfl, rfl⟩)⟩
                case measure => simp [intOf]; omega
              · by_cases hg : gv < gj
                · rw [bidUp_more HOKJ.out (by rw [HGE.out]; exact hg)] at hup
                  rw [HGE.out] at hup
                  go_wp2
                  go_roundw
                  case rel => exact ⟨j + 1, m', some ((j : Int), gj), j, gj, true, by have := HJM.out; have := HM.out; omega, by go_num, rfl, rfl, rfl, HW4, Lib.hid (by rw [← hup.out]; rfl), Lib.hid (.inr ⟨rfl, rfl⟩)⟩
                  case measure => simp [intOf]; omega
                · rw [bidUp_less (by rw [HGE.out]; exact hg)] at hup
                  go_wp2
                  go_roundw
                  case rel => exact ⟨j + 1, m', some (bv, gv), bv, gv, true, by have := HJM.out; have := HM.out; omega, by go_num, rfl, rfl, rfl, HW4, Lib.hid (by rw [← hup.out]; rfl), Lib.hid (.inr ⟨rfl, rfl⟩)⟩
                  case measure => simp [intOf]; omega
            · rw [if_neg hp, Int.add_zero] at hst
              have hin : decide ((i : Int) ∈ freeL L Q mm) = false := decide_eq_false fun h => hp ((freeL_mem hab).1 h)
              have HST := Lib.hid hst
              have hgb : -17000000 ≤ gf j ∧ gf j ≤ 17000000 := by omega
              clear hst
              go_wp2
              go_quiet (fail)
              have HW4 : Hid (Below w1.heap.size w1 (w3.drewN nq)) := Lib.hid (below_drewN HW3.out _)
              have R4 : Hid (Rd (w3.drewN nq) (w3.drewN nq).heap.size (A2) (freeL L Q mm)) := Lib.hid R2.out
              clear HW3 HB3 R2 e1 cu cy
              generalize w3.drewN nq = w4 at *
              have CC := contW (cap := k2) R4.out (i : Int)
              rw [hin, HFL.out] at CC
              have HCC := Lib.hid CC
              clear hin CC
              go_wp2_with fail
              refine HCC.out.mono ?_
              rintro e w5 ⟨rfl, rfl⟩
              clear HCC
              have hst := HST.out.symm
              obtain ⟨gj, hgj⟩ : ∃ gj, gf j = gj := ⟨_, rfl⟩
              rw [hgj] at hst hgb
              have HGE := Lib.hid hgj
              clear hgj HST
              rcases hs.out with ⟨rfl, rfl, rfl, rfl⟩ | ⟨rfl, rfl⟩
              · rw [bidUp_first HOKJ.out] at hup
                rw [HGE.out] at hup
                go_wp2
                go_roundw
                case rel => exact ⟨j + 1, m', some ((j : Int), gj), j, gj, true, by have := HJM.out; have := HM.out; omega, by go_num, rfl, rfl, rfl, HW4, Lib.hid (by rw [← hup.out]; rfl), Lib.hid (.inr ⟨rfl, rfl⟩)⟩
                case measure => simp [intOf]; omega
              · by_cases hg : gv < gj
                · rw [bidUp_more HOKJ.out (by rw [HGE.out]; exact hg)] at hup
                  rw [HGE.out] at hup
                  go_wp2
                  go_roundw
                  case rel => exact ⟨j + 1, m', some ((j : Int), gj), j, gj, true, by have := HJM.out; have := HM.out; omega, by go_num, rfl, rfl, rfl, HW4, Lib.hid (by rw [← hup.out]; rfl), Lib.hid (.inr ⟨rfl, rfl⟩)⟩
                  case measure => simp [intOf]; omega
                · rw [bidUp_less (by rw [HGE.out]; exact hg)] at hup
                  go_wp2
                  go_roundw
                  case rel => exact ⟨j + 1, m', some (bv, gv), bv, gv, true, by have := HJM.out; have := HM.out; omega, by go_num, rfl, rfl, rfl, HW4, Lib.hid (by rw [← hup.out]; rfl), Lib.hid (.inr ⟨rfl, rfl⟩)⟩
                  case measure => simp [intOf]; omega
          · have hok : ok j = false := by rw [HOJ.out]; exact decide_eq_false hE
            have hne : (gvE L Q mm != 0) = true := by simpa using hE
            have HCG := Lib.hid CG
            rw [bidUp_no hok] at hup
            clear CG hrd hP2 hb2 hE hok
            go_wp2_with fail
            refine HCG.out.mono ?_
            rintro e w3 ⟨A2, k2, A3, k3, rfl, r2, r3, hb3⟩
            have HW3 := Lib.hid (HW2.out.trans (hb3.mono HW2.out.size))
            clear r2 r3 hb3 HCG
            generalize gvE L Q mm = ge at *
            go_wp2
            go_roundw
            case rel => exact ⟨j + 1, m', s, bv, gv, fd, by have := HJM.out; have := HM.out; omega, by go_num, rfl, rfl, rfl, HW3, Lib.hid (by rw [← hup.out]; rfl), hs⟩
            case measure => simp [intOf]; omega
        · obtain rfl : mr = 0 := by have := HJM.out; omega
          have hjt : top + 1 ≤ (j : Int) := by omega
          have hfin := hr.out
          rw [show bidGo ok gf 0 j s = s from rfl, ← hS.out] at hfin
          rcases hs.out with ⟨rfl, rfl, rfl, rfl⟩ | ⟨rfl, rfl⟩
          · have hE := bdE_none HP.out HBB.out hfin.symm
            have hR := bdR_no (C := L) (B := O) (m := mm) (a := i) (wv := wv) (top := top) (by rw [hE]; decide)
            have HE := Lib.hid hE
            have HRR := Lib.hid hR
            clear hE hR hfin hs hr
            go_wp2
            go_ret3
            rw [HRR.out, HE.out]
            exact ⟨rfl, HB1.out.trans (hw.out.mono HB1.out.size)⟩
          · have hE := bdE_ok HP.out HBB.out (by rw [← hfin]; simp)
            have hR := bdR_ok hE hfin.symm
            have HE := Lib.hid hE
            have HRR := Lib.hid hR
            clear hE hR hfin hs hr
            go_wp2
            go_ret3
            rw [HRR.out, HE.out]
            exact ⟨rfl, HB1.out.trans (hw.out.mono HB1.out.size)⟩
  · have hE := bdE_pc (a := a) (wv := wv) (top := top) hp
    rw [bdR_no (by rw [hE]; exact hp), hE]
    have hb : (pcE L O m != 0) = true := by simpa using hp
    clear hp hE h h' hB hC
    generalize pcE L O m = c at *
    go_enter Try.func24, Try.ntmps24
    go_wp2_with (go_at_call 51; refine C1.mono ?_; rintro e w1 ⟨rfl, hb1⟩)
    go_ret3
    exact ⟨rfl, hb1⟩
end Go.Proofs.Ytjgobpejifhphaa

import Derived.Test.YtipidlonidihbaaS33i
import Derived.Test.YtipidlonidihbaaS33j
import Derived.Test.YtipidlonidihbaaW33l
import Derived.Test.YtipidlonidihbaaClone
/-! The walk of holiday's Run. -/
namespace Go.Proofs.Ytipidlonidihbaa
open Go.RowKit Go.Deep
set_option linter.unusedVariables false
set_option maxRecDepth 100000

theorem infoSl : (Try.prog.info? 22).map (fun i => (i.zero, i.size, i.bytes)) = some (some (.slice none 0 0), 1, 24) := by kernel_rfl

set_option maxHeartbeats 1000000 in
theorem hRun {w : World} {B C : Nat} {A A' : Option Addr} {L : List Int} {HL : List (Int × List Int)} {cap cap' : Nat} (h : Rd w B A L) (h' : RdH w C A' HL) (hB : B ≤ w.heap.size) (hC : C ≤ w.heap.size) :
    Calls Try.prog 24 #[.slice A L.length cap, .slice A' HL.length cap'] w (RunRes w (runV L HL)) := by
  have CC := hCheck (cap := cap) h
  by_cases hk : hck L = 0
  · by_cases hm : 400 < HL.length
    · rw [runV_many hk hm]
      rw [hk] at CC
      clear h h' hk
      go_enter Try.func24, Try.ntmps24
      go_wp2_with (go_at_call 16; refine CC.mono ?_; rintro e w' ⟨rfl, rfl⟩)
      go_ret3
      exact ⟨none, 0, none, 0, rfl, RdOf.nil _ _ _, Rd.nil _ _ _, Below.refl _ _⟩
    · rw [runV_go hk hm]
      have hV := hck_ok hk
      have CL := clone (cap := cap) h hB (by have := hV.one; omega)
      obtain ⟨i0, hi0, hz0, hz1, hz2⟩ := info_parts infoSl
      rw [hk] at CC
      have HI := Lib.hid hi0
      have H' := Lib.hid h'
      have HI64 : Hid (∀ x ∈ L, I64 x) := Lib.hid h.1
      have HLN : Hid (L.length ≤ 12) := Lib.hid hV.twelve
      have hlen := h.len
      clear hi0 h h' hk hV hlen
      generalize hr : runGo L [] HL = r
      have HR := Lib.hid hr
      clear hr
      go_enter Try.func24, Try.ntmps24
      go_wp2_with (first | (go_at_call 16; refine CC.mono ?_; rintro e w' ⟨rfl, rfl⟩) | fail)
      refine CL.mono ?_
      rintro e w1 ⟨g, c, rfl, hg, hP, hb⟩
      have HP := Lib.hid (hP.rd HI64.out (by have := HLN.out; omega) hP.lt)
      have HB1 := Lib.hid hb
      clear hP hb CC CL
      go_wp2
      go_loopw [4, 5, 23] (fun f a i wr => ∃ (k : Nat) (F : List (List Int)) (vs : List Value) (A2 : Option Addr) (c2 : Nat) (M : List Int), k ≤ HL.length ∧ i = .int .i64 k ∧ a = .slice A2 M.length c2
        ∧ Hid (Rd wr wr.heap.size A2 M) ∧ Hid (wr.ownsRow w1.heap.size 22 1 f F.length vs) ∧ Hid (VRowsN wr f vs F) ∧ Hid (F.length = k) ∧ Hid (runGo M F (HL.drop k) = r) ∧ Hid (Below w.heap.size w wr) ∧ Hid (w1.heap.size ≤ wr.heap.size)) (fun _ _ i _ => HL.length - (intOf i).toNat)
      case atStart => exact ⟨0, [], [], _, _, L, by omega, rfl, rfl, HP, Lib.hid (own_row_nil _ _ _), Lib.hid (VRowsN.nil _ _), Lib.hid rfl, Lib.hid (by simpa using HR.out), HB1, Lib.hid (Nat.le_refl _)⟩
      case round =>
        obtain ⟨k, F, vs, A2, c2, M, hk, rfl, rfl, hrd, ho, hv, hfk, hr, hbw, hs⟩ := hrel
        by_cases hlt : k < HL.length
        · obtain ⟨b, off, m, Bd, A1, c1, rfl, hb, hx, hi, hc0, hc1, hbd⟩ := (H'.out.below hbw.out hC).at_ hlt
          have HG : Hid (∀ u : World, Below wr.heap.size wr u → Calls Try.prog 14 #[.slice A2 M.length c2, .slice A1 Bd.length c1, .int .i64 m] u (GiveResX u (gvF M Bd m) (gvA M Bd m) (gvE M Bd m))) :=
            Lib.hid fun u hu => hGiveX (hrd.out.below hu (Nat.le_refl _)) (hbd.below hu (Nat.le_trans hC hbw.out.size)) hu.size (Nat.le_trans hC (Nat.le_trans hbw.out.size hu.size)) m
          have HX := Lib.hid hx
          have HIM := Lib.hid hi
          clear hx hi hbd
          have hal := Below.alloc (Below.refl wr.heap.size wr) (Nat.le_refl _) (.cells #[.int .i64 m, .slice A1 Bd.length c1] 55)
          have HAL := Lib.hid hal
          clear hal
          by_cases hE : gvE M Bd m = 0
          · have hnx := hr.out
            rw [dropA_of HX.out, runGo_ok hE] at hnx
            have HNX := Lib.hid hnx
            rw [hE] at HG
            clear hnx hr hE
            generalize gvF M Bd m = F1 at *
            generalize gvA M Bd m = M1 at *
            go_wp2_with fail
            refine (HG.out _ HAL.out).mono ?_
            rintro e w3 ⟨A3, c3, A4, c4, rfl, r3, r4, hb3, hf3, hf4⟩
            have hb3' := HAL.out.trans (hb3.mono (by simp))
            have HO3 := Lib.hid (row_below ho.out hb3')
            have hlo : ∀ q, u4.ownBlock = some q → q < wr.heap.size := fun q hq => (ho.out.lt q hq).2
            have HV3 := Lib.hid ((hv.out.below hb3').snoc r3 (c := c3) (fun p hp hq => by have h1 := hf3 p hp; have h2 := hlo _ hq; simp at h1; omega))
            have HBW3 := Lib.hid (hbw.out.trans (hb3'.mono hbw.out.size))
            have HS3 : Hid (w1.heap.size ≤ w3.heap.size) := Lib.hid (Nat.le_trans hs.out hb3'.size)
            have R3 := Lib.hid r3
            have R4 := Lib.hid r4
            have hoz := Lib.hid (HO3.out.alloc (.cells #[.slice A3 F1.length c3] 22))
            have hcz := Lib.hid (new_one w3 (.slice A3 F1.length c3) 22)
            have hbz := Lib.hid (Below.alloc (Below.refl w3.heap.size w3) (Nat.le_refl _) (.cells #[.slice A3 F1.length c3] 22))
            have hwz : Hid ((w3.alloc (.cells #[.slice A3 F1.length c3] 22)).heap.size = w3.heap.size + 1) := Lib.hid (by simp)
            have hFk : F.length ≤ 400 := by have := hfk.out; omega
            have HA4 : Hid (∀ p, A4 = some p → u4.ownBlock ≠ some p.block) := Lib.hid (fun p hp hq => by have h1 := hf4 p hp; have h2 := hlo _ hq; simp at h1; omega)
            clear r3 r4 hb3 hb3' hf3 hf4 hlo HG ho hv hc0 hc1 hbw
            generalize hgw : w3.alloc (.cells #[.slice A3 F1.length c3] 22) = wa at *
            have hvz := Lib.hid (HV3.out.below hbz.out)
            go_wp2_with (at_builtin; refine wpList_append_own_at _ rfl _ _ 44 rfl w1.heap.size 22 i0 (.slice none 0 0) 1 24 Try.underlying44 HI.out hz0 hz1 hz2 rfl (by decide) _ F.length _ rfl hoz.out ⟨w3.heap.size, 0, none⟩ 1 1 [.slice A3 F1.length c3] rfl (by simp) hcz.out (by simp [Value.oneCell']) (by unfold maxLen; omega) (by omega) (by rw [hwz.out]; have := HS3.out; omega) ?_)
            intro v' w5 hown hgrow _ hat
            have hv5 := Lib.hid (hvz.out.grown hgrow hat)
            have hb5 : Below w1.heap.size wa w5 := (Below.refl _ wa).grown hgrow (by rw [hwz.out]; have := HS3.out; omega) (fun q hq => (hoz.out.lt q hq).1)
            have HR5 : Hid (Rd w5 w5.heap.size A4 M1) := Lib.hid ((R4.out.below hbz.out (Nat.le_refl _)).keepA (by have := hgrow.size; have := hwz.out; omega) (fun p hp hlt => hgrow.block _ (by have := hwz.out; omega) (Ne.symm (HA4.out p hp))))
            have HB5 : Hid (Below w.heap.size w w5) := Lib.hid (HBW3.out.trans ((hbz.out.mono HBW3.out.size).trans (hb5.mono HB1.out.size)))
            have HS5 : Hid (w1.heap.size ≤ w5.heap.size) := Lib.hid (by have := hb5.size; have := hwz.out; have := HS3.out; omega)
            have HO5 := Lib.hid hown
            clear hgw hown hgrow hat hb5
            go_wp2
            go_roundw
            case rel => exact ⟨k + 1, F ++ [F1], _, A4, c4, M1, by omega, by go_num, rfl, HR5, Lib.hid (by simpa using HO5.out), hv5, Lib.hid (by simp; have := hfk.out; omega), HNX, HB5, HS5⟩
            case measure => simp [intOf]; omega
          · have hnx := hr.out
            rw [dropA_of HX.out, runGo_err hE] at hnx
            have HNX := Lib.hid hnx.symm
            have hne : (gvE M Bd m != 0) = true := by simpa using hE
            clear hnx hr hE
            generalize gvE M Bd m = ge at *
            go_wp2_with fail
            refine (HG.out _ HAL.out).mono ?_
            rintro e w3 ⟨A3, c3, A4, c4, rfl, r3, r4, hb3, hf3, hf4⟩
            have HB3 := Lib.hid (hbw.out.trans ((HAL.out.trans (hb3.mono (by simp))).mono hbw.out.size))
            clear r3 r4 hb3 hf3 hf4 HG ho hv hbw
            go_wp2
            go_ret3
            rw [HNX.out]
            exact ⟨none, 0, none, 0, rfl, RdOf.nil _ _ _, Rd.nil _ _ _, HB3.out⟩
        · have hge : HL.length ≤ k := by omega
          have hr' := hr.out
          rw [drop_end hge] at hr'
          have HRR : Hid (r = (0, F, M)) := Lib.hid hr'.symm
          have hfk' := hfk.out
          obtain ⟨fa, fc, rfl, hfa⟩ := row_slice ho.out
          have R2 := Lib.hid (rd2_of_row ho.out hv.out.rows (by omega))
          clear hr hr' hfk hfk' hfa ho hv
          go_wp2
          go_ret3
          rw [HRR.out]
          exact ⟨fa, fc, A2, c2, rfl, R2.out, hrd.out, hbw.out⟩
  · rw [runV_bad hk]
    have hb : (hck L != 0) = true := by simpa using hk
    clear hk h h' hB hC
    generalize hck L = c at *
    go_enter Try.func24, Try.ntmps24
    go_wp2_with (go_at_call 16; refine CC.mono ?_; rintro e w' ⟨rfl, rfl⟩)
    go_ret3
    exact ⟨none, 0, none, 0, rfl, RdOf.nil _ _ _, Rd.nil _ _ _, Below.refl _ _⟩
end Go.Proofs.Ytipidlonidihbaa

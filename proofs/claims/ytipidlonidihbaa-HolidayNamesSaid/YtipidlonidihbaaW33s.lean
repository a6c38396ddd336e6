import Derived.Test.YtipidlonidihbaaW33r
/-! The walk of the reference's Run. -/
namespace Go.Proofs.Ytipidlonidihbaa
open Go.RowKit Go.Deep
set_option linter.unusedVariables false
set_option maxRecDepth 100000

/-- Give's results, against the world of the round -/
def GiveW (wr : World) (P Q : List Int) (c : Int) (e : Ending) (w' : World) : Prop :=
  ∃ A cap A' cap', e = .returned (.tuple #[.slice A P.length cap, .slice A' Q.length cap', .int .i64 c]) ∧ Hid (Rd w' w'.heap.size A P) ∧ Hid (Rd w' w'.heap.size A' Q)
    ∧ Hid (∀ p, A = some p → wr.heap.size ≤ p.block) ∧ Hid (∀ p, A' = some p → wr.heap.size ≤ p.block)
set_option maxHeartbeats 1000000 in
theorem hrRun {w : World} {B C : Nat} {A A' : Option Addr} {L : List Int} {HL : List (Int × List Int)} {cap cap' : Nat} (h : Rd w B A L) (h' : RdH w C A' HL) (hB : B ≤ w.heap.size) (hC : C ≤ w.heap.size) :
    Calls Try.prog 25 #[.slice A L.length cap, .slice A' HL.length cap'] w (RunRes w (runV L HL)) := by
  have CC := hrCheck (cap := cap) h
  by_cases hk : hck L = 0
  · by_cases hm : 400 < HL.length
    · rw [runV_many hk hm]
      rw [hk] at CC
      clear h h' hk
      go_enter Try.func25, Try.ntmps25
      go_wp2_with (go_at_call 17; refine CC.mono ?_; rintro e w' ⟨rfl, rfl⟩)
      go_ret3
      exact ⟨none, 0, none, 0, rfl, RdOf.nil _ _ _, Rd.nil _ _ _, Below.refl _ _⟩
    · rw [runV_go hk hm]
      have hV := hck_ok hk
      obtain ⟨i0, hi0, hz0, hz1, hz2⟩ := info_parts infoSl
      obtain ⟨j0, hj0, hy0, hy1, hy2⟩ := info_parts infoInt'
      rw [hk] at CC
      have HI := Lib.hid hi0
      have HJ := Lib.hid hj0
      have H' := Lib.hid h'
      have HI64 : Hid (∀ x ∈ L, I64 x) := Lib.hid h.1
      have HLN : Hid (L.length ≤ 12) := Lib.hid hV.twelve
      have hlen := h.len
      have hone := hV.one
      have hown0 := own_empty w 3
      have hal := Below.alloc (B := w.heap.size) (Below.refl _ w) (Nat.le_refl _) (.cells #[] 3)
      have hsz : (w.alloc (.cells #[] 3)).heap.size = w.heap.size + 1 := by simp
      obtain ⟨bb, off, rfl, hbb, hcells⟩ := (h.below hal hB).2.2 (by omega)
      have HO := Lib.hid hown0
      have HCE := Lib.hid (cells_ints hcells)
      have HAL0 := Lib.hid hal
      have HSZ := Lib.hid hsz
      clear hi0 hj0 h h' hk hV hcells hal hsz hown0
      generalize hr : runGo L [] HL = r
      have HR := Lib.hid hr
      clear hr
      go_enter Try.func25, Try.ntmps25
      generalize hw4 : w.alloc (.cells #[] 3) = w4 at *
      have HW4 := Lib.hid hw4
      clear hw4
      have hx4 : w.alloc (.cells #[] 3) = w4 := HW4.out
      go_wp2_with (first | (go_at_call 17; refine CC.mono ?_; rintro e w' ⟨rfl, rfl⟩) | (at_builtin; refine wpList_append_own _ rfl _ _ 22 rfl w.heap.size 3 j0 (.int .i64 0) 1 8 Try.underlying22 HJ.out hy0 hy1 hy2 rfl (by decide) _ 0 [] rfl HO.out ⟨bb, off, none⟩ L.length cap (L.map (Value.int .i64)) rfl (by simp) HCE.out (ints_oneCell _ _) (by unfold maxLen; omega) (by omega) (by rw [HSZ.out]; omega) ?_))
      intro v' w1 hown5 hgrow _
      have hb5 : Below w.heap.size w w1 := HAL0.out.grown hgrow (by rw [HSZ.out]; omega) (by intro k hk; simp [Value.ownBlock] at hk; omega)
      obtain ⟨g, c, hv5, hg, hP⟩ := ownP_of_row hown5 (by omega)
      rw [hv5]
      have HP := Lib.hid (hP.rd HI64.out (by have := HLN.out; omega) hP.lt)
      have HB1 := Lib.hid hb5
      clear hown5 hgrow hb5 hP hx4 hv5 HW4 HAL0 HCE HSZ CC
      go_wp2
      go_loopw [7, 8, 9] (fun a f i wr => ∃ (k : Nat) (F : List (List Int)) (vs : List Value) (A2 : Option Addr) (c2 : Nat) (M : List Int), k ≤ HL.length ∧ i = .int .i64 k ∧ a = .slice A2 M.length c2
        ∧ Hid (Rd wr wr.heap.size A2 M) ∧ Hid (wr.ownsRow w1.heap.size 22 1 f F.length vs) ∧ Hid (VRowsN wr f vs F) ∧ Hid (F.length = k) ∧ Hid (runGo M F (HL.drop k) = r) ∧ Hid (Below w.heap.size w wr) ∧ Hid (w1.heap.size ≤ wr.heap.size)) (fun _ _ i _ => HL.length - (intOf i).toNat)
      case atStart => exact ⟨0, [], [], _, _, L, by omega, rfl, rfl, HP, Lib.hid (own_row_nil _ _ _), Lib.hid (VRowsN.nil _ _), Lib.hid rfl, Lib.hid (by simpa using HR.out), HB1, Lib.hid (Nat.le_refl _)⟩
      case round =>
        obtain ⟨k, F, vs, A2, c2, M, hk, rfl, rfl, hrd, ho, hv, hfk, hr, hbw, hs⟩ := hrel
        by_cases hlt : k < HL.length
        · obtain ⟨b, off, m, Bd, A1, c1, rfl, hb, hx, hi, hc0, hc1, hbd⟩ := (H'.out.below hbw.out hC).at_ hlt
          have HG : Hid (∀ u : World, (u.cell? ⟨b, off + k * 2, none⟩ = some (.int .i64 m) ∧ u.cell? ⟨b, off + k * 2 + 1, none⟩ = some (.slice A1 Bd.length c1) ∧ Hid (Below wr.heap.size wr u)) → Calls Try.prog 15 #[.slice A2 M.length c2, .slice A1 Bd.length c1, .int .i64 m] u
              fun e u' => GiveW wr (gvF M Bd m) (gvA M Bd m) (gvE M Bd m) e u' ∧ (u'.cell? ⟨b, off + k * 2, none⟩ = some (.int .i64 m) ∧ u'.cell? ⟨b, off + k * 2 + 1, none⟩ = some (.slice A1 Bd.length c1) ∧ Hid (Below wr.heap.size wr u'))) :=
            Lib.hid fun u ⟨h1, h2, h3⟩ => (hrGiveX (hrd.out.below h3.out (Nat.le_refl _)) (hbd.below h3.out (Nat.le_trans hC hbw.out.size)) h3.out.size (Nat.le_trans hC (Nat.le_trans hbw.out.size h3.out.size)) m).mono fun e u' hg => by
              obtain ⟨A3, c3, A4, c4, he, r3, r4, hb3, hf3, hf4⟩ := hg
              have hsz := h3.out.size
              have hbw' := hbw.out.size
              exact ⟨⟨A3, c3, A4, c4, he, Lib.hid r3, Lib.hid r4, Lib.hid fun p hp => Nat.le_trans hsz (hf3 p hp), Lib.hid fun p hp => Nat.le_trans hsz (hf4 p hp)⟩, ((bcell hb3).1 b _ (by omega)).trans h1, ((bcell hb3).1 b _ (by omega)).trans h2, Lib.hid (h3.out.trans (hb3.mono hsz))⟩
          have HX := Lib.hid hx
          have HIM := Lib.hid hi
          clear hx hi hbd
          have hS0 : wr.drew.cell? ⟨b, off + k * 2, none⟩ = some (.int .i64 m) ∧ wr.drew.cell? ⟨b, off + k * 2 + 1, none⟩ = some (.slice A1 Bd.length c1) ∧ Hid (Below wr.heap.size wr wr.drew) := ⟨hc0, hc1, Lib.hid (below_drewN (Below.refl _ _) 1)⟩
          have hk0 : (0 : Int) ≤ (k : Int) := by omega
          have hk1 : (k : Int) < (HL.length : Int) := by omega
          by_cases hE : gvE M Bd m = 0
          · have hnx := hr.out
            rw [dropA_of HX.out, runGo_ok hE] at hnx
            have HNX := Lib.hid hnx
            rw [hE] at HG
            clear hnx hr hE
            generalize gvF M Bd m = F1 at *
            generalize gvA M Bd m = M1 at *
            go_wp2_with fail
            go_region_held3 (fun w' => w'.cell? ⟨b, off + k * 2, none⟩ = some (.int .i64 m) ∧ w'.cell? ⟨b, off + k * 2 + 1, none⟩ = some (.slice A1 Bd.length c1) ∧ Hid (Below wr.heap.size wr w')) (first | assumption | go_keep)
              ((go_at_call 15; refine (HG.out _ (by assumption)).mono ?_; rintro e w3 ⟨⟨A3, c3, A4, c4, rfl, r3, r4, hf3, hf4⟩, hS3⟩))
            have hb3' := hS3.2.2.out
            have HO3 := Lib.hid (row_below ho.out hb3')
            have hlo : ∀ q, u8.ownBlock = some q → q < wr.heap.size := fun q hq => (ho.out.lt q hq).2
            have HV3 := Lib.hid ((hv.out.below hb3').snoc r3.out (c := c3) (fun p hp hq => by have h1 := hf3.out p hp; have h2 := hlo _ hq; omega))
            have HBW3 := Lib.hid (hbw.out.trans (hb3'.mono hbw.out.size))
            have HS3 : Hid (w1.heap.size ≤ w3.heap.size) := Lib.hid (Nat.le_trans hs.out hb3'.size)
            have R3 := r3
            have R4 := r4
            have hoz := Lib.hid (HO3.out.alloc (.cells #[.slice A3 F1.length c3] 22))
            have hcz := Lib.hid (new_one w3 (.slice A3 F1.length c3) 22)
            have hbz := Lib.hid (Below.alloc (Below.refl w3.heap.size w3) (Nat.le_refl _) (.cells #[.slice A3 F1.length c3] 22))
            have hwz : Hid ((w3.alloc (.cells #[.slice A3 F1.length c3] 22)).heap.size = w3.heap.size + 1) := Lib.hid (by simp)
            have hFk : F.length ≤ 400 := by have := hfk.out; omega
            have HA4 : Hid (∀ p, A4 = some p → u8.ownBlock ≠ some p.block) := Lib.hid (fun p hp hq => by have h1 := hf4.out p hp; have h2 := hlo _ hq; omega)
            clear r3 r4 hb3' hf3 hf4 hlo HG ho hv hc0 hc1 hbw hS0 hS3
            generalize hgw : w3.alloc (.cells #[.slice A3 F1.length c3] 22) = wa at *
            have hvz := Lib.hid (HV3.out.below hbz.out)
            go_wp2_with (at_builtin; refine wpList_append_own_at _ rfl _ _ 44 rfl w1.heap.size 22 i0 (.slice none 0 0) 1 24 Try.underlying44 HI.out hz0 hz1 hz2 rfl (by decide) _ F.length _ rfl hoz.out ⟨w3.heap.size, 0, none⟩ 1 1 [.slice A3 F1.length c3] rfl (by simp) hcz.out (by simp [Value.oneCell']) (by unfold maxLen; omega) (by omega) (by rw [hwz.out]; have := HS3.out; omega) ?_)
            intro v' w5 hown hgrow _ hat
            have hv5 := Lib.hid (hvz.out.grown hgrow hat)
            have hb5 : Below w1.heap.size wa w5 := (Below.refl _ wa).grown hgrow (by rw [hwz.out]; have := HS3.out; omega) (fun q hq => (hoz.out.lt q hq).1)
            have HR5 : Hid (Rd w5 w5.heap.size A4 M1) := Lib.hid ((R4.out.below hbz.out (Nat.le_refl _)).keepA (by have := hgrow.size; have := hwz.out; omega) (fun p hp hlt => hgrow.block _ (by have := hwz.out; omega) (Ne.symm (HA4.out p hp))))
            have HB5 : Hid (Below w.heap.size w w5) := Lib.hid (HBW3.out.trans ((hbz.out.mono HBW3.out.size).trans (hb5.mono HB1.out.size)))
            have HS5 : Hid (w1.heap.size ≤ w5.heap.size) := Lib.hid (by have := hb5.size; have := hwz.out; have := HS3.out; omega)
            have HO5 := Lib.hid hown
            clear hgw hown hgrow hat hb5
            go_wp2
            go_roundw
            case rel => exact ⟨k + 1, F ++ [F1], _, A4, c4, M1, by omega, by go_num, rfl, HR5, Lib.hid (by simpa using HO5.out), hv5, Lib.hid (by simp; have := hfk.out; omega), HNX, HB5, HS5⟩
            case measure => simp [intOf]; omega
          · have hnx := hr.out
            rw [dropA_of HX.out, runGo_err hE] at hnx
            have HNX := Lib.hid hnx.symm
            have hne : (gvE M Bd m != 0) = true := by simpa using hE
            clear hnx hr hE
            generalize gvE M Bd m = ge at *
            go_wp2_with fail
            go_region_held3 (fun w' => w'.cell? ⟨b, off + k * 2, none⟩ = some (.int .i64 m) ∧ w'.cell? ⟨b, off + k * 2 + 1, none⟩ = some (.slice A1 Bd.length c1) ∧ Hid (Below wr.heap.size wr w')) (first | assumption | go_keep)
              ((go_at_call 15; refine (HG.out _ (by assumption)).mono ?_; rintro e w3 ⟨⟨A3, c3, A4, c4, rfl, r3, r4, hf3, hf4⟩, hS3⟩))
            have hb3' := hS3.2.2.out
            have HB3 := Lib.hid (hbw.out.trans (hb3'.mono hbw.out.size))
            clear r3 r4 hb3' hf3 hf4 HG ho hv hbw hS0 hS3
            go_wp2
            go_ret3
            rw [HNX.out]
            exact ⟨none, 0, none, 0, rfl, RdOf.nil _ _ _, Rd.nil _ _ _, HB3.out⟩
        · have hge : HL.length ≤ k := by omega
          have hr' := hr.out
          rw [drop_end hge] at hr'
          have HRR : Hid (r = (0, F, M)) := Lib.hid hr'.symm
          have hfk' := hfk.out
          obtain ⟨fa, fc, rfl, hfa⟩ := row_slice ho.out
          have R2 := Lib.hid (rd2_of_row ho.out hv.out.rows (by omega))
          clear hr hr' hfk hfk' hfa ho hv
          go_wp2
          go_ret3
          rw [HRR.out]
          exact ⟨fa, fc, A2, c2, rfl, R2.out, hrd.out, hbw.out⟩
  · rw [runV_bad hk]
    have hb : (hck L != 0) = true := by simpa using hk
    clear hk h h' hB hC
    generalize hck L = c at *
    go_enter Try.func25, Try.ntmps25
    go_wp2_with (go_at_call 17; refine CC.mono ?_; rintro e w' ⟨rfl, rfl⟩)
    go_ret3
    exact ⟨none, 0, none, 0, rfl, RdOf.nil _ _ _, Rd.nil _ _ _, Below.refl _ _⟩
end Go.Proofs.Ytipidlonidihbaa

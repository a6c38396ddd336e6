import Derived.Test.YtefbkdjppfofmaaS26n
import Derived.Test.YtefbkdjppfofmaaW26A
import Derived.Test.YtefbkdjppfofmaaW26z
import Derived.Test.YtefbkdjppfofmaaW26e
import Derived.Test.YtefbkdjppfofmaaW26f
/-! The walk of LevelPasses. -/
namespace Go.Proofs.Ytefbkdjppfofmaa
open Go.RowKit Go.Deep
set_option linter.unusedVariables false
set_option maxRecDepth 100000

set_option maxHeartbeats 4000000 in
theorem levelPasses {w : World} {A A' : Option Addr} {W : List (List Bool)} {a : List Int} {cap cap' : Nat} (h : RdB2 w w.heap.size A W) (h' : Rd w w.heap.size A' a) :
    Calls Try.prog 9 #[.slice A W.length cap, .slice A' a.length cap'] w fun e w' => e = .returned (.bool true) ∧ Below w.heap.size w w' := by
  have l1 := h.len
  have l2 := h'.len
  have H := Lib.hid h
  have H' := Lib.hid h'
  have HCK : Hid (∀ u : World, Below w.heap.size w u → Calls Try.prog 18 #[.slice A W.length cap] u fun e w' => e = .returned (.int .i64 (chk26 W)) ∧ Below u.heap.size u w') := Lib.hid fun u hu => lrCheck26 (cap := cap) (h.below hu (Nat.le_refl _)) hu.size
  clear h h'
  by_cases hk : chk26 W = 0
  · obtain ⟨m, n, v⟩ := chk26_zero hk
    rw [hk] at HCK
    have HCM : Hid (∀ u : World, Below w.heap.size w u → Calls Try.prog 19 #[.slice A W.length cap, .slice A' a.length cap'] u fun e w' => e = .returned (.bool (fullB W a)) ∧ u = w') := Lib.hid fun u hu => lrComplete (cap := cap) (cap' := cap') (H.out.below hu (Nat.le_refl _)) (H'.out.below hu (Nat.le_refl _)) v
    have HV := Lib.hid v
    have HK := Lib.hid hk
    clear hk v
    cases hf : fullB W a
    · rw [hf] at HCM
      clear hf
      go_enter Try.func9, Try.ntmps9
      go_wp2_with fail
      refine (alive26 w).mono ?_
      rintro e w1 ⟨rfl, b1⟩
      have B1 := Lib.hid b1
      clear b1
      go_wp2_with fail
      refine (HCK.out w1 B1.out).mono ?_
      rintro e w2 ⟨rfl, b2⟩
      have B2 := Lib.hid (B1.out.trans (b2.mono B1.out.size))
      clear b2
      go_wp2_with fail
      refine (HCM.out w2 B2.out).mono ?_
      rintro e w' ⟨rfl, rfl⟩
      go_wp2
      go_ret
      exact ⟨rfl, B2.out⟩
    · have HF := Lib.hid hf
      rw [hf] at HCM
      clear hf
      go_enter Try.func9, Try.ntmps9
      go_wp2_with fail
      refine (alive26 w).mono ?_
      rintro e w1 ⟨rfl, b1⟩
      have B1 := Lib.hid b1
      clear b1
      go_wp2_with fail
      refine (HCK.out w1 B1.out).mono ?_
      rintro e w2 ⟨rfl, b2⟩
      have B2 := Lib.hid (B1.out.trans (b2.mono B1.out.size))
      clear b2
      go_wp2_with fail
      refine (HCM.out w2 B2.out).mono ?_
      rintro e w' ⟨rfl, rfl⟩
      clear HCM HCK
      have C3 := Lib.hid (lChainC (cap := cap) (cap' := cap') (H.out.below B2.out (Nat.le_refl _)) (H'.out.below B2.out (Nat.le_refl _)) B2.out.size B2.out.size)
      go_wp2_with fail
      refine C3.out.mono ?_
      rintro e w3 ⟨A3, k3, rfl, r3, b3, hcap3⟩
      have B3 := Lib.hid (B2.out.trans (b3.mono B2.out.size))
      clear C3 b3
      by_cases hno : NoShort W m a 0
      · have e1 := chC_six HV.out HF.out hno
        have e2 := chF_nil HV.out HF.out hno
        rw [e1, e2, show ([] : List Int).length = 0 from rfl]
        clear e1 e2 hno r3 hcap3
        go_wp2
        go_ret
        exact ⟨rfl, B3.out⟩
      · have e1 := chC_zero HV.out HF.out hno
        obtain ⟨l, out, k, hch, hck, h2, hpf, hpc, hfo, hlo, hmv, hme, hne, hcn⟩ := pass_facts HV.out HF.out hno
        rw [hch] at r3 hcap3 ⊢
        rw [e1]
        have hl6 : l.length ≤ 6 := by have := nodup_le hck.nd hck.lt; have := HV.out.m6; omega
        obtain ⟨p, hp⟩ : ∃ p, l.length = p + 1 := ⟨l.length - 1, by omega⟩
        have hN : (NL l).length = p + 1 := by rw [NL_length, hp]
        have hp1 : 1 ≤ p := by omega
        have R3 := Lib.hid r3
        have c4 := lPassE (cap := cap) (cap' := cap') (cap3 := k3) (H.out.below B3.out (Nat.le_refl _)) (H'.out.below B3.out (Nat.le_refl _)) r3 B3.out.size B3.out.size (Nat.le_refl _) (by rw [hN]; omega) hcap3
        rw [hpf, hpc, hN] at c4
        have C4 := Lib.hid c4
        have HN := Lib.hid hN
        have HCKL := Lib.hid hck
        have HFO := Lib.hid hfo
        have HLO := Lib.hid hlo
        have HLA := Lib.hid (lkd_ok HV.out HF.out)
        have HMV := Lib.hid hmv
        have HME := Lib.hid hme
        have HNE := Lib.hid hne
        have HCN := Lib.hid hcn
        have HCA := Lib.hid (cnt_ok HV.out HF.out)
        have HCO := Lib.hid (cnt_ok HV.out hfo)
        have HPL := Lib.hid hp
        have p6 : p ≤ 6 := by omega
        rw [hN]
        clear r3 hcap3 e1 hno hch hck h2 hpf hpc hfo hlo hmv hme hne hcn hl6 hp hN c4
        go_wp2_with fail
        refine C4.out.mono ?_
        rintro e w4 ⟨A4, k4, rfl, r4, b4⟩
        have R4 := Lib.hid r4
        have B4 := Lib.hid (B3.out.trans (b4.mono B3.out.size))
        replace R3 := Lib.hid ((R3.out.below b4 (Nat.le_refl _)).more b4.size)
        have cm := lrComplete (cap := cap) (cap' := k4) (H.out.below B4.out (Nat.le_refl _)) r4 HV.out
        rw [HFO.out] at cm
        have CM := Lib.hid cm
        clear r4 b4 C4 cm
        go_wp2_with fail
        refine CM.out.mono ?_
        rintro e w' ⟨rfl, rfl⟩
        have c5 := lCountsE (cap := cap) (cap' := cap') (H.out.below B4.out (Nat.le_refl _)) (H'.out.below B4.out (Nat.le_refl _)) B4.out.size B4.out.size
        rw [HLA.out] at c5
        have C5 := Lib.hid c5
        clear c5 CM
        go_wp2_with fail
        refine C5.out.mono ?_
        rintro e w5 ⟨A5, k5, rfl, r5, b5⟩
        have R5 := Lib.hid r5
        have B5 := Lib.hid (B4.out.trans (b5.mono B4.out.size))
        replace R3 := Lib.hid ((R3.out.below b5 (Nat.le_refl _)).more b5.size)
        replace R4 := Lib.hid ((R4.out.below b5 (Nat.le_refl _)).more b5.size)
        clear r5 b5 C5
        have c6 := lCountsE (cap := cap) (cap' := k4) (H.out.below B5.out (Nat.le_refl _)) R4.out B5.out.size (Nat.le_refl _)
        rw [HLO.out] at c6
        have C6 := Lib.hid c6
        clear c6
        go_wp2_with fail
        refine C6.out.mono ?_
        rintro e w6 ⟨A6, k6, rfl, r6, b6⟩
        have R6 := Lib.hid r6
        have B6 := Lib.hid (B5.out.trans (b6.mono B5.out.size))
        replace R3 := Lib.hid ((R3.out.below b6 (Nat.le_refl _)).more b6.size)
        replace R5 := Lib.hid ((R5.out.below b6 (Nat.le_refl _)).more b6.size)
        clear r6 b6 C6 R4
        have c7 := lMore (cap := k6) (cap' := k5) R6.out R5.out (Nat.le_refl _) (Nat.le_refl _)
        rw [HMV.out, HME.out] at c7
        have C7 := Lib.hid c7
        clear c7
        go_wp2_with fail
        refine C7.out.mono ?_
        rintro e w7 ⟨rfl, b7⟩
        have B7 := Lib.hid (B6.out.trans (b7.mono B6.out.size))
        replace R3 := Lib.hid ((R3.out.below b7 (Nat.le_refl _)).more b7.size)
        replace R5 := Lib.hid ((R5.out.below b7 (Nat.le_refl _)).more b7.size)
        replace R6 := Lib.hid ((R6.out.below b7 (Nat.le_refl _)).more b7.size)
        rw [HCA.out] at R5
        rw [HCO.out] at R6
        rw [HCA.out, HCO.out, cnts_length, cnts_length]
        have HM := Lib.hid HV.out.len
        obtain rfl := HV.out.len
        clear b7 C7
        have q1 : ((W.length : Int) != (W.length : Int)) = false := by simp
        have m0 := HV.out.m0
        have m6 := HV.out.m6
        obtain ⟨bl, ol, rfl, hbl, hcl⟩ := R3.out.2.2 (by rw [HN.out]; omega)
        have hlen0 : 0 < l.length := by rw [HPL.out]; omega
        obtain ⟨hd, ehd⟩ : ∃ x, l.headD 0 = x := ⟨_, rfl⟩
        obtain ⟨la, ela⟩ : ∃ x, l.getLastD 0 = x := ⟨_, rfl⟩
        have hdm : hd < W.length := HCKL.out.lt hd (ehd ▸ mem_head hlen0)
        have lam : la < W.length := HCKL.out.lt la (ela ▸ mem_last hlen0)
        have hat0 := NL_at (head_at hlen0)
        have hat1 := NL_at (last_at hlen0)
        rw [HPL.out, Nat.add_sub_cancel, ela] at hat1
        rw [ehd] at hat0
        have hc0 := hcl 0 _ hat0
        rw [Nat.add_zero] at hc0
        have hc1 := hcl p _ hat1
        obtain ⟨bx, ox, rfl, hbx, hcx⟩ := R5.out.2.2 (by rw [cnts_length]; exact m0)
        obtain ⟨by_, oy, rfl, hby, hcy⟩ := R6.out.2.2 (by rw [cnts_length]; exact m0)
        have HCX : Hid (∀ i, i < W.length → w7.cell? ⟨bx, ox + i, none⟩ = some (.int .i64 (cn a i))) := Lib.hid fun i hi => hcx i _ (cnts_at hi)
        have HCY : Hid (∀ i, i < W.length → w7.cell? ⟨by_, oy + i, none⟩ = some (.int .i64 (cn out i))) := Lib.hid fun i hi => hcy i _ (cnts_at hi)
        have HDL : Hid (∀ i, cn out i = cn a i - dl i hd + dl i la) := Lib.hid fun i => by rw [← ehd, ← ela]; exact HCN.out i
        have HHL : Hid (hd ≠ la) := Lib.hid (by rw [← ehd, ← ela]; exact HNE.out)
        have HBD : Hid (∀ i, 0 ≤ cn a i ∧ cn a i ≤ 100) := Lib.hid fun i => by
          have h1 := cn_nonneg a i
          have h2 := cntTo_le a i a.length
          have h3 := (full_of HV.out HF.out).len
          have h4 := HV.out.n10
          unfold cn at h1 ⊢
          omega
        clear hat0 hat1 hcl hcx hcy hbl hbx hby ehd ela hlen0 HCN HNE R3 R5 R6
        go_wp2_with fail
        go_loop [16] (fun iv => ∃ (i : Nat), i ≤ W.length ∧ iv = .int .i64 i) (fun iv => W.length - (intOf iv).toNat)
        case atStart => exact ⟨0, by omega, rfl⟩
        case round =>
          obtain ⟨i, hi, rfl⟩ := hrel
          by_cases hlt : i < W.length
          · have cx := HCX.out i hlt
            have cy := HCY.out i hlt
            have hdl := HDL.out i
            have hbd := HBD.out i
            have hhl := HHL.out
            rw [dl, dl] at hdl
            generalize cn a i = xv at *
            generalize cn out i = yv at *
            by_cases hih : i = hd
            · rw [if_pos hih, if_neg (by omega)] at hdl
              have HY : Hid (yv = xv - 1) := Lib.hid (by omega)
              have q2 : ((i : Int) == (hd : Int)) = true := by rw [hih]; simp
              have q3 : ((i : Int) == (la : Int)) = false := by simp; omega
              have q4 : (yv != xv - 1) = false := by rw [HY.out]; simp
              clear hdl hih hhl
              go_wp2
              go_round
              case rel => exact ⟨i + 1, by omega, by go_num⟩
              case measure => simp [intOf]; omega
            · by_cases hil : i = la
              · rw [if_neg hih, if_pos hil] at hdl
                have HY : Hid (yv = xv + 1) := Lib.hid (by omega)
                have q2 : ((i : Int) == (hd : Int)) = false := by simp; omega
                have q3 : ((i : Int) == (la : Int)) = true := by rw [hil]; simp
                have q4 : (yv != xv + 1) = false := by rw [HY.out]; simp
                clear hdl hih hhl hil
                go_wp2
                go_round
                case rel => exact ⟨i + 1, by omega, by go_num⟩
                case measure => simp [intOf]; omega
              · rw [if_neg hih, if_neg hil] at hdl
                have HY : Hid (yv = xv) := Lib.hid (by omega)
                have q2 : ((i : Int) == (hd : Int)) = false := by simp; omega
                have q3 : ((i : Int) == (la : Int)) = false := by simp; omega
                have q4 : (yv != xv) = false := by rw [HY.out]; simp
                clear hdl hih hhl hil
                go_wp2
                go_round
                case rel => exact ⟨i + 1, by omega, by go_num⟩
                case measure => simp [intOf]; omega
          · go_wp2
            go_ret
            exact ⟨rfl, B7.out⟩
  · have hne : (chk26 W != 0) = true := by simpa using hk
    clear hk
    generalize chk26 W = c at *
    go_enter Try.func9, Try.ntmps9
    go_wp2_with fail
    refine (alive26 w).mono ?_
    rintro e w1 ⟨rfl, b1⟩
    have B1 := Lib.hid b1
    clear b1
    go_wp2_with fail
    refine (HCK.out w1 B1.out).mono ?_
    rintro e w2 ⟨rfl, b2⟩
    have B2 := Lib.hid (B1.out.trans (b2.mono B1.out.size))
    clear b2
    go_wp2
    go_ret
    exact ⟨rfl, B2.out⟩
end Go.Proofs.Ytefbkdjppfofmaa

import Derived.Test.YtipidlonidihbaaS33g
/-! The walk of the statement HolidayMore. -/
namespace Go.Proofs.Ytipidlonidihbaa
open Go.RowKit Go.Deep
set_option linter.unusedVariables false
set_option maxRecDepth 100000

set_option maxRecDepth 100000 in
set_option maxHeartbeats 2000000 in
theorem mores {w : World} {A A' : Option Addr} {L O : List Int} {cap cap' : Nat} (h : Rd w w.heap.size A L) (h' : Rd w w.heap.size A' O) (m a : Int) (_h1 : I64 m) (_h2 : I64 a) :
    Calls Try.prog 6 #[.slice A L.length cap, .slice A' O.length cap', .int .i64 m, .int .i64 a] w fun e w' => e = .returned (.bool true) ∧ Below w.heap.size w w' := by
  have l1 := h.len
  have l2 := h'.len
  have R : ∀ u, Below w.heap.size w u → w.heap.size ≤ u.heap.size ∧ Rd u w.heap.size A L ∧ Rd u w.heap.size A' O := fun u hu => ⟨hu.size, h.below hu (Nat.le_refl _), h'.below hu (Nat.le_refl _)⟩
  have HR := Lib.hid R
  clear R h h' _h1 _h2
  by_cases hl : hlk L O = 0
  · have hV := hlk_ok hl
    have hn := hV.v.one
    have hn2 := hV.v.twelve
    have hlen := hV.len
    have HV := Lib.hid hV
    have HBO := Lib.hid (bidsOk_of hl)
    have HC0 := Lib.hid (hlk_hck hl)
    have HL := Lib.hid hl
    have HLEN := Lib.hid hlen
    have ho1 : 1 ≤ O.length := by omega
    have ho2 : O.length ≤ 12 := by omega
    clear hl hV hlen
    by_cases hm : m < 1 ∨ (L.length : Int) ≤ m
    · rcases hm with hm | hm
      · go_enter Try.func6, Try.ntmps6
        go_wp2_with fail
        refine (alive w).mono ?_
        rintro e w1 ⟨rfl, hb⟩
        have H1 := HR.out w1 hb
        go_wp2_with fail
        refine (hrCheck H1.2.1).mono ?_
        rw [HC0.out]
        rintro e w2 ⟨rfl, rfl⟩
        go_wp2_with fail
        refine (rBids H1.2.2 (L.length : Int)).mono ?_
        rw [HBO.out]
        rintro e w2 ⟨rfl, rfl⟩
        go_wp2
        go_ret
        exact ⟨rfl, hb⟩
      · have hm1 : ¬ m < 1 := by omega
        go_enter Try.func6, Try.ntmps6
        go_wp2_with fail
        refine (alive w).mono ?_
        rintro e w1 ⟨rfl, hb⟩
        have H1 := HR.out w1 hb
        go_wp2_with fail
        refine (hrCheck H1.2.1).mono ?_
        rw [HC0.out]
        rintro e w2 ⟨rfl, rfl⟩
        go_wp2_with fail
        refine (rBids H1.2.2 (L.length : Int)).mono ?_
        rw [HBO.out]
        rintro e w2 ⟨rfl, rfl⟩
        go_wp2
        go_ret
        exact ⟨rfl, hb⟩
    · obtain ⟨k, rfl⟩ := Int.eq_ofNat_of_zero_le (show 0 ≤ m by omega)
      have hk1 : 1 ≤ k := by omega
      have hk2 : k < L.length := by omega
      have e1 := pcE_ok (C := L) (B := O) (m := k) HL.out (by omega)
      have e2 := pcE_ok (C := L) (B := O) (m := (k : Int) + 1) HL.out (by omega)
      have hle := prOf_le (C := L) (B := O) hk1 (by have := HLEN.out; omega) HV.out.bd
      have v1 : pcV L O k = prOf L O k := by rw [pcV, if_pos e1]
      have v2 : pcV L O ((k : Int) + 1) = prOf L O ((k : Int) + 1) := by rw [pcV, if_pos e2]
      have hrk : rkL L O = rkList L O := by rw [rkL, if_pos HL.out]
      have hrl : (rkList L O).length = L.length := by rw [rkList_length]; exact HLEN.out
      have E1 := Lib.hid e1
      have E2 := Lib.hid e2
      have V1 := Lib.hid v1
      have V2 := Lib.hid v2
      have HRK := Lib.hid hrk
      have HRL := Lib.hid hrl
      have HLE := Lib.hid hle
      clear e1 e2 v1 v2 hrk hrl hm hle
      have PRE : Calls Try.prog 6 #[.slice A L.length cap, .slice A' O.length cap', .int .i64 k, .int .i64 a] w fun e w' => e = .returned (.bool true) ∧ Below w.heap.size w w' := by
        go_enter Try.func6, Try.ntmps6
        go_wp2_with fail
        refine (alive w).mono ?_
        rintro e w1 ⟨rfl, hb⟩
        have H1 := HR.out w1 hb
        go_wp2_with fail
        refine (hrCheck H1.2.1).mono ?_
        rw [HC0.out]
        rintro e w2 ⟨rfl, rfl⟩
        go_wp2_with fail
        refine (rBids H1.2.2 (L.length : Int)).mono ?_
        rw [HBO.out]
        rintro e w2 ⟨rfl, rfl⟩
        go_wp2_with fail
        refine (hRank H1.2.1 H1.2.2 H1.1 H1.1).mono ?_
        rw [HRK.out, HL.out]
        rintro e w2 ⟨A1, c1, rfl, r1, hb2⟩
        rw [HRL.out]
        replace hb := hb.trans (hb2.mono hb.size)
        clear H1 hb2 r1
        have H1 := HR.out w2 hb
        go_wp2_with fail
        refine (hPrice H1.2.1 H1.2.2 H1.1 H1.1 k).mono ?_
        rw [E1.out, V1.out]
        rintro e w3 ⟨rfl, hb2⟩
        replace hb := hb.trans (hb2.mono hb.size)
        clear H1 hb2
        have H1 := HR.out w3 hb
        have q1 : IntKind.i64.wrap ((k : Int) + 1) = (k : Int) + 1 := IntWalk.i64_in _ (by omega)
        go_wp2_with fail
        refine (hPrice H1.2.1 H1.2.2 H1.1 H1.1 ((k : Int) + 1)).mono ?_
        rw [E2.out, V2.out]
        rintro e w4 ⟨rfl, hb2⟩
        replace hb := hb.trans (hb2.mono hb.size)
        clear H1 hb2 q1
        have hle := HLE.out
        have HB := Lib.hid hb
        clear hb
        generalize prOf L O ((k : Int) + 1) = pq at *
        by_cases ha : a < 0 ∨ (O.length : Int) ≤ a
        · rcases ha with ha | ha
          all_goals
            go_wp2
            go_ret
            exact ⟨rfl, HB.out⟩
        · obtain ⟨i, rfl⟩ := Int.eq_ofNat_of_zero_le (show 0 ≤ a by omega)
          have hi2 : i < O.length := by omega
          have ha1 : ¬ ((i : Int) < 0) := by omega
          clear ha
          obtain ⟨i0, hi, hz0, hz1, hz2⟩ := info_parts infoInt'
          have HI := Lib.hid hi
          clear hi
          have H4 := HR.out w4 HB.out
          have hown0 := Lib.hid (own_empty w4 3)
          have hal := Below.alloc (B := w4.heap.size) (Below.refl _ w4) (Nat.le_refl _) (.cells #[] 3)
          have hsz : (w4.alloc (.cells #[] 3)).heap.size = w4.heap.size + 1 := by simp
          obtain ⟨bb, off, rfl, hbb, hcells⟩ := (H4.2.2.below hal H4.1).2.2 (by omega)
          have HCE := Lib.hid (cells_ints hcells)
          have HAL := Lib.hid hal
          have HSZ := Lib.hid hsz
          clear hcells hal hsz H4
          generalize hw5 : w4.alloc (.cells #[] 3) = w5 at *
          have HW5 := Lib.hid hw5
          clear hw5
          have hx5 : w4.alloc (.cells #[] 3) = w5 := HW5.out
          go_wp2_with (at_builtin; refine wpList_append_own _ rfl _ _ 22 rfl w4.heap.size 3 i0 (.int .i64 0) 1 8 Try.underlying22 HI.out hz0 hz1 hz2 rfl (by decide) _ 0 [] rfl hown0.out ⟨bb, off, none⟩ O.length cap' (O.map (Value.int .i64)) rfl (by simp) HCE.out (ints_oneCell _ _) (by unfold maxLen; omega) (by omega) (by rw [HSZ.out]; omega) ?_)
          intro v' w6 hown6 hgrow _
          have hb6 : Below w4.heap.size w4 w6 := HAL.out.grown hgrow (by rw [HSZ.out]; omega) (by intro k hk; simp [Value.ownBlock] at hk; omega)
          obtain ⟨g, cg, hv6, hg, hP⟩ := ownP_of_row hown6 (by omega)
          rw [hv6]
          have HB6 := Lib.hid (HB.out.trans (hb6.mono HB.out.size))
          have HG := Lib.hid (Nat.le_trans HB.out.size hg)
          have HP := Lib.hid hP
          clear hown6 hgrow hb6 hP hx5 hv6 HW5 hown0 HAL HCE HSZ hg
          go_wp2
          go_loop [17, 18] (fun mo j => ∃ (jj : Nat) (mv : Int), jj ≤ O.length ∧ 0 ≤ mv ∧ mv ≤ 1000000 ∧ j = .int .i64 jj ∧ mo = .int .i64 mv ∧ Hid ((O.drop jj).foldl max mv = O.foldl max 0)) (fun _ j => O.length - (intOf j).toNat)
          case atStart => exact ⟨0, 0, by omega, by omega, by omega, rfl, rfl, Lib.hid rfl⟩
          case round =>
            obtain ⟨j, mv, hj, hm0, hm1, rfl, rfl, hr⟩ := hrel
            have H6 := HR.out w6 HB6.out
            by_cases hjl : j < O.length
            · obtain ⟨b, off', x, e, hb, hx, hi, hc⟩ := H6.2.2.at_ hjl
              cases e
              have hxb := HV.out.bd x (List.mem_of_getElem? hx)
              have hst : Hid ((O.drop (j + 1)).foldl max (max mv x) = O.foldl max 0) := Lib.hid (by rw [← hr.out, drop_of hx]; rfl)
              have HX := Lib.hid hx
              have HI := Lib.hid hi
              clear hx hi hr H6
              go_wp2
              go_round
              case rel => exact ⟨j + 1, max mv x, by omega, by omega, by omega, by go_num, int_of (by split <;> omega), hst⟩
              case measure => simp [intOf]; omega
            · have hr' := hr.out
              rw [drop_end (by omega)] at hr'
              have hmv : mv = O.foldl max 0 := hr'
              have hall := (foldl_max_ge (L := O) (m := 0)).2
              rw [← hmv] at hall
              have HALL := Lib.hid hall
              clear hr hr' hmv hall H6
              by_cases hmx : mv = 1000000
              · subst hmx
                go_wp2
                go_ret
                exact ⟨rfl, HB6.out⟩
              · have hil : i < O.length := hi2
                have hc1 := HP.out.cell (i := i) (x := O[i]) (by simp [hil])
                have hf1 := HP.out.frozen i
                have hst := HP.out.store i (mv + 1)
                have hB7 := HB6.out.setCell (p := ⟨g, i, none⟩) HG.out (.int .i64 (mv + 1))
                have hl7 := hlk_set (a := i) HL.out (show 0 ≤ mv + 1 by omega) (by omega)
                have htop := top_first (C := L) hil (v := mv + 1) (fun x hx => by have := HALL.out x hx; omega)
                have hrd := hst.rd (fun x hx => by
                  rcases List.mem_or_eq_of_mem_set hx with hx | rfl
                  · have := HV.out.bd x hx; unfold I64; omega
                  · unfold I64; omega) (by simp; omega) hst.lt
                have H7 := HR.out _ hB7
                have CR := hRank (cap := cap) (cap' := cg) H7.2.1 hrd H7.1 (Nat.le_refl _)
                have hrl7 : (rkL L (O.set i (mv + 1))).length = L.length := by
                  rw [rkL, if_pos hl7, rkList_length, List.length_set]
                  exact HLEN.out
                have htop7 : (rkL L (O.set i (mv + 1)))[0]? = some (i : Int) := by rw [rkL, if_pos hl7]; exact htop
                rw [hl7, List.length_set] at CR
                generalize rkL L (O.set i (mv + 1)) = RL at *
                have HTOP := Lib.hid htop7
                have HRL7 := Lib.hid hrl7
                have HCR := Lib.hid CR
                have HB7 := Lib.hid hB7
                clear hst hB7 hl7 htop hrd H7 CR hrl7 htop7
                generalize O[i] = oi at *
                go_wp2_with fail
                refine HCR.out.mono ?_
                rintro e w8 ⟨A8, c8, rfl, r8, hb8⟩
                rw [HRL7.out]
                obtain ⟨b8, off8, x8, rfl, hbb8, hx8, _, hc8⟩ := r8.at_ (k := 0) (by have := HRL7.out; omega)
                rw [HTOP.out] at hx8
                cases hx8
                have hfin := Lib.hid (HB7.out.trans (hb8.mono HB7.out.size))
                simp only [Nat.add_zero] at hc8
                clear r8 hb8
                go_wp2
                go_ret
                exact ⟨rfl, hfin.out⟩
      exact PRE
  · by_cases hc : hck L = 0
    · have hbo := (bidsNo_of hc hl).2
      have HBO := Lib.hid hbo
      have HC0 := Lib.hid hc
      clear hl hc hbo
      go_enter Try.func6, Try.ntmps6
      go_wp2_with fail
      refine (alive w).mono ?_
      rintro e w1 ⟨rfl, hb⟩
      have H1 := HR.out w1 hb
      go_wp2_with fail
      refine (hrCheck H1.2.1).mono ?_
      rw [HC0.out]
      rintro e w2 ⟨rfl, rfl⟩
      go_wp2_with fail
      refine (rBids H1.2.2 (L.length : Int)).mono ?_
      rw [HBO.out]
      rintro e w2 ⟨rfl, rfl⟩
      go_wp2
      go_ret
      exact ⟨rfl, hb⟩
    · have hcb : (hck L != 0) = true := by simpa using hc
      clear hl hc
      go_enter Try.func6, Try.ntmps6
      go_wp2_with fail
      refine (alive w).mono ?_
      rintro e w1 ⟨rfl, hb⟩
      have H1 := HR.out w1 hb
      go_wp2_with fail
      refine (hrCheck H1.2.1).mono ?_
      generalize hck L = c at *
      rintro e w2 ⟨rfl, rfl⟩
      go_wp2
      go_ret
      exact ⟨rfl, hb⟩
end Go.Proofs.Ytipidlonidihbaa

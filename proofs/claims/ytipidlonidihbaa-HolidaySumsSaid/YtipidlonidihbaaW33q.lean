import Derived.Test.YtipidlonidihbaaS33h
/-! The walk of the statement HolidaySums. -/
namespace Go.Proofs.Ytipidlonidihbaa
open Go.RowKit Go.Deep
set_option linter.unusedVariables false

theorem hckGo_of {n : Nat} (hn : n ≠ 0) : ∀ {L : List Int} {s : Int}, (∀ x ∈ L, ¬ badCredit x) → s + sumI L = 0 → hckGo n s L = 0
  | [], s, _, h => by rw [hckGo, if_neg]; simp [sumI] at h; omega
  | x :: t, s, h, h2 => by
    rw [hckGo_ok (h x (by simp))]
    simp only [sumI] at h2
    exact hckGo_of hn (fun y hy => h y (by simp [hy])) (by omega)
theorem hck_of {L : List Int} (h1 : 1 ≤ L.length) (h2 : L.length ≤ 12) (h : ∀ x ∈ L, ¬ badCredit x) (hs : sumI L = 0) : hck L = 0 := by
  rw [hck, if_neg (by omega)]
  exact hckGo_of (by omega) h (by omega)
theorem not_out {L : List Int} (h : L.any outOf = false) : ∀ x ∈ L, ¬ badCredit x := by
  intro x hx
  rw [List.any_eq_false] at h
  have := h x hx
  unfold badCredit
  simp [outOf] at this
  omega
theorem bid_free {C B : List Int} {m i : Nat} (hB : ∀ x ∈ B, 0 ≤ x ∧ x ≤ 1000000) (hi : i < B.length) (hm : m ≤ B.length) (h : place C B i < m) : prOf C B m ≤ B.getD i 0 := by
  have hb : 0 ≤ B.getD i 0 := by simpa [List.getD, hi] using (hB _ (List.getElem_mem hi)).1
  by_cases e : m = B.length
  · rw [prOf_zero (.inr (by omega))]; exact hb
  · obtain ⟨j, hj, hjl, hpj⟩ := rk_nat (C := C) (B := B) (k := m) (by omega)
    rw [prOf_at (C := C) (B := B) (m := m) (x := B[j]) (by omega) (by omega) hj (by simp [hjl])]
    have := bid_le (C := C) hi hjl (by omega)
    simpa [List.getD, hjl] using this
theorem bid_out {C B : List Int} {m i : Nat} (hi : i < B.length) (h0 : 0 < m) (hm : m < B.length) (h : ¬ place C B i < m) : B.getD i 0 ≤ prOf C B m ∧ (place C B i = m → B.getD i 0 = prOf C B m) := by
  obtain ⟨j, hj, hjl, hpj⟩ := rk_nat (C := C) (B := B) (k := m) (by omega)
  have hp := prOf_at (C := C) (B := B) (m := m) (x := B[j]) (by omega) (by omega) hj (by simp [hjl])
  rw [hp]
  refine ⟨by have := bid_le (C := C) hjl hi (by omega); simpa [List.getD, hjl] using this, fun e => ?_⟩
  have : i = j := place_inj (C := C) hi hjl (by omega)
  subst this
  simp [List.getD, hjl]

set_option maxRecDepth 100000 in
set_option maxHeartbeats 4000000 in
theorem sums {w : World} {A A' : Option Addr} {L O : List Int} {cap cap' : Nat} (h : Rd w w.heap.size A L) (h' : Rd w w.heap.size A' O) (m : Int) (_h1 : I64 m) :
    Calls Try.prog 4 #[.slice A L.length cap, .slice A' O.length cap', .int .i64 m] w fun e w' => e = .returned (.bool true) ∧ Below w.heap.size w w' := by
  have l1 := h.len
  have l2 := h'.len
  have R : ∀ u, Below w.heap.size w u → w.heap.size ≤ u.heap.size ∧ Rd u w.heap.size A L ∧ Rd u w.heap.size A' O := fun u hu => ⟨hu.size, h.below hu (Nat.le_refl _), h'.below hu (Nat.le_refl _)⟩
  have HR := Lib.hid R
  clear R h h' _h1
  by_cases hl : hlk L O = 0
  · have hV := hlk_ok hl
    have hn := hV.v.one
    have hn2 := hV.v.twelve
    have hlen := hV.len
    have HV := Lib.hid hV
    have HBO := Lib.hid (bidsOk_of hl)
    have HC0 := Lib.hid (hlk_hck hl)
    have HL := Lib.hid hl
    have HLEN := Lib.hid hlen
    have ho1 : 1 ≤ O.length := by omega
    have ho2 : O.length ≤ 12 := by omega
    clear hl hV hlen
    by_cases hm : m < 0 ∨ (L.length : Int) < m
    · rcases hm with hm | hm
      · go_enter Try.func4, Try.ntmps4
        go_wp2_with fail
        refine (alive w).mono ?_
        rintro e w1 ⟨rfl, hb⟩
        have H1 := HR.out w1 hb
        go_wp2_with fail
        refine (hrCheck H1.2.1).mono ?_
        rw [HC0.out]
        rintro e w2 ⟨rfl, rfl⟩
        go_wp2_with fail
        refine (rBids H1.2.2 (L.length : Int)).mono ?_
        rw [HBO.out]
        rintro e w2 ⟨rfl, rfl⟩
        go_wp2
        go_ret
        exact ⟨rfl, hb⟩
      · have hm1 : ¬ m < 0 := by omega
        go_enter Try.func4, Try.ntmps4
        go_wp2_with fail
        refine (alive w).mono ?_
        rintro e w1 ⟨rfl, hb⟩
        have H1 := HR.out w1 hb
        go_wp2_with fail
        refine (hrCheck H1.2.1).mono ?_
        rw [HC0.out]
        rintro e w2 ⟨rfl, rfl⟩
        go_wp2_with fail
        refine (rBids H1.2.2 (L.length : Int)).mono ?_
        rw [HBO.out]
        rintro e w2 ⟨rfl, rfl⟩
        go_wp2
        go_ret
        exact ⟨rfl, hb⟩
    · obtain ⟨m, rfl⟩ := Int.eq_ofNat_of_zero_le (show 0 ≤ m by omega)
      have hml : m ≤ L.length := by omega
      have hm2 : m ≤ O.length := by have := HLEN.out; omega
      have e1 := pcE_ok (C := L) (B := O) (m := m) HL.out (by omega)
      have v1 : pcV L O m = prOf L O m := by rw [pcV, if_pos e1]
      have hpb := prOf_bd (C := L) (B := O) (m := m) HV.out.bd (by omega) (by omega)
      have E1 := Lib.hid e1
      have V1 := Lib.hid v1
      clear e1 v1 hm
      go_enter Try.func4, Try.ntmps4
      go_wp2_with fail
      refine (alive w).mono ?_
      rintro e w1 ⟨rfl, hb⟩
      have H1 := HR.out w1 hb
      go_wp2_with fail
      refine (hrCheck H1.2.1).mono ?_
      rw [HC0.out]
      rintro e w2 ⟨rfl, rfl⟩
      go_wp2_with fail
      refine (rBids H1.2.2 (L.length : Int)).mono ?_
      rw [HBO.out]
      rintro e w2 ⟨rfl, rfl⟩
      go_wp2_with fail
      cases hbad : (aftL L O m).any outOf
      · have hE := gvE_ok E1.out hbad
        have hF : gvF L O m = freeL L O m := by rw [gvF, if_pos hE, Int.toNat_natCast]
        have hA : gvA L O m = aftL L O m := by rw [gvA, if_pos hE, Int.toNat_natCast]
        refine (hGive H1.2.1 H1.2.2 H1.1 H1.1 m).mono ?_
        rw [hE, hF, hA]
        rintro e w3 ⟨A2, c2, A3, c3, rfl, r2, r3, hb2⟩
        replace hb := hb.trans (hb2.mono hb.size)
        clear H1 hb2
        have H1 := HR.out w3 hb
        have hfl := freeL_length (C := L) hm2
        have hal : (aftL L O m).length = L.length := (aftL_length L O m).trans HLEN.out
        rw [hfl, hal]
        clear hE hF hA
        go_wp2_with fail
        refine (hPrice H1.2.1 H1.2.2 H1.1 H1.1 m).mono ?_
        rw [E1.out, V1.out]
        rintro e w4 ⟨rfl, hb2⟩
        have R2 := Lib.hid ((r2.below hb2 (Nat.le_refl _)).more hb2.size)
        have R3 := Lib.hid ((r3.below hb2 (Nat.le_refl _)).more hb2.size)
        have HB := Lib.hid (hb.trans (hb2.mono hb.size))
        have HFL := Lib.hid hfl
        have HAL := Lib.hid hal
        have HBAD := Lib.hid hbad
        clear r2 r3 hb hb2 hfl hal H1 hbad
        go_wp2
        go_loopw [13, 14, 15, 16, 17] (fun s lo hi nx i wr => ∃ (k ff : Nat) (lov hiv : Int), k ≤ L.length ∧ s = .int .i64 (aS L O m k) ∧ lo = .int .i64 lov ∧ hi = .int .i64 hiv ∧ nx = .int .i64 ff ∧ i = .int .i64 k
          ∧ ff ≤ m ∧ Hid (ff = (fK L O m k).length) ∧ Hid ((0 < m ∧ m < O.length) → prOf L O m ≤ lov ∧ hiv ≤ prOf L O m ∧ ∀ i, i < k → place L O i = m → hiv = prOf L O m) ∧ Hid (Below w4.heap.size w4 wr)) (fun _ _ _ _ i _ => L.length - (intOf i).toNat)
        case atStart => exact ⟨0, 0, 1000001, -1, by omega, rfl, rfl, rfl, rfl, rfl, by omega, Lib.hid rfl, Lib.hid (fun _ => ⟨by omega, by omega, by intro i hi; omega⟩), Lib.hid (Below.refl _ _)⟩
        case round =>
          obtain ⟨k, ff, lov, hiv, hk, rfl, rfl, rfl, rfl, rfl, hffm, hff, hinv, hw⟩ := hrel
          by_cases hlt : k < L.length
          · have hko : k < O.length := by have := HLEN.out; omega
            have H3 := HR.out wr (HB.out.trans (hw.out.mono HB.out.size))
            obtain ⟨ub, uoff, u, rfl, _, hu, hui, cu⟩ := H3.2.1.at_ (k := k) hlt
            obtain ⟨xb, xoff, x, rfl, _, hx, hxi, cx⟩ := H3.2.2.at_ (k := k) hko
            obtain ⟨yb, yoff, y, rfl, _, hy, hyi, cy⟩ := (R3.out.below hw.out (Nat.le_refl _)).at_ (k := k) (by have := HAL.out; omega)
            have hyv : y = after L O m k := by
              have h2 : (aftL L O m)[k]? = some (after L O m k) := by simp [aftL, hko]
              rw [h2] at hy
              simpa using hy.symm
            have huv := getD_of hu
            have hxv := getD_of hx
            have hub := HV.out.v.bd u (List.mem_of_getElem? hu)
            have hxb := HV.out.bd x (List.mem_of_getElem? hx)
            have hqr := gQR (C := L) (B := O) (m := m) hn hn2 hml hpb.1 hpb.2
            have hpd := fun i => paid_bd (C := L) (B := O) (m := m) (i := i) HV.out.v.bd hpb.1 hpb.2
            have habd := fun i => after_bd (hpd i) hqr.2.2.1 hqr.2.2.2.1
            have hyb := habd k
            rw [← hyv] at hyb
            have hsb := aS_bd habd k
            have hsn := aS_succ L O m k
            rw [← hyv] at hsn
            have HSN := Lib.hid hsn
            have hq0 := hqr.2.2.1
            have he0 : 0 ≤ extra L O m k := by unfold extra; split <;> omega
            have HYV := Lib.hid hyv
            have HUV := Lib.hid huv
            have HXV := Lib.hid hxv
            clear hu hui hx hxi hy hyi hyv huv hxv hqr hpd habd hsn H3
            by_cases hpl : place L O k < m
            · have hfh := free_hit hko hpl
              rw [← hff.out] at hfh
              have hffl : ff < m := by
                have := (List.getElem?_eq_some_iff.1 hfh).1
                have := HFL.out
                omega
              obtain ⟨fb, foff, f, rfl, _, hf, hfi, cf⟩ := (R2.out.below hw.out (Nat.le_refl _)).at_ (k := ff) (by have := HFL.out; omega)
              rw [hfh] at hf
              cases hf
              have hpx := bid_free (C := L) HV.out.bd hko hm2 hpl
              rw [HXV.out] at hpx
              have hyl : u - prOf L O m ≤ y := by
                rw [HYV.out, ← HUV.out]
                unfold after paid
                rw [if_pos hpl]
                omega
              have d1 : decide (x < prOf L O m) = false := decide_eq_false (by omega)
              have d2 : decide (y < u - prOf L O m) = false := decide_eq_false (by omega)
              have e2 : IntKind.i64.wrap (u - prOf L O m) = u - prOf L O m := IntWalk.i64_in _ (by omega)
              have hff' : Hid (ff + 1 = (fK L O m (k + 1)).length) := Lib.hid (by rw [fK_yes hpl, List.length_append, ← hff.out]; rfl)
              have hinv' : Hid ((0 < m ∧ m < O.length) → prOf L O m ≤ min lov x ∧ hiv ≤ prOf L O m ∧ ∀ i, i < k + 1 → place L O i = m → hiv = prOf L O m) := Lib.hid (fun hc => by
                obtain ⟨i1, i2, i3⟩ := hinv.out hc
                refine ⟨by omega, i2, fun i hi hp => ?_⟩
                rcases Nat.lt_or_ge i k with h1 | h1
                · exact i3 i h1 hp
                · obtain rfl : i = k := by omega
                  omega)
              clear hfh hfi hff hinv
              rcases Int.lt_or_le x lov with hmn | hmn
              all_goals
                go_wp2
                go_quiet (fail)
                go_wp2
                go_roundw
                case rel => exact ⟨k + 1, ff + 1, min lov x, hiv, by omega, int_of (by rw [HSN.out]), int_of (by first | omega | (split <;> omega)), rfl, by go_num, by go_num, by omega, hff', hinv', Lib.hid (below_drewN hw.out _)⟩
                case measure => simp [intOf]; omega
            · have hyl : u ≤ y := by
                rw [HYV.out, ← HUV.out]
                unfold after paid
                rw [if_neg hpl]
                omega
              have d2 : decide (y < u) = false := decide_eq_false (by omega)
              have hff' : Hid (ff = (fK L O m (k + 1)).length) := Lib.hid (by rw [fK_no hpl]; exact hff.out)
              have hinv' : Hid ((0 < m ∧ m < O.length) → prOf L O m ≤ lov ∧ max hiv x ≤ prOf L O m ∧ ∀ i, i < k + 1 → place L O i = m → max hiv x = prOf L O m) := Lib.hid (fun hc => by
                obtain ⟨i1, i2, i3⟩ := hinv.out hc
                have hbo := bid_out (C := L) hko hc.1 hc.2 hpl
                rw [HXV.out] at hbo
                refine ⟨i1, by omega, fun i hi hp => ?_⟩
                rcases Nat.lt_or_ge i k with h1 | h1
                · have := i3 i h1 hp; omega
                · obtain rfl : i = k := by omega
                  have := hbo.2 hp
                  omega)
              by_cases hffl : ff < m
              · obtain ⟨fb, foff, f, rfl, _, hf, hfi, cf⟩ := (R2.out.below hw.out (Nat.le_refl _)).at_ (k := ff) (by have := HFL.out; omega)
                have hne : f ≠ (k : Int) := free_miss (C := L) hko hpl (by rw [← hff.out]; exact hf)
                have hne2 : (f == (k : Int)) = false := beq_eq_false_iff_ne.2 hne
                clear hf hfi hff hinv hne
                rcases Int.lt_or_le hiv x with hmn | hmn
                all_goals
                  go_wp2
                  go_quiet (fail)
                  go_wp2
                  go_roundw
                  case rel => exact ⟨k + 1, ff, lov, max hiv x, by omega, int_of (by rw [HSN.out]), rfl, int_of (by first | omega | (split <;> omega)), rfl, by go_num, by omega, hff', hinv', Lib.hid (below_drewN hw.out _)⟩
                  case measure => simp [intOf]; omega
              · clear hff hinv
                rcases Int.lt_or_le hiv x with hmn | hmn
                all_goals
                  go_wp2
                  go_quiet (fail)
                  go_wp2
                  go_roundw
                  case rel => exact ⟨k + 1, ff, lov, max hiv x, by omega, int_of (by rw [HSN.out]), rfl, int_of (by first | omega | (split <;> omega)), rfl, by go_num, by omega, hff', hinv', Lib.hid (below_drewN hw.out _)⟩
                  case measure => simp [intOf]; omega
          · obtain rfl : k = L.length := by omega
            have hz : aS L O m L.length = 0 := by
              have := aS_zero (C := L) (B := O) HV.out.v HLEN.out hm2 hpb.1 hpb.2
              rw [HLEN.out] at this
              exact this
            have hfm : ff = m := by
              rw [hff.out, ← HLEN.out, fK_all]
              exact HFL.out
            subst hfm
            have R3' := R3.out.below hw.out (Nat.le_refl _)
            have CK := hrCheck (cap := c3) R3'
            have hsum : sumI (aftL L O ff) = 0 := by
              have : sumI (aftL L O ff) = aS L O ff O.length := rfl
              rw [this, HLEN.out]
              exact hz
            rw [hck_of (by have := HAL.out; omega) (by have := HAL.out; omega) (not_out HBAD.out) hsum, HAL.out] at CK
            have HCK := Lib.hid CK
            have HFIN := Lib.hid (HB.out.trans (hw.out.mono HB.out.size))
            clear CK hsum R3' hff hw
            rw [hz]
            clear hz
            by_cases h0 : ff = 0
            · subst h0
              clear hinv
              go_wp2_with (go_at_call 17; refine HCK.out.mono ?_; rintro e w9 ⟨rfl, rfl⟩)
              go_ret
              exact ⟨rfl, HFIN.out⟩
            · by_cases h1 : ff = L.length
              · subst h1
                clear hinv
                have d1 : ((L.length : Int) == 0) = false := beq_eq_false_iff_ne.2 (by omega)
                have d2 : (L.length == 0) = false := beq_eq_false_iff_ne.2 (by omega)
                go_wp2_with (go_at_call 17; refine HCK.out.mono ?_; rintro e w9 ⟨rfl, rfl⟩)
                go_ret
                exact ⟨rfl, HFIN.out⟩
              · have d1 : ((ff : Int) == 0) = false := beq_eq_false_iff_ne.2 (by omega)
                have d2 : (ff == 0) = false := beq_eq_false_iff_ne.2 (by omega)
                have d3 : ((ff : Int) == (L.length : Int)) = false := beq_eq_false_iff_ne.2 (by omega)
                have d4 : (ff == L.length) = false := beq_eq_false_iff_ne.2 (by omega)
                obtain ⟨i1, i2, i3⟩ := hinv.out ⟨by omega, by have := HLEN.out; omega⟩
                obtain ⟨j, hj, hjl, hpj⟩ := rk_nat (C := L) (B := O) (k := ff) (by have := HLEN.out; omega)
                have hhv := i3 j (by have := HLEN.out; omega) hpj
                subst hhv
                have d5 : ¬ lov < prOf L O ff := by omega
                clear hinv i3 hj hpj h0 h1
                go_wp2_with (go_at_call 17; refine HCK.out.mono ?_; rintro e w9 ⟨rfl, rfl⟩)
                go_ret
                exact ⟨rfl, HFIN.out⟩
      · have hE := gvE_out E1.out hbad
        have hF : gvF L O m = [] := by rw [gvF, hE, if_neg (by decide)]
        have hA : gvA L O m = [] := by rw [gvA, hE, if_neg (by decide)]
        refine (hGive H1.2.1 H1.2.2 H1.1 H1.1 m).mono ?_
        rw [hE, hF, hA]
        rintro e w3 ⟨A2, c2, A3, c3, rfl, r2, r3, hb2⟩
        replace hb := hb.trans (hb2.mono hb.size)
        clear H1 hb2 r2 r3
        have H1 := HR.out w3 hb
        go_wp2_with fail
        refine (hPrice H1.2.1 H1.2.2 H1.1 H1.1 m).mono ?_
        rw [E1.out, V1.out]
        rintro e w4 ⟨rfl, hb2⟩
        replace hb := hb.trans (hb2.mono hb.size)
        clear H1 hb2
        go_wp2
        go_ret
        exact ⟨rfl, hb⟩
  · by_cases hc : hck L = 0
    · have hbo := (bidsNo_of hc hl).2
      have HBO := Lib.hid hbo
      have HC0 := Lib.hid hc
      clear hl hc hbo
      go_enter Try.func4, Try.ntmps4
      go_wp2_with fail
      refine (alive w).mono ?_
      rintro e w1 ⟨rfl, hb⟩
      have H1 := HR.out w1 hb
      go_wp2_with fail
      refine (hrCheck H1.2.1).mono ?_
      rw [HC0.out]
      rintro e w2 ⟨rfl, rfl⟩
      go_wp2_with fail
      refine (rBids H1.2.2 (L.length : Int)).mono ?_
      rw [HBO.out]
      rintro e w2 ⟨rfl, rfl⟩
      go_wp2
      go_ret
      exact ⟨rfl, hb⟩
    · have hcb : (hck L != 0) = true := by simpa using hc
      clear hl hc
      go_enter Try.func4, Try.ntmps4
      go_wp2_with fail
      refine (alive w).mono ?_
      rintro e w1 ⟨rfl, hb⟩
      have H1 := HR.out w1 hb
      go_wp2_with fail
      refine (hrCheck H1.2.1).mono ?_
      generalize hck L = c at *
      rintro e w2 ⟨rfl, rfl⟩
      go_wp2
      go_ret
      exact ⟨rfl, hb⟩
end Go.Proofs.Ytipidlonidihbaa

import Derived.Test.YtjgobpejifhphaaW35C
/-! Walks of chapter 35: the law of the truth. -/
namespace Go.Proofs.Ytjgobpejifhphaa
open Go.RowKit Go.Deep
set_option linter.unusedVariables false
set_option maxRecDepth 100000

/-- neighbours in the true ranking -/
theorem truL_next {V : List Int} {k : Nat} (hk : k + 1 < V.length) : ∃ (p q : Nat) (x y : Int), (truL V)[k]? = some (p : Int) ∧ (truL V)[k + 1]? = some (q : Int) ∧ p < V.length ∧ q < V.length ∧ V[p]? = some x ∧ V[q]? = some y ∧ (y < x ∨ (x = y ∧ p < q)) := by
  have hl := truL_length V
  have hm : ∀ j, j < V.length → ∃ p : Nat, (truL V)[j]? = some (p : Int) ∧ p < V.length := fun j hj => by
    have hjl : j < (truL V).length := by omega
    obtain ⟨p, hp, hpl⟩ := iota_mem.1 ((truL_perm V).mem_iff.2 (List.getElem_mem hjl))
    exact ⟨p, by rw [List.getElem?_eq_getElem hjl, hp], hpl⟩
  obtain ⟨p, hp, hpl⟩ := hm k (by omega)
  obtain ⟨q, hq, hql⟩ := hm (k + 1) hk
  obtain ⟨e1, e2⟩ := List.getElem?_eq_some_iff.1 hp
  obtain ⟨e3, e4⟩ := List.getElem?_eq_some_iff.1 hq
  have hpw := List.pairwise_iff_getElem.1 (truL_pw V) k (k + 1) e1 e3 (by omega)
  rw [e2, e4] at hpw
  have hx : V[p]? = some V[p] := by simp [hpl]
  have hy : V[q]? = some V[q] := by simp [hql]
  refine ⟨p, q, V[p], V[q], hp, hq, hpl, hql, hx, hy, ?_⟩
  rcases ahd_nil hpw with h | ⟨h1, h2⟩
  · left; simpa [List.getD_eq_getElem?_getD, hx, hy] using h
  · right
    exact ⟨by simpa [List.getD_eq_getElem?_getD, hx, hy] using h1, by simpa using h2⟩
theorem count_take {O : List Int} {k : Nat} {i : Int} (h : O[k]? = some i) (a : Int) : (O.take (k + 1)).count a = (O.take k).count a + if i = a then 1 else 0 := by
  rw [List.take_add_one, h, List.count_append]
  by_cases e : i = a
  · simp [e]
  · simp [e]
set_option maxHeartbeats 4000000 in
theorem lieTruth {w : World} {A A' A3 : Option Addr} {O V : List Int} {R : List (List Int)} {cap cap' cap3 : Nat} (h : Rd w w.heap.size A O) (h' : Rd2 w w.heap.size A' R) (h3 : Rd w w.heap.size A3 V) (a : Int) (_ha : I64 a) :
    Calls Try.prog 8 #[.slice A O.length cap, .slice A' R.length cap', .int .i64 a, .slice A3 V.length cap3] w fun e w' => e = .returned (.bool true) ∧ Below w.heap.size w w' := by
  have H := Lib.hid fun (u : World) (hu : Below w.heap.size w u) => h.below hu (Nat.le_refl _)
  have H' := Lib.hid fun (u : World) (hu : Below w.heap.size w u) => h'.below hu (Nat.le_refl _)
  have H3 := Lib.hid fun (u : World) (hu : Below w.heap.size w u) => h3.below hu (Nat.le_refl _)
  have l1 := h.len
  have l2 := h'.len
  have l3 := h3.len
  clear h h' h3
  have HBAD : Hid (∀ w1, Below w.heap.size w w1 → Calls Try.prog 17 #[.slice A O.length cap, .slice A' R.length cap'] w1 fun e w' => e = .returned (.int .i64 (chk35 O R)) ∧ w1 = w') := Lib.hid fun w1 hb => rCheck35 (H.out _ hb) (H'.out _ hb)
  have HVAL : Hid (∀ w1, Below w.heap.size w w1 → Calls Try.prog 18 #[.slice A3 V.length cap3] w1 fun e w' => e = .returned (.int .i64 (val35 V)) ∧ w1 = w') := Lib.hid fun w1 hb => rVals (H3.out _ hb)
  by_cases hk : chk35 O R = 0
  case neg =>
    have hne : (chk35 O R != 0) = true := by rw [bne_iff_ne]; exact hk
    generalize chk35 O R = c at *
    clear hk
    go_enter Try.func8, Try.ntmps8
    go_wp2_with fail
    refine alive35.mono ?_
    rintro e w1 ⟨rfl, hb1⟩
    have HB1 := Lib.hid hb1
    clear hb1
    go_wp2_with (go_at_call 17; refine (HBAD.out _ HB1.out).mono ?_; rintro e w' ⟨rfl, rfl⟩)
    go_ret
    exact ⟨rfl, HB1.out⟩
  have HK := Lib.hid hk
  have HOR := Lib.hid (chk35_zero hk)
  clear hk
  by_cases ha1 : a < 0
  · have d1 : decide (a < 0) = true := decide_eq_true ha1
    go_enter Try.func8, Try.ntmps8
    go_wp2_with fail
    refine alive35.mono ?_
    rintro e w1 ⟨rfl, hb1⟩
    have HB1 := Lib.hid hb1
    clear hb1
    go_wp2_with (go_at_call 17; refine (HBAD.out _ HB1.out).mono ?_; rw [HK.out]; rintro e w' ⟨rfl, rfl⟩)
    go_ret
    exact ⟨rfl, HB1.out⟩
  obtain ⟨a, rfl⟩ : ∃ a' : Nat, a = (a' : Int) := ⟨a.toNat, by omega⟩
  clear ha1 _ha
  have d1 : decide ((a : Int) < 0) = false := decide_eq_false (by omega)
  by_cases ha : a < R.length
  case neg =>
    have d2 : decide ((R.length : Int) ≤ (a : Int)) = true := decide_eq_true (by omega)
    have d3 : decide (R.length ≤ a) = true := decide_eq_true (by omega)
    go_enter Try.func8, Try.ntmps8
    go_wp2_with fail
    refine alive35.mono ?_
    rintro e w1 ⟨rfl, hb1⟩
    have HB1 := Lib.hid hb1
    clear hb1
    go_wp2_with (go_at_call 17; refine (HBAD.out _ HB1.out).mono ?_; rw [HK.out]; rintro e w' ⟨rfl, rfl⟩)
    go_ret
    exact ⟨rfl, HB1.out⟩
  have d2 : decide ((R.length : Int) ≤ (a : Int)) = false := decide_eq_false (by omega)
  have d3 : decide (R.length ≤ a) = false := decide_eq_false (by omega)
  by_cases hv : val35 V = 0
  case neg =>
    have hne : (val35 V != 0) = true := by rw [bne_iff_ne]; exact hv
    generalize val35 V = c at *
    clear hv
    go_enter Try.func8, Try.ntmps8
    go_wp2_with fail
    refine alive35.mono ?_
    rintro e w1 ⟨rfl, hb1⟩
    have HB1 := Lib.hid hb1
    clear hb1
    go_wp2_with first | (go_at_call 17; refine (HBAD.out _ HB1.out).mono ?_; rw [HK.out]; rintro e w' ⟨rfl, rfl⟩) | (go_at_call 18; refine (HVAL.out _ HB1.out).mono ?_; rintro e w' ⟨rfl, rfl⟩)
    go_ret
    exact ⟨rfl, HB1.out⟩
  have HVZ := Lib.hid hv
  by_cases hl : V.length = O.length
  case neg =>
    have hne : ((V.length : Int) != (O.length : Int)) = true := by rw [bne_iff_ne]; omega
    clear hv hl
    go_enter Try.func8, Try.ntmps8
    go_wp2_with fail
    refine alive35.mono ?_
    rintro e w1 ⟨rfl, hb1⟩
    have HB1 := Lib.hid hb1
    clear hb1
    go_wp2_with first | (go_at_call 17; refine (HBAD.out _ HB1.out).mono ?_; rw [HK.out]; rintro e w' ⟨rfl, rfl⟩) | (go_at_call 18; refine (HVAL.out _ HB1.out).mono ?_; rw [HVZ.out]; rintro e w' ⟨rfl, rfl⟩)
    go_ret
    exact ⟨rfl, HB1.out⟩
  have hne : ((V.length : Int) != (O.length : Int)) = false := by rw [bne_eq_false_iff_eq]; omega
  have hvr : VR V O := ⟨hl, (val35_zero hv).2⟩
  have hor := HOR.out
  have hpt : (iota O.length).Perm (truL V) := by rw [← hl]; exact truL_perm V
  obtain ⟨R2, hR2⟩ : ∃ R2, R2 = R.set a (truL V) := ⟨_, rfl⟩
  have hor2 : OR O R2 := by rw [hR2]; exact hor.set a hpt
  obtain ⟨g1, g2, g3⟩ := truth_law hor hvr ha
  have hlk := lkd35_of (a := (a : Int)) hor hvr (by omega) (by omega)
  have hR2l : R2.length = R.length := by rw [hR2, List.length_set]
  have hlk2 := lkd35_of (a := (a : Int)) hor2 hvr (by omega) (by omega)
  have hhs : hsV O R2 (a : Int) V = hasW O R a V (truL V) := by rw [hsV, if_pos hlk2, hasW, Int.toNat_natCast, hR2]
  have hls : lsN O R (a : Int) V = (bestR O R a V).2 := by rw [lsN, if_pos hlk]
  have HRL : Hid (∀ l ∈ R, l.length < 1000) := Lib.hid fun l hl => by have := (hor.ord l hl).length_eq; rw [iota_length] at this; have := hor.o6; omega
  have HRL2 : Hid (∀ l ∈ R2, l.length < 1000) := Lib.hid fun l hl => by have := (hor2.ord l hl).length_eq; rw [iota_length] at this; have := hor.o6; omega
  have htr : trL V = truL V := by rw [trL, if_pos hv]
  have hod : ordB (truL V) V.length = true := by rw [ordB_iff, hl]; exact hpt
  have htl := truL_length V
  have HTN := Lib.hid fun k hk => truL_next (V := V) (k := k) hk
  have G2 := Lib.hid g2
  have G3 := Lib.hid g3
  have HLK := Lib.hid hlk
  have HLK2 := Lib.hid hlk2
  have HHS := Lib.hid hhs
  have HLS := Lib.hid hls
  have HTR := Lib.hid htr
  have HOD := Lib.hid hod
  have HTL := Lib.hid htl
  have HR2 := Lib.hid hR2
  have HR2L := Lib.hid hR2l
  have HL := Lib.hid hl
  have l4 := hor.o6
  have l5 := hor.r6
  have hbdN := hasW_bd (a := (a : Int)) (l := truL V) hor hvr
  clear hvr hor hpt hor2 g2 g3 hlk hlk2 hhs hls htr hod htl hR2 hR2l hl hv
  generalize hasW O R (a : Int) V (truL V) = N at *
  generalize (bestR O R (a : Int) V).2 = M at *
  generalize truL V = t at *
  go_enter Try.func8, Try.ntmps8
  go_wp2_with fail
  refine alive35.mono ?_
  rintro e w1 ⟨rfl, hb1⟩
  have HB1 := Lib.hid hb1
  clear hb1
  go_wp2_with first | (go_at_call 17; refine (HBAD.out _ HB1.out).mono ?_; rw [HK.out]; rintro e w' ⟨rfl, rfl⟩) | (go_at_call 18; refine (HVAL.out _ HB1.out).mono ?_; rw [HVZ.out]; rintro e w' ⟨rfl, rfl⟩)
  refine (lTrueE (cap := cap3) (H3.out _ HB1.out) HB1.out.size).mono ?_
  rintro e w2 ⟨A1, c1, rfl, hr, hb2⟩
  rw [HVZ.out]
  rw [HTR.out] at hr
  rw [HTR.out]
  have HT := Lib.hid fun (u : World) (hu : Below w2.heap.size w2 u) => hr.below hu (Nat.le_refl _)
  have CO := r29Order (cap := c1) (n := V.length) hr (by omega)
  have HB2 := Lib.hid (HB1.out.trans (hb2.mono HB1.out.size))
  clear hr hb2
  go_wp2_with fail
  refine CO.mono ?_
  rw [HOD.out]
  rintro e w3 ⟨rfl, rfl⟩
  clear CO
  have HTO : Hid (t.length = O.length) := Lib.hid (by rw [HTL.out, HL.out])
  have ht6 : t.length ≤ 6 := by rw [HTO.out]; exact l4
  go_wp2_with fail
  go_loopw [12] (fun iv wr => ∃ k : Nat, 1 ≤ k ∧ k ≤ t.length + 1 ∧ iv = .int .i64 k ∧ Hid (Below w2.heap.size w2 wr)) (fun iv _ => t.length + 1 - (intOf iv).toNat)
  case atStart => exact ⟨1, by omega, by omega, rfl, Lib.hid (Below.refl _ _)⟩
  case round =>
    obtain ⟨k, hk1, hk, rfl, hw⟩ := hrel
    have hBW := Lib.hid (HB2.out.trans (hw.out.mono HB2.out.size))
    by_cases hlt : k < t.length
    · obtain ⟨j, rfl⟩ : ∃ j, k = j + 1 := ⟨k - 1, by omega⟩
      obtain ⟨p, q, x, y, hp, hq, hpl, hql, hx, hy, hord⟩ := HTN.out j (by have := HTL.out; omega)
      obtain ⟨b1, o1, p1, rfl, _, hp1, _, cp⟩ := (HT.out _ hw.out).at_ (k := j) (by omega)
      rw [hp] at hp1
      obtain rfl : (p : Int) = p1 := Option.some.inj hp1
      obtain ⟨b2, o2, q1, e, _, hq1, _, cq⟩ := (HT.out _ hw.out).at_ (k := j + 1) hlt
      cases e
      rw [hq] at hq1
      obtain rfl : (q : Int) = q1 := Option.some.inj hq1
      obtain ⟨b3, o3, x1, rfl, _, hx1, _, cx⟩ := (H3.out _ hBW.out).at_ (k := p) hpl
      rw [hx] at hx1
      obtain rfl : x = x1 := Option.some.inj hx1
      obtain ⟨b4, o4, y1, e, _, hy1, _, cy⟩ := (H3.out _ hBW.out).at_ (k := q) hql
      cases e
      rw [hy] at hy1
      obtain rfl : y = y1 := Option.some.inj hy1
      have e1 : IntKind.i64.wrap (((j + 1 : Nat) : Int) - 1) = (j : Int) := by rw [show ((j + 1 : Nat) : Int) - 1 = (j : Int) by omega]; exact IntWalk.i64_in _ (by omega)
      have e2 : IntKind.i64.wrap ((j : Int) + 1 - 1) = (j : Int) := by rw [show (j : Int) + 1 - 1 = (j : Int) by omega]; exact IntWalk.i64_in _ (by omega)
      have hjt : j < t.length := by omega
      have hpi : (p : Int) < (V.length : Int) := by omega
      have hqi : (q : Int) < (V.length : Int) := by omega
      clear hp hq hp1 hq1 hx hy hx1 hy1
      have mid : ∀ nq, Hid (Below w2.heap.size w2 (wr.drewN nq)) := fun nq => Lib.hid (below_drewN hw.out _)
      rcases hord with h1 | ⟨h1, h2⟩
      · have q1 : decide (x < y) = false := decide_eq_false (by omega)
        have q2 : (x == y) = false := beq_eq_false_iff_ne.2 (by omega)
        clear h1
        go_wp2
        go_quiet (fail)
        go_wp2
        go_roundw
        case rel => exact ⟨j + 1 + 1, by omega, by omega, by go_num, mid _⟩
        case measure => simp [intOf]; omega
      · subst h1
        have q1 : decide (x < x) = false := decide_eq_false (by omega)
        have q2 : (x == x) = true := beq_self_eq_true x
        have q3 : decide ((q : Int) < (p : Int)) = false := decide_eq_false (by omega)
        have q4 : decide (q < p) = false := decide_eq_false (by omega)
        clear h2
        go_wp2
        go_quiet (fail)
        go_wp2
        go_roundw
        case rel => exact ⟨j + 1 + 1, by omega, by omega, by go_num, mid _⟩
        case measure => simp [intOf]; omega
    · have HD3 := Lib.hid hw.out
      clear hw hk hk1
      have CW := with35 (cap := c1) (cap' := cap') (H'.out _ hBW.out) (HT.out _ HD3.out) hBW.out.size HD3.out.size ha (by omega) HR2.out
      go_wp2_with fail
      refine CW.mono ?_
      rintro e w4 ⟨A5, c5, rfl, hr5, hb4⟩
      have HR5 := Lib.hid hr5
      have HB4 := Lib.hid (hBW.out.trans (hb4.mono hBW.out.size))
      have HD4 := Lib.hid (HD3.out.trans (hb4.mono HD3.out.size))
      clear CW hr5 hb4
      have CH := lHasE (cap := cap) (cap' := c5) (cap3 := cap3) (a : Int) (H.out _ HB4.out) HR5.out (H3.out _ HB4.out) HB4.out.size (Nat.le_refl _) HB4.out.size HRL2.out
      rw [HHS.out, HLK2.out] at CH
      go_wp2_with fail
      refine CH.mono ?_
      rintro e w5 ⟨rfl, hb5⟩
      have HB5 := Lib.hid (HB4.out.trans (hb5.mono HB4.out.size))
      have HD5 := Lib.hid (HD4.out.trans (hb5.mono HD4.out.size))
      clear CH hb5
      have CL := lListE (cap := cap) (cap' := cap') (cap3 := cap3) (a : Int) (H.out _ HB5.out) (H'.out _ HB5.out) (H3.out _ HB5.out) HB5.out.size HB5.out.size HB5.out.size HRL.out
      rw [HLS.out, HLK.out] at CL
      go_wp2_with fail
      refine CL.mono ?_
      rintro e w6 ⟨A6, c6, rfl, _, hb6⟩
      have HB6 := Lib.hid (HB5.out.trans (hb6.mono HB5.out.size))
      have HD6 := Lib.hid (HD5.out.trans (hb6.mono HD5.out.size))
      generalize (lsL O R (a : Int) V).length = n6 at *
      clear CL hb6
      have d5 : decide (M < N) = false := decide_eq_false (by omega)
      go_wp2_with fail
      go_loop [18, 19] (fun tv iv => ∃ k c0 : Nat, k ≤ O.length ∧ iv = .int .i64 k ∧ tv = .int .i64 c0 ∧ c0 ≤ k ∧ Hid ((O.take k).count (a : Int) = c0)) (fun _ iv => O.length - (intOf iv).toNat)
      case atStart => exact ⟨0, 0, by omega, rfl, rfl, by omega, Lib.hid rfl⟩
      case round =>
        obtain ⟨k, c0, hk, rfl, rfl, hc0, hcc⟩ := hrel
        by_cases hlt : k < O.length
        · obtain ⟨b1, o1, i, rfl, hb1, hi, hi64, hci⟩ := (H.out _ HB6.out).at_ hlt
          have hst := count_take hi (a : Int)
          clear hi hi64
          by_cases hia : i = (a : Int)
          · subst hia
            rw [if_pos rfl, hcc.out] at hst
            have HST := Lib.hid hst
            clear hst hcc
            go_wp2
            go_round
            case rel => exact ⟨k + 1, c0 + 1, by omega, by go_num, by go_num, by omega, HST⟩
            case measure => simp [intOf]; omega
          · have hne2 : (i == (a : Int)) = false := by rw [beq_eq_false_iff_ne]; exact hia
            rw [if_neg hia, Nat.add_zero, hcc.out] at hst
            have HST := Lib.hid hst
            clear hst hia hcc
            go_wp2
            go_round
            case rel => exact ⟨k + 1, c0, by omega, by go_num, rfl, by omega, HST⟩
            case measure => simp [intOf]; omega
        · obtain rfl : k = O.length := by omega
          have G2' : Hid (c0 ≤ 1 ∨ c0 = O.length → N = M) := Lib.hid (by have := G2.out; rw [← hcc.out, List.take_length]; exact this)
          clear hcc G2
          have GE : Hid (∀ (P : Prop), ((c0 ≤ 1 ∨ c0 = O.length) → N = M) → P → P) := Lib.hid fun _ _ h => h
          have q1 : ∃ b1 b2 : Bool, decide ((c0 : Int) ≤ 1) = b1 ∧ ((c0 : Int) == (O.length : Int)) = b2 ∧ ((b1 = true ∨ b2 = true) → (N != M) = false) := by
            refine ⟨_, _, rfl, rfl, fun h => ?_⟩
            rw [bne_eq_false_iff_eq]
            refine G2'.out ?_
            rcases h with h | h
            · rw [decide_eq_true_iff] at h; left; omega
            · rw [beq_iff_eq] at h; right; omega
          obtain ⟨b1, b2, e1, e2, e3⟩ := q1
          have hlast : Hid (O.length = 0 ∨ ∃ (bo oo : Nat) (i0 : Int), A = some ⟨bo, oo, none⟩ ∧ w6.cell? ⟨bo, oo, none⟩ = some (.int .i64 i0) ∧ 0 < O.length ∧ ((i0 != (a : Int)) = true ∨ ((i0 != (a : Int)) = false ∧ ∃ (bt ot p0 bv ov : Nat) (x0 : Int), A1 = some ⟨bt, ot, none⟩ ∧ w6.cell? ⟨bt, ot, none⟩ = some (.int .i64 p0) ∧ 0 < t.length ∧ A3 = some ⟨bv, ov, none⟩ ∧ w6.cell? ⟨bv, ov + p0, none⟩ = some (.int .i64 x0) ∧ p0 < V.length ∧ decide (x0 ≤ N) = true))) := Lib.hid (by
            rcases Nat.eq_zero_or_pos O.length with h0 | h0
            · exact .inl h0
            · right
              obtain ⟨bo, oo, i0, eA, _, hi0, _, hco⟩ := (H.out _ HB6.out).at_ h0
              refine ⟨bo, oo, i0, eA, hco, h0, ?_⟩
              by_cases hi : i0 = (a : Int)
              · right
                refine ⟨by rw [bne_eq_false_iff_eq]; exact hi, ?_⟩
                have htp : 0 < t.length := by rw [HTO.out]; exact h0
                obtain ⟨bt, ot, p0, eT, _, hp0, _, hct⟩ := (HT.out _ HD6.out).at_ htp
                have hmem : p0 ∈ t := List.mem_of_getElem? hp0
                obtain ⟨pn, rfl, hpn⟩ := iota_mem.1 ((ordB_iff.1 HOD.out).mem_iff.2 hmem)
                obtain ⟨bv, ov, x0, eV, _, hx0, _, hcv⟩ := (H3.out _ HB6.out).at_ hpn
                refine ⟨bt, ot, pn, bv, ov, x0, eT, hct, htp, eV, hcv, hpn, decide_eq_true ?_⟩
                have := G3.out (pn : Int) (by rw [hi0, hi]) hp0
                rw [Int.toNat_natCast, List.getD_eq_getElem?_getD, hx0] at this
                exact this
              · exact .inl (by rw [bne_iff_ne]; exact hi))
          clear G2' GE G3
          have HL2 := hlast.out
          clear hlast
          rcases HL2 with h0 | ⟨bo, oo, i0, rfl, hco, h0, hia | ⟨hia, bt, ot, p0, bv, ov, x0, rfl, hct, htp, rfl, hcv, hpn, hxn⟩⟩
          · have q0 : ((O.length : Int) == 0) = true := by rw [beq_iff_eq]; omega
            cases b1 <;> cases b2
            · clear e3
              go_wp2
              all_goals go_ret
              all_goals exact ⟨rfl, HB6.out⟩
            all_goals
              have e4 := e3 (by simp)
              clear e3
              go_wp2
              go_ret
              exact ⟨rfl, HB6.out⟩
          · have q0 : ((O.length : Int) == 0) = false := by rw [beq_eq_false_iff_ne]; omega
            cases b1 <;> cases b2
            · clear e3
              go_wp2
              go_ret
              exact ⟨rfl, HB6.out⟩
            all_goals
              have e4 := e3 (by simp)
              clear e3
              go_wp2
              go_ret
              exact ⟨rfl, HB6.out⟩
          · have q0 : ((O.length : Int) == 0) = false := by rw [beq_eq_false_iff_ne]; omega
            cases b1 <;> cases b2
            · clear e3
              go_wp2
              go_ret
              exact ⟨rfl, HB6.out⟩
            all_goals
              have e4 := e3 (by simp)
              clear e3
              go_wp2
              go_ret
              exact ⟨rfl, HB6.out⟩
end Go.Proofs.Ytjgobpejifhphaa

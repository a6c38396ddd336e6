import Derived.Test.YtkoipecnmijfoaaGreatTT3
import Derived.Test.YtkoipecnmijfoaaGreatTK3
/-! The walk of the statement on firms, estates, turns and lies. -/
namespace Go.Proofs.YtkoipecnmijfoaaGreat
open Go.RowKit Go.Deep
set_option linter.unusedVariables false
set_option maxRecDepth 100000

theorem rowT_rd {w : World} {base T n : Nat} {v : Value} {L : List Int} (h : w.ownsRow base T 1 v n (L.map (Value.int .i64))) (hn : L.length = n) (hi : ∀ x ∈ L, I64 x) (hl : L.length * 8 ≤ 140737488351232) : ∃ A c, v = .slice A n c ∧ Rd w w.heap.size A L := by
  subst hn
  by_cases h0 : 0 < L.length
  · obtain ⟨g, cap, rfl, _, hP⟩ := ownP_of_row h h0
    exact ⟨_, _, rfl, hP.rd hi hl hP.lt⟩
  · have hL : L = [] := List.eq_nil_of_length_eq_zero (by omega)
    subst hL
    rcases h.2 with ⟨rfl, _⟩ | ⟨g, cap, cur, rfl, _⟩
    · exact ⟨_, _, rfl, Rd.nil _ _ _⟩
    · exact ⟨_, _, rfl, Rd.nil _ _ _⟩
theorem count_take {O : List Int} {k : Nat} {i : Int} (h : O[k]? = some i) (a : Int) : (O.take (k + 1)).count a = (O.take k).count a + if i = a then 1 else 0 := by
  rw [List.take_add_one, h, List.count_append]
  by_cases e : i = a
  · simp [e]
  · simp [e]
set_option maxHeartbeats 8000000 in
theorem topTruth {w : World} {A0 A1 A2 A3 A5 : Option Addr} {S P O V : List Int} {R : List (List Int)} {c0 c1 c2 c3 c5 : Nat} (h0 : Rd w w.heap.size A0 S) (h1 : Rd w w.heap.size A1 P) (h2 : Rd w w.heap.size A2 O) (h3 : Rd2 w w.heap.size A3 R) (h5 : Rd w w.heap.size A5 V) (a : Int) (_ha : I64 a) :
    Calls Tryz.prog 3 #[.slice A0 S.length c0, .slice A1 P.length c1, .slice A2 O.length c2, .slice A3 R.length c3, .int .i64 a, .slice A5 V.length c5] w fun e w' => e = .returned (.bool true) ∧ Below w.heap.size w w' := by
  have H0 := Lib.hid fun (u : World) (hu : Below w.heap.size w u) => h0.below hu (Nat.le_refl _)
  have H1 := Lib.hid fun (u : World) (hu : Below w.heap.size w u) => h1.below hu (Nat.le_refl _)
  have H2 := Lib.hid fun (u : World) (hu : Below w.heap.size w u) => h2.below hu (Nat.le_refl _)
  have H3 := Lib.hid fun (u : World) (hu : Below w.heap.size w u) => h3.below hu (Nat.le_refl _)
  have H5 := Lib.hid fun (u : World) (hu : Below w.heap.size w u) => h5.below hu (Nat.le_refl _)
  have l2 := h2.len
  have l3 := h3.len
  have l5 := h5.len
  have HRL : Hid (∀ l ∈ R, l.length < 100000000000000) := Lib.hid fun l hl => by
    obtain ⟨i, hi⟩ := List.getElem?_of_mem hl
    have hlt := (List.getElem?_eq_some_iff.1 hi).1
    obtain ⟨b, off, x, B1, cc, _, _, hx, _, hr⟩ := h3.at_ hlt
    rw [hi] at hx
    cases hx
    have := hr.len
    omega
  clear h0 h1 h2 h3 h5
  go_enter Tryz.func3, Tryz.ntmps3
  go_wp2_with fail
  refine aliveT.mono ?_
  rintro e w1 ⟨rfl, hb1⟩
  have HB1 := Lib.hid hb1
  clear hb1
  have CO := Lib.hid (offered (cap := c0) (cap' := c1) ((H0.out _ HB1.out).more HB1.out.size) ((H1.out _ HB1.out).more HB1.out.size))
  go_wp2_with fail
  refine CO.out.mono ?_
  rintro e w2 ⟨rfl, hb2⟩
  have HB2 := Lib.hid (HB1.out.trans (hb2.mono HB1.out.size))
  clear hb2 CO HB1
  by_cases z0 : O.length = 0
  · have q : ((O.length : Int) == 0) = true := by rw [beq_iff_eq]; omega
    clear z0
    go_wp2
    go_ret
    exact ⟨rfl, HB2.out⟩
  have q0 : ((O.length : Int) == 0) = false := by rw [beq_eq_false_iff_ne]; omega
  by_cases z1 : 6 < O.length
  · have q : decide (6 < (O.length : Int)) = true := decide_eq_true (by omega)
    go_wp2
    go_ret
    exact ⟨rfl, HB2.out⟩
  have q1 : decide (6 < (O.length : Int)) = false := decide_eq_false (by omega)
  by_cases z2 : O.length = R.length
  case neg =>
    have q : ((O.length : Int) != (R.length : Int)) = true := by rw [bne_iff_ne]; omega
    clear z2
    go_wp2
    go_ret
    exact ⟨rfl, HB2.out⟩
  have q2 : ((O.length : Int) != (R.length : Int)) = false := by rw [bne_eq_false_iff_eq]; omega
  by_cases z3 : 6 < V.length
  · have q : decide (6 < (V.length : Int)) = true := decide_eq_true (by omega)
    clear z2
    go_wp2
    go_ret
    exact ⟨rfl, HB2.out⟩
  have q3 : decide (6 < (V.length : Int)) = false := decide_eq_false (by omega)
  have HZ2 := Lib.hid z2
  have hn1 : 1 ≤ O.length := by omega
  have hn6 : O.length ≤ 6 := by omega
  have hm6 : V.length ≤ 6 := by omega
  clear z0 z1 z2 z3
  obtain ⟨i0, hi, hz0, hz1, hz2⟩ := info_parts infoInt'
  have HI := Lib.hid hi
  clear hi
  go_wp2_with fail
  obtain ⟨m, hm⟩ : ∃ m, m = V.length := ⟨_, rfl⟩
  have HM := Lib.hid hm
  rw [← hm] at hm6 q3 ⊢
  clear hm
  generalize hbase : w2.heap.size = base at *
  have HBS := Lib.hid hbase
  clear hbase
  have HWB : Hid (w.heap.size ≤ base) := Lib.hid (by rw [← HBS.out]; exact HB2.out.size)
  go_loopw [15, 16] (fun tv iv wr => ∃ k : Nat, k ≤ m ∧ iv = .int .i64 k ∧ Hid (wr.ownsRow base 3 1 tv k (((turnsOf O m).take k).map (Value.int .i64))) ∧ Hid (Below w.heap.size w wr) ∧ base ≤ wr.heap.size) (fun _ iv _ => m - (intOf iv).toNat)
  case atStart => exact ⟨0, by omega, rfl, Lib.hid (own_row_nil _ _ _), HB2, by rw [HBS.out]; exact Nat.le_refl _⟩
  case round =>
    obtain ⟨k, hk, rfl, hrow, hb, hbs⟩ := hrel
    by_cases hlt : k < m
    · have hmod : k % O.length < O.length := Nat.mod_lt _ (by omega)
      obtain ⟨b1, o1, i, eA, _, hi, _, hci⟩ := (H2.out _ hb.out).at_ hmod
      have hat := turnsOf_at (P := O) hlt
      rw [List.getD_eq_getElem?_getD, hi, Option.getD_some] at hat
      have hnx : ((turnsOf O m).take k).map (Value.int .i64) ++ [.int .i64 i] = ((turnsOf O m).take (k + 1)).map (Value.int .i64) := by rw [List.take_add_one, hat]; simp
      have HNX := Lib.hid hnx
      have hal := Below.alloc (B := wr.heap.size) (Below.refl _ wr) (Nat.le_refl _) (.cells #[.int .i64 i] 3)
      have hoz := Lib.hid (hrow.out.alloc (.cells #[.int .i64 i] 3))
      have hcz := Lib.hid (new_one wr (.int .i64 i) 3)
      have hbz := Lib.hid (hb.out.trans (hal.mono hb.out.size))
      have hsz : Hid ((wr.alloc (.cells #[.int .i64 i] 3)).heap.size = wr.heap.size + 1) := Lib.hid (by simp)
      have hrm : Int.tmod (k : Int) (O.length : Int) = ((k % O.length : Nat) : Int) := by rw [Int.tmod_eq_emod_of_nonneg (by omega)]; rfl
      have hp0 : ¬ ((O.length : Int) = 0) := by omega
      have hwm : IntKind.i64.wrap ((k % O.length : Nat) : Int) = ((k % O.length : Nat) : Int) := IntWalk.i64_in _ (by omega)
      generalize k % O.length = kq at *
      subst eA
      clear hal hrow hat hnx hi
      generalize hgw : wr.alloc (.cells #[.int .i64 i] 3) = wa at *
      go_wp2_with (at_builtin; refine wpList_append_own_at _ rfl _ _ 22 rfl base 3 i0 (.int .i64 0) 1 8 Tryz.underlying22 HI.out hz0 hz1 hz2 rfl (by decide) _ k _ rfl hoz.out ⟨wr.heap.size, 0, none⟩ 1 1 [.int .i64 i] rfl (by simp) hcz.out (by simp [Value.oneCell']) (by unfold maxLen; omega) (by omega) (by rw [hsz.out]; omega) ?_; intro v' w5 hown hgrow _ hat; have hb5 := Lib.hid (hbz.out.grown hgrow (by rw [hsz.out]; have := HWB.out; omega) (fun q hq => Nat.le_trans HWB.out (hoz.out.lt q hq).1)); rw [HNX.out] at hown; have ho5 := Lib.hid hown; have hs5 : base ≤ w5.heap.size := Nat.le_trans (by rw [hsz.out]; omega) hgrow.size; clear hown hgrow hat hgw)
      go_roundw
      case rel => exact ⟨k + 1, by omega, by go_num, ho5, hb5, hs5⟩
      case measure => simp [intOf]; omega
    · obtain rfl : k = m := by omega
      have hTl := turnsOf_length O k
      have hOi := fun z hz => ((H2.out _ hb.out).1 z hz)
      have hTi : ∀ z ∈ turnsOf O k, I64 z := fun z hz => by
        rw [turnsOf, List.mem_map] at hz
        obtain ⟨t, _, rfl⟩ := hz
        have hmod : t % O.length < O.length := Nat.mod_lt _ (by omega)
        rw [List.getD_eq_getElem?_getD, List.getElem?_eq_getElem hmod, Option.getD_some]
        exact hOi _ (List.getElem_mem hmod)
      have hrow2 := hrow.out
      rw [List.take_of_length_le (by rw [hTl]; exact Nat.le_refl _)] at hrow2
      obtain ⟨AT, cT, rfl, hT⟩ := rowT_rd hrow2 hTl hTi (by rw [hTl]; omega)
      have HT := Lib.hid fun (u : World) (hu : Below wr.heap.size wr u) => hT.below hu (Nat.le_refl _)
      have HTL := Lib.hid hTl
      generalize hTE : turnsOf O k = T at *
      have HTE := Lib.hid hTE
      clear hTE
      have HBT := Lib.hid hb.out
      clear hrow hrow2 hT hTi hOi hb hbs hk hlt HBS HWB HB2
      generalize wr = w3 at *
      have hmk := fun u => run_make_row' (P := Tryz.prog) 22 3 (.int .i64 0) 8 Tryz.underlying22 infoInt' rfl .i64 .i64 k (by omega) (by omega) u
      have hown := Own.made w3 3 k
      have hb0 := Below.alloc (B := w3.heap.size) (Below.refl _ w3) (Nat.le_refl _) (.cells (madeCells #[Value.int .i64 0] k) 3)
      have HOWN := Lib.hid hown
      have HB0 := Lib.hid hb0
      clear hown hb0 hTl
      go_wp2_with fail
      generalize w3.alloc (.cells (madeCells #[Value.int .i64 0] k) 3) = w4 at *
      clear hmk
      generalize hm : k = m at *
      clear hm
      go_loopw [18] (fun iv wr => ∃ (k : Nat) (L : List Int), k ≤ m ∧ iv = .int .i64 k ∧ Hid (L.length = m) ∧ Hid (∀ j, j < k → L[j]? = some (-1)) ∧ Hid (Own wr w3.heap.size 3 L) ∧ Hid (Below w3.heap.size w3 wr)) (fun iv _ => m - (intOf iv).toNat)
      case atStart => exact ⟨0, _, by omega, rfl, Lib.hid (by simp), Lib.hid (fun j hj => by omega), HOWN, HB0⟩
      case round =>
        obtain ⟨k, L, hk, rfl, hl, hv, ho, hb⟩ := hrel
        by_cases hlt : k < m
        · obtain ⟨y, hy⟩ : ∃ y, L[k]? = some y := ⟨L[k]'(by rw [hl.out]; exact hlt), by simp⟩
          have c1 := ho.out.cell hy
          have f1 := ho.out.frozen k
          have HO := Lib.hid (ho.out.store k (-1))
          have HB := Lib.hid (hb.out.setCell (p := ⟨w3.heap.size, k, none⟩) (Nat.le_refl _) (.int .i64 (-1)))
          have HL : Hid ((L.set k (-1)).length = m) := Lib.hid (by rw [List.length_set]; exact hl.out)
          have HV : Hid (∀ j, j < k + 1 → (L.set k (-1))[j]? = some (-1)) := Lib.hid (fun j hj => by
            by_cases e : j = k
            · rw [e, List.getElem?_set_self (by rw [hl.out]; exact hlt)]
            · rw [List.getElem?_set_ne (by omega)]; exact hv.out j (by omega))
          clear hy
          go_wp2
          go_roundw
          case rel => exact ⟨k + 1, _, by omega, by go_num, HL, HV, HO, HB⟩
          case measure => simp [intOf]; omega
        · obtain rfl : k = m := by omega
          have hL : L = List.replicate k (-1) := by
            apply List.ext_getElem?
            intro j
            rcases Nat.lt_or_ge j k with h | h
            · rw [hv.out j h]; simp [h]
            · rw [List.getElem?_eq_none (by rw [hl.out]; exact h), List.getElem?_eq_none (by simpa using h)]
          rw [hL] at ho
          have HBL := Lib.hid (HBT.out.trans (hb.out.mono HBT.out.size))
          have hrl := ho.out.rd (B := wr.heap.size) (fun z hz => by rw [List.mem_replicate] at hz; unfold I64; omega) (by simp; omega) ho.out.lt
          have CT := Lib.hid (kTurns (cap := k) (cap1 := c2) (cap2 := c3) hrl (H2.out _ HBL.out) (H3.out _ HBL.out) (Nat.le_refl _) HBL.out.size HBL.out.size hm6 HRL.out (by omega))
          have HTB := Lib.hid hb.out
          clear hL hv hl ho hb hrl hlt hk HB0 HOWN
          go_wp2_with fail
          refine CT.out.mono ?_
          rintro e w5 ⟨AA, cA, rfl, hra, hb5⟩
          have HB5 := Lib.hid (HBL.out.trans (hb5.mono HBL.out.size))
          have HTB5 := Lib.hid (HTB.out.trans (hb5.mono HTB.out.size))
          have HRA := Lib.hid hra
          clear CT hra hb5
          have CP := Lib.hid (lPickE (cap := cT) (cap' := c3) (HT.out _ HTB5.out) (H3.out _ HB5.out) HTB5.out.size HB5.out.size HRL.out)
          rw [HTL.out] at CP
          go_wp2_with fail
          refine CP.out.mono ?_
          rintro e w6 ⟨AP, cP, rfl, hrp, hb6⟩
          have HB6 := Lib.hid (HB5.out.trans (hb6.mono HB5.out.size))
          have HTB6 := Lib.hid (HTB5.out.trans (hb6.mono HTB5.out.size))
          have HRP := Lib.hid hrp
          have HRA6 := Lib.hid (HRA.out.below hb6 (Nat.le_refl _))
          have HAS := Lib.hid hb6.size
          have HEQ : Hid (kE O R k = 0 → chk35 T R = 0 ∧ kL O R k = pkL T R) := Lib.hid fun h => by
            obtain ⟨_, _, r0, r6, hperm, hrows⟩ := kE_zero h
            have hor := turns_or (P := O) hm6 r0 r6 hperm hrows
            rw [HTE.out] at hor
            have h35 := chk35_of hor
            refine ⟨h35, ?_⟩
            rw [kL, if_pos h, pkL, if_pos h35, HTE.out, HTL.out]
          clear CP hrp hb6
          generalize hke : kE O R k = ke at *
          generalize hce : chk35 T R = ce at *
          have HCE := Lib.hid hce
          clear hke hce
          go_upto_region 19 with fail
          go_cut [12, 113] (fun t c wx => t = .bool false ∧ c = .bool false ∧ Hid (Below w6.heap.size w6 wx))
          case first =>
            as_aux_lemma =>
            by_cases hk : ke = 0
            · obtain ⟨h35, hkl⟩ := HEQ.out hk
              have CS := sameInts (cap := cA) (cap' := cP) HRA6.out HRP.out HAS.out (Nat.le_refl _)
              rw [decide_eq_true hkl] at CS
              have HCS := Lib.hid CS
              have x1 : (ke == 0) = true := by rw [beq_iff_eq]; exact hk
              have x2 : (ce != 0) = false := by rw [bne_eq_false_iff_eq]; exact h35
              clear hk h35 hkl CS HEQ
              go_wp2_with fail
              refine HCS.out.mono ?_
              rintro e w7 ⟨rfl, hb7⟩
              have HB7 := Lib.hid hb7
              clear hb7
              go_wp2
              go_meet
              exact ⟨rfl, rfl, HB7⟩
            · have q : (ke == 0) = false := beq_eq_false_iff_ne.2 hk
              clear HEQ hk
              go_wp2
              go_meet
              exact ⟨rfl, rfl, Lib.hid (Below.refl _ _)⟩
          case rest =>
          obtain ⟨rfl, rfl, HB7⟩ := hcut
          have HB8 := Lib.hid (HB6.out.trans (HB7.out.mono HB6.out.size))
          have HTB8 := Lib.hid (HTB6.out.trans (HB7.out.mono HTB6.out.size))
          have CC := Lib.hid (rCheck35 (cap := cT) (cap' := c3) (HT.out _ HTB8.out) (H3.out _ HB8.out))
          rw [HTL.out, HCE.out] at CC
          have CV := Lib.hid (rVals (cap := c5) (H5.out _ HB8.out))
          rw [← HM.out] at CV
          clear HEQ HRA HRA6 HRP HB7 HTB HBL HBT HB5 HB6 HTB5 HTB6 HAS
          by_cases y0 : ce = 0
          case neg =>
            have q : (ce != 0) = true := by rw [bne_iff_ne]; exact y0
            clear y0
            go_wp2_with first | (go_at_call 9; refine CC.out.mono ?_; rintro e w' ⟨rfl, rfl⟩) | (go_at_call 10; refine CV.out.mono ?_; rintro e w' ⟨rfl, rfl⟩)
            go_ret
            exact ⟨rfl, HB8.out⟩
          subst y0
          have HOR := Lib.hid (chk35_zero HCE.out)
          by_cases y1 : a < 0
          · have q : decide (a < 0) = true := decide_eq_true y1
            go_wp2_with first | (go_at_call 9; refine CC.out.mono ?_; rintro e w' ⟨rfl, rfl⟩) | (go_at_call 10; refine CV.out.mono ?_; rintro e w' ⟨rfl, rfl⟩)
            go_ret
            exact ⟨rfl, HB8.out⟩
          have d1 : decide (a < 0) = false := decide_eq_false y1
          by_cases y2 : (R.length : Int) ≤ a
          · have q : decide ((R.length : Int) ≤ a) = true := decide_eq_true y2
            go_wp2_with first | (go_at_call 9; refine CC.out.mono ?_; rintro e w' ⟨rfl, rfl⟩) | (go_at_call 10; refine CV.out.mono ?_; rintro e w' ⟨rfl, rfl⟩)
            go_ret
            exact ⟨rfl, HB8.out⟩
          have d2 : decide ((R.length : Int) ≤ a) = false := decide_eq_false y2
          by_cases y3 : val35 V = 0
          case neg =>
            have q : (val35 V != 0) = true := by rw [bne_iff_ne]; exact y3
            generalize val35 V = vv at *
            clear y3
            go_wp2_with first | (go_at_call 9; refine CC.out.mono ?_; rintro e w' ⟨rfl, rfl⟩) | (go_at_call 10; refine CV.out.mono ?_; rintro e w' ⟨rfl, rfl⟩)
            go_ret
            exact ⟨rfl, HB8.out⟩
          rw [y3] at CV
          obtain ⟨a, rfl⟩ : ∃ a' : Nat, a = (a' : Int) := ⟨a.toNat, by omega⟩
          have haR : a < R.length := by omega
          have d3 : decide (R.length ≤ a) = false := decide_eq_false (by omega)
          have HV0 := Lib.hid y3
          clear y1 y2 y3 _ha
          go_wp2_with first | (go_at_call 9; refine CC.out.mono ?_; rintro e w' ⟨rfl, rfl⟩) | (go_at_call 10; refine CV.out.mono ?_; rintro e w' ⟨rfl, rfl⟩)
          have hor := HOR.out
          have hvr : VR V T := ⟨by rw [← HM.out, HTL.out], (val35_zero HV0.out).2⟩
          have hpt : (iota T.length).Perm (truL V) := by rw [← hvr.len]; exact truL_perm V
          obtain ⟨R2, hR2⟩ : ∃ R2, R2 = R.set a (truL V) := ⟨_, rfl⟩
          have hor2 : OR T R2 := by rw [hR2]; exact hor.set a hpt
          obtain ⟨g1, g2, _⟩ := truth_law hor hvr haR
          have hlk := lkd35_of (a := (a : Int)) hor hvr (by omega) (by omega)
          have hR2l : R2.length = R.length := by rw [hR2, List.length_set]
          have hlk2 := lkd35_of (a := (a : Int)) hor2 hvr (by omega) (by omega)
          have HHS : Hid (hsV T R2 (a : Int) V = hasW T R a V (truL V)) := Lib.hid (by rw [hsV, if_pos hlk2, hasW, Int.toNat_natCast, hR2])
          have HLS : Hid (lsN T R (a : Int) V = (bestR T R a V).2) := Lib.hid (by rw [lsN, if_pos hlk])
          have HRL2 : Hid (∀ l ∈ R2, l.length < 100000000000000) := Lib.hid fun l hl => by have := (hor2.ord l hl).length_eq; rw [iota_length] at this; have := hor.o6; omega
          have HTR : Hid (trL V = truL V) := Lib.hid (by rw [trL, if_pos HV0.out])
          have HLK := Lib.hid hlk
          have HLK2 := Lib.hid hlk2
          have HR2 := Lib.hid hR2
          have HR2L := Lib.hid hR2l
          have G2 := Lib.hid g2
          clear hor hvr hpt hor2 hlk hlk2 hR2 hR2l g2 CC CV
          go_loop [23, 24] (fun tv iv => ∃ j c0 : Nat, j ≤ k ∧ iv = .int .i64 j ∧ tv = .int .i64 c0 ∧ c0 ≤ j ∧ Hid ((T.take j).count (a : Int) = c0)) (fun _ iv => k - (intOf iv).toNat)
          case atStart => exact ⟨0, 0, by omega, rfl, rfl, by omega, Lib.hid rfl⟩
          case round =>
            obtain ⟨j, c0, hj, rfl, rfl, hc0, hcc⟩ := hrel
            by_cases hlt : j < k
            · obtain ⟨b1, o1, i, rfl, hb1, hi, hi64, hci⟩ := (HT.out _ HTB8.out).at_ (k := j) (by rw [HTL.out]; exact hlt)
              have hst := count_take hi (a : Int)
              clear hi hi64
              by_cases hia : i = (a : Int)
              · subst hia
                rw [if_pos rfl, hcc.out] at hst
                have HST := Lib.hid hst
                clear hst hcc
                go_wp2
                go_round
                case rel => exact ⟨j + 1, c0 + 1, by omega, by go_num, by go_num, by omega, HST⟩
                case measure => simp [intOf]; omega
              · have hne2 : (i == (a : Int)) = false := by rw [beq_eq_false_iff_ne]; exact hia
                rw [if_neg hia, Nat.add_zero, hcc.out] at hst
                have HST := Lib.hid hst
                clear hst hia hcc
                go_wp2
                go_round
                case rel => exact ⟨j + 1, c0, by omega, by go_num, rfl, by omega, HST⟩
                case measure => simp [intOf]; omega
            · obtain rfl : j = k := by omega
              have HCN := Lib.hid hcc.out
              clear hcc hlt hj
              have CT1 := Lib.hid (lTrueE (cap := c5) (H5.out _ HB8.out) HB8.out.size)
              rw [HTR.out, HV0.out, ← HM.out] at CT1
              go_wp2_with fail
              refine CT1.out.mono ?_
              rintro e w10 ⟨B1, d1', rfl, hrt, hb10⟩
              have HB10 := Lib.hid (HB8.out.trans (hb10.mono HB8.out.size))
              have HTB10 := Lib.hid (HTB8.out.trans (hb10.mono HTB8.out.size))
              have HTT := Lib.hid hrt
              clear CT1 hrt hb10
              have CL := Lib.hid (lListE (cap := cT) (cap' := c3) (cap3 := c5) (a : Int) (HT.out _ HTB10.out) (H3.out _ HB10.out) (H5.out _ HB10.out) HTB10.out.size HB10.out.size HB10.out.size HRL.out)
              rw [HLS.out, HLK.out, HTL.out, ← HM.out] at CL
              go_wp2_with fail
              refine CL.out.mono ?_
              rintro e w11 ⟨B2, d2', rfl, _, hb11⟩
              have HB11 := Lib.hid (HB10.out.trans (hb11.mono HB10.out.size))
              have HTB11 := Lib.hid (HTB10.out.trans (hb11.mono HTB10.out.size))
              have HTT11 := Lib.hid ((HTT.out.below hb11 (Nat.le_refl _)).more hb11.size)
              generalize (lsL T R (a : Int) V).length = n6 at *
              clear CL hb11 HTT
              have hn : 0 < R.length := by omega
              obtain ⟨j0, hj0, hy0, hy1, hy2⟩ := info_parts infoRowC
              have hs11 := HB11.out.size
              have hown0 := own_empty w11 22
              have hal := Below.alloc (B := w11.heap.size) (Below.refl _ w11) (Nat.le_refl _) (.cells #[] 22)
              have hsz : (w11.alloc (.cells #[] 22)).heap.size = w11.heap.size + 1 := by simp
              obtain ⟨vs, hv1, _, hv3, hv4⟩ := rd2_vals (H3.out _ HB11.out)
              obtain ⟨bb, off, rfl, hbb, _⟩ := (H3.out _ HB11.out).2 hn
              have HV3 := Lib.hid hv3
              have HV4 : Hid (∀ j u, vs[j]? = some u → (w11.alloc (.cells #[] 22)).cell? ((⟨bb, off, none⟩ : Addr).add j) = some u) := Lib.hid fun j u hj => cell_kept hal (Nat.le_refl _) (hv4 _ rfl j u hj)
              have HO1 : Hid (∀ u ∈ vs, u.oneCell' = true) := Lib.hid (by
                intro u hu
                obtain ⟨i, hi⟩ := List.getElem?_of_mem hu
                have hlt := (List.getElem?_eq_some_iff.1 hi).1
                rw [hv1] at hlt
                obtain ⟨A', c', h1, _⟩ := hv3 i R[i] (by simp [hlt])
                rw [hi] at h1
                cases h1
                rfl)
              have HV1 := Lib.hid hv1
              have HJ := Lib.hid hj0
              have HO := Lib.hid hown0
              have HAL := Lib.hid hal
              have HSZ := Lib.hid hsz
              have HTTl : Hid ((truL V).length = j) := Lib.hid (by rw [truL_length, ← HM.out])
              clear hal hsz hj0 hown0 hv1 hv3 hv4
              generalize hw4 : w11.alloc (.cells #[] 22) = w12 at *
              have HW4 := Lib.hid hw4
              clear hw4
              have hx4 : w11.alloc (.cells #[] 22) = w12 := HW4.out
              go_wp2_with (at_builtin; refine wpList_append_own _ rfl _ _ 23 rfl w11.heap.size 22 j0 (.slice none 0 0) 1 24 Tryz.underlying23 HJ.out hy0 hy1 hy2 rfl (by decide) _ 0 [] rfl HO.out ⟨bb, off, none⟩ R.length c3 vs rfl (by rw [HV1.out, Nat.mul_one]) HV4.out HO1.out (by unfold maxLen; omega) (by omega) (by rw [HSZ.out]; omega) ?_)
              intro v' w13 hown5 hgrow _
              have hb5 : Below w11.heap.size w11 w13 := HAL.out.grown hgrow (by rw [HSZ.out]; omega) (by intro k hk; simp [Value.ownBlock] at hk; omega)
              have hown6 : w13.ownsRow w11.heap.size 22 1 v' R.length vs := by simpa using hown5
              obtain ⟨gg, cg, hv5, hgg, hgl⟩ := hown6.form hn
              rw [hv5] at hown6
              rw [hv5]
              obtain ⟨u0, hu0⟩ : ∃ u0, vs[a]? = some u0 := ⟨vs[a]'(by rw [HV1.out]; exact haR), by simp⟩
              have hcf : w13.cell? ⟨gg, a, none⟩ = some u0 ∧ w13.frozen? ⟨gg, a, none⟩ = false := by
                rcases hown6.2 with ⟨h1, _⟩ | ⟨g2, cap2, cur, h1, _, hh, _, _, _, htk⟩
                · cases h1
                · cases h1
                  constructor
                  · rw [cell_of_row _ _ _ cur _ (0, 0) hh]
                    rw [← htk, List.getElem?_take] at hu0
                    split at hu0
                    · simpa using hu0
                    · cases hu0
                  · simp [World.frozen?, hh]
              obtain ⟨hc0', hf0⟩ := hcf
              have hst := hown6.stored a (.slice B1 (truL V).length d1')
              have hb6 : Below w11.heap.size w11 (w13.setCell ⟨gg, a, none⟩ (.slice B1 (truL V).length d1')) := hb5.setCell (p := ⟨gg, a, none⟩) hgg _
              have hvr := rows_set (a := a) (A := B1) (x := truL V) (c := d1') HV1.out (fun j L _ hL => HV3.out j L hL) hb6 hs11 ((HTT11.out.below hb6 (Nat.le_refl _)).more hb6.size) haR
              rw [← HR2.out] at hvr
              have hrr := rd2_of_row (F := R2) (by rw [HR2L.out]; exact hst.1) hvr (by rw [HR2L.out]; omega)
              have HRR := Lib.hid hrr
              have HB14 := Lib.hid (HB11.out.trans (hb6.mono HB11.out.size))
              have HTB14 := Lib.hid (HTB11.out.trans (hb6.mono HTB11.out.size))
              have haI : (a : Int) < (R.length : Int) := by omega
              clear hown5 hgrow hb5 hx4 hv5 HW4 HAL HV4 HSZ hown6 hst hvr hrr hb6 hu0
              go_wp2_with fail
              generalize w13.setCell ⟨gg, a, none⟩ (.slice B1 (truL V).length d1') = w14 at *
              have CH := Lib.hid (lHasE (cap := cT) (cap' := cg) (cap3 := c5) (a : Int) (HT.out _ HTB14.out) HRR.out (H5.out _ HB14.out) HTB14.out.size (Nat.le_refl _) HB14.out.size HRL2.out)
              rw [HHS.out, HLK2.out, HTL.out, HR2L.out, ← HM.out] at CH
              refine CH.out.mono ?_
              rintro e w15 ⟨rfl, hb15⟩
              have HB15 := Lib.hid (HB14.out.trans (hb15.mono HB14.out.size))
              have G3 : Hid (c0 ≤ 1 ∨ c0 = j → hasW T R (a : Int) V (truL V) = (bestR T R (a : Int) V).2) := Lib.hid (by
                have := G2.out
                have h9 := HCN.out
                rw [← HTL.out, List.take_length] at h9
                rw [h9, HTL.out] at this
                exact this)
              clear CH hb15 G2 HHS HLS
              generalize hasW T R (a : Int) V (truL V) = N at *
              generalize (bestR T R (a : Int) V).2 = M at *
              have d5 : decide (N ≤ M) = true := decide_eq_true g1
              by_cases x1 : 1 < c0
              · have d6 : decide (1 < (c0 : Int)) = true := decide_eq_true (by omega)
                have d7 : decide (1 < c0) = true := decide_eq_true x1
                by_cases x2 : c0 < j
                · have d8 : decide ((c0 : Int) < (j : Int)) = true := decide_eq_true (by omega)
                  have d9 : decide (c0 < j) = true := decide_eq_true x2
                  go_wp2
                  go_ret
                  exact ⟨rfl, HB15.out⟩
                · have d8 : decide ((c0 : Int) < (j : Int)) = false := decide_eq_false (by omega)
                  have d9 : decide (c0 < j) = false := decide_eq_false x2
                  have d10 : (N == M) = true := by rw [beq_iff_eq]; exact G3.out (.inr (by omega))
                  go_wp2
                  go_ret
                  exact ⟨rfl, HB15.out⟩
              · have d6 : decide (1 < (c0 : Int)) = false := decide_eq_false (by omega)
                have d7 : decide (1 < c0) = false := decide_eq_false x1
                have d10 : (N == M) = true := by rw [beq_iff_eq]; exact G3.out (.inl (by omega))
                go_wp2
                go_ret
                exact ⟨rfl, HB15.out⟩
end Go.Proofs.YtkoipecnmijfoaaGreat

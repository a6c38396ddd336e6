import Derived.Test.YtefbkdjppfofmaaS26u
import Derived.Test.YtefbkdjppfofmaaS26v
import Derived.Test.YtefbkdjppfofmaaW26A
import Derived.Test.YtefbkdjppfofmaaW26e
import Derived.Test.YtefbkdjppfofmaaW26f
import Derived.Test.YtefbkdjppfofmaaW26z
import Derived.Test.YtefbkdjppfofmaaS33l
import Derived.Test.YtefbkdjppfofmaaW26i
/-! The walk of LevelOrder. -/
namespace Go.Proofs.Ytefbkdjppfofmaa
open Go.RowKit Go.Deep
set_option linter.unusedVariables false
set_option maxRecDepth 100000
theorem infoBs : (Try.prog.info? 45).map (fun i => (i.zero, i.size, i.bytes)) = some (some (.slice none 0 0), 1, 24) := by kernel_rfl
theorem infoB1 : (Try.prog.info? 4).map (fun i => (i.zero, i.size, i.bytes)) = some (some (.bool false), 1, 1) := by kernel_rfl

theorem vw_eq {m n m' n' : Nat} {W : List (List Bool)} (v : VW m n W) (v' : VW m' n' W) : m = m' ∧ n = n' := by
  have e : m = m' := v.len.symm.trans v'.len
  have h0 : 0 < W.length := by rw [v.len]; exact v.m0
  exact ⟨e, (v.row _ (List.getElem_mem h0)).symm.trans (v'.row _ (List.getElem_mem h0))⟩
theorem rdB_cells {w : World} {B : Nat} {A : Option Addr} {L : List Bool} (h : RdB w B A L) : ∀ ad, A = some ad → ∀ (j : Nat) (u : Value), (L.map Value.bool)[j]? = some u → w.cell? (ad.add j) = some u := by
  intro ad hA j u hu
  rw [List.getElem?_map] at hu
  cases hx : L[j]? with
  | none => rw [hx] at hu; cases hu
  | some x =>
    rw [hx] at hu; cases hu
    have hj := (List.getElem?_eq_some_iff.1 hx).1
    obtain ⟨b, off, e, _, hc⟩ := h.2 (by omega)
    rw [hA] at e
    cases e
    rw [addr_add]
    have := hc j x hx
    rwa [Nat.mul_one] at this

set_option maxHeartbeats 4000000 in
theorem levelOrder {w : World} {A A' : Option Addr} {W : List (List Bool)} {X : List Bool} {cap cap' : Nat} (h : RdB2 w w.heap.size A W) (h' : RdB w w.heap.size A' X) :
    Calls Try.prog 7 #[.slice A W.length cap, .slice A' X.length cap'] w fun e w' => e = .returned (.bool true) ∧ Below w.heap.size w w' := by
  have l1 := h.len
  have l2 := h'.len
  have H := Lib.hid h
  have H' := Lib.hid h'
  have HCK : Hid (∀ u : World, Below w.heap.size w u → Calls Try.prog 18 #[.slice A W.length cap] u fun e w' => e = .returned (.int .i64 (chk26 W)) ∧ Below u.heap.size u w') := Lib.hid fun u hu => lrCheck26 (cap := cap) (h.below hu (Nat.le_refl _)) hu.size
  clear h h'
  by_cases hk : chk26 W = 0
  · obtain ⟨m, n, v⟩ := chk26_zero hk
    rw [hk] at HCK
    obtain rfl := v.len
    have m0 := v.m0
    have m6 := v.m6
    have n10 := v.n10
    have HV := Lib.hid v
    have HK := Lib.hid hk
    obtain ⟨i0, hi0, iz0, iz1, iz2⟩ := info_parts infoBs
    obtain ⟨j0, hj0, jz0, jz1, jz2⟩ := info_parts infoB1
    have HI := Lib.hid hi0
    have HJ := Lib.hid hj0
    clear hk v hi0 hj0
    go_enter Try.func7, Try.ntmps7
    go_wp2_with fail
    refine (alive26 w).mono ?_
    rintro e w1 ⟨rfl, b1⟩
    have B1 := Lib.hid b1
    clear b1
    go_wp2_with fail
    refine (HCK.out w1 B1.out).mono ?_
    rintro e w2 ⟨rfl, b2⟩
    have B2 := Lib.hid (B1.out.trans (b2.mono B1.out.size))
    clear b2 B1 HCK
    go_wp2_with fail
    go_loopw [6, 7, 8] (fun tv uv iv wr => ∃ (i : Nat) (vs us : List Value), i ≤ W.length ∧ iv = .int .i64 i ∧ Hid (TW wr w2.heap.size 45 tv uv vs us ((trnd W).take i) ((wideW W X).take i)) ∧ Hid (Below w2.heap.size w2 wr)) (fun _ _ iv _ => W.length - (intOf iv).toNat)
    case atStart => exact ⟨0, [], [], by omega, rfl, Lib.hid (TW.start _ _ _), Lib.hid (Below.refl _ _)⟩
    case round =>
      obtain ⟨i, vs, us, hi, rfl, ht, hb⟩ := hrel
      by_cases hlt : i < W.length
      · have hb0 := B2.out.trans (hb.out.mono B2.out.size)
        have hj : W.length - 1 - i < W.length := by omega
        obtain ⟨b0, o0, o, A2, c2, rfl, hbb, ho, hco, hro⟩ := (H.out.below hb0 (Nat.le_refl _)).at_ hj
        have hol : o.length = n := HV.out.row o (List.mem_of_getElem? ho)
        rw [hol] at hco
        have hji : (W.length : Int) - 1 - (i : Int) = ((W.length - 1 - i : Nat) : Int) := by omega
        have HRO := Lib.hid hro
        have HO := Lib.hid ho
        have HOL := Lib.hid hol
        have HHB := Lib.hid hb0
        clear ho hro hol hbb hb0
        go_wp2_with fail
        generalize wr = wo at *
        go_loopw [9, 11] (fun lv gv wr => ∃ (k : Nat), k ≤ n ∧ gv = .int .i64 ((n : Int) - 1 - (k : Int)) ∧ Hid (QRow wr wo.heap.size 4 lv ((o.reverse.take k).map Value.bool)) ∧ Hid (Below wo.heap.size wo wr)) (fun _ gv _ => (intOf gv + 1).toNat)
        case atStart => exact ⟨0, by omega, by go_num, Lib.hid (QRow.nil _ _ _), Lib.hid (Below.refl _ _)⟩
        case round =>
          obtain ⟨k, hk, rfl, hq, hbq⟩ := hrel
          by_cases hkn : k < n
          · obtain ⟨b3, o3, x, rfl, hb3, hx, hc3⟩ := (HRO.out.below hbq.out HHB.out.size).at_ (k := n - 1 - k) (by rw [HOL.out]; omega)
            have hjk : (n : Int) - 1 - (k : Int) = ((n - 1 - k : Nat) : Int) := by omega
            have hxr : o.reverse[k]? = some x := by
              rw [List.getElem?_reverse (by rw [HOL.out]; exact hkn), HOL.out]; exact hx
            have hbz := Below.alloc (Below.refl wr.heap.size wr) (Nat.le_refl _) (.cells #[.bool x] 4)
            have HQ1 := Lib.hid (hq.out.below hbz)
            have HCZ := Lib.hid (newOne wr (.bool x) 4)
            have HS1 : Hid (wo.heap.size ≤ (wr.alloc (.cells #[.bool x] 4)).heap.size) := Lib.hid (Nat.le_trans hbq.out.size hbz.size)
            have HB1 := Lib.hid (hbq.out.trans (hbz.mono hbq.out.size))
            have HSN : Hid ((o.reverse.take (k + 1)).map Value.bool = (o.reverse.take k).map Value.bool ++ [.bool x]) := Lib.hid (by rw [List.take_add_one, hxr, List.map_append]; rfl)
            have HLK : Hid (((o.reverse.take k).map Value.bool).length = k) := Lib.hid (by rw [List.length_map, List.length_take, List.length_reverse, HOL.out]; omega)
            clear hb3 hx hxr hbz hq
            generalize (o.reverse.take k).map Value.bool = vl at *
            go_wp2_with (at_builtin; refine wpList_append_q _ rfl _ _ 45 rfl 4 j0 (.bool false) 1 Try.underlying45 HJ.out jz0 jz1 jz2 rfl wo.heap.size _ _ rfl HQ1.out HS1.out ⟨wr.heap.size, 0, none⟩ 1 (.bool x) rfl HCZ.out (by simp [Value.oneCell']) (by rw [HLK.out]; unfold maxLen; omega) (by rw [HLK.out]; omega) ?_)
            intro v4 w4 hq4 hg4 ho4
            have HQ4 : Hid (QRow w4 wo.heap.size 4 v4 ((o.reverse.take (k + 1)).map Value.bool)) := Lib.hid (by rw [HSN.out]; exact hq4)
            have HB4 := Lib.hid (HB1.out.trans ((Below.refl wo.heap.size _).grown hg4 HS1.out fun k hk => (HQ1.out.own k hk).1))
            clear hq4 hg4 ho4 HQ1 HCZ HS1 HB1 HSN HLK hbq
            go_wp2
            go_roundw
            case rel => exact ⟨k + 1, by omega, by go_num, HQ4, HB4⟩
            case measure => simp [intOf]; omega
          · obtain rfl : k = n := by omega
            have hm1 : (k : Int) - 1 - (k : Int) = -1 := by omega
            have hrl : (o.reverse).length = k := by rw [List.length_reverse, HOL.out]
            have hrt : o.reverse.take k = o.reverse := List.take_of_length_le (by omega)
            rw [hrt] at hq
            obtain ⟨A5, c5, hv5, hr5, hn5⟩ := rdB_of_q hq.out (by omega)
            rw [hrl] at hv5
            subst hv5
            have hbz := Below.alloc (Below.refl wr.heap.size wr) (Nat.le_refl _) (.cells #[.slice A5 k c5] 45)
            have HT1 := Lib.hid ((ht.out.below hbq.out).below hbz)
            have HCZ := Lib.hid (newOne wr (.slice A5 k c5) 45)
            have HR5 := Lib.hid ((hr5.below hbz (Nat.le_refl _)).more hbz.size)
            have HN5 : Hid (∀ p, A5 = some p → 0 < o.reverse.length → ¬ X2 u6 u7 p.block) := Lib.hid fun p hp h0 hx => by
              have h1 := hn5 p hp h0
              rcases hx with hx | hx
              · have := (ht.out.1.own _ hx).2; omega
              · have := (ht.out.2.1.own _ hx).2; omega
            have HB1 := Lib.hid ((hb.out.trans (hbq.out.mono hb.out.size)).trans (hbz.mono (Nat.le_trans hb.out.size hbq.out.size)))
            have HS1 : Hid (w2.heap.size ≤ (wr.alloc (.cells #[.slice A5 k c5] 45)).heap.size) := Lib.hid HB1.out.size
            have hvl := ht.out.2.2.2.1.1
            have hul := ht.out.2.2.2.2.1
            rw [List.length_take, trnd_length] at hvl
            rw [List.length_take, wide_length] at hul
            have HVN : Hid (vs.length = i) := Lib.hid (by omega)
            have HUL : Hid (us.length = i) := Lib.hid (by omega)
            have HRL := Lib.hid hrl
            have HF1 : Hid ((trnd W).take (i + 1) = (trnd W).take i ++ [o.reverse]) := Lib.hid (by
              have e : (trnd W)[i]? = some o.reverse := by
                rw [trnd, List.getElem?_reverse (by simpa using hlt), List.length_map, List.getElem?_map, HO.out]; rfl
              rw [List.take_add_one, e]; rfl)
            have HG1 : Hid ((wideW W X).take (i + 1) = (wideW W X).take i ++ [W.getD i [] ++ [X.getD i false]]) := Lib.hid (by rw [List.take_add_one, wide_get hlt]; rfl)
            clear hrt hbz hq hr5 hn5 hb hbq ht hvl hul HRO hrl hji hco hj
            go_wp2_with (at_builtin; refine wpList_append_q _ rfl _ _ 22 rfl 45 i0 (.slice none 0 0) 24 Try.underlying22 HI.out iz0 iz1 iz2 rfl w2.heap.size _ vs rfl HT1.out.1 HS1.out ⟨wr.heap.size, 0, none⟩ 1 (.slice A5 k c5) rfl HCZ.out (by simp [Value.oneCell']) (by rw [HVN.out]; unfold maxLen; omega) (by rw [HVN.out]; omega) ?_)
            intro v4 w4 hq4 hg4 ho4
            rw [← HRL.out] at hq4
            have HT4 := Lib.hid (HT1.out.app HR5.out HN5.out hq4 hg4 (by simpa using ho4))
            have HB4 := Lib.hid (HB1.out.grown hg4 HS1.out fun k hk => (HT1.out.1.own k hk).1)
            clear hq4 hg4 ho4 HT1 HCZ HR5 HN5 HB1 HS1
            have hal0 := Below.alloc (Below.refl w4.heap.size w4) (Nat.le_refl _) (.cells #[] 4)
            have hbw4 := B2.out.trans (HB4.out.mono B2.out.size)
            obtain ⟨b0', o0', row, A3, c3, e0, hb0, hrow, hc0, hr3⟩ := (H.out.below (hbw4.trans (hal0.mono hbw4.size)) (Nat.le_refl _)).at_ hlt
            cases e0
            have hrw : row.length = k := HV.out.row row (List.mem_of_getElem? hrow)
            rw [hrw] at hc0
            have HGD : Hid (W.getD i [] = row) := Lib.hid (by rw [List.getD_eq_getElem?_getD, hrow]; rfl)
            have HRN : Hid (A3 = none → k = 0) := Lib.hid fun hA => by
              rcases Nat.eq_zero_or_pos k with h0 | h0
              · exact h0
              · obtain ⟨_, _, e, _⟩ := hr3.2 (by omega)
                rw [hA] at e; cases e
            have HRC := Lib.hid (rdB_cells hr3)
            have HE0 := Lib.hid (own_empty w4 4)
            have HAL0 := Lib.hid hal0
            have HS0 : Hid ((w4.alloc (.cells #[] 4)).heap.size = w4.heap.size + 1) := Lib.hid (by simp)
            have HMI : Hid ((row.map Value.bool).length = k * 1) := Lib.hid (by rw [List.length_map, hrw]; omega)
            have HRW := Lib.hid hrw
            have HBW4 := Lib.hid hbw4
            clear hal0 hbw4 hb0 hrow hr3 hrw
            generalize hwb : w4.alloc (.cells #[] 4) = wb at *
            go_wp2_with (at_builtin; refine wpList_append_opt rfl _ _ 45 rfl w4.heap.size 4 j0 (.bool false) 1 1 Try.underlying45 HJ.out jz0 jz1 jz2 rfl (by decide) _ 0 [] rfl HE0.out A3 k c3 (row.map Value.bool) rfl HMI.out HRN.out HRC.out (bools_oneCell _) (by unfold maxLen; omega) (by omega) (by rw [HS0.out]; omega) ?_)
            intro v5 w5 hown5 hgr5 _
            obtain ⟨hq5, _⟩ := qrow_of_row (base := w4.heap.size) hown5 (Nat.le_refl _)
            have hb5 : Below w4.heap.size w4 w5 := HAL0.out.grown hgr5 (by rw [HS0.out]; omega) (by intro k hk; simp [Value.ownBlock] at hk; omega)
            have hq5' : QRow w5 w4.heap.size 4 v5 (row.map Value.bool) := by simpa using hq5
            have HQ5 := Lib.hid hq5'
            have HB5 := Lib.hid hb5
            clear hown5 hgr5 hq5 hq5' hb5 HRC HE0 HAL0 HS0 hwb HMI HRN hc0
            obtain ⟨vl, hvl⟩ : ∃ vl, vl = row.map Value.bool := ⟨_, rfl⟩
            have HLK : Hid (vl.length = k) := Lib.hid (by rw [hvl, List.length_map, HRW.out])
            rw [← hvl] at HQ5
            have HVL : Hid (row.map Value.bool = vl) := Lib.hid hvl.symm
            clear hvl
            by_cases hix : i < X.length
            · obtain ⟨b6, o6, x, rfl, hb6, hx, hc6⟩ := (H'.out.below (HBW4.out.trans (HB5.out.mono HBW4.out.size)) (Nat.le_refl _)).at_ hix
              have HXB : Hid (X.getD i false = x) := Lib.hid (by rw [List.getD_eq_getElem?_getD, hx]; rfl)
              rw [HXB.out, HGD.out] at HG1
              have hbz7 := Below.alloc (Below.refl w5.heap.size w5) (Nat.le_refl _) (.cells #[.bool x] 4)
              have HQ7 := Lib.hid (HQ5.out.below hbz7)
              have HCZ7 := Lib.hid (newOne w5 (.bool x) 4)
              have HB7 := Lib.hid (HB5.out.trans (hbz7.mono HB5.out.size))
              have HS7 : Hid (w4.heap.size ≤ (w5.alloc (.cells #[.bool x] 4)).heap.size) := Lib.hid HB7.out.size
              have q6 : decide ((i : Int) < (X.length : Int)) = true := decide_eq_true (by omega)
              clear hb6 hx hbz7 HQ5 HB5
              go_wp2_with (at_builtin; refine wpList_append_q _ rfl _ _ 45 rfl 4 j0 (.bool false) 1 Try.underlying45 HJ.out jz0 jz1 jz2 rfl w4.heap.size _ _ rfl HQ7.out HS7.out ⟨w5.heap.size, 0, none⟩ 1 (.bool x) rfl HCZ7.out (by simp [Value.oneCell']) (by rw [HLK.out]; unfold maxLen; omega) (by rw [HLK.out]; omega) ?_)
              intro v8 w8 hq8 hg8 ho8
              have hq8' : QRow w8 w4.heap.size 4 v8 ((row ++ [x]).map Value.bool) := by rw [List.map_append, HVL.out]; exact hq8
              obtain ⟨A8, c8, hv8, hr8, hn8⟩ := rdB_of_q hq8' (by rw [List.length_append, HRW.out]; simp; omega)
              rw [List.length_append, HRW.out] at hv8
              have hv8' : v8 = .slice A8 (k + 1) c8 := hv8
              subst hv8'
              have hb8 : Below w4.heap.size w4 w8 := HB7.out.grown hg8 HS7.out fun k hk => (HQ7.out.own k hk).1
              have hbz8 := Below.alloc (Below.refl w8.heap.size w8) (Nat.le_refl _) (.cells #[.slice A8 (k + 1) c8] 45)
              have HT9 := Lib.hid ((HT4.out.below hb8).below hbz8).sym
              have HC9 := Lib.hid (newOne w8 (.slice A8 (k + 1) c8) 45)
              have HR9 := Lib.hid ((hr8.below hbz8 (Nat.le_refl _)).more hbz8.size)
              have HN9 : Hid (∀ p, A8 = some p → 0 < (row ++ [x]).length → ¬ X2 u7 v4 p.block) := Lib.hid fun p hp h0 hx => by
                have h1 := hn8 p hp h0
                rcases hx with hx | hx
                · have := (HT4.out.2.1.own _ hx).2; omega
                · have := (HT4.out.1.own _ hx).2; omega
              have HB9 := Lib.hid ((HB4.out.trans (hb8.mono HB4.out.size)).trans (hbz8.mono (Nat.le_trans HB4.out.size hb8.size)))
              have HS9 : Hid (w2.heap.size ≤ (w8.alloc (.cells #[.slice A8 (k + 1) c8] 45)).heap.size) := Lib.hid HB9.out.size
              have HRL9 : Hid ((row ++ [x]).length = k + 1) := Lib.hid (by rw [List.length_append, HRW.out]; rfl)
              clear hq8 hg8 ho8 hq8' hv8 hr8 hn8 hb8 hbz8 HQ7 HS7 HCZ7 HB7
              go_wp2_with (at_builtin; refine wpList_append_q _ rfl _ _ 22 rfl 45 i0 (.slice none 0 0) 24 Try.underlying22 HI.out iz0 iz1 iz2 rfl w2.heap.size _ us rfl HT9.out.1 HS9.out ⟨w8.heap.size, 0, none⟩ 1 (.slice A8 (k + 1) c8) rfl HC9.out (by simp [Value.oneCell']) (by rw [HUL.out]; unfold maxLen; omega) (by rw [HUL.out]; omega) ?_)
              intro v10 w10 hq10 hg10 ho10
              rw [← HRL9.out] at hq10
              have HT10 := Lib.hid (HT9.out.app HR9.out HN9.out hq10 hg10 (by simpa using ho10)).sym
              have HB10 := Lib.hid (HB9.out.grown hg10 HS9.out fun k hk => (HT9.out.1.own k hk).1)
              clear hq10 hg10 ho10 HT9 HC9 HR9 HN9 HB9 HS9
              go_wp2
              go_roundw
              case rel => exact ⟨i + 1, _, _, by omega, by go_num, Lib.hid (by rw [HF1.out, HG1.out]; exact HT10.out), HB10⟩
              case measure => simp [intOf]; omega
            · have HXB : Hid (X.getD i false = false) := Lib.hid (by rw [List.getD_eq_getElem?_getD, List.getElem?_eq_none (by omega)]; rfl)
              rw [HXB.out, HGD.out] at HG1
              have hbz7 := Below.alloc (Below.refl w5.heap.size w5) (Nat.le_refl _) (.cells #[.bool false] 4)
              have HQ7 := Lib.hid (HQ5.out.below hbz7)
              have HCZ7 := Lib.hid (newOne w5 (.bool false) 4)
              have HB7 := Lib.hid (HB5.out.trans (hbz7.mono HB5.out.size))
              have HS7 : Hid (w4.heap.size ≤ (w5.alloc (.cells #[.bool false] 4)).heap.size) := Lib.hid HB7.out.size
              have q6 : decide ((i : Int) < (X.length : Int)) = false := decide_eq_false (by omega)
              clear hbz7 HQ5 HB5
              go_wp2_with (at_builtin; refine wpList_append_q _ rfl _ _ 45 rfl 4 j0 (.bool false) 1 Try.underlying45 HJ.out jz0 jz1 jz2 rfl w4.heap.size _ _ rfl HQ7.out HS7.out ⟨w5.heap.size, 0, none⟩ 1 (.bool false) rfl HCZ7.out (by simp [Value.oneCell']) (by rw [HLK.out]; unfold maxLen; omega) (by rw [HLK.out]; omega) ?_)
              intro v8 w8 hq8 hg8 ho8
              have hq8' : QRow w8 w4.heap.size 4 v8 ((row ++ [false]).map Value.bool) := by rw [List.map_append, HVL.out]; exact hq8
              obtain ⟨A8, c8, hv8, hr8, hn8⟩ := rdB_of_q hq8' (by rw [List.length_append, HRW.out]; simp; omega)
              rw [List.length_append, HRW.out] at hv8
              have hv8' : v8 = .slice A8 (k + 1) c8 := hv8
              subst hv8'
              have hb8 : Below w4.heap.size w4 w8 := HB7.out.grown hg8 HS7.out fun k hk => (HQ7.out.own k hk).1
              have hbz8 := Below.alloc (Below.refl w8.heap.size w8) (Nat.le_refl _) (.cells #[.slice A8 (k + 1) c8] 45)
              have HT9 := Lib.hid ((HT4.out.below hb8).below hbz8).sym
              have HC9 := Lib.hid (newOne w8 (.slice A8 (k + 1) c8) 45)
              have HR9 := Lib.hid ((hr8.below hbz8 (Nat.le_refl _)).more hbz8.size)
              have HN9 : Hid (∀ p, A8 = some p → 0 < (row ++ [false]).length → ¬ X2 u7 v4 p.block) := Lib.hid fun p hp h0 hx => by
                have h1 := hn8 p hp h0
                rcases hx with hx | hx
                · have := (HT4.out.2.1.own _ hx).2; omega
                · have := (HT4.out.1.own _ hx).2; omega
              have HB9 := Lib.hid ((HB4.out.trans (hb8.mono HB4.out.size)).trans (hbz8.mono (Nat.le_trans HB4.out.size hb8.size)))
              have HS9 : Hid (w2.heap.size ≤ (w8.alloc (.cells #[.slice A8 (k + 1) c8] 45)).heap.size) := Lib.hid HB9.out.size
              have HRL9 : Hid ((row ++ [false]).length = k + 1) := Lib.hid (by rw [List.length_append, HRW.out]; rfl)
              clear hq8 hg8 ho8 hq8' hv8 hr8 hn8 hb8 hbz8 HQ7 HS7 HCZ7 HB7
              go_wp2_with (at_builtin; refine wpList_append_q _ rfl _ _ 22 rfl 45 i0 (.slice none 0 0) 24 Try.underlying22 HI.out iz0 iz1 iz2 rfl w2.heap.size _ us rfl HT9.out.1 HS9.out ⟨w8.heap.size, 0, none⟩ 1 (.slice A8 (k + 1) c8) rfl HC9.out (by simp [Value.oneCell']) (by rw [HUL.out]; unfold maxLen; omega) (by rw [HUL.out]; omega) ?_)
              intro v10 w10 hq10 hg10 ho10
              rw [← HRL9.out] at hq10
              have HT10 := Lib.hid (HT9.out.app HR9.out HN9.out hq10 hg10 (by simpa using ho10)).sym
              have HB10 := Lib.hid (HB9.out.grown hg10 HS9.out fun k hk => (HT9.out.1.own k hk).1)
              clear hq10 hg10 ho10 HT9 HC9 HR9 HN9 HB9 HS9
              go_wp2
              go_roundw
              case rel => exact ⟨i + 1, _, _, by omega, by go_num, Lib.hid (by rw [HF1.out, HG1.out]; exact HT10.out), HB10⟩
              case measure => simp [intOf]; omega
      · obtain rfl : i = W.length := by omega
        have htr : (trnd W).take W.length = trnd W := List.take_of_length_le (by rw [trnd_length]; exact Nat.le_refl _)
        have hwi : (wideW W X).take W.length = wideW W X := List.take_of_length_le (by rw [wide_length]; exact Nat.le_refl _)
        rw [htr, hwi] at ht
        obtain ⟨At, ct, hvt, hrt⟩ := ht.out.rd (by rw [trnd_length]; exact m0) (by rw [trnd_length]; omega)
        obtain ⟨Aw, cw, hvw, hrw⟩ := ht.out.sym.rd (by rw [wide_length]; exact m0) (by rw [wide_length]; omega)
        subst hvt hvw
        have HRT := Lib.hid hrt
        have HRW := Lib.hid hrw
        have HB := Lib.hid (B2.out.trans (hb.out.mono B2.out.size))
        have HVT := Lib.hid (trnd_vw HV.out)
        clear htr hwi ht hrt hrw hb hi hlt B2 HI HJ
        go_wp2_with fail
        refine (lEven (cap := cap) (H.out.below HB.out (Nat.le_refl _)) HB.out.size).mono ?_
        rintro e w3 (⟨h1, _⟩ | ⟨m', n', a, Aa, ca, _, v', hev, rfl, ra, b3⟩)
        · exact absurd HK.out h1
        obtain ⟨rfl, rfl⟩ := vw_eq v' HV.out
        have HE := Lib.hid hev
        have RA := Lib.hid ra
        have B3 := Lib.hid (HB.out.trans (b3.mono HB.out.size))
        replace HRT := Lib.hid ((HRT.out.below b3 (Nat.le_refl _)).more b3.size)
        replace HRW := Lib.hid ((HRW.out.below b3 (Nat.le_refl _)).more b3.size)
        clear v' hev ra b3 HB
        go_wp2_with fail
        refine (lEven (cap := ct) HRT.out (Nat.le_refl _)).mono ?_
        rintro e w4 (⟨h1, _⟩ | ⟨m', n2, b, Ab, cb, _, v', hev, rfl, rb, b4⟩)
        · exact absurd (vw_chk HVT.out) h1
        obtain ⟨rfl, rfl⟩ := vw_eq v' HVT.out
        have HE2 := Lib.hid hev
        have RB := Lib.hid rb
        have B4 := Lib.hid (B3.out.trans (b4.mono B3.out.size))
        replace HRT := Lib.hid ((HRT.out.below b4 (Nat.le_refl _)).more b4.size)
        replace HRW := Lib.hid ((HRW.out.below b4 (Nat.le_refl _)).more b4.size)
        replace RA := Lib.hid ((RA.out.below b4 (Nat.le_refl _)).more b4.size)
        clear v' hev rb b4 B3
        have c5 := lCountsE (cap := cap) (cap' := ca) (H.out.below B4.out (Nat.le_refl _)) RA.out B4.out.size (Nat.le_refl _)
        rw [lkd_ok HV.out (even_fullB HV.out HE.out), cnt_ok HV.out (even_fullB HV.out HE.out)] at c5
        have C5 := Lib.hid c5
        clear c5
        go_wp2_with fail
        refine C5.out.mono ?_
        rintro e w5 ⟨A5, k5, rfl, r5, b5⟩
        have R5 := Lib.hid r5
        have B5 := Lib.hid (B4.out.trans (b5.mono B4.out.size))
        replace HRT := Lib.hid ((HRT.out.below b5 (Nat.le_refl _)).more b5.size)
        replace HRW := Lib.hid ((HRW.out.below b5 (Nat.le_refl _)).more b5.size)
        replace RB := Lib.hid ((RB.out.below b5 (Nat.le_refl _)).more b5.size)
        clear r5 b5 B4 C5 RA
        have c6 := lCountsE (cap := ct) (cap' := cb) HRT.out RB.out (Nat.le_refl _) (Nat.le_refl _)
        rw [lkd_ok HVT.out (even_fullB HVT.out HE2.out), cnt_ok HVT.out (even_fullB HVT.out HE2.out)] at c6
        have C6 := Lib.hid c6
        clear c6
        go_wp2_with fail
        refine C6.out.mono ?_
        rintro e w6 ⟨A6, k6, rfl, r6, b6⟩
        have R6 := Lib.hid r6
        have B6 := Lib.hid (B5.out.trans (b6.mono B5.out.size))
        replace HRW := Lib.hid ((HRW.out.below b6 (Nat.le_refl _)).more b6.size)
        replace R5 := Lib.hid ((R5.out.below b6 (Nat.le_refl _)).more b6.size)
        clear r6 b6 B5 C6 RB HRT
        have c7 := lMore (cap := k5) (cap' := k6) R5.out R6.out (Nat.le_refl _) (Nat.le_refl _)
        rw [moreV_ok HV.out, more_ok HV.out, order_zero HV.out HE.out.opt HE2.out.opt] at c7
        have C7 := Lib.hid c7
        clear c7
        go_wp2_with fail
        refine C7.out.mono ?_
        rintro e w7 ⟨rfl, b7⟩
        have B7 := Lib.hid (B6.out.trans (b7.mono B6.out.size))
        replace HRW := Lib.hid ((HRW.out.below b7 (Nat.le_refl _)).more b7.size)
        replace R5 := Lib.hid ((R5.out.below b7 (Nat.le_refl _)).more b7.size)
        clear b7 B6 C7 R6 HE2
        obtain ⟨b0, o0, row, A2, c2, rfl, hb0, hrow, hc0, hrd⟩ := (H.out.below B7.out (Nat.le_refl _)).at_ m0
        have hrl : row.length = n2 := HV.out.row row (List.mem_of_getElem? hrow)
        rw [hrl, Nat.add_zero] at hc0
        have HC0 : Hid (∀ u : World, Below w7.heap.size w7 u → u.cell? ⟨b0, o0, none⟩ = some (.slice A2 n2 c2)) := Lib.hid fun u hu => (cell_below hu (by have := B7.out.size; omega)).trans hc0
        clear hrow hrd hrl
        by_cases hn : n2 = 10
        · have q1 : ((n2 : Int) == 10) = true := by rw [hn]; rfl
          clear hn
          go_wp2
          go_ret
          exact ⟨rfl, B7.out⟩
        · have q1 : ((n2 : Int) == 10) = false := by simp; omega
          have hwv : VW W.length (n2 + 1) (wideW W X) := wide_vw HV.out (by omega)
          have HWV := Lib.hid hwv
          have HN := Lib.hid hn
          clear hn hwv
          go_wp2_with fail
          refine (lEven (cap := cw) HRW.out (Nat.le_refl _)).mono ?_
          rintro e w8 (⟨h1, _⟩ | ⟨m', n3, d, Ad, cd, _, v', hev, rfl, rd8, b8⟩)
          · exact absurd (vw_chk HWV.out) h1
          obtain ⟨rfl, rfl⟩ := vw_eq v' HWV.out
          have HE3 := Lib.hid hev
          have RD := Lib.hid rd8
          have B8 := Lib.hid (B7.out.trans (b8.mono B7.out.size))
          have HC8 : Hid (∀ u : World, Below w8.heap.size w8 u → u.cell? ⟨b0, o0, none⟩ = some (.slice A2 n2 c2)) := Lib.hid fun u hu => HC0.out u (b8.trans (hu.mono b8.size))
          replace HRW := Lib.hid ((HRW.out.below b8 (Nat.le_refl _)).more b8.size)
          replace R5 := Lib.hid ((R5.out.below b8 (Nat.le_refl _)).more b8.size)
          clear v' hev rd8 b8 B7 q1 hc0 HC0 hb0
          have c9 := lCountsE (cap := cw) (cap' := cd) HRW.out RD.out (Nat.le_refl _) (Nat.le_refl _)
          rw [lkd_ok HWV.out (even_fullB HWV.out HE3.out), cnt_ok HWV.out (even_fullB HWV.out HE3.out)] at c9
          have C9 := Lib.hid c9
          clear c9
          go_wp2_with fail
          refine C9.out.mono ?_
          rintro e w9 ⟨A9, k9, rfl, r9, b9⟩
          have R9 := Lib.hid r9
          have B9 := Lib.hid (B8.out.trans (b9.mono B8.out.size))
          have HC9 : Hid (∀ u : World, Below w9.heap.size w9 u → u.cell? ⟨b0, o0, none⟩ = some (.slice A2 n2 c2)) := Lib.hid fun u hu => HC8.out u (b9.trans (hu.mono b9.size))
          replace HRW := Lib.hid ((HRW.out.below b9 (Nat.le_refl _)).more b9.size)
          replace R5 := Lib.hid ((R5.out.below b9 (Nat.le_refl _)).more b9.size)
          clear r9 b9 B8 C9 RD HC8
          have c10 := lMore (cap := k9) (cap' := k5) R9.out R5.out (Nat.le_refl _) (Nat.le_refl _)
          rw [moreV_ok HV.out, more_ok HV.out] at c10
          have C10 := Lib.hid c10
          clear c10
          have HWA : Hid (∀ x, wishAny (wideW W X) n2 = x → cmpS (cnts W.length d) (cnts W.length a) = if x = true then 1 else 0) := Lib.hid fun x hx => by
            cases x
            · exact wide_none HV.out HE.out.opt HE3.out.opt hx
            · exact wide_some HV.out HE.out.opt HE3.out.opt hx
          generalize cmpS (cnts W.length d) (cnts W.length a) = cz at *
          go_wp2_with fail
          refine C10.out.mono ?_
          rintro e w10 ⟨rfl, b10⟩
          have B10 := Lib.hid (B9.out.trans (b10.mono B9.out.size))
          have HC10 : Hid (∀ u : World, Below w10.heap.size w10 u → u.cell? ⟨b0, o0, none⟩ = some (.slice A2 n2 c2)) := Lib.hid fun u hu => HC9.out u (b10.trans (hu.mono b10.size))
          replace HRW := Lib.hid ((HRW.out.below b10 (Nat.le_refl _)).more b10.size)
          clear b10 B9 C10 R9 R5 HC9
          go_wp2_with fail
          go_loopw [28, 29] (fun av iv wr => ∃ (i : Nat) (x : Bool), i ≤ W.length ∧ iv = .int .i64 i ∧ av = .bool x ∧ Hid (((List.range i).any fun j => wishB (wideW W X) j n2) = x) ∧ Hid (Below w10.heap.size w10 wr)) (fun _ iv _ => W.length - (intOf iv).toNat)
          case atStart => exact ⟨0, false, by omega, rfl, rfl, Lib.hid rfl, Lib.hid (Below.refl _ _)⟩
          case round =>
            obtain ⟨i, x, hi, rfl, rfl, hx, hb⟩ := hrel
            by_cases hlt : i < W.length
            · have HWL : Hid (wishB (wideW W X) i n2 = X.getD i false) := Lib.hid (wish_last HV.out hlt)
              cases x
              · obtain ⟨b7, o7, rw7, A7, c7, rfl, hb7, hrow, hc7, hrd⟩ := (HRW.out.below hb.out (Nat.le_refl _)).at_ (k := i) (by rw [wide_length]; exact hlt)
                have hwl : i < (wideW W X).length := by rw [wide_length]; exact hlt
                have hrl : rw7.length = n2 + 1 := HWV.out.row rw7 (List.mem_of_getElem? hrow)
                have hrw7 : rw7 = W.getD i [] ++ [X.getD i false] := by
                  rw [wide_get hlt] at hrow; exact (Option.some.inj hrow).symm
                rw [hrl] at hc7
                obtain ⟨b9, o9, y, rfl, hb9, hy, hc9⟩ := hrd.at_ (k := n2) (by omega)
                have HY : Hid (wishB (wideW W X) i n2 = y) := Lib.hid (by
                  rw [HWL.out]
                  have hl := getD_len HV.out hlt
                  rw [hrw7, List.getElem?_append_right (by omega), hl, Nat.sub_self] at hy
                  exact Option.some.inj hy)
                have hc0 := HC10.out wr hb.out
                have HX1 : Hid (((List.range (i + 1)).any fun j => wishB (wideW W X) j n2) = y) := Lib.hid (by rw [List.range_succ, List.any_append, hx.out]; simp [HY.out])
                clear hb7 hrow hrd hrl hrw7 hb9 hy HY HWL hx
                go_wp2_with fail
                go_quiet (fail)
                have HWD := Lib.hid (below_drewN hb.out nq)
                clear hc7 hc9 hc0 hb
                generalize wr.drewN nq = wd at *
                go_wp2
                go_roundw
                case rel => exact ⟨i + 1, y, by omega, by go_num, rfl, HX1, HWD⟩
                case measure => simp [intOf]; omega
              · have HX1 : Hid (((List.range (i + 1)).any fun j => wishB (wideW W X) j n2) = true) := Lib.hid (by rw [List.range_succ, List.any_append, hx.out]; rfl)
                clear HWL hx
                go_wp2_with fail
                go_quiet (fail)
                have HWD := Lib.hid (below_drewN hb.out nq)
                clear hb
                generalize wr.drewN nq = wd at *
                go_wp2
                go_roundw
                case rel => exact ⟨i + 1, true, by omega, by go_num, rfl, HX1, HWD⟩
                case measure => simp [intOf]; omega
            · obtain rfl : i = W.length := by omega
              have hwx : wishAny (wideW W X) n2 = x := by rw [wishAny, wide_length]; exact hx.out
              have hcz := HWA.out x hwx
              have HB := Lib.hid (B10.out.trans (hb.out.mono B10.out.size))
              clear hwx hx hb HWA
              cases x
              · rw [if_neg (by decide)] at hcz
                subst hcz
                go_wp2
                go_ret
                exact ⟨rfl, HB.out⟩
              · rw [if_pos rfl] at hcz
                subst hcz
                go_wp2
                go_ret
                exact ⟨rfl, HB.out⟩
  · have hne : (chk26 W != 0) = true := by simpa using hk
    clear hk
    generalize chk26 W = c at *
    go_enter Try.func7, Try.ntmps7
    go_wp2_with fail
    refine (alive26 w).mono ?_
    rintro e w1 ⟨rfl, b1⟩
    have B1 := Lib.hid b1
    clear b1
    go_wp2_with fail
    refine (HCK.out w1 B1.out).mono ?_
    rintro e w2 ⟨rfl, b2⟩
    have B2 := Lib.hid (B1.out.trans (b2.mono B1.out.size))
    clear b2
    go_wp2
    go_ret
    exact ⟨rfl, B2.out⟩
end Go.Proofs.Ytefbkdjppfofmaa

import Derived.Test.YtefbkdjppfofmaaW26B
import Derived.Test.YtefbkdjppfofmaaW26C
import Derived.Test.YtefbkdjppfofmaaW26e
import Derived.Test.YtefbkdjppfofmaaW26y
/-! Walks of chapter 26: the reference's Even. -/
namespace Go.Proofs.Ytefbkdjppfofmaa
open Go.RowKit Go.Deep
set_option linter.unusedVariables false
set_option maxRecDepth 100000

theorem OutAt.none_ {w0 : Nat} {w : World} {A : Option Addr} {T n : Nat} {out : List Int} (h : OutAt w0 w A T n out) : A = none → n = 0 := fun hA => by
  rcases Nat.eq_zero_or_pos n with h0 | h0
  · exact h0
  · obtain ⟨g, e, _⟩ := h h0
    rw [hA] at e; cases e
/-- behind next the best list lies as it lay -/
theorem best_keep {w w' : World} {A Ab : Option Addr} {L : List Int} (h : Rd w w.heap.size Ab L) (hs : w'.heap.size = w.heap.size) (hk : ∀ k, A ≠ some ⟨k, 0, none⟩ → w'.heap[k]? = w.heap[k]?) (hne : ∀ p, Ab = some p → A ≠ some ⟨p.block, 0, none⟩) : Rd w' w'.heap.size Ab L :=
  h.keepQ (by omega) fun p hp _ => hk p.block (hne p hp)
set_option maxHeartbeats 4000000 in
theorem lrEven {w : World} {B : Nat} {A : Option Addr} {W : List (List Bool)} {cap : Nat} (h : RdB2 w B A W) (hB : B ≤ w.heap.size) :
    Calls Try.prog 23 #[.slice A W.length cap] w (EvenRes W w) := by
  have C1 := lrCheck26 (cap := cap) h hB
  have hwl := h.len
  by_cases hk : chk26 W = 0
  · obtain ⟨m, n, v⟩ := chk26_zero hk
    have hm := v.len
    subst hm
    have m6 := v.m6
    have m0 := v.m0
    have n10 := v.n10
    have HK := Lib.hid hk
    rw [hk] at C1
    have H := Lib.hid h
    have HV := Lib.hid v
    obtain ⟨j0, hj0, jz0, jz1, jz2⟩ := info_parts infoInt'
    have HJ := Lib.hid hj0
    clear hk h v hj0
    go_enter Try.func23, Try.ntmps23
    go_wp2_with fail
    refine C1.mono ?_
    rintro e w1 ⟨rfl, hb1⟩
    have HB1 := Lib.hid hb1
    clear hb1 C1
    go_wp2_with fail
    go_loopw [4, 5] (fun av gv wr => ∃ (k : Nat), k ≤ n ∧ gv = .int .i64 k ∧ Hid (wr.ownsRow w.heap.size 3 1 av k (((List.range k).map (firstA W)).map (Value.int .i64))) ∧ Hid (Below w.heap.size w wr)) (fun _ gv _ => n - (intOf gv).toNat)
    case atStart => exact ⟨0, by omega, rfl, Lib.hid (World.ownsRow_nil _ _ _ _), HB1⟩
    case round =>
      obtain ⟨k, hk, rfl, ho, hb⟩ := hrel
      obtain ⟨b0, o0, row, A2, c2, rfl, hb0, hrow, hc0, hrd⟩ := (H.out.below hb.out hB).at_ m0
      have hrl : row.length = n := HV.out.row row (List.mem_of_getElem? hrow)
      rw [hrl, Nat.add_zero] at hc0
      clear hrow hrd hrl
      by_cases hlt : k < n
      · have CL := lrLeast (cap := cap) (H.out.below hb.out hB) HV.out hlt
        have HLS : Hid (((List.range (k + 1)).map (firstA W)).map (Value.int .i64) = ((List.range k).map (firstA W)).map (Value.int .i64) ++ [.int .i64 (firstA W k)]) := Lib.hid (by rw [List.range_succ, List.map_append, List.map_append]; rfl)
        have HOA := Lib.hid (ho.out.alloc (.cells #[.int .i64 (firstA W k)] 3))
        have HCZ := Lib.hid (newOne wr (.int .i64 (firstA W k)) 3)
        have HBZ := Lib.hid (Below.alloc hb.out hb.out.size (.cells #[.int .i64 (firstA W k)] 3))
        have HSZ : Hid (w.heap.size ≤ (wr.alloc (.cells #[.int .i64 (firstA W k)] 3)).heap.size) := Lib.hid HBZ.out.size
        have HOWN : Hid (∀ q, u4.ownBlock = some q → w.heap.size ≤ q) := Lib.hid fun q hq => (ho.out.lt q hq).1
        clear ho hb
        go_wp2_with fail
        refine CL.mono ?_
        rintro e w' ⟨rfl, rfl⟩
        generalize firstA W k = fa at *
        generalize hw3 : wr.alloc (.cells #[.int .i64 fa] 3) = w3 at *
        go_wp2_with (at_builtin; refine wpList_append_own _ rfl _ _ 23 rfl w.heap.size 3 j0 (.int .i64 0) 1 8 Try.underlying23 HJ.out jz0 jz1 jz2 rfl (by decide) _ k _ rfl HOA.out ⟨wr.heap.size, 0, none⟩ 1 1 [.int .i64 fa] rfl (by simp) HCZ.out (by simp [Value.oneCell']) (by unfold maxLen; omega) (by omega) HSZ.out ?_)
        intro v5 w5 hown5 hgr5 _
        have HO5 : Hid (w5.ownsRow w.heap.size 3 1 v5 (k + 1) (((List.range (k + 1)).map (firstA W)).map (Value.int .i64))) := Lib.hid (by rw [HLS.out, List.map_map]; exact hown5)
        have HB5 := Lib.hid (HBZ.out.grown hgr5 HSZ.out HOWN.out)
        clear hown5 hgr5 HOA HCZ HBZ HSZ HOWN hw3
        go_wp2
        go_roundw
        case rel => exact ⟨k + 1, by omega, by go_num, HO5, HB5⟩
        case measure => simp [intOf]; omega
      · obtain rfl : k = n := by omega
        have hll : (firstL W k).length = k := by simp [firstL]
        have hown : wr.ownsRow w.heap.size 3 1 u4 (firstL W k).length ((firstL W k).map (Value.int .i64)) := by rw [hll]; exact ho.out
        obtain ⟨A1, c1, rfl, hO1⟩ := out_of_row hown (Nat.le_refl _)
        rw [hll] at hO1 ⊢
        have HO1 := Lib.hid hO1
        have HB3 := hb
        have hff : FullA W W.length k (firstL W k) := first_full rfl
        have HBT : Hid (BestTo W W.length k (firstL W k) (firstL W k)) := Lib.hid (BestTo.start rfl)
        have hrd0 := hO1.rd hll n10 (fun x hx => by have := full_bd hff x hx; omega)
        have hal0 := Below.alloc (Below.refl wr.heap.size wr) (Nat.le_refl _) (.cells #[] 3)
        have hra := hrd0.below hal0 (Nat.le_refl _)
        have HRN := Lib.hid (OutAt.none_ hO1)
        have HRC := Lib.hid (rd_cells hra)
        have HE0 := Lib.hid (own_empty wr 3)
        have HAL0 := Lib.hid hal0
        have HS0 : Hid ((wr.alloc (.cells #[] 3)).heap.size = wr.heap.size + 1) := Lib.hid (by simp)
        have HMI : Hid (((firstL W k).map (Value.int .i64)).length = k * 1) := Lib.hid (by rw [List.length_map, hll]; omega)
        have HRD0 := Lib.hid hrd0
        have HLL := Lib.hid hll
        have HFF := Lib.hid hff
        clear ho hown hO1 hll hff hrd0 hal0 hra
        generalize hw4 : wr.alloc (.cells #[] 3) = w4 at *
        go_wp2_with (at_builtin; refine wpList_append_opt rfl _ _ 23 rfl wr.heap.size 3 j0 (.int .i64 0) 1 8 Try.underlying23 HJ.out jz0 jz1 jz2 rfl (by decide) _ 0 [] rfl HE0.out A1 k c1 ((firstL W k).map (Value.int .i64)) rfl HMI.out HRN.out HRC.out (ints_oneCell _ _) (by unfold maxLen; omega) (by omega) (by rw [HS0.out]; omega) ?_)
        intro v5 w5 hown5 hgr5 _
        have hown6 : w5.ownsRow wr.heap.size 3 1 v5 (firstL W k).length ((firstL W k).map (Value.int .i64)) := by rw [HLL.out]; exact hown5
        obtain ⟨A5, c5, rfl, hO5⟩ := out_of_row hown6 (Nat.le_refl _)
        rw [HLL.out] at hO5 ⊢
        have hb5 : Below wr.heap.size wr w5 := HAL0.out.grown hgr5 (by rw [HS0.out]; omega) (by intro k hk; simp [Value.ownBlock] at hk; omega)
        have HR5 : Hid (Rd w5 w5.heap.size A5 (firstL W k)) := Lib.hid (hO5.rd HLL.out n10 (fun x hx => by have := full_bd HFF.out x hx; omega))
        have HO5 : Hid (OutAt w.heap.size w5 A1 3 k (firstL W k)) := Lib.hid fun h0 => by
          obtain ⟨g, e, hg, hP⟩ := HO1.out h0
          exact ⟨g, e, hg, hP.below hb5 hP.lt⟩
        have HNE : Hid (∀ p, A5 = some p → 0 < k → A1 ≠ some ⟨p.block, 0, none⟩) := Lib.hid fun p hp h0 => by
          obtain ⟨g, e, hg, hP⟩ := HO1.out h0
          obtain ⟨g', e', hg', _⟩ := hO5 h0
          rw [e'] at hp
          cases hp
          rw [e]
          intro hc
          cases hc
          have hl : g' < wr.heap.size := hP.lt
          omega
        have HB5 := Lib.hid (HB3.out.trans (hb5.mono HB3.out.size))
        clear hown5 hown6 hgr5 hO5 hb5 HE0 HAL0 HS0 HRC hw4 HRN HMI HRD0 HO1 hb
        go_wp2_with fail
        go_loopg [6] (capK k - valK (firstL W k) k).toNat (fun gn bv wr => ∃ (a best : List Int) (Ab : Option Addr) (cb : Nat), bv = .slice Ab k cb ∧ gn = (capK k - valK a k).toNat ∧ Hid (BestTo W W.length k a best) ∧ Hid (OutAt w.heap.size wr A1 3 k a) ∧ Hid (Rd wr wr.heap.size Ab best) ∧ Hid (∀ p, Ab = some p → 0 < k → A1 ≠ some ⟨p.block, 0, none⟩) ∧ Hid (Below w.heap.size w wr))
        case atStart => exact ⟨firstL W k, firstL W k, A5, c5, rfl, rfl, HBT, HO5, HR5, HNE, HB5⟩
        case round =>
          clear HBT HO5 HR5 HNE HB5 HLL HFF HB3
          obtain ⟨a, best, Ab, cb, rfl, rfl, hbt, ho, hrb, hne, hb⟩ := hrel
          have CN := lrNext (cap := cap) (c1 := c1) (H.out.below hb.out hB) hB HV.out hbt.out.fa ho.out
          have HCN := Lib.hid CN
          clear CN
          cases hnx : nxtF W W.length a k with
          | none =>
            have HEV := Lib.hid (hbt.out.done rfl hnx)
            have hbl : best.length = k := hbt.out.fb.len
            have HBL := Lib.hid hbl
            have HNX := Lib.hid hnx
            clear hnx hbl
            go_wp2_with fail
            refine HCN.out.mono ?_
            rintro e w6 ⟨rfl, ho6, hb6, hk6, hs6⟩
            rw [HNX.out]
            have HR6 : Hid (Rd w6 w6.heap.size Ab best) := Lib.hid (by
              rcases Nat.eq_zero_or_pos k with h0 | h0
              · have : best = [] := List.eq_nil_of_length_eq_zero (by rw [HBL.out]; exact h0)
                rw [this]; exact Rd.nil _ _ _
              · exact best_keep hrb.out hs6 hk6 fun p hp => hne.out p hp h0)
            have HB6 := Lib.hid (hb.out.trans hb6)
            clear ho6 hb6 hk6 hs6 HCN
            go_wp2
            go_ret2
            exact .inr ⟨W.length, k, best, Ab, cb, HK.out, HV.out, HEV.out, by rw [HBL.out]; rfl, HR6.out, HB6.out⟩
          | some gi =>
            obtain ⟨g, i⟩ := gi
            have hfn := nx_full rfl hbt.out.fa hnx
            have HVL : Hid ((capK k - valK (setNx W a k g i) k).toNat < (capK k - valK a k).toNat) := Lib.hid (by
              have h1 := val_of_lt m6 hbt.out.fa hfn (nx_lt hnx)
              have h2 := val_cap m6 hfn (Nat.le_refl k)
              omega)
            have HNL : Hid (nxL W W.length k a = setNx W a k g i) := Lib.hid (by rw [nxL, hnx])
            have HFN := Lib.hid hfn
            have HNX := Lib.hid hnx
            have hln : (setNx W a k g i).length = k := hfn.len
            have HLN := Lib.hid hln
            have hbl : best.length = k := hbt.out.fb.len
            have HBL := Lib.hid hbl
            clear hnx hfn hln hbl
            go_wp2_with fail
            refine HCN.out.mono ?_
            rintro e w6 ⟨rfl, ho6, hb6, hk6, hs6⟩
            rw [HNX.out]
            rw [HNL.out] at ho6
            have HO6 := Lib.hid ho6
            have HR6 : Hid (Rd w6 w6.heap.size Ab best) := Lib.hid (by
              rcases Nat.eq_zero_or_pos k with h0 | h0
              · have : best = [] := List.eq_nil_of_length_eq_zero (by rw [HBL.out]; exact h0)
                rw [this]; exact Rd.nil _ _ _
              · exact best_keep hrb.out hs6 hk6 fun p hp => hne.out p hp h0)
            have HB6 := Lib.hid (hb.out.trans hb6)
            have hra6 : Rd w6 w6.heap.size A1 (setNx W a k g i) := ho6.rd HLN.out n10 (fun x hx => by have := full_bd HFN.out x hx; omega)
            have c7 := lrCounted (cap := c1) (n := W.length) hra6 (Nat.le_refl _) m6 (by rw [HLN.out]; exact n10) (full_bd HFN.out)
            rw [HLN.out] at c7
            have C7 := Lib.hid c7
            have HRA := Lib.hid hra6
            clear ho6 hb6 hk6 hs6 HCN hra6 c7 ho hrb hb
            go_wp2_with fail
            refine C7.out.mono ?_
            rintro e w7 ⟨rfl, hO7, hb7⟩
            have R7 : Hid (Rd w7 w7.heap.size (some ⟨w6.heap.size, 0, none⟩) (cnts W.length (setNx W a k g i))) := Lib.hid (cnt_rd HV.out HLN.out hO7)
            have HB7 := Lib.hid (HB6.out.trans (hb7.mono HB6.out.size))
            have HR7 := Lib.hid ((HR6.out.below hb7 (Nat.le_refl _)).more hb7.size)
            have HO7 : Hid (OutAt w.heap.size w7 A1 3 k (setNx W a k g i)) := Lib.hid fun h0 => by
              obtain ⟨g, e, hg, hP⟩ := HO6.out h0
              exact ⟨g, e, hg, hP.below hb7 hP.lt⟩
            have c8 := lrCounted (cap := cb) (n := W.length) HR7.out (Nat.le_refl _) m6 (by rw [HBL.out]; exact n10) (full_bd hbt.out.fb)
            rw [HBL.out] at c8
            have C8 := Lib.hid c8
            clear hO7 hb7 C7 c8 HO6 HR6 HRA
            go_wp2_with fail
            refine C8.out.mono ?_
            rintro e w8 ⟨rfl, hO8, hb8⟩
            have r8 : Rd w8 w8.heap.size (some ⟨w7.heap.size, 0, none⟩) (cnts W.length best) := cnt_rd HV.out HBL.out hO8
            have HB8 := Lib.hid (HB7.out.trans (hb8.mono HB7.out.size))
            have HR8 := Lib.hid ((HR7.out.below hb8 (Nat.le_refl _)).more hb8.size)
            have HO8 : Hid (OutAt w.heap.size w8 A1 3 k (setNx W a k g i)) := Lib.hid fun h0 => by
              obtain ⟨g, e, hg, hP⟩ := HO7.out h0
              exact ⟨g, e, hg, hP.below hb8 hP.lt⟩
            have c9 := lrCompared (cap := W.length) (cap' := W.length) (n := W.length) ((R7.out.below hb8 (Nat.le_refl _)).more hb8.size) r8 (Nat.le_refl _) (Nat.le_refl _) (cnts_length _ _) (cnts_length _ _) (by omega)
            have C9 := Lib.hid c9
            clear hO8 hb8 C8 c9 r8 R7 HO7 HR7
            go_wp2_with fail
            refine C9.out.mono ?_
            rintro e w9 ⟨rfl, hb9⟩
            have HB9 := Lib.hid (HB8.out.trans (hb9.mono HB8.out.size))
            have HR9 := Lib.hid ((HR8.out.below hb9 (Nat.le_refl _)).more hb9.size)
            have HO9 : Hid (OutAt w.heap.size w9 A1 3 k (setNx W a k g i)) := Lib.hid fun h0 => by
              obtain ⟨g, e, hg, hP⟩ := HO8.out h0
              exact ⟨g, e, hg, hP.below hb9 hP.lt⟩
            clear hb9 C9 HO8 HR8
            by_cases hgt : 0 < cmpS (cnts W.length (setNx W a k g i)) (cnts W.length best)
            · have HBT := Lib.hid (hbt.out.take rfl HNX.out hgt)
              have q1 : decide (0 < cmpS (cnts W.length (setNx W a k g i)) (cnts W.length best)) = true := decide_eq_true hgt
              have hrdA : Rd w9 w9.heap.size A1 (setNx W a k g i) := HO9.out.rd HLN.out n10 (fun x hx => by have := full_bd HFN.out x hx; omega)
              have hal0 := Below.alloc (Below.refl w9.heap.size w9) (Nat.le_refl _) (.cells #[] 3)
              have hra := hrdA.below hal0 (Nat.le_refl _)
              have HRN := Lib.hid (OutAt.none_ HO9.out)
              have HRC := Lib.hid (rd_cells hra)
              have HE0 := Lib.hid (own_empty w9 3)
              have HAL0 := Lib.hid hal0
              have HS0 : Hid ((w9.alloc (.cells #[] 3)).heap.size = w9.heap.size + 1) := Lib.hid (by simp)
              have HMI : Hid (((setNx W a k g i).map (Value.int .i64)).length = k * 1) := Lib.hid (by rw [List.length_map, HLN.out]; omega)
              clear hgt hbt hrdA hal0 hra HR9 hne
              generalize cmpS (cnts W.length (setNx W a k g i)) (cnts W.length best) = r at *
              generalize hw4 : w9.alloc (.cells #[] 3) = w10 at *
              go_wp2_with (at_builtin; refine wpList_append_opt rfl _ _ 23 rfl w9.heap.size 3 j0 (.int .i64 0) 1 8 Try.underlying23 HJ.out jz0 jz1 jz2 rfl (by decide) _ 0 [] rfl HE0.out A1 k c1 ((setNx W a k g i).map (Value.int .i64)) rfl HMI.out HRN.out HRC.out (ints_oneCell _ _) (by unfold maxLen; omega) (by omega) (by rw [HS0.out]; omega) ?_)
              intro vB wB hownB hgrB _
              have hownC : wB.ownsRow w9.heap.size 3 1 vB (setNx W a k g i).length ((setNx W a k g i).map (Value.int .i64)) := by rw [HLN.out]; exact hownB
              obtain ⟨AB, cB, rfl, hOB⟩ := out_of_row hownC (Nat.le_refl _)
              rw [HLN.out] at hOB ⊢
              have hbB : Below w9.heap.size w9 wB := HAL0.out.grown hgrB (by rw [HS0.out]; omega) (by intro k hk; simp [Value.ownBlock] at hk; omega)
              have HRB : Hid (Rd wB wB.heap.size AB (setNx W a k g i)) := Lib.hid (hOB.rd HLN.out n10 (fun x hx => by have := full_bd HFN.out x hx; omega))
              have HOB : Hid (OutAt w.heap.size wB A1 3 k (setNx W a k g i)) := Lib.hid fun h0 => by
                obtain ⟨g, e, hg, hP⟩ := HO9.out h0
                exact ⟨g, e, hg, hP.below hbB hP.lt⟩
              have HNB : Hid (∀ p, AB = some p → 0 < k → A1 ≠ some ⟨p.block, 0, none⟩) := Lib.hid fun p hp h0 => by
                obtain ⟨g, e, hg, hP⟩ := HO9.out h0
                obtain ⟨g', e', hg', _⟩ := hOB h0
                rw [e'] at hp
                cases hp
                rw [e]
                intro hc
                cases hc
                have hl : g' < w9.heap.size := hP.lt
                omega
              have HBB := Lib.hid (HB9.out.trans (hbB.mono HB9.out.size))
              clear hownB hownC hgrB hOB hbB HE0 HAL0 HS0 HRC hw4 HRN HMI HO9
              go_wp2
              go_roundg (capK k - valK (setNx W a k g i) k).toNat
              case measure => exact HVL.out
              case rel => exact ⟨setNx W a k g i, setNx W a k g i, AB, cB, rfl, rfl, HBT, HOB, HRB, HNB, HBB⟩
            · have HBT := Lib.hid (hbt.out.keep rfl HNX.out (by omega))
              have q1 : decide (0 < cmpS (cnts W.length (setNx W a k g i)) (cnts W.length best)) = false := decide_eq_false hgt
              clear hgt hbt
              generalize cmpS (cnts W.length (setNx W a k g i)) (cnts W.length best) = r at *
              go_wp2
              go_roundg (capK k - valK (setNx W a k g i) k).toNat
              case measure => exact HVL.out
              case rel => exact ⟨setNx W a k g i, best, Ab, cb, rfl, rfl, HBT, HO9, HR9, hne, HB9⟩
  · have hne : (chk26 W != 0) = true := by simpa using hk
    have HK := Lib.hid hk
    have C2 : Hid (∀ u : World, Below w.heap.size w u → Calls Try.prog 18 #[.slice A W.length cap] u fun e w' => e = .returned (.int .i64 (chk26 W)) ∧ Below u.heap.size u w') := Lib.hid fun u hu => lrCheck26 (cap := cap) (h.below hu hB) (Nat.le_trans hB hu.size)
    clear hk h
    generalize hcc : chk26 W = c at *
    have HCC := Lib.hid hcc
    clear hcc
    go_enter Try.func23, Try.ntmps23
    go_wp2_with fail
    refine C1.mono ?_
    rintro e w1 ⟨rfl, hb⟩
    have HB := Lib.hid hb
    clear hb C1
    go_wp2_with fail
    refine (C2.out w1 HB.out).mono ?_
    rintro e w2 ⟨rfl, hb⟩
    have HB2 := Lib.hid (HB.out.trans (hb.mono HB.out.size))
    clear hb C2
    go_wp2
    go_ret2
    exact .inl ⟨by rw [HCC.out]; exact HK.out, by rw [HCC.out]; rfl, HB2.out⟩
end Go.Proofs.Ytefbkdjppfofmaa

import Derived.BigQuiet
import Derived.Test.YtkoipecnmijfoaaS31d
/-! The walk of the statement's free33: holidays at which the values of a parcel are bids. -/
namespace Go.Proofs.Ytkoipecnmijfoaa
open Go.RowKit Go.Deep
set_option linter.unusedVariables false
set_option maxRecDepth 100000

theorem rowT_rd {w : World} {base T n : Nat} {v : Value} {L : List Int} (h : w.ownsRow base T 1 v n (L.map (Value.int .i64))) (hn : L.length = n) (hi : ∀ x ∈ L, I64 x) (hl : L.length * 8 ≤ 140737488351232) : ∃ A c, v = .slice A n c ∧ Rd w w.heap.size A L := by
  subst hn
  by_cases h0 : 0 < L.length
  · obtain ⟨g, cap, rfl, _, hP⟩ := ownP_of_row h h0
    exact ⟨_, _, rfl, hP.rd hi hl hP.lt⟩
  · have hL : L = [] := List.eq_nil_of_length_eq_zero (by omega)
    subst hL
    rcases h.2 with ⟨rfl, _⟩ | ⟨g, cap, cur, rfl, _⟩
    · exact ⟨_, _, rfl, Rd.nil _ _ _⟩
    · exact ⟨_, _, rfl, Rd.nil _ _ _⟩
/-- the bids of the first i agents for parcel k -/
def bidL (V : List (List Int)) (k i : Nat) : List Int := (List.range i).map fun j => valV V j k
theorem bidL_length (V : List (List Int)) (k i : Nat) : (bidL V k i).length = i := by simp [bidL]
theorem bidL_succ (V : List (List Int)) (k i : Nat) : bidL V k (i + 1) = bidL V k i ++ [valV V i k] := by simp [bidL, List.range_succ]
theorem bidL_at {V : List (List Int)} {k i j : Nat} (h : j < i) : (bidL V k i)[j]? = some (valV V j k) := by simp [bidL, h]
set_option maxHeartbeats 4000000 in
theorem freed {w : World} {C m : Nat} {A : Option Addr} {V : List (List Int)} {cap : Nat} (v : VS V m) (h : Rd2 w C A V) (hC : C ≤ w.heap.size) (h12 : m ≤ 12) :
    Calls Try.prog 9 #[.slice A V.length cap] w fun e w' => e = .returned (.bool true) ∧ Below w.heap.size w w' := by
  have n0 := v.n0
  have n6 := v.n6
  have H := Lib.hid fun (u : World) (hu : Below w.heap.size w u) => h.below hu hC
  have HV := Lib.hid v
  have hmk := fun u => run_make_row' (P := Try.prog) 23 3 (.int .i64 0) 8 Try.underlying23 infoInt' rfl .i64 .i64 V.length (by omega) (by omega) u
  have hown := Own.made w 3 V.length
  have hb2 := Below.alloc (B := w.heap.size) (Below.refl _ w) (Nat.le_refl _) (.cells (madeCells #[Value.int .i64 0] V.length) 3)
  have HRD0 := Lib.hid (hown.rd (B := (w.alloc (.cells (madeCells #[Value.int .i64 0] V.length) 3)).heap.size) (fun z hz => by rw [List.mem_replicate] at hz; unfold I64; omega) (by simp; omega) hown.lt)
  have HB2 := Lib.hid hb2
  have HCR0 := Lib.hid (Cred.start V.length)
  obtain ⟨i0, hi, hz0, hz1, hz2⟩ := info_parts infoInt'
  have HI := Lib.hid hi
  clear h v hi hown hb2
  go_enter Try.func9, Try.ntmps9
  go_wp2_with fail
  generalize w.alloc (.cells (madeCells #[Value.int .i64 0] V.length) 3) = w2 at *
  clear hmk
  go_loopw [3, 4] (fun cv kv wr => ∃ (k : Nat) (Cd : List Int) (A' : Option Addr) (c : Nat), k ≤ m ∧ kv = .int .i64 k ∧ cv = .slice A' V.length c ∧ Hid (Cred Cd V.length k) ∧ Hid (Rd wr wr.heap.size A' Cd) ∧ Hid (Below w.heap.size w wr)) (fun _ kv _ => m - (intOf kv).toNat)
  case atStart => exact ⟨0, _, _, _, by omega, rfl, rfl, HCR0, HRD0, HB2⟩
  case round =>
    clear HCR0 HRD0 HB2
    obtain ⟨k, Cd, A1, c1, hk, rfl, rfl, hcr, hrc, hb⟩ := hrel
    obtain ⟨b0, o0, x0, A0, c0, eA, hb0, hx0, hc0, hr0⟩ := (H.out _ hb.out).at_ (show 0 < V.length by omega)
    rw [Nat.add_zero] at hc0
    have hm0 : x0.length = m := HV.out.row _ (List.mem_of_getElem? hx0)
    rw [hm0] at hc0
    subst eA
    clear hx0 hr0 hm0 hb0
    by_cases hkm : k < m
    · go_wp2
      clear hc0
      go_loopw [5, 6] (fun bv iv wi => ∃ i : Nat, i ≤ V.length ∧ iv = .int .i64 i ∧ Hid (wi.ownsRow wr.heap.size 3 1 bv i ((bidL V k i).map (Value.int .i64))) ∧ Hid (Below wr.heap.size wr wi)) (fun _ iv _ => V.length - (intOf iv).toNat)
      case atStart => exact ⟨0, by omega, rfl, Lib.hid (own_row_nil _ _ _), Lib.hid (Below.refl _ _)⟩
      case round =>
        rename World => wi
        obtain ⟨i, hi, rfl, hrow, hbi⟩ := hrel
        have HBI := Lib.hid (hb.out.trans (hbi.out.mono hb.out.size))
        by_cases hin : i < V.length
        · obtain ⟨b1, o1, x, A2, c2, e1, hb1, hx, hcx, hrx⟩ := (H.out _ HBI.out).at_ hin
          cases e1
          have hxm : x.length = m := HV.out.row _ (List.mem_of_getElem? hx)
          obtain ⟨b3, o3, yv, rfl, hb3, hyv, hy64, hcv⟩ := hrx.at_ (k := k) (by omega)
          have hval : valV V i k = yv := by
            unfold valV
            rw [List.getD_eq_getElem?_getD (l := V), hx, Option.getD_some, List.getD_eq_getElem?_getD, hyv]; rfl
          rw [hxm] at hcx
          have hnx : (bidL V k i).map (Value.int .i64) ++ [.int .i64 yv] = (bidL V k (i + 1)).map (Value.int .i64) := by rw [bidL_succ, hval]; simp
          have HNX := Lib.hid hnx
          have hal := Below.alloc (B := wi.heap.size) (Below.refl _ wi) (Nat.le_refl _) (.cells #[.int .i64 yv] 3)
          have hoz := Lib.hid (hrow.out.alloc (.cells #[.int .i64 yv] 3))
          have hcz := Lib.hid (new_one wi (.int .i64 yv) 3)
          have hbz := Lib.hid (hbi.out.trans (hal.mono hbi.out.size))
          have hsz : Hid ((wi.alloc (.cells #[.int .i64 yv] 3)).heap.size = wi.heap.size + 1) := Lib.hid (by simp)
          have hsw := hbi.out.size
          clear hal hrow hnx hx hrx hyv hy64 hval hxm hb1 hb3 hbi
          generalize hgw : wi.alloc (.cells #[.int .i64 yv] 3) = wa at *
          go_wp2_with (at_builtin; refine wpList_append_own_at _ rfl _ _ 23 rfl wr.heap.size 3 i0 (.int .i64 0) 1 8 Try.underlying23 HI.out hz0 hz1 hz2 rfl (by decide) _ i _ rfl hoz.out ⟨wi.heap.size, 0, none⟩ 1 1 [.int .i64 yv] rfl (by simp) hcz.out (by simp [Value.oneCell']) (by unfold maxLen; omega) (by omega) (by rw [hsz.out]; omega) ?_; intro v' w5 hown hgrow _ hat; have hb5 := Lib.hid (hbz.out.grown hgrow (by rw [hsz.out]; omega) (fun q hq => (hoz.out.lt q hq).1)); rw [HNX.out] at hown; have ho5 := Lib.hid hown; clear hown hgrow hat hgw)
          go_roundw
          case rel => exact ⟨i + 1, by omega, by go_num, ho5, hb5⟩
          case measure => simp [intOf]; omega
        · obtain rfl : i = V.length := by omega
          have hbb : ∀ x ∈ bidL V k V.length, 0 ≤ x ∧ x ≤ 1000 := fun x hx => by
            simp only [bidL, List.mem_map] at hx
            obtain ⟨j, _, rfl⟩ := hx
            exact valV_bd HV.out j k
          obtain ⟨A3, c3, rfl, hr3⟩ := rowT_rd hrow.out (bidL_length V k V.length) (fun x hx => by have := hbb x hx; unfold I64; omega) (by rw [bidL_length]; omega)
          obtain ⟨g1, ⟨xf, g2, g3, g4⟩, g5, g6, _⟩ := cred_next hcr.out n0 n6 (by omega) (bidL_length V k V.length) hbb
          have CG := hGive (cap := c1) (cap' := c3) (hrc.out.below hbi.out (Nat.le_refl _)) hr3 hbi.out.size (Nat.le_refl _) 1
          rw [g1, g2, g5, hcr.out.len, bidL_length] at CG
          have HCG := Lib.hid CG
          have HR3 := Lib.hid hr3
          have HG4 := Lib.hid fun j hj => g4 j hj
          have HBL : Hid (∀ j, j < V.length → (bidL V k V.length)[j]? = some ((bidL V k V.length).getD j 0)) := Lib.hid fun j hj => by
            rw [List.getD_eq_getElem?_getD, bidL_at hj]; rfl
          have HCR := Lib.hid g6
          clear hrow CG hr3 g1 g2 g4 g5 g6 hbb hcr hrc hbi hb
          generalize bidL V k V.length = O at *
          generalize aftL Cd O 1 = Q at *
          have hQl := HCR.out.len
          go_wp2_with fail
          refine HCG.out.mono ?_
          rintro e w4 ⟨A4, c4, A5, c5, rfl, hr4, hr5, hb4⟩
          rw [hQl]
          have HR4 := Lib.hid hr4
          have HR5 := Lib.hid hr5
          have HB4 := Lib.hid (HBI.out.trans (hb4.mono HBI.out.size))
          have HRB := Lib.hid (HR3.out.below hb4 (Nat.le_refl _))
          have HSW := Lib.hid hb4.size
          clear hb4 hr4 hr5 HCG HR3 HBI
          obtain ⟨b4, o4, y4, rfl, _, hy4, _, hc4⟩ := HR4.out.at_ (k := 0) (by simp)
          obtain rfl : (xf : Int) = y4 := by simpa using hy4
          rw [Nat.add_zero] at hc4
          have d1 : decide ((xf : Int) < 0) = false := decide_eq_false (by omega)
          have d2 : decide ((V.length : Int) ≤ (xf : Int)) = false := decide_eq_false (by omega)
          have d2' : decide (V.length ≤ xf) = false := decide_eq_false (by omega)
          have hxi : (xf : Int) < (V.length : Int) := by omega
          have HQB : Hid (∀ x ∈ Q, -13013 ≤ x ∧ x ≤ 13013) := Lib.hid fun x hx => by have := HCR.out.bd x hx; omega
          clear hy4
          go_wp2
          go_loopw [10, 11] (fun sv jv wf => ∃ j : Nat, j ≤ V.length ∧ jv = .int .i64 j ∧ sv = .int .i64 (sumI (Q.take j)) ∧ Hid (Below w4.heap.size w4 wf)) (fun _ jv _ => V.length - (intOf jv).toNat)
          case atStart => exact ⟨0, by omega, rfl, rfl, Lib.hid (Below.refl _ _)⟩
          case round =>
            rename World => wf
            obtain ⟨j, hj, rfl, rfl, hbf⟩ := hrel
            have hRQ := HR5.out.below hbf.out (Nat.le_refl _)
            have hRO := HRB.out.below hbf.out HSW.out
            have hRF := HR4.out.below hbf.out (Nat.le_refl _)
            by_cases hjn : j < V.length
            · obtain ⟨b5, o5, q, rfl, _, hq, _, hcq⟩ := hRQ.at_ (k := j) (by rw [hQl]; exact hjn)
              have hol : j < O.length := (List.getElem?_eq_some_iff.1 (HBL.out j hjn)).1
              obtain ⟨b6, o6, oj, rfl, _, hoj, _, hcoj⟩ := hRO.at_ hol
              have hxl : xf < O.length := (List.getElem?_eq_some_iff.1 (HBL.out xf g3)).1
              obtain ⟨b7, o7, ox, e7, _, hox, _, hcox⟩ := hRO.at_ hxl
              cases e7
              obtain ⟨b8, o8, y8, e8, _, hy8, _, hc8⟩ := hRF.at_ (k := 0) (by simp)
              cases e8
              obtain rfl : (xf : Int) = y8 := by simpa using hy8
              rw [Nat.add_zero] at hc8
              have hle : oj ≤ ox := by
                have h1 := HG4.out j hjn
                have e1 := HBL.out j hjn
                have e2 := HBL.out xf g3
                rw [hoj] at e1
                rw [hox] at e2
                cases e1
                cases e2
                exact h1
              have d9 : decide (ox < oj) = false := decide_eq_false (by omega)
              have HNX := Lib.hid (sumI_take hq)
              have hbd := sumI_bd (c := 13013) (by omega) (L := Q.take j) (fun x hx => HQB.out x (List.mem_of_mem_take hx))
              have hqb := HQB.out q (List.mem_of_getElem? hq)
              have htl : (Q.take j).length ≤ 6 := by rw [List.length_take]; omega
              have e5 : IntKind.i64.wrap (sumI (Q.take j) + q) = sumI (Q.take j) + q := IntWalk.i64_in _ (by omega)
              have hjQ : j < Q.length := by rw [hQl]; exact hjn
              clear hRQ hRO hRF hq hoj hox hy8 hle hbd htl hqb hc4
              generalize sumI (Q.take j) = z at *
              clear hQl
              go_wp2
              go_quiet (fail)
              have HBD := Lib.hid (below_drewN hbf.out nq)
              clear hbf hcq hcoj hcox hc8
              go_wp2
              go_roundw
              case rel => exact ⟨j + 1, by omega, by go_num, by rw [HNX.out], HBD⟩
              case measure => simp [intOf]; omega
            · have hz : sumI (Q.take j) = 0 := by rw [List.take_of_length_le (by omega)]; exact HCR.out.sum
              have HRQ := Lib.hid (hRQ.more hbf.out.size)
              have HBF := Lib.hid (HB4.out.trans (hbf.out.mono HB4.out.size))
              rw [hz]
              clear hRQ hRO hRF hz hc4 hQl
              go_wp2
              go_roundw
              case rel => exact ⟨k + 1, Q, A5, c5, by omega, by go_num, rfl, HCR, HRQ, HBF⟩
              case measure => simp [intOf]; omega
    · go_wp2
      go_ret
      exact ⟨rfl, hb.out⟩
end Go.Proofs.Ytkoipecnmijfoaa

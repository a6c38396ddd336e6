import Derived.Test.YtjgobpejifhphaaW35A
import Derived.Test.YtjgobpejifhphaaS35g
/-! Walks of chapter 35: the law of holidays. (Printed by gen35ho.py.) -/
namespace Go.Proofs.Ytjgobpejifhphaa
open Go.RowKit Go.Deep
set_option linter.unusedVariables false
set_option maxRecDepth 100000

set_option maxHeartbeats 8000000 in
theorem lieHolidays {w : World} {A A' : Option Addr} {L O : List Int} {cap cap' : Nat} (h : Rd w w.heap.size A L) (h' : Rd w w.heap.size A' O) (m a wv other : Int) (_h1 : I64 m) (_h2 : I64 a) (_h3 : I64 wv) (_h4 : I64 other) :
    Calls Try.prog 9 #[.slice A L.length cap, .slice A' O.length cap', .int .i64 m, .int .i64 a, .int .i64 wv, .int .i64 other] w fun e w' => e = .returned (.bool true) ∧ Below w.heap.size w w' := by
  have H := Lib.hid fun (u : World) (hu : Below w.heap.size w u) => h.below hu (Nat.le_refl _)
  have H' := Lib.hid fun (u : World) (hu : Below w.heap.size w u) => h'.below hu (Nat.le_refl _)
  have l1 := h.len
  have l2 := h'.len
  clear h h'
  go_enter Try.func9, Try.ntmps9
  go_wp2_with fail
  refine alive35.mono ?_
  rintro e w1 ⟨rfl, hb1⟩
  have HB1 := Lib.hid hb1
  clear hb1
  have CC : Hid (Calls Try.prog 32 #[.slice A L.length cap] w1 fun e w' => e = .returned (.int .i64 (hck L)) ∧ w1 = w') := Lib.hid (hrCheck (H.out _ HB1.out))
  have CB : Hid (Calls Try.prog 33 #[.slice A' O.length cap', .int .i64 L.length] w1 fun e w' => e = .returned (.bool (bidsOk O L.length)) ∧ w1 = w') := Lib.hid (rBids (H'.out _ HB1.out) L.length)
  by_cases hck0 : hck L = 0
  case neg =>
    have q : (hck L != 0) = true := by rw [bne_iff_ne]; exact hck0
    generalize hck L = x at *
    clear hck0
    go_wp2_with first | (go_at_call 32; refine CC.out.mono ?_; rintro e w' ⟨rfl, rfl⟩) | (go_at_call 33; refine CB.out.mono ?_; rintro e w' ⟨rfl, rfl⟩)
    go_ret
    exact ⟨rfl, HB1.out⟩
  rw [hck0] at CC
  have HCK := Lib.hid hck0
  clear hck0
  cases hbk : bidsOk O L.length
  case false =>
    rw [hbk] at CB
    clear hbk
    go_wp2_with first | (go_at_call 32; refine CC.out.mono ?_; rintro e w' ⟨rfl, rfl⟩) | (go_at_call 33; refine CB.out.mono ?_; rintro e w' ⟨rfl, rfl⟩)
    go_ret
    exact ⟨rfl, HB1.out⟩
  have HLK := Lib.hid (hlk_of HCK.out hbk)
  rw [hbk] at CB
  clear hbk
  by_cases z0 : m < 0
  · have q0 : decide (m < 0) = true := decide_eq_true z0
    go_wp2_with first | (go_at_call 32; refine CC.out.mono ?_; rintro e w' ⟨rfl, rfl⟩) | (go_at_call 33; refine CB.out.mono ?_; rintro e w' ⟨rfl, rfl⟩)
    go_ret
    exact ⟨rfl, HB1.out⟩
  have q0 : decide (m < 0) = false := decide_eq_false z0
  by_cases z1 : (L.length : Int) < m
  · have q1 : decide ((L.length : Int) < m) = true := decide_eq_true z1
    go_wp2_with first | (go_at_call 32; refine CC.out.mono ?_; rintro e w' ⟨rfl, rfl⟩) | (go_at_call 33; refine CB.out.mono ?_; rintro e w' ⟨rfl, rfl⟩)
    go_ret
    exact ⟨rfl, HB1.out⟩
  have q1 : decide ((L.length : Int) < m) = false := decide_eq_false z1
  by_cases z2 : a < 0
  · have q2 : decide (a < 0) = true := decide_eq_true z2
    go_wp2_with first | (go_at_call 32; refine CC.out.mono ?_; rintro e w' ⟨rfl, rfl⟩) | (go_at_call 33; refine CB.out.mono ?_; rintro e w' ⟨rfl, rfl⟩)
    go_ret
    exact ⟨rfl, HB1.out⟩
  have q2 : decide (a < 0) = false := decide_eq_false z2
  by_cases z3 : (L.length : Int) ≤ a
  · have q3 : decide ((L.length : Int) ≤ a) = true := decide_eq_true z3
    go_wp2_with first | (go_at_call 32; refine CC.out.mono ?_; rintro e w' ⟨rfl, rfl⟩) | (go_at_call 33; refine CB.out.mono ?_; rintro e w' ⟨rfl, rfl⟩)
    go_ret
    exact ⟨rfl, HB1.out⟩
  have q3 : decide ((L.length : Int) ≤ a) = false := decide_eq_false z3
  by_cases z4 : wv < 0
  · have q4 : decide (wv < 0) = true := decide_eq_true z4
    go_wp2_with first | (go_at_call 32; refine CC.out.mono ?_; rintro e w' ⟨rfl, rfl⟩) | (go_at_call 33; refine CB.out.mono ?_; rintro e w' ⟨rfl, rfl⟩)
    go_ret
    exact ⟨rfl, HB1.out⟩
  have q4 : decide (wv < 0) = false := decide_eq_false z4
  by_cases z5 : 1000000 < wv
  · have q5 : decide (1000000 < wv) = true := decide_eq_true z5
    go_wp2_with first | (go_at_call 32; refine CC.out.mono ?_; rintro e w' ⟨rfl, rfl⟩) | (go_at_call 33; refine CB.out.mono ?_; rintro e w' ⟨rfl, rfl⟩)
    go_ret
    exact ⟨rfl, HB1.out⟩
  have q5 : decide (1000000 < wv) = false := decide_eq_false z5
  by_cases z6 : other < 0
  · have q6 : decide (other < 0) = true := decide_eq_true z6
    go_wp2_with first | (go_at_call 32; refine CC.out.mono ?_; rintro e w' ⟨rfl, rfl⟩) | (go_at_call 33; refine CB.out.mono ?_; rintro e w' ⟨rfl, rfl⟩)
    go_ret
    exact ⟨rfl, HB1.out⟩
  have q6 : decide (other < 0) = false := decide_eq_false z6
  by_cases z7 : 60 < other
  · have q7 : decide (60 < other) = true := decide_eq_true z7
    go_wp2_with first | (go_at_call 32; refine CC.out.mono ?_; rintro e w' ⟨rfl, rfl⟩) | (go_at_call 33; refine CB.out.mono ?_; rintro e w' ⟨rfl, rfl⟩)
    go_ret
    exact ⟨rfl, HB1.out⟩
  have q7 : decide (60 < other) = false := decide_eq_false z7
  obtain ⟨m, rfl⟩ : ∃ m' : Nat, m = (m' : Int) := ⟨m.toNat, by omega⟩
  obtain ⟨a, rfl⟩ : ∃ a' : Nat, a = (a' : Int) := ⟨a.toNat, by omega⟩
  have hm : m ≤ L.length := by omega
  have ha : a < L.length := by omega
  have n1 : decide (L.length < m) = false := decide_eq_false (by omega)
  have n2 : decide (L.length ≤ a) = false := decide_eq_false (by omega)
  have hV := hlk_ok HLK.out
  have hlen := hV.len
  have hn := hV.v.one
  have hn2 := hV.v.twelve
  have HV := Lib.hid hV
  have HLEN := Lib.hid hlen
  have LAW := Lib.hid (bid_law (wv := wv) HLK.out hm ha (by omega) (by omega))
  have CBID := Lib.hid (pBid (cap := cap) (cap' := cap') (H.out _ HB1.out) HB1.out.size (H'.out _ HB1.out) HB1.out.size (m : Int) (a : Int) wv 60)
  have CE := Lib.hid fun (u : World) (hu : Below w.heap.size w u) => earned (cap := cap) (cap' := cap') (w := u) (wv := wv) (b := other) ((H.out u hu).more hu.size) ((H'.out u hu).more hu.size) HLK.out hm ha (by omega) (by omega) (by omega) (by omega)
  clear hV hlen _h1 _h2 _h3 _h4
  go_wp2_with first | (go_at_call 32; refine CC.out.mono ?_; rintro e w' ⟨rfl, rfl⟩) | (go_at_call 33; refine CB.out.mono ?_; rintro e w' ⟨rfl, rfl⟩)
  refine CBID.out.mono ?_
  rintro e w2 ⟨rfl, hb2⟩
  have HB2 := Lib.hid (HB1.out.trans (hb2.mono HB1.out.size))
  clear hb2 CBID
  rcases LAW.out with ⟨e6, hno⟩ | ⟨e0, b, g, hR, b0, b1, hok, hg, hbest⟩
  · have hnot := hno other (by omega) (by omega)
    rw [e6]
    rw [hnot] at CE
    clear LAW e6 hno hnot
    generalize (bdR L O m a wv 60).1 = r1 at *
    generalize (bdR L O m a wv 60).2 = r2 at *
    generalize earnV L O m a wv other = ev at *
    go_wp2_with fail
    refine (CE.out _ HB2.out).mono ?_
    rintro e w3 ⟨rfl, hb3⟩
    have HB3 := Lib.hid (HB2.out.trans (hb3.mono HB2.out.size))
    clear hb3
    go_wp2
    go_ret
    exact ⟨rfl, HB3.out⟩
  · rw [e0, hR]
    have EV : Hid (bidOk L O m a other = true → earnV L O m a wv other ≤ g ∧ (earnV L O m a wv other = g → b ≤ other)) := Lib.hid fun h => by
      rw [earnV, if_pos h]; exact hbest other (by omega) (by omega) h
    have GQ := Lib.hid hg
    clear LAW e0 hR hbest hg
    have hE : gvE L (O.set a b) m = 0 := by rw [bidOk] at hok; exact of_decide_eq_true hok
    have HE := Lib.hid hE
    clear hok hE
    generalize bidOk L O m a other = may at *
    generalize earnV L O m a wv other = ev at *
    go_wp2_with fail
    refine (CE.out _ HB2.out).mono ?_
    rintro e w3 ⟨rfl, hb3⟩
    have HB3 := Lib.hid (HB2.out.trans (hb3.mono HB2.out.size))
    clear hb3 CE HB1 HB2 CC CB
    have hs2 := HB3.out.size
    have hO0 : 0 < O.length := by have := HLEN.out; omega
    obtain ⟨i0, hi0, hz0, hz1, hz2⟩ := info_parts infoInt'
    have HI := Lib.hid hi0
    have hown0 := own_empty w3 3
    have hal := Below.alloc (B := w3.heap.size) (Below.refl _ w3) (Nat.le_refl _) (.cells #[] 3)
    have hsz : (w3.alloc (.cells #[] 3)).heap.size = w3.heap.size + 1 := by simp
    obtain ⟨bb, off, rfl, hbb, hcells⟩ := (H'.out _ (HB3.out.trans (hal.mono hs2))).2.2 hO0
    have HO := Lib.hid hown0
    have HCE := Lib.hid (cells_ints hcells)
    have HAL := Lib.hid hal
    have HSZ := Lib.hid hsz
    clear hcells hal hsz hown0 hi0
    generalize hw4 : w3.alloc (.cells #[] 3) = w4 at *
    have HW4 := Lib.hid hw4
    clear hw4
    have hx4 : w3.alloc (.cells #[] 3) = w4 := HW4.out
    go_upto_region 8 with fail
    go_wp2_with (at_builtin; refine wpList_append_own _ rfl _ _ 22 rfl w3.heap.size 3 i0 (.int .i64 0) 1 8 Try.underlying22 HI.out hz0 hz1 hz2 rfl (by decide) _ 0 [] rfl HO.out ⟨bb, off, none⟩ O.length cap' (O.map (Value.int .i64)) rfl (by simp) HCE.out (ints_oneCell _ _) (by unfold maxLen; omega) (by omega) (by rw [HSZ.out]; omega) ?_)
    intro v' w5 hown5 hgrow _
    have hb5 : Below w3.heap.size w3 w5 := HAL.out.grown hgrow (by rw [HSZ.out]; omega) (by intro k hk; simp [Value.ownBlock] at hk; omega)
    obtain ⟨g1, c8, hv5, hg1, hP1⟩ := ownP_of_row hown5 (by omega)
    rw [hv5]
    obtain ⟨y, hy⟩ : ∃ y, O[a]? = some y := ⟨O[a]'(by have := HLEN.out; omega), by simp⟩
    have hc1 := hP1.cell hy
    have hf1 := hP1.frozen a
    have HX1 := Lib.hid (hP1.store a b)
    have HB6 := Lib.hid ((HB3.out.trans (hb5.mono hs2)).setCell (p := ⟨g1, a, none⟩) (by show w.heap.size ≤ g1; omega) (.int .i64 b))
    have p1 : decide (b < 0) = false := decide_eq_false (by omega)
    have p2 : decide (60 < b) = false := decide_eq_false (by omega)
    have haO : (a : Int) < (O.length : Int) := by have := HLEN.out; omega
    clear hown5 hgrow hx4 hv5 HW4 HAL HCE HSZ hb5 hP1 HO hg1 hs2 hy
    go_wp2_with fail
    generalize w5.setCell ⟨g1, a, none⟩ (.int .i64 b) = w6 at *
    clear hc1 hf1
    obtain ⟨Q, hQ⟩ : ∃ Q, Q = O.set a b := ⟨_, rfl⟩
    have hQl : O.length = Q.length := by rw [hQ, List.length_set]
    have hV2 : VB L Q := by rw [hQ]; exact hlk_ok (hlk_with HLK.out b0 (by omega))
    have hG : Hid (bidG L O m a wv b = after L Q m a - L.getD a 0 + if place L Q a < m then wv else 0) := Lib.hid (by rw [hQ]; rfl)
    rw [← hQ] at HE HX1
    rw [hQl]
    have HV2 := Lib.hid hV2
    have hrd := HX1.out.rd (fun x hx => by have := hV2.bd x hx; unfold I64; omega) (by have := HLEN.out; omega) HX1.out.lt
    have CG := hGive (cap := cap) (cap' := c8) (H.out _ HB6.out) hrd HB6.out.size (Nat.le_refl _) (m : Int)
    have hF : gvF L Q m = freeL L Q m := by rw [gvF, if_pos HE.out, Int.toNat_natCast]
    have hA : gvA L Q m = aftL L Q m := by rw [gvA, if_pos HE.out, Int.toNat_natCast]
    rw [HE.out, hF, hA] at CG
    have hmQ : m ≤ Q.length := by have := HLEN.out; omega
    have hab : a < Q.length := by have := HLEN.out; omega
    have HQL := Lib.hid hQl
    have hpb := prOf_bd (C := L) (B := Q) (m := m) hV2.bd (by omega) (by omega)
    have hqr := gQR (C := L) (B := Q) (m := m) hn hn2 hm hpb.1 hpb.2
    have hpd := fun i => paid_bd (C := L) (B := Q) (m := m) (i := i) HV.out.v.bd hpb.1 hpb.2
    have hyb := after_bd (hpd a) hqr.2.2.1 hqr.2.2.2.1
    have hfl := freeL_length (C := L) hmQ
    have hal : (aftL L Q m).length = L.length := (aftL_length L Q m).trans (by have := HLEN.out; omega)
    have HCG := Lib.hid CG
    have HFL := Lib.hid hfl
    have HAL := Lib.hid hal
    clear CG hF hA hrd hV2 hQ hQl hpb hqr hpd HX1 hfl hal
    refine HCG.out.mono ?_
    rintro e w7 ⟨A2, c2, A3, c3, rfl, r2, r3, hb7⟩
    rw [HFL.out, HAL.out]
    obtain ⟨ub, uoff, u, rfl, _, hu, hui, cu⟩ := (H.out _ (HB6.out.trans (hb7.mono HB6.out.size))).at_ ha
    obtain ⟨yb, yoff, y, rfl, _, hy, hyi, cy⟩ := r3.at_ (k := a) (by rw [HAL.out]; exact ha)
    have hyv : y = after L Q m a := by
      have h2 : (aftL L Q m)[a]? = some (after L Q m a) := by simp [aftL, hab]
      rw [h2] at hy
      simpa using hy.symm
    have hub := HV.out.v.bd u (List.mem_of_getElem? hu)
    rw [← hyv] at hyb
    have hstart : Hid (y - u + wv * (((freeL L Q m).drop 0).countP (fun z => decide (z = (a : Int))) : Nat) = g) := Lib.hid (by
      rw [List.drop_zero, freeL_count hab, GQ.out, hG.out, getD_of hu, hyv]
      by_cases hp : place L Q a < m
      · rw [if_pos hp, if_pos hp]; simp
      · rw [if_neg hp, if_neg hp]; simp)
    have HB7 := Lib.hid (HB6.out.trans (hb7.mono HB6.out.size))
    have R2 := Lib.hid r2
    clear hu hui hy hyi hyv r2 r3 hb7 HCG hG
    have e1 : IntKind.i64.wrap (y - u) = y - u := IntWalk.i64_in _ (by omega)
    go_wp2
    go_quiet (fail)
    have HB8 : Hid (Below w.heap.size w (w7.drewN nq)) := Lib.hid (below_drewN HB7.out _)
    have R4 : Hid (Rd (w7.drewN nq) (w7.drewN nq).heap.size A2 (freeL L Q m)) := Lib.hid R2.out
    clear HB7 R2 e1 cu cy
    generalize w7.drewN nq = w8 at *
    go_wp2
    go_loop [23, 24] (fun t i => ∃ (k : Nat) (gv : Int), k ≤ m ∧ -16000000 ≤ gv ∧ gv ≤ 15000000 + 1000000 * (k : Int) ∧ i = .int .i64 k ∧ t = .int .i64 gv
      ∧ Hid (gv + wv * (((freeL L Q m).drop k).countP (fun z => decide (z = (a : Int))) : Nat) = g)) (fun _ i => m - (intOf i).toNat)
    case atStart => exact ⟨0, y - u, by omega, by omega, by omega, rfl, rfl, hstart⟩
    case round =>
      obtain ⟨k, gv, hk, hg0, hg1, rfl, rfl, hr⟩ := hrel
      by_cases hlt : k < m
      · obtain ⟨fb, foff, f, rfl, _, hf, hfi, cf⟩ := R4.out.at_ (k := k) (by have := HFL.out; omega)
        have hst := Lib.hid (earn_step hf hr.out)
        clear hf hfi hr
        by_cases e : f = (a : Int)
        · rw [if_pos e] at hst
          go_wp2
          go_round
          case rel => exact ⟨k + 1, gv + wv, by omega, by omega, by omega, by go_num, rfl, hst⟩
          case measure => simp [intOf]; omega
        · rw [if_neg e, Int.add_zero] at hst
          go_wp2
          go_round
          case rel => exact ⟨k + 1, gv, by omega, by omega, by omega, by go_num, rfl, hst⟩
          case measure => simp [intOf]; omega
      · have hr' := hr.out
        rw [drop_end (by have := HFL.out; omega)] at hr'
        obtain rfl : gv = g := by rw [← hr']; simp
        clear hr hr' GQ hstart
        have s1 : (gv == gv) = true := beq_self_eq_true gv
        cases may
        · clear EV
          go_wp2
          go_ret
          exact ⟨rfl, HB8.out⟩
        · obtain ⟨t1, t2⟩ := EV.out rfl
          clear EV
          by_cases hlt2 : ev < gv
          · have s2 : decide (ev < gv) = true := decide_eq_true hlt2
            clear t1 t2 hlt2
            go_wp2
            go_ret
            exact ⟨rfl, HB8.out⟩
          · obtain rfl : ev = gv := by omega
            have s2 : decide (ev < ev) = false := decide_eq_false hlt2
            have s3 : decide (b ≤ other) = true := decide_eq_true (t2 rfl)
            clear t1 t2 hlt2
            go_wp2
            go_ret
            exact ⟨rfl, HB8.out⟩
end Go.Proofs.Ytjgobpejifhphaa

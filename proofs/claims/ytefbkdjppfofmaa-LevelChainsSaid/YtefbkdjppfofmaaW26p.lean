import Derived.Test.YtefbkdjppfofmaaW26j
import Derived.Test.YtefbkdjppfofmaaW26n
/-! Walks of chapter 26: the reference's chains. -/
namespace Go.Proofs.Ytefbkdjppfofmaa
open Go.RowKit Go.Deep
set_option linter.unusedVariables false
set_option maxRecDepth 100000

/-- blocks in which no list of a row in the making lies -/
def RX (base : Nat) (v : Value) (k : Nat) : Prop := k < base ∨ v.ownBlock = some k
theorem VRowsX.app {w w' : World} {base : Nat} {v v' : Value} {vs : List Value} {F : List (List Int)} (h : VRowsX w (RX base v) vs F) (hg : w.grownBy w' v.ownBlock)
    (ho : v'.ownBlock = v.ownBlock ∨ ∃ g, v'.ownBlock = some g ∧ w.heap.size ≤ g) : VRowsX w' (RX base v') vs F :=
  h.keep hg.size (fun k h1 h2 => hg.block k h1 (fun e => h2 (.inr e.symm))) fun k h1 h2 => by
    rintro (h | h)
    · exact h2 (.inl h)
    · rcases ho with ho | ⟨g, ho, hg⟩
      · rw [ho] at h; exact h2 (.inr h)
      · rw [ho] at h; cases h; omega
theorem RX.new {w : World} {base T g : Nat} {v : Value} {vs : List Value} (h : QRow w base T v vs) (hb : base ≤ w.heap.size) (hg : w.heap.size ≤ g) : ¬ RX base v g := by
  rintro (e | e)
  · omega
  · have := (h.own g e).2; omega
theorem rd2_of_q {w : World} {base T : Nat} {X : Nat → Prop} {v : Value} {vs : List Value} {F : List (List Int)} (hq : QRow w base T v vs) (hv : VRowsX w X vs F) (hpos : ∀ L ∈ F, 0 < L.length) (hl : F.length * 24 ≤ 140737488351232) :
    ∃ A c, v = .slice A F.length c ∧ Rd2 w w.heap.size A F := by
  rcases hq with ⟨rfl, A, rfl, hA⟩ | ⟨g, off, cap, cur, rfl, hb, hh, h1, h2, h3, h4⟩
  · have : F = [] := List.eq_nil_of_length_eq_zero hv.1.symm
    subst this
    exact ⟨A, 0, rfl, RdOf.nil _ _ _⟩
  · refine ⟨some ⟨g, off, none⟩, cap, by rw [hv.1], hl, fun hn => ⟨g, off, rfl, heap_lt hh, fun i L hi => ?_⟩⟩
    obtain ⟨b, o, c, g1, g2, _⟩ := hv.2 i L hi (hpos L (List.mem_of_getElem? hi))
    refine ⟨_, c, ?_, g2⟩
    rw [Nat.mul_one, cell_of_row w g _ cur T (0, 0) hh]
    exact h4 i _ g1
/-- rows in new blocks -/
def RowsRes26 (w : World) (F : List (List Int)) (e : Ending) (w' : World) : Prop :=
  ∃ A c, e = .returned (.slice A F.length c) ∧ Rd2 w' w'.heap.size A F ∧ Below w.heap.size w w'
theorem lvl_pos {m n : Nat} {link : Nat → Nat → Bool} : ∀ L ∈ (lvl m (extL m link) n).map NL, 0 < L.length := by
  intro L hL
  rw [List.mem_map] at hL
  obtain ⟨l, hl, rfl⟩ := hL
  rw [NL_length, (chain_ok hl).len]; omega

set_option maxHeartbeats 4000000 in
/-- the chains of one agent -/
theorem lrChains1 {w : World} {A A' : Option Addr} {W : List (List Bool)} {cap cap' m na : Nat} {link : Nat → Nat → Bool} (hm : W.length = m) (hm6 : m ≤ 6) :
    Calls Try.prog 33 #[.slice A W.length cap, .slice A' na cap', .int .i64 1] w (RowsRes26 w ((lvl m (extL m link) 0).map NL)) := by
  obtain ⟨i0, hi0, hz0, hz1, hz2⟩ := info_parts infoSl26
  have HI := Lib.hid hi0
  have HP := Lib.hid (lvl_pos (m := m) (n := 0) (link := link))
  rw [lvl] at HP ⊢
  subst hm
  clear hi0
  go_enter Try.func33, Try.ntmps33
  go_wp2_with fail
  go_loopw [7, 8] (fun ov iv wr => ∃ (k : Nat) (vs : List Value), k ≤ W.length ∧ iv = .int .i64 k ∧ Hid (QRow wr w.heap.size 23 ov vs) ∧ Hid (VRowsX wr (RX w.heap.size ov) vs (((List.range k).map fun i => [i]).map NL)) ∧ Hid (Below w.heap.size w wr)) (fun _ iv _ => W.length - (intOf iv).toNat)
  case atStart => exact ⟨0, [], by omega, rfl, Lib.hid (QRow.nil _ _ _), Lib.hid (VRowsX.nil _ _), Lib.hid (Below.refl _ _)⟩
  case round =>
    obtain ⟨k, vs, hk, rfl, hq, hv, hbw⟩ := hrel
    by_cases hlt : k < W.length
    · have hbz := Below.alloc (Below.refl wr.heap.size wr) (Nat.le_refl _) (.cells #[.int .i64 (k : Int)] 3)
      have hvl : vs.length = k := by have := hv.out.1; simpa using this
      have hsz : w.heap.size ≤ wr.heap.size := hbw.out.size
      have hv1 := (hv.out.below hbz).snoc (new_rd (w := wr) (T := 3) (x := (k : Int)) (by unfold I64; omega)) (c := 1) (RX.new hq.out hsz (Nat.le_refl _))
      have hq1 := hq.out.below hbz
      have hb1 := hbw.out.trans (hbz.mono hsz)
      have hs1 : (wr.alloc (.cells #[.int .i64 (k : Int)] 3)).heap.size = wr.heap.size + 1 := by simp
      have hbz2 := Below.alloc (Below.refl (wr.alloc (.cells #[.int .i64 (k : Int)] 3)).heap.size (wr.alloc (.cells #[.int .i64 (k : Int)] 3))) (Nat.le_refl _) (.cells #[.slice (some ⟨wr.heap.size, 0, none⟩) 1 1] 23)
      have HQ2 := Lib.hid (hq1.below hbz2)
      have HV2 := Lib.hid (hv1.below hbz2)
      have HB2 := Lib.hid (hb1.trans (hbz2.mono (by omega)))
      have HCZ := Lib.hid (newOne (wr.alloc (.cells #[.int .i64 (k : Int)] 3)) (.slice (some ⟨wr.heap.size, 0, none⟩) 1 1) 23)
      rw [hs1] at HCZ
      have HS2 : Hid (w.heap.size ≤ ((wr.alloc (.cells #[.int .i64 (k : Int)] 3)).alloc (.cells #[.slice (some ⟨wr.heap.size, 0, none⟩) 1 1] 23)).heap.size) := Lib.hid HB2.out.size
      clear hbz hv1 hq1 hb1 hbz2 hq hv hs1 hsz
      generalize hw2 : (wr.alloc (.cells #[.int .i64 (k : Int)] 3)).alloc (.cells #[.slice (some ⟨wr.heap.size, 0, none⟩) 1 1] 23) = w3 at *
      go_wp2_with (at_builtin; refine wpList_append_q _ rfl _ _ 52 rfl 23 i0 (.slice none 0 0) 24 Try.underlying52 HI.out hz0 hz1 hz2 rfl w.heap.size _ vs rfl HQ2.out HS2.out ⟨wr.heap.size + 1, 0, none⟩ 1 (.slice (some ⟨wr.heap.size, 0, none⟩) 1 1) rfl HCZ.out (by simp [Value.oneCell']) (by unfold maxLen; omega) (by omega) ?_)
      intro v4 w4 hq4 hg4 ho4
      have HV4 := Lib.hid (HV2.out.app hg4 ho4)
      have HQ4 := Lib.hid hq4
      have HB4 := Lib.hid (HB2.out.trans ((Below.refl w.heap.size w3).grown hg4 HS2.out fun k hk => (HQ2.out.own k hk).1))
      clear hq4 hg4 ho4
      go_wp2
      go_roundw
      case rel => exact ⟨k + 1, _, by omega, by go_num, HQ4, Lib.hid (by rw [ones_snoc, List.map_append]; exact HV4.out), HB4⟩
      case measure => simp [intOf]; omega
    · obtain rfl : k = W.length := by omega
      obtain ⟨A9, c9, hv9, hr9⟩ := rd2_of_q hq.out hv.out HP.out (by simp; omega)
      subst hv9
      have HR := Lib.hid hr9
      clear hr9 hq hv HP
      generalize hF : ((List.range W.length).map fun i => [i]).map NL = F at *
      go_wp2
      go_ret
      subst hF
      exact ⟨A9, c9, rfl, HR.out, hbw.out⟩

set_option maxHeartbeats 4000000 in
/-- the chains of one agent more -/
theorem lrChains2 {w : World} {B C : Nat} {A A' : Option Addr} {W : List (List Bool)} {a : List Int} {cap cap' m n : Nat} (hW : RdB2 w B A W) (ha : Rd w C A' a) (hB : B ≤ w.heap.size) (hC : C ≤ w.heap.size) (v : VW m n W) (hn : a.length = n) {p : Nat} (hp : p ≤ 6)
    (ih : Calls Try.prog 33 #[.slice A W.length cap, .slice A' a.length cap', .int .i64 ((p : Int) + 1)] w (RowsRes26 w ((lvl m (extL m (linkA W a)) p).map NL))) :
    Calls Try.prog 33 #[.slice A W.length cap, .slice A' a.length cap', .int .i64 ((p : Int) + 2)] w (RowsRes26 w ((lvl m (extL m (linkA W a)) (p + 1)).map NL)) := by
  have hm := v.len
  subst hm
  have hm6 := v.m6
  have n10 := v.n10
  have hwl := hW.len
  have hal := ha.len
  have HW := Lib.hid hW
  have HA := Lib.hid ha
  have HV := Lib.hid v
  have HN := Lib.hid hn
  have HL : Hid (∀ p q, q < W.length → ∀ u : World, Below w.heap.size w u → Calls Try.prog 57 #[.slice A W.length cap, .slice A' a.length cap', .int .i64 (p : Nat), .int .i64 (q : Nat)] u fun e w' => e = .returned (.bool (linkA W a p q)) ∧ u = w') :=
    Lib.hid fun p q hq u hu => lrLinked (cap := cap) (cap' := cap') (HW.out.below hu hB) (HA.out.below hu hC) HV.out HN.out hq
  have HP := Lib.hid (lvl_pos (m := W.length) (n := p + 1) (link := linkA W a))
  have HLL := Lib.hid (lvl_len6 (m := W.length) (link := linkA W a) hm6 p)
  have HLL1 := Lib.hid (lvl_len6 (m := W.length) (link := linkA W a) hm6 (p + 1))
  have HCK : Hid (∀ l ∈ lvl W.length (extL W.length (linkA W a)) p, ChainOk W.length p l) := Lib.hid fun l hl => chain_ok hl
  have HSU : Hid (lvl W.length (extL W.length (linkA W a)) (p + 1) = (lvl W.length (extL W.length (linkA W a)) p).flatMap (extL W.length (linkA W a))) := Lib.hid rfl
  have hone : ((p : Int) + 2 == 1) = false := by simp; omega
  obtain ⟨i0, hi0, hz0, hz1, hz2⟩ := info_parts infoSl26
  obtain ⟨j0, hj0, jz0, jz1, jz2⟩ := info_parts infoInt'
  have HI := Lib.hid hi0
  have HJ := Lib.hid hj0
  have HIH := Lib.hid ih
  clear hi0 hj0 ih hW ha v hn
  generalize linkA W a = link at *
  generalize hLV : lvl W.length (extL W.length link) (p + 1) = LV at *
  have HLV := Lib.hid hLV
  clear hLV
  generalize lvl W.length (extL W.length link) p = LP at *
  go_enter Try.func33, Try.ntmps33
  go_wp2_with fail
  rw [show (p : Int) + 2 - 1 = (p : Int) + 1 by omega]
  refine HIH.out.mono ?_
  rintro e w1 ⟨A9, c9, rfl, hr9, hb1⟩
  have HR9 := Lib.hid hr9
  have HB1 := Lib.hid hb1
  have hmp : (LP.map NL).length = LP.length := by simp
  rw [hmp]
  clear HIH hr9 hb1 hmp
  go_wp2_with fail
  go_loopw [7, 10] (fun ov iv wr => ∃ (i : Nat) (vs : List Value), i ≤ LP.length ∧ iv = .int .i64 i ∧ Hid (QRow wr w1.heap.size 23 ov vs) ∧ Hid (VRowsX wr (RX w1.heap.size ov) vs (((LP.take i).flatMap (extL W.length link)).map NL)) ∧ Hid (Below w1.heap.size w1 wr)) (fun _ iv _ => LP.length - (intOf iv).toNat)
  case atStart => exact ⟨0, [], by omega, rfl, Lib.hid (QRow.nil _ _ _), Lib.hid (VRowsX.nil _ _), Lib.hid (Below.refl _ _)⟩
  case round =>
    obtain ⟨i, vs, hi, rfl, hq, hv, hbw⟩ := hrel
    have hLP := HLL.out
    by_cases hlt : i < LP.length
    · obtain ⟨b9, o9, x, A1, c1, rfl, hb9, hx, hc9, hrd9⟩ := HR9.out.at_ (k := i) (by simpa using hlt)
      obtain ⟨l, hl, hxl⟩ : ∃ l, LP[i]? = some l ∧ NL l = x := by
        rw [List.getElem?_map] at hx
        cases h : LP[i]? with
        | none => rw [h] at hx; cases hx
        | some l => rw [h] at hx; exact ⟨l, rfl, by simpa using hx⟩
      subst hxl
      have hck := HCK.out l (List.mem_of_getElem? hl)
      have hN : (NL l).length = p + 1 := by rw [NL_length, hck.len]
      have hlt0 : 0 < l.length := by rw [hck.len]; omega
      obtain ⟨la, ela⟩ : ∃ x, l.getLastD 0 = x := ⟨_, rfl⟩
      have lam : la < W.length := hck.lt la (ela ▸ mem_last hlt0)
      have hat1 := NL_at (last_at hlt0)
      rw [hck.len, Nat.add_sub_cancel, ela] at hat1
      rw [hN] at hc9
      obtain ⟨b2, o2, rfl, hb2, hcells⟩ := hrd9.2.2 (by omega)
      have HRD9 := Lib.hid hrd9
      have HC9 := Lib.hid hc9
      have HAT1 := Lib.hid hat1
      have HN1 := Lib.hid hN
      have HCKL := Lib.hid hck
      have HELA := Lib.hid ela
      have HTK : Hid ((LP.take (i + 1)).flatMap (extL W.length link) = (LP.take i).flatMap (extL W.length link) ++ extL W.length link l) := Lib.hid (by
        rw [List.take_add_one, hl, List.flatMap_append]; simp)
      have hF0 : ((LP.take i).flatMap (extL W.length link)).length ≤ 279936 := by
        have h3 : ((LP.take i).flatMap (extL W.length link)) <+: LP.flatMap (extL W.length link) := by
          refine ⟨(LP.drop i).flatMap (extL W.length link), ?_⟩
          rw [← List.flatMap_append, List.take_append_drop]
        have h4 := h3.length_le
        have h5 := HLL1.out
        rw [HSU.out] at h5
        omega
      have HF0 := Lib.hid hF0
      clear hck hN hlt0 ela hat1 hx hc9 hrd9 hl hcells hF0
      generalize hFP : (LP.take i).flatMap (extL W.length link) = FP at *
      clear hFP
      go_wp2_with fail
      obtain ⟨wo, hwo⟩ : ∃ wo : World, wo = wr := ⟨_, rfl⟩
      go_loopw [7, 11] (fun ov iv wr => ∃ (k : Nat) (vs : List Value), k ≤ W.length ∧ iv = .int .i64 k ∧ Hid (QRow wr w1.heap.size 23 ov vs) ∧ Hid (VRowsX wr (RX w1.heap.size ov) vs ((FP ++ extTo link l k).map NL)) ∧ Hid (Below w1.heap.size w1 wr)) (fun _ iv _ => W.length - (intOf iv).toNat)
      case atStart => exact ⟨0, vs, by omega, rfl, hq, Lib.hid (by rw [extTo_zero, List.append_nil]; exact hv.out), hbw⟩
      case round =>
        clear hq hv hbw hwo
        obtain ⟨k, vs, hk, rfl, hq, hv, hbw⟩ := hrel
        by_cases hkt : k < W.length
        · have hcw : wr.cell? ⟨b9, o9 + i, none⟩ = some (.slice (some ⟨b2, o2, none⟩) (p + 1) c1) := (cell_below hbw.out hb9).trans HC9.out
          have hrd := HRD9.out.below hbw.out (Nat.le_refl _)
          have hlac : wr.cell? ⟨b2, o2 + p, none⟩ = some (.int .i64 (la : Int)) := by
            obtain ⟨b', o', e', _, hcells⟩ := hrd.2.2 (by have := HN1.out; omega)
            cases e'
            exact hcells p _ HAT1.out
          have hvl : vs.length ≤ 279942 := by
            have h1 := hv.out.1
            have h2 := extTo_len (link := link) (l := l) (j := k) (by omega)
            have h3 := HF0.out
            rw [List.length_map, List.length_append] at h1
            omega
          have CC := lrHas (cap := c1) hrd (k : Int)
          rw [HN1.out, NL_any] at CC
          have CL := HL.out la k hkt wr (HB1.out.trans (hbw.out.mono HB1.out.size))
          have HRD := Lib.hid hrd
          have HVL := Lib.hid hvl
          clear hrd hvl
          by_cases hpush : l.contains k = false ∧ link la k = true
          · obtain ⟨h1, h2⟩ := hpush
            have HS : Hid (extTo link l (k + 1) = extTo link l k ++ [l ++ [k]]) := Lib.hid (extTo_yes h1 (by rw [HELA.out]; exact h2))
            rw [h1] at CC
            rw [h2] at CL
            have hlj : ∀ x ∈ l ++ [k], x < 100 := fun x hx => by
              rcases List.mem_append.1 hx with hx | hx
              · have := HCKL.out.lt x hx; omega
              · simp at hx; omega
            have HI64 := Lib.hid (NL_i64 hlj)
            have hNl : (NL (l ++ [k])).length = p + 2 := by rw [NL_snoc, List.length_append, HN1.out]; rfl
            have HNL := Lib.hid hNl
            have hal0 := Below.alloc (Below.refl wr.heap.size wr) (Nat.le_refl _) (.cells #[] 3)
            obtain ⟨b', o', e', _, hce⟩ := (HRD.out.below hal0 (by have := hbw.out.size; omega)).2.2 (by have := HN1.out; omega)
            cases e'
            have HCE := Lib.hid (cells_ints hce)
            have HO0 := Lib.hid (own_empty wr 3)
            have HAL0 := Lib.hid hal0
            have HS0 : Hid ((wr.alloc (.cells #[] 3)).heap.size = wr.heap.size + 1) := Lib.hid (by simp)
            have hcw1 : (wr.alloc (.cells #[] 3)).cell? ⟨b9, o9 + i, none⟩ = some (.slice (some ⟨b2, o2, none⟩) (p + 1) c1) := (cell_below hal0 (by have := hbw.out.size; omega)).trans hcw
            have HMI : Hid (((NL l).map (Value.int .i64)).length = (p + 1) * 1) := Lib.hid (by rw [List.length_map, HN1.out]; omega)
            clear h1 h2 hlj hNl hce hal0
            go_wp2_with fail
            refine CC.mono ?_
            rintro e w' ⟨rfl, rfl⟩
            go_wp2_with fail
            refine CL.mono ?_
            rintro e w' ⟨rfl, rfl⟩
            clear hcw hlac
            generalize hw4 : wr.alloc (.cells #[] 3) = w4 at *
            go_wp2_with (at_builtin; refine wpList_append_own _ rfl _ _ 23 rfl wr.heap.size 3 j0 (.int .i64 0) 1 8 Try.underlying23 HJ.out jz0 jz1 jz2 rfl (by decide) _ 0 [] rfl HO0.out ⟨b2, o2, none⟩ (p + 1) c1 ((NL l).map (Value.int .i64)) rfl HMI.out HCE.out (ints_oneCell _ _) (by unfold maxLen; omega) (by omega) (by rw [HS0.out]; omega) ?_)
            intro v5 w5 hown5 hgr5 _
            have hown5' : w5.ownsRow wr.heap.size 3 1 v5 (p + 1) ((NL l).map (Value.int .i64)) := hown5
            have hb5 : Below wr.heap.size wr w5 := HAL0.out.grown hgr5 (by rw [HS0.out]; omega) (by intro q hq; simp [Value.ownBlock] at hq; omega)
            have HO6 := Lib.hid (hown5'.alloc (.cells #[.int .i64 (k : Int)] 3))
            have HCZ6 := Lib.hid (newOne w5 (.int .i64 (k : Int)) 3)
            have HB6 := Lib.hid (Below.alloc hb5 hb5.size (.cells #[.int .i64 (k : Int)] 3))
            have HS6 : Hid ((w5.alloc (.cells #[.int .i64 (k : Int)] 3)).heap.size = w5.heap.size + 1) := Lib.hid (by simp)
            have HS56 : Hid (wr.heap.size ≤ w5.heap.size) := Lib.hid hb5.size
            have HOB5 : Hid (∀ q, v5.ownBlock = some q → wr.heap.size ≤ q) := Lib.hid fun q hq => (hown5'.lt q hq).1
            clear hown5 hgr5 hown5' hb5 hcw1 HCE HO0 HAL0 HS0 hw4
            generalize hw6 : w5.alloc (.cells #[.int .i64 (k : Int)] 3) = w6 at *
            go_wp2_with (at_builtin; refine wpList_append_own _ rfl _ _ 23 rfl wr.heap.size 3 j0 (.int .i64 0) 1 8 Try.underlying23 HJ.out jz0 jz1 jz2 rfl (by decide) _ (p + 1) _ rfl HO6.out ⟨w5.heap.size, 0, none⟩ 1 1 [.int .i64 (k : Int)] rfl (by simp) HCZ6.out (by simp [Value.oneCell']) (by unfold maxLen; omega) (by omega) (by rw [HS6.out]; have := HS56.out; omega) ?_)
            intro v7 w7 hown7 hgr7 _
            have hown7' : w7.ownsRow wr.heap.size 3 1 v7 (NL (l ++ [k])).length ((NL (l ++ [k])).map (Value.int .i64)) := by
              rw [HNL.out, NL_snoc, List.map_append]; exact hown7
            obtain ⟨g8, c8, hv8, hg8, hP⟩ := ownP_of_row hown7' (by rw [HNL.out]; omega)
            subst hv8
            have hrd8 := hP.rd HI64.out (by rw [HNL.out]; omega) hP.lt
            have hb7 : Below wr.heap.size wr w7 := HB6.out.grown hgr7 (by rw [HS6.out]; have := HS56.out; omega) (fun q hq => HOB5.out q hq)
            have hsz : w1.heap.size ≤ wr.heap.size := hbw.out.size
            have hv8 := (hv.out.below hb7).snoc hrd8 (c := c8) (RX.new hq.out hsz hg8)
            have hq8 := hq.out.below hb7
            have hbz := Below.alloc (Below.refl w7.heap.size w7) (Nat.le_refl _) (.cells #[.slice (some ⟨g8, 0, none⟩) (NL (l ++ [k])).length c8] 23)
            have HV9 := Lib.hid (hv8.below hbz)
            have HQ9 := Lib.hid (hq8.below hbz)
            have HB9 := Lib.hid ((hbw.out.trans (hb7.mono hsz)).trans (hbz.mono (Nat.le_trans hsz hb7.size)))
            have HCZ9 := Lib.hid (newOne w7 (.slice (some ⟨g8, 0, none⟩) (NL (l ++ [k])).length c8) 23)
            have HS9 : Hid (w1.heap.size ≤ (w7.alloc (.cells #[.slice (some ⟨g8, 0, none⟩) (NL (l ++ [k])).length c8] 23)).heap.size) := Lib.hid HB9.out.size
            clear hown7 hgr7 hown7' hP hrd8 hb7 hsz hv8 hq8 hbz HO6 HCZ6 HB6 HS6 HS56 HOB5 hw6 hq hv hbw hg8
            generalize hw9 : w7.alloc (.cells #[.slice (some ⟨g8, 0, none⟩) (NL (l ++ [k])).length c8] 23) = w9 at *
            go_wp2_with (at_builtin; refine wpList_append_q _ rfl _ _ 52 rfl 23 i0 (.slice none 0 0) 24 Try.underlying52 HI.out hz0 hz1 hz2 rfl w1.heap.size _ vs rfl HQ9.out HS9.out ⟨w7.heap.size, 0, none⟩ 1 (.slice (some ⟨g8, 0, none⟩) (NL (l ++ [k])).length c8) rfl HCZ9.out (by simp [Value.oneCell']) (by have := HVL.out; unfold maxLen; omega) (by have := HVL.out; omega) ?_)
            intro vA wA hqA hgA hoA
            have HVA : Hid (VRowsX wA (RX w1.heap.size vA) (vs ++ [.slice (some ⟨g8, 0, none⟩) (NL (l ++ [k])).length c8]) ((FP ++ extTo link l (k + 1)).map NL)) := Lib.hid (by
              have := HV9.out.app hgA hoA
              rw [HS.out, ← List.append_assoc, List.map_append]; exact this)
            have HQA := Lib.hid hqA
            have HBA := Lib.hid (HB9.out.trans ((Below.refl w1.heap.size w9).grown hgA HS9.out fun k hk => (HQ9.out.own k hk).1))
            clear hqA hgA hoA HV9 HQ9 HB9 HCZ9 HS9 hw9
            go_wp2
            go_roundw
            case rel => exact ⟨k + 1, _, by omega, by go_num, HQA, HVA, HBA⟩
            case measure => simp [intOf]; omega
          · have HS : Hid (extTo link l (k + 1) = extTo link l k) := Lib.hid (extTo_no (by
              rw [HELA.out]
              cases h1 : l.contains k
              · cases h2 : link la k
                · rfl
                · exact absurd ⟨h1, h2⟩ hpush
              · rfl))
            have HR : Hid (VRowsX wr (RX w1.heap.size _) vs ((FP ++ extTo link l (k + 1)).map NL)) := Lib.hid (by rw [HS.out]; exact hv.out)
            have HPU : Hid (¬ (l.contains k = false ∧ link la k = true)) := Lib.hid hpush
            clear hpush hv
            cases h1 : l.contains k
            · have h2 : link la k = false := by
                cases h2 : link la k
                · rfl
                · exact absurd ⟨h1, h2⟩ HPU.out
              rw [h1] at CC
              rw [h2] at CL
              clear h1 h2
              go_wp2_with fail
              refine CC.mono ?_
              rintro e w' ⟨rfl, rfl⟩
              go_wp2_with fail
              refine CL.mono ?_
              rintro e w' ⟨rfl, rfl⟩
              go_wp2
              go_roundw
              case rel => exact ⟨k + 1, vs, by omega, by go_num, hq, HR, hbw⟩
              case measure => simp [intOf]; omega
            · rw [h1] at CC
              clear h1
              go_wp2_with fail
              refine CC.mono ?_
              rintro e w' ⟨rfl, rfl⟩
              go_wp2
              go_roundw
              case rel => exact ⟨k + 1, vs, by omega, by go_num, hq, HR, hbw⟩
              case measure => simp [intOf]; omega
        · obtain rfl : k = W.length := by omega
          have HV2 : Hid (VRowsX wr (RX w1.heap.size _) vs ((List.flatMap (extL W.length link) (LP.take (i + 1))).map NL)) := Lib.hid (by rw [HTK.out]; exact hv.out)
          clear hv
          go_wp2
          go_roundw
          case rel => exact ⟨i + 1, vs, by omega, by go_num, hq, HV2, hbw⟩
          case measure => simp [intOf]; omega
    · obtain rfl : i = LP.length := by omega
      have hall : (LP.take LP.length).flatMap (extL W.length link) = LV := by rw [List.take_length]; exact HSU.out.symm
      have hvv := hv.out
      rw [hall] at hvv
      obtain ⟨A8, c8, hv8, hr8⟩ := rd2_of_q hq.out hvv HP.out (by have := HLL1.out; simp; omega)
      subst hv8
      have HR8 := Lib.hid hr8
      have hlv : (LV.map NL).length = LV.length := by simp
      have HLVN := Lib.hid hlv
      rw [hlv]
      clear hvv hall hv hq hr8 hlv
      go_wp2
      go_ret
      exact ⟨A8, c8, by rw [HLVN.out]; rfl, HR8.out, HB1.out.trans (hbw.out.mono HB1.out.size)⟩
end Go.Proofs.Ytefbkdjppfofmaa

import Derived.Test.YtefbkdjppfofmaaS26e
import Derived.Test.YtefbkdjppfofmaaW26b
import Derived.Test.YtefbkdjppfofmaaW26c
import Derived.Test.YtefbkdjppfofmaaW26k
import Derived.Test.YtefbkdjppfofmaaW26l
import Derived.Test.YtefbkdjppfofmaaW26m
import Derived.Deep.DeepCutAuto
import Derived.Deep.CutBlock
/-! Walks of chapter 26: chain. -/
namespace Go.Proofs.Ytefbkdjppfofmaa
open Go.RowKit Go.Deep
set_option linter.unusedVariables false
set_option maxRecDepth 100000

/-- blocks in which no list of the queue lies -/
def QX (base q : Nat) (v : Value) (k : Nat) : Prop := k < base ∨ k = q ∨ v.ownBlock = some k
theorem VRowsX.put {w w' : World} {base q : Nat} {v v' : Value} {vs : List Value} {F : List (List Int)} (h : VRowsX w (QX base q v) vs F) (hs : w.heap.size ≤ w'.heap.size) (hk : ∀ k, k < w.heap.size → k ≠ q → v.ownBlock ≠ some k → w'.heap[k]? = w.heap[k]?)
    (ho : v'.ownBlock = v.ownBlock ∨ ∃ g, v'.ownBlock = some g ∧ w.heap.size ≤ g) : VRowsX w' (QX base q v') vs F :=
  h.keep hs (fun k h1 h2 => hk k h1 (fun e => h2 (.inr (.inl e))) (fun e => h2 (.inr (.inr e)))) fun k h1 h2 => by
    rintro (h | h | h)
    · exact h2 (.inl h)
    · exact h2 (.inr (.inl h))
    · rcases ho with ho | ⟨g, ho, hg⟩
      · rw [ho] at h; exact h2 (.inr (.inr h))
      · rw [ho] at h; cases h; omega
/-- a block that is new is none of them -/
theorem QX.new {w : World} {base q g : Nat} {v : Value} {vs : List Value} (h : QAt w base q v vs) (hg : w.heap.size ≤ g) : ¬ QX base q v g := by
  have h1 := h.lt
  have h2 := h.ge
  rintro (e | e | e)
  · omega
  · omega
  · have := (h.row.own g e).2; omega
/-- a list that is the call's own -/
def ListRes (w : World) (L : List Int) (e : Ending) (w' : World) : Prop :=
  ∃ A c, e = .returned (.slice A L.length c) ∧ Rd w' w'.heap.size A L ∧ (∀ p, A = some p → w.heap.size ≤ p.block) ∧ Below w.heap.size w w' ∧ L.length ≤ c
theorem ListRes.nil {w w' : World} (h : Below w.heap.size w w') : ListRes w [] (.returned (.slice none 0 0)) w' := ⟨none, 0, rfl, Rd.nil _ _ _, fun p h => (by cases h), h, Nat.le_refl _⟩
theorem frozen_row {w : World} {g T : Nat} {cs : Array Value} (h : w.heap[g]? = some (.cells cs T (0, 0))) (o : Nat) : w.frozen? ⟨g, o, none⟩ = false := by simp [World.frozen?, h]
theorem new_rd {w : World} {T : Nat} {x : Int} (hx : I64 x) : Rd (w.alloc (.cells #[.int .i64 x] T)) (w.alloc (.cells #[.int .i64 x] T)).heap.size (some ⟨w.heap.size, 0, none⟩) [x] := by
  refine ⟨by simpa using hx, by simp, fun _ => ⟨w.heap.size, 0, rfl, by simp, fun i y hy => ?_⟩⟩
  cases i with
  | zero => simp at hy; subst hy; exact (cell_of_row _ _ 0 _ T (0, 0) (heap_alloc_new _ _)).trans rfl
  | succ i => simp at hy

theorem QAt.drewN {w : World} {base q : Nat} {v : Value} {vs : List Value} (h : QAt w base q v vs) (n : Nat) : QAt (w.drewN n) base q v vs := ⟨h.cell, h.frozen, h.lt, h.ge, h.row, h.ne⟩
theorem VRowsX.drewN {w : World} {X : Nat → Prop} {vs : List Value} {F : List (List Int)} (h : VRowsX w X vs F) (n : Nat) : VRowsX (w.drewN n) X vs F := h
theorem NL_i64 {l : List Nat} (h : ∀ x ∈ l, x < 100) : ∀ x ∈ NL l, I64 x := fun x hx => by
  have := NL_small h x hx
  unfold I64; omega

set_option maxHeartbeats 4000000 in
theorem lChain {w : World} {B C : Nat} {A A' : Option Addr} {W : List (List Bool)} {a : List Int} {cap cap' m n : Nat} (hW : RdB2 w B A W) (ha : Rd w C A' a) (hB : B ≤ w.heap.size) (hC : C ≤ w.heap.size) (v : VW m n W) (hn : a.length = n) (hx : ∀ x ∈ a, -1 ≤ x ∧ x < m) {f : Nat} (hf : f ≤ 100) :
    Calls Try.prog 32 #[.slice A W.length cap, .slice A' a.length cap', .int .i64 f] w (ListRes w (NL (chainN m (fun p q => linkK W a p q f) a))) := by
  have hm := v.len
  subst hm
  have hm6 := v.m6
  have hm0 := v.m0
  have n10 := v.n10
  have C1 := lCounts (cap := cap') ha hC hm6 (by omega) hx
  have HW := Lib.hid hW
  have HA := Lib.hid ha
  have HV := Lib.hid v
  have HN := Lib.hid hn
  have hlink : ∀ p q, q < W.length → ∀ u : World, Below w.heap.size w u → Calls Try.prog 56 #[.slice A W.length cap, .slice A' a.length cap', .int .i64 f, .int .i64 (p : Nat), .int .i64 (q : Nat)] u fun e w' => e = .returned (.bool (linkK W a p q f)) ∧ u = w' :=
    fun p q hq u hu => lLinked (cap := cap) (cap' := cap') (HW.out.below hu hB) (HA.out.below hu hC) HV.out HN.out hf hq
  have HL := Lib.hid hlink
  have hwl := hW.len
  have hal := ha.len
  clear hlink hW ha v hn hx
  generalize hlk : (fun p q => linkK W a p q f) = link
  have HLK : Hid (∀ p q, linkK W a p q f = link p q) := Lib.hid fun p q => by rw [← hlk]
  clear hlk
  go_enter Try.func32, Try.ntmps32
  go_wp2_with fail
  refine C1.mono ?_
  rintro e w1 ⟨rfl, hO, hb1⟩
  clear C1
  have hb2 := Below.alloc hb1 hb1.size (.cells #[.slice none 0 0] 69)
  have HO := Lib.hid (hO.alloc (.cells #[.slice none 0 0] 69))
  have HB2 := Lib.hid hb2
  have HQ0 : Hid (QAt (w1.alloc (.cells #[.slice none 0 0] 69)) w1.heap.size w1.heap.size (.slice none 0 0) []) := Lib.hid
    ⟨(cell_of_row _ _ 0 _ _ (0, 0) (heap_alloc_new _ _)).trans rfl, frozen_row (heap_alloc_new _ _) 0, by simp, Nat.le_refl _, QRow.nil _ _ _, by simp [Value.ownBlock]⟩
  have HLT : Hid (w.heap.size < w1.heap.size) := Lib.hid hO.lt
  clear hO hb1 hb2
  go_wp2_with fail
  generalize w1.alloc (.cells #[.slice none 0 0] 69) = w2 at *
  generalize w1.heap.size = q at *
  go_loopw [20] (fun iv wr => ∃ (k : Nat) (v : Value) (vs : List Value), k ≤ W.length ∧ iv = .int .i64 k ∧ Hid (QAt wr q q v vs) ∧ Hid (VRowsX wr (QX q q v) vs (((List.range k).map fun i => [i]).map NL)) ∧ Hid (Below q w2 wr)) (fun iv _ => W.length - (intOf iv).toNat)
  case atStart => exact ⟨0, _, _, by omega, rfl, HQ0, Lib.hid (VRowsX.nil _ _), Lib.hid (Below.refl _ _)⟩
  case round =>
    obtain ⟨k, v, vs, hk, rfl, hq, hv, hbw⟩ := hrel
    by_cases hlt : k < W.length
    · have hbz := Below.alloc (Below.refl wr.heap.size wr) (Nat.le_refl _) (.cells #[.int .i64 (k : Int)] 3)
      have hvl : vs.length = k := by have := hv.out.1; simpa using this
      have hv1 := (hv.out.below hbz).snoc (new_rd (w := wr) (T := 3) (x := (k : Int)) (by unfold I64; omega)) (c := 1) (QX.new hq.out (Nat.le_refl _)) (by simp)
      have CP := lPut (A2 := some ⟨wr.heap.size, 0, none⟩) (n2 := 1) (c2 := 1) (hq.out.below hbz) (by omega)
      have HV1 := Lib.hid hv1
      have HBZ := Lib.hid ((hbw.out.trans (hbz.mono (by have := hq.out.lt; omega))))
      have HVL := Lib.hid hvl
      clear hbz hv1 hvl
      go_wp2_with fail
      generalize wr.alloc (.cells #[.int .i64 (k : Int)] 3) = w3 at *
      refine CP.mono ?_
      rintro e w4 ⟨rfl, v4, q4, b4, k4, o4, s4⟩
      have HV4 := Lib.hid (HV1.out.put s4 k4 o4)
      have HQ4 := Lib.hid q4
      have HB4 := Lib.hid (HBZ.out.trans b4)
      clear CP q4 b4 k4 o4 s4
      go_wp2
      go_roundw
      case rel => exact ⟨k + 1, v4, _, by omega, by go_num, HQ4, Lib.hid (by rw [ones_snoc, List.map_append]; exact HV4.out), HB4⟩
      case measure => simp [intOf]; omega
    · obtain rfl : k = W.length := by omega
      have HQS : Hid (Queue W.length (extL W.length link) (shortB a) 0 0 ((List.range W.length).map fun i => [i])) := Lib.hid Queue.start
      generalize ((List.range W.length).map fun i => [i]) = Q0 at *
      obtain ⟨i0, hi0, hz0, hz1, hz2⟩ := info_parts infoInt'
      have HI := Lib.hid hi0
      clear hi0 hk
      go_wp2_with fail
      go_loopg [] (leftQ W.length (extL W.length link) 0 0) (fun gn wr => ∃ (v : Value) (vs : List Value) (n1 i1 : Nat) (Q : List (List Nat)), n1 ≤ W.length ∧ gn = leftQ W.length (extL W.length link) n1 i1 ∧ Hid (QAt wr q q v vs) ∧ Hid (VRowsX wr (QX q q v) vs (Q.map NL)) ∧ Hid (Queue W.length (extL W.length link) (shortB a) n1 i1 Q) ∧ Hid (Below q w2 wr))
      case atStart => exact ⟨v, vs, 0, 0, Q0, by omega, rfl, hq, hv, HQS, hbw⟩
      case round =>
        clear hq hv hbw HQS
        obtain ⟨v, vs, n1, i1, Q, hn1, rfl, hq, hv, hQ, hbw⟩ := hrel
        rcases hQ.out.ready hn1 with ⟨rfl, hnone⟩ | ⟨n2, i2, l, R, hn2, rfl, hl, hfound, hnext, hless⟩
        · have hvs : vs = [] := List.eq_nil_of_length_eq_zero (by have := hv.out.1; simpa using this)
          subst hvs
          have CT := lTake0 hq.out
          have HE : Hid (NL (chainN W.length link a) = []) := Lib.hid (by rw [chainN, hnone]; rfl)
          clear hnone
          go_wp2_with fail
          refine CT.mono ?_
          rintro e w' ⟨rfl, rfl⟩
          clear CT
          go_wp2
          go_ret
          rw [HE.out]
          exact ListRes.nil (HB2.out.trans (hbw.out.mono (by have := HLT.out; omega)))
        · have hck := chain_ok hl
          have hN : (NL l).length = n2 + 1 := by rw [NL_length, hck.len]
          have hlt0 : 0 < l.length := by rw [hck.len]; omega
          have hQl : R.length ≤ 559872 := by have := hQ.out.len hm6; simp at this; omega
          have hvv := hv.out
          rw [List.map_cons] at hvv
          obtain ⟨b, off, c, t, rfl, hrd, hnX, hcp, hvt⟩ := hvv.cons (by omega)
          have HCP := Lib.hid hcp
          clear hcp
          have htl : t.length = R.length := by have := hvt.1; simpa using this
          rw [hN] at hq
          have CT := lTake (vs := t) hq.out (by omega)
          obtain ⟨hd, ehd⟩ : ∃ x, l.headD 0 = x := ⟨_, rfl⟩
          obtain ⟨la, ela⟩ : ∃ x, l.getLastD 0 = x := ⟨_, rfl⟩
          have hdm : hd < W.length := hck.lt hd (ehd ▸ mem_head hlt0)
          have lam : la < W.length := hck.lt la (ela ▸ mem_last hlt0)
          have hat0 := NL_at (head_at hlt0)
          have hat1 := NL_at (last_at hlt0)
          rw [hck.len, Nat.add_sub_cancel, ela] at hat1
          rw [ehd] at hat0
          have hsB : shortB a l = decide (cntTo a la a.length + 2 ≤ cntTo a hd a.length) := by rw [shortB, ela, ehd]
          have HVV : Hid (VRowsX wr (QX q q v) (Value.slice (some ⟨b, off, none⟩) (NL l).length c :: t) (NL l :: R.map NL)) := Lib.hid hvv
          have HRD := Lib.hid hrd
          have HNX := Lib.hid hnX
          have HCK := Lib.hid hck
          have HN1 := Lib.hid hN
          have HELA := Lib.hid ela
          have HAT0 := Lib.hid hat0
          have HAT1 := Lib.hid hat1
          have HSB := Lib.hid hsB
          have HFD := Lib.hid hfound
          have HNXT := Lib.hid hnext
          have HLS := Lib.hid hless
          have HTL := Lib.hid htl
          clear hck hN hlt0 hvv hrd hnX hvt htl hat0 hat1 hsB hfound hnext hless hl ehd ela hv hQ
          go_wp2_with fail
          refine CT.mono ?_
          rintro e w3 ⟨rfl, v3, q3, b3, k3, o3, s3⟩
          have hV3 := HVV.out.put (v' := v3) (w' := w3) (by omega) (fun k _ h _ => k3 k h) (.inl o3)
          have hbq : b ≠ q := fun e => HNX.out (.inr (.inl e))
          have hrd3 : Rd w3 w3.heap.size (some ⟨b, off, none⟩) (NL l) := HRD.out.keepQ (by omega) (fun p hp _ => by cases hp; exact k3 b hbq)
          have hB3 := hbw.out.trans b3
          have hO3 := HO.out.below hB3 HLT.out
          obtain ⟨b', off', e', hbl, hcells⟩ := hrd3.2.2 (by have := HN1.out; omega)
          cases e'
          have hc0 := hcells 0 _ HAT0.out
          rw [Nat.add_zero] at hc0
          have hc1 := hcells n2 _ HAT1.out
          have hoc0 := hO3.cell (i := hd) (x := (cntTo a hd a.length : Int)) (by simp [cntK, hdm])
          have hoc1 := hO3.cell (i := la) (x := (cntTo a la a.length : Int)) (by simp [cntK, lam])
          have hle0 := cntTo_le a hd a.length
          have hle1 := cntTo_le a la a.length
          have a10 : a.length ≤ 10 := by have := HN.out; omega
          have HV3 := Lib.hid hV3
          have HR3 := Lib.hid hrd3
          have HB3 := Lib.hid hB3
          have HO3 := Lib.hid hO3
          have HQ3 := Lib.hid q3
          have HBQ := Lib.hid hbq
          have HS3 := Lib.hid s3
          clear CT hcells hbl hrd3 hO3 hB3 hV3 q3 b3 k3 o3 hbq HVV HRD HAT0 HAT1 hq hbw s3
          generalize cntTo a hd a.length = c0 at *
          generalize cntTo a la a.length = c1 at *
          by_cases hs : c1 + 2 ≤ c0
          · have HE : Hid (NL (chainN W.length link a) = NL l) := Lib.hid (by rw [chainN, HFD.out (by rw [HSB.out]; exact decide_eq_true hs)]; rfl)
            have f1 : decide ((c1 : Int) + 2 ≤ (c0 : Int)) = true := decide_eq_true (by omega)
            have f2 : decide (c1 + 2 ≤ c0) = true := decide_eq_true (by omega)
            go_wp2_with fail
            go_quiet (fail)
            go_wp2
            go_ret
            rw [HE.out]
            refine ⟨some ⟨b, off, none⟩, c, by rw [HN1.out]; rfl, HR3.out.below (below_drewN (Below.refl _ _) _) (Nat.le_refl _), fun p hp => by cases hp; exact (show w.heap.size ≤ b from Nat.le_of_not_lt fun hlt => HNX.out (.inl (show b < q by have := HLT.out; omega))), below_drewN (HB2.out.trans (HB3.out.mono (by have := HLT.out; omega))) _, HCP.out⟩
          · have HE : Hid (shortB a l = false) := Lib.hid (by rw [HSB.out]; exact decide_eq_false hs)
            have f1 : decide ((c1 : Int) + 2 ≤ (c0 : Int)) = false := decide_eq_false (by omega)
            have f2 : decide (c1 + 2 ≤ c0) = false := decide_eq_false (by omega)
            go_wp2_with fail
            go_quiet (fail)
            go_wp2_with fail
            have HQ5 := Lib.hid (HQ3.out.drewN nq)
            have HV5 := Lib.hid (HV3.out.drewN nq)
            have HB5 := Lib.hid (below_drewN HB3.out nq)
            clear HV3 HR3 HB3 HO3 HQ3 HS3 hc0 hc1 hoc0 hoc1 f1 f2 hs HSB HFD hle0 hle1 HQ0
            generalize w3.drewN nq = w5 at *
            go_loopw [54] (fun iv wr => ∃ (j : Nat) (v : Value) (vs : List Value), j ≤ W.length ∧ iv = .int .i64 j ∧ Hid (QAt wr q q v vs) ∧ Hid (VRowsX wr (QX q q v) (Value.slice (some ⟨b, off, none⟩) (NL l).length c :: vs) (NL l :: (R ++ extTo link l j).map NL)) ∧ Hid (Below q w2 wr)) (fun iv _ => W.length - (intOf iv).toNat)
            case atStart => exact ⟨0, v3, t, by omega, rfl, HQ5, Lib.hid (by rw [extTo_zero, List.append_nil]; exact HV5.out), HB5⟩
            case round =>
              clear HQ5 HV5 HB5
              obtain ⟨j, v, vs, hj, rfl, hq, hv, hbw⟩ := hrel
              by_cases hlt : j < W.length
              · obtain ⟨b', off', c', t', e', hrd, hnX, _, hvt⟩ := hv.out.cons (by have := HN1.out; omega)
                cases e'
                have hvl : vs.length ≤ 559878 := by
                  have h1 := hvt.1
                  have h2 := extTo_len (link := link) (l := l) (j := j) (by omega)
                  rw [List.length_map, List.length_append] at h1
                  omega
                have CC := containsX (cap := c) hrd (j : Int)
                rw [HN1.out, NL_any] at CC
                have hbw0 : Below w.heap.size w wr := HB2.out.trans (hbw.out.mono (by have := HLT.out; omega))
                have CL := HL.out la j hlt wr hbw0
                rw [HLK.out] at CL
                have HRD := Lib.hid hrd
                have HVL := Lib.hid hvl
                clear hrd hnX hvt hvl hbw0
                by_cases hpush : l.contains j = false ∧ link la j = true
                · obtain ⟨h1, h2⟩ := hpush
                  have HS : Hid (extTo link l (j + 1) = extTo link l j ++ [l ++ [j]]) := Lib.hid (extTo_yes h1 (by rw [HELA.out]; exact h2))
                  rw [h1] at CC
                  rw [h2] at CL
                  have CK := cloneR (cap := c) HRD.out (Nat.le_refl _) (by rw [HN1.out]; omega)
                  rw [HN1.out] at CK
                  have hlj : ∀ x ∈ l ++ [j], x < 100 := fun x hx => by
                    rcases List.mem_append.1 hx with hx | hx
                    · have := HCK.out.lt x hx; omega
                    · simp at hx; omega
                  have HI64 := Lib.hid (NL_i64 hlj)
                  have hNl : (NL (l ++ [j])).length = n2 + 2 := by rw [NL_snoc, List.length_append, HN1.out]; rfl
                  have HNL := Lib.hid hNl
                  clear h1 h2 hlj hNl
                  go_wp2_with fail
                  refine CC.mono ?_
                  rintro e w' ⟨rfl, rfl⟩
                  go_wp2_with fail
                  refine CL.mono ?_
                  rintro e w' ⟨rfl, rfl⟩
                  go_wp2_with fail
                  refine CK.mono ?_
                  rintro e w6 ⟨g, cg, he, hg, ho, hb6⟩
                  rw [HN1.out] at he ho
                  subst he
                  have HO6 := Lib.hid (ho.alloc (.cells #[.int .i64 (j : Int)] 3))
                  have HCZ := Lib.hid (newOne w6 (.int .i64 (j : Int)) 3)
                  have HB6 := Lib.hid (Below.alloc hb6 hb6.size (.cells #[.int .i64 (j : Int)] 3))
                  have HS6 : Hid ((w6.alloc (.cells #[.int .i64 (j : Int)] 3)).heap.size = w6.heap.size + 1) := Lib.hid (by simp)
                  have HSW : Hid (wr.heap.size ≤ w6.heap.size) := Lib.hid hb6.size
                  have HG := Lib.hid hg
                  clear CC CL CK ho hb6 hg
                  generalize hw7 : w6.alloc (.cells #[.int .i64 (j : Int)] 3) = w7 at *
                  go_wp2_with (at_builtin; refine wpList_append_own _ rfl _ _ 23 rfl wr.heap.size 3 i0 (.int .i64 0) 1 8 Try.underlying23 HI.out hz0 hz1 hz2 rfl (by decide) _ (n2 + 1) _ rfl HO6.out ⟨w6.heap.size, 0, none⟩ 1 1 [.int .i64 (j : Int)] rfl (by simp) HCZ.out (by simp [Value.oneCell']) (by unfold maxLen; omega) (by omega) (by rw [HS6.out]; have := HSW.out; omega) ?_)
                  intro v' w8 hown hgr _
                  have hown' : w8.ownsRow wr.heap.size 3 1 v' (NL (l ++ [j])).length ((NL (l ++ [j])).map (Value.int .i64)) := by
                    rw [HNL.out, NL_snoc, List.map_append]; exact hown
                  obtain ⟨g8, c8, hv8, hg8, hP⟩ := ownP_of_row hown' (by rw [HNL.out]; omega)
                  subst hv8
                  have hrd8 := hP.rd HI64.out (by rw [HNL.out]; omega) hP.lt
                  have hb8 : Below wr.heap.size wr w8 := HB6.out.grown hgr (by rw [HS6.out]; have := HSW.out; omega) (by intro k hk; simp [Value.ownBlock] at hk; have := HG.out; omega)
                  have hv9 := (hv.out.below hb8).snoc hrd8 (c := c8) (QX.new hq.out hg8) (row_cap hown')
                  have CP := lPut (A2 := some ⟨g8, 0, none⟩) (n2 := (NL (l ++ [j])).length) (c2 := c8) (hq.out.below hb8) (by have := HVL.out; omega)
                  have HV9 := Lib.hid hv9
                  have HB8 := Lib.hid (hbw.out.trans (hb8.mono (by have := hq.out.lt; omega)))
                  clear hown hgr hown' hP hrd8 hb8 hv9 HO6 HCZ HB6 HS6 hq hv hbw hg8
                  go_wp2_with fail
                  refine CP.mono ?_
                  rintro e w9 ⟨rfl, v9, q9, b9, k9, o9, s9⟩
                  have hV9 := HV9.out.put s9 k9 o9
                  have HR9 : Hid (VRowsX w9 (QX q q v9) (Value.slice (some ⟨b, off, none⟩) (NL l).length c :: (vs ++ [Value.slice (some ⟨g8, 0, none⟩) (NL (l ++ [j])).length c8])) (NL l :: (R ++ extTo link l (j + 1)).map NL)) := Lib.hid (by
                    rw [HS.out, ← List.append_assoc, List.map_append]; exact hV9)
                  have HQ9 := Lib.hid q9
                  have HB9 := Lib.hid (HB8.out.trans b9)
                  clear CP q9 b9 k9 o9 s9 hV9 HV9
                  go_wp2
                  go_roundw
                  case rel => exact ⟨j + 1, v9, _, by omega, by go_num, HQ9, HR9, HB9⟩
                  case measure => simp [intOf]; omega
                · have HS : Hid (extTo link l (j + 1) = extTo link l j) := Lib.hid (extTo_no (by
                    rw [HELA.out]
                    cases h1 : l.contains j
                    · cases h2 : link la j
                      · rfl
                      · exact absurd ⟨h1, h2⟩ hpush
                    · rfl))
                  have HR : Hid (VRowsX wr (QX q q v) (Value.slice (some ⟨b, off, none⟩) (NL l).length c :: vs) (NL l :: (R ++ extTo link l (j + 1)).map NL)) := Lib.hid (by rw [HS.out]; exact hv.out)
                  have HPU : Hid (¬ (l.contains j = false ∧ link la j = true)) := Lib.hid hpush
                  clear hpush hv
                  cases h1 : l.contains j
                  · have h2 : link la j = false := by
                      cases h2 : link la j
                      · rfl
                      · exact absurd ⟨h1, h2⟩ HPU.out
                    rw [h1] at CC
                    rw [h2] at CL
                    clear h1 h2
                    go_wp2_with fail
                    refine CC.mono ?_
                    rintro e w' ⟨rfl, rfl⟩
                    go_wp2_with fail
                    refine CL.mono ?_
                    rintro e w' ⟨rfl, rfl⟩
                    go_wp2
                    go_roundw
                    case rel => exact ⟨j + 1, v, vs, by omega, by go_num, hq, HR, hbw⟩
                    case measure => simp [intOf]; omega
                  · rw [h1] at CC
                    clear h1
                    go_wp2_with fail
                    refine CC.mono ?_
                    rintro e w' ⟨rfl, rfl⟩
                    go_wp2
                    go_roundw
                    case rel => exact ⟨j + 1, v, vs, by omega, by go_num, hq, HR, hbw⟩
                    case measure => simp [intOf]; omega
              · obtain rfl : j = W.length := by omega
                obtain ⟨b', off', c', t', e', hrd, hnX, _, hvt⟩ := hv.out.cons (by have := HN1.out; omega)
                cases e'
                have HVT := Lib.hid hvt
                have HQN := Lib.hid (HNXT.out HE.out)
                clear hrd hnX hvt hv
                go_wp2
                go_roundg (leftQ W.length (extL W.length link) n2 (i2 + 1))
                case measure => exact HLS.out
                case rel => exact ⟨v, vs, n2, i2 + 1, _, by omega, rfl, hq, Lib.hid HVT.out, HQN, hbw⟩
end Go.Proofs.Ytefbkdjppfofmaa

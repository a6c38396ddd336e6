import Derived.Test.YtipidlonidihbaaS33e
/-! The walk of holiday's Give. -/
namespace Go.Proofs.Ytipidlonidihbaa
open Go.RowKit Go.Deep
set_option linter.unusedVariables false
set_option maxRecDepth 100000

/-- the results (who has a place, the credits, an error), in the world behind the call -/
def GiveRes (w : World) (P Q : List Int) (c : Int) (e : Ending) (w' : World) : Prop :=
  ∃ A cap A' cap', e = .returned (.tuple #[.slice A P.length cap, .slice A' Q.length cap', .int .i64 c]) ∧ Rd w' w'.heap.size A P ∧ Rd w' w'.heap.size A' Q ∧ Below w.heap.size w w'

/-- the same, and both lists lie in new blocks -/
def GiveResX (w : World) (P Q : List Int) (c : Int) (e : Ending) (w' : World) : Prop :=
  ∃ A cap A' cap', e = .returned (.tuple #[.slice A P.length cap, .slice A' Q.length cap', .int .i64 c]) ∧ Rd w' w'.heap.size A P ∧ Rd w' w'.heap.size A' Q ∧ Below w.heap.size w w'
    ∧ (∀ p, A = some p → w.heap.size ≤ p.block) ∧ (∀ p, A' = some p → w.heap.size ≤ p.block)
theorem GiveResX.res {w : World} {P Q : List Int} {c : Int} {e : Ending} {w' : World} (h : GiveResX w P Q c e w') : GiveRes w P Q c e w' := by
  obtain ⟨A, cap, A', cap', h1, h2, h3, h4, _⟩ := h
  exact ⟨A, cap, A', cap', h1, h2, h3, h4⟩
theorem noFresh (w : World) : (∀ p : Addr, (none : Option Addr) = some p → w.heap.size ≤ p.block) := fun p hp => by cases hp

theorem Rd.far {w : World} {B : Nat} {A : Option Addr} {L : List Int} (h : Rd w B A L) {q : Addr} (hq : ∀ p, A = some p → p.block ≠ q.block) (u : Value) : Rd (w.setCell q u) B A L :=
  ⟨h.1, h.2.1, fun hn => by
    obtain ⟨b, off, e, hb, hc⟩ := h.2.2 hn
    refine ⟨b, off, e, hb, fun i x hx => ?_⟩
    have hne := hq _ e
    rw [← hc i x hx]
    exact World.cell?_of_block (w := w) (Below.heap_setCell _ _ _ _ hne)⟩
/-- the list of those with a place is sorted -/
theorem sortAny {w : World} {base : Nat} {v : Value} {C B : List Int} {m : Nat} (ho : w.ownsRow base 3 1 v m (((rkList C B).take m).map (Value.int .i64))) (hm : m ≤ B.length) (hB : B.length ≤ 12) :
    ∃ A c, v = .slice A m c ∧ (∀ p, A = some p → base ≤ p.block) ∧ Calls Try.prog 36 #[.slice A m c] w
      fun e w' => e = .returned (.tuple #[]) ∧ Rd w' w'.heap.size A (freeL C B m) ∧ Below base w w' := by
  have hlen : ((rkList C B).take m).length = m := by rw [List.length_take, rkList_length]; omega
  have hfl := freeL_length (C := C) hm
  by_cases h0 : m = 0
  · subst h0
    have hf : freeL C B 0 = [] := List.length_eq_zero_iff.1 hfl
    have hs : ∃ A c, v = .slice A 0 c ∧ (∀ p, A = some p → base ≤ p.block) := by
      rcases ho.2 with ⟨e, _⟩ | ⟨g, cap, cur, e, hb, _⟩
      · exact ⟨none, 0, e, by intro p h; cases h⟩
      · exact ⟨_, cap, e, by intro p h; cases h; exact hb⟩
    obtain ⟨A, c, e, hA⟩ := hs
    refine ⟨A, c, e, hA, sortNone.mono ?_⟩
    rintro e w' ⟨rfl, rfl⟩
    exact ⟨rfl, by rw [hf]; exact Rd.nil _ _ _, Below.refl _ _⟩
  · have ho' : w.ownsRow base 3 1 v ((rkList C B).take m).length (((rkList C B).take m).map (Value.int .i64)) := by rw [hlen]; exact ho
    obtain ⟨g, c, e, hg, hP⟩ := ownP_of_row ho' (by omega)
    rw [hlen] at e
    have CS := sortInts (cap := c) hP (by omega) (by omega)
    rw [hlen, free_sorted hm] at CS
    refine ⟨_, c, e, by intro p h; cases h; exact hg, CS.mono ?_⟩
    rintro e w' ⟨rfl, hO, hb⟩
    exact ⟨rfl, hO.rd (freeL_i64 (by omega)) (by omega) hO.lt, hb.mono hg⟩

theorem getD_bd {C : List Int} {i : Nat} (h : i < C.length) (hC : ∀ x ∈ C, -1000000 ≤ x ∧ x ≤ 1000000) : -1000000 ≤ C.getD i 0 ∧ C.getD i 0 ≤ 1000000 := by
  have := hC _ (List.getElem_mem h)
  simpa [List.getD, h] using this

set_option maxRecDepth 100000 in
set_option maxHeartbeats 1000000 in
theorem hGiveX {w : World} {B C : Nat} {A A' : Option Addr} {L O : List Int} {cap cap' : Nat} (h : Rd w B A L) (h' : Rd w C A' O) (hB : B ≤ w.heap.size) (hC : C ≤ w.heap.size) (m : Int) :
    Calls Try.prog 14 #[.slice A L.length cap, .slice A' O.length cap', .int .i64 m] w (GiveResX w (gvF L O m) (gvA L O m) (gvE L O m)) := by
  have C1 := hPrice (cap := cap) (cap' := cap') h h' hB hC m
  by_cases he : pcE L O m = 0
  · obtain ⟨hl, g0, g1⟩ := pcE_zero he
    obtain ⟨m, rfl⟩ := Int.eq_ofNat_of_zero_le g0
    have hV := hlk_ok hl
    have hn := hV.v.one
    have hn2 := hV.v.twelve
    have hlen := hV.len
    have hml : m ≤ L.length := by omega
    have hpb := prOf_bd (C := L) (B := O) (m := m) hV.bd (by omega) (by omega)
    have hqr := gQR (C := L) (B := O) (m := m) hn hn2 hml hpb.1 hpb.2
    rw [pcV, if_pos he, he] at C1
    have HR := Lib.hid (fun (u : World) (hu : Below w.heap.size w u) => And.intro ((h.more hB).below hu (Nat.le_refl _)) ((h'.more hC).below hu (Nat.le_refl _)))
    have HE := Lib.hid he
    have HV := Lib.hid hV
    have HPB := Lib.hid hpb
    have HQR := Lib.hid hqr
    have HLEN := Lib.hid hlen
    have hm2 : m ≤ O.length := by omega
    have ho1 : 1 ≤ O.length := by omega
    have ho2 : O.length ≤ 12 := by omega
    clear h h' hB hC he hl g0 g1 hV hpb hqr hlen
    obtain ⟨i0, hi, hz0, hz1, hz2⟩ := info_parts infoInt'
    have HI := Lib.hid hi
    clear hi
    go_enter Try.func14, Try.ntmps14
    go_wp2_with fail
    refine C1.mono ?_
    rintro e w1 ⟨rfl, hb1⟩
    clear C1
    have HB1 := Lib.hid hb1
    clear hb1
    have H1 := HR.out w1 HB1.out
    have C2 := rankX (cap1 := cap) (cap2 := cap') H1.1 H1.2 HB1.out.size HLEN.out (by omega) (by omega)
    go_wp2_with fail
    refine C2.mono ?_
    rintro e w2 ⟨gl, rfl, hgl, hP, hb2⟩
    rw [rkList_length]
    clear C2 H1
    have HB2 := Lib.hid (HB1.out.trans (hb2.mono HB1.out.size))
    have hrd := rk_rd hP (by omega)
    have hgl2 := hP.lt
    have HRK := Lib.hid (fun (u : World) (hu : Below w2.heap.size w2 u) => hrd.below hu (Nat.le_refl _))
    have HGL := Lib.hid hgl2
    clear hb2 hP hrd hgl hgl2
    have H2 := HR.out w2 HB2.out
    have C3 := clone (cap := cap) H2.1 HB2.out.size (by omega)
    go_wp2_with fail
    refine C3.mono ?_
    rintro e w3 ⟨g, cg, rfl, hg, hP3, hb3⟩
    clear C3 H2
    have HB3 := Lib.hid (HB2.out.trans (hb3.mono HB2.out.size))
    have HB23 := Lib.hid hb3
    have HP3 := Lib.hid hP3
    have HG := Lib.hid hg
    have HG3 := Lib.hid hP3.lt
    clear hb3 hP3 hg
    go_wp2
    have hsp := sel_paid (C := L) (B := O) (m := m) HLEN.out.symm
    have HSP := Lib.hid hsp
    have hst : OwnP w3 g 3 (sel L O 0 (fun i => L.getD i 0) (fun i => L.getD i 0 - prOf L O m)) := by rw [hsp.1]; exact HP3.out
    have HST := Lib.hid hst
    clear hsp hst
    go_loopw [6, 36] (fun f i wr => ∃ k : Nat, k ≤ m ∧ i = .int .i64 k ∧ Hid (wr.ownsRow w3.heap.size 3 1 f k (((rkList L O).take k).map (Value.int .i64)))
      ∧ Hid (OwnP wr g 3 (sel L O k (fun i => L.getD i 0) (fun i => L.getD i 0 - prOf L O m))) ∧ Hid (Below w2.heap.size w2 wr) ∧ Hid (w3.heap.size ≤ wr.heap.size)) (fun _ i _ => m - (intOf i).toNat)
    case atStart => exact ⟨0, by omega, rfl, Lib.hid (own_row_nil _ _ _), HST, HB23, Lib.hid (Nat.le_refl _)⟩
    case round =>
      obtain ⟨k, hk, rfl, ho, hp, hb, hsz⟩ := hrel
      by_cases hlt : k < m
      · obtain ⟨a, ha, hal, hpl⟩ := rk_nat (C := L) (B := O) (k := k) (by omega)
        obtain ⟨b, off, e1, hbb, hcc⟩ := (HRK.out wr hb.out).2.2 (by rw [rkList_length]; omega)
        cases e1
        have ck := hcc k a ha
        simp only [Nat.zero_add] at ck
        have hx := getD_bd (i := a) (by have := HLEN.out; omega) HV.out.v.bd
        have hcur := sel_cur (C := L) (B := O) (k := k) (old := fun i => L.getD i 0) (new := fun i => L.getD i 0 - prOf L O m) hal hpl
        have hnx := sel_set (C := L) (B := O) (k := k) (old := fun i => L.getD i 0) (new := fun i => L.getD i 0 - prOf L O m) hal hpl
        have htk : (rkList L O).take (k + 1) = (rkList L O).take k ++ [(a : Int)] := by rw [List.take_add_one, ha]; rfl
        have HA := Lib.hid ha
        have HCU := Lib.hid hcur
        have HNX := Lib.hid hnx
        have HTK := Lib.hid htk
        have HCK := Lib.hid hcc
        have hpb := HPB.out
        clear ha hcur hnx htk hcc hpl
        generalize hxx : L.getD a 0 = x at *
        have HXX := Lib.hid hxx
        clear hxx
        have hwz : Hid ((wr.alloc (.cells #[.int .i64 a] 3)).heap.size = wr.heap.size + 1) := Lib.hid (by simp)
        have hoz := Lib.hid (ho.out.alloc (.cells #[.int .i64 a] 3))
        have hpz := Lib.hid (hp.out.alloc (.cells #[.int .i64 a] 3))
        have hbz := Lib.hid (hb.out.alloc (Nat.le_trans HB23.out.size hsz.out) (.cells #[.int .i64 a] 3))
        have hcz : Hid (∀ (j : Nat) (u : Value), ([(Value.int .i64 a)])[j]? = some u → (wr.alloc (.cells #[.int .i64 a] 3)).cell? ((⟨wr.heap.size, 0, none⟩ : Addr).add j) = some u) := Lib.hid (by
          intro j u hu
          rw [addr_add]
          cases j with
          | zero => simp at hu; subst hu; simp
          | succ j => simp at hu)
        generalize hgw : wr.alloc (.cells #[.int .i64 a] 3) = wa at *
        have HGW := Lib.hid hgw
        clear hgw
        have hgw := HGW.out
        go_wp2_with (at_builtin; refine wpList_append_own _ rfl _ _ 22 rfl w3.heap.size 3 i0 (.int .i64 0) 1 8 Try.underlying22 HI.out hz0 hz1 hz2 rfl (by decide) _ k _ rfl hoz.out ⟨wr.heap.size, 0, none⟩ 1 1 [.int .i64 a] rfl (by simp) hcz.out (by simp [Value.oneCell']) (by unfold maxLen; omega) (by omega) (by rw [hwz.out]; have := hsz.out; omega) ?_)
        intro v' w5 hown hgrow _
        have hb5 : Below w3.heap.size wa w5 := (Below.refl _ wa).grown hgrow (by rw [hwz.out]; have := hsz.out; omega) (fun q hq => (hoz.out.lt q hq).1)
        have hp5 := hpz.out.below hb5 HG3.out
        have c5 := hp5.cell HCU.out
        have f5 := hp5.frozen a
        have hp6 := Lib.hid (hp5.store a (x - prOf L O m))
        have ho6 := Lib.hid (ownsRow_setCell_below hown (a := ⟨g, a, none⟩) HG3.out (.int .i64 (x - prOf L O m)))
        have hb6 := Lib.hid ((hbz.out.trans (hb5.mono HB23.out.size)).setCell (p := ⟨g, a, none⟩) HG.out (.int .i64 (x - prOf L O m)))
        have hs6 : Hid (w3.heap.size ≤ (w5.setCell ⟨g, a, none⟩ (.int .i64 (x - prOf L O m))).heap.size) := Lib.hid (by
          have := hb5.size
          have := hwz.out
          have := hsz.out
          simp only [World.size_setCell]
          omega)
        rw [HNX.out] at hp6
        have hlist : (((rkList L O).take k).map (Value.int .i64) ++ [.int .i64 (a : Int)]) = ((rkList L O).take (k + 1)).map (Value.int .i64) := by rw [HTK.out]; simp
        have HLI := Lib.hid hlist
        have hk1 : a < L.length := by have := HLEN.out; omega
        clear hown hgrow hb5 hp5 hlist hgw ho hp hb hoz hpz hbz hcz ck
        go_wp2
        go_roundw
        case rel =>
          exact ⟨k + 1, by omega, by go_num, Lib.hid (by rw [← HLI.out]; simpa using ho6.out), hp6, hb6, hs6⟩
        case measure => simp [intOf]; omega
      · obtain rfl : k = m := by omega
        obtain ⟨fa, fc, rfl, hfa, CS⟩ := sortAny ho.out hm2 ho2
        have hp0 := hp.out
        rw [HSP.out.2] at hp0
        have HP0 := Lib.hid hp0
        have HFA := Lib.hid hfa
        clear hp0 hp ho hfa HST HP3
        go_wp2_with fail
        refine CS.mono ?_
        rintro e w5 ⟨rfl, hrf, hb5⟩
        have HRF := Lib.hid hrf
        have HP5 := Lib.hid (HP0.out.below hb5 HG3.out)
        have HB5 := Lib.hid (hb.out.trans (hb5.mono HB23.out.size))
        clear CS hrf hb5 HP0 hb hsz
        go_wp2_with fail
        have hqr := HQR.out
        rw [← HLEN.out] at hqr
        have HQ2 := Lib.hid hqr
        clear HQR hqr
        have d0 : ((O.length : Int) == 0) = false := beq_eq_false_iff_ne.2 (by omega)
        have d1 : (O.length == 0) = false := beq_eq_false_iff_ne.2 (by omega)
        have e1 : IntKind.i64.wrap (prOf L O k * k) = prOf L O k * k := IntWalk.i64_in _ (by have := HQ2.out.1; have := HQ2.out.2.1; omega)
        have e2 := HQ2.out.2.2.2.2.2.2.1
        have e3 := HQ2.out.2.2.2.2.2.2.2
        have e4 : IntKind.i64.wrap (gQ L O k) = gQ L O k := IntWalk.i64_in _ (by have := HQ2.out.2.2.1; have := HQ2.out.2.2.2.1; omega)
        have e5 : IntKind.i64.wrap (gR L O k) = gR L O k := IntWalk.i64_in _ (by have := HQ2.out.2.2.2.2.1; have := HQ2.out.2.2.2.2.2.1; omega)
        go_quiet (fail)
        clear d0 d1 e1 e2 e3 e4 e5
        have HB6 : Hid (Below w2.heap.size w2 (w5.drewN nq)) := Lib.hid (below_drewN HB5.out _)
        have HP6 : Hid (OwnP (w5.drewN nq) g 3 (sel L O 0 (paid L O k) (after L O k))) := Lib.hid (HP5.out.drewN nq)
        have HRF6 : Hid (Rd (w5.drewN nq) (w5.drewN nq).heap.size fa (freeL L O k)) := Lib.hid HRF.out
        clear HB5 HP5 HRF
        generalize w5.drewN nq = w6 at *
        go_wp2
        go_loopw [68] (fun i wr => ∃ j : Nat, j ≤ O.length ∧ i = .int .i64 j ∧ Hid (OwnP wr g 3 (sel L O j (paid L O k) (after L O k)))
          ∧ Hid (Below w2.heap.size w2 wr) ∧ Hid (Rd wr wr.heap.size fa (freeL L O k))) (fun i _ => O.length - (intOf i).toNat)
        case atStart => exact ⟨0, by omega, rfl, HP6, HB6, HRF6⟩
        case round =>
          clear HP6 HB6 HRF6
          obtain ⟨j, hj, rfl, hp, hb, hf⟩ := hrel
          by_cases hjl : j < O.length
          · obtain ⟨a, ha, hal, hpl⟩ := rk_nat (C := L) (B := O) (k := j) hjl
            obtain ⟨b, off, e1, hbb, hcc⟩ := (HRK.out wr hb.out).2.2 (by rw [rkList_length]; omega)
            cases e1
            have ck := hcc j a ha
            simp only [Nat.zero_add] at ck
            have hpd := paid_bd (C := L) (B := O) (m := k) (i := a) HV.out.v.bd HPB.out.1 HPB.out.2
            have hcur := hp.out.cell (sel_cur (C := L) (B := O) (k := j) (old := paid L O k) (new := after L O k) hal hpl)
            have hfr := hp.out.frozen a
            have hnx := sel_set (C := L) (B := O) (k := j) (old := paid L O k) (new := after L O k) hal hpl
            have hal2 : a < L.length := by have := HLEN.out; omega
            have hq0 := HQ2.out.2.2.1
            have hq1 := HQ2.out.2.2.2.1
            have hr0 := HQ2.out.2.2.2.2.1
            have hr1 := HQ2.out.2.2.2.2.2.1
            by_cases hx : (O.length : Int) - gR L O k ≤ j
            · have haf : after L O k a = paid L O k a + gQ L O k + 1 := by
                unfold after extra
                rw [if_pos (by have := HLEN.out; omega)]
              have hst1 := hp.out.store a (paid L O k a + gQ L O k)
              have c2 := hst1.cell (i := a) (x := paid L O k a + gQ L O k) (by rw [List.getElem?_set_self (by rw [sel_length]; exact hal)])
              have f2 := hst1.frozen a
              have hst := hst1.store a (paid L O k a + gQ L O k + 1)
              rw [List.set_set, ← haf, hnx] at hst
              have HST2 := Lib.hid hst
              have HB2' := Lib.hid ((hb.out.setCell (p := ⟨g, a, none⟩) HG.out (.int .i64 (paid L O k a + gQ L O k))).setCell (p := ⟨g, a, none⟩) HG.out (.int .i64 (after L O k a)))
              have hfar : ∀ p, fa = some p → p.block ≠ (⟨g, a, none⟩ : Addr).block := fun p hp => by have := HFA.out p hp; have := HG3.out; show p.block ≠ g; omega
              have HF2 := Lib.hid ((hf.out.far hfar (.int .i64 (paid L O k a + gQ L O k))).far hfar (.int .i64 (after L O k a)))
              rw [haf] at HST2 HB2' HF2
              clear hst1 hst hnx ha hcc hp hb hf haf hpl
              go_wp2
              go_roundw
              case rel => exact ⟨j + 1, by omega, by go_num, HST2, HB2', by simpa only [World.size_setCell] using HF2⟩
              case measure => simp [intOf]; omega
            · have haf : after L O k a = paid L O k a + gQ L O k := by
                unfold after extra
                rw [if_neg (by have := HLEN.out; omega)]
                omega
              have hst := hp.out.store a (paid L O k a + gQ L O k)
              rw [← haf, hnx] at hst
              have HST2 := Lib.hid hst
              have HB2' := Lib.hid (hb.out.setCell (p := ⟨g, a, none⟩) HG.out (.int .i64 (after L O k a)))
              have hfar : ∀ p, fa = some p → p.block ≠ (⟨g, a, none⟩ : Addr).block := fun p hp => by have := HFA.out p hp; have := HG3.out; show p.block ≠ g; omega
              have HF2 := Lib.hid (hf.out.far hfar (.int .i64 (after L O k a)))
              rw [haf] at HST2 HB2' HF2
              clear hst hnx ha hcc hp hb hf haf hpl
              go_wp2
              go_roundw
              case rel => exact ⟨j + 1, by omega, by go_num, HST2, HB2', by simpa only [World.size_setCell] using HF2⟩
              case measure => simp [intOf]; omega
          · obtain rfl : j = O.length := by omega
            have hpp := hp.out
            rw [sel_aft] at hpp
            have hal := aftL_length L O k
            have hpd := fun i => paid_bd (C := L) (B := O) (m := k) (i := i) HV.out.v.bd HPB.out.1 HPB.out.2
            have hrd : Rd wr wr.heap.size (some ⟨g, 0, none⟩) (aftL L O k) := hpp.rd (aftL_i64 hpd HQ2.out.2.2.1 HQ2.out.2.2.2.1) (by omega) hpp.lt
            have CMin := minW (cap := cg) hrd (by omega)
            have CMax := maxW (cap := cg) hrd (by omega)
            rw [hal, HLEN.out] at CMin CMax
            have hout := any_out (L := aftL L O k) (by omega)
            have HRD := Lib.hid hrd
            have hfl := freeL_length (C := L) hm2
            have HB0 := Lib.hid (HB2.out.trans (hb.out.mono HB2.out.size))
            cases hbad : (aftL L O k).any outOf
            · have hE := gvE_ok HE.out hbad
              rw [hbad] at hout
              have hF : gvF L O k = freeL L O k := by rw [gvF, if_pos hE, Int.toNat_natCast]
              have hA : gvA L O k = aftL L O k := by rw [gvA, if_pos hE, Int.toNat_natCast]
              have o1 : ¬ minL (aftL L O k) < -1000000 := by intro h; simp [h] at hout
              have o2 : ¬ 1000000 < maxL (aftL L O k) := by intro h; simp [h] at hout
              clear hout hpp hrd hp hb hpd
              go_wp2_with (first | (go_at_call 37; refine CMin.mono ?_; rintro e w7 ⟨rfl, rfl⟩) | (go_at_call 38; refine CMax.mono ?_; rintro e w7 ⟨rfl, rfl⟩))
              go_ret3
              rw [hE, hF, hA]
              exact ⟨fa, fc, some ⟨g, 0, none⟩, cg, by rw [hfl, hal.trans HLEN.out]; rfl, hf.out, HRD.out, HB0.out, fun p hp => Nat.le_trans (Nat.le_trans HB2.out.size HB23.out.size) (HFA.out p hp), fun p hp => by cases hp; exact Nat.le_trans HB2.out.size HG.out⟩
            · have hE := gvE_out HE.out hbad
              rw [hbad] at hout
              have hF : gvF L O k = [] := by rw [gvF, hE, if_neg (by decide)]
              have hA : gvA L O k = [] := by rw [gvA, hE, if_neg (by decide)]
              clear hpp hrd hp hb hpd
              by_cases o1 : minL (aftL L O k) < -1000000
              · clear hout
                go_wp2_with (first | (go_at_call 37; refine CMin.mono ?_; rintro e w7 ⟨rfl, rfl⟩) | (go_at_call 38; refine CMax.mono ?_; rintro e w7 ⟨rfl, rfl⟩))
                go_ret3
                rw [hE, hF, hA]
                exact ⟨none, 0, none, 0, rfl, Rd.nil _ _ _, Rd.nil _ _ _, HB0.out, noFresh _, noFresh _⟩
              · have o2 : 1000000 < maxL (aftL L O k) := by
                  rw [eq_comm, Bool.or_eq_true] at hout
                  rcases hout with h | h
                  · exact absurd (of_decide_eq_true h) o1
                  · exact of_decide_eq_true h
                clear hout
                go_wp2_with (first | (go_at_call 37; refine CMin.mono ?_; rintro e w7 ⟨rfl, rfl⟩) | (go_at_call 38; refine CMax.mono ?_; rintro e w7 ⟨rfl, rfl⟩))
                go_ret3
                rw [hE, hF, hA]
                exact ⟨none, 0, none, 0, rfl, Rd.nil _ _ _, Rd.nil _ _ _, HB0.out, noFresh _, noFresh _⟩
  · have hE := gvE_pc he
    rw [pcV, if_neg he] at C1
    have hF : gvF L O m = [] := by rw [gvF, hE, if_neg he]
    have hA : gvA L O m = [] := by rw [gvA, hE, if_neg he]
    rw [hE, hF, hA]
    have hb : (pcE L O m != 0) = true := by simpa using he
    clear he h h' hE hF hA
    generalize pcE L O m = c at *
    go_enter Try.func14, Try.ntmps14
    go_wp2_with fail
    refine C1.mono ?_
    rintro e w1 ⟨rfl, hb1⟩
    go_wp2
    go_ret3
    exact ⟨none, 0, none, 0, rfl, Rd.nil _ _ _, Rd.nil _ _ _, hb1, noFresh _, noFresh _⟩
theorem hGive {w : World} {B C : Nat} {A A' : Option Addr} {L O : List Int} {cap cap' : Nat} (h : Rd w B A L) (h' : Rd w C A' O) (hB : B ≤ w.heap.size) (hC : C ≤ w.heap.size) (m : Int) :
    Calls Try.prog 14 #[.slice A L.length cap, .slice A' O.length cap', .int .i64 m] w (GiveRes w (gvF L O m) (gvA L O m) (gvE L O m)) :=
  (hGiveX h h' hB hC m).mono fun _ _ h => h.res
end Go.Proofs.Ytipidlonidihbaa

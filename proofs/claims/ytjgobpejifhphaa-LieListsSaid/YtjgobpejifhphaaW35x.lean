import Derived.Test.YtjgobpejifhphaaW35w
/-! Walks of chapter 35: List.
-/
namespace Go.Proofs.Ytjgobpejifhphaa
open Go.RowKit Go.Deep
set_option linter.unusedVariables false
set_option maxRecDepth 100000
attribute [local go_sem] Oper.semAt_some

theorem lRankings {w : World} (n : Int) : Calls Try.prog 45 #[.int .i64 n] w fun e w' => e = .returned (.func (.func 71) #[] #[.pointer (some ⟨w.heap.size, 0, none⟩)]) ∧ w' = w.alloc (.cells #[.int .i64 n] 3) := by
  go_enter Try.func45, Try.ntmps45
  go_wp2
  go_ret
  exact ⟨rfl, rfl⟩
theorem cellNew (w : World) (v : Value) (T : Nat) : (w.alloc (.cells #[v] T)).cell? ⟨w.heap.size, 0, none⟩ = some v := (cell_of_row _ _ 0 _ T (0, 0) (heap_alloc_new _ _)).trans rfl
theorem frozenNew (w : World) (v : Value) (T : Nat) : (w.alloc (.cells #[v] T)).frozen? ⟨w.heap.size, 0, none⟩ = false := frozen_of_row _ _ 0 _ T (heap_alloc_new _ _)
theorem cellOld {w : World} {p : Addr} {v : Value} (h : w.cell? p = some v) (o : Obj) : (w.alloc o).cell? p = some v := cell_kept ((Below.refl _ _).alloc (Nat.le_refl _) _) (Nat.le_refl _) h
theorem frozenOld {w : World} {p : Addr} (h : w.frozen? p = false) (hp : p.block < w.heap.size) (o : Obj) : (w.alloc o).frozen? p = false := (frozen_of_block (Below.heap_alloc w o _ hp)).trans h
theorem sizeA (w : World) (o : Obj) : (w.alloc o).heap.size = w.heap.size + 1 := by simp
/-- three new cells, one after another -/
theorem three (w : World) (v1 v2 v3 : Value) (T1 T2 T3 : Nat) (w3 : World) (h : ((w.alloc (.cells #[v1] T1)).alloc (.cells #[v2] T2)).alloc (.cells #[v3] T3) = w3) :
    Below w.heap.size w w3 ∧ w3.heap.size = w.heap.size + 3 ∧ w3.cell? ⟨w.heap.size, 0, none⟩ = some v1 ∧ w3.cell? ⟨w.heap.size + 1, 0, none⟩ = some v2 ∧ w3.cell? ⟨w.heap.size + 1 + 1, 0, none⟩ = some v3 ∧ w3.frozen? ⟨w.heap.size + 1, 0, none⟩ = false ∧ w3.frozen? ⟨w.heap.size + 1 + 1, 0, none⟩ = false := by
  have c1 := cellNew w v1 T1
  have c2 := cellNew (w.alloc (.cells #[v1] T1)) v2 T2
  have c3 := cellNew ((w.alloc (.cells #[v1] T1)).alloc (.cells #[v2] T2)) v3 T3
  have f2 := frozenNew (w.alloc (.cells #[v1] T1)) v2 T2
  have f3 := frozenNew ((w.alloc (.cells #[v1] T1)).alloc (.cells #[v2] T2)) v3 T3
  rw [sizeA] at c2 f2
  rw [sizeA, sizeA] at c3 f3
  subst h
  refine ⟨(((Below.refl _ _).alloc (Nat.le_refl _) _).alloc (by rw [sizeA]; omega) _).alloc (by rw [sizeA, sizeA]; omega) _, by rw [sizeA, sizeA, sizeA], cellOld (cellOld c1 _) _, cellOld c2 _, c3, frozenOld f2 (by rw [sizeA, sizeA]; show w.heap.size + 1 < _; omega) _, f3⟩
set_option maxHeartbeats 1000000 in
theorem lListE {w : World} {B C D : Nat} {A A' A3 : Option Addr} {O V : List Int} {R : List (List Int)} {cap cap' cap3 : Nat} (a : Int) (h : Rd w B A O) (h' : Rd2 w C A' R) (h3 : Rd w D A3 V) (hB : B ≤ w.heap.size) (hC : C ≤ w.heap.size) (hD : D ≤ w.heap.size) (hR : ∀ l ∈ R, l.length < 1000) :
    Calls Try.prog 19 #[.slice A O.length cap, .slice A' R.length cap', .int .i64 a, .slice A3 V.length cap3] w (RowNE w (lsL O R a V) (lsN O R a V) (lkd35 O R a V)) := by
  obtain ⟨w3, hw3⟩ : ∃ w3, ((w.alloc (.cells #[.slice A O.length cap] 22)).alloc (.cells #[.int .i64 a] 3)).alloc (.cells #[.slice A3 V.length cap3] 22) = w3 := ⟨_, rfl⟩
  obtain ⟨hb3, hs3, k4, k6, k7, _, _⟩ := three _ _ _ _ _ _ _ _ hw3
  have C1 := lLooked35 (cap := cap) (cap' := cap') (cap3 := cap3) a (h.below hb3 hB) (h'.below hb3 hC) (h3.below hb3 hD) (by rw [hs3]; omega) (by rw [hs3]; omega) (by rw [hs3]; omega) hR
  have HB3 := Lib.hid hb3
  have HS3 := Lib.hid hs3
  clear hb3 hs3
  by_cases hk : lkd35 O R a V = 0
  · obtain ⟨hor, hv, ha0, ha1⟩ := lkd35_zero hk
    obtain ⟨k, rfl⟩ : ∃ k : Nat, a = k := ⟨a.toNat, by omega⟩
    have hkR : k < R.length := by omega
    have HL : Hid (lsL O R k V = (bestL (hasW O R k V) (rkAll O.length) ([], -1)).1) := Lib.hid (by rw [lsL, if_pos hk]; rfl)
    have HN : Hid (lsN O R k V = (bestL (hasW O R k V) (rkAll O.length) ([], -1)).2) := Lib.hid (by rw [lsN, if_pos hk]; rfl)
    rw [hk] at C1 ⊢
    have CC : Hid (∀ u, Below w.heap.size w u → Calls Try.prog 44 #[.slice A' R.length cap'] u (RowsRes u C 22 R)) := Lib.hid fun u hu => cloneRows (h'.below hu hC) (Nat.le_trans hC hu.size) (by omega)
    have H := Lib.hid h
    have H3 := Lib.hid h3
    have HOR := Lib.hid hor
    have HV := Lib.hid hv
    clear hk h h' h3 hor hv ha0 ha1
    refine (callsIn_wide (n := 5)).1 (callsIn_of_wp_marks Try.func19 rfl trivial ?_ rfl)
    simp only [Try.ntmps19, List.size_toArray, List.length_cons, List.length_nil, Nat.reduceAdd, Nat.reduceSub, Array.replicate_succ, Array.replicate_zero, List.push_toArray, List.append_toArray, List.nil_append, List.cons_append]
    refine (wpIn_wide (n := 5)).2 ?_
    go_wp2_with fail
    refine C1.mono ?_
    rintro e w4 ⟨rfl, hb4⟩
    have k4' : w4.cell? ⟨w.heap.size, 0, none⟩ = some (.slice A O.length cap) := (hb4.cell (p := ⟨w.heap.size, 0, none⟩) (by show w.heap.size < _; rw [HS3.out]; omega)).trans k4
    have k6' : w4.cell? ⟨w.heap.size + 1, 0, none⟩ = some (.int .i64 (k : Int)) := (hb4.cell (p := ⟨w.heap.size + 1, 0, none⟩) (by show w.heap.size + 1 < _; rw [HS3.out]; omega)).trans k6
    have k7' : w4.cell? ⟨w.heap.size + 1 + 1, 0, none⟩ = some (.slice A3 V.length cap3) := (hb4.cell (p := ⟨w.heap.size + 1 + 1, 0, none⟩) (by show w.heap.size + 1 + 1 < _; rw [HS3.out]; omega)).trans k7
    have HB4 := Lib.hid (HB3.out.trans (hb4.mono HB3.out.size))
    have HS4 : Hid (w.heap.size + 3 ≤ w4.heap.size) := Lib.hid (by have := hb4.size; have := HS3.out; omega)
    clear hb4 k4 k6 k7 C1 HB3 HS3 hw3
    go_wp2_with fail
    refine (CC.out w4 HB4.out).mono ?_
    rintro e w5 ⟨gA, cA, vs, rfl, hgA, hown, hvs, hb5⟩
    have k4 := (cell_kept hb5 (Nat.le_refl _) k4')
    have k6 := (cell_kept hb5 (Nat.le_refl _) k6')
    have k7 := (cell_kept hb5 (Nat.le_refl _) k7')
    have HB5 := Lib.hid (HB4.out.trans (hb5.mono HB4.out.size))
    have HOW := Lib.hid hown
    have HVS := Lib.hid hvs
    have HGA := Lib.hid hgA
    clear hgA hown hvs hb5 k4' k6' k7' CC
    obtain ⟨w6, hw6⟩ : ∃ w6, ((w5.alloc (.cells #[.slice (some ⟨gA, 0, none⟩) R.length cA] 29)).alloc (.cells #[.slice none 0 0] 22)).alloc (.cells #[.int .i64 (-1)] 3) = w6 := ⟨_, rfl⟩
    obtain ⟨hb6, hs6, n12, n13, n14, f13, f14⟩ := three _ _ _ _ _ _ _ _ hw6
    have k4' := cell_kept hb6 (Nat.le_refl _) k4
    have k6' := cell_kept hb6 (Nat.le_refl _) k6
    have k7' := cell_kept hb6 (Nat.le_refl _) k7
    have HB6 := Lib.hid (HB5.out.trans (hb6.mono HB5.out.size))
    have HS6 := Lib.hid hs6
    have HOW6 := Lib.hid (row_below HOW.out hb6)
    have HGL : Hid (gA < w5.heap.size) := Lib.hid (HOW.out.lt gA rfl).2
    clear hb6 hs6 k4 k6 k7 HOW
    have CRK := lRankings (w := w6) (O.length : Int)
    go_wp2_with fail
    refine CRK.mono ?_
    rintro e w7 ⟨rfl, hw7⟩
    have hal7 := Below.alloc (B := w6.heap.size) (Below.refl _ w6) (Nat.le_refl _) (.cells #[.int .i64 (O.length : Int)] 3)
    have cm := cellNew w6 (.int .i64 (O.length : Int)) 3
    have hs7 := sizeA w6 (.cells #[.int .i64 (O.length : Int)] 3)
    rw [← hw7] at hal7 cm hs7
    clear hw7 hw6
    have hst : LSt w w5.heap.size gA cA 3 22 (.slice A O.length cap) (.slice A3 V.length cap3) C k R ([], -1) w7 :=
      ⟨HB6.out.trans (hal7.mono HB6.out.size), by rw [hs7, HS6.out]; omega, ⟨_, vs, row_below HOW6.out hal7, by have := HOW6.out.1; omega, fun j L _ hj => by
        obtain ⟨A1, c, h1, h2⟩ := HVS.out j L hj
        exact ⟨A1, c, h1, h2.back HB4.out hC⟩⟩, cell_kept hal7 (Nat.le_refl _) k4', cell_kept hal7 (Nat.le_refl _) k6', cell_kept hal7 (Nat.le_refl _) k7', cell_kept hal7 (Nat.le_refl _) n12, ⟨none, 0, cell_kept hal7 (Nat.le_refl _) n13, fun h => absurd h (by simp)⟩, (frozen_of_block (a := ⟨w5.heap.size + 1, 0, none⟩) (hal7.block _ (by show w5.heap.size + 1 < _; rw [HS6.out]; omega))).trans f13, cell_kept hal7 (Nat.le_refl _) n14, (frozen_of_block (a := ⟨w5.heap.size + 1 + 1, 0, none⟩) (hal7.block _ (by show w5.heap.size + 1 + 1 < _; rw [HS6.out]; omega))).trans f14⟩
    have HST := Lib.hid hst
    have HCM := Lib.hid cm
    have HS7 : Hid (w7.heap.size = w5.heap.size + 4) := Lib.hid (by rw [hs7, HS6.out])
    have hIt := lRankIt (w := w7) (s := w7.heap.size) (m := w6.heap.size) (n := O.length) rfl (by rw [hs7]; omega) cm HOR.out.o6
    have HIT := Lib.hid hIt
    have HM : Hid (w6.heap.size = w5.heap.size + 3) := HS6
    have hm7 : w6.heap.size < w7.heap.size := by rw [hs7]; omega
    have HGA2 : Hid (w.heap.size + 2 < gA ∧ gA < w5.heap.size) := Lib.hid ⟨by have := HS4.out; have := HGA.out; omega, HGL.out⟩
    clear hst cm hs7 hal7 HS6 HOW6 HVS n12 n13 n14 f13 f14 k4' k6' k7' CRK hIt
    go_wp2_with fail
    refine (wpIn_wide (n := 5)).1 ?_
    refine rangeRow (gf := 71) (lb := #[.pointer (some ⟨w6.heap.size, 0, none⟩)]) (T := 3) (len := O.length) (cap := O.length) (RK := rkAll O.length) (m := w6.heap.size) rfl (fun args u => by kernel_rfl) rfl hm7 HIT.out
      (fun k' W => LSt w w5.heap.size gA cA 3 22 (.slice A O.length cap) (.slice A3 V.length cap3) C k R (bestL (hasW O R k V) ((rkAll O.length).take k') ([], -1)) W)
      (fun k' X Y r h hg h1 h2 => h.turn hg (by rw [← HS7.out]; exact h1) (by rw [HS7.out] at h2; omega) HGA2.out.1 HGA2.out.2) HST.out ?a1 ?assign ?body ?done
    case assign =>
      intro l W K hK
      gi_wp2
      exact hK
    case body =>
      intro l k' x W hx hI hO
      have hs7 := HS7.out
      have hg2 := HGA2.out.1
      have hg3 := HGA2.out.2
      have hm3 := HM.out
      have hox := hO.lt
      have hW1s : (W.setCell ⟨gA, k, none⟩ (.slice (some ⟨w7.heap.size + 2, 0, none⟩) O.length O.length)).heap.size = W.heap.size := by simp [World.setCell]
      have hbW := hI.below
      have hbW1 := hbW.setCell (p := ⟨gA, k, none⟩) (by show w.heap.size ≤ gA; omega) (.slice (some ⟨w7.heap.size + 2, 0, none⟩) O.length O.length)
      have hperm := rkAll_perm (List.mem_of_getElem? hx)
      have hxl : x.length = O.length := by rw [← hperm.length_eq, iota_length]
      obtain ⟨base, us, hrow, hul, hur⟩ := hI.row
      have hst := hrow.stored k (.slice (some ⟨w7.heap.size + 2, 0, none⟩) O.length O.length)
      have hfz := hrow.frozenAt k
      obtain ⟨v0, hv0⟩ : ∃ v0, us[k]? = some v0 := ⟨us[k]'(by omega), by simp⟩
      have hc0 : W.cell? ⟨gA, k, none⟩ = some v0 := (hrow.cellAt k (by omega)).trans hv0
      have hO1 : Own (W.setCell ⟨gA, k, none⟩ (.slice (some ⟨w7.heap.size + 2, 0, none⟩) O.length O.length)) (w7.heap.size + 2) 3 x := hO.far (by show w7.heap.size + 2 ≠ gA; omega) _
      have hxi : ∀ y ∈ x, I64 y := fun y hy => by
        obtain ⟨g, rfl, hg⟩ := iota_mem.1 (hperm.mem_iff.2 hy)
        have := HOR.out.o6
        unfold I64; omega
      have hrx := hO1.rd hxi (by have := HOR.out.o6; omega) hO1.lt
      have hvr := rows_set (c := O.length) hul hur hbW1 hC hrx hkR
      rw [hxl] at hvr
      have hlen2 : (R.set k x).length = R.length := by simp
      have hst1 := hst.1
      rw [← hlen2] at hst1
      have hrd2 := rd2_of_row hst1 hvr (by rw [hlen2]; have := HOR.out.r6; omega)
      have CH := lHasW (cap := cap) (cap' := cA) (cap3 := cap3) (k : Int) (H.out.below hbW1 hB) hrd2 (H3.out.below hbW1 hD) (Nat.le_trans hB hbW1.size) (Nat.le_refl _) (Nat.le_trans hD hbW1.size) (HOR.out.set k hperm) HV.out
      rw [hlen2] at CH
      have hval : hasV O (R.set k x) (k : Int) V = hasW O R (k : Int) V x := by rw [hasW, Int.toNat_natCast]
      rw [hval] at CH
      have cel : ∀ (b : Nat) (v : Value), b ≠ gA → W.cell? ⟨b, 0, none⟩ = some v → (W.setCell ⟨gA, k, none⟩ (.slice (some ⟨w7.heap.size + 2, 0, none⟩) O.length O.length)).cell? ⟨b, 0, none⟩ = some v := fun b v hb hc => (World.cell?_of_block (a := ⟨b, 0, none⟩) (Below.heap_setCell W ⟨gA, k, none⟩ _ b hb)).trans hc
      have c12 := hI.c12
      have c6 := hI.c6
      have d4 := cel _ _ (by omega) hI.c4
      have d6 := cel _ _ (by omega) c6
      have d7 := cel _ _ (by omega) hI.c7
      have d12 := cel _ _ (by omega) c12
      have hbt := bestL_take (f := hasW O R k V) hx ([], -1)
      have HCH := Lib.hid CH
      have HI' := Lib.hid hI
      have HBT := Lib.hid hbt
      have HXL := Lib.hid hxl
      have HXI := Lib.hid hxi
      have HO := Lib.hid hO
      have hklt : (k : Int) < (R.length : Int) := by omega
      have hBel : Hid (∀ b, b < W.heap.size → b ≠ gA → (W.setCell ⟨gA, k, none⟩ (.slice (some ⟨w7.heap.size + 2, 0, none⟩) O.length O.length)).heap[b]? = W.heap[b]?) := Lib.hid fun b _ hb => Below.heap_setCell W ⟨gA, k, none⟩ _ b hb
      have HO1 := Lib.hid hO1
      have HW1S := Lib.hid hW1s
      clear hs7 hm3 hbW hbW1 hperm hrow hul hur hst hv0 hvr hlen2 hst1 hrd2 CH hval cel hI hbt hx hxl hxi hO hrx hO1 hW1s
      generalize hasW O R (k : Int) V x = n1 at *
      have hx6 : w5.heap.size + 6 < W.heap.size := by rw [HS7.out] at hox; omega
      have HX6 := Lib.hid hx6
      obtain ⟨r0, hr0⟩ : ∃ r0, r0 = bestL (hasW O R (k : Int) V) ((rkAll O.length).take k') ([], -1) := ⟨_, rfl⟩
      rw [← hr0] at HI' HBT
      have HM4 : Hid (w6.heap.size < W.heap.size ∧ w6.heap.size ≠ gA ∧ w6.heap.size ≠ w5.heap.size + 1 ∧ w6.heap.size ≠ w5.heap.size + 1 + 1) := Lib.hid ⟨by omega, by have := HM.out; omega, by have := HM.out; omega, by have := HM.out; omega⟩
      have HS8 : Hid (w5.heap.size + 4 ≤ w7.heap.size) := Lib.hid (by rw [HS7.out]; omega)
      clear hr0 hx6
      by_cases hg : r0.2 < n1
      · rw [if_pos hg] at HBT
        have d1 : decide (r0.2 < n1) = true := decide_eq_true hg
        clear hg
        generalize hr2 : r0.2 = g0 at *
        gi_wp2_with (first | (refine ⟨trivial, ?_⟩; gi_at_call 46; refine (CallsIn.inRound l (callsIn_wide.2 HCH.out)).mono ?_; rintro e W2 ⟨rfl, hb2⟩; have HI2 := Lib.hid (HI'.out.next hg2 hg3 hb2); have HB2 := Lib.hid hb2; have c14 : W2.cell? ⟨w5.heap.size + 1 + 1, 0, none⟩ = some (.int .i64 g0) := by { have := HI2.out.got; rw [hr2] at this; exact this }; clear hb2 HCH d4 d6 d7 d12 hc0 hfz c12 c6; have HCL := Lib.hid (cloneA (cap := O.length) ((((HO1.out.below HB2.out HO1.out.lt).rd HXI.out (by rw [HXL.out]; have := HOR.out.o6; omega) (Own.lt (HO1.out.below HB2.out HO1.out.lt)))) ) (Nat.le_refl _)); rw [HXL.out] at HCL))
        refine ⟨trivial, (CallsIn.inRound l (callsIn_wide.2 HCL.out)).mono ?_⟩
        rintro e W3 ⟨A9, c9, rfl, hp9, hb9⟩
        have hW2 : w5.heap.size + 6 < W2.heap.size := by have := HB2.out.size; rw [HW1S.out] at this; have := HX6.out; omega
        have HFIN := Lib.hid (HI2.out.better (n := n1) (c := c9) hg2 hg3 hW2 hb9 hp9)
        obtain ⟨Ab, cb, hcb, _⟩ := HI2.out.best
        have e13 := cell_kept hb9 (Nat.le_refl _) hcb
        have g13 : W3.frozen? ⟨w5.heap.size + 1, 0, none⟩ = false := (frozen_of_block (a := ⟨w5.heap.size + 1, 0, none⟩) (hb9.block _ (by show w5.heap.size + 1 < _; omega))).trans HI2.out.f13
        have g14 : (W3.setCell ⟨w5.heap.size + 1, 0, none⟩ (.slice A9 x.length c9)).frozen? ⟨w5.heap.size + 1 + 1, 0, none⟩ = false := by
          rw [World.frozen?_setCell]
          exact (frozen_of_block (a := ⟨w5.heap.size + 1 + 1, 0, none⟩) (hb9.block _ (by show w5.heap.size + 1 + 1 < _; omega))).trans HI2.out.f14
        have e14 : (W3.setCell ⟨w5.heap.size + 1, 0, none⟩ (.slice A9 x.length c9)).cell? ⟨w5.heap.size + 1 + 1, 0, none⟩ = some (.int .i64 g0) :=
          (World.cell?_of_block (a := ⟨w5.heap.size + 1 + 1, 0, none⟩) (Below.heap_setCell _ ⟨w5.heap.size + 1, 0, none⟩ _ _ (by show w5.heap.size + 1 + 1 ≠ w5.heap.size + 1; omega))).trans (cell_kept hb9 (Nat.le_refl _) c14)
        have HB9 := Lib.hid hb9
        have HW2 := Lib.hid hW2
        clear hcb hp9 hb9 hW2 HCL c14
        gi_wp2
        have hkeep : ∀ b, b < W.heap.size → b ≠ gA → b ≠ w5.heap.size + 1 → b ≠ w5.heap.size + 1 + 1 → ((W3.setCell ⟨w5.heap.size + 1, 0, none⟩ (.slice A9 x.length c9)).setCell ⟨w5.heap.size + 1 + 1, 0, none⟩ (.int .i64 n1)).heap[b]? = W.heap[b]? := fun b h1 h2 h3 h4 =>
          (Below.heap_setCell _ ⟨w5.heap.size + 1 + 1, 0, none⟩ _ b h4).trans ((Below.heap_setCell _ ⟨w5.heap.size + 1, 0, none⟩ _ b h3).trans ((HB9.out.block b (by have := HB2.out.size; rw [HW1S.out] at this; omega)).trans ((HB2.out.block b (by rw [HW1S.out]; exact h1)).trans (hBel.out b h1 h2))))
        have h8 := HS8.out
        refine ⟨hkeep _ (by omega) (by omega) (by omega) (by omega), hkeep _ (by omega) (by omega) (by omega) (by omega), hkeep _ (by omega) (by omega) (by omega) (by omega), hkeep _ HM4.out.1 HM4.out.2.1 HM4.out.2.2.1 HM4.out.2.2.2, ?_⟩
        show LSt _ _ _ _ _ _ _ _ _ _ _ (bestL (hasW O R (k : Int) V) ((rkAll O.length).take (k' + 1)) ([], -1)) _
        rw [HBT.out]
        exact HFIN.out
      · rw [if_neg hg] at HBT
        have d1 : decide (r0.2 < n1) = false := decide_eq_false hg
        clear hg
        generalize hr2 : r0.2 = g0 at *
        gi_wp2_with (first | (refine ⟨trivial, ?_⟩; gi_at_call 46; refine (CallsIn.inRound l (callsIn_wide.2 HCH.out)).mono ?_; rintro e W2 ⟨rfl, hb2⟩; have HI2 := Lib.hid (HI'.out.next hg2 hg3 hb2); have HB2 := Lib.hid hb2; have c14 : W2.cell? ⟨w5.heap.size + 1 + 1, 0, none⟩ = some (.int .i64 g0) := by { have := HI2.out.got; rw [hr2] at this; exact this }; clear hb2 HCH d4 d6 d7 d12 hc0 hfz c12 c6))
        have hkeep : ∀ b, b < W.heap.size → b ≠ gA → W2.heap[b]? = W.heap[b]? := fun b h1 h2 => (HB2.out.block b (by rw [HW1S.out]; exact h1)).trans (hBel.out b h1 h2)
        refine ⟨hkeep _ (by omega) (by have := HS8.out; omega), hkeep _ (by omega) (by have := HS8.out; omega), hkeep _ (by omega) (by have := HS8.out; omega), hkeep _ HM4.out.1 HM4.out.2.1, ?_⟩
        show LSt _ _ _ _ _ _ _ _ _ _ _ (bestL (hasW O R (k : Int) V) ((rkAll O.length).take (k' + 1)) ([], -1)) W2
        rw [HBT.out]
        exact HI2.out
    case done =>
      intro W hI hD
      rw [List.take_length] at hI
      obtain ⟨Ab, cb, hcb, hpb⟩ := hI.best
      have hcg := hI.got
      have HBW := Lib.hid hI.below
      have HPB := Lib.hid hpb
      have HDD := Lib.hid hD
      clear hI hpb hD
      have hok := bestR_ok (a := (k : Int)) HOR.out HV.out
      rw [bestR] at hok
      have hp9 := rkAll_perm hok.1
      have HI9 : Hid ((∀ y ∈ (bestL (hasW O R (k : Int) V) (rkAll O.length) ([], -1)).1, I64 y) ∧ (bestL (hasW O R (k : Int) V) (rkAll O.length) ([], -1)).1.length ≤ 6) := Lib.hid ⟨fun y hy => by
        obtain ⟨g, rfl, hg⟩ := iota_mem.1 (hp9.mem_iff.2 hy)
        have := HOR.out.o6
        unfold I64; omega, by rw [← hp9.length_eq, iota_length]; exact HOR.out.o6⟩
      clear hok hp9
      generalize bestL (hasW O R (k : Int) V) (rkAll O.length) ([], -1) = r9 at *
      obtain ⟨L9, n9⟩ := r9
      gi_wp2
      go_wp2_with fail
      go_quiet (fail)
      have HDQ : Hid ((W.drewN nq).heap[w7.heap.size]? = some (.deferred (some []))) := HDD
      have HBQ := Lib.hid (below_drewN HBW.out nq)
      have HPQ : Hid (0 < L9.length → ∃ g, Ab = some ⟨g, 0, none⟩ ∧ w5.heap.size + 6 < g ∧ OwnP (W.drewN nq) g 3 L9) := HPB
      generalize W.drewN nq = W9 at *
      go_wp2
      refine ⟨by simp, .inl ⟨_, _, rfl, run_takeDeferred HDQ.out, ?_⟩⟩
      rw [show lsL O R (k : Int) V = L9 from HL.out, show lsN O R (k : Int) V = n9 from HN.out]
      have h8 := HS7.out
      have hgr : W9.grownBy (W9.putObj w7.heap.size (.deferred none)) (some w7.heap.size) := grown_put _
      refine ⟨_, results_tmp3 rfl _ _ _, Ab, cb, rfl, ?_, HBQ.out.grown hgr HBQ.out.size (fun q hq => by cases hq; have := HGA2.out; omega)⟩
      by_cases h0 : 0 < L9.length
      · obtain ⟨g, rfl, hg, hP⟩ := HPQ.out h0
        have hP2 := hP.grown hgr (by simp; omega)
        exact hP2.rd HI9.out.1 (by have : L9.length ≤ 6 := HI9.out.2; omega) hP2.lt
      · obtain rfl : L9 = [] := List.eq_nil_of_length_eq_zero (by omega)
        exact Rd.nil _ _ _
  · have HL : Hid (lsL O R a V = []) := Lib.hid (by rw [lsL, if_neg hk])
    have HN : Hid (lsN O R a V = 0) := Lib.hid (by rw [lsN, if_neg hk])
    have hne : (lkd35 O R a V != 0) = true := by rw [bne_iff_ne]; exact hk
    rw [HL.out, HN.out]
    clear hk h h' h3 HL HN
    generalize lkd35 O R a V = c at *
    go_enter Try.func19, Try.ntmps19
    go_wp2_with fail
    refine C1.mono ?_
    rintro e w4 ⟨rfl, hb4⟩
    have HB4 := Lib.hid (HB3.out.trans (hb4.mono HB3.out.size))
    clear hb4 k4 k6 k7 C1 hw3
    go_wp2
    go_ret3
    exact ⟨none, 0, rfl, Rd.nil _ _ _, HB4.out⟩
end Go.Proofs.Ytjgobpejifhphaa

import Derived.Test.YtjgobpejifhphaaW35A
import Derived.Test.YtjgobpejifhphaaS35e
/-! Walks of chapter 35: the law of picks. -/
namespace Go.Proofs.Ytjgobpejifhphaa
open Go.RowKit Go.Deep
set_option linter.unusedVariables false
set_option maxRecDepth 100000

/-- block g is just the bools L -/
def OwnB (w : World) (g T : Nat) (L : List Bool) : Prop := w.heap[g]? = some (.cells (L.map Value.bool).toArray T (0, 0))
section
variable {w w' : World} {g T : Nat} {L : List Bool}
theorem OwnB.lt (h : OwnB w g T L) : g < w.heap.size := by
  rcases Nat.lt_or_ge g w.heap.size with hlt | hge
  · exact hlt
  · unfold OwnB at h; rw [Array.getElem?_eq_none hge] at h; cases h
theorem OwnB.cell (h : OwnB w g T L) {i : Nat} {x : Bool} (hx : L[i]? = some x) : w.cell? ⟨g, i, none⟩ = some (.bool x) := by
  rw [cell_of_row w g i _ T (0, 0) h]; simp [hx]
theorem OwnB.frozen (h : OwnB w g T L) (i : Nat) : w.frozen? ⟨g, i, none⟩ = false := by
  unfold OwnB at h
  simp [World.frozen?, h]
theorem OwnB.drew (h : OwnB w g T L) : OwnB w.drew g T L := h
theorem OwnB.drewN (h : OwnB w g T L) (n : Nat) : OwnB (w.drewN n) g T L := h
theorem OwnB.store (h : OwnB w g T L) (i : Nat) (x : Bool) : OwnB (w.setCell ⟨g, i, none⟩ (.bool x)) g T (L.set i x) := by
  unfold OwnB at h ⊢
  simp [World.setCell, Array.getElem?_modify, h, List.map_set]
theorem OwnB.made (w : World) (T n : Nat) : OwnB (w.alloc (.cells (madeCells #[Value.bool false] n) T)) w.heap.size T (List.replicate n false) := by
  have : madeCells #[Value.bool false] n = ((List.replicate n false).map Value.bool).toArray := by
    apply Array.ext
    · simp [madeCells]
    · intro i h1 h2
      simp [madeCells]
      have : i % 1 = 0 := Nat.mod_one i
      simp [this]
  rw [this]
  exact heap_alloc_new w _
end
theorem infoBool' : (Try.prog.info? 4).map (fun i => (i.zero, i.size, i.bytes)) = some (some (.bool false), 1, 1) := by kernel_rfl
set_option maxHeartbeats 2000000 in
theorem liePicks {w : World} {A A' : Option Addr} {O : List Int} {R : List (List Int)} {cap cap' : Nat} (h : Rd w w.heap.size A O) (h' : Rd2 w w.heap.size A' R) :
    Calls Try.prog 5 #[.slice A O.length cap, .slice A' R.length cap'] w fun e w' => e = .returned (.bool true) ∧ Below w.heap.size w w' := by
  have H := Lib.hid fun (u : World) (hu : Below w.heap.size w u) => h.below hu (Nat.le_refl _)
  have H' := Lib.hid fun (u : World) (hu : Below w.heap.size w u) => h'.below hu (Nat.le_refl _)
  have l1 := h.len
  have l2 := h'.len
  clear h h'
  go_enter Try.func5, Try.ntmps5
  go_wp2_with fail
  refine alive35.mono ?_
  rintro e w1 ⟨rfl, hb1⟩
  have HB1 := Lib.hid hb1
  clear hb1
  have hS := HB1.out.size
  by_cases hk : chk35 O R = 0
  · have hor := chk35_zero hk
    have hpk : pkL O R = pickK O R O.length := by rw [pkL, if_pos hk]
    have hrl : ∀ l ∈ R, l.length < 1000 := fun l hl => by have := (hor.ord l hl).length_eq; rw [iota_length] at this; have := hor.o6; omega
    have HRL := Lib.hid hrl
    have hmk := fun (u : World) => run_make_row' (P := Try.prog) 45 4 (.bool false) 1 Try.underlying45 infoBool' rfl .i64 .i64 O.length (by have := hor.o6; omega) (by have := hor.o6; omega) u
    have HOR := Lib.hid hor
    have l3 := hor.o6
    have l4 := hor.r6
    have hpl := pickK_length O R O.length
    have HPK := Lib.hid hpk
    have HK := Lib.hid hk
    clear hpk hor hrl hk
    go_wp2_with (go_at_call 17; refine (rCheck35 (cap := cap) (cap' := cap') (H.out _ HB1.out) (H'.out _ HB1.out)).mono ?_; rw [HK.out]; rintro e w' ⟨rfl, rfl⟩)
    refine (lPickE (cap := cap) (cap' := cap') (H.out _ HB1.out) (H'.out _ HB1.out) hS hS HRL.out).mono ?_
    rintro e w2 ⟨A1, c1, rfl, hr, hb2⟩
    rw [HK.out]
    rw [HPK.out] at hr
    rw [HPK.out, hpl]
    have HP := Lib.hid hr
    have HB2 := Lib.hid (HB1.out.trans (hb2.mono HB1.out.size))
    have hS2 := HB2.out.size
    have HPL := Lib.hid hpl
    clear hr hb2 hpl HPK
    go_wp2_with fail
    have HOB := Lib.hid (OwnB.made w2 4 O.length)
    have HB3 := Lib.hid (HB2.out.alloc hS2 (.cells (madeCells #[Value.bool false] O.length) 4))
    have HP3 := Lib.hid (HP.out.below ((Below.refl w2.heap.size w2).alloc (Nat.le_refl _) (.cells (madeCells #[Value.bool false] O.length) 4)) (Nat.le_refl _))
    rw [← goneK_zero O R] at HOB
    generalize w2.alloc (.cells (madeCells #[Value.bool false] O.length) 4) = w3 at *
    have HGL := Lib.hid hS2
    clear HP hmk HB2 hS2 hS HB1
    generalize w2.heap.size = g0 at *
    clear w2 w1
    go_loopw [9] (fun iv wr => ∃ k : Nat, k ≤ O.length ∧ iv = .int .i64 k ∧ Hid (OwnB wr g0 4 (goneK O R k)) ∧ Hid (Rd wr g0 A1 (pickK O R O.length)) ∧ Hid (Below w.heap.size w wr)) (fun iv _ => O.length - (intOf iv).toNat)
    case atStart => exact ⟨0, by omega, rfl, HOB, HP3, HB3⟩
    case round =>
      obtain ⟨k, hk, rfl, ho, hp, hb⟩ := hrel
      by_cases hlt : k < O.length
      · obtain ⟨b1, o1, i, rfl, hb1, hi, hi64, hci⟩ := (H.out _ hb.out).at_ hlt
        obtain ⟨a, gd, L, ha, ha2, hL, hperm, hgd, hgO, hst, hm1⟩ := turn_at HOR.out hlt
        rw [hi] at ha
        obtain rfl : i = (a : Int) := Option.some.inj ha
        obtain ⟨b2, o2, L', A2, c2, rfl, hb2, hL', hcL, hrd⟩ := (H'.out _ hb.out).at_ ha2
        rw [hL] at hL'
        obtain rfl : L = L' := Option.some.inj hL'
        have hll := HOR.out.len hL
        have HEND := Lib.hid (turn_end hgO hlt hst)
        have HNEXT := Lib.hid (ho.out.store gd true)
        rw [← goneK_set hst] at HNEXT
        have HB4 := Lib.hid (hb.out.setCell (p := ⟨g0, gd, none⟩) HGL.out (.bool true))
        have HP4 := Lib.hid (Rd.below hp.out (((Below.refl g0 wr)).setCell (p := ⟨g0, gd, none⟩) (Nat.le_refl _) (.bool true)) (Nat.le_refl _))
        have HRD := Lib.hid hrd
        have HGD := Lib.hid hgd
        have HMEM : Hid (∀ x ∈ L, ∃ g : Nat, x = g ∧ g < O.length) := Lib.hid fun x hx => HOR.out.mem hL hx
        have HLL := Lib.hid hll
        obtain ⟨y, hy⟩ : ∃ y, (goneK O R k)[gd]? = some y := ⟨(goneK O R k)[gd]'(by rw [goneK_length]; exact hgO), by simp⟩
        have HCY := Lib.hid (ho.out.cell hy)
        have HFY := Lib.hid (ho.out.frozen gd)
        have hL6 : L.length ≤ 6 := by omega
        clear hst hgd hi64 hi ha hL hL' hll hrd hy hm1 hperm
        go_wp2_with fail
        generalize wr = wi at *
        go_loop [11] (fun iv => ∃ q : Nat, q ≤ O.length ∧ iv = .int .i64 q ∧ Hid ((L.drop q).find? (freeG (pickK O R k)) = some (gd : Int))) (fun iv => O.length - (intOf iv).toNat)
        case atStart => exact ⟨0, by omega, rfl, HGD⟩
        case round =>
          obtain ⟨q, hq, rfl, hf⟩ := hrel
          by_cases hql : q < O.length
          · obtain ⟨b3, o3, x, rfl, hb3, hx, _, hcx⟩ := HRD.out.at_ (k := q) (by rw [HLL.out]; exact hql)
            obtain ⟨g, rfl, hgO2⟩ := HMEM.out x (List.mem_of_getElem? hx)
            have hstep := find_drop hx hf.out
            have hqL : (q : Int) < (L.length : Int) := by have := HLL.out; omega
            obtain ⟨z, hz⟩ : ∃ z, (pickK O R k)[g]? = some z := ⟨(pickK O R k)[g]'(by rw [pickK_length]; exact hgO2), by simp⟩
            have hzb : (goneK O R k)[g]? = some (decide (0 ≤ z)) := by rw [goneK, List.getElem?_map, hz]; rfl
            have hcz := ho.out.cell hzb
            have hfz : freeG (pickK O R k) (g : Int) = !decide (0 ≤ z) := by
              rw [freeG, Int.toNat_natCast, List.getD_eq_getElem?_getD, hz, Option.getD_some]
              by_cases h0 : 0 ≤ z
              · rw [decide_eq_true h0, decide_eq_false (by omega)]; rfl
              · rw [decide_eq_false h0, decide_eq_true (by omega)]; rfl
            rw [hfz] at hstep
            generalize decide (0 ≤ z) = zb at *
            clear hx hz hfz hzb
            rcases hstep with ⟨h1, h2⟩ | ⟨h1, h2⟩
            · obtain rfl : g = gd := by omega
              obtain rfl : zb = false := by simpa using h1
              have hcy := HCY.out
              have hfy := HFY.out
              have hcP := hp.out.at_ (k := g) (by rw [HPL.out]; exact hgO2)
              obtain ⟨b4, o4, v4, rfl, hb4, hv4, _, hc4⟩ := hcP
              rw [HEND.out] at hv4
              obtain rfl : (a : Int) = v4 := Option.some.inj hv4
              clear h2 hv4 h1
              go_wp2
              go_roundw
              case rel => exact ⟨k + 1, by omega, by go_num, HNEXT, HP4, HB4⟩
              case measure => simp [intOf]; omega
            · obtain rfl : zb = true := by simpa using h1
              have HF := Lib.hid h2
              clear h2
              go_wp2
              go_round
              case rel => exact ⟨q + 1, by omega, by go_num, HF⟩
              case measure => simp [intOf]; omega
          · exfalso
            have := hf.out
            rw [List.drop_eq_nil_of_le (by rw [HLL.out]; omega)] at this
            simp at this
      · go_wp2
        go_ret
        exact ⟨rfl, hb.out⟩
  · have hne : (chk35 O R != 0) = true := by rw [bne_iff_ne]; exact hk
    have C1 := rCheck35 (cap := cap) (cap' := cap') (H.out _ HB1.out) (H'.out _ HB1.out)
    generalize chk35 O R = c at *
    clear hk
    go_wp2_with (go_at_call 17; refine C1.mono ?_; rintro e w' ⟨rfl, rfl⟩)
    go_ret
    exact ⟨rfl, HB1.out⟩
end Go.Proofs.Ytjgobpejifhphaa

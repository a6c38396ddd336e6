import Derived.Test.YtjgobpejifhphaaW35p
/-! Walks of chapter 35: the reference's True.
-/
namespace Go.Proofs.Ytjgobpejifhphaa
open Go.RowKit Go.Deep
set_option linter.unusedVariables false
set_option maxRecDepth 100000

theorem plcT {V : List Int} {g q : Nat} {v x : Int} (hv : V[q]? = some v) (hx : V[g]? = some x) :
    plc [] V g (q + 1) = if x < v ∨ (v = x ∧ q < g) then plc [] V g q + 1 else plc [] V g q := by
  have ha : ahd [] V q g = if v ≠ x then decide (x < v) else decide (q < g) := by
    rw [ahd, List.getD_eq_getElem?_getD, hv, List.getD_eq_getElem?_getD, hx, ahdV]
    simp
  by_cases hqg : q = g
  · subst hqg
    rw [hv] at hx
    cases hx
    rw [plc_self rfl, if_neg (by omega)]
  · cases hc : ahd [] V q g
    · rw [plc_no hc, if_neg]
      rw [hc] at ha
      split at ha
      · have := of_decide_eq_false ha.symm; omega
      · have := of_decide_eq_false ha.symm; omega
    · rw [plc_yes hqg hc, if_pos]
      rw [hc] at ha
      split at ha
      · have := of_decide_eq_true ha.symm; omega
      · have := of_decide_eq_true ha.symm; omega
set_option maxHeartbeats 2000000 in
theorem rTrueE {w : World} {B : Nat} {A : Option Addr} {V : List Int} {cap : Nat} (h : Rd w B A V) (hB : B ≤ w.heap.size) :
    Calls Try.prog 28 #[.slice A V.length cap] w (RowE w (trL V) (val35 V)) := by
  have C1 := rVals (cap := cap) h
  by_cases hk : val35 V = 0
  · obtain ⟨h6, hbd⟩ := val35_zero hk
    have hmk := fun u => run_make_row' (P := Try.prog) 22 3 (.int .i64 0) 8 Try.underlying22 infoInt' rfl .i64 .i64 V.length (by omega) (by omega) u
    have HL : Hid (trL V = truL V) := Lib.hid (by rw [trL, if_pos hk])
    rw [hk] at C1 ⊢
    have H := Lib.hid h
    clear hk h hbd
    go_enter Try.func28, Try.ntmps28
    go_wp2_with (go_at_call 18; refine C1.mono ?_; rintro e w' ⟨rfl, rfl⟩)
    clear hmk C1
    have hown := Own.made w 3 V.length
    have hb2 := Below.alloc (B := w.heap.size) (Below.refl _ w) (Nat.le_refl _) (.cells (madeCells #[Value.int .i64 0] V.length) 3)
    have HOWN := Lib.hid hown
    have HB2 := Lib.hid hb2
    clear hown hb2
    generalize w.alloc (.cells (madeCells #[Value.int .i64 0] V.length) 3) = w2 at *
    go_loopw [5] (fun i wr => ∃ (k : Nat) (D : List Int), k ≤ V.length ∧ i = .int .i64 k ∧ Hid (Own wr w.heap.size 3 D) ∧ Hid (Below w.heap.size w wr) ∧ Hid (WrAt [] V k D)) (fun i _ => V.length - (intOf i).toNat)
    case atStart => exact ⟨0, _, by omega, rfl, HOWN, HB2, Lib.hid ⟨by simp, by intro i hi; omega⟩⟩
    case round =>
      obtain ⟨k, D, hk, rfl, ho, hw, hr⟩ := hrel
      by_cases hlt : k < V.length
      · have hp := at_place (C := []) hlt
        have hpl := hp.2
        have hnext := Lib.hid (hr.out.next hlt)
        obtain ⟨y, hy⟩ : ∃ y, D[place [] V k]? = some y := ⟨D[place [] V k]'(by rw [hr.out.len]; exact hpl), by simp⟩
        have HY := Lib.hid hy
        have HDL := Lib.hid hr.out.len
        clear hp hy hr
        obtain ⟨b1, o1, x, rfl, hb1, hx, hx64, hcx⟩ := H.out.at_ hlt
        have HX := Lib.hid hx
        clear hx hx64 hcx
        have HBO : Hid (b1 < w.heap.size) := Lib.hid (by omega)
        go_wp2_with fail
        generalize wr = wo at *
        go_loopw [6, 7] (fun at_ qv wr => ∃ q : Nat, q ≤ V.length ∧ qv = .int .i64 q ∧ at_ = .int .i64 (plc [] V k q : Nat) ∧ Hid (Own wr w.heap.size 3 D) ∧ Hid (Below w.heap.size w wr)) (fun _ qv _ => V.length - (intOf qv).toNat)
        case atStart => exact ⟨0, by omega, rfl, by simp [plc], ho, hw⟩
        case round =>
          obtain ⟨q, hq, rfl, rfl, ho, hw⟩ := hrel
          by_cases hql : q < V.length
          · have hrd := H.out.below hw.out hB
            obtain ⟨bb, oo, v, e1, hbb, hv, hv64, hcv⟩ := hrd.at_ hql
            obtain ⟨bc, oc, x', e2, hbc, hx', hx64, hcx⟩ := hrd.at_ hlt
            cases e1
            cases e2
            rw [HX.out] at hx'
            cases hx'
            have hst := plcT hv HX.out
            have hple := plc_le [] V k q
            clear hrd hv
            have hki : (k : Int) < (V.length : Int) := by omega
            have hqi : (q : Int) < (V.length : Int) := by omega
            by_cases c1 : x < v
            · rw [if_pos (.inl c1)] at hst
              have HST := Lib.hid hst
              have d1 : decide (x < v) = true := decide_eq_true c1
              clear hst
              generalize plc [] V k q = n1 at *
              go_wp2_with fail
              go_quiet (fail)
              have HO := Lib.hid (ho.out.drewN nq)
              have HW := Lib.hid (below_drewN hw.out nq)
              go_wp2
              go_roundw
              case rel => exact ⟨q + 1, by omega, by go_num, by rw [HST.out]; go_num, HO, HW⟩
              case measure => simp [intOf]; omega
            · have d1 : decide (x < v) = false := decide_eq_false c1
              by_cases c2 : v = x
              · have d2 : (v == x) = true := by rw [beq_iff_eq]; exact c2
                by_cases c3 : q < k
                · rw [if_pos (.inr ⟨c2, c3⟩)] at hst
                  have d3 : decide ((q : Int) < (k : Int)) = true := decide_eq_true (by omega)
                  have HST := Lib.hid hst
                  clear hst c2
                  generalize plc [] V k q = n1 at *
                  go_wp2_with fail
                  go_quiet (fail)
                  have HO := Lib.hid (ho.out.drewN nq)
                  have HW := Lib.hid (below_drewN hw.out nq)
                  go_wp2
                  go_roundw
                  case rel => exact ⟨q + 1, by omega, by go_num, by rw [HST.out]; go_num, HO, HW⟩
                  case measure => simp [intOf]; omega
                · rw [if_neg (by omega)] at hst
                  have d3 : decide ((q : Int) < (k : Int)) = false := decide_eq_false (by omega)
                  have HST := Lib.hid hst
                  clear hst c2
                  generalize plc [] V k q = n1 at *
                  go_wp2_with fail
                  go_quiet (fail)
                  have HO := Lib.hid (ho.out.drewN nq)
                  have HW := Lib.hid (below_drewN hw.out nq)
                  go_wp2
                  go_roundw
                  case rel => exact ⟨q + 1, by omega, by go_num, by rw [HST.out], HO, HW⟩
                  case measure => simp [intOf]; omega
              · have d2 : (v == x) = false := by rw [beq_eq_false_iff_ne]; exact c2
                rw [if_neg (by omega)] at hst
                have HST := Lib.hid hst
                clear hst c2
                generalize plc [] V k q = n1 at *
                go_wp2_with fail
                go_quiet (fail)
                have HO := Lib.hid (ho.out.drewN nq)
                have HW := Lib.hid (below_drewN hw.out nq)
                go_wp2
                go_roundw
                case rel => exact ⟨q + 1, by omega, by go_num, by rw [HST.out], HO, HW⟩
                case measure => simp [intOf]; omega
          · obtain rfl : q = V.length := by omega
            have hpe : plc [] V k V.length = place [] V k := rfl
            rw [hpe]
            have c1 := ho.out.cell HY.out
            have f1 := ho.out.frozen (place [] V k)
            have HO4 := Lib.hid (ho.out.store (place [] V k) (k : Int))
            have HB4 := Lib.hid (hw.out.setCell (p := ⟨w.heap.size, place [] V k, none⟩) (Nat.le_refl _) (.int .i64 (k : Int)))
            clear hpe
            generalize place [] V k = pk at *
            go_wp2
            go_roundw
            case rel => exact ⟨k + 1, _, by omega, by go_num, HO4, HB4, hnext⟩
            case measure => simp [intOf]; omega
      · obtain rfl : k = V.length := by omega
        have hD := hr.out.done
        have HD := Lib.hid hD
        clear hD
        go_wp2
        go_ret2
        rw [HL.out]
        refine ⟨some ⟨w.heap.size, 0, none⟩, V.length, by rw [truL_length]; rfl, ?_, hw.out⟩
        have hO := ho.out
        rw [HD.out] at hO
        exact tr_rd hO.pre (by omega)
  · have HL : Hid (trL V = []) := Lib.hid (by rw [trL, if_neg hk])
    have hne : (val35 V != 0) = true := by rw [bne_iff_ne]; exact hk
    rw [HL.out]
    clear hk h
    generalize val35 V = c at *
    go_enter Try.func28, Try.ntmps28
    go_wp2_with (go_at_call 18; refine C1.mono ?_; rintro e w' ⟨rfl, rfl⟩)
    go_ret2
    exact RowE.none_ _ _ _ (Below.refl _ _)
end Go.Proofs.Ytjgobpejifhphaa

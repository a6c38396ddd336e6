import Derived.Test.YtjgobpejifhphaaW35k
/-! Walks of chapter 35: the reference's picked; Pick; has.
-/
namespace Go.Proofs.Ytjgobpejifhphaa
open Go.RowKit Go.Deep
set_option linter.unusedVariables false
set_option maxRecDepth 100000

theorem find_drop {p : Int → Bool} {L : List Int} {q : Nat} {x g : Int} (hx : L[q]? = some x) (h : (L.drop q).find? p = some g) : (p x = true ∧ x = g) ∨ (p x = false ∧ (L.drop (q + 1)).find? p = some g) := by
  rw [dropA_of hx] at h
  by_cases hp : p x = true
  · rw [List.find?_cons_of_pos hp] at h
    cases h
    exact .inl ⟨hp, rfl⟩
  · rw [List.find?_cons_of_neg hp] at h
    exact .inr ⟨by simpa using hp, h⟩
set_option maxHeartbeats 1000000 in
theorem rPickW {w : World} {B C : Nat} {A A' : Option Addr} {O : List Int} {R : List (List Int)} {cap cap' : Nat} (h : Rd w B A O) (h' : Rd2 w C A' R) (hB : B ≤ w.heap.size) (hC : C ≤ w.heap.size) (hor : OR O R) :
    Calls Try.prog 54 #[.slice A O.length cap, .slice A' R.length cap'] w (NewOwn w 3 (pickK O R O.length)) := by
  have HOR := Lib.hid hor
  have H := Lib.hid h
  have H' := Lib.hid h'
  have l1 := hor.o6
  have l2 := hor.r6
  have hmk := run_make_row' (P := Try.prog) 22 3 (.int .i64 0) 8 Try.underlying22 infoInt' rfl .i64 .i64 O.length (by omega) (by omega) w
  have hown := Own.made w 3 O.length
  have hb0 := Below.alloc (B := w.heap.size) (Below.refl _ w) (Nat.le_refl _) (.cells (madeCells #[Value.int .i64 0] O.length) 3)
  have HOWN := Lib.hid hown
  have HB0 := Lib.hid hb0
  clear h h' hor hown hb0
  go_enter Try.func54, Try.ntmps54
  generalize w.alloc (.cells (madeCells #[Value.int .i64 0] O.length) 3) = w2 at *
  go_wp2_with fail
  clear hmk
  go_loopw [6] (fun iv wr => ∃ (k : Nat) (L : List Int), k ≤ O.length ∧ iv = .int .i64 k ∧ Hid (L.length = O.length) ∧ Hid (∀ j, j < k → L[j]? = some (-1)) ∧ Hid (Own wr w.heap.size 3 L) ∧ Hid (Below w.heap.size w wr)) (fun iv _ => O.length - (intOf iv).toNat)
  case atStart => exact ⟨0, _, by omega, rfl, Lib.hid (by simp), Lib.hid (fun j hj => by omega), HOWN, HB0⟩
  case round =>
    obtain ⟨k, L, hk, rfl, hl, hv, ho, hb⟩ := hrel
    by_cases hlt : k < O.length
    · obtain ⟨y, hy⟩ : ∃ y, L[k]? = some y := ⟨L[k]'(by rw [hl.out]; exact hlt), by simp⟩
      have c1 := ho.out.cell hy
      have f1 := ho.out.frozen k
      have HO := Lib.hid (ho.out.store k (-1))
      have HB := Lib.hid (hb.out.setCell (p := ⟨w.heap.size, k, none⟩) (Nat.le_refl _) (.int .i64 (-1)))
      have HL : Hid ((L.set k (-1)).length = O.length) := Lib.hid (by rw [List.length_set]; exact hl.out)
      have HV : Hid (∀ j, j < k + 1 → (L.set k (-1))[j]? = some (-1)) := Lib.hid (fun j hj => by
        by_cases e : j = k
        · rw [e, List.getElem?_set_self (by rw [hl.out]; exact hlt)]
        · rw [List.getElem?_set_ne (by omega)]; exact hv.out j (by omega))
      clear hy
      go_wp2
      go_roundw
      case rel => exact ⟨k + 1, _, by omega, by go_num, HL, HV, HO, HB⟩
      case measure => simp [intOf]; omega
    · obtain rfl : k = O.length := by omega
      have hL : L = pickK O R 0 := by
        rw [pickK]
        apply List.ext_getElem?
        intro j
        rcases Nat.lt_or_ge j O.length with h | h
        · rw [hv.out j h]; simp [h]
        · rw [List.getElem?_eq_none (by rw [hl.out]; exact h), List.getElem?_eq_none (by simpa using h)]
      rw [hL] at ho
      clear hL hv hl hlt hk L
      go_wp2_with fail
      have HO1 := ho
      have HB1 := hb
      clear ho hb
      generalize wr = wo at *
      go_loopw [7] (fun iv wr => ∃ k : Nat, k ≤ O.length ∧ iv = .int .i64 k ∧ Hid (Own wr w.heap.size 3 (pickK O R k)) ∧ Hid (Below w.heap.size w wr)) (fun iv _ => O.length - (intOf iv).toNat)
      case atStart => exact ⟨0, by omega, rfl, HO1, HB1⟩
      case round =>
        obtain ⟨k, hk, rfl, ho, hb⟩ := hrel
        by_cases hlt : k < O.length
        · obtain ⟨b1, o1, i, rfl, hb1, hi, hi64, hci⟩ := (H.out.below hb.out hB).at_ hlt
          obtain ⟨a, rfl, ha⟩ := HOR.out.at_ hi
          obtain ⟨b2, o2, L, A2, c2, rfl, hb2, hL, hcL, hrd⟩ := (H'.out.below hb.out hC).at_ ha
          obtain ⟨gd, hgd, hgl⟩ := pick_some HOR.out hlt (HOR.out.ord L (List.mem_of_getElem? hL))
          have hll := HOR.out.len hL
          have hpl := pickK_length O R k
          have hst := pickK_at (L := L) hi (by rw [Int.toNat_natCast]; exact hL) hgd
          rw [Int.toNat_natCast] at hst
          have hnext := ho.out.drew.store gd (a : Int)
          rw [← hst] at hnext
          obtain ⟨y, hy⟩ : ∃ y, (pickK O R k)[gd]? = some y := ⟨(pickK O R k)[gd]'(by omega), by simp⟩
          have HCY := Lib.hid (ho.out.cell hy)
          have HFY := Lib.hid (ho.out.frozen gd)
          have HNEXT := Lib.hid hnext
          have HB3 := Lib.hid (hb.out.drew.setCell (p := ⟨w.heap.size, gd, none⟩) (Nat.le_refl _) (.int .i64 (a : Int)))
          have HRD := Lib.hid hrd
          have HGD := Lib.hid hgd
          have HMEM : Hid (∀ x ∈ L, ∃ g : Nat, x = g ∧ g < O.length) := Lib.hid fun x hx => HOR.out.mem hL hx
          have HPL := Lib.hid hpl
          have HLL := Lib.hid hll
          have hL6 : L.length ≤ 6 := by omega
          clear hnext hst hpl hgd hi64 hi hL hll hrd hy HO1 HB1
          go_wp2_with fail
          generalize wr = wi at *
          go_loop [9] (fun iv => ∃ q : Nat, q ≤ L.length ∧ iv = .int .i64 q ∧ Hid ((L.drop q).find? (freeG (pickK O R k)) = some (gd : Int))) (fun iv => L.length - (intOf iv).toNat)
          case atStart => exact ⟨0, by omega, rfl, HGD⟩
          case round =>
            obtain ⟨q, hq, rfl, hf⟩ := hrel
            by_cases hql : q < L.length
            · obtain ⟨b3, o3, x, rfl, hb3, hx, _, hcx⟩ := HRD.out.at_ hql
              obtain ⟨g, rfl, hgO⟩ := HMEM.out x (List.mem_of_getElem? hx)
              have hstep := find_drop hx hf.out
              obtain ⟨z, hz⟩ : ∃ z, (pickK O R k)[g]? = some z := ⟨(pickK O R k)[g]'(by rw [HPL.out]; exact hgO), by simp⟩
              have hcz := ho.out.cell hz
              have hfz : freeG (pickK O R k) (g : Int) = decide (z < 0) := by rw [freeG, Int.toNat_natCast, List.getD_eq_getElem?_getD, hz]; rfl
              rw [hfz] at hstep
              clear hx hz hfz
              rcases hstep with ⟨h1, h2⟩ | ⟨h1, h2⟩
              · obtain rfl : g = gd := by omega
                have hcy := HCY.out
                have hfy := HFY.out
                clear h2
                go_wp2_with fail
                go_still_tail 10, (by kernel_rfl)
                change wpList _ _ _ _ _ wi.drew
                have hcy' : wi.drew.cell? ⟨w.heap.size, g, none⟩ = some (.int .i64 y) := hcy
                have hfy' : wi.drew.frozen? ⟨w.heap.size, g, none⟩ = false := hfy
                go_wp2
                go_roundw
                case rel => exact ⟨k + 1, by omega, by go_num, HNEXT, HB3⟩
                case measure => simp [intOf]; omega
              · have HF := Lib.hid h2
                clear h2
                go_wp2
                go_round
                case rel => exact ⟨q + 1, by omega, by go_num, HF⟩
                case measure => simp [intOf]; omega
            · exfalso
              have := hf.out
              rw [List.drop_eq_nil_of_le (by omega)] at this
              simp at this
        · obtain rfl : k = O.length := by omega
          go_wp2
          go_ret
          exact ⟨w.heap.size, by rw [pickK_length]; rfl, Nat.le_refl _, ho.out, hb.out⟩
end Go.Proofs.Ytjgobpejifhphaa

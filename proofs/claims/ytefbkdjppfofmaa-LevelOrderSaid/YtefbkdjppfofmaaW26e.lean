import Derived.Test.YtefbkdjppfofmaaW26d
/-! Walks of chapter 26: Check, of the reference. -/
namespace Go.Proofs.Ytefbkdjppfofmaa
open Go.RowKit Go.Deep
set_option linter.unusedVariables false
set_option maxRecDepth 100000

theorem any_drop {α : Type} {L : List α} {k : Nat} {x : α} {p : α → Bool} (h : L[k]? = some x) : (L.drop k).any p = (p x || (L.drop (k + 1)).any p) := by rw [dropA_of h]; rfl
theorem any_end {α : Type} {L : List α} {k : Nat} {p : α → Bool} (h : L.length ≤ k) : (L.drop k).any p = false := by rw [List.drop_eq_nil_of_le h]; rfl
set_option maxHeartbeats 1000000 in
theorem lrCheck26 {w : World} {B : Nat} {A : Option Addr} {W : List (List Bool)} {cap : Nat} (h : RdB2 w B A W) (hB : B ≤ w.heap.size) :
    Calls Try.prog 18 #[.slice A W.length cap] w fun e w' => e = .returned (.int .i64 (chk26 W)) ∧ Below w.heap.size w w' := by
  have hlen := h.len
  have H := Lib.hid h
  by_cases h6 : 6 < W.length
  · have HR : Hid (chk26 W = 4) := Lib.hid (by rw [chk26, if_pos (.inl h6)])
    clear h
    go_enter Try.func18, Try.ntmps18
    go_wp2
    go_ret
    exact ⟨ret_int HR.out.symm, Below.refl _ _⟩
  · have HR0 : Hid ((W.any fun l => decide (10 < l.length)) = true → chk26 W = 4) := Lib.hid (fun q => by rw [chk26, if_pos (.inr q)])
    have HR1 : Hid ((W.any fun l => decide (10 < l.length)) = false → chk26 W = if W = [] ∨ (W.any fun l => decide (l.length ≠ (W.getD 0 []).length)) = true then 8 else 0) := Lib.hid (fun q => by
      rw [chk26, if_neg]
      rintro (q' | q')
      · exact h6 q'
      · rw [q] at q'; cases q')
    have H6 := Lib.hid h6
    clear h
    go_enter Try.func18, Try.ntmps18
    go_wp2_with fail
    go_loopw [3] (fun iv wr => ∃ (k : Nat), k ≤ W.length ∧ iv = .int .i64 k ∧ Hid ((W.drop k).any (fun l => decide (10 < l.length)) = W.any fun l => decide (10 < l.length)) ∧ Hid (Below w.heap.size w wr)) (fun iv _ => W.length - (intOf iv).toNat)
    case atStart => exact ⟨0, by omega, rfl, Lib.hid (by simp), Lib.hid (Below.refl _ _)⟩
    case round =>
      obtain ⟨k, hk, rfl, hr, hw⟩ := hrel
      by_cases hlt : k < W.length
      · obtain ⟨b, off, x, A1, c1, rfl, hb, hx, hc, hrd⟩ := (H.out.below hw.out hB).at_ hlt
        have HA := Lib.hid (any_drop (p := fun l : List Bool => decide (10 < l.length)) hx)
        clear hrd hx hb
        by_cases h10 : 10 < x.length
        · have HT : Hid (chk26 W = 4) := Lib.hid (HR0.out (by rw [← hr.out, HA.out, decide_eq_true h10]; rfl))
          go_wp2
          go_ret
          exact ⟨ret_int HT.out.symm, hw.out⟩
        · have HN : Hid ((W.drop (k + 1)).any (fun l => decide (10 < l.length)) = W.any fun l => decide (10 < l.length)) := Lib.hid (by rw [← hr.out, HA.out, decide_eq_false h10, Bool.false_or])
          go_wp2
          go_roundw
          case rel => exact ⟨k + 1, by omega, by go_num, HN, hw⟩
          case measure => simp [intOf]; omega
      · have HQ : Hid (chk26 W = if W = [] ∨ (W.any fun l => decide (l.length ≠ (W.getD 0 []).length)) = true then 8 else 0) := Lib.hid (HR1.out (by rw [← hr.out, any_end (by omega)]))
        clear hr HR0 HR1
        by_cases h0 : W = []
        · have HT : Hid (chk26 W = 8) := Lib.hid (by rw [HQ.out, if_pos (.inl h0)])
          have hl0 : W.length = 0 := by rw [h0]; rfl
          have hb0 : ((W.length : Int) == 0) = true := by rw [h0]; rfl
          clear h0
          go_wp2
          go_ret
          exact ⟨ret_int HT.out.symm, hw.out⟩
        · have h00 : 0 < W.length := List.length_pos_iff.2 h0
          have hb0 : ((W.length : Int) == 0) = false := by simpa using h0
          have HZ := Lib.hid h0
          clear h0
          go_wp2_with fail
          go_loopw [4] (fun iv wr => ∃ (k : Nat), k ≤ W.length ∧ iv = .int .i64 k ∧ Hid ((W.drop k).any (fun l => decide (l.length ≠ (W.getD 0 []).length)) = W.any fun l => decide (l.length ≠ (W.getD 0 []).length)) ∧ Hid (Below w.heap.size w wr)) (fun iv _ => W.length - (intOf iv).toNat)
          case atStart => exact ⟨0, by omega, rfl, Lib.hid (by simp), hw⟩
          case round =>
            rename World => wr
            clear hw hk hlt
            obtain ⟨k, hk, rfl, hr, hw⟩ := hrel
            by_cases hlt : k < W.length
            · obtain ⟨b, off, x, A1, c1, hA, hb, hx, hc, hrd⟩ := (H.out.below hw.out hB).at_ hlt
              obtain ⟨b', off', row, A2, c2, hA', hb', hrow, hc2, hrd2⟩ := (H.out.below hw.out hB).at_ h00
              subst hA
              cases hA'
              rw [Nat.add_zero] at hc2
              have e : W.getD 0 [] = row := by rw [List.getD_eq_getElem?_getD, hrow]; rfl
              have HA := Lib.hid (any_drop (p := fun l : List Bool => decide (l.length ≠ (W.getD 0 []).length)) hx)
              have HE := Lib.hid e
              clear hrd hx hb hb' hrow hrd2 e
              by_cases hn : x.length = row.length
              · have hb1 : ((x.length : Int) != (row.length : Int)) = false := by rw [hn]; simp
                have HN : Hid ((W.drop (k + 1)).any (fun l => decide (l.length ≠ (W.getD 0 []).length)) = W.any fun l => decide (l.length ≠ (W.getD 0 []).length)) := Lib.hid (by rw [← hr.out, HA.out, HE.out, decide_eq_false (by simpa using hn), Bool.false_or])
                clear hn
                go_wp2
                go_quiet (fail)
                go_wp2
                go_roundw
                case rel => exact ⟨k + 1, by omega, by go_num, HN, Lib.hid (below_drewN hw.out _)⟩
                case measure => simp [intOf]; omega
              · have hb1 : ((x.length : Int) != (row.length : Int)) = true := by simp; omega
                have HT : Hid (chk26 W = 8) := Lib.hid (by rw [HQ.out, if_pos (.inr (by rw [← hr.out, HA.out, HE.out, decide_eq_true hn]; rfl))])
                clear hn
                go_wp2
                go_quiet (fail)
                go_wp2
                go_ret
                exact ⟨ret_int HT.out.symm, below_drewN hw.out _⟩
            · have HT : Hid (chk26 W = 0) := Lib.hid (by rw [HQ.out, if_neg]; rintro (q | q); exact HZ.out q; rw [← hr.out, any_end (by omega)] at q; cases q)
              go_wp2
              go_ret
              exact ⟨ret_int HT.out.symm, hw.out⟩
end Go.Proofs.Ytefbkdjppfofmaa

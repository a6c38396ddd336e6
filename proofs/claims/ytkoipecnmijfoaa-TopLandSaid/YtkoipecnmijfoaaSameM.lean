import Derived.Test.YtkoipecnmijfoaaM35a
/-! Texts that were built one by one, in one file. -/
-- holds: Same

section
/-! The walk of parcenerref25.SameInts. -/
namespace Go.Proofs.Ytkoipecnmijfoaa
open Go.RowKit
set_option linter.unusedVariables false

theorem drop_eq_of {L M : List Int} {k : Nat} {x y : Int} (hx : L[k]? = some x) (hy : M[k]? = some y) : (L.drop k = M.drop k) ↔ (x = y ∧ L.drop (k + 1) = M.drop (k + 1)) := by
  rw [drop_of hx, drop_of hy]; simp
set_option maxHeartbeats 400000 in
theorem sameInts {w : World} {B C : Nat} {A A' : Option Addr} {L M : List Int} {cap cap' : Nat} (h : Rd w B A L) (h' : Rd w C A' M) (hB : B ≤ w.heap.size) (hC : C ≤ w.heap.size) :
    Calls Try.prog 12 #[.slice A L.length cap, .slice A' M.length cap'] w fun e w' => e = .returned (.bool (decide (L = M))) ∧ Below w.heap.size w w' := by
  have l1 := h.len
  have l2 := h'.len
  by_cases hl : L.length = M.length
  · have hb : ((L.length : Int) != (M.length : Int)) = false := by rw [hl]; simp
    have HL := Lib.hid hl
    have H := Lib.hid h
    have H' := Lib.hid h'
    have HB := Lib.hid hB
    have HC := Lib.hid hC
    clear h h' hl hB hC
    go_enter Try.func12, Try.ntmps12
    go_wp2
    clear hb
    go_loopw [5] (fun i wr => ∃ (k : Nat), k ≤ L.length ∧ i = .int .i64 k ∧ Hid (Below w.heap.size w wr) ∧ Hid (decide (L.drop k = M.drop k) = decide (L = M))) (fun i _ => L.length - (intOf i).toNat)
    case atStart => exact ⟨0, by omega, rfl, Lib.hid (Below.refl _ _), Lib.hid (by simp)⟩
    case round =>
      obtain ⟨k, hk, rfl, hw, hr⟩ := hrel
      by_cases hlt : k < L.length
      · have hlt' : k < M.length := by have := HL.out; omega
        obtain ⟨b, off, x, rfl, hb, hx, hi, hc⟩ := (H.out.below hw.out HB.out).at_ hlt
        obtain ⟨b', off', y, rfl, hb', hy, hi', hc'⟩ := (H'.out.below hw.out HC.out).at_ hlt'
        have hd := drop_eq_of hx hy
        have HD := Lib.hid hd
        clear hd hx hy hi hi'
        by_cases hxy : x = y
        · have hne : (x != y) = false := by simpa using hxy
          have HXY := Lib.hid hxy; clear hxy
          go_wp2
          go_quiet (fail)
          go_wp2
          go_roundw
          case rel => exact ⟨k + 1, by omega, by go_num, Lib.hid (below_drewN hw.out _), Lib.hid (by rw [← hr.out]; exact decide_eq_decide.2 ⟨fun h => HD.out.2 ⟨HXY.out, h⟩, fun h => (HD.out.1 h).2⟩)⟩
          case measure => simp [intOf]; omega
        · have hne : (x != y) = true := by simpa using hxy
          have HXY := Lib.hid hxy; clear hxy
          go_wp2
          go_quiet (fail)
          go_wp2
          go_ret
          exact ⟨ret_bool (by rw [← hr.out]; exact (decide_eq_false fun h => HXY.out (HD.out.1 h).1).symm), below_drewN hw.out _⟩
      · go_wp2
        go_ret
        exact ⟨ret_bool (by rw [← hr.out, drop_end (by omega), drop_end (by have := HL.out; omega)]; simp), hw.out⟩
  · have hb : ((L.length : Int) != (M.length : Int)) = true := by simp; omega
    have hfin := Lib.hid (show decide (L = M) = false from decide_eq_false fun h => hl (by rw [h]))
    clear h h' hl hB hC
    go_enter Try.func12, Try.ntmps12
    go_wp2
    go_ret
    exact ⟨ret_bool hfin.out.symm, Below.refl _ _⟩
end Go.Proofs.Ytkoipecnmijfoaa
end

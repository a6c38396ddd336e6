import Derived.Test.YtefbkdjppfofmaaClone
import Derived.Test.YtefbkdjppfofmaaS26b
/-! Walks of chapter 26: counts. -/
namespace Go.Proofs.Ytefbkdjppfofmaa
open Go.RowKit Go.Deep
set_option linter.unusedVariables false
set_option maxRecDepth 100000

/-- counts in a new block -/
def CntRes (w : World) (L : List Int) (n : Nat) (e : Ending) (w' : World) : Prop :=
  e = .returned (.slice (some ⟨w.heap.size, 0, none⟩) n n) ∧ Own w' w.heap.size 3 (cntK L n L.length) ∧ Below w.heap.size w w'
theorem getD_of {L : List Int} {k : Nat} {x : Int} (h : L[k]? = some x) : L.getD k 0 = x := by rw [List.getD_eq_getElem?_getD, h]; rfl

set_option maxHeartbeats 1000000 in
theorem lCounts {w : World} {B : Nat} {A : Option Addr} {L : List Int} {cap : Nat} (h : Rd w B A L) (hB : B ≤ w.heap.size) {n : Nat} (hn : n ≤ 6) (hL : L.length ≤ 10) (hx : ∀ x ∈ L, -1 ≤ x ∧ x < n) :
    Calls Try.prog 29 #[.int .i64 n, .slice A L.length cap] w (CntRes w L n) := by
  have hmk := fun u => run_make_row' (P := Try.prog) 23 3 (.int .i64 0) 8 Try.underlying23 infoInt' rfl .i64 .i64 n (by omega) (by omega) u
  have H := Lib.hid h
  have HX := Lib.hid hx
  clear h hx
  go_enter Try.func29, Try.ntmps29
  go_wp2_with fail
  clear hmk
  have hown : Own (w.alloc (.cells (madeCells #[Value.int .i64 0] n) 3)) w.heap.size 3 (cntK L n 0) := by rw [cntK_zero]; exact Own.made w 3 n
  have hb0 := Below.alloc (B := w.heap.size) (Below.refl _ w) (Nat.le_refl _) (.cells (madeCells #[Value.int .i64 0] n) 3)
  have HO := Lib.hid hown
  have HB0 := Lib.hid hb0
  clear hown hb0
  generalize w.alloc (.cells (madeCells #[Value.int .i64 0] n) 3) = w1 at *
  go_loopw [12] (fun iv wr => ∃ (k : Nat), k ≤ L.length ∧ iv = .int .i64 k ∧ Hid (Own wr w.heap.size 3 (cntK L n k)) ∧ Hid (Below w.heap.size w wr)) (fun iv _ => L.length - (intOf iv).toNat)
  case atStart => exact ⟨0, by omega, rfl, HO, HB0⟩
  case round =>
    obtain ⟨k, hk, rfl, hO, hw⟩ := hrel
    by_cases hlt : k < L.length
    · obtain ⟨b, off, x, rfl, hb, hx, hi, hc⟩ := (H.out.below hw.out hB).at_ hlt
      have hbd := HX.out x (List.mem_of_getElem? hx)
      have HG := Lib.hid (getD_of hx)
      clear hx hi
      by_cases h0 : 0 ≤ x
      · obtain ⟨q, rfl⟩ : ∃ q : Nat, x = q := ⟨x.toNat, by omega⟩
        have hqn : q < n := by omega
        have hcell : (cntK L n k)[q]? = some (cntTo L q k : Int) := by simp [cntK, hqn]
        have oc := hO.out.cell hcell
        have ofz := hO.out.frozen q
        have hle := cntTo_le L q k
        have HS : Hid (cntK L n (k + 1) = (cntK L n k).set q ((cntTo L q k : Int) + 1)) := Lib.hid (cntK_yes hqn HG.out)
        generalize cntTo L q k = c at *
        clear hcell
        go_wp2_with fail
        have O2 : Hid (Own _ w.heap.size 3 (cntK L n (k + 1))) := Lib.hid (by rw [HS.out]; exact hO.out.store q ((c : Int) + 1))
        have B2 := Lib.hid (hw.out.setCell (p := ⟨w.heap.size, q, none⟩) (Nat.le_refl _) (.int .i64 ((c : Int) + 1)))
        go_roundw
        case rel => exact ⟨k + 1, by omega, by go_num, O2, B2⟩
        case measure => simp [intOf]; omega
      · have O2 : Hid (Own wr w.heap.size 3 (cntK L n (k + 1))) := Lib.hid (by rw [cntK_no (by rw [HG.out]; omega)]; exact hO.out)
        go_wp2
        go_roundw
        case rel => exact ⟨k + 1, by omega, by go_num, O2, hw⟩
        case measure => simp [intOf]; omega
    · have hkk : k = L.length := by omega
      have hO2 : Hid (Own wr w.heap.size 3 (cntK L n L.length)) := Lib.hid (by rw [← hkk]; exact hO.out)
      go_wp2
      go_ret
      exact ⟨rfl, hO2.out, hw.out⟩

set_option maxHeartbeats 1000000 in
theorem lrCounted {w : World} {B : Nat} {A : Option Addr} {L : List Int} {cap : Nat} (h : Rd w B A L) (hB : B ≤ w.heap.size) {n : Nat} (hn : n ≤ 6) (hL : L.length ≤ 10) (hx : ∀ x ∈ L, -1 ≤ x ∧ x < n) :
    Calls Try.prog 31 #[.int .i64 n, .slice A L.length cap] w (CntRes w L n) := by
  have hmk := fun u => run_make_row' (P := Try.prog) 23 3 (.int .i64 0) 8 Try.underlying23 infoInt' rfl .i64 .i64 n (by omega) (by omega) u
  have H := Lib.hid h
  have HX := Lib.hid hx
  clear h hx
  go_enter Try.func31, Try.ntmps31
  go_wp2_with fail
  clear hmk
  have hown : Own (w.alloc (.cells (madeCells #[Value.int .i64 0] n) 3)) w.heap.size 3 (cntK L n 0) := by rw [cntK_zero]; exact Own.made w 3 n
  have hb0 := Below.alloc (B := w.heap.size) (Below.refl _ w) (Nat.le_refl _) (.cells (madeCells #[Value.int .i64 0] n) 3)
  have HO := Lib.hid hown
  have HB0 := Lib.hid hb0
  clear hown hb0
  generalize w.alloc (.cells (madeCells #[Value.int .i64 0] n) 3) = w1 at *
  go_loopw [6] (fun iv wr => ∃ (k : Nat), k ≤ L.length ∧ iv = .int .i64 k ∧ Hid (Own wr w.heap.size 3 (cntK L n k)) ∧ Hid (Below w.heap.size w wr)) (fun iv _ => L.length - (intOf iv).toNat)
  case atStart => exact ⟨0, by omega, rfl, HO, HB0⟩
  case round =>
    obtain ⟨k, hk, rfl, hO, hw⟩ := hrel
    by_cases hlt : k < L.length
    · obtain ⟨b, off, x, rfl, hb, hx, hi, hc⟩ := (H.out.below hw.out hB).at_ hlt
      have hbd := HX.out x (List.mem_of_getElem? hx)
      have HG := Lib.hid (getD_of hx)
      clear hx hi
      by_cases h0 : 0 ≤ x
      · obtain ⟨q, rfl⟩ : ∃ q : Nat, x = q := ⟨x.toNat, by omega⟩
        have hqn : q < n := by omega
        have hcell : (cntK L n k)[q]? = some (cntTo L q k : Int) := by simp [cntK, hqn]
        have oc := hO.out.cell hcell
        have ofz := hO.out.frozen q
        have hle := cntTo_le L q k
        have HS : Hid (cntK L n (k + 1) = (cntK L n k).set q ((cntTo L q k : Int) + 1)) := Lib.hid (cntK_yes hqn HG.out)
        generalize cntTo L q k = c at *
        clear hcell
        go_wp2_with fail
        have O2 : Hid (Own _ w.heap.size 3 (cntK L n (k + 1))) := Lib.hid (by rw [HS.out]; exact hO.out.store q ((c : Int) + 1))
        have B2 := Lib.hid (hw.out.setCell (p := ⟨w.heap.size, q, none⟩) (Nat.le_refl _) (.int .i64 ((c : Int) + 1)))
        go_roundw
        case rel => exact ⟨k + 1, by omega, by go_num, O2, B2⟩
        case measure => simp [intOf]; omega
      · have O2 : Hid (Own wr w.heap.size 3 (cntK L n (k + 1))) := Lib.hid (by rw [cntK_no (by rw [HG.out]; omega)]; exact hO.out)
        go_wp2
        go_roundw
        case rel => exact ⟨k + 1, by omega, by go_num, O2, hw⟩
        case measure => simp [intOf]; omega
    · have hkk : k = L.length := by omega
      have hO2 : Hid (Own wr w.heap.size 3 (cntK L n L.length)) := Lib.hid (by rw [← hkk]; exact hO.out)
      go_wp2
      go_ret
      exact ⟨rfl, hO2.out, hw.out⟩
end Go.Proofs.Ytefbkdjppfofmaa

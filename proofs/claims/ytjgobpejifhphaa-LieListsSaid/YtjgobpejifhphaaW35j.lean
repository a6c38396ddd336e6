import Derived.Test.YtjgobpejifhphaaW35i
import Derived.Test.YtjgobpejifhphaaRev
import Derived.Deep.RegionLaw
import Derived.Laws.CopyOwn
/-! Walks of chapter 35: slices.Repeat of one number.
-/
namespace Go.Proofs.Ytjgobpejifhphaa
open Go.RowKit Go.Deep
set_option linter.unusedVariables false
set_option maxRecDepth 100000

/-- k cells of x, then zeros -/
def rpL (x : Int) (n k : Nat) : List Value := (List.replicate k x ++ List.replicate (n - k) 0).map (Value.int .i64)
def rpC (x : Int) (c : Nat) : List Value := (List.replicate c x).map (Value.int .i64)
theorem rpC_length (x : Int) (c : Nat) : (rpC x c).length = c := by simp [rpC]
theorem rpC_one (x : Int) (c : Nat) : ∀ v ∈ rpC x c, v.oneCell' = true := fun v hv => ints_oneCell _ _ v hv
theorem rpC_le {x : Int} {c k m : Nat} (h : c = min k m) (j : Nat) (v : Value) (hj : (rpC x c)[j]? = some v) : (rpC x k)[j]? = some v := by
  have hlt := (List.getElem?_eq_some_iff.1 hj).1
  rw [rpC_length] at hlt
  rw [rpC, List.getElem?_map, List.getElem?_eq_getElem (by simpa using hlt), List.getElem_replicate] at hj
  rw [rpC, List.getElem?_map, List.getElem?_eq_getElem (by simp; omega), List.getElem_replicate]
  exact hj
theorem rpL_length {x : Int} {n k : Nat} (h : k ≤ n) : (rpL x n k).length = n := by simp [rpL]; omega
theorem splice_rp {x : Int} {n k c : Nat} (h : k + c ≤ n) : splice (rpL x n k) k (rpC x c) = rpL x n (k + c) := by
  rw [splice, rpC_length, rpL, rpL, rpC, ← List.map_take, ← List.map_drop, ← List.map_append, ← List.map_append]
  congr 1
  apply List.ext_getElem
  · simp; omega
  · intro i h1 h2
    simp only [List.getElem_append, List.length_take, List.length_append, List.length_replicate, List.getElem_take, List.getElem_replicate, List.getElem_drop]
    repeat' split
    all_goals first | rfl | omega
theorem rpL_cell {w : World} {g T : Nat} {x : Int} {n k : Nat} (h : w.heap[g]? = some (.cells (rpL x n k).toArray T (0, 0))) : ∀ (j : Nat) (v : Value), (rpC x k)[j]? = some v → w.cell? ((⟨g, 0, none⟩ : Addr).add j) = some v := by
  intro j v hj
  rw [addr_add, Nat.zero_add, cell_of_row w g j _ T (0, 0) h]
  rw [rpC, List.getElem?_map] at hj
  have hlt : j < k := by
    rcases Nat.lt_or_ge j k with h | h
    · exact h
    · rw [List.getElem?_eq_none (by simpa using h)] at hj; cases hj
  rw [List.getElem?_eq_getElem (by simpa using hlt), List.getElem_replicate] at hj
  simp only [Option.map_some, Option.some.injEq] at hj
  rw [← hj]
  simp only [rpL, List.getElem?_toArray, List.getElem?_map]
  rw [List.getElem?_append_left (by simpa using hlt), List.getElem?_eq_getElem (by simpa using hlt), List.getElem_replicate]
  rfl
theorem own_rp {w : World} {g T : Nat} {x : Int} {n : Nat} (h : w.heap[g]? = some (.cells (rpL x n n).toArray T (0, 0))) : Own w g T (List.replicate n x) := by
  rw [Own, h, rpL, Nat.sub_self]
  simp
theorem rp_own {w : World} {g T : Nat} {x : Int} {n : Nat} (h : Own w g T (List.replicate n 0)) : w.heap[g]? = some (.cells (rpL x n 0).toArray T (0, 0)) := by
  rw [h, rpL]
  simp
theorem one_src {w : World} {g0 : Nat} {x : Int} {c : Nat} (h : w.cell? ⟨g0, 0, none⟩ = some (.int .i64 x)) (hc : c ≤ 1) : ∀ (j : Nat) (v : Value), (rpC x c)[j]? = some v → w.cell? ((⟨g0, 0, none⟩ : Addr).add j) = some v := by
  intro j v hj
  rw [rpC, List.getElem?_map] at hj
  rcases Nat.lt_or_ge j c with hlt | hge
  · rw [List.getElem?_eq_getElem (by simpa using hlt), List.getElem_replicate] at hj
    simp only [Option.map_some, Option.some.injEq] at hj
    obtain rfl : j = 0 := by omega
    rw [addr_add, ← hj]; exact h
  · rw [List.getElem?_eq_none (by simpa using hge)] at hj; cases hj
/-- a new row that is just L -/
def NewOwn (w : World) (T : Nat) (L : List Int) (e : Ending) (w' : World) : Prop :=
  ∃ g, e = .returned (.slice (some ⟨g, 0, none⟩) L.length L.length) ∧ w.heap.size ≤ g ∧ Own w' g T L ∧ Below w.heap.size w w'
set_option maxHeartbeats 400000 in
theorem repeat1 {w : World} {g0 n : Nat} {x : Int} (hc : w.cell? ⟨g0, 0, none⟩ = some (.int .i64 x)) (hg0 : g0 < w.heap.size) (hn : n ≤ 1000) :
    Calls Try.prog 78 #[.slice (some ⟨g0, 0, none⟩) 1 1, .int .i64 (n : Int)] w (NewOwn w 3 (List.replicate n x)) := by
  have CM := Try.bits_Mul 1 n (by decide) (by omega) w
  rw [Nat.one_mul, Nat.div_eq_of_lt (by omega), Nat.mod_eq_of_lt (by omega)] at CM
  have hmk := fun u => run_make_row' (P := Try.prog) 22 3 (.int .i64 0) 8 Try.underlying22 infoInt' rfl .i64 .i64 n (by omega) (by omega) u
  have f1 : decide ((9223372036854775807 : Int) < (n : Int)) = false := decide_eq_false (by omega)
  have f2 : decide ((n : Int) < 0) = false := decide_eq_false (by omega)
  have HG0 := Lib.hid hg0
  clear hg0
  go_enter Try.func78, Try.ntmps78
  go_wp2_with fail
  refine CM.mono ?_
  rintro e w ⟨rfl, rfl⟩
  clear CM
  have hown := Own.made w 3 n
  have hb1 := Below.alloc (B := w.heap.size) (Below.refl _ w) (Nat.le_refl _) (.cells (madeCells #[Value.int .i64 0] n) 3)
  have HC := Lib.hid ((hb1.cell (p := ⟨g0, 0, none⟩) HG0.out).trans hc)
  have HR0 := Lib.hid (rp_own (x := x) hown)
  have HB1 := Lib.hid hb1
  have hmk0 := hmk w
  have HM1 : Hid (min 1 n ≤ n) := Lib.hid (by omega)
  clear hown hb1 hc hmk
  generalize w.alloc (.cells (madeCells #[Value.int .i64 0] n) 3) = w2 at *
  go_wp2_with (with_reducible show wpList _ _ _ _ _ _; refine wpList_copy_splice (o := ⟨some 33, _, _, _, _, _⟩) rfl (.tmp 31) (.tmp 32) 22 22 rfl 3 Try.underlying22 (by kernel_rfl) _ _ _ _ _ _ rfl rfl w.heap.size 0 (rpL x n 0) 3 HR0.out (rpC x (min 1 n)) (rpC_length _ _) (fun h => ⟨rfl, ⟨g0, 0, none⟩, rfl, one_src HC.out (Nat.min_le_left _ _)⟩) (by rw [rpC_length, rpL_length (Nat.zero_le _)]; have := HM1.out; omega) (rpC_one _ _) w.heap.size w HB1.out (Nat.le_refl _) ?_; intro w3 hg3 hb3; rw [splice_rp (by have := HM1.out; omega), Nat.zero_add] at hg3; have HB3 := Lib.hid hb3; clear hb3)
  have HR3 := hg3
  clear hg3 HR0 HC HB1 hmk0
  go_loopw [8] (fun iv wr => ∃ k : Nat, k ≤ n ∧ (0 < n → 0 < k) ∧ iv = .int .i64 k ∧ Hid (wr.heap[w.heap.size]? = some (.cells (rpL x n k).toArray 3 (0, 0))) ∧ Hid (Below w.heap.size w wr)) (fun iv _ => n - (intOf iv).toNat)
  case atStart => exact ⟨min 1 n, by omega, by omega, by simp [rpC_length], HR3, HB3⟩
  case round =>
    obtain ⟨k, hk, hk0, rfl, hr, hb⟩ := hrel
    by_cases hlt : k < n
    · have HK : Hid (0 < k) := Lib.hid (hk0 (by omega))
      clear hk0
      obtain ⟨c, hc1, hc2, hc3⟩ : ∃ c, c = min k (n - k) ∧ k + c ≤ n ∧ 0 < c := ⟨_, rfl, by omega, by have := HK.out; omega⟩
      have HC1 := Lib.hid hc1
      have HRD : Hid (wr.drew.heap[w.heap.size]? = some (.cells (rpL x n k).toArray 3 (0, 0))) := Lib.hid hr.out
      have hne : ¬ n = k := by omega
      have hrun := run_copy_row (P := Try.prog) wr.drew 22 22 3 3 w.heap.size k (n - k) (n - k) ⟨w.heap.size, 0, none⟩ k n (rpL x n k).toArray 3 (rpC x c) Try.underlying22 (by kernel_rfl) HRD.out ((rpC_length _ _).trans HC1.out) (fun j v hj => rpL_cell HRD.out j v (rpC_le HC1.out j v hj)) (by rw [rpC_length, List.size_toArray, rpL_length hk]; omega) (rpC_one _ _)
      rw [List.toList_toArray] at hrun
      have hset := setRow_heap wr.drew w.heap.size _ (splice (rpL x n k) k (rpC x c)).toArray 3 _ HRD.out
      have hbel := below_setRow hb.out.drew (Nat.le_refl _) (splice (rpL x n k) k (rpC x c)).toArray
      rw [splice_rp hc2] at hset hbel
      have HSET := Lib.hid hset
      have HBEL := Lib.hid hbel
      have he : (List.take k (rpL x n k) ++ (rpC x c ++ List.drop (k + (rpC x c).length) (rpL x n k))) = rpL x n (k + c) := splice_rp hc2
      rw [List.append_assoc, he, rpC_length] at hrun
      clear hset hbel he hc1
      generalize wr.drew.setRow w.heap.size (rpL x n (k + c)).toArray = w4 at *
      go_wp2_with fail
      go_region
      go_wp2
      go_roundw
      case rel => exact ⟨k + c, by omega, by omega, by go_num, HSET, HBEL⟩
      case measure => simp [intOf]; omega
    · obtain rfl : k = n := by omega
      clear hk0
      go_wp2
      go_ret
      exact ⟨w.heap.size, by rw [List.length_replicate]; rfl, Nat.le_refl _, own_rp hr.out, hb.out⟩
end Go.Proofs.Ytjgobpejifhphaa

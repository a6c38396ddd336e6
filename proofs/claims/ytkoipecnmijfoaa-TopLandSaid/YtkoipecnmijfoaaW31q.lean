import Derived.Test.YtkoipecnmijfoaaW31a
/-! The walk of rota.Turning. -/
namespace Go.Proofs.Ytkoipecnmijfoaa
open Go.RowKit Go.Deep
set_option linter.unusedVariables false
set_option maxRecDepth 100000

/-- a turning week -/
def turnL (n t : Nat) : List Int := (List.range n).map fun i => (((i + t % n) % n : Nat) : Int)
theorem turnL_length (n t : Nat) : (turnL n t).length = n := by simp [turnL]
theorem turnL_at {n t i : Nat} (hi : i < n) : (turnL n t)[i]? = some (((i + t % n) % n : Nat) : Int) := by simp [turnL, hi]
set_option maxHeartbeats 1000000 in
theorem rTurning {w : World} {n t : Nat} (h0 : 1 ≤ n) (h1 : n ≤ 12) (ht : t ≤ 1000) :
    Calls Try.prog 11 #[.int .i64 (n : Int), .int .i64 (t : Int)] w fun e w' => ∃ g, e = .returned (.tuple #[.slice (some ⟨g, 0, none⟩) n n, .int .i64 0]) ∧ Own w' g 3 (turnL n t) ∧ w.heap.size ≤ g ∧ Below w.heap.size w w' := by
  have hmk := fun u => run_make_row' (P := Try.prog) 23 3 (.int .i64 0) 8 Try.underlying23 infoInt' rfl .i64 .i64 n (by omega) (by omega) u
  have HOWN := Lib.hid (Own.made w 3 n)
  have HB2 := Lib.hid (Below.alloc (B := w.heap.size) (Below.refl _ w) (Nat.le_refl _) (.cells (madeCells #[Value.int .i64 0] n) 3))
  go_enter Try.func11, Try.ntmps11
  go_wp2_with fail
  generalize w.alloc (.cells (madeCells #[Value.int .i64 0] n) 3) = w2 at *
  clear hmk
  go_loopw [22] (fun iv wr => ∃ (k : Nat) (L : List Int), k ≤ n ∧ iv = .int .i64 k ∧ Hid (L.length = n ∧ ∀ j, j < k → L[j]? = some (((j + t % n) % n : Nat) : Int)) ∧ Hid (Own wr w.heap.size 3 L) ∧ Hid (Below w.heap.size w wr)) (fun iv _ => n - (intOf iv).toNat)
  case atStart => exact ⟨0, _, by omega, rfl, Lib.hid ⟨by simp, fun j hj => by omega⟩, HOWN, HB2⟩
  case round =>
    obtain ⟨k, L, hk, rfl, hL, ho, hb⟩ := hrel
    by_cases hlt : k < n
    · obtain ⟨y, hy⟩ : ∃ y, L[k]? = some y := ⟨L[k]'(by rw [hL.out.1]; exact hlt), by simp⟩
      have cy := ho.out.cell hy
      have fy := ho.out.frozen k
      have hn0 : ¬ ((n : Int) = 0) := by omega
      have t1 : Int.tmod (t : Int) (n : Int) = ((t % n : Nat) : Int) := by rw [Int.tmod_eq_emod_of_nonneg (by omega)]; rfl
      have hlt2 : t % n < n := Nat.mod_lt _ (by omega)
      have e1 : IntKind.i64.wrap ((t % n : Nat) : Int) = ((t % n : Nat) : Int) := IntWalk.i64_in _ (by omega)
      have HZ := Lib.hid (show ((k + t % n) % n : Nat) < n from Nat.mod_lt _ (by omega))
      have HNX : Hid (∀ z : Int, z = (((k + t % n) % n : Nat) : Int) → (L.set k z).length = n ∧ ∀ j, j < k + 1 → (L.set k z)[j]? = some (((j + t % n) % n : Nat) : Int)) := Lib.hid fun z hz => ⟨by rw [List.length_set]; exact hL.out.1, fun j hj => by
        by_cases hjk : j = k
        · subst hjk
          rw [List.getElem?_set_self (by rw [hL.out.1]; exact hlt), hz]
        · rw [List.getElem?_set_ne (by omega)]; exact hL.out.2 j (by omega)⟩
      generalize t % n = r at *
      have e2 : IntKind.i64.wrap ((k : Int) + (r : Int)) = (k : Int) + (r : Int) := IntWalk.i64_in _ (by omega)
      have t2 : Int.tmod ((k : Int) + (r : Int)) (n : Int) = (((k + r) % n : Nat) : Int) := by rw [Int.tmod_eq_emod_of_nonneg (by omega)]; exact_mod_cast rfl
      have hz := HZ.out
      generalize hzz : (k + r) % n = z at *
      have e3 : IntKind.i64.wrap (z : Int) = (z : Int) := IntWalk.i64_in _ (by omega)
      have HLS := Lib.hid (HNX.out (z : Int) rfl)
      have HO := Lib.hid (ho.out.store k (z : Int))
      have HB := Lib.hid (hb.out.setCell (p := ⟨w.heap.size, k, none⟩) (Nat.le_refl _) (.int .i64 (z : Int)))
      clear HNX hy hzz
      go_wp2
      go_roundw
      case rel => exact ⟨k + 1, L.set k z, by omega, by go_num, HLS, HO, HB⟩
      case measure => simp [intOf]; omega
    · have HE : Hid (L = turnL n t) := Lib.hid (by
        apply List.ext_getElem?
        intro j
        rcases Nat.lt_or_ge j n with hj | hj
        · rw [turnL_at hj]; exact hL.out.2 j (by omega)
        · rw [List.getElem?_eq_none (by rw [hL.out.1]; exact hj), List.getElem?_eq_none (by rw [turnL_length]; exact hj)])
      clear hL
      go_wp2
      go_ret2
      exact ⟨w.heap.size, rfl, by rw [← HE.out]; exact ho.out, Nat.le_refl _, hb.out⟩
end Go.Proofs.Ytkoipecnmijfoaa

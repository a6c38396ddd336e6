import Derived.Test.YtjgobpejifhphaaBase2
import Derived.StillTailTactics
/-! Walks: cmp.Compare, cmp.Or, the comparison of holiday's ranking. -/
namespace Go.Proofs.Ytjgobpejifhphaa
open Go.RowKit Go.Deep
set_option linter.unusedVariables false
set_option maxRecDepth 100000

def cmpI (a b : Int) : Int := if a < b then -1 else if b < a then 1 else 0
def orI (a b : Int) : Int := if a ≠ 0 then a else b
theorem isNaN {w : World} (a : Int) : Calls Try.prog 107 #[.int .i64 a] w fun e w' => e = .returned (.bool false) ∧ w = w' := by
  go_enter Try.func107, Try.ntmps107
  go_wp2
  go_ret
  exact ⟨ret_bool (by simp), rfl⟩
theorem compare {w : World} (a b : Int) : Calls Try.prog 91 #[.int .i64 a, .int .i64 b] w fun e w' => e = .returned (.int .i64 (cmpI a b)) ∧ w = w' := by
  by_cases h1 : a < b
  · have hf := Lib.hid (show cmpI a b = -1 by rw [cmpI, if_pos h1])
    go_enter Try.func91, Try.ntmps91
    go_wp2_with (go_at_call 107; refine (isNaN _).mono ?_; rintro e w' ⟨rfl, rfl⟩)
    go_ret
    exact ⟨ret_int hf.out.symm, rfl⟩
  · by_cases h2 : b < a
    · have hf := Lib.hid (show cmpI a b = 1 by rw [cmpI, if_neg h1, if_pos h2])
      go_enter Try.func91, Try.ntmps91
      go_wp2_with (go_at_call 107; refine (isNaN _).mono ?_; rintro e w' ⟨rfl, rfl⟩)
      go_ret
      exact ⟨ret_int hf.out.symm, rfl⟩
    · have hf := Lib.hid (show cmpI a b = 0 by rw [cmpI, if_neg h1, if_neg h2])
      go_enter Try.func91, Try.ntmps91
      go_wp2_with (go_at_call 107; refine (isNaN _).mono ?_; rintro e w' ⟨rfl, rfl⟩)
      go_ret
      exact ⟨ret_int hf.out.symm, rfl⟩

set_option maxHeartbeats 400000 in
theorem orTwo {w : World} {g : Nat} {a b : Int} (h0 : w.cell? ⟨g, 0, none⟩ = some (.int .i64 a)) (h1 : w.cell? ⟨g, 1, none⟩ = some (.int .i64 b)) :
    Calls Try.prog 90 #[.slice (some ⟨g, 0, none⟩) 2 2] w fun e w' => e = .returned (.int .i64 (orI a b)) ∧ w = w' := by
  go_enter Try.func90, Try.ntmps90
  go_wp2
  go_loop [8] (fun i => ∃ k : Nat, k ≤ 2 ∧ i = .int .i64 k ∧ Hid (0 < k → a = 0) ∧ Hid (1 < k → b = 0)) (fun i => 2 - (intOf i).toNat)
  case atStart => exact ⟨0, by omega, rfl, Lib.hid (by omega), Lib.hid (by omega)⟩
  case round =>
    obtain ⟨k, hk, rfl, ha, hb⟩ := hrel
    rcases (show k = 0 ∨ k = 1 ∨ k = 2 by omega) with rfl | rfl | rfl
    · by_cases hz : a = 0
      · have hn : (a != 0) = false := by simpa using hz
        have HZ := Lib.hid hz
        clear hz
        go_wp2
        go_round
        case rel => exact ⟨1, by omega, rfl, Lib.hid (fun _ => HZ.out), Lib.hid (by omega)⟩
        case measure => simp [intOf]
      · have hn : (a != 0) = true := by simpa using hz
        have hf := Lib.hid (show orI a b = a by rw [orI, if_pos hz])
        clear hz
        go_wp2
        go_ret
        exact ⟨ret_int hf.out.symm, rfl⟩
    · have hA := ha.out (by omega)
      by_cases hz : b = 0
      · have hn : (b != 0) = false := by simpa using hz
        have HZ := Lib.hid hz
        have HA := Lib.hid hA
        clear hz hA
        go_wp2
        go_round
        case rel => exact ⟨2, by omega, rfl, Lib.hid (fun _ => HA.out), Lib.hid (fun _ => HZ.out)⟩
        case measure => simp [intOf]
      · have hn : (b != 0) = true := by simpa using hz
        have hf := Lib.hid (show orI a b = b by rw [orI, if_neg (by simp [hA])])
        clear hz hA
        go_wp2
        go_ret
        exact ⟨ret_int hf.out.symm, rfl⟩
    · have hA := ha.out (by omega)
      have hB := hb.out (by omega)
      have hf := Lib.hid (show orI a b = 0 by rw [orI, if_neg (by simp [hA]), hB])
      clear hA hB
      go_wp2
      go_ret
      exact ⟨ret_int hf.out.symm, rfl⟩

/-- what the ranking compares: bids, then credits, the greater ones first -/
def rkCmp (C B : List Int) (a b : Int) : Int := orI (cmpI (B.getD b.toNat 0) (B.getD a.toNat 0)) (cmpI (C.getD b.toNat 0) (C.getD a.toNat 0))
theorem rkCmp_eq {C B : List Int} {a b : Nat} {x y u v : Int} (h1 : B[b]? = some x) (h2 : B[a]? = some y) (h3 : C[b]? = some u) (h4 : C[a]? = some v) :
    rkCmp C B a b = orI (cmpI x y) (cmpI u v) := by
  simp [rkCmp, List.getD, h1, h2, h3, h4]

set_option maxHeartbeats 1000000 in
theorem rank1 {w : World} {D g1 g2 : Nat} {A1 A2 : Option Addr} {C B : List Int} {cap1 cap2 : Nat} {a b : Nat}
    (hbox1 : w.cell? ⟨g1, 0, none⟩ = some (.slice A1 B.length cap1)) (hbox2 : w.cell? ⟨g2, 0, none⟩ = some (.slice A2 C.length cap2))
    (hB : Rd w D A1 B) (hC : Rd w D A2 C) (ha : a < B.length) (hb : b < B.length) (hl : B.length = C.length) :
    Calls Try.prog 89 #[.int .i64 a, .int .i64 b, .pointer (some ⟨g1, 0, none⟩), .pointer (some ⟨g2, 0, none⟩)] w
      fun e w' => e = .returned (.int .i64 (rkCmp C B a b)) ∧ Below w.heap.size w w' := by
  obtain ⟨x, hx⟩ : ∃ x, B[b]? = some x := ⟨B[b], by simp [hb]⟩
  obtain ⟨y, hy⟩ : ∃ y, B[a]? = some y := ⟨B[a], by simp [ha]⟩
  obtain ⟨u, hu⟩ : ∃ u, C[b]? = some u := ⟨C[b]'(by omega), by simp⟩
  obtain ⟨v, hv⟩ : ∃ v, C[a]? = some v := ⟨C[a]'(by omega), by simp⟩
  have hf := Lib.hid (rkCmp_eq hx hy hu hv)
  obtain ⟨b1, o1, rfl, _, hc1⟩ := hB.2.2 (by omega)
  obtain ⟨b2, o2, rfl, _, hc2⟩ := hC.2.2 (by omega)
  have cx := hc1 b x hx
  have cy := hc1 a y hy
  have cu := hc2 b u hu
  have cv := hc2 a v hv
  have l1 := hB.len
  have l2 := hC.len
  have hac : a < C.length := by omega
  have hbc : b < C.length := by omega
  clear hc1 hc2 hx hy hu hv hB hC hl
  go_enter Try.func89, Try.ntmps89
  go_wp2
  go_still_tail 18, (by kernel_rfl)
  still_call ((compare x y).mono fun _ _ h => ⟨h.1, h.2.symm⟩)
  repeat still_step
  still_call ((compare u v).mono fun _ _ h => ⟨h.1, h.2.symm⟩)
  repeat still_step
  refine wpStill_nil ?_
  change wpList _ _ _ _ _ w.drew
  clear cx cy cu cv hbox1 hbox2
  generalize cmpI x y = p at *
  generalize cmpI u v = q at *
  go_wp2_with fail
  have n0 : (w.alloc (.cells #[.int .i64 p, .int .i64 q] 3)).drew.cell? ⟨w.heap.size, 0, none⟩ = some (.int .i64 p) := by
    have h : Own (w.alloc (.cells #[.int .i64 p, .int .i64 q] 3)) w.heap.size 3 [p, q] := heap_alloc_new w _
    exact h.cell (i := 0) rfl
  have n1 : (w.alloc (.cells #[.int .i64 p, .int .i64 q] 3)).drew.cell? ⟨w.heap.size, 1, none⟩ = some (.int .i64 q) := by
    have h : Own (w.alloc (.cells #[.int .i64 p, .int .i64 q] 3)) w.heap.size 3 [p, q] := heap_alloc_new w _
    exact h.cell (i := 1) rfl
  refine (orTwo n0 n1).mono ?_
  rintro e w' ⟨rfl, rfl⟩
  clear n0 n1
  go_wp2
  go_ret
  exact ⟨ret_int hf.out.symm, ((Below.refl _ _).alloc (Nat.le_refl _) _).drew⟩
end Go.Proofs.Ytjgobpejifhphaa

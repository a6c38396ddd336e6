import Derived.Test.YtkoipecnmijfoaaGreatM35b
import Derived.Test.YtkoipecnmijfoaaGreatM35c
/-! Walks of the estate of two heirs and one item: sum, Check. -/
namespace Go.Proofs.YtkoipecnmijfoaaGreat
open Go.RowKit Go.Deep
set_option linter.unusedVariables false
set_option maxRecDepth 100000

set_option maxHeartbeats 400000 in
theorem eSum {w : World} {B : Nat} {A : Option Addr} {L : List Int} {cap : Nat} (h : Rd w B A L) (hn : L.length ≤ 40) (hb : ∀ x ∈ L, -1000000000000000 ≤ x ∧ x ≤ 1000000000000000) :
    Calls Tryz.prog 39 #[.slice A L.length cap] w fun e w' => e = .returned (.int .i64 (sumL L)) ∧ w = w' := by
  have H := Lib.hid h
  have HB := Lib.hid hb
  clear h hb
  go_enter Tryz.func39, Tryz.ntmps39
  go_wp2
  go_loop [3, 5, 8] (fun acc _ i => ∃ (k : Nat) (s : Int), k ≤ L.length ∧ i = .int .i64 k ∧ acc = .int .i64 s ∧ -1000000000000000 * (k : Int) ≤ s ∧ s ≤ 1000000000000000 * (k : Int) ∧ Hid (s + sumL (L.drop k) = sumL L)) (fun _ _ i => L.length - (intOf i).toNat)
  case atStart => exact ⟨0, 0, by omega, rfl, rfl, by omega, by omega, Lib.hid (by simp)⟩
  case round =>
    obtain ⟨k, s, hk, rfl, rfl, h1, h2, hr⟩ := hrel
    by_cases hlt : k < L.length
    · obtain ⟨b, off, x, rfl, _, hx, hi, hc⟩ := H.out.at_ hlt
      have hxb := HB.out x (List.mem_of_getElem? hx)
      have hd := hr.out
      rw [drop_of hx, sumL, ← Int.add_assoc] at hd
      have HD := Lib.hid hd
      clear hd hx hi hr
      go_wp2
      go_round
      case rel => exact ⟨k + 1, s + x, by omega, by go_num, rfl, by omega, by omega, HD⟩
      case measure => simp [intOf]; omega
    · have hd := hr.out
      rw [drop_end (by omega), sumL, Int.add_zero] at hd
      subst hd
      go_wp2
      go_ret
      exact ⟨rfl, rfl⟩
theorem eChk1 {w : World} {A : Option Addr} {n c : Nat} :
    Calls Tryz.prog 77 #[.slice A n c] w fun e w' => e = .returned (.bool (decide (30 < n))) ∧ w = w' := by
  go_enter Tryz.func77, Tryz.ntmps77
  go_wp2
  go_ret
  exact ⟨ret_bool (decide_eq_decide.2 (by omega)), rfl⟩
theorem eChk2 {w : World} (x : Int) :
    Calls Tryz.prog 78 #[.int .i64 x] w fun e w' => e = .returned (.bool (decide (x < 0) || decide (1000000 < x))) ∧ w = w' := by
  by_cases h1 : x < 0
  · go_enter Tryz.func78, Tryz.ntmps78
    go_wp2
    go_ret
    exact ⟨ret_bool (by simp [h1]), rfl⟩
  · go_enter Tryz.func78, Tryz.ntmps78
    go_wp2
    all_goals go_ret
    all_goals exact ⟨ret_bool (by rw [decide_eq_false (p := x < 0) (by omega), Bool.false_or]), rfl⟩
set_option maxHeartbeats 1000000 in
theorem eCheck {w : World} {B C : Nat} {AS AB : Option Addr} {s x y : Int} {cs cb : Nat} (hS : Rd w B AS [s, s]) (hR : Rd2 w C AB [[x], [y]]) (hB : B ≤ w.heap.size) (hC : C ≤ w.heap.size)
    (s1 : 1 ≤ s) (s2 : s ≤ 500) (hx : 0 ≤ x ∧ x ≤ 1000000) (hy : 0 ≤ y ∧ y ≤ 1000000) :
    Calls Tryz.prog 63 #[.agg #[.slice AS 2 cs, .slice AB 2 cb]] w fun e w' => e = .returned (.int .i64 0) ∧ Below w.heap.size w w' := by
  have hal := (Below.refl w.heap.size w).alloc (Nat.le_refl _) (.cells #[.slice AS 2 cs, .slice AB 2 cb] 41)
  have hc0 : (w.alloc (.cells #[.slice AS 2 cs, .slice AB 2 cb] 41)).cell? ⟨w.heap.size, 0, none⟩ = some (.slice AS 2 cs) := (cell_of_row _ _ 0 _ _ (0, 0) (heap_alloc_new _ _)).trans rfl
  have hc1 : (w.alloc (.cells #[.slice AS 2 cs, .slice AB 2 cb] 41)).cell? ⟨w.heap.size, 1, none⟩ = some (.slice AB 2 cb) := (cell_of_row _ _ 1 _ _ (0, 0) (heap_alloc_new _ _)).trans rfl
  have hsz : (w.alloc (.cells #[.slice AS 2 cs, .slice AB 2 cb] 41)).heap.size = w.heap.size + 1 := by simp
  have C1 := containsRowsM (cap := cb) (hR.below hal hC) (by rw [hsz]; omega) 77 #[] (fun l => decide (30 < l.length)) (fun args u => by kernel_rfl) (fun A1 x c u _ _ _ => eChk1.mono fun e w' h => ⟨h.1, h.2 ▸ Below.refl _ _⟩)
  have e0 : ([[x], [y]] : List (List Int)).any (fun l => decide (30 < l.length)) = false := by simp
  rw [e0] at C1
  have CI := Lib.hid fun (u : World) (z : Int) (A1 : Option Addr) (c : Nat) (hz : 0 ≤ z ∧ z ≤ 1000000) (hr : Rd u w.heap.size A1 [z]) => containsInts (cap := c) hr 78 #[] (fun x => decide (x < 0) || decide (1000000 < x)) (fun args u => by kernel_rfl) (fun x _ _ => eChk2 x)
  have HS := Lib.hid fun (u : World) (hu : Below w.heap.size w u) => hS.below hu hB
  have HR := Lib.hid fun (u : World) (hu : Below w.heap.size w u) => hR.below hu hC
  have HAL := Lib.hid hal
  have HC1 := Lib.hid C1
  have HSZ := Lib.hid hsz
  clear hS hR hal C1 e0
  go_enter Tryz.func63, Tryz.ntmps63
  go_wp2_with fail
  generalize w.alloc (.cells #[.slice AS 2 cs, .slice AB 2 cb] 41) = w1 at *
  refine HC1.out.mono ?_
  rintro e w2 ⟨rfl, hb2⟩
  have HB2 := Lib.hid (HAL.out.trans (hb2.mono HAL.out.size))
  have hc0' := (hb2.cell (p := ⟨w.heap.size, 0, none⟩) (by show w.heap.size < w1.heap.size; omega)).trans hc0
  have hc1' := (hb2.cell (p := ⟨w.heap.size, 1, none⟩) (by show w.heap.size < w1.heap.size; omega)).trans hc1
  clear hb2 hc0 hc1 HC1 HAL hsz HSZ
  generalize hgg : w.heap.size = g0 at *
  have HGG := Lib.hid hgg
  clear hgg
  clear w1
  go_wp2_with fail
  go_loopw [3, 36] (fun lv iv wr => ∃ (k : Nat) (l : Int), k ≤ 2 ∧ iv = .int .i64 k ∧ lv = .int .i64 l ∧ 0 ≤ l ∧ l ≤ 1000 ∧ (k = 0 → l = 1000) ∧ (k = 1 → l = 1000 - s) ∧ Hid (Below g0 w wr) ∧ wr.cell? ⟨g0, 0, none⟩ = some (.slice AS 2 cs) ∧ wr.cell? ⟨g0, 1, none⟩ = some (.slice AB 2 cb)) (fun _ iv _ => 2 - (intOf iv).toNat)
  case atStart => exact ⟨0, 1000, by omega, rfl, rfl, by omega, by omega, fun _ => rfl, by omega, HB2, hc0', hc1'⟩
  case round =>
    obtain ⟨k, l, hk, rfl, rfl, hl0, hl1, hl2, hl3, hb, hd0, hd1⟩ := hrel
    by_cases hlt : k < 2
    · obtain ⟨b1, o1, s', rfl, _, hs', _, cs'⟩ := (HS.out _ hb.out).at_ (k := k) hlt
      obtain ⟨b2, o2, row, A2, c2, rfl, _, hrow, crow, hrr⟩ := (HR.out _ hb.out).at_ (k := k) hlt
      obtain ⟨b3, o3, row0, A3, c3, e3, _, hrow0, crow0, hrr0⟩ := (HR.out _ hb.out).at_ (k := 0) (by simp)
      cases e3
      have h1 : s' = s := by
        match k, hlt, hs' with
        | 0, _, hs' => simpa using hs'.symm
        | 1, _, hs' => simpa using hs'.symm
      obtain ⟨z, rfl, hz⟩ : ∃ z, row = [z] ∧ 0 ≤ z ∧ z ≤ 1000000 := by
        match k, hlt, hrow with
        | 0, _, hrow => exact ⟨x, by simpa using hrow.symm, hx⟩
        | 1, _, hrow => exact ⟨y, by simpa using hrow.symm, hy⟩
      obtain rfl : row0 = [x] := by simpa using hrow0.symm
      subst h1
      have CZ := CI.out wr z A2 c2 hz (hrr.more hC)
      have e0 : [z].any (fun x => decide (x < 0) || decide (1000000 < x)) = false := by simp; omega
      rw [e0] at CZ
      have q1 : decide (s' < 1) = false := decide_eq_false (by omega)
      have q2 : decide (l < s') = false := decide_eq_false (by omega)
      have HCZ := Lib.hid CZ
      replace crow : wr.cell? ⟨b2, o2 + k, none⟩ = some (.slice A2 1 c2) := crow
      replace crow0 : wr.cell? ⟨b2, o2, none⟩ = some (.slice A3 1 c3) := crow0
      have hk2 : (k : Int) < 2 := by omega
      clear hs' hrow hrow0 hrr hrr0 CZ e0 hz
      go_wp2_with fail
      refine HCZ.out.mono ?_
      rintro e w' ⟨rfl, rfl⟩
      clear HCZ
      go_wp2_with fail
      go_quiet (fail)
      have HB3 : Hid (Below g0 w (wr.drewN nq)) := Lib.hid (below_drewN hb.out nq)
      replace hd0 : (wr.drewN nq).cell? _ = _ := hd0
      replace hd1 : (wr.drewN nq).cell? _ = _ := hd1
      clear cs' crow crow0 hb
      generalize wr.drewN nq = wq at *
      go_wp2
      go_roundw
      case rel => exact ⟨k + 1, l - s', by omega, by go_num, rfl, by omega, by omega, by omega, by omega, HB3, hd0, hd1⟩
      case measure => simp [intOf]; omega
    · obtain rfl : k = 2 := by omega
      go_wp2
      go_ret
      exact ⟨rfl, by rw [HGG.out]; exact hb.out⟩
end Go.Proofs.YtkoipecnmijfoaaGreat

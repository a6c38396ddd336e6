import Derived.Test.YtkoipecnmijfoaaS31a
import Derived.Test.YtkoipecnmijfoaaM35g
/-! Walks: the Checks of strips. -/
namespace Go.Proofs.Ytkoipecnmijfoaa
open Go.RowKit Go.Deep
set_option linter.unusedVariables false
set_option maxRecDepth 100000

theorem sChkLen {u : World} {A : Option Addr} {n c : Nat} : Calls Try.prog 28 #[.slice A n c] u fun e w' => e = .returned (.bool (decide (16 < n))) ∧ u = w' := by
  go_enter Try.func28, Try.ntmps28
  go_wp2
  go_ret
  exact ⟨ret_bool (by rw [decide_eq_decide]; omega), rfl⟩
theorem sBadV {u : World} (x : Int) : Calls Try.prog 31 #[.int .i64 x] u fun e w' => e = .returned (.bool (badV x)) ∧ u = w' := by
  by_cases h1 : x < 0
  · have d1 : decide (x < 0) = true := decide_eq_true h1
    go_enter Try.func31, Try.ntmps31
    go_wp2
    go_ret
    exact ⟨ret_bool (by rw [badV, d1]; rfl), rfl⟩
  · have d1 : decide (x < 0) = false := decide_eq_false h1
    have HB : Hid (badV x = decide (1000 < x)) := Lib.hid (by rw [badV, d1]; rfl)
    go_enter Try.func31, Try.ntmps31
    go_wp2
    go_ret
    exact ⟨ret_bool HB.out.symm, rfl⟩
set_option maxHeartbeats 1000000 in
theorem sChkRow {u : World} {B C g : Nat} {A A1 : Option Addr} {V : List (List Int)} {x : List Int} {cap c : Nat} (h : Rd2 u C A V) (hx : Rd u B A1 x) (hn : 0 < V.length) (hg : u.cell? ⟨g, 0, none⟩ = some (.slice A V.length cap)) :
    Calls Try.prog 29 (#[.slice A1 x.length c] ++ #[.pointer (some ⟨g, 0, none⟩)]) u fun e w' => e = .returned (.bool (badRow (V.getD 0 []).length x)) ∧ u = w' := by
  obtain ⟨b0, o0, x0, A0, c0, rfl, _, hx0, hc0, hr0⟩ := h.at_ hn
  rw [Nat.add_zero] at hc0
  have l0 := hr0.len
  have l1 := hx.len
  have hv0 : V.getD 0 [] = x0 := by rw [List.getD_eq_getElem?_getD, hx0]; rfl
  rw [hv0]
  have CI := Lib.hid (containsInts (cap := c) hx 31 #[] badV (fun args u => by kernel_rfl) (fun y _ _ => sBadV y))
  clear hv0 hx0 hr0 hx h
  by_cases hl : x.length = x0.length
  · have d1 : ((x.length : Int) != (x0.length : Int)) = false := by rw [bne_eq_false_iff_eq]; omega
    have HB : Hid (badRow x0.length x = x.any badV) := Lib.hid (by rw [badRow, decide_eq_false (by omega)]; rfl)
    clear hl
    go_enter Try.func29, Try.ntmps29
    go_wp2_with (go_at_call 30; refine CI.out.mono ?_; rintro e w' ⟨rfl, rfl⟩)
    go_ret
    exact ⟨ret_bool HB.out.symm, rfl⟩
  · have d1 : ((x.length : Int) != (x0.length : Int)) = true := by rw [bne_iff_ne]; omega
    have HB : Hid (badRow x0.length x = true) := Lib.hid (by rw [badRow, decide_eq_true (by omega)]; rfl)
    clear hl
    go_enter Try.func29, Try.ntmps29
    go_wp2_with (go_at_call 30; refine CI.out.mono ?_; rintro e w' ⟨rfl, rfl⟩)
    go_ret
    exact ⟨ret_bool HB.out.symm, rfl⟩
set_option maxHeartbeats 2000000 in
theorem sCheck {w : World} {C : Nat} {A : Option Addr} {V : List (List Int)} {cap : Nat} (h : Rd2 w C A V) (hC : C ≤ w.heap.size) :
    Calls Try.prog 15 #[.slice A V.length cap] w fun e w' => e = .returned (.int .i64 (chk31 V)) ∧ Below w.heap.size w w' := by
  have l2 := h.len
  have hb : Below w.heap.size w (w.alloc (.cells #[.slice A V.length cap] 22)) := (Below.refl _ _).alloc (Nat.le_refl _) _
  have hr : (w.alloc (.cells #[.slice A V.length cap] 22)).cell? ⟨w.heap.size, 0, none⟩ = some (.slice A V.length cap) := by simp
  have hs : (w.alloc (.cells #[.slice A V.length cap] 22)).heap.size = w.heap.size + 1 := by simp
  have HS := Lib.hid hs
  have HB := Lib.hid hb
  have H' := Lib.hid (h.below hb hC)
  clear h hb hs
  go_enter Try.func15, Try.ntmps15
  generalize hw2 : w.alloc (.cells #[.slice A V.length cap] 22) = w2 at *
  have HW2 := Lib.hid hw2
  clear hw2
  have hx2 : w.alloc (.cells #[.slice A V.length cap] 22) = w2 := HW2.out
  have CA := containsRowsM (cap := cap) H'.out (by rw [HS.out]; omega) 28 #[] (fun l => decide (16 < l.length)) (fun args u => by kernel_rfl) (fun A1 x c u _ _ hbu => sChkLen.mono fun e w' h => ⟨h.1, by rw [← h.2]; exact Below.refl _ _⟩)
  have HCA := Lib.hid CA
  have HCB : Hid (0 < V.length → ∀ u, Below w2.heap.size w2 u → Calls Try.prog 27 #[.slice A V.length cap, .func (.func 29) #[] #[.pointer (some ⟨w.heap.size, 0, none⟩)]] u fun e w' => e = .returned (.bool (V.any (badRow (V.getD 0 []).length))) ∧ Below u.heap.size u w') := Lib.hid fun hn u hu =>
    containsRowsM (cap := cap) (H'.out.below hu (by rw [HS.out]; omega)) (by have := hu.size; have := HS.out; omega) 29 #[.pointer (some ⟨w.heap.size, 0, none⟩)] (badRow (V.getD 0 []).length) (fun args u => by kernel_rfl) (fun A1 x c u' hx hrx hbu => by
      have h1 := hu.trans (hbu.mono hu.size)
      exact (sChkRow (cap := cap) (H'.out.below h1 (by rw [HS.out]; omega)) hrx hn ((h1.cell (p := ⟨w.heap.size, 0, none⟩) (by show w.heap.size < _; rw [HS.out]; omega)).trans hr)).mono fun e w' h => ⟨h.1, by rw [← h.2]; exact Below.refl _ _⟩)
  clear CA
  by_cases h6 : 6 < V.length
  · have f1 : decide (6 < (V.length : Int)) = true := decide_eq_true (by omega)
    have HT : Hid (chk31 V = 4) := Lib.hid (by rw [chk31, if_pos (.inl h6)])
    go_wp2
    go_ret
    exact ⟨ret_int HT.out.symm, HB.out⟩
  · have f1 : decide (6 < (V.length : Int)) = false := decide_eq_false (by omega)
    cases ha : V.any fun l => decide (16 < l.length)
    case true =>
      have HT : Hid (chk31 V = 4) := Lib.hid (by rw [chk31, if_pos (.inr ha)])
      rw [ha] at HCA
      clear ha
      go_wp2_with fail
      refine HCA.out.mono ?_
      rintro e w3 ⟨rfl, hb3⟩
      have HB3 := Lib.hid (HB.out.trans (hb3.mono (by rw [HS.out]; omega)))
      clear hb3
      go_wp2
      go_ret
      exact ⟨ret_int HT.out.symm, HB3.out⟩
    case false =>
      rw [ha] at HCA
      have HN1 : Hid (¬ (6 < V.length ∨ V.any (fun l => decide (16 < l.length)) = true)) := Lib.hid (by rw [ha]; simp; omega)
      clear ha
      go_wp2_with fail
      refine HCA.out.mono ?_
      rintro e w3 ⟨rfl, hb3⟩
      have HB3 := Lib.hid (HB.out.trans (hb3.mono (by rw [HS.out]; omega)))
      have c1 : w3.cell? ⟨w.heap.size, 0, none⟩ = some (.slice A V.length cap) := (hb3.cell (p := ⟨w.heap.size, 0, none⟩) (by show w.heap.size < _; rw [HS.out]; omega)).trans hr
      have HB23 := Lib.hid hb3
      clear hb3
      by_cases h0 : V.length = 0
      · have f3 : ((V.length : Int) == 0) = true := by rw [h0]; rfl
        have HT : Hid (chk31 V = 8) := Lib.hid (by rw [chk31, if_neg HN1.out, if_pos (.inl h0)])
        clear h0
        go_wp2
        go_ret
        exact ⟨ret_int HT.out.symm, HB3.out⟩
      · have f3 : ((V.length : Int) == 0) = false := by rw [beq_eq_false_iff_ne]; omega
        have HCB3 := Lib.hid (HCB.out (by omega) w3 HB23.out)
        have HT : Hid (chk31 V = if V.any (badRow (V.getD 0 []).length) = true then 8 else 0) := Lib.hid (by
          rw [chk31, if_neg HN1.out]
          by_cases hb : V.any (badRow (V.getD 0 []).length) = true
          · rw [if_pos hb, if_pos (.inr hb)]
          · rw [if_neg hb, if_neg (fun h => h.elim h0 hb)])
        clear h0 HCB
        generalize V.any (badRow (V.getD 0 []).length) = bb at *
        go_wp2_with fail
        refine HCB3.out.mono ?_
        rintro e w4 ⟨rfl, hb4⟩
        have HB4 := Lib.hid (HB3.out.trans (hb4.mono HB3.out.size))
        clear hb4
        cases bb
        · go_wp2
          go_ret
          exact ⟨ret_int (by rw [HT.out]; rfl), HB4.out⟩
        · go_wp2
          go_ret
          exact ⟨ret_int (by rw [HT.out]; rfl), HB4.out⟩
end Go.Proofs.Ytkoipecnmijfoaa

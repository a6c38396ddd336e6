import Derived.Test.YtdkcpnmaglkmnaaW30q
import Derived.Test.YtdkcpnmaglkmnaaSame
/-! The walks of SameParts and Same of chapter 30. -/
namespace Go.Proofs.Ytdkcpnmaglkmnaa
open Go.RowKit Go.Deep
set_option linter.unusedVariables false
set_option maxRecDepth 100000

theorem dropA_eq {α : Type} {L M : List α} {k : Nat} {x y : α} (hx : L[k]? = some x) (hy : M[k]? = some y) : (L.drop k = M.drop k) ↔ (x = y ∧ L.drop (k + 1) = M.drop (k + 1)) := by
  rw [dropA_of hx, dropA_of hy]; simp
set_option maxHeartbeats 1000000 in
theorem sameParts {w : World} {B C : Nat} {A A' : Option Addr} {L M : List (List Int)} {cap cap' : Nat} (h : Rd2 w B A L) (h' : Rd2 w C A' M) (hB : B ≤ w.heap.size) (hC : C ≤ w.heap.size) :
    Calls Try.prog 27 #[.slice A L.length cap, .slice A' M.length cap'] w fun e w' => e = .returned (.bool (decide (L = M))) ∧ Below w.heap.size w w' := by
  have l1 := h.len
  have l2 := h'.len
  by_cases hl : L.length = M.length
  · have hb : ((L.length : Int) != (M.length : Int)) = false := by rw [hl]; simp
    have HL := Lib.hid hl
    have H := Lib.hid h
    have H' := Lib.hid h'
    clear h h' hl
    go_enter Try.func27, Try.ntmps27
    go_wp2
    clear hb
    go_loopw [5] (fun i wr => ∃ (k : Nat), k ≤ L.length ∧ i = .int .i64 k ∧ Hid (Below w.heap.size w wr) ∧ Hid (decide (L.drop k = M.drop k) = decide (L = M))) (fun i _ => L.length - (intOf i).toNat)
    case atStart => exact ⟨0, by omega, rfl, Lib.hid (Below.refl _ _), Lib.hid (by simp)⟩
    case round =>
      obtain ⟨k, hk, rfl, hw, hr⟩ := hrel
      by_cases hlt : k < L.length
      · have hlt' : k < M.length := by have := HL.out; omega
        obtain ⟨b, off, x, A1, c1, rfl, hb, hx, hc, hrd⟩ := (H.out.below hw.out hB).at_ hlt
        obtain ⟨b', off', y, A2, c2, rfl, hb', hy, hc', hrd'⟩ := (H'.out.below hw.out hC).at_ hlt'
        have hd := dropA_eq hx hy
        have HD := Lib.hid hd
        have hk0 : (0 : Int) ≤ (k : Int) := by omega
        have hk1 : (k : Int) < (L.length : Int) := by omega
        have hk2 : (k : Int) < (M.length : Int) := by omega
        have CS : Hid (∀ u : World, (u.cell? ⟨b, off + k, none⟩ = some (.slice A1 x.length c1) ∧ u.cell? ⟨b', off' + k, none⟩ = some (.slice A2 y.length c2) ∧ Hid (Below wr.heap.size wr u)) →
            Calls Try.prog 28 #[.slice A1 x.length c1, .slice A2 y.length c2] u fun e u' => e = .returned (.bool (decide (x = y))) ∧
              (u'.cell? ⟨b, off + k, none⟩ = some (.slice A1 x.length c1) ∧ u'.cell? ⟨b', off' + k, none⟩ = some (.slice A2 y.length c2) ∧ Hid (Below wr.heap.size wr u'))) := Lib.hid (fun u ⟨h1, h2, h3⟩ => by
          have s1 := hw.out.size
          have s2 := h3.out.size
          exact (sameInts (cap := c1) (cap' := c2) (hrd.below h3.out (by omega)) (hrd'.below h3.out (by omega)) (by omega) (by omega)).mono fun e u' ⟨he, hb2⟩ => ⟨he, ((bcell hb2).1 b _ (by omega)).trans h1, ((bcell hb2).1 b' _ (by omega)).trans h2, Lib.hid (h3.out.trans (hb2.mono s2))⟩)
        have hS0 : wr.drew.cell? ⟨b, off + k, none⟩ = some (.slice A1 x.length c1) ∧ wr.drew.cell? ⟨b', off' + k, none⟩ = some (.slice A2 y.length c2) ∧ Hid (Below wr.heap.size wr wr.drew) := ⟨hc, hc', Lib.hid (below_drewN (Below.refl _ _) 1)⟩
        clear hd hx hy hrd hrd' hc hc'
        by_cases hxy : x = y
        · have hdec : decide (x = y) = true := by simpa using hxy
          rw [hdec] at CS
          have hnx := Lib.hid (show decide (L.drop (k + 1) = M.drop (k + 1)) = decide (L = M) by rw [← hr.out]; exact decide_eq_decide.2 ⟨fun h => HD.out.2 ⟨hxy, h⟩, fun h => (HD.out.1 h).2⟩)
          clear hdec hxy
          go_wp2
          go_region_held3 (fun w' => w'.cell? ⟨b, off + k, none⟩ = some (.slice A1 x.length c1) ∧ w'.cell? ⟨b', off' + k, none⟩ = some (.slice A2 y.length c2) ∧ Hid (Below wr.heap.size wr w')) (first | assumption | go_keep)
            ((go_at_call 28; refine (CS.out _ (by assumption)).mono ?_; rintro e w3 ⟨rfl, hS3⟩))
          have HB3 := Lib.hid (hw.out.trans (hS3.2.2.out.mono hw.out.size))
          clear CS hS0 hS3
          go_wp2
          go_roundw
          case rel => exact ⟨k + 1, by omega, by go_num, HB3, hnx⟩
          case measure => simp [intOf]; omega
        · have hdec : decide (x = y) = false := by simpa using hxy
          rw [hdec] at CS
          have hno := Lib.hid (show decide (L = M) = false by rw [← hr.out]; exact decide_eq_false fun h => hxy (HD.out.1 h).1)
          clear hdec hxy
          go_wp2
          go_region_held3 (fun w' => w'.cell? ⟨b, off + k, none⟩ = some (.slice A1 x.length c1) ∧ w'.cell? ⟨b', off' + k, none⟩ = some (.slice A2 y.length c2) ∧ Hid (Below wr.heap.size wr w')) (first | assumption | go_keep)
            ((go_at_call 28; refine (CS.out _ (by assumption)).mono ?_; rintro e w3 ⟨rfl, hS3⟩))
          have HB3 := Lib.hid (hw.out.trans (hS3.2.2.out.mono hw.out.size))
          clear CS hS0 hS3
          go_wp2
          go_ret
          exact ⟨ret_bool hno.out.symm, HB3.out⟩
      · have hge : L.length ≤ k := by omega
        go_wp2
        go_ret
        exact ⟨ret_bool (by rw [← hr.out, drop_end hge, drop_end (by have := HL.out; omega)]; simp), hw.out⟩
  · have hb : ((L.length : Int) != (M.length : Int)) = true := by simp; omega
    have hfin := Lib.hid (show decide (L = M) = false from decide_eq_false fun h => hl (by rw [h]))
    clear h h' hl
    go_enter Try.func27, Try.ntmps27
    go_wp2
    go_ret
    exact ⟨ret_bool hfin.out.symm, Below.refl _ _⟩

set_option maxHeartbeats 1000000 in
theorem sameLand {w : World} {B C : Nat} {A A' : Option Addr} {L M : List Int} {cap cap' : Nat} (h : Rd w B A L) (h' : Rd w C A' M) (hB : B ≤ w.heap.size) (hC : C ≤ w.heap.size) (W H : Int) :
    Calls Try.prog 29 #[.agg #[.int .i64 W, .int .i64 H, .slice A L.length cap], .agg #[.int .i64 W, .int .i64 H, .slice A' M.length cap']] w fun e w' => e = .returned (.bool (decide (L = M))) ∧ Below w.heap.size w w' := by
  have hal : Below w.heap.size w ((w.alloc (.cells #[.int .i64 W, .int .i64 H, .slice A L.length cap] 24)).alloc (.cells #[.int .i64 W, .int .i64 H, .slice A' M.length cap'] 24)) := ((Below.refl _ _).alloc (Nat.le_refl _) _).alloc (by simp) _
  have l1 := h.len
  have l2 := h'.len
  have CS := sameInts (cap := cap) (cap' := cap') (h.below hal hB) (h'.below hal hC) (Nat.le_trans hB hal.size) (Nat.le_trans hC hal.size)
  have CSH := Lib.hid CS
  have HAL := Lib.hid hal
  clear h h' hB hC hal CS
  go_enter Try.func29, Try.ntmps29
  go_wp2_with fail
  generalize ((w.alloc (.cells #[.int .i64 W, .int .i64 H, .slice A L.length cap] 24)).alloc (.cells #[.int .i64 W, .int .i64 H, .slice A' M.length cap'] 24)) = w2 at *
  refine CSH.out.mono ?_
  rintro e w3 ⟨rfl, hb⟩
  have HB := Lib.hid (HAL.out.trans (hb.mono HAL.out.size))
  clear hb CSH
  go_wp2
  go_ret
  exact ⟨rfl, HB.out⟩
end Go.Proofs.Ytdkcpnmaglkmnaa

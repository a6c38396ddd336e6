import Derived.Test.YtjgobpejifhphaaW34c
/-! Walks of chapter 34: best. -/
namespace Go.Proofs.Ytjgobpejifhphaa
open Go.RowKit
set_option linter.unusedVariables false

def betterB (f fv x : Int) : Bool := decide (f < 0) || decide (fv < x)
def bestGo (but : Int) : List Int → Int → Int → Int → Int
  | [], _, f, _ => f
  | x :: t, k, f, fv => if k ≠ but ∧ betterB f fv x = true then bestGo but t (k + 1) k x else bestGo but t (k + 1) f fv
theorem bestGo_yes {but x k f fv : Int} {t : List Int} (h : ¬ k = but) (h2 : betterB f fv x = true) : bestGo but (x :: t) k f fv = bestGo but t (k + 1) k x := by rw [bestGo, if_pos ⟨h, h2⟩]
theorem bestGo_but {but x k f fv : Int} {t : List Int} (h : k = but) : bestGo but (x :: t) k f fv = bestGo but t (k + 1) f fv := by rw [bestGo, if_neg (by simp [h])]
theorem bestGo_no {but x k f fv : Int} {t : List Int} (h2 : betterB f fv x = false) : bestGo but (x :: t) k f fv = bestGo but t (k + 1) f fv := by rw [bestGo, if_neg (by simp [h2])]

set_option maxHeartbeats 400000 in
/-- the closure: i lies in the list; k is negative or lies in the list, with the value v -/
theorem best1 {w : World} {bb b off cap n i : Nat} {k x v : Int}
    (hbox : w.cell? ⟨bb, 0, none⟩ = some (.slice (some ⟨b, off, none⟩) n cap))
    (hi : i < n) (hx : w.cell? ⟨b, off + i, none⟩ = some (.int .i64 x)) (hn : n * 8 ≤ 140737488351232)
    (hk : k < 0 ∨ ∃ j : Nat, k = j ∧ j < n ∧ w.cell? ⟨b, off + j, none⟩ = some (.int .i64 v)) :
    Calls Try.prog 70 #[.int .i64 i, .int .i64 k, .pointer (some ⟨bb, 0, none⟩)] w fun e w' => e = .returned (.bool (betterB k v x)) ∧ Below w.heap.size w w' := by
  rcases hk with hk | ⟨j, rfl, hj, hv⟩
  · have hd : decide (k < 0) = true := by simpa using hk
    go_enter Try.func70, Try.ntmps70
    go_wp2
    go_quiet (fail)
    go_wp2
    go_ret
    exact ⟨ret_bool (by simp [betterB, hk]), below_drewN (Below.refl _ _) _⟩
  · have hd : decide ((j : Int) < 0) = false := by simp
    go_enter Try.func70, Try.ntmps70
    go_wp2
    go_quiet (fail)
    go_wp2
    go_ret
    exact ⟨ret_bool (by simp [betterB]; omega), below_drewN (Below.refl _ _) _⟩

def bestOf (O : List Int) (but : Int) : Int := bestGo but O 0 (-1) 0
/-- the place that best has found so far, with its offer -/
def Found (O : List Int) (f fv : Int) : Prop := f < 0 ∨ ∃ j : Nat, f = j ∧ O[j]? = some fv

set_option maxHeartbeats 400000 in
theorem dBest {w : World} {B : Nat} {A : Option Addr} {O : List Int} {cap : Nat} (h : Rd w B A O) (hB : B ≤ w.heap.size) (but : Int) :
    Calls Try.prog 41 #[.slice A O.length cap, .int .i64 but] w fun e w' => e = .returned (.int .i64 (bestOf O but)) ∧ Below w.heap.size w w' := by
  have hlen := h.len
  have hbox : (w.alloc (.cells #[.slice A O.length cap] 22)).cell? ⟨w.heap.size, 0, none⟩ = some (.slice A O.length cap) := by simp
  have h1 : Rd (w.alloc (.cells #[.slice A O.length cap] 22)) B A O := h.below ((Below.refl _ _).alloc (Nat.le_refl _) _) hB
  have hb0 : Below w.heap.size w (w.alloc (.cells #[.slice A O.length cap] 22)) := (Below.refl _ _).alloc (Nat.le_refl _) _
  have hs0 : (w.alloc (.cells #[.slice A O.length cap] 22)).heap.size = w.heap.size + 1 := by simp
  have HB0 := Lib.hid hb0
  have HS0 := Lib.hid hs0
  have HB := Lib.hid hbox
  have H := Lib.hid h1
  clear h hbox h1 hb0 hs0
  go_enter Try.func41, Try.ntmps41
  go_wp2
  generalize hw1 : w.alloc (.cells #[.slice A O.length cap] 22) = w1 at *
  clear hw1
  go_loopw [6, 11] (fun f i wr => ∃ (k : Nat) (g gv : Int), k ≤ O.length ∧ g ≤ k ∧ -1 ≤ g ∧ i = .int .i64 k ∧ f = .int .i64 g ∧ Hid (Found O g gv) ∧ Hid (Below w1.heap.size w1 wr) ∧ Hid (bestGo but (O.drop k) k g gv = bestOf O but)) (fun _ i _ => O.length - (intOf i).toNat)
  case atStart => exact ⟨0, -1, 0, by omega, by omega, by omega, rfl, rfl, Lib.hid (.inl (by omega)), Lib.hid (Below.refl _ _), Lib.hid rfl⟩
  case round =>
    obtain ⟨k, g, gv, hk, hg, hg1, rfl, rfl, hf, hbw, hr⟩ := hrel
    by_cases hlt : k < O.length
    · obtain ⟨b, off, x, rfl, hb, hx, hi, hc⟩ := (H.out.below hbw.out (by rw [HS0.out]; omega)).at_ hlt
      have hbox : wr.cell? ⟨w.heap.size, 0, none⟩ = some (.slice (some ⟨b, off, none⟩) O.length cap) := (hbw.out.cell (p := ⟨w.heap.size, 0, none⟩) (by show w.heap.size < w1.heap.size; rw [HS0.out]; omega)).trans HB.out
      have hk' : g < 0 ∨ ∃ j : Nat, g = j ∧ j < O.length ∧ wr.cell? ⟨b, off + j, none⟩ = some (.int .i64 gv) := by
        rcases hf.out with h0 | ⟨j, rfl, hj⟩
        · exact .inl h0
        · obtain ⟨b', off', e, _, hcells⟩ := (H.out.below hbw.out (by rw [HS0.out]; omega)).2.2 (by omega)
          cases e
          exact .inr ⟨j, rfl, (List.getElem?_eq_some_iff.1 hj).1, hcells j gv hj⟩
      have C := best1 hbox hlt hc hlen hk'
      have HI := Lib.hid hi; clear hi
      have HX := Lib.hid hx; clear hx
      clear hk'
      by_cases hbut : (k : Int) = but
      · have hne : ((k : Int) != but) = false := by simpa using hbut
        have hbut' := Lib.hid hbut; clear hbut
        go_wp2
        go_roundw
        case rel => exact ⟨k + 1, g, gv, by omega, by omega, by omega, by go_num, rfl, hf, hbw, Lib.hid (by rw [← hr.out, drop_of HX.out, bestGo_but hbut'.out]; rfl)⟩
        case measure => simp [intOf]; omega
      · have hne : ((k : Int) != but) = true := by simpa using hbut
        cases hbt : betterB g gv x
        · rw [hbt] at C
          go_wp2_with (go_at_call 70; refine C.mono ?_; rintro e w' ⟨rfl, hbel⟩)
          have hbw' := hbw.out.trans (hbel.mono hbw.out.size)
          go_roundw
          case rel => exact ⟨k + 1, g, gv, by omega, by omega, by omega, by go_num, rfl, hf, Lib.hid hbw', Lib.hid (by rw [← hr.out, drop_of HX.out, bestGo_no hbt]; rfl)⟩
          case measure => simp [intOf]; omega
        · rw [hbt] at C
          go_wp2_with (go_at_call 70; refine C.mono ?_; rintro e w' ⟨rfl, hbel⟩)
          have hbw' := hbw.out.trans (hbel.mono hbw.out.size)
          go_roundw
          case rel => exact ⟨k + 1, k, x, by omega, by omega, by omega, by go_num, rfl, Lib.hid (.inr ⟨k, rfl, HX.out⟩), Lib.hid hbw', Lib.hid (by rw [← hr.out, drop_of HX.out, bestGo_yes hbut hbt]; rfl)⟩
          case measure => simp [intOf]; omega
    · go_wp2
      go_ret
      exact ⟨ret_int (by rw [← hr.out, drop_end (by omega)]; rfl), HB0.out.trans (hbw.out.mono (by rw [HS0.out]; omega))⟩
end Go.Proofs.Ytjgobpejifhphaa

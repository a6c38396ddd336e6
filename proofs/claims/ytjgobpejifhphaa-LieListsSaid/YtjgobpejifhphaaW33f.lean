import Derived.Test.YtjgobpejifhphaaW33e
/-! Walks of chapter 33: the reference's ahead and Place. -/
namespace Go.Proofs.Ytjgobpejifhphaa
open Go.RowKit Go.Deep
set_option linter.unusedVariables false
set_option maxRecDepth 100000

def ahdV (x y u v : Int) (a b : Nat) : Bool := if x ≠ y then decide (y < x) else if u ≠ v then decide (v < u) else decide (a < b)
/-- a is ranked ahead of b -/
def ahd (C B : List Int) (a b : Nat) : Bool := ahdV (B.getD a 0) (B.getD b 0) (C.getD a 0) (C.getD b 0) a b
theorem ahd_eq {C B : List Int} {a b : Nat} {x y u v : Int} (h1 : B[a]? = some x) (h2 : B[b]? = some y) (h3 : C[a]? = some u) (h4 : C[b]? = some v) :
    ahd C B a b = ahdV x y u v a b := by
  simp [ahd, List.getD, h1, h2, h3, h4]

set_option maxHeartbeats 1000000 in
theorem aheadW {w : World} {D : Nat} {A1 A2 : Option Addr} {C B : List Int} {cap1 cap2 : Nat} {a b : Nat}
    (hC : Rd w D A1 C) (hB : Rd w D A2 B) (ha : a < B.length) (hb : b < B.length) (hl : B.length = C.length) :
    Calls Try.prog 106 #[.slice A1 C.length cap1, .slice A2 B.length cap2, .int .i64 a, .int .i64 b] w
      fun e w' => e = .returned (.bool (ahd C B a b)) ∧ Below w.heap.size w w' := by
  obtain ⟨x, hx⟩ : ∃ x, B[a]? = some x := ⟨B[a], by simp [ha]⟩
  obtain ⟨y, hy⟩ : ∃ y, B[b]? = some y := ⟨B[b], by simp [hb]⟩
  obtain ⟨u, hu⟩ : ∃ u, C[a]? = some u := ⟨C[a]'(by omega), by simp⟩
  obtain ⟨v, hv⟩ : ∃ v, C[b]? = some v := ⟨C[b]'(by omega), by simp⟩
  have hf := Lib.hid (ahd_eq hx hy hu hv)
  obtain ⟨b1, o1, rfl, _, hc1⟩ := hB.2.2 (by omega)
  obtain ⟨b2, o2, rfl, _, hc2⟩ := hC.2.2 (by omega)
  have cx := hc1 a x hx
  have cy := hc1 b y hy
  have cu := hc2 a u hu
  have cv := hc2 b v hv
  have l1 := hB.len
  have l2 := hC.len
  have hac : a < C.length := by omega
  have hbc : b < C.length := by omega
  clear hc1 hc2 hx hy hu hv hB hC hl
  have C2 : ∀ n, (w.drewN n).cell? ⟨b2, o2 + a, none⟩ = some (.int .i64 u) ∧ (w.drewN n).cell? ⟨b2, o2 + b, none⟩ = some (.int .i64 v) ∧ (w.drewN n).cell? ⟨b1, o1 + a, none⟩ = some (.int .i64 x) ∧ (w.drewN n).cell? ⟨b1, o1 + b, none⟩ = some (.int .i64 y) := fun n => ⟨cu, cv, cx, cy⟩
  have HC2 := Lib.hid C2
  clear C2
  by_cases h1 : x = y
  · have d1 : (x != y) = false := by simpa using h1
    by_cases h2 : u = v
    · have d2 : (u != v) = false := by simpa using h2
      have hf2 := Lib.hid (show ahd C B a b = decide (a < b) by rw [hf.out, ahdV, if_neg (by simp [h1]), if_neg (by simp [h2])])
      clear h1 h2 hf
      go_enter Try.func106, Try.ntmps106
      go_wp2
      go_quiet (fail)
      have hq := HC2.out nq
      have HBq := Lib.hid (below_drewN (Below.refl w.heap.size w) nq)
      have q1 := hq.1
      have q2 := hq.2.1
      clear hq cx cy cu cv HC2
      generalize w.drewN nq = w1 at *
      go_wp2
      go_quiet (fail)
      have HBr := Lib.hid (below_drewN HBq.out nq)
      go_wp2
      go_ret
      exact ⟨ret_bool (by rw [hf2.out]), HBr.out⟩
    · have d2 : (u != v) = true := by simpa using h2
      have hf2 := Lib.hid (show ahd C B a b = decide (v < u) by rw [hf.out, ahdV, if_neg (by simp [h1]), if_pos h2])
      clear h1 h2 hf
      go_enter Try.func106, Try.ntmps106
      go_wp2
      go_quiet (fail)
      have hq := HC2.out nq
      have HBq := Lib.hid (below_drewN (Below.refl w.heap.size w) nq)
      have q1 := hq.1
      have q2 := hq.2.1
      clear hq cx cy cu cv HC2
      generalize w.drewN nq = w1 at *
      go_wp2
      go_quiet (fail)
      have q1' : (w1.drewN nq).cell? ⟨b2, o2 + a, none⟩ = w1.cell? ⟨b2, o2 + a, none⟩ := rfl
      have q2' : (w1.drewN nq).cell? ⟨b2, o2 + b, none⟩ = w1.cell? ⟨b2, o2 + b, none⟩ := rfl
      rw [q1] at q1'
      rw [q2] at q2'
      have HBr := Lib.hid (below_drewN HBq.out nq)
      clear q1 q2
      generalize w1.drewN nq = w2 at *
      go_wp2
      go_quiet (fail)
      have HBs := Lib.hid (below_drewN HBr.out nq)
      go_wp2
      go_ret
      exact ⟨ret_bool (by rw [hf2.out]), HBs.out⟩
  · have d1 : (x != y) = true := by simpa using h1
    have hf2 := Lib.hid (show ahd C B a b = decide (y < x) by rw [hf.out, ahdV, if_pos h1])
    clear h1 hf
    go_enter Try.func106, Try.ntmps106
    go_wp2
    go_quiet (fail)
    have hq := HC2.out nq
    have HBq := Lib.hid (below_drewN (Below.refl w.heap.size w) nq)
    have q1 := hq.2.2.1
    have q2 := hq.2.2.2
    clear hq cx cy cu cv HC2
    generalize w.drewN nq = w1 at *
    go_wp2
    go_quiet (fail)
    have HBr := Lib.hid (below_drewN HBq.out nq)
    go_wp2
    go_ret
    exact ⟨ret_bool (by rw [hf2.out]), HBr.out⟩

/-- how many of the first k agents are ranked ahead of a -/
def plc (C B : List Int) (a k : Nat) : Nat := ((List.range k).filter fun i => decide (i ≠ a) && ahd C B i a).length
def place (C B : List Int) (a : Nat) : Nat := plc C B a B.length
theorem plc_le (C B : List Int) (a k : Nat) : plc C B a k ≤ k := by
  have := List.length_filter_le (fun i => decide (i ≠ a) && ahd C B i a) (List.range k)
  simpa [plc] using this
theorem plc_yes {C B : List Int} {a k : Nat} (h : k ≠ a) (h2 : ahd C B k a = true) : plc C B a (k + 1) = plc C B a k + 1 := by
  simp [plc, List.range_succ, List.filter_append, h, h2]
theorem plc_self {C B : List Int} {a k : Nat} (h : k = a) : plc C B a (k + 1) = plc C B a k := by
  simp [plc, List.range_succ, List.filter_append, h]
theorem plc_no {C B : List Int} {a k : Nat} (h2 : ahd C B k a = false) : plc C B a (k + 1) = plc C B a k := by
  simp [plc, List.range_succ, List.filter_append, h2]

set_option maxHeartbeats 1000000 in
theorem placeW {w : World} {D : Nat} {A1 A2 : Option Addr} {C B : List Int} {cap1 cap2 : Nat} {a : Nat}
    (hC : Rd w D A1 C) (hB : Rd w D A2 B) (hD : D ≤ w.heap.size) (ha : a < B.length) (hl : B.length = C.length) :
    Calls Try.prog 88 #[.slice A1 C.length cap1, .slice A2 B.length cap2, .int .i64 a] w
      fun e w' => e = .returned (.int .i64 (place C B a)) ∧ Below w.heap.size w w' := by
  have l1 := hB.len
  have CA : Hid (∀ (u : World) (k : Nat), k < B.length → Below w.heap.size w u → Calls Try.prog 106 #[.slice A1 C.length cap1, .slice A2 B.length cap2, .int .i64 k, .int .i64 a] u
      fun e u' => e = .returned (.bool (ahd C B k a)) ∧ Below u.heap.size u u') := Lib.hid fun u k hk hu => aheadW (hC.below hu hD) (hB.below hu hD) hk ha hl
  have HF := Lib.hid (show plc C B a B.length = place C B a from rfl)
  clear hC hB hD hl
  go_enter Try.func88, Try.ntmps88
  go_wp2
  go_loopw [7, 8] (fun n i wr => ∃ (k : Nat), k ≤ B.length ∧ i = .int .i64 k ∧ n = .int .i64 (plc C B a k) ∧ Hid (Below w.heap.size w wr)) (fun _ i _ => B.length - (intOf i).toNat)
  case atStart => exact ⟨0, by omega, rfl, rfl, Lib.hid (Below.refl _ _)⟩
  case round =>
    obtain ⟨k, hk, rfl, rfl, hw⟩ := hrel
    have hp := plc_le C B a k
    by_cases hlt : k < B.length
    · by_cases hka : k = a
      · have d1 : ((k : Int) != (a : Int)) = false := by simp; omega
        have hs := Lib.hid (plc_self (C := C) (B := B) hka)
        clear hka
        go_wp2
        go_roundw
        case rel => exact ⟨k + 1, by omega, by go_num, by rw [hs.out], hw⟩
        case measure => simp [intOf]; omega
      · have d1 : ((k : Int) != (a : Int)) = true := by simp; omega
        have C1 := CA.out wr k hlt hw.out
        cases hv : ahd C B k a
        · rw [hv] at C1
          have hs := Lib.hid (plc_no hv)
          clear hv hka
          go_wp2_with (go_at_call 106; refine C1.mono ?_; rintro e w1 ⟨rfl, hb1⟩)
          go_roundw
          case rel => exact ⟨k + 1, by omega, by go_num, by rw [hs.out], Lib.hid (hw.out.trans (hb1.mono hw.out.size))⟩
          case measure => simp [intOf]; omega
        · rw [hv] at C1
          have hs := Lib.hid (plc_yes hka hv)
          clear hv hka
          go_wp2_with (go_at_call 106; refine C1.mono ?_; rintro e w1 ⟨rfl, hb1⟩)
          go_roundw
          case rel => exact ⟨k + 1, by omega, by go_num, by rw [hs.out]; go_num, Lib.hid (hw.out.trans (hb1.mono hw.out.size))⟩
          case measure => simp [intOf]; omega
    · obtain rfl : k = B.length := by omega
      go_wp2
      go_ret
      exact ⟨rfl, hw.out⟩
end Go.Proofs.Ytjgobpejifhphaa

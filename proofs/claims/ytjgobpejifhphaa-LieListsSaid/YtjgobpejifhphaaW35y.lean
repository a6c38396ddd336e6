import Derived.Test.YtjgobpejifhphaaW35x
/-! Walks of chapter 35: Same, Great; the law of lists.
-/
namespace Go.Proofs.Ytjgobpejifhphaa
open Go.RowKit Go.Deep
set_option linter.unusedVariables false
set_option maxRecDepth 100000

theorem drop_eq_of35 {L M : List Int} {k : Nat} {x y : Int} (hx : L[k]? = some x) (hy : M[k]? = some y) : (L.drop k = M.drop k) ↔ (x = y ∧ L.drop (k + 1) = M.drop (k + 1)) := by
  rw [drop_of hx, drop_of hy]; simp
set_option maxHeartbeats 400000 in
theorem same35 {w : World} {B C : Nat} {A A' : Option Addr} {L M : List Int} {cap cap' : Nat} (h : Rd w B A L) (h' : Rd w C A' M) (hB : B ≤ w.heap.size) (hC : C ≤ w.heap.size) :
    Calls Try.prog 31 #[.slice A L.length cap, .slice A' M.length cap'] w fun e w' => e = .returned (.bool (decide (L = M))) ∧ Below w.heap.size w w' := by
  have l1 := h.len
  have l2 := h'.len
  by_cases hl : L.length = M.length
  · have hb : ((L.length : Int) != (M.length : Int)) = false := by rw [hl]; simp
    have HL := Lib.hid hl
    have H := Lib.hid h
    have H' := Lib.hid h'
    have HB := Lib.hid hB
    have HC := Lib.hid hC
    clear h h' hl hB hC
    go_enter Try.func31, Try.ntmps31
    go_wp2
    clear hb
    go_loopw [5] (fun i wr => ∃ (k : Nat), k ≤ L.length ∧ i = .int .i64 k ∧ Hid (Below w.heap.size w wr) ∧ Hid (decide (L.drop k = M.drop k) = decide (L = M))) (fun i _ => L.length - (intOf i).toNat)
    case atStart => exact ⟨0, by omega, rfl, Lib.hid (Below.refl _ _), Lib.hid (by simp)⟩
    case round =>
      obtain ⟨k, hk, rfl, hw, hr⟩ := hrel
      by_cases hlt : k < L.length
      · have hlt' : k < M.length := by have := HL.out; omega
        obtain ⟨b, off, x, rfl, hb, hx, hi, hc⟩ := (H.out.below hw.out HB.out).at_ hlt
        obtain ⟨b', off', y, rfl, hb', hy, hi', hc'⟩ := (H'.out.below hw.out HC.out).at_ hlt'
        have hd := drop_eq_of35 hx hy
        have HD := Lib.hid hd
        clear hd hx hy hi hi'
        by_cases hxy : x = y
        · have hne : (x != y) = false := by simpa using hxy
          have HXY := Lib.hid hxy; clear hxy
          go_wp2
          go_quiet (fail)
          go_wp2
          go_roundw
          case rel => exact ⟨k + 1, by omega, by go_num, Lib.hid (below_drewN hw.out _), Lib.hid (by rw [← hr.out]; exact decide_eq_decide.2 ⟨fun h => HD.out.2 ⟨HXY.out, h⟩, fun h => (HD.out.1 h).2⟩)⟩
          case measure => simp [intOf]; omega
        · have hne : (x != y) = true := by simpa using hxy
          have HXY := Lib.hid hxy; clear hxy
          go_wp2
          go_quiet (fail)
          go_wp2
          go_ret
          exact ⟨ret_bool (by rw [← hr.out]; exact (decide_eq_false fun h => HXY.out (HD.out.1 h).1).symm), below_drewN hw.out _⟩
      · go_wp2
        go_ret
        exact ⟨ret_bool (by rw [← hr.out, drop_end (by omega), drop_end (by have := HL.out; omega)]; simp), hw.out⟩
  · have hb : ((L.length : Int) != (M.length : Int)) = true := by simp; omega
    have hfin := Lib.hid (show decide (L = M) = false from decide_eq_false fun h => hl (by rw [h]))
    clear h h' hl hB hC
    go_enter Try.func31, Try.ntmps31
    go_wp2
    go_ret
    exact ⟨ret_bool hfin.out.symm, Below.refl _ _⟩

/-- more than the statements consider? -/
def GreatRes (w : World) (O V : List Int) (R : List (List Int)) (e : Ending) (w' : World) : Prop :=
  ∃ b : Bool, e = .returned (.bool b) ∧ w = w' ∧ (b = false → (∀ l ∈ R, l.length ≤ 30) ∧ R.length ≤ 20 ∧ O.length ≤ 30 ∧ V.length ≤ 30)
set_option maxHeartbeats 400000 in
theorem great35 {w : World} {B C D : Nat} {A A' A3 : Option Addr} {O V : List Int} {R : List (List Int)} {cap cap' cap3 : Nat} (h : Rd w B A O) (h' : Rd2 w C A' R) (h3 : Rd w D A3 V) :
    Calls Try.prog 14 #[.slice A O.length cap, .slice A' R.length cap', .slice A3 V.length cap3] w (GreatRes w O V R) := by
  have l1 := h.len
  have l2 := h'.len
  have l3 := h3.len
  have H' := Lib.hid h'
  clear h h' h3
  go_enter Try.func14, Try.ntmps14
  go_wp2_with fail
  go_loop [7] (fun iv => ∃ k : Nat, k ≤ R.length ∧ iv = .int .i64 k ∧ Hid (∀ (j : Nat) (L : List Int), j < k → R[j]? = some L → L.length ≤ 30)) (fun iv => R.length - (intOf iv).toNat)
  case atStart => exact ⟨0, by omega, rfl, Lib.hid (fun j L hj => by omega)⟩
  case round =>
    obtain ⟨k, hk, rfl, hs⟩ := hrel
    by_cases hlt : k < R.length
    · obtain ⟨b, off, L, A1, c1, rfl, hb, hx, hc, _⟩ := H'.out.at_ hlt
      have HX := Lib.hid hx
      clear hx
      by_cases h30 : 30 < L.length
      · have d1 : decide (30 < (L.length : Int)) = true := decide_eq_true (by omega)
        clear h30
        go_wp2
        go_ret
        exact ⟨true, rfl, rfl, fun h => by cases h⟩
      · have d1 : decide (30 < (L.length : Int)) = false := decide_eq_false (by omega)
        have HS : Hid (∀ (j : Nat) (M : List Int), j < k + 1 → R[j]? = some M → M.length ≤ 30) := Lib.hid fun j M hj hM => by
          rcases Nat.lt_or_ge j k with h | h
          · exact hs.out j M h hM
          · obtain rfl : j = k := by omega
            rw [HX.out] at hM; cases hM; omega
        clear h30
        go_wp2
        go_round
        case rel => exact ⟨k + 1, by omega, by go_num, HS⟩
        case measure => simp [intOf]; omega
    · have HALL : Hid (∀ l ∈ R, l.length ≤ 30) := Lib.hid fun l hl => by
        obtain ⟨j, hj⟩ := List.getElem?_of_mem hl
        exact hs.out j l (by have := (List.getElem?_eq_some_iff.1 hj).1; omega) hj
      clear hs
      by_cases h20 : 20 < R.length
      · have d1 : decide (20 < (R.length : Int)) = true := decide_eq_true (by omega)
        go_wp2
        go_ret
        exact ⟨true, rfl, rfl, fun h => by cases h⟩
      · have d1 : decide (20 < (R.length : Int)) = false := decide_eq_false (by omega)
        by_cases h31 : 30 < O.length
        · have d2 : decide (30 < (O.length : Int)) = true := decide_eq_true (by omega)
          go_wp2
          go_ret
          exact ⟨true, rfl, rfl, fun h => by cases h⟩
        · have d2 : decide (30 < (O.length : Int)) = false := decide_eq_false (by omega)
          by_cases h32 : 30 < V.length
          · have d3 : decide (30 < (V.length : Int)) = true := decide_eq_true (by omega)
            go_wp2
            go_ret
            exact ⟨true, rfl, rfl, fun h => by cases h⟩
          · have d3 : decide (30 < (V.length : Int)) = false := decide_eq_false (by omega)
            go_wp2
            go_ret
            exact ⟨false, rfl, rfl, fun _ => ⟨HALL.out, by omega, by omega, by omega⟩⟩
set_option maxHeartbeats 2000000 in
theorem lieLists {w : World} {A A' A3 : Option Addr} {O V : List Int} {R : List (List Int)} {cap cap' cap3 : Nat} (h : Rd w w.heap.size A O) (h' : Rd2 w w.heap.size A' R) (h3 : Rd w w.heap.size A3 V) (a : Int) (_ha : I64 a) :
    Calls Try.prog 7 #[.slice A O.length cap, .slice A' R.length cap', .int .i64 a, .slice A3 V.length cap3] w fun e w' => e = .returned (.bool true) ∧ Below w.heap.size w w' := by
  have CG := great35 (cap := cap) (cap' := cap') (cap3 := cap3) h h' h3
  have H := Lib.hid fun (u : World) (hu : Below w.heap.size w u) => h.below hu (Nat.le_refl _)
  have H' := Lib.hid fun (u : World) (hu : Below w.heap.size w u) => h'.below hu (Nat.le_refl _)
  have H3 := Lib.hid fun (u : World) (hu : Below w.heap.size w u) => h3.below hu (Nat.le_refl _)
  clear h h' h3
  go_enter Try.func7, Try.ntmps7
  go_wp2_with fail
  refine CG.mono ?_
  rintro e w0 ⟨b, rfl, rfl, hg⟩
  cases b
  · obtain ⟨hr30, _, _, _⟩ := hg rfl
    have HR : Hid (∀ l ∈ R, l.length < 1000) := Lib.hid fun l hl => by have := hr30 l hl; omega
    have HB0 := Lib.hid (Below.refl w.heap.size w)
    clear hg hr30 CG
    go_wp2_with fail
    refine (lPickE (cap := cap) (cap' := cap') (H.out _ HB0.out) (H'.out _ HB0.out) HB0.out.size HB0.out.size HR.out).mono ?_
    rintro e w1 ⟨A1, c1, rfl, hr, hb⟩
    have HB1 := Lib.hid (HB0.out.trans (hb.mono HB0.out.size))
    have HX1 := Lib.hid hr
    clear hr hb
    go_wp2_with fail
    refine (rPickE (cap := cap) (cap' := cap') (H.out _ HB1.out) (H'.out _ HB1.out) HB1.out.size HB1.out.size).mono ?_
    rintro e w2 ⟨A2, c2, rfl, hr, hb⟩
    have HB2 := Lib.hid (HB1.out.trans (hb.mono HB1.out.size))
    have HX2 := Lib.hid hr
    have HX1' := Lib.hid (HX1.out.below hb (Nat.le_refl _))
    have HS1 := Lib.hid hb.size
    clear hr hb HX1
    go_wp2_with fail
    refine (lTrueE (cap := cap3) (H3.out _ HB2.out) HB2.out.size).mono ?_
    rintro e w3 ⟨A4, c4, rfl, hr, hb⟩
    have HB3 := Lib.hid (HB2.out.trans (hb.mono HB2.out.size))
    have HX3 := Lib.hid hr
    have D2 := Lib.hid hb
    clear hr hb
    go_wp2_with fail
    refine (rTrueE (cap := cap3) (H3.out _ HB3.out) HB3.out.size).mono ?_
    rintro e w4 ⟨A5, c5, rfl, hr, hb⟩
    have HB4 := Lib.hid (HB3.out.trans (hb.mono HB3.out.size))
    have HX4 := Lib.hid hr
    have D3 := Lib.hid hb
    clear hr hb
    go_wp2_with fail
    refine (lHasE (cap := cap) (cap' := cap') (cap3 := cap3) a (H.out _ HB4.out) (H'.out _ HB4.out) (H3.out _ HB4.out) HB4.out.size HB4.out.size HB4.out.size HR.out).mono ?_
    rintro e w5 ⟨rfl, hb⟩
    have HB5 := Lib.hid (HB4.out.trans (hb.mono HB4.out.size))
    have D4 := Lib.hid hb
    clear hb
    go_wp2_with fail
    refine (rHasE (cap := cap) (cap' := cap') (cap3 := cap3) a (H.out _ HB5.out) (H'.out _ HB5.out) (H3.out _ HB5.out) HB5.out.size HB5.out.size HB5.out.size).mono ?_
    rintro e w6 ⟨rfl, hb⟩
    have HB6 := Lib.hid (HB5.out.trans (hb.mono HB5.out.size))
    have D5 := Lib.hid hb
    clear hb
    go_wp2_with fail
    refine (lListE (cap := cap) (cap' := cap') (cap3 := cap3) a (H.out _ HB6.out) (H'.out _ HB6.out) (H3.out _ HB6.out) HB6.out.size HB6.out.size HB6.out.size HR.out).mono ?_
    rintro e w7 ⟨A6, c6, rfl, hr, hb⟩
    have HB7 := Lib.hid (HB6.out.trans (hb.mono HB6.out.size))
    have HX5 := Lib.hid hr
    have D6 := Lib.hid hb
    clear hr hb
    go_wp2_with fail
    refine (rListE (cap := cap) (cap' := cap') (cap3 := cap3) a (H.out _ HB7.out) (H'.out _ HB7.out) (H3.out _ HB7.out) HB7.out.size HB7.out.size HB7.out.size).mono ?_
    rintro e w8 ⟨A7, c7, rfl, hr, hb⟩
    have HB8 := Lib.hid (HB7.out.trans (hb.mono HB7.out.size))
    have HX6 := Lib.hid hr
    have D7 := Lib.hid hb
    clear hr hb
    have E4 := (D4.out.trans (D5.out.mono D4.out.size)).trans ((D6.out.mono (Nat.le_trans D4.out.size D5.out.size)).trans (D7.out.mono (Nat.le_trans D4.out.size (Nat.le_trans D5.out.size D6.out.size))))
    have E3 := D3.out.trans (E4.mono D3.out.size)
    have E2 := D2.out.trans (E3.mono D2.out.size)
    have S1 : Calls Try.prog 31 #[.slice A1 (pkL O R).length c1, .slice A2 (pkL O R).length c2] w8 _ := same35 (cap := c1) (cap' := c2) ((HX1'.out.below E2 HS1.out)) (HX2.out.below E2 (Nat.le_refl _)) (Nat.le_trans HS1.out E2.size) E2.size
    have HS2 : Hid (∀ u, Below w8.heap.size w8 u → Calls Try.prog 31 #[.slice A4 (trL V).length c4, .slice A5 (trL V).length c5] u fun e w' => e = .returned (.bool true) ∧ Below u.heap.size u w') := Lib.hid fun u hu => by
      have F3 := E3.trans (hu.mono E3.size)
      have F4 := E4.trans (hu.mono E4.size)
      have := same35 (cap := c4) (cap' := c5) (HX3.out.below F3 (Nat.le_refl _)) (HX4.out.below F4 (Nat.le_refl _)) F3.size F4.size
      rw [decide_eq_true rfl] at this
      exact this
    have HS3 : Hid (∀ u, Below w8.heap.size w8 u → Calls Try.prog 31 #[.slice A6 (lsL O R a V).length c6, .slice A7 (lsL O R a V).length c7] u fun e w' => e = .returned (.bool true) ∧ Below u.heap.size u w') := Lib.hid fun u hu => by
      have F7 := D7.out.trans (hu.mono D7.out.size)
      have := same35 (cap := c6) (cap' := c7) (HX5.out.below F7 (Nat.le_refl _)) (HX6.out.below hu (Nat.le_refl _)) F7.size hu.size
      rw [decide_eq_true rfl] at this
      exact this
    rw [decide_eq_true rfl] at S1
    have HSA := Lib.hid S1
    clear S1 E4 E3 E2
    generalize (pkL O R).length = n1 at *
    generalize (trL V).length = n2 at *
    generalize (lsL O R a V).length = n3 at *
    generalize chk35 O R = x1 at *
    generalize val35 V = x2 at *
    generalize lkd35 O R a V = x3 at *
    generalize hsV O R a V = x4 at *
    generalize lsN O R a V = x5 at *
    go_wp2_with fail
    refine HSA.out.mono ?_
    rintro e u1 ⟨rfl, hb1⟩
    have HU1 := Lib.hid hb1
    clear hb1
    go_wp2_with fail
    refine (HS2.out _ HU1.out).mono ?_
    rintro e u2 ⟨rfl, hb2⟩
    have HU2 := Lib.hid (HU1.out.trans (hb2.mono HU1.out.size))
    clear hb2
    go_wp2_with fail
    refine (HS3.out _ HU2.out).mono ?_
    rintro e u3 ⟨rfl, hb3⟩
    have HU3 := Lib.hid (HU2.out.trans (hb3.mono HU2.out.size))
    clear hb3
    go_wp2
    go_ret
    exact ⟨rfl, HB8.out.trans (HU3.out.mono HB8.out.size)⟩
  · clear hg
    go_wp2
    go_ret
    exact ⟨rfl, Below.refl _ _⟩
end Go.Proofs.Ytjgobpejifhphaa

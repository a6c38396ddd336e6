import Derived.Test.YtefbkdjppfofmaaW26w
import Derived.Test.YtefbkdjppfofmaaW34b
/-! Walks of chapter 26: slices.Compare, More. -/
namespace Go.Proofs.Ytefbkdjppfofmaa
open Go.RowKit Go.Deep
set_option linter.unusedVariables false
set_option maxRecDepth 100000

def cmpI26 (a b : Int) : Int := if a < b then -1 else if b < a then 1 else 0
theorem isNaN26 {w : World} (a : Int) : Calls Try.prog 67 #[.int .i64 a] w fun e w' => e = .returned (.bool false) ∧ w = w' := by
  go_enter Try.func67, Try.ntmps67
  go_wp2
  go_ret
  exact ⟨ret_bool (by simp), rfl⟩
theorem compare26 {w : World} (a b : Int) : Calls Try.prog 62 #[.int .i64 a, .int .i64 b] w fun e w' => e = .returned (.int .i64 (cmpI26 a b)) ∧ w = w' := by
  by_cases h1 : a < b
  · have hf := Lib.hid (show cmpI26 a b = -1 by rw [cmpI26, if_pos h1])
    go_enter Try.func62, Try.ntmps62
    go_wp2_with (go_at_call 67; refine (isNaN26 _).mono ?_; rintro e w' ⟨rfl, rfl⟩)
    go_ret
    exact ⟨ret_int hf.out.symm, rfl⟩
  · by_cases h2 : b < a
    · have hf := Lib.hid (show cmpI26 a b = 1 by rw [cmpI26, if_neg h1, if_pos h2])
      go_enter Try.func62, Try.ntmps62
      go_wp2_with (go_at_call 67; refine (isNaN26 _).mono ?_; rintro e w' ⟨rfl, rfl⟩)
      go_ret
      exact ⟨ret_int hf.out.symm, rfl⟩
    · have hf := Lib.hid (show cmpI26 a b = 0 by rw [cmpI26, if_neg h1, if_neg h2])
      go_enter Try.func62, Try.ntmps62
      go_wp2_with (go_at_call 67; refine (isNaN26 _).mono ?_; rintro e w' ⟨rfl, rfl⟩)
      go_ret
      exact ⟨ret_int hf.out.symm, rfl⟩
theorem cmpL_drop {X Y : List Int} {k : Nat} {x y : Int} (hx : X[k]? = some x) (hy : Y[k]? = some y) : cmpL (X.drop k) (Y.drop k) = if cmpI26 x y = 0 then cmpL (X.drop (k + 1)) (Y.drop (k + 1)) else cmpI26 x y := by
  rw [drop_of hx, drop_of hy]
  simp only [cmpL]
  by_cases h1 : y < x
  · have e : cmpI26 x y = 1 := by rw [cmpI26, if_neg (by omega), if_pos h1]
    rw [if_pos h1, e, if_neg (by decide)]
  · by_cases h2 : x < y
    · have e : cmpI26 x y = -1 := by rw [cmpI26, if_pos h2]
      rw [if_neg h1, if_pos h2, e, if_neg (by decide)]
    · have e : cmpI26 x y = 0 := by rw [cmpI26, if_neg h2, if_neg h1]
      rw [if_neg h1, if_neg h2, e, if_pos rfl]
set_option maxHeartbeats 1000000 in
theorem compareX {w : World} {B C : Nat} {A A' : Option Addr} {X Y : List Int} {cap cap' n : Nat} (h : Rd w B A X) (h' : Rd w C A' Y) (hX : X.length = n) (hY : Y.length = n) :
    Calls Try.prog 49 #[.slice A n cap, .slice A' n cap'] w fun e w' => e = .returned (.int .i64 (cmpL X Y)) ∧ w = w' := by
  have H := Lib.hid h
  have H' := Lib.hid h'
  have hl := h.len
  rw [hX] at hl
  have HX := Lib.hid hX
  have HY := Lib.hid hY
  clear h h' hX hY
  go_enter Try.func49, Try.ntmps49
  go_wp2
  go_loop [11] (fun iv => ∃ (k : Nat), k ≤ n ∧ iv = .int .i64 k ∧ Hid (cmpL (X.drop k) (Y.drop k) = cmpL X Y)) (fun iv => n - (intOf iv).toNat)
  case atStart => exact ⟨0, by omega, rfl, Lib.hid rfl⟩
  case round =>
    obtain ⟨k, hk, rfl, hr⟩ := hrel
    by_cases hlt : k < n
    · obtain ⟨b, off, x, rfl, hb, hx, hi, hc⟩ := H.out.at_ (k := k) (by rw [HX.out]; exact hlt)
      obtain ⟨b', off', y, rfl, hb', hy, hi', hc'⟩ := H'.out.at_ (k := k) (by rw [HY.out]; exact hlt)
      have hst := cmpL_drop hx hy
      rw [hr.out] at hst
      have HST := Lib.hid hst
      have hbd : cmpI26 x y = -1 ∨ cmpI26 x y = 0 ∨ cmpI26 x y = 1 := by
        unfold cmpI26
        split
        · exact .inl rfl
        · split
          · exact .inr (.inr rfl)
          · exact .inr (.inl rfl)
      have CC := compare26 (w := w) x y
      clear hst hx hy hi hi' hb hb'
      generalize cmpI26 x y = c at *
      by_cases h0 : c = 0
      · subst h0
        have HN : Hid (cmpL (X.drop (k + 1)) (Y.drop (k + 1)) = cmpL X Y) := Lib.hid (by rw [HST.out, if_pos rfl])
        clear HST hbd
        go_wp2_with fail
        refine CC.mono ?_
        rintro e w' ⟨rfl, rfl⟩
        go_wp2
        go_round
        case rel => exact ⟨k + 1, by omega, by go_num, HN⟩
        case measure => simp [intOf]; omega
      · have HN : Hid (cmpL X Y = c) := Lib.hid (by rw [HST.out, if_neg h0])
        have hne : (c != 0) = true := by simpa using h0
        clear HST hbd h0
        go_wp2_with fail
        refine CC.mono ?_
        rintro e w' ⟨rfl, rfl⟩
        go_wp2
        go_ret
        exact ⟨ret_int HN.out.symm, rfl⟩
    · have hz : cmpL X Y = 0 := by
        rw [← hr.out, List.drop_eq_nil_of_le (by rw [HX.out]; omega)]
        cases Y.drop k <;> rfl
      have HZ := Lib.hid hz
      clear hz
      go_wp2
      go_ret
      exact ⟨ret_int HZ.out.symm, rfl⟩
theorem lMore1 {w : World} (x : Int) : Calls Try.prog 47 #[.int .i64 x] w fun e w' => e = .returned (.bool (decide (x < 0))) ∧ w = w' := by
  go_enter Try.func47, Try.ntmps47
  go_wp2
  go_ret
  exact ⟨rfl, rfl⟩
/-- what More returns -/
def moreE (L M : List Int) : Int := if 6 < max L.length M.length then 4 else if L.length ≠ M.length ∨ (L.any fun x => decide (x < 0)) = true ∨ (M.any fun x => decide (x < 0)) = true then 8 else 0
def moreV (L M : List Int) : Int := if moreE L M = 0 then cmpS L M else 0
theorem six_rd {w : World} {g T : Nat} {X : List Int} (hX : X.length = 6) (hb : ∀ x ∈ X, I64 x) (h : w.heap[g]? = some (.cells (X.map (Value.int .i64)).toArray T (0, 0))) : Rd w w.heap.size (some ⟨g, 0, none⟩) X :=
  ⟨hb, by omega, fun _ => ⟨g, 0, rfl, (Array.getElem?_eq_some_iff.1 h).1, fun i x hx => by rw [cell_of_row w g _ _ T (0, 0) h]; simp [hx]⟩⟩
theorem shape_i64 {L : List Int} (h : ∀ x ∈ L, I64 x) : ∀ x ∈ shapeI L, I64 x := by
  intro x hx
  rw [shapeI] at hx
  rcases List.mem_append.1 hx with hx | hx
  · rw [List.mem_replicate] at hx
    rw [hx.2]; unfold I64; omega
  · exact h x ((sortI_perm L).mem_iff.1 hx)
set_option maxHeartbeats 4000000 in
theorem lMore {w : World} {B C : Nat} {A A' : Option Addr} {L M : List Int} {cap cap' : Nat} (h : Rd w B A L) (h' : Rd w C A' M) (hB : B ≤ w.heap.size) (hC : C ≤ w.heap.size) :
    Calls Try.prog 24 #[.slice A L.length cap, .slice A' M.length cap'] w fun e w' => e = .returned (.tuple #[.int .i64 (moreV L M), .int .i64 (moreE L M)]) ∧ Below w.heap.size w w' := by
  have l1 := h.len
  have l2 := h'.len
  by_cases hm : 6 < max L.length M.length
  · have HE : Hid (moreE L M = 4) := Lib.hid (by rw [moreE, if_pos hm])
    have HV : Hid (moreV L M = 0) := Lib.hid (by rw [moreV, HE.out, if_neg (by decide)])
    have q1 : decide ((6 : Int) < max (L.length : Int) (M.length : Int)) = true := decide_eq_true (by omega)
    clear h h' hm
    go_enter Try.func24, Try.ntmps24
    go_wp2
    go_ret2
    rw [HV.out, HE.out]
    exact ⟨rfl, Below.refl _ _⟩
  · have q1 : decide ((6 : Int) < max (L.length : Int) (M.length : Int)) = false := decide_eq_false (by omega)
    have hl6 : L.length ≤ 6 := by omega
    have hm6 : M.length ≤ 6 := by omega
    have C1 := containsFunc (cap := cap) h 47 #[] (fun x => decide (x < 0)) (fun args u => by kernel_rfl) (fun x hx => by simpa using lMore1 x)
    have C2 := containsFunc (cap := cap') h' 47 #[] (fun x => decide (x < 0)) (fun args u => by kernel_rfl) (fun x hx => by simpa using lMore1 x)
    by_cases hne : L.length = M.length
    · have q2 : ((L.length : Int) != (M.length : Int)) = false := by rw [hne]; simp
      have HNE := Lib.hid hne
      clear hne
      cases hL : (L.any fun x => decide (x < 0))
      · cases hM : (M.any fun x => decide (x < 0))
        · have HE : Hid (moreE L M = 0) := Lib.hid (by rw [moreE, if_neg hm, if_neg (by rw [hL, hM]; simp [HNE.out])])
          have HV : Hid (moreV L M = cmpS L M) := Lib.hid (by rw [moreV, HE.out, if_pos rfl])
          have CS1 := lShaped (cap := cap) h hB hl6
          obtain ⟨x0, x1, x2, x3, x4, x5, hX⟩ := six_of (shapeI_length hl6)
          obtain ⟨y0, y1, y2, y3, y4, y5, hY⟩ := six_of (shapeI_length hm6)
          have CS2 : Hid (∀ u : World, Below w.heap.size w u → Calls Try.prog 42 #[.slice A' M.length cap'] u fun e w' => e = .returned (.agg #[.int .i64 y0, .int .i64 y1, .int .i64 y2, .int .i64 y3, .int .i64 y4, .int .i64 y5]) ∧ Below u.heap.size u w') := Lib.hid fun u hu => by
            have := lShaped (cap := cap') (h'.below hu hC) (Nat.le_trans hC hu.size) hm6
            rw [shV, hY] at this
            exact this
          rw [shV, hX] at CS1
          have HXI : Hid (∀ x ∈ ([x0, x1, x2, x3, x4, x5] : List Int), I64 x) := Lib.hid (by rw [← hX]; exact shape_i64 h.1)
          have HYI : Hid (∀ x ∈ ([y0, y1, y2, y3, y4, y5] : List Int), I64 x) := Lib.hid (by rw [← hY]; exact shape_i64 h'.1)
          have HCM : Hid (cmpS L M = cmpL [x0, x1, x2, x3, x4, x5] [y0, y1, y2, y3, y4, y5]) := Lib.hid (by rw [cmpS, hX, hY])
          have HC1 : Hid (Calls Try.prog 42 #[.slice A L.length cap] w fun e w' => e = .returned (.agg #[.int .i64 x0, .int .i64 x1, .int .i64 x2, .int .i64 x3, .int .i64 x4, .int .i64 x5]) ∧ Below w.heap.size w w') := Lib.hid CS1
          rw [hL] at C1
          rw [hM] at C2
          clear hL hM h h' hm CS1 hX hY
          go_enter Try.func24, Try.ntmps24
          go_wp2_with fail
          refine C1.mono ?_
          rintro e w' ⟨rfl, rfl⟩
          go_wp2_with fail
          refine C2.mono ?_
          rintro e w' ⟨rfl, rfl⟩
          clear C1 C2
          go_wp2_with fail
          refine HC1.out.mono ?_
          rintro e w1 ⟨rfl, hb1⟩
          have HB1 := Lib.hid hb1
          clear hb1 HC1
          go_wp2_with fail
          refine (CS2.out w1 HB1.out).mono ?_
          rintro e w2 ⟨rfl, hb2⟩
          have HB2 := Lib.hid (HB1.out.trans (hb2.mono HB1.out.size))
          clear hb2 CS2
          go_wp2_with fail
          have hgx := heap_alloc2_old w2 (.cells #[.int .i64 x0, .int .i64 x1, .int .i64 x2, .int .i64 x3, .int .i64 x4, .int .i64 x5] 61) (.cells #[.int .i64 y0, .int .i64 y1, .int .i64 y2, .int .i64 y3, .int .i64 y4, .int .i64 y5] 61)
          have hgy := heap_alloc2_new w2 (.cells #[.int .i64 x0, .int .i64 x1, .int .i64 x2, .int .i64 x3, .int .i64 x4, .int .i64 x5] 61) (.cells #[.int .i64 y0, .int .i64 y1, .int .i64 y2, .int .i64 y3, .int .i64 y4, .int .i64 y5] 61)
          have hbz := ((Below.refl w2.heap.size w2).alloc (Nat.le_refl _) (.cells #[.int .i64 x0, .int .i64 x1, .int .i64 x2, .int .i64 x3, .int .i64 x4, .int .i64 x5] 61)).alloc (by simp) (.cells #[.int .i64 y0, .int .i64 y1, .int .i64 y2, .int .i64 y3, .int .i64 y4, .int .i64 y5] 61)
          have HB3 := Lib.hid (HB2.out.trans (hbz.mono HB2.out.size))
          generalize (w2.alloc (.cells #[.int .i64 x0, .int .i64 x1, .int .i64 x2, .int .i64 x3, .int .i64 x4, .int .i64 x5] 61)).alloc (.cells #[.int .i64 y0, .int .i64 y1, .int .i64 y2, .int .i64 y3, .int .i64 y4, .int .i64 y5] 61) = w3 at *
          have rx := six_rd (X := [x0, x1, x2, x3, x4, x5]) rfl HXI.out hgx
          have ry := six_rd (X := [y0, y1, y2, y3, y4, y5]) rfl HYI.out hgy
          have CC : Hid (∀ k : Nat, Calls Try.prog 49 #[.slice (some ⟨w2.heap.size, 0, none⟩) 6 6, .slice (some ⟨w2.heap.size + 1, 0, none⟩) 6 6] (w3.drewN k) fun e w' => e = .returned (.int .i64 (cmpS L M)) ∧ w3.drewN k = w') := Lib.hid fun k => by
            rw [HCM.out]
            exact compareX (w := w3.drewN k) (B := w3.heap.size) (C := w3.heap.size) rx ry rfl rfl
          clear hgx hgy hbz rx ry
          go_quiet ((go_at_call 49; exact Calls.quiet_of_same ((CC.out _).mono fun _ _ h => ⟨h.1, h.2.symm⟩)))
          have HWD := Lib.hid (below_drewN HB3.out nq)
          generalize w3.drewN nq = w4 at *
          go_wp2
          go_ret2
          rw [HV.out, HE.out]
          exact ⟨rfl, HWD.out⟩
        · have HE : Hid (moreE L M = 8) := Lib.hid (by rw [moreE, if_neg hm, if_pos (.inr (.inr hM))])
          have HV : Hid (moreV L M = 0) := Lib.hid (by rw [moreV, HE.out, if_neg (by decide)])
          rw [hL] at C1
          rw [hM] at C2
          clear hL hM h h' hm
          go_enter Try.func24, Try.ntmps24
          go_wp2_with fail
          refine C1.mono ?_
          rintro e w' ⟨rfl, rfl⟩
          go_wp2_with fail
          refine C2.mono ?_
          rintro e w' ⟨rfl, rfl⟩
          go_wp2
          go_ret2
          rw [HV.out, HE.out]
          exact ⟨rfl, Below.refl _ _⟩
      · have HE : Hid (moreE L M = 8) := Lib.hid (by rw [moreE, if_neg hm, if_pos (.inr (.inl hL))])
        have HV : Hid (moreV L M = 0) := Lib.hid (by rw [moreV, HE.out, if_neg (by decide)])
        rw [hL] at C1
        clear hL h h' hm C2
        go_enter Try.func24, Try.ntmps24
        go_wp2_with fail
        refine C1.mono ?_
        rintro e w' ⟨rfl, rfl⟩
        go_wp2
        go_ret2
        rw [HV.out, HE.out]
        exact ⟨rfl, Below.refl _ _⟩
    · have q2 : ((L.length : Int) != (M.length : Int)) = true := by simp; omega
      have HE : Hid (moreE L M = 8) := Lib.hid (by rw [moreE, if_neg hm, if_pos (.inl hne)])
      have HV : Hid (moreV L M = 0) := Lib.hid (by rw [moreV, HE.out, if_neg (by decide)])
      clear h h' hm hne C1 C2
      go_enter Try.func24, Try.ntmps24
      go_wp2
      go_ret2
      rw [HV.out, HE.out]
      exact ⟨rfl, Below.refl _ _⟩
end Go.Proofs.Ytefbkdjppfofmaa

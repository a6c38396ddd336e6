import Derived.Test.YtjgobpejifhphaaW35f
import Derived.Test.YtjgobpejifhphaaW35g
import Derived.Test.YtjgobpejifhphaaS35d
/-! Walks of chapter 35: check, looked.
-/
namespace Go.Proofs.Ytjgobpejifhphaa
open Go.RowKit Go.Deep
set_option linter.unusedVariables false
set_option maxRecDepth 100000

theorem lChkA {w : World} {B : Nat} {A1 : Option Addr} {l : List Int} {c n g capO : Nat} {AO : Option Addr} (h : Rd w B A1 l) (hB : B ≤ w.heap.size) (hl : l.length < 1000) (hn : n ≤ 100000000000000) (hg : w.cell? ⟨g, 0, none⟩ = some (.slice AO n capO)) :
    Calls Try.prog 74 #[.slice A1 l.length c, .pointer (some ⟨g, 0, none⟩)] w fun e w' => e = .returned (.bool (!ordB l n)) ∧ Below w.heap.size w w' := by
  have C := lIsOrder (cap := c) h hB hl hn
  clear h
  cases ho : ordB l n
  all_goals
    rw [ho] at C
    clear ho
    go_enter Try.func74, Try.ntmps74
    go_wp2_with (go_at_call 75; refine C.mono ?_; rintro e w' ⟨rfl, hb⟩)
    go_ret
    exact ⟨ret_bool rfl, hb⟩
theorem lChkB {w : World} {x : Int} {m g capR : Nat} {AR : Option Addr} (hg : w.cell? ⟨g, 0, none⟩ = some (.slice AR m capR)) :
    Calls Try.prog 77 #[.int .i64 x, .pointer (some ⟨g, 0, none⟩)] w fun e w' => e = .returned (.bool (decide (x < 0) || decide ((m : Int) ≤ x))) ∧ w = w' := by
  cases h1 : decide (x < 0) <;> cases h2 : decide ((m : Int) ≤ x)
  all_goals
    go_enter Try.func77, Try.ntmps77
    go_wp2
    go_ret
    exact ⟨ret_bool rfl, rfl⟩
theorem lChkV {w : World} {x : Int} :
    Calls Try.prog 86 #[.int .i64 x] w fun e w' => e = .returned (.bool (decide (x < 0) || decide (1000 < x))) ∧ w = w' := by
  cases h1 : decide (x < 0) <;> cases h2 : decide (1000 < x)
  all_goals
    go_enter Try.func86, Try.ntmps86
    go_wp2
    go_ret
    exact ⟨ret_bool rfl, rfl⟩
theorem chk35_many {O : List Int} {R : List (List Int)} (h : 6 < R.length ∨ 6 < O.length) : chk35 O R = 4 := by rw [chk35, if_pos h]
theorem chk35_bad {O : List Int} {R : List (List Int)} (h1 : ¬ 6 < R.length) (h2 : ¬ 6 < O.length) (h : R = [] ∨ (R.any fun l => !ordB l O.length) = true ∨ badAg O R.length = true) : chk35 O R = 8 := by
  rw [chk35, if_neg (by omega), if_pos h]
theorem chk35_ok {O : List Int} {R : List (List Int)} (h1 : ¬ 6 < R.length) (h2 : ¬ 6 < O.length) (h3 : 0 < R.length) (h4 : (R.any fun l => !ordB l O.length) = false) (h5 : badAg O R.length = false) : chk35 O R = 0 := by
  rw [chk35, if_neg (by omega), if_neg]
  rintro (h | h | h)
  · rw [h] at h3; simp at h3
  · rw [h4] at h; cases h
  · rw [h5] at h; cases h
set_option maxHeartbeats 2000000 in
theorem lCheck35 {w : World} {B C : Nat} {A A' : Option Addr} {O : List Int} {R : List (List Int)} {cap cap' : Nat} (h : Rd w B A O) (h' : Rd2 w C A' R) (hB : B ≤ w.heap.size) (hC : C ≤ w.heap.size) (hR : ∀ l ∈ R, l.length < 1000) :
    Calls Try.prog 49 #[.slice A O.length cap, .slice A' R.length cap'] w fun e w' => e = .returned (.int .i64 (chk35 O R)) ∧ Below w.heap.size w w' := by
  have l1 := h.len
  have l2 := h'.len
  have hb : Below w.heap.size w ((w.alloc (.cells #[.slice A O.length cap] 22)).alloc (.cells #[.slice A' R.length cap'] 29)) := ((Below.refl _ _).alloc (Nat.le_refl _) _).alloc (by simp) _
  have ho : ((w.alloc (.cells #[.slice A O.length cap] 22)).alloc (.cells #[.slice A' R.length cap'] 29)).cell? ⟨w.heap.size, 0, none⟩ = some (.slice A O.length cap) := by simp
  have hr : ((w.alloc (.cells #[.slice A O.length cap] 22)).alloc (.cells #[.slice A' R.length cap'] 29)).cell? ⟨w.heap.size + 1, 0, none⟩ = some (.slice A' R.length cap') := by simp
  have hs : ((w.alloc (.cells #[.slice A O.length cap] 22)).alloc (.cells #[.slice A' R.length cap'] 29)).heap.size = w.heap.size + 2 := by simp
  have HS := Lib.hid hs
  have HB := Lib.hid hb
  have H := Lib.hid (h.below hb hB)
  have H' := Lib.hid (h'.below hb hC)
  clear h h' hb hs
  go_enter Try.func49, Try.ntmps49
  generalize hw2 : (w.alloc (.cells #[.slice A O.length cap] 22)).alloc (.cells #[.slice A' R.length cap'] 29) = w2 at *
  have HW2 := Lib.hid hw2
  clear hw2
  have hx2 : (w.alloc (.cells #[.slice A O.length cap] 22)).alloc (.cells #[.slice A' R.length cap'] 29) = w2 := HW2.out
  have hp0 : ∀ A1 x c (u : World), x ∈ R → Rd u C A1 x → Below w2.heap.size w2 u → Calls Try.prog 74 (#[.slice A1 x.length c] ++ #[.pointer (some ⟨w.heap.size, 0, none⟩)]) u fun e w' => e = .returned (.bool (!ordB x O.length)) ∧ Below u.heap.size u w' := by
    intro A1 x c u hx hu hbu
    have hsz := HS.out
    exact lChkA hu (by have := hbu.size; omega) (hR x hx) (by omega) ((hbu.cell (p := ⟨w.heap.size, 0, none⟩) (by show w.heap.size < _; omega)).trans ho)
  have CA := containsRowsM (cap := cap') H'.out (by rw [HS.out]; omega) 74 #[.pointer (some ⟨w.heap.size, 0, none⟩)] (fun l => !ordB l O.length) (fun args u => by kernel_rfl) hp0
  have HCB : Hid (∀ u, Below w2.heap.size w2 u → Calls Try.prog 76 #[.slice A O.length cap, .func (.func 77) #[] #[.pointer (some ⟨w.heap.size + 1, 0, none⟩)]] u fun e w' => e = .returned (.bool (badAg O R.length)) ∧ u = w') := Lib.hid fun u hu =>
    containsInts (cap := cap) (H.out.below hu (by rw [HS.out]; omega)) 77 #[.pointer (some ⟨w.heap.size + 1, 0, none⟩)] (fun i => decide (i < 0) || decide ((R.length : Int) ≤ i)) (fun args u => by kernel_rfl) (fun x _ _ => lChkB ((hu.cell (p := ⟨w.heap.size + 1, 0, none⟩) (by show w.heap.size + 1 < _; rw [HS.out]; omega)).trans hr))
  have HCA := Lib.hid CA
  clear CA hp0
  by_cases h6 : 6 < R.length
  · have f1 : decide (6 < (R.length : Int)) = true := decide_eq_true (by omega)
    have HT := Lib.hid (chk35_many (O := O) (.inl h6))
    go_wp2
    go_ret
    exact ⟨ret_int HT.out.symm, HB.out⟩
  · have f1 : decide (6 < (R.length : Int)) = false := decide_eq_false (by omega)
    by_cases h6' : 6 < O.length
    · have f2 : decide (6 < (O.length : Int)) = true := decide_eq_true (by omega)
      have HT := Lib.hid (chk35_many (R := R) (.inr h6'))
      go_wp2
      go_ret
      exact ⟨ret_int HT.out.symm, HB.out⟩
    · have f2 : decide (6 < (O.length : Int)) = false := decide_eq_false (by omega)
      by_cases h0 : R.length = 0
      · have f3 : ((R.length : Int) == 0) = true := by rw [h0]; rfl
        have HT := Lib.hid (chk35_bad h6 h6' (.inl (List.eq_nil_of_length_eq_zero h0)))
        clear h0
        go_wp2
        go_ret
        exact ⟨ret_int HT.out.symm, HB.out⟩
      · have f3 : ((R.length : Int) == 0) = false := by rw [beq_eq_false_iff_ne]; omega
        cases ha : R.any fun l => !ordB l O.length
        · rw [ha] at HCA
          cases hbd : badAg O R.length
          · have HT := Lib.hid (chk35_ok h6 h6' (by omega) ha hbd)
            rw [hbd] at HCB
            clear ha hbd
            go_wp2_with fail
            refine HCA.out.mono ?_
            rintro e w3 ⟨rfl, hb3⟩
            have HB3 := Lib.hid (HB.out.trans (hb3.mono (by rw [HS.out]; omega)))
            have c1 : w3.cell? ⟨w.heap.size, 0, none⟩ = some (.slice A O.length cap) := (hb3.cell (p := ⟨w.heap.size, 0, none⟩) (by show w.heap.size < _; rw [HS.out]; omega)).trans ho
            have HCB3 := Lib.hid (HCB.out w3 hb3)
            clear hb3
            go_wp2_with fail
            refine HCB3.out.mono ?_
            rintro e w4 ⟨rfl, rfl⟩
            go_wp2
            go_ret
            exact ⟨ret_int HT.out.symm, HB3.out⟩
          · have HT := Lib.hid (chk35_bad h6 h6' (.inr (.inr hbd)))
            rw [hbd] at HCB
            clear ha hbd
            go_wp2_with fail
            refine HCA.out.mono ?_
            rintro e w3 ⟨rfl, hb3⟩
            have HB3 := Lib.hid (HB.out.trans (hb3.mono (by rw [HS.out]; omega)))
            have c1 : w3.cell? ⟨w.heap.size, 0, none⟩ = some (.slice A O.length cap) := (hb3.cell (p := ⟨w.heap.size, 0, none⟩) (by show w.heap.size < _; rw [HS.out]; omega)).trans ho
            have HCB3 := Lib.hid (HCB.out w3 hb3)
            clear hb3
            go_wp2_with fail
            refine HCB3.out.mono ?_
            rintro e w4 ⟨rfl, rfl⟩
            go_wp2
            go_ret
            exact ⟨ret_int HT.out.symm, HB3.out⟩
        · have HT := Lib.hid (chk35_bad h6 h6' (.inr (.inl ha)))
          rw [ha] at HCA
          clear ha
          go_wp2_with fail
          refine HCA.out.mono ?_
          rintro e w3 ⟨rfl, hb3⟩
          have HB3 := Lib.hid (HB.out.trans (hb3.mono (by rw [HS.out]; omega)))
          clear hb3
          go_wp2
          go_ret
          exact ⟨ret_int HT.out.symm, HB3.out⟩
set_option maxHeartbeats 2000000 in
theorem rCheck35 {w : World} {B C : Nat} {A A' : Option Addr} {O : List Int} {R : List (List Int)} {cap cap' : Nat} (h : Rd w B A O) (h' : Rd2 w C A' R) :
    Calls Try.prog 17 #[.slice A O.length cap, .slice A' R.length cap'] w fun e w' => e = .returned (.int .i64 (chk35 O R)) ∧ w = w' := by
  have l1 := h.len
  have l2 := h'.len
  have H := Lib.hid h
  have H' := Lib.hid h'
  clear h h'
  by_cases h6 : 6 < R.length
  · have f1 : decide (6 < (R.length : Int)) = true := decide_eq_true (by omega)
    have HT := Lib.hid (chk35_many (O := O) (.inl h6))
    go_enter Try.func17, Try.ntmps17
    go_wp2
    go_ret
    exact ⟨ret_int HT.out.symm, rfl⟩
  · have f1 : decide (6 < (R.length : Int)) = false := decide_eq_false (by omega)
    by_cases h6' : 6 < O.length
    · have f2 : decide (6 < (O.length : Int)) = true := decide_eq_true (by omega)
      have HT := Lib.hid (chk35_many (R := R) (.inr h6'))
      go_enter Try.func17, Try.ntmps17
      go_wp2
      go_ret
      exact ⟨ret_int HT.out.symm, rfl⟩
    · have f2 : decide (6 < (O.length : Int)) = false := decide_eq_false (by omega)
      by_cases h0 : R.length = 0
      · have f3 : ((R.length : Int) == 0) = true := by rw [h0]; rfl
        have HT := Lib.hid (chk35_bad h6 h6' (.inl (List.eq_nil_of_length_eq_zero h0)))
        clear h0
        go_enter Try.func17, Try.ntmps17
        go_wp2
        go_ret
        exact ⟨ret_int HT.out.symm, rfl⟩
      · have f3 : ((R.length : Int) == 0) = false := by rw [beq_eq_false_iff_ne]; omega
        have HT1 : Hid (badAg O R.length = true → chk35 O R = 8) := Lib.hid fun h => chk35_bad h6 h6' (.inr (.inr h))
        have HT2 : Hid ((R.any fun l => !ordB l O.length) = true → chk35 O R = 8) := Lib.hid fun h => chk35_bad h6 h6' (.inr (.inl h))
        have HT3 : Hid ((R.any fun l => !ordB l O.length) = false → badAg O R.length = false → chk35 O R = 0) := Lib.hid fun h1 h2 => chk35_ok h6 h6' (by omega) h1 h2
        go_enter Try.func17, Try.ntmps17
        go_wp2_with fail
        clear f1 f2 f3
        go_loop [5] (fun iv => ∃ (k : Nat), k ≤ R.length ∧ iv = .int .i64 k ∧ Hid ((R.drop k).any (fun l => !ordB l O.length) = R.any fun l => !ordB l O.length)) (fun iv => R.length - (intOf iv).toNat)
        case atStart => exact ⟨0, by omega, rfl, Lib.hid rfl⟩
        case round =>
          obtain ⟨k, hk, rfl, hr⟩ := hrel
          by_cases hlt : k < R.length
          · obtain ⟨b, off, x, A1, c1, rfl, hb, hx, hc, hrd⟩ := H'.out.at_ hlt
            have HA := Lib.hid (any_drop (p := fun l : List Int => !ordB l O.length) hx)
            have HCO := Lib.hid (r29Order (cap := c1) (n := O.length) hrd (by omega))
            clear hx hrd hb
            cases ho : ordB x O.length
            · have HT := Lib.hid (HT2.out (by rw [← hr.out, HA.out, ho]; rfl))
              rw [ho] at HCO
              clear ho
              go_wp2_with fail
              refine HCO.out.mono ?_
              rintro e w4 ⟨rfl, rfl⟩
              go_wp2
              go_ret
              exact ⟨ret_int HT.out.symm, rfl⟩
            · have HR : Hid ((R.drop (k + 1)).any (fun l => !ordB l O.length) = R.any fun l => !ordB l O.length) := Lib.hid (by rw [← hr.out, HA.out, ho]; rfl)
              rw [ho] at HCO
              clear ho
              go_wp2_with fail
              refine HCO.out.mono ?_
              rintro e w4 ⟨rfl, rfl⟩
              go_wp2
              go_round
              case rel => exact ⟨k + 1, by omega, by go_num, HR⟩
              case measure => simp [intOf]; omega
          · have HT4 : Hid (badAg O R.length = false → chk35 O R = 0) := Lib.hid (HT3.out (by rw [← hr.out, any_end (by omega)]))
            clear hr HT2 HT3
            go_wp2_with fail
            go_loop [6] (fun iv => ∃ (k : Nat), k ≤ O.length ∧ iv = .int .i64 k ∧ Hid ((O.drop k).any (fun i => decide (i < 0) || decide ((R.length : Int) ≤ i)) = badAg O R.length)) (fun iv => O.length - (intOf iv).toNat)
            case atStart => exact ⟨0, by omega, rfl, Lib.hid rfl⟩
            case round =>
              obtain ⟨j, hj, rfl, hr⟩ := hrel
              by_cases hlt : j < O.length
              · obtain ⟨b, off, x, rfl, hb, hx, hi, hc⟩ := H.out.at_ hlt
                have HA := Lib.hid (any_drop (p := fun i : Int => decide (i < 0) || decide ((R.length : Int) ≤ i)) hx)
                clear hx hb
                by_cases hx0 : x < 0
                · have g1 : decide (x < 0) = true := decide_eq_true hx0
                  have HT := Lib.hid (HT1.out (by rw [← hr.out, HA.out, g1]; rfl))
                  go_wp2
                  go_ret
                  exact ⟨ret_int HT.out.symm, rfl⟩
                · have g1 : decide (x < 0) = false := decide_eq_false hx0
                  by_cases hx1 : (R.length : Int) ≤ x
                  · have g2 : decide ((R.length : Int) ≤ x) = true := decide_eq_true hx1
                    have HT := Lib.hid (HT1.out (by rw [← hr.out, HA.out, g1, g2]; rfl))
                    go_wp2
                    go_ret
                    exact ⟨ret_int HT.out.symm, rfl⟩
                  · have g2 : decide ((R.length : Int) ≤ x) = false := decide_eq_false hx1
                    have HR : Hid ((O.drop (j + 1)).any (fun i => decide (i < 0) || decide ((R.length : Int) ≤ i)) = badAg O R.length) := Lib.hid (by rw [← hr.out, HA.out, g1, g2]; rfl)
                    go_wp2
                    go_round
                    case rel => exact ⟨j + 1, by omega, by go_num, HR⟩
                    case measure => simp [intOf]; omega
              · have HT := Lib.hid (HT4.out (by rw [← hr.out, any_end (by omega)]))
                go_wp2
                go_ret
                exact ⟨ret_int HT.out.symm, rfl⟩
set_option maxHeartbeats 1000000 in
theorem lCheckV {w : World} {B : Nat} {A : Option Addr} {V : List Int} {cap : Nat} (h : Rd w B A V) :
    Calls Try.prog 55 #[.slice A V.length cap] w fun e w' => e = .returned (.int .i64 (val35 V)) ∧ w = w' := by
  have C := containsInts (cap := cap) h 86 #[] (fun x => decide (x < 0) || decide (1000 < x)) (fun args u => by kernel_rfl) (fun x _ _ => lChkV)
  have l1 := h.len
  have HV : Hid (val35 V = if 6 < V.length then 4 else if (V.any fun x => decide (x < 0) || decide (1000 < x)) = true then 8 else 0) := Lib.hid rfl
  clear h
  by_cases h6 : 6 < V.length
  · have f1 : decide (6 < (V.length : Int)) = true := decide_eq_true (by omega)
    rw [if_pos h6] at HV
    clear C
    go_enter Try.func55, Try.ntmps55
    go_wp2
    go_ret
    exact ⟨ret_int HV.out.symm, rfl⟩
  · have f1 : decide (6 < (V.length : Int)) = false := decide_eq_false (by omega)
    rw [if_neg h6] at HV
    cases hb : V.any fun x => decide (x < 0) || decide (1000 < x)
    all_goals
      rw [hb] at HV C
      clear hb
      go_enter Try.func55, Try.ntmps55
      go_wp2_with (go_at_call 76; refine C.mono ?_; rintro e w' ⟨rfl, rfl⟩)
      go_ret
      exact ⟨ret_int HV.out.symm, rfl⟩
set_option maxHeartbeats 1000000 in
theorem rVals {w : World} {B : Nat} {A : Option Addr} {V : List Int} {cap : Nat} (h : Rd w B A V) :
    Calls Try.prog 18 #[.slice A V.length cap] w fun e w' => e = .returned (.int .i64 (val35 V)) ∧ w = w' := by
  have l1 := h.len
  have H := Lib.hid h
  have HV : Hid (val35 V = if 6 < V.length then 4 else if (V.any fun x => decide (x < 0) || decide (1000 < x)) = true then 8 else 0) := Lib.hid rfl
  clear h
  by_cases h6 : 6 < V.length
  · have f1 : decide (6 < (V.length : Int)) = true := decide_eq_true (by omega)
    rw [if_pos h6] at HV
    go_enter Try.func18, Try.ntmps18
    go_wp2
    go_ret
    exact ⟨ret_int HV.out.symm, rfl⟩
  · have f1 : decide (6 < (V.length : Int)) = false := decide_eq_false (by omega)
    rw [if_neg h6] at HV
    go_enter Try.func18, Try.ntmps18
    go_wp2_with fail
    clear f1
    go_loop [3] (fun iv => ∃ (k : Nat), k ≤ V.length ∧ iv = .int .i64 k ∧ Hid ((V.drop k).any (fun i => decide (i < 0) || decide (1000 < i)) = V.any fun i => decide (i < 0) || decide (1000 < i))) (fun iv => V.length - (intOf iv).toNat)
    case atStart => exact ⟨0, by omega, rfl, Lib.hid rfl⟩
    case round =>
      obtain ⟨j, hj, rfl, hr⟩ := hrel
      by_cases hlt : j < V.length
      · obtain ⟨b, off, x, rfl, hb, hx, hi, hc⟩ := H.out.at_ hlt
        have HA := Lib.hid (any_drop (p := fun i : Int => decide (i < 0) || decide (1000 < i)) hx)
        clear hx hb
        by_cases hx0 : x < 0
        · have g1 : decide (x < 0) = true := decide_eq_true hx0
          have HT : Hid (val35 V = 8) := Lib.hid (by rw [HV.out, ← hr.out, HA.out, g1]; rfl)
          go_wp2
          go_ret
          exact ⟨ret_int HT.out.symm, rfl⟩
        · have g1 : decide (x < 0) = false := decide_eq_false hx0
          by_cases hx1 : 1000 < x
          · have g2 : decide (1000 < x) = true := decide_eq_true hx1
            have HT : Hid (val35 V = 8) := Lib.hid (by rw [HV.out, ← hr.out, HA.out, g1, g2]; rfl)
            go_wp2
            go_ret
            exact ⟨ret_int HT.out.symm, rfl⟩
          · have g2 : decide (1000 < x) = false := decide_eq_false hx1
            have HR : Hid ((V.drop (j + 1)).any (fun i => decide (i < 0) || decide (1000 < i)) = V.any fun i => decide (i < 0) || decide (1000 < i)) := Lib.hid (by rw [← hr.out, HA.out, g1, g2]; rfl)
            go_wp2
            go_round
            case rel => exact ⟨j + 1, by omega, by go_num, HR⟩
            case measure => simp [intOf]; omega
      · have HT : Hid (val35 V = 0) := Lib.hid (by rw [HV.out, ← hr.out, any_end (by omega)]; rfl)
        go_wp2
        go_ret
        exact ⟨ret_int HT.out.symm, rfl⟩
end Go.Proofs.Ytjgobpejifhphaa

import Derived.Test.YtefbkdjppfofmaaW26f
import Derived.BigQuiet
/-! Walks of chapter 26: complete of the program; looked. -/
namespace Go.Proofs.Ytefbkdjppfofmaa
open Go.RowKit Go.Deep
set_option linter.unusedVariables false
set_option maxRecDepth 100000

theorem any_rows (W : List (List Bool)) (g : Nat) : (W.any fun l => l.getD g false) = wishAny W g := by
  rw [Bool.eq_iff_iff, wishAny, List.any_eq_true, List.any_eq_true]
  constructor
  · rintro ⟨l, hl, h⟩
    obtain ⟨i, hi⟩ := List.getElem?_of_mem hl
    refine ⟨i, List.mem_range.2 (List.getElem?_eq_some_iff.1 hi).1, ?_⟩
    rw [wishB, List.getD_eq_getElem?_getD (l := W), hi]; exact h
  · rintro ⟨i, hi, h⟩
    have hi' := List.mem_range.1 hi
    refine ⟨W[i], List.getElem_mem hi', ?_⟩
    rw [wishB, List.getD_eq_getElem?_getD (l := W), List.getElem?_eq_getElem hi'] at h
    exact h
theorem wish_any {W : List (List Bool)} {g : Nat} (q : Nat) (hq : q < W.length) (h : wishB W q g = true) : wishAny W g = true := List.any_eq_true.2 ⟨q, List.mem_range.2 hq, h⟩
theorem lComp1 {w : World} {B : Nat} {A1 : Option Addr} {x : List Bool} {c g0 k : Nat} (h : RdB w B A1 x) (hk : k < x.length) (hk2 : k < 100) (hg : w.cell? ⟨g0, 0, none⟩ = some (.int .i64 k)) :
    Calls Try.prog 63 #[.slice A1 x.length c, .pointer (some ⟨g0, 0, none⟩)] w fun e w' => e = .returned (.bool (x.getD k false)) ∧ w = w' := by
  obtain ⟨b, off, y, rfl, hb, hy, hc⟩ := h.at_ hk
  have e : x.getD k false = y := by rw [List.getD_eq_getElem?_getD, hy]; rfl
  rw [e]
  clear e hy hb h
  go_enter Try.func63, Try.ntmps63
  go_wp2
  go_ret
  exact ⟨ret_bool rfl, rfl⟩
set_option maxHeartbeats 4000000 in
theorem lComplete {w : World} {B C m n : Nat} {A A' : Option Addr} {W : List (List Bool)} {a : List Int} {cap cap' : Nat} (h : RdB2 w B A W) (h' : Rd w C A' a) (hB : B ≤ w.heap.size) (hC : C ≤ w.heap.size) (v : VW m n W) :
    Calls Try.prog 53 #[.slice A W.length cap, .slice A' a.length cap'] w fun e w' => e = .returned (.bool (fullB W a)) ∧ Below w.heap.size w w' := by
  have hlen := h.len
  have hal := h'.len
  have n10 := v.n10
  have m0 : 0 < W.length := by rw [v.len]; exact v.m0
  obtain ⟨b0, off0, row0, A0, c0', hA0, hb0, hrow0, hc0, hrd0⟩ := h.at_ m0
  have hr0 : (W.getD 0 []).length = n := by
    have : W.getD 0 [] = row0 := by rw [List.getD_eq_getElem?_getD, hrow0]; rfl
    rw [this]; exact v.row row0 (List.mem_of_getElem? hrow0)
  have hrl0 : row0.length = n := v.row row0 (List.mem_of_getElem? hrow0)
  rw [hrl0, Nat.add_zero] at hc0
  have H := Lib.hid h
  have H' := Lib.hid h'
  have HV := Lib.hid v
  have HR0 := Lib.hid hr0
  clear h h' v hr0 hrd0 hrow0 hb0 hrl0
  subst hA0
  by_cases hn : a.length = n
  · have hb1 : ((a.length : Int) != (n : Int)) = false := by rw [hn]; simp
    have hF : Hid (fullB W a = (List.range a.length).all fun g => rightR W g (a.getD g 0)) := Lib.hid (by rw [fullB, HR0.out, decide_eq_true hn, Bool.true_and])
    have HN := Lib.hid hn
    clear hn
    go_enter Try.func53, Try.ntmps53
    go_wp2_with fail
    clear hb1 hc0
    go_loopw [17] (fun iv wr => ∃ (k : Nat), k ≤ a.length ∧ iv = .int .i64 k ∧ Hid (((List.range a.length).drop k).all (fun g => rightR W g (a.getD g 0)) = fullB W a) ∧ Hid (Below w.heap.size w wr)) (fun iv _ => a.length - (intOf iv).toNat)
    case atStart => exact ⟨0, by omega, rfl, Lib.hid (by rw [hF.out]; rfl), Lib.hid (Below.refl _ _)⟩
    case round =>
      obtain ⟨k, hk, rfl, hr, hw⟩ := hrel
      by_cases hlt : k < a.length
      · obtain ⟨b, off, x, rfl, hb, hx, hi, hc⟩ := (H'.out.below hw.out hC).at_ hlt
        have hg : a.getD k 0 = x := by rw [List.getD_eq_getElem?_getD, hx]; rfl
        have hall := all_drop (p := fun g => rightR W g (a.getD g 0)) (range_at hlt)
        rw [hr.out, hg] at hall
        have hkn : k < n := by rw [← HN.out]; exact hlt
        have hbw : Below wr.heap.size wr (wr.alloc (.cells #[.int .i64 (k : Int)] 3)) := (Below.refl _ _).alloc (Nat.le_refl _) _
        have hcl : (wr.alloc (.cells #[.int .i64 (k : Int)] 3)).cell? ⟨wr.heap.size, 0, none⟩ = some (.int .i64 (k : Int)) := by simp
        have hW2 := Lib.hid (hw.out.trans (hbw.mono hw.out.size))
        have hRA := H.out.below hW2.out hB
        have CF := containsRows (cap := cap) hRA 63 #[.pointer (some ⟨wr.heap.size, 0, none⟩)] (fun l => l.getD k false) (fun args u => by kernel_rfl) (fun A1 x c hm hx => by simpa using lComp1 (c := c) hx (by rw [HV.out.row x hm]; exact hkn) (by omega) hcl)
        rw [any_rows] at CF
        have HRA := Lib.hid hRA
        have HCL := Lib.hid hcl
        clear hx hi hb hg hbw hcl hRA
        have HST := Lib.hid (right_cases W k x)
        have HALL := Lib.hid hall
        clear hall
        go_wp2_with fail
        generalize wr.alloc (.cells #[.int .i64 (k : Int)] 3) = w2 at *
        refine CF.mono ?_
        rintro e w' ⟨rfl, rfl⟩
        have hcl := HCL.out
        clear hc CF
        have hall := HALL.out
        clear HALL
        rcases HST.out with ⟨h1, h2⟩ | ⟨h1, h2, h3⟩ | ⟨q, rfl, h1, h2⟩ | ⟨rfl, h2⟩
        · have HT : Hid (fullB W a = false) := Lib.hid (by rw [hall, h2]; rfl)
          clear hall h2
          have f1 : decide (x < -1) = true := decide_eq_true h1
          go_wp2_with fail
          go_quiet (fail)
          go_wp2
          go_ret
          exact ⟨ret_bool HT.out.symm, below_drewN hW2.out _⟩
        · have HT : Hid (fullB W a = false) := Lib.hid (by rw [hall, h3]; rfl)
          clear hall h3
          have f1 : decide (x < -1) = false := decide_eq_false (by omega)
          have f2 : decide ((W.length : Int) ≤ x) = true := decide_eq_true h2
          go_wp2_with fail
          go_quiet (fail)
          go_wp2
          go_ret
          exact ⟨ret_bool HT.out.symm, below_drewN hW2.out _⟩
        · obtain ⟨b', off', A2, c2, b3, o3, row, hA, rfl, g1, g2, _, _⟩ := wish_cell HRA.out HV.out (i := q) (by rw [← HV.out.len]; exact h1) hkn
          cases hA
          have f1 : decide ((q : Int) < -1) = false := decide_eq_false (by omega)
          have f2 : decide ((W.length : Int) ≤ (q : Int)) = false := decide_eq_false (by omega)
          have f3 : decide (W.length ≤ q) = false := decide_eq_false (by omega)
          have f4 : decide ((0 : Int) ≤ (q : Int)) = true := decide_eq_true (by omega)
          cases hws : wishB W q k
          · rw [hws] at g2 h2
            have HT : Hid (fullB W a = false) := Lib.hid (by rw [hall, h2]; rfl)
            clear hall h2 hws
            cases wishAny W k
            all_goals
              go_wp2_with fail
              go_quiet (fail)
              go_wp2
              go_ret
              exact ⟨ret_bool HT.out.symm, below_drewN hW2.out _⟩
          · have hany := wish_any q h1 hws
            rw [hws] at g2 h2
            rw [hany]
            have HT : Hid (((List.range a.length).drop (k + 1)).all (fun g => rightR W g (a.getD g 0)) = fullB W a) := Lib.hid (by rw [hall, h2]; rfl)
            clear hall h2 hws hany
            go_wp2_with fail
            go_quiet (fail)
            go_wp2
            go_roundw
            case rel => exact ⟨k + 1, by omega, by go_num, HT, Lib.hid (below_drewN hW2.out _)⟩
            case measure => simp [intOf]; omega
        · have f2 : decide ((W.length : Int) ≤ -1) = false := decide_eq_false (by omega)
          cases hws : wishAny W k
          · rw [hws] at h2
            have HT : Hid (((List.range a.length).drop (k + 1)).all (fun g => rightR W g (a.getD g 0)) = fullB W a) := Lib.hid (by rw [hall, h2]; rfl)
            clear hall h2 hws
            go_wp2_with fail
            go_quiet (fail)
            go_wp2
            go_roundw
            case rel => exact ⟨k + 1, by omega, by go_num, HT, Lib.hid (below_drewN hW2.out _)⟩
            case measure => simp [intOf]; omega
          · rw [hws] at h2
            have HT : Hid (fullB W a = false) := Lib.hid (by rw [hall, h2]; rfl)
            clear hall h2 hws
            go_wp2_with fail
            go_quiet (fail)
            go_wp2
            go_ret
            exact ⟨ret_bool HT.out.symm, below_drewN hW2.out _⟩
      · have HT : Hid (fullB W a = true) := Lib.hid (by rw [← hr.out, all_end (by simp; omega)])
        go_wp2
        go_ret
        exact ⟨ret_bool HT.out.symm, hw.out⟩
  · have hb1 : ((a.length : Int) != (n : Int)) = true := by simp; omega
    have HT : Hid (fullB W a = false) := Lib.hid (by rw [fullB, HR0.out, decide_eq_false hn, Bool.false_and])
    clear hn
    go_enter Try.func53, Try.ntmps53
    go_wp2
    go_ret
    exact ⟨ret_bool HT.out.symm, Below.refl _ _⟩
end Go.Proofs.Ytefbkdjppfofmaa

import Derived.Test.YtefbkdjppfofmaaW26h
import Derived.Test.YtefbkdjppfofmaaW26b
/-! Walks of chapter 26: Counts. -/
namespace Go.Proofs.Ytefbkdjppfofmaa
open Go.RowKit Go.Deep
set_option linter.unusedVariables false
set_option maxRecDepth 100000

/-- a list in a new block, and an error -/
def RowRes26 (w : World) (F : List Int) (c : Int) (e : Ending) (w' : World) : Prop :=
  ∃ A cap, e = .returned (.tuple #[.slice A F.length cap, .int .i64 c]) ∧ Rd w' w'.heap.size A F ∧ Below w.heap.size w w'
def cntF (W : List (List Bool)) (a : List Int) : List Int := if lkd26 W a = 0 then cntK a W.length a.length else []
theorem lkd26_zero {W : List (List Bool)} {a : List Int} (h : lkd26 W a = 0) : ∃ m n, VW m n W ∧ a.length = n ∧ fullB W a = true ∧ ∀ x ∈ a, -1 ≤ x ∧ x < m := by
  rw [lkd26] at h
  by_cases hk : chk26 W = 0
  · rw [if_neg (by simp [hk])] at h
    obtain ⟨m, n, v⟩ := chk26_zero hk
    by_cases hf : fullB W a = true
    · have hf' := hf
      rw [fullB, Bool.and_eq_true, decide_eq_true_iff, List.all_eq_true] at hf
      have hlen : (W.getD 0 []).length = n := by
        have h0 : 0 < W.length := by rw [v.len]; exact v.m0
        rw [List.getD_eq_getElem?_getD, List.getElem?_eq_getElem h0]
        exact v.row _ (List.getElem_mem h0)
      refine ⟨m, n, v, hf.1.trans hlen, hf', fun x hx => ?_⟩
      obtain ⟨g, hg⟩ := List.getElem?_of_mem hx
      have hgl := (List.getElem?_eq_some_iff.1 hg).1
      have hr := hf.2 g (List.mem_range.2 hgl)
      rw [List.getD_eq_getElem?_getD, hg] at hr
      have hr' : rightR W g x = true := hr
      rcases right_cases W g x with ⟨h1, h2⟩ | ⟨h1, h2, h3⟩ | ⟨q, rfl, h1, h2⟩ | ⟨rfl, h2⟩
      · rw [h2] at hr'; cases hr'
      · rw [h3] at hr'; cases hr'
      · have := v.len; omega
      · have := v.m0; omega
    · rw [if_neg hf] at h; exact absurd h (by decide)
  · rw [if_pos hk] at h; exact absurd h hk
theorem cnt_rd {w w' : World} {W : List (List Bool)} {a : List Int} {m n : Nat} (v : VW m n W) (ha : a.length = n) (hO : Own w' w.heap.size 3 (cntK a m a.length)) : Rd w' w'.heap.size (some ⟨w.heap.size, 0, none⟩) (cntK a m a.length) := by
  have n10 := v.n10
  have m6 := v.m6
  refine hO.rd (fun x hx => ?_) (by rw [cntK_length]; omega) hO.lt
  rw [cntK, List.mem_map] at hx
  obtain ⟨i, _, rfl⟩ := hx
  have := cntTo_le a i a.length
  unfold I64; omega
set_option maxHeartbeats 1000000 in
theorem lCountsE {w : World} {B C : Nat} {A A' : Option Addr} {W : List (List Bool)} {a : List Int} {cap cap' : Nat} (h : RdB2 w B A W) (h' : Rd w C A' a) (hB : B ≤ w.heap.size) (hC : C ≤ w.heap.size) :
    Calls Try.prog 10 #[.slice A W.length cap, .slice A' a.length cap'] w (RowRes26 w (cntF W a) (lkd26 W a)) := by
  have C1 := lLooked26 (cap := cap) (cap' := cap') h h' hB hC
  have H := Lib.hid h
  have H' := Lib.hid h'
  have hwl := h.len
  clear h h'
  by_cases hk : lkd26 W a = 0
  · obtain ⟨m, n, v, ha, _, hx⟩ := lkd26_zero hk
    have HF : Hid (cntF W a = cntK a m a.length) := Lib.hid (by rw [cntF, if_pos hk, v.len])
    have HK := Lib.hid hk
    rw [hk] at C1
    have HV := Lib.hid v
    have HA := Lib.hid ha
    have HX := Lib.hid hx
    have hWm : (W.length : Int) = (m : Int) := by rw [v.len]
    have n10 := v.n10
    have HW := Lib.hid hWm
    have a10 : Hid (a.length ≤ 10) := Lib.hid (by omega)
    clear hk v ha hx hWm n10
    go_enter Try.func10, Try.ntmps10
    go_wp2_with fail
    refine C1.mono ?_
    rintro e w1 ⟨rfl, hb⟩
    have HB := Lib.hid hb
    have R1 := Lib.hid (H'.out.below hb hC)
    have Z1 := Lib.hid (Nat.le_trans hC hb.size)
    clear hb C1
    have CC := lCounts (cap := cap') R1.out Z1.out (n := m) HV.out.m6 a10.out HX.out
    rw [← HW.out] at CC
    have HCC := Lib.hid CC
    clear CC
    go_wp2_with fail
    refine HCC.out.mono ?_
    rintro e w2 ⟨rfl, hO, hb⟩
    have RR := Lib.hid (cnt_rd HV.out HA.out hO)
    have HB2 := Lib.hid (HB.out.trans (hb.mono HB.out.size))
    have hlen : (cntF W a).length = m := by rw [HF.out, cntK_length]
    have HLN := Lib.hid hlen
    clear hb hO HCC hlen
    go_wp2
    go_ret2
    rw [HK.out]
    refine ⟨some ⟨w1.heap.size, 0, none⟩, m, by rw [HLN.out]; rfl, by rw [HF.out]; exact RR.out, HB2.out⟩
  · have hne : (lkd26 W a != 0) = true := by simpa using hk
    have HF : Hid (cntF W a = []) := Lib.hid (by rw [cntF, if_neg hk])
    clear hk
    generalize lkd26 W a = c at *
    go_enter Try.func10, Try.ntmps10
    go_wp2_with fail
    refine C1.mono ?_
    rintro e w1 ⟨rfl, hb⟩
    have HB := Lib.hid hb
    clear hb C1
    go_wp2
    go_ret2
    rw [HF.out]
    exact ⟨none, 0, rfl, Rd.nil _ _ _, HB.out⟩
set_option maxHeartbeats 1000000 in
theorem lrCountsE {w : World} {B C : Nat} {A A' : Option Addr} {W : List (List Bool)} {a : List Int} {cap cap' : Nat} (h : RdB2 w B A W) (h' : Rd w C A' a) (hB : B ≤ w.heap.size) (hC : C ≤ w.heap.size) :
    Calls Try.prog 11 #[.slice A W.length cap, .slice A' a.length cap'] w (RowRes26 w (cntF W a) (lkd26 W a)) := by
  have C1 := lrLooked26 (cap := cap) (cap' := cap') h h' hB hC
  have H := Lib.hid h
  have H' := Lib.hid h'
  have hwl := h.len
  clear h h'
  by_cases hk : lkd26 W a = 0
  · obtain ⟨m, n, v, ha, _, hx⟩ := lkd26_zero hk
    have HF : Hid (cntF W a = cntK a m a.length) := Lib.hid (by rw [cntF, if_pos hk, v.len])
    have HK := Lib.hid hk
    rw [hk] at C1
    have HV := Lib.hid v
    have HA := Lib.hid ha
    have HX := Lib.hid hx
    have hWm : (W.length : Int) = (m : Int) := by rw [v.len]
    have n10 := v.n10
    have HW := Lib.hid hWm
    have a10 : Hid (a.length ≤ 10) := Lib.hid (by omega)
    clear hk v ha hx hWm n10
    go_enter Try.func11, Try.ntmps11
    go_wp2_with fail
    refine C1.mono ?_
    rintro e w1 ⟨rfl, hb⟩
    have HB := Lib.hid hb
    have R1 := Lib.hid (H'.out.below hb hC)
    have Z1 := Lib.hid (Nat.le_trans hC hb.size)
    clear hb C1
    have CC := lrCounted (cap := cap') R1.out Z1.out (n := m) HV.out.m6 a10.out HX.out
    rw [← HW.out] at CC
    have HCC := Lib.hid CC
    clear CC
    go_wp2_with fail
    refine HCC.out.mono ?_
    rintro e w2 ⟨rfl, hO, hb⟩
    have RR := Lib.hid (cnt_rd HV.out HA.out hO)
    have HB2 := Lib.hid (HB.out.trans (hb.mono HB.out.size))
    have hlen : (cntF W a).length = m := by rw [HF.out, cntK_length]
    have HLN := Lib.hid hlen
    clear hb hO HCC hlen
    go_wp2
    go_ret2
    rw [HK.out]
    refine ⟨some ⟨w1.heap.size, 0, none⟩, m, by rw [HLN.out]; rfl, by rw [HF.out]; exact RR.out, HB2.out⟩
  · have hne : (lkd26 W a != 0) = true := by simpa using hk
    have HF : Hid (cntF W a = []) := Lib.hid (by rw [cntF, if_neg hk])
    have C2 : Hid (∀ u, Below w.heap.size w u → Calls Try.prog 30 #[.slice A W.length cap, .slice A' a.length cap'] u fun e w' => e = .returned (.int .i64 (lkd26 W a)) ∧ Below u.heap.size u w') := Lib.hid fun u hu => lrLooked26 (H.out.below hu hB) (H'.out.below hu hC) (Nat.le_trans hB hu.size) (Nat.le_trans hC hu.size)
    clear hk
    generalize lkd26 W a = c at *
    go_enter Try.func11, Try.ntmps11
    go_wp2_with fail
    refine C1.mono ?_
    rintro e w1 ⟨rfl, hb⟩
    have HB := Lib.hid hb
    clear hb C1
    go_wp2_with fail
    refine (C2.out _ HB.out).mono ?_
    rintro e w2 ⟨rfl, hb⟩
    replace HB := Lib.hid (HB.out.trans (hb.mono HB.out.size))
    clear hb
    go_wp2
    go_ret2
    rw [HF.out]
    exact ⟨none, 0, rfl, Rd.nil _ _ _, HB.out⟩
end Go.Proofs.Ytefbkdjppfofmaa

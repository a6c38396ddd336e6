import Derived.Test.YtkoipecnmijfoaaGreatM35b
/-! Walks of keepsakes: isOrder, looked. (Printed by mkTK1.py.) -/
namespace Go.Proofs.YtkoipecnmijfoaaGreat
open Go.RowKit Go.Deep
set_option linter.unusedVariables false
set_option maxRecDepth 100000

set_option maxHeartbeats 1000000 in
theorem kIsOrder {w : World} {B : Nat} {A : Option Addr} {L : List Int} {cap n : Nat} (h : Rd w B A L) (hB : B ≤ w.heap.size) (hl : L.length < 100000000000000) (hn : n ≤ 100000000000000) :
    Calls Tryz.prog 21 #[.slice A L.length cap, .int .i64 n] w fun e w' => e = .returned (.bool (ordB L n)) ∧ Below w.heap.size w w' := by
  have CV := callsIn_wide.1 (values_in Fence.wide 3 trivial rfl A L.length cap w)
  have hb : Below w.heap.size w (w.alloc (.cells #[.slice A L.length cap] 22)) := (Below.refl _ _).alloc (Nat.le_refl _) _
  have CS := sortedV (w := w.alloc (.cells #[.slice A L.length cap] 22)) (Bs := w.heap.size) (cap := cap) (A := A) (zs := L) (by simp) ((cell_of_row _ _ 0 _ _ (0, 0) (heap_alloc_new _ _)).trans rfl) ((h.below hb hB).more (by simp; omega)) hl
  have HCV := Lib.hid CV
  have HCS := Lib.hid CS
  have HB := Lib.hid hb
  have HO : Hid (∀ x : Bool, ordP L n = x → ordB L n = x) := Lib.hid fun x hx => by rw [← ord_eq]; exact hx
  clear CV CS hb h
  generalize hw1 : w.alloc (.cells #[.slice A L.length cap] 22) = w1 at *
  go_enter Tryz.func21, Tryz.ntmps21
  go_wp2_with fail
  refine HCV.out.mono ?_
  rintro e w' ⟨rfl, rfl⟩
  clear HCV
  go_wp2_with fail
  refine HCS.out.mono ?_
  rintro e w2 ⟨A2, c2, rfl, hown, hb2⟩
  rw [sortI_length] at hown ⊢
  have HOW := Lib.hid hown
  have HB2 := Lib.hid (HB.out.trans (hb2.mono HB.out.size))
  clear hown hb2 HCS HB hw1
  go_wp2_with fail
  go_loopw [11] (fun iv wr => ∃ (k : Nat), k ≤ L.length ∧ iv = .int .i64 k ∧ Hid (∀ j, j < k → (sortI L)[j]? = some (j : Int)) ∧ wr = w2) (fun iv _ => L.length - (intOf iv).toNat)
  case atStart => exact ⟨0, by omega, rfl, Lib.hid (fun j hj => by omega), rfl⟩
  case round =>
    obtain ⟨k, hk, rfl, hs, rfl⟩ := hrel
    by_cases hlt : k < L.length
    · obtain ⟨g, rfl, hg, hP⟩ := HOW.out (by omega)
      have hlk : k < (sortI L).length := by rw [sortI_length]; exact hlt
      have hx := List.getElem?_eq_getElem hlk
      have hc := hP.cell hx
      have HX := Lib.hid hx
      clear hP hx
      generalize (sortI L)[k] = x at *
      by_cases hxk : x = (k : Int)
      · have q1 : (x != (k : Int)) = false := by simpa using hxk
        have HS : Hid (∀ j, j < k + 1 → (sortI L)[j]? = some (j : Int)) := Lib.hid fun j hj => by
          rcases Nat.lt_or_ge j k with h | h
          · exact hs.out j h
          · have : j = k := by omega
            rw [this, HX.out, hxk]
        clear hxk hs
        go_wp2
        go_roundw
        case rel => exact ⟨k + 1, by omega, by go_num, HS, by trivial⟩
        case measure => simp [intOf]; omega
      · have q1 : (x != (k : Int)) = true := by simpa using hxk
        have HT : Hid (ordB L n = false) := Lib.hid (HO.out _ (by
          rw [ordP, Bool.and_eq_false_iff]
          left
          rw [decide_eq_false_iff_not]
          intro he
          rw [he] at HX
          have h1 := HX.out
          simp [iota, hlt] at h1
          exact hxk h1.symm))
        clear hxk hs
        go_wp2
        go_ret
        exact ⟨ret_bool HT.out.symm, HB2.out⟩
    · have HT : Hid (ordB L n = ((L.length : Int) == (n : Int))) := Lib.hid (HO.out _ (by
        have hkl : k = L.length := by omega
        subst hkl
        rw [ordP, decide_eq_true (iota_of (sortI_length L) fun j hj => hs.out j hj), Bool.true_and, Bool.eq_iff_iff, decide_eq_true_iff, beq_iff_eq]; omega))
      clear hs
      go_wp2
      go_ret
      exact ⟨ret_bool HT.out.symm, HB2.out⟩
theorem kChkA {w : World} {B : Nat} {A1 : Option Addr} {l : List Int} {c n g capO : Nat} {AO : Option Addr} (h : Rd w B A1 l) (hB : B ≤ w.heap.size) (hl : l.length < 100000000000000) (hn : n ≤ 100000000000000) (hg : w.cell? ⟨g, 0, none⟩ = some (.slice AO n capO)) :
    Calls Tryz.prog 46 #[.slice A1 l.length c, .pointer (some ⟨g, 0, none⟩)] w fun e w' => e = .returned (.bool (!ordB l n)) ∧ Below w.heap.size w w' := by
  have C := kIsOrder (cap := c) h hB hl hn
  clear h
  cases ho : ordB l n
  all_goals
    rw [ho] at C
    clear ho
    go_enter Tryz.func46, Tryz.ntmps46
    go_wp2_with (go_at_call 21; refine C.mono ?_; rintro e w' ⟨rfl, hb⟩)
    go_ret
    exact ⟨ret_bool rfl, hb⟩
theorem kChkB {w : World} {x : Int} {m g capR : Nat} {AR : Option Addr} (hg : w.cell? ⟨g, 0, none⟩ = some (.slice AR m capR)) :
    Calls Tryz.prog 48 #[.int .i64 x, .pointer (some ⟨g, 0, none⟩)] w fun e w' => e = .returned (.bool (decide (x < -1) || decide ((m : Int) ≤ x))) ∧ w = w' := by
  cases h1 : decide (x < -1) <;> cases h2 : decide ((m : Int) ≤ x)
  all_goals
    go_enter Tryz.func48, Tryz.ntmps48
    go_wp2
    go_ret
    exact ⟨ret_bool rfl, rfl⟩
def badK (O : List Int) (m : Nat) : Bool := O.any fun i => decide (i < -1) || decide ((m : Int) ≤ i)
/-- the error of an allocation and rankings -/
def chkK (O : List Int) (R : List (List Int)) : Int :=
  if 6 < R.length ∨ 30 < O.length then 4
  else if R = [] ∨ (R.any fun l => !ordB l O.length) = true ∨ badK O R.length = true then 8 else 0
theorem chkK_many {O : List Int} {R : List (List Int)} (h : 6 < R.length ∨ 30 < O.length) : chkK O R = 4 := by rw [chkK, if_pos h]
theorem chkK_bad {O : List Int} {R : List (List Int)} (h1 : ¬ 6 < R.length) (h2 : ¬ 30 < O.length) (h : R = [] ∨ (R.any fun l => !ordB l O.length) = true ∨ badK O R.length = true) : chkK O R = 8 := by
  rw [chkK, if_neg (by omega), if_pos h]
theorem chkK_ok {O : List Int} {R : List (List Int)} (h1 : ¬ 6 < R.length) (h2 : ¬ 30 < O.length) (h3 : 0 < R.length) (h4 : (R.any fun l => !ordB l O.length) = false) (h5 : badK O R.length = false) : chkK O R = 0 := by
  rw [chkK, if_neg (by omega), if_neg]
  rintro (h | h | h)
  · rw [h] at h3; simp at h3
  · rw [h4] at h; cases h
  · rw [h5] at h; cases h
set_option maxHeartbeats 2000000 in
theorem kLooked {w : World} {B C : Nat} {A A' : Option Addr} {O : List Int} {R : List (List Int)} {cap cap' : Nat} (h : Rd w B A O) (h' : Rd2 w C A' R) (hB : B ≤ w.heap.size) (hC : C ≤ w.heap.size) (hR : ∀ l ∈ R, l.length < 100000000000000) :
    Calls Tryz.prog 20 #[.slice A O.length cap, .slice A' R.length cap'] w fun e w' => e = .returned (.int .i64 (chkK O R)) ∧ Below w.heap.size w w' := by
  have l1 := h.len
  have l2 := h'.len
  have hb : Below w.heap.size w ((w.alloc (.cells #[.slice A O.length cap] 22)).alloc (.cells #[.slice A' R.length cap'] 23)) := ((Below.refl _ _).alloc (Nat.le_refl _) _).alloc (by simp) _
  have ho : ((w.alloc (.cells #[.slice A O.length cap] 22)).alloc (.cells #[.slice A' R.length cap'] 23)).cell? ⟨w.heap.size, 0, none⟩ = some (.slice A O.length cap) := by simp
  have hr : ((w.alloc (.cells #[.slice A O.length cap] 22)).alloc (.cells #[.slice A' R.length cap'] 23)).cell? ⟨w.heap.size + 1, 0, none⟩ = some (.slice A' R.length cap') := by simp
  have hs : ((w.alloc (.cells #[.slice A O.length cap] 22)).alloc (.cells #[.slice A' R.length cap'] 23)).heap.size = w.heap.size + 2 := by simp
  have HS := Lib.hid hs
  have HB := Lib.hid hb
  have H := Lib.hid (h.below hb hB)
  have H' := Lib.hid (h'.below hb hC)
  clear h h' hb hs
  go_enter Tryz.func20, Tryz.ntmps20
  generalize hw2 : (w.alloc (.cells #[.slice A O.length cap] 22)).alloc (.cells #[.slice A' R.length cap'] 23) = w2 at *
  have HW2 := Lib.hid hw2
  clear hw2
  have hx2 : (w.alloc (.cells #[.slice A O.length cap] 22)).alloc (.cells #[.slice A' R.length cap'] 23) = w2 := HW2.out
  have hp0 : ∀ A1 x c (u : World), x ∈ R → Rd u C A1 x → Below w2.heap.size w2 u → Calls Tryz.prog 46 (#[.slice A1 x.length c] ++ #[.pointer (some ⟨w.heap.size, 0, none⟩)]) u fun e w' => e = .returned (.bool (!ordB x O.length)) ∧ Below u.heap.size u w' := by
    intro A1 x c u hx hu hbu
    have hsz := HS.out
    exact kChkA hu (by have := hbu.size; omega) (hR x hx) (by omega) ((hbu.cell (p := ⟨w.heap.size, 0, none⟩) (by show w.heap.size < _; omega)).trans ho)
  have CA := containsRowsM (cap := cap') H'.out (by rw [HS.out]; omega) 46 #[.pointer (some ⟨w.heap.size, 0, none⟩)] (fun l => !ordB l O.length) (fun args u => by kernel_rfl) hp0
  have HCB : Hid (∀ u, Below w2.heap.size w2 u → Calls Tryz.prog 47 #[.slice A O.length cap, .func (.func 48) #[] #[.pointer (some ⟨w.heap.size + 1, 0, none⟩)]] u fun e w' => e = .returned (.bool (badK O R.length)) ∧ u = w') := Lib.hid fun u hu =>
    containsInts (cap := cap) (H.out.below hu (by rw [HS.out]; omega)) 48 #[.pointer (some ⟨w.heap.size + 1, 0, none⟩)] (fun i => decide (i < -1) || decide ((R.length : Int) ≤ i)) (fun args u => by kernel_rfl) (fun x _ _ => kChkB ((hu.cell (p := ⟨w.heap.size + 1, 0, none⟩) (by show w.heap.size + 1 < _; rw [HS.out]; omega)).trans hr))
  have HCA := Lib.hid CA
  clear CA hp0
  by_cases h6 : 6 < R.length
  · have f1 : decide (6 < (R.length : Int)) = true := decide_eq_true (by omega)
    have HT := Lib.hid (chkK_many (O := O) (.inl h6))
    go_wp2
    go_ret
    exact ⟨ret_int HT.out.symm, HB.out⟩
  · have f1 : decide (6 < (R.length : Int)) = false := decide_eq_false (by omega)
    by_cases h6' : 30 < O.length
    · have f2 : decide (30 < (O.length : Int)) = true := decide_eq_true (by omega)
      have HT := Lib.hid (chkK_many (R := R) (.inr h6'))
      go_wp2
      go_ret
      exact ⟨ret_int HT.out.symm, HB.out⟩
    · have f2 : decide (30 < (O.length : Int)) = false := decide_eq_false (by omega)
      by_cases h0 : R.length = 0
      · have f3 : ((R.length : Int) == 0) = true := by rw [h0]; rfl
        have HT := Lib.hid (chkK_bad h6 h6' (.inl (List.eq_nil_of_length_eq_zero h0)))
        clear h0
        go_wp2
        go_ret
        exact ⟨ret_int HT.out.symm, HB.out⟩
      · have f3 : ((R.length : Int) == 0) = false := by rw [beq_eq_false_iff_ne]; omega
        cases ha : R.any fun l => !ordB l O.length
        · rw [ha] at HCA
          cases hbd : badK O R.length
          · have HT := Lib.hid (chkK_ok h6 h6' (by omega) ha hbd)
            rw [hbd] at HCB
            clear ha hbd
            go_wp2_with fail
            refine HCA.out.mono ?_
            rintro e w3 ⟨rfl, hb3⟩
            have HB3 := Lib.hid (HB.out.trans (hb3.mono (by rw [HS.out]; omega)))
            have c1 : w3.cell? ⟨w.heap.size, 0, none⟩ = some (.slice A O.length cap) := (hb3.cell (p := ⟨w.heap.size, 0, none⟩) (by show w.heap.size < _; rw [HS.out]; omega)).trans ho
            have HCB3 := Lib.hid (HCB.out w3 hb3)
            clear hb3
            go_wp2_with fail
            refine HCB3.out.mono ?_
            rintro e w4 ⟨rfl, rfl⟩
            go_wp2
            go_ret
            exact ⟨ret_int HT.out.symm, HB3.out⟩
          · have HT := Lib.hid (chkK_bad h6 h6' (.inr (.inr hbd)))
            rw [hbd] at HCB
            clear ha hbd
            go_wp2_with fail
            refine HCA.out.mono ?_
            rintro e w3 ⟨rfl, hb3⟩
            have HB3 := Lib.hid (HB.out.trans (hb3.mono (by rw [HS.out]; omega)))
            have c1 : w3.cell? ⟨w.heap.size, 0, none⟩ = some (.slice A O.length cap) := (hb3.cell (p := ⟨w.heap.size, 0, none⟩) (by show w.heap.size < _; rw [HS.out]; omega)).trans ho
            have HCB3 := Lib.hid (HCB.out w3 hb3)
            clear hb3
            go_wp2_with fail
            refine HCB3.out.mono ?_
            rintro e w4 ⟨rfl, rfl⟩
            go_wp2
            go_ret
            exact ⟨ret_int HT.out.symm, HB3.out⟩
        · have HT := Lib.hid (chkK_bad h6 h6' (.inr (.inl ha)))
          rw [ha] at HCA
          clear ha
          go_wp2_with fail
          refine HCA.out.mono ?_
          rintro e w3 ⟨rfl, hb3⟩
          have HB3 := Lib.hid (HB.out.trans (hb3.mono (by rw [HS.out]; omega)))
          clear hb3
          go_wp2
          go_ret
          exact ⟨ret_int HT.out.symm, HB3.out⟩
end Go.Proofs.YtkoipecnmijfoaaGreat

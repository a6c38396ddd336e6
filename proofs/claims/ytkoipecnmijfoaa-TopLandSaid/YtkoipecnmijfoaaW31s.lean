import Derived.BigQuiet
import Derived.Test.YtkoipecnmijfoaaS31b
/-! The walk of the statement's joined33. -/
namespace Go.Proofs.Ytkoipecnmijfoaa
open Go.RowKit Go.Deep
set_option linter.unusedVariables false
set_option maxRecDepth 100000

theorem sidesN_bd (W H : Nat) (L : List Int) (a : Int) (p : Int → Bool) : sidesN W H L a p ≤ L.length * 4 := by
  unfold sidesN
  refine sumN_le fun i _ => ?_
  unfold sideG
  split
  · exact Nat.le_trans (sumN_le (c := 1) fun j _ => one_le _) (by omega)
  · omega
theorem brdTo1_bd (a : List Int) (i k : Nat) : brdTo1 a i k ≤ k * (a.length * 4) := sumN_le fun j _ => sidesN_bd _ _ _ _ _
theorem brdAll_bd (a : List Int) (i : Nat) (ha : a.length ≤ 12) (hi : i ≤ 6) : brdAll a i ≤ 6 * 288 := by
  have h1 : brdAll a i ≤ i * 288 := sumN_le fun j hj => Nat.le_trans (brdTo1_bd a j j) (by
    have : j * (a.length * 4) ≤ 6 * 48 := Nat.mul_le_mul (by omega) (by omega)
    omega)
  have : i * 288 ≤ 6 * 288 := Nat.mul_le_mul_right _ hi
  omega
theorem haveN_bd (a : List Int) (i : Nat) : haveN a i ≤ i := by
  have := sumN_le (n := i) (f := fun j => one (decide (0 < runsN a (j : Int)))) (c := 1) (fun j _ => one_le _)
  unfold haveN
  omega
theorem vl_row {a : List Int} {n : Nat} (h1 : 1 ≤ a.length) (h12 : a.length ≤ 12) (hn : n ≤ 6) (ha : ∀ x ∈ a, 0 ≤ x ∧ x < n) : VL a.length 1 a where
  w0 := h1
  w1 := h12
  h0 := Nat.le_refl _
  h1 := by omega
  len := by omega
  bd := fun x hx => by have := ha x hx; omega
/-- all agents below i have one run at most -/
def wholeB (a : List Int) (i : Nat) : Bool := (List.range i).all fun j => decide (runsN a (j : Int) ≤ 1)
theorem wholeB_succ (a : List Int) (i : Nat) : wholeB a (i + 1) = (wholeB a i && decide (runsN a (i : Int) ≤ 1)) := by
  unfold wholeB
  rw [List.range_succ, List.all_append]
  simp
theorem wholeB_iff {a : List Int} {n : Nat} (ha : ∀ x ∈ a, 0 ≤ x ∧ x < n) : wholeB a n = divB a := by
  have h : wholeB a n = true ↔ divB a = true := by
    rw [divB_iff, div_runs, wholeB, List.all_eq_true]
    constructor
    · intro h i
      by_cases hi : 0 ≤ i ∧ i < n
      · have := h i.toNat (by rw [List.mem_range]; omega)
        rw [decide_eq_true_iff, Int.toNat_of_nonneg hi.1] at this
        exact this
      · rw [runs_le]
        intro p q hp _
        have := ha i (List.mem_of_getElem? hp.1)
        omega
    · intro h j _
      exact decide_eq_true (h _)
  cases h1 : wholeB a n <;> cases h2 : divB a
  · rfl
  · rw [h2] at h; rw [h.2 rfl] at h1; cases h1
  · rw [h1] at h; rw [h.1 rfl] at h2; cases h2
  · rfl
set_option maxHeartbeats 4000000 in
theorem joined {w : World} {B C m : Nat} {A A' : Option Addr} {V : List (List Int)} {a : List Int} {cap cap' : Nat} (v : VS V m) (hck : chk31 V = 0) (h : Rd2 w C A V) (hC : C ≤ w.heap.size) (h' : Rd w B A' a) (hB : B ≤ w.heap.size) (hm : a.length = m) (h1 : 1 ≤ m) (h12 : m ≤ 12) :
    Calls Try.prog 6 #[.slice A V.length cap, .slice A' a.length cap'] w fun e w' => e = .returned (.bool true) ∧ Below w.heap.size w w' := by
  have n0 := v.n0
  have n6 := v.n6
  have H := Lib.hid fun (u : World) (hu : Below w.heap.size w u) => h.below hu hC
  have H' := Lib.hid fun (u : World) (hu : Below w.heap.size w u) => h'.below hu hB
  have CIS := Lib.hid fun (u : World) (hu : Below w.heap.size w u) (ha : ∀ x ∈ a, 0 ≤ x ∧ x < V.length) => sIs (cap := cap) (cap' := cap') v hck (h.below hu hC) (Nat.le_trans hC hu.size) (h'.below hu hB) (Nat.le_trans hB hu.size) hm ha
  have HCB : Hid (C ≤ w.heap.size ∧ B ≤ w.heap.size) := Lib.hid ⟨hC, hB⟩
  have ha1 : 1 ≤ a.length := by omega
  have ha12 : a.length ≤ 12 := by omega
  clear h h' v hm h1 h12
  go_enter Try.func6, Try.ntmps6
  go_wp2
  go_loop [5] (fun iv => ∃ k : Nat, k ≤ a.length ∧ iv = .int .i64 k ∧ Hid (∀ j x, j < k → a[j]? = some x → 0 ≤ x ∧ x < V.length)) (fun iv => a.length - (intOf iv).toNat)
  case atStart => exact ⟨0, by omega, rfl, Lib.hid (fun j x hj => by omega)⟩
  case round =>
    obtain ⟨k, hk, rfl, hr⟩ := hrel
    by_cases hlt : k < a.length
    · obtain ⟨b1, o1, x, rfl, hb1, hx, hx64, hcx⟩ := (H'.out _ (Below.refl _ _)).at_ hlt
      by_cases x0 : x < 0
      · have d1 : decide (x < 0) = true := decide_eq_true x0
        go_wp2
        go_ret
        exact ⟨rfl, Below.refl _ _⟩
      · have d1 : decide (x < 0) = false := decide_eq_false x0
        by_cases x1 : (V.length : Int) ≤ x
        · have d2 : decide ((V.length : Int) ≤ x) = true := decide_eq_true x1
          go_wp2
          go_ret
          exact ⟨rfl, Below.refl _ _⟩
        · have d2 : decide ((V.length : Int) ≤ x) = false := decide_eq_false x1
          have HR : Hid (∀ j x, j < k + 1 → a[j]? = some x → 0 ≤ x ∧ x < V.length) := Lib.hid fun j y hj hy => by
            by_cases hjk : j = k
            · rw [hjk, hx] at hy
              cases hy; omega
            · exact hr.out j y (by omega) hy
          clear hr hx hx64 x0 x1
          go_wp2
          go_round
          case rel => exact ⟨k + 1, by omega, by go_num, HR⟩
          case measure => simp [intOf]; omega
    · have HA : Hid (∀ x ∈ a, 0 ≤ x ∧ x < V.length) := Lib.hid fun x hx => by
        obtain ⟨j, hj⟩ := List.getElem?_of_mem hx
        exact hr.out j x (by have := (List.getElem?_eq_some_iff.1 hj).1; omega) hj
      have HVL := Lib.hid (vl_row ha1 ha12 n6 HA.out)
      have hal : Below w.heap.size w (w.alloc (.cells #[.int .i64 (a.length : Int), .int .i64 1, .slice A' a.length cap'] 35)) := (Below.refl _ _).alloc (Nat.le_refl _) _
      have hsz : (w.alloc (.cells #[.int .i64 (a.length : Int), .int .i64 1, .slice A' a.length cap'] 35)).heap.size = w.heap.size + 1 := by simp
      have l0 : (w.alloc (.cells #[.int .i64 (a.length : Int), .int .i64 1, .slice A' a.length cap'] 35)).cell? ⟨w.heap.size, 0, none⟩ = some (.int .i64 (a.length : Int)) := by simp
      have l1 : (w.alloc (.cells #[.int .i64 (a.length : Int), .int .i64 1, .slice A' a.length cap'] 35)).cell? ⟨w.heap.size, 1, none⟩ = some (.int .i64 1) := by simp
      have l2 : (w.alloc (.cells #[.int .i64 (a.length : Int), .int .i64 1, .slice A' a.length cap'] 35)).cell? ⟨w.heap.size, 2, none⟩ = some (.slice A' a.length cap') := by simp
      have HAL := Lib.hid hal
      have KEEP : Hid (∀ u, Below (w.heap.size + 1) (w.alloc (.cells #[.int .i64 (a.length : Int), .int .i64 1, .slice A' a.length cap'] 35)) u → u.cell? ⟨w.heap.size, 0, none⟩ = some (.int .i64 (a.length : Int)) ∧ u.cell? ⟨w.heap.size, 1, none⟩ = some (.int .i64 1) ∧ u.cell? ⟨w.heap.size, 2, none⟩ = some (.slice A' a.length cap')) := Lib.hid fun u hu =>
        ⟨((bcell hu).1 _ _ (by omega)).trans l0, ((bcell hu).1 _ _ (by omega)).trans l1, ((bcell hu).1 _ _ (by omega)).trans l2⟩
      have HSZ := Lib.hid hsz
      clear hr hal hsz l0 l1 l2
      go_wp2_with fail
      generalize w.alloc (.cells #[.int .i64 (a.length : Int), .int .i64 1, .slice A' a.length cap'] 35) = w1 at *
      have TOT : Hid (∀ u, Below (w.heap.size + 1) w1 u → Below w.heap.size w u) := Lib.hid fun u hu => HAL.out.trans (hu.mono (by omega))
      refine (CIS.out w1 HAL.out HA.out).mono ?_
      rintro e w2 ⟨rfl, hb2⟩
      have HB2 : Hid (Below (w.heap.size + 1) w1 w2) := Lib.hid (hb2.mono (by have := HSZ.out; omega))
      have HDV := Lib.hid (wholeB_iff HA.out)
      have HBR := Lib.hid fun hd => borders_row ha1 HA.out (divB_iff.1 hd)
      clear hb2 CIS
      generalize divB a = Q at *
      go_wp2
      go_loopw [9, 10, 11, 12] (fun tv hv bv iv wr => ∃ i : Nat, i ≤ V.length ∧ iv = .int .i64 i ∧ tv = .bool (wholeB a i) ∧ hv = .int .i64 (haveN a i : Nat) ∧ bv = .int .i64 (brdAll a i : Nat) ∧ Hid (Below (w.heap.size + 1) w1 wr)) (fun _ _ _ iv _ => V.length - (intOf iv).toNat)
      case atStart => exact ⟨0, by omega, rfl, rfl, rfl, rfl, HB2⟩
      case round =>
        clear HB2
        obtain ⟨i, hi, rfl, rfl, rfl, rfl, hb⟩ := hrel
        have hbw := TOT.out _ hb.out
        by_cases hin : i < V.length
        · obtain ⟨l0, l1, l2⟩ := KEEP.out _ hb.out
          have hlk : lkd (a.length : Int) 1 a (i : Int) = 0 := lkd_ok (lck_of HVL.out) (by omega)
          have hpl : (prtF (a.length : Int) 1 a (i : Int)).length = runsN a (i : Int) := by rw [prtF, if_pos hlk, Int.toNat_natCast, parts_runs]
          have CP := Lib.hid (lPartsE (cap := cap') (H'.out _ hbw) (Nat.le_trans HCB.out.2 hbw.size) (a.length : Int) 1 (i : Int))
          have hrl : runsN a (i : Int) ≤ 12 := by
            have := List.length_filter_le (runB a (i : Int)) (List.range a.length)
            rw [List.length_range] at this
            exact Nat.le_trans this ha12
          have HLK := Lib.hid hlk
          have HPL := Lib.hid hpl
          have HHB := haveN_bd a i
          have HBB := brdAll_bd a i ha12 (by omega)
          have HWS := Lib.hid (wholeB_succ a i)
          have HHS : Hid (haveN a (i + 1) = haveN a i + one (decide (0 < runsN a (i : Int)))) := Lib.hid rfl
          have HBS : Hid (brdAll a (i + 1) = brdAll a i + brdTo1 a i i) := Lib.hid rfl
          clear hlk hpl hbw
          go_wp2_with fail
          refine CP.out.mono ?_
          rintro e w3 ⟨A3, c3, rfl, _, hb3⟩
          rw [HPL.out, HLK.out]
          have HB3 := Lib.hid (hb.out.trans (hb3.mono (by have := HSZ.out; have := hb.out.size; omega)))
          clear hb3 CP hb l0 l1 l2 HPL
          generalize wholeB a i = wb at *
          generalize runsN a (i : Int) = r at *
          generalize haveN a i = hv at *
          obtain ⟨c1, c2⟩ : (∃ b1 : Bool, decide (r ≤ 1) = b1) ∧ (∃ b2 : Bool, decide (0 < r) = b2) := ⟨⟨_, rfl⟩, ⟨_, rfl⟩⟩
          obtain ⟨b1, hb1⟩ := c1
          obtain ⟨b2, hb2⟩ := c2
          have d1 : decide ((r : Int) ≤ 1) = b1 := by rw [← hb1, decide_eq_decide]; omega
          have d2 : decide (0 < (r : Int)) = b2 := by rw [← hb2, decide_eq_decide]; omega
          rw [hb1] at HWS
          rw [hb2] at HHS
          have HWS2 := HWS
          have HHS2 := HHS
          clear HWS HHS
          cases wb <;> cases b1 <;> cases b2
          all_goals
            have hw2 := HWS2.out
            have hh2 := HHS2.out
            (try simp at hw2)
            (try simp [one] at hh2)
            have HW2 := Lib.hid hw2
            have HH2 := Lib.hid hh2
            clear HWS2 HHS2 hw2 hh2
            go_wp2
            go_loopw [11, 15] (fun bv kv wr => ∃ k : Nat, k ≤ i ∧ kv = .int .i64 k ∧ bv = .int .i64 ((brdAll a i + brdTo1 a i k : Nat) : Int) ∧ Hid (Below (w.heap.size + 1) w1 wr)) (fun _ kv _ => i - (intOf kv).toNat)
            case atStart => exact ⟨0, by omega, rfl, rfl, HB3⟩
            case round =>
              clear HB3
              obtain ⟨k, hk, rfl, rfl, hb⟩ := hrel
              by_cases hki : k < i
              · obtain ⟨l0, l1, l2⟩ := KEEP.out _ hb.out
                have hbw := TOT.out _ hb.out
                have hbe : brdE (a.length : Int) 1 a (i : Int) (k : Int) = 0 := by rw [brdE, if_neg (by rw [HLK.out]; simp), if_neg (by omega)]
                have hbn : brdN (a.length : Int) 1 a (i : Int) (k : Int) = (sidesN a.length 1 a (i : Int) (fun x => x == (k : Int)) : Nat) := by rw [brdN, if_pos hbe, Int.toNat_natCast]; rfl
                have CB := Lib.hid (lBorder (cap := cap') (H'.out _ hbw) (Nat.le_trans HCB.out.2 hbw.size) (a.length : Int) 1 (i : Int) (k : Int))
                rw [hbe, hbn] at CB
                have hs1 := sidesN_bd a.length 1 a (i : Int) (fun x => x == (k : Int))
                have hs2 := brdTo1_bd a i k
                have hs3 : k * (a.length * 4) ≤ 6 * 48 := Nat.mul_le_mul (by omega) (by omega)
                have HBN : Hid (brdTo1 a i (k + 1) = brdTo1 a i k + sidesN a.length 1 a (i : Int) (fun x => x == (k : Int))) := Lib.hid rfl
                have hs4 : brdTo1 a i k ≤ 288 := by omega
                have hs5 : sidesN a.length 1 a (i : Int) (fun x => x == (k : Int)) ≤ 48 := by omega
                clear hbe hbn hbw hs1 hs2 hs3
                generalize sidesN a.length 1 a (i : Int) (fun x => x == (k : Int)) = sd at *
                generalize brdTo1 a i k = t1 at *
                generalize brdAll a i = t0 at *
                go_wp2_with fail
                refine CB.out.mono ?_
                rintro e w4 ⟨rfl, hb4⟩
                have HB4 := Lib.hid (hb.out.trans (hb4.mono (by have := HSZ.out; have := hb.out.size; omega)))
                have e1 : IntKind.i64.wrap (((t0 + t1 : Nat) : Int) + (sd : Int)) = ((t0 + t1 + sd : Nat) : Int) := by
                  rw [show (((t0 + t1 : Nat) : Int) + (sd : Int)) = ((t0 + t1 + sd : Nat) : Int) by omega]; exact IntWalk.i64_in _ (by omega)
                have e2 : IntKind.i64.wrap ((t0 : Int) + (t1 : Int) + (sd : Int)) = (t0 : Int) + (t1 : Int) + (sd : Int) := IntWalk.i64_in _ (by omega)
                clear hb4 CB hb
                go_wp2
                go_roundw
                case rel => exact ⟨k + 1, by omega, by go_num, by rw [HBN.out]; go_num, HB4⟩
                case measure => simp [intOf]; omega
              · obtain rfl : k = i := by omega
                go_wp2
                go_roundw
                case rel => exact ⟨k + 1, by omega, by go_num, by rw [HW2.out], by rw [HH2.out]; (try go_num), by rw [HBS.out], hb⟩
                case measure => simp [intOf]; omega
        · obtain rfl : i = V.length := by omega
          have HHB := haveN_bd a V.length
          have HBB := brdAll_bd a V.length ha12 n6
          rw [HDV.out]
          have HB9 := Lib.hid hbw
          have e1 : IntKind.i64.wrap ((haveN a V.length : Int) - 1) = (haveN a V.length : Int) - 1 := IntWalk.i64_in _ (by omega)
          cases Q
          · clear HBR hb hbw
            go_wp2
            go_ret
            exact ⟨rfl, HB9.out⟩
          · have hbr := HBR.out rfl
            have q : ((brdAll a V.length : Int) == (haveN a V.length : Int) - 1) = true := by rw [beq_iff_eq]; omega
            clear HBR hb hbw hbr
            go_wp2
            go_ret
            exact ⟨rfl, HB9.out⟩
end Go.Proofs.Ytkoipecnmijfoaa

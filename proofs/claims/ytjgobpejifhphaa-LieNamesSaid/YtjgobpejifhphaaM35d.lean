import Derived.Test.YtjgobpejifhphaaM35a
import Derived.Test.YtjgobpejifhphaaM35c
/-! Texts that were built one by one, in one file. -/
-- holds: W33i W33j S33d S33e W33k S33f W33l S35b W35b W35c W35d

section
/-! Walks: slices.Sort at 12 or fewer integers, slices.Min and slices.Max. -/
namespace Go.Proofs.Ytjgobpejifhphaa
open Go.RowKit Go.Deep
set_option linter.unusedVariables false
set_option maxRecDepth 100000

def ltI (a b : Int) : Bool := decide (a < b)
theorem less {w : World} (a b : Int) : Calls Try.prog 114 #[.int .i64 a, .int .i64 b] w fun e w' => e = .returned (.bool (ltI a b)) ∧ w = w' := by
  go_enter Try.func114, Try.ntmps114
  go_wp2_with (go_at_call 107; refine (isNaN _).mono ?_; rintro e w' ⟨rfl, rfl⟩)
  go_ret
  exact ⟨ret_bool (by simp [ltI]), rfl⟩

set_option maxRecDepth 100000 in
set_option maxHeartbeats 4000000 in
theorem insOrd {w : World} {g : Nat} {D0 : List Int} {cap : Nat}
    (ho : OwnP w g 3 D0) (hn : 1 ≤ D0.length) (hn2 : D0.length ≤ 40) :
    Calls Try.prog 108 #[.slice (some ⟨g, 0, none⟩) D0.length cap, .int .i64 0, .int .i64 D0.length] w
      fun e w' => e = .returned (.tuple #[]) ∧ OwnP w' g 3 (isort ltI D0) ∧ Below g w w' := by
  have HO := Lib.hid ho
  clear ho
  generalize hN : D0.length = n at *
  have HN := Lib.hid hN
  clear hN
  go_enter Try.func108, Try.ntmps108
  go_wp2
  go_loopw [6] (fun i wr => ∃ (k : Nat) (D R : List Int), 1 ≤ k ∧ k ≤ n ∧ i = .int .i64 k ∧ Hid (D = R.reverse ++ D0.drop k) ∧ Hid (R = isRev ltI [] (D0.take k)) ∧ Hid (OwnP wr g 3 D) ∧ Hid (Below g w wr)) (fun i _ => n - (intOf i).toNat)
  case atStart =>
    obtain ⟨x, t, rfl⟩ : ∃ x t, D0 = x :: t := by
      cases D0 with
      | nil => have := HN.out; simp at this; omega
      | cons x t => exact ⟨x, t, rfl⟩
    exact ⟨1, x :: t, [x], by omega, by omega, rfl, Lib.hid rfl, Lib.hid rfl, HO, Lib.hid (Below.refl _ _)⟩
  case round =>
    obtain ⟨k, D, R, hk1, hk, rfl, hD, hR, hO, hB⟩ := hrel
    by_cases hkn : k < n
    · obtain ⟨v, hv⟩ : ∃ v, D0[k]? = some v := ⟨D0[k]'(by rw [HN.out]; exact hkn), by simp⟩
      have hRl : R.length = k := by rw [hR.out, isRev_length]; simp; have := HN.out; omega
      have hstart : InsAt ltI D R k k v R [] (D0.drop (k + 1)) := by
        have := InsAt.start (lt := ltI) (R := R) (rest := D0.drop (k + 1)) (v := v)
        rw [hRl, ← drop_of hv, ← hD.out] at this
        exact this
      have HV := Lib.hid hv
      have HS := Lib.hid hstart
      have HRL := Lib.hid hRl
      clear hv hstart hRl
      obtain ⟨wo, rfl⟩ : ∃ wo : World, wo = wr := ⟨_, rfl⟩
      go_wp2
      go_loopw [7] (fun jv wi => ∃ (j : Nat) (D' X Y : List Int), j ≤ k ∧ jv = .int .i64 j ∧ Hid (InsAt ltI D' R k j v X Y (D0.drop (k + 1))) ∧ Hid (OwnP wi g 3 D') ∧ Hid (Below g w wi)) (fun jv _ => (intOf jv).toNat)
      case atStart => exact ⟨k, D, R, [], by omega, rfl, HS, hO, hB⟩
      case round =>
        obtain ⟨j, D', X, Y, hj, rfl, hI, hOi, hBi⟩ := hrel
        have hnext : Hid ((X = [] ∨ ∃ x t, X = x :: t ∧ ltI v x = false) → D' = (insRev ltI v R).reverse ++ D0.drop (k + 1)) := Lib.hid hI.out.done
        have hR' : Hid (insRev ltI v R = isRev ltI [] (D0.take (k + 1))) := Lib.hid (by rw [take_succ_of HV.out, isRev_snoc, ← hR.out])
        cases X with
        | nil =>
          have hj0 : j = 0 := by have := hI.out.len; simpa using this.symm
          subst hj0
          have hd : decide ((0 : Int) < 0) = false := by decide
          have hfin := Lib.hid (hnext.out (.inl rfl))
          clear hnext
          go_wp2
          go_quiet (fail)
          go_wp2
          go_roundw
          case rel => exact ⟨k + 1, D', _, by omega, by omega, by go_num, hfin, hR', Lib.hid (hOi.out.drewN _), Lib.hid (below_drewN hBi.out _)⟩
          case measure => simp [intOf]; omega
        | cons x t =>
          obtain ⟨j', hj'⟩ : ∃ j', j = j' + 1 := ⟨t.length, by have := hI.out.len; simp at this; omega⟩
          have hcl : D'[j]? = some v ∧ D'[j']? = some x := by
            have h := hI.out
            rw [hj'] at h ⊢
            exact h.cells
          have c1 := hOi.out.cell hcl.1
          have c2 := hOi.out.cell hcl.2
          have f1 := hOi.out.frozen j
          have f2 := hOi.out.frozen j'
          have HCL := Lib.hid hcl
          clear hcl
          have hjn : j < n := by omega
          have hjn' : j' < n := by omega
          have i1 : (0 : Int) ≤ j := by omega
          have i2 : (j : Int) < n := by omega
          have i3 : (0 : Int) ≤ j' := by omega
          have i4 : (j' : Int) < n := by omega
          have i5 : (0 : Int) < j := by omega
          have HJ := Lib.hid hj'
          have E1 : Hid (IntKind.i64.wrap ((j : Int) - 1) = (j' : Int)) := Lib.hid (by rw [show (j : Int) - 1 = j' by omega]; exact IntWalk.i64_in _ (by omega))
          have hgs := hOi.out.lt
          obtain ⟨bv, hbv⟩ : ∃ bv, bv = ltI v x := ⟨_, rfl⟩
          have CL : Hid (∀ u : World, Calls Try.prog 114 #[.int .i64 v, .int .i64 x] u fun e w' => e = .returned (.bool bv) ∧ w' = u) := Lib.hid (by rw [hbv]; exact fun u => (less v x).mono fun _ _ h => ⟨h.1, h.2.symm⟩)
          have HBV := Lib.hid hbv
          clear hj' hbv
          go_wp2
          have e1 := E1.out
          have dd1 : decide ((0 : Int) < (j : Int)) = true := by simpa using i5
          have dd2 : decide (0 < j) = true := by simp; omega
          have dd3 : 0 < j := by omega
          go_quiet ((go_at_call 114; exact Calls.quiet_of_same (CL.out _)))
          clear e1
          have HO2 := Lib.hid (hOi.out.drewN nq)
          have HB2 := Lib.hid (below_drewN hBi.out nq)
          have k1 : (wr.drewN nq).cell? ⟨g, j, none⟩ = wr.cell? ⟨g, j, none⟩ := rfl
          have k2 : (wr.drewN nq).cell? ⟨g, j', none⟩ = wr.cell? ⟨g, j', none⟩ := rfl
          rw [c1] at k1
          rw [c2] at k2
          clear c1 c2
          generalize wr.drewN nq = w2 at *
          have c1 := k1
          have c2 := k2
          clear k1 k2
          have f1 := HO2.out.frozen j
          have f2 := HO2.out.frozen j'
          cases bv
          · have hlv : ltI v x = false := HBV.out.symm
            have hfin := Lib.hid (hnext.out (.inr ⟨x, t, rfl, hlv⟩))
            clear hlv hnext
            go_wp2
            go_roundw
            case rel => exact ⟨k + 1, D', _, by omega, by omega, by go_num, hfin, hR', HO2, HB2⟩
            case measure => simp [intOf]; omega
          · have hlv : ltI v x = true := HBV.out.symm
            have hsw : InsAt ltI ((D'.set j x).set j' v) R k j' v t (Y ++ [x]) (D0.drop (k + 1)) := by
              have h := hI.out
              rw [HJ.out] at h ⊢
              exact h.swap hlv
            have HSW := Lib.hid hsw
            clear hsw hlv
            go_wp2
            have hs1 := HO2.out.store j x
            have s1 := hs1.cell (i := j') (x := x) (by rw [List.getElem?_set_ne (by have := HJ.out; omega)]; exact HCL.out.2)
            have s2 := hs1.frozen j'
            have HFI := Lib.hid (hs1.store j' v)
            have HBI := Lib.hid ((HB2.out.setCell (p := ⟨g, j, none⟩) (Nat.le_refl _) (.int .i64 x)).setCell (p := ⟨g, j', none⟩) (Nat.le_refl _) (.int .i64 v))
            clear hs1
            have e1 := E1.out
            go_region
            try clear e1
            all_goals go_wp2
            all_goals go_roundw
            case rel => exact ⟨j', _, t, Y ++ [x], by have := HJ.out; omega, int_of (by have := HJ.out; omega), HSW, Lib.hid HFI.out.drew, Lib.hid HBI.out.drew⟩
            case measure => simp [intOf]; omega
    · have hkn' : k = n := by omega
      subst hkn'
      have hfin : OwnP wr g 3 (isort ltI D0) := by
        have h := hO.out
        rw [hD.out, hR.out, List.take_of_length_le (by rw [HN.out]; omega), List.drop_of_length_le (by rw [HN.out]; omega), List.append_nil] at h
        exact h
      have HF := Lib.hid hfin
      clear hfin
      go_wp2
      go_end0
      exact ⟨rfl, HF.out, hB.out⟩
end Go.Proofs.Ytjgobpejifhphaa
end

section
/-! Walks: slices.Sort at 12 or fewer integers, slices.Min and slices.Max. -/
namespace Go.Proofs.Ytjgobpejifhphaa
open Go.RowKit Go.Deep
set_option linter.unusedVariables false
set_option maxRecDepth 100000

def SomeInt (w : World) (e : Ending) (w' : World) : Prop := ∃ r : Int, e = .returned (.int .i64 r) ∧ w = w'
set_option maxRecDepth 100000 in
set_option maxHeartbeats 1000000 in
theorem lenW {w : World} {n : Nat} (h : n ≤ 12) : Calls Try.prog 93 #[.int .u64 n] w (SomeInt w) := by
  rcases (show n = 0 ∨ n = 1 ∨ n = 2 ∨ n = 3 ∨ n = 4 ∨ n = 5 ∨ n = 6 ∨ n = 7 ∨ n = 8 ∨ n = 9 ∨ n = 10 ∨ n = 11 ∨ n = 12 by omega) with
    rfl | rfl | rfl | rfl | rfl | rfl | rfl | rfl | rfl | rfl | rfl | rfl | rfl
  all_goals
    go_enter Try.func93, Try.ntmps93
    go_wp2
    go_ret
    exact ⟨_, rfl, rfl⟩

set_option maxHeartbeats 1000000 in
theorem pdq {w : World} {g : Nat} {D0 : List Int} {cap : Nat} (lim : Int) (ho : OwnP w g 3 D0) (hn : 1 ≤ D0.length) (hn2 : D0.length ≤ 12) :
    Calls Try.prog 92 #[.slice (some ⟨g, 0, none⟩) D0.length cap, .int .i64 0, .int .i64 D0.length, .int .i64 lim] w
      fun e w' => e = .returned (.tuple #[]) ∧ OwnP w' g 3 (isort ltI D0) ∧ Below g w w' := by
  have C := insOrd (cap := cap) ho hn (by omega)
  clear ho
  generalize isort ltI D0 = R at *
  generalize D0.length = n at *
  go_enter Try.func92, Try.ntmps92
  go_wp2
  refine wp_loop_rounds 1 ?_
  rw [rounds_succ]
  go_wp2_with (go_at_call 108; refine C.mono ?_; rintro e w1 ⟨rfl, hO, hB⟩)
  exact bodyPost_ret (v := .tuple #[]) (by simp [results, Try.results92, go_sem]) rfl ⟨rfl, hO, hB⟩
set_option maxHeartbeats 1000000 in
theorem pdq0 {w : World} {A : Option Addr} {cap : Nat} (lim : Int) :
    Calls Try.prog 92 #[.slice A 0 cap, .int .i64 0, .int .i64 0, .int .i64 lim] w fun e w' => e = .returned (.tuple #[]) ∧ w = w' := by
  have C : Calls Try.prog 108 #[.slice A 0 cap, .int .i64 0, .int .i64 0] w fun e w' => e = .returned (.tuple #[]) ∧ w = w' := by
    go_enter Try.func108, Try.ntmps108
    go_wp2
    refine wp_loop_rounds 1 ?_
    rw [rounds_succ]
    go_wp2
    go_end0
    exact ⟨rfl, rfl⟩
  go_enter Try.func92, Try.ntmps92
  go_wp2
  refine wp_loop_rounds 1 ?_
  rw [rounds_succ]
  go_wp2_with (go_at_call 108; refine C.mono ?_; rintro e w1 ⟨rfl, rfl⟩)
  exact bodyPost_ret (v := .tuple #[]) (by simp [results, Try.results92, go_sem]) rfl ⟨rfl, rfl⟩
set_option maxHeartbeats 1000000 in
theorem sortInts {w : World} {g : Nat} {D0 : List Int} {cap : Nat} (ho : OwnP w g 3 D0) (hn : 1 ≤ D0.length) (hn2 : D0.length ≤ 12) :
    Calls Try.prog 63 #[.slice (some ⟨g, 0, none⟩) D0.length cap] w
      fun e w' => e = .returned (.tuple #[]) ∧ OwnP w' g 3 (isort ltI D0) ∧ Below g w w' := by
  have C : Hid (∀ lim : Int, Calls Try.prog 92 #[.slice (some ⟨g, 0, none⟩) D0.length cap, .int .i64 0, .int .i64 D0.length, .int .i64 lim] w
      fun e w' => e = .returned (.tuple #[]) ∧ OwnP w' g 3 (isort ltI D0) ∧ Below g w w') := Lib.hid fun lim => pdq lim ho hn hn2
  clear ho
  generalize isort ltI D0 = R at *
  generalize D0.length = n at *
  have CL := lenW (w := w) hn2
  have e0 : IntKind.u64.wrap (n : Int) = n := by
    rcases (show n = 0 ∨ n = 1 ∨ n = 2 ∨ n = 3 ∨ n = 4 ∨ n = 5 ∨ n = 6 ∨ n = 7 ∨ n = 8 ∨ n = 9 ∨ n = 10 ∨ n = 11 ∨ n = 12 by omega) with
      rfl | rfl | rfl | rfl | rfl | rfl | rfl | rfl | rfl | rfl | rfl | rfl | rfl
    all_goals decide
  go_enter Try.func63, Try.ntmps63
  go_wp2_with (first | (go_at_call 93; refine CL.mono ?_; rintro e w' ⟨r, rfl, rfl⟩) | (go_at_call 92; refine (C.out _).mono ?_; rintro e w1 ⟨rfl, hO, hB⟩))
  go_end0
  exact ⟨rfl, hO, hB⟩
set_option maxHeartbeats 1000000 in
theorem sortNone {w : World} {A : Option Addr} {cap : Nat} :
    Calls Try.prog 63 #[.slice A 0 cap] w fun e w' => e = .returned (.tuple #[]) ∧ w = w' := by
  have CL := lenW (w := w) (n := 0) (by omega)
  go_enter Try.func63, Try.ntmps63
  go_wp2_with (first | (go_at_call 93; refine CL.mono ?_; rintro e w' ⟨r, rfl, rfl⟩) | (go_at_call 92; refine (pdq0 _).mono ?_; rintro e w1 ⟨rfl, rfl⟩))
  go_end0
  exact ⟨rfl, rfl⟩


def minL : List Int → Int
  | [] => 0
  | x :: t => t.foldl min x
set_option maxHeartbeats 1000000 in
theorem minW {w : World} {B : Nat} {A : Option Addr} {L : List Int} {cap : Nat} (h : Rd w B A L) (hn : 1 ≤ L.length) :
    Calls Try.prog 64 #[.slice A L.length cap] w fun e w' => e = .returned (.int .i64 (minL L)) ∧ w = w' := by
  have hlen := h.len
  obtain ⟨b, off, x, rfl, hb, hx, hi, hc⟩ := h.at_ (k := 0) (by omega)
  have hst : (L.drop 1).foldl min x = minL L := by
    cases L with
    | nil => simp at hn
    | cons y t => simp at hx; subst hx; rfl
  simp only [Nat.add_zero] at hc
  have H := Lib.hid h
  have HS := Lib.hid hst
  have hpos : 0 < L.length := by omega
  clear h hst hx hi
  go_enter Try.func64, Try.ntmps64
  go_wp2
  go_loop [3, 4] (fun m i => ∃ (k : Nat) (mv : Int), k ≤ L.length ∧ i = .int .i64 k ∧ m = .int .i64 mv ∧ Hid ((L.drop k).foldl min mv = minL L)) (fun _ i => L.length - (intOf i).toNat)
  case atStart => exact ⟨1, x, by omega, rfl, rfl, HS⟩
  case round =>
    obtain ⟨k, mv, hk, rfl, rfl, hr⟩ := hrel
    by_cases hlt : k < L.length
    · obtain ⟨b', off', y, e, hb', hy, hi, hc'⟩ := H.out.at_ hlt
      cases e
      have HY := Lib.hid hy
      have HI := Lib.hid hi
      clear hy hi
      go_wp2
      go_round
      case rel => exact ⟨k + 1, min mv y, by omega, by go_num, int_of (by split <;> omega), Lib.hid (by rw [← hr.out, drop_of HY.out]; rfl)⟩
      case measure => simp [intOf]; omega
    · go_wp2
      go_ret
      exact ⟨ret_int (by rw [← hr.out, drop_end (by omega)]; rfl), rfl⟩

def maxL : List Int → Int
  | [] => 0
  | x :: t => t.foldl max x
set_option maxHeartbeats 1000000 in
theorem maxW {w : World} {B : Nat} {A : Option Addr} {L : List Int} {cap : Nat} (h : Rd w B A L) (hn : 1 ≤ L.length) :
    Calls Try.prog 65 #[.slice A L.length cap] w fun e w' => e = .returned (.int .i64 (maxL L)) ∧ w = w' := by
  have hlen := h.len
  obtain ⟨b, off, x, rfl, hb, hx, hi, hc⟩ := h.at_ (k := 0) (by omega)
  have hst : (L.drop 1).foldl max x = maxL L := by
    cases L with
    | nil => simp at hn
    | cons y t => simp at hx; subst hx; rfl
  simp only [Nat.add_zero] at hc
  have H := Lib.hid h
  have HS := Lib.hid hst
  have hpos : 0 < L.length := by omega
  clear h hst hx hi
  go_enter Try.func65, Try.ntmps65
  go_wp2
  go_loop [3, 4] (fun m i => ∃ (k : Nat) (mv : Int), k ≤ L.length ∧ i = .int .i64 k ∧ m = .int .i64 mv ∧ Hid ((L.drop k).foldl max mv = maxL L)) (fun _ i => L.length - (intOf i).toNat)
  case atStart => exact ⟨1, x, by omega, rfl, rfl, HS⟩
  case round =>
    obtain ⟨k, mv, hk, rfl, rfl, hr⟩ := hrel
    by_cases hlt : k < L.length
    · obtain ⟨b', off', y, e, hb', hy, hi, hc'⟩ := H.out.at_ hlt
      cases e
      have HY := Lib.hid hy
      have HI := Lib.hid hi
      clear hy hi
      go_wp2
      go_round
      case rel => exact ⟨k + 1, max mv y, by omega, by go_num, int_of (by split <;> omega), Lib.hid (by rw [← hr.out, drop_of HY.out]; rfl)⟩
      case measure => simp [intOf]; omega
    · go_wp2
      go_ret
      exact ⟨ret_int (by rw [← hr.out, drop_end (by omega)]; rfl), rfl⟩

theorem foldl_min_lt {a : Int} : ∀ {L : List Int} {m : Int}, L.foldl min m < a ↔ m < a ∨ ∃ x ∈ L, x < a
  | [], m => by simp
  | y :: t, m => by
    rw [List.foldl_cons, foldl_min_lt]
    constructor
    · rintro (h | ⟨x, hx, h⟩)
      · rcases Int.le_total m y with hle | hle
        · rw [Int.min_eq_left hle] at h; exact .inl h
        · rw [Int.min_eq_right hle] at h; exact .inr ⟨y, by simp, h⟩
      · exact .inr ⟨x, by simp [hx], h⟩
    · rintro (h | ⟨x, hx, h⟩)
      · exact .inl (by omega)
      · rcases List.mem_cons.1 hx with rfl | hx
        · exact .inl (by omega)
        · exact .inr ⟨x, hx, h⟩
theorem foldl_max_lt {a : Int} : ∀ {L : List Int} {m : Int}, a < L.foldl max m ↔ a < m ∨ ∃ x ∈ L, a < x
  | [], m => by simp
  | y :: t, m => by
    rw [List.foldl_cons, foldl_max_lt]
    constructor
    · rintro (h | ⟨x, hx, h⟩)
      · rcases Int.le_total m y with hle | hle
        · rw [Int.max_eq_right hle] at h; exact .inr ⟨y, by simp, h⟩
        · rw [Int.max_eq_left hle] at h; exact .inl h
      · exact .inr ⟨x, by simp [hx], h⟩
    · rintro (h | ⟨x, hx, h⟩)
      · exact .inl (by omega)
      · rcases List.mem_cons.1 hx with rfl | hx
        · exact .inl (by omega)
        · exact .inr ⟨x, hx, h⟩
theorem minL_lt {L : List Int} {a : Int} (h : 1 ≤ L.length) : minL L < a ↔ ∃ x ∈ L, x < a := by
  cases L with
  | nil => simp at h
  | cons y t =>
    rw [minL, foldl_min_lt]
    simp
theorem maxL_lt {L : List Int} {a : Int} (h : 1 ≤ L.length) : a < maxL L ↔ ∃ x ∈ L, a < x := by
  cases L with
  | nil => simp at h
  | cons y t =>
    rw [maxL, foldl_max_lt]
    simp
end Go.Proofs.Ytjgobpejifhphaa
end

section
/-! Plain law: who has a place, and the credits after a holiday. -/
namespace Go.Proofs.Ytjgobpejifhphaa
set_option linter.unusedVariables false

/-- a list over the agents: new for those ranked among the first k, old for the others -/
def sel (C B : List Int) (k : Nat) (old new : Nat → Int) : List Int := (List.range B.length).map fun i => if place C B i < k then new i else old i
theorem sel_length (C B : List Int) (k : Nat) (old new : Nat → Int) : (sel C B k old new).length = B.length := by simp [sel]
theorem sel_get {C B : List Int} {k i : Nat} {old new : Nat → Int} (h : i < B.length) : (sel C B k old new)[i]? = some (if place C B i < k then new i else old i) := by
  simp [sel, h]
theorem sel_cur {C B : List Int} {k i : Nat} {old new : Nat → Int} (h : i < B.length) (hp : place C B i = k) : (sel C B k old new)[i]? = some (old i) := by
  rw [sel_get h, if_neg (by omega)]
theorem place_inj {C B : List Int} {i j : Nat} (hi : i < B.length) (hj : j < B.length) (h : place C B i = place C B j) : i = j := by
  have h1 := (at_place (C := C) hi).1
  have h2 := (at_place (C := C) hj).1
  rw [h, h2] at h1
  have : (j : Int) = (i : Int) := by simpa using h1
  omega
theorem sel_set {C B : List Int} {k i : Nat} {old new : Nat → Int} (h : i < B.length) (hp : place C B i = k) : (sel C B k old new).set i (new i) = sel C B (k + 1) old new := by
  apply List.ext_getElem?
  intro j
  rcases Nat.lt_or_ge j B.length with hlt | hge
  · by_cases e : j = i
    · subst e
      rw [List.getElem?_set_self (by rw [sel_length]; exact hlt), sel_get hlt, if_pos (by omega)]
    · rw [List.getElem?_set_ne (by omega), sel_get hlt, sel_get hlt]
      have hne : place C B j ≠ k := fun e2 => e (place_inj (C := C) hlt h (by omega))
      by_cases h2 : place C B j < k
      · rw [if_pos h2, if_pos (by omega)]
      · rw [if_neg h2, if_neg (by omega)]
  · rw [List.getElem?_eq_none (by simp [sel_length]; omega), List.getElem?_eq_none (by rw [sel_length]; omega)]
theorem sel_zero (C B : List Int) (old new : Nat → Int) : sel C B 0 old new = (List.range B.length).map old := by simp [sel]
theorem sel_congr {C B : List Int} {k : Nat} {old new old' new' : Nat → Int} (h : ∀ i, i < B.length → (if place C B i < k then new i else old i) = old' i) : sel C B k old new = sel C B 0 old' new' := by
  rw [sel_zero]
  apply List.map_congr_left
  intro i hi
  exact h i (by simpa using hi)
theorem sel_all (C B : List Int) (old new : Nat → Int) : sel C B B.length old new = (List.range B.length).map new := by
  apply List.map_congr_left
  intro i hi
  rw [if_pos (at_place (by simpa using hi)).2]
theorem list_range {L : List Int} {n : Nat} (h : L.length = n) : L = (List.range n).map fun i => L.getD i 0 := by
  apply List.ext_getElem?
  intro j
  rcases Nat.lt_or_ge j n with hlt | hge
  · rw [List.getElem?_map, List.getElem?_range hlt]
    have : L[j]? = some L[j] := by simp
    simp [List.getD, this]
  · rw [List.getElem?_eq_none (by omega), List.getElem?_eq_none (by simp; omega)]

def gQ (C B : List Int) (m : Nat) : Int := prOf C B m * m / C.length
def gR (C B : List Int) (m : Nat) : Int := prOf C B m * m % C.length
/-- what agent i has when the places are paid, and at the end -/
def paid (C B : List Int) (m i : Nat) : Int := C.getD i 0 - (if place C B i < m then prOf C B m else 0)
def extra (C B : List Int) (m i : Nat) : Int := if (C.length : Int) - gR C B m ≤ (place C B i : Int) then 1 else 0
def after (C B : List Int) (m i : Nat) : Int := paid C B m i + gQ C B m + extra C B m i
def aftL (C B : List Int) (m : Nat) : List Int := (List.range B.length).map (after C B m)
def freeL (C B : List Int) (m : Nat) : List Int := ((List.range B.length).filter fun i => decide (place C B i < m)).map fun (i : Nat) => (i : Int)

theorem isRev_le : ∀ (L R : List Int), R.Pairwise (fun a b => b ≤ a) → (isRev ltI R L).Pairwise (fun a b => b ≤ a) := by
  have ins : ∀ (v : Int) (X : List Int), X.Pairwise (fun a b => b ≤ a) → (insRev ltI v X).Pairwise (fun a b => b ≤ a) := by
    intro v X
    induction X with
    | nil => intro _; simp [insRev]
    | cons x t ih =>
      intro h
      rw [List.pairwise_cons] at h
      cases hl : ltI v x
      · rw [insRev_no hl, List.pairwise_cons, List.pairwise_cons]
        have hxv : x ≤ v := by simp [ltI] at hl; exact hl
        refine ⟨?_, h.1, h.2⟩
        intro y hy
        rcases List.mem_cons.1 hy with rfl | hy
        · exact hxv
        · have := h.1 y hy; omega
      · rw [insRev_yes hl, List.pairwise_cons]
        have hvx : v < x := by simpa [ltI] using hl
        refine ⟨?_, ih h.2⟩
        intro y hy
        rcases insRev_mem.1 hy with rfl | hy
        · omega
        · exact h.1 y hy
  intro L
  induction L with
  | nil => intro R h; exact h
  | cons v t ih => intro R h; exact ih _ (ins v R h)
theorem isort_le (D : List Int) : (isort ltI D).Pairwise (fun a b => a ≤ b) := by
  unfold isort
  rw [List.pairwise_reverse]
  exact isRev_le D [] List.Pairwise.nil
theorem freeL_le (C B : List Int) (m : Nat) : (freeL C B m).Pairwise (fun a b => a ≤ b) := by
  unfold freeL
  rw [List.pairwise_map]
  have h : (List.range B.length).Pairwise (fun a b => a < b) := List.pairwise_lt_range
  exact (h.filter _).imp fun {a b} hab => by omega
theorem take_filter {C B : List Int} {m : Nat} (hm : m ≤ B.length) : (rkList C B).filter (fun a => decide (place C B a.toNat < m)) = (rkList C B).take m := by
  have hpl : ∀ (j : Nat) (x : Int), (rkList C B)[j]? = some x → place C B x.toNat = j := by
    intro j x hx
    obtain ⟨i, rfl, hi⟩ := rkList_mem.1 (List.mem_of_getElem? hx)
    rw [Int.toNat_natCast]
    exact (place_at hx).1
  conv => lhs; rw [← List.take_append_drop m (rkList C B)]
  rw [List.filter_append]
  have h1 : ((rkList C B).take m).filter (fun a => decide (place C B a.toNat < m)) = (rkList C B).take m := by
    rw [List.filter_eq_self]
    intro x hx
    obtain ⟨j, hj, e⟩ := List.getElem_of_mem hx
    have hjm : j < m := by
      have h0 := hj
      rw [List.length_take] at h0
      omega
    have hq : (rkList C B)[j]? = some x := by
      have : ((rkList C B).take m)[j]? = some x := by rw [List.getElem?_eq_getElem hj, e]
      rwa [List.getElem?_take_of_lt hjm] at this
    simp [hpl j x hq, hjm]
  have h2 : ((rkList C B).drop m).filter (fun a => decide (place C B a.toNat < m)) = [] := by
    rw [List.filter_eq_nil_iff]
    intro x hx
    obtain ⟨j, hj, e⟩ := List.getElem_of_mem hx
    have hq : (rkList C B)[m + j]? = some x := by
      have : ((rkList C B).drop m)[j]? = some x := by rw [List.getElem?_eq_getElem hj, e]
      rwa [List.getElem?_drop] at this
    simp [hpl _ x hq]
  rw [h1, h2, List.append_nil]
theorem free_sorted {C B : List Int} {m : Nat} (hm : m ≤ B.length) : isort ltI ((rkList C B).take m) = freeL C B m := by
  refine List.Perm.eq_of_pairwise (le := fun a b => a ≤ b) ?_ (isort_le _) (freeL_le C B m) ?_
  · intro a b _ _ h1 h2; omega
  · have h1 := isort_perm ltI ((rkList C B).take m)
    have h2 := (rkList_perm C B).filter (fun a => decide (place C B a.toNat < m))
    rw [take_filter hm] at h2
    refine h1.trans (h2.trans ?_)
    unfold iota freeL
    rw [List.filter_map]
    exact List.Perm.of_eq (by congr 1)
end Go.Proofs.Ytjgobpejifhphaa
end

section
/-! Plain law: the numbers of Give. -/
namespace Go.Proofs.Ytjgobpejifhphaa
set_option linter.unusedVariables false

def outOf (x : Int) : Bool := decide (x < -1000000) || decide (1000000 < x)
def gvE (C B : List Int) (m : Int) : Int := if pcE C B m ≠ 0 then pcE C B m else if (aftL C B m.toNat).any outOf then 16 else 0
def gvF (C B : List Int) (m : Int) : List Int := if gvE C B m = 0 then freeL C B m.toNat else []
def gvA (C B : List Int) (m : Int) : List Int := if gvE C B m = 0 then aftL C B m.toNat else []
theorem gvE_pc {C B : List Int} {m : Int} (h : pcE C B m ≠ 0) : gvE C B m = pcE C B m := by rw [gvE, if_pos h]
theorem gvE_out {C B : List Int} {m : Nat} (h : pcE C B m = 0) (h2 : (aftL C B m).any outOf = true) : gvE C B m = 16 := by
  rw [gvE, if_neg (by simp [h]), Int.toNat_natCast, if_pos h2]
theorem gvE_ok {C B : List Int} {m : Nat} (h : pcE C B m = 0) (h2 : (aftL C B m).any outOf = false) : gvE C B m = 0 := by
  rw [gvE, if_neg (by simp [h]), Int.toNat_natCast, h2]; rfl
theorem aftL_length (C B : List Int) (m : Nat) : (aftL C B m).length = B.length := by simp [aftL]
theorem freeL_length {C B : List Int} {m : Nat} (hm : m ≤ B.length) : (freeL C B m).length = m := by
  rw [← free_sorted hm, isort_length]
  simp [rkList_length]; omega
theorem any_out {L : List Int} (h : 1 ≤ L.length) : L.any outOf = (decide (minL L < -1000000) || decide (1000000 < maxL L)) := by
  rw [Bool.eq_iff_iff]
  simp only [List.any_eq_true, outOf, Bool.or_eq_true, decide_eq_true_eq, minL_lt h, maxL_lt h]
  constructor
  · rintro ⟨x, hx, h1 | h1⟩
    · exact .inl ⟨x, hx, h1⟩
    · exact .inr ⟨x, hx, h1⟩
  · rintro (⟨x, hx, h1⟩ | ⟨x, hx, h1⟩)
    · exact ⟨x, hx, .inl h1⟩
    · exact ⟨x, hx, .inr h1⟩
/-- what is paid out to each, and what is left -/
theorem gQR {C B : List Int} {m : Nat} (hC : 1 ≤ C.length) (hC2 : C.length ≤ 12) (hm : m ≤ C.length) (h0 : 0 ≤ prOf C B m) (h1 : prOf C B m ≤ 1000000) :
    0 ≤ prOf C B m * m ∧ prOf C B m * m ≤ 12000000 ∧ 0 ≤ gQ C B m ∧ gQ C B m ≤ 12000000 ∧ 0 ≤ gR C B m ∧ gR C B m < C.length
    ∧ (prOf C B m * m).tdiv C.length = gQ C B m ∧ (prOf C B m * m).tmod C.length = gR C B m := by
  have a1 : 0 ≤ prOf C B m * m := Int.mul_nonneg h0 (by omega)
  have a2 : prOf C B m * m ≤ 12000000 := by
    have : prOf C B m * m ≤ 1000000 * 12 := Int.mul_le_mul h1 (by omega) (by omega) (by omega)
    omega
  unfold gQ gR
  have b1 := Int.ediv_nonneg a1 (show (0 : Int) ≤ C.length by omega)
  have b2 := Int.ediv_le_self (C.length : Int) a1
  exact ⟨a1, a2, b1, by omega, Int.emod_nonneg _ (by omega), Int.emod_lt_of_pos _ (by omega), Int.tdiv_eq_ediv_of_nonneg a1, Int.tmod_eq_emod_of_nonneg a1⟩
theorem paid_bd {C B : List Int} {m i : Nat} (hC : ∀ x ∈ C, -1000000 ≤ x ∧ x ≤ 1000000) (h0 : 0 ≤ prOf C B m) (h1 : prOf C B m ≤ 1000000) : -2000000 ≤ paid C B m i ∧ paid C B m i ≤ 1000000 := by
  unfold paid
  have : -1000000 ≤ C.getD i 0 ∧ C.getD i 0 ≤ 1000000 := by
    rcases Nat.lt_or_ge i C.length with h | h
    · have := hC _ (List.getElem_mem h)
      simpa [List.getD, h] using this
    · simp [List.getD, List.getElem?_eq_none h]
  split <;> omega
theorem after_bd {C B : List Int} {m i : Nat} (hp : -2000000 ≤ paid C B m i ∧ paid C B m i ≤ 1000000) (h0 : 0 ≤ gQ C B m) (h1 : gQ C B m ≤ 12000000) : -2000000 ≤ after C B m i ∧ after C B m i ≤ 13000001 := by
  unfold after extra
  split <;> omega
theorem aftL_i64 {C B : List Int} {m : Nat} (hp : ∀ i, -2000000 ≤ paid C B m i ∧ paid C B m i ≤ 1000000) (h0 : 0 ≤ gQ C B m) (h1 : gQ C B m ≤ 12000000) : ∀ x ∈ aftL C B m, -9223372036854775808 ≤ x ∧ x ≤ 9223372036854775807 := by
  intro x hx
  simp only [aftL, List.mem_map] at hx
  obtain ⟨i, _, rfl⟩ := hx
  have := after_bd (hp i) h0 h1
  omega
theorem freeL_i64 {C B : List Int} {m : Nat} (h : B.length ≤ 40) : ∀ x ∈ freeL C B m, -9223372036854775808 ≤ x ∧ x ≤ 9223372036854775807 := by
  intro x hx
  simp only [freeL, List.mem_map, List.mem_filter, List.mem_range] at hx
  obtain ⟨i, ⟨hi, _⟩, rfl⟩ := hx
  omega
/-- the clone, before any place is paid, and behind the last -/
theorem sel_paid {C B : List Int} {m : Nat} (hl : C.length = B.length) : sel C B 0 (fun i => C.getD i 0) (fun i => C.getD i 0 - prOf C B m) = C
    ∧ sel C B m (fun i => C.getD i 0) (fun i => C.getD i 0 - prOf C B m) = sel C B 0 (paid C B m) (after C B m) := by
  refine ⟨by rw [sel_zero]; exact (list_range hl).symm, sel_congr fun i hi => ?_⟩
  unfold paid
  split <;> omega
theorem sel_aft (C B : List Int) (m : Nat) : sel C B B.length (paid C B m) (after C B m) = aftL C B m := sel_all _ _ _ _
end Go.Proofs.Ytjgobpejifhphaa
end

section
/-! The walk of holiday's Give. -/
namespace Go.Proofs.Ytjgobpejifhphaa
open Go.RowKit Go.Deep
set_option linter.unusedVariables false
set_option maxRecDepth 100000

/-- the results (who has a place, the credits, an error), in the world behind the call -/
def GiveRes (w : World) (P Q : List Int) (c : Int) (e : Ending) (w' : World) : Prop :=
  ∃ A cap A' cap', e = .returned (.tuple #[.slice A P.length cap, .slice A' Q.length cap', .int .i64 c]) ∧ Rd w' w'.heap.size A P ∧ Rd w' w'.heap.size A' Q ∧ Below w.heap.size w w'

/-- the same, and both lists lie in new blocks -/
def GiveResX (w : World) (P Q : List Int) (c : Int) (e : Ending) (w' : World) : Prop :=
  ∃ A cap A' cap', e = .returned (.tuple #[.slice A P.length cap, .slice A' Q.length cap', .int .i64 c]) ∧ Rd w' w'.heap.size A P ∧ Rd w' w'.heap.size A' Q ∧ Below w.heap.size w w'
    ∧ (∀ p, A = some p → w.heap.size ≤ p.block) ∧ (∀ p, A' = some p → w.heap.size ≤ p.block)
theorem GiveResX.res {w : World} {P Q : List Int} {c : Int} {e : Ending} {w' : World} (h : GiveResX w P Q c e w') : GiveRes w P Q c e w' := by
  obtain ⟨A, cap, A', cap', h1, h2, h3, h4, _⟩ := h
  exact ⟨A, cap, A', cap', h1, h2, h3, h4⟩
theorem noFresh (w : World) : (∀ p : Addr, (none : Option Addr) = some p → w.heap.size ≤ p.block) := fun p hp => by cases hp

theorem Rd.far {w : World} {B : Nat} {A : Option Addr} {L : List Int} (h : Rd w B A L) {q : Addr} (hq : ∀ p, A = some p → p.block ≠ q.block) (u : Value) : Rd (w.setCell q u) B A L :=
  ⟨h.1, h.2.1, fun hn => by
    obtain ⟨b, off, e, hb, hc⟩ := h.2.2 hn
    refine ⟨b, off, e, hb, fun i x hx => ?_⟩
    have hne := hq _ e
    rw [← hc i x hx]
    exact World.cell?_of_block (w := w) (Below.heap_setCell _ _ _ _ hne)⟩
/-- the list of those with a place is sorted -/
theorem sortAny {w : World} {base : Nat} {v : Value} {C B : List Int} {m : Nat} (ho : w.ownsRow base 3 1 v m (((rkList C B).take m).map (Value.int .i64))) (hm : m ≤ B.length) (hB : B.length ≤ 12) :
    ∃ A c, v = .slice A m c ∧ (∀ p, A = some p → base ≤ p.block) ∧ Calls Try.prog 63 #[.slice A m c] w
      fun e w' => e = .returned (.tuple #[]) ∧ Rd w' w'.heap.size A (freeL C B m) ∧ Below base w w' := by
  have hlen : ((rkList C B).take m).length = m := by rw [List.length_take, rkList_length]; omega
  have hfl := freeL_length (C := C) hm
  by_cases h0 : m = 0
  · subst h0
    have hf : freeL C B 0 = [] := List.length_eq_zero_iff.1 hfl
    have hs : ∃ A c, v = .slice A 0 c ∧ (∀ p, A = some p → base ≤ p.block) := by
      rcases ho.2 with ⟨e, _⟩ | ⟨g, cap, cur, e, hb, _⟩
      · exact ⟨none, 0, e, by intro p h; cases h⟩
      · exact ⟨_, cap, e, by intro p h; cases h; exact hb⟩
    obtain ⟨A, c, e, hA⟩ := hs
    refine ⟨A, c, e, hA, sortNone.mono ?_⟩
    rintro e w' ⟨rfl, rfl⟩
    exact ⟨rfl, by rw [hf]; exact Rd.nil _ _ _, Below.refl _ _⟩
  · have ho' : w.ownsRow base 3 1 v ((rkList C B).take m).length (((rkList C B).take m).map (Value.int .i64)) := by rw [hlen]; exact ho
    obtain ⟨g, c, e, hg, hP⟩ := ownP_of_row ho' (by omega)
    rw [hlen] at e
    have CS := sortInts (cap := c) hP (by omega) (by omega)
    rw [hlen, free_sorted hm] at CS
    refine ⟨_, c, e, by intro p h; cases h; exact hg, CS.mono ?_⟩
    rintro e w' ⟨rfl, hO, hb⟩
    exact ⟨rfl, hO.rd (freeL_i64 (by omega)) (by omega) hO.lt, hb.mono hg⟩

theorem getD_bd {C : List Int} {i : Nat} (h : i < C.length) (hC : ∀ x ∈ C, -1000000 ≤ x ∧ x ≤ 1000000) : -1000000 ≤ C.getD i 0 ∧ C.getD i 0 ≤ 1000000 := by
  have := hC _ (List.getElem_mem h)
  simpa [List.getD, h] using this

set_option maxRecDepth 100000 in
set_option maxHeartbeats 1000000 in
theorem hGiveX {w : World} {B C : Nat} {A A' : Option Addr} {L O : List Int} {cap cap' : Nat} (h : Rd w B A L) (h' : Rd w C A' O) (hB : B ≤ w.heap.size) (hC : C ≤ w.heap.size) (m : Int) :
    Calls Try.prog 35 #[.slice A L.length cap, .slice A' O.length cap', .int .i64 m] w (GiveResX w (gvF L O m) (gvA L O m) (gvE L O m)) := by
  have C1 := hPrice (cap := cap) (cap' := cap') h h' hB hC m
  by_cases he : pcE L O m = 0
  · obtain ⟨hl, g0, g1⟩ := pcE_zero he
    obtain ⟨m, rfl⟩ := Int.eq_ofNat_of_zero_le g0
    have hV := hlk_ok hl
    have hn := hV.v.one
    have hn2 := hV.v.twelve
    have hlen := hV.len
    have hml : m ≤ L.length := by omega
    have hpb := prOf_bd (C := L) (B := O) (m := m) hV.bd (by omega) (by omega)
    have hqr := gQR (C := L) (B := O) (m := m) hn hn2 hml hpb.1 hpb.2
    rw [pcV, if_pos he, he] at C1
    have HR := Lib.hid (fun (u : World) (hu : Below w.heap.size w u) => And.intro ((h.more hB).below hu (Nat.le_refl _)) ((h'.more hC).below hu (Nat.le_refl _)))
    have HE := Lib.hid he
    have HV := Lib.hid hV
    have HPB := Lib.hid hpb
    have HQR := Lib.hid hqr
    have HLEN := Lib.hid hlen
    have hm2 : m ≤ O.length := by omega
    have ho1 : 1 ≤ O.length := by omega
    have ho2 : O.length ≤ 12 := by omega
    clear h h' hB hC he hl g0 g1 hV hpb hqr hlen
    obtain ⟨i0, hi, hz0, hz1, hz2⟩ := info_parts infoInt'
    have HI := Lib.hid hi
    clear hi
    go_enter Try.func35, Try.ntmps35
    go_wp2_with fail
    refine C1.mono ?_
    rintro e w1 ⟨rfl, hb1⟩
    clear C1
    have HB1 := Lib.hid hb1
    clear hb1
    have H1 := HR.out w1 HB1.out
    have C2 := rankX (cap1 := cap) (cap2 := cap') H1.1 H1.2 HB1.out.size HLEN.out (by omega) (by omega)
    go_wp2_with fail
    refine C2.mono ?_
    rintro e w2 ⟨gl, rfl, hgl, hP, hb2⟩
    rw [rkList_length]
    clear C2 H1
    have HB2 := Lib.hid (HB1.out.trans (hb2.mono HB1.out.size))
    have hrd := rk_rd hP (by omega)
    have hgl2 := hP.lt
    have HRK := Lib.hid (fun (u : World) (hu : Below w2.heap.size w2 u) => hrd.below hu (Nat.le_refl _))
    have HGL := Lib.hid hgl2
    clear hb2 hP hrd hgl hgl2
    have H2 := HR.out w2 HB2.out
    have C3 := clone (cap := cap) H2.1 HB2.out.size (by omega)
    go_wp2_with fail
    refine C3.mono ?_
    rintro e w3 ⟨g, cg, rfl, hg, hP3, hb3⟩
    clear C3 H2
    have HB3 := Lib.hid (HB2.out.trans (hb3.mono HB2.out.size))
    have HB23 := Lib.hid hb3
    have HP3 := Lib.hid hP3
    have HG := Lib.hid hg
    have HG3 := Lib.hid hP3.lt
    clear hb3 hP3 hg
    go_wp2
    have hsp := sel_paid (C := L) (B := O) (m := m) HLEN.out.symm
    have HSP := Lib.hid hsp
    have hst : OwnP w3 g 3 (sel L O 0 (fun i => L.getD i 0) (fun i => L.getD i 0 - prOf L O m)) := by rw [hsp.1]; exact HP3.out
    have HST := Lib.hid hst
    clear hsp hst
    go_loopw [6, 36] (fun f i wr => ∃ k : Nat, k ≤ m ∧ i = .int .i64 k ∧ Hid (wr.ownsRow w3.heap.size 3 1 f k (((rkList L O).take k).map (Value.int .i64)))
      ∧ Hid (OwnP wr g 3 (sel L O k (fun i => L.getD i 0) (fun i => L.getD i 0 - prOf L O m))) ∧ Hid (Below w2.heap.size w2 wr) ∧ Hid (w3.heap.size ≤ wr.heap.size)) (fun _ i _ => m - (intOf i).toNat)
    case atStart => exact ⟨0, by omega, rfl, Lib.hid (own_row_nil _ _ _), HST, HB23, Lib.hid (Nat.le_refl _)⟩
    case round =>
      obtain ⟨k, hk, rfl, ho, hp, hb, hsz⟩ := hrel
      by_cases hlt : k < m
      · obtain ⟨a, ha, hal, hpl⟩ := rk_nat (C := L) (B := O) (k := k) (by omega)
        obtain ⟨b, off, e1, hbb, hcc⟩ := (HRK.out wr hb.out).2.2 (by rw [rkList_length]; omega)
        cases e1
        have ck := hcc k a ha
        simp only [Nat.zero_add] at ck
        have hx := getD_bd (i := a) (by have := HLEN.out; omega) HV.out.v.bd
        have hcur := sel_cur (C := L) (B := O) (k := k) (old := fun i => L.getD i 0) (new := fun i => L.getD i 0 - prOf L O m) hal hpl
        have hnx := sel_set (C := L) (B := O) (k := k) (old := fun i => L.getD i 0) (new := fun i => L.getD i 0 - prOf L O m) hal hpl
        have htk : (rkList L O).take (k + 1) = (rkList L O).take k ++ [(a : Int)] := by rw [List.take_add_one, ha]; rfl
        have HA := Lib.hid ha
        have HCU := Lib.hid hcur
        have HNX := Lib.hid hnx
        have HTK := Lib.hid htk
        have HCK := Lib.hid hcc
        have hpb := HPB.out
        clear ha hcur hnx htk hcc hpl
        generalize hxx : L.getD a 0 = x at *
        have HXX := Lib.hid hxx
        clear hxx
        have hwz : Hid ((wr.alloc (.cells #[.int .i64 a] 3)).heap.size = wr.heap.size + 1) := Lib.hid (by simp)
        have hoz := Lib.hid (ho.out.alloc (.cells #[.int .i64 a] 3))
        have hpz := Lib.hid (hp.out.alloc (.cells #[.int .i64 a] 3))
        have hbz := Lib.hid (hb.out.alloc (Nat.le_trans HB23.out.size hsz.out) (.cells #[.int .i64 a] 3))
        have hcz : Hid (∀ (j : Nat) (u : Value), ([(Value.int .i64 a)])[j]? = some u → (wr.alloc (.cells #[.int .i64 a] 3)).cell? ((⟨wr.heap.size, 0, none⟩ : Addr).add j) = some u) := Lib.hid (by
          intro j u hu
          rw [addr_add]
          cases j with
          | zero => simp at hu; subst hu; simp
          | succ j => simp at hu)
        generalize hgw : wr.alloc (.cells #[.int .i64 a] 3) = wa at *
        have HGW := Lib.hid hgw
        clear hgw
        have hgw := HGW.out
        go_wp2_with (at_builtin; refine wpList_append_own _ rfl _ _ 22 rfl w3.heap.size 3 i0 (.int .i64 0) 1 8 Try.underlying22 HI.out hz0 hz1 hz2 rfl (by decide) _ k _ rfl hoz.out ⟨wr.heap.size, 0, none⟩ 1 1 [.int .i64 a] rfl (by simp) hcz.out (by simp [Value.oneCell']) (by unfold maxLen; omega) (by omega) (by rw [hwz.out]; have := hsz.out; omega) ?_)
        intro v' w5 hown hgrow _
        have hb5 : Below w3.heap.size wa w5 := (Below.refl _ wa).grown hgrow (by rw [hwz.out]; have := hsz.out; omega) (fun q hq => (hoz.out.lt q hq).1)
        have hp5 := hpz.out.below hb5 HG3.out
        have c5 := hp5.cell HCU.out
        have f5 := hp5.frozen a
        have hp6 := Lib.hid (hp5.store a (x - prOf L O m))
        have ho6 := Lib.hid (ownsRow_setCell_below hown (a := ⟨g, a, none⟩) HG3.out (.int .i64 (x - prOf L O m)))
        have hb6 := Lib.hid ((hbz.out.trans (hb5.mono HB23.out.size)).setCell (p := ⟨g, a, none⟩) HG.out (.int .i64 (x - prOf L O m)))
        have hs6 : Hid (w3.heap.size ≤ (w5.setCell ⟨g, a, none⟩ (.int .i64 (x - prOf L O m))).heap.size) := Lib.hid (by
          have := hb5.size
          have := hwz.out
          have := hsz.out
          simp only [World.size_setCell]
          omega)
        rw [HNX.out] at hp6
        have hlist : (((rkList L O).take k).map (Value.int .i64) ++ [.int .i64 (a : Int)]) = ((rkList L O).take (k + 1)).map (Value.int .i64) := by rw [HTK.out]; simp
        have HLI := Lib.hid hlist
        have hk1 : a < L.length := by have := HLEN.out; omega
        clear hown hgrow hb5 hp5 hlist hgw ho hp hb hoz hpz hbz hcz ck
        go_wp2
        go_roundw
        case rel =>
          exact ⟨k + 1, by omega, by go_num, Lib.hid (by rw [← HLI.out]; simpa using ho6.out), hp6, hb6, hs6⟩
        case measure => simp [intOf]; omega
      · obtain rfl : k = m := by omega
        obtain ⟨fa, fc, rfl, hfa, CS⟩ := sortAny ho.out hm2 ho2
        have hp0 := hp.out
        rw [HSP.out.2] at hp0
        have HP0 := Lib.hid hp0
        have HFA := Lib.hid hfa
        clear hp0 hp ho hfa HST HP3
        go_wp2_with fail
        refine CS.mono ?_
        rintro e w5 ⟨rfl, hrf, hb5⟩
        have HRF := Lib.hid hrf
        have HP5 := Lib.hid (HP0.out.below hb5 HG3.out)
        have HB5 := Lib.hid (hb.out.trans (hb5.mono HB23.out.size))
        clear CS hrf hb5 HP0 hb hsz
        go_wp2_with fail
        have hqr := HQR.out
        rw [← HLEN.out] at hqr
        have HQ2 := Lib.hid hqr
        clear HQR hqr
        have d0 : ((O.length : Int) == 0) = false := beq_eq_false_iff_ne.2 (by omega)
        have d1 : (O.length == 0) = false := beq_eq_false_iff_ne.2 (by omega)
        have e1 : IntKind.i64.wrap (prOf L O k * k) = prOf L O k * k := IntWalk.i64_in _ (by have := HQ2.out.1; have := HQ2.out.2.1; omega)
        have e2 := HQ2.out.2.2.2.2.2.2.1
        have e3 := HQ2.out.2.2.2.2.2.2.2
        have e4 : IntKind.i64.wrap (gQ L O k) = gQ L O k := IntWalk.i64_in _ (by have := HQ2.out.2.2.1; have := HQ2.out.2.2.2.1; omega)
        have e5 : IntKind.i64.wrap (gR L O k) = gR L O k := IntWalk.i64_in _ (by have := HQ2.out.2.2.2.2.1; have := HQ2.out.2.2.2.2.2.1; omega)
        go_quiet (fail)
        clear d0 d1 e1 e2 e3 e4 e5
        have HB6 : Hid (Below w2.heap.size w2 (w5.drewN nq)) := Lib.hid (below_drewN HB5.out _)
        have HP6 : Hid (OwnP (w5.drewN nq) g 3 (sel L O 0 (paid L O k) (after L O k))) := Lib.hid (HP5.out.drewN nq)
        have HRF6 : Hid (Rd (w5.drewN nq) (w5.drewN nq).heap.size fa (freeL L O k)) := Lib.hid HRF.out
        clear HB5 HP5 HRF
        generalize w5.drewN nq = w6 at *
        go_wp2
        go_loopw [68] (fun i wr => ∃ j : Nat, j ≤ O.length ∧ i = .int .i64 j ∧ Hid (OwnP wr g 3 (sel L O j (paid L O k) (after L O k)))
          ∧ Hid (Below w2.heap.size w2 wr) ∧ Hid (Rd wr wr.heap.size fa (freeL L O k))) (fun i _ => O.length - (intOf i).toNat)
        case atStart => exact ⟨0, by omega, rfl, HP6, HB6, HRF6⟩
        case round =>
          clear HP6 HB6 HRF6
          obtain ⟨j, hj, rfl, hp, hb, hf⟩ := hrel
          by_cases hjl : j < O.length
          · obtain ⟨a, ha, hal, hpl⟩ := rk_nat (C := L) (B := O) (k := j) hjl
            obtain ⟨b, off, e1, hbb, hcc⟩ := (HRK.out wr hb.out).2.2 (by rw [rkList_length]; omega)
            cases e1
            have ck := hcc j a ha
            simp only [Nat.zero_add] at ck
            have hpd := paid_bd (C := L) (B := O) (m := k) (i := a) HV.out.v.bd HPB.out.1 HPB.out.2
            have hcur := hp.out.cell (sel_cur (C := L) (B := O) (k := j) (old := paid L O k) (new := after L O k) hal hpl)
            have hfr := hp.out.frozen a
            have hnx := sel_set (C := L) (B := O) (k := j) (old := paid L O k) (new := after L O k) hal hpl
            have hal2 : a < L.length := by have := HLEN.out; omega
            have hq0 := HQ2.out.2.2.1
            have hq1 := HQ2.out.2.2.2.1
            have hr0 := HQ2.out.2.2.2.2.1
            have hr1 := HQ2.out.2.2.2.2.2.1
            by_cases hx : (O.length : Int) - gR L O k ≤ j
            · have haf : after L O k a = paid L O k a + gQ L O k + 1 := by
                unfold after extra
                rw [if_pos (by have := HLEN.out; omega)]
              have hst1 := hp.out.store a (paid L O k a + gQ L O k)
              have c2 := hst1.cell (i := a) (x := paid L O k a + gQ L O k) (by rw [List.getElem?_set_self (by rw [sel_length]; exact hal)])
              have f2 := hst1.frozen a
              have hst := hst1.store a (paid L O k a + gQ L O k + 1)
              rw [List.set_set, ← haf, hnx] at hst
              have HST2 := Lib.hid hst
              have HB2' := Lib.hid ((hb.out.setCell (p := ⟨g, a, none⟩) HG.out (.int .i64 (paid L O k a + gQ L O k))).setCell (p := ⟨g, a, none⟩) HG.out (.int .i64 (after L O k a)))
              have hfar : ∀ p, fa = some p → p.block ≠ (⟨g, a, none⟩ : Addr).block := fun p hp => by have := HFA.out p hp; have := HG3.out; show p.block ≠ g; omega
              have HF2 := Lib.hid ((hf.out.far hfar (.int .i64 (paid L O k a + gQ L O k))).far hfar (.int .i64 (after L O k a)))
              rw [haf] at HST2 HB2' HF2
              clear hst1 hst hnx ha hcc hp hb hf haf hpl
              go_wp2
              go_roundw
              case rel => exact ⟨j + 1, by omega, by go_num, HST2, HB2', by simpa only [World.size_setCell] using HF2⟩
              case measure => simp [intOf]; omega
            · have haf : after L O k a = paid L O k a + gQ L O k := by
                unfold after extra
                rw [if_neg (by have := HLEN.out; omega)]
                omega
              have hst := hp.out.store a (paid L O k a + gQ L O k)
              rw [← haf, hnx] at hst
              have HST2 := Lib.hid hst
              have HB2' := Lib.hid (hb.out.setCell (p := ⟨g, a, none⟩) HG.out (.int .i64 (after L O k a)))
              have hfar : ∀ p, fa = some p → p.block ≠ (⟨g, a, none⟩ : Addr).block := fun p hp => by have := HFA.out p hp; have := HG3.out; show p.block ≠ g; omega
              have HF2 := Lib.hid (hf.out.far hfar (.int .i64 (after L O k a)))
              rw [haf] at HST2 HB2' HF2
              clear hst hnx ha hcc hp hb hf haf hpl
              go_wp2
              go_roundw
              case rel => exact ⟨j + 1, by omega, by go_num, HST2, HB2', by simpa only [World.size_setCell] using HF2⟩
              case measure => simp [intOf]; omega
          · obtain rfl : j = O.length := by omega
            have hpp := hp.out
            rw [sel_aft] at hpp
            have hal := aftL_length L O k
            have hpd := fun i => paid_bd (C := L) (B := O) (m := k) (i := i) HV.out.v.bd HPB.out.1 HPB.out.2
            have hrd : Rd wr wr.heap.size (some ⟨g, 0, none⟩) (aftL L O k) := hpp.rd (aftL_i64 hpd HQ2.out.2.2.1 HQ2.out.2.2.2.1) (by omega) hpp.lt
            have CMin := minW (cap := cg) hrd (by omega)
            have CMax := maxW (cap := cg) hrd (by omega)
            rw [hal, HLEN.out] at CMin CMax
            have hout := any_out (L := aftL L O k) (by omega)
            have HRD := Lib.hid hrd
            have hfl := freeL_length (C := L) hm2
            have HB0 := Lib.hid (HB2.out.trans (hb.out.mono HB2.out.size))
            cases hbad : (aftL L O k).any outOf
            · have hE := gvE_ok HE.out hbad
              rw [hbad] at hout
              have hF : gvF L O k = freeL L O k := by rw [gvF, if_pos hE, Int.toNat_natCast]
              have hA : gvA L O k = aftL L O k := by rw [gvA, if_pos hE, Int.toNat_natCast]
              have o1 : ¬ minL (aftL L O k) < -1000000 := by intro h; simp [h] at hout
              have o2 : ¬ 1000000 < maxL (aftL L O k) := by intro h; simp [h] at hout
              clear hout hpp hrd hp hb hpd
              go_wp2_with (first | (go_at_call 64; refine CMin.mono ?_; rintro e w7 ⟨rfl, rfl⟩) | (go_at_call 65; refine CMax.mono ?_; rintro e w7 ⟨rfl, rfl⟩))
              go_ret3
              rw [hE, hF, hA]
              exact ⟨fa, fc, some ⟨g, 0, none⟩, cg, by rw [hfl, hal.trans HLEN.out]; rfl, hf.out, HRD.out, HB0.out, fun p hp => Nat.le_trans (Nat.le_trans HB2.out.size HB23.out.size) (HFA.out p hp), fun p hp => by cases hp; exact Nat.le_trans HB2.out.size HG.out⟩
            · have hE := gvE_out HE.out hbad
              rw [hbad] at hout
              have hF : gvF L O k = [] := by rw [gvF, hE, if_neg (by decide)]
              have hA : gvA L O k = [] := by rw [gvA, hE, if_neg (by decide)]
              clear hpp hrd hp hb hpd
              by_cases o1 : minL (aftL L O k) < -1000000
              · clear hout
                go_wp2_with (first | (go_at_call 64; refine CMin.mono ?_; rintro e w7 ⟨rfl, rfl⟩) | (go_at_call 65; refine CMax.mono ?_; rintro e w7 ⟨rfl, rfl⟩))
                go_ret3
                rw [hE, hF, hA]
                exact ⟨none, 0, none, 0, rfl, Rd.nil _ _ _, Rd.nil _ _ _, HB0.out, noFresh _, noFresh _⟩
              · have o2 : 1000000 < maxL (aftL L O k) := by
                  rw [eq_comm, Bool.or_eq_true] at hout
                  rcases hout with h | h
                  · exact absurd (of_decide_eq_true h) o1
                  · exact of_decide_eq_true h
                clear hout
                go_wp2_with (first | (go_at_call 64; refine CMin.mono ?_; rintro e w7 ⟨rfl, rfl⟩) | (go_at_call 65; refine CMax.mono ?_; rintro e w7 ⟨rfl, rfl⟩))
                go_ret3
                rw [hE, hF, hA]
                exact ⟨none, 0, none, 0, rfl, Rd.nil _ _ _, Rd.nil _ _ _, HB0.out, noFresh _, noFresh _⟩
  · have hE := gvE_pc he
    rw [pcV, if_neg he] at C1
    have hF : gvF L O m = [] := by rw [gvF, hE, if_neg he]
    have hA : gvA L O m = [] := by rw [gvA, hE, if_neg he]
    rw [hE, hF, hA]
    have hb : (pcE L O m != 0) = true := by simpa using he
    clear he h h' hE hF hA
    generalize pcE L O m = c at *
    go_enter Try.func35, Try.ntmps35
    go_wp2_with fail
    refine C1.mono ?_
    rintro e w1 ⟨rfl, hb1⟩
    go_wp2
    go_ret3
    exact ⟨none, 0, none, 0, rfl, Rd.nil _ _ _, Rd.nil _ _ _, hb1, noFresh _, noFresh _⟩
theorem hGive {w : World} {B C : Nat} {A A' : Option Addr} {L O : List Int} {cap cap' : Nat} (h : Rd w B A L) (h' : Rd w C A' O) (hB : B ≤ w.heap.size) (hC : C ≤ w.heap.size) (m : Int) :
    Calls Try.prog 35 #[.slice A L.length cap, .slice A' O.length cap', .int .i64 m] w (GiveRes w (gvF L O m) (gvA L O m) (gvE L O m)) :=
  (hGiveX h h' hB hC m).mono fun _ _ h => h.res
end Go.Proofs.Ytjgobpejifhphaa
end

section
/-! Plain law: the lists of the reference's Give as they grow. -/
namespace Go.Proofs.Ytjgobpejifhphaa
open Go.RowKit
set_option linter.unusedVariables false

def fK (C B : List Int) (m k : Nat) : List Int := ((List.range k).filter fun i => decide (place C B i < m)).map fun (i : Nat) => (i : Int)
theorem fK_yes {C B : List Int} {m k : Nat} (h : place C B k < m) : fK C B m (k + 1) = fK C B m k ++ [(k : Int)] := by
  unfold fK
  rw [List.range_succ, List.filter_append, List.map_append]
  simp [h]
theorem fK_no {C B : List Int} {m k : Nat} (h : ¬ place C B k < m) : fK C B m (k + 1) = fK C B m k := by
  unfold fK
  rw [List.range_succ, List.filter_append, List.map_append]
  simp [h]
theorem fK_all (C B : List Int) (m : Nat) : fK C B m B.length = freeL C B m := rfl
theorem fK_len (C B : List Int) (m k : Nat) : (fK C B m k).length ≤ k := by
  unfold fK
  rw [List.length_map]
  exact Nat.le_trans (List.length_filter_le _ _) (by simp)
def aK (C B : List Int) (m k : Nat) : List Int := (List.range B.length).map fun i => if i < k then after C B m i else C.getD i 0
theorem aK_length (C B : List Int) (m k : Nat) : (aK C B m k).length = B.length := by simp [aK]
theorem aK_get {C B : List Int} {m k i : Nat} (h : i < B.length) : (aK C B m k)[i]? = some (if i < k then after C B m i else C.getD i 0) := by simp [aK, h]
theorem aK_cur {C B : List Int} {m k : Nat} (h : k < B.length) : (aK C B m k)[k]? = some (C.getD k 0) := by rw [aK_get h, if_neg (by omega)]
theorem aK_set {C B : List Int} {m k : Nat} (h : k < B.length) : (aK C B m k).set k (after C B m k) = aK C B m (k + 1) := by
  apply List.ext_getElem?
  intro j
  rcases Nat.lt_or_ge j B.length with hlt | hge
  · by_cases e : j = k
    · subst e
      rw [List.getElem?_set_self (by rw [aK_length]; exact hlt), aK_get hlt, if_pos (by omega)]
    · rw [List.getElem?_set_ne (by omega), aK_get hlt, aK_get hlt]
      by_cases h2 : j < k
      · rw [if_pos h2, if_pos (by omega)]
      · rw [if_neg h2, if_neg (by omega)]
  · rw [List.getElem?_eq_none (by simp [aK_length]; omega), List.getElem?_eq_none (by rw [aK_length]; omega)]
theorem aK_zero {C B : List Int} {m : Nat} (h : C.length = B.length) : aK C B m 0 = C := by
  rw [list_range h]
  unfold aK
  apply List.map_congr_left
  intro i hi
  rw [if_neg (by omega), ← list_range h]
theorem aK_all (C B : List Int) (m : Nat) : aK C B m B.length = aftL C B m := by
  apply List.map_congr_left
  intro i hi
  rw [if_pos (by simpa using hi)]
theorem out_cons {x : Int} {t : List Int} : (x :: t).any outOf = (outOf x || t.any outOf) := rfl
end Go.Proofs.Ytjgobpejifhphaa
end

section
/-! The walk of the reference's Give. (Printed by gen33g.py.) -/
namespace Go.Proofs.Ytjgobpejifhphaa
open Go.RowKit Go.Deep
set_option linter.unusedVariables false
set_option maxRecDepth 100000

set_option maxRecDepth 100000 in
set_option maxHeartbeats 4000000 in
theorem hrGiveX {w : World} {B C : Nat} {A A' : Option Addr} {L O : List Int} {cap cap' : Nat} (h : Rd w B A L) (h' : Rd w C A' O) (hB : B ≤ w.heap.size) (hC : C ≤ w.heap.size) (m : Int) :
    Calls Try.prog 61 #[.slice A L.length cap, .slice A' O.length cap', .int .i64 m] w (GiveResX w (gvF L O m) (gvA L O m) (gvE L O m)) := by
  have CL := hrLooked (cap := cap) (cap' := cap') h h' m
  by_cases he : pcE L O m = 0
  · obtain ⟨hl, g0, g1⟩ := pcE_zero he
    obtain ⟨m, rfl⟩ := Int.eq_ofNat_of_zero_le g0
    have hV := hlk_ok hl
    have hn := hV.v.one
    have hn2 := hV.v.twelve
    have hlen := hV.len
    have hml : m ≤ L.length := by omega
    have hm2 : m ≤ O.length := by omega
    have hpb := prOf_bd (C := L) (B := O) (m := m) hV.bd (by omega) (by omega)
    have hqr := gQR (C := L) (B := O) (m := m) hn hn2 hml hpb.1 hpb.2
    rw [he] at CL
    have CP := hrPriced (cap1 := cap) (cap2 := cap') (h.more hB) (h'.more hC) (Nat.le_refl _) hV hm2
    have CPL : Hid (∀ (u : World) (k : Nat), k < O.length → Below w.heap.size w u → Calls Try.prog 88 #[.slice A L.length cap, .slice A' O.length cap', .int .i64 k] u
        fun e u' => e = .returned (.int .i64 (place L O k)) ∧ Below u.heap.size u u') :=
      Lib.hid fun u k hk hu => placeW ((h.more hB).below hu (Nat.le_refl _)) ((h'.more hC).below hu (Nat.le_refl _)) hu.size hk hlen
    have HR := Lib.hid (fun (u : World) (hu : Below w.heap.size w u) => And.intro ((h.more hB).below hu (Nat.le_refl _)) ((h'.more hC).below hu (Nat.le_refl _)))
    have HE := Lib.hid he
    have HV := Lib.hid hV
    have HPB := Lib.hid hpb
    have HQR := Lib.hid hqr
    have HLEN := Lib.hid hlen
    have ho2 : O.length ≤ 12 := by omega
    clear h h' hB hC he hl g0 g1 hV hpb hqr hlen
    obtain ⟨i0, hi, hz0, hz1, hz2⟩ := info_parts infoInt'
    have HI := Lib.hid hi
    clear hi
    go_enter Try.func61, Try.ntmps61
    go_wp2_with (first | (go_at_call 84; refine CL.mono ?_; rintro e w1 ⟨rfl, rfl⟩) | (go_at_call 85; refine CP.mono ?_; rintro e w1 ⟨rfl, hb1⟩))
    have HB1 := Lib.hid hb1
    clear CL CP hb1
    have d0 : ((L.length : Int) == 0) = false := beq_eq_false_iff_ne.2 (by omega)
    have d1 : (L.length == 0) = false := beq_eq_false_iff_ne.2 (by omega)
    have e1 : IntKind.i64.wrap (prOf L O m * m) = prOf L O m * m := IntWalk.i64_in _ (by have := HQR.out.1; have := HQR.out.2.1; omega)
    have e2 := HQR.out.2.2.2.2.2.2.1
    have e3 := HQR.out.2.2.2.2.2.2.2
    have e4 : IntKind.i64.wrap (gQ L O m) = gQ L O m := IntWalk.i64_in _ (by have := HQR.out.2.2.1; have := HQR.out.2.2.2.1; omega)
    have e5 : IntKind.i64.wrap (gR L O m) = gR L O m := IntWalk.i64_in _ (by have := HQR.out.2.2.2.2.1; have := HQR.out.2.2.2.2.2.1; omega)
    go_quiet (fail)
    clear d0 d1 e1 e2 e3 e4 e5
    have HB1q : Hid (Below w.heap.size w (w1.drewN nq)) := Lib.hid (below_drewN HB1.out _)
    clear HB1
    generalize w1.drewN nq = w2 at *
    have hown0 := Lib.hid (own_empty w2 3)
    have hal := Below.alloc (B := w2.heap.size) (Below.refl _ w2) (Nat.le_refl _) (.cells #[] 3)
    have hsz : (w2.alloc (.cells #[] 3)).heap.size = w2.heap.size + 1 := by simp
    obtain ⟨bb, off, rfl, hbb, hcells⟩ := (((HR.out w2 HB1q.out).1).below hal HB1q.out.size).2.2 (by omega)
    have HCE := Lib.hid (cells_ints hcells)
    have HAL := Lib.hid hal
    have HSZ := Lib.hid hsz
    clear hcells hal hsz
    generalize hw3 : w2.alloc (.cells #[] 3) = w3 at *
    have HW3 := Lib.hid hw3
    clear hw3
    have hx3 : w2.alloc (.cells #[] 3) = w3 := HW3.out
    go_wp2_with (at_builtin; refine wpList_append_own _ rfl _ _ 22 rfl w2.heap.size 3 i0 (.int .i64 0) 1 8 Try.underlying22 HI.out hz0 hz1 hz2 rfl (by decide) _ 0 [] rfl hown0.out ⟨bb, off, none⟩ L.length cap (L.map (Value.int .i64)) rfl (by simp) HCE.out (ints_oneCell _ _) (by unfold maxLen; omega) (by omega) (by rw [HSZ.out]; omega) ?_)
    intro v' w4 hown4 hgrow _
    have hb4 : Below w2.heap.size w2 w4 := HAL.out.grown hgrow (by rw [HSZ.out]; omega) (by intro k hk; simp [Value.ownBlock] at hk; omega)
    obtain ⟨g, cg, hv4, hg, hP⟩ := ownP_of_row hown4 (by omega)
    rw [hv4]
    have HB4 := Lib.hid (HB1q.out.trans (hb4.mono HB1q.out.size))
    have HG := Lib.hid (Nat.le_trans HB1q.out.size hg)
    have hP2 : OwnP w4 g 3 (aK L O m 0) := by rw [aK_zero HLEN.out.symm]; exact hP
    have HP := Lib.hid hP2
    have HG4 := Lib.hid hP.lt
    clear hown4 hgrow hb4 hP hP2 hx3 hv4 HW3 hown0 HAL HCE HSZ hg
    go_wp2
    go_loopw [13, 15] (fun f i wr => ∃ k : Nat, k ≤ O.length ∧ i = .int .i64 k ∧ Hid (wr.ownsRow w4.heap.size 3 1 f (fK L O m k).length ((fK L O m k).map (Value.int .i64)))
      ∧ Hid (OwnP wr g 3 (aK L O m k)) ∧ Hid (Below w.heap.size w wr) ∧ Hid (w4.heap.size ≤ wr.heap.size)) (fun _ i _ => O.length - (intOf i).toNat)
    case atStart => exact ⟨0, by omega, rfl, Lib.hid (own_row_nil _ _ _), HP, HB4, Lib.hid (Nat.le_refl _)⟩
    case round =>
      obtain ⟨k, hk, rfl, ho, hp, hb, hsz⟩ := hrel
      by_cases hlt : k < O.length
      · have HCP := Lib.hid (CPL.out wr k hlt hb.out)
        have hkl : k < L.length := by have := HLEN.out; omega
        go_wp2_with fail
        refine HCP.out.mono ?_
        rintro e wc ⟨rfl, hbc⟩
        have hoc := row_below ho.out hbc
        have hpc := hp.out.below hbc hp.out.lt
        have hBc := hb.out.trans (hbc.mono hb.out.size)
        have hsc : w4.heap.size ≤ wc.heap.size := Nat.le_trans hsz.out hbc.size
        clear HCP ho hp hb hsz hbc
        have hx := getD_bd hkl HV.out.v.bd
        have hpb := HPB.out
        have hq0 := HQR.out.2.2.1
        have hq1 := HQR.out.2.2.2.1
        have hr0 := HQR.out.2.2.2.2.1
        have hr1 := HQR.out.2.2.2.2.2.1
        have hll := HLEN.out
        have hc1 := hpc.cell (aK_cur hlt)
        generalize hxx : L.getD k 0 = x at *
        have HXX := Lib.hid hxx
        clear hxx
        have hf1 := hpc.frozen k
        have hset := aK_set (C := L) (m := m) hlt
        have hP1 := hpc.store k (x + gQ L O m)
        have hO1 := ownsRow_setCell_below hoc (a := ⟨g, k, none⟩) HG4.out (.int .i64 (x + gQ L O m))
        have hB1 := hBc.setCell (p := ⟨g, k, none⟩) HG.out (.int .i64 (x + gQ L O m))
        have hS1 : w4.heap.size ≤ (wc.setCell ⟨g, k, none⟩ (.int .i64 (x + gQ L O m))).heap.size := by simp only [World.size_setCell]; exact hsc
        have hc2 := hP1.cell (i := k) (x := x + gQ L O m) (by rw [List.getElem?_set_self (by rw [aK_length]; exact hlt)])
        have hf2 := hP1.frozen k
        have HSET := Lib.hid hset
        have HLL := Lib.hid hll
        clear hset hpc hoc hBc hsc hll
        by_cases hm : place L O k < m
        · have HAF : (if place L O k < m then prOf L O m else 0) = prOf L O m := if_pos hm
          have hfk := fK_yes hm
          have hwz : Hid (((wc.setCell ⟨g, k, none⟩ (.int .i64 (x + gQ L O m))).alloc (.cells #[.int .i64 k] 3)).heap.size = wc.heap.size + 1) := Lib.hid (by simp)
          have hoz := Lib.hid (hO1.alloc (.cells #[.int .i64 k] 3))
          have hpz := Lib.hid (hP1.alloc (.cells #[.int .i64 k] 3))
          have hbz := Lib.hid (hB1.alloc hB1.size (.cells #[.int .i64 k] 3))
          have hwc : Hid ((wc.setCell ⟨g, k, none⟩ (.int .i64 (x + gQ L O m))).heap.size = wc.heap.size) := Lib.hid (by simp)
          have hcz : Hid (∀ (j : Nat) (u : Value), ([(Value.int .i64 k)])[j]? = some u → ((wc.setCell ⟨g, k, none⟩ (.int .i64 (x + gQ L O m))).alloc (.cells #[.int .i64 k] 3)).cell? ((⟨wc.heap.size, 0, none⟩ : Addr).add j) = some u) := Lib.hid (by
            intro j u hu
            rw [addr_add]
            cases j with
            | zero => simp at hu; subst hu; rw [← hwc.out]; exact (cell_of_row _ _ 0 _ 3 (0, 0) (heap_alloc_new _ _)).trans rfl
            | succ j => simp at hu)
          have HC1 := Lib.hid hc1
          generalize hgw : (wc.setCell ⟨g, k, none⟩ (.int .i64 (x + gQ L O m))).alloc (.cells #[.int .i64 k] 3) = wa at *
          have hlk := fK_len L O m k
          have HFK := Lib.hid hfk
          have hS1' := Lib.hid hS1
          clear hfk hP1 hO1 hB1 hS1
          go_wp2_with (at_builtin; refine wpList_append_own _ rfl _ _ 22 rfl w4.heap.size 3 i0 (.int .i64 0) 1 8 Try.underlying22 HI.out hz0 hz1 hz2 rfl (by decide) _ (fK L O m k).length _ rfl hoz.out ⟨wc.heap.size, 0, none⟩ 1 1 [.int .i64 k] rfl (by simp) hcz.out (by simp [Value.oneCell']) (by unfold maxLen; omega) (by omega) (by rw [hwz.out]; have := hS1'.out; rw [hwc.out] at this; omega) ?_)
          intro v' w5 hown hgrow _
          have hb5 : Below w4.heap.size wa w5 := (Below.refl _ wa).grown hgrow (by rw [hwz.out]; have := hS1'.out; rw [hwc.out] at this; omega) (fun q hq => (hoz.out.lt q hq).1)
          have hp5 := hpz.out.below hb5 HG4.out
          have c5 := hp5.cell (i := k) (x := x + gQ L O m) (by rw [List.getElem?_set_self (by rw [aK_length]; exact hlt)])
          have f5 := hp5.frozen k
          have hP6 := hp5.store k (x + gQ L O m - prOf L O m)
          have hO6 := ownsRow_setCell_below hown (a := ⟨g, k, none⟩) HG4.out (.int .i64 (x + gQ L O m - prOf L O m))
          have hB6 := (hbz.out.trans (hb5.mono (Nat.le_trans HB4.out.size (Nat.le_refl _)))).setCell (p := ⟨g, k, none⟩) HG.out (.int .i64 (x + gQ L O m - prOf L O m))
          have hS6 : w4.heap.size ≤ (w5.setCell ⟨g, k, none⟩ (.int .i64 (x + gQ L O m - prOf L O m))).heap.size := by
            have := hb5.size
            have := hwz.out
            have := hS1'.out
            rw [hwc.out] at this
            simp only [World.size_setCell]
            omega
          have hlist : (((fK L O m k).map (Value.int .i64)) ++ [.int .i64 (k : Int)]) = (fK L O m (k + 1)).map (Value.int .i64) := by rw [HFK.out]; simp
          have hlistn : (fK L O m k).length + 1 = (fK L O m (k + 1)).length := by rw [HFK.out]; simp
          rw [List.set_set] at hP6
          have c6 := hP6.cell (i := k) (x := x + gQ L O m - prOf L O m) (by rw [List.getElem?_set_self (by rw [aK_length]; exact hlt)])
          have f6 := hP6.frozen k
          rw [hlist, hlistn] at hO6
          clear hp5 hb5 hown hgrow hlist hlistn hbz hpz hoz hcz hwz
          by_cases hx2 : (L.length : Int) - gR L O m ≤ place L O k
          · skip
            have haf : after L O m k = x + gQ L O m - prOf L O m + 1 := by
              unfold after paid extra
              rw [HXX.out, HAF]
              rw [if_pos (by have := HLL.out; omega)]
              omega
            have hP7 := hP6.store k (x + gQ L O m - prOf L O m + 1)
            have hO7 := ownsRow_setCell_below hO6 (a := ⟨g, k, none⟩) HG4.out (.int .i64 (x + gQ L O m - prOf L O m + 1))
            have hB7 := Lib.hid (hB6.setCell (p := ⟨g, k, none⟩) HG.out (.int .i64 (x + gQ L O m - prOf L O m + 1)))
            have hS7 : Hid (w4.heap.size ≤ ((w5.setCell ⟨g, k, none⟩ (.int .i64 (x + gQ L O m - prOf L O m))).setCell ⟨g, k, none⟩ (.int .i64 (x + gQ L O m - prOf L O m + 1))).heap.size) := Lib.hid (by simp only [World.size_setCell] at *; exact hS6)
            rw [List.set_set] at hP7
            have e7 : (aK L O m k).set k (x + gQ L O m - prOf L O m + 1) = aK L O m (k + 1) := by rw [← haf]; exact HSET.out
            rw [e7] at hP7
            have HP7 := Lib.hid hP7
            have HO7 := Lib.hid hO7
            clear hP7 hO7 e7 haf
            clear hP6 hO6 hB6 hS6
            go_wp2
            go_roundw
            case rel => exact ⟨k + 1, by omega, by go_num, HO7, HP7, hB7, hS7⟩
            case measure => simp [intOf]; omega
          · skip
            have haf : after L O m k = x + gQ L O m - prOf L O m := by
              unfold after paid extra
              rw [HXX.out, HAF]
              rw [if_neg (by have := HLL.out; omega)]
              omega
            have e7 : (aK L O m k).set k (x + gQ L O m - prOf L O m) = aK L O m (k + 1) := by rw [← haf]; exact HSET.out
            have hP7 := hP6
            rw [e7] at hP7
            have HP7 := Lib.hid hP7
            have HO7 := Lib.hid hO6
            have hB7 := Lib.hid hB6
            have hS7 := Lib.hid hS6
            clear hP7 e7 haf
            clear hP6 hO6 hB6 hS6
            go_wp2
            go_roundw
            case rel => exact ⟨k + 1, by omega, by go_num, HO7, HP7, hB7, hS7⟩
            case measure => simp [intOf]; omega
        · have HAF : (if place L O k < m then prOf L O m else 0) = 0 := if_neg hm
          have hfk := fK_no hm
          rw [← hfk] at hO1
          clear hfk
          by_cases hx2 : (L.length : Int) - gR L O m ≤ place L O k
          · skip
            have haf : after L O m k = x + gQ L O m + 1 := by
              unfold after paid extra
              rw [HXX.out, HAF]
              rw [if_pos (by have := HLL.out; omega)]
              omega
            have hP7 := hP1.store k (x + gQ L O m + 1)
            have hO7 := ownsRow_setCell_below hO1 (a := ⟨g, k, none⟩) HG4.out (.int .i64 (x + gQ L O m + 1))
            have hB7 := Lib.hid (hB1.setCell (p := ⟨g, k, none⟩) HG.out (.int .i64 (x + gQ L O m + 1)))
            have hS7 : Hid (w4.heap.size ≤ ((wc.setCell ⟨g, k, none⟩ (.int .i64 (x + gQ L O m))).setCell ⟨g, k, none⟩ (.int .i64 (x + gQ L O m + 1))).heap.size) := Lib.hid (by simp only [World.size_setCell] at *; exact hS1)
            rw [List.set_set] at hP7
            have e7 : (aK L O m k).set k (x + gQ L O m + 1) = aK L O m (k + 1) := by rw [← haf]; exact HSET.out
            rw [e7] at hP7
            have HP7 := Lib.hid hP7
            have HO7 := Lib.hid hO7
            clear hP7 hO7 e7 haf
            clear hP1 hO1 hB1 hS1
            go_wp2
            go_roundw
            case rel => exact ⟨k + 1, by omega, by go_num, HO7, HP7, hB7, hS7⟩
            case measure => simp [intOf]; omega
          · skip
            have haf : after L O m k = x + gQ L O m := by
              unfold after paid extra
              rw [HXX.out, HAF]
              rw [if_neg (by have := HLL.out; omega)]
              omega
            have e7 : (aK L O m k).set k (x + gQ L O m) = aK L O m (k + 1) := by rw [← haf]; exact HSET.out
            have hP7 := hP1
            rw [e7] at hP7
            have HP7 := Lib.hid hP7
            have HO7 := Lib.hid hO1
            have hB7 := Lib.hid hB1
            have hS7 := Lib.hid hS1
            clear hP7 e7 haf
            clear hP1 hO1 hB1 hS1
            go_wp2
            go_roundw
            case rel => exact ⟨k + 1, by omega, by go_num, HO7, HP7, hB7, hS7⟩
            case measure => simp [intOf]; omega
      · obtain rfl : k = O.length := by omega
        have hoo := ho.out
        have hpp := hp.out
        rw [fK_all] at hoo
        rw [aK_all] at hpp
        have hfl := freeL_length (C := L) hm2
        obtain ⟨fa, fc, rfl, hfa⟩ := row_slice hoo
        have hrf := row_rd hoo (freeL_i64 (by omega)) (by omega)
        have hpd := fun i => paid_bd (C := L) (B := O) (m := m) (i := i) HV.out.v.bd HPB.out.1 HPB.out.2
        have hal := aftL_length L O m
        have hrd : Rd wr wr.heap.size (some ⟨g, 0, none⟩) (aftL L O m) := hpp.rd (aftL_i64 hpd HQR.out.2.2.1 HQR.out.2.2.2.1) (by omega) hpp.lt
        have HFA := Lib.hid hfa
        have HRF := Lib.hid hrf
        have HRD := Lib.hid hrd
        have HB0 := Lib.hid hb.out
        have hal2 : (aftL L O m).length = L.length := hal.trans HLEN.out
        clear hoo hpp ho hp hb hrf hrd hpd hal hsz hfa
        obtain ⟨wo, rfl⟩ : ∃ wo : World, wo = wr := ⟨_, rfl⟩
        have hge : ¬ O.length < L.length := by have := HLEN.out; omega
        go_wp2
        go_loop [17] (fun i => ∃ k : Nat, k ≤ L.length ∧ i = .int .i64 k ∧ Hid (((aftL L O m).drop k).any outOf = (aftL L O m).any outOf)) (fun i => L.length - (intOf i).toNat)
        case atStart => exact ⟨0, by omega, rfl, Lib.hid rfl⟩
        case round =>
          obtain ⟨k, hk, rfl, hr⟩ := hrel
          by_cases hlt : k < L.length
          · obtain ⟨b, off, x, e, hbb', hx, hi, hc⟩ := HRD.out.at_ (k := k) (by omega)
            cases e
            have hdr := drop_of hx
            have hr' := hr.out
            rw [hdr, out_cons] at hr'
            have HX := Lib.hid hx
            clear hx hdr hi
            simp only [Nat.zero_add] at hc
            by_cases o1 : x < -1000000
            · have ho : outOf x = true := by simp [outOf, o1]
              rw [ho, Bool.true_or] at hr'
              have hE := Lib.hid (gvE_out HE.out hr'.symm)
              have hF : Hid (gvF L O m = []) := Lib.hid (by rw [gvF, hE.out, if_neg (by decide)])
              have hA : Hid (gvA L O m = []) := Lib.hid (by rw [gvA, hE.out, if_neg (by decide)])
              clear hr' ho hr
              go_wp2
              go_ret3
              rw [hE.out, hF.out, hA.out]
              exact ⟨none, 0, none, 0, rfl, Rd.nil _ _ _, Rd.nil _ _ _, HB0.out, noFresh _, noFresh _⟩
            · by_cases o2 : 1000000 < x
              · have ho : outOf x = true := by simp [outOf, o2]
                rw [ho, Bool.true_or] at hr'
                have hE := Lib.hid (gvE_out HE.out hr'.symm)
                have hF : Hid (gvF L O m = []) := Lib.hid (by rw [gvF, hE.out, if_neg (by decide)])
                have hA : Hid (gvA L O m = []) := Lib.hid (by rw [gvA, hE.out, if_neg (by decide)])
                clear hr' ho hr
                go_wp2
                go_ret3
                rw [hE.out, hF.out, hA.out]
                exact ⟨none, 0, none, 0, rfl, Rd.nil _ _ _, Rd.nil _ _ _, HB0.out, noFresh _, noFresh _⟩
              · have ho : outOf x = false := by simp [outOf, o1, o2]
                rw [ho, Bool.false_or] at hr'
                have hnx := Lib.hid hr'
                clear hr' ho hr
                go_wp2
                go_round
                case rel => exact ⟨k + 1, by omega, by go_num, hnx⟩
                case measure => simp [intOf]; omega
          · have hr' := hr.out
            rw [drop_end (by omega)] at hr'
            have hE := Lib.hid (gvE_ok HE.out hr'.symm)
            have hF : Hid (gvF L O m = freeL L O m) := Lib.hid (by rw [gvF, if_pos hE.out, Int.toNat_natCast])
            have hA : Hid (gvA L O m = aftL L O m) := Lib.hid (by rw [gvA, if_pos hE.out, Int.toNat_natCast])
            clear hr' hr
            go_wp2
            go_ret3
            rw [hE.out, hF.out, hA.out]
            exact ⟨fa, fc, some ⟨g, 0, none⟩, cg, by rw [hfl, hal2]; rfl, HRF.out, HRD.out, HB0.out, fun p hp => Nat.le_trans HB4.out.size (HFA.out p hp), fun p hp => by cases hp; exact HG.out⟩
  · have hE := gvE_pc he
    have hF : gvF L O m = [] := by rw [gvF, hE, if_neg he]
    have hA : gvA L O m = [] := by rw [gvA, hE, if_neg he]
    rw [hE, hF, hA]
    have hb : (pcE L O m != 0) = true := by simpa using he
    clear he h h' hE hF hA
    generalize pcE L O m = c at *
    go_enter Try.func61, Try.ntmps61
    go_wp2_with (go_at_call 84; refine CL.mono ?_; rintro e w' ⟨rfl, rfl⟩)
    go_ret3
    exact ⟨none, 0, none, 0, rfl, Rd.nil _ _ _, Rd.nil _ _ _, Below.refl _ _, noFresh _, noFresh _⟩
theorem hrGive {w : World} {B C : Nat} {A A' : Option Addr} {L O : List Int} {cap cap' : Nat} (h : Rd w B A L) (h' : Rd w C A' O) (hB : B ≤ w.heap.size) (hC : C ≤ w.heap.size) (m : Int) :
    Calls Try.prog 61 #[.slice A L.length cap, .slice A' O.length cap', .int .i64 m] w (GiveRes w (gvF L O m) (gvA L O m) (gvE L O m)) :=
  (hrGiveX h h' hB hC m).mono fun _ _ h => h.res
end Go.Proofs.Ytjgobpejifhphaa
end

section
/-! Plain law: the best bid. -/
namespace Go.Proofs.Ytjgobpejifhphaa
open Go.RowKit
set_option linter.unusedVariables false

theorem hlk_with {C B : List Int} {a : Nat} {v : Int} (h : hlk C B = 0) (h0 : 0 ≤ v) (h1 : v ≤ 1000000) : hlk C (B.set a v) = 0 := by
  have hV := hlk_ok h
  refine hlk_yes (hlk_hck h) (by simp [hV.len]) ?_
  rw [List.any_eq_false]
  intro x hx
  rcases List.mem_or_eq_of_mem_set hx with hx | rfl
  · have := hV.bd x hx
    simp [badBid]; omega
  · simp [badBid]; omega
theorem freeL_mem {C B : List Int} {m a : Nat} (ha : a < B.length) : (a : Int) ∈ freeL C B m ↔ place C B a < m := by
  simp only [freeL, List.mem_map, List.mem_filter, List.mem_range, decide_eq_true_eq]
  constructor
  · rintro ⟨i, ⟨hi, hp⟩, e⟩
    obtain rfl : i = a := by omega
    exact hp
  · intro h
    exact ⟨a, ⟨ha, h⟩, rfl⟩
theorem fK_count (C B : List Int) (m a : Nat) : ∀ k : Nat, (fK C B m k).countP (fun x => decide (x = (a : Int))) = if a < k ∧ place C B a < m then 1 else 0 := by
  intro k
  induction k with
  | zero => simp [fK]
  | succ k ih =>
    by_cases hm : place C B k < m
    · rw [fK_yes hm, List.countP_append, ih]
      by_cases e : k = a
      · subst e
        rw [if_neg (by omega), if_pos ⟨by omega, hm⟩]
        simp
      · have h1 : [(k : Int)].countP (fun x => decide (x = (a : Int))) = 0 := by simp; omega
        rw [h1]
        by_cases h2 : a < k ∧ place C B a < m
        · rw [if_pos h2, if_pos ⟨by omega, h2.2⟩]
        · rw [if_neg h2, if_neg (by rintro ⟨h3, h4⟩; exact h2 ⟨by omega, h4⟩)]
    · rw [fK_no hm, ih]
      by_cases e : k = a
      · subst e
        rw [if_neg (by omega), if_neg (by rintro ⟨_, h⟩; exact hm h)]
      · by_cases h2 : a < k ∧ place C B a < m
        · rw [if_pos h2, if_pos ⟨by omega, h2.2⟩]
        · rw [if_neg h2, if_neg (by rintro ⟨h3, h4⟩; exact h2 ⟨by omega, h4⟩)]
theorem freeL_count {C B : List Int} {m a : Nat} (ha : a < B.length) : (freeL C B m).countP (fun x => decide (x = (a : Int))) = if place C B a < m then 1 else 0 := by
  rw [← fK_all, fK_count]
  by_cases h : place C B a < m
  · rw [if_pos h, if_pos ⟨ha, h⟩]
  · rw [if_neg h, if_neg (by rintro ⟨_, h2⟩; exact h h2)]

/-- a bid counts if the holiday goes well -/
def bidOk (C B : List Int) (m a : Nat) (b : Int) : Bool := decide (gvE C (B.set a b) m = 0)
def bidG (C B : List Int) (m a : Nat) (wv b : Int) : Int := after C (B.set a b) m a - C.getD a 0 + if place C (B.set a b) a < m then wv else 0
/-- the best of the bids from k on -/
def bidUp (ok : Int → Bool) (g : Int → Int) (k : Int) (s : Option (Int × Int)) : Option (Int × Int) :=
  if ok k = true ∧ (∀ p, s = some p → p.2 < g k) then some (k, g k) else s
def bidGo (ok : Int → Bool) (g : Int → Int) : Nat → Int → Option (Int × Int) → Option (Int × Int)
  | 0, _, s => s
  | n + 1, k, s => bidGo ok g n (k + 1) (bidUp ok g k s)
theorem bidUp_no {ok : Int → Bool} {g : Int → Int} {k : Int} {s : Option (Int × Int)} (h : ok k = false) : bidUp ok g k s = s := by
  rw [bidUp, if_neg]; simp [h]
theorem bidUp_first {ok : Int → Bool} {g : Int → Int} {k : Int} (h : ok k = true) : bidUp ok g k none = some (k, g k) := by
  rw [bidUp, if_pos ⟨h, by intro p hp; cases hp⟩]
theorem bidUp_more {ok : Int → Bool} {g : Int → Int} {k b v : Int} (h : ok k = true) (h2 : v < g k) : bidUp ok g k (some (b, v)) = some (k, g k) := by
  rw [bidUp, if_pos ⟨h, by intro p hp; cases hp; exact h2⟩]
theorem bidUp_less {ok : Int → Bool} {g : Int → Int} {k b v : Int} (h2 : ¬ v < g k) : bidUp ok g k (some (b, v)) = some (b, v) := by
  rw [bidUp, if_neg]
  rintro ⟨_, h⟩
  exact h2 (h _ rfl)
def badBidArg (n : Nat) (a wv top : Int) : Prop := a < 0 ∨ (n : Int) ≤ a ∨ wv < 0 ∨ 1000000 < wv ∨ top < 0 ∨ 300 < top
instance (n : Nat) (a wv top : Int) : Decidable (badBidArg n a wv top) := by unfold badBidArg; infer_instance
def bdS (C B : List Int) (m a wv top : Int) : Option (Int × Int) := bidGo (bidOk C B m.toNat a.toNat) (bidG C B m.toNat a.toNat wv) (top + 1).toNat 0 none
def bdE (C B : List Int) (m a wv top : Int) : Int :=
  if pcE C B m ≠ 0 then pcE C B m else if badBidArg C.length a wv top then 2 else if bdS C B m a wv top = none then 6 else 0
def bdR (C B : List Int) (m a wv top : Int) : Int × Int := if bdE C B m a wv top ≠ 0 then (0, 0) else (bdS C B m a wv top).getD (0, 0)
theorem bdE_pc {C B : List Int} {m a wv top : Int} (h : pcE C B m ≠ 0) : bdE C B m a wv top = pcE C B m := by rw [bdE, if_pos h]
theorem bdE_arg {C B : List Int} {m a wv top : Int} (h : pcE C B m = 0) (h2 : badBidArg C.length a wv top) : bdE C B m a wv top = 2 := by rw [bdE, if_neg (by simp [h]), if_pos h2]
theorem bdE_none {C B : List Int} {m a wv top : Int} (h : pcE C B m = 0) (h2 : ¬ badBidArg C.length a wv top) (h3 : bdS C B m a wv top = none) : bdE C B m a wv top = 6 := by
  rw [bdE, if_neg (by simp [h]), if_neg h2, if_pos h3]
theorem bdE_ok {C B : List Int} {m a wv top : Int} (h : pcE C B m = 0) (h2 : ¬ badBidArg C.length a wv top) (h3 : bdS C B m a wv top ≠ none) : bdE C B m a wv top = 0 := by
  rw [bdE, if_neg (by simp [h]), if_neg h2, if_neg h3]
theorem bdR_no {C B : List Int} {m a wv top : Int} (h : bdE C B m a wv top ≠ 0) : bdR C B m a wv top = (0, 0) := by rw [bdR, if_pos h]
theorem bdR_ok {C B : List Int} {m a wv top : Int} {p : Int × Int} (h : bdE C B m a wv top = 0) (h2 : bdS C B m a wv top = some p) : bdR C B m a wv top = p := by
  rw [bdR, if_neg (by simp [h]), h2]; rfl
end Go.Proofs.Ytjgobpejifhphaa
end

section
/-! Walks of chapter 35: Contains, Earned, both Bids; the statement LieBids. -/
namespace Go.Proofs.Ytjgobpejifhphaa
open Go.RowKit Go.Deep
set_option linter.unusedVariables false
set_option maxRecDepth 100000

def IdxRes (w : World) (x : Int) (L : List Int) (e : Ending) (w' : World) : Prop := ∃ r : Int, e = .returned (.int .i64 r) ∧ decide (0 ≤ r) = decide (x ∈ L) ∧ w = w'
set_option maxHeartbeats 1000000 in
theorem idxW {w : World} {B : Nat} {A : Option Addr} {L : List Int} {cap : Nat} (h : Rd w B A L) (x : Int) :
    Calls Try.prog 83 #[.slice A L.length cap, .int .i64 x] w (IdxRes w x L) := by
  have hlen := h.len
  have H := Lib.hid h
  clear h
  go_enter Try.func83, Try.ntmps83
  go_wp2
  go_loop [8] (fun i => ∃ k : Nat, k ≤ L.length ∧ i = .int .i64 k ∧ Hid (decide (x ∈ L.drop k) = decide (x ∈ L))) (fun i => L.length - (intOf i).toNat)
  case atStart => exact ⟨0, by omega, rfl, Lib.hid rfl⟩
  case round =>
    obtain ⟨k, hk, rfl, hr⟩ := hrel
    by_cases hlt : k < L.length
    · obtain ⟨b, off, y, rfl, hb, hy, hi, hc⟩ := H.out.at_ hlt
      have hd := drop_of hy
      have hr' := hr.out
      rw [hd] at hr'
      have HY := Lib.hid hy
      clear hy hd hi hr
      by_cases e : x = y
      · subst e
        have hin := Lib.hid (show decide (x ∈ L) = true by rw [← hr']; simp)
        clear hr'
        go_wp2
        go_ret
        exact ⟨k, rfl, by rw [hin.out]; simp, rfl⟩
      · have hne : (x == y) = false := beq_eq_false_iff_ne.2 e
        have hnx := Lib.hid (show decide (x ∈ L.drop (k + 1)) = decide (x ∈ L) by rw [← hr']; simp [e])
        clear hr' e
        go_wp2
        go_round
        case rel => exact ⟨k + 1, by omega, by go_num, hnx⟩
        case measure => simp [intOf]; omega
    · have hr' := hr.out
      rw [drop_end (by omega)] at hr'
      have hno := Lib.hid (show decide (x ∈ L) = false by rw [← hr']; simp)
      clear hr' hr
      go_wp2
      go_ret
      exact ⟨-1, rfl, by rw [hno.out]; decide, rfl⟩
theorem contW {w : World} {B : Nat} {A : Option Addr} {L : List Int} {cap : Nat} (h : Rd w B A L) (x : Int) :
    Calls Try.prog 52 #[.slice A L.length cap, .int .i64 x] w fun e w' => e = .returned (.bool (decide (x ∈ L))) ∧ w = w' := by
  have C := idxW (cap := cap) h x
  clear h
  go_enter Try.func52, Try.ntmps52
  go_wp2_with (go_at_call 83; refine C.mono ?_; rintro e w1 ⟨r, rfl, hr, rfl⟩)
  go_ret
  exact ⟨rfl, rfl⟩

/-- Earned, and what the program does in its place -/
theorem earn_step {a : Nat} {wv gv x : Int} {k : Nat} {T : Int} {F : List Int} (hx : F[k]? = some x) (h : gv + wv * ((F.drop k).countP (fun y => decide (y = (a : Int))) : Nat) = T) :
    (gv + if x = (a : Int) then wv else 0) + wv * ((F.drop (k + 1)).countP (fun y => decide (y = (a : Int))) : Nat) = T := by
  rw [drop_of hx, List.countP_cons] at h
  by_cases e : x = (a : Int)
  · rw [if_pos e]
    simp only [e, decide_true, if_true] at h
    rw [← h, Int.natCast_add, Int.mul_add]
    simp
    omega
  · rw [if_neg e]
    simp only [e, decide_false, Bool.false_eq_true, if_false] at h
    rw [← h]
    simp

def earnV (C B : List Int) (m a : Nat) (wv b : Int) : Int := if bidOk C B m a b = true then bidG C B m a wv b else 0
set_option maxHeartbeats 2000000 in
theorem earned {w : World} {A A' : Option Addr} {L O : List Int} {cap cap' : Nat} {m a : Nat} {wv b : Int} (h : Rd w w.heap.size A L) (h' : Rd w w.heap.size A' O)
    (hl : hlk L O = 0) (hm : m ≤ L.length) (ha : a < L.length) (w0 : 0 ≤ wv) (w1 : wv ≤ 1000000) (b0 : 0 ≤ b) (b1 : b ≤ 300) :
    Calls Try.prog 34 #[.slice A L.length cap, .slice A' O.length cap', .int .i64 m, .int .i64 a, .int .i64 wv, .int .i64 b] w
      fun e w' => e = .returned (.tuple #[.int .i64 (earnV L O m a wv b), .bool (bidOk L O m a b)]) ∧ Below w.heap.size w w' := by
  have hV := hlk_ok hl
  have hlen := hV.len
  have hn := hV.v.one
  have hn2 := hV.v.twelve
  have hl2 := hlk_with (a := a) hl b0 (by omega)
  have hV2 := hlk_ok hl2
  have hl3 : (O.set a b).length = L.length := by simp [hlen]
  have CP := putL (cap := cap') h' (Nat.le_refl _) (i := a) (by omega) b
  have hpc := pcE_ok (C := L) (B := O.set a b) (m := m) hl2 (by omega)
  have H := Lib.hid h
  have HV := Lib.hid hV
  have HV2 := Lib.hid hV2
  have HL3 := Lib.hid hl3
  have HPC := Lib.hid hpc
  have hab : a < (O.set a b).length := by omega
  have hset : Hid (∀ x ∈ O.set a b, I64 x) := Lib.hid (fun x hx => by have := hV2.bd x hx; unfold I64; omega)
  have hOK : Hid (bidOk L O m a b = decide (gvE L (O.set a b) m = 0)) := Lib.hid rfl
  have hG : Hid (bidG L O m a wv b = after L (O.set a b) m a - L.getD a 0 + if place L (O.set a b) a < m then wv else 0) := Lib.hid rfl
  clear hl hV hlen hl2 hV2 hpc h h' hl3
  go_enter Try.func34, Try.ntmps34
  go_wp2_with fail
  refine CP.mono ?_
  rintro e w2 ⟨g, c, rfl, hg, hP, hb⟩
  generalize O.set a b = Q at *
  have hrd := hP.rd hset.out (by rw [HL3.out]; omega) hP.lt
  have CG := hrGive (cap := cap) (cap' := c) (H.out.below hb (Nat.le_refl _)) hrd hb.size (Nat.le_refl _) m
  have HB := Lib.hid hb
  have hmQ : m ≤ Q.length := by rw [HL3.out]; exact hm
  by_cases hE : gvE L Q m = 0
  · have hF : gvF L Q m = freeL L Q m := by rw [gvF, if_pos hE, Int.toNat_natCast]
    have hA : gvA L Q m = aftL L Q m := by rw [gvA, if_pos hE, Int.toNat_natCast]
    have hok : bidOk L O m a b = true := by rw [hOK.out, hE]; rfl
    rw [hE, hF, hA] at CG
    have HCG := Lib.hid CG
    have HOK := Lib.hid hok
    have hpb := prOf_bd (C := L) (B := Q) (m := m) HV2.out.bd (by omega) (by omega)
    have hqr := gQR (C := L) (B := Q) (m := m) hn hn2 hm hpb.1 hpb.2
    have hpd := fun i => paid_bd (C := L) (B := Q) (m := m) (i := i) HV.out.v.bd hpb.1 hpb.2
    have hyb := after_bd (hpd a) hqr.2.2.1 hqr.2.2.2.1
    clear CP CG hrd hP hb hE hF hA hok hpb hqr hpd
    go_wp2_with fail
    refine HCG.out.mono ?_
    rintro e w3 ⟨A2, c2, A3, c3, rfl, r2, r3, hb3⟩
    have hfl := freeL_length (C := L) hmQ
    have hal : (aftL L Q m).length = L.length := (aftL_length L Q m).trans HL3.out
    rw [hfl, hal]
    obtain ⟨ub, uoff, u, rfl, _, hu, hui, cu⟩ := (H.out.below (HB.out.trans (hb3.mono HB.out.size)) (Nat.le_refl _)).at_ ha
    obtain ⟨yb, yoff, y, rfl, _, hy, hyi, cy⟩ := r3.at_ (k := a) (by omega)
    have hyv : y = after L Q m a := by
      have h2 : (aftL L Q m)[a]? = some (after L Q m a) := by simp [aftL, hab]
      rw [h2] at hy
      simpa using hy.symm
    have hub := HV.out.v.bd u (List.mem_of_getElem? hu)
    rw [← hyv] at hyb
    have hstart : Hid (y - u + wv * (((freeL L Q m).drop 0).countP (fun z => decide (z = (a : Int))) : Nat) = bidG L O m a wv b) := Lib.hid (by
      rw [List.drop_zero, freeL_count hab, hG.out, getD_of hu, hyv]
      by_cases hp : place L Q a < m
      · rw [if_pos hp, if_pos hp]; simp
      · rw [if_neg hp, if_neg hp]; simp)
    have HB3 := Lib.hid (HB.out.trans (hb3.mono HB.out.size))
    have R2 := Lib.hid r2
    have HFL := Lib.hid hfl
    clear hfl hal hu hui hy hyi hyv r2 r3 hb3 HCG
    have e1 : IntKind.i64.wrap (y - u) = y - u := IntWalk.i64_in _ (by omega)
    go_wp2
    go_quiet (fail)
    have HB4 : Hid (Below w.heap.size w (w3.drewN nq)) := Lib.hid (below_drewN HB3.out _)
    have R4 : Hid (Rd (w3.drewN nq) (w3.drewN nq).heap.size A2 (freeL L Q m)) := Lib.hid R2.out
    clear HB3 R2 e1 cu cy
    generalize w3.drewN nq = w4 at *
    go_wp2
    go_loop [17, 18] (fun t i => ∃ (k : Nat) (gv : Int), k ≤ m ∧ -16000000 ≤ gv ∧ gv ≤ 15000000 + 1000000 * (k : Int) ∧ i = .int .i64 k ∧ t = .int .i64 gv
      ∧ Hid (gv + wv * (((freeL L Q m).drop k).countP (fun z => decide (z = (a : Int))) : Nat) = bidG L O m a wv b)) (fun _ i => m - (intOf i).toNat)
    case atStart => exact ⟨0, y - u, by omega, by omega, by omega, rfl, rfl, hstart⟩
    case round =>
      obtain ⟨k, gv, hk, hg0, hg1, rfl, rfl, hr⟩ := hrel
      by_cases hlt : k < m
      · obtain ⟨fb, foff, f, rfl, _, hf, hfi, cf⟩ := R4.out.at_ (k := k) (by have := HFL.out; omega)
        have hst := Lib.hid (earn_step hf hr.out)
        clear hf hfi hr
        by_cases e : f = (a : Int)
        · rw [if_pos e] at hst
          go_wp2
          go_round
          case rel => exact ⟨k + 1, gv + wv, by omega, by omega, by omega, by go_num, rfl, hst⟩
          case measure => simp [intOf]; omega
        · rw [if_neg e, Int.add_zero] at hst
          go_wp2
          go_round
          case rel => exact ⟨k + 1, gv, by omega, by omega, by omega, by go_num, rfl, hst⟩
          case measure => simp [intOf]; omega
      · have hr' := hr.out
        rw [drop_end (by have := HFL.out; omega)] at hr'
        have hfin : Hid (gv = bidG L O m a wv b) := Lib.hid (by rw [← hr']; simp)
        clear hr hr'
        go_wp2
        go_ret2
        have hv : (Ending.returned (.tuple #[.int .i64 gv, .bool true])) = .returned (.tuple #[.int .i64 (earnV L O m a wv b), .bool (bidOk L O m a b)]) := by
          rw [earnV, HOK.out, if_pos rfl, hfin.out]
        exact ⟨Eq.trans rfl hv, HB4.out⟩
  · have hok : bidOk L O m a b = false := by rw [hOK.out]; exact decide_eq_false hE
    have hne : (gvE L Q m != 0) = true := by simpa using hE
    have HCG := Lib.hid CG
    have HOK := Lib.hid hok
    clear CP CG hrd hP hb hE hok
    go_wp2_with fail
    refine HCG.out.mono ?_
    rintro e w3 ⟨A2, c2, A3, c3, rfl, r2, r3, hb3⟩
    have HB3 := Lib.hid (HB.out.trans (hb3.mono HB.out.size))
    clear r2 r3 hb3 HCG hOK
    generalize gvE L Q m = ge at *
    go_wp2
    go_ret2
    have hv : (Ending.returned (.tuple #[.int .i64 0, .bool false])) = .returned (.tuple #[.int .i64 (earnV L O m a wv b), .bool (bidOk L O m a b)]) := by
      rw [earnV, HOK.out, if_neg (by decide)]
    exact ⟨Eq.trans rfl hv, HB3.out⟩
end Go.Proofs.Ytjgobpejifhphaa
end

section
/-! Walks of chapter 35: both Bids; the statement LieBids. -/
namespace Go.Proofs.Ytjgobpejifhphaa
open Go.RowKit Go.Deep
set_option linter.unusedVariables false
set_option maxRecDepth 100000

set_option maxHeartbeats 4000000 in
theorem rBid {w : World} {B C : Nat} {A A' : Option Addr} {L O : List Int} {cap cap' : Nat} (h : Rd w B A L) (hB : B ≤ w.heap.size) (h' : Rd w C A' O) (hC : C ≤ w.heap.size) (m a wv top : Int) :
    Calls Try.prog 25 #[.slice A L.length cap, .slice A' O.length cap', .int .i64 m, .int .i64 a, .int .i64 wv, .int .i64 top] w
      fun e w' => e = .returned (.tuple #[.int .i64 (bdR L O m a wv top).1, .int .i64 (bdR L O m a wv top).2, .int .i64 (bdE L O m a wv top)]) ∧ Below w.heap.size w w' := by
  have C1 := hrPrice (cap := cap) (cap' := cap') h h' hB hC m
  by_cases hp : pcE L O m = 0
  · rw [hp] at C1
    by_cases hb : badBidArg L.length a wv top
    · have hE := bdE_arg hp hb
      rw [bdR_no (by rw [hE]; decide), hE]
      clear hE hp h h' hB hC
      generalize pcV L O m = pv at *
      unfold badBidArg at hb
      by_cases q1 : a < 0
      · clear hb
        go_enter Try.func25, Try.ntmps25
        go_wp2_with (go_at_call 53; refine C1.mono ?_; rintro e w1 ⟨rfl, hb1⟩)
        go_ret3
        exact ⟨rfl, hb1⟩
      · by_cases q2 : (L.length : Int) ≤ a
        · clear hb
          go_enter Try.func25, Try.ntmps25
          go_wp2_with (go_at_call 53; refine C1.mono ?_; rintro e w1 ⟨rfl, hb1⟩)
          go_ret3
          exact ⟨rfl, hb1⟩
        · by_cases q3 : wv < 0
          · clear hb
            go_enter Try.func25, Try.ntmps25
            go_wp2_with (go_at_call 53; refine C1.mono ?_; rintro e w1 ⟨rfl, hb1⟩)
            go_ret3
            exact ⟨rfl, hb1⟩
          · by_cases q4 : 1000000 < wv
            · clear hb
              go_enter Try.func25, Try.ntmps25
              go_wp2_with (go_at_call 53; refine C1.mono ?_; rintro e w1 ⟨rfl, hb1⟩)
              go_ret3
              exact ⟨rfl, hb1⟩
            · by_cases q5 : top < 0
              · clear hb
                go_enter Try.func25, Try.ntmps25
                go_wp2_with (go_at_call 53; refine C1.mono ?_; rintro e w1 ⟨rfl, hb1⟩)
                go_ret3
                exact ⟨rfl, hb1⟩
              · have q6 : 300 < top := by omega
                clear hb
                go_enter Try.func25, Try.ntmps25
                go_wp2_with (go_at_call 53; refine C1.mono ?_; rintro e w1 ⟨rfl, hb1⟩)
                go_ret3
                exact ⟨rfl, hb1⟩
    · obtain ⟨hl, g0, g1⟩ := pcE_zero hp
      have hbb := hb
      unfold badBidArg at hbb
      obtain ⟨mm, rfl⟩ := Int.eq_ofNat_of_zero_le g0
      obtain ⟨i, rfl⟩ := Int.eq_ofNat_of_zero_le (show 0 ≤ a by omega)
      have q1 : ¬ ((i : Int) < 0) := by omega
      have q2 : i < L.length := by omega
      have q3 : 0 ≤ wv := by omega
      have q4 : wv ≤ 1000000 := by omega
      have q5 : 0 ≤ top := by omega
      have q6 : top ≤ 300 := by omega
      have hmm : mm ≤ L.length := by omega
      have hS : Hid (bdS L O mm i wv top = bidGo (bidOk L O mm i) (bidG L O mm i wv) (top + 1).toNat 0 none) := Lib.hid (by rw [bdS, Int.toNat_natCast, Int.toNat_natCast])
      have HP := Lib.hid hp
      have HBB := Lib.hid hb
      have hn : ((top + 1).toNat : Int) = top + 1 := by omega
      have CE : Hid (∀ (u : World) (b : Int), Below w.heap.size w u → 0 ≤ b → b ≤ 300 → Calls Try.prog 34 #[.slice A L.length cap, .slice A' O.length cap', .int .i64 mm, .int .i64 i, .int .i64 wv, .int .i64 b] u
        fun e w' => e = .returned (.tuple #[.int .i64 (earnV L O mm i wv b), .bool (bidOk L O mm i b)]) ∧ Below u.heap.size u w') :=
        Lib.hid fun u b hu b0 b1 => earned (((h.more hB).below hu (Nat.le_refl _)).more hu.size) (((h'.more hC).below hu (Nat.le_refl _)).more hu.size) hl hmm q2 q3 q4 b0 b1
      clear hl hb hbb hp h h' hB hC g0 g1
      generalize hN : (top + 1).toNat = n at *
      have HN := Lib.hid hN
      clear hN
      generalize pcV L O mm = pv at *
      have HEV : Hid (∀ b, bidOk L O mm i b = true → earnV L O mm i wv b = bidG L O mm i wv b) := Lib.hid fun b hb => by rw [earnV, if_pos hb]
      generalize bidOk L O mm i = ok at *
      generalize bidG L O mm i wv = gf at *
      generalize earnV L O mm i wv = ev at *
      have d1 : decide ((i : Int) < 0) = false := by simp
      have d2 : decide (L.length ≤ i) = false := by simp; omega
      have d3 : decide (wv < 0) = false := by simp; omega
      have d4 : decide (1000000 < wv) = false := by simp; omega
      have d5 : decide (top < 0) = false := by simp; omega
      have d6 : decide (300 < top) = false := by simp; omega
      go_enter Try.func25, Try.ntmps25
      go_wp2_with (go_at_call 53; refine C1.mono ?_; rintro e w1 ⟨rfl, hb1⟩)
      have HB1 := Lib.hid hb1
      clear hb1 C1
      go_loopw [17, 18, 19] (fun bb gg k wr => ∃ (j mr : Nat) (s : Option (Int × Int)) (bv gv : Int), j + mr = n ∧ k = .int .i64 j ∧ bb = .int .i64 bv ∧ gg = .int .i64 gv ∧ Hid (Below w1.heap.size w1 wr)
        ∧ Hid (bidGo ok gf mr j s = bidGo ok gf n 0 none) ∧ Hid ((s = none ∧ bv = -1 ∧ gv = 0) ∨ (s = some (bv, gv) ∧ 0 ≤ bv))) (fun _ _ k _ => n - (intOf k).toNat)
      case atStart => exact ⟨0, n, none, -1, 0, by omega, rfl, rfl, rfl, Lib.hid (Below.refl _ _), Lib.hid rfl, Lib.hid (.inl ⟨rfl, rfl, rfl⟩)⟩
      case round =>
        obtain ⟨j, mr, s, bv, gv, hjm, rfl, rfl, rfl, hw, hr, hs⟩ := hrel
        have HJM := Lib.hid hjm
        have hjn : j ≤ n := by omega
        clear hjm
        by_cases hlt : j < n
        · obtain ⟨m', hm'⟩ : ∃ m', mr = m' + 1 := ⟨mr - 1, by have := HJM.out; omega⟩
          have hjt : (j : Int) ≤ top := by omega
          have HM := Lib.hid hm'
          clear hm'
          have hup := hr.out
          rw [HM.out] at hup
          replace hup : Hid (bidGo ok gf m' ((j : Int) + 1) (bidUp ok gf j s) = bidGo ok gf n 0 none) := Lib.hid hup
          have CEj := CE.out wr j (HB1.out.trans (hw.out.mono HB1.out.size)) (by omega) (by omega)
          by_cases hok : ok j = true
          · have hev := HEV.out j hok
            rw [hok, hev] at CEj
            rcases hs.out with ⟨rfl, rfl, rfl⟩ | ⟨rfl, hbv⟩
            · rw [bidUp_first hok] at hup
              have HCE := Lib.hid CEj
              clear CEj hr
              go_wp2_with fail
              refine HCE.out.mono ?_
              rintro e w3 ⟨rfl, hb3⟩
              have HW3 := Lib.hid (hw.out.trans (hb3.mono hw.out.size))
              clear HCE hb3 hev hok hs
              go_wp2
              go_roundw
              case rel => exact ⟨j + 1, m', some ((j : Int), gf j), j, gf j, by have := HJM.out; have := HM.out; omega, by go_num, rfl, rfl, HW3, Lib.hid (by rw [← hup.out]; rfl), Lib.hid (.inr ⟨rfl, by omega⟩)⟩
              case measure => simp [intOf]; omega
            · by_cases hg : gv < gf j
              · rw [bidUp_more hok hg] at hup
                have HCE := Lib.hid CEj
                clear CEj hr
                go_wp2_with fail
                refine HCE.out.mono ?_
                rintro e w3 ⟨rfl, hb3⟩
                have HW3 := Lib.hid (hw.out.trans (hb3.mono hw.out.size))
                clear HCE hb3 hev hok hs
                go_wp2
                go_roundw
                case rel => exact ⟨j + 1, m', some ((j : Int), gf j), j, gf j, by have := HJM.out; have := HM.out; omega, by go_num, rfl, rfl, HW3, Lib.hid (by rw [← hup.out]; rfl), Lib.hid (.inr ⟨rfl, by omega⟩)⟩
                case measure => simp [intOf]; omega
              · rw [bidUp_less hg] at hup
                have HCE := Lib.hid CEj
                clear CEj hr
                go_wp2_with fail
                refine HCE.out.mono ?_
                rintro e w3 ⟨rfl, hb3⟩
                have HW3 := Lib.hid (hw.out.trans (hb3.mono hw.out.size))
                clear HCE hb3 hev hok hs
                go_wp2
                go_roundw
                case rel => exact ⟨j + 1, m', some (bv, gv), bv, gv, by have := HJM.out; have := HM.out; omega, by go_num, rfl, rfl, HW3, Lib.hid (by rw [← hup.out]; rfl), Lib.hid (.inr ⟨rfl, hbv⟩)⟩
                case measure => simp [intOf]; omega
          · have hof : ok j = false := by simpa using hok
            rw [hof] at CEj
            rw [bidUp_no hof] at hup
            clear hof hok
            have HCE := Lib.hid CEj
            clear CEj hr
            go_wp2_with fail
            refine HCE.out.mono ?_
            rintro e w3 ⟨rfl, hb3⟩
            have HW3 := Lib.hid (hw.out.trans (hb3.mono hw.out.size))
            clear HCE hb3
            go_wp2
            go_roundw
            case rel => exact ⟨j + 1, m', s, bv, gv, by have := HJM.out; have := HM.out; omega, by go_num, rfl, rfl, HW3, Lib.hid (by rw [← hup.out]; rfl), hs⟩
            case measure => simp [intOf]; omega
        · obtain rfl : mr = 0 := by have := HJM.out; omega
          have hjt' : top < (j : Int) := by omega
          have hfin := hr.out
          rw [show bidGo ok gf 0 j s = s from rfl, ← hS.out] at hfin
          rcases hs.out with ⟨rfl, rfl, rfl⟩ | ⟨rfl, hbv⟩
          · have hE := bdE_none HP.out HBB.out hfin.symm
            have hR := bdR_no (C := L) (B := O) (m := mm) (a := i) (wv := wv) (top := top) (by rw [hE]; decide)
            have HE := Lib.hid hE
            have HRR := Lib.hid hR
            clear hE hR hfin hs hr
            go_wp2
            go_ret3
            rw [HRR.out, HE.out]
            exact ⟨rfl, HB1.out.trans (hw.out.mono HB1.out.size)⟩
          · have hE := bdE_ok HP.out HBB.out (by rw [← hfin]; simp)
            have hR := bdR_ok hE hfin.symm
            have HE := Lib.hid hE
            have HRR := Lib.hid hR
            clear hE hR hfin hs hr
            go_wp2
            go_ret3
            rw [HRR.out, HE.out]
            exact ⟨rfl, HB1.out.trans (hw.out.mono HB1.out.size)⟩
  · have hE := bdE_pc (a := a) (wv := wv) (top := top) hp
    rw [bdR_no (by rw [hE]; exact hp), hE]
    have hb : (pcE L O m != 0) = true := by simpa using hp
    clear hp hE h h' hB hC
    generalize pcE L O m = c at *
    go_enter Try.func25, Try.ntmps25
    go_wp2_with (go_at_call 53; refine C1.mono ?_; rintro e w1 ⟨rfl, hb1⟩)
    go_ret3
    exact ⟨rfl, hb1⟩
end Go.Proofs.Ytjgobpejifhphaa
end

section
/-! The walk of the program's Bid. -/
namespace Go.Proofs.Ytjgobpejifhphaa
open Go.RowKit Go.Deep
set_option linter.unusedVariables false
set_option maxRecDepth 100000

/-- what the loop's variables hold -/
def BidSt (s : Option (Int × Int)) (bv gv : Int) (fd : Bool) : Prop := (s = none ∧ bv = 0 ∧ gv = 0 ∧ fd = false) ∨ (s = some (bv, gv) ∧ fd = true)

set_option maxHeartbeats 4000000 in
theorem pBid {w : World} {B C : Nat} {A A' : Option Addr} {L O : List Int} {cap cap' : Nat} (h : Rd w B A L) (hB : B ≤ w.heap.size) (h' : Rd w C A' O) (hC : C ≤ w.heap.size) (m a wv top : Int) :
    Calls Try.prog 24 #[.slice A L.length cap, .slice A' O.length cap', .int .i64 m, .int .i64 a, .int .i64 wv, .int .i64 top] w
      fun e w' => e = .returned (.tuple #[.int .i64 (bdR L O m a wv top).1, .int .i64 (bdR L O m a wv top).2, .int .i64 (bdE L O m a wv top)]) ∧ Below w.heap.size w w' := by
  have C1 := hPrice (cap := cap) (cap' := cap') h h' hB hC m
  by_cases hp : pcE L O m = 0
  · rw [hp] at C1
    by_cases hb : badBidArg L.length a wv top
    · have hE := bdE_arg hp hb
      rw [bdR_no (by rw [hE]; decide), hE]
      clear hE hp h h' hB hC
      generalize pcV L O m = pv at *
      unfold badBidArg at hb
      by_cases q1 : a < 0
      · clear hb
        go_enter Try.func24, Try.ntmps24
        go_wp2_with (go_at_call 51; refine C1.mono ?_; rintro e w1 ⟨rfl, hb1⟩)
        go_ret3
        exact ⟨rfl, hb1⟩
      · by_cases q2 : (L.length : Int) ≤ a
        · clear hb
          go_enter Try.func24, Try.ntmps24
          go_wp2_with (go_at_call 51; refine C1.mono ?_; rintro e w1 ⟨rfl, hb1⟩)
          go_ret3
          exact ⟨rfl, hb1⟩
        · by_cases q3 : wv < 0
          · clear hb
            go_enter Try.func24, Try.ntmps24
            go_wp2_with (go_at_call 51; refine C1.mono ?_; rintro e w1 ⟨rfl, hb1⟩)
            go_ret3
            exact ⟨rfl, hb1⟩
          · by_cases q4 : 1000000 < wv
            · clear hb
              go_enter Try.func24, Try.ntmps24
              go_wp2_with (go_at_call 51; refine C1.mono ?_; rintro e w1 ⟨rfl, hb1⟩)
              go_ret3
              exact ⟨rfl, hb1⟩
            · by_cases q5 : top < 0
              · clear hb
                go_enter Try.func24, Try.ntmps24
                go_wp2_with (go_at_call 51; refine C1.mono ?_; rintro e w1 ⟨rfl, hb1⟩)
                go_ret3
                exact ⟨rfl, hb1⟩
              · have q6 : 300 < top := by omega
                clear hb
                go_enter Try.func24, Try.ntmps24
                go_wp2_with (go_at_call 51; refine C1.mono ?_; rintro e w1 ⟨rfl, hb1⟩)
                go_ret3
                exact ⟨rfl, hb1⟩
    · obtain ⟨hl, g0, g1⟩ := pcE_zero hp
      have hbb := hb
      unfold badBidArg at hbb
      obtain ⟨mm, rfl⟩ := Int.eq_ofNat_of_zero_le g0
      obtain ⟨i, rfl⟩ := Int.eq_ofNat_of_zero_le (show 0 ≤ a by omega)
      have hV := hlk_ok hl
      have q1 : ¬ ((i : Int) < 0) := by omega
      have q2 : i < L.length := by omega
      have qo : i < O.length := by have := hV.len; omega
      have q3 : 0 ≤ wv := by omega
      have q4 : wv ≤ 1000000 := by omega
      have q5 : 0 ≤ top := by omega
      have q6 : top ≤ 300 := by omega
      have hmm : mm ≤ L.length := by omega
      have hS : Hid (bdS L O mm i wv top = bidGo (bidOk L O mm i) (bidG L O mm i wv) (top + 1).toNat 0 none) := Lib.hid (by rw [bdS, Int.toNat_natCast, Int.toNat_natCast])
      have HP := Lib.hid hp
      have HBB := Lib.hid hb
      have HV := Lib.hid hV
      have HL := Lib.hid hl
      have hn : ((top + 1).toNat : Int) = top + 1 := by omega
      have HR : Hid (∀ u, Below w.heap.size w u → w.heap.size ≤ u.heap.size ∧ Rd u w.heap.size A L ∧ Rd u w.heap.size A' O) :=
        Lib.hid fun u hu => ⟨hu.size, (h.more hB).below hu (Nat.le_refl _), (h'.more hC).below hu (Nat.le_refl _)⟩
      have HOK : Hid (∀ b, bidOk L O mm i b = decide (gvE L (O.set i b) mm = 0)) := Lib.hid fun b => rfl
      have HGF : Hid (∀ b, bidG L O mm i wv b = after L (O.set i b) mm i - L.getD i 0 + if place L (O.set i b) i < mm then wv else 0) := Lib.hid fun b => rfl
      clear hl hb hbb hp h h' hB hC g0 g1 hV
      generalize hN : (top + 1).toNat = n at *
      have HN := Lib.hid hN
      clear hN
      generalize pcV L O mm = pv at *
      generalize bidOk L O mm i = ok at *
      generalize bidG L O mm i wv = gf at *
      have d1 : decide ((i : Int) < 0) = false := by simp
      have d2 : decide (L.length ≤ i) = false := by simp; omega
      have d3 : decide (wv < 0) = false := by simp; omega
      have d4 : decide (1000000 < wv) = false := by simp; omega
      have d5 : decide (top < 0) = false := by simp; omega
      have d6 : decide (300 < top) = false := by simp; omega
      go_enter Try.func24, Try.ntmps24
      go_wp2_with (go_at_call 51; refine C1.mono ?_; rintro e w1 ⟨rfl, hb1⟩)
      have HB1 := Lib.hid hb1
      clear hb1 C1
      go_loopw [12, 13, 17, 59] (fun bb gg f k wr => ∃ (j mr : Nat) (s : Option (Int × Int)) (bv gv : Int) (fd : Bool), j + mr = n ∧ k = .int .i64 j ∧ bb = .int .i64 bv ∧ gg = .int .i64 gv ∧ f = .bool fd ∧ Hid (Below w1.heap.size w1 wr)
        ∧ Hid (bidGo ok gf mr j s = bidGo ok gf n 0 none) ∧ Hid (BidSt s bv gv fd)) (fun _ _ _ k _ => n - (intOf k).toNat)
      case atStart => exact ⟨0, n, none, 0, 0, false, by omega, rfl, rfl, rfl, rfl, Lib.hid (Below.refl _ _), Lib.hid rfl, Lib.hid (.inl ⟨rfl, rfl, rfl, rfl⟩)⟩
      case round =>
        obtain ⟨j, mr, s, bv, gv, fd, hjm, rfl, rfl, rfl, rfl, hw, hr, hs⟩ := hrel
        have HJM := Lib.hid hjm
        have hjn : j ≤ n := by omega
        clear hjm
        by_cases hlt : j < n
        · obtain ⟨m', hm'⟩ : ∃ m', mr = m' + 1 := ⟨mr - 1, by have := HJM.out; omega⟩
          have hj300 : (j : Int) ≤ 300 := by omega
          have HM := Lib.hid hm'
          clear hm'
          have HBW := Lib.hid (HB1.out.trans (hw.out.mono HB1.out.size))
          have hup := hr.out
          rw [HM.out] at hup
          replace hup : Hid (bidGo ok gf m' ((j : Int) + 1) (bidUp ok gf j s) = bidGo ok gf n 0 none) := Lib.hid hup
          have hl2 := hlk_with (a := i) HL.out (v := (j : Int)) (by omega) (by omega)
          have hV2 := hlk_ok hl2
          have HV2 := Lib.hid hV2
          have HL3 : Hid ((O.set i (j : Int)).length = L.length) := Lib.hid (by rw [List.length_set]; exact HV.out.len)
          have hset : Hid (∀ x ∈ O.set i (j : Int), I64 x) := Lib.hid (fun x hx => by have := hV2.bd x hx; unfold I64; omega)
          have hab : i < (O.set i (j : Int)).length := by rw [List.length_set]; exact qo
          have hok := HOK.out (j : Int)
          have hgf := HGF.out (j : Int)
          have HOJ := Lib.hid hok
          have HGJ := Lib.hid hgf
          clear hl2 hV2 hr hok hgf
          go_wp2_with fail
          refine (withL (HR.out wr HBW.out).2.2 (HR.out wr HBW.out).1 qo j).mono ?_
          rintro e w2 ⟨g2, c2, rfl, hg2, hP2, hb2⟩
          have HB2 := Lib.hid (HBW.out.trans (hb2.mono HBW.out.size))
          have HW2 := Lib.hid (hw.out.trans (hb2.mono hw.out.size))
          generalize O.set i (j : Int) = Q at *
          have hrd := hP2.rd hset.out (by have := HL3.out; have := HV.out.v.twelve; omega) hP2.lt
          have CG := hGive (cap := cap) (cap' := c2) (HR.out w2 HB2.out).2.1 hrd (HR.out w2 HB2.out).1 (Nat.le_refl _) mm
          have hmQ : mm ≤ Q.length := by have := HL3.out; omega
          by_cases hE : gvE L Q mm = 0
          · have hF : gvF L Q mm = freeL L Q mm := by rw [gvF, if_pos hE, Int.toNat_natCast]
            have hA : gvA L Q mm = aftL L Q mm := by rw [gvA, if_pos hE, Int.toNat_natCast]
            have hok : ok j = true := by rw [HOJ.out, hE]; rfl
            rw [hE, hF, hA] at CG
            have HCG := Lib.hid CG
            have HOKJ := Lib.hid hok
            have hn1 := HV.out.v.one
            have hn2 := HV.out.v.twelve
            have hpb := prOf_bd (C := L) (B := Q) (m := mm) HV2.out.bd (by omega) (by omega)
            have hqr := gQR (C := L) (B := Q) (m := mm) hn1 hn2 hmm hpb.1 hpb.2
            have hpd := fun i => paid_bd (C := L) (B := Q) (m := mm) (i := i) HV.out.v.bd hpb.1 hpb.2
            have hyb := after_bd (hpd i) hqr.2.2.1 hqr.2.2.2.1
            clear CG hrd hP2 hb2 hE hF hA hok hpb hqr hpd hn1 hn2
            go_wp2_with fail
            refine HCG.out.mono ?_
            rintro e w3 ⟨A2, k2, A3, k3, rfl, r2, r3, hb3⟩
            have hfl := freeL_length (C := L) hmQ
            have hal : (aftL L Q mm).length = L.length := (aftL_length L Q mm).trans HL3.out
            rw [hfl, hal]
            have HB3 := Lib.hid (HB2.out.trans (hb3.mono HB2.out.size))
            have HW3 := Lib.hid (HW2.out.trans (hb3.mono HW2.out.size))
            obtain ⟨ub, uoff, u, rfl, _, hu, hui, cu⟩ := (HR.out w3 HB3.out).2.1.at_ q2
            obtain ⟨yb, yoff, y, rfl, _, hy, hyi, cy⟩ := r3.at_ (k := i) (by omega)
            have hyv : y = after L Q mm i := by
              have h2 : (aftL L Q mm)[i]? = some (after L Q mm i) := by simp [aftL, hab]
              rw [h2] at hy
              simpa using hy.symm
            have hub := HV.out.v.bd u (List.mem_of_getElem? hu)
            rw [← hyv] at hyb
            have hst := HGJ.out
            rw [getD_of hu, ← hyv] at hst
            have R2 := Lib.hid r2
            have HFL := Lib.hid hfl
            clear hfl hal hu hui hy hyi hyv r2 r3 hb3 HCG HGJ HOJ
            have e1 : IntKind.i64.wrap (y - u) = y - u := IntWalk.i64_in _ (by omega)
            by_cases hp : place L Q i < mm
            · rw [if_pos hp] at hst
              have hin : decide ((i : Int) ∈ freeL L Q mm) = true := decide_eq_true ((freeL_mem hab).2 hp)
              have hst' := hst.symm
              have HST := Lib.hid hst
              have hgb : -17000000 ≤ gf j ∧ gf j ≤ 17000000 := by omega
              clear hst hst'
              go_wp2
              go_quiet (fail)
              have HW4 : Hid (Below w1.heap.size w1 (w3.drewN nq)) := Lib.hid (below_drewN HW3.out _)
              have R4 : Hid (Rd (w3.drewN nq) (w3.drewN nq).heap.size (A2) (freeL L Q mm)) := Lib.hid R2.out
              clear HW3 HB3 R2 e1 cu cy
              generalize w3.drewN nq = w4 at *
              have CC := contW (cap := k2) R4.out (i : Int)
              rw [hin, HFL.out] at CC
              have HCC := Lib.hid CC
              clear hin CC
              go_wp2_with fail
              refine HCC.out.mono ?_
              rintro e w5 ⟨rfl, rfl⟩
              clear HCC
              have hst := HST.out.symm
              obtain ⟨gj, hgj⟩ : ∃ gj, gf j = gj := ⟨_, rfl⟩
              rw [hgj] at hst hgb
              have HGE := Lib.hid hgj
              clear hgj HST
              rcases hs.out with ⟨rfl, rfl, rfl, rfl⟩ | ⟨rfl, rfl⟩
              · rw [bidUp_first HOKJ.out] at hup
                rw [HGE.out] at hup
                go_wp2
                go_roundw
                case rel => exact ⟨j + 1, m', some ((j : Int), gj), j, gj, true, by have := HJM.out; have := HM.out; omega, by go_num, rfl, rfl, rfl, HW4, Lib.hid (by rw [← hup.out]; rfl), Lib.hid (.inr ⟨rfl, rfl⟩)⟩
                case measure => simp [intOf]; omega
              · by_cases hg : gv < gj
                · rw [bidUp_more HOKJ.out (by rw [HGE.out]; exact hg)] at hup
                  rw [HGE.out] at hup
                  go_wp2
                  go_roundw
                  case rel => exact ⟨j + 1, m', some ((j : Int), gj), j, gj, true, by have := HJM.out; have := HM.out; omega, by go_num, rfl, rfl, rfl, HW4, Lib.hid (by rw [← hup.out]; rfl), Lib.hid (.inr ⟨rfl, rfl⟩)⟩
                  case measure => simp [intOf]; omega
                · rw [bidUp_less (by rw [HGE.out]; exact hg)] at hup
                  go_wp2
                  go_roundw
                  case rel => exact ⟨j + 1, m', some (bv, gv), bv, gv, true, by have := HJM.out; have := HM.out; omega, by go_num, rfl, rfl, rfl, HW4, Lib.hid (by rw [← hup.out]; rfl), Lib.hid (.inr ⟨rfl, rfl⟩)⟩
                  case measure => simp [intOf]; omega
            · rw [if_neg hp, Int.add_zero] at hst
              have hin : decide ((i : Int) ∈ freeL L Q mm) = false := decide_eq_false fun h => hp ((freeL_mem hab).1 h)
              have HST := Lib.hid hst
              have hgb : -17000000 ≤ gf j ∧ gf j ≤ 17000000 := by omega
              clear hst
              go_wp2
              go_quiet (fail)
              have HW4 : Hid (Below w1.heap.size w1 (w3.drewN nq)) := Lib.hid (below_drewN HW3.out _)
              have R4 : Hid (Rd (w3.drewN nq) (w3.drewN nq).heap.size (A2) (freeL L Q mm)) := Lib.hid R2.out
              clear HW3 HB3 R2 e1 cu cy
              generalize w3.drewN nq = w4 at *
              have CC := contW (cap := k2) R4.out (i : Int)
              rw [hin, HFL.out] at CC
              have HCC := Lib.hid CC
              clear hin CC
              go_wp2_with fail
              refine HCC.out.mono ?_
              rintro e w5 ⟨rfl, rfl⟩
              clear HCC
              have hst := HST.out.symm
              obtain ⟨gj, hgj⟩ : ∃ gj, gf j = gj := ⟨_, rfl⟩
              rw [hgj] at hst hgb
              have HGE := Lib.hid hgj
              clear hgj HST
              rcases hs.out with ⟨rfl, rfl, rfl, rfl⟩ | ⟨rfl, rfl⟩
              · rw [bidUp_first HOKJ.out] at hup
                rw [HGE.out] at hup
                go_wp2
                go_roundw
                case rel => exact ⟨j + 1, m', some ((j : Int), gj), j, gj, true, by have := HJM.out; have := HM.out; omega, by go_num, rfl, rfl, rfl, HW4, Lib.hid (by rw [← hup.out]; rfl), Lib.hid (.inr ⟨rfl, rfl⟩)⟩
                case measure => simp [intOf]; omega
              · by_cases hg : gv < gj
                · rw [bidUp_more HOKJ.out (by rw [HGE.out]; exact hg)] at hup
                  rw [HGE.out] at hup
                  go_wp2
                  go_roundw
                  case rel => exact ⟨j + 1, m', some ((j : Int), gj), j, gj, true, by have := HJM.out; have := HM.out; omega, by go_num, rfl, rfl, rfl, HW4, Lib.hid (by rw [← hup.out]; rfl), Lib.hid (.inr ⟨rfl, rfl⟩)⟩
                  case measure => simp [intOf]; omega
                · rw [bidUp_less (by rw [HGE.out]; exact hg)] at hup
                  go_wp2
                  go_roundw
                  case rel => exact ⟨j + 1, m', some (bv, gv), bv, gv, true, by have := HJM.out; have := HM.out; omega, by go_num, rfl, rfl, rfl, HW4, Lib.hid (by rw [← hup.out]; rfl), Lib.hid (.inr ⟨rfl, rfl⟩)⟩
                  case measure => simp [intOf]; omega
          · have hok : ok j = false := by rw [HOJ.out]; exact decide_eq_false hE
            have hne : (gvE L Q mm != 0) = true := by simpa using hE
            have HCG := Lib.hid CG
            rw [bidUp_no hok] at hup
            clear CG hrd hP2 hb2 hE hok
            go_wp2_with fail
            refine HCG.out.mono ?_
            rintro e w3 ⟨A2, k2, A3, k3, rfl, r2, r3, hb3⟩
            have HW3 := Lib.hid (HW2.out.trans (hb3.mono HW2.out.size))
            clear r2 r3 hb3 HCG
            generalize gvE L Q mm = ge at *
            go_wp2
            go_roundw
            case rel => exact ⟨j + 1, m', s, bv, gv, fd, by have := HJM.out; have := HM.out; omega, by go_num, rfl, rfl, rfl, HW3, Lib.hid (by rw [← hup.out]; rfl), hs⟩
            case measure => simp [intOf]; omega
        · obtain rfl : mr = 0 := by have := HJM.out; omega
          have hjt : top + 1 ≤ (j : Int) := by omega
          have hfin := hr.out
          rw [show bidGo ok gf 0 j s = s from rfl, ← hS.out] at hfin
          rcases hs.out with ⟨rfl, rfl, rfl, rfl⟩ | ⟨rfl, rfl⟩
          · have hE := bdE_none HP.out HBB.out hfin.symm
            have hR := bdR_no (C := L) (B := O) (m := mm) (a := i) (wv := wv) (top := top) (by rw [hE]; decide)
            have HE := Lib.hid hE
            have HRR := Lib.hid hR
            clear hE hR hfin hs hr
            go_wp2
            go_ret3
            rw [HRR.out, HE.out]
            exact ⟨rfl, HB1.out.trans (hw.out.mono HB1.out.size)⟩
          · have hE := bdE_ok HP.out HBB.out (by rw [← hfin]; simp)
            have hR := bdR_ok hE hfin.symm
            have HE := Lib.hid hE
            have HRR := Lib.hid hR
            clear hE hR hfin hs hr
            go_wp2
            go_ret3
            rw [HRR.out, HE.out]
            exact ⟨rfl, HB1.out.trans (hw.out.mono HB1.out.size)⟩
  · have hE := bdE_pc (a := a) (wv := wv) (top := top) hp
    rw [bdR_no (by rw [hE]; exact hp), hE]
    have hb : (pcE L O m != 0) = true := by simpa using hp
    clear hp hE h h' hB hC
    generalize pcE L O m = c at *
    go_enter Try.func24, Try.ntmps24
    go_wp2_with (go_at_call 51; refine C1.mono ?_; rintro e w1 ⟨rfl, hb1⟩)
    go_ret3
    exact ⟨rfl, hb1⟩
end Go.Proofs.Ytjgobpejifhphaa
end

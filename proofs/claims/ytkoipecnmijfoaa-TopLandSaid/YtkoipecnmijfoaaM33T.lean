import Derived.Test.YtkoipecnmijfoaaM35a
/-! Texts that were built one by one, in one file. -/
-- holds: W33i W33j S33d S33e W33k

section
/-! Walks: slices.Sort at 12 or fewer integers, slices.Min and slices.Max. -/
namespace Go.Proofs.Ytkoipecnmijfoaa
open Go.RowKit Go.Deep
set_option linter.unusedVariables false
set_option maxRecDepth 100000

def ltI (a b : Int) : Bool := decide (a < b)
theorem less {w : World} (a b : Int) : Calls Try.prog 64 #[.int .i64 a, .int .i64 b] w fun e w' => e = .returned (.bool (ltI a b)) ∧ w = w' := by
  go_enter Try.func64, Try.ntmps64
  go_wp2_with (go_at_call 57; refine (isNaN _).mono ?_; rintro e w' ⟨rfl, rfl⟩)
  go_ret
  exact ⟨ret_bool (by simp [ltI]), rfl⟩

set_option maxRecDepth 100000 in
set_option maxHeartbeats 4000000 in
theorem insOrd {w : World} {g : Nat} {D0 : List Int} {cap : Nat}
    (ho : OwnP w g 3 D0) (hn : 1 ≤ D0.length) (hn2 : D0.length ≤ 40) :
    Calls Try.prog 58 #[.slice (some ⟨g, 0, none⟩) D0.length cap, .int .i64 0, .int .i64 D0.length] w
      fun e w' => e = .returned (.tuple #[]) ∧ OwnP w' g 3 (isort ltI D0) ∧ Below g w w' := by
  have HO := Lib.hid ho
  clear ho
  generalize hN : D0.length = n at *
  have HN := Lib.hid hN
  clear hN
  go_enter Try.func58, Try.ntmps58
  go_wp2
  go_loopw [6] (fun i wr => ∃ (k : Nat) (D R : List Int), 1 ≤ k ∧ k ≤ n ∧ i = .int .i64 k ∧ Hid (D = R.reverse ++ D0.drop k) ∧ Hid (R = isRev ltI [] (D0.take k)) ∧ Hid (OwnP wr g 3 D) ∧ Hid (Below g w wr)) (fun i _ => n - (intOf i).toNat)
  case atStart =>
    obtain ⟨x, t, rfl⟩ : ∃ x t, D0 = x :: t := by
      cases D0 with
      | nil => have := HN.out; simp at this; omega
      | cons x t => exact ⟨x, t, rfl⟩
    exact ⟨1, x :: t, [x], by omega, by omega, rfl, Lib.hid rfl, Lib.hid rfl, HO, Lib.hid (Below.refl _ _)⟩
  case round =>
    obtain ⟨k, D, R, hk1, hk, rfl, hD, hR, hO, hB⟩ := hrel
    by_cases hkn : k < n
    · obtain ⟨v, hv⟩ : ∃ v, D0[k]? = some v := ⟨D0[k]'(by rw [HN.out]; exact hkn), by simp⟩
      have hRl : R.length = k := by rw [hR.out, isRev_length]; simp; have := HN.out; omega
      have hstart : InsAt ltI D R k k v R [] (D0.drop (k + 1)) := by
        have := InsAt.start (lt := ltI) (R := R) (rest := D0.drop (k + 1)) (v := v)
        rw [hRl, ← drop_of hv, ← hD.out] at this
        exact this
      have HV := Lib.hid hv
      have HS := Lib.hid hstart
      have HRL := Lib.hid hRl
      clear hv hstart hRl
      obtain ⟨wo, rfl⟩ : ∃ wo : World, wo = wr := ⟨_, rfl⟩
      go_wp2
      go_loopw [7] (fun jv wi => ∃ (j : Nat) (D' X Y : List Int), j ≤ k ∧ jv = .int .i64 j ∧ Hid (InsAt ltI D' R k j v X Y (D0.drop (k + 1))) ∧ Hid (OwnP wi g 3 D') ∧ Hid (Below g w wi)) (fun jv _ => (intOf jv).toNat)
      case atStart => exact ⟨k, D, R, [], by omega, rfl, HS, hO, hB⟩
      case round =>
        obtain ⟨j, D', X, Y, hj, rfl, hI, hOi, hBi⟩ := hrel
        have hnext : Hid ((X = [] ∨ ∃ x t, X = x :: t ∧ ltI v x = false) → D' = (insRev ltI v R).reverse ++ D0.drop (k + 1)) := Lib.hid hI.out.done
        have hR' : Hid (insRev ltI v R = isRev ltI [] (D0.take (k + 1))) := Lib.hid (by rw [take_succ_of HV.out, isRev_snoc, ← hR.out])
        cases X with
        | nil =>
          have hj0 : j = 0 := by have := hI.out.len; simpa using this.symm
          subst hj0
          have hd : decide ((0 : Int) < 0) = false := by decide
          have hfin := Lib.hid (hnext.out (.inl rfl))
          clear hnext
          go_wp2
          go_quiet (fail)
          go_wp2
          go_roundw
          case rel => exact ⟨k + 1, D', _, by omega, by omega, by go_num, hfin, hR', Lib.hid (hOi.out.drewN _), Lib.hid (below_drewN hBi.out _)⟩
          case measure => simp [intOf]; omega
        | cons x t =>
          obtain ⟨j', hj'⟩ : ∃ j', j = j' + 1 := ⟨t.length, by have := hI.out.len; simp at this; omega⟩
          have hcl : D'[j]? = some v ∧ D'[j']? = some x := by
            have h := hI.out
            rw [hj'] at h ⊢
            exact h.cells
          have c1 := hOi.out.cell hcl.1
          have c2 := hOi.out.cell hcl.2
          have f1 := hOi.out.frozen j
          have f2 := hOi.out.frozen j'
          have HCL := Lib.hid hcl
          clear hcl
          have hjn : j < n := by omega
          have hjn' : j' < n := by omega
          have i1 : (0 : Int) ≤ j := by omega
          have i2 : (j : Int) < n := by omega
          have i3 : (0 : Int) ≤ j' := by omega
          have i4 : (j' : Int) < n := by omega
          have i5 : (0 : Int) < j := by omega
          have HJ := Lib.hid hj'
          have E1 : Hid (IntKind.i64.wrap ((j : Int) - 1) = (j' : Int)) := Lib.hid (by rw [show (j : Int) - 1 = j' by omega]; exact IntWalk.i64_in _ (by omega))
          have hgs := hOi.out.lt
          obtain ⟨bv, hbv⟩ : ∃ bv, bv = ltI v x := ⟨_, rfl⟩
          have CL : Hid (∀ u : World, Calls Try.prog 64 #[.int .i64 v, .int .i64 x] u fun e w' => e = .returned (.bool bv) ∧ w' = u) := Lib.hid (by rw [hbv]; exact fun u => (less v x).mono fun _ _ h => ⟨h.1, h.2.symm⟩)
          have HBV := Lib.hid hbv
          clear hj' hbv
          go_wp2
          have e1 := E1.out
          have dd1 : decide ((0 : Int) < (j : Int)) = true := by simpa using i5
          have dd2 : decide (0 < j) = true := by simp; omega
          have dd3 : 0 < j := by omega
          go_quiet ((go_at_call 64; exact Calls.quiet_of_same (CL.out _)))
          clear e1
          have HO2 := Lib.hid (hOi.out.drewN nq)
          have HB2 := Lib.hid (below_drewN hBi.out nq)
          have k1 : (wr.drewN nq).cell? ⟨g, j, none⟩ = wr.cell? ⟨g, j, none⟩ := rfl
          have k2 : (wr.drewN nq).cell? ⟨g, j', none⟩ = wr.cell? ⟨g, j', none⟩ := rfl
          rw [c1] at k1
          rw [c2] at k2
          clear c1 c2
          generalize wr.drewN nq = w2 at *
          have c1 := k1
          have c2 := k2
          clear k1 k2
          have f1 := HO2.out.frozen j
          have f2 := HO2.out.frozen j'
          cases bv
          · have hlv : ltI v x = false := HBV.out.symm
            have hfin := Lib.hid (hnext.out (.inr ⟨x, t, rfl, hlv⟩))
            clear hlv hnext
            go_wp2
            go_roundw
            case rel => exact ⟨k + 1, D', _, by omega, by omega, by go_num, hfin, hR', HO2, HB2⟩
            case measure => simp [intOf]; omega
          · have hlv : ltI v x = true := HBV.out.symm
            have hsw : InsAt ltI ((D'.set j x).set j' v) R k j' v t (Y ++ [x]) (D0.drop (k + 1)) := by
              have h := hI.out
              rw [HJ.out] at h ⊢
              exact h.swap hlv
            have HSW := Lib.hid hsw
            clear hsw hlv
            go_wp2
            have hs1 := HO2.out.store j x
            have s1 := hs1.cell (i := j') (x := x) (by rw [List.getElem?_set_ne (by have := HJ.out; omega)]; exact HCL.out.2)
            have s2 := hs1.frozen j'
            have HFI := Lib.hid (hs1.store j' v)
            have HBI := Lib.hid ((HB2.out.setCell (p := ⟨g, j, none⟩) (Nat.le_refl _) (.int .i64 x)).setCell (p := ⟨g, j', none⟩) (Nat.le_refl _) (.int .i64 v))
            clear hs1
            have e1 := E1.out
            go_region
            try clear e1
            all_goals go_wp2
            all_goals go_roundw
            case rel => exact ⟨j', _, t, Y ++ [x], by have := HJ.out; omega, int_of (by have := HJ.out; omega), HSW, Lib.hid HFI.out.drew, Lib.hid HBI.out.drew⟩
            case measure => simp [intOf]; omega
    · have hkn' : k = n := by omega
      subst hkn'
      have hfin : OwnP wr g 3 (isort ltI D0) := by
        have h := hO.out
        rw [hD.out, hR.out, List.take_of_length_le (by rw [HN.out]; omega), List.drop_of_length_le (by rw [HN.out]; omega), List.append_nil] at h
        exact h
      have HF := Lib.hid hfin
      clear hfin
      go_wp2
      go_end0
      exact ⟨rfl, HF.out, hB.out⟩
end Go.Proofs.Ytkoipecnmijfoaa
end

section
/-! Walks: slices.Sort at 12 or fewer integers, slices.Min and slices.Max. -/
namespace Go.Proofs.Ytkoipecnmijfoaa
open Go.RowKit Go.Deep
set_option linter.unusedVariables false
set_option maxRecDepth 100000

def SomeInt (w : World) (e : Ending) (w' : World) : Prop := ∃ r : Int, e = .returned (.int .i64 r) ∧ w = w'
set_option maxRecDepth 100000 in
set_option maxHeartbeats 1000000 in
theorem lenW {w : World} {n : Nat} (h : n ≤ 12) : Calls Try.prog 52 #[.int .u64 n] w (SomeInt w) := by
  rcases (show n = 0 ∨ n = 1 ∨ n = 2 ∨ n = 3 ∨ n = 4 ∨ n = 5 ∨ n = 6 ∨ n = 7 ∨ n = 8 ∨ n = 9 ∨ n = 10 ∨ n = 11 ∨ n = 12 by omega) with
    rfl | rfl | rfl | rfl | rfl | rfl | rfl | rfl | rfl | rfl | rfl | rfl | rfl
  all_goals
    go_enter Try.func52, Try.ntmps52
    go_wp2
    go_ret
    exact ⟨_, rfl, rfl⟩

set_option maxHeartbeats 1000000 in
theorem pdq {w : World} {g : Nat} {D0 : List Int} {cap : Nat} (lim : Int) (ho : OwnP w g 3 D0) (hn : 1 ≤ D0.length) (hn2 : D0.length ≤ 12) :
    Calls Try.prog 51 #[.slice (some ⟨g, 0, none⟩) D0.length cap, .int .i64 0, .int .i64 D0.length, .int .i64 lim] w
      fun e w' => e = .returned (.tuple #[]) ∧ OwnP w' g 3 (isort ltI D0) ∧ Below g w w' := by
  have C := insOrd (cap := cap) ho hn (by omega)
  clear ho
  generalize isort ltI D0 = R at *
  generalize D0.length = n at *
  go_enter Try.func51, Try.ntmps51
  go_wp2
  refine wp_loop_rounds 1 ?_
  rw [rounds_succ]
  go_wp2_with (go_at_call 58; refine C.mono ?_; rintro e w1 ⟨rfl, hO, hB⟩)
  exact bodyPost_ret (v := .tuple #[]) (by simp [results, Try.results51, go_sem]) rfl ⟨rfl, hO, hB⟩
set_option maxHeartbeats 1000000 in
theorem pdq0 {w : World} {A : Option Addr} {cap : Nat} (lim : Int) :
    Calls Try.prog 51 #[.slice A 0 cap, .int .i64 0, .int .i64 0, .int .i64 lim] w fun e w' => e = .returned (.tuple #[]) ∧ w = w' := by
  have C : Calls Try.prog 58 #[.slice A 0 cap, .int .i64 0, .int .i64 0] w fun e w' => e = .returned (.tuple #[]) ∧ w = w' := by
    go_enter Try.func58, Try.ntmps58
    go_wp2
    refine wp_loop_rounds 1 ?_
    rw [rounds_succ]
    go_wp2
    go_end0
    exact ⟨rfl, rfl⟩
  go_enter Try.func51, Try.ntmps51
  go_wp2
  refine wp_loop_rounds 1 ?_
  rw [rounds_succ]
  go_wp2_with (go_at_call 58; refine C.mono ?_; rintro e w1 ⟨rfl, rfl⟩)
  exact bodyPost_ret (v := .tuple #[]) (by simp [results, Try.results51, go_sem]) rfl ⟨rfl, rfl⟩
set_option maxHeartbeats 1000000 in
theorem sortInts {w : World} {g : Nat} {D0 : List Int} {cap : Nat} (ho : OwnP w g 3 D0) (hn : 1 ≤ D0.length) (hn2 : D0.length ≤ 12) :
    Calls Try.prog 37 #[.slice (some ⟨g, 0, none⟩) D0.length cap] w
      fun e w' => e = .returned (.tuple #[]) ∧ OwnP w' g 3 (isort ltI D0) ∧ Below g w w' := by
  have C : Hid (∀ lim : Int, Calls Try.prog 51 #[.slice (some ⟨g, 0, none⟩) D0.length cap, .int .i64 0, .int .i64 D0.length, .int .i64 lim] w
      fun e w' => e = .returned (.tuple #[]) ∧ OwnP w' g 3 (isort ltI D0) ∧ Below g w w') := Lib.hid fun lim => pdq lim ho hn hn2
  clear ho
  generalize isort ltI D0 = R at *
  generalize D0.length = n at *
  have CL := lenW (w := w) hn2
  have e0 : IntKind.u64.wrap (n : Int) = n := by
    rcases (show n = 0 ∨ n = 1 ∨ n = 2 ∨ n = 3 ∨ n = 4 ∨ n = 5 ∨ n = 6 ∨ n = 7 ∨ n = 8 ∨ n = 9 ∨ n = 10 ∨ n = 11 ∨ n = 12 by omega) with
      rfl | rfl | rfl | rfl | rfl | rfl | rfl | rfl | rfl | rfl | rfl | rfl | rfl
    all_goals decide
  go_enter Try.func37, Try.ntmps37
  go_wp2_with (first | (go_at_call 52; refine CL.mono ?_; rintro e w' ⟨r, rfl, rfl⟩) | (go_at_call 51; refine (C.out _).mono ?_; rintro e w1 ⟨rfl, hO, hB⟩))
  go_end0
  exact ⟨rfl, hO, hB⟩
set_option maxHeartbeats 1000000 in
theorem sortNone {w : World} {A : Option Addr} {cap : Nat} :
    Calls Try.prog 37 #[.slice A 0 cap] w fun e w' => e = .returned (.tuple #[]) ∧ w = w' := by
  have CL := lenW (w := w) (n := 0) (by omega)
  go_enter Try.func37, Try.ntmps37
  go_wp2_with (first | (go_at_call 52; refine CL.mono ?_; rintro e w' ⟨r, rfl, rfl⟩) | (go_at_call 51; refine (pdq0 _).mono ?_; rintro e w1 ⟨rfl, rfl⟩))
  go_end0
  exact ⟨rfl, rfl⟩


def minL : List Int → Int
  | [] => 0
  | x :: t => t.foldl min x
set_option maxHeartbeats 1000000 in
theorem minW {w : World} {B : Nat} {A : Option Addr} {L : List Int} {cap : Nat} (h : Rd w B A L) (hn : 1 ≤ L.length) :
    Calls Try.prog 38 #[.slice A L.length cap] w fun e w' => e = .returned (.int .i64 (minL L)) ∧ w = w' := by
  have hlen := h.len
  obtain ⟨b, off, x, rfl, hb, hx, hi, hc⟩ := h.at_ (k := 0) (by omega)
  have hst : (L.drop 1).foldl min x = minL L := by
    cases L with
    | nil => simp at hn
    | cons y t => simp at hx; subst hx; rfl
  simp only [Nat.add_zero] at hc
  have H := Lib.hid h
  have HS := Lib.hid hst
  have hpos : 0 < L.length := by omega
  clear h hst hx hi
  go_enter Try.func38, Try.ntmps38
  go_wp2
  go_loop [3, 4] (fun m i => ∃ (k : Nat) (mv : Int), k ≤ L.length ∧ i = .int .i64 k ∧ m = .int .i64 mv ∧ Hid ((L.drop k).foldl min mv = minL L)) (fun _ i => L.length - (intOf i).toNat)
  case atStart => exact ⟨1, x, by omega, rfl, rfl, HS⟩
  case round =>
    obtain ⟨k, mv, hk, rfl, rfl, hr⟩ := hrel
    by_cases hlt : k < L.length
    · obtain ⟨b', off', y, e, hb', hy, hi, hc'⟩ := H.out.at_ hlt
      cases e
      have HY := Lib.hid hy
      have HI := Lib.hid hi
      clear hy hi
      go_wp2
      go_round
      case rel => exact ⟨k + 1, min mv y, by omega, by go_num, int_of (by split <;> omega), Lib.hid (by rw [← hr.out, drop_of HY.out]; rfl)⟩
      case measure => simp [intOf]; omega
    · go_wp2
      go_ret
      exact ⟨ret_int (by rw [← hr.out, drop_end (by omega)]; rfl), rfl⟩

def maxL : List Int → Int
  | [] => 0
  | x :: t => t.foldl max x
set_option maxHeartbeats 1000000 in
theorem maxW {w : World} {B : Nat} {A : Option Addr} {L : List Int} {cap : Nat} (h : Rd w B A L) (hn : 1 ≤ L.length) :
    Calls Try.prog 39 #[.slice A L.length cap] w fun e w' => e = .returned (.int .i64 (maxL L)) ∧ w = w' := by
  have hlen := h.len
  obtain ⟨b, off, x, rfl, hb, hx, hi, hc⟩ := h.at_ (k := 0) (by omega)
  have hst : (L.drop 1).foldl max x = maxL L := by
    cases L with
    | nil => simp at hn
    | cons y t => simp at hx; subst hx; rfl
  simp only [Nat.add_zero] at hc
  have H := Lib.hid h
  have HS := Lib.hid hst
  have hpos : 0 < L.length := by omega
  clear h hst hx hi
  go_enter Try.func39, Try.ntmps39
  go_wp2
  go_loop [3, 4] (fun m i => ∃ (k : Nat) (mv : Int), k ≤ L.length ∧ i = .int .i64 k ∧ m = .int .i64 mv ∧ Hid ((L.drop k).foldl max mv = maxL L)) (fun _ i => L.length - (intOf i).toNat)
  case atStart => exact ⟨1, x, by omega, rfl, rfl, HS⟩
  case round =>
    obtain ⟨k, mv, hk, rfl, rfl, hr⟩ := hrel
    by_cases hlt : k < L.length
    · obtain ⟨b', off', y, e, hb', hy, hi, hc'⟩ := H.out.at_ hlt
      cases e
      have HY := Lib.hid hy
      have HI := Lib.hid hi
      clear hy hi
      go_wp2
      go_round
      case rel => exact ⟨k + 1, max mv y, by omega, by go_num, int_of (by split <;> omega), Lib.hid (by rw [← hr.out, drop_of HY.out]; rfl)⟩
      case measure => simp [intOf]; omega
    · go_wp2
      go_ret
      exact ⟨ret_int (by rw [← hr.out, drop_end (by omega)]; rfl), rfl⟩

theorem foldl_min_lt {a : Int} : ∀ {L : List Int} {m : Int}, L.foldl min m < a ↔ m < a ∨ ∃ x ∈ L, x < a
  | [], m => by simp
  | y :: t, m => by
    rw [List.foldl_cons, foldl_min_lt]
    constructor
    · rintro (h | ⟨x, hx, h⟩)
      · rcases Int.le_total m y with hle | hle
        · rw [Int.min_eq_left hle] at h; exact .inl h
        · rw [Int.min_eq_right hle] at h; exact .inr ⟨y, by simp, h⟩
      · exact .inr ⟨x, by simp [hx], h⟩
    · rintro (h | ⟨x, hx, h⟩)
      · exact .inl (by omega)
      · rcases List.mem_cons.1 hx with rfl | hx
        · exact .inl (by omega)
        · exact .inr ⟨x, hx, h⟩
theorem foldl_max_lt {a : Int} : ∀ {L : List Int} {m : Int}, a < L.foldl max m ↔ a < m ∨ ∃ x ∈ L, a < x
  | [], m => by simp
  | y :: t, m => by
    rw [List.foldl_cons, foldl_max_lt]
    constructor
    · rintro (h | ⟨x, hx, h⟩)
      · rcases Int.le_total m y with hle | hle
        · rw [Int.max_eq_right hle] at h; exact .inr ⟨y, by simp, h⟩
        · rw [Int.max_eq_left hle] at h; exact .inl h
      · exact .inr ⟨x, by simp [hx], h⟩
    · rintro (h | ⟨x, hx, h⟩)
      · exact .inl (by omega)
      · rcases List.mem_cons.1 hx with rfl | hx
        · exact .inl (by omega)
        · exact .inr ⟨x, hx, h⟩
theorem minL_lt {L : List Int} {a : Int} (h : 1 ≤ L.length) : minL L < a ↔ ∃ x ∈ L, x < a := by
  cases L with
  | nil => simp at h
  | cons y t =>
    rw [minL, foldl_min_lt]
    simp
theorem maxL_lt {L : List Int} {a : Int} (h : 1 ≤ L.length) : a < maxL L ↔ ∃ x ∈ L, a < x := by
  cases L with
  | nil => simp at h
  | cons y t =>
    rw [maxL, foldl_max_lt]
    simp
end Go.Proofs.Ytkoipecnmijfoaa
end

section
/-! Plain law: who has a place, and the credits after a holiday. -/
namespace Go.Proofs.Ytkoipecnmijfoaa
set_option linter.unusedVariables false

/-- a list over the agents: new for those ranked among the first k, old for the others -/
def sel (C B : List Int) (k : Nat) (old new : Nat → Int) : List Int := (List.range B.length).map fun i => if place C B i < k then new i else old i
theorem sel_length (C B : List Int) (k : Nat) (old new : Nat → Int) : (sel C B k old new).length = B.length := by simp [sel]
theorem sel_get {C B : List Int} {k i : Nat} {old new : Nat → Int} (h : i < B.length) : (sel C B k old new)[i]? = some (if place C B i < k then new i else old i) := by
  simp [sel, h]
theorem sel_cur {C B : List Int} {k i : Nat} {old new : Nat → Int} (h : i < B.length) (hp : place C B i = k) : (sel C B k old new)[i]? = some (old i) := by
  rw [sel_get h, if_neg (by omega)]
theorem place_inj {C B : List Int} {i j : Nat} (hi : i < B.length) (hj : j < B.length) (h : place C B i = place C B j) : i = j := by
  have h1 := (at_place (C := C) hi).1
  have h2 := (at_place (C := C) hj).1
  rw [h, h2] at h1
  have : (j : Int) = (i : Int) := by simpa using h1
  omega
theorem sel_set {C B : List Int} {k i : Nat} {old new : Nat → Int} (h : i < B.length) (hp : place C B i = k) : (sel C B k old new).set i (new i) = sel C B (k + 1) old new := by
  apply List.ext_getElem?
  intro j
  rcases Nat.lt_or_ge j B.length with hlt | hge
  · by_cases e : j = i
    · subst e
      rw [List.getElem?_set_self (by rw [sel_length]; exact hlt), sel_get hlt, if_pos (by omega)]
    · rw [List.getElem?_set_ne (by omega), sel_get hlt, sel_get hlt]
      have hne : place C B j ≠ k := fun e2 => e (place_inj (C := C) hlt h (by omega))
      by_cases h2 : place C B j < k
      · rw [if_pos h2, if_pos (by omega)]
      · rw [if_neg h2, if_neg (by omega)]
  · rw [List.getElem?_eq_none (by simp [sel_length]; omega), List.getElem?_eq_none (by rw [sel_length]; omega)]
theorem sel_zero (C B : List Int) (old new : Nat → Int) : sel C B 0 old new = (List.range B.length).map old := by simp [sel]
theorem sel_congr {C B : List Int} {k : Nat} {old new old' new' : Nat → Int} (h : ∀ i, i < B.length → (if place C B i < k then new i else old i) = old' i) : sel C B k old new = sel C B 0 old' new' := by
  rw [sel_zero]
  apply List.map_congr_left
  intro i hi
  exact h i (by simpa using hi)
theorem sel_all (C B : List Int) (old new : Nat → Int) : sel C B B.length old new = (List.range B.length).map new := by
  apply List.map_congr_left
  intro i hi
  rw [if_pos (at_place (by simpa using hi)).2]
theorem list_range {L : List Int} {n : Nat} (h : L.length = n) : L = (List.range n).map fun i => L.getD i 0 := by
  apply List.ext_getElem?
  intro j
  rcases Nat.lt_or_ge j n with hlt | hge
  · rw [List.getElem?_map, List.getElem?_range hlt]
    have : L[j]? = some L[j] := by simp
    simp [List.getD, this]
  · rw [List.getElem?_eq_none (by omega), List.getElem?_eq_none (by simp; omega)]

def gQ (C B : List Int) (m : Nat) : Int := prOf C B m * m / C.length
def gR (C B : List Int) (m : Nat) : Int := prOf C B m * m % C.length
/-- what agent i has when the places are paid, and at the end -/
def paid (C B : List Int) (m i : Nat) : Int := C.getD i 0 - (if place C B i < m then prOf C B m else 0)
def extra (C B : List Int) (m i : Nat) : Int := if (C.length : Int) - gR C B m ≤ (place C B i : Int) then 1 else 0
def after (C B : List Int) (m i : Nat) : Int := paid C B m i + gQ C B m + extra C B m i
def aftL (C B : List Int) (m : Nat) : List Int := (List.range B.length).map (after C B m)
def freeL (C B : List Int) (m : Nat) : List Int := ((List.range B.length).filter fun i => decide (place C B i < m)).map fun (i : Nat) => (i : Int)

theorem isRev_le : ∀ (L R : List Int), R.Pairwise (fun a b => b ≤ a) → (isRev ltI R L).Pairwise (fun a b => b ≤ a) := by
  have ins : ∀ (v : Int) (X : List Int), X.Pairwise (fun a b => b ≤ a) → (insRev ltI v X).Pairwise (fun a b => b ≤ a) := by
    intro v X
    induction X with
    | nil => intro _; simp [insRev]
    | cons x t ih =>
      intro h
      rw [List.pairwise_cons] at h
      cases hl : ltI v x
      · rw [insRev_no hl, List.pairwise_cons, List.pairwise_cons]
        have hxv : x ≤ v := by simp [ltI] at hl; exact hl
        refine ⟨?_, h.1, h.2⟩
        intro y hy
        rcases List.mem_cons.1 hy with rfl | hy
        · exact hxv
        · have := h.1 y hy; omega
      · rw [insRev_yes hl, List.pairwise_cons]
        have hvx : v < x := by simpa [ltI] using hl
        refine ⟨?_, ih h.2⟩
        intro y hy
        rcases insRev_mem.1 hy with rfl | hy
        · omega
        · exact h.1 y hy
  intro L
  induction L with
  | nil => intro R h; exact h
  | cons v t ih => intro R h; exact ih _ (ins v R h)
theorem isort_le (D : List Int) : (isort ltI D).Pairwise (fun a b => a ≤ b) := by
  unfold isort
  rw [List.pairwise_reverse]
  exact isRev_le D [] List.Pairwise.nil
theorem freeL_le (C B : List Int) (m : Nat) : (freeL C B m).Pairwise (fun a b => a ≤ b) := by
  unfold freeL
  rw [List.pairwise_map]
  have h : (List.range B.length).Pairwise (fun a b => a < b) := List.pairwise_lt_range
  exact (h.filter _).imp fun {a b} hab => by omega
theorem take_filter {C B : List Int} {m : Nat} (hm : m ≤ B.length) : (rkList C B).filter (fun a => decide (place C B a.toNat < m)) = (rkList C B).take m := by
  have hpl : ∀ (j : Nat) (x : Int), (rkList C B)[j]? = some x → place C B x.toNat = j := by
    intro j x hx
    obtain ⟨i, rfl, hi⟩ := rkList_mem.1 (List.mem_of_getElem? hx)
    rw [Int.toNat_natCast]
    exact (place_at hx).1
  conv => lhs; rw [← List.take_append_drop m (rkList C B)]
  rw [List.filter_append]
  have h1 : ((rkList C B).take m).filter (fun a => decide (place C B a.toNat < m)) = (rkList C B).take m := by
    rw [List.filter_eq_self]
    intro x hx
    obtain ⟨j, hj, e⟩ := List.getElem_of_mem hx
    have hjm : j < m := by
      have h0 := hj
      rw [List.length_take] at h0
      omega
    have hq : (rkList C B)[j]? = some x := by
      have : ((rkList C B).take m)[j]? = some x := by rw [List.getElem?_eq_getElem hj, e]
      rwa [List.getElem?_take_of_lt hjm] at this
    simp [hpl j x hq, hjm]
  have h2 : ((rkList C B).drop m).filter (fun a => decide (place C B a.toNat < m)) = [] := by
    rw [List.filter_eq_nil_iff]
    intro x hx
    obtain ⟨j, hj, e⟩ := List.getElem_of_mem hx
    have hq : (rkList C B)[m + j]? = some x := by
      have : ((rkList C B).drop m)[j]? = some x := by rw [List.getElem?_eq_getElem hj, e]
      rwa [List.getElem?_drop] at this
    simp [hpl _ x hq]
  rw [h1, h2, List.append_nil]
theorem free_sorted {C B : List Int} {m : Nat} (hm : m ≤ B.length) : isort ltI ((rkList C B).take m) = freeL C B m := by
  refine List.Perm.eq_of_pairwise (le := fun a b => a ≤ b) ?_ (isort_le _) (freeL_le C B m) ?_
  · intro a b _ _ h1 h2; omega
  · have h1 := isort_perm ltI ((rkList C B).take m)
    have h2 := (rkList_perm C B).filter (fun a => decide (place C B a.toNat < m))
    rw [take_filter hm] at h2
    refine h1.trans (h2.trans ?_)
    unfold iota freeL
    rw [List.filter_map]
    exact List.Perm.of_eq (by congr 1)
end Go.Proofs.Ytkoipecnmijfoaa
end

section
/-! Plain law: the numbers of Give. -/
namespace Go.Proofs.Ytkoipecnmijfoaa
set_option linter.unusedVariables false

def outOf (x : Int) : Bool := decide (x < -1000000) || decide (1000000 < x)
def gvE (C B : List Int) (m : Int) : Int := if pcE C B m ≠ 0 then pcE C B m else if (aftL C B m.toNat).any outOf then 16 else 0
def gvF (C B : List Int) (m : Int) : List Int := if gvE C B m = 0 then freeL C B m.toNat else []
def gvA (C B : List Int) (m : Int) : List Int := if gvE C B m = 0 then aftL C B m.toNat else []
theorem gvE_pc {C B : List Int} {m : Int} (h : pcE C B m ≠ 0) : gvE C B m = pcE C B m := by rw [gvE, if_pos h]
theorem gvE_out {C B : List Int} {m : Nat} (h : pcE C B m = 0) (h2 : (aftL C B m).any outOf = true) : gvE C B m = 16 := by
  rw [gvE, if_neg (by simp [h]), Int.toNat_natCast, if_pos h2]
theorem gvE_ok {C B : List Int} {m : Nat} (h : pcE C B m = 0) (h2 : (aftL C B m).any outOf = false) : gvE C B m = 0 := by
  rw [gvE, if_neg (by simp [h]), Int.toNat_natCast, h2]; rfl
theorem aftL_length (C B : List Int) (m : Nat) : (aftL C B m).length = B.length := by simp [aftL]
theorem freeL_length {C B : List Int} {m : Nat} (hm : m ≤ B.length) : (freeL C B m).length = m := by
  rw [← free_sorted hm, isort_length]
  simp [rkList_length]; omega
theorem any_out {L : List Int} (h : 1 ≤ L.length) : L.any outOf = (decide (minL L < -1000000) || decide (1000000 < maxL L)) := by
  rw [Bool.eq_iff_iff]
  simp only [List.any_eq_true, outOf, Bool.or_eq_true, decide_eq_true_eq, minL_lt h, maxL_lt h]
  constructor
  · rintro ⟨x, hx, h1 | h1⟩
    · exact .inl ⟨x, hx, h1⟩
    · exact .inr ⟨x, hx, h1⟩
  · rintro (⟨x, hx, h1⟩ | ⟨x, hx, h1⟩)
    · exact ⟨x, hx, .inl h1⟩
    · exact ⟨x, hx, .inr h1⟩
/-- what is paid out to each, and what is left -/
theorem gQR {C B : List Int} {m : Nat} (hC : 1 ≤ C.length) (hC2 : C.length ≤ 12) (hm : m ≤ C.length) (h0 : 0 ≤ prOf C B m) (h1 : prOf C B m ≤ 1000000) :
    0 ≤ prOf C B m * m ∧ prOf C B m * m ≤ 12000000 ∧ 0 ≤ gQ C B m ∧ gQ C B m ≤ 12000000 ∧ 0 ≤ gR C B m ∧ gR C B m < C.length
    ∧ (prOf C B m * m).tdiv C.length = gQ C B m ∧ (prOf C B m * m).tmod C.length = gR C B m := by
  have a1 : 0 ≤ prOf C B m * m := Int.mul_nonneg h0 (by omega)
  have a2 : prOf C B m * m ≤ 12000000 := by
    have : prOf C B m * m ≤ 1000000 * 12 := Int.mul_le_mul h1 (by omega) (by omega) (by omega)
    omega
  unfold gQ gR
  have b1 := Int.ediv_nonneg a1 (show (0 : Int) ≤ C.length by omega)
  have b2 := Int.ediv_le_self (C.length : Int) a1
  exact ⟨a1, a2, b1, by omega, Int.emod_nonneg _ (by omega), Int.emod_lt_of_pos _ (by omega), Int.tdiv_eq_ediv_of_nonneg a1, Int.tmod_eq_emod_of_nonneg a1⟩
theorem paid_bd {C B : List Int} {m i : Nat} (hC : ∀ x ∈ C, -1000000 ≤ x ∧ x ≤ 1000000) (h0 : 0 ≤ prOf C B m) (h1 : prOf C B m ≤ 1000000) : -2000000 ≤ paid C B m i ∧ paid C B m i ≤ 1000000 := by
  unfold paid
  have : -1000000 ≤ C.getD i 0 ∧ C.getD i 0 ≤ 1000000 := by
    rcases Nat.lt_or_ge i C.length with h | h
    · have := hC _ (List.getElem_mem h)
      simpa [List.getD, h] using this
    · simp [List.getD, List.getElem?_eq_none h]
  split <;> omega
theorem after_bd {C B : List Int} {m i : Nat} (hp : -2000000 ≤ paid C B m i ∧ paid C B m i ≤ 1000000) (h0 : 0 ≤ gQ C B m) (h1 : gQ C B m ≤ 12000000) : -2000000 ≤ after C B m i ∧ after C B m i ≤ 13000001 := by
  unfold after extra
  split <;> omega
theorem aftL_i64 {C B : List Int} {m : Nat} (hp : ∀ i, -2000000 ≤ paid C B m i ∧ paid C B m i ≤ 1000000) (h0 : 0 ≤ gQ C B m) (h1 : gQ C B m ≤ 12000000) : ∀ x ∈ aftL C B m, -9223372036854775808 ≤ x ∧ x ≤ 9223372036854775807 := by
  intro x hx
  simp only [aftL, List.mem_map] at hx
  obtain ⟨i, _, rfl⟩ := hx
  have := after_bd (hp i) h0 h1
  omega
theorem freeL_i64 {C B : List Int} {m : Nat} (h : B.length ≤ 40) : ∀ x ∈ freeL C B m, -9223372036854775808 ≤ x ∧ x ≤ 9223372036854775807 := by
  intro x hx
  simp only [freeL, List.mem_map, List.mem_filter, List.mem_range] at hx
  obtain ⟨i, ⟨hi, _⟩, rfl⟩ := hx
  omega
/-- the clone, before any place is paid, and behind the last -/
theorem sel_paid {C B : List Int} {m : Nat} (hl : C.length = B.length) : sel C B 0 (fun i => C.getD i 0) (fun i => C.getD i 0 - prOf C B m) = C
    ∧ sel C B m (fun i => C.getD i 0) (fun i => C.getD i 0 - prOf C B m) = sel C B 0 (paid C B m) (after C B m) := by
  refine ⟨by rw [sel_zero]; exact (list_range hl).symm, sel_congr fun i hi => ?_⟩
  unfold paid
  split <;> omega
theorem sel_aft (C B : List Int) (m : Nat) : sel C B B.length (paid C B m) (after C B m) = aftL C B m := sel_all _ _ _ _
end Go.Proofs.Ytkoipecnmijfoaa
end

section
/-! The walk of holiday's Give. -/
namespace Go.Proofs.Ytkoipecnmijfoaa
open Go.RowKit Go.Deep
set_option linter.unusedVariables false
set_option maxRecDepth 100000

/-- the results (who has a place, the credits, an error), in the world behind the call -/
def GiveRes (w : World) (P Q : List Int) (c : Int) (e : Ending) (w' : World) : Prop :=
  ∃ A cap A' cap', e = .returned (.tuple #[.slice A P.length cap, .slice A' Q.length cap', .int .i64 c]) ∧ Rd w' w'.heap.size A P ∧ Rd w' w'.heap.size A' Q ∧ Below w.heap.size w w'

/-- the same, and both lists lie in new blocks -/
def GiveResX (w : World) (P Q : List Int) (c : Int) (e : Ending) (w' : World) : Prop :=
  ∃ A cap A' cap', e = .returned (.tuple #[.slice A P.length cap, .slice A' Q.length cap', .int .i64 c]) ∧ Rd w' w'.heap.size A P ∧ Rd w' w'.heap.size A' Q ∧ Below w.heap.size w w'
    ∧ (∀ p, A = some p → w.heap.size ≤ p.block) ∧ (∀ p, A' = some p → w.heap.size ≤ p.block)
theorem GiveResX.res {w : World} {P Q : List Int} {c : Int} {e : Ending} {w' : World} (h : GiveResX w P Q c e w') : GiveRes w P Q c e w' := by
  obtain ⟨A, cap, A', cap', h1, h2, h3, h4, _⟩ := h
  exact ⟨A, cap, A', cap', h1, h2, h3, h4⟩
theorem noFresh (w : World) : (∀ p : Addr, (none : Option Addr) = some p → w.heap.size ≤ p.block) := fun p hp => by cases hp

theorem Rd.far {w : World} {B : Nat} {A : Option Addr} {L : List Int} (h : Rd w B A L) {q : Addr} (hq : ∀ p, A = some p → p.block ≠ q.block) (u : Value) : Rd (w.setCell q u) B A L :=
  ⟨h.1, h.2.1, fun hn => by
    obtain ⟨b, off, e, hb, hc⟩ := h.2.2 hn
    refine ⟨b, off, e, hb, fun i x hx => ?_⟩
    have hne := hq _ e
    rw [← hc i x hx]
    exact World.cell?_of_block (w := w) (Below.heap_setCell _ _ _ _ hne)⟩
/-- the list of those with a place is sorted -/
theorem sortAny {w : World} {base : Nat} {v : Value} {C B : List Int} {m : Nat} (ho : w.ownsRow base 3 1 v m (((rkList C B).take m).map (Value.int .i64))) (hm : m ≤ B.length) (hB : B.length ≤ 12) :
    ∃ A c, v = .slice A m c ∧ (∀ p, A = some p → base ≤ p.block) ∧ Calls Try.prog 37 #[.slice A m c] w
      fun e w' => e = .returned (.tuple #[]) ∧ Rd w' w'.heap.size A (freeL C B m) ∧ Below base w w' := by
  have hlen : ((rkList C B).take m).length = m := by rw [List.length_take, rkList_length]; omega
  have hfl := freeL_length (C := C) hm
  by_cases h0 : m = 0
  · subst h0
    have hf : freeL C B 0 = [] := List.length_eq_zero_iff.1 hfl
    have hs : ∃ A c, v = .slice A 0 c ∧ (∀ p, A = some p → base ≤ p.block) := by
      rcases ho.2 with ⟨e, _⟩ | ⟨g, cap, cur, e, hb, _⟩
      · exact ⟨none, 0, e, by intro p h; cases h⟩
      · exact ⟨_, cap, e, by intro p h; cases h; exact hb⟩
    obtain ⟨A, c, e, hA⟩ := hs
    refine ⟨A, c, e, hA, sortNone.mono ?_⟩
    rintro e w' ⟨rfl, rfl⟩
    exact ⟨rfl, by rw [hf]; exact Rd.nil _ _ _, Below.refl _ _⟩
  · have ho' : w.ownsRow base 3 1 v ((rkList C B).take m).length (((rkList C B).take m).map (Value.int .i64)) := by rw [hlen]; exact ho
    obtain ⟨g, c, e, hg, hP⟩ := ownP_of_row ho' (by omega)
    rw [hlen] at e
    have CS := sortInts (cap := c) hP (by omega) (by omega)
    rw [hlen, free_sorted hm] at CS
    refine ⟨_, c, e, by intro p h; cases h; exact hg, CS.mono ?_⟩
    rintro e w' ⟨rfl, hO, hb⟩
    exact ⟨rfl, hO.rd (freeL_i64 (by omega)) (by omega) hO.lt, hb.mono hg⟩

theorem getD_bd {C : List Int} {i : Nat} (h : i < C.length) (hC : ∀ x ∈ C, -1000000 ≤ x ∧ x ≤ 1000000) : -1000000 ≤ C.getD i 0 ∧ C.getD i 0 ≤ 1000000 := by
  have := hC _ (List.getElem_mem h)
  simpa [List.getD, h] using this

set_option maxRecDepth 100000 in
set_option maxHeartbeats 1000000 in
theorem hGiveX {w : World} {B C : Nat} {A A' : Option Addr} {L O : List Int} {cap cap' : Nat} (h : Rd w B A L) (h' : Rd w C A' O) (hB : B ≤ w.heap.size) (hC : C ≤ w.heap.size) (m : Int) :
    Calls Try.prog 20 #[.slice A L.length cap, .slice A' O.length cap', .int .i64 m] w (GiveResX w (gvF L O m) (gvA L O m) (gvE L O m)) := by
  have C1 := hPrice (cap := cap) (cap' := cap') h h' hB hC m
  by_cases he : pcE L O m = 0
  · obtain ⟨hl, g0, g1⟩ := pcE_zero he
    obtain ⟨m, rfl⟩ := Int.eq_ofNat_of_zero_le g0
    have hV := hlk_ok hl
    have hn := hV.v.one
    have hn2 := hV.v.twelve
    have hlen := hV.len
    have hml : m ≤ L.length := by omega
    have hpb := prOf_bd (C := L) (B := O) (m := m) hV.bd (by omega) (by omega)
    have hqr := gQR (C := L) (B := O) (m := m) hn hn2 hml hpb.1 hpb.2
    rw [pcV, if_pos he, he] at C1
    have HR := Lib.hid (fun (u : World) (hu : Below w.heap.size w u) => And.intro ((h.more hB).below hu (Nat.le_refl _)) ((h'.more hC).below hu (Nat.le_refl _)))
    have HE := Lib.hid he
    have HV := Lib.hid hV
    have HPB := Lib.hid hpb
    have HQR := Lib.hid hqr
    have HLEN := Lib.hid hlen
    have hm2 : m ≤ O.length := by omega
    have ho1 : 1 ≤ O.length := by omega
    have ho2 : O.length ≤ 12 := by omega
    clear h h' hB hC he hl g0 g1 hV hpb hqr hlen
    obtain ⟨i0, hi, hz0, hz1, hz2⟩ := info_parts infoInt'
    have HI := Lib.hid hi
    clear hi
    go_enter Try.func20, Try.ntmps20
    go_wp2_with fail
    refine C1.mono ?_
    rintro e w1 ⟨rfl, hb1⟩
    clear C1
    have HB1 := Lib.hid hb1
    clear hb1
    have H1 := HR.out w1 HB1.out
    have C2 := rankX (cap1 := cap) (cap2 := cap') H1.1 H1.2 HB1.out.size HLEN.out (by omega) (by omega)
    go_wp2_with fail
    refine C2.mono ?_
    rintro e w2 ⟨gl, rfl, hgl, hP, hb2⟩
    rw [rkList_length]
    clear C2 H1
    have HB2 := Lib.hid (HB1.out.trans (hb2.mono HB1.out.size))
    have hrd := rk_rd hP (by omega)
    have hgl2 := hP.lt
    have HRK := Lib.hid (fun (u : World) (hu : Below w2.heap.size w2 u) => hrd.below hu (Nat.le_refl _))
    have HGL := Lib.hid hgl2
    clear hb2 hP hrd hgl hgl2
    have H2 := HR.out w2 HB2.out
    have C3 := clone (cap := cap) H2.1 HB2.out.size (by omega)
    go_wp2_with fail
    refine C3.mono ?_
    rintro e w3 ⟨g, cg, rfl, hg, hP3, hb3⟩
    clear C3 H2
    have HB3 := Lib.hid (HB2.out.trans (hb3.mono HB2.out.size))
    have HB23 := Lib.hid hb3
    have HP3 := Lib.hid hP3
    have HG := Lib.hid hg
    have HG3 := Lib.hid hP3.lt
    clear hb3 hP3 hg
    go_wp2
    have hsp := sel_paid (C := L) (B := O) (m := m) HLEN.out.symm
    have HSP := Lib.hid hsp
    have hst : OwnP w3 g 3 (sel L O 0 (fun i => L.getD i 0) (fun i => L.getD i 0 - prOf L O m)) := by rw [hsp.1]; exact HP3.out
    have HST := Lib.hid hst
    clear hsp hst
    go_loopw [6, 36] (fun f i wr => ∃ k : Nat, k ≤ m ∧ i = .int .i64 k ∧ Hid (wr.ownsRow w3.heap.size 3 1 f k (((rkList L O).take k).map (Value.int .i64)))
      ∧ Hid (OwnP wr g 3 (sel L O k (fun i => L.getD i 0) (fun i => L.getD i 0 - prOf L O m))) ∧ Hid (Below w2.heap.size w2 wr) ∧ Hid (w3.heap.size ≤ wr.heap.size)) (fun _ i _ => m - (intOf i).toNat)
    case atStart => exact ⟨0, by omega, rfl, Lib.hid (own_row_nil _ _ _), HST, HB23, Lib.hid (Nat.le_refl _)⟩
    case round =>
      obtain ⟨k, hk, rfl, ho, hp, hb, hsz⟩ := hrel
      by_cases hlt : k < m
      · obtain ⟨a, ha, hal, hpl⟩ := rk_nat (C := L) (B := O) (k := k) (by omega)
        obtain ⟨b, off, e1, hbb, hcc⟩ := (HRK.out wr hb.out).2.2 (by rw [rkList_length]; omega)
        cases e1
        have ck := hcc k a ha
        simp only [Nat.zero_add] at ck
        have hx := getD_bd (i := a) (by have := HLEN.out; omega) HV.out.v.bd
        have hcur := sel_cur (C := L) (B := O) (k := k) (old := fun i => L.getD i 0) (new := fun i => L.getD i 0 - prOf L O m) hal hpl
        have hnx := sel_set (C := L) (B := O) (k := k) (old := fun i => L.getD i 0) (new := fun i => L.getD i 0 - prOf L O m) hal hpl
        have htk : (rkList L O).take (k + 1) = (rkList L O).take k ++ [(a : Int)] := by rw [List.take_add_one, ha]; rfl
        have HA := Lib.hid ha
        have HCU := Lib.hid hcur
        have HNX := Lib.hid hnx
        have HTK := Lib.hid htk
        have HCK := Lib.hid hcc
        have hpb := HPB.out
        clear ha hcur hnx htk hcc hpl
        generalize hxx : L.getD a 0 = x at *
        have HXX := Lib.hid hxx
        clear hxx
        have hwz : Hid ((wr.alloc (.cells #[.int .i64 a] 3)).heap.size = wr.heap.size + 1) := Lib.hid (by simp)
        have hoz := Lib.hid (ho.out.alloc (.cells #[.int .i64 a] 3))
        have hpz := Lib.hid (hp.out.alloc (.cells #[.int .i64 a] 3))
        have hbz := Lib.hid (hb.out.alloc (Nat.le_trans HB23.out.size hsz.out) (.cells #[.int .i64 a] 3))
        have hcz : Hid (∀ (j : Nat) (u : Value), ([(Value.int .i64 a)])[j]? = some u → (wr.alloc (.cells #[.int .i64 a] 3)).cell? ((⟨wr.heap.size, 0, none⟩ : Addr).add j) = some u) := Lib.hid (by
          intro j u hu
          rw [addr_add]
          cases j with
          | zero => simp at hu; subst hu; simp
          | succ j => simp at hu)
        generalize hgw : wr.alloc (.cells #[.int .i64 a] 3) = wa at *
        have HGW := Lib.hid hgw
        clear hgw
        have hgw := HGW.out
        go_wp2_with (at_builtin; refine wpList_append_own _ rfl _ _ 23 rfl w3.heap.size 3 i0 (.int .i64 0) 1 8 Try.underlying23 HI.out hz0 hz1 hz2 rfl (by decide) _ k _ rfl hoz.out ⟨wr.heap.size, 0, none⟩ 1 1 [.int .i64 a] rfl (by simp) hcz.out (by simp [Value.oneCell']) (by unfold maxLen; omega) (by omega) (by rw [hwz.out]; have := hsz.out; omega) ?_)
        intro v' w5 hown hgrow _
        have hb5 : Below w3.heap.size wa w5 := (Below.refl _ wa).grown hgrow (by rw [hwz.out]; have := hsz.out; omega) (fun q hq => (hoz.out.lt q hq).1)
        have hp5 := hpz.out.below hb5 HG3.out
        have c5 := hp5.cell HCU.out
        have f5 := hp5.frozen a
        have hp6 := Lib.hid (hp5.store a (x - prOf L O m))
        have ho6 := Lib.hid (ownsRow_setCell_below hown (a := ⟨g, a, none⟩) HG3.out (.int .i64 (x - prOf L O m)))
        have hb6 := Lib.hid ((hbz.out.trans (hb5.mono HB23.out.size)).setCell (p := ⟨g, a, none⟩) HG.out (.int .i64 (x - prOf L O m)))
        have hs6 : Hid (w3.heap.size ≤ (w5.setCell ⟨g, a, none⟩ (.int .i64 (x - prOf L O m))).heap.size) := Lib.hid (by
          have := hb5.size
          have := hwz.out
          have := hsz.out
          simp only [World.size_setCell]
          omega)
        rw [HNX.out] at hp6
        have hlist : (((rkList L O).take k).map (Value.int .i64) ++ [.int .i64 (a : Int)]) = ((rkList L O).take (k + 1)).map (Value.int .i64) := by rw [HTK.out]; simp
        have HLI := Lib.hid hlist
        have hk1 : a < L.length := by have := HLEN.out; omega
        clear hown hgrow hb5 hp5 hlist hgw ho hp hb hoz hpz hbz hcz ck
        go_wp2
        go_roundw
        case rel =>
          exact ⟨k + 1, by omega, by go_num, Lib.hid (by rw [← HLI.out]; simpa using ho6.out), hp6, hb6, hs6⟩
        case measure => simp [intOf]; omega
      · obtain rfl : k = m := by omega
        obtain ⟨fa, fc, rfl, hfa, CS⟩ := sortAny ho.out hm2 ho2
        have hp0 := hp.out
        rw [HSP.out.2] at hp0
        have HP0 := Lib.hid hp0
        have HFA := Lib.hid hfa
        clear hp0 hp ho hfa HST HP3
        go_wp2_with fail
        refine CS.mono ?_
        rintro e w5 ⟨rfl, hrf, hb5⟩
        have HRF := Lib.hid hrf
        have HP5 := Lib.hid (HP0.out.below hb5 HG3.out)
        have HB5 := Lib.hid (hb.out.trans (hb5.mono HB23.out.size))
        clear CS hrf hb5 HP0 hb hsz
        go_wp2_with fail
        have hqr := HQR.out
        rw [← HLEN.out] at hqr
        have HQ2 := Lib.hid hqr
        clear HQR hqr
        have d0 : ((O.length : Int) == 0) = false := beq_eq_false_iff_ne.2 (by omega)
        have d1 : (O.length == 0) = false := beq_eq_false_iff_ne.2 (by omega)
        have e1 : IntKind.i64.wrap (prOf L O k * k) = prOf L O k * k := IntWalk.i64_in _ (by have := HQ2.out.1; have := HQ2.out.2.1; omega)
        have e2 := HQ2.out.2.2.2.2.2.2.1
        have e3 := HQ2.out.2.2.2.2.2.2.2
        have e4 : IntKind.i64.wrap (gQ L O k) = gQ L O k := IntWalk.i64_in _ (by have := HQ2.out.2.2.1; have := HQ2.out.2.2.2.1; omega)
        have e5 : IntKind.i64.wrap (gR L O k) = gR L O k := IntWalk.i64_in _ (by have := HQ2.out.2.2.2.2.1; have := HQ2.out.2.2.2.2.2.1; omega)
        go_quiet (fail)
        clear d0 d1 e1 e2 e3 e4 e5
        have HB6 : Hid (Below w2.heap.size w2 (w5.drewN nq)) := Lib.hid (below_drewN HB5.out _)
        have HP6 : Hid (OwnP (w5.drewN nq) g 3 (sel L O 0 (paid L O k) (after L O k))) := Lib.hid (HP5.out.drewN nq)
        have HRF6 : Hid (Rd (w5.drewN nq) (w5.drewN nq).heap.size fa (freeL L O k)) := Lib.hid HRF.out
        clear HB5 HP5 HRF
        generalize w5.drewN nq = w6 at *
        go_wp2
        go_loopw [68] (fun i wr => ∃ j : Nat, j ≤ O.length ∧ i = .int .i64 j ∧ Hid (OwnP wr g 3 (sel L O j (paid L O k) (after L O k)))
          ∧ Hid (Below w2.heap.size w2 wr) ∧ Hid (Rd wr wr.heap.size fa (freeL L O k))) (fun i _ => O.length - (intOf i).toNat)
        case atStart => exact ⟨0, by omega, rfl, HP6, HB6, HRF6⟩
        case round =>
          clear HP6 HB6 HRF6
          obtain ⟨j, hj, rfl, hp, hb, hf⟩ := hrel
          by_cases hjl : j < O.length
          · obtain ⟨a, ha, hal, hpl⟩ := rk_nat (C := L) (B := O) (k := j) hjl
            obtain ⟨b, off, e1, hbb, hcc⟩ := (HRK.out wr hb.out).2.2 (by rw [rkList_length]; omega)
            cases e1
            have ck := hcc j a ha
            simp only [Nat.zero_add] at ck
            have hpd := paid_bd (C := L) (B := O) (m := k) (i := a) HV.out.v.bd HPB.out.1 HPB.out.2
            have hcur := hp.out.cell (sel_cur (C := L) (B := O) (k := j) (old := paid L O k) (new := after L O k) hal hpl)
            have hfr := hp.out.frozen a
            have hnx := sel_set (C := L) (B := O) (k := j) (old := paid L O k) (new := after L O k) hal hpl
            have hal2 : a < L.length := by have := HLEN.out; omega
            have hq0 := HQ2.out.2.2.1
            have hq1 := HQ2.out.2.2.2.1
            have hr0 := HQ2.out.2.2.2.2.1
            have hr1 := HQ2.out.2.2.2.2.2.1
            by_cases hx : (O.length : Int) - gR L O k ≤ j
            · have haf : after L O k a = paid L O k a + gQ L O k + 1 := by
                unfold after extra
                rw [if_pos (by have := HLEN.out; omega)]
              have hst1 := hp.out.store a (paid L O k a + gQ L O k)
              have c2 := hst1.cell (i := a) (x := paid L O k a + gQ L O k) (by rw [List.getElem?_set_self (by rw [sel_length]; exact hal)])
              have f2 := hst1.frozen a
              have hst := hst1.store a (paid L O k a + gQ L O k + 1)
              rw [List.set_set, ← haf, hnx] at hst
              have HST2 := Lib.hid hst
              have HB2' := Lib.hid ((hb.out.setCell (p := ⟨g, a, none⟩) HG.out (.int .i64 (paid L O k a + gQ L O k))).setCell (p := ⟨g, a, none⟩) HG.out (.int .i64 (after L O k a)))
              have hfar : ∀ p, fa = some p → p.block ≠ (⟨g, a, none⟩ : Addr).block := fun p hp => by have := HFA.out p hp; have := HG3.out; show p.block ≠ g; omega
              have HF2 := Lib.hid ((hf.out.far hfar (.int .i64 (paid L O k a + gQ L O k))).far hfar (.int .i64 (after L O k a)))
              rw [haf] at HST2 HB2' HF2
              clear hst1 hst hnx ha hcc hp hb hf haf hpl
              go_wp2
              go_roundw
              case rel => exact ⟨j + 1, by omega, by go_num, HST2, HB2', by simpa only [World.size_setCell] using HF2⟩
              case measure => simp [intOf]; omega
            · have haf : after L O k a = paid L O k a + gQ L O k := by
                unfold after extra
                rw [if_neg (by have := HLEN.out; omega)]
                omega
              have hst := hp.out.store a (paid L O k a + gQ L O k)
              rw [← haf, hnx] at hst
              have HST2 := Lib.hid hst
              have HB2' := Lib.hid (hb.out.setCell (p := ⟨g, a, none⟩) HG.out (.int .i64 (after L O k a)))
              have hfar : ∀ p, fa = some p → p.block ≠ (⟨g, a, none⟩ : Addr).block := fun p hp => by have := HFA.out p hp; have := HG3.out; show p.block ≠ g; omega
              have HF2 := Lib.hid (hf.out.far hfar (.int .i64 (after L O k a)))
              rw [haf] at HST2 HB2' HF2
              clear hst hnx ha hcc hp hb hf haf hpl
              go_wp2
              go_roundw
              case rel => exact ⟨j + 1, by omega, by go_num, HST2, HB2', by simpa only [World.size_setCell] using HF2⟩
              case measure => simp [intOf]; omega
          · obtain rfl : j = O.length := by omega
            have hpp := hp.out
            rw [sel_aft] at hpp
            have hal := aftL_length L O k
            have hpd := fun i => paid_bd (C := L) (B := O) (m := k) (i := i) HV.out.v.bd HPB.out.1 HPB.out.2
            have hrd : Rd wr wr.heap.size (some ⟨g, 0, none⟩) (aftL L O k) := hpp.rd (aftL_i64 hpd HQ2.out.2.2.1 HQ2.out.2.2.2.1) (by omega) hpp.lt
            have CMin := minW (cap := cg) hrd (by omega)
            have CMax := maxW (cap := cg) hrd (by omega)
            rw [hal, HLEN.out] at CMin CMax
            have hout := any_out (L := aftL L O k) (by omega)
            have HRD := Lib.hid hrd
            have hfl := freeL_length (C := L) hm2
            have HB0 := Lib.hid (HB2.out.trans (hb.out.mono HB2.out.size))
            cases hbad : (aftL L O k).any outOf
            · have hE := gvE_ok HE.out hbad
              rw [hbad] at hout
              have hF : gvF L O k = freeL L O k := by rw [gvF, if_pos hE, Int.toNat_natCast]
              have hA : gvA L O k = aftL L O k := by rw [gvA, if_pos hE, Int.toNat_natCast]
              have o1 : ¬ minL (aftL L O k) < -1000000 := by intro h; simp [h] at hout
              have o2 : ¬ 1000000 < maxL (aftL L O k) := by intro h; simp [h] at hout
              clear hout hpp hrd hp hb hpd
              go_wp2_with (first | (go_at_call 38; refine CMin.mono ?_; rintro e w7 ⟨rfl, rfl⟩) | (go_at_call 39; refine CMax.mono ?_; rintro e w7 ⟨rfl, rfl⟩))
              go_ret3
              rw [hE, hF, hA]
              exact ⟨fa, fc, some ⟨g, 0, none⟩, cg, by rw [hfl, hal.trans HLEN.out]; rfl, hf.out, HRD.out, HB0.out, fun p hp => Nat.le_trans (Nat.le_trans HB2.out.size HB23.out.size) (HFA.out p hp), fun p hp => by cases hp; exact Nat.le_trans HB2.out.size HG.out⟩
            · have hE := gvE_out HE.out hbad
              rw [hbad] at hout
              have hF : gvF L O k = [] := by rw [gvF, hE, if_neg (by decide)]
              have hA : gvA L O k = [] := by rw [gvA, hE, if_neg (by decide)]
              clear hpp hrd hp hb hpd
              by_cases o1 : minL (aftL L O k) < -1000000
              · clear hout
                go_wp2_with (first | (go_at_call 38; refine CMin.mono ?_; rintro e w7 ⟨rfl, rfl⟩) | (go_at_call 39; refine CMax.mono ?_; rintro e w7 ⟨rfl, rfl⟩))
                go_ret3
                rw [hE, hF, hA]
                exact ⟨none, 0, none, 0, rfl, Rd.nil _ _ _, Rd.nil _ _ _, HB0.out, noFresh _, noFresh _⟩
              · have o2 : 1000000 < maxL (aftL L O k) := by
                  rw [eq_comm, Bool.or_eq_true] at hout
                  rcases hout with h | h
                  · exact absurd (of_decide_eq_true h) o1
                  · exact of_decide_eq_true h
                clear hout
                go_wp2_with (first | (go_at_call 38; refine CMin.mono ?_; rintro e w7 ⟨rfl, rfl⟩) | (go_at_call 39; refine CMax.mono ?_; rintro e w7 ⟨rfl, rfl⟩))
                go_ret3
                rw [hE, hF, hA]
                exact ⟨none, 0, none, 0, rfl, Rd.nil _ _ _, Rd.nil _ _ _, HB0.out, noFresh _, noFresh _⟩
  · have hE := gvE_pc he
    rw [pcV, if_neg he] at C1
    have hF : gvF L O m = [] := by rw [gvF, hE, if_neg he]
    have hA : gvA L O m = [] := by rw [gvA, hE, if_neg he]
    rw [hE, hF, hA]
    have hb : (pcE L O m != 0) = true := by simpa using he
    clear he h h' hE hF hA
    generalize pcE L O m = c at *
    go_enter Try.func20, Try.ntmps20
    go_wp2_with fail
    refine C1.mono ?_
    rintro e w1 ⟨rfl, hb1⟩
    go_wp2
    go_ret3
    exact ⟨none, 0, none, 0, rfl, Rd.nil _ _ _, Rd.nil _ _ _, hb1, noFresh _, noFresh _⟩
theorem hGive {w : World} {B C : Nat} {A A' : Option Addr} {L O : List Int} {cap cap' : Nat} (h : Rd w B A L) (h' : Rd w C A' O) (hB : B ≤ w.heap.size) (hC : C ≤ w.heap.size) (m : Int) :
    Calls Try.prog 20 #[.slice A L.length cap, .slice A' O.length cap', .int .i64 m] w (GiveRes w (gvF L O m) (gvA L O m) (gvE L O m)) :=
  (hGiveX h h' hB hC m).mono fun _ _ h => h.res
end Go.Proofs.Ytkoipecnmijfoaa
end

import Derived.Test.YtipidlonidihbaaW33i
/-! Walks: slices.Sort at 12 or fewer integers, slices.Min and slices.Max. -/
namespace Go.Proofs.Ytipidlonidihbaa
open Go.RowKit Go.Deep
set_option linter.unusedVariables false
set_option maxRecDepth 100000

def SomeInt (w : World) (e : Ending) (w' : World) : Prop := ∃ r : Int, e = .returned (.int .i64 r) ∧ w = w'
set_option maxRecDepth 100000 in
set_option maxHeartbeats 1000000 in
theorem lenW {w : World} {n : Nat} (h : n ≤ 12) : Calls Try.prog 47 #[.int .u64 n] w (SomeInt w) := by
  rcases (show n = 0 ∨ n = 1 ∨ n = 2 ∨ n = 3 ∨ n = 4 ∨ n = 5 ∨ n = 6 ∨ n = 7 ∨ n = 8 ∨ n = 9 ∨ n = 10 ∨ n = 11 ∨ n = 12 by omega) with
    rfl | rfl | rfl | rfl | rfl | rfl | rfl | rfl | rfl | rfl | rfl | rfl | rfl
  all_goals
    go_enter Try.func47, Try.ntmps47
    go_wp2
    go_ret
    exact ⟨_, rfl, rfl⟩

set_option maxHeartbeats 1000000 in
theorem pdq {w : World} {g : Nat} {D0 : List Int} {cap : Nat} (lim : Int) (ho : OwnP w g 3 D0) (hn : 1 ≤ D0.length) (hn2 : D0.length ≤ 12) :
    Calls Try.prog 46 #[.slice (some ⟨g, 0, none⟩) D0.length cap, .int .i64 0, .int .i64 D0.length, .int .i64 lim] w
      fun e w' => e = .returned (.tuple #[]) ∧ OwnP w' g 3 (isort ltI D0) ∧ Below g w w' := by
  have C := insOrd (cap := cap) ho hn (by omega)
  clear ho
  generalize isort ltI D0 = R at *
  generalize D0.length = n at *
  go_enter Try.func46, Try.ntmps46
  go_wp2
  refine wp_loop_rounds 1 ?_
  rw [rounds_succ]
  go_wp2_with (go_at_call 51; refine C.mono ?_; rintro e w1 ⟨rfl, hO, hB⟩)
  exact bodyPost_ret (v := .tuple #[]) (by simp [results, Try.results46, go_sem]) rfl ⟨rfl, hO, hB⟩
set_option maxHeartbeats 1000000 in
theorem pdq0 {w : World} {A : Option Addr} {cap : Nat} (lim : Int) :
    Calls Try.prog 46 #[.slice A 0 cap, .int .i64 0, .int .i64 0, .int .i64 lim] w fun e w' => e = .returned (.tuple #[]) ∧ w = w' := by
  have C : Calls Try.prog 51 #[.slice A 0 cap, .int .i64 0, .int .i64 0] w fun e w' => e = .returned (.tuple #[]) ∧ w = w' := by
    go_enter Try.func51, Try.ntmps51
    go_wp2
    refine wp_loop_rounds 1 ?_
    rw [rounds_succ]
    go_wp2
    go_end0
    exact ⟨rfl, rfl⟩
  go_enter Try.func46, Try.ntmps46
  go_wp2
  refine wp_loop_rounds 1 ?_
  rw [rounds_succ]
  go_wp2_with (go_at_call 51; refine C.mono ?_; rintro e w1 ⟨rfl, rfl⟩)
  exact bodyPost_ret (v := .tuple #[]) (by simp [results, Try.results46, go_sem]) rfl ⟨rfl, rfl⟩
set_option maxHeartbeats 1000000 in
theorem sortInts {w : World} {g : Nat} {D0 : List Int} {cap : Nat} (ho : OwnP w g 3 D0) (hn : 1 ≤ D0.length) (hn2 : D0.length ≤ 12) :
    Calls Try.prog 36 #[.slice (some ⟨g, 0, none⟩) D0.length cap] w
      fun e w' => e = .returned (.tuple #[]) ∧ OwnP w' g 3 (isort ltI D0) ∧ Below g w w' := by
  have C : Hid (∀ lim : Int, Calls Try.prog 46 #[.slice (some ⟨g, 0, none⟩) D0.length cap, .int .i64 0, .int .i64 D0.length, .int .i64 lim] w
      fun e w' => e = .returned (.tuple #[]) ∧ OwnP w' g 3 (isort ltI D0) ∧ Below g w w') := Lib.hid fun lim => pdq lim ho hn hn2
  clear ho
  generalize isort ltI D0 = R at *
  generalize D0.length = n at *
  have CL := lenW (w := w) hn2
  have e0 : IntKind.u64.wrap (n : Int) = n := by
    rcases (show n = 0 ∨ n = 1 ∨ n = 2 ∨ n = 3 ∨ n = 4 ∨ n = 5 ∨ n = 6 ∨ n = 7 ∨ n = 8 ∨ n = 9 ∨ n = 10 ∨ n = 11 ∨ n = 12 by omega) with
      rfl | rfl | rfl | rfl | rfl | rfl | rfl | rfl | rfl | rfl | rfl | rfl | rfl
    all_goals decide
  go_enter Try.func36, Try.ntmps36
  go_wp2_with (first | (go_at_call 47; refine CL.mono ?_; rintro e w' ⟨r, rfl, rfl⟩) | (go_at_call 46; refine (C.out _).mono ?_; rintro e w1 ⟨rfl, hO, hB⟩))
  go_end0
  exact ⟨rfl, hO, hB⟩
set_option maxHeartbeats 1000000 in
theorem sortNone {w : World} {A : Option Addr} {cap : Nat} :
    Calls Try.prog 36 #[.slice A 0 cap] w fun e w' => e = .returned (.tuple #[]) ∧ w = w' := by
  have CL := lenW (w := w) (n := 0) (by omega)
  go_enter Try.func36, Try.ntmps36
  go_wp2_with (first | (go_at_call 47; refine CL.mono ?_; rintro e w' ⟨r, rfl, rfl⟩) | (go_at_call 46; refine (pdq0 _).mono ?_; rintro e w1 ⟨rfl, rfl⟩))
  go_end0
  exact ⟨rfl, rfl⟩


def minL : List Int → Int
  | [] => 0
  | x :: t => t.foldl min x
set_option maxHeartbeats 1000000 in
theorem minW {w : World} {B : Nat} {A : Option Addr} {L : List Int} {cap : Nat} (h : Rd w B A L) (hn : 1 ≤ L.length) :
    Calls Try.prog 37 #[.slice A L.length cap] w fun e w' => e = .returned (.int .i64 (minL L)) ∧ w = w' := by
  have hlen := h.len
  obtain ⟨b, off, x, rfl, hb, hx, hi, hc⟩ := h.at_ (k := 0) (by omega)
  have hst : (L.drop 1).foldl min x = minL L := by
    cases L with
    | nil => simp at hn
    | cons y t => simp at hx; subst hx; rfl
  simp only [Nat.add_zero] at hc
  have H := Lib.hid h
  have HS := Lib.hid hst
  have hpos : 0 < L.length := by omega
  clear h hst hx hi
  go_enter Try.func37, Try.ntmps37
  go_wp2
  go_loop [3, 4] (fun m i => ∃ (k : Nat) (mv : Int), k ≤ L.length ∧ i = .int .i64 k ∧ m = .int .i64 mv ∧ Hid ((L.drop k).foldl min mv = minL L)) (fun _ i => L.length - (intOf i).toNat)
  case atStart => exact ⟨1, x, by omega, rfl, rfl, HS⟩
  case round =>
    obtain ⟨k, mv, hk, rfl, rfl, hr⟩ := hrel
    by_cases hlt : k < L.length
    · obtain ⟨b', off', y, e, hb', hy, hi, hc'⟩ := H.out.at_ hlt
      cases e
      have HY := Lib.hid hy
      have HI := Lib.hid hi
      clear hy hi
      go_wp2
      go_round
      case rel => exact ⟨k + 1, min mv y, by omega, by go_num, int_of (by split <;> omega), Lib.hid (by rw [← hr.out, drop_of HY.out]; rfl)⟩
      case measure => simp [intOf]; omega
    · go_wp2
      go_ret
      exact ⟨ret_int (by rw [← hr.out, drop_end (by omega)]; rfl), rfl⟩

def maxL : List Int → Int
  | [] => 0
  | x :: t => t.foldl max x
set_option maxHeartbeats 1000000 in
theorem maxW {w : World} {B : Nat} {A : Option Addr} {L : List Int} {cap : Nat} (h : Rd w B A L) (hn : 1 ≤ L.length) :
    Calls Try.prog 38 #[.slice A L.length cap] w fun e w' => e = .returned (.int .i64 (maxL L)) ∧ w = w' := by
  have hlen := h.len
  obtain ⟨b, off, x, rfl, hb, hx, hi, hc⟩ := h.at_ (k := 0) (by omega)
  have hst : (L.drop 1).foldl max x = maxL L := by
    cases L with
    | nil => simp at hn
    | cons y t => simp at hx; subst hx; rfl
  simp only [Nat.add_zero] at hc
  have H := Lib.hid h
  have HS := Lib.hid hst
  have hpos : 0 < L.length := by omega
  clear h hst hx hi
  go_enter Try.func38, Try.ntmps38
  go_wp2
  go_loop [3, 4] (fun m i => ∃ (k : Nat) (mv : Int), k ≤ L.length ∧ i = .int .i64 k ∧ m = .int .i64 mv ∧ Hid ((L.drop k).foldl max mv = maxL L)) (fun _ i => L.length - (intOf i).toNat)
  case atStart => exact ⟨1, x, by omega, rfl, rfl, HS⟩
  case round =>
    obtain ⟨k, mv, hk, rfl, rfl, hr⟩ := hrel
    by_cases hlt : k < L.length
    · obtain ⟨b', off', y, e, hb', hy, hi, hc'⟩ := H.out.at_ hlt
      cases e
      have HY := Lib.hid hy
      have HI := Lib.hid hi
      clear hy hi
      go_wp2
      go_round
      case rel => exact ⟨k + 1, max mv y, by omega, by go_num, int_of (by split <;> omega), Lib.hid (by rw [← hr.out, drop_of HY.out]; rfl)⟩
      case measure => simp [intOf]; omega
    · go_wp2
      go_ret
      exact ⟨ret_int (by rw [← hr.out, drop_end (by omega)]; rfl), rfl⟩

theorem foldl_min_lt {a : Int} : ∀ {L : List Int} {m : Int}, L.foldl min m < a ↔ m < a ∨ ∃ x ∈ L, x < a
  | [], m => by simp
  | y :: t, m => by
    rw [List.foldl_cons, foldl_min_lt]
    constructor
    · rintro (h | ⟨x, hx, h⟩)
      · rcases Int.le_total m y with hle | hle
        · rw [Int.min_eq_left hle] at h; exact .inl h
        · rw [Int.min_eq_right hle] at h; exact .inr ⟨y, by simp, h⟩
      · exact .inr ⟨x, by simp [hx], h⟩
    · rintro (h | ⟨x, hx, h⟩)
      · exact .inl (by omega)
      · rcases List.mem_cons.1 hx with rfl | hx
        · exact .inl (by omega)
        · exact .inr ⟨x, hx, h⟩
theorem foldl_max_lt {a : Int} : ∀ {L : List Int} {m : Int}, a < L.foldl max m ↔ a < m ∨ ∃ x ∈ L, a < x
  | [], m => by simp
  | y :: t, m => by
    rw [List.foldl_cons, foldl_max_lt]
    constructor
    · rintro (h | ⟨x, hx, h⟩)
      · rcases Int.le_total m y with hle | hle
        · rw [Int.max_eq_right hle] at h; exact .inr ⟨y, by simp, h⟩
        · rw [Int.max_eq_left hle] at h; exact .inl h
      · exact .inr ⟨x, by simp [hx], h⟩
    · rintro (h | ⟨x, hx, h⟩)
      · exact .inl (by omega)
      · rcases List.mem_cons.1 hx with rfl | hx
        · exact .inl (by omega)
        · exact .inr ⟨x, hx, h⟩
theorem minL_lt {L : List Int} {a : Int} (h : 1 ≤ L.length) : minL L < a ↔ ∃ x ∈ L, x < a := by
  cases L with
  | nil => simp at h
  | cons y t =>
    rw [minL, foldl_min_lt]
    simp
theorem maxL_lt {L : List Int} {a : Int} (h : 1 ≤ L.length) : a < maxL L ↔ ∃ x ∈ L, a < x := by
  cases L with
  | nil => simp at h
  | cons y t =>
    rw [maxL, foldl_max_lt]
    simp
end Go.Proofs.Ytipidlonidihbaa

import Derived.Test.YtkoipecnmijfoaaGreatM35a
import Derived.StillTailTactics
import Derived.Test.YtkoipecnmijfoaaGreatSameM
/-! Texts that were built one by one, in one file. -/
-- holds: S34 W34a W34c W34d W34e W34f S34b W34g W34h W34i S34c W34j W34k W34l W35a

section
/-! The plain functions that the functions of chapter 34 compute. No statement about the program. -/
namespace Go.Proofs.YtkoipecnmijfoaaGreat
set_option linter.unusedVariables false

def chkGo : Int → List Int → Int → Int
  | _, [], fin => fin
  | left, x :: t, fin => if x < 1 ∨ left < x then 8 else chkGo (left - x) t fin
/-- the error of shares -/
def chk (L : List Int) : Int := if 10 < L.length then 4 else chkGo 1000 L (if L.length < 2 then 8 else 0)
def sumL : List Int → Int
  | [] => 0
  | x :: t => x + sumL t

theorem chkGo_cons (left x fin : Int) (t : List Int) : chkGo left (x :: t) fin = if x < 1 ∨ left < x then 8 else chkGo (left - x) t fin := rfl
theorem chkGo_no {left x fin : Int} {t : List Int} (h : x < 1 ∨ left < x) : chkGo left (x :: t) fin = 8 := by rw [chkGo_cons, if_pos h]
theorem chkGo_yes {left x fin : Int} {t : List Int} (h1 : ¬ x < 1) (h2 : ¬ left < x) : chkGo left (x :: t) fin = chkGo (left - x) t fin := by rw [chkGo_cons, if_neg (by omega)]
theorem chk_many {L : List Int} (h : 10 < L.length) : chk L = 4 := by rw [chk, if_pos h]
theorem chk_go {L : List Int} (h : ¬ 10 < L.length) : chkGo 1000 L (if L.length < 2 then 8 else 0) = chk L := by rw [chk, if_neg h]

/-- what valid shares are -/
theorem chkGo_ok {left fin : Int} : ∀ {L : List Int}, chkGo left L fin = 0 → (∀ x ∈ L, 1 ≤ x) ∧ sumL L ≤ max left 0 ∧ 0 ≤ sumL L ∧ fin = 0 := by
  intro L
  induction L generalizing left with
  | nil => intro h; exact ⟨by simp, by simp [sumL]; omega, by simp [sumL], h⟩
  | cons x t ih =>
    intro h
    rw [chkGo_cons] at h
    split at h
    · exact absurd h (by decide)
    · obtain ⟨h1, h2, h3, h4⟩ := ih h
      refine ⟨?_, by simp only [sumL]; omega, by simp only [sumL]; omega, h4⟩
      intro y hy
      rcases List.mem_cons.1 hy with rfl | hy
      · omega
      · exact h1 y hy
structure Valid (L : List Int) : Prop where
  two : 2 ≤ L.length
  ten : L.length ≤ 10
  pos : ∀ x ∈ L, 1 ≤ x
  sum : sumL L ≤ 1000
theorem chk_ok {L : List Int} (h : chk L = 0) : Valid L := by
  unfold chk at h
  split at h
  · exact absurd h (by decide)
  · obtain ⟨h1, h2, h3, h4⟩ := chkGo_ok h
    refine ⟨?_, by omega, h1, by omega⟩
    split at h4
    · exact absurd h4 (by decide)
    · omega
theorem sumL_le {L : List Int} (h : ∀ x ∈ L, 1 ≤ x) : (L.length : Int) ≤ sumL L := by
  induction L with
  | nil => simp [sumL]
  | cons x t ih =>
    have h1 := h x (by simp)
    have h2 := ih fun y hy => h y (List.mem_cons_of_mem _ hy)
    simp only [sumL, List.length_cons]
    omega
end Go.Proofs.YtkoipecnmijfoaaGreat
end

section
/-! Walks of chapter 34: Check and the sums. -/
namespace Go.Proofs.YtkoipecnmijfoaaGreat
open Go.RowKit
set_option linter.unusedVariables false

set_option maxHeartbeats 400000 in
theorem dCheck {w : World} {B : Nat} {A : Option Addr} {L : List Int} {cap : Nat} (h : Rd w B A L) :
    Calls Tryz.prog 67 #[.slice A L.length cap] w fun e w' => e = .returned (.int .i64 (chk L)) ∧ w = w' := by
  have hlen := h.len
  have H := Lib.hid h; clear h
  by_cases hm : 10 < L.length
  · have hfin := Lib.hid (chk_many hm)
    go_enter Tryz.func67, Tryz.ntmps67
    go_wp2
    go_ret
    exact ⟨ret_int hfin.out.symm, rfl⟩
  · have hfin := Lib.hid (chk_go hm)
    go_enter Tryz.func67, Tryz.ntmps67
    go_wp2
    go_loop [3, 11] (fun l i => ∃ (k : Nat) (left : Int), k ≤ L.length ∧ 0 ≤ left ∧ left ≤ 1000 ∧ i = .int .i64 k ∧ l = .int .i64 left ∧ Hid (chkGo left (L.drop k) (if L.length < 2 then 8 else 0) = chk L)) (fun _ i => L.length - (intOf i).toNat)
    case atStart => exact ⟨0, 1000, by omega, by omega, by omega, rfl, rfl, by simpa using hfin⟩
    case round =>
      obtain ⟨k, left, hk, hl0, hl1, rfl, rfl, hr⟩ := hrel
      by_cases hlt : k < L.length
      · obtain ⟨b, off, x, rfl, hb, hx, hi, hc⟩ := H.out.at_ hlt
        have HI := Lib.hid hi; clear hi
        have HX := Lib.hid hx; clear hx
        by_cases h1 : x < 1
        · go_wp2
          go_ret
          exact ⟨ret_int (by rw [← hr.out, drop_of HX.out, chkGo_no (.inl h1)]), rfl⟩
        · by_cases h2 : left < x
          · go_wp2
            go_ret
            exact ⟨ret_int (by rw [← hr.out, drop_of HX.out, chkGo_no (.inr h2)]), rfl⟩
          · go_wp2
            go_round
            case rel => exact ⟨k + 1, left - x, by omega, by omega, by omega, by go_num, rfl, Lib.hid (by rw [← hr.out, drop_of HX.out, chkGo_yes h1 h2])⟩
            case measure => simp [intOf]; omega
      · have hk' : L.length ≤ k := by omega
        by_cases h2 : L.length < 2
        all_goals
          go_wp2
          go_ret
          exact ⟨ret_int (by rw [← hr.out, drop_end hk']; simp [chkGo, h2]), rfl⟩
end Go.Proofs.YtkoipecnmijfoaaGreat
end

section
/-! Walks of chapter 34: looked, best. -/
namespace Go.Proofs.YtkoipecnmijfoaaGreat
open Go.RowKit
set_option linter.unusedVariables false

def badOffer (o : Int) : Bool := decide (o < 0) || decide (1000000 < o)
def lok (L O : List Int) : Int := if chk L ≠ 0 then chk L else if O.length ≠ L.length ∨ O.any badOffer = true then 8 else 0

theorem looked1 {w : World} (x : Int) :
    Calls Tryz.prog 68 #[.int .i64 x] w fun e w' => e = .returned (.bool (badOffer x)) ∧ w = w' := by
  by_cases h1 : x < 0
  · go_enter Tryz.func68, Tryz.ntmps68
    go_wp2
    go_ret
    exact ⟨ret_bool (by simp [badOffer, h1]), rfl⟩
  · by_cases h2 : 1000000 < x
    all_goals
      go_enter Tryz.func68, Tryz.ntmps68
      go_wp2
      go_ret
      exact ⟨ret_bool (by simp [badOffer, h1, h2]), rfl⟩

theorem lok_chk {L O : List Int} (h : chk L ≠ 0) : lok L O = chk L := by rw [lok, if_pos h]
theorem lok_len {L O : List Int} (h : chk L = 0) (h2 : O.length ≠ L.length) : lok L O = 8 := by rw [lok, if_neg (by simp [h]), if_pos (.inl h2)]
theorem lok_any {L O : List Int} (h : chk L = 0) (h2 : O.any badOffer = true) : lok L O = 8 := by rw [lok, if_neg (by simp [h]), if_pos (.inr h2)]
theorem lok_yes {L O : List Int} (h : chk L = 0) (h2 : O.length = L.length) (h3 : O.any badOffer = false) : lok L O = 0 := by rw [lok, if_neg (by simp [h]), if_neg (by simp [h2, h3])]

theorem dLooked {w : World} {B C : Nat} {A A' : Option Addr} {L O : List Int} {cap cap' : Nat} (h : Rd w B A L) (h' : Rd w C A' O) :
    Calls Tryz.prog 42 #[.slice A L.length cap, .slice A' O.length cap'] w fun e w' => e = .returned (.int .i64 (lok L O)) ∧ w = w' := by
  have C1 := dCheck (cap := cap) h
  have C2 := containsFunc (cap := cap') h' 68 #[] badOffer (fun args u => by kernel_rfl) (fun x _ => by simpa using looked1 x)
  have l1 := h.len
  have l2 := h'.len
  clear h h'
  by_cases hc : chk L = 0
  · by_cases hl : O.length = L.length
    · by_cases ha : O.any badOffer = true
      · have hfin := Lib.hid (lok_any hc ha)
        rw [hc] at C1
        have HL := Lib.hid hl; clear hl
        rw [ha] at C2
        clear ha hc
        have hb : ((O.length : Int) != (L.length : Int)) = false := by rw [HL.out]; simp
        go_enter Tryz.func42, Tryz.ntmps42
        go_wp2_with (first | (go_at_call 67; refine C1.mono ?_; rintro e w' ⟨rfl, rfl⟩) | (go_at_call 47; refine C2.mono ?_; rintro e w' ⟨rfl, rfl⟩))
        go_ret
        exact ⟨ret_int hfin.out.symm, rfl⟩
      · have ha' : O.any badOffer = false := by simpa using ha
        have hfin := Lib.hid (lok_yes hc hl ha')
        rw [hc] at C1
        have HL := Lib.hid hl; clear hl
        rw [ha'] at C2
        clear ha ha' hc
        have hb : ((O.length : Int) != (L.length : Int)) = false := by rw [HL.out]; simp
        go_enter Tryz.func42, Tryz.ntmps42
        go_wp2_with (first | (go_at_call 67; refine C1.mono ?_; rintro e w' ⟨rfl, rfl⟩) | (go_at_call 47; refine C2.mono ?_; rintro e w' ⟨rfl, rfl⟩))
        go_ret
        exact ⟨ret_int hfin.out.symm, rfl⟩
    · have hfin := Lib.hid (lok_len hc hl)
      rw [hc] at C1
      clear hc
      have hb : ((O.length : Int) != (L.length : Int)) = true := by simp; omega
      go_enter Tryz.func42, Tryz.ntmps42
      go_wp2_with (go_at_call 67; refine C1.mono ?_; rintro e w' ⟨rfl, rfl⟩)
      go_ret
      exact ⟨ret_int hfin.out.symm, rfl⟩
  · have hfin := Lib.hid (lok_chk (O := O) hc)
    have hb : (chk L != 0) = true := by simpa using hc
    clear hc
    generalize chk L = c at *
    go_enter Tryz.func42, Tryz.ntmps42
    go_wp2_with (go_at_call 67; refine C1.mono ?_; rintro e w' ⟨rfl, rfl⟩)
    go_ret
    exact ⟨ret_int hfin.out.symm, rfl⟩
end Go.Proofs.YtkoipecnmijfoaaGreat
end

section
/-! Walks of chapter 34: best. -/
namespace Go.Proofs.YtkoipecnmijfoaaGreat
open Go.RowKit
set_option linter.unusedVariables false

def betterB (f fv x : Int) : Bool := decide (f < 0) || decide (fv < x)
def bestGo (but : Int) : List Int → Int → Int → Int → Int
  | [], _, f, _ => f
  | x :: t, k, f, fv => if k ≠ but ∧ betterB f fv x = true then bestGo but t (k + 1) k x else bestGo but t (k + 1) f fv
theorem bestGo_yes {but x k f fv : Int} {t : List Int} (h : ¬ k = but) (h2 : betterB f fv x = true) : bestGo but (x :: t) k f fv = bestGo but t (k + 1) k x := by rw [bestGo, if_pos ⟨h, h2⟩]
theorem bestGo_but {but x k f fv : Int} {t : List Int} (h : k = but) : bestGo but (x :: t) k f fv = bestGo but t (k + 1) f fv := by rw [bestGo, if_neg (by simp [h])]
theorem bestGo_no {but x k f fv : Int} {t : List Int} (h2 : betterB f fv x = false) : bestGo but (x :: t) k f fv = bestGo but t (k + 1) f fv := by rw [bestGo, if_neg (by simp [h2])]

set_option maxHeartbeats 400000 in
/-- the closure: i lies in the list; k is negative or lies in the list, with the value v -/
theorem best1 {w : World} {bb b off cap n i : Nat} {k x v : Int}
    (hbox : w.cell? ⟨bb, 0, none⟩ = some (.slice (some ⟨b, off, none⟩) n cap))
    (hi : i < n) (hx : w.cell? ⟨b, off + i, none⟩ = some (.int .i64 x)) (hn : n * 8 ≤ 140737488351232)
    (hk : k < 0 ∨ ∃ j : Nat, k = j ∧ j < n ∧ w.cell? ⟨b, off + j, none⟩ = some (.int .i64 v)) :
    Calls Tryz.prog 69 #[.int .i64 i, .int .i64 k, .pointer (some ⟨bb, 0, none⟩)] w fun e w' => e = .returned (.bool (betterB k v x)) ∧ Below w.heap.size w w' := by
  rcases hk with hk | ⟨j, rfl, hj, hv⟩
  · have hd : decide (k < 0) = true := by simpa using hk
    go_enter Tryz.func69, Tryz.ntmps69
    go_wp2
    go_quiet (fail)
    go_wp2
    go_ret
    exact ⟨ret_bool (by simp [betterB, hk]), below_drewN (Below.refl _ _) _⟩
  · have hd : decide ((j : Int) < 0) = false := by simp
    go_enter Tryz.func69, Tryz.ntmps69
    go_wp2
    go_quiet (fail)
    go_wp2
    go_ret
    exact ⟨ret_bool (by simp [betterB]; omega), below_drewN (Below.refl _ _) _⟩

def bestOf (O : List Int) (but : Int) : Int := bestGo but O 0 (-1) 0
/-- the place that best has found so far, with its offer -/
def Found (O : List Int) (f fv : Int) : Prop := f < 0 ∨ ∃ j : Nat, f = j ∧ O[j]? = some fv

set_option maxHeartbeats 400000 in
theorem dBest {w : World} {B : Nat} {A : Option Addr} {O : List Int} {cap : Nat} (h : Rd w B A O) (hB : B ≤ w.heap.size) (but : Int) :
    Calls Tryz.prog 43 #[.slice A O.length cap, .int .i64 but] w fun e w' => e = .returned (.int .i64 (bestOf O but)) ∧ Below w.heap.size w w' := by
  have hlen := h.len
  have hbox : (w.alloc (.cells #[.slice A O.length cap] 22)).cell? ⟨w.heap.size, 0, none⟩ = some (.slice A O.length cap) := by simp
  have h1 : Rd (w.alloc (.cells #[.slice A O.length cap] 22)) B A O := h.below ((Below.refl _ _).alloc (Nat.le_refl _) _) hB
  have hb0 : Below w.heap.size w (w.alloc (.cells #[.slice A O.length cap] 22)) := (Below.refl _ _).alloc (Nat.le_refl _) _
  have hs0 : (w.alloc (.cells #[.slice A O.length cap] 22)).heap.size = w.heap.size + 1 := by simp
  have HB0 := Lib.hid hb0
  have HS0 := Lib.hid hs0
  have HB := Lib.hid hbox
  have H := Lib.hid h1
  clear h hbox h1 hb0 hs0
  go_enter Tryz.func43, Tryz.ntmps43
  go_wp2
  generalize hw1 : w.alloc (.cells #[.slice A O.length cap] 22) = w1 at *
  clear hw1
  go_loopw [6, 11] (fun f i wr => ∃ (k : Nat) (g gv : Int), k ≤ O.length ∧ g ≤ k ∧ -1 ≤ g ∧ i = .int .i64 k ∧ f = .int .i64 g ∧ Hid (Found O g gv) ∧ Hid (Below w1.heap.size w1 wr) ∧ Hid (bestGo but (O.drop k) k g gv = bestOf O but)) (fun _ i _ => O.length - (intOf i).toNat)
  case atStart => exact ⟨0, -1, 0, by omega, by omega, by omega, rfl, rfl, Lib.hid (.inl (by omega)), Lib.hid (Below.refl _ _), Lib.hid rfl⟩
  case round =>
    obtain ⟨k, g, gv, hk, hg, hg1, rfl, rfl, hf, hbw, hr⟩ := hrel
    by_cases hlt : k < O.length
    · obtain ⟨b, off, x, rfl, hb, hx, hi, hc⟩ := (H.out.below hbw.out (by rw [HS0.out]; omega)).at_ hlt
      have hbox : wr.cell? ⟨w.heap.size, 0, none⟩ = some (.slice (some ⟨b, off, none⟩) O.length cap) := (hbw.out.cell (p := ⟨w.heap.size, 0, none⟩) (by show w.heap.size < w1.heap.size; rw [HS0.out]; omega)).trans HB.out
      have hk' : g < 0 ∨ ∃ j : Nat, g = j ∧ j < O.length ∧ wr.cell? ⟨b, off + j, none⟩ = some (.int .i64 gv) := by
        rcases hf.out with h0 | ⟨j, rfl, hj⟩
        · exact .inl h0
        · obtain ⟨b', off', e, _, hcells⟩ := (H.out.below hbw.out (by rw [HS0.out]; omega)).2.2 (by omega)
          cases e
          exact .inr ⟨j, rfl, (List.getElem?_eq_some_iff.1 hj).1, hcells j gv hj⟩
      have C := best1 hbox hlt hc hlen hk'
      have HI := Lib.hid hi; clear hi
      have HX := Lib.hid hx; clear hx
      clear hk'
      by_cases hbut : (k : Int) = but
      · have hne : ((k : Int) != but) = false := by simpa using hbut
        have hbut' := Lib.hid hbut; clear hbut
        go_wp2
        go_roundw
        case rel => exact ⟨k + 1, g, gv, by omega, by omega, by omega, by go_num, rfl, hf, hbw, Lib.hid (by rw [← hr.out, drop_of HX.out, bestGo_but hbut'.out]; rfl)⟩
        case measure => simp [intOf]; omega
      · have hne : ((k : Int) != but) = true := by simpa using hbut
        cases hbt : betterB g gv x
        · rw [hbt] at C
          go_wp2_with (go_at_call 69; refine C.mono ?_; rintro e w' ⟨rfl, hbel⟩)
          have hbw' := hbw.out.trans (hbel.mono hbw.out.size)
          go_roundw
          case rel => exact ⟨k + 1, g, gv, by omega, by omega, by omega, by go_num, rfl, hf, Lib.hid hbw', Lib.hid (by rw [← hr.out, drop_of HX.out, bestGo_no hbt]; rfl)⟩
          case measure => simp [intOf]; omega
        · rw [hbt] at C
          go_wp2_with (go_at_call 69; refine C.mono ?_; rintro e w' ⟨rfl, hbel⟩)
          have hbw' := hbw.out.trans (hbel.mono hbw.out.size)
          go_roundw
          case rel => exact ⟨k + 1, k, x, by omega, by omega, by omega, by go_num, rfl, Lib.hid (.inr ⟨k, rfl, HX.out⟩), Lib.hid hbw', Lib.hid (by rw [← hr.out, drop_of HX.out, bestGo_yes hbut hbt]; rfl)⟩
          case measure => simp [intOf]; omega
    · go_wp2
      go_ret
      exact ⟨ret_int (by rw [← hr.out, drop_end (by omega)]; rfl), HB0.out.trans (hbw.out.mono (by rw [HS0.out]; omega))⟩
end Go.Proofs.YtkoipecnmijfoaaGreat
end

section
/-! Walks of chapter 34: the reference's Check, Sum, Offers, bought; dissolve's total. -/
namespace Go.Proofs.YtkoipecnmijfoaaGreat
open Go.RowKit
set_option linter.unusedVariables false

set_option maxHeartbeats 400000 in
theorem rCheck {w : World} {B : Nat} {A : Option Addr} {L : List Int} {cap : Nat} (h : Rd w B A L) :
    Calls Tryz.prog 41 #[.slice A L.length cap] w fun e w' => e = .returned (.int .i64 (chk L)) ∧ w = w' := by
  have hlen := h.len
  have H := Lib.hid h; clear h
  by_cases hm : 10 < L.length
  · have hfin := Lib.hid (chk_many hm)
    go_enter Tryz.func41, Tryz.ntmps41
    go_wp2
    go_ret
    exact ⟨ret_int hfin.out.symm, rfl⟩
  · have hfin := Lib.hid (chk_go hm)
    go_enter Tryz.func41, Tryz.ntmps41
    go_wp2
    go_loop [3, 4] (fun l i => ∃ (k : Nat) (left : Int), k ≤ L.length ∧ 0 ≤ left ∧ left ≤ 1000 ∧ i = .int .i64 k ∧ l = .int .i64 left ∧ Hid (chkGo left (L.drop k) (if L.length < 2 then 8 else 0) = chk L)) (fun _ i => L.length - (intOf i).toNat)
    case atStart => exact ⟨0, 1000, by omega, by omega, by omega, rfl, rfl, by simpa using hfin⟩
    case round =>
      obtain ⟨k, left, hk, hl0, hl1, rfl, rfl, hr⟩ := hrel
      by_cases hlt : k < L.length
      · obtain ⟨b, off, x, rfl, hb, hx, hi, hc⟩ := H.out.at_ hlt
        have HI := Lib.hid hi; clear hi
        have HX := Lib.hid hx; clear hx
        by_cases h1 : x < 1
        · go_wp2
          go_ret
          exact ⟨ret_int (by rw [← hr.out, drop_of HX.out, chkGo_no (.inl h1)]), rfl⟩
        · by_cases h2 : left < x
          · go_wp2
            go_ret
            exact ⟨ret_int (by rw [← hr.out, drop_of HX.out, chkGo_no (.inr h2)]), rfl⟩
          · go_wp2
            go_round
            case rel => exact ⟨k + 1, left - x, by omega, by omega, by omega, by go_num, rfl, Lib.hid (by rw [← hr.out, drop_of HX.out, chkGo_yes h1 h2])⟩
            case measure => simp [intOf]; omega
      · have hk' : L.length ≤ k := by omega
        by_cases h2 : L.length < 2
        all_goals
          go_wp2
          go_ret
          exact ⟨ret_int (by rw [← hr.out, drop_end hk']; simp [chkGo, h2]), rfl⟩

theorem sumL_drop {L : List Int} {k : Nat} {x : Int} (h : L[k]? = some x) : sumL (L.drop k) = x + sumL (L.drop (k + 1)) := by rw [drop_of h]; rfl
theorem sumL_nonneg : ∀ {L : List Int}, (∀ x ∈ L, 1 ≤ x) → 0 ≤ sumL L
  | [], _ => by simp [sumL]
  | x :: t, h => by
    have := h x (by simp)
    have := sumL_nonneg (L := t) fun y hy => h y (List.mem_cons_of_mem _ hy)
    simp only [sumL]; omega
theorem mem_of {L : List Int} {k : Nat} {x : Int} (h : L[k]? = some x) : x ∈ L := List.mem_of_getElem? h
/-- the sum up to a place, and the rest -/
structure SumAt (L : List Int) (k : Nat) (n : Int) : Prop where
  eq : n + sumL (L.drop k) = sumL L
  lo : 0 ≤ n
  hi : n ≤ 1000
theorem SumAt.next {L : List Int} {k : Nat} {n x : Int} (h : SumAt L k n) (hv : Valid L) (hx : L[k]? = some x) : SumAt L (k + 1) (n + x) := by
  have e := sumL_drop hx
  have h1 := hv.pos x (mem_of hx)
  have h2 := sumL_nonneg (L := L.drop (k + 1)) fun y hy => hv.pos y (List.mem_of_mem_drop hy)
  have h3 := hv.sum
  have h4 := h.eq
  have h5 := h.lo
  exact ⟨by omega, by omega, by omega⟩

set_option maxHeartbeats 400000 in
theorem dTotal {w : World} {B : Nat} {A : Option Addr} {L : List Int} {cap : Nat} (h : Rd w B A L) (hv : Valid L) :
    Calls Tryz.prog 37 #[.slice A L.length cap] w fun e w' => e = .returned (.int .i64 (sumL L)) ∧ w = w' := by
  have hlen := h.len
  have H := Lib.hid h; clear h
  have HV := Lib.hid hv; clear hv
  go_enter Tryz.func37, Tryz.ntmps37
  go_wp2
  go_loop [3, 8] (fun n i => ∃ (k : Nat) (m : Int), k ≤ L.length ∧ 0 ≤ m ∧ m ≤ 1000 ∧ i = .int .i64 k ∧ n = .int .i64 m ∧ Hid (SumAt L k m)) (fun _ i => L.length - (intOf i).toNat)
  case atStart => exact ⟨0, 0, by omega, by omega, by omega, rfl, rfl, Lib.hid ⟨by simp, by omega, by omega⟩⟩
  case round =>
    obtain ⟨k, m, hk, hm0, hm1, rfl, rfl, hr⟩ := hrel
    by_cases hlt : k < L.length
    · obtain ⟨b, off, x, rfl, hb, hx, hi, hc⟩ := H.out.at_ hlt
      have hr' := hr.out.next HV.out hx
      have h3 := hr'.lo
      have h4 := hr'.hi
      have HR := Lib.hid hr'; clear hr'
      have HI := Lib.hid hi; clear hi
      have HX := Lib.hid hx; clear hx
      go_wp2
      go_round
      case rel => exact ⟨k + 1, m + x, by omega, by omega, by omega, by go_num, rfl, HR⟩
      case measure => simp [intOf]; omega
    · go_wp2
      go_ret
      exact ⟨ret_int (by have := hr.out.eq; rw [drop_end (by omega)] at this; simpa [sumL] using this), rfl⟩

end Go.Proofs.YtkoipecnmijfoaaGreat
end

section
/-! Walks of chapter 34: the reference's Offers, bought; both Buyers. -/
namespace Go.Proofs.YtkoipecnmijfoaaGreat
open Go.RowKit
set_option linter.unusedVariables false

theorem any_no {O : List Int} {k : Nat} {x : Int} (h : O[k]? = some x) (hb : badOffer x = false) : (O.drop (k + 1)).any badOffer = (O.drop k).any badOffer := by
  rw [drop_of h]; simp [hb]
theorem any_yes {O : List Int} {k : Nat} {x : Int} (h : O[k]? = some x) (hb : badOffer x = true) : (O.drop k).any badOffer = true := by
  rw [drop_of h]; simp [hb]

set_option maxHeartbeats 400000 in
theorem rOffers {w : World} {B C : Nat} {A A' : Option Addr} {L O : List Int} {cap cap' : Nat} (h : Rd w B A L) (h' : Rd w C A' O) :
    Calls Tryz.prog 16 #[.slice A L.length cap, .slice A' O.length cap'] w fun e w' => e = .returned (.int .i64 (lok L O)) ∧ w = w' := by
  have C1 := rCheck (cap := cap) h
  have l1 := h.len
  have l2 := h'.len
  have H := Lib.hid h'
  clear h h'
  by_cases hc : chk L = 0
  · by_cases hl : O.length = L.length
    · have hfin : Hid (∀ b, O.any badOffer = b → lok L O = if b then 8 else 0) := Lib.hid (by intro b hb; cases b; exact lok_yes hc hl hb; exact lok_any hc hb)
      rw [hc] at C1
      have HL := Lib.hid hl; clear hl
      clear hc
      have hb : ((O.length : Int) != (L.length : Int)) = false := by rw [HL.out]; simp
      go_enter Tryz.func16, Tryz.ntmps16
      go_wp2_with (go_at_call 41; refine C1.mono ?_; rintro e w' ⟨rfl, rfl⟩)
      go_loop [5] (fun i => ∃ (k : Nat), k ≤ O.length ∧ i = .int .i64 k ∧ Hid ((O.drop k).any badOffer = O.any badOffer)) (fun i => O.length - (intOf i).toNat)
      case atStart => exact ⟨0, by omega, rfl, Lib.hid (by simp)⟩
      case round =>
        obtain ⟨k, hk, rfl, hr⟩ := hrel
        by_cases hlt : k < O.length
        · obtain ⟨b, off, x, rfl, hbb, hx, hi, hcell⟩ := H.out.at_ hlt
          have HI := Lib.hid hi; clear hi
          have HX := Lib.hid hx; clear hx
          by_cases h1 : x < 0
          · go_wp2
            go_ret
            exact ⟨ret_int (by rw [hfin.out true (by rw [← hr.out]; exact any_yes HX.out (by simp [badOffer, h1]))]; rfl), rfl⟩
          · by_cases h2 : 1000000 < x
            · go_wp2
              go_ret
              exact ⟨ret_int (by rw [hfin.out true (by rw [← hr.out]; exact any_yes HX.out (by simp [badOffer, h2]))]; rfl), rfl⟩
            · go_wp2
              go_round
              case rel => exact ⟨k + 1, by omega, by go_num, Lib.hid (by rw [any_no HX.out (by simp [badOffer, h1, h2]), hr.out])⟩
              case measure => simp [intOf]; omega
        · go_wp2
          go_ret
          exact ⟨ret_int (by rw [hfin.out false (by rw [← hr.out, drop_end (by omega)]; rfl)]; rfl), rfl⟩
    · have hfin := Lib.hid (lok_len hc hl)
      rw [hc] at C1
      clear hc
      have hb : ((O.length : Int) != (L.length : Int)) = true := by simp; omega
      go_enter Tryz.func16, Tryz.ntmps16
      go_wp2_with (go_at_call 41; refine C1.mono ?_; rintro e w' ⟨rfl, rfl⟩)
      go_ret
      exact ⟨ret_int hfin.out.symm, rfl⟩
  · have hfin := Lib.hid (lok_chk (O := O) hc)
    have hb : (chk L != 0) = true := by simpa using hc
    clear hc
    generalize chk L = c at *
    go_enter Tryz.func16, Tryz.ntmps16
    go_wp2_with (go_at_call 41; refine C1.mono ?_; rintro e w' ⟨rfl, rfl⟩)
    go_ret
    exact ⟨ret_int hfin.out.symm, rfl⟩

def boughtOf : List Int → Int
  | [] => 0
  | x :: t => bestGo (-1) t 1 0 x
theorem boughtOf_eq {O : List Int} (h : 0 < O.length) : boughtOf O = bestOf O (-1) := by
  cases O with
  | nil => simp at h
  | cons x t => rw [bestOf, bestGo_yes (by decide) (by simp [betterB])]; rfl

end Go.Proofs.YtkoipecnmijfoaaGreat
end

section
/-! Plain facts on the greatest offer. -/
namespace Go.Proofs.YtkoipecnmijfoaaGreat
set_option linter.unusedVariables false

/-- what has been found among the first k offers -/
structure BInv (O : List Int) (but : Int) (k : Nat) (f fv : Int) : Prop where
  none_ : f < 0 → ∀ j : Nat, j < k → (j : Int) = but
  some_ : 0 ≤ f → ∃ g : Nat, f = g ∧ g < k ∧ f ≠ but ∧ O[g]? = some fv ∧ (∀ (j : Nat) y, j < k → (j : Int) ≠ but → O[j]? = some y → y ≤ fv) ∧ (∀ (j : Nat) y, j < g → (j : Int) ≠ but → O[j]? = some y → y < fv)

theorem BInv.step {O : List Int} {but : Int} {k : Nat} {f fv x : Int} (h : BInv O but k f fv) (hx : O[k]? = some x) :
    (¬ (k : Int) = but → betterB f fv x = true → BInv O but (k + 1) k x) ∧ ((k : Int) = but ∨ betterB f fv x = false → BInv O but (k + 1) f fv) := by
  constructor
  · intro hb hbt
    refine ⟨fun h0 => by omega, fun _ => ⟨k, rfl, by omega, hb, hx, ?_, ?_⟩⟩
    · intro j y hj hjb hy
      rcases Nat.lt_or_ge j k with hlt | hge
      · rcases Int.lt_or_le f 0 with h0 | h0
        · exact absurd (h.none_ h0 j hlt) hjb
        · obtain ⟨g, e, hg, hgb, hgv, hle, _⟩ := h.some_ h0
          have := hle j y hlt hjb hy
          simp [betterB] at hbt; omega
      · obtain rfl : j = k := by omega
        rw [hx] at hy; cases hy; omega
    · intro j y hj hjb hy
      rcases Int.lt_or_le f 0 with h0 | h0
      · exact absurd (h.none_ h0 j hj) hjb
      · obtain ⟨g, e, hg, hgb, hgv, hle, _⟩ := h.some_ h0
        have := hle j y hj hjb hy
        simp [betterB] at hbt; omega
  · intro hor
    refine ⟨fun h0 j hj => ?_, fun h0 => ?_⟩
    · rcases Nat.lt_or_ge j k with hlt | hge
      · exact h.none_ h0 j hlt
      · obtain rfl : j = k := by omega
        rcases hor with hor | hor
        · exact hor
        · simp [betterB] at hor; omega
    · obtain ⟨g, e, hg, hgb, hgv, hle, hlt⟩ := h.some_ h0
      refine ⟨g, e, by omega, hgb, hgv, ?_, hlt⟩
      intro j y hj hjb hy
      rcases Nat.lt_or_ge j k with hlt | hge
      · exact hle j y hlt hjb hy
      · obtain rfl : j = k := by omega
        rw [hx] at hy; cases hy
        rcases hor with hor | hor
        · exact absurd hor hjb
        · simp [betterB] at hor; omega

theorem bestGo_inv {O : List Int} {but : Int} : ∀ (n k : Nat) (f fv : Int), O.length - k = n → k ≤ O.length → BInv O but k f fv → ∃ gv, BInv O but O.length (bestGo but (O.drop k) k f fv) gv := by
  intro n
  induction n with
  | zero =>
    intro k f fv hn hk h
    rw [drop_end (by omega)]
    have : k = O.length := by omega
    subst this
    exact ⟨fv, h⟩
  | succ n ih =>
    intro k f fv hn hk h
    obtain ⟨x, hx⟩ : ∃ x, O[k]? = some x := ⟨O[k]'(by omega), by simp⟩
    rw [drop_of hx]
    have hs := h.step hx
    by_cases hb : (k : Int) = but
    · rw [bestGo_but hb]
      exact_mod_cast ih (k + 1) f fv (by omega) (by omega) (hs.2 (.inl hb))
    · cases hbt : betterB f fv x
      · rw [bestGo_no hbt]
        exact_mod_cast ih (k + 1) f fv (by omega) (by omega) (hs.2 (.inr hbt))
      · rw [bestGo_yes hb hbt]
        exact_mod_cast ih (k + 1) k x (by omega) (by omega) (hs.1 hb hbt)

/-- best is the first place, but one, of the greatest offer -/
structure IsBest (O : List Int) (but : Int) (g : Nat) (v : Int) : Prop where
  val : O[g]? = some v
  ne : (g : Int) ≠ but
  le : ∀ (j : Nat) y, (j : Int) ≠ but → O[j]? = some y → y ≤ v
  lt : ∀ (j : Nat) y, j < g → (j : Int) ≠ but → O[j]? = some y → y < v
theorem bestOf_is {O : List Int} {but : Int} (h : ∃ j : Nat, j < O.length ∧ (j : Int) ≠ but) : ∃ (g : Nat) (v : Int), bestOf O but = g ∧ IsBest O but g v := by
  obtain ⟨gv, hi⟩ := bestGo_inv (O := O) (but := but) O.length 0 (-1) 0 (by omega) (by omega) ⟨fun _ j hj => by omega, fun h => by omega⟩
  obtain ⟨j, hj, hjb⟩ := h
  simp only [List.drop_zero] at hi
  change BInv O but O.length (bestOf O but) gv at hi
  rcases Int.lt_or_le (bestOf O but) 0 with h0 | h0
  · exact absurd (hi.none_ h0 j hj) hjb
  · obtain ⟨g, e, hg, hgb, hgv, hle, hlt⟩ := hi.some_ h0
    exact ⟨g, gv, e, hgv, by rw [← e]; exact hgb, fun j y hjb hy => hle j y (List.getElem?_eq_some_iff.1 hy).1 hjb hy, hlt⟩
theorem IsBest.lt_len {O : List Int} {but : Int} {g : Nat} {v : Int} (h : IsBest O but g v) : g < O.length := (List.getElem?_eq_some_iff.1 h.val).1

/-- the offers: two or more, each from 0 to a million -/
structure VO (L O : List Int) : Prop where
  v : Valid L
  len : O.length = L.length
  bd : ∀ x ∈ O, 0 ≤ x ∧ x ≤ 1000000
theorem lok_ok {L O : List Int} (h : lok L O = 0) : VO L O := by
  unfold lok at h
  split at h
  · contradiction
  · rename_i h0
    split at h
    · exact absurd h (by decide)
    · rename_i h1
      refine ⟨chk_ok (by simpa using h0), by omega, fun x hx => ?_⟩
      have h2 : O.any badOffer = false := by
        cases hb : O.any badOffer
        · rfl
        · exact absurd (.inr hb) h1
      have := List.any_eq_false.1 h2 x hx
      simp [badOffer] at this
      omega
/-- the buyer b with the greatest offer v, and the greatest offer s of the others -/
structure Sale (O : List Int) (b : Nat) (v : Int) (g : Nat) (s : Int) : Prop where
  best : IsBest O (-1) b v
  second : IsBest O b g s
theorem VO.sale {L O : List Int} (h : VO L O) : ∃ b v g s, bestOf O (-1) = (b : Nat) ∧ bestOf O b = (g : Nat) ∧ Sale O b v g s := by
  have h2 := h.v.two
  have hl := h.len
  obtain ⟨b, v, e, hb⟩ := bestOf_is (O := O) (but := -1) ⟨0, by omega, by decide⟩
  obtain ⟨g, s, e', hg⟩ := bestOf_is (O := O) (but := b) (by
    by_cases h0 : b = 0
    · exact ⟨1, by omega, by omega⟩
    · exact ⟨0, by omega, by omega⟩)
  exact ⟨b, v, g, s, e, e', hb, hg⟩
end Go.Proofs.YtkoipecnmijfoaaGreat
end

section
/-! Walks of chapter 34: ruled, the two rules, sold. -/
namespace Go.Proofs.YtkoipecnmijfoaaGreat
open Go.RowKit
set_option linter.unusedVariables false

theorem ruled0 {w : World} : Calls Tryz.prog 62 #[.int .i64 0] w fun e w' => e = .returned (.tuple #[.iface 95 (.agg #[]), .bool true]) ∧ w = w' := by
  go_enter Tryz.func62, Tryz.ntmps62
  go_wp2
  go_ret2
  exact ⟨rfl, rfl⟩
theorem ruled1 {w : World} : Calls Tryz.prog 62 #[.int .i64 1] w fun e w' => e = .returned (.tuple #[.iface 96 (.agg #[]), .bool true]) ∧ w = w' := by
  go_enter Tryz.func62, Tryz.ntmps62
  go_wp2
  go_ret2
  exact ⟨rfl, rfl⟩
theorem ruledNo {w : World} {r : Int} (h0 : (r == 0) = false) (h1 : (r == 1) = false) : Calls Tryz.prog 62 #[.int .i64 r] w fun e w' => e = .returned (.tuple #[.nilIface, .bool false]) ∧ w = w' := by
  go_enter Tryz.func62, Tryz.ntmps62
  go_wp2
  go_ret2
  exact ⟨rfl, rfl⟩
theorem price0 {w : World} (a b : Int) : Calls Tryz.prog 121 #[.agg #[], .int .i64 a, .int .i64 b] w fun e w' => e = .returned (.int .i64 b) ∧ Below w.heap.size w w' := by
  go_enter Tryz.func121, Tryz.ntmps121
  go_wp2
  go_ret
  exact ⟨rfl, (Below.refl _ _).alloc (Nat.le_refl _) _⟩
theorem price1 {w : World} (a b : Int) (h0 : 0 ≤ a) (h1 : a ≤ 1000000) (h2 : 0 ≤ b) (h3 : b ≤ 1000000) : Calls Tryz.prog 122 #[.agg #[], .int .i64 a, .int .i64 b] w fun e w' => e = .returned (.int .i64 ((a + b) / 2)) ∧ Below w.heap.size w w' := by
  go_enter Tryz.func122, Tryz.ntmps122
  go_wp2
  go_ret
  exact ⟨rfl, (Below.refl _ _).alloc (Nat.le_refl _) _⟩
end Go.Proofs.YtkoipecnmijfoaaGreat
end

section
/-! Walks of chapter 34: sold. -/
namespace Go.Proofs.YtkoipecnmijfoaaGreat
open Go.RowKit
set_option linter.unusedVariables false

theorem nil0 (w : World) : (nilAhead 243 95 (.agg #[]) "parcener/dissolve.price").run Tryz.prog w = .ok (some false) w := by kernel_rfl
theorem nil1 (w : World) : (nilAhead 243 96 (.agg #[]) "parcener/dissolve.price").run Tryz.prog w = .ok (some false) w := by kernel_rfl
theorem meth0 (w : World) : (method 243 95 (.agg #[]) "parcener/dissolve.price").run Tryz.prog w = .ok (121, .agg #[]) w := by kernel_rfl
theorem meth1 (w : World) : (method 243 96 (.agg #[]) "parcener/dissolve.price").run Tryz.prog w = .ok (122, .agg #[]) w := by kernel_rfl

theorem held3 {w1 u : World} {p q : Prop} (h : p ∧ q ∧ Hid (Below w1.heap.size w1 u)) : Below w1.heap.size w1 u := h.2.2.out

set_option maxHeartbeats 1000000 in
theorem dSold0 {w : World} {B C : Nat} {A A' : Option Addr} {L O : List Int} {cap cap' : Nat} (h : Rd w B A L) (h' : Rd w C A' O) (hC : C ≤ w.heap.size)
    (hok : lok L O = 0) {b g : Nat} {v s : Int} (eb : bestOf O (-1) = b) (eg : bestOf O b = g) (hs : Sale O b v g s) :
    Calls Tryz.prog 36 #[.slice A L.length cap, .slice A' O.length cap', .int .i64 0] w fun e w' => e = .returned (.tuple #[.int .i64 b, .int .i64 s, .int .i64 0]) ∧ Below w.heap.size w w' := by
  have C1 := dLooked (cap := cap) (cap' := cap') h h'
  have C2 := dBest (cap := cap') h' hC (-1)
  rw [hok] at C1
  rw [eb] at C2
  have hb := hs.best.lt_len
  have hg := hs.second.lt_len
  have hlen := h'.len
  have hgood := Lib.hid (lok_ok hok)
  have H := Lib.hid h'
  have HS := Lib.hid hs
  have EG := Lib.hid eg
  have HC := Lib.hid hC
  clear h h' hs eb eg hok hC
  go_enter Tryz.func36, Tryz.ntmps36
  go_wp2_with (first | (go_at_call 42; refine C1.mono ?_; rintro e w' ⟨rfl, rfl⟩) | (go_at_call 62; refine ruled0.mono ?_; rintro e w' ⟨rfl, rfl⟩) | (go_at_call 43; refine C2.mono ?_; rintro e w1 ⟨rfl, hbel⟩))
  have H1 := H.out.below hbel HC.out
  obtain ⟨bb, off, rfl, hbb, hcells⟩ := H1.2.2 (by omega)
  have hcb := hcells b v HS.out.best.val
  have hcg := hcells g s HS.out.second.val
  have HH1 := Lib.hid H1
  have HBEL := Lib.hid hbel
  clear hcells H1 hbel
  have hbw := HC.out
  have hS0 : w1.drew.cell? ⟨bb, off + b, none⟩ = some (.int .i64 v) ∧ w1.drew.cell? ⟨bb, off + g, none⟩ = some (.int .i64 s) ∧ Hid (Below w1.heap.size w1 w1.drew) := ⟨hcb, hcg, Lib.hid (below_drewN (Below.refl _ _) 1)⟩
  have keepS : ∀ u u' : World, (u.cell? ⟨bb, off + b, none⟩ = some (.int .i64 v) ∧ u.cell? ⟨bb, off + g, none⟩ = some (.int .i64 s) ∧ Hid (Below w1.heap.size w1 u)) → Below u.heap.size u u' →
      (u'.cell? ⟨bb, off + b, none⟩ = some (.int .i64 v) ∧ u'.cell? ⟨bb, off + g, none⟩ = some (.int .i64 s) ∧ Hid (Below w1.heap.size w1 u')) := by
    intro u u' ⟨h1, h2, h3⟩ hb'
    have hsz := h3.out.size
    have hsz' := HBEL.out.size
    exact ⟨((bcell hb').1 bb (off + b) (by omega)).trans h1, ((bcell hb').1 bb (off + g) (by omega)).trans h2, Lib.hid (h3.out.trans (hb'.mono hsz))⟩
  have CB : Hid (∀ u : World, (u.cell? ⟨bb, off + b, none⟩ = some (.int .i64 v) ∧ u.cell? ⟨bb, off + g, none⟩ = some (.int .i64 s) ∧ Hid (Below w1.heap.size w1 u)) →
      Calls Tryz.prog 43 #[.slice (some ⟨bb, off, none⟩) O.length cap', .int .i64 b] u fun e u' => e = .returned (.int .i64 g) ∧ (u'.cell? ⟨bb, off + b, none⟩ = some (.int .i64 v) ∧ u'.cell? ⟨bb, off + g, none⟩ = some (.int .i64 s) ∧ Hid (Below w1.heap.size w1 u'))) := Lib.hid (by
    intro u hS
    have hsz := hS.2.2.out.size
    have hsz' := HBEL.out.size
    have c := dBest (cap := cap') (HH1.out.below hS.2.2.out (by omega)) (by omega) b
    rw [EG.out] at c
    exact c.mono fun e u' ⟨he, hb'⟩ => ⟨he, keepS u u' hS hb'⟩)
  have CP : Hid (∀ u : World, (u.cell? ⟨bb, off + b, none⟩ = some (.int .i64 v) ∧ u.cell? ⟨bb, off + g, none⟩ = some (.int .i64 s) ∧ Hid (Below w1.heap.size w1 u)) →
      Calls Tryz.prog 121 #[.agg #[], .int .i64 v, .int .i64 s] u fun e u' => e = .returned (.int .i64 s) ∧ (u'.cell? ⟨bb, off + b, none⟩ = some (.int .i64 v) ∧ u'.cell? ⟨bb, off + g, none⟩ = some (.int .i64 s) ∧ Hid (Below w1.heap.size w1 u'))) := Lib.hid (by
    intro u hS
    exact (price0 v s).mono fun e u' ⟨he, hb'⟩ => ⟨he, keepS u u' hS hb'⟩)
  clear keepS hcb hcg
  have hn0 := nil0
  have hm0 := meth0
  go_region_held3 (fun w' => w'.cell? ⟨bb, off + b, none⟩ = some (.int .i64 v) ∧ w'.cell? ⟨bb, off + g, none⟩ = some (.int .i64 s) ∧ Hid (Below w1.heap.size w1 w')) (first | assumption | go_keep)
    (first | (go_at_call 43; refine (CB.out _ (by assumption)).mono ?_; rintro e w2 ⟨rfl, hS⟩) | (go_at_call 121; refine (CP.out _ (by assumption)).mono ?_; rintro e w2 ⟨rfl, hS⟩))
  all_goals
    go_wp2
    go_ret3
    exact ⟨rfl, HBEL.out.trans (Below.mono (held3 (by assumption)) HBEL.out.size)⟩

set_option maxHeartbeats 1000000 in
theorem dSold1 {w : World} {B C : Nat} {A A' : Option Addr} {L O : List Int} {cap cap' : Nat} (h : Rd w B A L) (h' : Rd w C A' O) (hC : C ≤ w.heap.size)
    (hok : lok L O = 0) {b g : Nat} {v s : Int} (eb : bestOf O (-1) = b) (eg : bestOf O b = g) (hs : Sale O b v g s) :
    Calls Tryz.prog 36 #[.slice A L.length cap, .slice A' O.length cap', .int .i64 1] w fun e w' => e = .returned (.tuple #[.int .i64 b, .int .i64 ((v + s) / 2), .int .i64 0]) ∧ Below w.heap.size w w' := by
  have C1 := dLooked (cap := cap) (cap' := cap') h h'
  have C2 := dBest (cap := cap') h' hC (-1)
  rw [hok] at C1
  rw [eb] at C2
  have hb := hs.best.lt_len
  have hg := hs.second.lt_len
  have hlen := h'.len
  have hgood := Lib.hid (lok_ok hok)
  have HV1 := Lib.hid (hgood.out.bd v (mem_of hs.best.val))
  have HV2 := Lib.hid (hgood.out.bd s (mem_of hs.second.val))
  have H := Lib.hid h'
  have HS := Lib.hid hs
  have EG := Lib.hid eg
  have HC := Lib.hid hC
  clear h h' hs eb eg hok hC
  go_enter Tryz.func36, Tryz.ntmps36
  go_wp2_with (first | (go_at_call 42; refine C1.mono ?_; rintro e w' ⟨rfl, rfl⟩) | (go_at_call 62; refine ruled1.mono ?_; rintro e w' ⟨rfl, rfl⟩) | (go_at_call 43; refine C2.mono ?_; rintro e w1 ⟨rfl, hbel⟩))
  have H1 := H.out.below hbel HC.out
  obtain ⟨bb, off, rfl, hbb, hcells⟩ := H1.2.2 (by omega)
  have hcb := hcells b v HS.out.best.val
  have hcg := hcells g s HS.out.second.val
  have HH1 := Lib.hid H1
  have HBEL := Lib.hid hbel
  clear hcells H1 hbel
  have hbw := HC.out
  have hS0 : w1.drew.cell? ⟨bb, off + b, none⟩ = some (.int .i64 v) ∧ w1.drew.cell? ⟨bb, off + g, none⟩ = some (.int .i64 s) ∧ Hid (Below w1.heap.size w1 w1.drew) := ⟨hcb, hcg, Lib.hid (below_drewN (Below.refl _ _) 1)⟩
  have keepS : ∀ u u' : World, (u.cell? ⟨bb, off + b, none⟩ = some (.int .i64 v) ∧ u.cell? ⟨bb, off + g, none⟩ = some (.int .i64 s) ∧ Hid (Below w1.heap.size w1 u)) → Below u.heap.size u u' →
      (u'.cell? ⟨bb, off + b, none⟩ = some (.int .i64 v) ∧ u'.cell? ⟨bb, off + g, none⟩ = some (.int .i64 s) ∧ Hid (Below w1.heap.size w1 u')) := by
    intro u u' ⟨h1, h2, h3⟩ hb'
    have hsz := h3.out.size
    have hsz' := HBEL.out.size
    exact ⟨((bcell hb').1 bb (off + b) (by omega)).trans h1, ((bcell hb').1 bb (off + g) (by omega)).trans h2, Lib.hid (h3.out.trans (hb'.mono hsz))⟩
  have CB : Hid (∀ u : World, (u.cell? ⟨bb, off + b, none⟩ = some (.int .i64 v) ∧ u.cell? ⟨bb, off + g, none⟩ = some (.int .i64 s) ∧ Hid (Below w1.heap.size w1 u)) →
      Calls Tryz.prog 43 #[.slice (some ⟨bb, off, none⟩) O.length cap', .int .i64 b] u fun e u' => e = .returned (.int .i64 g) ∧ (u'.cell? ⟨bb, off + b, none⟩ = some (.int .i64 v) ∧ u'.cell? ⟨bb, off + g, none⟩ = some (.int .i64 s) ∧ Hid (Below w1.heap.size w1 u'))) := Lib.hid (by
    intro u hS
    have hsz := hS.2.2.out.size
    have hsz' := HBEL.out.size
    have c := dBest (cap := cap') (HH1.out.below hS.2.2.out (by omega)) (by omega) b
    rw [EG.out] at c
    exact c.mono fun e u' ⟨he, hb'⟩ => ⟨he, keepS u u' hS hb'⟩)
  have CP : Hid (∀ u : World, (u.cell? ⟨bb, off + b, none⟩ = some (.int .i64 v) ∧ u.cell? ⟨bb, off + g, none⟩ = some (.int .i64 s) ∧ Hid (Below w1.heap.size w1 u)) →
      Calls Tryz.prog 122 #[.agg #[], .int .i64 v, .int .i64 s] u fun e u' => e = .returned (.int .i64 ((v + s) / 2)) ∧ (u'.cell? ⟨bb, off + b, none⟩ = some (.int .i64 v) ∧ u'.cell? ⟨bb, off + g, none⟩ = some (.int .i64 s) ∧ Hid (Below w1.heap.size w1 u'))) := Lib.hid (by
    intro u hS
    exact (price1 v s HV1.out.1 HV1.out.2 HV2.out.1 HV2.out.2).mono fun e u' ⟨he, hb'⟩ => ⟨he, keepS u u' hS hb'⟩)
  clear keepS hcb hcg
  have hn0 := nil1
  have hm0 := meth1
  go_region_held3 (fun w' => w'.cell? ⟨bb, off + b, none⟩ = some (.int .i64 v) ∧ w'.cell? ⟨bb, off + g, none⟩ = some (.int .i64 s) ∧ Hid (Below w1.heap.size w1 w')) (first | assumption | go_keep)
    (first | (go_at_call 43; refine (CB.out _ (by assumption)).mono ?_; rintro e w2 ⟨rfl, hS⟩) | (go_at_call 122; refine (CP.out _ (by assumption)).mono ?_; rintro e w2 ⟨rfl, hS⟩))
  all_goals
    go_wp2
    go_ret3
    exact ⟨rfl, HBEL.out.trans (Below.mono (held3 (by assumption)) HBEL.out.size)⟩
end Go.Proofs.YtkoipecnmijfoaaGreat
end

section
/-! Walks of chapter 34: sold in all cases, Price and Buyer of both, the reference's looked and priced. -/
namespace Go.Proofs.YtkoipecnmijfoaaGreat
open Go.RowKit
set_option linter.unusedVariables false

def sE (L O : List Int) (r : Int) : Int := if lok L O ≠ 0 then lok L O else if r ≠ 0 ∧ r ≠ 1 then 2 else 0
def sB (L O : List Int) (r : Int) : Int := if sE L O r = 0 then bestOf O (-1) else 0
def priceOf (O : List Int) (r : Int) : Int :=
  if r = 1 then (O.getD (bestOf O (-1)).toNat 0 + O.getD (bestOf O (bestOf O (-1))).toNat 0) / 2 else O.getD (bestOf O (bestOf O (-1))).toNat 0
def sP (L O : List Int) (r : Int) : Int := if sE L O r = 0 then priceOf O r else 0
theorem sE_lok {L O : List Int} {r : Int} (h : lok L O ≠ 0) : sE L O r = lok L O := by rw [sE, if_pos h]
theorem sE_rule {L O : List Int} {r : Int} (h : lok L O = 0) (h0 : r ≠ 0) (h1 : r ≠ 1) : sE L O r = 2 := by rw [sE, if_neg (by simp [h]), if_pos ⟨h0, h1⟩]
theorem sE_ok {L O : List Int} {r : Int} (h : lok L O = 0) (h0 : r = 0 ∨ r = 1) : sE L O r = 0 := by rw [sE, if_neg (by simp [h]), if_neg (by omega)]
theorem priceOf_sale {O : List Int} {r : Int} {b g : Nat} {v s : Int} (eb : bestOf O (-1) = b) (eg : bestOf O b = g) (h : Sale O b v g s) : priceOf O r = if r = 1 then (v + s) / 2 else s := by
  have h1 : O.getD b 0 = v := by simp [List.getD, h.best.val]
  have h2 : O.getD g 0 = s := by simp [List.getD, h.second.val]
  simp only [priceOf, eb, eg, Int.toNat_natCast, h1, h2]

set_option maxHeartbeats 400000 in
theorem dSold {w : World} {B C : Nat} {A A' : Option Addr} {L O : List Int} {cap cap' : Nat} (h : Rd w B A L) (h' : Rd w C A' O) (hC : C ≤ w.heap.size) (r : Int) :
    Calls Tryz.prog 36 #[.slice A L.length cap, .slice A' O.length cap', .int .i64 r] w fun e w' => e = .returned (.tuple #[.int .i64 (sB L O r), .int .i64 (sP L O r), .int .i64 (sE L O r)]) ∧ Below w.heap.size w w' := by
  by_cases hl : lok L O = 0
  · obtain ⟨b, v, g, s, eb, eg, hs⟩ := (lok_ok hl).sale
    by_cases h0 : r = 0
    · subst h0
      have he := sE_ok hl (r := 0) (.inl rfl)
      rw [sB, sP, he, if_pos rfl, if_pos rfl, priceOf_sale eb eg hs, eb]
      exact dSold0 h h' hC hl eb eg hs
    · by_cases h1 : r = 1
      · subst h1
        have he := sE_ok hl (r := 1) (.inr rfl)
        rw [sB, sP, he, if_pos rfl, if_pos rfl, priceOf_sale eb eg hs, eb]
        exact dSold1 h h' hC hl eb eg hs
      · have he := sE_rule hl h0 h1
        rw [sB, sP, he, if_neg (by decide), if_neg (by decide)]
        have C1 := dLooked (cap := cap) (cap' := cap') h h'
        rw [hl] at C1
        have C2 := ruledNo (w := w) (r := r) (by simpa using h0) (by simpa using h1)
        clear h h' hC hl he eb eg hs h0 h1
        go_enter Tryz.func36, Tryz.ntmps36
        go_wp2_with (first | (go_at_call 42; refine C1.mono ?_; rintro e w' ⟨rfl, rfl⟩) | (go_at_call 62; refine C2.mono ?_; rintro e w' ⟨rfl, rfl⟩))
        go_ret3
        exact ⟨rfl, Below.refl _ _⟩
  · have he := sE_lok (r := r) hl
    rw [sB, sP, he, if_neg hl, if_neg hl]
    have C1 := dLooked (cap := cap) (cap' := cap') h h'
    have hb : (lok L O != 0) = true := by simpa using hl
    clear h h' hC hl he
    generalize lok L O = c at *
    go_enter Tryz.func36, Tryz.ntmps36
    go_wp2_with (go_at_call 42; refine C1.mono ?_; rintro e w' ⟨rfl, rfl⟩)
    go_ret3
    exact ⟨rfl, Below.refl _ _⟩

def byE (L O : List Int) : Int := if lok L O = 0 then bestOf O (-1) else 0
theorem dBuyer {w : World} {B C : Nat} {A A' : Option Addr} {L O : List Int} {cap cap' : Nat} (h : Rd w B A L) (h' : Rd w C A' O) (hC : C ≤ w.heap.size) :
    Calls Tryz.prog 17 #[.slice A L.length cap, .slice A' O.length cap'] w fun e w' => e = .returned (.tuple #[.int .i64 (byE L O), .int .i64 (lok L O)]) ∧ Below w.heap.size w w' := by
  have C1 := dLooked (cap := cap) (cap' := cap') h h'
  have C2 := dBest (cap := cap') h' hC (-1)
  clear h h' hC
  by_cases hl : lok L O = 0
  · rw [byE, if_pos hl, hl]
    rw [hl] at C1
    clear hl
    generalize bestOf O (-1) = b at *
    go_enter Tryz.func17, Tryz.ntmps17
    go_wp2_with (first | (go_at_call 42; refine C1.mono ?_; rintro e w' ⟨rfl, rfl⟩) | (go_at_call 43; refine C2.mono ?_; rintro e w1 ⟨rfl, hbel⟩))
    go_ret2
    exact ⟨rfl, hbel⟩
  · rw [byE, if_neg hl]
    have hb : (lok L O != 0) = true := by simpa using hl
    clear hl C2
    generalize lok L O = c at *
    go_enter Tryz.func17, Tryz.ntmps17
    go_wp2_with (go_at_call 42; refine C1.mono ?_; rintro e w' ⟨rfl, rfl⟩)
    go_ret2
    exact ⟨rfl, Below.refl _ _⟩
/-- the greatest of the first k offers, but b's -/
structure MaxAt (O : List Int) (b : Nat) (k : Nat) (m : Int) : Prop where
  lo : 0 ≤ m
  hi : m ≤ 1000000
  le : ∀ (j : Nat) y, j < k → j ≠ b → O[j]? = some y → y ≤ m
  is : m = 0 ∨ ∃ j, j < k ∧ j ≠ b ∧ O[j]? = some m
theorem MaxAt.skip {O : List Int} {b k : Nat} {m : Int} (h : MaxAt O b k m) (hk : k = b) : MaxAt O b (k + 1) m :=
  ⟨h.lo, h.hi, fun j y hj hjb hy => h.le j y (by omega) hjb hy, by
    rcases h.is with h0 | ⟨j, h1, h2, h3⟩
    · exact .inl h0
    · exact .inr ⟨j, by omega, h2, h3⟩⟩
theorem MaxAt.next {O : List Int} {b k : Nat} {m x : Int} (h : MaxAt O b k m) (hk : k ≠ b) (hx : O[k]? = some x) (h0 : 0 ≤ x) (h1 : x ≤ 1000000) : MaxAt O b (k + 1) (max m x) := by
  have hlo := h.lo
  have hhi := h.hi
  refine ⟨by omega, by omega, fun j y hj hjb hy => ?_, ?_⟩
  · rcases Nat.lt_or_ge j k with hlt | hge
    · have := h.le j y hlt hjb hy; omega
    · obtain rfl : j = k := by omega
      rw [hx] at hy; cases hy; omega
  · rcases Int.le_total x m with hle | hle
    · rw [Int.max_eq_left hle]
      rcases h.is with h0 | ⟨j, h1, h2, h3⟩
      · exact .inl h0
      · exact .inr ⟨j, by omega, h2, h3⟩
    · rw [Int.max_eq_right hle]
      exact .inr ⟨k, by omega, hk, hx⟩
theorem MaxAt.done {O : List Int} {b g : Nat} {m s : Int} (h : MaxAt O b O.length m) (hs : IsBest O b g s) (h0 : 0 ≤ s) : m = s := by
  have h1 := h.le g s hs.lt_len (by have := hs.ne; omega) hs.val
  rcases h.is with h2 | ⟨j, h2, h3, h4⟩
  · omega
  · have := hs.le j m (by omega) h4
    omega

end Go.Proofs.YtkoipecnmijfoaaGreat
end

section
/-! Plain facts on payments. -/
namespace Go.Proofs.YtkoipecnmijfoaaGreat
set_option linter.unusedVariables false

/-- what partner j has for its x shares at price p -/
def part (p S x : Int) : Int := p * x / S
def partSum (p S : Int) (b : Nat) : List Int → Nat → Int
  | [], _ => 0
  | x :: t, k => (if k = b then 0 else part p S x) + partSum p S b t (k + 1)
/-- the payments after the first k partners -/
structure PayAt (p S : Int) (L : List Int) (b k : Nat) (P : List Int) : Prop where
  len : P.length = L.length
  own : ∀ t, P[b]? = some t → t + -(partSum p S b (L.drop k) k) = -(partSum p S b L 0)
  ought : ∀ j x, j ≠ b → L[j]? = some x → P[j]? = some (if j < k then part p S x else 0)
def payL (p S : Int) (b : Nat) (L : List Int) : List Int := (List.range L.length).map fun j => if j = b then -(partSum p S b L 0) else part p S (L.getD j 0)
theorem PayAt.start (p S : Int) (L : List Int) (b : Nat) : PayAt p S L b 0 (List.replicate L.length 0) := by
  refine ⟨by simp, ?_, ?_⟩
  · intro t ht
    have : t = 0 := by
      obtain ⟨h, e⟩ := List.getElem?_eq_some_iff.1 ht
      simpa using e.symm
    subst this
    simp
  · intro j x hj hx
    have := (List.getElem?_eq_some_iff.1 hx).1
    simp [this]
theorem partSum_drop {p S : Int} {b : Nat} {L : List Int} {k : Nat} {x : Int} (h : L[k]? = some x) : partSum p S b (L.drop k) k = (if k = b then 0 else part p S x) + partSum p S b (L.drop (k + 1)) (k + 1) := by rw [drop_of h]; rfl
theorem PayAt.skip {p S : Int} {L P : List Int} {b k : Nat} {x : Int} (h : PayAt p S L b k P) (hx : L[k]? = some x) (hk : k = b) : PayAt p S L b (k + 1) P := by
  refine ⟨h.len, ?_, ?_⟩
  · intro t ht
    have := h.own t ht
    rw [partSum_drop hx, if_pos hk] at this
    omega
  · intro j y hj hy
    rw [h.ought j y hj hy]
    congr 1
    by_cases h1 : j < k
    · rw [if_pos h1, if_pos (by omega)]
    · rw [if_neg h1, if_neg (by omega)]
theorem PayAt.zero {p S : Int} {L P : List Int} {b k : Nat} {x : Int} (h : PayAt p S L b k P) (hx : L[k]? = some x) (hk : k ≠ b) : P[k]? = some 0 := by
  have := h.ought k x hk hx
  rwa [if_neg (by omega)] at this
theorem PayAt.next {p S : Int} {L P : List Int} {b k : Nat} {x t : Int} (h : PayAt p S L b k P) (hx : L[k]? = some x) (hk : k ≠ b) (ht : P[b]? = some t) :
    PayAt p S L b (k + 1) ((P.set k (part p S x)).set b (t - part p S x)) := by
  have hkl := (List.getElem?_eq_some_iff.1 hx).1
  have hbl := (List.getElem?_eq_some_iff.1 ht).1
  have hl := h.len
  refine ⟨by simp [hl], ?_, ?_⟩
  · intro u hu
    have e : u = t - part p S x := by
      rw [List.getElem?_set_self (by simp; omega)] at hu
      cases hu; rfl
    have := h.own t ht
    rw [partSum_drop hx, if_neg hk] at this
    omega
  · intro j y hj hy
    rw [List.getElem?_set_ne (by omega)]
    by_cases hjk : j = k
    · subst hjk
      rw [hx] at hy; cases hy
      rw [List.getElem?_set_self (by omega), if_pos (by omega)]
    · rw [List.getElem?_set_ne (by omega), h.ought j y hj hy]
      congr 1
      by_cases h1 : j < k
      · rw [if_pos h1, if_pos (by omega)]
      · rw [if_neg h1, if_neg (by omega)]
theorem PayAt.done {p S : Int} {L P : List Int} {b : Nat} (h : PayAt p S L b L.length P) (hb : b < L.length) : P = payL p S b L := by
  apply List.ext_getElem?
  intro j
  rcases Nat.lt_or_ge j L.length with hlt | hge
  · have hx : L[j]? = some L[j] := by simp [hlt]
    simp only [payL, List.getElem?_map, List.getElem?_range hlt, Option.map_some]
    by_cases hj : j = b
    · subst hj
      obtain ⟨t, ht⟩ : ∃ t, P[j]? = some t := ⟨P[j]'(by have := h.len; omega), by simp⟩
      have := h.own t ht
      rw [List.drop_length] at this
      simp only [partSum] at this
      rw [if_pos rfl, ht]
      congr 1; omega
    · rw [h.ought j _ hj hx, if_pos hlt, if_neg hj]
      simp [List.getD, hlt]
  · rw [List.getElem?_eq_none (by have := h.len; omega), List.getElem?_eq_none (by simp [payL]; omega)]

/-- what the sizes are -/
theorem mul_bd {p x : Int} (h0 : 0 ≤ p) (h1 : p ≤ 1000000) (h2 : 1 ≤ x) (h3 : x ≤ 1000) : 0 ≤ p * x ∧ p * x ≤ 1000000000 := by
  refine ⟨Int.mul_nonneg h0 (by omega), ?_⟩
  have h4 := Int.mul_le_mul h1 h3 (by omega) (by omega)
  omega
theorem le_sumL {L : List Int} (h : ∀ x ∈ L, 1 ≤ x) {x : Int} (hx : x ∈ L) : x ≤ sumL L := by
  induction L with
  | nil => simp at hx
  | cons y t ih =>
    have h1 := h y (by simp)
    have h2 := sumL_nonneg (L := t) fun z hz => h z (List.mem_cons_of_mem _ hz)
    simp only [sumL]
    rcases List.mem_cons.1 hx with rfl | hx
    · omega
    · have := ih (fun z hz => h z (List.mem_cons_of_mem _ hz)) hx
      omega
theorem Valid.le {L : List Int} (h : Valid L) {x : Int} (hx : x ∈ L) : 1 ≤ x ∧ x ≤ 1000 := ⟨h.pos x hx, by have := le_sumL h.pos hx; have := h.sum; omega⟩
theorem Valid.sum_pos {L : List Int} (h : Valid L) : 2 ≤ sumL L := by have := sumL_le h.pos; have := h.two; omega
theorem part_bd {p S x : Int} (h0 : 0 ≤ p) (h1 : p ≤ 1000000) (h2 : 1 ≤ x) (h3 : x ≤ S) : 0 ≤ part p S x ∧ part p S x ≤ p := by
  unfold part
  refine ⟨Int.ediv_nonneg (Int.mul_nonneg h0 (by omega)) (by omega), ?_⟩
  have h4 : p * x ≤ p * S := Int.mul_le_mul_of_nonneg_left h3 h0
  have := Int.ediv_le_ediv (c := S) (by omega) h4
  rwa [Int.mul_ediv_cancel _ (by omega)] at this
theorem partSum_bd {p S : Int} {b : Nat} (h0 : 0 ≤ p) (h1 : p ≤ 1000000) : ∀ {L : List Int} {k : Nat}, (∀ x ∈ L, 1 ≤ x ∧ x ≤ S) → 0 ≤ partSum p S b L k ∧ partSum p S b L k ≤ 1000000 * L.length
  | [], k, _ => by simp [partSum]
  | x :: t, k, h => by
    have hx := h x (by simp)
    have ih := partSum_bd (p := p) (S := S) (b := b) h0 h1 (L := t) (k := k + 1) fun y hy => h y (List.mem_cons_of_mem _ hy)
    have hp := part_bd h0 h1 hx.1 hx.2
    simp only [partSum, List.length_cons]
    split <;> omega
/-- the payments are small -/
theorem PayAt.small {p : Int} {L P : List Int} {b k : Nat} (h : PayAt p (sumL L) L b k P) (hv : Valid L) (h0 : 0 ≤ p) (h1 : p ≤ 1000000) : ∀ x ∈ P, -10000000 ≤ x ∧ x ≤ 10000000 := by
  intro x hx
  obtain ⟨j, hj, e⟩ := List.getElem_of_mem hx
  have hjl : j < L.length := by have := h.len; omega
  have hq : P[j]? = some x := by simp [hj, e]
  have hall : ∀ y ∈ L, 1 ≤ y ∧ y ≤ sumL L := fun y hy => ⟨hv.pos y hy, le_sumL hv.pos hy⟩
  by_cases hjb : j = b
  · subst hjb
    have e1 := h.own x hq
    have b1 := partSum_bd (b := j) h0 h1 (S := sumL L) (L := L) (k := 0) hall
    have b2 := partSum_bd (b := j) h0 h1 (S := sumL L) (L := L.drop k) (k := k) fun y hy => hall y (List.mem_of_mem_drop hy)
    have : (L.drop k).length ≤ L.length := by simp
    have := hv.ten
    omega
  · have e1 := h.ought j L[j] hjb (by simp [hjl])
    rw [hq] at e1
    have hy := hall L[j] (List.getElem_mem hjl)
    have := part_bd h0 h1 hy.1 hy.2
    split at e1 <;> cases e1 <;> omega
theorem priceOf_bd {L O : List Int} {r : Int} (h : lok L O = 0) : 0 ≤ priceOf O r ∧ priceOf O r ≤ 1000000 := by
  have hV := lok_ok h
  obtain ⟨b, v, g, s, eb, eg, hs⟩ := hV.sale
  rw [priceOf_sale eb eg hs]
  have h1 := hV.bd v (mem_of hs.best.val)
  have h2 := hV.bd s (mem_of hs.second.val)
  split <;> omega
end Go.Proofs.YtkoipecnmijfoaaGreat
end

section
/-! Walks of chapter 34: both Pays. -/
namespace Go.Proofs.YtkoipecnmijfoaaGreat
open Go.RowKit Go.Deep
set_option linter.unusedVariables false

/-- the results (a slice that reads as P, an error c), in the world behind the call -/
def PayRes (w : World) (P : List Int) (c : Int) (e : Ending) (w' : World) : Prop :=
  ∃ A cap, e = .returned (.tuple #[.slice A P.length cap, .int .i64 c]) ∧ Rd w' w'.heap.size A P ∧ Below w.heap.size w w'
theorem PayRes.none_ (w w' : World) (c : Int) (h : Below w.heap.size w w') : PayRes w [] c (.returned (.tuple #[.slice none 0 0, .int .i64 c])) w' := ⟨none, 0, rfl, Rd.nil _ _ _, h⟩
def pyL (L O : List Int) (r : Int) : List Int := if sE L O r = 0 then payL (priceOf O r) (sumL L) (bestOf O (-1)).toNat L else []
theorem infoInt : (Tryz.prog.info? 3).map (fun i => (i.zero, i.size, i.bytes)) = some (some (.int .i64 0), 1, 8) := by kernel_rfl
theorem smallRd {w : World} {g T : Nat} {P : List Int} (h : Own w g T P) (hs : ∀ x ∈ P, -10000000 ≤ x ∧ x ≤ 10000000) (hl : P.length ≤ 10) : Rd w w.heap.size (some ⟨g, 0, none⟩) P :=
  h.rd (fun x hx => by have := hs x hx; unfold I64; omega) (by omega) h.lt

set_option maxRecDepth 100000 in
set_option maxHeartbeats 1000000 in
theorem dPay {w : World} {B C : Nat} {A A' : Option Addr} {L O : List Int} {cap cap' : Nat} (h : Rd w B A L) (hB : B ≤ w.heap.size) (h' : Rd w C A' O) (hC : C ≤ w.heap.size) (r : Int) :
    Calls Tryz.prog 14 #[.slice A L.length cap, .slice A' O.length cap', .int .i64 r] w (PayRes w (pyL L O r) (sE L O r)) := by
  have C1 := dSold (cap := cap) (cap' := cap') h h' hC r
  by_cases he : sE L O r = 0
  · rw [pyL, if_pos he, he]
    have hl : lok L O = 0 := by
      rcases Decidable.em (lok L O = 0) with h0 | h0
      · exact h0
      · rw [sE_lok h0] at he; exact absurd he h0
    have hV := lok_ok hl
    obtain ⟨b, v, g, s, eb, eg, hs⟩ := hV.sale
    have hp := priceOf_bd (r := r) hl
    rw [sB, sP, if_pos he, if_pos he, he, eb] at C1
    rw [eb, Int.toNat_natCast]
    have hbl : b < L.length := by have := hs.best.lt_len; have := hV.len; omega
    generalize priceOf O r = p at *
    have hlen := h.len
    have hten := hV.v.ten
    have hS := hV.v.sum_pos
    have hS' := hV.v.sum
    have H := Lib.hid h
    have HV := Lib.hid hV.v
    have HB := Lib.hid hB
    have hmk := fun u => run_make_row' (P := Tryz.prog) 22 3 (.int .i64 0) 8 Tryz.underlying22 infoInt rfl .i64 .i64 L.length (by omega) (by omega) u
    clear h h' he hl hV eb eg hs hB hC
    go_enter Tryz.func14, Tryz.ntmps14
    go_wp2_with (go_at_call 36; refine C1.mono ?_; rintro e w1 ⟨rfl, hbel⟩)
    clear hmk C1
    have hown := Lib.hid (Own.made w1 3 L.length)
    have hsz : w1.heap.size < (w1.alloc (.cells (madeCells #[Value.int .i64 0] L.length) 3)).heap.size := by simp
    have H1 := Lib.hid (H.out.below hbel HB.out)
    have hin := Lib.hid (Below.alloc (B := w1.heap.size) (Below.refl _ w1) (Nat.le_refl _) (.cells (madeCells #[Value.int .i64 0] L.length) 3))
    have HBEL := Lib.hid hbel
    clear hbel hsz
    generalize w1.alloc (.cells (madeCells #[Value.int .i64 0] L.length) 3) = w2 at *
    go_loopw [31] (fun i wr => ∃ (k : Nat) (P : List Int), k ≤ L.length ∧ i = .int .i64 k ∧ Hid (Own wr w1.heap.size 3 P) ∧ Hid (Below w1.heap.size w1 wr) ∧ Hid (PayAt p (sumL L) L b k P)) (fun i _ => L.length - (intOf i).toNat)
    case atStart => exact ⟨0, _, by omega, rfl, hown, hin, Lib.hid (PayAt.start _ _ _ _)⟩
    case round =>
      obtain ⟨k, P, hk, rfl, ho, hw, hr⟩ := hrel
      by_cases hlt : k < L.length
      · have HR := Lib.hid (H1.out.below hw.out (by have := HBEL.out.size; have := HB.out; omega))
        have CT := dTotal (cap := cap) HR.out HV.out
        obtain ⟨bb, off, x, rfl, hbb, hx, hi, hc⟩ := HR.out.at_ hlt
        have hx1 := HV.out.le (mem_of hx)
        have hm := mul_bd hp.1 hp.2 hx1.1 hx1.2
        have hpart := part_bd hp.1 hp.2 hx1.1 (le_sumL HV.out.pos (mem_of hx))
        unfold part at hpart
        by_cases hkb : k = b
        · have hne : ((k : Int) != (b : Int)) = false := by simp; omega
          have hnext := Lib.hid (hr.out.skip hx hkb)
          have HX := Lib.hid hx; clear hx
          have HI := Lib.hid hi; clear hi
          clear hkb
          generalize sumL L = S at *
          go_wp2_with (go_at_call 37; refine CT.mono ?_; rintro e w' ⟨rfl, rfl⟩)
          go_roundw
          case rel => exact ⟨k + 1, P, by omega, by go_num, ho, hw, hnext⟩
          case measure => simp [intOf]; omega
        · have hne : ((k : Int) != (b : Int)) = true := by simp; omega
          obtain ⟨t, ht⟩ : ∃ t, P[b]? = some t := ⟨P[b]'(by have := hr.out.len; omega), by simp⟩
          have htb := hr.out.small HV.out hp.1 hp.2 t (mem_of ht)
          have hnext := Lib.hid (hr.out.next hx hkb ht)
          have hpk := hr.out.zero hx hkb
          have hPl := hr.out.len
          have c1 := ho.out.cell hpk
          have f1 := ho.out.frozen k
          have hsz := ho.out.lt
          have ho2 := ho.out.store k (p * x / sumL L)
          have c2 := ho2.cell (i := b) (x := t) (by rw [List.getElem?_set_ne (by omega)]; exact ht)
          have f2 := ho2.frozen b
          have ho3 := Lib.hid (ho2.store b (t - p * x / sumL L))
          have hw3 := Lib.hid ((hw.out.setCell (p := ⟨w1.heap.size, k, none⟩) (Nat.le_refl _) (.int .i64 (p * x / sumL L))).setCell (p := ⟨w1.heap.size, b, none⟩) (Nat.le_refl _) (.int .i64 (t - p * x / sumL L)))
          have HX := Lib.hid hx; clear hx
          have HI := Lib.hid hi; clear hi
          have HT := Lib.hid ht; clear ht
          have HPL := Lib.hid hPl; clear hPl
          unfold part at hnext
          clear hkb ho2 hpk
          generalize hSS : sumL L = S at *
          clear hSS
          generalize hq : p * x / S = q at *
          go_wp2_with (go_at_call 37; refine CT.mono ?_; rintro e w' ⟨rfl, rfl⟩)
          go_roundw
          case rel => exact ⟨k + 1, _, by omega, by go_num, ho3, hw3, hnext⟩
          case measure => simp [intOf]; omega
      · obtain rfl : k = L.length := by omega
        have hsm := Lib.hid (hr.out.small HV.out hp.1 hp.2)
        have hP := hr.out.done hbl
        have hlenP : P.length = L.length := hr.out.len
        have HLP := Lib.hid hlenP; clear hlenP
        have HP := Lib.hid hP; clear hP
        have hszw := HBEL.out.size
        go_wp2
        go_ret2
        refine ⟨some ⟨w1.heap.size, 0, none⟩, L.length, ?_, ?_, ?_⟩
        · rw [← HP.out, HLP.out]; rfl
        · rw [← HP.out]
          exact smallRd ho.out hsm.out (by rw [HLP.out]; exact hten)
        · exact HBEL.out.trans (hw.out.mono hszw)
  · rw [pyL, if_neg he]
    rw [sB, sP, if_neg he, if_neg he] at C1
    have hb : (sE L O r != 0) = true := by simpa using he
    clear he h h' hB hC
    generalize sE L O r = c at *
    go_enter Tryz.func14, Tryz.ntmps14
    go_wp2_with (go_at_call 36; refine C1.mono ?_; rintro e w1 ⟨rfl, hbel⟩)
    go_ret2
    exact PayRes.none_ _ _ _ hbel

end Go.Proofs.YtkoipecnmijfoaaGreat
end

section
/-! Walks of chapter 34: the reference's Price; the statement DissolvePays. -/
namespace Go.Proofs.YtkoipecnmijfoaaGreat
open Go.RowKit Go.Deep
set_option linter.unusedVariables false

theorem sE_zero {L O : List Int} {r : Int} (he : sE L O r = 0) : lok L O = 0 := by
  rcases Decidable.em (lok L O = 0) with h0 | h0
  · exact h0
  · rw [sE_lok h0] at he; exact absurd he h0
end Go.Proofs.YtkoipecnmijfoaaGreat
end

section
/-! Walks of chapter 34: both Gains. -/
namespace Go.Proofs.YtkoipecnmijfoaaGreat
open Go.RowKit Go.Deep
set_option linter.unusedVariables false

def badGain (n : Nat) (i wv : Int) : Prop := i < 0 ∨ (n : Int) ≤ i ∨ wv < 0 ∨ 1000000 < wv
instance (n : Nat) (i wv : Int) : Decidable (badGain n i wv) := by unfold badGain; infer_instance
def gE (L O : List Int) (r i wv : Int) : Int := if sE L O r ≠ 0 then sE L O r else if badGain L.length i wv then 2 else 0
def gV (L O : List Int) (r i wv : Int) : Int :=
  if gE L O r i wv ≠ 0 then 0 else sumL L * ((pyL L O r).getD i.toNat 0 + if i = bestOf O (-1) then wv else 0) - L.getD i.toNat 0 * wv
theorem gE_bad {L O : List Int} {r i wv : Int} (h : sE L O r ≠ 0) : gE L O r i wv = sE L O r := by rw [gE, if_pos h]
theorem gE_arg {L O : List Int} {r i wv : Int} (h : sE L O r = 0) (h2 : badGain L.length i wv) : gE L O r i wv = 2 := by rw [gE, if_neg (by simp [h]), if_pos h2]
theorem gE_ok {L O : List Int} {r i wv : Int} (h : sE L O r = 0) (h2 : ¬ badGain L.length i wv) : gE L O r i wv = 0 := by rw [gE, if_neg (by simp [h]), if_neg h2]
theorem gV_no {L O : List Int} {r i wv : Int} (h : gE L O r i wv ≠ 0) : gV L O r i wv = 0 := by rw [gV, if_pos h]
theorem gV_ok {L O : List Int} {r wv : Int} {i : Nat} {x y : Int} (h : gE L O r i wv = 0) (hx : L[i]? = some x) (hy : (pyL L O r)[i]? = some y) :
    gV L O r i wv = sumL L * (y + if (i : Int) = bestOf O (-1) then wv else 0) - x * wv := by
  rw [gV, if_neg (by simp [h])]
  have h1 : L.getD i 0 = x := by simp [List.getD, hx]
  have h2 : (pyL L O r).getD i 0 = y := by simp [List.getD, hy]
  rw [Int.toNat_natCast, h1, h2]

/-- the payments are what PayAt says, and small -/
theorem pyL_small {L O : List Int} {r : Int} (he : sE L O r = 0) : (pyL L O r).length = L.length ∧ ∀ y ∈ pyL L O r, -10000000 ≤ y ∧ y ≤ 10000000 := by
  have hl := sE_zero he
  have hV := lok_ok hl
  obtain ⟨b, v, g, s, eb, eg, hs⟩ := hV.sale
  have hp := priceOf_bd (r := r) hl
  have hbl : b < L.length := by have := hs.best.lt_len; have := hV.len; omega
  rw [pyL, if_pos he, eb, Int.toNat_natCast]
  refine ⟨by simp [payL], ?_⟩
  have hall : ∀ y ∈ L, 1 ≤ y ∧ y ≤ sumL L := fun y hy => ⟨hV.v.pos y hy, le_sumL hV.v.pos hy⟩
  intro y hy
  obtain ⟨j, hj, rfl⟩ := List.mem_map.1 hy
  have hj' : j < L.length := by simpa using hj
  have b1 := partSum_bd (b := b) hp.1 hp.2 (S := sumL L) (L := L) (k := 0) hall
  have := hV.v.ten
  split
  · omega
  · have hx := hall (L.getD j 0) (by simp [List.getD, hj'])
    have := part_bd hp.1 hp.2 hx.1 hx.2
    omega
theorem gain_bd {S y x wv : Int} (h1 : 2 ≤ S) (h2 : S ≤ 1000) (h3 : -11000000 ≤ y) (h4 : y ≤ 11000000) (h5 : 1 ≤ x) (h6 : x ≤ 1000) (h7 : 0 ≤ wv) (h8 : wv ≤ 1000000) :
    (-11000000000 ≤ S * y ∧ S * y ≤ 11000000000) ∧ (0 ≤ x * wv ∧ x * wv ≤ 1000000000) ∧ (0 ≤ S * wv ∧ S * wv ≤ 1000000000) := by
  have a1 : S * y ≤ S * 11000000 := Int.mul_le_mul_of_nonneg_left h4 (by omega)
  have a2 : S * -11000000 ≤ S * y := Int.mul_le_mul_of_nonneg_left h3 (by omega)
  have a3 : x * wv ≤ 1000 * 1000000 := Int.mul_le_mul h6 h8 h7 (by omega)
  have a4 : S * wv ≤ 1000 * 1000000 := Int.mul_le_mul h2 h8 h7 (by omega)
  have a5 : 0 ≤ x * wv := Int.mul_nonneg (by omega) h7
  have a6 : 0 ≤ S * wv := Int.mul_nonneg (by omega) h7
  refine ⟨⟨by omega, by omega⟩, ⟨a5, by omega⟩, ⟨a6, by omega⟩⟩

set_option maxHeartbeats 2000000 in
theorem dGain {w : World} {B C : Nat} {A A' : Option Addr} {L O : List Int} {cap cap' : Nat} (h : Rd w B A L) (hB : B ≤ w.heap.size) (h' : Rd w C A' O) (hC : C ≤ w.heap.size) (r i wv : Int) :
    Calls Tryz.prog 18 #[.slice A L.length cap, .slice A' O.length cap', .int .i64 r, .int .i64 i, .int .i64 wv] w
      fun e w' => e = .returned (.tuple #[.int .i64 (gV L O r i wv), .int .i64 (gE L O r i wv)]) ∧ Below w.heap.size w w' := by
  have C1 := dPay (cap := cap) (cap' := cap') h hB h' hC r
  have hlen := h.len
  have HB := Lib.hid hB
  have HC := Lib.hid hC
  by_cases he : sE L O r = 0
  · rw [he] at C1
    have hV := lok_ok (sE_zero he)
    have hps := pyL_small he
    by_cases hbad : badGain L.length i wv
    · have hgE := gE_arg (O := O) he hbad
      rw [gV_no (by rw [hgE]; decide), hgE]
      clear hgE hps hV he h h' hB hC
      unfold badGain at hbad
      by_cases g1 : i < 0
      · go_enter Tryz.func18, Tryz.ntmps18
        go_wp2_with (go_at_call 14; refine C1.mono ?_; rintro e w1 ⟨A1, c1, rfl, hr1, hb1⟩)
        go_ret2
        exact ⟨rfl, hb1⟩
      · by_cases g2 : (L.length : Int) ≤ i
        · go_enter Tryz.func18, Tryz.ntmps18
          go_wp2_with (go_at_call 14; refine C1.mono ?_; rintro e w1 ⟨A1, c1, rfl, hr1, hb1⟩)
          go_ret2
          exact ⟨rfl, hb1⟩
        · by_cases g3 : wv < 0
          · go_enter Tryz.func18, Tryz.ntmps18
            go_wp2_with (go_at_call 14; refine C1.mono ?_; rintro e w1 ⟨A1, c1, rfl, hr1, hb1⟩)
            go_ret2
            exact ⟨rfl, hb1⟩
          · have g4 : 1000000 < wv := by omega
            clear hbad
            go_enter Tryz.func18, Tryz.ntmps18
            go_wp2_with (go_at_call 14; refine C1.mono ?_; rintro e w1 ⟨A1, c1, rfl, hr1, hb1⟩)
            go_ret2
            exact ⟨rfl, hb1⟩
    · have hgE := gE_ok (O := O) he hbad
      unfold badGain at hbad
      have g1 : 0 ≤ i := by omega
      have g2 : i < (L.length : Int) := by omega
      have g3 : 0 ≤ wv := by omega
      have g4 : wv ≤ 1000000 := by omega
      obtain ⟨k, rfl⟩ := Int.eq_ofNat_of_zero_le g1
      have hk : k < L.length := by omega
      obtain ⟨x, hx⟩ : ∃ x, L[k]? = some x := ⟨L[k], by simp [hk]⟩
      obtain ⟨y, hy⟩ : ∃ y, (pyL L O r)[k]? = some y := ⟨(pyL L O r)[k]'(by rw [hps.1]; exact hk), by simp⟩
      have hyb := hps.2 y (mem_of hy)
      have hxb := hV.v.le (mem_of hx)
      have hS := hV.v.sum_pos
      have hS' := hV.v.sum
      have hfin := Lib.hid (gV_ok hgE hx hy)
      rw [hgE]
      have HH := Lib.hid h
      have HO := Lib.hid h'
      have HV := Lib.hid hV.v
      have HX := Lib.hid hx
      have HY := Lib.hid hy
      have HPL := Lib.hid hps.1
      clear hbad hgE he hps hV h h' hx hy hB hC g1
      have C2 : Hid (∀ u, Below w.heap.size w u → Calls Tryz.prog 43 #[.slice A' O.length cap', .int .i64 (-1)] u fun e u' => e = .returned (.int .i64 (bestOf O (-1))) ∧ Below u.heap.size u u') :=
        Lib.hid fun u hu => dBest (cap := cap') (HO.out.below hu HC.out) (by have := hu.size; have := HC.out; omega) (-1)
      generalize gV L O r k wv = gv at *
      generalize bestOf O (-1) = bb at *
      by_cases hbb : (k : Int) = bb
      · have hd : ((k : Int) == bb) = true := by simpa using hbb
        rw [if_pos hbb] at hfin
        have HBB := Lib.hid hbb; clear hbb
        have hbd := gain_bd hS hS' (y := y + wv) (by omega) (by omega) hxb.1 hxb.2 g3 g4
        go_enter Tryz.func18, Tryz.ntmps18
        go_wp2_with fail
        refine C1.mono ?_
        rintro e w1 ⟨A1, c1, rfl, hr1, hb1⟩
        have HR1 := Lib.hid hr1
        obtain ⟨b1, o1, rfl, hb1l, hcells⟩ := hr1.2.2 (by rw [HPL.out]; omega)
        have hcy := hcells k y HY.out
        have hlp : k < (pyL L O r).length := by rw [HPL.out]; exact hk
        have HB1 := Lib.hid hb1
        clear hcells hr1 hb1 C1
        generalize (pyL L O r).length = pl at *
        go_wp2_with (go_at_call 43; refine (C2.out _ HB1.out).mono ?_; rintro e w2 ⟨rfl, hb2⟩)
        have hb3 := HB1.out.trans (hb2.mono HB1.out.size)
        have CT := fun n => dTotal (cap := cap) (HH.out.below (below_drewN hb3 n) HB.out) HV.out
        obtain ⟨b2, o2, rfl, hb2l, hcells⟩ := (HH.out.below hb3 HB.out).2.2 (by omega)
        have hcx := hcells k x HX.out
        have HB3 := Lib.hid hb3
        have HCT := Lib.hid CT
        clear hcells hb3 hb2 CT
        generalize sumL L = S at *
        have e1 : IntKind.i64.wrap (S * (y + wv)) = S * (y + wv) := IntWalk.i64_in _ (by omega)
        have e2 : IntKind.i64.wrap (x * wv) = x * wv := IntWalk.i64_in _ (by omega)
        have e3 : IntKind.i64.wrap (S * (y + wv) - x * wv) = S * (y + wv) - x * wv := IntWalk.i64_in _ (by omega)
        go_quiet ((go_at_call 37; exact Calls.quiet_of_same ((HCT.out _).mono fun _ _ h => ⟨h.1, h.2.symm⟩)))
        clear e1 e2 e3
        go_wp2
        go_ret2
        exact ⟨by rw [hfin.out]; rfl, below_drewN HB3.out _⟩
      · have hd : ((k : Int) == bb) = false := by simpa using hbb
        rw [if_neg hbb] at hfin
        have HBB := Lib.hid hbb; clear hbb
        have hbd := gain_bd hS hS' (y := y) (by omega) (by omega) hxb.1 hxb.2 g3 g4
        go_enter Tryz.func18, Tryz.ntmps18
        go_wp2_with fail
        refine C1.mono ?_
        rintro e w1 ⟨A1, c1, rfl, hr1, hb1⟩
        have HR1 := Lib.hid hr1
        obtain ⟨b1, o1, rfl, hb1l, hcells⟩ := hr1.2.2 (by rw [HPL.out]; omega)
        have hcy := hcells k y HY.out
        have hlp : k < (pyL L O r).length := by rw [HPL.out]; exact hk
        have HB1 := Lib.hid hb1
        clear hcells hr1 hb1 C1
        generalize (pyL L O r).length = pl at *
        go_wp2_with (go_at_call 43; refine (C2.out _ HB1.out).mono ?_; rintro e w2 ⟨rfl, hb2⟩)
        have hb3 := HB1.out.trans (hb2.mono HB1.out.size)
        have CT := fun n => dTotal (cap := cap) (HH.out.below (below_drewN hb3 n) HB.out) HV.out
        obtain ⟨b2, o2, rfl, hb2l, hcells⟩ := (HH.out.below hb3 HB.out).2.2 (by omega)
        have hcx := hcells k x HX.out
        have HB3 := Lib.hid hb3
        have HCT := Lib.hid CT
        clear hcells hb3 hb2 CT
        generalize sumL L = S at *
        have e1 : IntKind.i64.wrap (S * y) = S * y := IntWalk.i64_in _ (by omega)
        have e2 : IntKind.i64.wrap (x * wv) = x * wv := IntWalk.i64_in _ (by omega)
        have e3 : IntKind.i64.wrap (S * y - x * wv) = S * y - x * wv := IntWalk.i64_in _ (by omega)
        go_quiet ((go_at_call 37; exact Calls.quiet_of_same ((HCT.out _).mono fun _ _ h => ⟨h.1, h.2.symm⟩)))
        clear e1 e2 e3
        go_wp2
        go_ret2
        exact ⟨by rw [hfin.out, Int.add_zero]; rfl, below_drewN HB3.out _⟩
  · rw [gV_no (by rw [gE_bad he]; exact he), gE_bad he]
    have hb : (sE L O r != 0) = true := by simpa using he
    clear he h h' hB hC
    generalize sE L O r = c at *
    go_enter Tryz.func18, Tryz.ntmps18
    go_wp2_with (go_at_call 14; refine C1.mono ?_; rintro e w1 ⟨A1, c1, rfl, hr1, hb1⟩)
    go_ret2
    exact ⟨rfl, hb1⟩
end Go.Proofs.YtkoipecnmijfoaaGreat
end

section
/-! Walks of chapter 35: with, put, both Offers; the statement LieOffers. -/
namespace Go.Proofs.YtkoipecnmijfoaaGreat
open Go.RowKit Go.Deep
set_option linter.unusedVariables false

set_option maxHeartbeats 400000 in
theorem withL {w : World} {B : Nat} {A : Option Addr} {L : List Int} {cap : Nat} (h : Rd w B A L) (hB : B ≤ w.heap.size) {i : Nat} (hi : i < L.length) (x : Int) :
    Calls Tryz.prog 44 #[.slice A L.length cap, .int .i64 i, .int .i64 x] w (NewRow w 3 (L.set i x)) := by
  have hlen := h.len
  have C := clone (cap := cap) h hB (by omega)
  obtain ⟨y, hy⟩ : ∃ y, L[i]? = some y := ⟨L[i], by simp [hi]⟩
  have HY := Lib.hid hy
  clear h hB hy
  go_enter Tryz.func44, Tryz.ntmps44
  go_wp2_with fail
  refine C.mono ?_
  rintro e w1 ⟨g, c, rfl, hg, hP, hb⟩
  have hc := hP.cell HY.out
  have hf := hP.frozen i
  have HP := Lib.hid (hP.store i x)
  have HB := Lib.hid (hb.setCell (p := ⟨g, i, none⟩) hg (.int .i64 x))
  clear hP hb C
  go_wp2
  go_ret
  exact ⟨g, c, by rw [List.length_set]; rfl, hg, HP.out, HB.out⟩

/-- the best of the offers from k on -/
def offGo (f : Int → Int) : Nat → Int → Int → Int → Int × Int
  | 0, _, b, g => (b, g)
  | n + 1, k, b, g => if k = 0 ∨ g < f k then offGo f n (k + 1) k (f k) else offGo f n (k + 1) b g
theorem offGo_yes {f : Int → Int} {n : Nat} {k b g : Int} (h : k = 0 ∨ g < f k) : offGo f (n + 1) k b g = offGo f n (k + 1) k (f k) := by rw [offGo, if_pos h]
theorem offGo_no {f : Int → Int} {n : Nat} {k b g : Int} (h : ¬ (k = 0 ∨ g < f k)) : offGo f (n + 1) k b g = offGo f n (k + 1) b g := by rw [offGo, if_neg h]
def lieGain (L O : List Int) (r p wv : Int) (o : Int) : Int := gV L (O.set p.toNat o) r p wv
def ofE (L O : List Int) (r p wv top : Int) : Int := if gE L O r p wv ≠ 0 then gE L O r p wv else if top < 0 ∨ 300 < top then 2 else 0
def ofR (L O : List Int) (r p wv top : Int) : Int × Int := if ofE L O r p wv top ≠ 0 then (0, 0) else offGo (lieGain L O r p wv) (top + 1).toNat 0 0 0
theorem ofE_gain {L O : List Int} {r p wv top : Int} (h : gE L O r p wv ≠ 0) : ofE L O r p wv top = gE L O r p wv := by rw [ofE, if_pos h]
theorem ofE_arg {L O : List Int} {r p wv top : Int} (h : gE L O r p wv = 0) (h2 : top < 0 ∨ 300 < top) : ofE L O r p wv top = 2 := by rw [ofE, if_neg (by simp [h]), if_pos h2]
theorem ofE_ok {L O : List Int} {r p wv top : Int} (h : gE L O r p wv = 0) (h2 : ¬ (top < 0 ∨ 300 < top)) : ofE L O r p wv top = 0 := by rw [ofE, if_neg (by simp [h]), if_neg h2]
theorem ofR_no {L O : List Int} {r p wv top : Int} (h : ofE L O r p wv top ≠ 0) : ofR L O r p wv top = (0, 0) := by rw [ofR, if_pos h]
theorem ofR_ok {L O : List Int} {r p wv top : Int} (h : ofE L O r p wv top = 0) : ofR L O r p wv top = offGo (lieGain L O r p wv) (top + 1).toNat 0 0 0 := by rw [ofR, if_neg (by simp [h])]
/-- an error-free gain: shares and offers are valid, the partner is one -/
theorem gE_zero {L O : List Int} {r p wv : Int} (h : gE L O r p wv = 0) : sE L O r = 0 ∧ ¬ badGain L.length p wv := by
  unfold gE at h
  split at h
  · contradiction
  · rename_i h0
    split at h
    · exact absurd h (by decide)
    · exact ⟨by simpa using h0, by assumption⟩

set_option maxHeartbeats 2000000 in
theorem dOffer {w : World} {B C : Nat} {A A' : Option Addr} {L O : List Int} {cap cap' : Nat} (h : Rd w B A L) (hB : B ≤ w.heap.size) (h' : Rd w C A' O) (hC : C ≤ w.heap.size) (r p wv top : Int) :
    Calls Tryz.prog 19 #[.slice A L.length cap, .slice A' O.length cap', .int .i64 r, .int .i64 p, .int .i64 wv, .int .i64 top] w
      fun e w' => e = .returned (.tuple #[.int .i64 (ofR L O r p wv top).1, .int .i64 (ofR L O r p wv top).2, .int .i64 (ofE L O r p wv top)]) ∧ Below w.heap.size w w' := by
  have C1 := dGain (cap := cap) (cap' := cap') h hB h' hC r p wv
  by_cases hg : gE L O r p wv = 0
  · rw [hg] at C1
    by_cases ht : top < 0 ∨ 300 < top
    · have he := ofE_arg hg ht
      rw [ofR_no (by rw [he]; decide), he]
      clear he hg h h' hB hC
      rcases ht with ht | ht
      all_goals
        go_enter Tryz.func19, Tryz.ntmps19
        go_wp2_with (go_at_call 18; refine C1.mono ?_; rintro e w1 ⟨rfl, hb1⟩)
        go_ret3
        exact ⟨rfl, hb1⟩
    · have he := ofE_ok hg ht
      rw [ofR_ok he, he]
      have hz := gE_zero hg
      have hV := lok_ok (sE_zero hz.1)
      have hbad := hz.2
      unfold badGain at hbad
      obtain ⟨i, rfl⟩ := Int.eq_ofNat_of_zero_le (show 0 ≤ p by omega)
      have hi : i < O.length := by have := hV.len; omega
      have hlen := hV.len
      have hten := hV.v.ten
      have t0 : 0 ≤ top := by omega
      have t1 : top ≤ 300 := by omega
      have HR : Hid (∀ u, Below w.heap.size w u → w.heap.size ≤ u.heap.size ∧ Rd u w.heap.size A L ∧ Rd u w.heap.size A' O) :=
        Lib.hid fun u hu => ⟨hu.size, (h.more hB).below hu (Nat.le_refl _), (h'.more hC).below hu (Nat.le_refl _)⟩
      have HO : Hid (∀ o : Int, 0 ≤ o → o ≤ 300 → ∀ x ∈ O.set i o, I64 x) := Lib.hid (by
        intro o h0 h1 x hx
        rcases List.mem_or_eq_of_mem_set hx with hx | rfl
        · have := hV.bd x hx; unfold I64; omega
        · unfold I64; omega)
      have HL : Hid (O.length ≤ 10) := Lib.hid (by omega)
      have hf : ∀ o, lieGain L O r i wv o = gV L (O.set i o) r i wv := fun o => by rw [lieGain, Int.toNat_natCast]
      have HF := Lib.hid hf
      have hn : ((top + 1).toNat : Int) = top + 1 := by omega
      clear h h' hB hC hz hV hbad hlen hten ht he hg hf
      generalize hN : (top + 1).toNat = n at *
      have HN := Lib.hid hN
      clear hN
      generalize lieGain L O r i wv = f at *
      go_enter Tryz.func19, Tryz.ntmps19
      go_wp2_with (go_at_call 18; refine C1.mono ?_; rintro e w1 ⟨rfl, hb1⟩)
      have HB1 := Lib.hid hb1
      clear hb1 C1
      go_loopw [12, 13, 40] (fun b g k wr => ∃ (j m : Nat) (bv gv : Int), j + m = n ∧ k = .int .i64 j ∧ b = .int .i64 bv ∧ g = .int .i64 gv ∧ Hid (Below w1.heap.size w1 wr) ∧ Hid (offGo f m j bv gv = offGo f n 0 0 0)) (fun _ _ k _ => n - (intOf k).toNat)
      case atStart => exact ⟨0, n, 0, 0, by omega, rfl, rfl, rfl, Lib.hid (Below.refl _ _), Lib.hid rfl⟩
      case round =>
        obtain ⟨j, m, bv, gv, hjm, rfl, rfl, rfl, hw, hr⟩ := hrel
        have HJM := Lib.hid hjm
        have hjn : j ≤ n := by omega
        clear hjm
        by_cases hlt : j < n
        · obtain ⟨m', hm'⟩ : ∃ m', m = m' + 1 := ⟨m - 1, by have := HJM.out; omega⟩
          have hj300 : (j : Int) ≤ 300 := by omega
          have HM := Lib.hid hm'
          clear hm'
          have HBW := Lib.hid (HB1.out.trans (hw.out.mono HB1.out.size))
          go_wp2_with fail
          refine (withL (HR.out wr HBW.out).2.2 (HR.out wr HBW.out).1 hi j).mono ?_
          rintro e w2 ⟨g2, c2, rfl, hg2, hP2, hb2⟩
          have HB2 := Lib.hid (HBW.out.trans (hb2.mono HBW.out.size))
          have HW2 := Lib.hid (hw.out.trans (hb2.mono hw.out.size))
          have hlr := hP2.rd (HO.out j (by omega) hj300) (by have := HL.out; simp; omega) hP2.lt
          have C2 := dGain (cap := cap) (cap' := c2) (HR.out w2 HB2.out).2.1 (HR.out w2 HB2.out).1 hlr (Nat.le_refl _) r i wv
          rw [← HF.out j, List.length_set] at C2
          have HC2 := Lib.hid C2
          clear hlr C2 hP2 hb2
          go_wp2_with fail
          refine HC2.out.mono ?_
          rintro e w3 ⟨rfl, hb3⟩
          have HW3 := Lib.hid (HW2.out.trans (hb3.mono HW2.out.size))
          clear HC2 hb3
          generalize gE L (O.set i j) r i wv = ge at *
          by_cases h0 : j = 0
          · have d0 : ((j : Int) == 0) = true := by simp; omega
            have hnext := Lib.hid (show offGo f m' (j + 1) j (f j) = offGo f n 0 0 0 by rw [← hr.out, HM.out, offGo_yes (.inl (by omega))])
            clear h0
            generalize f j = fj at *
            go_wp2
            go_roundw
            case rel => exact ⟨j + 1, m', j, fj, by have := HJM.out; have := HM.out; omega, by go_num, rfl, rfl, HW3, Lib.hid (by rw [← hnext.out]; rfl)⟩
            case measure => simp [intOf]; omega
          · have d0 : ((j : Int) == 0) = false := by simp; omega
            by_cases h1 : gv < f j
            · have hnext := Lib.hid (show offGo f m' (j + 1) j (f j) = offGo f n 0 0 0 by rw [← hr.out, HM.out, offGo_yes (.inr h1)])
              clear h0
              generalize f j = fj at *
              go_wp2
              go_roundw
              case rel => exact ⟨j + 1, m', j, fj, by have := HJM.out; have := HM.out; omega, by go_num, rfl, rfl, HW3, Lib.hid (by rw [← hnext.out]; rfl)⟩
              case measure => simp [intOf]; omega
            · have hnext := Lib.hid (show offGo f m' (j + 1) bv gv = offGo f n 0 0 0 by rw [← hr.out, HM.out, offGo_no (by omega)])
              clear h0
              generalize f j = fj at *
              go_wp2
              go_roundw
              case rel => exact ⟨j + 1, m', bv, gv, by have := HJM.out; have := HM.out; omega, by go_num, rfl, rfl, HW3, Lib.hid (by rw [← hnext.out]; rfl)⟩
              case measure => simp [intOf]; omega
        · obtain rfl : m = 0 := by have := HJM.out; omega
          have hjt : (j : Int) = top + 1 := by omega
          have hjt' : top < (j : Int) := by omega
          have HJ := Lib.hid hjt
          clear hjt
          have hfin := hr.out
          rw [show offGo f 0 j bv gv = (bv, gv) from rfl] at hfin
          have HFI := Lib.hid hfin
          clear hfin
          go_wp2
          go_ret3
          exact ⟨by rw [← HFI.out]; rfl, HB1.out.trans (hw.out.mono HB1.out.size)⟩
  · have he := ofE_gain (top := top) hg
    rw [ofR_no (by rw [he]; exact hg), he]
    have hb : (gE L O r p wv != 0) = true := by simpa using hg
    clear hg he h h' hB hC
    generalize gE L O r p wv = c at *
    go_enter Tryz.func19, Tryz.ntmps19
    go_wp2_with (go_at_call 18; refine C1.mono ?_; rintro e w1 ⟨rfl, hb1⟩)
    go_ret3
    exact ⟨rfl, hb1⟩

end Go.Proofs.YtkoipecnmijfoaaGreat
end

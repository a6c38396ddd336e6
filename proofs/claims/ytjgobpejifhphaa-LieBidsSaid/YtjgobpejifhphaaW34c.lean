import Derived.Test.YtjgobpejifhphaaW34a
import Derived.Test.YtjgobpejifhphaaW34b
/-! Walks of chapter 34: looked, best. -/
namespace Go.Proofs.Ytjgobpejifhphaa
open Go.RowKit
set_option linter.unusedVariables false

def badOffer (o : Int) : Bool := decide (o < 0) || decide (1000000 < o)
def lok (L O : List Int) : Int := if chk L ≠ 0 then chk L else if O.length ≠ L.length ∨ O.any badOffer = true then 8 else 0

theorem looked1 {w : World} (x : Int) :
    Calls Try.prog 120 #[.int .i64 x] w fun e w' => e = .returned (.bool (badOffer x)) ∧ w = w' := by
  by_cases h1 : x < 0
  · go_enter Try.func120, Try.ntmps120
    go_wp2
    go_ret
    exact ⟨ret_bool (by simp [badOffer, h1]), rfl⟩
  · by_cases h2 : 1000000 < x
    all_goals
      go_enter Try.func120, Try.ntmps120
      go_wp2
      go_ret
      exact ⟨ret_bool (by simp [badOffer, h1, h2]), rfl⟩

theorem lok_chk {L O : List Int} (h : chk L ≠ 0) : lok L O = chk L := by rw [lok, if_pos h]
theorem lok_len {L O : List Int} (h : chk L = 0) (h2 : O.length ≠ L.length) : lok L O = 8 := by rw [lok, if_neg (by simp [h]), if_pos (.inl h2)]
theorem lok_any {L O : List Int} (h : chk L = 0) (h2 : O.any badOffer = true) : lok L O = 8 := by rw [lok, if_neg (by simp [h]), if_pos (.inr h2)]
theorem lok_yes {L O : List Int} (h : chk L = 0) (h2 : O.length = L.length) (h3 : O.any badOffer = false) : lok L O = 0 := by rw [lok, if_neg (by simp [h]), if_neg (by simp [h2, h3])]

theorem dLooked {w : World} {B C : Nat} {A A' : Option Addr} {L O : List Int} {cap cap' : Nat} (h : Rd w B A L) (h' : Rd w C A' O) :
    Calls Try.prog 96 #[.slice A L.length cap, .slice A' O.length cap'] w fun e w' => e = .returned (.int .i64 (lok L O)) ∧ w = w' := by
  have C1 := dCheck (cap := cap) h
  have C2 := containsFunc (cap := cap') h' 120 #[] badOffer (fun args u => by kernel_rfl) (fun x _ => by simpa using looked1 x)
  have l1 := h.len
  have l2 := h'.len
  clear h h'
  by_cases hc : chk L = 0
  · by_cases hl : O.length = L.length
    · by_cases ha : O.any badOffer = true
      · have hfin := Lib.hid (lok_any hc ha)
        rw [hc] at C1
        have HL := Lib.hid hl; clear hl
        rw [ha] at C2
        clear ha hc
        have hb : ((O.length : Int) != (L.length : Int)) = false := by rw [HL.out]; simp
        go_enter Try.func96, Try.ntmps96
        go_wp2_with (first | (go_at_call 119; refine C1.mono ?_; rintro e w' ⟨rfl, rfl⟩) | (go_at_call 76; refine C2.mono ?_; rintro e w' ⟨rfl, rfl⟩))
        go_ret
        exact ⟨ret_int hfin.out.symm, rfl⟩
      · have ha' : O.any badOffer = false := by simpa using ha
        have hfin := Lib.hid (lok_yes hc hl ha')
        rw [hc] at C1
        have HL := Lib.hid hl; clear hl
        rw [ha'] at C2
        clear ha ha' hc
        have hb : ((O.length : Int) != (L.length : Int)) = false := by rw [HL.out]; simp
        go_enter Try.func96, Try.ntmps96
        go_wp2_with (first | (go_at_call 119; refine C1.mono ?_; rintro e w' ⟨rfl, rfl⟩) | (go_at_call 76; refine C2.mono ?_; rintro e w' ⟨rfl, rfl⟩))
        go_ret
        exact ⟨ret_int hfin.out.symm, rfl⟩
    · have hfin := Lib.hid (lok_len hc hl)
      rw [hc] at C1
      clear hc
      have hb : ((O.length : Int) != (L.length : Int)) = true := by simp; omega
      go_enter Try.func96, Try.ntmps96
      go_wp2_with (go_at_call 119; refine C1.mono ?_; rintro e w' ⟨rfl, rfl⟩)
      go_ret
      exact ⟨ret_int hfin.out.symm, rfl⟩
  · have hfin := Lib.hid (lok_chk (O := O) hc)
    have hb : (chk L != 0) = true := by simpa using hc
    clear hc
    generalize chk L = c at *
    go_enter Try.func96, Try.ntmps96
    go_wp2_with (go_at_call 119; refine C1.mono ?_; rintro e w' ⟨rfl, rfl⟩)
    go_ret
    exact ⟨ret_int hfin.out.symm, rfl⟩
end Go.Proofs.Ytjgobpejifhphaa

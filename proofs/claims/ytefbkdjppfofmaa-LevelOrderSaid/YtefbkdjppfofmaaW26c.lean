import Derived.Test.YtefbkdjppfofmaaBase3
import Derived.Test.YtefbkdjppfofmaaS26b
/-! Walks of chapter 26: linked. -/
namespace Go.Proofs.Ytefbkdjppfofmaa
open Go.RowKit Go.Deep
set_option linter.unusedVariables false
set_option maxRecDepth 100000

/-- has p a good from number k on that q wants? -/
def linkK (W : List (List Bool)) (a : List Int) (p q k : Nat) : Bool := ((List.range a.length).drop k).any fun g => decide (a.getD g 0 = (p : Int)) && wishB W q g
theorem linkK_zero (W : List (List Bool)) (a : List Int) (p q : Nat) : linkK W a p q 0 = linkA W a p q := rfl
theorem linkK_step {W : List (List Bool)} {a : List Int} {p q k : Nat} (hk : k < a.length) : linkK W a p q k = ((decide (a.getD k 0 = (p : Int)) && wishB W q k) || linkK W a p q (k + 1)) := by
  have h : (List.range a.length).drop k = k :: (List.range a.length).drop (k + 1) := by
    rw [List.drop_eq_getElem_cons (by simpa using hk)]; simp
  rw [linkK, h, List.any_cons]; rfl
theorem linkK_end {W : List (List Bool)} {a : List Int} {p q k : Nat} (hk : a.length ≤ k) : linkK W a p q k = false := by
  rw [linkK, List.drop_eq_nil_of_le (by simpa using hk)]; rfl

set_option maxHeartbeats 1000000 in
theorem lLinked {w : World} {B C : Nat} {A A' : Option Addr} {W : List (List Bool)} {a : List Int} {cap cap' m n : Nat} (hW : RdB2 w B A W) (ha : Rd w C A' a) (v : VW m n W) (hn : a.length = n) {f p q : Nat} (hf : f ≤ 100) (hq : q < m) :
    Calls Try.prog 56 #[.slice A W.length cap, .slice A' a.length cap', .int .i64 f, .int .i64 p, .int .i64 q] w fun e w' => e = .returned (.bool (linkK W a p q f)) ∧ w = w' := by
  have hWl := hW.len
  have hal := ha.len
  have n10 := v.n10
  have HW := Lib.hid hW
  have HA := Lib.hid ha
  have HV := Lib.hid v
  have HN := Lib.hid hn
  have a10 : a.length ≤ 10 := by omega
  clear hW ha v hn
  go_enter Try.func56, Try.ntmps56
  go_wp2
  go_loop [11] (fun iv => ∃ (k : Nat), k ≤ 100 ∧ iv = .int .i64 k ∧ Hid (linkK W a p q k = linkK W a p q f)) (fun iv => 100 - (intOf iv).toNat)
  case atStart => exact ⟨f, hf, rfl, Lib.hid rfl⟩
  case round =>
    obtain ⟨k, hk, rfl, hr⟩ := hrel
    by_cases hlt : k < a.length
    · obtain ⟨b, off, x, rfl, hb, hx, hi, hc⟩ := HA.out.at_ hlt
      have hqW : q < W.length := by rw [HV.out.len]; exact hq
      obtain ⟨b2, o2, row, A2, c2, rfl, hb2, hrow, hc2, hrd2⟩ := HW.out.at_ hqW
      have hrl : row.length = n := HV.out.row row (List.mem_of_getElem? hrow)
      have hkr : k < row.length := by rw [hrl, ← HN.out]; exact hlt
      obtain ⟨b3, o3, y, rfl, hb3, hy, hc3⟩ := hrd2.at_ hkr
      have hwish : wishB W q k = y := by
        rw [wishB, List.getD_eq_getElem?_getD (l := W), hrow]
        show row.getD k false = y
        rw [List.getD_eq_getElem?_getD, hy]; rfl
      have hst := linkK_step (W := W) (p := p) (q := q) hlt
      rw [List.getD_eq_getElem?_getD, hx, hwish] at hst
      have HST := Lib.hid hst
      have HRL := Lib.hid hrl
      clear hst hwish hx hi hb hb2 hb3 hrow hrd2 hy hrl
      by_cases hxp : x = (p : Int)
      · subst hxp
        cases y
        · go_wp2
          go_round
          case rel => exact ⟨k + 1, by omega, by go_num, Lib.hid (by rw [← hr.out, HST.out]; simp)⟩
          case measure => simp [intOf]; omega
        · go_wp2
          go_ret
          exact ⟨ret_bool (by rw [← hr.out, HST.out]; simp), rfl⟩
      · have hb1 : (x == (p : Int)) = false := by simpa using hxp
        have HXP := Lib.hid hxp
        clear hxp
        go_wp2
        go_round
        case rel => exact ⟨k + 1, by omega, by go_num, Lib.hid (by rw [← hr.out, HST.out]; simp [HXP.out])⟩
        case measure => simp [intOf]; omega
    · go_wp2
      go_ret
      exact ⟨ret_bool (by rw [← hr.out, linkK_end (by omega)]), rfl⟩
end Go.Proofs.Ytefbkdjppfofmaa

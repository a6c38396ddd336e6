import Derived.Test.YtefbkdjppfofmaaW26c
import Derived.Test.YtefbkdjppfofmaaW26e
/-! Walks of chapter 26: linked and has, of the reference. -/
namespace Go.Proofs.Ytefbkdjppfofmaa
open Go.RowKit Go.Deep
set_option linter.unusedVariables false
set_option maxRecDepth 100000

set_option maxHeartbeats 1000000 in
theorem lrLinked {w : World} {B C : Nat} {A A' : Option Addr} {W : List (List Bool)} {a : List Int} {cap cap' m n : Nat} (hW : RdB2 w B A W) (ha : Rd w C A' a) (v : VW m n W) (hn : a.length = n) {p q : Nat} (hq : q < m) :
    Calls Try.prog 57 #[.slice A W.length cap, .slice A' a.length cap', .int .i64 p, .int .i64 q] w fun e w' => e = .returned (.bool (linkK W a p q 0)) ∧ w = w' := by
  have hWl := hW.len
  have hal := ha.len
  have n10 := v.n10
  have HW := Lib.hid hW
  have HA := Lib.hid ha
  have HV := Lib.hid v
  have HN := Lib.hid hn
  have a10 : a.length ≤ 10 := by omega
  clear hW ha v hn
  go_enter Try.func57, Try.ntmps57
  go_wp2
  go_loop [9] (fun iv => ∃ (k : Nat), k ≤ 100 ∧ iv = .int .i64 k ∧ Hid (linkK W a p q k = linkK W a p q 0)) (fun iv => 100 - (intOf iv).toNat)
  case atStart => exact ⟨0, by omega, rfl, Lib.hid rfl⟩
  case round =>
    obtain ⟨k, hk, rfl, hr⟩ := hrel
    by_cases hlt : k < a.length
    · obtain ⟨b, off, x, rfl, hb, hx, hi, hc⟩ := HA.out.at_ hlt
      have hqW : q < W.length := by rw [HV.out.len]; exact hq
      obtain ⟨b2, o2, row, A2, c2, rfl, hb2, hrow, hc2, hrd2⟩ := HW.out.at_ hqW
      have hrl : row.length = n := HV.out.row row (List.mem_of_getElem? hrow)
      have hkr : k < row.length := by rw [hrl, ← HN.out]; exact hlt
      obtain ⟨b3, o3, y, rfl, hb3, hy, hc3⟩ := hrd2.at_ hkr
      have hwish : wishB W q k = y := by
        rw [wishB, List.getD_eq_getElem?_getD (l := W), hrow]
        show row.getD k false = y
        rw [List.getD_eq_getElem?_getD, hy]; rfl
      have hst := linkK_step (W := W) (p := p) (q := q) hlt
      rw [List.getD_eq_getElem?_getD, hx, hwish] at hst
      have HST := Lib.hid hst
      have HRL := Lib.hid hrl
      clear hst hwish hx hi hb hb2 hb3 hrow hrd2 hy hrl
      by_cases hxp : x = (p : Int)
      · subst hxp
        cases y
        · go_wp2
          go_round
          case rel => exact ⟨k + 1, by omega, by go_num, Lib.hid (by rw [← hr.out, HST.out]; simp)⟩
          case measure => simp [intOf]; omega
        · go_wp2
          go_ret
          exact ⟨ret_bool (by rw [← hr.out, HST.out]; simp), rfl⟩
      · have hb1 : (x == (p : Int)) = false := by simpa using hxp
        have HXP := Lib.hid hxp
        clear hxp
        go_wp2
        go_round
        case rel => exact ⟨k + 1, by omega, by go_num, Lib.hid (by rw [← hr.out, HST.out]; simp [HXP.out])⟩
        case measure => simp [intOf]; omega
    · go_wp2
      go_ret
      exact ⟨ret_bool (by rw [← hr.out, linkK_end (by omega)]), rfl⟩

set_option maxHeartbeats 400000 in
theorem lrHas {w : World} {B : Nat} {A : Option Addr} {L : List Int} {cap : Nat} (h : Rd w B A L) (y : Int) :
    Calls Try.prog 36 #[.slice A L.length cap, .int .i64 y] w fun e w' => e = .returned (.bool (L.any fun x => x == y)) ∧ w = w' := by
  have hlen := h.len
  have H := Lib.hid h
  clear h
  go_enter Try.func36, Try.ntmps36
  go_wp2
  go_loop [5] (fun iv => ∃ (k : Nat), k ≤ L.length ∧ iv = .int .i64 k ∧ Hid ((L.drop k).any (fun x => x == y) = L.any fun x => x == y)) (fun iv => L.length - (intOf iv).toNat)
  case atStart => exact ⟨0, by omega, rfl, Lib.hid rfl⟩
  case round =>
    obtain ⟨k, hk, rfl, hr⟩ := hrel
    by_cases hlt : k < L.length
    · obtain ⟨b, off, x, rfl, hb, hx, hi, hc⟩ := H.out.at_ hlt
      have HA := Lib.hid (any_drop (p := fun x => x == y) hx)
      clear hx hi hb
      cases hxy : (x == y)
      · have HT : Hid ((L.drop (k + 1)).any (fun x => x == y) = L.any fun x => x == y) := Lib.hid (by rw [← hr.out, HA.out, hxy]; rfl)
        go_wp2
        go_round
        case rel => exact ⟨k + 1, by omega, by go_num, HT⟩
        case measure => simp [intOf]; omega
      · have HT : Hid ((L.any fun x => x == y) = true) := Lib.hid (by rw [← hr.out, HA.out, hxy]; rfl)
        go_wp2
        go_ret
        exact ⟨ret_bool HT.out.symm, rfl⟩
    · have HT : Hid ((L.any fun x => x == y) = false) := Lib.hid (by rw [← hr.out, any_end (by omega)])
      go_wp2
      go_ret
      exact ⟨ret_bool HT.out.symm, rfl⟩
end Go.Proofs.Ytefbkdjppfofmaa

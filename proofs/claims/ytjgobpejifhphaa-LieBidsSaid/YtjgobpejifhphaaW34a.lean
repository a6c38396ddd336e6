import Derived.Test.YtjgobpejifhphaaS34
/-! Walks of chapter 34: Check and the sums. -/
namespace Go.Proofs.Ytjgobpejifhphaa
open Go.RowKit
set_option linter.unusedVariables false

set_option maxHeartbeats 400000 in
theorem dCheck {w : World} {B : Nat} {A : Option Addr} {L : List Int} {cap : Nat} (h : Rd w B A L) :
    Calls Try.prog 119 #[.slice A L.length cap] w fun e w' => e = .returned (.int .i64 (chk L)) ∧ w = w' := by
  have hlen := h.len
  have H := Lib.hid h; clear h
  by_cases hm : 10 < L.length
  · have hfin := Lib.hid (chk_many hm)
    go_enter Try.func119, Try.ntmps119
    go_wp2
    go_ret
    exact ⟨ret_int hfin.out.symm, rfl⟩
  · have hfin := Lib.hid (chk_go hm)
    go_enter Try.func119, Try.ntmps119
    go_wp2
    go_loop [3, 11] (fun l i => ∃ (k : Nat) (left : Int), k ≤ L.length ∧ 0 ≤ left ∧ left ≤ 1000 ∧ i = .int .i64 k ∧ l = .int .i64 left ∧ Hid (chkGo left (L.drop k) (if L.length < 2 then 8 else 0) = chk L)) (fun _ i => L.length - (intOf i).toNat)
    case atStart => exact ⟨0, 1000, by omega, by omega, by omega, rfl, rfl, by simpa using hfin⟩
    case round =>
      obtain ⟨k, left, hk, hl0, hl1, rfl, rfl, hr⟩ := hrel
      by_cases hlt : k < L.length
      · obtain ⟨b, off, x, rfl, hb, hx, hi, hc⟩ := H.out.at_ hlt
        have HI := Lib.hid hi; clear hi
        have HX := Lib.hid hx; clear hx
        by_cases h1 : x < 1
        · go_wp2
          go_ret
          exact ⟨ret_int (by rw [← hr.out, drop_of HX.out, chkGo_no (.inl h1)]), rfl⟩
        · by_cases h2 : left < x
          · go_wp2
            go_ret
            exact ⟨ret_int (by rw [← hr.out, drop_of HX.out, chkGo_no (.inr h2)]), rfl⟩
          · go_wp2
            go_round
            case rel => exact ⟨k + 1, left - x, by omega, by omega, by omega, by go_num, rfl, Lib.hid (by rw [← hr.out, drop_of HX.out, chkGo_yes h1 h2])⟩
            case measure => simp [intOf]; omega
      · have hk' : L.length ≤ k := by omega
        by_cases h2 : L.length < 2
        all_goals
          go_wp2
          go_ret
          exact ⟨ret_int (by rw [← hr.out, drop_end hk']; simp [chkGo, h2]), rfl⟩
end Go.Proofs.Ytjgobpejifhphaa

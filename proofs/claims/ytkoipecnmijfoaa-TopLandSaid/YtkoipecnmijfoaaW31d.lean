import Derived.Test.YtkoipecnmijfoaaW31a
/-! The walk of strip.reach. -/
namespace Go.Proofs.Ytkoipecnmijfoaa
open Go.RowKit Go.Deep
set_option linter.unusedVariables false
set_option maxRecDepth 100000

set_option maxHeartbeats 1000000 in
theorem sReach {w : World} {B : Nat} {A : Option Addr} {l : List Int} {cap : Nat} (h : Rd w B A l) (p : Nat) (L : Int) (hp : p ≤ 17) (hl : l.length ≤ 16) (hbd : ∀ x ∈ l, 0 ≤ x ∧ x ≤ 1000) (hL0 : -21000 ≤ L) (hL1 : L ≤ 20000) :
    Calls Try.prog 32 #[.slice A l.length cap, .int .i64 (p : Int), .int .i64 L] w fun e w' => e = .returned (.int .i64 (reachN l p L : Nat)) ∧ w = w' := by
  have H := Lib.hid h
  have HBD := Lib.hid hbd
  have HG : Hid (rc l.length (l.drop p) L p = reachN l p L) := Lib.hid rfl
  generalize reachN l p L = r at *
  clear h hbd
  go_enter Try.func32, Try.ntmps32
  go_wp2
  go_loop [2, 7] (fun lv qv => ∃ (q : Nat) (Lq : Int), q ≤ 17 ∧ -21000 ≤ Lq ∧ Lq ≤ 20000 ∧ lv = .int .i64 Lq ∧ qv = .int .i64 q ∧ Hid (rc l.length (l.drop q) Lq q = r)) (fun _ qv => 17 - (intOf qv).toNat)
  case atStart => exact ⟨p, L, hp, hL0, hL1, rfl, rfl, HG⟩
  case round =>
    clear HG
    obtain ⟨q, Lq, hq, hq0, hq1, rfl, rfl, hg⟩ := hrel
    by_cases hlt : q < l.length
    · by_cases hLq : 0 < Lq
      · have d1 : decide (0 < Lq) = true := decide_eq_true hLq
        obtain ⟨b1, o1, x, rfl, hb1, hx, hx64, hcx⟩ := H.out.at_ hlt
        have hxb := HBD.out x (List.mem_of_getElem? hx)
        have HN : Hid (rc l.length (l.drop (q + 1)) (Lq - x) (q + 1) = r) := Lib.hid (by rw [← hg.out, drop_of hx, rc_go hLq])
        have e1 : IntKind.i64.wrap (Lq - x) = Lq - x := IntWalk.i64_in _ (by omega)
        clear hg hx hx64
        go_wp2
        go_round
        case rel => exact ⟨q + 1, Lq - x, by omega, by omega, by omega, rfl, by go_num, HN⟩
        case measure => simp [intOf]; omega
      · have d1 : decide (0 < Lq) = false := decide_eq_false hLq
        have HE : Hid (r = q) := Lib.hid (by rw [← hg.out, rc_stop hLq])
        clear hg
        go_wp2
        go_ret
        exact ⟨ret_int (by rw [HE.out]), rfl⟩
    · have hdr : l.drop q = [] := List.drop_eq_nil_of_le (by omega)
      by_cases hLq : 0 < Lq
      · have d1 : decide (0 < Lq) = true := decide_eq_true hLq
        have HE : Hid (r = l.length + 1) := Lib.hid (by rw [← hg.out, hdr, rc_end hLq])
        clear hg hdr
        go_wp2
        go_ret
        exact ⟨ret_int (by rw [HE.out]; go_num), rfl⟩
      · have d1 : decide (0 < Lq) = false := decide_eq_false hLq
        have HE : Hid (r = q) := Lib.hid (by rw [← hg.out, rc_stop hLq])
        clear hg hdr
        go_wp2
        go_ret
        exact ⟨ret_int (by rw [HE.out]), rfl⟩
end Go.Proofs.Ytkoipecnmijfoaa

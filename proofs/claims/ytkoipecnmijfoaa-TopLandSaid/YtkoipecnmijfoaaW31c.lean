import Derived.Test.YtkoipecnmijfoaaW31a
/-! The walk of sort.Search. -/
namespace Go.Proofs.Ytkoipecnmijfoaa
open Go.RowKit Go.Deep
set_option linter.unusedVariables false
set_option maxRecDepth 100000

def SearchRes (w : World) (n : Nat) (f : Nat → Bool) (e : Ending) (w' : World) : Prop := ∃ k : Nat, e = .returned (.int .i64 k) ∧ k ≤ n ∧ (0 < k → f (k - 1) = false) ∧ (k < n → f k = true) ∧ Below w.heap.size w w'
set_option maxHeartbeats 1000000 in
theorem sSearch {w : World} {n : Nat} (hn : n ≤ 100000) (F : Nat) (caps : Array Value) (f : Nat → Bool)
    (hF : ∀ args (u : World), (callFunc F args).run Try.prog u = .ok (.enter F args) u)
    (hp : ∀ (u : World) (i : Nat), i < n → Below w.heap.size w u → Calls Try.prog F (#[.int .i64 (i : Int)] ++ caps) u fun e w' => e = .returned (.bool (f i)) ∧ Below u.heap.size u w') :
    Calls Try.prog 16 #[.int .i64 (n : Int), .func (.func F) #[] caps] w (SearchRes w n f) := by
  have HP := Lib.hid hp; clear hp
  go_enter Try.func16, Try.ntmps16
  go_wp2
  go_loopw [5, 6] (fun iv jv wr => ∃ (i j : Nat), i ≤ j ∧ j ≤ n ∧ iv = .int .i64 i ∧ jv = .int .i64 j ∧ Hid (0 < i → f (i - 1) = false) ∧ Hid (j < n → f j = true) ∧ Hid (Below w.heap.size w wr)) (fun iv jv _ => (intOf jv).toNat - (intOf iv).toNat)
  case atStart => exact ⟨0, n, by omega, by omega, rfl, rfl, Lib.hid (fun h => by omega), Lib.hid (fun h => by omega), Lib.hid (Below.refl _ _)⟩
  case round =>
    obtain ⟨i, j, hij, hjn, rfl, rfl, hi, hj, hb⟩ := hrel
    by_cases hlt : i < j
    · have e1 : IntKind.i64.wrap ((i : Int) + j) = (i : Int) + j := IntWalk.i64_in _ (by omega)
      obtain ⟨h, hh⟩ : ∃ h, h = (i + j) / 2 := ⟨_, rfl⟩
      have e2 : ((i : Int) + j) / 2 = (h : Int) := by omega
      have h1 : i ≤ h := by omega
      have h2 : h < j := by omega
      have CP := Lib.hid (HP.out _ h (by omega) hb.out)
      clear hh
      go_wp2_with fail
      refine CP.out.mono ?_
      rintro e w1 ⟨rfl, hb1⟩
      have HB1 := Lib.hid (hb.out.trans (hb1.mono hb.out.size))
      clear hb1 CP hb e1 e2
      cases hf : f h
      · have HI : Hid (0 < h + 1 → f (h + 1 - 1) = false) := Lib.hid (fun _ => by rw [Nat.add_sub_cancel]; exact hf)
        clear hi hf
        go_wp2
        go_roundw
        case rel => exact ⟨h + 1, j, by omega, hjn, by go_num, rfl, HI, hj, HB1⟩
        case measure => simp [intOf]; omega
      · have HJ : Hid (h < n → f h = true) := Lib.hid (fun _ => hf)
        clear hj hf
        go_wp2
        go_roundw
        case rel => exact ⟨i, h, h1, by omega, rfl, rfl, hi, HJ, HB1⟩
        case measure => simp [intOf]; omega
    · obtain rfl : i = j := by omega
      clear HP
      go_wp2
      go_ret
      exact ⟨i, rfl, hjn, hi.out, hj.out, hb.out⟩
end Go.Proofs.Ytkoipecnmijfoaa

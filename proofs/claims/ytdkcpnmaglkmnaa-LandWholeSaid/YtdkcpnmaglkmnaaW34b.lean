import Derived.Test.YtdkcpnmaglkmnaaBase
/-! Walks of slices.IndexFunc and slices.ContainsFunc over []int. -/
namespace Go.Proofs.Ytdkcpnmaglkmnaa
open Go.RowKit
set_option linter.unusedVariables false

/-- the place of the first element that p takes, counted from k; -1 if there is none -/
def fIdx (p : Int → Bool) : List Int → Int → Int
  | [], _ => -1
  | x :: t, k => if p x then k else fIdx p t (k + 1)
theorem fIdx_yes {p : Int → Bool} {x k : Int} {t : List Int} (h : p x = true) : fIdx p (x :: t) k = k := by rw [fIdx, if_pos h]
theorem fIdx_no {p : Int → Bool} {x k : Int} {t : List Int} (h : p x = false) : fIdx p (x :: t) k = fIdx p t (k + 1) := by rw [fIdx, if_neg (by simp [h])]
theorem fIdx_any {p : Int → Bool} : ∀ {L : List Int} {k : Int}, 0 ≤ k → decide (0 ≤ fIdx p L k) = L.any p
  | [], k, hk => by simp [fIdx]
  | x :: t, k, hk => by
    by_cases h : p x = true
    · rw [fIdx_yes h]; simp [h, hk]
    · have h' : p x = false := by simpa using h
      rw [fIdx_no h', fIdx_any (by omega)]; simp [h']

set_option maxHeartbeats 400000 in
theorem indexFunc {w : World} {B : Nat} {A : Option Addr} {L : List Int} {cap : Nat} (h : Rd w B A L) (F : Nat) (caps : Array Value) (p : Int → Bool)
    (hF : ∀ args (u : World), (callFunc F args).run Try.prog u = .ok (.enter F args) u)
    (hp : ∀ x, I64 x → Calls Try.prog F (#[.int .i64 x] ++ caps) w fun e w' => e = .returned (.bool (p x)) ∧ w = w') :
    Calls Try.prog 55 #[.slice A L.length cap, .func (.func F) #[] caps] w fun e w' => e = .returned (.int .i64 (fIdx p L 0)) ∧ w = w' := by
  have hlen := h.len
  have H := Lib.hid h; clear h
  have HP := Lib.hid hp; clear hp
  go_enter Try.func55, Try.ntmps55
  go_wp2
  go_loop [5, 8] (fun _ i => ∃ (k : Nat), k ≤ L.length ∧ i = .int .i64 k ∧ Hid (fIdx p (L.drop k) k = fIdx p L 0)) (fun _ i => L.length - (intOf i).toNat)
  case atStart => exact ⟨0, by omega, rfl, Lib.hid (by simp)⟩
  case round =>
    obtain ⟨k, hk, rfl, hr⟩ := hrel
    by_cases hlt : k < L.length
    · obtain ⟨b, off, x, rfl, hb, hx, hi, hc⟩ := H.out.at_ hlt
      have HI := Lib.hid hi; clear hi
      have HX := Lib.hid hx; clear hx
      go_wp2_with fail
      refine (HP.out x HI.out).mono ?_
      rintro e w' ⟨rfl, rfl⟩
      by_cases hpx : p x = true
      · go_wp2
        go_ret
        exact ⟨ret_int (by rw [← hr.out, drop_of HX.out, fIdx_yes hpx]), rfl⟩
      · have hpf : p x = false := by simpa using hpx
        go_wp2
        go_round
        case rel => exact ⟨k + 1, by omega, by go_num, Lib.hid (by rw [← hr.out, drop_of HX.out, fIdx_no hpf]; rfl)⟩
        case measure => simp [intOf]; omega
    · go_wp2
      go_ret
      exact ⟨ret_int (by rw [← hr.out, drop_end (by omega)]; rfl), rfl⟩

theorem containsFunc {w : World} {B : Nat} {A : Option Addr} {L : List Int} {cap : Nat} (h : Rd w B A L) (F : Nat) (caps : Array Value) (p : Int → Bool)
    (hF : ∀ args (u : World), (callFunc F args).run Try.prog u = .ok (.enter F args) u)
    (hp : ∀ x, I64 x → Calls Try.prog F (#[.int .i64 x] ++ caps) w fun e w' => e = .returned (.bool (p x)) ∧ w = w') :
    Calls Try.prog 49 #[.slice A L.length cap, .func (.func F) #[] caps] w fun e w' => e = .returned (.bool (L.any p)) ∧ w = w' := by
  have C := indexFunc (cap := cap) h F caps p hF hp
  have hany : decide (0 ≤ fIdx p L 0) = L.any p := fIdx_any (by omega)
  have HA := Lib.hid hany
  clear hany h hp hF
  generalize fIdx p L 0 = i at *
  go_enter Try.func49, Try.ntmps49
  go_wp2_with (go_at_call 55; refine C.mono ?_; rintro e w' ⟨rfl, rfl⟩)
  go_ret
  exact ⟨ret_bool HA.out, rfl⟩
end Go.Proofs.Ytdkcpnmaglkmnaa

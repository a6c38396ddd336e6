import Derived.Test.YtefbkdjppfofmaaW34b
/-! Walks of slices.Index and slices.Contains over []int. -/
namespace Go.Proofs.Ytefbkdjppfofmaa
open Go.RowKit Go.Deep
set_option linter.unusedVariables false
set_option maxRecDepth 100000

theorem fIdx_eq {p : Int → Bool} : ∀ {L : List Int} {k : Int}, fIdx p L k = -1 ∨ ∃ i : Nat, i < L.length ∧ fIdx p L k = k + i ∧ (∃ x, L[i]? = some x ∧ p x = true) ∧ ∀ j, j < i → ∀ x, L[j]? = some x → p x = false
  | [], k => .inl rfl
  | x :: t, k => by
    cases h : p x
    · rw [fIdx_no h]
      rcases fIdx_eq (p := p) (L := t) (k := k + 1) with h1 | ⟨i, hi, h1, h2, h3⟩
      · exact .inl h1
      · refine .inr ⟨i + 1, by simpa using hi, by rw [h1]; omega, by simpa using h2, fun j hj y hy => ?_⟩
        cases j with
        | zero => simp at hy; subst hy; exact h
        | succ j => exact h3 j (by omega) y (by simpa using hy)
    · rw [fIdx_yes h]
      exact .inr ⟨0, by simp, by omega, ⟨x, rfl, h⟩, fun j hj => by omega⟩
theorem fIdx_none {p : Int → Bool} : ∀ {L : List Int} {k : Int}, 0 ≤ k → fIdx p L k = -1 → ∀ x ∈ L, p x = false
  | [], k, _, _, x, hx => by simp at hx
  | y :: t, k, hk, h, x, hx => by
    cases hp : p y
    · rw [fIdx_no hp] at h
      rcases List.mem_cons.1 hx with rfl | hx
      · exact hp
      · exact fIdx_none (by omega) h x hx
    · rw [fIdx_yes hp] at h; omega
set_option maxHeartbeats 400000 in
theorem idxX {w : World} {B : Nat} {A : Option Addr} {L : List Int} {cap : Nat} (h : Rd w B A L) (a : Int) :
    Calls Try.prog 58 #[.slice A L.length cap, .int .i64 a] w fun e w' => e = .returned (.int .i64 (fIdx (fun x => a == x) L 0)) ∧ w = w' := by
  have hlen := h.len
  have H := Lib.hid h
  clear h
  go_enter Try.func58, Try.ntmps58
  go_wp2
  go_loop [8] (fun i => ∃ (k : Nat), k ≤ L.length ∧ i = .int .i64 k ∧ Hid (fIdx (fun x => a == x) (L.drop k) k = fIdx (fun x => a == x) L 0)) (fun i => L.length - (intOf i).toNat)
  case atStart => exact ⟨0, by omega, rfl, Lib.hid (by simp)⟩
  case round =>
    obtain ⟨k, hk, rfl, hr⟩ := hrel
    by_cases hlt : k < L.length
    · obtain ⟨b, off, x, rfl, hb, hx, hi, hc⟩ := H.out.at_ hlt
      have HX := Lib.hid hx; clear hx hi
      cases hpx : (a == x)
      · have hn : Hid (fIdx (fun x => a == x) (L.drop (k + 1)) ((k + 1 : Nat) : Int) = fIdx (fun x => a == x) L 0) := Lib.hid (by rw [← hr.out, drop_of HX.out, fIdx_no hpx]; rfl)
        go_wp2
        go_round
        case rel => exact ⟨k + 1, by omega, by go_num, hn⟩
        case measure => simp [intOf]; omega
      · have hn : Hid (fIdx (fun x => a == x) L 0 = k) := Lib.hid (by rw [← hr.out, drop_of HX.out, fIdx_yes hpx])
        go_wp2
        go_ret
        exact ⟨ret_int hn.out.symm, rfl⟩
    · go_wp2
      go_ret
      exact ⟨ret_int (by rw [← hr.out, drop_end (by omega)]; rfl), rfl⟩

theorem any_swap (L : List Int) (y : Int) : (L.any fun x => y == x) = L.any fun x => x == y := by
  congr 1; funext x
  rw [Bool.eq_iff_iff, beq_iff_eq, beq_iff_eq]; exact ⟨Eq.symm, Eq.symm⟩
theorem containsX {w : World} {B : Nat} {A : Option Addr} {L : List Int} {cap : Nat} (h : Rd w B A L) (y : Int) :
    Calls Try.prog 34 #[.slice A L.length cap, .int .i64 y] w fun e w' => e = .returned (.bool (L.any fun x => x == y)) ∧ w = w' := by
  have C := idxX (cap := cap) h y
  have hany : decide (0 ≤ fIdx (fun x => y == x) L 0) = L.any fun x => x == y := (fIdx_any (by omega)).trans (any_swap L y)
  have HA := Lib.hid hany
  clear hany h
  generalize fIdx (fun x => y == x) L 0 = i at *
  go_enter Try.func34, Try.ntmps34
  go_wp2_with (go_at_call 58; refine C.mono ?_; rintro e w' ⟨rfl, rfl⟩)
  go_ret
  exact ⟨ret_bool HA.out, rfl⟩
end Go.Proofs.Ytefbkdjppfofmaa

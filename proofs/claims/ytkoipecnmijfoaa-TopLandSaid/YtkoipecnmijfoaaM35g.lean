import Derived.Test.YtkoipecnmijfoaaM35a
/-! Texts that were built one by one, in one file. -/
-- holds: W35g

section
/-! Walks of slices.IndexFunc and slices.ContainsFunc over [][]int and over []int. -/
namespace Go.Proofs.Ytkoipecnmijfoaa
open Go.RowKit
set_option linter.unusedVariables false
set_option maxRecDepth 100000

/-- the place of the first row that p takes, counted from k; -1 if there is none -/
def rIdx {α : Type} (p : α → Bool) : List α → Int → Int
  | [], _ => -1
  | x :: t, k => if p x then k else rIdx p t (k + 1)
theorem rIdx_yes {α : Type} {p : α → Bool} {x : α} {k : Int} {t : List α} (h : p x = true) : rIdx p (x :: t) k = k := by rw [rIdx, if_pos h]
theorem rIdx_no {α : Type} {p : α → Bool} {x : α} {k : Int} {t : List α} (h : p x = false) : rIdx p (x :: t) k = rIdx p t (k + 1) := by rw [rIdx, if_neg (by simp [h])]
theorem rIdx_any {α : Type} {p : α → Bool} : ∀ {L : List α} {k : Int}, 0 ≤ k → decide (0 ≤ rIdx p L k) = L.any p
  | [], k, hk => by simp [rIdx]
  | x :: t, k, hk => by
    by_cases h : p x = true
    · rw [rIdx_yes h]; simp [h, hk]
    · have h' : p x = false := by simpa using h
      rw [rIdx_no h', rIdx_any (by omega)]; simp [h']

set_option maxHeartbeats 400000 in
/-- the function may make memory -/
theorem indexRowsM {w : World} {B : Nat} {A : Option Addr} {W : List (List Int)} {cap : Nat} (h : Rd2 w B A W) (hB : B ≤ w.heap.size) (F : Nat) (caps : Array Value) (p : List Int → Bool)
    (hF : ∀ args (u : World), (callFunc F args).run Try.prog u = .ok (.enter F args) u)
    (hp : ∀ A1 x c (u : World), x ∈ W → Rd u B A1 x → Below w.heap.size w u → Calls Try.prog F (#[.slice A1 x.length c] ++ caps) u fun e w' => e = .returned (.bool (p x)) ∧ Below u.heap.size u w') :
    Calls Try.prog 43 #[.slice A W.length cap, .func (.func F) #[] caps] w fun e w' => e = .returned (.int .i64 (rIdx p W 0)) ∧ Below w.heap.size w w' := by
  have hlen := h.len
  have H := Lib.hid h; clear h
  have HP := Lib.hid hp; clear hp
  go_enter Try.func43, Try.ntmps43
  go_wp2
  go_loopw [8] (fun i wr => ∃ (k : Nat), k ≤ W.length ∧ i = .int .i64 k ∧ Hid (rIdx p (W.drop k) k = rIdx p W 0) ∧ Hid (Below w.heap.size w wr)) (fun i _ => W.length - (intOf i).toNat)
  case atStart => exact ⟨0, by omega, rfl, Lib.hid (by simp), Lib.hid (Below.refl _ _)⟩
  case round =>
    obtain ⟨k, hk, rfl, hr, hb⟩ := hrel
    by_cases hlt : k < W.length
    · obtain ⟨b, off, x, A1, c1, rfl, hb', hx, hc, hrd⟩ := (H.out.below hb.out hB).at_ hlt
      have HX := Lib.hid hx
      have HM := Lib.hid (List.mem_of_getElem? hx)
      have HR := Lib.hid hrd
      clear hx hrd
      go_wp2_with fail
      refine (HP.out A1 x c1 wr HM.out HR.out hb.out).mono ?_
      rintro e w' ⟨rfl, hb2⟩
      have HB2 := Lib.hid (hb.out.trans (hb2.mono hb.out.size))
      clear hb2
      by_cases hpx : p x = true
      · go_wp2
        go_ret
        exact ⟨ret_int (by rw [← hr.out, dropA_of HX.out, rIdx_yes hpx]), HB2.out⟩
      · have hpf : p x = false := by simpa using hpx
        go_wp2
        go_roundw
        case rel => exact ⟨k + 1, by omega, by go_num, Lib.hid (by rw [← hr.out, dropA_of HX.out, rIdx_no hpf]; rfl), HB2⟩
        case measure => simp [intOf]; omega
    · go_wp2
      go_ret
      exact ⟨ret_int (by rw [← hr.out, List.drop_eq_nil_of_le (by omega)]; rfl), hb.out⟩

theorem containsRowsM {w : World} {B : Nat} {A : Option Addr} {W : List (List Int)} {cap : Nat} (h : Rd2 w B A W) (hB : B ≤ w.heap.size) (F : Nat) (caps : Array Value) (p : List Int → Bool)
    (hF : ∀ args (u : World), (callFunc F args).run Try.prog u = .ok (.enter F args) u)
    (hp : ∀ A1 x c (u : World), x ∈ W → Rd u B A1 x → Below w.heap.size w u → Calls Try.prog F (#[.slice A1 x.length c] ++ caps) u fun e w' => e = .returned (.bool (p x)) ∧ Below u.heap.size u w') :
    Calls Try.prog 27 #[.slice A W.length cap, .func (.func F) #[] caps] w fun e w' => e = .returned (.bool (W.any p)) ∧ Below w.heap.size w w' := by
  have C := indexRowsM (cap := cap) h hB F caps p hF hp
  have hany : decide (0 ≤ rIdx p W 0) = W.any p := rIdx_any (by omega)
  have HA := Lib.hid hany
  clear hany h hp hF
  generalize rIdx p W 0 = i at *
  go_enter Try.func27, Try.ntmps27
  go_wp2_with (go_at_call 43; refine C.mono ?_; rintro e w' ⟨rfl, hb⟩)
  go_ret
  exact ⟨ret_bool HA.out, hb⟩
set_option maxHeartbeats 400000 in
theorem indexInts {w : World} {B : Nat} {A : Option Addr} {W : List Int} {cap : Nat} (h : Rd w B A W) (F : Nat) (caps : Array Value) (p : Int → Bool)
    (hF : ∀ args (u : World), (callFunc F args).run Try.prog u = .ok (.enter F args) u)
    (hp : ∀ x, x ∈ W → I64 x → Calls Try.prog F (#[.int .i64 x] ++ caps) w fun e w' => e = .returned (.bool (p x)) ∧ w = w') :
    Calls Try.prog 44 #[.slice A W.length cap, .func (.func F) #[] caps] w fun e w' => e = .returned (.int .i64 (rIdx p W 0)) ∧ w = w' := by
  have hlen := h.len
  have H := Lib.hid h; clear h
  have HP := Lib.hid hp; clear hp
  go_enter Try.func44, Try.ntmps44
  go_wp2
  go_loop [5, 8] (fun _ i => ∃ (k : Nat), k ≤ W.length ∧ i = .int .i64 k ∧ Hid (rIdx p (W.drop k) k = rIdx p W 0)) (fun _ i => W.length - (intOf i).toNat)
  case atStart => exact ⟨0, by omega, rfl, Lib.hid (by simp)⟩
  case round =>
    obtain ⟨k, hk, rfl, hr⟩ := hrel
    by_cases hlt : k < W.length
    · obtain ⟨b, off, x, rfl, hb, hx, hrd, hc⟩ := H.out.at_ hlt
      have HX := Lib.hid hx
      have HM := Lib.hid (List.mem_of_getElem? hx)
      have HR := Lib.hid hrd
      clear hx hrd
      go_wp2_with fail
      refine (HP.out x HM.out HR.out).mono ?_
      rintro e w' ⟨rfl, rfl⟩
      by_cases hpx : p x = true
      · go_wp2
        go_ret
        exact ⟨ret_int (by rw [← hr.out, dropA_of HX.out, rIdx_yes hpx]), rfl⟩
      · have hpf : p x = false := by simpa using hpx
        go_wp2
        go_round
        case rel => exact ⟨k + 1, by omega, by go_num, Lib.hid (by rw [← hr.out, dropA_of HX.out, rIdx_no hpf]; rfl)⟩
        case measure => simp [intOf]; omega
    · go_wp2
      go_ret
      exact ⟨ret_int (by rw [← hr.out, List.drop_eq_nil_of_le (by omega)]; rfl), rfl⟩

theorem containsInts {w : World} {B : Nat} {A : Option Addr} {W : List Int} {cap : Nat} (h : Rd w B A W) (F : Nat) (caps : Array Value) (p : Int → Bool)
    (hF : ∀ args (u : World), (callFunc F args).run Try.prog u = .ok (.enter F args) u)
    (hp : ∀ x, x ∈ W → I64 x → Calls Try.prog F (#[.int .i64 x] ++ caps) w fun e w' => e = .returned (.bool (p x)) ∧ w = w') :
    Calls Try.prog 30 #[.slice A W.length cap, .func (.func F) #[] caps] w fun e w' => e = .returned (.bool (W.any p)) ∧ w = w' := by
  have C := indexInts (cap := cap) h F caps p hF hp
  have hany : decide (0 ≤ rIdx p W 0) = W.any p := rIdx_any (by omega)
  have HA := Lib.hid hany
  clear hany h hp hF
  generalize rIdx p W 0 = i at *
  go_enter Try.func30, Try.ntmps30
  go_wp2_with (go_at_call 44; refine C.mono ?_; rintro e w' ⟨rfl, rfl⟩)
  go_ret
  exact ⟨ret_bool HA.out, rfl⟩
end Go.Proofs.Ytkoipecnmijfoaa
end

import Derived.Test.YtjgobpejifhphaaW34d
/-! Walks of chapter 34: the reference's Check, Sum, Offers, bought; dissolve's total. -/
namespace Go.Proofs.Ytjgobpejifhphaa
open Go.RowKit
set_option linter.unusedVariables false

set_option maxHeartbeats 400000 in
theorem rCheck {w : World} {B : Nat} {A : Option Addr} {L : List Int} {cap : Nat} (h : Rd w B A L) :
    Calls Try.prog 39 #[.slice A L.length cap] w fun e w' => e = .returned (.int .i64 (chk L)) ∧ w = w' := by
  have hlen := h.len
  have H := Lib.hid h; clear h
  by_cases hm : 10 < L.length
  · have hfin := Lib.hid (chk_many hm)
    go_enter Try.func39, Try.ntmps39
    go_wp2
    go_ret
    exact ⟨ret_int hfin.out.symm, rfl⟩
  · have hfin := Lib.hid (chk_go hm)
    go_enter Try.func39, Try.ntmps39
    go_wp2
    go_loop [3, 4] (fun l i => ∃ (k : Nat) (left : Int), k ≤ L.length ∧ 0 ≤ left ∧ left ≤ 1000 ∧ i = .int .i64 k ∧ l = .int .i64 left ∧ Hid (chkGo left (L.drop k) (if L.length < 2 then 8 else 0) = chk L)) (fun _ i => L.length - (intOf i).toNat)
    case atStart => exact ⟨0, 1000, by omega, by omega, by omega, rfl, rfl, by simpa using hfin⟩
    case round =>
      obtain ⟨k, left, hk, hl0, hl1, rfl, rfl, hr⟩ := hrel
      by_cases hlt : k < L.length
      · obtain ⟨b, off, x, rfl, hb, hx, hi, hc⟩ := H.out.at_ hlt
        have HI := Lib.hid hi; clear hi
        have HX := Lib.hid hx; clear hx
        by_cases h1 : x < 1
        · go_wp2
          go_ret
          exact ⟨ret_int (by rw [← hr.out, drop_of HX.out, chkGo_no (.inl h1)]), rfl⟩
        · by_cases h2 : left < x
          · go_wp2
            go_ret
            exact ⟨ret_int (by rw [← hr.out, drop_of HX.out, chkGo_no (.inr h2)]), rfl⟩
          · go_wp2
            go_round
            case rel => exact ⟨k + 1, left - x, by omega, by omega, by omega, by go_num, rfl, Lib.hid (by rw [← hr.out, drop_of HX.out, chkGo_yes h1 h2])⟩
            case measure => simp [intOf]; omega
      · have hk' : L.length ≤ k := by omega
        by_cases h2 : L.length < 2
        all_goals
          go_wp2
          go_ret
          exact ⟨ret_int (by rw [← hr.out, drop_end hk']; simp [chkGo, h2]), rfl⟩

theorem sumL_drop {L : List Int} {k : Nat} {x : Int} (h : L[k]? = some x) : sumL (L.drop k) = x + sumL (L.drop (k + 1)) := by rw [drop_of h]; rfl
theorem sumL_nonneg : ∀ {L : List Int}, (∀ x ∈ L, 1 ≤ x) → 0 ≤ sumL L
  | [], _ => by simp [sumL]
  | x :: t, h => by
    have := h x (by simp)
    have := sumL_nonneg (L := t) fun y hy => h y (List.mem_cons_of_mem _ hy)
    simp only [sumL]; omega
theorem mem_of {L : List Int} {k : Nat} {x : Int} (h : L[k]? = some x) : x ∈ L := List.mem_of_getElem? h
/-- the sum up to a place, and the rest -/
structure SumAt (L : List Int) (k : Nat) (n : Int) : Prop where
  eq : n + sumL (L.drop k) = sumL L
  lo : 0 ≤ n
  hi : n ≤ 1000
theorem SumAt.next {L : List Int} {k : Nat} {n x : Int} (h : SumAt L k n) (hv : Valid L) (hx : L[k]? = some x) : SumAt L (k + 1) (n + x) := by
  have e := sumL_drop hx
  have h1 := hv.pos x (mem_of hx)
  have h2 := sumL_nonneg (L := L.drop (k + 1)) fun y hy => hv.pos y (List.mem_of_mem_drop hy)
  have h3 := hv.sum
  have h4 := h.eq
  have h5 := h.lo
  exact ⟨by omega, by omega, by omega⟩

set_option maxHeartbeats 400000 in
theorem dTotal {w : World} {B : Nat} {A : Option Addr} {L : List Int} {cap : Nat} (h : Rd w B A L) (hv : Valid L) :
    Calls Try.prog 42 #[.slice A L.length cap] w fun e w' => e = .returned (.int .i64 (sumL L)) ∧ w = w' := by
  have hlen := h.len
  have H := Lib.hid h; clear h
  have HV := Lib.hid hv; clear hv
  go_enter Try.func42, Try.ntmps42
  go_wp2
  go_loop [3, 8] (fun n i => ∃ (k : Nat) (m : Int), k ≤ L.length ∧ 0 ≤ m ∧ m ≤ 1000 ∧ i = .int .i64 k ∧ n = .int .i64 m ∧ Hid (SumAt L k m)) (fun _ i => L.length - (intOf i).toNat)
  case atStart => exact ⟨0, 0, by omega, by omega, by omega, rfl, rfl, Lib.hid ⟨by simp, by omega, by omega⟩⟩
  case round =>
    obtain ⟨k, m, hk, hm0, hm1, rfl, rfl, hr⟩ := hrel
    by_cases hlt : k < L.length
    · obtain ⟨b, off, x, rfl, hb, hx, hi, hc⟩ := H.out.at_ hlt
      have hr' := hr.out.next HV.out hx
      have h3 := hr'.lo
      have h4 := hr'.hi
      have HR := Lib.hid hr'; clear hr'
      have HI := Lib.hid hi; clear hi
      have HX := Lib.hid hx; clear hx
      go_wp2
      go_round
      case rel => exact ⟨k + 1, m + x, by omega, by omega, by omega, by go_num, rfl, HR⟩
      case measure => simp [intOf]; omega
    · go_wp2
      go_ret
      exact ⟨ret_int (by have := hr.out.eq; rw [drop_end (by omega)] at this; simpa [sumL] using this), rfl⟩

set_option maxHeartbeats 400000 in
theorem rSum {w : World} {B : Nat} {A : Option Addr} {L : List Int} {cap : Nat} (h : Rd w B A L) (hv : Valid L) :
    Calls Try.prog 67 #[.slice A L.length cap] w fun e w' => e = .returned (.int .i64 (sumL L)) ∧ w = w' := by
  have hlen := h.len
  have H := Lib.hid h; clear h
  have HV := Lib.hid hv; clear hv
  go_enter Try.func67, Try.ntmps67
  go_wp2
  go_loop [3, 4] (fun n i => ∃ (k : Nat) (m : Int), k ≤ L.length ∧ 0 ≤ m ∧ m ≤ 1000 ∧ i = .int .i64 k ∧ n = .int .i64 m ∧ Hid (SumAt L k m)) (fun _ i => L.length - (intOf i).toNat)
  case atStart => exact ⟨0, 0, by omega, by omega, by omega, rfl, rfl, Lib.hid ⟨by simp, by omega, by omega⟩⟩
  case round =>
    obtain ⟨k, m, hk, hm0, hm1, rfl, rfl, hr⟩ := hrel
    by_cases hlt : k < L.length
    · obtain ⟨b, off, x, rfl, hb, hx, hi, hc⟩ := H.out.at_ hlt
      have hr' := hr.out.next HV.out hx
      have h3 := hr'.lo
      have h4 := hr'.hi
      have HR := Lib.hid hr'; clear hr'
      have HI := Lib.hid hi; clear hi
      have HX := Lib.hid hx; clear hx
      go_wp2
      go_round
      case rel => exact ⟨k + 1, m + x, by omega, by omega, by omega, by go_num, rfl, HR⟩
      case measure => simp [intOf]; omega
    · go_wp2
      go_ret
      exact ⟨ret_int (by have := hr.out.eq; rw [drop_end (by omega)] at this; simpa [sumL] using this), rfl⟩
end Go.Proofs.Ytjgobpejifhphaa

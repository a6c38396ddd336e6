import Derived.Test.YtjgobpejifhphaaS35c
import Derived.Test.YtjgobpejifhphaaSorted
/-! Walks of chapter 35: is a list an order?
-/
namespace Go.Proofs.Ytjgobpejifhphaa
open Go.RowKit Go.Deep Go.Shelf
set_option linter.unusedVariables false
set_option maxRecDepth 100000

set_option maxHeartbeats 400000 in
theorem r29Has {w : World} {B : Nat} {A : Option Addr} {L : List Int} {cap : Nat} (h : Rd w B A L) (y : Int) :
    Calls Try.prog 48 #[.slice A L.length cap, .int .i64 y] w fun e w' => e = .returned (.bool (L.any fun x => x == y)) ∧ w = w' := by
  have hlen := h.len
  have H := Lib.hid h
  clear h
  go_enter Try.func48, Try.ntmps48
  go_wp2
  go_loop [5] (fun iv => ∃ (k : Nat), k ≤ L.length ∧ iv = .int .i64 k ∧ Hid ((L.drop k).any (fun x => x == y) = L.any fun x => x == y)) (fun iv => L.length - (intOf iv).toNat)
  case atStart => exact ⟨0, by omega, rfl, Lib.hid rfl⟩
  case round =>
    obtain ⟨k, hk, rfl, hr⟩ := hrel
    by_cases hlt : k < L.length
    · obtain ⟨b, off, x, rfl, hb, hx, hi, hc⟩ := H.out.at_ hlt
      have HA := Lib.hid (any_drop (p := fun x => x == y) hx)
      clear hx hi hb
      cases hxy : (x == y)
      · have HT : Hid ((L.drop (k + 1)).any (fun x => x == y) = L.any fun x => x == y) := Lib.hid (by rw [← hr.out, HA.out, hxy]; rfl)
        go_wp2
        go_round
        case rel => exact ⟨k + 1, by omega, by go_num, HT⟩
        case measure => simp [intOf]; omega
      · have HT : Hid ((L.any fun x => x == y) = true) := Lib.hid (by rw [← hr.out, HA.out, hxy]; rfl)
        go_wp2
        go_ret
        exact ⟨ret_bool HT.out.symm, rfl⟩
    · have HT : Hid ((L.any fun x => x == y) = false) := Lib.hid (by rw [← hr.out, any_end (by omega)])
      go_wp2
      go_ret
      exact ⟨ret_bool HT.out.symm, rfl⟩
set_option maxHeartbeats 400000 in
theorem r29Order {w : World} {B : Nat} {A : Option Addr} {L : List Int} {cap n : Nat} (h : Rd w B A L) (hn : n ≤ 100000000000000) :
    Calls Try.prog 20 #[.slice A L.length cap, .int .i64 n] w fun e w' => e = .returned (.bool (ordB L n)) ∧ w = w' := by
  have hlen := h.len
  have H := Lib.hid h
  clear h
  have CH : Hid (∀ k : Nat, Calls Try.prog 48 #[.slice A L.length cap, .int .i64 (k : Int)] w fun e w' => e = .returned (.bool (L.any fun x => x == (k : Int))) ∧ w = w') := Lib.hid fun k => r29Has (cap := cap) H.out (k : Int)
  go_enter Try.func20, Try.ntmps20
  go_wp2
  go_loop [5] (fun iv => ∃ (k : Nat), k ≤ n ∧ iv = .int .i64 k ∧ Hid (((List.range n).drop k).all (fun k => L.any fun x => x == (k : Int)) = (List.range n).all fun k => L.any fun x => x == (k : Int))) (fun iv => n - (intOf iv).toNat)
  case atStart => exact ⟨0, by omega, rfl, Lib.hid rfl⟩
  case round =>
    obtain ⟨k, hk, rfl, hr⟩ := hrel
    by_cases hlt : k < n
    · have HA := Lib.hid (all_drop (L := List.range n) (p := fun k => L.any fun x => x == (k : Int)) (List.getElem?_range hlt))
      have CK := Lib.hid (CH.out k)
      cases hxy : (L.any fun x => x == (k : Int))
      · have HT : Hid (ordB L n = false) := Lib.hid (by rw [ordB, ← hr.out, HA.out, hxy]; rfl)
        rw [hxy] at CK
        clear hxy HA hr
        go_wp2_with fail
        refine CK.out.mono ?_
        rintro e w' ⟨rfl, rfl⟩
        go_wp2
        go_ret
        exact ⟨ret_bool HT.out.symm, rfl⟩
      · have HT : Hid (((List.range n).drop (k + 1)).all (fun k => L.any fun x => x == (k : Int)) = (List.range n).all fun k => L.any fun x => x == (k : Int)) := Lib.hid (by rw [← hr.out, HA.out, hxy]; rfl)
        rw [hxy] at CK
        clear hxy HA hr
        go_wp2_with fail
        refine CK.out.mono ?_
        rintro e w' ⟨rfl, rfl⟩
        go_wp2
        go_round
        case rel => exact ⟨k + 1, by omega, by go_num, HT⟩
        case measure => simp [intOf]; omega
    · have HT : Hid (ordB L n = ((L.length : Int) == (n : Int))) := Lib.hid (by
        rw [ordB, ← hr.out, all_end (by simp; omega), Bool.true_and, Bool.eq_iff_iff, decide_eq_true_iff, beq_iff_eq]; omega)
      clear hr
      go_wp2
      go_ret
      exact ⟨ret_bool HT.out.symm, rfl⟩
set_option maxHeartbeats 1000000 in
theorem lIsOrder {w : World} {B : Nat} {A : Option Addr} {L : List Int} {cap n : Nat} (h : Rd w B A L) (hB : B ≤ w.heap.size) (hl : L.length < 1000) (hn : n ≤ 100000000000000) :
    Calls Try.prog 75 #[.slice A L.length cap, .int .i64 n] w fun e w' => e = .returned (.bool (ordB L n)) ∧ Below w.heap.size w w' := by
  have CV := callsIn_wide.1 (values_in Fence.wide 3 trivial rfl A L.length cap w)
  have hb : Below w.heap.size w (w.alloc (.cells #[.slice A L.length cap] 22)) := (Below.refl _ _).alloc (Nat.le_refl _) _
  have CS := sortedV (w := w.alloc (.cells #[.slice A L.length cap] 22)) (Bs := w.heap.size) (cap := cap) (A := A) (zs := L) (by simp) ((cell_of_row _ _ 0 _ _ (0, 0) (heap_alloc_new _ _)).trans rfl) ((h.below hb hB).more (by simp; omega)) hl
  have HCV := Lib.hid CV
  have HCS := Lib.hid CS
  have HB := Lib.hid hb
  have HO : Hid (∀ x : Bool, ordP L n = x → ordB L n = x) := Lib.hid fun x hx => by rw [← ord_eq]; exact hx
  clear CV CS hb h
  generalize hw1 : w.alloc (.cells #[.slice A L.length cap] 22) = w1 at *
  go_enter Try.func75, Try.ntmps75
  go_wp2_with fail
  refine HCV.out.mono ?_
  rintro e w' ⟨rfl, rfl⟩
  clear HCV
  go_wp2_with fail
  refine HCS.out.mono ?_
  rintro e w2 ⟨A2, c2, rfl, hown, hb2⟩
  rw [sortI_length] at hown ⊢
  have HOW := Lib.hid hown
  have HB2 := Lib.hid (HB.out.trans (hb2.mono HB.out.size))
  clear hown hb2 HCS HB hw1
  go_wp2_with fail
  go_loopw [11] (fun iv wr => ∃ (k : Nat), k ≤ L.length ∧ iv = .int .i64 k ∧ Hid (∀ j, j < k → (sortI L)[j]? = some (j : Int)) ∧ wr = w2) (fun iv _ => L.length - (intOf iv).toNat)
  case atStart => exact ⟨0, by omega, rfl, Lib.hid (fun j hj => by omega), rfl⟩
  case round =>
    obtain ⟨k, hk, rfl, hs, rfl⟩ := hrel
    by_cases hlt : k < L.length
    · obtain ⟨g, rfl, hg, hP⟩ := HOW.out (by omega)
      have hlk : k < (sortI L).length := by rw [sortI_length]; exact hlt
      have hx := List.getElem?_eq_getElem hlk
      have hc := hP.cell hx
      have HX := Lib.hid hx
      clear hP hx
      generalize (sortI L)[k] = x at *
      by_cases hxk : x = (k : Int)
      · have q1 : (x != (k : Int)) = false := by simpa using hxk
        have HS : Hid (∀ j, j < k + 1 → (sortI L)[j]? = some (j : Int)) := Lib.hid fun j hj => by
          rcases Nat.lt_or_ge j k with h | h
          · exact hs.out j h
          · have : j = k := by omega
            rw [this, HX.out, hxk]
        clear hxk hs
        go_wp2
        go_roundw
        case rel => exact ⟨k + 1, by omega, by go_num, HS, by trivial⟩
        case measure => simp [intOf]; omega
      · have q1 : (x != (k : Int)) = true := by simpa using hxk
        have HT : Hid (ordB L n = false) := Lib.hid (HO.out _ (by
          rw [ordP, Bool.and_eq_false_iff]
          left
          rw [decide_eq_false_iff_not]
          intro he
          rw [he] at HX
          have h1 := HX.out
          simp [iota, hlt] at h1
          exact hxk h1.symm))
        clear hxk hs
        go_wp2
        go_ret
        exact ⟨ret_bool HT.out.symm, HB2.out⟩
    · have HT : Hid (ordB L n = ((L.length : Int) == (n : Int))) := Lib.hid (HO.out _ (by
        have hkl : k = L.length := by omega
        subst hkl
        rw [ordP, decide_eq_true (iota_of (sortI_length L) fun j hj => hs.out j hj), Bool.true_and, Bool.eq_iff_iff, decide_eq_true_iff, beq_iff_eq]; omega))
      clear hs
      go_wp2
      go_ret
      exact ⟨ret_bool HT.out.symm, HB2.out⟩
end Go.Proofs.Ytjgobpejifhphaa

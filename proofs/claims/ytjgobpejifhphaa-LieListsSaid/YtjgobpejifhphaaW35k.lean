import Derived.Test.YtjgobpejifhphaaW35j
import Derived.StillTailTactics
/-! Walks of chapter 35: pick.
-/
namespace Go.Proofs.Ytjgobpejifhphaa
open Go.RowKit Go.Deep
set_option linter.unusedVariables false
set_option maxRecDepth 100000

theorem rIdx_find {p : Int → Bool} : ∀ {L : List Int} {g : Int} (k : Nat), L.find? p = some g → ∃ j : Nat, rIdx p L k = ((k + j : Nat) : Int) ∧ L[j]? = some g
  | [], g, k, h => by simp at h
  | x :: t, g, k, h => by
    by_cases hx : p x = true
    · rw [List.find?_cons_of_pos hx] at h
      cases h
      exact ⟨0, by rw [rIdx_yes hx]; rfl, rfl⟩
    · have hx' : p x = false := by simpa using hx
      rw [List.find?_cons_of_neg hx] at h
      obtain ⟨j, h1, h2⟩ := rIdx_find (k + 1) h
      exact ⟨j + 1, by rw [rIdx_no hx', show (k : Int) + 1 = ((k + 1 : Nat) : Int) by omega, h1]; congr 1; omega, by simpa using h2⟩
theorem pickK_at {O : List Int} {R : List (List Int)} {k : Nat} {i g : Int} {L : List Int} (hi : O[k]? = some i) (hL : R[i.toNat]? = some L) (hg : L.find? (freeG (pickK O R k)) = some g) : pickK O R (k + 1) = (pickK O R k).set g.toNat i := by
  have h1 : O.getD k 0 = i := by rw [List.getD_eq_getElem?_getD, hi]; rfl
  have h2 : R.getD i.toNat [] = L := by rw [List.getD_eq_getElem?_getD, hL]; rfl
  rw [pickK, h1, h2, pickS, hg]
theorem lPickG {w : World} {b g c : Nat} {T : Nat} {out : List Int} {x : Int} (hb : w.cell? ⟨b, 0, none⟩ = some (.slice (some ⟨g, 0, none⟩) out.length c)) (ho : Own w g T out) (hx : ∃ a : Nat, x = a ∧ a < out.length) :
    Calls Try.prog 80 #[.int .i64 x, .pointer (some ⟨b, 0, none⟩)] w fun e w' => e = .returned (.bool (freeG out x)) ∧ w = w' := by
  obtain ⟨a, rfl, ha⟩ := hx
  obtain ⟨y, hy⟩ : ∃ y, out[a]? = some y := ⟨out[a], by simp [ha]⟩
  have hc := ho.cell hy
  have hf : freeG out (a : Int) = decide (y < 0) := by rw [freeG, Int.toNat_natCast, List.getD_eq_getElem?_getD, hy]; rfl
  have HF := Lib.hid hf
  clear hf hy ho
  go_enter Try.func80, Try.ntmps80
  go_wp2
  go_ret
  exact ⟨ret_bool HF.out.symm, rfl⟩
/-- a number or an order that fits -/
theorem OR.at_ {O : List Int} {R : List (List Int)} (h : OR O R) {k : Nat} {i : Int} (hi : O[k]? = some i) : ∃ a : Nat, i = a ∧ a < R.length := by
  have := h.ag i (List.mem_of_getElem? hi)
  exact ⟨i.toNat, by omega, by omega⟩
theorem OR.mem {O : List Int} {R : List (List Int)} (h : OR O R) {a : Nat} {L : List Int} (hL : R[a]? = some L) {x : Int} (hx : x ∈ L) : ∃ g : Nat, x = g ∧ g < O.length :=
  iota_mem.1 ((h.ord L (List.mem_of_getElem? hL)).mem_iff.2 hx)
theorem OR.len {O : List Int} {R : List (List Int)} (h : OR O R) {a : Nat} {L : List Int} (hL : R[a]? = some L) : L.length = O.length := by
  rw [← (h.ord L (List.mem_of_getElem? hL)).length_eq, iota_length]
set_option maxHeartbeats 1000000 in
theorem lPickW {w : World} {B C : Nat} {A A' : Option Addr} {O : List Int} {R : List (List Int)} {cap cap' : Nat} (h : Rd w B A O) (h' : Rd2 w C A' R) (hB : B ≤ w.heap.size) (hC : C ≤ w.heap.size) (hor : OR O R) :
    Calls Try.prog 50 #[.slice A O.length cap, .slice A' R.length cap'] w (NewOwn w 3 (pickK O R O.length)) := by
  have HOR := Lib.hid hor
  have H := Lib.hid h
  have H' := Lib.hid h'
  have l1 := hor.o6
  have l2 := hor.r6
  have hal : Below w.heap.size w (w.alloc (.cells #[.int .i64 (-1)] 3)) := (Below.refl _ _).alloc (Nat.le_refl _) _
  have hc0 : (w.alloc (.cells #[.int .i64 (-1)] 3)).cell? ⟨w.heap.size, 0, none⟩ = some (.int .i64 (-1)) := by simp
  have hs0 : (w.alloc (.cells #[.int .i64 (-1)] 3)).heap.size = w.heap.size + 1 := by simp
  have CR := repeat1 (n := O.length) hc0 (by rw [hs0]; omega) (by omega)
  have HAL := Lib.hid hal
  have HS0 := Lib.hid hs0
  clear h h' hor hal hc0 hs0
  go_enter Try.func50, Try.ntmps50
  go_wp2_with fail
  refine CR.mono ?_
  rintro e w2 ⟨g, rfl, hg, ho, hb2⟩
  rw [List.length_replicate]
  have hgs := HS0.out
  have hbx := (HAL.out.trans (hb2.mono (by omega))).alloc (by have := hb2.size; omega) (.cells #[.slice (some ⟨g, 0, none⟩) O.length O.length] 22)
  have hox := ho.alloc (.cells #[.slice (some ⟨g, 0, none⟩) O.length O.length] 22)
  have hcx : (w2.alloc (.cells #[.slice (some ⟨g, 0, none⟩) O.length O.length] 22)).cell? ⟨w2.heap.size, 0, none⟩ = some (.slice (some ⟨g, 0, none⟩) O.length O.length) := by simp
  have HGL := Lib.hid ho.lt
  have HG : Hid (w.heap.size ≤ g) := Lib.hid (by omega)
  have HBX := Lib.hid hbx
  have HOX := Lib.hid hox
  have HCX := Lib.hid hcx
  clear hg ho hb2 hgs hbx hox hcx CR HAL HS0
  go_wp2_with fail
  generalize hw3 : w2.alloc (.cells #[.slice (some ⟨g, 0, none⟩) O.length O.length] 22) = w3 at *
  clear hw3
  generalize hbb : w2.heap.size = bx at *
  clear hbb w2
  go_loopw [15] (fun iv wr => ∃ k : Nat, k ≤ O.length ∧ iv = .int .i64 k ∧ Hid (Own wr g 3 (pickK O R k)) ∧ Hid (wr.cell? ⟨bx, 0, none⟩ = some (.slice (some ⟨g, 0, none⟩) O.length O.length)) ∧ Hid (Below w.heap.size w wr)) (fun iv _ => O.length - (intOf iv).toNat)
  case atStart => exact ⟨0, by omega, rfl, HOX, HCX, HBX⟩
  case round =>
    obtain ⟨k, hk, rfl, ho, hc, hb⟩ := hrel
    by_cases hlt : k < O.length
    · obtain ⟨b1, o1, i, rfl, hb1, hi, hi64, hci⟩ := (H.out.below hb.out hB).at_ hlt
      obtain ⟨a, rfl, ha⟩ := HOR.out.at_ hi
      obtain ⟨b2, o2, L, A2, c2, rfl, hb2, hL, hcL, hrd⟩ := (H'.out.below hb.out hC).at_ ha
      obtain ⟨gd, hgd, hgl⟩ := pick_some HOR.out hlt (HOR.out.ord L (List.mem_of_getElem? hL))
      obtain ⟨j, hj1, hj2⟩ := rIdx_find 0 hgd
      rw [Nat.zero_add] at hj1
      have hjl : j < L.length := (List.getElem?_eq_some_iff.1 hj2).1
      have hll := HOR.out.len hL
      obtain ⟨b3, o3, x3, rfl, hb3, hx3, _, hc3⟩ := hrd.at_ hjl
      rw [hj2] at hx3
      cases hx3
      have hpl := pickK_length O R k
      obtain ⟨y, hy⟩ : ∃ y, (pickK O R k)[gd]? = some y := ⟨(pickK O R k)[gd]'(by omega), by simp⟩
      have hcy := ho.out.cell hy
      have hfy := ho.out.frozen gd
      have hst := pickK_at (L := L) hi (by rw [Int.toNat_natCast]; exact hL) hgd
      rw [Int.toNat_natCast] at hst
      have hnext := ho.out.drew.store gd (a : Int)
      rw [← hst] at hnext
      have CI := indexInts (cap := c2) hrd 80 #[.pointer (some ⟨bx, 0, none⟩)] (freeG (pickK O R k)) (fun args u => by kernel_rfl) (fun x hx _ => lPickG (b := bx) (g := g) (c := O.length) (by rw [hpl]; exact hc.out) ho.out (by rw [hpl]; exact HOR.out.mem hL hx))
      rw [show ((0 : Nat) : Int) = 0 from rfl] at hj1
      rw [hj1] at CI
      have HNEXT := Lib.hid hnext
      have hcb := hc.out
      have HB3 := Lib.hid (hb.out.drew.setCell (p := ⟨g, gd, none⟩) HG.out (.int .i64 (a : Int)))
      have HCI := Lib.hid CI
      have hne : bx ≠ g := by have := HGL.out; omega
      have hcn : (wr.drew.setCell ⟨g, gd, none⟩ (.int .i64 (a : Int))).cell? ⟨bx, 0, none⟩ = some (.slice (some ⟨g, 0, none⟩) O.length O.length) := (World.cell?_setCell_other _ _ _ _ (by intro e; cases e; exact hne rfl)).trans hc.out
      have HCN := Lib.hid hcn
      have hjo : (j : Int) < (L.length : Int) := by omega
      have hgo : (gd : Int) < (O.length : Int) := by omega
      clear CI hnext hst hpl hgd hj1 hj2 hi64 hi hL hll hrd hcn hy
      go_wp2_with fail
      refine HCI.out.mono ?_
      rintro e w4 ⟨rfl, rfl⟩
      go_wp2_with fail
      go_still_tail 10, (by kernel_rfl)
      change wpList _ _ _ _ _ wr.drew
      have hcy' : wr.drew.cell? ⟨g, gd, none⟩ = some (.int .i64 y) := hcy
      have hfy' : wr.drew.frozen? ⟨g, gd, none⟩ = false := hfy
      go_wp2
      go_roundw
      case rel => exact ⟨k + 1, by omega, by go_num, HNEXT, HCN, HB3⟩
      case measure => simp [intOf]; omega
    · obtain rfl : k = O.length := by omega
      have hcb := hc.out
      go_wp2
      go_ret
      exact ⟨g, by rw [pickK_length]; rfl, HG.out, ho.out, hb.out⟩
end Go.Proofs.Ytjgobpejifhphaa

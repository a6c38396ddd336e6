import Derived.Test.YtefbkdjppfofmaaSorted
import Derived.Test.YtefbkdjppfofmaaS26h
import Derived.Deep.RegionLaw
import Derived.Laws.CopyOwn
import Derived.Deep.DeepCutAuto
import Derived.Deep.CutBlock
/-! Walks of chapter 26: shaped. -/
namespace Go.Proofs.Ytefbkdjppfofmaa
open Go.RowKit Go.Deep
set_option linter.unusedVariables false
set_option maxRecDepth 100000

def shV (L : List Int) : Value := .agg ((shapeI L).map (Value.int .i64)).toArray
def zeros6 : List Value := [.int .i64 0, .int .i64 0, .int .i64 0, .int .i64 0, .int .i64 0, .int .i64 0]
theorem splice_zeros {L : List Int} (h : L.length ≤ 6) : splice zeros6 (6 - L.length) ((sortI L).map (Value.int .i64)) = (shapeI L).map (Value.int .i64) := by
  have hz : zeros6 = List.replicate 6 (Value.int .i64 0) := rfl
  rw [splice, hz, List.take_replicate, List.drop_replicate, shapeI, List.map_append, List.map_replicate, List.length_map, sortI_length]
  rw [show min (6 - L.length) 6 = 6 - L.length by omega, show 6 - (6 - L.length + L.length) = 0 by omega]
  simp
theorem six_of {L : List Int} (h : L.length = 6) : ∃ a b c d e f, L = [a, b, c, d, e, f] := by
  match L, h with
  | [a, b, c, d, e, f], _ => exact ⟨a, b, c, d, e, f, rfl⟩

theorem copy_src {w3 : World} {w0 T : Nat} {A3 : Option Addr} {L : List Int} (h : 0 < L.length → ∃ g, A3 = some ⟨g, 0, none⟩ ∧ w0 ≤ g ∧ OwnP w3 g T L) (h0 : 0 < (L.map (Value.int .i64)).length) :
    ∃ ad, A3 = some ad ∧ ∀ (j : Nat) (v : Value), (L.map (Value.int .i64))[j]? = some v → w3.cell? (ad.add j) = some v := by
  obtain ⟨g, rfl, _, hP⟩ := h (by simpa using h0)
  exact ⟨_, rfl, cells_ints (fun i x hx => by rw [Nat.zero_add]; exact hP.cell hx)⟩
set_option maxHeartbeats 2000000 in
theorem lShaped {w : World} {B : Nat} {A : Option Addr} {L : List Int} {cap : Nat} (h : Rd w B A L) (hB : B ≤ w.heap.size) (hl : L.length ≤ 6) :
    Calls Try.prog 42 #[.slice A L.length cap] w fun e w' => e = .returned (shV L) ∧ Below w.heap.size w w' := by
  obtain ⟨k, hk⟩ : ∃ k, k + L.length = 6 := ⟨6 - L.length, by omega⟩
  have hk1 : (6 : Int) - (L.length : Int) = (k : Int) := by omega
  have hk2 : 6 - k = L.length := by omega
  have hk3 : (k : Int) ≤ 6 := by omega
  have hk6 : k ≤ 6 := by omega
  have HKL : Hid (k = 6 - L.length) := Lib.hid (by omega)
  have hkw : IntKind.i64.wrap (k : Int) = k := IntWalk.i64_in _ (by omega)
  have H := Lib.hid h
  have HL := Lib.hid hl
  have HK := Lib.hid hk
  clear h hl hk
  have HB1 : Hid (Below w.heap.size w ((w.alloc (.cells zeros6.toArray 61)).alloc (.cells zeros6.toArray 61))) := Lib.hid (((Below.refl _ w).alloc (Nat.le_refl _) _).alloc (by simp) _)
  have HS1 : Hid (((w.alloc (.cells zeros6.toArray 61)).alloc (.cells zeros6.toArray 61)).heap.size = w.heap.size + 2) := Lib.hid (by simp)
  have HG1 : Hid (((w.alloc (.cells zeros6.toArray 61)).alloc (.cells zeros6.toArray 61)).heap[w.heap.size + 1]? = some (.cells zeros6.toArray 61 (0, 0))) := Lib.hid (by
    have := heap_alloc_new (w.alloc (.cells zeros6.toArray 61)) (.cells zeros6.toArray 61)
    rw [show (w.alloc (.cells zeros6.toArray 61)).heap.size = w.heap.size + 1 by simp] at this
    exact this)
  have HG0 : Hid (((w.alloc (.cells zeros6.toArray 61)).alloc (.cells zeros6.toArray 61)).heap[w.heap.size]? = some (.cells zeros6.toArray 61 (0, 0))) := Lib.hid (by
    rw [Below.heap_alloc _ _ _ (by simp)]
    exact heap_alloc_new w _)
  go_enter Try.func42, Try.ntmps42
  go_wp2_with fail
  change Code.wp _ _ _ _ ((w.alloc (.cells zeros6.toArray 61)).alloc (.cells zeros6.toArray 61))
  generalize (w.alloc (.cells zeros6.toArray 61)).alloc (.cells zeros6.toArray 61) = w2 at *
  have CV : Hid (∀ u : World, u.heap.size = w.heap.size + 2 → Calls Try.prog 60 #[.slice A L.length cap] u fun e w' => e = .returned (.func (.func 66) #[] #[.pointer (some ⟨w.heap.size + 2, 0, none⟩)]) ∧ w' = u.alloc (.cells #[.slice A L.length cap] 23)) :=
    Lib.hid fun u hu => by rw [← hu]; exact callsIn_wide.1 (values_in Fence.wide 3 trivial rfl A L.length cap u)
  have CS : Hid (∀ u : World, Below w.heap.size w u → u.heap.size = w.heap.size + 2 → Calls Try.prog 59 #[.func (.func 66) #[] #[.pointer (some ⟨w.heap.size + 2, 0, none⟩)]] (u.alloc (.cells #[.slice A L.length cap] 23)) (SortedRes (u.alloc (.cells #[.slice A L.length cap] 23)) (sortI L))) :=
    Lib.hid fun u hu hs => by
      have hb : Below u.heap.size u (u.alloc (.cells #[.slice A L.length cap] 23)) := (Below.refl _ u).alloc (Nat.le_refl _) _
      refine sortedV (cap := cap) (A := A) (by simp; omega) ?_ (((H.out.below hu hB).below hb (by omega)).more (by simp; omega)) (by have := HL.out; omega)
      rw [← hs]
      exact (cell_of_row _ _ 0 _ _ (0, 0) (heap_alloc_new _ _)).trans rfl
  have HG2 : Hid (∀ u u' : World, u.heap = w2.heap → Below (u.alloc (.cells #[.slice A L.length cap] 23)).heap.size (u.alloc (.cells #[.slice A L.length cap] 23)) u' → u'.heap[w.heap.size + 1]? = some (.cells zeros6.toArray 61 (0, 0)) ∧ u'.heap[w.heap.size]? = some (.cells zeros6.toArray 61 (0, 0))) := Lib.hid fun u u' hu hb => by
    have hs := HS1.out
    rw [hb.block _ (by simp [hu]; omega), hb.block _ (by simp [hu]; omega), Below.heap_alloc _ _ _ (by rw [hu]; omega), Below.heap_alloc _ _ _ (by rw [hu]; omega), hu]
    exact ⟨HG1.out, HG0.out⟩
  have HN : Hid (((sortI L).map (Value.int .i64)).length = Nat.min L.length L.length) := Lib.hid (by rw [List.length_map, sortI_length]; exact (Nat.min_self _).symm)
  have HN2 : Hid ((sortI L).length = L.length) := Lib.hid (sortI_length L)
  have HKE : Hid (0 < ((sortI L).map (Value.int .i64)).length → some (if 6 = k then (⟨w.heap.size + 1, 0, none⟩ : Addr) else ⟨w.heap.size + 1, k, none⟩) = some ⟨w.heap.size + 1, k, none⟩) := Lib.hid fun h => by rw [if_neg (by have := HK.out; rw [List.length_map, HN2.out] at h; omega)]
  have HFT : Hid (k + ((sortI L).map (Value.int .i64)).length ≤ zeros6.length) := Lib.hid (by rw [List.length_map, sortI_length]; have := HK.out; show _ ≤ 6; omega)
  go_region_law (first
    | (go_simp; go_at_call 60; refine (CV.out w2.drew HS1.out).mono ?_; rintro e w' ⟨rfl, rfl⟩)
    | (go_simp; go_at_call 59; refine (CS.out w2.drew HB1.out.drew HS1.out).mono ?_; rintro e w3 ⟨A3, c3, rfl, hrow3, hb3⟩; have HR3 := Lib.hid hrow3; have HB3 := Lib.hid hb3; clear hrow3 hb3; rw [HN2.out]; obtain ⟨hg3, hg0⟩ := HG2.out w2.drew w3 rfl HB3.out; have HG3 := Lib.hid hg3; have HG03 := Lib.hid hg0; clear hg3 hg0)
    | (refine step_copy_splice rfl (.tmp 7) (.tmp 10) 23 23 rfl 3 Try.underlying23 (by kernel_rfl) _ _ _ _ _ _ rfl rfl (w.heap.size + 1) k zeros6 61 HG3.out ((sortI L).map (Value.int .i64)) HN.out (fun h => ⟨HKE.out h, copy_src HR3.out h⟩) HFT.out (ints_oneCell _ _) (w.heap.size + 1) w3 (Below.refl _ _) (Nat.le_refl _) ?_; intro w4 hg4 hb4))
  obtain ⟨x0, x1, x2, x3, x4, x5, hX⟩ := six_of (shapeI_length HL.out)
  have hsp : splice zeros6 k ((sortI L).map (Value.int .i64)) = [.int .i64 x0, .int .i64 x1, .int .i64 x2, .int .i64 x3, .int .i64 x4, .int .i64 x5] := by
    rw [HKL.out, splice_zeros HL.out, hX]; rfl
  have hg1 := hg4.out
  rw [hsp] at hg1
  have hg0 : w4.heap[w.heap.size]? = some (.cells zeros6.toArray 61 (0, 0)) := (hb4.block _ (by omega)).trans HG03.out
  have c0 : w4.cell? ⟨w.heap.size + 1, 0, none⟩ = some (.int .i64 x0) := (cell_of_row _ _ 0 _ _ (0, 0) hg1).trans rfl
  have c1 : w4.cell? ⟨w.heap.size + 1, 1, none⟩ = some (.int .i64 x1) := (cell_of_row _ _ 1 _ _ (0, 0) hg1).trans rfl
  have c2 : w4.cell? ⟨w.heap.size + 1, 2, none⟩ = some (.int .i64 x2) := (cell_of_row _ _ 2 _ _ (0, 0) hg1).trans rfl
  have c3 : w4.cell? ⟨w.heap.size + 1, 3, none⟩ = some (.int .i64 x3) := (cell_of_row _ _ 3 _ _ (0, 0) hg1).trans rfl
  have c4 : w4.cell? ⟨w.heap.size + 1, 4, none⟩ = some (.int .i64 x4) := (cell_of_row _ _ 4 _ _ (0, 0) hg1).trans rfl
  have c5 : w4.cell? ⟨w.heap.size + 1, 5, none⟩ = some (.int .i64 x5) := (cell_of_row _ _ 5 _ _ (0, 0) hg1).trans rfl
  have d0 : w4.cell? ⟨w.heap.size, 0, none⟩ = some (.int .i64 0) := (cell_of_row _ _ 0 _ _ (0, 0) hg0).trans rfl
  have d1 : w4.cell? ⟨w.heap.size, 1, none⟩ = some (.int .i64 0) := (cell_of_row _ _ 1 _ _ (0, 0) hg0).trans rfl
  have d2 : w4.cell? ⟨w.heap.size, 2, none⟩ = some (.int .i64 0) := (cell_of_row _ _ 2 _ _ (0, 0) hg0).trans rfl
  have d3 : w4.cell? ⟨w.heap.size, 3, none⟩ = some (.int .i64 0) := (cell_of_row _ _ 3 _ _ (0, 0) hg0).trans rfl
  have d4 : w4.cell? ⟨w.heap.size, 4, none⟩ = some (.int .i64 0) := (cell_of_row _ _ 4 _ _ (0, 0) hg0).trans rfl
  have d5 : w4.cell? ⟨w.heap.size, 5, none⟩ = some (.int .i64 0) := (cell_of_row _ _ 5 _ _ (0, 0) hg0).trans rfl
  have f0 : w4.frozen? ⟨w.heap.size, 0, none⟩ = false := by simp [World.frozen?, hg0]
  have f1 : w4.frozen? ⟨w.heap.size, 1, none⟩ = false := by simp [World.frozen?, hg0]
  have f2 : w4.frozen? ⟨w.heap.size, 2, none⟩ = false := by simp [World.frozen?, hg0]
  have f3 : w4.frozen? ⟨w.heap.size, 3, none⟩ = false := by simp [World.frozen?, hg0]
  have f4 : w4.frozen? ⟨w.heap.size, 4, none⟩ = false := by simp [World.frozen?, hg0]
  have f5 : w4.frozen? ⟨w.heap.size, 5, none⟩ = false := by simp [World.frozen?, hg0]
  have HX : Hid (shV L = .agg #[.int .i64 x0, .int .i64 x1, .int .i64 x2, .int .i64 x3, .int .i64 x4, .int .i64 x5]) := Lib.hid (by rw [shV, hX]; rfl)
  have HB4 : Hid (Below w.heap.size w w4) := Lib.hid ((HB1.out.trans ((((Below.refl w2.heap.size w2).drew.alloc (Nat.le_refl _) (.cells #[.slice A L.length cap] 23)).mono HB1.out.size).trans (HB3.out.mono (by have := HS1.out; simp; omega)))).trans (hb4.mono (by omega)))
  have HG5 := Lib.hid hg0
  clear hg4 hb4 hX hsp hg1 hg0 HG0 HG1 HG03 HG3 HG2 CV CS HR3 HB3 HN HN2 HKE HFT
  generalize (if 6 = k then (⟨w.heap.size + 1, 0, none⟩ : Addr) else ⟨w.heap.size + 1, k, none⟩) = AD
  go_wp2
  refine bodyPost_ret (v := .agg #[.int .i64 x0, .int .i64 x1, .int .i64 x2, .int .i64 x3, .int .i64 x4, .int .i64 x5]) ?_ rfl ?_
  · have hg0 := HG5.out
    exact results_cell_row (P := Try.prog) (fn := Try.f42) (p := 2) (ty := 61) rfl _ _ w.heap.size 61 #[.int .i64 x0, .int .i64 x1, .int .i64 x2, .int .i64 x3, .int .i64 x4, .int .i64 x5] (0, 0) _ rfl
      (by simp [World.setCell, Array.getElem?_modify, hg0, zeros6]) Try.underlying61 rfl (by kernel_rfl)
  · refine ⟨by rw [HX.out], ?_⟩
    exact (((((HB4.out.setCell (p := ⟨w.heap.size, 0, none⟩) (Nat.le_refl _) _).setCell (p := ⟨w.heap.size, 1, none⟩) (Nat.le_refl _) _).setCell (p := ⟨w.heap.size, 2, none⟩) (Nat.le_refl _) _).setCell (p := ⟨w.heap.size, 3, none⟩) (Nat.le_refl _) _).setCell (p := ⟨w.heap.size, 4, none⟩) (Nat.le_refl _) _).setCell (p := ⟨w.heap.size, 5, none⟩) (Nat.le_refl _) _
end Go.Proofs.Ytefbkdjppfofmaa

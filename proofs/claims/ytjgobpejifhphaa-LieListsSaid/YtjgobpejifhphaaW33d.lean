import Derived.Test.YtjgobpejifhphaaW33c
import Derived.Test.YtjgobpejifhphaaClone
/-! The walk of holiday's rank. -/
namespace Go.Proofs.Ytjgobpejifhphaa
open Go.RowKit Go.Deep
set_option linter.unusedVariables false
set_option maxRecDepth 100000

/-- the numbers 0 to n - 1 -/
def iota (n : Nat) : List Int := (List.range n).map fun (k : Nat) => (k : Int)
theorem iota_length (n : Nat) : (iota n).length = n := by simp [iota]
theorem iota_mem {n : Nat} {x : Int} : x ∈ iota n ↔ ∃ a : Nat, x = a ∧ a < n := by
  simp only [iota, List.mem_map, List.mem_range]
  constructor
  · rintro ⟨a, h, rfl⟩; exact ⟨a, rfl, h⟩
  · rintro ⟨a, rfl, h⟩; exact ⟨a, h, rfl⟩
theorem iota_of {n : Nat} {D : List Int} (hl : D.length = n) (h : ∀ j : Nat, j < n → D[j]? = some (j : Int)) : D = iota n := by
  apply List.ext_getElem?
  intro j
  rcases Nat.lt_or_ge j n with hlt | hge
  · rw [h j hlt]; simp [iota, hlt]
  · rw [List.getElem?_eq_none (by omega), List.getElem?_eq_none (by rw [iota_length]; omega)]
/-- the ranking -/
def rkList (C B : List Int) : List Int := isort (ltOf (rkCmp C B)) (iota B.length)
theorem rkList_length (C B : List Int) : (rkList C B).length = B.length := by rw [rkList, isort_length, iota_length]
theorem rkList_mem {C B : List Int} {x : Int} : x ∈ rkList C B ↔ ∃ a : Nat, x = a ∧ a < B.length := by rw [rkList, isort_mem, iota_mem]

/-- a new row that reads as L and has no spare room -/
def NewRowX (w : World) (T : Nat) (L : List Int) (e : Ending) (w' : World) : Prop :=
  ∃ g, e = .returned (.slice (some ⟨g, 0, none⟩) L.length L.length) ∧ w.heap.size ≤ g ∧ OwnP w' g T L ∧ Below w.heap.size w w'

set_option maxRecDepth 100000 in
set_option maxHeartbeats 2000000 in
theorem rankX {w : World} {D : Nat} {A1 A2 : Option Addr} {C B : List Int} {cap1 cap2 : Nat} (hC : Rd w D A1 C) (hB : Rd w D A2 B) (hD : D ≤ w.heap.size)
    (hl : B.length = C.length) (hn : 1 ≤ B.length) (hn2 : B.length ≤ 12) :
    Calls Try.prog 62 #[.slice A1 C.length cap1, .slice A2 B.length cap2] w (NewRowX w 3 (rkList C B)) := by
  have hmk := fun u => run_make_row' (P := Try.prog) 22 3 (.int .i64 0) 8 Try.underlying22 infoInt' rfl .i64 .i64 B.length (by omega) (by omega) u
  have HC := Lib.hid hC
  have HB := Lib.hid hB
  have HD := Lib.hid hD
  have HL := Lib.hid hl
  clear hC hB hD hl
  go_enter Try.func62, Try.ntmps62
  go_wp2
  clear hmk
  have hw2 : ((w.alloc (.cells #[.slice A1 C.length cap1] 22)).alloc (.cells #[.slice A2 B.length cap2] 22)).heap.size = w.heap.size + 2 := by simp
  have hbA : ((w.alloc (.cells #[.slice A1 C.length cap1] 22)).alloc (.cells #[.slice A2 B.length cap2] 22)).cell? ⟨w.heap.size, 0, none⟩ = some (.slice A1 C.length cap1) := by simp
  have hbB : ((w.alloc (.cells #[.slice A1 C.length cap1] 22)).alloc (.cells #[.slice A2 B.length cap2] 22)).cell? ⟨w.heap.size + 1, 0, none⟩ = some (.slice A2 B.length cap2) := by simp
  have hbel : Below w.heap.size w ((w.alloc (.cells #[.slice A1 C.length cap1] 22)).alloc (.cells #[.slice A2 B.length cap2] 22)) := ((Below.refl _ _).alloc (Nat.le_refl _) _).alloc (by simp) _
  generalize (w.alloc (.cells #[.slice A1 C.length cap1] 22)).alloc (.cells #[.slice A2 B.length cap2] 22) = w2 at *
  have hown := Own.made w2 3 B.length
  have hb3 := Below.alloc (B := w2.heap.size) (Below.refl _ w2) (Nat.le_refl _) (.cells (madeCells #[Value.int .i64 0] B.length) 3)
  rw [hw2] at hown hb3
  generalize w2.alloc (.cells (madeCells #[Value.int .i64 0] B.length) 3) = w3 at *
  have HW2 := Lib.hid hw2
  have HBA := Lib.hid hbA
  have HBB := Lib.hid hbB
  have HBEL := Lib.hid hbel
  have HOWN := Lib.hid hown
  have HB3 := Lib.hid hb3
  clear hw2 hbA hbB hbel hown hb3
  go_loopw [12] (fun i wr => ∃ (k : Nat) (L : List Int), k ≤ B.length ∧ i = .int .i64 k ∧ Hid (L.length = B.length) ∧ Hid (∀ j : Nat, j < k → L[j]? = some (j : Int)) ∧ Hid (Own wr (w.heap.size + 2) 3 L) ∧ Hid (Below (w.heap.size + 2) w2 wr)) (fun i _ => B.length - (intOf i).toNat)
  case atStart => exact ⟨0, _, by omega, rfl, Lib.hid (by simp), Lib.hid (by omega), HOWN, HB3⟩
  case round =>
    obtain ⟨k, L, hk, rfl, hLl, hLv, hO, hBw⟩ := hrel
    by_cases hlt : k < B.length
    · obtain ⟨y, hy⟩ : ∃ y, L[k]? = some y := ⟨L[k]'(by rw [hLl.out]; exact hlt), by simp⟩
      have c1 := hO.out.cell hy
      have f1 := hO.out.frozen k
      have hO' := Lib.hid (hO.out.store k (k : Int))
      have hB' := Lib.hid (hBw.out.setCell (p := ⟨w.heap.size + 2, k, none⟩) (Nat.le_refl _) (.int .i64 (k : Int)))
      have hLv' : Hid (∀ j : Nat, j < k + 1 → (L.set k (k : Int))[j]? = some (j : Int)) := Lib.hid (by
        intro j hj
        by_cases e : j = k
        · subst e; rw [List.getElem?_set_self (by rw [hLl.out]; exact hlt)]
        · rw [List.getElem?_set_ne (by omega)]; exact hLv.out j (by omega))
      have hLl' : Hid ((L.set k (k : Int)).length = B.length) := Lib.hid (by simp [hLl.out])
      clear hy
      go_wp2
      go_roundw
      case rel => exact ⟨k + 1, _, by omega, by go_num, hLl', hLv', hO', hB'⟩
      case measure => simp [intOf]; omega
    · have hL : L = iota B.length := iota_of hLl.out (fun j hj => hLv.out j (by omega))
      have hO' : Own wr (w.heap.size + 2) 3 (iota B.length) := hL ▸ hO.out
      have hbw := HBEL.out.trans (hBw.out.mono (by omega))
      have hcm : Cmps wr (w.heap.size + 2) 89 #[.pointer (some ⟨w.heap.size + 1, 0, none⟩), .pointer (some ⟨w.heap.size, 0, none⟩)] (rkCmp C B) (fun x => ∃ a : Nat, x = a ∧ a < B.length) := by
        intro u hu a b ⟨a', ha, ha'⟩ ⟨b', hb, hb'⟩
        subst ha
        subst hb
        have hu2 := hBw.out.trans hu
        have hD := HD.out
        exact rank1 (D := w.heap.size + 2) (cap1 := cap2) (cap2 := cap1)
          (((bcell hu2).1 (w.heap.size + 1) 0 (by omega)).trans HBB.out)
          (((bcell hu2).1 w.heap.size 0 (by omega)).trans HBA.out)
          (((HB.out.below HBEL.out hD).more (by omega)).below hu2 (Nat.le_refl _)) (((HC.out.below HBEL.out hD).more (by omega)).below hu2 (Nat.le_refl _)) ha' hb' HL.out
      have CS := sortStable (cap := B.length) (D0 := iota B.length) (fun args u => by kernel_rfl) hcm (fun x hx => iota_mem.1 hx) hO' (by rw [iota_length]; exact hn) (by rw [iota_length]; exact hn2)
      rw [iota_length] at CS
      have HCS := Lib.hid CS
      have HBW := Lib.hid hbw
      clear CS hcm hO' hL hbw
      go_wp2_with (go_at_call 56; refine HCS.out.mono ?_; rintro e w5 ⟨rfl, hO5, hB5⟩)
      go_ret
      exact ⟨w.heap.size + 2, by rw [rkList_length]; rfl, by omega, hO5.pre, HBW.out.trans (hB5.mono (by omega))⟩
theorem rank {w : World} {D : Nat} {A1 A2 : Option Addr} {C B : List Int} {cap1 cap2 : Nat} (hC : Rd w D A1 C) (hB : Rd w D A2 B) (hD : D ≤ w.heap.size)
    (hl : B.length = C.length) (hn : 1 ≤ B.length) (hn2 : B.length ≤ 12) :
    Calls Try.prog 62 #[.slice A1 C.length cap1, .slice A2 B.length cap2] w (NewRow w 3 (rkList C B)) :=
  (rankX hC hB hD hl hn hn2).mono fun _ _ ⟨g, h1, h2, h3, h4⟩ => ⟨g, _, h1, h2, h3, h4⟩
end Go.Proofs.Ytjgobpejifhphaa

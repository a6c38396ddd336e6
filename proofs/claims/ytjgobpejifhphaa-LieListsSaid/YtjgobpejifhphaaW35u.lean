import Derived.Test.YtjgobpejifhphaaW35t
import Derived.Test.YtjgobpejifhphaaRange
import Derived.Test.YtjgobpejifhphaaRev
/-! Walks of chapter 35: all rankings, one after another.
-/
namespace Go.Proofs.Ytjgobpejifhphaa
open Go.RowKit Go.Deep Go.Sort
set_option linter.unusedVariables false
set_option maxRecDepth 100000

theorem rev_length (L : List Int) (i : Nat) : (revFrom L i).length = L.length := by simp [revFrom]; omega
theorem own_putRow {w : World} {g T n off : Nat} {L : List Int} (h : Own w g T L) (ho : off ≤ L.length) :
    Own (putRow (Value.int .i64) (Sort.ahead w n) g off (L.drop off).reverse.toArray) g T (revFrom L off) := by
  have e : (putRow (Value.int .i64) (Sort.ahead w n) g off (L.drop off).reverse.toArray).heap[g]? = some (.cells (putCells (Value.int .i64) off (L.drop off).reverse.toArray (L.map (Value.int .i64)).toArray) T (0, 0)) := by
    have h' : w.heap[g]? = some (.cells (L.map (Value.int .i64)).toArray T (0, 0)) := h
    simp [putRow, mapBlock, Sort.ahead, Array.getElem?_modify, h', onCells]
  rw [Own, e]
  congr 2
  apply Array.ext
  · simp [putCells, rev_length]
  · intro i h1 h2
    have hi : i < L.length := by simpa [putCells] using h1
    simp only [putCells, Array.getElem_mapIdx, List.size_toArray, List.length_reverse, List.length_drop, List.getElem_toArray, List.getElem_map]
    by_cases hio : off ≤ i
    · rw [if_pos ⟨hio, by omega⟩]
      congr 1
      simp only [revFrom]
      rw [List.getElem_append_right (by simp; omega)]
      rw [getElem!_pos _ _ (by simp; omega)]
      simp
      congr 1
      omega
    · rw [if_neg (by omega)]
      congr 1
      simp only [revFrom]
      rw [List.getElem_append_left (by simp; omega), List.getElem_take]
theorem grown_putRow {w : World} {g n off : Nat} {d : Array Int} : w.grownBy (putRow (Value.int .i64) (Sort.ahead w n) g off d) (some g) := by
  refine ⟨rfl, rfl, rfl, by simp, fun k hk hne => ?_⟩
  have : g ≠ k := fun e => hne (by rw [e])
  simp [putRow, mapBlock, Sort.ahead, Array.getElem?_modify, this]
theorem own_holds {w : World} {g T off : Nat} {L : List Int} (h : Own w g T L) : Holds (Value.int .i64) w g off (L.drop off).toArray := by
  intro j hj
  have hj' : off + j < L.length := by simp at hj; omega
  refine ⟨?_, h.frozen _⟩
  rw [h.cell (i := off + j) (x := L[off + j]) (by simp [hj'])]
  simp [hj']
theorem grown_alloc (w : World) (o : Obj) (r : Option Nat) : w.grownBy (w.alloc o) r := ⟨rfl, rfl, rfl, by simp, fun k hk _ => Below.heap_alloc w o k hk⟩
theorem grown_set (w : World) (g i : Nat) (v : Value) : w.grownBy (w.setCell ⟨g, i, none⟩ v) (some g) := ⟨rfl, rfl, rfl, by simp [World.setCell], fun k hk hne => Below.heap_setCell w ⟨g, i, none⟩ v k (fun e => hne (by rw [e]))⟩
theorem grown_drew (w : World) (n : Nat) (r : Option Nat) : w.grownBy (w.drewN n) r := ⟨rfl, rfl, rfl, Nat.le_refl _, fun _ _ _ => rfl⟩
/-- how many rankings are still to come -/
def lenFrom : Nat → List Int → Nat
  | 0, _ => 0
  | f + 1, x => match nextL x with | some y => lenFrom f y + 1 | none => 0
theorem lenFrom_at {RK : List (List Int)} (hp : pathB RK = true) : ∀ (f k : Nat) (x : List Int), RK[k]? = some x → RK.length - 1 - k ≤ f → lenFrom f x = RK.length - 1 - k
  | 0, k, x, hx, hf => by rw [lenFrom]; omega
  | f + 1, k, x, hx, hf => by
    have hk := (List.getElem?_eq_some_iff.1 hx).1
    have hn := path_at hp hx
    rw [lenFrom, hn]
    by_cases h : k + 1 < RK.length
    · rw [List.getElem?_eq_getElem h]
      simp only
      rw [lenFrom_at hp f (k + 1) _ (List.getElem?_eq_getElem h) (by omega)]
      omega
    · rw [List.getElem?_eq_none (by omega)]
      simp only
      omega
theorem own_inj {w : World} {g T : Nat} {L M : List Int} (h : Own w g T L) (h' : Own w g T M) : L = M := by
  rw [Own] at h h'
  rw [h] at h'
  have : L.map (Value.int .i64) = M.map (Value.int .i64) := by
    simpa using h'
  exact (List.map_inj_right (fun a b hab => by cases hab; rfl)).1 this
open Classical in
noncomputable def leftIn (f g T : Nat) (w : World) : Nat := if h : ∃ x, Own w g T x then lenFrom f h.choose + 1 else 0
theorem leftIn_eq {f g T : Nat} {w : World} {x : List Int} (h : Own w g T x) : leftIn f g T w = lenFrom f x + 1 := by
  have he : ∃ x, Own w g T x := ⟨x, h⟩
  rw [leftIn, dif_pos he, own_inj he.choose_spec h]
end Go.Proofs.Ytjgobpejifhphaa

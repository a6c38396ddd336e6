import Derived.Test.YtdkcpnmaglkmnaaProg
import Derived.WalkKit
import Derived.WalkLawsBesides
import Derived.WalkSpells
import Derived.ProofKit
import Derived.Below
import Derived.OneCell
import Derived.Laws.OwnMore
import Derived.Laws.NewBlocks
import Derived.BigQuiet
import Derived.Deep.QuietTactic
import Derived.Deep.RegionHeld3
import Derived.Lib.Hide
import Derived.Deep.OwnRows
import Derived.Outline
/-! Small lemmas on worlds, integers and lists that all walks of this claim use. No statement about the program. -/
namespace Go.Proofs.Ytdkcpnmaglkmnaa
open Go.RowKit
set_option linter.unusedVariables false

/-- an integer that fits int -/
def I64 (x : Int) : Prop := -9223372036854775808 ≤ x ∧ x ≤ 9223372036854775807
theorem I64.wf {x : Int} (h : I64 x) : (Lit.int .i64 x).wf = true := WalkArith.wf_i64 ⟨h.1, h.2⟩

/-- the slice with address A reads as the list L (of as many elements as it is long) in memory below block B -/
def Rd (w : World) (B : Nat) (A : Option Addr) (L : List Int) : Prop :=
  (∀ x ∈ L, I64 x) ∧ L.length * 8 ≤ 140737488351232 ∧
  (0 < L.length → ∃ b off, A = some ⟨b, off, none⟩ ∧ b < B ∧ ∀ i x, L[i]? = some x → w.cell? ⟨b, off + i, none⟩ = some (.int .i64 x))

theorem Rd.nil (w : World) (B : Nat) (A : Option Addr) : Rd w B A [] := ⟨by simp, by simp, fun h => absurd h (by simp)⟩
theorem Rd.len {w B A} {L : List Int} (h : Rd w B A L) : L.length * 8 ≤ 140737488351232 := h.2.1
theorem Rd.at_ {w B A} {L : List Int} (h : Rd w B A L) {k : Nat} (hk : k < L.length) :
    ∃ b off x, A = some ⟨b, off, none⟩ ∧ b < B ∧ L[k]? = some x ∧ I64 x ∧ w.cell? ⟨b, off + k, none⟩ = some (.int .i64 x) := by
  obtain ⟨b, off, e, hb, hc⟩ := h.2.2 (by omega)
  refine ⟨b, off, L[k], e, hb, by simp [hk], h.1 _ (List.getElem_mem hk), hc k _ (by simp [hk])⟩
theorem Rd.below {w w' : World} {B A} {L : List Int} (h : Rd w B A L) {C : Nat} (hb : Below C w w') (hC : B ≤ C) : Rd w' B A L :=
  ⟨h.1, h.2.1, fun hn => by
    obtain ⟨b, off, e, hb', hc⟩ := h.2.2 hn
    exact ⟨b, off, e, hb', fun i x hx => (hb.cell (p := ⟨b, off + i, none⟩) (by show b < C; omega)).trans (hc i x hx)⟩⟩
theorem Rd.more {w : World} {B C A} {L : List Int} (h : Rd w B A L) (hC : B ≤ C) : Rd w C A L :=
  ⟨h.1, h.2.1, fun hn => by
    obtain ⟨b, off, e, hb', hc⟩ := h.2.2 hn
    exact ⟨b, off, e, by omega, hc⟩⟩

theorem drop_of {L : List Int} {k : Nat} {x : Int} (h : L[k]? = some x) : L.drop k = x :: L.drop (k + 1) := by
  obtain ⟨hk, e⟩ := List.getElem?_eq_some_iff.1 h
  rw [List.drop_eq_getElem_cons hk, e]
theorem drop_end {α : Type} {L : List α} {k : Nat} (h : L.length ≤ k) : L.drop k = [] := List.drop_of_length_le h

/-- every old cell and mark reads as before -/
theorem bcell {W w1 : World} {B : Nat} (hb : Below B W w1) : (∀ b o, b < B → w1.cell? ⟨b, o, none⟩ = W.cell? ⟨b, o, none⟩) ∧ (∀ b o, b < B → w1.frozen? ⟨b, o, none⟩ = W.frozen? ⟨b, o, none⟩) :=
  ⟨fun b o h => hb.cell (p := ⟨b, o, none⟩) h, fun b o h => hb.frozen (p := ⟨b, o, none⟩) h⟩
theorem ret_int {k : IntKind} {a b : Int} (h : a = b) : Ending.returned (.int k a) = .returned (.int k b) := by rw [h]
theorem ret_bool {a b : Bool} (h : a = b) : Ending.returned (.bool a) = .returned (.bool b) := by rw [h]

theorem int_of {k : IntKind} {a b : Int} (h : a = b) : Value.int k a = .int k b := by rw [h]

/-- block g is just the integers L (of the element type T), none frozen -/
def Own (w : World) (g T : Nat) (L : List Int) : Prop := w.heap[g]? = some (.cells (L.map (Value.int .i64)).toArray T (0, 0))
section
variable {w w' : World} {g T : Nat} {L : List Int}
theorem Own.lt (h : Own w g T L) : g < w.heap.size := by
  rcases Nat.lt_or_ge g w.heap.size with hlt | hge
  · exact hlt
  · unfold Own at h; rw [Array.getElem?_eq_none hge] at h; cases h
theorem Own.cell (h : Own w g T L) {i : Nat} {x : Int} (hx : L[i]? = some x) : w.cell? ⟨g, i, none⟩ = some (.int .i64 x) := by
  rw [cell_of_row w g i _ T (0, 0) h]; simp [hx]
theorem Own.frozen (h : Own w g T L) (i : Nat) : w.frozen? ⟨g, i, none⟩ = false := by
  unfold Own at h
  simp [World.frozen?, h]
theorem Own.drew (h : Own w g T L) : Own w.drew g T L := h
theorem Own.drewN (h : Own w g T L) (n : Nat) : Own (w.drewN n) g T L := h
theorem Own.alloc (h : Own w g T L) (o : Obj) : Own (w.alloc o) g T L := (Below.heap_alloc w o g h.lt).trans h
theorem Own.store (h : Own w g T L) (i : Nat) (x : Int) : Own (w.setCell ⟨g, i, none⟩ (.int .i64 x)) g T (L.set i x) := by
  unfold Own at h ⊢
  simp [World.setCell, Array.getElem?_modify, h, List.map_set]
theorem Own.far (h : Own w g T L) {p : Addr} (hp : g ≠ p.block) (u : Value) : Own (w.setCell p u) g T L := (Below.heap_setCell w p u g hp).trans h
theorem Own.below {B : Nat} (h : Own w g T L) (hb : Below B w w') (hg : g < B) : Own w' g T L := (hb.block g hg).trans h
theorem Own.grown {row : Option Nat} (h : Own w g T L) (hb : w.grownBy w' row) (hg : some g ≠ row) : Own w' g T L := (hb.block g h.lt hg).trans h
theorem Own.rd (h : Own w g T L) (hi : ∀ x ∈ L, I64 x) (hl : L.length * 8 ≤ 140737488351232) {B : Nat} (hg : g < B) : Rd w B (some ⟨g, 0, none⟩) L :=
  ⟨hi, hl, fun _ => ⟨g, 0, rfl, hg, fun i x hx => by rw [Nat.zero_add]; exact h.cell hx⟩⟩
theorem madeCells_ints (n : Nat) : madeCells #[Value.int .i64 0] n = ((List.replicate n (0 : Int)).map (Value.int .i64)).toArray := by
  apply Array.ext
  · simp [madeCells]
  · intro i h1 h2
    simp [madeCells]
    have : i % 1 = 0 := Nat.mod_one i
    simp [this]
theorem Own.made (w : World) (T n : Nat) : Own (w.alloc (.cells (madeCells #[Value.int .i64 0] n) T)) w.heap.size T (List.replicate n 0) := by
  rw [madeCells_ints]
  exact heap_alloc_new w _
end
end Go.Proofs.Ytdkcpnmaglkmnaa

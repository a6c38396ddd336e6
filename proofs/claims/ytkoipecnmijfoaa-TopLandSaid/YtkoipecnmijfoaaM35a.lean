import Derived.Test.YtkoipecnmijfoaaProg
import Derived.WalkKit
import Derived.WalkLawsBesides
import Derived.WalkSpells
import Derived.ProofKit
import Derived.Below
import Derived.OneCell
import Derived.Laws.OwnMore
import Derived.Laws.NewBlocks
import Derived.BigQuiet
import Derived.Deep.QuietTactic
import Derived.Deep.RegionHeld3
import Derived.Lib.Hide
import Derived.Deep.OwnRows
import Derived.Outline
import Derived.StillTailTactics
import Derived.BigRegion
import Derived.Deep.AppendLies
import Derived.Maps.AppendAt
import Derived.Deep.Slices
import Derived.Laws.AppendOwnNone
/-! Texts that were built one by one, in one file. -/
-- holds: Base Base2 Base3 Clone S33a W33a W33b W33c W33d S33r S33j S33l W34b W33e W33f S33b S33c W33g W33h

section
/-! Small lemmas on worlds, integers and lists that all walks of this claim use. No statement about the program. -/
namespace Go.Proofs.Ytkoipecnmijfoaa
open Go.RowKit
set_option linter.unusedVariables false

/-- an integer that fits int -/
def I64 (x : Int) : Prop := -9223372036854775808 ≤ x ∧ x ≤ 9223372036854775807
theorem I64.wf {x : Int} (h : I64 x) : (Lit.int .i64 x).wf = true := WalkArith.wf_i64 ⟨h.1, h.2⟩

/-- the slice with address A reads as the list L (of as many elements as it is long) in memory below block B -/
def Rd (w : World) (B : Nat) (A : Option Addr) (L : List Int) : Prop :=
  (∀ x ∈ L, I64 x) ∧ L.length * 8 ≤ 140737488351232 ∧
  (0 < L.length → ∃ b off, A = some ⟨b, off, none⟩ ∧ b < B ∧ ∀ i x, L[i]? = some x → w.cell? ⟨b, off + i, none⟩ = some (.int .i64 x))

theorem Rd.nil (w : World) (B : Nat) (A : Option Addr) : Rd w B A [] := ⟨by simp, by simp, fun h => absurd h (by simp)⟩
theorem Rd.len {w B A} {L : List Int} (h : Rd w B A L) : L.length * 8 ≤ 140737488351232 := h.2.1
theorem Rd.at_ {w B A} {L : List Int} (h : Rd w B A L) {k : Nat} (hk : k < L.length) :
    ∃ b off x, A = some ⟨b, off, none⟩ ∧ b < B ∧ L[k]? = some x ∧ I64 x ∧ w.cell? ⟨b, off + k, none⟩ = some (.int .i64 x) := by
  obtain ⟨b, off, e, hb, hc⟩ := h.2.2 (by omega)
  refine ⟨b, off, L[k], e, hb, by simp [hk], h.1 _ (List.getElem_mem hk), hc k _ (by simp [hk])⟩
theorem Rd.below {w w' : World} {B A} {L : List Int} (h : Rd w B A L) {C : Nat} (hb : Below C w w') (hC : B ≤ C) : Rd w' B A L :=
  ⟨h.1, h.2.1, fun hn => by
    obtain ⟨b, off, e, hb', hc⟩ := h.2.2 hn
    exact ⟨b, off, e, hb', fun i x hx => (hb.cell (p := ⟨b, off + i, none⟩) (by show b < C; omega)).trans (hc i x hx)⟩⟩
theorem Rd.more {w : World} {B C A} {L : List Int} (h : Rd w B A L) (hC : B ≤ C) : Rd w C A L :=
  ⟨h.1, h.2.1, fun hn => by
    obtain ⟨b, off, e, hb', hc⟩ := h.2.2 hn
    exact ⟨b, off, e, by omega, hc⟩⟩

theorem drop_of {L : List Int} {k : Nat} {x : Int} (h : L[k]? = some x) : L.drop k = x :: L.drop (k + 1) := by
  obtain ⟨hk, e⟩ := List.getElem?_eq_some_iff.1 h
  rw [List.drop_eq_getElem_cons hk, e]
theorem drop_end {α : Type} {L : List α} {k : Nat} (h : L.length ≤ k) : L.drop k = [] := List.drop_of_length_le h

/-- every old cell and mark reads as before -/
theorem bcell {W w1 : World} {B : Nat} (hb : Below B W w1) : (∀ b o, b < B → w1.cell? ⟨b, o, none⟩ = W.cell? ⟨b, o, none⟩) ∧ (∀ b o, b < B → w1.frozen? ⟨b, o, none⟩ = W.frozen? ⟨b, o, none⟩) :=
  ⟨fun b o h => hb.cell (p := ⟨b, o, none⟩) h, fun b o h => hb.frozen (p := ⟨b, o, none⟩) h⟩
theorem ret_int {k : IntKind} {a b : Int} (h : a = b) : Ending.returned (.int k a) = .returned (.int k b) := by rw [h]
theorem ret_bool {a b : Bool} (h : a = b) : Ending.returned (.bool a) = .returned (.bool b) := by rw [h]

theorem int_of {k : IntKind} {a b : Int} (h : a = b) : Value.int k a = .int k b := by rw [h]

/-- block g is just the integers L (of the element type T), none frozen -/
def Own (w : World) (g T : Nat) (L : List Int) : Prop := w.heap[g]? = some (.cells (L.map (Value.int .i64)).toArray T (0, 0))
section
variable {w w' : World} {g T : Nat} {L : List Int}
theorem Own.lt (h : Own w g T L) : g < w.heap.size := by
  rcases Nat.lt_or_ge g w.heap.size with hlt | hge
  · exact hlt
  · unfold Own at h; rw [Array.getElem?_eq_none hge] at h; cases h
theorem Own.cell (h : Own w g T L) {i : Nat} {x : Int} (hx : L[i]? = some x) : w.cell? ⟨g, i, none⟩ = some (.int .i64 x) := by
  rw [cell_of_row w g i _ T (0, 0) h]; simp [hx]
theorem Own.frozen (h : Own w g T L) (i : Nat) : w.frozen? ⟨g, i, none⟩ = false := by
  unfold Own at h
  simp [World.frozen?, h]
theorem Own.drew (h : Own w g T L) : Own w.drew g T L := h
theorem Own.drewN (h : Own w g T L) (n : Nat) : Own (w.drewN n) g T L := h
theorem Own.alloc (h : Own w g T L) (o : Obj) : Own (w.alloc o) g T L := (Below.heap_alloc w o g h.lt).trans h
theorem Own.store (h : Own w g T L) (i : Nat) (x : Int) : Own (w.setCell ⟨g, i, none⟩ (.int .i64 x)) g T (L.set i x) := by
  unfold Own at h ⊢
  simp [World.setCell, Array.getElem?_modify, h, List.map_set]
theorem Own.far (h : Own w g T L) {p : Addr} (hp : g ≠ p.block) (u : Value) : Own (w.setCell p u) g T L := (Below.heap_setCell w p u g hp).trans h
theorem Own.below {B : Nat} (h : Own w g T L) (hb : Below B w w') (hg : g < B) : Own w' g T L := (hb.block g hg).trans h
theorem Own.grown {row : Option Nat} (h : Own w g T L) (hb : w.grownBy w' row) (hg : some g ≠ row) : Own w' g T L := (hb.block g h.lt hg).trans h
theorem Own.rd (h : Own w g T L) (hi : ∀ x ∈ L, I64 x) (hl : L.length * 8 ≤ 140737488351232) {B : Nat} (hg : g < B) : Rd w B (some ⟨g, 0, none⟩) L :=
  ⟨hi, hl, fun _ => ⟨g, 0, rfl, hg, fun i x hx => by rw [Nat.zero_add]; exact h.cell hx⟩⟩
theorem madeCells_ints (n : Nat) : madeCells #[Value.int .i64 0] n = ((List.replicate n (0 : Int)).map (Value.int .i64)).toArray := by
  apply Array.ext
  · simp [madeCells]
  · intro i h1 h2
    simp [madeCells]
    have : i % 1 = 0 := Nat.mod_one i
    simp [this]
theorem Own.made (w : World) (T n : Nat) : Own (w.alloc (.cells (madeCells #[Value.int .i64 0] n) T)) w.heap.size T (List.replicate n 0) := by
  rw [madeCells_ints]
  exact heap_alloc_new w _
end
end Go.Proofs.Ytkoipecnmijfoaa
end

section
/-! More small lemmas on worlds: rows with spare room, and append. No statement about the program. -/
namespace Go.Proofs.Ytkoipecnmijfoaa
open Go.RowKit
set_option linter.unusedVariables false

/-- block g (of the element type T, none of its cells frozen) begins with the integers L -/
def OwnP (w : World) (g T : Nat) (L : List Int) : Prop := ∃ cs, w.heap[g]? = some (.cells cs T (0, 0)) ∧ ∀ (i : Nat) (x : Int), L[i]? = some x → cs[i]? = some (.int .i64 x)
section
variable {w w' : World} {g T : Nat} {L : List Int}
theorem Own.pre (h : Own w g T L) : OwnP w g T L := ⟨_, h, fun i x hx => by simp [hx]⟩
theorem OwnP.lt (h : OwnP w g T L) : g < w.heap.size := by
  obtain ⟨cs, h, _⟩ := h
  rcases Nat.lt_or_ge g w.heap.size with hlt | hge
  · exact hlt
  · rw [Array.getElem?_eq_none hge] at h; cases h
theorem OwnP.cell (h : OwnP w g T L) {i : Nat} {x : Int} (hx : L[i]? = some x) : w.cell? ⟨g, i, none⟩ = some (.int .i64 x) := by
  obtain ⟨cs, h, hc⟩ := h
  rw [cell_of_row w g i _ T (0, 0) h]; exact hc i x hx
theorem OwnP.frozen (h : OwnP w g T L) (i : Nat) : w.frozen? ⟨g, i, none⟩ = false := by
  obtain ⟨cs, h, hc⟩ := h
  simp [World.frozen?, h]
theorem OwnP.drew (h : OwnP w g T L) : OwnP w.drew g T L := h
theorem OwnP.drewN (h : OwnP w g T L) (n : Nat) : OwnP (w.drewN n) g T L := h
theorem OwnP.alloc (h : OwnP w g T L) (o : Obj) : OwnP (w.alloc o) g T L := by
  have hl := h.lt
  obtain ⟨cs, h, hc⟩ := h
  exact ⟨cs, (Below.heap_alloc w o g hl).trans h, hc⟩
theorem OwnP.store (h : OwnP w g T L) (i : Nat) (x : Int) : OwnP (w.setCell ⟨g, i, none⟩ (.int .i64 x)) g T (L.set i x) := by
  obtain ⟨cs, h, hc⟩ := h
  refine ⟨cs.setIfInBounds i (.int .i64 x), by simp [World.setCell, Array.getElem?_modify, h], ?_⟩
  intro j y hy
  by_cases hj : j = i
  · subst hj
    have hjl : j < L.length := by
      have := (List.getElem?_eq_some_iff.1 hy).1
      simpa using this
    rw [List.getElem?_set_self hjl] at hy
    cases hy
    have h1 := hc j L[j] (by simp [hjl])
    have h2 : j < cs.size := by
      rcases Nat.lt_or_ge j cs.size with h3 | h3
      · exact h3
      · rw [Array.getElem?_eq_none h3] at h1; cases h1
    simp [h2]
  · rw [List.getElem?_set_ne (by omega)] at hy
    rw [Array.getElem?_setIfInBounds_ne (by omega)]
    exact hc j y hy
theorem OwnP.far (h : OwnP w g T L) {p : Addr} (hp : g ≠ p.block) (u : Value) : OwnP (w.setCell p u) g T L := by
  obtain ⟨cs, h, hc⟩ := h
  exact ⟨cs, (Below.heap_setCell w p u g hp).trans h, hc⟩
theorem OwnP.below {B : Nat} (h : OwnP w g T L) (hb : Below B w w') (hg : g < B) : OwnP w' g T L := by
  obtain ⟨cs, h, hc⟩ := h
  exact ⟨cs, (hb.block g hg).trans h, hc⟩
theorem OwnP.rd (h : OwnP w g T L) (hi : ∀ x ∈ L, I64 x) (hl : L.length * 8 ≤ 140737488351232) {B : Nat} (hg : g < B) : Rd w B (some ⟨g, 0, none⟩) L :=
  ⟨hi, hl, fun _ => ⟨g, 0, rfl, hg, fun i x hx => by rw [Nat.zero_add]; exact h.cell hx⟩⟩
theorem OwnP.take (h : OwnP w g T L) (n : Nat) : OwnP w g T (L.take n) := by
  obtain ⟨cs, h, hc⟩ := h
  refine ⟨cs, h, fun i x hx => hc i x ?_⟩
  rw [List.getElem?_take] at hx
  split at hx
  · exact hx
  · cases hx
end

/-- an empty literal owns nothing -/
theorem own_empty (w : World) (T : Nat) : (w.alloc (.cells #[] T)).ownsRow w.heap.size T 1 (.slice (some ⟨w.heap.size, 0, none⟩) 0 0) 0 [] :=
  ⟨rfl, .inr ⟨w.heap.size, 0, #[], rfl, Nat.le_refl _, heap_alloc_new w _, Nat.le_refl _, Nat.zero_le _, rfl, rfl⟩⟩
/-- what a row that append has left is good for -/
theorem ownP_of_row {w : World} {base T : Nat} {v : Value} {L : List Int} (h : w.ownsRow base T 1 v L.length (L.map (Value.int .i64))) (hn : 0 < L.length) :
    ∃ g cap, v = .slice (some ⟨g, 0, none⟩) L.length cap ∧ base ≤ g ∧ OwnP w g T L := by
  rcases h.2 with ⟨_, h0⟩ | ⟨g, cap, cur, rfl, hb, hh, hnc, hcm, hcs, htake⟩
  · omega
  · refine ⟨g, cap, rfl, hb, cur, hh, ?_⟩
    intro i x hx
    have h1 : (L.map (Value.int .i64))[i]? = some (.int .i64 x) := by simp [hx]
    rw [← htake, List.getElem?_take] at h1
    split at h1
    · simpa using h1
    · cases h1
theorem addr_add (b off i : Nat) : (⟨b, off, none⟩ : Addr).add i = ⟨b, off + i, none⟩ := by
  unfold Addr.add; split <;> simp_all
theorem cells_ints {w : World} {b off : Nat} {L : List Int} (h : ∀ (i : Nat) (x : Int), L[i]? = some x → w.cell? ⟨b, off + i, none⟩ = some (.int .i64 x)) :
    ∀ (j : Nat) (u : Value), (L.map (Value.int .i64))[j]? = some u → w.cell? ((⟨b, off, none⟩ : Addr).add j) = some u := by
  intro j u hu
  rw [addr_add]
  rw [List.getElem?_map] at hu
  cases hx : L[j]? with
  | none => rw [hx] at hu; cases hu
  | some x => rw [hx] at hu; cases hu; exact h j x hx
theorem own_row_nil (w : World) (base T : Nat) : w.ownsRow base T 1 (.slice none 0 0) 0 [] := World.ownsRow_nil _ _ _ _
end Go.Proofs.Ytkoipecnmijfoaa
end

section
/-! Slices of other elements than integers that came in. No statement about the program. -/
namespace Go.Proofs.Ytkoipecnmijfoaa
open Go.RowKit
set_option linter.unusedVariables false

/-- a slice (elements of sz cells, so many bytes each) at address A, below block B, reads as the list L; E says how an element reads from the address of its first cell -/
def RdOf {α : Type} (sz bytes : Nat) (E : World → Nat → Nat → Nat → α → Prop) (w : World) (B : Nat) (A : Option Addr) (L : List α) : Prop :=
  L.length * bytes ≤ 140737488351232 ∧ (0 < L.length → ∃ b off, A = some ⟨b, off, none⟩ ∧ b < B ∧ ∀ i x, L[i]? = some x → E w B b (off + i * sz) x)
/-- an element of a slice of slices of integers -/
def EInts (w : World) (B b o : Nat) (L : List Int) : Prop := ∃ A c, w.cell? ⟨b, o, none⟩ = some (.slice A L.length c) ∧ Rd w B A L
/-- a slice of slices of integers -/
def Rd2 (w : World) (B : Nat) (A : Option Addr) (L : List (List Int)) : Prop := RdOf 1 24 EInts w B A L
/-- what the elements of a slice of slices of bools read as -/
def RdB (w : World) (B : Nat) (A : Option Addr) (L : List Bool) : Prop :=
  RdOf 1 1 (fun w B b o x => w.cell? ⟨b, o, none⟩ = some (.bool x)) w B A L
def EBools (w : World) (B b o : Nat) (L : List Bool) : Prop := ∃ A c, w.cell? ⟨b, o, none⟩ = some (.slice A L.length c) ∧ RdB w B A L
def RdB2 (w : World) (B : Nat) (A : Option Addr) (L : List (List Bool)) : Prop := RdOf 1 24 EBools w B A L
/-- an element of a slice of holidays: the places, the bids -/
def EHol (w : World) (B b o : Nat) (h : Int × List Int) : Prop :=
  I64 h.1 ∧ w.cell? ⟨b, o, none⟩ = some (.int .i64 h.1) ∧ ∃ A c, w.cell? ⟨b, o + 1, none⟩ = some (.slice A h.2.length c) ∧ Rd w B A h.2
def RdH (w : World) (B : Nat) (A : Option Addr) (L : List (Int × List Int)) : Prop := RdOf 2 32 EHol w B A L

section
variable {α : Type} {sz bytes : Nat} {E : World → Nat → Nat → Nat → α → Prop} {w w' : World} {B C : Nat} {A : Option Addr} {L : List α}
theorem RdOf.nil (w : World) (B : Nat) (A : Option Addr) : RdOf sz bytes E w B A ([] : List α) := ⟨by simp, fun h => absurd h (by simp)⟩
theorem RdOf.len (h : RdOf sz bytes E w B A L) : L.length * bytes ≤ 140737488351232 := h.1
theorem RdOf.at_ (h : RdOf sz bytes E w B A L) {k : Nat} (hk : k < L.length) : ∃ b off x, A = some ⟨b, off, none⟩ ∧ b < B ∧ L[k]? = some x ∧ E w B b (off + k * sz) x := by
  obtain ⟨b, off, e, hb, hc⟩ := h.2 (by omega)
  exact ⟨b, off, L[k], e, hb, by simp [hk], hc k _ (by simp [hk])⟩
theorem RdOf.imp (h : RdOf sz bytes E w B A L) (hC : B ≤ C) (hE : ∀ b o x, b < B → E w B b o x → E w' C b o x) : RdOf sz bytes E w' C A L :=
  ⟨h.1, fun hn => by
    obtain ⟨b, off, e, hb, hc⟩ := h.2 hn
    exact ⟨b, off, e, by omega, fun i x hx => hE _ _ _ hb (hc i x hx)⟩⟩
end
theorem cell_below {w w' : World} {C : Nat} (hb : Below C w w') {b o : Nat} (h : b < C) : w'.cell? ⟨b, o, none⟩ = w.cell? ⟨b, o, none⟩ := hb.cell (p := ⟨b, o, none⟩) h
section
variable {w w' : World} {B C : Nat} {A : Option Addr}
theorem Rd2.below {L : List (List Int)} (h : Rd2 w B A L) (hb : Below C w w') (hC : B ≤ C) : Rd2 w' B A L :=
  RdOf.imp h (Nat.le_refl _) fun b o x hlt ⟨A1, c, h1, h2⟩ => ⟨A1, c, (cell_below hb (by omega)).trans h1, h2.below hb hC⟩
theorem Rd2.more {L : List (List Int)} (h : Rd2 w B A L) (hC : B ≤ C) : Rd2 w C A L :=
  RdOf.imp h hC fun b o x hlt ⟨A1, c, h1, h2⟩ => ⟨A1, c, h1, h2.more hC⟩
theorem Rd2.at_ {L : List (List Int)} (h : Rd2 w B A L) {k : Nat} (hk : k < L.length) :
    ∃ b off x A1 c, A = some ⟨b, off, none⟩ ∧ b < B ∧ L[k]? = some x ∧ w.cell? ⟨b, off + k, none⟩ = some (.slice A1 x.length c) ∧ Rd w B A1 x := by
  obtain ⟨b, off, x, e, hb, hx, A1, c, h1, h2⟩ := RdOf.at_ h hk
  rw [Nat.mul_one] at h1
  exact ⟨b, off, x, A1, c, e, hb, hx, h1, h2⟩
theorem RdB.below {L : List Bool} (h : RdB w B A L) (hb : Below C w w') (hC : B ≤ C) : RdB w' B A L :=
  RdOf.imp h (Nat.le_refl _) fun b o x hlt h1 => (cell_below hb (by omega)).trans h1
theorem RdB.more {L : List Bool} (h : RdB w B A L) (hC : B ≤ C) : RdB w C A L := RdOf.imp h hC fun b o x hlt h1 => h1
theorem RdB.at_ {L : List Bool} (h : RdB w B A L) {k : Nat} (hk : k < L.length) :
    ∃ b off x, A = some ⟨b, off, none⟩ ∧ b < B ∧ L[k]? = some x ∧ w.cell? ⟨b, off + k, none⟩ = some (.bool x) := by
  obtain ⟨b, off, x, e, hb, hx, h1⟩ := RdOf.at_ h hk
  rw [Nat.mul_one] at h1
  exact ⟨b, off, x, e, hb, hx, h1⟩
theorem RdB2.below {L : List (List Bool)} (h : RdB2 w B A L) (hb : Below C w w') (hC : B ≤ C) : RdB2 w' B A L :=
  RdOf.imp h (Nat.le_refl _) fun b o x hlt ⟨A1, c, h1, h2⟩ => ⟨A1, c, (cell_below hb (by omega)).trans h1, h2.below hb hC⟩
theorem RdB2.more {L : List (List Bool)} (h : RdB2 w B A L) (hC : B ≤ C) : RdB2 w C A L :=
  RdOf.imp h hC fun b o x hlt ⟨A1, c, h1, h2⟩ => ⟨A1, c, h1, h2.more hC⟩
theorem RdB2.at_ {L : List (List Bool)} (h : RdB2 w B A L) {k : Nat} (hk : k < L.length) :
    ∃ b off x A1 c, A = some ⟨b, off, none⟩ ∧ b < B ∧ L[k]? = some x ∧ w.cell? ⟨b, off + k, none⟩ = some (.slice A1 x.length c) ∧ RdB w B A1 x := by
  obtain ⟨b, off, x, e, hb, hx, A1, c, h1, h2⟩ := RdOf.at_ h hk
  rw [Nat.mul_one] at h1
  exact ⟨b, off, x, A1, c, e, hb, hx, h1, h2⟩
theorem RdH.below {L : List (Int × List Int)} (h : RdH w B A L) (hb : Below C w w') (hC : B ≤ C) : RdH w' B A L :=
  RdOf.imp h (Nat.le_refl _) fun b o x hlt ⟨hi, h0, A1, c, h1, h2⟩ => ⟨hi, (cell_below hb (by omega)).trans h0, A1, c, (cell_below hb (by omega)).trans h1, h2.below hb hC⟩
theorem RdH.more {L : List (Int × List Int)} (h : RdH w B A L) (hC : B ≤ C) : RdH w C A L :=
  RdOf.imp h hC fun b o x hlt ⟨hi, h0, A1, c, h1, h2⟩ => ⟨hi, h0, A1, c, h1, h2.more hC⟩
theorem RdH.at_ {L : List (Int × List Int)} (h : RdH w B A L) {k : Nat} (hk : k < L.length) :
    ∃ b off x y A1 c, A = some ⟨b, off, none⟩ ∧ b < B ∧ L[k]? = some (x, y) ∧ I64 x ∧ w.cell? ⟨b, off + k * 2, none⟩ = some (.int .i64 x) ∧ w.cell? ⟨b, off + k * 2 + 1, none⟩ = some (.slice A1 y.length c) ∧ Rd w B A1 y := by
  obtain ⟨b, off, ⟨x, y⟩, e, hb, hx, hi, h0, A1, c, h1, h2⟩ := RdOf.at_ h hk
  exact ⟨b, off, x, y, A1, c, e, hb, hx, hi, h0, h1, h2⟩
end
theorem dropA_of {α : Type} {L : List α} {k : Nat} {x : α} (h : L[k]? = some x) : L.drop k = x :: L.drop (k + 1) := by
  obtain ⟨hk, e⟩ := List.getElem?_eq_some_iff.1 h
  rw [List.drop_eq_getElem_cons hk, e]
end Go.Proofs.Ytkoipecnmijfoaa
end

section
/-! slices.Clone at []int. -/
namespace Go.Proofs.Ytkoipecnmijfoaa
open Go.RowKit Go.Deep
set_option linter.unusedVariables false

theorem infoInt' : (Try.prog.info? 3).map (fun i => (i.zero, i.size, i.bytes)) = some (some (.int .i64 0), 1, 8) := by kernel_rfl
/-- a new row that reads as L -/
def NewRow (w : World) (T : Nat) (L : List Int) (e : Ending) (w' : World) : Prop :=
  ∃ g c, e = .returned (.slice (some ⟨g, 0, none⟩) L.length c) ∧ w.heap.size ≤ g ∧ OwnP w' g T L ∧ Below w.heap.size w w'

set_option maxHeartbeats 400000 in
theorem clone {w : World} {B : Nat} {A : Option Addr} {L : List Int} {cap : Nat} (h : Rd w B A L) (hB : B ≤ w.heap.size) (hn : 0 < L.length) :
    Calls Try.prog 36 #[.slice A L.length cap] w (NewRow w 3 L) := by
  have hlen := h.len
  obtain ⟨i0, hi, hz0, hz1, hz2⟩ := info_parts infoInt'
  have hown0 := own_empty w 3
  have hal := Below.alloc (B := w.heap.size) (Below.refl _ w) (Nat.le_refl _) (.cells #[] 3)
  have hsz : (w.alloc (.cells #[] 3)).heap.size = w.heap.size + 1 := by simp
  obtain ⟨bb, off, rfl, hbb, hcells⟩ := (h.below hal hB).2.2 hn
  have HI := Lib.hid hi
  have HO := Lib.hid hown0
  have HCE := Lib.hid (cells_ints hcells)
  have HAL := Lib.hid hal
  have HSZ := Lib.hid hsz
  have hq := fun u => Lib.run_eql_slice_nil (P := Try.prog) u 23 3 (some ⟨bb, off, none⟩) L.length cap 0 0 Try.underlying23
  clear hcells hal hsz hi hown0 h
  go_enter Try.func36, Try.ntmps36
  generalize hw4 : w.alloc (.cells #[] 3) = w4 at *
  have HW4 := Lib.hid hw4
  clear hw4
  have hx4 : w.alloc (.cells #[] 3) = w4 := HW4.out
  go_wp2_with (at_builtin; refine wpList_append_own _ rfl _ _ 23 rfl w.heap.size 3 i0 (.int .i64 0) 1 8 Try.underlying23 HI.out hz0 hz1 hz2 rfl (by decide) _ 0 [] rfl HO.out ⟨bb, off, none⟩ L.length cap (L.map (Value.int .i64)) rfl (by simp) HCE.out (ints_oneCell _ _) (by unfold maxLen; omega) (by omega) (by rw [HSZ.out]; omega) ?_)
  intro v' w5 hown5 hgrow _
  have hb5 : Below w.heap.size w w5 := HAL.out.grown hgrow (by rw [HSZ.out]; omega) (by intro k hk; simp [Value.ownBlock] at hk; omega)
  obtain ⟨gg, c5, hv5, hgg, hP⟩ := ownP_of_row hown5 (by omega)
  rw [hv5]
  have HB5 := Lib.hid hb5
  have HP := Lib.hid hP
  clear hown5 hgrow hb5 hP hx4 hv5 HW4 HAL HCE HSZ
  go_wp2
  go_ret
  exact ⟨gg, c5, rfl, hgg, HP.out, HB5.out⟩
end Go.Proofs.Ytkoipecnmijfoaa
end

section
/-! Plain: stable insertion, as lists. -/
namespace Go.Proofs.Ytkoipecnmijfoaa
set_option linter.unusedVariables false

/-- v goes into a list that is given from its end on: it passes all that it is less than -/
def insRev (lt : Int → Int → Bool) (v : Int) : List Int → List Int
  | [] => [v]
  | x :: t => if lt v x then x :: insRev lt v t else v :: x :: t
theorem insRev_yes {lt : Int → Int → Bool} {v x : Int} {t : List Int} (h : lt v x = true) : insRev lt v (x :: t) = x :: insRev lt v t := by rw [insRev, if_pos h]
theorem insRev_no {lt : Int → Int → Bool} {v x : Int} {t : List Int} (h : lt v x = false) : insRev lt v (x :: t) = v :: x :: t := by rw [insRev, if_neg (by simp [h])]
/-- the list sorted so far, from its end on -/
def isRev (lt : Int → Int → Bool) : List Int → List Int → List Int
  | R, [] => R
  | R, v :: t => isRev lt (insRev lt v R) t
def isort (lt : Int → Int → Bool) (D : List Int) : List Int := (isRev lt [] D).reverse
theorem insRev_length (lt : Int → Int → Bool) (v : Int) : ∀ X, (insRev lt v X).length = X.length + 1
  | [] => rfl
  | x :: t => by
    unfold insRev
    split
    · simp [insRev_length lt v t]
    · simp
theorem insRev_mem {lt : Int → Int → Bool} {v y : Int} : ∀ {X : List Int}, y ∈ insRev lt v X ↔ y = v ∨ y ∈ X
  | [] => by simp [insRev]
  | x :: t => by
    unfold insRev
    split
    · simp only [List.mem_cons, insRev_mem (X := t)]
      constructor
      · rintro (h | h | h) <;> simp [h]
      · rintro (h | h | h) <;> simp [h]
    · simp
theorem isRev_snoc (lt : Int → Int → Bool) (v : Int) : ∀ (L R : List Int), isRev lt R (L ++ [v]) = insRev lt v (isRev lt R L)
  | [], R => rfl
  | x :: t, R => by simp only [List.cons_append, isRev]; exact isRev_snoc lt v t _
theorem isRev_length (lt : Int → Int → Bool) : ∀ (L R : List Int), (isRev lt R L).length = R.length + L.length
  | [], R => by simp [isRev]
  | x :: t, R => by simp only [isRev, isRev_length lt t, insRev_length, List.length_cons]; omega
theorem isRev_mem {lt : Int → Int → Bool} {y : Int} : ∀ {L R : List Int}, y ∈ isRev lt R L ↔ y ∈ R ∨ y ∈ L
  | [], R => by simp [isRev]
  | x :: t, R => by
    simp only [isRev, isRev_mem (L := t), insRev_mem, List.mem_cons]
    constructor
    · rintro ((h | h) | h) <;> simp [h]
    · rintro (h | h | h) <;> simp [h]
theorem isort_length (lt : Int → Int → Bool) (D : List Int) : (isort lt D).length = D.length := by simp [isort, isRev_length]
theorem isort_mem {lt : Int → Int → Bool} {y : Int} {D : List Int} : y ∈ isort lt D ↔ y ∈ D := by simp [isort, isRev_mem]

/-- the data in the inner loop: v stands behind X; what it has passed, Y (nearest first), behind it; then the rest -/
structure InsAt (lt : Int → Int → Bool) (D R : List Int) (i j : Nat) (v : Int) (X Y rest : List Int) : Prop where
  eq : D = X.reverse ++ v :: (Y.reverse ++ rest)
  len : X.length = j
  all : X.length + Y.length = i
  res : insRev lt v R = Y ++ insRev lt v X
theorem InsAt.start {lt : Int → Int → Bool} {R rest : List Int} {v : Int} : InsAt lt (R.reverse ++ v :: rest) R R.length R.length v R [] rest := ⟨by simp, rfl, by simp, rfl⟩
theorem InsAt.cells {lt : Int → Int → Bool} {D R X Y rest : List Int} {i j : Nat} {v x : Int} (h : InsAt lt D R i (j + 1) v (x :: X) Y rest) : D[j + 1]? = some v ∧ D[j]? = some x := by
  have hl : X.length = j := by have := h.len; simpa using this
  have e := h.eq
  rw [List.reverse_cons, List.append_assoc] at e
  rw [e]
  constructor
  · rw [List.getElem?_append_right (by simp; omega)]; simp [hl]
  · rw [List.getElem?_append_right (by simp; omega)]; simp [hl]
theorem InsAt.swap {lt : Int → Int → Bool} {D R X Y rest : List Int} {i j : Nat} {v x : Int} (h : InsAt lt D R i (j + 1) v (x :: X) Y rest) (hlt : lt v x = true) :
    InsAt lt ((D.set (j + 1) x).set j v) R i j v X (Y ++ [x]) rest := by
  have hl : X.length = j := by have := h.len; simpa using this
  have e := h.eq
  rw [List.reverse_cons, List.append_assoc] at e
  refine ⟨?_, hl, by have := h.all; simp at this ⊢; omega, ?_⟩
  · rw [e, List.set_append_right _ _ (by simp; omega), List.set_append_right _ _ (by simp; omega)]
    simp [hl]
  · rw [h.res, insRev_yes hlt]; simp
theorem InsAt.done {lt : Int → Int → Bool} {D R X Y rest : List Int} {i j : Nat} {v : Int} (h : InsAt lt D R i j v X Y rest) (hs : X = [] ∨ ∃ x t, X = x :: t ∧ lt v x = false) :
    D = (insRev lt v R).reverse ++ rest := by
  rw [h.res, h.eq]
  rcases hs with rfl | ⟨x, t, rfl, hf⟩
  · simp [insRev]
  · rw [insRev_no hf]; simp
end Go.Proofs.Ytkoipecnmijfoaa
end

section
/-! Walks: cmp.Compare, cmp.Or, the comparison of holiday's ranking. -/
namespace Go.Proofs.Ytkoipecnmijfoaa
open Go.RowKit Go.Deep
set_option linter.unusedVariables false
set_option maxRecDepth 100000

def cmpI (a b : Int) : Int := if a < b then -1 else if b < a then 1 else 0
def orI (a b : Int) : Int := if a ≠ 0 then a else b
theorem isNaN {w : World} (a : Int) : Calls Try.prog 57 #[.int .i64 a] w fun e w' => e = .returned (.bool false) ∧ w = w' := by
  go_enter Try.func57, Try.ntmps57
  go_wp2
  go_ret
  exact ⟨ret_bool (by simp), rfl⟩
theorem compare {w : World} (a b : Int) : Calls Try.prog 50 #[.int .i64 a, .int .i64 b] w fun e w' => e = .returned (.int .i64 (cmpI a b)) ∧ w = w' := by
  by_cases h1 : a < b
  · have hf := Lib.hid (show cmpI a b = -1 by rw [cmpI, if_pos h1])
    go_enter Try.func50, Try.ntmps50
    go_wp2_with (go_at_call 57; refine (isNaN _).mono ?_; rintro e w' ⟨rfl, rfl⟩)
    go_ret
    exact ⟨ret_int hf.out.symm, rfl⟩
  · by_cases h2 : b < a
    · have hf := Lib.hid (show cmpI a b = 1 by rw [cmpI, if_neg h1, if_pos h2])
      go_enter Try.func50, Try.ntmps50
      go_wp2_with (go_at_call 57; refine (isNaN _).mono ?_; rintro e w' ⟨rfl, rfl⟩)
      go_ret
      exact ⟨ret_int hf.out.symm, rfl⟩
    · have hf := Lib.hid (show cmpI a b = 0 by rw [cmpI, if_neg h1, if_neg h2])
      go_enter Try.func50, Try.ntmps50
      go_wp2_with (go_at_call 57; refine (isNaN _).mono ?_; rintro e w' ⟨rfl, rfl⟩)
      go_ret
      exact ⟨ret_int hf.out.symm, rfl⟩

set_option maxHeartbeats 400000 in
theorem orTwo {w : World} {g : Nat} {a b : Int} (h0 : w.cell? ⟨g, 0, none⟩ = some (.int .i64 a)) (h1 : w.cell? ⟨g, 1, none⟩ = some (.int .i64 b)) :
    Calls Try.prog 49 #[.slice (some ⟨g, 0, none⟩) 2 2] w fun e w' => e = .returned (.int .i64 (orI a b)) ∧ w = w' := by
  go_enter Try.func49, Try.ntmps49
  go_wp2
  go_loop [8] (fun i => ∃ k : Nat, k ≤ 2 ∧ i = .int .i64 k ∧ Hid (0 < k → a = 0) ∧ Hid (1 < k → b = 0)) (fun i => 2 - (intOf i).toNat)
  case atStart => exact ⟨0, by omega, rfl, Lib.hid (by omega), Lib.hid (by omega)⟩
  case round =>
    obtain ⟨k, hk, rfl, ha, hb⟩ := hrel
    rcases (show k = 0 ∨ k = 1 ∨ k = 2 by omega) with rfl | rfl | rfl
    · by_cases hz : a = 0
      · have hn : (a != 0) = false := by simpa using hz
        have HZ := Lib.hid hz
        clear hz
        go_wp2
        go_round
        case rel => exact ⟨1, by omega, rfl, Lib.hid (fun _ => HZ.out), Lib.hid (by omega)⟩
        case measure => simp [intOf]
      · have hn : (a != 0) = true := by simpa using hz
        have hf := Lib.hid (show orI a b = a by rw [orI, if_pos hz])
        clear hz
        go_wp2
        go_ret
        exact ⟨ret_int hf.out.symm, rfl⟩
    · have hA := ha.out (by omega)
      by_cases hz : b = 0
      · have hn : (b != 0) = false := by simpa using hz
        have HZ := Lib.hid hz
        have HA := Lib.hid hA
        clear hz hA
        go_wp2
        go_round
        case rel => exact ⟨2, by omega, rfl, Lib.hid (fun _ => HA.out), Lib.hid (fun _ => HZ.out)⟩
        case measure => simp [intOf]
      · have hn : (b != 0) = true := by simpa using hz
        have hf := Lib.hid (show orI a b = b by rw [orI, if_neg (by simp [hA])])
        clear hz hA
        go_wp2
        go_ret
        exact ⟨ret_int hf.out.symm, rfl⟩
    · have hA := ha.out (by omega)
      have hB := hb.out (by omega)
      have hf := Lib.hid (show orI a b = 0 by rw [orI, if_neg (by simp [hA]), hB])
      clear hA hB
      go_wp2
      go_ret
      exact ⟨ret_int hf.out.symm, rfl⟩

/-- what the ranking compares: bids, then credits, the greater ones first -/
def rkCmp (C B : List Int) (a b : Int) : Int := orI (cmpI (B.getD b.toNat 0) (B.getD a.toNat 0)) (cmpI (C.getD b.toNat 0) (C.getD a.toNat 0))
theorem rkCmp_eq {C B : List Int} {a b : Nat} {x y u v : Int} (h1 : B[b]? = some x) (h2 : B[a]? = some y) (h3 : C[b]? = some u) (h4 : C[a]? = some v) :
    rkCmp C B a b = orI (cmpI x y) (cmpI u v) := by
  simp [rkCmp, List.getD, h1, h2, h3, h4]

set_option maxHeartbeats 1000000 in
theorem rank1 {w : World} {D g1 g2 : Nat} {A1 A2 : Option Addr} {C B : List Int} {cap1 cap2 : Nat} {a b : Nat}
    (hbox1 : w.cell? ⟨g1, 0, none⟩ = some (.slice A1 B.length cap1)) (hbox2 : w.cell? ⟨g2, 0, none⟩ = some (.slice A2 C.length cap2))
    (hB : Rd w D A1 B) (hC : Rd w D A2 C) (ha : a < B.length) (hb : b < B.length) (hl : B.length = C.length) :
    Calls Try.prog 48 #[.int .i64 a, .int .i64 b, .pointer (some ⟨g1, 0, none⟩), .pointer (some ⟨g2, 0, none⟩)] w
      fun e w' => e = .returned (.int .i64 (rkCmp C B a b)) ∧ Below w.heap.size w w' := by
  obtain ⟨x, hx⟩ : ∃ x, B[b]? = some x := ⟨B[b], by simp [hb]⟩
  obtain ⟨y, hy⟩ : ∃ y, B[a]? = some y := ⟨B[a], by simp [ha]⟩
  obtain ⟨u, hu⟩ : ∃ u, C[b]? = some u := ⟨C[b]'(by omega), by simp⟩
  obtain ⟨v, hv⟩ : ∃ v, C[a]? = some v := ⟨C[a]'(by omega), by simp⟩
  have hf := Lib.hid (rkCmp_eq hx hy hu hv)
  obtain ⟨b1, o1, rfl, _, hc1⟩ := hB.2.2 (by omega)
  obtain ⟨b2, o2, rfl, _, hc2⟩ := hC.2.2 (by omega)
  have cx := hc1 b x hx
  have cy := hc1 a y hy
  have cu := hc2 b u hu
  have cv := hc2 a v hv
  have l1 := hB.len
  have l2 := hC.len
  have hac : a < C.length := by omega
  have hbc : b < C.length := by omega
  clear hc1 hc2 hx hy hu hv hB hC hl
  go_enter Try.func48, Try.ntmps48
  go_wp2
  go_still_tail 18, (by kernel_rfl)
  still_call ((compare x y).mono fun _ _ h => ⟨h.1, h.2.symm⟩)
  repeat still_step
  still_call ((compare u v).mono fun _ _ h => ⟨h.1, h.2.symm⟩)
  repeat still_step
  refine wpStill_nil ?_
  change wpList _ _ _ _ _ w.drew
  clear cx cy cu cv hbox1 hbox2
  generalize cmpI x y = p at *
  generalize cmpI u v = q at *
  go_wp2_with fail
  have n0 : (w.alloc (.cells #[.int .i64 p, .int .i64 q] 3)).drew.cell? ⟨w.heap.size, 0, none⟩ = some (.int .i64 p) := by
    have h : Own (w.alloc (.cells #[.int .i64 p, .int .i64 q] 3)) w.heap.size 3 [p, q] := heap_alloc_new w _
    exact h.cell (i := 0) rfl
  have n1 : (w.alloc (.cells #[.int .i64 p, .int .i64 q] 3)).drew.cell? ⟨w.heap.size, 1, none⟩ = some (.int .i64 q) := by
    have h : Own (w.alloc (.cells #[.int .i64 p, .int .i64 q] 3)) w.heap.size 3 [p, q] := heap_alloc_new w _
    exact h.cell (i := 1) rfl
  refine (orTwo n0 n1).mono ?_
  rintro e w' ⟨rfl, rfl⟩
  clear n0 n1
  go_wp2
  go_ret
  exact ⟨ret_int hf.out.symm, ((Below.refl _ _).alloc (Nat.le_refl _) _).drew⟩
end Go.Proofs.Ytkoipecnmijfoaa
end

section
/-! The walk of slices.insertionSortCmpFunc over a row of the call's own. -/
namespace Go.Proofs.Ytkoipecnmijfoaa
open Go.RowKit Go.Deep
set_option linter.unusedVariables false
set_option maxRecDepth 100000

def ltOf (c : Int → Int → Int) (a b : Int) : Bool := decide (c a b < 0)
/-- the comparison F (with what it has captured) gives c at the elements that p lets, in every world that is as w below block g -/
def Cmps (w : World) (g F : Nat) (caps : Array Value) (c : Int → Int → Int) (p : Int → Prop) : Prop :=
  ∀ u, Below g w u → ∀ a b, p a → p b → Calls Try.prog F (#[.int .i64 a, .int .i64 b] ++ caps) u fun e u' => e = .returned (.int .i64 (c a b)) ∧ Below u.heap.size u u'

theorem mem_getElem {L : List Int} {k : Nat} {x : Int} (h : L[k]? = some x) : x ∈ L := List.mem_of_getElem? h
theorem take_succ_of {L : List Int} {k : Nat} {x : Int} (h : L[k]? = some x) : L.take (k + 1) = L.take k ++ [x] := by
  obtain ⟨hk, e⟩ := List.getElem?_eq_some_iff.1 h
  rw [List.take_succ_eq_append_getElem hk, e]

set_option maxRecDepth 100000 in
set_option maxHeartbeats 4000000 in
theorem insCmp {w : World} {g F : Nat} {caps : Array Value} {c : Int → Int → Int} {p : Int → Prop} {D0 : List Int} {cap : Nat}
    (hF : ∀ args (u : World), (callFunc F args).run Try.prog u = .ok (.enter F args) u)
    (hc : Cmps w g F caps c p) (hp : ∀ x ∈ D0, p x) (ho : Own w g 3 D0) (hn : 1 ≤ D0.length) (hn2 : D0.length ≤ 40) :
    Calls Try.prog 69 #[.slice (some ⟨g, 0, none⟩) D0.length cap, .int .i64 0, .int .i64 D0.length, .func (.func F) #[] caps] w
      fun e w' => e = .returned (.tuple #[]) ∧ Own w' g 3 (isort (ltOf c) D0) ∧ Below g w w' := by
  have HC := Lib.hid hc
  have HP := Lib.hid hp
  have HO := Lib.hid ho
  have hlt := ltOf c
  clear hc hp ho
  generalize hN : D0.length = n at *
  have HN := Lib.hid hN
  clear hN
  go_enter Try.func69, Try.ntmps69
  go_wp2
  go_loopw [8] (fun i wr => ∃ (k : Nat) (D R : List Int), 1 ≤ k ∧ k ≤ n ∧ i = .int .i64 k ∧ Hid (D = R.reverse ++ D0.drop k) ∧ Hid (R = isRev (ltOf c) [] (D0.take k)) ∧ Hid (Own wr g 3 D) ∧ Hid (Below g w wr)) (fun i _ => n - (intOf i).toNat)
  case atStart =>
    obtain ⟨x, t, rfl⟩ : ∃ x t, D0 = x :: t := by
      cases D0 with
      | nil => have := HN.out; simp at this; omega
      | cons x t => exact ⟨x, t, rfl⟩
    exact ⟨1, x :: t, [x], by omega, by omega, rfl, Lib.hid rfl, Lib.hid rfl, HO, Lib.hid (Below.refl _ _)⟩
  case round =>
    obtain ⟨k, D, R, hk1, hk, rfl, hD, hR, hO, hB⟩ := hrel
    by_cases hkn : k < n
    · obtain ⟨v, hv⟩ : ∃ v, D0[k]? = some v := ⟨D0[k]'(by rw [HN.out]; exact hkn), by simp⟩
      have hRl : R.length = k := by rw [hR.out, isRev_length]; simp; have := HN.out; omega
      have hstart : InsAt (ltOf c) D R k k v R [] (D0.drop (k + 1)) := by
        have := InsAt.start (lt := ltOf c) (R := R) (rest := D0.drop (k + 1)) (v := v)
        rw [hRl, ← drop_of hv, ← hD.out] at this
        exact this
      have hpd : ∀ x ∈ D, p x := by
        intro x hx
        rw [hD.out, hR.out] at hx
        rcases List.mem_append.1 hx with hx | hx
        · rw [List.mem_reverse, isRev_mem] at hx
          rcases hx with hx | hx
          · simp at hx
          · exact HP.out x (List.mem_of_mem_take hx)
        · exact HP.out x (List.mem_of_mem_drop hx)
      have HV := Lib.hid hv
      have HS := Lib.hid hstart
      have HPD := Lib.hid hpd
      have HRL := Lib.hid hRl
      clear hv hstart hpd hRl
      obtain ⟨wo, rfl⟩ : ∃ wo : World, wo = wr := ⟨_, rfl⟩
      go_wp2
      go_loopw [9] (fun jv wi => ∃ (j : Nat) (D' X Y : List Int), j ≤ k ∧ jv = .int .i64 j ∧ Hid (InsAt (ltOf c) D' R k j v X Y (D0.drop (k + 1))) ∧ Hid (∀ x ∈ D', p x) ∧ Hid (Own wi g 3 D') ∧ Hid (Below g w wi)) (fun jv _ => (intOf jv).toNat)
      case atStart => exact ⟨k, D, R, [], by omega, rfl, HS, HPD, hO, hB⟩
      case round =>
        obtain ⟨j, D', X, Y, hj, rfl, hI, hpD, hOi, hBi⟩ := hrel
        have hnext : Hid ((X = [] ∨ ∃ x t, X = x :: t ∧ ltOf c v x = false) → D' = (insRev (ltOf c) v R).reverse ++ D0.drop (k + 1)) := Lib.hid hI.out.done
        have hR' : Hid (insRev (ltOf c) v R = isRev (ltOf c) [] (D0.take (k + 1))) := Lib.hid (by rw [take_succ_of HV.out, isRev_snoc, ← hR.out])
        cases X with
        | nil =>
          have hj0 : j = 0 := by have := hI.out.len; simpa using this.symm
          subst hj0
          have hd : decide ((0 : Int) < 0) = false := by decide
          have hfin := Lib.hid (hnext.out (.inl rfl))
          clear hnext
          go_wp2
          go_quiet (fail)
          go_wp2
          go_roundw
          case rel => exact ⟨k + 1, D', _, by omega, by omega, by go_num, hfin, hR', Lib.hid (hOi.out.drewN _), Lib.hid (below_drewN hBi.out _)⟩
          case measure => simp [intOf]; omega
        | cons x t =>
          obtain ⟨j', hj'⟩ : ∃ j', j = j' + 1 := ⟨t.length, by have := hI.out.len; simp at this; omega⟩
          have hcl : D'[j]? = some v ∧ D'[j']? = some x := by
            have h := hI.out
            rw [hj'] at h ⊢
            exact h.cells
          have c1 := hOi.out.cell hcl.1
          have c2 := hOi.out.cell hcl.2
          have f1 := hOi.out.frozen j
          have f2 := hOi.out.frozen j'
          have hpv : p v := hpD.out v (mem_getElem hcl.1)
          have hpx : p x := hpD.out x (mem_getElem hcl.2)
          have HCL := Lib.hid hcl
          clear hcl
          have hjn : j < n := by omega
          have hjn' : j' < n := by omega
          have i1 : (0 : Int) ≤ j := by omega
          have i2 : (j : Int) < n := by omega
          have i3 : (0 : Int) ≤ j' := by omega
          have i4 : (j' : Int) < n := by omega
          have i5 : (0 : Int) < j := by omega
          have HJ := Lib.hid hj'
          have E1 : Hid (IntKind.i64.wrap ((j : Int) - 1) = (j' : Int)) := Lib.hid (by rw [show (j : Int) - 1 = j' by omega]; exact IntWalk.i64_in _ (by omega))
          have hS0 : wr.drew.cell? ⟨g, j, none⟩ = some (.int .i64 v) ∧ wr.drew.cell? ⟨g, j', none⟩ = some (.int .i64 x) ∧ Hid (Below wr.heap.size wr wr.drew) := ⟨c1, c2, Lib.hid (Below.refl _ _).drew⟩
          have hgs := hOi.out.lt
          have CC : Hid (∀ u : World, (u.cell? ⟨g, j, none⟩ = some (.int .i64 v) ∧ u.cell? ⟨g, j', none⟩ = some (.int .i64 x) ∧ Hid (Below wr.heap.size wr u)) →
              Calls Try.prog F (#[.int .i64 v, .int .i64 x] ++ caps) u fun e u' => e = .returned (.int .i64 (c v x)) ∧ (u'.cell? ⟨g, j, none⟩ = some (.int .i64 v) ∧ u'.cell? ⟨g, j', none⟩ = some (.int .i64 x) ∧ Hid (Below wr.heap.size wr u'))) := Lib.hid (by
            intro u ⟨s1, s2, s3⟩
            have hsz := s3.out.size
            exact (HC.out u (hBi.out.trans (s3.out.mono (by omega))) v x hpv hpx).mono fun e u' ⟨he, hb'⟩ =>
              ⟨he, ((bcell hb').1 g j (by omega)).trans s1, ((bcell hb').1 g j' (by omega)).trans s2, Lib.hid (s3.out.trans (hb'.mono hsz))⟩)
          clear hpv hpx c1 c2 hj'
          go_wp2
          have e1 := E1.out
          have dd1 : decide ((0 : Int) < (j : Int)) = true := by simpa using i5
          have dd2 : decide (0 < j) = true := by simp; omega
          have dd3 : 0 < j := by omega
          go_region_held3 (fun w' => w'.cell? ⟨g, j, none⟩ = some (.int .i64 v) ∧ w'.cell? ⟨g, j', none⟩ = some (.int .i64 x) ∧ Hid (Below wr.heap.size wr w')) (first | assumption | go_keep)
            (first | (refine (CC.out _ (by assumption)).mono ?_; rintro e w2 ⟨rfl, hS⟩))
          try clear e1
          try clear e1
          have hbw : Below wr.heap.size wr w2 := hS.2.2.out
          have HO2 := Lib.hid (hOi.out.below hbw hgs)
          have HB2 := Lib.hid (hBi.out.trans (hbw.mono (by omega)))
          have c1 := hS.1
          have c2 := hS.2.1
          have f1 := HO2.out.frozen j
          have f2 := HO2.out.frozen j'
          clear hS hS0 CC hbw
          by_cases hl : c v x < 0
          · have hlv : ltOf c v x = true := by simpa [ltOf] using hl
            have hsw : InsAt (ltOf c) ((D'.set j x).set j' v) R k j' v t (Y ++ [x]) (D0.drop (k + 1)) := by
              have h := hI.out
              rw [HJ.out] at h ⊢
              exact h.swap hlv
            have HSW := Lib.hid hsw
            clear hsw hlv
            go_wp2
            have hs1 := HO2.out.store j x
            have s1 := hs1.cell (i := j') (x := x) (by rw [List.getElem?_set_ne (by have := HJ.out; omega)]; exact HCL.out.2)
            have s2 := hs1.frozen j'
            have HFI := Lib.hid (hs1.store j' v)
            have HBI := Lib.hid ((HB2.out.setCell (p := ⟨g, j, none⟩) (Nat.le_refl _) (.int .i64 x)).setCell (p := ⟨g, j', none⟩) (Nat.le_refl _) (.int .i64 v))
            have hpD' : Hid (∀ y ∈ (D'.set j x).set j' v, p y) := Lib.hid (by
              intro y hy
              rcases List.mem_or_eq_of_mem_set hy with hy | rfl
              · rcases List.mem_or_eq_of_mem_set hy with hy | rfl
                · exact hpD.out y hy
                · exact hpD.out _ (mem_getElem HCL.out.2)
              · exact hpD.out _ (mem_getElem HCL.out.1))
            clear hs1
            have e1 := E1.out
            go_region
            try clear e1
            all_goals go_wp2
            all_goals go_roundw
            case rel => exact ⟨j', _, t, Y ++ [x], by have := HJ.out; omega, int_of (by have := HJ.out; omega), HSW, hpD', Lib.hid HFI.out.drew, Lib.hid HBI.out.drew⟩
            case measure => simp [intOf]; omega
          · have hlv : ltOf c v x = false := by simpa [ltOf] using hl
            have hfin := Lib.hid (hnext.out (.inr ⟨x, t, rfl, hlv⟩))
            clear hlv hnext
            go_wp2
            go_roundw
            case rel => exact ⟨k + 1, D', _, by omega, by omega, by go_num, hfin, hR', HO2, HB2⟩
            case measure => simp [intOf]; omega
    · have hkn' : k = n := by omega
      subst hkn'
      have hfin : Own wr g 3 (isort (ltOf c) D0) := by
        have h := hO.out
        rw [hD.out, hR.out, List.take_of_length_le (by rw [HN.out]; omega), List.drop_of_length_le (by rw [HN.out]; omega), List.append_nil] at h
        exact h
      have HF := Lib.hid hfin
      clear hfin
      go_wp2
      go_end0
      exact ⟨rfl, HF.out, hB.out⟩
end Go.Proofs.Ytkoipecnmijfoaa
end

section
/-! Walks: slices.SortStableFunc at 12 or fewer; holiday's rank. -/
namespace Go.Proofs.Ytkoipecnmijfoaa
open Go.RowKit Go.Deep
set_option linter.unusedVariables false
set_option maxRecDepth 100000

set_option maxRecDepth 100000 in
set_option maxHeartbeats 1000000 in
theorem stableCmp {w : World} {g F : Nat} {caps : Array Value} {c : Int → Int → Int} {p : Int → Prop} {D0 : List Int} {cap : Nat}
    (hF : ∀ args (u : World), (callFunc F args).run Try.prog u = .ok (.enter F args) u)
    (hc : Cmps w g F caps c p) (hp : ∀ x ∈ D0, p x) (ho : Own w g 3 D0) (hn : 1 ≤ D0.length) (hn2 : D0.length ≤ 12) :
    Calls Try.prog 56 #[.slice (some ⟨g, 0, none⟩) D0.length cap, .int .i64 D0.length, .func (.func F) #[] caps] w
      fun e w' => e = .returned (.tuple #[]) ∧ Own w' g 3 (isort (ltOf c) D0) ∧ Below g w w' := by
  have C := insCmp (cap := cap) hF hc hp ho hn (by omega)
  clear hc hp ho
  generalize isort (ltOf c) D0 = R at *
  generalize D0.length = n at *
  go_enter Try.func56, Try.ntmps56
  go_wp2
  refine wp_loop_rounds 1 ?_
  rw [rounds_succ]
  go_wp2_with (go_at_call 69; refine C.mono ?_; rintro e w1 ⟨rfl, hO, hB⟩)
  have HO := Lib.hid hO
  have HB := Lib.hid hB
  clear hO hB C
  refine wp_loop_rounds 1 ?_
  rw [rounds_succ]
  go_wp2
  go_end0
  exact ⟨rfl, HO.out, HB.out⟩
theorem sortStable {w : World} {g F : Nat} {caps : Array Value} {c : Int → Int → Int} {p : Int → Prop} {D0 : List Int} {cap : Nat}
    (hF : ∀ args (u : World), (callFunc F args).run Try.prog u = .ok (.enter F args) u)
    (hc : Cmps w g F caps c p) (hp : ∀ x ∈ D0, p x) (ho : Own w g 3 D0) (hn : 1 ≤ D0.length) (hn2 : D0.length ≤ 12) :
    Calls Try.prog 47 #[.slice (some ⟨g, 0, none⟩) D0.length cap, .func (.func F) #[] caps] w
      fun e w' => e = .returned (.tuple #[]) ∧ Own w' g 3 (isort (ltOf c) D0) ∧ Below g w w' := by
  have C := stableCmp (cap := cap) hF hc hp ho hn hn2
  clear hc hp ho
  generalize isort (ltOf c) D0 = R at *
  generalize D0.length = n at *
  go_enter Try.func47, Try.ntmps47
  go_wp2_with (go_at_call 56; refine C.mono ?_; rintro e w1 ⟨rfl, hO, hB⟩)
  go_end0
  exact ⟨rfl, hO, hB⟩
end Go.Proofs.Ytkoipecnmijfoaa
end

section
/-! The walk of holiday's rank. -/
namespace Go.Proofs.Ytkoipecnmijfoaa
open Go.RowKit Go.Deep
set_option linter.unusedVariables false
set_option maxRecDepth 100000

/-- the numbers 0 to n - 1 -/
def iota (n : Nat) : List Int := (List.range n).map fun (k : Nat) => (k : Int)
theorem iota_length (n : Nat) : (iota n).length = n := by simp [iota]
theorem iota_mem {n : Nat} {x : Int} : x ∈ iota n ↔ ∃ a : Nat, x = a ∧ a < n := by
  simp only [iota, List.mem_map, List.mem_range]
  constructor
  · rintro ⟨a, h, rfl⟩; exact ⟨a, rfl, h⟩
  · rintro ⟨a, rfl, h⟩; exact ⟨a, h, rfl⟩
theorem iota_of {n : Nat} {D : List Int} (hl : D.length = n) (h : ∀ j : Nat, j < n → D[j]? = some (j : Int)) : D = iota n := by
  apply List.ext_getElem?
  intro j
  rcases Nat.lt_or_ge j n with hlt | hge
  · rw [h j hlt]; simp [iota, hlt]
  · rw [List.getElem?_eq_none (by omega), List.getElem?_eq_none (by rw [iota_length]; omega)]
/-- the ranking -/
def rkList (C B : List Int) : List Int := isort (ltOf (rkCmp C B)) (iota B.length)
theorem rkList_length (C B : List Int) : (rkList C B).length = B.length := by rw [rkList, isort_length, iota_length]
theorem rkList_mem {C B : List Int} {x : Int} : x ∈ rkList C B ↔ ∃ a : Nat, x = a ∧ a < B.length := by rw [rkList, isort_mem, iota_mem]

/-- a new row that reads as L and has no spare room -/
def NewRowX (w : World) (T : Nat) (L : List Int) (e : Ending) (w' : World) : Prop :=
  ∃ g, e = .returned (.slice (some ⟨g, 0, none⟩) L.length L.length) ∧ w.heap.size ≤ g ∧ OwnP w' g T L ∧ Below w.heap.size w w'

set_option maxRecDepth 100000 in
set_option maxHeartbeats 2000000 in
theorem rankX {w : World} {D : Nat} {A1 A2 : Option Addr} {C B : List Int} {cap1 cap2 : Nat} (hC : Rd w D A1 C) (hB : Rd w D A2 B) (hD : D ≤ w.heap.size)
    (hl : B.length = C.length) (hn : 1 ≤ B.length) (hn2 : B.length ≤ 12) :
    Calls Try.prog 35 #[.slice A1 C.length cap1, .slice A2 B.length cap2] w (NewRowX w 3 (rkList C B)) := by
  have hmk := fun u => run_make_row' (P := Try.prog) 23 3 (.int .i64 0) 8 Try.underlying23 infoInt' rfl .i64 .i64 B.length (by omega) (by omega) u
  have HC := Lib.hid hC
  have HB := Lib.hid hB
  have HD := Lib.hid hD
  have HL := Lib.hid hl
  clear hC hB hD hl
  go_enter Try.func35, Try.ntmps35
  go_wp2
  clear hmk
  have hw2 : ((w.alloc (.cells #[.slice A1 C.length cap1] 23)).alloc (.cells #[.slice A2 B.length cap2] 23)).heap.size = w.heap.size + 2 := by simp
  have hbA : ((w.alloc (.cells #[.slice A1 C.length cap1] 23)).alloc (.cells #[.slice A2 B.length cap2] 23)).cell? ⟨w.heap.size, 0, none⟩ = some (.slice A1 C.length cap1) := by simp
  have hbB : ((w.alloc (.cells #[.slice A1 C.length cap1] 23)).alloc (.cells #[.slice A2 B.length cap2] 23)).cell? ⟨w.heap.size + 1, 0, none⟩ = some (.slice A2 B.length cap2) := by simp
  have hbel : Below w.heap.size w ((w.alloc (.cells #[.slice A1 C.length cap1] 23)).alloc (.cells #[.slice A2 B.length cap2] 23)) := ((Below.refl _ _).alloc (Nat.le_refl _) _).alloc (by simp) _
  generalize (w.alloc (.cells #[.slice A1 C.length cap1] 23)).alloc (.cells #[.slice A2 B.length cap2] 23) = w2 at *
  have hown := Own.made w2 3 B.length
  have hb3 := Below.alloc (B := w2.heap.size) (Below.refl _ w2) (Nat.le_refl _) (.cells (madeCells #[Value.int .i64 0] B.length) 3)
  rw [hw2] at hown hb3
  generalize w2.alloc (.cells (madeCells #[Value.int .i64 0] B.length) 3) = w3 at *
  have HW2 := Lib.hid hw2
  have HBA := Lib.hid hbA
  have HBB := Lib.hid hbB
  have HBEL := Lib.hid hbel
  have HOWN := Lib.hid hown
  have HB3 := Lib.hid hb3
  clear hw2 hbA hbB hbel hown hb3
  go_loopw [12] (fun i wr => ∃ (k : Nat) (L : List Int), k ≤ B.length ∧ i = .int .i64 k ∧ Hid (L.length = B.length) ∧ Hid (∀ j : Nat, j < k → L[j]? = some (j : Int)) ∧ Hid (Own wr (w.heap.size + 2) 3 L) ∧ Hid (Below (w.heap.size + 2) w2 wr)) (fun i _ => B.length - (intOf i).toNat)
  case atStart => exact ⟨0, _, by omega, rfl, Lib.hid (by simp), Lib.hid (by omega), HOWN, HB3⟩
  case round =>
    obtain ⟨k, L, hk, rfl, hLl, hLv, hO, hBw⟩ := hrel
    by_cases hlt : k < B.length
    · obtain ⟨y, hy⟩ : ∃ y, L[k]? = some y := ⟨L[k]'(by rw [hLl.out]; exact hlt), by simp⟩
      have c1 := hO.out.cell hy
      have f1 := hO.out.frozen k
      have hO' := Lib.hid (hO.out.store k (k : Int))
      have hB' := Lib.hid (hBw.out.setCell (p := ⟨w.heap.size + 2, k, none⟩) (Nat.le_refl _) (.int .i64 (k : Int)))
      have hLv' : Hid (∀ j : Nat, j < k + 1 → (L.set k (k : Int))[j]? = some (j : Int)) := Lib.hid (by
        intro j hj
        by_cases e : j = k
        · subst e; rw [List.getElem?_set_self (by rw [hLl.out]; exact hlt)]
        · rw [List.getElem?_set_ne (by omega)]; exact hLv.out j (by omega))
      have hLl' : Hid ((L.set k (k : Int)).length = B.length) := Lib.hid (by simp [hLl.out])
      clear hy
      go_wp2
      go_roundw
      case rel => exact ⟨k + 1, _, by omega, by go_num, hLl', hLv', hO', hB'⟩
      case measure => simp [intOf]; omega
    · have hL : L = iota B.length := iota_of hLl.out (fun j hj => hLv.out j (by omega))
      have hO' : Own wr (w.heap.size + 2) 3 (iota B.length) := hL ▸ hO.out
      have hbw := HBEL.out.trans (hBw.out.mono (by omega))
      have hcm : Cmps wr (w.heap.size + 2) 48 #[.pointer (some ⟨w.heap.size + 1, 0, none⟩), .pointer (some ⟨w.heap.size, 0, none⟩)] (rkCmp C B) (fun x => ∃ a : Nat, x = a ∧ a < B.length) := by
        intro u hu a b ⟨a', ha, ha'⟩ ⟨b', hb, hb'⟩
        subst ha
        subst hb
        have hu2 := hBw.out.trans hu
        have hD := HD.out
        exact rank1 (D := w.heap.size + 2) (cap1 := cap2) (cap2 := cap1)
          (((bcell hu2).1 (w.heap.size + 1) 0 (by omega)).trans HBB.out)
          (((bcell hu2).1 w.heap.size 0 (by omega)).trans HBA.out)
          (((HB.out.below HBEL.out hD).more (by omega)).below hu2 (Nat.le_refl _)) (((HC.out.below HBEL.out hD).more (by omega)).below hu2 (Nat.le_refl _)) ha' hb' HL.out
      have CS := sortStable (cap := B.length) (D0 := iota B.length) (fun args u => by kernel_rfl) hcm (fun x hx => iota_mem.1 hx) hO' (by rw [iota_length]; exact hn) (by rw [iota_length]; exact hn2)
      rw [iota_length] at CS
      have HCS := Lib.hid CS
      have HBW := Lib.hid hbw
      clear CS hcm hO' hL hbw
      go_wp2_with (go_at_call 47; refine HCS.out.mono ?_; rintro e w5 ⟨rfl, hO5, hB5⟩)
      go_ret
      exact ⟨w.heap.size + 2, by rw [rkList_length]; rfl, by omega, hO5.pre, HBW.out.trans (hB5.mono (by omega))⟩
theorem rank {w : World} {D : Nat} {A1 A2 : Option Addr} {C B : List Int} {cap1 cap2 : Nat} (hC : Rd w D A1 C) (hB : Rd w D A2 B) (hD : D ≤ w.heap.size)
    (hl : B.length = C.length) (hn : 1 ≤ B.length) (hn2 : B.length ≤ 12) :
    Calls Try.prog 35 #[.slice A1 C.length cap1, .slice A2 B.length cap2] w (NewRow w 3 (rkList C B)) :=
  (rankX hC hB hD hl hn hn2).mono fun _ _ ⟨g, h1, h2, h3, h4⟩ => ⟨g, _, h1, h2, h3, h4⟩
end Go.Proofs.Ytkoipecnmijfoaa
end

section
/-! Rows of the call's own. No statement about the program. -/
namespace Go.Proofs.Ytkoipecnmijfoaa
open Go.RowKit
set_option linter.unusedVariables false

theorem row_below {w w' : World} {base e size : Nat} {v : Value} {n : Nat} {xs : List Value} (h : w.ownsRow base e size v n xs) (hb : Below w.heap.size w w') : w'.ownsRow base e size v n xs := by
  refine ⟨h.1, ?_⟩
  rcases h.2 with h2 | ⟨g, cap, cur, hv, hg, hh, r⟩
  · exact .inl h2
  · have hlt : g < w.heap.size := by
      rcases Nat.lt_or_ge g w.heap.size with hlt | hge
      · exact hlt
      · rw [Array.getElem?_eq_none hge] at hh; cases hh
    exact .inr ⟨g, cap, cur, hv, hg, (hb.block g hlt).trans hh, r⟩
theorem row_slice {w : World} {base e size : Nat} {v : Value} {n : Nat} {xs : List Value} (h : w.ownsRow base e size v n xs) : ∃ A c, v = .slice A n c ∧ (∀ p, A = some p → base ≤ p.block) := by
  rcases h.2 with ⟨rfl, rfl⟩ | ⟨g, cap, cur, rfl, hg, _⟩
  · exact ⟨none, 0, rfl, by intro p h; cases h⟩
  · exact ⟨_, cap, rfl, by intro p h; cases h; exact hg⟩
theorem row_rd {w : World} {base T : Nat} {A : Option Addr} {c : Nat} {L : List Int} (h : w.ownsRow base T 1 (.slice A L.length c) L.length (L.map (Value.int .i64))) (hi : ∀ x ∈ L, I64 x) (hl : L.length * 8 ≤ 140737488351232) : Rd w w.heap.size A L := by
  by_cases h0 : L.length = 0
  · rw [List.length_eq_zero_iff] at h0
    subst h0
    exact Rd.nil _ _ _
  · obtain ⟨g, cap, e, hg, hP⟩ := ownP_of_row h (by omega)
    cases e
    exact hP.rd hi hl hP.lt
end Go.Proofs.Ytkoipecnmijfoaa
end

section
/-! Lists of slices in the making. No statement about the program. -/
namespace Go.Proofs.Ytkoipecnmijfoaa
open Go.RowKit
set_option linter.unusedVariables false

/-- the values vs are slices that read as the lists F -/
def VRows (w : World) (vs : List Value) (F : List (List Int)) : Prop :=
  vs.length = F.length ∧ ∀ (i : Nat) (L : List Int), F[i]? = some L → ∃ A c, vs[i]? = some (.slice A L.length c) ∧ Rd w w.heap.size A L
section
variable {w w' : World} {vs : List Value} {F : List (List Int)}
theorem VRows.nil (w : World) : VRows w [] [] := ⟨rfl, by simp⟩
theorem VRows.below (h : VRows w vs F) (hb : Below w.heap.size w w') : VRows w' vs F :=
  ⟨h.1, fun i L hi => by
    obtain ⟨A, c, h1, h2⟩ := h.2 i L hi
    exact ⟨A, c, h1, (h2.below hb (Nat.le_refl _)).more hb.size⟩⟩
theorem VRows.snoc (h : VRows w vs F) {A : Option Addr} {L : List Int} {c : Nat} (hr : Rd w w.heap.size A L) : VRows w (vs ++ [.slice A L.length c]) (F ++ [L]) := by
  refine ⟨by simp [h.1], fun i M hi => ?_⟩
  rcases Nat.lt_or_ge i F.length with hlt | hge
  · rw [List.getElem?_append_left hlt] at hi
    obtain ⟨A', c', h1, h2⟩ := h.2 i M hi
    exact ⟨A', c', by rw [List.getElem?_append_left (by rw [h.1]; exact hlt)]; exact h1, h2⟩
  · rw [List.getElem?_append_right hge] at hi
    have hi0 : i - F.length = 0 := by
      rcases Nat.eq_zero_or_pos (i - F.length) with h0 | h0
      · exact h0
      · rw [List.getElem?_eq_none (by simp; omega)] at hi; cases hi
    rw [hi0] at hi
    cases hi
    exact ⟨A, c, by rw [List.getElem?_append_right (by rw [h.1]; exact hge), h.1, hi0]; rfl, hr⟩
end
theorem Rd.keepA {w w' : World} {B C : Nat} {A : Option Addr} {L : List Int} (h : Rd w B A L) (hC : B ≤ C) (hk : ∀ p, A = some p → p.block < B → w'.heap[p.block]? = w.heap[p.block]?) : Rd w' C A L :=
  ⟨h.1, h.2.1, fun hn => by
    obtain ⟨b, off, e, hb, hc⟩ := h.2.2 hn
    exact ⟨b, off, e, by omega, fun i x hx => (World.cell?_of_block (w := w) (w' := w') (a := ⟨b, off + i, none⟩) (hk ⟨b, off, none⟩ e hb)).trans (hc i x hx)⟩⟩
/-- the same, none of them in the block of f -/
def VRowsN (w : World) (f : Value) (vs : List Value) (F : List (List Int)) : Prop :=
  vs.length = F.length ∧ ∀ (i : Nat) (L : List Int), F[i]? = some L → ∃ A c, vs[i]? = some (.slice A L.length c) ∧ Rd w w.heap.size A L ∧ (0 < L.length → ∀ p, A = some p → f.ownBlock ≠ some p.block)
section
variable {w w' : World} {f f' : Value} {vs : List Value} {F : List (List Int)}
theorem VRowsN.nil (w : World) (f : Value) : VRowsN w f [] [] := ⟨rfl, by simp⟩
theorem VRowsN.rows (h : VRowsN w f vs F) : VRows w vs F := ⟨h.1, fun i L hi => by
  obtain ⟨A, c, h1, h2, _⟩ := h.2 i L hi
  exact ⟨A, c, h1, h2⟩⟩
theorem VRowsN.below (h : VRowsN w f vs F) (hb : Below w.heap.size w w') : VRowsN w' f vs F :=
  ⟨h.1, fun i L hi => by
    obtain ⟨A, c, h1, h2, h3⟩ := h.2 i L hi
    exact ⟨A, c, h1, (h2.below hb (Nat.le_refl _)).more hb.size, h3⟩⟩
theorem VRowsN.snoc (h : VRowsN w f vs F) {A : Option Addr} {L : List Int} {c : Nat} (hr : Rd w w.heap.size A L) (hn : ∀ p, A = some p → f.ownBlock ≠ some p.block) : VRowsN w f (vs ++ [.slice A L.length c]) (F ++ [L]) := by
  refine ⟨by simp [h.1], fun i M hi => ?_⟩
  rcases Nat.lt_or_ge i F.length with hlt | hge
  · rw [List.getElem?_append_left hlt] at hi
    obtain ⟨A', c', h1, h2, h3⟩ := h.2 i M hi
    exact ⟨A', c', by rw [List.getElem?_append_left (by rw [h.1]; exact hlt)]; exact h1, h2, h3⟩
  · rw [List.getElem?_append_right hge] at hi
    have hi0 : i - F.length = 0 := by
      rcases Nat.eq_zero_or_pos (i - F.length) with h0 | h0
      · exact h0
      · rw [List.getElem?_eq_none (by simp; omega)] at hi; cases hi
    rw [hi0] at hi
    cases hi
    exact ⟨A, c, by rw [List.getElem?_append_right (by rw [h.1]; exact hge), h.1, hi0]; rfl, hr, fun _ => hn⟩
/-- behind an append onto f -/
theorem VRowsN.grown (h : VRowsN w f vs F) (hg : w.grownBy w' f.ownBlock) (hat : f'.ownBlock = f.ownBlock ∨ f'.ownBlock = some w.heap.size) : VRowsN w' f' vs F :=
  ⟨h.1, fun i L hi => by
    obtain ⟨A, c, h1, h2, h3⟩ := h.2 i L hi
    refine ⟨A, c, h1, ⟨h2.1, h2.2.1, fun h0 => ?_⟩, fun h0 p hp => ?_⟩
    · exact (h2.keepA hg.size (fun p hp hlt => hg.block _ hlt (Ne.symm (h3 h0 p hp)))).2.2 h0
    · obtain ⟨b, off, e, hb, _⟩ := h2.2.2 h0
      rw [e] at hp
      cases hp
      rcases hat with ha | ha
      · rw [ha]; exact h3 h0 _ e
      · rw [ha]; intro hh; injection hh with hh; simp at hh; omega⟩
end
/-- one cell in a new block -/
theorem new_one (w : World) (v : Value) (T : Nat) : ∀ (j : Nat) (u : Value), [v][j]? = some u → (w.alloc (.cells #[v] T)).cell? ((⟨w.heap.size, 0, none⟩ : Addr).add j) = some u := by
  intro j u hu
  rw [addr_add]
  cases j with
  | zero => simp at hu; subst hu; exact (cell_of_row _ _ 0 _ T (0, 0) (heap_alloc_new _ _)).trans rfl
  | succ j => simp at hu
theorem rd2_of_row {w : World} {base T : Nat} {A : Option Addr} {c : Nat} {F : List (List Int)} {vs : List Value}
    (ho : w.ownsRow base T 1 (.slice A F.length c) F.length vs) (hv : VRows w vs F) (hl : F.length * 24 ≤ 140737488351232) : Rd2 w w.heap.size A F := by
  refine ⟨hl, fun hn => ?_⟩
  obtain ⟨g, cap, e, _, hlt⟩ := ho.form hn
  cases e
  refine ⟨g, 0, rfl, hlt, fun i L hi => ?_⟩
  obtain ⟨A', c', h1, h2⟩ := hv.2 i L hi
  refine ⟨A', c', ?_, h2⟩
  have := ho.cells (g := g) rfl i _ h1
  rw [addr_add] at this
  rw [Nat.mul_one]
  exact this
/-- what comes out: lists, a list, an error -/
def RunRes (w : World) (r : Int × List (List Int) × List Int) (e : Ending) (w' : World) : Prop :=
  ∃ A c A' c', e = .returned (.tuple #[.slice A r.2.1.length c, .slice A' r.2.2.length c', .int .i64 r.1]) ∧ Rd2 w' w'.heap.size A r.2.1 ∧ Rd w' w'.heap.size A' r.2.2 ∧ Below w.heap.size w w'
end Go.Proofs.Ytkoipecnmijfoaa
end

section
/-! Appending a slice of slices, nil or not. No statement about the program. -/
namespace Go.Proofs.Ytkoipecnmijfoaa
open Go.RowKit
set_option linter.unusedVariables false

theorem append_none_run {P : Program} (w : World) (base : Nat) (t ty e : TypeId) (i : TypeInfo) (size : Nat) (ht : P.underlying t = some (.slice e)) (hi : P.info? e = some i)
    (v : Value) (n : Nat) (xs : List Value) (hown : w.ownsRow base e size v n xs) (c : Nat) : (Builtin.append_ #[t, t] ty #[v, .slice none 0 c]).run P w = .ok v w := by
  rcases hown.2 with ⟨h1, h2⟩ | ⟨g, cap, cur, h1, _, _, hnc, _⟩
  · subst h1; subst h2
    simp [Builtin.append_, run_underlying ht, sizeOf, typeInfo, hi, Builtin.lenOf, Builtin.firstCells]
  · subst h1
    simp [Builtin.append_, run_underlying ht, sizeOf, typeInfo, hi, Builtin.lenOf, Builtin.firstCells, hnc, storeCells]
/-- append of a slice that came from somewhere: nil, empty or not -/
theorem wpList_append_opt {P : Program} {w : World} {ops : Array Oper} {rest : List Oper} {o : Oper} {a : Act} {Q : Exit → Act → World → Prop} (hgd : o.guard = none) (s x : Operand) (t : TypeId)
    (ho : o.op = .call { callee := .builtin .append, args := #[s, x], argTypes := #[t, t] })
    (base : Nat) (e : TypeId) (i : TypeInfo) (z : Value) (size bytes : Nat) (ht : P.underlying t = some (.slice e)) (hi : P.info? e = some i) (hz : i.zero = some z)
    (hsize : i.size = size) (hby : i.bytes = bytes) (hzs : z.cells.size = size) (hsz : 0 < size)
    (v : Value) (n : Nat) (xs : List Value) (hs : a.eval s = v) (hown : w.ownsRow base e size v n xs)
    (A : Option Addr) (m c : Nat) (news : List Value) (hx : a.eval x = .slice A m c) (hl : news.length = m * size) (hA : A = none → m = 0) (hnews : ∀ ad, A = some ad → ∀ j u, news[j]? = some u → w.cell? (ad.add j) = some u) (h1 : ∀ u ∈ news, u.oneCell' = true)
    (h63 : n + m ≤ maxLen) (hbytes : (n + m) * bytes ≤ 140737488355328) (hbase : base ≤ w.heap.size)
    (h : ∀ v' w', w'.ownsRow base e size v' (n + m) (xs ++ news) → w.grownBy w' v.ownBlock → (v'.ownBlock = v.ownBlock ∨ v'.ownBlock = some w.heap.size) → wpList P ops Q rest (a.put o.dst v') w') :
    wpList P ops Q (o :: rest) a w := by
  rcases A with _ | ad
  · have hm := hA rfl
    subst hm
    have hn : news = [] := List.eq_nil_of_length_eq_zero (by simpa using hl)
    subst hn
    refine wpList_plain hgd fun K hK => ?_
    have hrun := append_none_run (P := P) w base t o.type e i size ht hi v n xs hown c
    unfold Oper.wp
    simp [execOp, ho, resolve, invoke, builtin, hs, hx, hrun, Result.andThen]
    exact hK _ _ (h v w (by simpa using hown) (World.grownBy.refl w _) (.inl rfl))
  · exact wpList_append_own_at w hgd s x t ho base e i z size bytes ht hi hz hsize hby hzs hsz v n xs hs hown ad m c news hx hl (hnews ad rfl) h1 h63 hbytes hbase (fun v' w' h2 h3 _ h5 => h v' w' h2 h3 h5)

/-- the values in a slice of slices -/
theorem rd2_vals {w : World} {B : Nat} {A : Option Addr} {F : List (List Int)} (h : Rd2 w B A F) : ∃ vs : List Value, vs.length = F.length ∧ (A = none → F.length = 0)
    ∧ (∀ (i : Nat) (L : List Int), F[i]? = some L → ∃ A1 c, vs[i]? = some (.slice A1 L.length c) ∧ Rd w B A1 L)
    ∧ (∀ ad, A = some ad → ∀ j u, vs[j]? = some u → w.cell? (ad.add j) = some u) := by
  rcases Nat.eq_zero_or_pos F.length with h0 | h0
  · have hF : F = [] := List.length_eq_zero_iff.1 h0
    subst hF
    exact ⟨[], rfl, fun _ => rfl, by simp, by simp⟩
  · obtain ⟨b, off, rfl, hb, hc⟩ := h.2 h0
    have each : ∀ i, i < F.length → ∃ v : Value, ∃ A1 c, v = .slice A1 (F.getD i []).length c ∧ w.cell? ⟨b, off + i, none⟩ = some v ∧ Rd w B A1 (F.getD i []) := by
      intro i hi
      obtain ⟨A1, c, h1, h2⟩ := hc i (F.getD i []) (by rw [List.getD_eq_getElem?_getD, List.getElem?_eq_getElem hi]; rfl)
      rw [Nat.mul_one] at h1
      exact ⟨_, A1, c, rfl, h1, h2⟩
    obtain ⟨f, hf⟩ := Go.Deep.choose_lt (α := Value) (h := each)
    refine ⟨(List.range F.length).map f, by simp, (fun h => by cases h), ?_, ?_⟩
    · intro i L hi
      have hlt := (List.getElem?_eq_some_iff.1 hi).1
      obtain ⟨A1, c, e1, _, h2⟩ := hf i hlt
      have hL : F.getD i [] = L := by rw [List.getD_eq_getElem?_getD, hi]; rfl
      rw [hL] at e1 h2
      exact ⟨A1, c, by rw [List.getElem?_map, List.getElem?_range hlt, ← e1]; rfl, h2⟩
    · intro ad had j u hu
      cases had
      rw [List.getElem?_map] at hu
      rcases Nat.lt_or_ge j F.length with hlt | hge
      · rw [List.getElem?_range hlt] at hu
        obtain ⟨A1, c, e1, h1, _⟩ := hf j hlt
        simp only [Option.map_some, Option.some.injEq] at hu
        rw [addr_add, ← hu]
        exact h1
      · rw [List.getElem?_eq_none (by simpa using hge)] at hu
        cases hu
theorem cell_kept {w w' : World} {B : Nat} (hb : Below B w w') (hB : w.heap.size ≤ B) {p : Addr} {u : Value} (h : w.cell? p = some u) : w'.cell? p = some u :=
  (hb.cell (Nat.lt_of_lt_of_le (World.block_lt_of_cell? _ _ h) hB)).trans h
/-- rows that lie below the block of f -/
theorem VRowsN.of_vals {w : World} {f : Value} {B : Nat} {vs : List Value} {F : List (List Int)} (hl : vs.length = F.length) (h : ∀ (i : Nat) (L : List Int), F[i]? = some L → ∃ A1 c, vs[i]? = some (.slice A1 L.length c) ∧ Rd w B A1 L)
    (hB : B ≤ w.heap.size) (hf : ∀ g, f.ownBlock = some g → B ≤ g) : VRowsN w f vs F :=
  ⟨hl, fun i L hi => by
    obtain ⟨A1, c, h1, h2⟩ := h i L hi
    refine ⟨A1, c, h1, h2.more hB, fun h0 p hp hq => ?_⟩
    obtain ⟨b, off, e, hb, _⟩ := h2.2.2 h0
    rw [e] at hp
    cases hp
    have := hf _ hq
    simp only at this
    omega⟩
theorem VRowsN.append {w : World} {f : Value} {vs us : List Value} {F G : List (List Int)} (h : VRowsN w f vs F) (h' : VRowsN w f us G) : VRowsN w f (vs ++ us) (F ++ G) := by
  refine ⟨by simp [h.1, h'.1], fun i L hi => ?_⟩
  rcases Nat.lt_or_ge i F.length with hlt | hge
  · rw [List.getElem?_append_left hlt] at hi
    obtain ⟨A', c', h1, h2⟩ := h.2 i L hi
    exact ⟨A', c', by rw [List.getElem?_append_left (by rw [h.1]; exact hlt)]; exact h1, h2⟩
  · rw [List.getElem?_append_right hge] at hi
    obtain ⟨A', c', h1, h2⟩ := h'.2 _ L hi
    exact ⟨A', c', by rw [List.getElem?_append_right (by rw [h.1]; exact hge), h.1]; exact h1, h2⟩
theorem VRowsN.one {w : World} {f : Value} {vs : List Value} {F : List (List Int)} (h : VRowsN w f vs F) : ∀ u ∈ vs, u.oneCell' = true := by
  intro u hu
  obtain ⟨i, hi⟩ := List.getElem?_of_mem hu
  have hlt := (List.getElem?_eq_some_iff.1 hi).1
  rw [h.1] at hlt
  obtain ⟨A', c', h1, _⟩ := h.2 i F[i] (by simp [hlt])
  rw [hi] at h1
  cases h1
  rfl
/-- the rest of a slice of holidays -/
theorem RdH.drop {w : World} {B : Nat} {A : Option Addr} {L : List (Int × List Int)} (h : RdH w B A L) {k : Nat} {A' : Option Addr} (hA : k < L.length → ∀ b off, A = some ⟨b, off, none⟩ → A' = some ⟨b, off + k * 2, none⟩) : RdH w B A' (L.drop k) := by
  refine ⟨?_, fun hn => ?_⟩
  · have := h.1
    rw [List.length_drop]
    omega
  · rw [List.length_drop] at hn
    obtain ⟨b, off, e, hb, hc⟩ := h.2 (by omega)
    refine ⟨b, off + k * 2, hA (by omega) b off e, hb, fun i x hx => ?_⟩
    rw [List.getElem?_drop] at hx
    have := hc _ x hx
    rw [Nat.add_mul, ← Nat.add_assoc] at this
    exact this
theorem RdH.take {w : World} {B : Nat} {A : Option Addr} {L : List (Int × List Int)} (h : RdH w B A L) (k : Nat) : RdH w B A (L.take k) := by
  refine ⟨?_, fun hn => ?_⟩
  · have := h.1
    rw [List.length_take]
    omega
  · rw [List.length_take] at hn
    obtain ⟨b, off, e, hb, hc⟩ := h.2 (by omega)
    refine ⟨b, off, e, hb, fun i x hx => hc i x ?_⟩
    rw [List.getElem?_take] at hx
    split at hx
    · exact hx
    · cases hx
theorem takeA_succ {α : Type} {L : List α} {k : Nat} {x : α} (h : L[k]? = some x) : L.take (k + 1) = L.take k ++ [x] := by
  rw [List.take_add_one, h]; rfl
end Go.Proofs.Ytkoipecnmijfoaa
end

section
/-! Walks of slices.IndexFunc and slices.ContainsFunc over []int. -/
namespace Go.Proofs.Ytkoipecnmijfoaa
open Go.RowKit
set_option linter.unusedVariables false

/-- the place of the first element that p takes, counted from k; -1 if there is none -/
def fIdx (p : Int → Bool) : List Int → Int → Int
  | [], _ => -1
  | x :: t, k => if p x then k else fIdx p t (k + 1)
theorem fIdx_yes {p : Int → Bool} {x k : Int} {t : List Int} (h : p x = true) : fIdx p (x :: t) k = k := by rw [fIdx, if_pos h]
theorem fIdx_no {p : Int → Bool} {x k : Int} {t : List Int} (h : p x = false) : fIdx p (x :: t) k = fIdx p t (k + 1) := by rw [fIdx, if_neg (by simp [h])]
theorem fIdx_any {p : Int → Bool} : ∀ {L : List Int} {k : Int}, 0 ≤ k → decide (0 ≤ fIdx p L k) = L.any p
  | [], k, hk => by simp [fIdx]
  | x :: t, k, hk => by
    by_cases h : p x = true
    · rw [fIdx_yes h]; simp [h, hk]
    · have h' : p x = false := by simpa using h
      rw [fIdx_no h', fIdx_any (by omega)]; simp [h']

set_option maxHeartbeats 400000 in
theorem indexFunc {w : World} {B : Nat} {A : Option Addr} {L : List Int} {cap : Nat} (h : Rd w B A L) (F : Nat) (caps : Array Value) (p : Int → Bool)
    (hF : ∀ args (u : World), (callFunc F args).run Try.prog u = .ok (.enter F args) u)
    (hp : ∀ x, I64 x → Calls Try.prog F (#[.int .i64 x] ++ caps) w fun e w' => e = .returned (.bool (p x)) ∧ w = w') :
    Calls Try.prog 44 #[.slice A L.length cap, .func (.func F) #[] caps] w fun e w' => e = .returned (.int .i64 (fIdx p L 0)) ∧ w = w' := by
  have hlen := h.len
  have H := Lib.hid h; clear h
  have HP := Lib.hid hp; clear hp
  go_enter Try.func44, Try.ntmps44
  go_wp2
  go_loop [5, 8] (fun _ i => ∃ (k : Nat), k ≤ L.length ∧ i = .int .i64 k ∧ Hid (fIdx p (L.drop k) k = fIdx p L 0)) (fun _ i => L.length - (intOf i).toNat)
  case atStart => exact ⟨0, by omega, rfl, Lib.hid (by simp)⟩
  case round =>
    obtain ⟨k, hk, rfl, hr⟩ := hrel
    by_cases hlt : k < L.length
    · obtain ⟨b, off, x, rfl, hb, hx, hi, hc⟩ := H.out.at_ hlt
      have HI := Lib.hid hi; clear hi
      have HX := Lib.hid hx; clear hx
      go_wp2_with fail
      refine (HP.out x HI.out).mono ?_
      rintro e w' ⟨rfl, rfl⟩
      by_cases hpx : p x = true
      · go_wp2
        go_ret
        exact ⟨ret_int (by rw [← hr.out, drop_of HX.out, fIdx_yes hpx]), rfl⟩
      · have hpf : p x = false := by simpa using hpx
        go_wp2
        go_round
        case rel => exact ⟨k + 1, by omega, by go_num, Lib.hid (by rw [← hr.out, drop_of HX.out, fIdx_no hpf]; rfl)⟩
        case measure => simp [intOf]; omega
    · go_wp2
      go_ret
      exact ⟨ret_int (by rw [← hr.out, drop_end (by omega)]; rfl), rfl⟩

theorem containsFunc {w : World} {B : Nat} {A : Option Addr} {L : List Int} {cap : Nat} (h : Rd w B A L) (F : Nat) (caps : Array Value) (p : Int → Bool)
    (hF : ∀ args (u : World), (callFunc F args).run Try.prog u = .ok (.enter F args) u)
    (hp : ∀ x, I64 x → Calls Try.prog F (#[.int .i64 x] ++ caps) w fun e w' => e = .returned (.bool (p x)) ∧ w = w') :
    Calls Try.prog 30 #[.slice A L.length cap, .func (.func F) #[] caps] w fun e w' => e = .returned (.bool (L.any p)) ∧ w = w' := by
  have C := indexFunc (cap := cap) h F caps p hF hp
  have hany : decide (0 ≤ fIdx p L 0) = L.any p := fIdx_any (by omega)
  have HA := Lib.hid hany
  clear hany h hp hF
  generalize fIdx p L 0 = i at *
  go_enter Try.func30, Try.ntmps30
  go_wp2_with (go_at_call 44; refine C.mono ?_; rintro e w' ⟨rfl, rfl⟩)
  go_ret
  exact ⟨ret_bool HA.out, rfl⟩
end Go.Proofs.Ytkoipecnmijfoaa
end

section
/-! Walks of chapter 33: both Checks, looked, Bids, ahead, Place. -/
namespace Go.Proofs.Ytkoipecnmijfoaa
open Go.RowKit Go.Deep
set_option linter.unusedVariables false
set_option maxRecDepth 100000

def badCredit (x : Int) : Prop := x < -1000000 ∨ 1000000 < x
instance (x : Int) : Decidable (badCredit x) := by unfold badCredit; infer_instance
def hckGo (n : Nat) : Int → List Int → Int
  | s, [] => if n = 0 ∨ s ≠ 0 then 8 else 0
  | s, x :: t => if badCredit x then 8 else hckGo n (s + x) t
def hck (C : List Int) : Int := if 12 < C.length then 4 else hckGo C.length 0 C
theorem hckGo_bad {n : Nat} {s x : Int} {t : List Int} (h : badCredit x) : hckGo n s (x :: t) = 8 := by rw [hckGo, if_pos h]
theorem hckGo_ok {n : Nat} {s x : Int} {t : List Int} (h : ¬ badCredit x) : hckGo n s (x :: t) = hckGo n (s + x) t := by rw [hckGo, if_neg h]
def sumI : List Int → Int
  | [] => 0
  | x :: t => x + sumI t
theorem hckGo_zero {n : Nat} : ∀ {L : List Int} {s : Int}, hckGo n s L = 0 → (∀ x ∈ L, ¬ badCredit x) ∧ n ≠ 0 ∧ s + sumI L = 0
  | [], s, h => by
    simp only [hckGo] at h
    split at h
    · exact absurd h (by decide)
    · exact ⟨by simp, by omega, by simp [sumI]; omega⟩
  | x :: t, s, h => by
    by_cases hb : badCredit x
    · rw [hckGo_bad hb] at h; exact absurd h (by decide)
    · rw [hckGo_ok hb] at h
      obtain ⟨h1, h2, h3⟩ := hckGo_zero h
      refine ⟨?_, h2, by simp only [sumI]; omega⟩
      intro y hy
      rcases List.mem_cons.1 hy with rfl | hy
      · exact hb
      · exact h1 y hy
/-- credits without error -/
structure VC (C : List Int) : Prop where
  one : 1 ≤ C.length
  twelve : C.length ≤ 12
  bd : ∀ x ∈ C, -1000000 ≤ x ∧ x ≤ 1000000
  sum : sumI C = 0
theorem hck_ok {C : List Int} (h : hck C = 0) : VC C := by
  unfold hck at h
  split at h
  · exact absurd h (by decide)
  · obtain ⟨h1, h2, h3⟩ := hckGo_zero h
    exact ⟨by omega, by omega, fun x hx => by have := h1 x hx; unfold badCredit at this; omega, by omega⟩
theorem hck_many {C : List Int} (h : 12 < C.length) : hck C = 4 := by rw [hck, if_pos h]
theorem hck_go {C : List Int} (h : ¬ 12 < C.length) : hckGo C.length 0 C = hck C := by rw [hck, if_neg h]

set_option maxHeartbeats 1000000 in
theorem hCheck {w : World} {B : Nat} {A : Option Addr} {L : List Int} {cap : Nat} (h : Rd w B A L) :
    Calls Try.prog 54 #[.slice A L.length cap] w fun e w' => e = .returned (.int .i64 (hck L)) ∧ w = w' := by
  have hlen := h.len
  have H := Lib.hid h; clear h
  by_cases hm : 12 < L.length
  · have hfin := Lib.hid (hck_many hm)
    go_enter Try.func54, Try.ntmps54
    go_wp2
    go_ret
    exact ⟨ret_int hfin.out.symm, rfl⟩
  · have hfin := Lib.hid (hck_go hm)
    go_enter Try.func54, Try.ntmps54
    go_wp2
    go_loop [3, 11] (fun l i => ∃ (k : Nat) (s : Int), k ≤ L.length ∧ -1000000 * (k : Int) ≤ s ∧ s ≤ 1000000 * (k : Int) ∧ i = .int .i64 k ∧ l = .int .i64 s ∧ Hid (hckGo L.length s (L.drop k) = hck L)) (fun _ i => L.length - (intOf i).toNat)
    case atStart => exact ⟨0, 0, by omega, by omega, by omega, rfl, rfl, by simpa using hfin⟩
    case round =>
      obtain ⟨k, s, hk, hl0, hl1, rfl, rfl, hr⟩ := hrel
      by_cases hlt : k < L.length
      · obtain ⟨b, off, x, rfl, hb, hx, hi, hc⟩ := H.out.at_ hlt
        have HI := Lib.hid hi; clear hi
        have HX := Lib.hid hx; clear hx
        by_cases h1 : x < -1000000
        · go_wp2
          go_ret
          exact ⟨ret_int (by rw [← hr.out, drop_of HX.out, hckGo_bad (.inl h1)]), rfl⟩
        · by_cases h2 : 1000000 < x
          · go_wp2
            go_ret
            exact ⟨ret_int (by rw [← hr.out, drop_of HX.out, hckGo_bad (.inr h2)]), rfl⟩
          · go_wp2
            go_round
            case rel => exact ⟨k + 1, s + x, by omega, by omega, by omega, by go_num, rfl, Lib.hid (by rw [← hr.out, drop_of HX.out, hckGo_ok (by unfold badCredit; omega)])⟩
            case measure => simp [intOf]; omega
      · have hk' : L.length ≤ k := by omega
        have hend := hr.out
        rw [drop_end hk'] at hend
        have HE := Lib.hid hend
        clear hend
        by_cases h0 : L.length = 0
        · have d0 : ((L.length : Int) == 0) = true := beq_iff_eq.2 (by omega)
          have d1 : (L.length == 0) = true := beq_iff_eq.2 h0
          have H0 := Lib.hid h0
          clear h0
          go_wp2
          go_ret
          exact ⟨ret_int (by rw [← HE.out, hckGo, if_pos (.inl H0.out)]), rfl⟩
        · have d0 : ((L.length : Int) == 0) = false := beq_eq_false_iff_ne.2 (by omega)
          have d1 : (L.length == 0) = false := beq_eq_false_iff_ne.2 h0
          by_cases hs : s = 0
          · have d2 : (s != 0) = false := by simpa using hs
            have HS := Lib.hid hs
            clear hs
            go_wp2
            go_ret
            exact ⟨ret_int (by rw [← HE.out, hckGo, if_neg (by have := HS.out; omega)]), rfl⟩
          · have d2 : (s != 0) = true := by simpa using hs
            go_wp2
            go_ret
            exact ⟨ret_int (by rw [← HE.out, hckGo, if_pos (.inr hs)]), rfl⟩

def badBid (o : Int) : Bool := decide (o < 0) || decide (1000000 < o)
def hlk (L O : List Int) : Int := if hck L ≠ 0 then hck L else if O.length ≠ L.length ∨ O.any badBid = true then 8 else 0
theorem hLooked1 {w : World} (x : Int) :
    Calls Try.prog 55 #[.int .i64 x] w fun e w' => e = .returned (.bool (badBid x)) ∧ w = w' := by
  by_cases h1 : x < 0
  · go_enter Try.func55, Try.ntmps55
    go_wp2
    go_ret
    exact ⟨ret_bool (by simp [badBid, h1]), rfl⟩
  · by_cases h2 : 1000000 < x
    all_goals
      go_enter Try.func55, Try.ntmps55
      go_wp2
      go_ret
      exact ⟨ret_bool (by simp [badBid, h1, h2]), rfl⟩
theorem hlk_chk {L O : List Int} (h : hck L ≠ 0) : hlk L O = hck L := by rw [hlk, if_pos h]
theorem hlk_len {L O : List Int} (h : hck L = 0) (h2 : O.length ≠ L.length) : hlk L O = 8 := by rw [hlk, if_neg (by simp [h]), if_pos (.inl h2)]
theorem hlk_any {L O : List Int} (h : hck L = 0) (h2 : O.any badBid = true) : hlk L O = 8 := by rw [hlk, if_neg (by simp [h]), if_pos (.inr h2)]
theorem hlk_yes {L O : List Int} (h : hck L = 0) (h2 : O.length = L.length) (h3 : O.any badBid = false) : hlk L O = 0 := by rw [hlk, if_neg (by simp [h]), if_neg (by simp [h2, h3])]
/-- credits and bids without error -/
structure VB (C B : List Int) : Prop where
  v : VC C
  len : B.length = C.length
  bd : ∀ x ∈ B, 0 ≤ x ∧ x ≤ 1000000
theorem hlk_ok {L O : List Int} (h : hlk L O = 0) : VB L O := by
  unfold hlk at h
  split at h
  · contradiction
  · rename_i h0
    split at h
    · exact absurd h (by decide)
    · rename_i h1
      refine ⟨hck_ok (by simpa using h0), by omega, fun x hx => ?_⟩
      have h2 : O.any badBid = false := by
        cases hb : O.any badBid
        · rfl
        · exact absurd (.inr hb) h1
      have := List.any_eq_false.1 h2 x hx
      simp [badBid] at this
      omega
theorem hlk_hck {L O : List Int} (h : hlk L O = 0) : hck L = 0 := by
  rcases Decidable.em (hck L = 0) with h2 | h2
  · exact h2
  · rw [hlk_chk h2] at h; exact absurd h h2

theorem hLooked {w : World} {B C : Nat} {A A' : Option Addr} {L O : List Int} {cap cap' : Nat} (h : Rd w B A L) (h' : Rd w C A' O) :
    Calls Try.prog 45 #[.slice A L.length cap, .slice A' O.length cap'] w fun e w' => e = .returned (.int .i64 (hlk L O)) ∧ w = w' := by
  have C1 := hCheck (cap := cap) h
  have C2 := containsFunc (cap := cap') h' 55 #[] badBid (fun args u => by kernel_rfl) (fun x _ => by simpa using hLooked1 x)
  have l1 := h.len
  have l2 := h'.len
  clear h h'
  by_cases hc : hck L = 0
  · by_cases hl : O.length = L.length
    · have hfin : Hid (∀ b, O.any badBid = b → hlk L O = if b then 8 else 0) := Lib.hid (by intro b hb; cases b; exact hlk_yes hc hl hb; exact hlk_any hc hb)
      rw [hc] at C1
      have HL := Lib.hid hl; clear hl
      clear hc
      have hb : ((O.length : Int) != (L.length : Int)) = false := by rw [HL.out]; simp
      cases ha : O.any badBid
      all_goals
        rw [ha] at C2
        have HF := Lib.hid (hfin.out _ ha)
        clear ha hfin
        go_enter Try.func45, Try.ntmps45
        go_wp2_with (first | (go_at_call 54; refine C1.mono ?_; rintro e w' ⟨rfl, rfl⟩) | (go_at_call 30; refine C2.mono ?_; rintro e w' ⟨rfl, rfl⟩))
        go_ret
        exact ⟨ret_int (by rw [HF.out]; rfl), rfl⟩
    · have hfin := Lib.hid (hlk_len hc hl)
      rw [hc] at C1
      clear hc
      have hb : ((O.length : Int) != (L.length : Int)) = true := by simp; omega
      go_enter Try.func45, Try.ntmps45
      go_wp2_with (go_at_call 54; refine C1.mono ?_; rintro e w' ⟨rfl, rfl⟩)
      go_ret
      exact ⟨ret_int hfin.out.symm, rfl⟩
  · have hfin := Lib.hid (hlk_chk (O := O) hc)
    have hb : (hck L != 0) = true := by simpa using hc
    clear hc
    generalize hck L = c at *
    go_enter Try.func45, Try.ntmps45
    go_wp2_with (go_at_call 54; refine C1.mono ?_; rintro e w' ⟨rfl, rfl⟩)
    go_ret
    exact ⟨ret_int hfin.out.symm, rfl⟩

def bidsOk (O : List Int) (n : Int) : Bool := !O.any badBid && decide ((O.length : Int) = n)
theorem anyB_no {O : List Int} {k : Nat} {x : Int} (h : O[k]? = some x) (hb : badBid x = false) : (O.drop (k + 1)).any badBid = (O.drop k).any badBid := by
  rw [drop_of h]; simp [hb]
theorem anyB_yes {O : List Int} {k : Nat} {x : Int} (h : O[k]? = some x) (hb : badBid x = true) : (O.drop k).any badBid = true := by
  rw [drop_of h]; simp [hb]
end Go.Proofs.Ytkoipecnmijfoaa
end

section
/-! Walks of chapter 33: the reference's ahead and Place. -/
namespace Go.Proofs.Ytkoipecnmijfoaa
open Go.RowKit Go.Deep
set_option linter.unusedVariables false
set_option maxRecDepth 100000

def ahdV (x y u v : Int) (a b : Nat) : Bool := if x ≠ y then decide (y < x) else if u ≠ v then decide (v < u) else decide (a < b)
/-- a is ranked ahead of b -/
def ahd (C B : List Int) (a b : Nat) : Bool := ahdV (B.getD a 0) (B.getD b 0) (C.getD a 0) (C.getD b 0) a b
theorem ahd_eq {C B : List Int} {a b : Nat} {x y u v : Int} (h1 : B[a]? = some x) (h2 : B[b]? = some y) (h3 : C[a]? = some u) (h4 : C[b]? = some v) :
    ahd C B a b = ahdV x y u v a b := by
  simp [ahd, List.getD, h1, h2, h3, h4]

/-- how many of the first k agents are ranked ahead of a -/
def plc (C B : List Int) (a k : Nat) : Nat := ((List.range k).filter fun i => decide (i ≠ a) && ahd C B i a).length
def place (C B : List Int) (a : Nat) : Nat := plc C B a B.length
theorem plc_le (C B : List Int) (a k : Nat) : plc C B a k ≤ k := by
  have := List.length_filter_le (fun i => decide (i ≠ a) && ahd C B i a) (List.range k)
  simpa [plc] using this
theorem plc_yes {C B : List Int} {a k : Nat} (h : k ≠ a) (h2 : ahd C B k a = true) : plc C B a (k + 1) = plc C B a k + 1 := by
  simp [plc, List.range_succ, List.filter_append, h, h2]
theorem plc_self {C B : List Int} {a k : Nat} (h : k = a) : plc C B a (k + 1) = plc C B a k := by
  simp [plc, List.range_succ, List.filter_append, h]
theorem plc_no {C B : List Int} {a k : Nat} (h2 : ahd C B k a = false) : plc C B a (k + 1) = plc C B a k := by
  simp [plc, List.range_succ, List.filter_append, h2]

end Go.Proofs.Ytkoipecnmijfoaa
end

section
/-! Plain law: the ranking is in order, and the place of an agent is where it stands in it. -/
namespace Go.Proofs.Ytkoipecnmijfoaa
set_option linter.unusedVariables false

theorem ahd_iff {C B : List Int} {a b : Nat} : ahd C B a b = true ↔
    (B.getD b 0 < B.getD a 0) ∨ (B.getD a 0 = B.getD b 0 ∧ (C.getD b 0 < C.getD a 0 ∨ (C.getD a 0 = C.getD b 0 ∧ a < b))) := by
  unfold ahd ahdV
  generalize B.getD a 0 = x
  generalize B.getD b 0 = y
  generalize C.getD a 0 = u
  generalize C.getD b 0 = v
  split
  · simp only [decide_eq_true_eq]; omega
  · split
    · simp only [decide_eq_true_eq]; omega
    · simp only [decide_eq_true_eq]; omega
def ahdI (C B : List Int) (a b : Int) : Bool := ahd C B a.toNat b.toNat
theorem ahdI_iff {C B : List Int} {a b : Int} : ahdI C B a b = true ↔
    (B.getD b.toNat 0 < B.getD a.toNat 0) ∨ (B.getD a.toNat 0 = B.getD b.toNat 0 ∧ (C.getD b.toNat 0 < C.getD a.toNat 0 ∨ (C.getD a.toNat 0 = C.getD b.toNat 0 ∧ a.toNat < b.toNat))) := ahd_iff
theorem ahdI_trans {C B : List Int} {a b c : Int} (h : ahdI C B a b = true) (h' : ahdI C B b c = true) : ahdI C B a c = true := by
  rw [ahdI_iff] at *
  omega
theorem ahdI_asymm {C B : List Int} {a b : Int} (h : ahdI C B a b = true) : ahdI C B b a = false := by
  cases hb : ahdI C B b a
  · rfl
  · rw [ahdI_iff] at h hb
    omega
theorem ahdI_irrefl (C B : List Int) (a : Int) : ahdI C B a a = false := by
  cases hb : ahdI C B a a
  · rfl
  · rw [ahdI_iff] at hb
    omega
theorem ltOf_iff {C B : List Int} {v x : Int} : ltOf (rkCmp C B) v x = true ↔ (B.getD x.toNat 0 < B.getD v.toNat 0) ∨ (B.getD x.toNat 0 = B.getD v.toNat 0 ∧ C.getD x.toNat 0 < C.getD v.toNat 0) := by
  unfold ltOf rkCmp orI cmpI
  simp only [decide_eq_true_eq]
  generalize B.getD x.toNat 0 = a
  generalize B.getD v.toNat 0 = b
  generalize C.getD x.toNat 0 = c
  generalize C.getD v.toNat 0 = d
  (repeat' split) <;> omega
theorem lt_ahd {C B : List Int} {v x : Int} (hx : 0 ≤ x) (h : x < v) : ltOf (rkCmp C B) v x = ahdI C B v x := by
  rw [Bool.eq_iff_iff, ltOf_iff, ahdI_iff]
  omega
theorem not_lt_ahd {C B : List Int} {v x : Int} (hx : 0 ≤ x) (h : x < v) (hl : ltOf (rkCmp C B) v x = false) : ahdI C B x v = true := by
  have h1 : ¬ (ltOf (rkCmp C B) v x = true) := by simp [hl]
  rw [ltOf_iff] at h1
  rw [ahdI_iff]
  omega
theorem insRev_pw {C B : List Int} {v : Int} : ∀ {X : List Int}, (∀ x ∈ X, 0 ≤ x ∧ x < v) → X.Pairwise (fun a b => ahdI C B b a = true) → (insRev (ltOf (rkCmp C B)) v X).Pairwise (fun a b => ahdI C B b a = true)
  | [], _, _ => by simp [insRev]
  | x :: t, hm, hp => by
    rw [List.pairwise_cons] at hp
    have hx := hm x (by simp)
    cases hl : ltOf (rkCmp C B) v x
    · rw [insRev_no hl, List.pairwise_cons, List.pairwise_cons]
      have hxv := not_lt_ahd hx.1 hx.2 hl
      refine ⟨?_, hp.1, hp.2⟩
      intro y hy
      rcases List.mem_cons.1 hy with rfl | hy
      · exact hxv
      · exact ahdI_trans (hp.1 y hy) hxv
    · rw [insRev_yes hl, List.pairwise_cons]
      refine ⟨?_, insRev_pw (fun y hy => hm y (List.mem_cons_of_mem _ hy)) hp.2⟩
      intro y hy
      rcases insRev_mem.1 hy with rfl | hy
      · rw [← lt_ahd hx.1 hx.2]; exact hl
      · exact hp.1 y hy
theorem iota_succ (n : Nat) : iota (n + 1) = iota n ++ [(n : Int)] := by simp [iota, List.range_succ]
theorem isRev_pw {C B : List Int} : ∀ n : Nat, (isRev (ltOf (rkCmp C B)) [] (iota n)).Pairwise (fun a b => ahdI C B b a = true)
  | 0 => by simp [iota, isRev]
  | n + 1 => by
    rw [iota_succ, isRev_snoc]
    refine insRev_pw ?_ (isRev_pw n)
    intro x hx
    rw [isRev_mem] at hx
    rcases hx with hx | hx
    · simp at hx
    · obtain ⟨a, rfl, ha⟩ := iota_mem.1 hx
      omega
theorem rkList_pw (C B : List Int) : (rkList C B).Pairwise (fun a b => ahdI C B a b = true) := by
  unfold rkList isort
  rw [List.pairwise_reverse]
  exact isRev_pw _
theorem insRev_perm (lt : Int → Int → Bool) (v : Int) : ∀ X : List Int, (insRev lt v X).Perm (v :: X)
  | [] => List.Perm.refl _
  | x :: t => by
    unfold insRev
    split
    · exact ((insRev_perm lt v t).cons x).trans (List.Perm.swap v x t)
    · exact List.Perm.refl _
theorem isRev_perm (lt : Int → Int → Bool) : ∀ (L R : List Int), (isRev lt R L).Perm (R ++ L)
  | [], R => by simp [isRev]
  | v :: t, R => by
    have h1 := isRev_perm lt t (insRev lt v R)
    have h2 : (insRev lt v R ++ t).Perm ((v :: R) ++ t) := (insRev_perm lt v R).append_right t
    have h3 : ((v :: R) ++ t).Perm (R ++ v :: t) := by
      rw [List.cons_append]
      exact List.perm_middle.symm
    exact (h1.trans h2).trans h3
theorem isort_perm (lt : Int → Int → Bool) (D : List Int) : (isort lt D).Perm D := by
  unfold isort
  exact (List.reverse_perm _).trans (by simpa using isRev_perm lt D [])
theorem rkList_perm (C B : List Int) : (rkList C B).Perm (iota B.length) := isort_perm _ _
theorem countP_iota (p : Int → Bool) (n : Nat) : (iota n).countP p = ((List.range n).filter fun (k : Nat) => p (k : Int)).length := by
  rw [iota, List.countP_map, List.countP_eq_length_filter]; rfl
theorem count_split {C B : List Int} {X Y : List Int} {i : Int} (h : (X ++ i :: Y).Pairwise (fun a b => ahdI C B a b = true)) :
    (X ++ i :: Y).countP (fun j => decide (j ≠ i) && ahdI C B j i) = X.length := by
  rw [List.pairwise_append, List.pairwise_cons] at h
  obtain ⟨hX, ⟨hi, hY⟩, hXY⟩ := h
  rw [List.countP_append, List.countP_cons]
  have h1 : X.countP (fun j => decide (j ≠ i) && ahdI C B j i) = X.length := by
    rw [List.countP_eq_length]
    intro a ha
    have h := hXY a ha i (by simp)
    have hne : a ≠ i := by
      rintro rfl
      rw [ahdI_irrefl] at h; cases h
    simp [hne, h]
  have h2 : Y.countP (fun j => decide (j ≠ i) && ahdI C B j i) = 0 := by
    rw [List.countP_eq_zero]
    intro a ha
    have h := ahdI_asymm (hi a ha)
    simp [h]
  rw [h1, h2]
  simp
/-- the place of the agent that stands at k is k -/
theorem place_at {C B : List Int} {k i : Nat} (h : (rkList C B)[k]? = some (i : Int)) : place C B i = k ∧ i < B.length ∧ k < B.length := by
  obtain ⟨hk, e⟩ := List.getElem?_eq_some_iff.1 h
  have hi : (i : Int) ∈ rkList C B := List.mem_of_getElem? h
  obtain ⟨a, ha, hal⟩ := rkList_mem.1 hi
  have hpw := rkList_pw C B
  have hsplit : rkList C B = (rkList C B).take k ++ (i : Int) :: (rkList C B).drop (k + 1) := by
    rw [← e, List.getElem_cons_drop hk, List.take_append_drop]
  have hc : (rkList C B).countP (fun j => decide (j ≠ (i : Int)) && ahdI C B j i) = k := by
    rw [hsplit] at hpw
    have := count_split hpw
    rw [← hsplit] at this
    rw [this]; simp; omega
  rw [(rkList_perm C B).countP_eq, countP_iota] at hc
  refine ⟨?_, by omega, by rw [rkList_length] at hk; exact hk⟩
  rw [← hc]
  unfold place plc
  congr 1
  apply List.filter_congr
  intro j _
  have e1 : decide ((j : Int) ≠ (i : Int)) = decide (j ≠ i) := decide_eq_decide.2 (by constructor <;> intro h <;> omega)
  rw [e1]; rfl
/-- every agent stands somewhere -/
theorem at_place {C B : List Int} {i : Nat} (h : i < B.length) : (rkList C B)[place C B i]? = some (i : Int) ∧ place C B i < B.length := by
  have hm : (i : Int) ∈ rkList C B := rkList_mem.2 ⟨i, rfl, h⟩
  obtain ⟨k, hk, e⟩ := List.getElem_of_mem hm
  have hq : (rkList C B)[k]? = some (i : Int) := by simp [hk, e]
  have hp := place_at hq
  rw [hp.1]
  exact ⟨hq, hp.2.2⟩
theorem rk_nat {C B : List Int} {k : Nat} (h : k < B.length) : ∃ i : Nat, (rkList C B)[k]? = some (i : Int) ∧ i < B.length ∧ place C B i = k := by
  have hk : k < (rkList C B).length := by rw [rkList_length]; exact h
  have hm : (rkList C B)[k] ∈ rkList C B := List.getElem_mem hk
  obtain ⟨i, e, hi⟩ := rkList_mem.1 hm
  have hq : (rkList C B)[k]? = some (i : Int) := by simp [hk, e]
  exact ⟨i, hq, hi, (place_at hq).1⟩
end Go.Proofs.Ytkoipecnmijfoaa
end

section
/-! Plain law: the price. -/
namespace Go.Proofs.Ytkoipecnmijfoaa
set_option linter.unusedVariables false

def prOf (C B : List Int) (m : Int) : Int := if m = 0 ∨ m = (B.length : Int) then 0 else B.getD ((rkList C B).getD m.toNat 0).toNat 0
theorem prOf_zero {C B : List Int} {m : Int} (h : m = 0 ∨ m = (B.length : Int)) : prOf C B m = 0 := by rw [prOf, if_pos h]
theorem prOf_at {C B : List Int} {m i : Nat} {x : Int} (h0 : m ≠ 0) (h1 : m ≠ B.length) (hi : (rkList C B)[m]? = some (i : Int)) (hx : B[i]? = some x) : prOf C B m = x := by
  rw [prOf, if_neg (by omega)]
  have e : (rkList C B).getD m 0 = (i : Int) := by simp [List.getD, hi]
  rw [Int.toNat_natCast, e, Int.toNat_natCast]
  simp [List.getD, hx]
theorem getD_of {L : List Int} {i : Nat} {x : Int} (h : L[i]? = some x) : L.getD i 0 = x := by simp [List.getD, h]
/-- whoever stands later bids no more -/
theorem bid_le {C B : List Int} {i j : Nat} (hi : i < B.length) (hj : j < B.length) (h : place C B i ≤ place C B j) : B.getD j 0 ≤ B.getD i 0 := by
  have h1 := at_place (C := C) hi
  have h2 := at_place (C := C) hj
  rcases Nat.lt_or_ge (place C B i) (place C B j) with hlt | hge
  · have hp := List.pairwise_iff_getElem.1 (rkList_pw C B) (place C B i) (place C B j) (by rw [rkList_length]; exact h1.2) (by rw [rkList_length]; exact h2.2) hlt
    obtain ⟨_, e1⟩ := List.getElem?_eq_some_iff.1 h1.1
    obtain ⟨_, e2⟩ := List.getElem?_eq_some_iff.1 h2.1
    rw [e1, e2, ahdI_iff] at hp
    simp only [Int.toNat_natCast] at hp
    omega
  · have e : place C B i = place C B j := by omega
    have h3 := h1.1
    rw [e, h2.1] at h3
    have : (j : Int) = (i : Int) := by simpa using h3
    have : j = i := by omega
    subst this
    exact Int.le_refl _
/-- the greatest bid of those among the first k that stand at m or later -/
structure PmAt (C B : List Int) (m k : Nat) (p : Int) : Prop where
  lo : 0 ≤ p
  hi : p ≤ 1000000
  le : ∀ i, i < k → m ≤ place C B i → B.getD i 0 ≤ p
  is : p = 0 ∨ ∃ i, i < k ∧ m ≤ place C B i ∧ B.getD i 0 = p
theorem PmAt.start (C B : List Int) (m : Nat) : PmAt C B m 0 0 := ⟨by omega, by omega, by intro i hi; omega, .inl rfl⟩
theorem PmAt.skip {C B : List Int} {m k : Nat} {p : Int} (h : PmAt C B m k p) (hk : ¬ m ≤ place C B k) : PmAt C B m (k + 1) p :=
  ⟨h.lo, h.hi, fun i hi hm => by
    rcases Nat.lt_or_ge i k with hlt | hge
    · exact h.le i hlt hm
    · obtain rfl : i = k := by omega
      exact absurd hm hk, by
    rcases h.is with h0 | ⟨i, h1, h2, h3⟩
    · exact .inl h0
    · exact .inr ⟨i, by omega, h2, h3⟩⟩
theorem PmAt.next {C B : List Int} {m k : Nat} {p x : Int} (h : PmAt C B m k p) (hk : m ≤ place C B k) (hx : B.getD k 0 = x) (h0 : 0 ≤ x) (h1 : x ≤ 1000000) : PmAt C B m (k + 1) (max p x) := by
  have hlo := h.lo
  have hhi := h.hi
  refine ⟨by omega, by omega, fun i hi hm => ?_, ?_⟩
  · rcases Nat.lt_or_ge i k with hlt | hge
    · have := h.le i hlt hm; omega
    · obtain rfl : i = k := by omega
      omega
  · rcases Int.le_total x p with hle | hle
    · rw [Int.max_eq_left hle]
      rcases h.is with h0 | ⟨j, h1, h2, h3⟩
      · exact .inl h0
      · exact .inr ⟨j, by omega, h2, h3⟩
    · rw [Int.max_eq_right hle]
      exact .inr ⟨k, by omega, hk, hx⟩
theorem PmAt.done {C B : List Int} {m : Nat} {p : Int} (h : PmAt C B m B.length p) (hm0 : 0 < m) (hm : m ≤ B.length) (hB : ∀ x ∈ B, 0 ≤ x ∧ x ≤ 1000000) : p = prOf C B m := by
  by_cases e : m = B.length
  · rw [prOf_zero (.inr (by omega))]
    rcases h.is with h0 | ⟨i, h1, h2, h3⟩
    · exact h0
    · have := (at_place (C := C) h1).2; omega
  · obtain ⟨i, hi, hil, hpl⟩ := rk_nat (C := C) (B := B) (k := m) (by omega)
    obtain ⟨x, hx⟩ : ∃ x, B[i]? = some x := ⟨B[i], by simp [hil]⟩
    rw [prOf_at (by omega) e hi hx]
    have hxd := getD_of hx
    have h1 := h.le i hil (by omega)
    have hxb := hB x (List.mem_of_getElem? hx)
    rcases h.is with h0 | ⟨j, h2, h3, h4⟩
    · omega
    · have := bid_le (C := C) hil h2 (by omega)
      omega
theorem prOf_bd {C B : List Int} {m : Int} (hB : ∀ x ∈ B, 0 ≤ x ∧ x ≤ 1000000) (h0 : 0 ≤ m) (h1 : m ≤ B.length) : 0 ≤ prOf C B m ∧ prOf C B m ≤ 1000000 := by
  by_cases h : m = 0 ∨ m = (B.length : Int)
  · rw [prOf_zero h]; omega
  · obtain ⟨k, rfl⟩ := Int.eq_ofNat_of_zero_le h0
    obtain ⟨i, hi, hil, hpl⟩ := rk_nat (C := C) (B := B) (k := k) (by omega)
    obtain ⟨x, hx⟩ : ∃ x, B[i]? = some x := ⟨B[i], by simp [hil]⟩
    rw [prOf_at (by omega) (by omega) hi hx]
    exact hB x (List.mem_of_getElem? hx)
/-- the agents are written at their places, one by one -/
structure WrAt (C B : List Int) (k : Nat) (D : List Int) : Prop where
  len : D.length = B.length
  at_ : ∀ i, i < k → D[place C B i]? = some (i : Int)
theorem WrAt.next {C B D : List Int} {k : Nat} (h : WrAt C B k D) (hk : k < B.length) : WrAt C B (k + 1) (D.set (place C B k) (k : Int)) := by
  refine ⟨by simp [h.len], fun i hi => ?_⟩
  have hp := at_place (C := C) hk
  by_cases e : i = k
  · subst e
    rw [List.getElem?_set_self (by rw [h.len]; exact hp.2)]
  · have hil : i < B.length := by omega
    have hpi := at_place (C := C) hil
    rw [List.getElem?_set_ne, h.at_ i (by omega)]
    intro e2
    rw [← e2, hp.1] at hpi
    have h3 := hpi.1
    simp at h3
    omega
theorem WrAt.done {C B D : List Int} (h : WrAt C B B.length D) : D = rkList C B := by
  apply List.ext_getElem?
  intro j
  rcases Nat.lt_or_ge j B.length with hlt | hge
  · obtain ⟨i, hi, hil, hpl⟩ := rk_nat (C := C) (B := B) hlt
    rw [hi, ← hpl]
    exact h.at_ i hil
  · rw [List.getElem?_eq_none (by have := h.len; omega), List.getElem?_eq_none (by rw [rkList_length]; omega)]
end Go.Proofs.Ytkoipecnmijfoaa
end

section
/-! Walks of chapter 33: Rank and Price of both. -/
namespace Go.Proofs.Ytkoipecnmijfoaa
open Go.RowKit Go.Deep
set_option linter.unusedVariables false
set_option maxRecDepth 100000

/-- the results (a slice that reads as P, an error c), in the world behind the call -/
def ListRes (w : World) (P : List Int) (c : Int) (e : Ending) (w' : World) : Prop :=
  ∃ A cap, e = .returned (.tuple #[.slice A P.length cap, .int .i64 c]) ∧ Rd w' w'.heap.size A P ∧ Below w.heap.size w w'
def rkL (C B : List Int) : List Int := if hlk C B = 0 then rkList C B else []
theorem rk_i64 {C B : List Int} (h : B.length ≤ 40) : ∀ x ∈ rkList C B, I64 x := by
  intro x hx
  obtain ⟨a, rfl, ha⟩ := rkList_mem.1 hx
  unfold I64; omega
theorem rk_rd {w : World} {g T : Nat} {C B : List Int} (h : OwnP w g T (rkList C B)) (hl : B.length ≤ 40) : Rd w w.heap.size (some ⟨g, 0, none⟩) (rkList C B) :=
  h.rd (rk_i64 hl) (by rw [rkList_length]; omega) h.lt


theorem priceL {w : World} {D : Nat} {A1 A2 : Option Addr} {C B : List Int} {cap1 cap2 : Nat} {m : Nat} (hR : Rd w D A1 (rkList C B)) (hB : Rd w D A2 B) (hm : m ≤ B.length) :
    Calls Try.prog 46 #[.slice A1 B.length cap1, .slice A2 B.length cap2, .int .i64 m] w fun e w' => e = .returned (.int .i64 (prOf C B m)) ∧ w = w' := by
  have l1 := hB.len
  by_cases h0 : m = 0
  · subst h0
    have hf := Lib.hid (prOf_zero (C := C) (B := B) (m := ((0 : Nat) : Int)) (.inl rfl))
    clear hR hB
    go_enter Try.func46, Try.ntmps46
    go_wp2
    go_ret
    exact ⟨ret_int (by rw [hf.out]), rfl⟩
  · have d0 : ((m : Int) == 0) = false := beq_eq_false_iff_ne.2 (by omega)
    have d0' : (m == 0) = false := beq_eq_false_iff_ne.2 h0
    by_cases h1 : m = B.length
    · have hf := Lib.hid (prOf_zero (C := C) (B := B) (m := (m : Int)) (.inr (by omega)))
      have d1 : ((m : Int) == (B.length : Int)) = true := beq_iff_eq.2 (by omega)
      have d1' : (m == B.length) = true := beq_iff_eq.2 h1
      clear hR hB h0 h1
      go_enter Try.func46, Try.ntmps46
      go_wp2
      go_ret
      exact ⟨ret_int hf.out.symm, rfl⟩
    · obtain ⟨i, hi, hil, hpl⟩ := rk_nat (C := C) (B := B) (k := m) (by omega)
      obtain ⟨x, hx⟩ : ∃ x, B[i]? = some x := ⟨B[i], by simp [hil]⟩
      have hf := Lib.hid (prOf_at h0 h1 hi hx)
      have d1 : ((m : Int) == (B.length : Int)) = false := beq_eq_false_iff_ne.2 (by omega)
      have d1' : (m == B.length) = false := beq_eq_false_iff_ne.2 h1
      have hml : m < B.length := by omega
      obtain ⟨b1, o1, rfl, _, hc1⟩ := hR.2.2 (by rw [rkList_length]; omega)
      obtain ⟨b2, o2, rfl, _, hc2⟩ := hB.2.2 (by omega)
      have c1 := hc1 m i hi
      have c2 := hc2 i x hx
      clear hR hB h0 h1 hc1 hc2 hi hx hpl
      go_enter Try.func46, Try.ntmps46
      go_wp2
      go_ret
      exact ⟨ret_int hf.out.symm, rfl⟩

def pcE (C B : List Int) (m : Int) : Int := if hlk C B ≠ 0 then hlk C B else if m < 0 ∨ (C.length : Int) < m then 2 else 0
def pcV (C B : List Int) (m : Int) : Int := if pcE C B m = 0 then prOf C B m else 0
theorem pcE_lk {C B : List Int} {m : Int} (h : hlk C B ≠ 0) : pcE C B m = hlk C B := by rw [pcE, if_pos h]
theorem pcE_arg {C B : List Int} {m : Int} (h : hlk C B = 0) (h2 : m < 0 ∨ (C.length : Int) < m) : pcE C B m = 2 := by rw [pcE, if_neg (by simp [h]), if_pos h2]
theorem pcE_ok {C B : List Int} {m : Int} (h : hlk C B = 0) (h2 : ¬ (m < 0 ∨ (C.length : Int) < m)) : pcE C B m = 0 := by rw [pcE, if_neg (by simp [h]), if_neg h2]
theorem pcE_zero {C B : List Int} {m : Int} (h : pcE C B m = 0) : hlk C B = 0 ∧ 0 ≤ m ∧ m ≤ C.length := by
  unfold pcE at h
  split at h
  · contradiction
  · rename_i h0
    split at h
    · exact absurd h (by decide)
    · exact ⟨by simpa using h0, by omega, by omega⟩

set_option maxHeartbeats 1000000 in
theorem hPrice {w : World} {B C : Nat} {A A' : Option Addr} {L O : List Int} {cap cap' : Nat} (h : Rd w B A L) (h' : Rd w C A' O) (hB : B ≤ w.heap.size) (hC : C ≤ w.heap.size) (m : Int) :
    Calls Try.prog 34 #[.slice A L.length cap, .slice A' O.length cap', .int .i64 m] w fun e w' => e = .returned (.tuple #[.int .i64 (pcV L O m), .int .i64 (pcE L O m)]) ∧ Below w.heap.size w w' := by
  have C1 := hLooked (cap := cap) (cap' := cap') h h'
  have l1 := h.len
  by_cases hl : hlk L O = 0
  · rw [hl] at C1
    by_cases hm : m < 0 ∨ (L.length : Int) < m
    · have he := pcE_arg hl hm
      rw [pcV, he, if_neg (by decide)]
      clear he hl h h'
      rcases hm with hm | hm
      all_goals
        go_enter Try.func34, Try.ntmps34
        go_wp2_with (go_at_call 45; refine C1.mono ?_; rintro e w' ⟨rfl, rfl⟩)
        go_ret2
        exact ⟨rfl, Below.refl _ _⟩
    · have hV := hlk_ok hl
      have he := pcE_ok hl hm
      rw [pcV, if_pos he, he]
      have g0 : 0 ≤ m := by omega
      have g1 : m ≤ L.length := by omega
      obtain ⟨k, rfl⟩ := Int.eq_ofNat_of_zero_le g0
      have C2 := rank (cap1 := cap) (cap2 := cap') (h.more hB) (h'.more hC) (Nat.le_refl _) hV.len (by have := hV.len; have := hV.v.one; omega) (by have := hV.len; have := hV.v.twelve; omega)
      have hn : O.length ≤ 40 := by have := hV.len; have := hV.v.twelve; omega
      have HO := Lib.hid (h'.more hC)
      have HL := Lib.hid hV.len
      have HN := Lib.hid hn
      clear hl h h' hB hC hV he hm g0 hn
      go_enter Try.func34, Try.ntmps34
      go_wp2_with (first | (go_at_call 45; refine C1.mono ?_; rintro e w' ⟨rfl, rfl⟩) | (go_at_call 35; refine C2.mono ?_; rintro e w1 ⟨g, c, rfl, hg, hP, hb⟩; rw [rkList_length]))
      have hr1 := (rk_rd hP HN.out)
      have ho1 := (HO.out.below hb (Nat.le_refl _)).more hb.size
      have C3 := priceL (cap1 := c) (cap2 := cap') (m := k) hr1 ho1 (by have := HL.out; omega)
      have HB := Lib.hid hb
      clear C1 C2 hr1 ho1 hP hb
      go_wp2_with (go_at_call 46; refine C3.mono ?_; rintro e w2 ⟨rfl, rfl⟩)
      go_ret2
      exact ⟨rfl, HB.out⟩
  · have he := pcE_lk (m := m) hl
    rw [pcV, he, if_neg hl]
    have hb : (hlk L O != 0) = true := by simpa using hl
    clear hl he h h'
    generalize hlk L O = c at *
    go_enter Try.func34, Try.ntmps34
    go_wp2_with (go_at_call 45; refine C1.mono ?_; rintro e w' ⟨rfl, rfl⟩)
    go_ret2
    exact ⟨rfl, Below.refl _ _⟩
end Go.Proofs.Ytkoipecnmijfoaa
end

section
/-! Walks of chapter 33: the reference's Rank and Price. -/
namespace Go.Proofs.Ytkoipecnmijfoaa
open Go.RowKit Go.Deep
set_option linter.unusedVariables false
set_option maxRecDepth 100000

theorem bidsOk_of {C B : List Int} (h : hlk C B = 0) : bidsOk B C.length = true := by
  have hV := hlk_ok h
  have h2 : B.any badBid = false := by
    rw [List.any_eq_false]
    intro x hx
    have := hV.bd x hx
    simp [badBid]; omega
  rw [bidsOk, h2]
  simp [hV.len]
theorem bidsNo_of {C B : List Int} (h : hck C = 0) (h2 : hlk C B ≠ 0) : hlk C B = 8 ∧ bidsOk B C.length = false := by
  by_cases hl : B.length = C.length
  · cases ha : B.any badBid
    · exact absurd (hlk_yes h hl ha) h2
    · exact ⟨hlk_any h ha, by rw [bidsOk, ha]; rfl⟩
  · refine ⟨hlk_len h hl, ?_⟩
    rw [bidsOk]
    have : decide ((B.length : Int) = C.length) = false := by simp; omega
    rw [this, Bool.and_false]


end Go.Proofs.Ytkoipecnmijfoaa
end

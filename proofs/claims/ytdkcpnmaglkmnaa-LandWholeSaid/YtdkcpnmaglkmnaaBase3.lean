import Derived.Test.YtdkcpnmaglkmnaaBase2
/-! Slices of other elements than integers that came in. No statement about the program. -/
namespace Go.Proofs.Ytdkcpnmaglkmnaa
open Go.RowKit
set_option linter.unusedVariables false

/-- a slice (elements of sz cells, so many bytes each) at address A, below block B, reads as the list L; E says how an element reads from the address of its first cell -/
def RdOf {α : Type} (sz bytes : Nat) (E : World → Nat → Nat → Nat → α → Prop) (w : World) (B : Nat) (A : Option Addr) (L : List α) : Prop :=
  L.length * bytes ≤ 140737488351232 ∧ (0 < L.length → ∃ b off, A = some ⟨b, off, none⟩ ∧ b < B ∧ ∀ i x, L[i]? = some x → E w B b (off + i * sz) x)
/-- an element of a slice of slices of integers -/
def EInts (w : World) (B b o : Nat) (L : List Int) : Prop := ∃ A c, w.cell? ⟨b, o, none⟩ = some (.slice A L.length c) ∧ Rd w B A L
/-- a slice of slices of integers -/
def Rd2 (w : World) (B : Nat) (A : Option Addr) (L : List (List Int)) : Prop := RdOf 1 24 EInts w B A L
/-- what the elements of a slice of slices of bools read as -/
def RdB (w : World) (B : Nat) (A : Option Addr) (L : List Bool) : Prop :=
  RdOf 1 1 (fun w B b o x => w.cell? ⟨b, o, none⟩ = some (.bool x)) w B A L
def EBools (w : World) (B b o : Nat) (L : List Bool) : Prop := ∃ A c, w.cell? ⟨b, o, none⟩ = some (.slice A L.length c) ∧ RdB w B A L
def RdB2 (w : World) (B : Nat) (A : Option Addr) (L : List (List Bool)) : Prop := RdOf 1 24 EBools w B A L
/-- an element of a slice of holidays: the places, the bids -/
def EHol (w : World) (B b o : Nat) (h : Int × List Int) : Prop :=
  I64 h.1 ∧ w.cell? ⟨b, o, none⟩ = some (.int .i64 h.1) ∧ ∃ A c, w.cell? ⟨b, o + 1, none⟩ = some (.slice A h.2.length c) ∧ Rd w B A h.2
def RdH (w : World) (B : Nat) (A : Option Addr) (L : List (Int × List Int)) : Prop := RdOf 2 32 EHol w B A L

section
variable {α : Type} {sz bytes : Nat} {E : World → Nat → Nat → Nat → α → Prop} {w w' : World} {B C : Nat} {A : Option Addr} {L : List α}
theorem RdOf.nil (w : World) (B : Nat) (A : Option Addr) : RdOf sz bytes E w B A ([] : List α) := ⟨by simp, fun h => absurd h (by simp)⟩
theorem RdOf.len (h : RdOf sz bytes E w B A L) : L.length * bytes ≤ 140737488351232 := h.1
theorem RdOf.at_ (h : RdOf sz bytes E w B A L) {k : Nat} (hk : k < L.length) : ∃ b off x, A = some ⟨b, off, none⟩ ∧ b < B ∧ L[k]? = some x ∧ E w B b (off + k * sz) x := by
  obtain ⟨b, off, e, hb, hc⟩ := h.2 (by omega)
  exact ⟨b, off, L[k], e, hb, by simp [hk], hc k _ (by simp [hk])⟩
theorem RdOf.imp (h : RdOf sz bytes E w B A L) (hC : B ≤ C) (hE : ∀ b o x, b < B → E w B b o x → E w' C b o x) : RdOf sz bytes E w' C A L :=
  ⟨h.1, fun hn => by
    obtain ⟨b, off, e, hb, hc⟩ := h.2 hn
    exact ⟨b, off, e, by omega, fun i x hx => hE _ _ _ hb (hc i x hx)⟩⟩
end
theorem cell_below {w w' : World} {C : Nat} (hb : Below C w w') {b o : Nat} (h : b < C) : w'.cell? ⟨b, o, none⟩ = w.cell? ⟨b, o, none⟩ := hb.cell (p := ⟨b, o, none⟩) h
section
variable {w w' : World} {B C : Nat} {A : Option Addr}
theorem Rd2.below {L : List (List Int)} (h : Rd2 w B A L) (hb : Below C w w') (hC : B ≤ C) : Rd2 w' B A L :=
  RdOf.imp h (Nat.le_refl _) fun b o x hlt ⟨A1, c, h1, h2⟩ => ⟨A1, c, (cell_below hb (by omega)).trans h1, h2.below hb hC⟩
theorem Rd2.more {L : List (List Int)} (h : Rd2 w B A L) (hC : B ≤ C) : Rd2 w C A L :=
  RdOf.imp h hC fun b o x hlt ⟨A1, c, h1, h2⟩ => ⟨A1, c, h1, h2.more hC⟩
theorem Rd2.at_ {L : List (List Int)} (h : Rd2 w B A L) {k : Nat} (hk : k < L.length) :
    ∃ b off x A1 c, A = some ⟨b, off, none⟩ ∧ b < B ∧ L[k]? = some x ∧ w.cell? ⟨b, off + k, none⟩ = some (.slice A1 x.length c) ∧ Rd w B A1 x := by
  obtain ⟨b, off, x, e, hb, hx, A1, c, h1, h2⟩ := RdOf.at_ h hk
  rw [Nat.mul_one] at h1
  exact ⟨b, off, x, A1, c, e, hb, hx, h1, h2⟩
theorem RdB.below {L : List Bool} (h : RdB w B A L) (hb : Below C w w') (hC : B ≤ C) : RdB w' B A L :=
  RdOf.imp h (Nat.le_refl _) fun b o x hlt h1 => (cell_below hb (by omega)).trans h1
theorem RdB.more {L : List Bool} (h : RdB w B A L) (hC : B ≤ C) : RdB w C A L := RdOf.imp h hC fun b o x hlt h1 => h1
theorem RdB.at_ {L : List Bool} (h : RdB w B A L) {k : Nat} (hk : k < L.length) :
    ∃ b off x, A = some ⟨b, off, none⟩ ∧ b < B ∧ L[k]? = some x ∧ w.cell? ⟨b, off + k, none⟩ = some (.bool x) := by
  obtain ⟨b, off, x, e, hb, hx, h1⟩ := RdOf.at_ h hk
  rw [Nat.mul_one] at h1
  exact ⟨b, off, x, e, hb, hx, h1⟩
theorem RdB2.below {L : List (List Bool)} (h : RdB2 w B A L) (hb : Below C w w') (hC : B ≤ C) : RdB2 w' B A L :=
  RdOf.imp h (Nat.le_refl _) fun b o x hlt ⟨A1, c, h1, h2⟩ => ⟨A1, c, (cell_below hb (by omega)).trans h1, h2.below hb hC⟩
theorem RdB2.more {L : List (List Bool)} (h : RdB2 w B A L) (hC : B ≤ C) : RdB2 w C A L :=
  RdOf.imp h hC fun b o x hlt ⟨A1, c, h1, h2⟩ => ⟨A1, c, h1, h2.more hC⟩
theorem RdB2.at_ {L : List (List Bool)} (h : RdB2 w B A L) {k : Nat} (hk : k < L.length) :
    ∃ b off x A1 c, A = some ⟨b, off, none⟩ ∧ b < B ∧ L[k]? = some x ∧ w.cell? ⟨b, off + k, none⟩ = some (.slice A1 x.length c) ∧ RdB w B A1 x := by
  obtain ⟨b, off, x, e, hb, hx, A1, c, h1, h2⟩ := RdOf.at_ h hk
  rw [Nat.mul_one] at h1
  exact ⟨b, off, x, A1, c, e, hb, hx, h1, h2⟩
theorem RdH.below {L : List (Int × List Int)} (h : RdH w B A L) (hb : Below C w w') (hC : B ≤ C) : RdH w' B A L :=
  RdOf.imp h (Nat.le_refl _) fun b o x hlt ⟨hi, h0, A1, c, h1, h2⟩ => ⟨hi, (cell_below hb (by omega)).trans h0, A1, c, (cell_below hb (by omega)).trans h1, h2.below hb hC⟩
theorem RdH.more {L : List (Int × List Int)} (h : RdH w B A L) (hC : B ≤ C) : RdH w C A L :=
  RdOf.imp h hC fun b o x hlt ⟨hi, h0, A1, c, h1, h2⟩ => ⟨hi, h0, A1, c, h1, h2.more hC⟩
theorem RdH.at_ {L : List (Int × List Int)} (h : RdH w B A L) {k : Nat} (hk : k < L.length) :
    ∃ b off x y A1 c, A = some ⟨b, off, none⟩ ∧ b < B ∧ L[k]? = some (x, y) ∧ I64 x ∧ w.cell? ⟨b, off + k * 2, none⟩ = some (.int .i64 x) ∧ w.cell? ⟨b, off + k * 2 + 1, none⟩ = some (.slice A1 y.length c) ∧ Rd w B A1 y := by
  obtain ⟨b, off, ⟨x, y⟩, e, hb, hx, hi, h0, A1, c, h1, h2⟩ := RdOf.at_ h hk
  exact ⟨b, off, x, y, A1, c, e, hb, hx, hi, h0, h1, h2⟩
end
theorem dropA_of {α : Type} {L : List α} {k : Nat} {x : α} (h : L[k]? = some x) : L.drop k = x :: L.drop (k + 1) := by
  obtain ⟨hk, e⟩ := List.getElem?_eq_some_iff.1 h
  rw [List.drop_eq_getElem_cons hk, e]
end Go.Proofs.Ytdkcpnmaglkmnaa

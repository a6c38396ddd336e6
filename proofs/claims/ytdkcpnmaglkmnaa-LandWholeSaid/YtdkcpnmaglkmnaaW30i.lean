import Derived.Test.YtdkcpnmaglkmnaaW30h
import Derived.Deep.AppendLies
/-! Walks of chapter 30: SamePoints, Great, Index. -/
namespace Go.Proofs.Ytdkcpnmaglkmnaa
open Go.RowKit Go.Deep
set_option linter.unusedVariables false
set_option maxRecDepth 100000

/-- a point in memory -/
def EPt (w : World) (B b o : Nat) (p : Int × Int) : Prop := w.cell? ⟨b, o, none⟩ = some (.int .i64 p.1) ∧ w.cell? ⟨b, o + 1, none⟩ = some (.int .i64 p.2)
def RdP (w : World) (B : Nat) (A : Option Addr) (L : List (Int × Int)) : Prop := RdOf 2 16 EPt w B A L
section
variable {w w' : World} {B C : Nat} {A : Option Addr} {L : List (Int × Int)}
theorem RdP.below (h : RdP w B A L) (hb : Below C w w') (hC : B ≤ C) : RdP w' B A L :=
  RdOf.imp h (Nat.le_refl _) fun b o x hlt ⟨h1, h2⟩ => ⟨(cell_below hb (by omega)).trans h1, (cell_below hb (by omega)).trans h2⟩
theorem RdP.more (h : RdP w B A L) (hC : B ≤ C) : RdP w C A L := RdOf.imp h hC fun b o x hlt h => h
theorem RdP.at_ (h : RdP w B A L) {k : Nat} (hk : k < L.length) :
    ∃ b off x y, A = some ⟨b, off, none⟩ ∧ b < B ∧ L[k]? = some (x, y) ∧ w.cell? ⟨b, off + k * 2, none⟩ = some (.int .i64 x) ∧ w.cell? ⟨b, off + k * 2 + 1, none⟩ = some (.int .i64 y) := by
  obtain ⟨b, off, ⟨x, y⟩, e, hb, hx, h1, h2⟩ := RdOf.at_ h hk
  exact ⟨b, off, x, y, e, hb, hx, h1, h2⟩
end
/-- the cells of points -/
def ptV : List (Int × Int) → List Value
  | [] => []
  | p :: t => .int .i64 p.1 :: .int .i64 p.2 :: ptV t
theorem ptV_length : ∀ L : List (Int × Int), (ptV L).length = L.length * 2
  | [] => rfl
  | p :: t => by simp [ptV, ptV_length t]; omega
theorem ptV_snoc : ∀ (L : List (Int × Int)) (p : Int × Int), ptV (L ++ [p]) = ptV L ++ [.int .i64 p.1, .int .i64 p.2]
  | [], p => rfl
  | q :: t, p => by simp [ptV, ptV_snoc t p]
theorem ptV_at : ∀ {L : List (Int × Int)} {i : Nat} {p : Int × Int}, L[i]? = some p → (ptV L)[i * 2]? = some (.int .i64 p.1) ∧ (ptV L)[i * 2 + 1]? = some (.int .i64 p.2)
  | [], i, p, h => by simp at h
  | q :: t, 0, p, h => by simp at h; subst h; exact ⟨rfl, rfl⟩
  | q :: t, i + 1, p, h => by
    have := ptV_at (L := t) (i := i) (by simpa using h)
    rw [show (i + 1) * 2 = i * 2 + 1 + 1 by omega]
    simpa [ptV] using this
theorem rdP_of_row {w : World} {base T : Nat} {A : Option Addr} {c : Nat} {L : List (Int × Int)} (ho : w.ownsRow base T 2 (.slice A L.length c) L.length (ptV L)) (hl : L.length * 16 ≤ 140737488351232) : RdP w w.heap.size A L := by
  refine ⟨hl, fun hn => ?_⟩
  obtain ⟨g, cap, e, _, hlt⟩ := ho.form hn
  cases e
  refine ⟨g, 0, rfl, hlt, fun i p hi => ?_⟩
  have h1 := ptV_at hi
  have q1 := ho.cells (g := g) rfl _ _ h1.1
  have q2 := ho.cells (g := g) rfl _ _ h1.2
  rw [addr_add] at q1 q2
  exact ⟨q1, q2⟩

def SomeBool (w : World) (e : Ending) (w' : World) : Prop := ∃ b : Bool, e = .returned (.bool b) ∧ Below w.heap.size w w'
theorem great30 {w : World} {A : Option Addr} {n cap : Nat} (W H : Int) (hn : n * 8 ≤ 140737488351232) : Calls Try.prog 11 #[.agg #[.int .i64 W, .int .i64 H, .slice A n cap]] w (SomeBool w) := by
  have hal : Below w.heap.size w (w.alloc (.cells #[.int .i64 W, .int .i64 H, .slice A n cap] 24)) := (Below.refl _ _).alloc (Nat.le_refl _) _
  have HAL := Lib.hid hal
  clear hal
  by_cases h1 : 40 < n
  · by_cases h2 : W ≤ 12
    · by_cases h3 : H ≤ 12
      · go_enter Try.func11, Try.ntmps11
        go_wp2
        go_ret
        exact ⟨_, rfl, HAL.out⟩
      · by_cases h4 : 400 < n
        all_goals
          go_enter Try.func11, Try.ntmps11
          go_wp2
          go_ret
          exact ⟨_, rfl, HAL.out⟩
    · by_cases h4 : 400 < n
      all_goals
        go_enter Try.func11, Try.ntmps11
        go_wp2
        go_ret
        exact ⟨_, rfl, HAL.out⟩
  · have h4 : ¬ 400 < n := by omega
    go_enter Try.func11, Try.ntmps11
    go_wp2
    go_ret
    exact ⟨_, rfl, HAL.out⟩

set_option maxHeartbeats 1000000 in
theorem samePts {w : World} {B C : Nat} {A A' : Option Addr} {L : List (Int × Int)} {cap cap' : Nat} (h : RdP w B A L) (h' : RdP w C A' L) (hB : B ≤ w.heap.size) (hC : C ≤ w.heap.size) :
    Calls Try.prog 18 #[.slice A L.length cap, .slice A' L.length cap'] w fun e w' => e = .returned (.bool true) ∧ Below w.heap.size w w' := by
  have l1 := h.len
  have H := Lib.hid h
  have H' := Lib.hid h'
  clear h h'
  go_enter Try.func18, Try.ntmps18
  go_wp2
  go_loopw [5] (fun i wr => ∃ (k : Nat), k ≤ L.length ∧ i = .int .i64 k ∧ Hid (Below w.heap.size w wr)) (fun i _ => L.length - (intOf i).toNat)
  case atStart => exact ⟨0, by omega, rfl, Lib.hid (Below.refl _ _)⟩
  case round =>
    obtain ⟨k, hk, rfl, hw⟩ := hrel
    by_cases hlt : k < L.length
    · obtain ⟨b, off, x, y, rfl, hb, hx, c0, c1⟩ := (H.out.below hw.out hB).at_ hlt
      obtain ⟨b', off', x', y', rfl, hb', hx', d0, d1⟩ := (H'.out.below hw.out hC).at_ hlt
      rw [hx] at hx'
      simp only [Option.some.injEq, Prod.mk.injEq] at hx'
      obtain ⟨rfl, rfl⟩ := hx'
      have hk0 : (0 : Int) ≤ (k : Int) := by omega
      have hk1 : (k : Int) < (L.length : Int) := by omega
      clear hx
      go_wp2
      go_quiet (fail)
      go_wp2
      go_roundw
      case rel => exact ⟨k + 1, by omega, by go_num, Lib.hid (below_drewN hw.out _)⟩
      case measure => simp [intOf]; omega
    · go_wp2
      go_ret
      exact ⟨rfl, hw.out⟩

theorem fIdx_eq {p : Int → Bool} : ∀ {L : List Int} {k : Int}, fIdx p L k = -1 ∨ ∃ i : Nat, i < L.length ∧ fIdx p L k = k + i ∧ (∃ x, L[i]? = some x ∧ p x = true) ∧ ∀ j, j < i → ∀ x, L[j]? = some x → p x = false
  | [], k => .inl rfl
  | x :: t, k => by
    cases h : p x
    · rw [fIdx_no h]
      rcases fIdx_eq (p := p) (L := t) (k := k + 1) with h1 | ⟨i, hi, h1, h2, h3⟩
      · exact .inl h1
      · refine .inr ⟨i + 1, by simpa using hi, by rw [h1]; omega, by simpa using h2, fun j hj y hy => ?_⟩
        cases j with
        | zero => simp at hy; subst hy; exact h
        | succ j => exact h3 j (by omega) y (by simpa using hy)
    · rw [fIdx_yes h]
      exact .inr ⟨0, by simp, by omega, ⟨x, rfl, h⟩, fun j hj => by omega⟩
theorem fIdx_none {p : Int → Bool} : ∀ {L : List Int} {k : Int}, 0 ≤ k → fIdx p L k = -1 → ∀ x ∈ L, p x = false
  | [], k, _, _, x, hx => by simp at hx
  | y :: t, k, hk, h, x, hx => by
    cases hp : p y
    · rw [fIdx_no hp] at h
      rcases List.mem_cons.1 hx with rfl | hx
      · exact hp
      · exact fIdx_none (by omega) h x hx
    · rw [fIdx_yes hp] at h; omega
set_option maxHeartbeats 400000 in
theorem idxX {w : World} {B : Nat} {A : Option Addr} {L : List Int} {cap : Nat} (h : Rd w B A L) (a : Int) :
    Calls Try.prog 40 #[.slice A L.length cap, .int .i64 a] w fun e w' => e = .returned (.int .i64 (fIdx (fun x => a == x) L 0)) ∧ w = w' := by
  have hlen := h.len
  have H := Lib.hid h
  clear h
  go_enter Try.func40, Try.ntmps40
  go_wp2
  go_loop [8] (fun i => ∃ (k : Nat), k ≤ L.length ∧ i = .int .i64 k ∧ Hid (fIdx (fun x => a == x) (L.drop k) k = fIdx (fun x => a == x) L 0)) (fun i => L.length - (intOf i).toNat)
  case atStart => exact ⟨0, by omega, rfl, Lib.hid (by simp)⟩
  case round =>
    obtain ⟨k, hk, rfl, hr⟩ := hrel
    by_cases hlt : k < L.length
    · obtain ⟨b, off, x, rfl, hb, hx, hi, hc⟩ := H.out.at_ hlt
      have HX := Lib.hid hx; clear hx hi
      cases hpx : (a == x)
      · have hn : Hid (fIdx (fun x => a == x) (L.drop (k + 1)) ((k + 1 : Nat) : Int) = fIdx (fun x => a == x) L 0) := Lib.hid (by rw [← hr.out, drop_of HX.out, fIdx_no hpx]; rfl)
        go_wp2
        go_round
        case rel => exact ⟨k + 1, by omega, by go_num, hn⟩
        case measure => simp [intOf]; omega
      · have hn : Hid (fIdx (fun x => a == x) L 0 = k) := Lib.hid (by rw [← hr.out, drop_of HX.out, fIdx_yes hpx])
        go_wp2
        go_ret
        exact ⟨ret_int hn.out.symm, rfl⟩
    · go_wp2
      go_ret
      exact ⟨ret_int (by rw [← hr.out, drop_end (by omega)]; rfl), rfl⟩
end Go.Proofs.Ytdkcpnmaglkmnaa

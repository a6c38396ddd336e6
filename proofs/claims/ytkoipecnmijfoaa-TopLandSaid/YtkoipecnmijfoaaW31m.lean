import Derived.WideKeyArr2
import Derived.Maps.OwnSet
import Derived.Maps.OwnOps
import Derived.Test.YtkoipecnmijfoaaM30T
import Derived.Test.YtkoipecnmijfoaaS31a
/-! A map from triples of numbers to integers that the call has made: where a search found nothing. -/
namespace Go.Proofs.Ytkoipecnmijfoaa
open Go.RowKit Go.Deep Go.Maps
open Go.WideMaps (ArrKey)
set_option linter.unusedVariables false
set_option maxRecDepth 100000

theorem uMap3 : Try.prog.underlying 60 = some (.map 79 3) := by kernel_rfl
theorem arr3 : ArrKey Try.prog 79 3 3 := ⟨by kernel_rfl, by kernel_rfl, by kernel_rfl, by kernel_rfl⟩
theorem key3 : Keyed Try.prog 79 := Keyed.of_law arr3.law
theorem zInt (w : World) : (zeroValue 3).run Try.prog w = .ok (.int .i64 0) w := by kernel_rfl
/-- the key of a set, a place and an agent -/
def keyV (s k g : Nat) : Value := .agg #[.int .i64 (s : Int), .int .i64 (k : Int), .int .i64 (g : Int)]
def keyL (s k g : Nat) : Lit := .string (keyBytes [.int .i64 (s : Int), .int .i64 (k : Int), .int .i64 (g : Int)])
theorem hsz3 : ∃ m, Try.prog.types.size = m + 1 := ⟨Try.prog.types.size - 1, by kernel_rfl⟩
theorem keyOf3 {s k g : Nat} (hs : s < 1000) (hk : k < 1000) (hg : g < 1000) : keyOf Try.prog 79 (keyV s k g) = some (keyL s k g) := by
  have A := arr3
  have hkt := A.keyType hsz3
  obtain ⟨m, hm⟩ := hsz3
  unfold keyOf keyV keyL
  simp only [A.hu]
  rw [if_pos (by simp [hkt, Value.formed, A.hu, A.size]), hm]
  unfold Program.keyLits
  simp only [A.hu, Value.cells]
  rw [if_pos (by rw [A.size]; rfl), show List.range 3 = [0, 1, 2] from rfl, List.mapM_cons, List.mapM_cons, List.mapM_cons, List.mapM_nil]
  simp [A.one, Program.keyLits, wfk hs, wfk hk, wfk hg]
theorem keyL_inj {s k g s' k' g' : Nat} (hs : s < 1000) (hk : k < 1000) (hg : g < 1000) (hs' : s' < 1000) (hk' : k' < 1000) (hg' : g' < 1000) (e : keyL s k g = keyL s' k' g') : s = s' ∧ k = k' ∧ g = g' := by
  unfold keyL at e
  have e1 := keyBytes_inj (l := [.int .i64 (s : Int), .int .i64 (k : Int), .int .i64 (g : Int)]) (l' := [.int .i64 (s' : Int), .int .i64 (k' : Int), .int .i64 (g' : Int)]) (by simp [Alike, Lit.sameKind]) (by
    intro a ha
    simp at ha
    rcases ha with rfl | rfl | rfl
    · exact wfk hs
    · exact wfk hk
    · exact wfk hg) (by
    intro a ha
    simp at ha
    rcases ha with rfl | rfl | rfl
    · exact wfk hs'
    · exact wfk hk'
    · exact wfk hg') (by injection e)
  simp at e1
  omega
/-- block b is a map of at most n entries that says f -/
def OwnD (w : World) (b n : Nat) (f : Nat → Nat → Nat → Option Int) : Prop :=
  ∃ D : DataW Unit, w.ownsMap Try.prog 79 (plainElem Try.prog 3) b n D ∧ ∀ s k g : Nat, s < 1000 → k < 1000 → g < 1000 →
    (f s k g = none → Maps.has D (keyL s k g) = false) ∧ (∀ x, f s k g = some x → Maps.has D (keyL s k g) = true ∧ D.atKey (keyL s k g) (.lit (.int .i64 0)) = .lit (.int .i64 x))
def putF (f : Nat → Nat → Nat → Option Int) (s k g : Nat) (x : Int) (s' k' g' : Nat) : Option Int := if s' = s ∧ k' = k ∧ g' = g then some x else f s' k' g'
section
variable {w w' : World} {b n : Nat} {f : Nat → Nat → Nat → Option Int}
theorem OwnD.made (w : World) : OwnD (w.alloc (.map #[] 0)) w.heap.size 0 fun _ _ _ => none := ⟨_, World.ownsMap_made w _ _ _, fun s k g _ _ _ => ⟨fun _ => rfl, fun x h => by cases h⟩⟩
theorem OwnD.lt (h : OwnD w b n f) : b < w.heap.size := by obtain ⟨D, h1, _⟩ := h; exact h1.lt
theorem OwnD.same (h : OwnD w b n f) (hb : w'.heap[b]? = w.heap[b]?) : OwnD w' b n f := by
  obtain ⟨D, ⟨es, clock, h1, h2⟩, h3⟩ := h
  exact ⟨D, ⟨es, clock, hb.trans h1, h2⟩, h3⟩
theorem OwnD.below {B : Nat} (h : OwnD w b n f) (hb : Below B w w') (hB : b < B) : OwnD w' b n f := h.same (hb.block b hB)
theorem OwnD.more {m : Nat} (h : OwnD w b n f) (hm : n ≤ m) : OwnD w b m f := by
  obtain ⟨D, h1, h2⟩ := h
  exact ⟨D, h1.mono hm, h2⟩
/-- 'had, ok := dead[key]' -/
theorem OwnD.look (h : OwnD w b n f) {s k g : Nat} (hs : s < 1000) (hk : k < 1000) (hg : g < 1000) : ∃ (x : Int) (ok : Bool), (Instr.lookup 60 (.map (some b)) (keyV s k g) true).run Try.prog w = .ok (.tuple #[.int .i64 x, .bool ok]) w ∧ ((ok = false ∧ f s k g = none) ∨ (ok = true ∧ f s k g = some x)) := by
  obtain ⟨D, h1, h2⟩ := h
  obtain ⟨v, ps, hrun, hv⟩ := h1.look_ok key3 uMap3 (zInt w) (plainElem_int uInt (by decide)) (keyOf3 hs hk hg)
  obtain ⟨x, rfl, hx⟩ := plainElem_int_inv uInt hv
  obtain ⟨h3, h4⟩ := h2 s k g hs hk hg
  cases hf : f s k g with
  | none => exact ⟨x, false, by rw [hrun, h3 hf], .inl ⟨rfl, rfl⟩⟩
  | some y =>
    obtain ⟨h5, h6⟩ := h4 y hf
    rw [h6] at hx
    have hxy : y = x := by
      have := hx.1
      simp at this
      exact this.1
    exact ⟨x, true, by rw [hrun, h5], .inr ⟨rfl, by rw [hxy]⟩⟩
/-- .. in every world with the same block -/
theorem OwnD.looks (h : OwnD w b n f) {s k g : Nat} (hs : s < 1000) (hk : k < 1000) (hg : g < 1000) : ∃ (x : Int) (ok : Bool), (∀ u : World, u.heap = w.heap → (Instr.lookup 60 (.map (some b)) (keyV s k g) true).run Try.prog u = .ok (.tuple #[.int .i64 x, .bool ok]) u) ∧ ((ok = false ∧ f s k g = none) ∨ (ok = true ∧ f s k g = some x)) := by
  obtain ⟨x, ok, h1, h2⟩ := h.look hs hk hg
  refine ⟨x, ok, fun u hu => ?_, h2⟩
  obtain ⟨D, h3, h4⟩ := h
  obtain ⟨v, ps, hrun, hv⟩ := h3.look_ok key3 uMap3 (zInt w) (plainElem_int uInt (by decide)) (keyOf3 hs hk hg)
  have h3' : u.ownsMap Try.prog 79 (plainElem Try.prog 3) b n D := by
    obtain ⟨es, clock, e1, e2⟩ := h3
    exact ⟨es, clock, by rw [hu]; exact e1, e2⟩
  obtain ⟨v', ps', hrun', hv'⟩ := h3'.look_ok key3 uMap3 (zInt u) (plainElem_int uInt (by decide)) (keyOf3 hs hk hg)
  rw [hrun] at h1
  injection h1 with h5
  injection h5 with h5
  simp at h5
  obtain ⟨y, rfl, hy⟩ := plainElem_int_inv uInt hv
  obtain ⟨y', rfl, hy'⟩ := plainElem_int_inv uInt hv'
  have e : y = y' := by
    have e1 := congrArg Prod.fst hy.1
    have e2 := congrArg Prod.fst hy'.1
    simp at e1 e2
    rw [e1] at e2
    simp at e2
    exact e2
  rw [hrun', ← e, h5.1, h5.2]
/-- 'dead[key] = x' -/
theorem OwnD.put (h : OwnD w b n f) (hn : n < 10000000000) {s k g : Nat} (hs : s < 1000) (hk : k < 1000) (hg : g < 1000) {x : Int} (hx : I64 x) : ∃ w1, (Instr.mapUpdate 60 (.map (some b)) (keyV s k g) (.int .i64 x)).run Try.prog w = .ok () w1 ∧ OwnD w1 b (n + 1) (putF f s k g x) ∧ w.grownBy w1 (some b) := by
  obtain ⟨D, h1, h2⟩ := h
  obtain ⟨w1, hrun, ho, hg1⟩ := h1.update key3 uMap3 (by unfold maxLen; omega) (keyOf3 hs hk hg) (plainElem_int uInt (WalkArith.wf_i64 hx))
  refine ⟨w1, hrun, ⟨_, ho, fun s' k' g' hs' hk' hg' => ?_⟩, hg1⟩
  by_cases he : s' = s ∧ k' = k ∧ g' = g
  · obtain ⟨rfl, rfl, rfl⟩ := he
    have e : putF f s' k' g' x s' k' g' = some x := by unfold putF; rw [if_pos ⟨rfl, rfl, rfl⟩]
    rw [e]
    refine ⟨fun h => (by cases h), fun y hy => ?_⟩
    cases hy
    exact ⟨has_put_same h1.isMap (by trivial) _, atKey_put_same h1.isMap (by trivial) _ _⟩
  · have e : putF f s k g x s' k' g' = f s' k' g' := by unfold putF; rw [if_neg he]
    rw [e]
    have hne : keyL s' k' g' ≠ keyL s k g := fun e => he (keyL_inj hs' hk' hg' hs hk hg e)
    rw [has_put_other hne, atKey_put_other hne]
    exact h2 s' k' g' hs' hk' hg'
end
section
variable {w : World} {ops : Array Oper} {rest : List Oper} {o : Oper} {a : Act} {Q : Exit → Act → World → Prop} {b n : Nat} {f : Nat → Nat → Nat → Option Int}
theorem wpd_put (hg : o.guard = none) (m x v : Operand) (hop : o.op = Op.mapUpdate 60 m x v) (hm : a.eval m = .map (some b)) (hown : OwnD w b n f) (hn : n < 10000000000) {s k g : Nat} (hs : s < 1000) (hk : k < 1000) (hgg : g < 1000)
    (hx : a.eval x = keyV s k g) {y : Int} (hy : I64 y) (hv : a.eval v = .int .i64 y) (hK : ∀ w1, OwnD w1 b (n + 1) (putF f s k g y) → w.grownBy w1 (some b) → wpList Try.prog ops Q rest (a.put o.dst undef) w1) :
    wpList Try.prog ops Q (o :: rest) a w := by
  refine wpList_plain hg fun K' hK' => ?_
  obtain ⟨w', hrun, r1, r2⟩ := hown.put hn hs hk hgg hy
  unfold Oper.wp
  simp [execOp, hop, hm, hx, hv, hrun, Result.andThen]
  exact hK' _ _ (hK w' r1 r2)
end
/-- what stays when only block b and new blocks may change -/
theorem rd2_but {w w' : World} {C b : Nat} {A : Option Addr} {V : List (List Int)} (h : Rd2 w C A V) (hg : w.grownBy w' (some b)) (hC : C ≤ b) (hb : b < w.heap.size) : Rd2 w' C A V :=
  h.below (C := C) ⟨hg.os, hg.tape, hg.output, hg.size, fun k hk => hg.block k (by omega) (by simp; omega)⟩ (Nat.le_refl _)
theorem cell_but {w w' : World} {b g o : Nat} (hg : w.grownBy w' (some b)) (h1 : g < w.heap.size) (h2 : g ≠ b) : w'.cell? ⟨g, o, none⟩ = w.cell? ⟨g, o, none⟩ :=
  World.cell?_of_block (hg.block g h1 (by simpa using h2))
theorem grown_refl (w : World) (row : Option Nat) : w.grownBy w row := ⟨rfl, rfl, rfl, Nat.le_refl _, fun _ _ _ => rfl⟩
/-- nothing was found where the map says so -/
def SoundD (V : List (List Int)) (m : Nat) (L : Int) (f : Nat → Nat → Nat → Option Int) : Prop := ∀ s k g x, s < 64 → k ≤ m → g < V.length → f s k g = some x → ∀ sum, sum ≤ x → ∀ l, ¬ Compl V m L k g sum s l
theorem SoundD.start (V : List (List Int)) (m : Nat) (L : Int) : SoundD V m L fun _ _ _ => none := fun s k g x _ _ _ h => by cases h
theorem SoundD.put {V : List (List Int)} {m : Nat} {L : Int} {f : Nat → Nat → Nat → Option Int} (h : SoundD V m L f) {s k g : Nat} {x : Int} (hno : ∀ l, ¬ Compl V m L k g x s l) : SoundD V m L (putF f s k g x) := fun s' k' g' x' hs hk hg hf sum hle l hc => by
  unfold putF at hf
  split at hf
  · rename_i he
    obtain ⟨rfl, rfl, rfl⟩ := he
    cases hf
    exact hno l (hc.more hle)
  · exact h s' k' g' x' hs hk hg hf sum hle l hc
theorem grown_of {w w' : World} (hb : Below w.heap.size w w') (row : Option Nat) : w.grownBy w' row := ⟨hb.os, hb.tape, hb.output, hb.size, fun k hk _ => hb.block k hk⟩
theorem OwnD.but {w w' : World} {b n : Nat} {f : Nat → Nat → Nat → Option Int} (h : OwnD w b n f) (hb : Below w.heap.size w w') : OwnD w' b n f := h.below hb h.lt
theorem own_one (w : World) (T : Nat) (x : Value) : (w.alloc (.cells #[x] T)).ownsRow w.heap.size T 1 (.slice (some ⟨w.heap.size, 0, none⟩) 1 1) 1 [x] :=
  ⟨rfl, .inr ⟨w.heap.size, 1, #[x], rfl, Nat.le_refl _, heap_alloc_new w _, Nat.le_refl _, by unfold maxLen; omega, rfl, rfl⟩⟩
theorem rd_none {w : World} {B : Nat} {A : Option Addr} {L : List Int} (h : Rd w B A L) (hA : A = none) : L.length = 0 := by
  rcases Nat.eq_zero_or_pos L.length with h0 | h0
  · exact h0
  · obtain ⟨b, off, e, _⟩ := h.2.2 h0
    rw [hA] at e; cases e
theorem rd_news {w : World} {B : Nat} {A : Option Addr} {L : List Int} (h : Rd w B A L) : ∀ ad, A = some ad → ∀ j u, (L.map (Value.int .i64))[j]? = some u → w.cell? (ad.add j) = some u := by
  intro ad hA j u hj
  have h0 : 0 < L.length := by
    have := (List.getElem?_eq_some_iff.1 hj).1
    simp at this; omega
  obtain ⟨b, off, e, hb, hc⟩ := h.2.2 h0
  rw [hA] at e
  cases e
  exact cells_ints hc j u hj
/-- how many entries a search can make -/
def cstN : Nat → Nat
  | 0 => 1
  | d + 1 => 6 * cstN d + 1
end Go.Proofs.Ytkoipecnmijfoaa

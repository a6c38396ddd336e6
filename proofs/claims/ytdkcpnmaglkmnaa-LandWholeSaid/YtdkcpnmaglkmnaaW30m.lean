import Derived.Test.YtdkcpnmaglkmnaaW30e
import Derived.Maps.OwnSet
import Derived.Maps.OwnOps
/-! A map from numbers to booleans that the call has made: reading, storing, striking out. -/
namespace Go.Proofs.Ytdkcpnmaglkmnaa
open Go.RowKit Go.Deep Go.Maps
set_option linter.unusedVariables false
set_option maxRecDepth 100000

theorem uMap : Try.prog.underlying 81 = some (.map 3 4) := by kernel_rfl
theorem uInt : Try.prog.underlying 3 = some (.int .i64) := by kernel_rfl
theorem uBool : Try.prog.underlying 4 = some .bool := by kernel_rfl
theorem kInt : Keyed Try.prog 3 := int_keyed uInt
theorem zBool (w : World) : (zeroValue 4).run Try.prog w = .ok (.bool false) w := by kernel_rfl
theorem wfk {k : Nat} (hk : k < 1000) : (Lit.int .i64 (k : Int)).wf = true := WalkArith.wf_i64 ⟨by omega, by omega⟩
theorem keyk {k : Nat} (hk : k < 1000) : keyOf Try.prog 3 (.int .i64 (k : Int)) = some (.int .i64 (k : Int)) := keyOf_int_mk uInt (wfk hk)
theorem plainElem_bool_inv {v : Value} {z : DataW Unit × List MemPlace} (h : plainElem Try.prog 4 v = some z) : ∃ x, v = .bool x ∧ z = (.lit (.bool x), []) := by
  unfold plainElem at h
  rw [uBool] at h
  cases v <;> simp at h
  obtain rfl := h
  exact ⟨_, rfl, rfl⟩
/-- block b is a map of at most n entries in which just the numbers of f are true -/
def OwnM (w : World) (b n : Nat) (f : Nat → Bool) : Prop :=
  ∃ D : DataW Unit, w.ownsMap Try.prog 3 (plainElem Try.prog 4) b n D ∧ ∀ k : Nat, k < 1000 → D.atKey (.int .i64 (k : Int)) (.lit (.bool false)) = .lit (.bool (f k))
section
variable {w w' : World} {b n : Nat} {f : Nat → Bool}
theorem OwnM.made (w : World) : OwnM (w.alloc (.map #[] 0)) w.heap.size 0 fun _ => false := ⟨_, World.ownsMap_made w _ _ _, fun k _ => rfl⟩
theorem OwnM.lt (h : OwnM w b n f) : b < w.heap.size := by obtain ⟨D, h1, _⟩ := h; exact h1.lt
theorem OwnM.drew (h : OwnM w b n f) : OwnM w.drew b n f := h
theorem OwnM.same (h : OwnM w b n f) (hb : w'.heap[b]? = w.heap[b]?) : OwnM w' b n f := by
  obtain ⟨D, ⟨es, clock, h1, h2⟩, h3⟩ := h
  exact ⟨D, ⟨es, clock, hb.trans h1, h2⟩, h3⟩
theorem OwnM.alloc (h : OwnM w b n f) (o : Obj) : OwnM (w.alloc o) b n f := h.same (Below.heap_alloc w o b h.lt)
theorem OwnM.below {B : Nat} (h : OwnM w b n f) (hb : Below B w w') (hB : b < B) : OwnM w' b n f := h.same (hb.block b hB)
theorem OwnM.ext {g : Nat → Bool} (h : OwnM w b n f) (hfg : ∀ k, k < 1000 → f k = g k) : OwnM w b n g := by
  obtain ⟨D, h1, h2⟩ := h
  exact ⟨D, h1, fun k hk => by rw [h2 k hk, hfg k hk]⟩
theorem OwnM.more {m : Nat} (h : OwnM w b n f) (hm : n ≤ m) : OwnM w b m f := by
  obtain ⟨D, h1, h2⟩ := h
  exact ⟨D, h1.mono hm, h2⟩
theorem OwnM.look (h : OwnM w b n f) {k : Nat} (hk : k < 1000) : (Instr.lookup 81 (.map (some b)) (.int .i64 (k : Int)) false).run Try.prog w = .ok (.bool (f k)) w := by
  obtain ⟨D, h1, h2⟩ := h
  obtain ⟨v, ps, hrun, hv⟩ := h1.lookup kInt uMap (zBool w) (plainElem_bool uBool false) (keyk hk)
  obtain ⟨x, rfl, hx⟩ := plainElem_bool_inv hv
  rw [h2 k hk] at hx
  simp at hx
  rw [hrun, hx.1]
theorem lit_ne {i k : Nat} (h : i ≠ k) : (Lit.int .i64 (i : Int)) ≠ .int .i64 (k : Int) := by
  intro e; cases e; exact h rfl
theorem OwnM.put (h : OwnM w b n f) (hn : n < 1000) {k : Nat} (hk : k < 1000) : ∃ w1, (Instr.mapUpdate 81 (.map (some b)) (.int .i64 (k : Int)) (.bool true)).run Try.prog w = .ok () w1 ∧ OwnM w1 b (n + 1) (fun i => if i = k then true else f i) ∧ w.grownBy w1 (some b) := by
  obtain ⟨D, h1, h2⟩ := h
  obtain ⟨w1, hrun, ho, hg⟩ := h1.update kInt uMap (by unfold maxLen; omega) (keyk hk) (plainElem_bool uBool true)
  refine ⟨w1, hrun, ⟨_, ho, fun i hi => ?_⟩, hg⟩
  show _ = DataW.lit (Lit.bool (if i = k then true else f i))
  by_cases hik : i = k
  · subst hik
    rw [if_pos rfl]
    exact atKey_put_same h1.isMap (by trivial) _ _
  · rw [if_neg hik, atKey_put_other (lit_ne hik), h2 i hi]
theorem OwnM.cut (h : OwnM w b n f) {k : Nat} (hk : k < 1000) (ty : TypeId) : ∃ w1, (Builtin.delete_ #[81, 3] ty #[.map (some b), .int .i64 (k : Int)]).run Try.prog w = .ok (.tuple #[]) w1 ∧ OwnM w1 b n (fun i => if i = k then false else f i) ∧ w.mapTurned w1 b := by
  obtain ⟨D, h1, h2⟩ := h
  obtain ⟨w1, hrun, ho, hg⟩ := h1.drop kInt uMap (keyk hk) ty
  refine ⟨w1, hrun, ⟨_, ho, fun i hi => ?_⟩, hg⟩
  show _ = DataW.lit (Lit.bool (if i = k then false else f i))
  by_cases hik : i = k
  · subst hik
    rw [if_pos rfl, atKey_del_same]
  · rw [if_neg hik, atKey_del_other (lit_ne hik), h2 i hi]
end
section
variable {w : World} {ops : Array Oper} {rest : List Oper} {o : Oper} {a : Act} {Q : Exit → Act → World → Prop} {b n : Nat} {f : Nat → Bool}
theorem wpm_put (hg : o.guard = none) (m x v : Operand) (hop : o.op = Op.mapUpdate 81 m x v) (hm : a.eval m = .map (some b)) (hown : OwnM w b n f) (hn : n < 1000) {k : Nat} (hk : k < 1000)
    (hx : a.eval x = .int .i64 (k : Int)) (hv : a.eval v = .bool true) (hK : ∀ w1, OwnM w1 b (n + 1) (fun i => if i = k then true else f i) → w.grownBy w1 (some b) → wpList Try.prog ops Q rest (a.put o.dst undef) w1) :
    wpList Try.prog ops Q (o :: rest) a w := by
  refine wpList_plain hg fun K' hK' => ?_
  obtain ⟨w', hrun, r1, r2⟩ := hown.put hn hk
  unfold Oper.wp
  simp [execOp, hop, hm, hx, hv, hrun, Result.andThen]
  exact hK' _ _ (hK w' r1 r2)
theorem wpm_cut (hg : o.guard = none) (m x : Operand) (hop : o.op = Op.call { callee := Callee.builtin Builtin.delete, args := #[m, x], argTypes := #[81, 3] }) (hm : a.eval m = .map (some b)) (hown : OwnM w b n f) {k : Nat} (hk : k < 1000)
    (hx : a.eval x = .int .i64 (k : Int)) (hK : ∀ w1, OwnM w1 b n (fun i => if i = k then false else f i) → w.mapTurned w1 b → wpList Try.prog ops Q rest (a.put o.dst (.tuple #[])) w1) :
    wpList Try.prog ops Q (o :: rest) a w := by
  refine wpList_plain hg fun K' hK' => ?_
  obtain ⟨w', hrun, r1, r2⟩ := hown.cut hk o.type
  unfold Oper.wp
  simp [execOp, hop, resolve, invoke, builtin, hm, hx, hrun, Result.andThen]
  exact hK' _ _ (hK w' r1 r2)
end
end Go.Proofs.Ytdkcpnmaglkmnaa

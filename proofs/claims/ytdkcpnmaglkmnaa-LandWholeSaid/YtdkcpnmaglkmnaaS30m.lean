import Derived.Test.YtdkcpnmaglkmnaaW30t
/-! Plain law: giving a parcel; and the result cell of land with an error. -/
namespace Go.Proofs.Ytdkcpnmaglkmnaa
open Go.RowKit Go.Deep
set_option linter.unusedVariables false
set_option maxRecDepth 100000

/-- the owner of a parcel -/
def wasL (L : List Int) (p : Int) : Int := L.getD p.toNat 0
/-- the error of a gift -/
def gvE30 (W H : Int) (L : List Int) (p t : Int) : Int :=
  if lck W H L ≠ 0 then lck W H L
  else if p < 0 ∨ (L.length : Int) ≤ p ∨ t < 0 ∨ 6 ≤ t then 2
  else if wasL L p = t then 6
  else if 1 < (partsK W.toNat (L.set p.toNat t) t).length ∨ (0 ≤ wasL L p ∧ 1 < (partsK W.toNat (L.set p.toNat t) (wasL L p)).length) then 20
  else 0
/-- the land after a gift -/
def gvW30 (W H : Int) (L : List Int) (p t : Int) : Int := if gvE30 W H L p t = 0 then W else 0
def gvH30 (W H : Int) (L : List Int) (p t : Int) : Int := if gvE30 W H L p t = 0 then H else 0
def gvL30 (W H : Int) (L : List Int) (p t : Int) : List Int := if gvE30 W H L p t = 0 then L.set p.toNat t else []
section
variable {W H : Int} {L : List Int} {p t : Int}
theorem gv30_chk (h : lck W H L ≠ 0) : gvE30 W H L p t = lck W H L ∧ gvW30 W H L p t = 0 ∧ gvH30 W H L p t = 0 ∧ gvL30 W H L p t = [] := by
  have e : gvE30 W H L p t = lck W H L := by rw [gvE30, if_pos h]
  exact ⟨e, by rw [gvW30, e, if_neg h], by rw [gvH30, e, if_neg h], by rw [gvL30, e, if_neg h]⟩
theorem gv30_arg (h : lck W H L = 0) (h2 : p < 0 ∨ (L.length : Int) ≤ p ∨ t < 0 ∨ 6 ≤ t) : gvE30 W H L p t = 2 ∧ gvW30 W H L p t = 0 ∧ gvH30 W H L p t = 0 ∧ gvL30 W H L p t = [] := by
  have e : gvE30 W H L p t = 2 := by rw [gvE30, if_neg (by simp [h]), if_pos h2]
  exact ⟨e, by rw [gvW30, e]; rfl, by rw [gvH30, e]; rfl, by rw [gvL30, e]; rfl⟩
theorem gv30_none (h : lck W H L = 0) (h2 : ¬ (p < 0 ∨ (L.length : Int) ≤ p ∨ t < 0 ∨ 6 ≤ t)) (h3 : wasL L p = t) : gvE30 W H L p t = 6 ∧ gvW30 W H L p t = 0 ∧ gvH30 W H L p t = 0 ∧ gvL30 W H L p t = [] := by
  have e : gvE30 W H L p t = 6 := by rw [gvE30, if_neg (by simp [h]), if_neg h2, if_pos h3]
  exact ⟨e, by rw [gvW30, e]; rfl, by rw [gvH30, e]; rfl, by rw [gvL30, e]; rfl⟩
theorem gv30_apart (h : lck W H L = 0) (h2 : ¬ (p < 0 ∨ (L.length : Int) ≤ p ∨ t < 0 ∨ 6 ≤ t)) (h3 : wasL L p ≠ t)
    (h4 : 1 < (partsK W.toNat (L.set p.toNat t) t).length ∨ (0 ≤ wasL L p ∧ 1 < (partsK W.toNat (L.set p.toNat t) (wasL L p)).length)) : gvE30 W H L p t = 20 ∧ gvW30 W H L p t = 0 ∧ gvH30 W H L p t = 0 ∧ gvL30 W H L p t = [] := by
  have e : gvE30 W H L p t = 20 := by rw [gvE30, if_neg (by simp [h]), if_neg h2, if_neg h3, if_pos h4]
  exact ⟨e, by rw [gvW30, e]; rfl, by rw [gvH30, e]; rfl, by rw [gvL30, e]; rfl⟩
theorem gv30_ok (h : lck W H L = 0) (h2 : ¬ (p < 0 ∨ (L.length : Int) ≤ p ∨ t < 0 ∨ 6 ≤ t)) (h3 : wasL L p ≠ t)
    (h4 : ¬ (1 < (partsK W.toNat (L.set p.toNat t) t).length ∨ (0 ≤ wasL L p ∧ 1 < (partsK W.toNat (L.set p.toNat t) (wasL L p)).length))) : gvE30 W H L p t = 0 ∧ gvW30 W H L p t = W ∧ gvH30 W H L p t = H ∧ gvL30 W H L p t = L.set p.toNat t := by
  have e : gvE30 W H L p t = 0 := by rw [gvE30, if_neg (by simp [h]), if_neg h2, if_neg h3, if_neg h4]
  exact ⟨e, by rw [gvW30, if_pos e], by rw [gvH30, if_pos e], by rw [gvL30, if_pos e]⟩
end
/-- land and an error -/
def LandResE (w : World) (W H : Int) (L : List Int) (c : Int) (e : Ending) (w' : World) : Prop :=
  ∃ A cap, e = .returned (.tuple #[.agg #[.int .i64 W, .int .i64 H, .slice A L.length cap], .int .i64 c]) ∧ Rd w' w'.heap.size A L ∧ Below w.heap.size w w'
/-- the result cell of land, beside an error -/
theorem landCell2 {fn : Func} {p q : Tmp} (h : fn.results = #[.cell p 24, .tmp q]) (tmps : Array Value) (w : World) (g T : Nat) (x y z : Value)
    (hp : tmps.getD p undef = .pointer (some ⟨g, 0, none⟩)) (hg : w.heap[g]? = some (.cells #[x, y, z] T (0, 0))) : (results fn tmps).run Try.prog w = .ok (.tuple #[.agg #[x, y, z], tmps.getD q undef]) w := by
  have h1 := undLand
  cases hu : Try.prog.underlying 24 with
  | none => rw [hu] at h1; simp at h1
  | some d =>
    rw [hu] at h1
    rw [results_cell_tmp h, hp]
    simp only [asAddr, Sem.run_pure, Result.andThen_ok]
    rw [run_loadVar_row w g T 24 #[x, y, z] (0, 0) d hg hu (by cases d <;> simp_all) (by rw [infoLand]; rfl)]
    rfl
/-- an ending with no land -/
theorem noLand {w wf : World} {c : Int} {W H : Int} {L : List Int} (hb : Below w.heap.size w wf) (hW : W = 0) (hH : H = 0) (hL : L = []) :
    LandResE w W H L c (.returned (.tuple #[.agg #[.int .i64 0, .int .i64 0, .slice none 0 0], .int .i64 c])) wf := by
  subst hW hH hL
  exact ⟨none, 0, rfl, Rd.nil _ _ _, hb⟩
end Go.Proofs.Ytdkcpnmaglkmnaa

import Derived.Test.YtefbkdjppfofmaaFrame2
/-! What a slice of bools that came in gives to the walks. -/
namespace Go.Proofs.Ytefbkdjppfofmaa
open Go.ChangeShapes Go.WideShapes Go.ChangeAt Go.RowKit Go.Deep
set_option linter.unusedVariables false
section
variable {H : Type} {enc : TypeId × Value → H} {P : Program} {W : World}
theorem rdB_of_trod {T E : TypeId} (uT : P.underlying T = some (.slice E)) (uE : P.underlying E = some .bool) (cE : P.cellsOf E = 1) (bE : P.bytesOf E = 1)
    {a : Option Addr} {len cap : Nat} {d : DataW H} {p : List MemPlace} (h : DataW.Trod enc P W 0 (fun _ => true) true T (.slice a len cap) d p) (hs : Sz P T d) : ∃ L, len = L.length ∧ RdB W W.heap.size a L := by
  obtain ⟨n, hn⟩ := h
  obtain ⟨a', cap', L, e, hr⟩ := rdOf_of_trod (sz := 1) (bytes := 1) (α := Bool) (Er := fun w B b o x => w.cell? ⟨b, o, none⟩ = some (.bool x)) uT cE bE (by omega) (fun n b o cs d p hc hl h hs => by
    match cs, hl with
    | [v], _ =>
      cases n with
      | zero => simp [DataW.trod] at h
      | succ n =>
        rw [DataW.trod_step] at h
        unfold DataW.trodStep at h
        rw [uE] at h
        cases v with
        | bool x => exact ⟨x, hc 0 (by omega)⟩
        | _ => simp at h) hn hs
  simp [Value.cells] at e
  obtain ⟨rfl, rfl, rfl⟩ := e
  exact ⟨L, rfl, hr⟩
end
end Go.Proofs.Ytefbkdjppfofmaa

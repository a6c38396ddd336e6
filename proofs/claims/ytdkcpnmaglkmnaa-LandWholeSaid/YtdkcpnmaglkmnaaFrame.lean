import Derived.Test.YtdkcpnmaglkmnaaRows
import Derived.Test.YtdkcpnmaglkmnaaBase
import Derived.WalkKit
import Derived.ProofKit
import Derived.OpenShut
import Derived.ShutString
import Derived.ChangeOld
import Derived.Below
import Derived.SizedLaws
/-! What a slice of integers that came in gives to the walks. -/
namespace Go.Proofs.Ytdkcpnmaglkmnaa
open Go.ChangeShapes Go.WideShapes Go.ChangeAt Go.RowKit
set_option linter.unusedVariables false

theorem ownKnob_none : ownKnob Try.prog.godebug = none := by kernel_rfl
theorem laid_out : laidOutB Try.prog = true := by kernel_rfl

theorem rd_of_trod {H : Type} {enc : TypeId × Value → H} {P : Program} {W : World} {T E : TypeId} (uT : P.underlying T = some (.slice E)) (uE : P.underlying E = some (.int .i64)) (cE : P.cellsOf E = 1) (bE : P.bytesOf E = 8)
    {a : Option Addr} {len cap : Nat} {d : DataW H} {p : List MemPlace} (h : DataW.Trod enc P W 0 (fun _ => true) true T (.slice a len cap) d p)
    {ts : List TypeId} {ds : List (DataW H)} (hsz : (DataW.weightsEach P ts ds).all (· ≤ reachBytes) = true) {j : Nat} (ht : ts[j]? = some T) (hd : ds[j]? = some d) :
    ∃ L : List Int, len = L.length ∧ Rd W W.heap.size a L := by
  obtain ⟨fuel, hf⟩ := h
  rcases open_ints uT uE cE hf with ⟨hcs, _⟩ | ⟨x, l, c, zs, hcs, _, hl, hm, hz, hx, hcell, hwz⟩
  · simp [Value.cells] at hcs
    obtain ⟨rfl, rfl, rfl⟩ := hcs
    exact ⟨[], rfl, Rd.nil _ _ _⟩
  · simp [Value.cells] at hcs
    obtain ⟨rfl, rfl, rfl⟩ := hcs
    simp at hz
    refine ⟨zs.take len, by simp; omega, ?_, ?_, ?_⟩
    · intro y hy
      have := hwz y (List.mem_of_mem_take hy)
      have h1 : IntKind.i64.min = -9223372036854775808 := rfl
      have h2 : IntKind.i64.max = 9223372036854775807 := rfl
      simp only [Lit.wf, Bool.and_eq_true, decide_eq_true_eq] at this
      unfold I64
      omega
    · simp at hx
      have hb := sized_slice hsz ht (by rw [hd, hx.1]) uT
      rw [bE] at hb
      simp only [lits, List.length_map, List.length_take, List.length_drop, reachBytes] at hb
      simp only [List.length_take]
      omega
    · intro hn
      simp only [List.length_take] at hn
      obtain ⟨b, off, spot⟩ := x
      have h0 := hcell 0 (by omega)
      have hs : spot = none := by simpa [Addr.add] using World.cell?_spot h0
      subst hs
      refine ⟨b, off, rfl, ?_, ?_⟩
      · have := World.block_lt_of_cell? _ _ h0
        simpa [Addr.add] using this
      · intro i y hy
        have hi := (List.getElem?_eq_some_iff.1 hy).1
        simp only [List.length_take] at hi
        have hc := hcell i (by omega)
        have e1 : zs.getD i 0 = y := by
          rw [List.getElem?_take_of_lt (by omega)] at hy
          simp [List.getD, hy]
        rw [e1] at hc
        have e2 : (⟨b, off, none⟩ : Addr).add i = ⟨b, off + i, none⟩ := by
          unfold Addr.add; split <;> simp_all
        rwa [e2] at hc

theorem i64_of_wf {x : Int} (h : (Lit.int .i64 x).wf = true) : I64 x := by
  have h1 : IntKind.i64.min = -9223372036854775808 := rfl
  have h2 : IntKind.i64.max = 9223372036854775807 := rfl
  simp only [Lit.wf, Bool.and_eq_true, decide_eq_true_eq] at h
  unfold I64
  omega
end Go.Proofs.Ytdkcpnmaglkmnaa

import Derived.Test.YtkoipecnmijfoaaRows
import Derived.Test.YtkoipecnmijfoaaM35a
import Derived.WalkKit
import Derived.ProofKit
import Derived.OpenShut
import Derived.ShutString
import Derived.ChangeOld
import Derived.Below
import Derived.SizedLaws
import Derived.Deep.Slices
import Derived.Lib.SmallJoins
/-! Texts that were built one by one, in one file. -/
-- holds: Frame Frame2

section
/-! What a slice of integers that came in gives to the walks. -/
namespace Go.Proofs.Ytkoipecnmijfoaa
open Go.ChangeShapes Go.WideShapes Go.ChangeAt Go.RowKit
set_option linter.unusedVariables false

theorem ownKnob_none : ownKnob Try.prog.godebug = none := by kernel_rfl
theorem laid_out : laidOutB Try.prog = true := by kernel_rfl

theorem rd_of_trod {H : Type} {enc : TypeId × Value → H} {P : Program} {W : World} {T E : TypeId} (uT : P.underlying T = some (.slice E)) (uE : P.underlying E = some (.int .i64)) (cE : P.cellsOf E = 1) (bE : P.bytesOf E = 8)
    {a : Option Addr} {len cap : Nat} {d : DataW H} {p : List MemPlace} (h : DataW.Trod enc P W 0 (fun _ => true) true T (.slice a len cap) d p)
    {ts : List TypeId} {ds : List (DataW H)} (hsz : (DataW.weightsEach P ts ds).all (· ≤ reachBytes) = true) {j : Nat} (ht : ts[j]? = some T) (hd : ds[j]? = some d) :
    ∃ L : List Int, len = L.length ∧ Rd W W.heap.size a L := by
  obtain ⟨fuel, hf⟩ := h
  rcases open_ints uT uE cE hf with ⟨hcs, _⟩ | ⟨x, l, c, zs, hcs, _, hl, hm, hz, hx, hcell, hwz⟩
  · simp [Value.cells] at hcs
    obtain ⟨rfl, rfl, rfl⟩ := hcs
    exact ⟨[], rfl, Rd.nil _ _ _⟩
  · simp [Value.cells] at hcs
    obtain ⟨rfl, rfl, rfl⟩ := hcs
    simp at hz
    refine ⟨zs.take len, by simp; omega, ?_, ?_, ?_⟩
    · intro y hy
      have := hwz y (List.mem_of_mem_take hy)
      have h1 : IntKind.i64.min = -9223372036854775808 := rfl
      have h2 : IntKind.i64.max = 9223372036854775807 := rfl
      simp only [Lit.wf, Bool.and_eq_true, decide_eq_true_eq] at this
      unfold I64
      omega
    · simp at hx
      have hb := sized_slice hsz ht (by rw [hd, hx.1]) uT
      rw [bE] at hb
      simp only [lits, List.length_map, List.length_take, List.length_drop, reachBytes] at hb
      simp only [List.length_take]
      omega
    · intro hn
      simp only [List.length_take] at hn
      obtain ⟨b, off, spot⟩ := x
      have h0 := hcell 0 (by omega)
      have hs : spot = none := by simpa [Addr.add] using World.cell?_spot h0
      subst hs
      refine ⟨b, off, rfl, ?_, ?_⟩
      · have := World.block_lt_of_cell? _ _ h0
        simpa [Addr.add] using this
      · intro i y hy
        have hi := (List.getElem?_eq_some_iff.1 hy).1
        simp only [List.length_take] at hi
        have hc := hcell i (by omega)
        have e1 : zs.getD i 0 = y := by
          rw [List.getElem?_take_of_lt (by omega)] at hy
          simp [List.getD, hy]
        rw [e1] at hc
        have e2 : (⟨b, off, none⟩ : Addr).add i = ⟨b, off + i, none⟩ := by
          unfold Addr.add; split <;> simp_all
        rwa [e2] at hc

theorem i64_of_wf {x : Int} (h : (Lit.int .i64 x).wf = true) : I64 x := by
  have h1 : IntKind.i64.min = -9223372036854775808 := rfl
  have h2 : IntKind.i64.max = 9223372036854775807 := rfl
  simp only [Lit.wf, Bool.and_eq_true, decide_eq_true_eq] at h
  unfold I64
  omega
end Go.Proofs.Ytkoipecnmijfoaa
end

section
/-! What slices of other elements that came in give to the walks. -/
namespace Go.Proofs.Ytkoipecnmijfoaa
open Go.ChangeShapes Go.WideShapes Go.ChangeAt Go.RowKit Go.Deep
set_option linter.unusedVariables false

/-- no part of a datum is larger than the reach -/
def Sz {H : Type} (P : Program) (t : TypeId) (d : DataW H) : Prop := ∀ n ∈ d.weights P t, n ≤ reachBytes
theorem Sz.of_each {H : Type} {P : Program} {ts : List TypeId} {ds : List (DataW H)} (hsz : (DataW.weightsEach P ts ds).all (· ≤ reachBytes) = true) {j : Nat} {t : TypeId} {d : DataW H} (ht : ts[j]? = some t) (hd : ds[j]? = some d) : Sz P t d :=
  fun n hn => by simpa using List.all_eq_true.1 hsz n (DataW.weights_mem_each ht hd n hn)
theorem weightsAll_mem {H : Type} {P : Program} {e : TypeId} : ∀ {l : List (DataW H)} {d : DataW H} {n : Nat}, d ∈ l → n ∈ d.weights P e → n ∈ DataW.weightsAll P e l
  | x :: l, d, n, hd, hn => by
    simp only [DataW.weightsAll, List.mem_append]
    rcases List.mem_cons.1 hd with rfl | hd
    · exact .inl hn
    · exact .inr (weightsAll_mem hd hn)
theorem Sz.elem {H : Type} {P : Program} {t e : TypeId} {l r : List (DataW H)} (hu : P.underlying t = some (.slice e)) (h : Sz P t (.slice l r)) {d : DataW H} (hd : d ∈ l) : Sz P e d :=
  fun n hn => h n (by simp only [DataW.weights, hu, List.mem_cons, List.mem_append]; exact .inr (.inl (weightsAll_mem hd hn)))
theorem Sz.len {H : Type} {P : Program} {t e : TypeId} {l r : List (DataW H)} (hu : P.underlying t = some (.slice e)) (h : Sz P t (.slice l r)) : (l.length + r.length) * P.bytesOf e ≤ reachBytes :=
  h _ (by simp [DataW.weights, hu])
theorem Sz.field {H : Type} {P : Program} {t : TypeId} {fs : Array Field} {l : List (DataW H)} (hu : P.underlying t = some (.struct fs)) (h : Sz P t (.agg l)) {j : Nat} {f : Field} {d : DataW H} (hf : fs[j]? = some f) (hd : l[j]? = some d) : Sz P f.type d :=
  fun n hn => h n (by
    simp only [DataW.weights, hu]
    exact DataW.weights_mem_each (j := j) (by simp [hf]) hd n hn)

section
variable {H : Type} {enc : TypeId × Value → H} {P : Program} {W : World}
theorem rd_of_trod' {T E : TypeId} (uT : P.underlying T = some (.slice E)) (uE : P.underlying E = some (.int .i64)) (cE : P.cellsOf E = 1) (bE : P.bytesOf E = 8)
    {cs : List Value} {n : Nat} {d : DataW H} {p : List MemPlace} (h : DataW.trod enc P W 0 (fun _ => true) true n T cs = some (d, p)) (hs : Sz P T d) :
    ∃ (a : Option Addr) (cap : Nat) (L : List Int), cs = [.slice a L.length cap] ∧ Rd W W.heap.size a L := by
  rcases open_ints uT uE cE h with ⟨hcs, _⟩ | ⟨x, l, c, zs, hcs, _, hl, hm, hz, hx, hcell, hwz⟩
  · exact ⟨none, 0, [], hcs, Rd.nil _ _ _⟩
  · simp at hz
    have hlen : (zs.take l).length = l := by simp; omega
    refine ⟨some x, c, zs.take l, by rw [hlen]; exact hcs, ?_, ?_, ?_⟩
    · intro y hy
      have := hwz y (List.mem_of_mem_take hy)
      have h1 : IntKind.i64.min = -9223372036854775808 := rfl
      have h2 : IntKind.i64.max = 9223372036854775807 := rfl
      simp only [Lit.wf, Bool.and_eq_true, decide_eq_true_eq] at this
      unfold I64
      omega
    · simp at hx
      rw [hx.1] at hs
      have hb := hs.len uT
      rw [bE] at hb
      simp only [lits, List.length_map, List.length_take, List.length_drop, reachBytes] at hb
      simp only [List.length_take]
      omega
    · intro hn
      simp only [List.length_take] at hn
      obtain ⟨b, off, spot⟩ := x
      have h0 := hcell 0 (by omega)
      have hs : spot = none := by simpa [Addr.add] using World.cell?_spot h0
      subst hs
      refine ⟨b, off, rfl, ?_, ?_⟩
      · have := World.block_lt_of_cell? _ _ h0
        simpa [Addr.add] using this
      · intro i y hy
        have hi := (List.getElem?_eq_some_iff.1 hy).1
        simp only [List.length_take] at hi
        have hc := hcell i (by omega)
        have e1 : zs.getD i 0 = y := by
          rw [List.getElem?_take_of_lt (by omega)] at hy
          simp [List.getD, hy]
        rw [e1] at hc
        have e2 : (⟨b, off, none⟩ : Addr).add i = ⟨b, off + i, none⟩ := by
          unfold Addr.add; split <;> simp_all
        rwa [e2] at hc

theorem rdOf_of_trod {α : Type} [Inhabited α] {sz bytes : Nat} {Er : World → Nat → Nat → Nat → α → Prop} {T E : TypeId} (uT : P.underlying T = some (.slice E)) (cE : P.cellsOf E = sz) (bE : P.bytesOf E = bytes) (h1 : 0 < sz)
    (hE : ∀ (n : Nat) (b o : Nat) (cs : List Value) (d : DataW H) (p : List MemPlace), (∀ i, i < sz → W.cell? ⟨b, o + i, none⟩ = cs[i]?) → cs.length = sz → DataW.trod enc P W 0 (fun _ => true) true n E cs = some (d, p) → Sz P E d → ∃ x, Er W W.heap.size b o x)
    {cs : List Value} {n : Nat} {d : DataW H} {p : List MemPlace} (h : DataW.trod enc P W 0 (fun _ => true) true n T cs = some (d, p)) (hs : Sz P T d) :
    ∃ (a : Option Addr) (cap : Nat) (L : List α), cs = [.slice a L.length cap] ∧ RdOf sz bytes Er W W.heap.size a L := by
  rcases open_slice uT h with ⟨hcs, _⟩ | ⟨a, len, cap, m, n', D, Pl, hcs, _, hl, hm, hmm, hx, hi⟩
  · exact ⟨none, 0, [], hcs, RdOf.nil _ _ _⟩
  · simp only [if_true] at hmm
    subst hmm
    simp only [Prod.mk.injEq] at hx
    rw [cE] at hi
    rw [hx.1] at hs
    have hbytes := hs.len uT
    rw [bE] at hbytes
    simp only [List.length_map, List.length_range, reachBytes] at hbytes
    have hbb : len * bytes ≤ 140737488351232 := by
      have e : len + (m - len) = m := by omega
      rw [e] at hbytes
      exact Nat.le_trans (Nat.mul_le_mul_right _ hl) hbytes
    rcases Nat.eq_zero_or_pos len with h0 | h0
    · subst h0
      exact ⟨some a, m, [], hcs, RdOf.nil _ _ _⟩
    obtain ⟨b, off, spot⟩ := a
    have hsp : spot = none := by
      obtain ⟨cs0, hc0, _⟩ := hi 0 (by omega)
      obtain ⟨_, hl0, hat⟩ := World.cells?_some hc0
      have h2 := hat 0 h1
      rw [List.getElem?_eq_getElem (by omega)] at h2
      simpa [Addr.add] using World.cell?_spot h2
    subst hsp
    have hadd : ∀ b o i, (⟨b, o, none⟩ : Addr).add i = ⟨b, o + i, none⟩ := fun b o i => addr_add b o i
    have hbl : b < W.heap.size := by
      obtain ⟨cs0, hc0, _⟩ := hi 0 (by omega)
      obtain ⟨_, hl0, hat⟩ := World.cells?_some hc0
      have h2 := hat 0 h1
      rw [List.getElem?_eq_getElem (by omega)] at h2
      have := World.block_lt_of_cell? _ _ h2
      simpa [hadd] using this
    have each : ∀ i, i < len → ∃ x, Er W W.heap.size b (off + i * sz) x := by
      intro i hil
      obtain ⟨csi, hci, ti⟩ := hi i (by omega)
      obtain ⟨_, hli, hat⟩ := World.cells?_some hci
      refine hE n' b (off + i * sz) csi (D i) (Pl i) ?_ hli ti ?_
      · intro j hj
        have := hat j hj
        rwa [hadd, hadd] at this
      · exact hs.elem uT (List.mem_map.2 ⟨i, List.mem_range.2 hil, rfl⟩)
    obtain ⟨f, hf⟩ := choose_lt each
    refine ⟨some ⟨b, off, none⟩, m, (List.range len).map f, by simpa using hcs, by simpa using hbb, fun _ => ⟨b, off, rfl, hbl, ?_⟩⟩
    intro i x hx'
    rw [List.getElem?_map] at hx'
    rcases Nat.lt_or_ge i len with hil | hil
    · rw [List.getElem?_range hil] at hx'
      simp only [Option.map_some, Option.some.injEq] at hx'
      rw [← hx']
      exact hf i hil
    · rw [List.getElem?_eq_none (by simpa using hil)] at hx'
      cases hx'

theorem eInts_of_trod {T E : TypeId} (uT : P.underlying T = some (.slice E)) (uE : P.underlying E = some (.int .i64)) (cE : P.cellsOf E = 1) (bE : P.bytesOf E = 8)
    (n b o : Nat) (cs : List Value) (d : DataW H) (p : List MemPlace) (hc : ∀ i, i < 1 → W.cell? ⟨b, o + i, none⟩ = cs[i]?) (hl : cs.length = 1) (h : DataW.trod enc P W 0 (fun _ => true) true n T cs = some (d, p)) (hs : Sz P T d) : ∃ x, EInts W W.heap.size b o x := by
  obtain ⟨a, cap, L, hcs, hr⟩ := rd_of_trod' uT uE cE bE h hs
  have h0 := hc 0 (by omega)
  rw [hcs] at h0
  exact ⟨L, a, cap, h0, hr⟩
theorem eBools_of_trod {T E : TypeId} (uT : P.underlying T = some (.slice E)) (uE : P.underlying E = some .bool) (cE : P.cellsOf E = 1) (bE : P.bytesOf E = 1)
    (n b o : Nat) (cs : List Value) (d : DataW H) (p : List MemPlace) (hc : ∀ i, i < 1 → W.cell? ⟨b, o + i, none⟩ = cs[i]?) (hl : cs.length = 1) (h : DataW.trod enc P W 0 (fun _ => true) true n T cs = some (d, p)) (hs : Sz P T d) : ∃ x, EBools W W.heap.size b o x := by
  obtain ⟨a, cap, L, hcs, hr⟩ := rdOf_of_trod (sz := 1) (bytes := 1) (α := Bool) (Er := fun w B b o x => w.cell? ⟨b, o, none⟩ = some (.bool x)) uT cE bE (by omega) (fun n b o cs d p hc hl h hs => by
    match cs, hl with
    | [v], _ =>
      cases n with
      | zero => simp [DataW.trod] at h
      | succ n =>
        rw [DataW.trod_step] at h
        unfold DataW.trodStep at h
        rw [uE] at h
        cases v with
        | bool x => exact ⟨x, hc 0 (by omega)⟩
        | _ => simp at h) h hs
  have h0 := hc 0 (by omega)
  rw [hcs] at h0
  exact ⟨L, a, cap, h0, hr⟩
theorem eHol_of_trod {S I : TypeId} {f0 f1 : Field} (uS : P.underlying S = some (.struct #[f0, f1])) (hone : oneCellFields P #[f0, f1] = true)
    (u0 : P.underlying f0.type = some (.int .i64)) (u1 : P.underlying f1.type = some (.slice I)) (uI : P.underlying I = some (.int .i64)) (cI : P.cellsOf I = 1) (bI : P.bytesOf I = 8)
    (n b o : Nat) (cs : List Value) (d : DataW H) (p : List MemPlace) (hc : ∀ i, i < 2 → W.cell? ⟨b, o + i, none⟩ = cs[i]?) (hl : cs.length = 2) (h : DataW.trod enc P W 0 (fun _ => true) true n S cs = some (d, p)) (hs : Sz P S d) : ∃ x, EHol W W.heap.size b o x := by
  obtain ⟨xs, n', _, hx, _, hlen, hg⟩ := DataW.trod_struct uS h
  obtain ⟨o0, k0⟩ := hone_of hone 0 f0 rfl
  obtain ⟨o1, k1⟩ := hone_of hone 1 f1 rfl
  match cs, hl, xs, hlen with
  | [c0, c1], _, [y0, y1], _ =>
    simp only [Prod.mk.injEq] at hx
    have g0 := hg 0 f0 rfl
    have g1 := hg 1 f1 rfl
    rw [o0, k0] at g0
    rw [o1, k1] at g1
    obtain ⟨z, hz, _, hwf⟩ := DataW.trod_int u0 g0
    have hs' := hs
    rw [hx.1] at hs'
    have g1' : DataW.trod enc P W 0 (fun _ => true) true n' f1.type [c1] = some (y1.1, y1.2) := g1
    obtain ⟨a, cap, L, hcs, hr⟩ := rd_of_trod' u1 uI cI bI g1' (hs'.field uS (j := 1) (f := f1) rfl rfl)
    have h0 := hc 0 (by omega)
    have h1 := hc 1 (by omega)
    have e0 : c0 = .int .i64 z := by simpa using hz
    have e1 : c1 = .slice a L.length cap := by simpa using hcs
    refine ⟨(z, L), i64_of_wf hwf, ?_, a, cap, ?_, hr⟩
    · rw [← e0]; exact h0
    · rw [← e1]; exact h1

/-! the parameters -/
theorem cap_of_trod {T E : TypeId} (uT : P.underlying T = some (.slice E)) {a : Option Addr} {len cap : Nat} {d : DataW H} {p : List MemPlace} (h : DataW.Trod enc P W 0 (fun _ => true) true T (.slice a len cap) d p) : len ≤ cap ∧ (a = none → cap = 0) := by
  obtain ⟨n, hn⟩ := h
  rcases open_slice uT hn with ⟨hcs, _⟩ | ⟨a', len', cap', m, n', D, Pl, hcs, _, hl, _⟩
  · simp [Value.cells] at hcs
    exact ⟨by omega, fun _ => hcs.2.2⟩
  · simp [Value.cells] at hcs
    exact ⟨by omega, fun h => by rw [hcs.1] at h; cases h⟩
theorem rd2_of_trod {T E I : TypeId} (uT : P.underlying T = some (.slice E)) (uE : P.underlying E = some (.slice I)) (uI : P.underlying I = some (.int .i64)) (cE : P.cellsOf E = 1) (bE : P.bytesOf E = 24) (cI : P.cellsOf I = 1) (bI : P.bytesOf I = 8)
    {a : Option Addr} {len cap : Nat} {d : DataW H} {p : List MemPlace} (h : DataW.Trod enc P W 0 (fun _ => true) true T (.slice a len cap) d p) (hs : Sz P T d) : ∃ L, len = L.length ∧ Rd2 W W.heap.size a L := by
  obtain ⟨n, hn⟩ := h
  obtain ⟨a', cap', L, e, hr⟩ := rdOf_of_trod uT cE bE (by omega) (eInts_of_trod uE uI cI bI) hn hs
  simp [Value.cells] at e
  obtain ⟨rfl, rfl, rfl⟩ := e
  exact ⟨L, rfl, hr⟩
theorem rdB2_of_trod {T E I : TypeId} (uT : P.underlying T = some (.slice E)) (uE : P.underlying E = some (.slice I)) (uI : P.underlying I = some .bool) (cE : P.cellsOf E = 1) (bE : P.bytesOf E = 24) (cI : P.cellsOf I = 1) (bI : P.bytesOf I = 1)
    {a : Option Addr} {len cap : Nat} {d : DataW H} {p : List MemPlace} (h : DataW.Trod enc P W 0 (fun _ => true) true T (.slice a len cap) d p) (hs : Sz P T d) : ∃ L, len = L.length ∧ RdB2 W W.heap.size a L := by
  obtain ⟨n, hn⟩ := h
  obtain ⟨a', cap', L, e, hr⟩ := rdOf_of_trod uT cE bE (by omega) (eBools_of_trod uE uI cI bI) hn hs
  simp [Value.cells] at e
  obtain ⟨rfl, rfl, rfl⟩ := e
  exact ⟨L, rfl, hr⟩
theorem rdH_of_trod {T S I : TypeId} {f0 f1 : Field} (uT : P.underlying T = some (.slice S)) (uS : P.underlying S = some (.struct #[f0, f1])) (hone : oneCellFields P #[f0, f1] = true) (cS : P.cellsOf S = 2) (bS : P.bytesOf S = 32)
    (u0 : P.underlying f0.type = some (.int .i64)) (u1 : P.underlying f1.type = some (.slice I)) (uI : P.underlying I = some (.int .i64)) (cI : P.cellsOf I = 1) (bI : P.bytesOf I = 8)
    {a : Option Addr} {len cap : Nat} {d : DataW H} {p : List MemPlace} (h : DataW.Trod enc P W 0 (fun _ => true) true T (.slice a len cap) d p) (hs : Sz P T d) : ∃ L, len = L.length ∧ RdH W W.heap.size a L := by
  obtain ⟨n, hn⟩ := h
  obtain ⟨a', cap', L, e, hr⟩ := rdOf_of_trod uT cS bS (by omega) (eHol_of_trod uS hone u0 u1 uI cI bI) hn hs
  simp [Value.cells] at e
  obtain ⟨rfl, rfl, rfl⟩ := e
  exact ⟨L, rfl, hr⟩
/-- land: its width, its height, its owners -/
theorem land_of_trod {T I : TypeId} {f0 f1 f2 : Field} {r : Reach} {b0 : Nat} (uT : P.underlying T = some (.struct #[f0, f1, f2])) (hone : oneCellFields P #[f0, f1, f2] = true) (cT : P.cellsOf T = 3)
    (u0 : P.underlying f0.type = some (.int .i64)) (u1 : P.underlying f1.type = some (.int .i64)) (u2 : P.underlying f2.type = some (.slice I)) (uI : P.underlying I = some (.int .i64)) (cI : P.cellsOf I = 1) (bI : P.bytesOf I = 8)
    {v : Value} {d : DataW H} {p : List MemPlace} (hv : Value.okWide P W r b0 T v) (h : DataW.Trod enc P W 0 (fun _ => true) true T v d p) (hs : Sz P T d) :
    ∃ (x y : Int) (a : Option Addr) (cap : Nat) (L : List Int), v = .agg #[.int .i64 x, .int .i64 y, .slice a L.length cap] ∧ I64 x ∧ I64 y ∧ Rd W W.heap.size a L := by
  obtain ⟨v0, v1, v2, y0, y1, y2, n, rfl, rfl, rfl, h0, h1, h2⟩ := Go.Joins.open_agg3 uT hone cT hv h
  obtain ⟨z0, e0, _, w0⟩ := DataW.trod_int u0 h0
  obtain ⟨z1, e1, _, w1⟩ := DataW.trod_int u1 h1
  have h2' : DataW.trod enc P W 0 (fun _ => true) true n f2.type [v2] = some (y2.1, y2.2) := h2
  obtain ⟨a, cap, L, hcs, hr⟩ := rd_of_trod' u2 uI cI bI h2' (hs.field uT (j := 2) (f := f2) rfl rfl)
  have q0 : v0 = .int .i64 z0 := by simpa using e0
  have q1 : v1 = .int .i64 z1 := by simpa using e1
  have q2 : v2 = .slice a L.length cap := by simpa using hcs
  exact ⟨z0, z1, a, cap, L, by rw [q0, q1, q2], i64_of_wf w0, i64_of_wf w1, hr⟩
end
end Go.Proofs.Ytkoipecnmijfoaa
end

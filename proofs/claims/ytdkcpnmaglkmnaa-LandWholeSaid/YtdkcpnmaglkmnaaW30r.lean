import Derived.Test.YtdkcpnmaglkmnaaW30q
import Derived.Laws.Rows
import Derived.Laws.ResultCell
/-! Walks of chapter 30: with and given. -/
namespace Go.Proofs.Ytdkcpnmaglkmnaa
open Go.RowKit Go.Deep
set_option linter.unusedVariables false
set_option maxRecDepth 100000

/-- land with a slice in new blocks -/
def LandRes (w : World) (W H : Int) (L : List Int) (e : Ending) (w' : World) : Prop :=
  ∃ A c, e = .returned (.agg #[.int .i64 W, .int .i64 H, .slice A L.length c]) ∧ Rd w' w'.heap.size A L ∧ (∀ p, A = some p → w.heap.size ≤ p.block) ∧ Below w.heap.size w w'

theorem infoLand : (Try.prog.info? 24).map (fun i => i.size) = some 3 := by kernel_rfl
theorem undLand : (Try.prog.underlying 24).isSome ∧ (match Try.prog.underlying 24 with | some (.struct _) => true | some (.array _ _) => true | _ => false) = true := by
  constructor <;> kernel_rfl
theorem three_set {w : World} {g T : Nat} {a b c : Value} (h : w.heap[g]? = some (.cells #[a, b, c] T (0, 0))) (x y z : Value) :
    (((w.setCell ⟨g, 0, none⟩ x).setCell ⟨g, 1, none⟩ y).setCell ⟨g, 2, none⟩ z).heap[g]? = some (.cells #[x, y, z] T (0, 0)) := by
  simp [World.setCell, Array.getElem?_modify, h]
/-- the result cell of land -/
theorem landCell {fn : Func} {p : Tmp} (h : fn.results = #[.cell p 24]) (tmps : Array Value) (w : World) (g T : Nat) (x y z : Value)
    (hp : tmps.getD p undef = .pointer (some ⟨g, 0, none⟩)) (hg : w.heap[g]? = some (.cells #[x, y, z] T (0, 0))) : (results fn tmps).run Try.prog w = .ok (.agg #[x, y, z]) w := by
  have h1 := undLand
  cases hu : Try.prog.underlying 24 with
  | none => rw [hu] at h1; simp at h1
  | some d =>
    rw [hu] at h1
    exact results_cell_row h tmps w g T #[x, y, z] (0, 0) d hp hg hu (by cases d <;> simp_all) (by rw [infoLand]; rfl)
theorem oth_cell {w : World} {p q : Addr} (v : Value) (h : p.block ≠ q.block) : (w.setCell p v).cell? q = w.cell? q :=
  World.cell?_setCell_other _ _ _ _ (by intro e; rw [e] at h; exact h rfl)
theorem off_cell {w : World} {b o o' : Nat} (v : Value) (h : o ≠ o') : (w.setCell ⟨b, o, none⟩ v).cell? ⟨b, o', none⟩ = w.cell? ⟨b, o', none⟩ :=
  World.cell?_setCell_other _ _ _ _ (by intro e; injection e with e1 e2; exact h e2)

set_option maxHeartbeats 1000000 in
theorem lWith {w : World} {B : Nat} {A : Option Addr} {L : List Int} {cap : Nat} (h : Rd w B A L) (hB : B ≤ w.heap.size) (W H : Int) {i : Nat} (hi : i < L.length) {x : Int} (hx : I64 x) :
    Calls Try.prog 47 #[.agg #[.int .i64 W, .int .i64 H, .slice A L.length cap], .int .i64 i, .int .i64 x] w (LandRes w W H (L.set i x)) := by
  have hal : Below w.heap.size w ((w.alloc (.cells #[.int .i64 W, .int .i64 H, .slice A L.length cap] 24)).alloc (.cells #[.int .i64 0, .int .i64 0, .slice none 0 0] 24)) := ((Below.refl _ _).alloc (Nat.le_refl _) _).alloc (by simp) _
  have hsz : ((w.alloc (.cells #[.int .i64 W, .int .i64 H, .slice A L.length cap] 24)).alloc (.cells #[.int .i64 0, .int .i64 0, .slice none 0 0] 24)).heap.size = w.heap.size + 2 := by simp
  have b0 : ((w.alloc (.cells #[.int .i64 W, .int .i64 H, .slice A L.length cap] 24)).alloc (.cells #[.int .i64 0, .int .i64 0, .slice none 0 0] 24)).cell? ⟨w.heap.size, 0, none⟩ = some (.int .i64 W) := by simp
  have b1 : ((w.alloc (.cells #[.int .i64 W, .int .i64 H, .slice A L.length cap] 24)).alloc (.cells #[.int .i64 0, .int .i64 0, .slice none 0 0] 24)).cell? ⟨w.heap.size, 1, none⟩ = some (.int .i64 H) := by simp
  have b2 : ((w.alloc (.cells #[.int .i64 W, .int .i64 H, .slice A L.length cap] 24)).alloc (.cells #[.int .i64 0, .int .i64 0, .slice none 0 0] 24)).cell? ⟨w.heap.size, 2, none⟩ = some (.slice A L.length cap) := by simp
  have hh : ((w.alloc (.cells #[.int .i64 W, .int .i64 H, .slice A L.length cap] 24)).alloc (.cells #[.int .i64 0, .int .i64 0, .slice none 0 0] 24)).heap[w.heap.size]? = some (.cells #[.int .i64 W, .int .i64 H, .slice A L.length cap] 24 (0, 0)) := (Below.heap_alloc _ _ _ (by simp)).trans (heap_alloc_new w _)
  have hh2 : ((w.alloc (.cells #[.int .i64 W, .int .i64 H, .slice A L.length cap] 24)).alloc (.cells #[.int .i64 0, .int .i64 0, .slice none 0 0] 24)).heap[w.heap.size + 1]? = some (.cells #[.int .i64 0, .int .i64 0, .slice none 0 0] 24 (0, 0)) := by
    have h1 := heap_alloc_new (w.alloc (.cells #[.int .i64 W, .int .i64 H, .slice A L.length cap] 24)) (.cells #[.int .i64 0, .int .i64 0, .slice none 0 0] 24)
    have h2 : (w.alloc (.cells #[.int .i64 W, .int .i64 H, .slice A L.length cap] 24)).heap.size = w.heap.size + 1 := by simp
    rw [h2] at h1
    exact h1
  have HR := Lib.hid h
  have HAL := Lib.hid hal
  have HH := Lib.hid hh
  have HH2 := Lib.hid hh2
  have HSZ := Lib.hid hsz
  have C1 := clone (cap := cap) (h.below hal hB) (Nat.le_trans hB hal.size) (by omega)
  have HL := Lib.hid h.len
  have HI := h.2.1
  clear h hal hh hh2 hsz HI
  go_enter Try.func47, Try.ntmps47
  go_wp2_with fail
  generalize ((w.alloc (.cells #[.int .i64 W, .int .i64 H, .slice A L.length cap] 24)).alloc (.cells #[.int .i64 0, .int .i64 0, .slice none 0 0] 24)) = w2 at *
  refine C1.mono ?_
  rintro e w3 ⟨g, c, rfl, hg, hO, hb3⟩
  have hz := HSZ.out
  have H3 := (hb3.block w.heap.size (by omega)).trans HH.out
  have H4 := (hb3.block (w.heap.size + 1) (by omega)).trans HH2.out
  have c0 : w3.cell? ⟨w.heap.size, 0, none⟩ = some (.int .i64 W) := by simp [World.cell?, H3]
  have c1 : w3.cell? ⟨w.heap.size, 1, none⟩ = some (.int .i64 H) := by simp [World.cell?, H3]
  have c2 : w3.cell? ⟨w.heap.size, 2, none⟩ = some (.slice A L.length cap) := by simp [World.cell?, H3]
  have f2 : w3.frozen? ⟨w.heap.size, 2, none⟩ = false := by simp [World.frozen?, H3]
  have d0 : w3.cell? ⟨w.heap.size + 1, 0, none⟩ = some (.int .i64 0) := by simp [World.cell?, H4]
  have d1 : w3.cell? ⟨w.heap.size + 1, 1, none⟩ = some (.int .i64 0) := by simp [World.cell?, H4]
  have d2 : w3.cell? ⟨w.heap.size + 1, 2, none⟩ = some (.slice none 0 0) := by simp [World.cell?, H4]
  have e0 : w3.frozen? ⟨w.heap.size + 1, 0, none⟩ = false := by simp [World.frozen?, H4]
  have e1 : w3.frozen? ⟨w.heap.size + 1, 1, none⟩ = false := by simp [World.frozen?, H4]
  have e2 : w3.frozen? ⟨w.heap.size + 1, 2, none⟩ = false := by simp [World.frozen?, H4]
  obtain ⟨y, hy⟩ : ∃ y, L[i]? = some y := ⟨L[i], by simp [hi]⟩
  have hOa := hO.far (p := ⟨w.heap.size, 2, none⟩) (by show g ≠ w.heap.size; omega) (.slice (some ⟨g, 0, none⟩) L.length c)
  have HOa := Lib.hid hOa
  have ca := hOa.cell hy
  have fa := hOa.frozen i
  have HB3 := Lib.hid (HAL.out.trans (hb3.mono HAL.out.size))
  have HH4 := Lib.hid H4
  clear b0 b1 b2 hb3 C1 hy H3 H4 hOa
  go_wp2
  have hOb := HOa.out.store i x
  have hBb := (HB3.out.setCell (p := ⟨w.heap.size, 2, none⟩) (Nat.le_refl _) (.slice (some ⟨g, 0, none⟩) L.length c)).setCell (p := ⟨g, i, none⟩) (by show w.heap.size ≤ g; omega) (.int .i64 x)
  have hHb := ((Below.heap_setCell _ ⟨g, i, none⟩ (.int .i64 x) (w.heap.size + 1) (by show w.heap.size + 1 ≠ g; omega)).trans ((Below.heap_setCell w3 ⟨w.heap.size, 2, none⟩ (.slice (some ⟨g, 0, none⟩) L.length c) (w.heap.size + 1) (by show w.heap.size + 1 ≠ w.heap.size; omega)).trans HH4.out))
  generalize (w3.setCell ⟨w.heap.size, 2, none⟩ (.slice (some ⟨g, 0, none⟩) L.length c)).setCell ⟨g, i, none⟩ (.int .i64 x) = wb at *
  have hgn : g ≠ w.heap.size + 1 := by omega
  have hOf := ((hOb.far (p := ⟨w.heap.size + 1, 0, none⟩) hgn (.int .i64 W)).far (p := ⟨w.heap.size + 1, 1, none⟩) hgn (.int .i64 H)).far (p := ⟨w.heap.size + 1, 2, none⟩) hgn (.slice (some ⟨g, 0, none⟩) L.length c)
  have hBf := ((hBb.setCell (p := ⟨w.heap.size + 1, 0, none⟩) (Nat.le_succ _) (.int .i64 W)).setCell (p := ⟨w.heap.size + 1, 1, none⟩) (Nat.le_succ _) (.int .i64 H)).setCell (p := ⟨w.heap.size + 1, 2, none⟩) (Nat.le_succ _) (.slice (some ⟨g, 0, none⟩) L.length c)
  have hHf := three_set hHb (.int .i64 W) (.int .i64 H) (.slice (some ⟨g, 0, none⟩) L.length c)
  refine bodyPost_ret (landCell rfl _ _ _ _ _ _ _ rfl hHf) rfl ⟨some ⟨g, 0, none⟩, c, by rw [List.length_set], ?_, fun p hp => (by cases hp; show w.heap.size ≤ g; omega), hBf⟩
  refine hOf.rd (fun z hz => ?_) (by rw [List.length_set]; exact HL.out) hOf.lt
  rcases List.mem_or_eq_of_mem_set hz with hz | rfl
  · exact HR.out.1 z hz
  · exact hx
end Go.Proofs.Ytdkcpnmaglkmnaa

import Derived.Test.YtjgobpejifhphaaW34g
/-! Walks of chapter 34: sold. -/
namespace Go.Proofs.Ytjgobpejifhphaa
open Go.RowKit
set_option linter.unusedVariables false

theorem nil0 (w : World) : (nilAhead 258 127 (.agg #[]) "parcener/dissolve.price").run Try.prog w = .ok (some false) w := by kernel_rfl
theorem nil1 (w : World) : (nilAhead 258 128 (.agg #[]) "parcener/dissolve.price").run Try.prog w = .ok (some false) w := by kernel_rfl
theorem meth0 (w : World) : (method 258 127 (.agg #[]) "parcener/dissolve.price").run Try.prog w = .ok (150, .agg #[]) w := by kernel_rfl
theorem meth1 (w : World) : (method 258 128 (.agg #[]) "parcener/dissolve.price").run Try.prog w = .ok (151, .agg #[]) w := by kernel_rfl

theorem held3 {w1 u : World} {p q : Prop} (h : p ∧ q ∧ Hid (Below w1.heap.size w1 u)) : Below w1.heap.size w1 u := h.2.2.out

set_option maxHeartbeats 1000000 in
theorem dSold0 {w : World} {B C : Nat} {A A' : Option Addr} {L O : List Int} {cap cap' : Nat} (h : Rd w B A L) (h' : Rd w C A' O) (hC : C ≤ w.heap.size)
    (hok : lok L O = 0) {b g : Nat} {v s : Int} (eb : bestOf O (-1) = b) (eg : bestOf O b = g) (hs : Sale O b v g s) :
    Calls Try.prog 69 #[.slice A L.length cap, .slice A' O.length cap', .int .i64 0] w fun e w' => e = .returned (.tuple #[.int .i64 b, .int .i64 s, .int .i64 0]) ∧ Below w.heap.size w w' := by
  have C1 := dLooked (cap := cap) (cap' := cap') h h'
  have C2 := dBest (cap := cap') h' hC (-1)
  rw [hok] at C1
  rw [eb] at C2
  have hb := hs.best.lt_len
  have hg := hs.second.lt_len
  have hlen := h'.len
  have hgood := Lib.hid (lok_ok hok)
  have H := Lib.hid h'
  have HS := Lib.hid hs
  have EG := Lib.hid eg
  have HC := Lib.hid hC
  clear h h' hs eb eg hok hC
  go_enter Try.func69, Try.ntmps69
  go_wp2_with (first | (go_at_call 96; refine C1.mono ?_; rintro e w' ⟨rfl, rfl⟩) | (go_at_call 97; refine ruled0.mono ?_; rintro e w' ⟨rfl, rfl⟩) | (go_at_call 41; refine C2.mono ?_; rintro e w1 ⟨rfl, hbel⟩))
  have H1 := H.out.below hbel HC.out
  obtain ⟨bb, off, rfl, hbb, hcells⟩ := H1.2.2 (by omega)
  have hcb := hcells b v HS.out.best.val
  have hcg := hcells g s HS.out.second.val
  have HH1 := Lib.hid H1
  have HBEL := Lib.hid hbel
  clear hcells H1 hbel
  have hbw := HC.out
  have hS0 : w1.drew.cell? ⟨bb, off + b, none⟩ = some (.int .i64 v) ∧ w1.drew.cell? ⟨bb, off + g, none⟩ = some (.int .i64 s) ∧ Hid (Below w1.heap.size w1 w1.drew) := ⟨hcb, hcg, Lib.hid (below_drewN (Below.refl _ _) 1)⟩
  have keepS : ∀ u u' : World, (u.cell? ⟨bb, off + b, none⟩ = some (.int .i64 v) ∧ u.cell? ⟨bb, off + g, none⟩ = some (.int .i64 s) ∧ Hid (Below w1.heap.size w1 u)) → Below u.heap.size u u' →
      (u'.cell? ⟨bb, off + b, none⟩ = some (.int .i64 v) ∧ u'.cell? ⟨bb, off + g, none⟩ = some (.int .i64 s) ∧ Hid (Below w1.heap.size w1 u')) := by
    intro u u' ⟨h1, h2, h3⟩ hb'
    have hsz := h3.out.size
    have hsz' := HBEL.out.size
    exact ⟨((bcell hb').1 bb (off + b) (by omega)).trans h1, ((bcell hb').1 bb (off + g) (by omega)).trans h2, Lib.hid (h3.out.trans (hb'.mono hsz))⟩
  have CB : Hid (∀ u : World, (u.cell? ⟨bb, off + b, none⟩ = some (.int .i64 v) ∧ u.cell? ⟨bb, off + g, none⟩ = some (.int .i64 s) ∧ Hid (Below w1.heap.size w1 u)) →
      Calls Try.prog 41 #[.slice (some ⟨bb, off, none⟩) O.length cap', .int .i64 b] u fun e u' => e = .returned (.int .i64 g) ∧ (u'.cell? ⟨bb, off + b, none⟩ = some (.int .i64 v) ∧ u'.cell? ⟨bb, off + g, none⟩ = some (.int .i64 s) ∧ Hid (Below w1.heap.size w1 u'))) := Lib.hid (by
    intro u hS
    have hsz := hS.2.2.out.size
    have hsz' := HBEL.out.size
    have c := dBest (cap := cap') (HH1.out.below hS.2.2.out (by omega)) (by omega) b
    rw [EG.out] at c
    exact c.mono fun e u' ⟨he, hb'⟩ => ⟨he, keepS u u' hS hb'⟩)
  have CP : Hid (∀ u : World, (u.cell? ⟨bb, off + b, none⟩ = some (.int .i64 v) ∧ u.cell? ⟨bb, off + g, none⟩ = some (.int .i64 s) ∧ Hid (Below w1.heap.size w1 u)) →
      Calls Try.prog 150 #[.agg #[], .int .i64 v, .int .i64 s] u fun e u' => e = .returned (.int .i64 s) ∧ (u'.cell? ⟨bb, off + b, none⟩ = some (.int .i64 v) ∧ u'.cell? ⟨bb, off + g, none⟩ = some (.int .i64 s) ∧ Hid (Below w1.heap.size w1 u'))) := Lib.hid (by
    intro u hS
    exact (price0 v s).mono fun e u' ⟨he, hb'⟩ => ⟨he, keepS u u' hS hb'⟩)
  clear keepS hcb hcg
  have hn0 := nil0
  have hm0 := meth0
  go_region_held3 (fun w' => w'.cell? ⟨bb, off + b, none⟩ = some (.int .i64 v) ∧ w'.cell? ⟨bb, off + g, none⟩ = some (.int .i64 s) ∧ Hid (Below w1.heap.size w1 w')) (first | assumption | go_keep)
    (first | (go_at_call 41; refine (CB.out _ (by assumption)).mono ?_; rintro e w2 ⟨rfl, hS⟩) | (go_at_call 150; refine (CP.out _ (by assumption)).mono ?_; rintro e w2 ⟨rfl, hS⟩))
  all_goals
    go_wp2
    go_ret3
    exact ⟨rfl, HBEL.out.trans (Below.mono (held3 (by assumption)) HBEL.out.size)⟩

set_option maxHeartbeats 1000000 in
theorem dSold1 {w : World} {B C : Nat} {A A' : Option Addr} {L O : List Int} {cap cap' : Nat} (h : Rd w B A L) (h' : Rd w C A' O) (hC : C ≤ w.heap.size)
    (hok : lok L O = 0) {b g : Nat} {v s : Int} (eb : bestOf O (-1) = b) (eg : bestOf O b = g) (hs : Sale O b v g s) :
    Calls Try.prog 69 #[.slice A L.length cap, .slice A' O.length cap', .int .i64 1] w fun e w' => e = .returned (.tuple #[.int .i64 b, .int .i64 ((v + s) / 2), .int .i64 0]) ∧ Below w.heap.size w w' := by
  have C1 := dLooked (cap := cap) (cap' := cap') h h'
  have C2 := dBest (cap := cap') h' hC (-1)
  rw [hok] at C1
  rw [eb] at C2
  have hb := hs.best.lt_len
  have hg := hs.second.lt_len
  have hlen := h'.len
  have hgood := Lib.hid (lok_ok hok)
  have HV1 := Lib.hid (hgood.out.bd v (mem_of hs.best.val))
  have HV2 := Lib.hid (hgood.out.bd s (mem_of hs.second.val))
  have H := Lib.hid h'
  have HS := Lib.hid hs
  have EG := Lib.hid eg
  have HC := Lib.hid hC
  clear h h' hs eb eg hok hC
  go_enter Try.func69, Try.ntmps69
  go_wp2_with (first | (go_at_call 96; refine C1.mono ?_; rintro e w' ⟨rfl, rfl⟩) | (go_at_call 97; refine ruled1.mono ?_; rintro e w' ⟨rfl, rfl⟩) | (go_at_call 41; refine C2.mono ?_; rintro e w1 ⟨rfl, hbel⟩))
  have H1 := H.out.below hbel HC.out
  obtain ⟨bb, off, rfl, hbb, hcells⟩ := H1.2.2 (by omega)
  have hcb := hcells b v HS.out.best.val
  have hcg := hcells g s HS.out.second.val
  have HH1 := Lib.hid H1
  have HBEL := Lib.hid hbel
  clear hcells H1 hbel
  have hbw := HC.out
  have hS0 : w1.drew.cell? ⟨bb, off + b, none⟩ = some (.int .i64 v) ∧ w1.drew.cell? ⟨bb, off + g, none⟩ = some (.int .i64 s) ∧ Hid (Below w1.heap.size w1 w1.drew) := ⟨hcb, hcg, Lib.hid (below_drewN (Below.refl _ _) 1)⟩
  have keepS : ∀ u u' : World, (u.cell? ⟨bb, off + b, none⟩ = some (.int .i64 v) ∧ u.cell? ⟨bb, off + g, none⟩ = some (.int .i64 s) ∧ Hid (Below w1.heap.size w1 u)) → Below u.heap.size u u' →
      (u'.cell? ⟨bb, off + b, none⟩ = some (.int .i64 v) ∧ u'.cell? ⟨bb, off + g, none⟩ = some (.int .i64 s) ∧ Hid (Below w1.heap.size w1 u')) := by
    intro u u' ⟨h1, h2, h3⟩ hb'
    have hsz := h3.out.size
    have hsz' := HBEL.out.size
    exact ⟨((bcell hb').1 bb (off + b) (by omega)).trans h1, ((bcell hb').1 bb (off + g) (by omega)).trans h2, Lib.hid (h3.out.trans (hb'.mono hsz))⟩
  have CB : Hid (∀ u : World, (u.cell? ⟨bb, off + b, none⟩ = some (.int .i64 v) ∧ u.cell? ⟨bb, off + g, none⟩ = some (.int .i64 s) ∧ Hid (Below w1.heap.size w1 u)) →
      Calls Try.prog 41 #[.slice (some ⟨bb, off, none⟩) O.length cap', .int .i64 b] u fun e u' => e = .returned (.int .i64 g) ∧ (u'.cell? ⟨bb, off + b, none⟩ = some (.int .i64 v) ∧ u'.cell? ⟨bb, off + g, none⟩ = some (.int .i64 s) ∧ Hid (Below w1.heap.size w1 u'))) := Lib.hid (by
    intro u hS
    have hsz := hS.2.2.out.size
    have hsz' := HBEL.out.size
    have c := dBest (cap := cap') (HH1.out.below hS.2.2.out (by omega)) (by omega) b
    rw [EG.out] at c
    exact c.mono fun e u' ⟨he, hb'⟩ => ⟨he, keepS u u' hS hb'⟩)
  have CP : Hid (∀ u : World, (u.cell? ⟨bb, off + b, none⟩ = some (.int .i64 v) ∧ u.cell? ⟨bb, off + g, none⟩ = some (.int .i64 s) ∧ Hid (Below w1.heap.size w1 u)) →
      Calls Try.prog 151 #[.agg #[], .int .i64 v, .int .i64 s] u fun e u' => e = .returned (.int .i64 ((v + s) / 2)) ∧ (u'.cell? ⟨bb, off + b, none⟩ = some (.int .i64 v) ∧ u'.cell? ⟨bb, off + g, none⟩ = some (.int .i64 s) ∧ Hid (Below w1.heap.size w1 u'))) := Lib.hid (by
    intro u hS
    exact (price1 v s HV1.out.1 HV1.out.2 HV2.out.1 HV2.out.2).mono fun e u' ⟨he, hb'⟩ => ⟨he, keepS u u' hS hb'⟩)
  clear keepS hcb hcg
  have hn0 := nil1
  have hm0 := meth1
  go_region_held3 (fun w' => w'.cell? ⟨bb, off + b, none⟩ = some (.int .i64 v) ∧ w'.cell? ⟨bb, off + g, none⟩ = some (.int .i64 s) ∧ Hid (Below w1.heap.size w1 w')) (first | assumption | go_keep)
    (first | (go_at_call 41; refine (CB.out _ (by assumption)).mono ?_; rintro e w2 ⟨rfl, hS⟩) | (go_at_call 151; refine (CP.out _ (by assumption)).mono ?_; rintro e w2 ⟨rfl, hS⟩))
  all_goals
    go_wp2
    go_ret3
    exact ⟨rfl, HBEL.out.trans (Below.mono (held3 (by assumption)) HBEL.out.size)⟩
end Go.Proofs.Ytjgobpejifhphaa

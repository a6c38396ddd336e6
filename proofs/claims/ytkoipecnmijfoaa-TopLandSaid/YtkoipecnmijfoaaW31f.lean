import Derived.Test.YtkoipecnmijfoaaW31e
import Derived.Test.YtkoipecnmijfoaaW31c
/-! The walk of the search's question in strip.Best. -/
namespace Go.Proofs.Ytkoipecnmijfoaa
open Go.RowKit Go.Deep
set_option linter.unusedVariables false
set_option maxRecDepth 100000

theorem tab_uniq {V : List (List Int)} {m : Nat} {L : Int} {T T' : Nat → Nat} (h : TabOk V m L T) (h' : TabOk V m L T') : ∀ s, s < 2 ^ V.length → T s = T' s := by
  intro s
  induction s using Nat.strongRecOn with
  | ind s ih =>
    intro hs
    by_cases h0 : s = 0
    · rw [h0, h.zero, h'.zero]
    · rw [h.ent s (by omega) hs, h'.ent s (by omega) hs]
      exact entK_ext (fun j hj => ih j hj (by omega)) _
/-- the table says that a level can be reached -/
def CanB (V : List (List Int)) (m : Nat) (L : Int) : Prop := ∃ T, TabOk V m L T ∧ T (full V) ≤ m
noncomputable def notB (V : List (List Int)) (m : Nat) (k : Nat) : Bool := by classical exact decide (¬ CanB V m ((k : Int) + 1))
theorem notB_iff {V : List (List Int)} {m k : Nat} : notB V m k = false ↔ CanB V m ((k : Int) + 1) := by
  classical
  unfold notB
  rw [decide_eq_false_iff_not, Classical.not_not]
theorem notB_of {V : List (List Int)} {m k : Nat} {T : Nat → Nat} (hn : 1 ≤ V.length) (h : TabOk V m ((k : Int) + 1) T) : notB V m k = decide (m < T (full V)) := by
  have h2 : 0 < 2 ^ V.length := Nat.two_pow_pos _
  by_cases hlt : m < T (full V)
  · rw [decide_eq_true hlt]
    cases hb : notB V m k
    · obtain ⟨T', h3, h4⟩ := notB_iff.1 hb
      rw [tab_uniq h h3 _ (by unfold full; omega)] at hlt
      omega
    · rfl
  · rw [decide_eq_false hlt]
    exact notB_iff.2 ⟨T, h, by omega⟩
set_option maxHeartbeats 1000000 in
theorem sBest1 {u : World} {C m gv gm : Nat} {A : Option Addr} {V : List (List Int)} {cap : Nat} (h : Rd2 u C A V) (hC : C ≤ u.heap.size) (v : VS V m) (hgv : u.cell? ⟨gv, 0, none⟩ = some (.slice A V.length cap)) (hgm : u.cell? ⟨gm, 0, none⟩ = some (.int .i64 (m : Int))) (hlm : gm < u.heap.size) (k : Nat) (hk : k ≤ 16000) :
    Calls Try.prog 17 (#[.int .i64 (k : Int)] ++ #[.pointer (some ⟨gv, 0, none⟩), .pointer (some ⟨gm, 0, none⟩)]) u fun e w' => e = .returned (.bool (notB V m k)) ∧ Below u.heap.size u w' := by
  have CT := Lib.hid (sTable (cap := cap) h hC v ((k : Int) + 1) (by omega) (by omega))
  have hm16 := v.m16
  have n0 := v.n0
  have HN64 := pow_le64 V.length (by have := v.n6; omega)
  have hpos : 0 < 2 ^ V.length := Nat.two_pow_pos _
  have e1 : IntKind.i64.wrap ((k : Int) + 1) = (k : Int) + 1 := IntWalk.i64_in _ (by omega)
  clear h v
  go_enter Try.func17, Try.ntmps17
  go_wp2_with fail
  refine CT.out.mono ?_
  rintro e w1 ⟨g, O, rfl, hl, ht, hle, hO, hg, hb⟩
  have hfl : full V = 2 ^ V.length - 1 := rfl
  have hB := notB_of n0 ht
  have hlast := hle (full V) (by omega)
  obtain ⟨y, hy⟩ : ∃ y, O[full V]? = some y := ⟨O[full V]'(by rw [hl]; omega), by simp⟩
  have hgy : O.getD (full V) 0 = y := by rw [List.getD_eq_getElem?_getD, hy]; rfl
  simp only [hgy] at hlast hB
  have HNB := Lib.hid hB
  have cy := hO.cell (ints_at hy)
  have c2 : w1.cell? ⟨gm, 0, none⟩ = some (.int .i64 (m : Int)) := (hb.cell (p := ⟨gm, 0, none⟩) hlm).trans hgm
  rw [hfl] at cy
  have HB := Lib.hid hb
  clear hB hgy hy hO hle ht hb hfl CT e1
  generalize 2 ^ V.length = N at *
  have e2 : IntKind.i64.wrap ((N : Int) - 1) = ((N - 1 : Nat) : Int) := by
    rw [show ((N : Int) - 1) = ((N - 1 : Nat) : Int) by omega]; exact IntWalk.i64_in _ (by omega)
  have hN1 : N - 1 < N := by omega
  go_wp2
  go_quiet (fail)
  have HBD := Lib.hid (below_drewN HB.out nq)
  go_wp2
  go_ret
  exact ⟨ret_bool HNB.out.symm, HBD.out⟩
end Go.Proofs.Ytkoipecnmijfoaa

import Derived.Test.YtefbkdjppfofmaaS26q
import Derived.Maps.AppendAt
import Derived.Deep.AppendLies
import Derived.StillTailTactics
/-! Walks of chapter 26: the queue's put and take. -/
namespace Go.Proofs.Ytefbkdjppfofmaa
open Go.RowKit Go.Deep
set_option linter.unusedVariables false
set_option maxRecDepth 100000

theorem infoSl26 : (Try.prog.info? 23).map (fun i => (i.zero, i.size, i.bytes)) = some (some (.slice none 0 0), 1, 24) := by kernel_rfl
/-- the queue in block q holds the slice v: the values vs, in a row from block base on -/
structure QAt (w : World) (base q : Nat) (v : Value) (vs : List Value) : Prop where
  cell : w.cell? ⟨q, 0, none⟩ = some v
  frozen : w.frozen? ⟨q, 0, none⟩ = false
  lt : q < w.heap.size
  ge : base ≤ q
  row : QRow w base 23 v vs
  ne : v.ownBlock ≠ some q
theorem QAt.below {w w' : World} {base q : Nat} {v : Value} {vs : List Value} (h : QAt w base q v vs) (hb : Below w.heap.size w w') : QAt w' base q v vs :=
  ⟨(hb.cell (p := ⟨q, 0, none⟩) h.lt).trans h.cell, (hb.frozen (p := ⟨q, 0, none⟩) h.lt).trans h.frozen, Nat.lt_of_lt_of_le h.lt hb.size, h.ge, h.row.below hb, h.ne⟩
/-- what put leaves -/
def PutRes (w : World) (base q : Nat) (v : Value) (vs : List Value) (e : Ending) (w' : World) : Prop :=
  e = .returned (.tuple #[]) ∧ ∃ v', QAt w' base q v' vs ∧ Below base w w' ∧ (∀ k, k < w.heap.size → k ≠ q → v.ownBlock ≠ some k → w'.heap[k]? = w.heap[k]?) ∧ (v'.ownBlock = v.ownBlock ∨ ∃ g, v'.ownBlock = some g ∧ w.heap.size ≤ g) ∧ w.heap.size ≤ w'.heap.size

set_option maxHeartbeats 400000 in
theorem lPut {w : World} {base q : Nat} {v : Value} {vs : List Value} {A2 : Option Addr} {n2 c2 : Nat} (h : QAt w base q v vs) (hn : vs.length ≤ 600000) :
    Calls Try.prog 54 #[.pointer (some ⟨q, 0, none⟩), .slice A2 n2 c2] w (PutRes w base q v (vs ++ [.slice A2 n2 c2])) := by
  have hc := h.cell
  have hf := h.frozen
  have hlt := h.lt
  obtain ⟨i0, hi0, hz0, hz1, hz2⟩ := info_parts infoSl26
  have HI := Lib.hid hi0
  have H := Lib.hid h
  have hq1 := Lib.hid (H.out.row.below (Below.alloc (Below.refl w.heap.size w) (Nat.le_refl _) (.cells #[.slice A2 n2 c2] 23)))
  have hcz := Lib.hid (newOne w (.slice A2 n2 c2) 23)
  have hbz := Lib.hid (Below.alloc (Below.refl w.heap.size w) (Nat.le_refl _) (.cells #[.slice A2 n2 c2] 23))
  have hwz : Hid ((w.alloc (.cells #[.slice A2 n2 c2] 23)).heap.size = w.heap.size + 1) := Lib.hid (by simp)
  have HC : Hid ((w.alloc (.cells #[.slice A2 n2 c2] 23)).cell? ⟨q, 0, none⟩ = some v) := Lib.hid ((hbz.out.cell (p := ⟨q, 0, none⟩) hlt).trans hc)
  have HF : Hid ((w.alloc (.cells #[.slice A2 n2 c2] 23)).frozen? ⟨q, 0, none⟩ = false) := Lib.hid ((hbz.out.frozen (p := ⟨q, 0, none⟩) hlt).trans hf)
  have HLT := Lib.hid hlt
  clear hi0 h hlt
  go_enter Try.func54, Try.ntmps54
  generalize hgw : w.alloc (.cells #[.slice A2 n2 c2] 23) = wa at *
  go_wp2_with (at_builtin; refine wpList_append_q _ rfl _ _ 52 rfl 23 i0 (.slice none 0 0) 24 Try.underlying52 HI.out hz0 hz1 hz2 rfl base v vs rfl hq1.out (by rw [hwz.out]; have := H.out.ge; have := HLT.out; omega) ⟨w.heap.size, 0, none⟩ 1 (.slice A2 n2 c2) rfl hcz.out (by simp [Value.oneCell']) (by unfold maxLen; omega) (by omega) ?_)
  intro v' w5 hq5 hgr hown
  obtain ⟨A5, c5, hv5⟩ := hq5.form
  rw [show (vs ++ [Value.slice A2 n2 c2]).length = vs.length + 1 by simp] at hv5
  subst hv5
  have hqb : v.ownBlock ≠ some q := H.out.ne
  have hk5 : w5.heap[q]? = wa.heap[q]? := hgr.block q (by rw [hwz.out]; have := HLT.out; omega) (fun e => hqb e.symm)
  have hc5 : w5.cell? ⟨q, 0, none⟩ = some v := (World.cell?_of_block (w := wa) (w' := w5) (a := ⟨q, 0, none⟩) hk5).trans HC.out
  have hf5 : w5.frozen? ⟨q, 0, none⟩ = false := (World.frozen?_of_block (w := wa) (w' := w5) (a := ⟨q, 0, none⟩) hk5).trans HF.out
  have HK5 := Lib.hid hk5
  have HQ5 := Lib.hid hq5
  have HGR := Lib.hid hgr
  have HOWN := Lib.hid hown
  clear hq5 hgr hown hqb hk5
  go_wp2
  refine bodyPost_end (v := .tuple #[]) (by simp [results]) rfl ?_
  have hlt := HLT.out
  have hsz := hwz.out
  have hg5 := HGR.out.size
  have hne : (Value.slice A5 (vs.length + 1) c5).ownBlock ≠ some q := by
    rcases HOWN.out with h | ⟨g, h, hg⟩
    · rw [h]; exact H.out.ne
    · rw [h]; intro e; cases e; omega
  have hkeep : ∀ k, k ≠ q → (w5.setCell ⟨q, 0, none⟩ (.slice A5 (vs.length + 1) c5)).heap[k]? = w5.heap[k]? := fun k hk => Below.heap_setCell w5 ⟨q, 0, none⟩ (.slice A5 (vs.length + 1) c5) k hk
  have hss : (w5.setCell ⟨q, 0, none⟩ (.slice A5 (vs.length + 1) c5)).heap.size = w5.heap.size := by simp [World.setCell]
  refine ⟨rfl, _, ⟨World.cell?_setCell_same _ _ _ hc5, by rw [World.frozen?_setCell]; exact hf5, by rw [hss]; omega, H.out.ge, ?_, hne⟩, ?_, ?_, ?_, by rw [hss]; omega⟩
  · exact HQ5.out.keep (by rw [hss]; exact Nat.le_refl _) fun k hk => hkeep k (by rintro rfl; exact hne hk)
  · have h1 : Below base w wa := hbz.out.mono (by have := H.out.ge; omega)
    have h2 : Below base wa w5 := (Below.refl base wa).grown HGR.out (by have := H.out.ge; omega) fun k hk => (H.out.row.own k hk).1
    exact (h1.trans h2).setCell H.out.ge _
  · intro k hk hkq hkv
    rw [hkeep k hkq, HGR.out.block k (by omega) (fun e => hkv e.symm)]
    exact hbz.out.block k hk
  · rcases HOWN.out with h | ⟨g, h, hg⟩
    · exact .inl h
    · exact .inr ⟨g, h, by omega⟩

set_option maxHeartbeats 400000 in
theorem lTake0 {w : World} {base q : Nat} {v : Value} (h : QAt w base q v []) :
    Calls Try.prog 55 #[.pointer (some ⟨q, 0, none⟩)] w fun e w' => e = .returned (.tuple #[.slice none 0 0, .bool false]) ∧ w = w' := by
  have hc := h.cell
  obtain ⟨A, c, hv⟩ := h.row.form
  subst hv
  clear h
  go_enter Try.func55, Try.ntmps55
  go_wp2
  go_ret2
  exact ⟨rfl, rfl⟩
/-- what take leaves -/
def TakeRes (w : World) (base q : Nat) (v u : Value) (vs : List Value) (e : Ending) (w' : World) : Prop :=
  e = .returned (.tuple #[u, .bool true]) ∧ ∃ v', QAt w' base q v' vs ∧ Below base w w' ∧ (∀ k, k ≠ q → w'.heap[k]? = w.heap[k]?) ∧ v'.ownBlock = v.ownBlock ∧ w'.heap.size = w.heap.size
set_option maxHeartbeats 1000000 in
theorem lTake {w : World} {base q : Nat} {v : Value} {vs : List Value} {A2 : Option Addr} {n2 c2 : Nat} (h : QAt w base q v (.slice A2 n2 c2 :: vs)) (hn : vs.length ≤ 600000) :
    Calls Try.prog 55 #[.pointer (some ⟨q, 0, none⟩)] w (TakeRes w base q v (.slice A2 n2 c2) vs) := by
  have hc := h.cell
  have hf := h.frozen
  obtain ⟨g, off, cap, rfl, hbg, hgl, hcap, hcg⟩ := h.row.head
  have H := Lib.hid h
  have ht := h.row.tail
  clear h
  have H1 : Hid (cap = 1 ∨ cap ≠ 1) := Lib.hid (Decidable.em _)
  have HT := Lib.hid ht
  clear ht
  have hz : ((vs.length : Int) + 1 == 0) = false := by simp; omega
  have hn0 : ((((vs.length + 1 : Nat) : Int)) == 0) = false := by simp; omega
  go_enter Try.func55, Try.ntmps55
  go_wp2
  have hone : (1 : Int) ≤ (vs.length : Int) + 1 := by omega
  go_still_tail 15, (by kernel_rfl)
  change wpList _ _ _ _ _ w.drew
  clear hone
  have HD : Hid (QAt w.drew base q (Value.slice (some { block := g, off := off }) (vs.length + 1) cap) (Value.slice A2 n2 c2 :: vs)) := Lib.hid ⟨H.out.cell, H.out.frozen, H.out.lt, H.out.ge, H.out.row, H.out.ne⟩
  have HBW : Hid (Below base w w.drew) := Lib.hid (Below.refl base w).drew
  have HW : Hid (w.drew.heap = w.heap) := Lib.hid rfl
  have hc' := HD.out.cell
  have hf' := HD.out.frozen
  have HT' : Hid (QRow w.drew base 23 (Value.slice (if cap = 1 then some ⟨g, off, none⟩ else some ⟨g, off + 1, none⟩) vs.length (cap - 1)) vs) := Lib.hid HT.out
  clear H HT hc hf hcg hgl
  have HA : Hid (∃ o, (if cap = 1 then some (⟨g, off, none⟩ : Addr) else some ⟨g, off + 1, none⟩) = some ⟨g, o, none⟩) := Lib.hid (by split; exact ⟨_, rfl⟩; exact ⟨_, rfl⟩)
  generalize (if cap = 1 then some (⟨g, off, none⟩ : Addr) else some ⟨g, off + 1, none⟩) = A9 at *
  generalize w.drew = w2 at *
  go_wp2
  go_ret2
  obtain ⟨o9, rfl⟩ := HA.out
  have hss : (w2.setCell ⟨q, 0, none⟩ (.slice (some ⟨g, o9, none⟩) vs.length (cap - 1))).heap.size = w2.heap.size := by simp [World.setCell]
  have hkeep : ∀ k, k ≠ q → (w2.setCell ⟨q, 0, none⟩ (.slice (some ⟨g, o9, none⟩) vs.length (cap - 1))).heap[k]? = w2.heap[k]? := fun k hk => Below.heap_setCell w2 ⟨q, 0, none⟩ _ k hk
  have hne := HD.out.ne
  refine ⟨rfl, _, ⟨World.cell?_setCell_same _ _ _ hc', by rw [World.frozen?_setCell]; exact hf', by rw [hss]; exact HD.out.lt, HD.out.ge, ?_, hne⟩, HBW.out.setCell HD.out.ge _, fun k hk => ?_, rfl, by rw [hss, HW.out]⟩
  · exact HT'.out.keep (by rw [hss]; exact Nat.le_refl _) fun k hk => hkeep k (by rintro rfl; exact hne hk)
  · rw [hkeep k hk, HW.out]
end Go.Proofs.Ytefbkdjppfofmaa

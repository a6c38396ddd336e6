import Derived.Test.YtefbkdjppfofmaaS26j
import Derived.Test.YtefbkdjppfofmaaW26n
import Derived.Test.YtefbkdjppfofmaaW26s
/-! Walks of chapter 26: leveled. -/
namespace Go.Proofs.Ytefbkdjppfofmaa
open Go.RowKit Go.Deep
set_option linter.unusedVariables false
set_option maxRecDepth 100000

theorem full_bd {W : List (List Bool)} {m n : Nat} {a : List Int} (h : FullA W m n a) : ∀ x ∈ a, -1 ≤ x ∧ x < m := by
  intro x hx
  obtain ⟨g, hg, rfl⟩ := List.mem_iff_getElem.1 hx
  have := h.at_ g (by rw [← h.len]; exact hg)
  rw [List.getD_eq_getElem?_getD, List.getElem?_eq_getElem hg] at this
  rcases this with ⟨h1, _⟩ | ⟨q, h1, h2, _⟩
  · have h1' : a[g] = -1 := h1
    omega
  · have h2' : a[g] = (q : Int) := h2
    omega
theorem chainN_nil {W : List (List Bool)} {m f : Nat} {a : List Int} (h : chainN m (fun p q => linkK W a p q f) a = []) : NoShort W m a f := by
  rw [chainN] at h
  rw [NoShort]
  cases hf : firstShort m (extL m fun p q => linkK W a p q f) (shortB a) with
  | none => rfl
  | some l =>
    rw [hf] at h
    have h' : l = [] := h
    rw [firstShort, List.findSome?_eq_some_iff] at hf
    obtain ⟨l1, k, l2, _, h2, _⟩ := hf
    have hm := (chain_ok (List.mem_of_find?_eq_some h2)).len
    rw [h'] at hm; simp at hm
theorem chainN_some {W : List (List Bool)} {m f : Nat} {a : List Int} (h : chainN m (fun p q => linkK W a p q f) a ≠ []) :
    ∃ k, chainN m (fun p q => linkK W a p q f) a ∈ lvl m (extL m fun p q => linkK W a p q f) k ∧ shortB a (chainN m (fun p q => linkK W a p q f) a) = true := by
  rw [chainN] at h ⊢
  cases hf : firstShort m (extL m fun p q => linkK W a p q f) (shortB a) with
  | none => rw [hf] at h; exact absurd rfl h
  | some l =>
    rw [firstShort, List.findSome?_eq_some_iff] at hf
    obtain ⟨l1, k, l2, _, h2, _⟩ := hf
    exact ⟨k, List.mem_of_find?_eq_some h2, List.find?_some h2⟩
/-- what leveled leaves -/
def LevRes (W : List (List Bool)) (m n : Nat) (a : List Int) (f : Nat) (w : World) (e : Ending) (w' : World) : Prop :=
  ∃ a' A c, e = .returned (.slice A a'.length c) ∧ Rd w' w'.heap.size A a' ∧ Below w.heap.size w w' ∧ FullA W m n a' ∧ (∀ g, g < f → a'.getD g 0 = a.getD g 0) ∧ NoShort W m a' f
set_option maxHeartbeats 2000000 in
theorem lLeveled {w : World} {B C : Nat} {A A' : Option Addr} {W : List (List Bool)} {a : List Int} {cap cap' m n : Nat} (hW : RdB2 w B A W) (ha : Rd w C A' a) (hB : B ≤ w.heap.size) (hC : C ≤ w.heap.size) (v : VW m n W) (hfa : FullA W m n a) {f : Nat} (hf : f ≤ 100) :
    Calls Try.prog 41 #[.slice A W.length cap, .slice A' a.length cap', .int .i64 f] w (LevRes W m n a f w) := by
  have m6 := v.m6
  have n10 := v.n10
  have HW := Lib.hid hW
  have HA := Lib.hid (ha.more hC)
  have HV := Lib.hid v
  have HF := Lib.hid hfa
  have hwl := hW.len
  clear hW ha v hfa
  go_enter Try.func41, Try.ntmps41
  go_wp2_with fail
  go_loopg [1] (meas m a).toNat (fun gn av wr => ∃ (a1 : List Int) (A1 : Option Addr) (c1 : Nat), av = .slice A1 a1.length c1 ∧ gn = (meas m a1).toNat ∧ Hid (Rd wr wr.heap.size A1 a1) ∧ Hid (FullA W m n a1) ∧ Hid (∀ g, g < f → a1.getD g 0 = a.getD g 0) ∧ Hid (Below w.heap.size w wr))
  case atStart => exact ⟨a, A', cap', rfl, rfl, HA, HF, Lib.hid fun _ _ => rfl, Lib.hid (Below.refl _ _)⟩
  case round =>
    obtain ⟨a1, A1, c1, rfl, rfl, hr, hfl, hp, hb⟩ := hrel
    have hlen : a1.length = n := hfl.out.len
    have C1 := lChain (cap := cap) (cap' := c1) (f := f) (HW.out.below hb.out hB) hr.out (Nat.le_trans hB hb.out.size) (Nat.le_refl _) HV.out hlen (full_bd hfl.out) hf
    have HC1 := Lib.hid C1
    have HLN := Lib.hid hlen
    clear C1 hlen
    go_wp2_with fail
    refine HC1.out.mono ?_
    rintro e w2 ⟨A2, c2, rfl, hr2, _, hb2, _⟩
    clear HC1
    by_cases hn : chainN m (fun p q => linkK W a1 p q f) a1 = []
    · have HNS := Lib.hid (chainN_nil hn)
      have HB2 := Lib.hid (hb.out.trans (hb2.mono hb.out.size))
      have HR2 := Lib.hid ((hr.out.below hb2 (Nat.le_refl _)).more hb2.size)
      have hl0 : (NL (chainN m (fun p q => linkK W a1 p q f) a1)).length = 0 := by rw [hn]; rfl
      rw [hl0]
      clear hn hl0 hr2 hb2 hr hb
      go_wp2
      go_ret
      exact ⟨a1, A1, c1, rfl, HR2.out, HB2.out, hfl.out, hp.out, HNS.out⟩
    · obtain ⟨k, hl, hs⟩ := chainN_some hn
      obtain ⟨out, hpf, hfo, hcn, hpre⟩ := pass_chain HV.out.len hfl.out hl
      have hck := chain_ok hl
      generalize chainN m (fun p q => linkK W a1 p q f) a1 = l at *
      have hlen0 : 0 < l.length := by rw [hck.len]; omega
      have hl6 : l.length ≤ 6 := by have := nodup_le hck.nd hck.lt; omega
      have hms := meas_less (m := m) (hck.lt _ (mem_head hlen0)) (hck.lt _ (mem_last hlen0)) (by have := HLN.out; omega) (short_of hs) hcn
      have HMS : Hid ((meas m out).toNat < (meas m a1).toNat) := Lib.hid (by have := meas_nonneg m out; omega)
      obtain ⟨r, hrl⟩ : ∃ r, l.length = r + 1 := ⟨l.length - 1, by omega⟩
      rw [NL_length]
      have CP := lPass (cap := cap) (cap' := c1) (cap3 := c2) (f := f) ((HW.out.below hb.out hB).below hb2 (Nat.le_trans hB hb.out.size)) (hr.out.below hb2 (Nat.le_refl _)) hr2 (Nat.le_trans hB (Nat.le_trans hb.out.size hb2.size)) hb2.size (Nat.le_refl _) HV.out HLN.out (full_bd hfl.out) hck.lt (by omega) hf
      rw [hpf, hrl] at CP
      have HCP := Lib.hid CP
      have HFO := Lib.hid hfo
      have HPR : Hid (∀ g, g < f → out.getD g 0 = a.getD g 0) := Lib.hid fun g hg => (hpre g hg).trans (hp.out g hg)
      have HB2 := Lib.hid (hb.out.trans (hb2.mono hb.out.size))
      have hz : ((r : Int) + 1 == 0) = false := by simp; omega
      have hr6 : r ≤ 6 := by omega
      rw [hrl]
      clear hn hl hs hpf hfo hcn hpre hck hlen0 hl6 hms CP hr2 hb2 hr hb hfl hp hrl
      go_wp2_with fail
      refine HCP.out.mono ?_
      rintro e w3 ⟨A3, c3, rfl, hr3, hb3⟩
      have HR3 : Hid (Rd w3 w3.heap.size A3 out) := Lib.hid hr3
      have HB3 := Lib.hid (HB2.out.trans (hb3.mono HB2.out.size))
      clear hr3 hb3 HCP
      go_wp2
      go_roundg (meas m out).toNat
      case measure => exact HMS.out
      case rel => exact ⟨out, A3, c3, rfl, rfl, HR3, HFO, HPR, HB3⟩
end Go.Proofs.Ytefbkdjppfofmaa

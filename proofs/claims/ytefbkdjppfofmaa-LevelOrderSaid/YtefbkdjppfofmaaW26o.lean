import Derived.Test.YtefbkdjppfofmaaW26n
import Derived.Test.YtefbkdjppfofmaaW26i
/-! Walks of chapter 26: Chain. -/
namespace Go.Proofs.Ytefbkdjppfofmaa
open Go.RowKit Go.Deep
set_option linter.unusedVariables false
set_option maxRecDepth 100000

def chN (W : List (List Bool)) (a : List Int) : List Nat := chainN W.length (linkA W a) a
/-- what Chain returns: the chain, the error -/
def chF (W : List (List Bool)) (a : List Int) : List Int := if lkd26 W a = 0 then NL (chN W a) else []
def chC (W : List (List Bool)) (a : List Int) : Int := if lkd26 W a = 0 then (if chN W a = [] then 6 else 0) else lkd26 W a
/-- the same, with room for what it holds -/
def RowResC (w : World) (F : List Int) (c : Int) (e : Ending) (w' : World) : Prop :=
  ∃ A cap, e = .returned (.tuple #[.slice A F.length cap, .int .i64 c]) ∧ Rd w' w'.heap.size A F ∧ Below w.heap.size w w' ∧ F.length ≤ cap
theorem chN_le {W : List (List Bool)} {a : List Int} : (chN W a).length ≤ W.length + 1 := by
  unfold chN chainN
  cases h : firstShort W.length (extL W.length (linkA W a)) (shortB a) with
  | none => simp
  | some l =>
    rw [firstShort, List.findSome?_eq_some_iff] at h
    obtain ⟨l1, n, l2, _, h2, _⟩ := h
    have hm := chain_ok (List.mem_of_find?_eq_some h2)
    have := nodup_le hm.nd hm.lt
    show l.length ≤ _
    omega
set_option maxHeartbeats 1000000 in
theorem lChainC {w : World} {B C : Nat} {A A' : Option Addr} {W : List (List Bool)} {a : List Int} {cap cap' : Nat} (h : RdB2 w B A W) (h' : Rd w C A' a) (hB : B ≤ w.heap.size) (hC : C ≤ w.heap.size) :
    Calls Try.prog 12 #[.slice A W.length cap, .slice A' a.length cap'] w (RowResC w (chF W a) (chC W a)) := by
  have C1 := lLooked26 (cap := cap) (cap' := cap') h h' hB hC
  have H := Lib.hid h
  have H' := Lib.hid h'
  have hwl := h.len
  clear h h'
  by_cases hk : lkd26 W a = 0
  · obtain ⟨m, n, v, ha, _, hx⟩ := lkd26_zero hk
    have HK := Lib.hid hk
    have HF : Hid (chF W a = NL (chN W a)) := Lib.hid (by rw [chF, if_pos hk])
    have HCC : Hid (chC W a = if chN W a = [] then 6 else 0) := Lib.hid (by rw [chC, if_pos hk])
    rw [hk] at C1
    have HV := Lib.hid v
    have HA := Lib.hid ha
    have HX := Lib.hid hx
    clear hk v ha hx
    go_enter Try.func12, Try.ntmps12
    go_wp2_with fail
    refine C1.mono ?_
    rintro e w1 ⟨rfl, hb⟩
    have CC := lChain (cap := cap) (cap' := cap') (H.out.below hb hB) (H'.out.below hb hC) (Nat.le_trans hB hb.size) (Nat.le_trans hC hb.size) HV.out HA.out HX.out (f := 0) (by omega)
    have HB := Lib.hid hb
    have hN : NL (chainN m (fun p q => linkK W a p q 0) a) = NL (chN W a) := by
      rw [chN, HV.out.len]; rfl
    rw [hN] at CC
    have HC1 : Hid (Calls Try.prog 32 #[.slice A W.length cap, .slice A' a.length cap', .int .i64 0] w1 (ListRes w1 (NL (chN W a)))) := Lib.hid CC
    clear hb C1 CC hN
    go_wp2_with fail
    refine HC1.out.mono ?_
    rintro e w2 ⟨A2, c2, rfl, hr, _, hb, hcp⟩
    have HCP := Lib.hid hcp
    clear hcp
    have HR := Lib.hid hr
    have HB2 := Lib.hid (HB.out.trans (hb.mono HB.out.size))
    clear hr hb HC1
    by_cases hn : chN W a = []
    · have hl0 : (NL (chN W a)).length = 0 := by rw [hn]; rfl
      have HE : Hid (chC W a = 6) := Lib.hid (by rw [HCC.out, if_pos hn])
      have HFE : Hid (chF W a = []) := Lib.hid (by rw [HF.out, hn]; rfl)
      rw [hl0]
      clear hn hl0 HR
      go_wp2
      go_ret2
      rw [HE.out, HFE.out]
      exact ⟨none, 0, rfl, Rd.nil _ _ _, HB2.out, Nat.le_refl _⟩
    · obtain ⟨r, hr⟩ : ∃ r, (NL (chN W a)).length = r + 1 := by
        refine ⟨(NL (chN W a)).length - 1, ?_⟩
        rw [NL_length]
        have : (chN W a).length ≠ 0 := fun h => hn (List.eq_nil_of_length_eq_zero h)
        omega
      have HE : Hid (chC W a = 0) := Lib.hid (by rw [HCC.out, if_neg hn])
      have HLN := Lib.hid hr
      have hr100 : r ≤ 100 := by have h1 := chN_le (W := W) (a := a); have h2 := HV.out.len; have h3 := HV.out.m6; rw [NL_length] at hr; omega
      have hz : ((r : Int) + 1 == 0) = false := by simp; omega
      rw [hr]
      clear hn hr
      go_wp2
      go_ret2
      rw [HE.out]
      exact ⟨A2, c2, by rw [HF.out, HLN.out]; rfl, by rw [HF.out]; exact HR.out, HB2.out, by rw [HF.out]; exact HCP.out⟩
  · have hne : (lkd26 W a != 0) = true := by simpa using hk
    have HF : Hid (chF W a = []) := Lib.hid (by rw [chF, if_neg hk])
    have HE : Hid (chC W a = lkd26 W a) := Lib.hid (by rw [chC, if_neg hk])
    clear hk
    generalize lkd26 W a = c at *
    go_enter Try.func12, Try.ntmps12
    go_wp2_with fail
    refine C1.mono ?_
    rintro e w1 ⟨rfl, hb⟩
    have HB := Lib.hid hb
    clear hb C1
    go_wp2
    go_ret2
    rw [HF.out, HE.out]
    exact ⟨none, 0, rfl, Rd.nil _ _ _, HB.out, Nat.le_refl _⟩
theorem lChainE {w : World} {B C : Nat} {A A' : Option Addr} {W : List (List Bool)} {a : List Int} {cap cap' : Nat} (h : RdB2 w B A W) (h' : Rd w C A' a) (hB : B ≤ w.heap.size) (hC : C ≤ w.heap.size) :
    Calls Try.prog 12 #[.slice A W.length cap, .slice A' a.length cap'] w (RowRes26 w (chF W a) (chC W a)) :=
  (lChainC h h' hB hC).mono fun _ _ ⟨A, c, h1, h2, h3, _⟩ => ⟨A, c, h1, h2, h3⟩
end Go.Proofs.Ytefbkdjppfofmaa

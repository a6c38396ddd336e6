import Derived.Test.YtdkcpnmaglkmnaaS30m
import Derived.Test.YtdkcpnmaglkmnaaS30f
import Derived.Test.YtdkcpnmaglkmnaaW30f
/-! Plain values of chapter 30 on literal land. No statement about the program. -/
namespace Go.Proofs.Ytdkcpnmaglkmnaa
open Go.RowKit
set_option linter.unusedVariables false
set_option maxRecDepth 100000

theorem walkN_is {f : Int → Int → Bool} {s : St} {N : Nat} {W H : Nat} (hg : InGrid f W H) (he : Edge f s) (h0 : 0 < N) (hb : itN f N s = s) (hl : ∀ k, 0 < k → k < N → itN f k s ≠ s) : walkN f s = N := by
  obtain ⟨s1, s2, s3, s4⟩ := walkN_spec hg he
  rcases Nat.lt_trichotomy (walkN f s) N with h | h | h
  · exact absurd s3 (hl _ s1 h)
  · exact h
  · exact absurd hb (s4 N h0 h)
/-- does the walk close behind N steps, and not before? -/
def closes (f : Int → Int → Bool) (s : St) (N : Nat) : Bool :=
  (List.range N).all (fun k => k == 0 || !((itN f k s).x == s.x && (itN f k s).y == s.y && (itN f k s).d == s.d)) && ((itN f N s).x == s.x && (itN f N s).y == s.y && (itN f N s).d == s.d)
theorem wkP_is {W H : Nat} {L : List Int} {a : Int} {N : Nat} (v : VL W H L) (ha : 0 ≤ a) (hk : lkd W H L a = 0) (h2 : ¬ fst L a < 0) (h0 : 0 < N) (hc : closes (wkF W H L a) (wkS W L a) N = true) : wkE W H L a = 0 ∧ wkP W H L a = ptsK (wkF W H L a) (wkS W L a) N := by
  obtain ⟨i, hi, h1, h3, h4, h5, h6⟩ := wk_ok v ha hk h2
  have eS : wkS W L a = startS W i := by rw [wkS, h1, Int.toNat_natCast, Int.toNat_natCast]
  have eF : wkF W H L a = ownF W H L a := by rw [wkF, Int.toNat_natCast, Int.toNat_natCast]
  rw [eS, eF] at hc ⊢
  refine ⟨h4, ?_⟩
  rw [h5]
  have hst : ∀ u v : St, (u.x == v.x && u.y == v.y && u.d == v.d) = true ↔ u = v := by
    intro u v
    cases u; cases v
    simp [St.mk.injEq, and_assoc]
  rw [closes, Bool.and_eq_true, List.all_eq_true, hst] at hc
  congr 1
  refine walkN_is h6.grid h6.e0 h0 hc.2 fun k hk0 hkN he => ?_
  have := hc.1 k (by simp [hkN])
  rw [(hst _ _).2 he] at this
  simp at this
  omega
theorem ex_prt : prtF 3 1 [0, 1, 0] 0 = [[0], [2]] := by decide +kernel
theorem ex_lkd : lkd 3 1 [0, 1, 0] 0 = 0 := by decide +kernel
theorem ex_bdy : bdyN 3 1 [0, 1, 0] 0 = 8 := by decide +kernel
theorem ex_brdE : brdE 3 1 [0, 1, 0] 0 1 = 0 := by decide +kernel
theorem ex_brdN : brdN 3 1 [0, 1, 0] 0 1 = 2 := by decide +kernel
theorem ex_gvE1 : gvE30 3 1 [0, 1, 0] 1 0 = 0 := by decide +kernel
theorem ex_gvL1 : gvL30 3 1 [0, 1, 0] 1 0 = [0, 0, 0] := by decide +kernel
theorem ex_gvW1 : gvW30 3 1 [0, 1, 0] 1 0 = 3 := by decide +kernel
theorem ex_gvH1 : gvH30 3 1 [0, 1, 0] 1 0 = 1 := by decide +kernel
theorem ex_gvE2 : gvE30 3 1 [0, 1, 0] 0 1 = 0 := by decide +kernel
theorem ex_gvL2 : gvL30 3 1 [0, 1, 0] 0 1 = [1, 1, 0] := by decide +kernel
theorem ex_gvW2 : gvW30 3 1 [0, 1, 0] 0 1 = 3 := by decide +kernel
theorem ex_gvH2 : gvH30 3 1 [0, 1, 0] 0 1 = 1 := by decide +kernel
theorem ex_vl : VL 3 1 [0, 1, 0] where
  w0 := by decide
  w1 := by decide
  h0 := by decide
  h1 := by decide
  len := by decide
  bd := by decide
theorem ex_wk : wkE 3 1 [0, 1, 0] 0 = 0 ∧ wkP 3 1 [0, 1, 0] 0 = [(0, 0), (1, 0), (1, 1), (0, 1)] := by
  obtain ⟨h1, h2⟩ := wkP_is (N := 4) ex_vl (by decide) ex_lkd (by decide +kernel) (by decide) (by decide +kernel)
  exact ⟨h1, h2.trans (by decide +kernel)⟩
end Go.Proofs.Ytdkcpnmaglkmnaa

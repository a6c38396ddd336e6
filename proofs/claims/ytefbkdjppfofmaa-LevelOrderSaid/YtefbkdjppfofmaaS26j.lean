import Derived.Test.YtefbkdjppfofmaaS26i
/-! Plain law: what passing along a chain does. No statement about the program. -/
namespace Go.Proofs.Ytefbkdjppfofmaa
set_option linter.unusedVariables false
open Classical

/-- each agent is linked to the next one -/
def Lk (link : Nat → Nat → Bool) : List Nat → Prop
  | x :: y :: t => link x y = true ∧ Lk link (y :: t)
  | [_] => True
  | [] => True
theorem Lk_snoc {link : Nat → Nat → Bool} {k : Nat} : ∀ {p : List Nat}, Lk link p → link (p.getLastD 0) k = true → 0 < p.length → Lk link (p ++ [k])
  | [], _, _, h => absurd h (by simp)
  | [x], _, h, _ => ⟨h, trivial⟩
  | x :: y :: t, h1, h2, _ => ⟨h1.1, Lk_snoc (p := y :: t) h1.2 h2 (by simp)⟩
theorem lvl_linked {m : Nat} {link : Nat → Nat → Bool} : ∀ {k : Nat} {l : List Nat}, l ∈ lvl m (extL m link) k → Lk link l
  | 0, l, hl => by
    rw [lvl, List.mem_map] at hl
    obtain ⟨i, _, rfl⟩ := hl
    trivial
  | k + 1, l, hl => by
    rw [lvl_succ, List.mem_flatMap] at hl
    obtain ⟨p, hp, hl2⟩ := hl
    obtain ⟨y, _, rfl, _, h⟩ := mem_ext hl2
    exact Lk_snoc (lvl_linked hp) h (by rw [(chain_ok hp).len]; omega)
theorem getD_set_self {a : List Int} {g : Nat} {y : Int} (h : g < a.length) : (a.set g y).getD g 0 = y := by
  rw [List.getD_eq_getElem?_getD, List.getElem?_set_self h]; rfl
theorem getD_set_ne {a : List Int} {g k : Nat} {y : Int} (h : g ≠ k) : (a.set g y).getD k 0 = a.getD k 0 := by
  rw [List.getD_eq_getElem?_getD, List.getElem?_set_ne h, ← List.getD_eq_getElem?_getD]
/-- one where two numbers are the same -/
def dl (i x : Nat) : Int := if i = x then 1 else 0
theorem cn_set {a : List Int} {g x y : Nat} (hg : g < a.length) (hx : a.getD g 0 = (x : Int)) (i : Nat) : cn (a.set g (y : Int)) i = cn a i - dl i x + dl i y := by
  rw [cn, cn, List.length_set, cntTo_sm, cntTo_sm]
  have e : sm (ind (a.set g (y : Int)) i) a.length = sm (fun k => ind a i k + (if k = g then dl i y - dl i x else 0)) a.length := by
    refine sm_congr fun k hk => ?_
    by_cases hkg : k = g
    · subst hkg
      rw [if_pos rfl, ind, ind, getD_set_self hg, hx, dl, dl]
      by_cases h1 : i = y
      · by_cases h2 : i = x
        · rw [if_pos (by omega), if_pos (by omega), if_pos h1, if_pos h2]; omega
        · rw [if_pos (by omega), if_neg (by omega), if_pos h1, if_neg h2]; omega
      · by_cases h2 : i = x
        · rw [if_neg (by omega), if_pos (by omega), if_neg h1, if_pos h2]; omega
        · rw [if_neg (by omega), if_neg (by omega), if_neg h1, if_neg h2]; omega
    · rw [if_neg hkg, ind, ind, getD_set_ne (Ne.symm hkg)]; omega
  rw [e, sm_add, sm_single _ hg]
  have : sm (fun k => ind a i k) a.length = sm (ind a i) a.length := rfl
  omega
section
variable {W : List (List Bool)} {a out : List Int} {m n f : Nat}
theorem goodK_ge {p q g : Nat} (h : goodK W a p q f = some g) : f ≤ g := by
  have := List.mem_of_find?_eq_some h
  rw [List.mem_drop_iff_getElem] at this
  obtain ⟨i, hi, e⟩ := this
  simp at e
  omega
theorem goodK_ex {p q : Nat} (h : linkK W a p q f = true) : ∃ g, goodK W a p q f = some g := by
  cases hg : goodK W a p q f with
  | some g => exact ⟨g, rfl⟩
  | none =>
    rw [goodK, List.find?_eq_none] at hg
    rw [linkK, List.any_eq_true] at h
    obtain ⟨g, h1, h2⟩ := h
    exact absurd h2 (hg g h1)
theorem full_set {g y : Nat} (hm : W.length = m) (h : FullA W m n a) (hg : g < n) (hy : y < m) (hw : wishB W y g = true) : FullA W m n (a.set g (y : Int)) := by
  refine ⟨by rw [List.length_set]; exact h.len, fun k hk => ?_⟩
  by_cases hkg : g = k
  · subst hkg
    exact .inr ⟨y, hy, getD_set_self (by rw [h.len]; exact hg), hw⟩
  · rw [getD_set_ne hkg]; exact h.at_ k hk
theorem pass_all (hm : W.length = m) (ha : FullA W m n a) : ∀ (t : List Nat) (x : Nat) (out : List Int) (old : List Nat), (∀ y ∈ x :: t, y < m) → (old ++ x :: t).Nodup → Lk (fun p q => linkK W a p q f) (x :: t) → Passed a out old → FullA W m n out →
    ∃ out', passF W a f (x :: t) out = some out' ∧ FullA W m n out' ∧ (∀ i, cn out' i = cn out i - dl i x + dl i ((x :: t).getLastD 0)) ∧ ∀ g, g < f → out'.getD g 0 = out.getD g 0
  | [], x, out, old, _, _, _, _, hf => ⟨out, rfl, hf, fun i => by show _ = cn out i - dl i x + dl i x; omega, fun _ _ => rfl⟩
  | y :: t, x, out, old, hlt, hnd, hlk, hps, hf => by
    obtain ⟨g, hg⟩ := goodK_ex hlk.1
    have hgs := goodK_some hg
    have hge := goodK_ge hg
    have hp := hgs.2
    rw [passB, Bool.and_eq_true, decide_eq_true_iff] at hp
    have hxo : x ∉ old := by
      intro hx
      rw [List.nodup_append] at hnd
      exact hnd.2.2 x hx x (by simp) rfl
    have hox := hps.still hgs.1 hp.1 hxo
    have hgo : g < out.length := by rw [hf.len, ← ha.len]; exact hgs.1
    obtain ⟨out', h1, h2, h3, h4⟩ := pass_all hm ha t y (out.set g (y : Int)) (old ++ [x]) (fun z hz => hlt z (by simp at hz ⊢; exact .inr hz)) (by simpa using hnd) hlk.2 (hps.set _ hp.1) (full_set hm hf (by rw [← ha.len]; exact hgs.1) (hlt y (by simp)) hp.2)
    refine ⟨out', by rw [passF_some hg]; exact h1, h2, fun i => ?_, fun k hk => ?_⟩
    · rw [h3 i, cn_set hgo hox i]
      have : (x :: y :: t).getLastD 0 = (y :: t).getLastD 0 := by simp
      rw [this]; omega
    · rw [h4 k hk, getD_set_ne (by omega)]
/-- passing along a chain -/
theorem pass_chain (hm : W.length = m) (ha : FullA W m n a) {k : Nat} {l : List Nat} (hl : l ∈ lvl m (extL m (fun p q => linkK W a p q f)) k) :
    ∃ out, passF W a f l a = some out ∧ FullA W m n out ∧ (∀ i, cn out i = cn a i - dl i (l.headD 0) + dl i (l.getLastD 0)) ∧ ∀ g, g < f → out.getD g 0 = a.getD g 0 := by
  have hc := chain_ok hl
  have hlen := hc.len
  cases l with
  | nil => simp at hlen
  | cons x t => exact pass_all hm ha t x a [] hc.lt (by simpa using hc.nd) (lvl_linked hl) (Passed.start a) ha
/-- what a short chain does to what lies above s -/
theorem pass_PL {x y : Nat} {b : List Int} (hx : x < m) (hy : y < m) (hs : cn a y + 2 ≤ cn a x) (hb : ∀ i, cn b i = cn a i - dl i x + dl i y) (s : Int) :
    PL s ((List.range m).map (cn b)) = PL s ((List.range m).map (cn a)) + (max (cn a x - 1 - s) 0 - max (cn a x - s) 0) + (max (cn a y + 1 - s) 0 - max (cn a y - s) 0) := by
  rw [PL_map, PL_map]
  have hne : x ≠ y := by rintro rfl; omega
  have e : sm (fun i => max (cn b i - s) 0) m = sm (fun i => (max (cn a i - s) 0 + (if i = x then (max (cn a x - 1 - s) 0 - max (cn a x - s) 0) else 0)) + (if i = y then (max (cn a y + 1 - s) 0 - max (cn a y - s) 0) else 0)) m := by
    refine sm_congr fun i hi => ?_
    rw [hb i, dl, dl]
    by_cases h1 : i = x
    · subst h1
      rw [if_pos rfl, if_neg hne, if_pos rfl, if_neg hne]; omega
    · by_cases h2 : i = y
      · subst h2
        rw [if_neg h1, if_pos rfl, if_neg h1, if_pos rfl]; omega
      · rw [if_neg h1, if_neg h2, if_neg h1, if_neg h2]; omega
  rw [e, sm_add, sm_add, sm_single _ hx, sm_single _ hy]
theorem short_of {l : List Nat} (h : shortB a l = true) : cn a (l.getLastD 0) + 2 ≤ cn a (l.headD 0) := by
  rw [shortB] at h
  have := of_decide_eq_true h
  unfold cn; omega
/-- passing along a short chain makes the shape more even -/
theorem pass_better (hm : W.length = m) (ha : FullA W m n a) {b : List Int} (hb : FullA W m n b) {x y : Nat} (hx : x < m) (hy : y < m) (hs : cn a y + 2 ≤ cn a x) (hc : ∀ i, cn b i = cn a i - dl i x + dl i y) :
    cmpS ((List.range m).map (cn b)) ((List.range m).map (cn a)) = 1 := by
  refine cmpS_strict (by simp) (fun c hc => ?_) (by rw [full_sum ha hm, full_sum hb hm]) (fun s _ => ?_) (cn a y + 1) ?_
  · rw [List.mem_map] at hc
    obtain ⟨i, _, rfl⟩ := hc
    exact cn_nonneg _ _
  · rw [pass_PL hx hy hs hc]; omega
  · rw [pass_PL hx hy hs hc]; omega
/-- a number that every passing lowers -/
def meas (m : Nat) (a : List Int) : Int := sm (fun s => PL (s : Int) ((List.range m).map (cn a))) 11
theorem PL_nonneg (s : Int) : ∀ L : List Int, 0 ≤ PL s L
  | [] => by simp [PL]
  | c :: t => by have := PL_nonneg s t; simp only [PL]; omega
theorem meas_nonneg (m : Nat) (a : List Int) : 0 ≤ meas m a := sm_nonneg fun s _ => PL_nonneg _ _
theorem meas_less {b : List Int} {x y : Nat} (hx : x < m) (hy : y < m) (h10 : a.length ≤ 10) (hs : cn a y + 2 ≤ cn a x) (hc : ∀ i, cn b i = cn a i - dl i x + dl i y) : meas m b < meas m a := by
  have hy0 := cn_nonneg a y
  have hx10 : cn a x ≤ 10 := by have := cntTo_le a x a.length; unfold cn; omega
  obtain ⟨s0, hs0⟩ : ∃ s0 : Nat, (s0 : Int) = cn a y + 1 := ⟨(cn a y + 1).toNat, by omega⟩
  have h1 : sm (fun s => PL (s : Int) ((List.range m).map (cn b)) + (if s = s0 then 1 else 0)) 11 ≤ meas m a := by
    refine sm_le fun s _ => ?_
    rw [pass_PL hx hy hs hc]
    by_cases h : s = s0
    · subst h
      rw [if_pos rfl]; omega
    · rw [if_neg h]; omega
  rw [sm_add, sm_single _ (show s0 < 11 by omega)] at h1
  unfold meas at h1 ⊢
  omega
end
end Go.Proofs.Ytefbkdjppfofmaa

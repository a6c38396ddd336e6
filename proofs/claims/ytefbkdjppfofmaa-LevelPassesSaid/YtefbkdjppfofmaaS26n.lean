import Derived.Test.YtefbkdjppfofmaaS26m
import Derived.Test.YtefbkdjppfofmaaW26t
/-! Plain law: passing along the short chain that Chain finds. No statement about the program. -/
namespace Go.Proofs.Ytefbkdjppfofmaa
set_option linter.unusedVariables false
open Classical

theorem natL_NL (l : List Nat) : natL (NL l) = l := by
  rw [natL, NL, List.map_map]
  have : (Int.toNat ∘ fun (x : Nat) => (x : Int)) = id := by funext x; simp
  rw [this, List.map_id]
theorem chainBad_NL {m : Nat} {l : List Nat} (h : ∀ x ∈ l, x < m) (hn : l.Nodup) : chainBad m (NL l) = false := by
  rw [chainBad, List.any_eq_false]
  intro i hi
  have hil : i < l.length := by have := List.mem_range.1 hi; rwa [NL_length] at this
  have hg : (NL l).getD i 0 = (l[i] : Int) := by
    rw [List.getD_eq_getElem?_getD, NL_at (show l[i]? = some l[i] by simp)]; rfl
  have hm := h _ (List.getElem_mem hil)
  have h3 : ((NL l).take i).any (fun x => x == (l[i] : Int)) = false := by
    have : (NL l).take i = NL (l.take i) := by rw [NL, NL, List.map_take]
    rw [this, NL_any]
    rw [Bool.eq_false_iff]
    intro hc
    exact not_mem_take' hn hil (List.contains_iff_mem.1 hc)
  rw [badAt, hg, h3, decide_eq_false (by omega), decide_eq_false (by omega)]
  simp
where
  not_mem_take' {l : List Nat} (h : l.Nodup) {i : Nat} (hi : i < l.length) : l[i] ∉ l.take i := by
    intro hm
    rw [List.mem_take_iff_getElem] at hm
    obtain ⟨j, hj, he⟩ := hm
    rw [List.Nodup, List.pairwise_iff_getElem] at h
    exact h j i (by omega) hi (by omega) he
theorem pass_facts {W : List (List Bool)} {m n : Nat} {a : List Int} (v : VW m n W) (hf : fullB W a = true) (hno : ¬ NoShort W m a 0) :
    ∃ l out k, chF W a = NL l ∧ ChainOk m k l ∧ 2 ≤ l.length ∧ psF W a (NL l) = out ∧ psC W a (NL l) = 0 ∧ fullB W out = true ∧ lkd26 W out = 0 ∧
      moreV (cntF W out) (cntF W a) = 1 ∧ moreE (cntF W out) (cntF W a) = 0 ∧ l.headD 0 ≠ l.getLastD 0 ∧ ∀ i, cn out i = cn a i - dl i (l.headD 0) + dl i (l.getLastD 0) := by
  have ha := full_of v hf
  have hne : chainN m (fun p q => linkK W a p q 0) a ≠ [] := fun h => hno (chainN_nil h)
  obtain ⟨k, hl, hs⟩ := chainN_some hne
  have hch : chF W a = NL (chainN m (fun p q => linkK W a p q 0) a) := by rw [chF, if_pos (lkd_ok v hf), chN_link v]
  generalize chainN m (fun p q => linkK W a p q 0) a = l at *
  obtain ⟨out, hp, hfo, hcn, _⟩ := pass_chain v.len ha hl
  have hck := chain_ok hl
  have hlen0 : 0 < l.length := by rw [hck.len]; omega
  have hsh := short_of hs
  have hne2 : l.headD 0 ≠ l.getLastD 0 := by intro h; rw [h] at hsh; omega
  have h2 : 2 ≤ l.length := by
    match l, hlen0, hne2 with
    | [x], _, h => exact absurd rfl h
    | x :: y :: t, _, _ => simp
  have hO := full_to v hfo
  have hps : psO W a (NL l) = some out := by
    rw [psO, v.len, chainBad_NL hck.lt hck.nd, if_neg (by rw [NL_length]; rintro (h | h); cases h; omega), natL_NL, hp]
  refine ⟨l, out, k, hch, hck, h2, ?_, ?_, hO, lkd_ok v hO, ?_, ?_, hne2, hcn⟩
  · rw [psF, if_pos (lkd_ok v hf), hps]; rfl
  · rw [psC, if_pos (lkd_ok v hf), hps]; rfl
  · rw [cnt_ok v hf, cnt_ok v hO, moreV_ok v]
    exact pass_better v.len ha hfo (hck.lt _ (mem_head hlen0)) (hck.lt _ (mem_last hlen0)) hsh hcn
  · rw [cnt_ok v hf, cnt_ok v hO]; exact more_ok v
theorem chF_nil {W : List (List Bool)} {m n : Nat} {a : List Int} (v : VW m n W) (hf : fullB W a = true) (hno : NoShort W m a 0) : chF W a = [] := by
  rw [chF, if_pos (lkd_ok v hf), chN_link v, chainN, show firstShort m (extL m (fun p q => linkK W a p q 0)) (shortB a) = none from hno]
  rfl
theorem cnts_at {m : Nat} {a : List Int} {i : Nat} (h : i < m) : (cnts m a)[i]? = some (cn a i) := by rw [cnts, List.getElem?_map, List.getElem?_range h]; rfl
end Go.Proofs.Ytefbkdjppfofmaa

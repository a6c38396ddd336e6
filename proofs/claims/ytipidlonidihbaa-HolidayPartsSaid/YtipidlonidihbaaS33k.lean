import Derived.Test.YtipidlonidihbaaS33h
import Derived.Test.YtipidlonidihbaaS33i
/-! Plain law: a calendar in two parts; how often agents had a place. -/
namespace Go.Proofs.Ytipidlonidihbaa
set_option linter.unusedVariables false

theorem hckGo_of {n : Nat} (hn : n ≠ 0) : ∀ {L : List Int} {s : Int}, (∀ x ∈ L, -1000000 ≤ x ∧ x ≤ 1000000) → s + sumI L = 0 → hckGo n s L = 0
  | [], s, _, h => by
    simp only [sumI] at h
    rw [hckGo, if_neg (by omega)]
  | x :: t, s, hb, h => by
    have hx := hb x (by simp)
    rw [hckGo_ok (by unfold badCredit; omega)]
    refine hckGo_of hn (fun y hy => hb y (List.mem_cons_of_mem _ hy)) ?_
    simp only [sumI] at h
    omega
theorem hck_of {C : List Int} (h : VC C) : hck C = 0 := by
  rw [← hck_go (by have := h.twelve; omega)]
  exact hckGo_of (by have := h.one; omega) h.bd (by have := h.sum; omega)
/-- agents with a place, in order -/
structure GoodRow (n : Nat) (R : List Int) : Prop where
  pw : R.Pairwise (fun a b => a < b)
  bd : ∀ x ∈ R, 0 ≤ x ∧ x < n
theorem freeL_good (C B : List Int) (m : Nat) : GoodRow B.length (freeL C B m) := by
  constructor
  · unfold freeL
    rw [List.pairwise_map]
    refine List.Pairwise.imp ?_ (List.Pairwise.filter _ (List.pairwise_lt_range (n := B.length)))
    intro a b h
    omega
  · intro x hx
    simp only [freeL, List.mem_map, List.mem_filter, List.mem_range] at hx
    obtain ⟨i, ⟨hi, _⟩, rfl⟩ := hx
    omega
structure GvOk (A B : List Int) (m : Int) : Prop where
  vb : VB A B
  m0 : 0 ≤ m
  m1 : m ≤ A.length
  vc : VC (gvA A B m)
  len : (gvA A B m).length = A.length
  row : GoodRow A.length (gvF A B m)
  cnt : ((gvF A B m).length : Int) = m
theorem gv_ok {A B : List Int} {m : Int} (h : gvE A B m = 0) : GvOk A B m := by
  have hF : gvF A B m = freeL A B m.toNat := by rw [gvF, if_pos h]
  have hA : gvA A B m = aftL A B m.toNat := by rw [gvA, if_pos h]
  have hp : pcE A B m = 0 := by
    rcases Decidable.em (pcE A B m = 0) with h0 | h0
    · exact h0
    · rw [gvE_pc h0] at h; exact absurd h h0
  obtain ⟨hl, g0, g1⟩ := pcE_zero hp
  obtain ⟨k, rfl⟩ := Int.eq_ofNat_of_zero_le g0
  rw [Int.toNat_natCast] at hF hA
  have hV := hlk_ok hl
  have hkB : k ≤ B.length := by have := hV.len; omega
  have hany : (aftL A B k).any outOf = false := by
    cases hb : (aftL A B k).any outOf
    · rfl
    · rw [gvE_out hp hb] at h; exact absurd h (by decide)
  have hpb := prOf_bd (C := A) (B := B) (m := k) hV.bd (by have := hV.v.one; have := hV.len; omega) (by have := hV.v.one; have := hV.len; omega)
  have hlenA : (aftL A B k).length = A.length := (aftL_length A B k).trans hV.len
  refine ⟨hV, g0, g1, ?_, by rw [hA, hlenA], by rw [hF, ← hV.len]; exact freeL_good A B k, by rw [hF, freeL_length hkB]⟩
  rw [hA]
  refine ⟨by rw [hlenA]; exact hV.v.one, by rw [hlenA]; exact hV.v.twelve, ?_, ?_⟩
  · intro x hx
    have := List.any_eq_false.1 hany x hx
    simp [outOf] at this
    omega
  · exact aS_zero hV.v hV.len hkB hpb.1 hpb.2
theorem sumI_set : ∀ {O : List Int} {i : Nat} {v : Int}, i < O.length → sumI (O.set i v) = sumI O - O.getD i 0 + v
  | x :: t, 0, v, h => by simp [sumI]; omega
  | x :: t, i + 1, v, h => by
    have := sumI_set (O := t) (i := i) (v := v) (by simpa using h)
    simp only [List.set_cons_succ, sumI, List.getD_cons_succ]
    omega
theorem sumI_ge : ∀ {O : List Int}, (∀ x ∈ O, 0 ≤ x) → 0 ≤ sumI O ∧ ∀ x ∈ O, x ≤ sumI O
  | [], _ => by simp [sumI]
  | x :: t, h => by
    have h1 := sumI_ge fun y hy => h y (List.mem_cons_of_mem _ hy)
    have h2 := h x (by simp)
    refine ⟨by simp only [sumI]; omega, fun y hy => ?_⟩
    simp only [sumI]
    rcases List.mem_cons.1 hy with rfl | hy
    · omega
    · have := h1.2 y hy; omega
theorem hadRow_good {n : Nat} : ∀ {R O : List Int} {last : Int}, R.Pairwise (fun a b => a < b) → (∀ x ∈ R, last < x ∧ 0 ≤ x ∧ x < n) → O.length = n → (∀ x ∈ O, 0 ≤ x) →
    ∃ O', hadRow n O last R = some O' ∧ O'.length = n ∧ (∀ x ∈ O', 0 ≤ x) ∧ sumI O' = sumI O + R.length
  | [], O, last, _, _, hl, h0 => ⟨O, rfl, hl, h0, by simp⟩
  | a :: t, O, last, hp, hb, hl, h0 => by
    have ha := hb a (by simp)
    obtain ⟨hp1, hp2⟩ := List.pairwise_cons.1 hp
    have hn : a.toNat < O.length := by omega
    obtain ⟨O', e, h1, h2, h3⟩ := hadRow_good (n := n) (O := O.set a.toNat (O.getD a.toNat 0 + 1)) (last := a) hp2
      (fun x hx => ⟨hp1 x hx, (hb x (List.mem_cons_of_mem _ hx)).2⟩) (by rw [List.length_set]; exact hl) (fun x hx => by
        rcases List.mem_or_eq_of_mem_set hx with hx | rfl
        · exact h0 x hx
        · have hm : O.getD a.toNat 0 ∈ O := by
            rw [List.getD_eq_getElem?_getD, List.getElem?_eq_getElem hn]
            exact List.getElem_mem hn
          have := h0 _ hm
          omega)
    refine ⟨O', by rw [hadRow_yes (by omega)]; exact e, h1, h2, ?_⟩
    rw [h3, sumI_set hn, List.length_cons]
    omega
def lensI (F : List (List Int)) : Int := sumI (F.map fun R => (R.length : Int))
theorem hadGo_good {n : Nat} : ∀ {F : List (List Int)} {O : List Int}, (∀ R ∈ F, GoodRow n R) → O.length = n → (∀ x ∈ O, 0 ≤ x) →
    ∃ O', hadGo n O F = some O' ∧ O'.length = n ∧ (∀ x ∈ O', 0 ≤ x) ∧ sumI O' = sumI O + lensI F
  | [], O, _, hl, h0 => ⟨O, rfl, hl, h0, by simp [lensI, sumI]⟩
  | R :: t, O, hg, hl, h0 => by
    have hR := hg R (by simp)
    obtain ⟨O1, e1, l1, n1, s1⟩ := hadRow_good (n := n) (last := -1) hR.pw (fun x hx => by have := hR.bd x hx; omega) hl h0
    obtain ⟨O', e, h1, h2, h3⟩ := hadGo_good (fun R' hR' => hg R' (List.mem_cons_of_mem _ hR')) l1 n1
    refine ⟨O', by rw [hadGo_yes e1]; exact e, h1, h2, ?_⟩
    rw [h3, s1]
    simp only [lensI, List.map_cons, sumI]
    omega
theorem sumI_zeros : ∀ n : Nat, sumI (List.replicate n 0) = 0
  | 0 => rfl
  | n + 1 => by rw [List.replicate_succ, sumI, sumI_zeros n]; rfl

theorem runGo_err_nil : ∀ {HL : List (Int × List Int)} {A : List Int} {F : List (List Int)}, (runGo A F HL).1 ≠ 0 → (runGo A F HL).2 = ([], [])
  | [], A, F, h => absurd rfl h
  | (m, B) :: t, A, F, h => by
    by_cases hE : gvE A B m = 0
    · rw [runGo_ok hE] at h ⊢; exact runGo_err_nil h
    · rw [runGo_err hE]
theorem runGo_append : ∀ {xs ys : List (Int × List Int)} {A : List Int} {F : List (List Int)},
    runGo A F (xs ++ ys) = if (runGo A F xs).1 ≠ 0 then runGo A F xs else runGo (runGo A F xs).2.2 (runGo A F xs).2.1 ys
  | [], ys, A, F => by simp [runGo]
  | (m, B) :: t, ys, A, F => by
    by_cases hE : gvE A B m = 0
    · rw [List.cons_append, runGo_ok hE, runGo_ok hE]; exact runGo_append
    · rw [List.cons_append, runGo_err hE, runGo_err hE, if_pos hE]
theorem runGo_pre : ∀ {HL : List (Int × List Int)} {A : List Int} {F G : List (List Int)}, (runGo A (G ++ F) HL).1 = (runGo A F HL).1 ∧
    ((runGo A F HL).1 = 0 → (runGo A (G ++ F) HL).2.1 = G ++ (runGo A F HL).2.1 ∧ (runGo A (G ++ F) HL).2.2 = (runGo A F HL).2.2)
  | [], A, F, G => ⟨rfl, fun _ => ⟨rfl, rfl⟩⟩
  | (m, B) :: t, A, F, G => by
    by_cases hE : gvE A B m = 0
    · rw [runGo_ok hE, runGo_ok hE, List.append_assoc]; exact runGo_pre
    · rw [runGo_err hE, runGo_err hE]
      exact ⟨rfl, fun h => absurd h hE⟩
/-- a calendar without error -/
structure RunOk (n : Nat) (HL : List (Int × List Int)) (G : List (List Int)) (A' : List Int) : Prop where
  vc : VC A'
  len : A'.length = n
  cnt : G.length = HL.length
  rows : ∀ R ∈ G, GoodRow n R
  sum : lensI G = sumI (HL.map (·.1))
  bd : ∀ h ∈ HL, 0 ≤ h.1 ∧ h.1 ≤ n
theorem runGo_good : ∀ {HL : List (Int × List Int)} {A : List Int}, VC A → (runGo A [] HL).1 = 0 → RunOk A.length HL (runGo A [] HL).2.1 (runGo A [] HL).2.2
  | [], A, hA, _ => ⟨hA, rfl, rfl, by simp [runGo], rfl, by simp⟩
  | (m, B) :: t, A, hA, h => by
    by_cases hE : gvE A B m = 0
    · have hg := gv_ok hE
      rw [runGo_ok hE] at h ⊢
      have hp := runGo_pre (HL := t) (A := gvA A B m) (F := []) (G := [gvF A B m])
      simp only [List.append_nil] at hp
      simp only [List.nil_append] at h ⊢
      have h2 : (runGo (gvA A B m) [] t).1 = 0 := hp.1.symm.trans h
      have ih := runGo_good hg.vc h2
      obtain ⟨e1, e2⟩ := hp.2 h2
      rw [e1, e2]
      rw [hg.len] at ih
      refine ⟨ih.vc, ih.len, by simp [ih.cnt], ?_, ?_, ?_⟩
      · intro R hR
        rcases List.mem_cons.1 hR with rfl | hR
        · exact hg.row
        · exact ih.rows R hR
      · have := ih.sum
        have h3 := hg.cnt
        simp only [lensI, List.singleton_append, List.map_cons, sumI] at this ⊢
        omega
      · intro x hx
        rcases List.mem_cons.1 hx with rfl | hx
        · exact ⟨hg.m0, hg.m1⟩
        · exact ih.bd x hx
    · rw [runGo_err hE] at h; exact absurd h hE
theorem sumI_bd {b : Int} : ∀ {L : List Int}, (∀ x ∈ L, 0 ≤ x ∧ x ≤ b) → 0 ≤ sumI L ∧ sumI L ≤ L.length * b
  | [], _ => by simp [sumI]
  | x :: t, h => by
    have h1 := sumI_bd fun y hy => h y (List.mem_cons_of_mem _ hy)
    have h2 := h x (by simp)
    simp only [sumI, List.length_cons, Int.natCast_add, Int.add_mul]
    omega
/-- what the law of parts wants -/
theorem had_run {C : List Int} {HL : List (Int × List Int)} (hC : VC C) (hl : HL.length ≤ 40) (h : (runGo C [] HL).1 = 0) :
    hadE C.length (runGo C [] HL).2.1 = 0 ∧ (∀ x ∈ hadV C.length (runGo C [] HL).2.1, 0 ≤ x ∧ x ≤ 480) ∧ (hadV C.length (runGo C [] HL).2.1).length = C.length
      ∧ sumI (hadV C.length (runGo C [] HL).2.1) = sumI (HL.map (·.1)) ∧ (∀ x ∈ HL.map (·.1), 0 ≤ x ∧ x ≤ 12) := by
  have hr := runGo_good hC h
  have h1 := hC.one
  have h2 := hC.twelve
  obtain ⟨O', e, l1, n1, s1⟩ := hadGo_good (n := C.length) (O := List.replicate C.length 0) hr.rows (by simp) (fun x hx => by rw [List.eq_of_mem_replicate hx]; omega)
  rw [sumI_zeros, hr.sum] at s1
  obtain ⟨e1, e2⟩ := hadE_ok (n := (C.length : Int)) (F := (runGo C [] HL).2.1) (O := O') (by omega) (by rw [hr.cnt]; omega) (by rw [hadS, Int.toNat_natCast]; exact e)
  rw [e1, e2]
  have hm : ∀ x ∈ HL.map (·.1), 0 ≤ x ∧ x ≤ 12 := by
    intro x hx
    obtain ⟨y, hy, rfl⟩ := List.mem_map.1 hx
    have := hr.bd y hy
    omega
  have hs := sumI_bd hm
  rw [List.length_map] at hs
  have hge := sumI_ge n1
  refine ⟨rfl, fun x hx => ⟨n1 x hx, ?_⟩, l1, by omega, hm⟩
  have := hge.2 x hx
  omega
theorem parts_law {C : List Int} {HL : List (Int × List Int)} {n : Nat} (hC : VC C) (hl : HL.length ≤ 40) {e0 e1 e2 : Int} {F0 F1 F2 : List (List Int)} {M0 M1 M2 : List Int}
    (h0 : runGo C [] HL = (e0, F0, M0)) (h1 : runGo C [] (HL.take n) = (e1, F1, M1)) (h2 : runGo M1 [] (HL.drop n) = (e2, F2, M2)) :
    (e1 ≠ 0 → e0 = e1 ∧ F0 = []) ∧ (e1 = 0 → VC M1 ∧ M1.length = C.length ∧ e0 = e2 ∧ (e2 = 0 → F0 = F1 ++ F2 ∧ M0 = M2 ∧ F1.length ≤ 40 ∧ F2.length ≤ 40
      ∧ hadE C.length F0 = 0 ∧ (∀ x ∈ hadV C.length F0, 0 ≤ x ∧ x ≤ 480) ∧ (hadV C.length F0).length = C.length
      ∧ sumI (hadV C.length F0) = sumI (HL.map (·.1)) ∧ (∀ x ∈ HL.map (·.1), 0 ≤ x ∧ x ≤ 12))) := by
  have ha := runGo_append (xs := HL.take n) (ys := HL.drop n) (A := C) (F := [])
  rw [List.take_append_drop, h0, h1] at ha
  simp only at ha
  constructor
  · intro he
    rw [if_pos he] at ha
    have hn := runGo_err_nil (HL := HL.take n) (A := C) (F := []) (by rw [h1]; exact he)
    rw [h1] at hn
    simp only [Prod.mk.injEq] at ha hn
    exact ⟨ha.1, by rw [ha.2.1, hn.1]⟩
  · intro he
    rw [if_neg (by simpa using he)] at ha
    have hg1 := runGo_good (HL := HL.take n) hC (by rw [h1]; exact he)
    rw [h1] at hg1
    have hp := runGo_pre (HL := HL.drop n) (A := M1) (F := []) (G := F1)
    rw [List.append_nil, h2, ← ha] at hp
    refine ⟨hg1.vc, hg1.len, hp.1, fun he2 => ?_⟩
    obtain ⟨q1, q2⟩ := hp.2 he2
    have hg2 := runGo_good (HL := HL.drop n) hg1.vc (by rw [h2]; exact he2)
    rw [h2] at hg2
    have hh := had_run hC hl (by rw [h0]; exact hp.1.trans he2)
    rw [h0] at hh
    have c1 := hg1.cnt
    have c2 := hg2.cnt
    rw [List.length_take] at c1
    rw [List.length_drop] at c2
    exact ⟨q1, q2, by simp only at c1; omega, by simp only at c2; omega, hh⟩
end Go.Proofs.Ytipidlonidihbaa

import Derived.Test.YtkoipecnmijfoaaM33U
import Derived.Test.YtkoipecnmijfoaaW31a
/-! Plain law: holidays at which the values of a parcel are bids. No statement about the program. -/
namespace Go.Proofs.Ytkoipecnmijfoaa
set_option linter.unusedVariables false

theorem hckGo_yes {n : Nat} (hn : n ≠ 0) : ∀ {L : List Int} {s : Int}, (∀ x ∈ L, ¬ badCredit x) → s + sumI L = 0 → hckGo n s L = 0
  | [], s, _, h => by
    rw [hckGo, if_neg]
    simp [sumI] at h
    omega
  | x :: t, s, hb, h => by
    rw [hckGo_ok (hb x (by simp))]
    exact hckGo_yes hn (fun y hy => hb y (by simp [hy])) (by simp only [sumI] at h; omega)
theorem hck_of {C : List Int} (h : VC C) : hck C = 0 := by
  rw [hck, if_neg (by have := h.twelve; omega)]
  refine hckGo_yes (by have := h.one; omega) (fun x hx hb => ?_) (by rw [h.sum]; rfl)
  have := h.bd x hx
  unfold badCredit at hb
  omega
/-- the credits of n agents, after k parcels -/
structure Cred (C : List Int) (n k : Nat) : Prop where
  len : C.length = n
  sum : sumI C = 0
  bd : ∀ x ∈ C, -1001 * (k : Int) ≤ x ∧ x ≤ 1001 * (k : Int)
theorem sumI_rep (n : Nat) : sumI (List.replicate n 0) = 0 := by
  induction n with
  | zero => rfl
  | succ n ih => rw [List.replicate_succ, sumI, ih]; rfl
theorem Cred.start (n : Nat) : Cred (List.replicate n 0) n 0 := ⟨by simp, sumI_rep n, fun x hx => by rw [List.mem_replicate] at hx; omega⟩
/-- what a holiday gives -/
theorem cred_next {C B : List Int} {n k : Nat} (h : Cred C n k) (h1 : 1 ≤ n) (h6 : n ≤ 6) (hk : k ≤ 12) (hB : B.length = n) (hb : ∀ x ∈ B, 0 ≤ x ∧ x ≤ 1000) :
    gvE C B 1 = 0 ∧ (∃ x : Nat, gvF C B 1 = [(x : Int)] ∧ x < n ∧ ∀ j, j < n → B.getD j 0 ≤ B.getD x 0) ∧ gvA C B 1 = aftL C B 1 ∧ Cred (aftL C B 1) n (k + 1) ∧ ∀ j, (aftL C B 1).take j = (List.range (min j B.length)).map (after C B 1) := by
  have hvc : VC C := ⟨by rw [h.len]; exact h1, by rw [h.len]; omega, fun x hx => by have := h.bd x hx; omega, h.sum⟩
  have hlk0 : hlk C B = 0 := hlk_yes (hck_of hvc) (by rw [hB, h.len]) (by
    rw [List.any_eq_false]
    intro x hx
    have := hb x hx
    rw [badBid, decide_eq_false (by omega), decide_eq_false (by omega)]
    exact Bool.false_ne_true)
  have hpc : pcE C B 1 = 0 := pcE_ok hlk0 (by rw [h.len]; omega)
  have hb6 : ∀ x ∈ B, 0 ≤ x ∧ x ≤ 1000000 := fun x hx => by have := hb x hx; omega
  have hgd : ∀ j, 0 ≤ B.getD j 0 ∧ B.getD j 0 ≤ 1000 := fun j => by
    rw [List.getD_eq_getElem?_getD]
    cases hj : B[j]? with
    | none => simp
    | some x => exact hb x (List.mem_of_getElem? hj)
  have hp : 0 ≤ prOf C B 1 ∧ prOf C B 1 ≤ 1000 := by
    unfold prOf
    split
    · omega
    · exact hgd _
  have hp0 : 0 ≤ prOf C B ((1 : Nat) : Int) := hp.1
  have hp1 : prOf C B ((1 : Nat) : Int) ≤ 1000000 := by show prOf C B 1 ≤ 1000000; omega
  have hqr := gQR (C := C) (B := B) (m := 1) hvc.one hvc.twelve (by rw [h.len]; exact h1) hp0 hp1
  have hq : 0 ≤ gQ C B 1 ∧ gQ C B 1 ≤ 1000 := by
    refine ⟨hqr.2.2.1, ?_⟩
    unfold gQ
    have h2 := Int.ediv_le_self (C.length : Int) (show 0 ≤ prOf C B ((1 : Nat) : Int) * ((1 : Nat) : Int) by exact hqr.1)
    have h3 : prOf C B ((1 : Nat) : Int) * ((1 : Nat) : Int) = prOf C B 1 := by
      rw [show ((1 : Nat) : Int) = 1 from rfl, Int.mul_one]
    rw [h3] at h2
    have h4 : prOf C B ((1 : Nat) : Int) * ((1 : Nat) : Int) / (C.length : Int) = prOf C B 1 / (C.length : Int) := by rw [h3]
    rw [h4]
    omega
  have hab : ∀ i, -1001 * ((k + 1 : Nat) : Int) ≤ after C B 1 i ∧ after C B 1 i ≤ 1001 * ((k + 1 : Nat) : Int) := fun i => by
    have hc : -1001 * (k : Int) ≤ C.getD i 0 ∧ C.getD i 0 ≤ 1001 * (k : Int) := by
      rw [List.getD_eq_getElem?_getD]
      cases hj : C[i]? with
      | none => simp; omega
      | some x => exact h.bd x (List.mem_of_getElem? hj)
    have hp9 : prOf C B ((1 : Nat) : Int) = prOf C B 1 := rfl
    unfold after paid extra
    rw [hp9]
    split <;> split <;> omega
  have hout : (aftL C B 1).any outOf = false := by
    rw [List.any_eq_false]
    intro x hx
    simp only [aftL, List.mem_map] at hx
    obtain ⟨i, _, rfl⟩ := hx
    have := hab i
    rw [outOf, decide_eq_false (by omega), decide_eq_false (by omega)]
    exact Bool.false_ne_true
  have he : gvE C B 1 = 0 := gvE_ok (m := 1) (by exact_mod_cast hpc) hout
  have hfl := freeL_length (C := C) (B := B) (m := 1) (by omega)
  obtain ⟨y, hy⟩ := List.length_eq_one_iff.1 hfl
  have hmem : y ∈ freeL C B 1 := by rw [hy]; simp
  simp only [freeL, List.mem_map, List.mem_filter, List.mem_range, decide_eq_true_eq] at hmem
  obtain ⟨x, ⟨hx1, hx2⟩, hxy⟩ := hmem
  refine ⟨he, ⟨x, ?_, by omega, fun j hj => bid_le (C := C) hx1 (by omega) (by omega)⟩, ?_, ⟨by rw [aftL_length, hB], ?_, ?_⟩, ?_⟩
  · rw [gvF, if_pos he, show (1 : Int).toNat = 1 from rfl, hy, hxy]
  · rw [gvA, if_pos he, show (1 : Int).toNat = 1 from rfl]
  · exact aS_zero (m := 1) hvc (by rw [hB, h.len]) (by omega) hp0 hp1
  · intro z hz
    simp only [aftL, List.mem_map] at hz
    obtain ⟨i, _, rfl⟩ := hz
    exact hab i
  · intro j
    rw [aftL, ← List.map_take, List.take_range]
/-- sums, from the front -/
theorem sumI_take {L : List Int} {j : Nat} {x : Int} (h : L[j]? = some x) : sumI (L.take (j + 1)) = sumI (L.take j) + x := by
  rw [List.take_add_one, h, sumI_append]
  simp [sumI]
theorem sumI_bd {c : Int} (hc : 0 ≤ c) : ∀ {L : List Int}, (∀ x ∈ L, -c ≤ x ∧ x ≤ c) → -(c * L.length) ≤ sumI L ∧ sumI L ≤ c * L.length
  | [], _ => by simp [sumI]
  | x :: t, h => by
    have h1 := sumI_bd hc (L := t) fun y hy => h y (by simp [hy])
    have h2 := h x (by simp)
    have e : c * ((x :: t).length : Int) = c * (t.length : Int) + c := by rw [List.length_cons, Int.natCast_add, Int.mul_add]; simp
    rw [sumI, e]
    omega
end Go.Proofs.Ytkoipecnmijfoaa

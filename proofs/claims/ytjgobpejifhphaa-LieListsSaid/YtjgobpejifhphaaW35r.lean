import Derived.Test.YtjgobpejifhphaaW35q
/-! Walks of chapter 35: the reference's Rankings.
-/
namespace Go.Proofs.Ytjgobpejifhphaa
open Go.RowKit Go.Deep
set_option linter.unusedVariables false
set_option maxRecDepth 100000

/-- slices that are not empty lie from block Bn on -/
def LBv (Bn : Nat) (vs : List Value) : Prop := ∀ v ∈ vs, ∀ A n c, v = .slice A n c → 0 < n → ∀ p, A = some p → Bn ≤ p.block
theorem LBv.nil (Bn : Nat) : LBv Bn [] := by intro v hv; simp at hv
theorem LBv.append {Bn : Nat} {vs us : List Value} (h : LBv Bn vs) (h' : LBv Bn us) : LBv Bn (vs ++ us) := by
  intro v hv
  rcases List.mem_append.1 hv with hv | hv
  · exact h v hv
  · exact h' v hv
theorem LBv.mono {Bn Bm : Nat} {vs : List Value} (h : LBv Bn vs) (hm : Bm ≤ Bn) : LBv Bm vs := fun v hv A n c e hn p hp => Nat.le_trans hm (h v hv A n c e hn p hp)
theorem VRows.toN {w : World} {f : Value} {Bn : Nat} {vs : List Value} {F : List (List Int)} (h : VRows w vs F) (hl : LBv Bn vs) (hf : ∀ q, f.ownBlock = some q → q < Bn) : VRowsN w f vs F :=
  ⟨h.1, fun i L hi => by
    obtain ⟨A, c, h1, h2⟩ := h.2 i L hi
    refine ⟨A, c, h1, h2, fun h0 p hp hq => ?_⟩
    have := hl _ (List.mem_of_getElem? h1) A L.length c rfl h0 p hp
    have := hf _ hq
    omega⟩
/-- rows in the making -/
def RkRes (w : World) (Bn : Nat) (F : List (List Int)) (e : Ending) (w' : World) : Prop :=
  ∃ A c vs, e = .returned (.slice A F.length c) ∧ VRows w' vs F ∧ LBv Bn vs ∧ (A = none → F.length = 0) ∧ (∀ ad, A = some ad → ∀ j u, vs[j]? = some u → w'.cell? (ad.add j) = some u) ∧ Rd2 w' w'.heap.size A F ∧ Below w.heap.size w w'
theorem rk_of_row {w w' : World} {Bn base T c : Nat} {A : Option Addr} {F : List (List Int)} {vs : List Value} (ho : w'.ownsRow base T 1 (.slice A F.length c) F.length vs) (hv : VRows w' vs F) (hl : LBv Bn vs) (hF : F.length * 24 ≤ 140737488351232) (hb : Below w.heap.size w w') : RkRes w Bn F (.returned (.slice A F.length c)) w' := by
  refine ⟨A, c, vs, rfl, hv, hl, fun hA => ?_, fun ad hA j u hj => ?_, rd2_of_row ho hv hF, hb⟩
  · rcases Nat.eq_zero_or_pos F.length with h | h
    · exact h
    · obtain ⟨g, cap, e, _⟩ := ho.form h
      rw [hA] at e; cases e
  · have h0 : 0 < F.length := by
      have := (List.getElem?_eq_some_iff.1 hj).1
      rw [hv.1] at this; omega
    obtain ⟨g, cap, e, _⟩ := ho.form h0
    cases e
    cases hA
    exact ho.cells (g := g) rfl j u hj
theorem rkF_len (m : Nat) : ∀ (f : Nat) (b : List Int), (rkF m f b).length ≤ m ^ f
  | 0, b => by simp [rkF]
  | f + 1, b => by
    have key : ∀ G : List Nat, (G.flatMap fun (g : Nat) => if (b.any fun y => y == (g : Int)) = true then [] else rkF m f (b ++ [(g : Int)])).length ≤ G.length * m ^ f := by
      intro G
      induction G with
      | nil => simp
      | cons g t ih =>
        rw [List.flatMap_cons, List.length_append, List.length_cons, Nat.succ_mul]
        have h1 : (if (b.any fun y => y == (g : Int)) = true then [] else rkF m f (b ++ [(g : Int)])).length ≤ m ^ f := by
          split
          · simp
          · exact rkF_len m f _
        omega
    have := key (List.range m)
    rw [List.length_range] at this
    rw [rkF, Nat.pow_succ, Nat.mul_comm]
    exact this
def rkG (m f : Nat) (b : List Int) (k : Nat) : List (List Int) := (List.range k).flatMap fun (g : Nat) => if (b.any fun y => y == (g : Int)) = true then [] else rkF m f (b ++ [(g : Int)])
theorem rkG_succ (m f : Nat) (b : List Int) (k : Nat) : rkG m f b (k + 1) = rkG m f b k ++ if (b.any fun y => y == (k : Int)) = true then [] else rkF m f (b ++ [(k : Int)]) := by
  rw [rkG, List.range_succ, List.flatMap_append, rkG]; simp
theorem rkG_all (m f : Nat) (b : List Int) : rkG m f b m = rkF m (f + 1) b := rfl
theorem rkF_small {m f : Nat} (hm : m ≤ 6) (hf : f ≤ 6) (b : List Int) : (rkF m f b).length ≤ 46656 := by
  refine Nat.le_trans (rkF_len m f b) (Nat.le_trans (Nat.pow_le_pow_left hm f) ?_)
  exact Nat.le_trans (Nat.pow_le_pow_right (by decide) hf) (by decide)
theorem rkG_small {m f : Nat} (hm : m ≤ 6) (hf : f ≤ 6) (b : List Int) : ∀ k : Nat, (rkG m f b k).length ≤ k * 46656
  | 0 => by simp [rkG]
  | k + 1 => by
    rw [rkG_succ, List.length_append, Nat.succ_mul]
    have h1 := rkG_small hm hf b k
    have h2 : (if (b.any fun y => y == (k : Int)) = true then [] else rkF m f (b ++ [(k : Int)])).length ≤ 46656 := by
      split
      · simp
      · exact rkF_small hm hf _
    omega
theorem any_take_succ {b : List Int} {k : Nat} {x : Int} {p : Int → Bool} (h : b[k]? = some x) : (b.take (k + 1)).any p = ((b.take k).any p || p x) := by
  rw [takeA_succ h, List.any_append]; simp
theorem rd_none {w : World} {B : Nat} {A : Option Addr} {L : List Int} (h : Rd w B A L) (hA : A = none) : L.length = 0 := by
  rcases Nat.eq_zero_or_pos L.length with h0 | h0
  · exact h0
  · obtain ⟨b, off, e, _⟩ := h.2.2 h0
    rw [hA] at e; cases e
theorem rd_news {w : World} {B : Nat} {A : Option Addr} {L : List Int} (h : Rd w B A L) : ∀ ad, A = some ad → ∀ j u, (L.map (Value.int .i64))[j]? = some u → w.cell? (ad.add j) = some u := by
  intro ad hA j u hj
  have h0 : 0 < L.length := by
    have := (List.getElem?_eq_some_iff.1 hj).1
    simp at this; omega
  obtain ⟨b, off, e, hb, hc⟩ := h.2.2 h0
  rw [hA] at e
  cases e
  exact cells_ints hc j u hj
end Go.Proofs.Ytjgobpejifhphaa

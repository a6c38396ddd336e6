import Derived.Test.YtdkcpnmaglkmnaaS30f
/-! Plain law: the sides of a walk. No statement about the program. -/
namespace Go.Proofs.Ytdkcpnmaglkmnaa
set_option linter.unusedVariables false
variable {f : Int → Int → Bool}

theorem nxt_dir (s : St) : (nxt f s).d = (s.d + 1) % 4 ∨ (nxt f s).d = s.d ∨ (nxt f s).d = (s.d + 3) % 4 := by
  unfold nxt
  split
  · exact .inl rfl
  · split
    · exact .inr (.inl rfl)
    · exact .inr (.inr rfl)
theorem dir_cases {d : Nat} (h : d < 4) : (d = 0 ∧ dxI d = 1 ∧ dyI d = 0 ∧ cxI d = 0 ∧ cyI d = 0) ∨ (d = 1 ∧ dxI d = 0 ∧ dyI d = 1 ∧ cxI d = 1 ∧ cyI d = 0) ∨ (d = 2 ∧ dxI d = -1 ∧ dyI d = 0 ∧ cxI d = 1 ∧ cyI d = 1) ∨ (d = 3 ∧ dxI d = 0 ∧ dyI d = -1 ∧ cxI d = 0 ∧ cyI d = 1) := by
  have : d = 0 ∨ d = 1 ∨ d = 2 ∨ d = 3 := by omega
  rcases this with rfl | rfl | rfl | rfl <;> decide
theorem WalkOk.cX {W H : Nat} {s : St} {N : Nat} (h : WalkOk f W H s N) (k : Nat) : cornX (itN f (k + 1) s) = cornX (itN f k s) + dxI (itN f k s).d ∧ cornY (itN f (k + 1) s) = cornY (itN f k s) + dyI (itN f k s).d := corn_nxt (h.edge k)
theorem WalkOk.four {W H : Nat} {s : St} {N : Nat} (h : WalkOk f W H s N) : 4 ≤ N := by
  rcases Nat.lt_or_ge N 4 with hlt | hge
  · exfalso
    have hN := h.n0
    have hb := h.back
    have c0 := h.cX 0
    have c1 := h.cX 1
    have c2 := h.cX 2
    have e0 := (h.edge 0).d
    have e1 := (h.edge 1).d
    have e2 := (h.edge 2).d
    have d0 : (itN f 0 s).d = 0 := h.d0
    have n1 : (itN f 1 s).d = ((itN f 0 s).d + 1) % 4 ∨ (itN f 1 s).d = (itN f 0 s).d ∨ (itN f 1 s).d = ((itN f 0 s).d + 3) % 4 := nxt_dir _
    have z0 : itN f 0 s = s := rfl
    simp only [Nat.zero_add, show 1 + 1 = 2 by rfl, show 2 + 1 = 3 by rfl] at c0 c1 c2
    rw [d0] at n1 c0
    have q0 : dxI 0 = 1 := by decide
    have q1 : dyI 0 = 0 := by decide
    have h1 := dir_cases e1
    have h2 := dir_cases e2
    have hc : N = 1 ∨ N = 2 ∨ N = 3 := by omega
    rcases hc with rfl | rfl | rfl
    · rw [hb, z0] at c0; omega
    · rw [hb] at c1; rw [z0] at c0; omega
    · rw [hb] at c2; rw [z0] at c0; omega
  · exact hge
theorem pts_at {s : St} {N i : Nat} (hi : i < N) : (ptsK f s N)[i]? = some (cornX (itN f i s), cornY (itN f i s)) := by
  simp [ptsK, hi]
theorem WalkOk.pts_next {W H : Nat} {s : St} {N : Nat} (h : WalkOk f W H s N) {i : Nat} (hi : i < N) : (ptsK f s N)[(i + 1) % N]? = some (cornX (itN f (i + 1) s), cornY (itN f (i + 1) s)) := by
  by_cases h1 : i + 1 = N
  · have := h.back
    rw [h1, Nat.mod_self, pts_at h.n0, this]; rfl
  · rw [Nat.mod_eq_of_lt (by omega), pts_at (by omega)]
/-- a side of the walk -/
structure SideOk (f : Int → Int → Bool) (W H : Nat) (P : List (Int × Int)) (i j : Nat) (d : Nat) (ax ay : Int) : Prop where
  d4 : d < 4
  at_ : P[i]? = some (ax, ay)
  nx : P[j]? = some (ax + dxI d, ay + dyI d)
  x0 : 0 ≤ ax
  x1 : ax ≤ W
  y0 : 0 ≤ ay
  y1 : ay ≤ H
  l : f (ax - cxI d) (ay - cyI d) = true
  r : f (ax - cxI d + dxI ((d + 3) % 4)) (ay - cyI d + dyI ((d + 3) % 4)) = false
theorem WalkOk.side {W H : Nat} {s : St} {N : Nat} (h : WalkOk f W H s N) {i : Nat} (hi : i < N) : ∃ d ax ay, SideOk f W H (ptsK f s N) i ((i + 1) % N) d ax ay := by
  have hd := (h.edge i).d
  have hc := dir_cases hd
  obtain ⟨⟨b1, b2⟩, b3, b4⟩ := h.bd i
  have hx : cornX (itN f i s) - cxI (itN f i s).d = (itN f i s).x := by unfold cornX; omega
  have hy : cornY (itN f i s) - cyI (itN f i s).d = (itN f i s).y := by unfold cornY; omega
  refine ⟨(itN f i s).d, cornX (itN f i s), cornY (itN f i s), hd, pts_at hi, ?_, ?_, ?_, ?_, ?_, ?_, ?_⟩
  · rw [h.pts_next hi, (h.cX i).1, (h.cX i).2]
  · unfold cornX; omega
  · unfold cornX; omega
  · unfold cornY; omega
  · unfold cornY; omega
  · rw [hx, hy]; exact (h.edge i).l
  · rw [hx, hy]; exact (h.edge i).r
theorem WalkOk.once {W H : Nat} {s : St} {N : Nat} (h : WalkOk f W H s N) {i k : Nat} (hi : i < N) (hk : k < i) : ¬ ((ptsK f s N)[k]? = (ptsK f s N)[i]? ∧ (ptsK f s N)[k + 1]? = (ptsK f s N)[(i + 1) % N]?) := by
  rintro ⟨h1, h2⟩
  rw [pts_at (by omega), pts_at hi] at h1
  rw [pts_at (by omega), h.pts_next hi, (h.cX i).1, (h.cX i).2, (h.cX k).1, (h.cX k).2] at h2
  injection h1 with h1
  injection h1 with h1 h1'
  injection h2 with h2
  injection h2 with h2 h2'
  have hd : (itN f k s).d = (itN f i s).d := by
    have c1 := dir_cases (h.edge k).d
    have c2 := dir_cases (h.edge i).d
    omega
  have he := corner_inj h1 h1' hd
  have hb := itN_back h.e0 k (i - k) (by rw [show k + (i - k) = i by omega]; exact he)
  exact h.low (i - k) (by omega) (by omega) hb.symm
end Go.Proofs.Ytdkcpnmaglkmnaa

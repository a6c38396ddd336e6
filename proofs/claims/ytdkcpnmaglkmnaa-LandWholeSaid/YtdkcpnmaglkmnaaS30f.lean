import Derived.Test.YtdkcpnmaglkmnaaS30e
/-! Plain law: how the reference finds the next side. -/
namespace Go.Proofs.Ytdkcpnmaglkmnaa
set_option linter.unusedVariables false

/-- the side that begins at a corner in a direction belongs to the boundary -/
def edgeC (f : Int → Int → Bool) (X Y : Int) (D : Nat) : Bool := f (X - cxI D) (Y - cyI D) && !f (X - cxI D + dxI ((D + 3) % 4)) (Y - cyI D + dyI ((D + 3) % 4))
/-- the directions that are tried: left, straight on, right -/
def dTry (d j : Nat) : Nat := (d + 1 + 3 * j) % 4
theorem dTry_lt (d j : Nat) : dTry d j < 4 := Nat.mod_lt _ (by omega)
theorem dTry_next (d j : Nat) : (dTry d j + 3) % 4 = dTry d (j + 1) := by unfold dTry; omega
theorem edge_seq {f : Int → Int → Bool} {s : St} (h : Edge f s) : ∃ J, J ≤ 2 ∧ (∀ j, j < J → edgeC f (cornX s + dxI s.d) (cornY s + dyI s.d) (dTry s.d j) = false)
    ∧ edgeC f (cornX s + dxI s.d) (cornY s + dyI s.d) (dTry s.d J) = true ∧ (nxt f s).d = dTry s.d J := by
  obtain ⟨x, y, d⟩ := s
  have hd : d < 4 := h.d
  have hl : f x y = true := h.l
  have hr : f (x + dxI ((d + 3) % 4)) (y + dyI ((d + 3) % 4)) = false := h.r
  have q1 := corner_step hd
  have q2 := corner_right hd
  have q3 := d_two hd
  have t0 : dTry d 0 = (d + 1) % 4 := by unfold dTry; omega
  have t1 : dTry d 1 = d := by unfold dTry; omega
  have t2 : dTry d 2 = (d + 3) % 4 := by unfold dTry; omega
  have r0 : ((d + 1) % 4 + 3) % 4 = d := by omega
  have r2 : ((d + 3) % 4 + 3) % 4 = (d + 2) % 4 := by omega
  simp only [cornX, cornY]
  -- the three sides in question
  have e0 : edgeC f (x + cxI d + dxI d) (y + cyI d + dyI d) ((d + 1) % 4) = !f (x + dxI d) (y + dyI d) := by
    unfold edgeC
    rw [r0, show x + cxI d + dxI d - cxI ((d + 1) % 4) = x by omega, show y + cyI d + dyI d - cyI ((d + 1) % 4) = y by omega, hl, Bool.true_and]
  have e1 : edgeC f (x + cxI d + dxI d) (y + cyI d + dyI d) d = (f (x + dxI d) (y + dyI d) && !f (x + dxI d + dxI ((d + 3) % 4)) (y + dyI d + dyI ((d + 3) % 4))) := by
    unfold edgeC
    rw [show x + cxI d + dxI d - cxI d = x + dxI d by omega, show y + cyI d + dyI d - cyI d = y + dyI d by omega]
  have e2 : edgeC f (x + cxI d + dxI d) (y + cyI d + dyI d) ((d + 3) % 4) = f (x + dxI d + dxI ((d + 3) % 4)) (y + dyI d + dyI ((d + 3) % 4)) := by
    unfold edgeC
    rw [r2, show x + cxI d + dxI d - cxI ((d + 3) % 4) = x + dxI d + dxI ((d + 3) % 4) by omega, show y + cyI d + dyI d - cyI ((d + 3) % 4) = y + dyI d + dyI ((d + 3) % 4) by omega]
    rw [show x + dxI d + dxI ((d + 3) % 4) + dxI ((d + 2) % 4) = x + dxI ((d + 3) % 4) by omega, show y + dyI d + dyI ((d + 3) % 4) + dyI ((d + 2) % 4) = y + dyI ((d + 3) % 4) by omega, hr]
    simp
  by_cases h1 : f (x + dxI d) (y + dyI d) = true
  · by_cases h2 : f (x + dxI d + dxI ((d + 3) % 4)) (y + dyI d + dyI ((d + 3) % 4)) = true
    · refine ⟨2, by omega, ?_, by rw [t2, e2]; exact h2, ?_⟩
      · intro j hj
        have hc : j = 0 ∨ j = 1 := by omega
        rcases hc with rfl | rfl
        · rw [t0, e0, h1]; rfl
        · rw [t1, e1, h1, h2]; rfl
      · rw [nxt_right (s := ⟨x, y, d⟩) h1 h2, t2]
    · have h2' : f (x + dxI d + dxI ((d + 3) % 4)) (y + dyI d + dyI ((d + 3) % 4)) = false := by simpa using h2
      refine ⟨1, by omega, ?_, by rw [t1, e1, h1, h2']; rfl, ?_⟩
      · intro j hj
        obtain rfl : j = 0 := by omega
        rw [t0, e0, h1]; rfl
      · rw [nxt_on (s := ⟨x, y, d⟩) h1 h2', t1]
  · have h1' : f (x + dxI d) (y + dyI d) = false := by simpa using h1
    refine ⟨0, by omega, fun j hj => by omega, by rw [t0, e0, h1']; rfl, ?_⟩
    rw [nxt_left (s := ⟨x, y, d⟩) h1', t0]
/-- where the first parcel is -/
theorem fst_at {L : List Int} {a : Int} {i : Nat} (hi : i < L.length) (hx : L.getD i 0 = a) (hmin : ∀ j, j < i → L.getD j 0 ≠ a) : fst L a = i := by
  have hgi : L[i]? = some a := by
    rw [List.getD_eq_getElem?_getD, List.getElem?_eq_getElem hi] at hx
    rw [List.getElem?_eq_getElem hi]
    simpa using hx
  rcases fIdx_eq (p := fun x => a == x) (L := L) (k := 0) with h | ⟨j, hj, h1, ⟨x, hxj, hp⟩, h3⟩
  · have := fIdx_none (p := fun x => a == x) (by omega) h a (List.mem_of_getElem? hgi)
    simp at this
  · have hxa : a = x := by simpa using hp
    have hj2 : L.getD j 0 = a := by rw [List.getD_eq_getElem?_getD, hxj, hxa]; rfl
    have hij : j = i := by
      rcases Nat.lt_trichotomy j i with hlt | he | hgt
      · exact absurd hj2 (hmin j hlt)
      · exact he
      · have := h3 i hgt a hgi
        simp at this
    show fIdx _ L 0 = i
    rw [h1, hij]; omega
theorem fst_no {L : List Int} {a : Int} (h : ∀ j, j < L.length → L.getD j 0 ≠ a) : fst L a < 0 := by
  rcases fIdx_eq (p := fun x => a == x) (L := L) (k := 0) with h1 | ⟨j, hj, h1, ⟨x, hxj, hp⟩, h3⟩
  · show fIdx _ L 0 < 0; rw [h1]; decide
  · have hxa : a = x := by simpa using hp
    exact absurd (by rw [List.getD_eq_getElem?_getD, hxj, hxa]; rfl) (h j hj)
/-- a corner and a direction tell the side -/
theorem corner_inj {s t : St} (h1 : cornX s = cornX t) (h2 : cornY s = cornY t) (h3 : s.d = t.d) : s = t := by
  obtain ⟨x, y, d⟩ := s
  obtain ⟨x', y', d'⟩ := t
  simp only [cornX, cornY] at *
  subst h3
  exact st_eq (by omega) (by omega) rfl
end Go.Proofs.Ytdkcpnmaglkmnaa

import Derived.Test.YtjgobpejifhphaaBase2
import Derived.RangeFuncBox
import Derived.RangeFuncLeaves
import Derived.RangeFuncWrites
/-! A range over a function that yields one slice again and again, which it changes between the rounds. No statement about the program. -/
namespace Go.Proofs.Ytjgobpejifhphaa
open Go.RowKit
set_option linter.unusedVariables false

/-- how a round ends: the loop's own two blocks, the slice's block s + 2 and block m lie as they lay -/
def roundEnd (s m : Nat) (I : Nat → World → Prop) (k : Nat) (W : World) : Exit → Act → World → Prop
  | .normal, _, W' => W'.heap[s]? = W.heap[s]? ∧ W'.heap[s + 1]? = W.heap[s + 1]? ∧ W'.heap[s + 2]? = W.heap[s + 2]? ∧ W'.heap[m]? = W.heap[m]? ∧ I (k + 1) W'
  | _, _, _ => False
/-- the function that yields: with whatever the caller knows of the world when k rounds are over, as long as it does not look at block s + 2 -/
def YieldsRow (P : Program) (gf : Nat) (lb : Array Value) (s m T len cap : Nat) (RK : List (List Int)) (w : World) : Prop :=
  ∀ (l : Nat) (J : Nat → World → Prop) (W : World), Below s w W → W.heap.size = s + 2 → (∀ k A B, J k A → A.grownBy B (some (s + 2)) → J k B) →
    (∀ k x A, RK[k]? = some x → J k A → Own A (s + 2) T x → YieldAt Fence.wide 3 P l #[.slice (some ⟨s + 2, 0, none⟩) len cap] A fun e B => e = .returned (.bool true) ∧ J (k + 1) B ∧ Own B (s + 2) T x ∧ B.heap[m]? = A.heap[m]?) → J 0 W →
    Calls P gf (#[.func (.yield l) #[] #[]] ++ lb) W fun e W' => (∃ v, e = .returned v) ∧ J RK.length W'
theorem heap_lt' {w : World} {g : Nat} {o : Obj} (h : w.heap[g]? = some o) : g < w.heap.size := (Array.getElem?_eq_some_iff.1 h).1
theorem grown_put {W : World} {l : Nat} (o : Obj) : W.grownBy (W.putObj l o) (some l) := grownBy_putObj' W l o
theorem rangeRow {P : Program} {g : Operand} {ps : Array Tmp} {assign body : Code} {Q : Exit → Act → World → Prop} {a : Act} {w : World} {n gf m T len cap : Nat} {lb : Array Value} {RK : List (List Int)}
    (hg : a.eval g = .func (.func gf) #[] lb) (eg : ∀ args w, (callFunc gf args).run P w = .ok (.enter gf args) w) (hps : ps.size = 1) (hm : m < w.heap.size)
    (hit : YieldsRow P gf lb w.heap.size m T len cap RK w)
    (I : Nat → World → Prop) (hI : ∀ k A B r, I k A → A.grownBy B (some r) → w.heap.size ≤ r → r ≤ w.heap.size + 2 → I k B) (h0 : I 0 w) (a₁ : Act)
    (hassign : ∀ (l : Nat) (W : World) (K : Act → World → Prop), K a₁ W →
      assign.wpIn (Fence.wide.inRound l) 3 P (Exit.then K (fun _ _ _ => False)) { tmps := (ps.zip #[.slice (some ⟨w.heap.size + 2, 0, none⟩) len cap]).foldl (fun t (p, v) => t.setIfInBounds p v) a.tmps, defers := [] } W)
    (hbody : ∀ (l k : Nat) (x : List Int) (W : World), RK[k]? = some x → I k W → Own W (w.heap.size + 2) T x → body.wpIn (Fence.wide.inRound l) 3 P (roundEnd w.heap.size m I k W) a₁ W)
    (hdone : ∀ W, I RK.length W → W.heap[w.heap.size]? = some (.deferred (some [])) → Q .normal { a with defers := { target := .collected w.heap.size, args := #[] } :: a.defers } W) :
    (Code.rangeFunc g ps assign body).wpIn Fence.wide n P Q a w := by
  refine wpIn_rangeFunc fun fn hfn => ?_
  -- the record of the loop, in a state st
  generalize hs : w.heap.size = s at *
  obtain ⟨rec, hrec⟩ : ∃ rec : LoopState → Loop, rec = fun st => { state := st, pending := none, fn, tmps := a.tmps, params := ps, assign, body, defers := s } := ⟨_, rfl⟩
  obtain ⟨u, hu⟩ : ∃ u, u = (w.alloc (.deferred (some []))).alloc (.loop (rec .ready)) := ⟨_, rfl⟩
  have us : u.heap.size = s + 2 := by rw [hu]; simp [hs]
  have u0 : u.heap[s]? = some (.deferred (some [])) := by
    rw [hu, Below.heap_alloc _ _ _ (by simp [hs]), ← hs]; exact World.alloc_heap_new _ _
  have u1 : u.heap[s + 1]? = some (.loop (rec .ready)) := by
    have := World.alloc_heap_new (w.alloc (.deferred (some []))) (.loop (rec .ready))
    rw [World.size_alloc, hs] at this
    rw [hu]; exact this
  have ub : Below s w u := by
    rw [hu]; exact ((Below.refl _ w).alloc (by omega) _).alloc (by simp [hs]) _
  have ug : w.grownBy u (some s) := by
    refine ⟨ub.os, ub.tape, ub.output, by omega, fun k hk _ => ub.block k (by omega)⟩
  let J : Nat → World → Prop := fun k W => I k W ∧ W.heap[s + 1]? = some (.loop (rec .ready)) ∧ W.heap[s]? = some (.deferred (some []))
  refine ⟨s + 1, [{ target := .collected s, args := #[] }], u, { target := .fn (.func gf) lb, args := #[.func (.yield (s + 1)) #[] #[]] }, u, gf, #[.func (.yield (s + 1)) #[] #[]] ++ lb, u, ?_, ?_, fun _ _ => trivial, ?_, fun h => by simp [Fence.wide] at h, ?_⟩
  · rw [hu, hrec, ← hs]; exact run_enterLoop_outer _ _ _ _ _
  · simp only [resolve, hg]
    simp [go_sem]
  · simp [invoke, go_sem, eg]
  · refine (callsIn_wide.2 (hit (s + 1) J u ub us ?_ ?_ ⟨hI 0 w u s h0 ug (Nat.le_refl _) (by omega), u1, u0⟩)).mono ?_
    · rintro k A B ⟨h1, h2, h3⟩ hgr
      exact ⟨hI k A B _ h1 hgr (by omega) (Nat.le_refl _), (hgr.block _ (heap_lt' h2) (by simp)).trans h2, (hgr.block _ (heap_lt' h3) (by simp)).trans h3⟩
    · rintro k x A hx ⟨h1, h2, h3⟩ ho
      have hy := run_yield (P := P) (args := #[.slice (some ⟨s + 2, 0, none⟩) len cap]) h2 (by rw [hrec, hps]; rfl)
      rw [hrec] at hy
      obtain ⟨A2, hA2⟩ : ∃ A2, A2 = A.putObj (s + 1) (.loop { rec .ready with state := .busy }) := ⟨_, rfl⟩
      have g2 : A.grownBy A2 (some (s + 1)) := by rw [hA2]; exact grown_put _
      have b1 : A2.heap[s + 1]? = some (.loop { rec .ready with state := .busy }) := by rw [hA2]; exact World.putObj_heap_same (heap_lt' h2)
      have b0 : A2.heap[s]? = some (.deferred (some [])) := (g2.block _ (heap_lt' h3) (by simp)).trans h3
      have o2 : Own A2 (s + 2) T x := ho.grown g2 (by simp)
      have hbg := run_beginRound (P := P) h2 (by rw [hrec])
      rw [← hA2] at hbg
      have key : ∀ W', roundEnd s m I k A2 .normal a₁ W' → ∃ v B, (Instr.endRound (s + 1) none).run P W' = .ok v B ∧ (Ending.returned v = .returned (.bool true) ∧ J (k + 1) B ∧ Own B (s + 2) T x ∧ B.heap[m]? = A.heap[m]?) := by
        rintro W' ⟨e0, e1, e2, e3, e4⟩
        have l1 := e1.trans b1
        have hend := run_endRound (P := P) none l1
        obtain ⟨B, hB⟩ : ∃ B, B = W'.putObj (s + 1) (.loop (rec .ready)) := ⟨_, rfl⟩
        have gB : W'.grownBy B (some (s + 1)) := by rw [hB]; exact grown_put _
        refine ⟨_, B, ?_, rfl, ⟨hI _ W' B _ e4 gB (by omega) (by omega), ?_, ?_⟩, ?_, ?_⟩
        · rw [hend, hB, hrec]; rfl
        · rw [hB]; exact World.putObj_heap_same (heap_lt' l1)
        · exact ((gB.block _ (heap_lt' (e0.trans b0)) (by simp)).trans e0).trans b0
        · have : Own W' (s + 2) T x := e2.trans o2
          exact this.grown gB (by simp)
        · have hml : m < W'.heap.size := by have := heap_lt' l1; omega
          have hma : m < A.heap.size := by have := heap_lt' h2; omega
          exact ((gB.block m hml (by simp; omega)).trans e3).trans (g2.block m hma (by simp; omega))
      refine ⟨fn, _, assign, body, hy, roundIn_of_wpIn trivial (hassign _ A _ ⟨A2, hbg, wpIn_mono (hbody _ k x A2 hx (hI _ A A2 _ h1 g2 (by omega) (by omega)) o2) ?_⟩)⟩
      intro e a3 W3 hp
      cases e with
      | normal => exact key W3 hp
      | ret => exact hp.elim
      | exit id => exact hp.elim
      | goto t => exact hp.elim
      | panic c => exact hp.elim
      | outgrown => exact hp.elim
    · rintro e W2 ⟨⟨v, rfl⟩, h1, h2, h3⟩
      have hend := run_endLoop (P := P) h2 (by rw [hrec]; simp)
      obtain ⟨B, hB⟩ : ∃ B, B = W2.putObj (s + 1) (.loop { rec .ready with state := .exhausted }) := ⟨_, rfl⟩
      have gB : W2.grownBy B (some (s + 1)) := by rw [hB]; exact grown_put _
      refine ⟨none, B, ?_, ?_⟩
      · rw [hend, hB, hrec]
      · exact hdone B (hI _ W2 B _ h1 gB (by omega) (by omega)) ((gB.block _ (heap_lt' h3) (by simp)).trans h3)
end Go.Proofs.Ytjgobpejifhphaa

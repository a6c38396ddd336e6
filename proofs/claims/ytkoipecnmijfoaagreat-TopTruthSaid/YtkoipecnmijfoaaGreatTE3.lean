import Derived.Test.YtkoipecnmijfoaaGreatTE2
/-! Walks of the estate of two heirs and one item: pool, exact, Exact. -/
namespace Go.Proofs.YtkoipecnmijfoaaGreat
open Go.RowKit Go.Deep
set_option linter.unusedVariables false
set_option maxRecDepth 100000

theorem mulB {a b A B : Int} (h1 : -A ≤ a) (h2 : a ≤ A) (h3 : -B ≤ b) (h4 : b ≤ B) : -(A * B) ≤ a * b ∧ a * b ≤ A * B := by
  have hA : a.natAbs ≤ A.toNat := by omega
  have hB : b.natAbs ≤ B.toNat := by omega
  have h := Nat.mul_le_mul hA hB
  rw [← Int.natAbs_mul] at h
  have e : ((A.toNat * B.toNat : Nat) : Int) = A * B := by
    rw [Int.natCast_mul, Int.toNat_of_nonneg (by omega), Int.toNat_of_nonneg (by omega)]
  have h5 : ((a * b).natAbs : Int) ≤ A * B := by rw [← e]; exact Int.ofNat_le.2 h
  omega
/-- the pool, and the exact payments -/
def poolE (s x y : Int) : Int := (s + s) * (wOne x y + wTwo x y) - (s * x + s * y)
def exE (s x y c v : Int) : Int := (s + s) * (c - (s + s) * v) + s * poolE s x y
def eOne (s x y : Int) : Int := exE s x y (s * x) (wOne x y)
def eTwo (s x y : Int) : Int := exE s x y (s * y) (wTwo x y)
structure Two (s x y : Int) : Prop where
  s1 : 1 ≤ s
  s2 : s ≤ 500
  x0 : 0 ≤ x
  x1 : x ≤ 1000000
  y0 : 0 ≤ y
  y1 : y ≤ 1000000
theorem Two.sx {s x y : Int} (h : Two s x y) : 0 ≤ s * x ∧ s * x ≤ 500000000 := by
  have := mulB (a := s) (b := x) (A := 500) (B := 1000000) (by have := h.s1; omega) h.s2 (by have := h.x0; omega) h.x1
  exact ⟨Int.mul_nonneg (by have := h.s1; omega) h.x0, by omega⟩
theorem Two.sy {s x y : Int} (h : Two s x y) : 0 ≤ s * y ∧ s * y ≤ 500000000 := by
  have := mulB (a := s) (b := y) (A := 500) (B := 1000000) (by have := h.s1; omega) h.s2 (by have := h.y0; omega) h.y1
  exact ⟨Int.mul_nonneg (by have := h.s1; omega) h.y0, by omega⟩
theorem Two.w {s x y : Int} (h : Two s x y) : 0 ≤ wOne x y ∧ wOne x y ≤ 1000000 ∧ 0 ≤ wTwo x y ∧ wTwo x y ≤ 1000000 ∧ wOne x y + wTwo x y ≤ 1000000 := by
  have := h.x0; have := h.x1; have := h.y0; have := h.y1
  unfold wOne wTwo
  split <;> omega
theorem Two.mul {s x y : Int} (h : Two s x y) {v : Int} (h0 : -1000000 ≤ v) (h1 : v ≤ 1000000) : -1000000000 ≤ (s + s) * v ∧ (s + s) * v ≤ 1000000000 := by
  have := mulB (a := s + s) (b := v) (A := 1000) (B := 1000000) (by have := h.s1; omega) (by have := h.s2; omega) (by omega) h1
  omega
theorem Two.pool {s x y : Int} (h : Two s x y) : -2000000000 ≤ poolE s x y ∧ poolE s x y ≤ 2000000000 := by
  have h1 := h.w; have h2 := h.sx; have h3 := h.sy
  have h4 := h.mul (v := wOne x y + wTwo x y) (by omega) (by omega)
  unfold poolE; omega
theorem Two.spool {s x y : Int} (h : Two s x y) : -1000000000000 ≤ s * poolE s x y ∧ s * poolE s x y ≤ 1000000000000 := by
  have h1 := h.pool
  have := mulB (a := s) (b := poolE s x y) (A := 500) (B := 2000000000) (by have := h.s1; omega) h.s2 (by omega) h1.2
  omega
theorem Two.in_ {s x y : Int} (h : Two s x y) {c v : Int} (c0 : 0 ≤ c) (c1 : c ≤ 500000000) (v0 : 0 ≤ v) (v1 : v ≤ 1000000) : -2000000000000 ≤ (s + s) * (c - (s + s) * v) ∧ (s + s) * (c - (s + s) * v) ≤ 2000000000000 := by
  have h1 := h.mul (v := v) (by omega) v1
  have := mulB (a := s + s) (b := c - (s + s) * v) (A := 1000) (B := 2000000000) (by have := h.s1; omega) (by have := h.s2; omega) (by omega) (by omega)
  omega
/-- an estate that is reckoned -/
structure RkF (u : World) (B g bS oS cs gw cw gc cc : Nat) (s x y : Int) : Prop where
  c0 : u.cell? ⟨g, 0, none⟩ = some (.slice (some ⟨bS, oS, none⟩) 2 cs)
  c2 : u.cell? ⟨g, 2, none⟩ = some (.int .i64 (s + s))
  c4 : u.cell? ⟨g, 4, none⟩ = some (.slice (some ⟨gw, 0, none⟩) 2 cw)
  c5 : u.cell? ⟨g, 5, none⟩ = some (.slice (some ⟨gc, 0, none⟩) 2 cc)
  lt : g < B
  sh : Rd u B (some ⟨bS, oS, none⟩) [s, s]
  wo : Rd u B (some ⟨gw, 0, none⟩) [wOne x y, wTwo x y]
  cl : Rd u B (some ⟨gc, 0, none⟩) [s * x, s * y]
theorem RkF.below {u u' : World} {B g bS oS cs gw cw gc cc : Nat} {s x y : Int} (h : RkF u B g bS oS cs gw cw gc cc s x y) {C : Nat} (hb : Below C u u') (hC : B ≤ C) : RkF u' B g bS oS cs gw cw gc cc s x y :=
  have hl := h.lt
  ⟨(cell_below hb (by omega)).trans h.c0, (cell_below hb (by omega)).trans h.c2, (cell_below hb (by omega)).trans h.c4, (cell_below hb (by omega)).trans h.c5, hl, h.sh.below hb hC, h.wo.below hb hC, h.cl.below hb hC⟩
set_option maxHeartbeats 1000000 in
theorem ePool {u : World} {B g bS oS cs gw cw gc cc : Nat} {s x y : Int} (h : RkF u B g bS oS cs gw cw gc cc s x y) (h2 : Two s x y) :
    Calls Tryz.prog 79 #[.pointer (some ⟨g, 0, none⟩)] u fun e u' => e = .returned (.int .i64 (poolE s x y)) ∧ ∃ m, u' = u.drewN m := by
  have hw := h2.w; have hx := h2.sx; have hy := h2.sy
  have hm := h2.mul (v := wOne x y + wTwo x y) (by omega) (by omega)
  have hc2 := h.c2; have hc4 := h.c4; have hc5 := h.c5
  have C1 : Hid (∀ n, Calls Tryz.prog 39 #[.slice (some ⟨gw, 0, none⟩) 2 cw] (u.drewN n) fun e u' => e = .returned (.int .i64 (wOne x y + wTwo x y)) ∧ u' = u.drewN n) := Lib.hid fun n => by
    have := eSum (cap := cw) (h.wo.below (below_drewN (Below.refl B u) n) (Nat.le_refl _)) (by simp) (fun z hz => by simp at hz; omega)
    rw [show sumL [wOne x y, wTwo x y] = wOne x y + wTwo x y by simp [sumL]] at this
    exact this.mono fun _ _ h => ⟨h.1, h.2.symm⟩
  have C2 : Hid (∀ n, Calls Tryz.prog 39 #[.slice (some ⟨gc, 0, none⟩) 2 cc] (u.drewN n) fun e u' => e = .returned (.int .i64 (s * x + s * y)) ∧ u' = u.drewN n) := Lib.hid fun n => by
    have := eSum (cap := cc) (h.cl.below (below_drewN (Below.refl B u) n) (Nat.le_refl _)) (by simp) (fun z hz => by simp at hz; omega)
    rw [show sumL [s * x, s * y] = s * x + s * y by simp [sumL]] at this
    exact this.mono fun _ _ h => ⟨h.1, h.2.symm⟩
  have hcb : 0 ≤ s * x + s * y ∧ s * x + s * y ≤ 1000000000 := by omega
  have HP : Hid (poolE s x y = (s + s) * (wOne x y + wTwo x y) - (s * x + s * y)) := Lib.hid rfl
  generalize wOne x y + wTwo x y = v at *
  generalize s * x + s * y = c at *
  have e1 : IntKind.i64.wrap ((s + s) * v) = (s + s) * v := IntWalk.i64_in _ (by omega)
  have e2 : IntKind.i64.wrap ((s + s) * v - c) = (s + s) * v - c := IntWalk.i64_in _ (by omega)
  clear h h2 hw hx hy hm
  go_enter Tryz.func79, Tryz.ntmps79
  go_wp2
  go_quiet (first | (go_at_call 39; with_reducible exact Calls.quiet_of_same (C1.out _)) | (go_at_call 39; with_reducible exact Calls.quiet_of_same (C2.out _)))
  go_wp2
  go_ret
  exact ⟨ret_int HP.out.symm, _, rfl⟩
set_option maxHeartbeats 1000000 in
theorem eExact1 {u : World} {B g bS oS cs gw cw gc cc : Nat} {s x y : Int} (h : RkF u B g bS oS cs gw cw gc cc s x y) (h2 : Two s x y) {i : Nat} {c v : Int} (hi : i < 2) (hc : [s * x, s * y][i]? = some c) (hv : [wOne x y, wTwo x y][i]? = some v) :
    Calls Tryz.prog 65 #[.pointer (some ⟨g, 0, none⟩), .int .i64 (i : Int)] u fun e u' => e = .returned (.int .i64 (exE s x y c v)) ∧ ∃ m, u' = u.drewN m := by
  have hw := h2.w; have hx := h2.sx; have hy := h2.sy
  have hcb : 0 ≤ c ∧ c ≤ 500000000 := by
    have := List.mem_of_getElem? hc
    simp at this
    rcases this with rfl | rfl <;> omega
  have hvb : 0 ≤ v ∧ v ≤ 1000000 := by
    have := List.mem_of_getElem? hv
    simp at this
    rcases this with rfl | rfl <;> omega
  have hm := h2.mul (v := v) (by omega) hvb.2
  have hin := h2.in_ hcb.1 hcb.2 hvb.1 hvb.2
  have hpl := h2.pool
  have hsp := h2.spool
  have hc0 := h.c0; have hc2 := h.c2; have hc4 := h.c4; have hc5 := h.c5
  obtain ⟨_, _, s', e1, _, hs', _, k1⟩ := h.sh.at_ (k := i) hi
  cases e1
  obtain rfl : s = s' := by
    match i, hi, hs' with
    | 0, _, hs' => simpa using hs'
    | 1, _, hs' => simpa using hs'
  obtain ⟨_, _, v', e1, _, hv', _, k2⟩ := h.wo.at_ (k := i) hi
  cases e1
  rw [hv] at hv'
  obtain rfl : v = v' := Option.some.inj hv'
  obtain ⟨_, _, c', e1, _, hc', _, k3⟩ := h.cl.at_ (k := i) hi
  cases e1
  rw [hc] at hc'
  obtain rfl : c = c' := Option.some.inj hc'
  rw [Nat.zero_add] at k2 k3
  have CP : Hid (∀ n, Calls Tryz.prog 79 #[.pointer (some ⟨g, 0, none⟩)] (u.drewN n) fun e u' => e = .returned (.int .i64 (poolE s x y)) ∧ ∃ m, u' = (u.drewN n).drewN m) := Lib.hid fun n => ePool (h.below (below_drewN (Below.refl B u) n) (Nat.le_refl _)) h2
  have HP : Hid (exE s x y c v = (s + s) * (c - (s + s) * v) + s * poolE s x y) := Lib.hid rfl
  generalize poolE s x y = pl at *
  have hi2 : (i : Int) < 2 := by omega
  have w1 : IntKind.i64.wrap ((s + s) * v) = (s + s) * v := IntWalk.i64_in _ (by omega)
  have w2 : IntKind.i64.wrap (c - (s + s) * v) = c - (s + s) * v := IntWalk.i64_in _ (by omega)
  have w3 : IntKind.i64.wrap ((s + s) * (c - (s + s) * v)) = (s + s) * (c - (s + s) * v) := IntWalk.i64_in _ (by omega)
  have w4 : IntKind.i64.wrap (s * pl) = s * pl := IntWalk.i64_in _ (by omega)
  have w5 : IntKind.i64.wrap ((s + s) * (c - (s + s) * v) + s * pl) = (s + s) * (c - (s + s) * v) + s * pl := IntWalk.i64_in _ (by omega)
  clear h hs' hv' hc' hc hv hm hin hpl hsp hw hx hy hcb hvb h2
  go_enter Tryz.func65, Tryz.ntmps65
  go_wp2
  go_quiet ((go_at_call 79; exact Calls.quiet_of (CP.out _)))
  go_wp2
  go_ret
  exact ⟨ret_int HP.out.symm, _, rfl⟩
set_option maxHeartbeats 1000000 in
theorem eExact {w : World} {B C : Nat} {AS AB : Option Addr} {s x y : Int} {cs cb : Nat} (hS : Rd w B AS [s, s]) (hR : Rd2 w C AB [[x], [y]]) (hB : B ≤ w.heap.size) (hC : C ≤ w.heap.size) (h2 : Two s x y) :
    Calls Tryz.prog 38 #[.agg #[.slice AS 2 cs, .slice AB 2 cb]] w fun e w' => ∃ g, e = .returned (.tuple #[.slice (some ⟨g, 0, none⟩) 2 2, .int .i64 0]) ∧ Own w' g 3 [eOne s x y, eTwo s x y] ∧ Below w.heap.size w w' := by
  have hal := (Below.refl w.heap.size w).alloc (Nat.le_refl _) (.cells #[.slice AS 2 cs, .slice AB 2 cb] 41)
  have hK : Blk (w.alloc (.cells #[.slice AS 2 cs, .slice AB 2 cb] 41)) w.heap.size 41 [.slice AS 2 cs, .slice AB 2 cb] := Blk.new _ _ _
  have hc0 := hK.cell (i := 0) rfl
  have hc1 := hK.cell (i := 1) rfl
  have HK := Lib.hid hK
  have HAL := Lib.hid hal
  have HS := Lib.hid fun (u : World) (hu : Below w.heap.size w u) => hS.below hu hB
  have HR := Lib.hid fun (u : World) (hu : Below w.heap.size w u) => hR.below hu hC
  have H2 := Lib.hid h2
  obtain ⟨bS, oS, rfl, hbS, _⟩ := hS.2.2 (by simp)
  have hsz : (w.alloc (.cells #[.slice (some ⟨bS, oS, none⟩) 2 cs, .slice AB 2 cb] 41)).heap.size = w.heap.size + 1 := by simp
  have HSZ := Lib.hid hsz
  have C1 := Lib.hid (eCheck (cs := cs) (cb := cb) (HS.out _ hal) (HR.out _ hal) (by rw [hsz]; omega) (by rw [hsz]; omega) h2.s1 h2.s2 ⟨h2.x0, h2.x1⟩ ⟨h2.y0, h2.y1⟩)
  have C2 := Lib.hid fun (u : World) (hu : Below w.heap.size w u) => eReckon (cs := cs) (cb := cb) (HS.out u hu) (HR.out u hu) (Nat.le_trans hB hu.size) (Nat.le_trans hC hu.size) h2.s1 h2.s2 ⟨h2.x0, h2.x1⟩ ⟨h2.y0, h2.y1⟩
  have hmk2 : ∀ u : World, (Instr.makeSlice 22 (.int .i64 2) (.int .i64 2)).run Tryz.prog u = .ok (.slice (some ⟨u.heap.size, 0, none⟩) 2 2) (u.alloc (.cells #[.int .i64 0, .int .i64 0] 3)) := fun u => by kernel_rfl
  clear hS hR hK hal hsz h2
  go_enter Tryz.func38, Tryz.ntmps38
  go_wp2_with fail
  generalize w.alloc (.cells #[.slice (some ⟨bS, oS, none⟩) 2 cs, .slice AB 2 cb] 41) = w1 at *
  refine C1.out.mono ?_
  rintro e w2 ⟨rfl, hb2⟩
  have HB2 := Lib.hid (HAL.out.trans (hb2.mono HAL.out.size))
  have HK2 := Lib.hid (HK.out.below hb2 HK.out.lt)
  clear hc0 hc1 hb2 C1 HK HAL HSZ
  have hc0 := HK2.out.cell (i := 0) rfl
  have hc1 := HK2.out.cell (i := 1) rfl
  go_wp2_with fail
  refine (C2.out _ HB2.out).mono ?_
  rintro e w3 ⟨g, gw, cw, gc, cc, rfl, r0, r2, r4, r5, rl, rw, rc, hb3⟩
  have HB3 := Lib.hid (HB2.out.trans (hb3.mono HB2.out.size))
  have HK3 := Lib.hid (HK2.out.below hb3 HK2.out.lt)
  have RK : RkF w3 w3.heap.size g bS oS cs gw cw gc cc s x y := ⟨r0, r2, r4, r5, rl, (HS.out _ HB3.out).more (Nat.le_trans hB HB3.out.size), rw, rc⟩
  have HRK := Lib.hid RK
  clear hc0 hc1 r0 r2 r4 r5 rl rw rc hb3 HK2 HB2 C2 RK
  have hc0 := HK3.out.cell (i := 0) rfl
  have hown : Own (w3.alloc (.cells #[.int .i64 0, .int .i64 0] 3)) w3.heap.size 3 [0, 0] := heap_alloc_new w3 _
  have HOW := Lib.hid hown
  have HBA := Lib.hid ((Below.refl w3.heap.size w3).alloc (Nat.le_refl _) (.cells #[.int .i64 0, .int .i64 0] 3))
  clear hown
  go_wp2_with fail
  generalize hw4 : w3.alloc (.cells #[.int .i64 0, .int .i64 0] 3) = w4 at *
  clear hw4 hc0
  go_loopw [21] (fun iv wr => ∃ (k : Nat) (D : List Int), k ≤ 2 ∧ iv = .int .i64 k ∧ Hid (Own wr w3.heap.size 3 D) ∧ Hid (D.length = 2 ∧ (1 ≤ k → D[0]? = some (eOne s x y)) ∧ (2 ≤ k → D[1]? = some (eTwo s x y))) ∧ Hid (Below w3.heap.size w3 wr)) (fun iv _ => 2 - (intOf iv).toNat)
  case atStart => exact ⟨0, [0, 0], by omega, rfl, HOW, Lib.hid ⟨rfl, by omega, by omega⟩, HBA⟩
  case round =>
    obtain ⟨k, D, hk, rfl, hO, hD, hb⟩ := hrel
    by_cases hlt : k < 2
    · obtain ⟨c, v, hcv, hvv, hE⟩ : ∃ c v, [s * x, s * y][k]? = some c ∧ [wOne x y, wTwo x y][k]? = some v ∧ ((k = 0 → exE s x y c v = eOne s x y) ∧ (k = 1 → exE s x y c v = eTwo s x y)) := by
        have hk' : k = 0 ∨ k = 1 := by omega
        rcases hk' with rfl | rfl
        · exact ⟨_, _, rfl, rfl, fun _ => rfl, by omega⟩
        · exact ⟨_, _, rfl, rfl, by omega, fun _ => rfl⟩
      have CE := eExact1 (HRK.out.below hb.out (Nat.le_refl _)) H2.out hlt hcv hvv
      have HE := Lib.hid hE
      have HCE := Lib.hid CE
      clear hE CE hcv hvv
      generalize exE s x y c v = ev at *
      go_wp2_with fail
      refine HCE.out.mono ?_
      rintro e wq ⟨rfl, nq, rfl⟩
      have hO2 := hO.out.drewN nq
      obtain ⟨d, hd⟩ : ∃ d, D[k]? = some d := ⟨D[k]'(by have := hD.out.1; omega), by simp⟩
      have hcd := hO2.cell hd
      have hfd := hO2.frozen k
      have HN := Lib.hid (hO2.store k ev)
      have HBN := Lib.hid ((below_drewN hb.out nq).setCell (p := ⟨w3.heap.size, k, none⟩) (Nat.le_refl _) (.int .i64 ev))
      have HDN : Hid ((D.set k ev).length = 2 ∧ (1 ≤ k + 1 → (D.set k ev)[0]? = some (eOne s x y)) ∧ (2 ≤ k + 1 → (D.set k ev)[1]? = some (eTwo s x y))) := Lib.hid (by
        obtain ⟨d1, d2, d3⟩ := hD.out
        refine ⟨by rw [List.length_set]; exact d1, fun _ => ?_, fun _ => ?_⟩
        · by_cases h0 : k = 0
          · rw [h0, List.getElem?_set_self (by omega), ← HE.out.1 h0]
          · rw [List.getElem?_set_ne (by omega)]; exact d2 (by omega)
        · have h1 : k = 1 := by omega
          rw [h1, List.getElem?_set_self (by omega), ← HE.out.2 h1])
      have hk2 : (k : Int) < 2 := by omega
      clear hO2 hd HCE hD hO hb
      generalize wr.drewN nq = wq at *
      go_wp2
      go_roundw
      case rel => exact ⟨k + 1, _, by omega, by go_num, HN, HDN, HBN⟩
      case measure => simp [intOf]; omega
    · obtain rfl : k = 2 := by omega
      have hDe : D = [eOne s x y, eTwo s x y] := by
        obtain ⟨d1, d2, d3⟩ := hD.out
        match D, d1 with
        | [a, b], _ =>
          have := d2 (by omega); have := d3 (by omega)
          simp_all
      have HDE := Lib.hid hDe
      clear hDe hD
      go_wp2
      go_ret2
      exact ⟨_, rfl, by rw [← HDE.out]; exact hO.out, HB3.out.trans (hb.out.mono HB3.out.size)⟩
end Go.Proofs.YtkoipecnmijfoaaGreat

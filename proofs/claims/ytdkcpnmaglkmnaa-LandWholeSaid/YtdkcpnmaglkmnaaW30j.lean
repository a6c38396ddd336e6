import Derived.Test.YtdkcpnmaglkmnaaS30e
import Derived.WalkMore
import Derived.Deep.LoopGhost
/-! Walks of chapter 30: the program's Walk. -/
namespace Go.Proofs.Ytdkcpnmaglkmnaa
open Go.RowKit Go.Deep
set_option linter.unusedVariables false
set_option maxRecDepth 100000

def PtsRes (w : World) (P : List (Int × Int)) (c : Int) (e : Ending) (w' : World) : Prop :=
  ∃ A cap, e = .returned (.tuple #[.slice A P.length cap, .int .i64 c]) ∧ RdP w' w'.heap.size A P ∧ Below w.heap.size w w'
theorem infoPt : (Try.prog.info? 62).map (fun i => (i.zero, i.size, i.bytes)) = some (some (.agg #[.int .i64 0, .int .i64 0]), 2, 16) := by kernel_rfl

theorem two_set {w : World} {g T : Nat} {px py : Int} (h : w.heap[g]? = some (.cells #[.int .i64 px, .int .i64 py] T (0, 0))) (X Y : Int) :
    ((w.setCell ⟨g, 0, none⟩ (.int .i64 X)).setCell ⟨g, 1, none⟩ (.int .i64 Y)).heap[g]? = some (.cells #[.int .i64 X, .int .i64 Y] T (0, 0))
    ∧ (∀ b o, b ≠ g → ((w.setCell ⟨g, 0, none⟩ (.int .i64 X)).setCell ⟨g, 1, none⟩ (.int .i64 Y)).cell? ⟨b, o, none⟩ = w.cell? ⟨b, o, none⟩) := by
  constructor
  · simp [World.setCell, Array.getElem?_modify, h]
  · intro b o hne
    rw [World.cell?_setCell_other _ _ _ _ (by intro e; injection e with e; exact hne e.symm), World.cell?_setCell_other _ _ _ _ (by intro e; injection e with e; exact hne e.symm)]
theorem row_keep {w w' : World} {base e size : Nat} {v : Value} {n : Nat} {xs : List Value} (h : w.ownsRow base e size v n xs) (hb : Below w.heap.size w w') : w'.ownsRow base e size v n xs := by
  refine ⟨h.1, ?_⟩
  rcases h.2 with h2 | ⟨g, cap, cur, hv, hg, hh, r⟩
  · exact .inl h2
  · have hlt : g < w.heap.size := by
      rcases Nat.lt_or_ge g w.heap.size with hlt | hge
      · exact hlt
      · rw [Array.getElem?_eq_none hge] at hh; cases hh
    exact .inr ⟨g, cap, cur, hv, hg, (hb.block g hlt).trans hh, r⟩
theorem row_set {w : World} {base e size : Nat} {v : Value} {n : Nat} {xs : List Value} (h : w.ownsRow base e size v n xs) {b o : Nat} (hb : b < base) (u : Value) : (w.setCell ⟨b, o, none⟩ u).ownsRow base e size v n xs := by
  refine ⟨h.1, ?_⟩
  rcases h.2 with h2 | ⟨g, cap, cur, hv, hg, hh, r⟩
  · exact .inl h2
  · exact .inr ⟨g, cap, cur, hv, hg, (Below.heap_setCell w ⟨b, o, none⟩ u g (by simp only; omega)).trans hh, r⟩
theorem grown_set {a w : World} {g : Nat} (h : a.grownBy w (some g)) (o : Nat) (u : Value) : a.grownBy (w.setCell ⟨g, o, none⟩ u) (some g) :=
  ⟨h.os, h.tape, h.output, by simpa [World.setCell] using h.size, fun i hi hne => (Below.heap_setCell w ⟨g, o, none⟩ u i (fun e => hne (by rw [e]))).trans (h.block i hi hne)⟩
theorem walk_fin {w wf : World} {base T gg c n : Nat} {P : List (Int × Int)} (hO : wf.ownsRow base T 2 (.slice (some ⟨gg, 0, none⟩) n c) n (ptV P)) (hn : P.length = n) (hb : Below w.heap.size w wf) (hl : n ≤ 600) :
    PtsRes w P 0 (.returned (.tuple #[.slice (some ⟨gg, 0, none⟩) n c, .int .i64 0])) wf := by
  subst hn
  exact ⟨some ⟨gg, 0, none⟩, c, rfl, rdP_of_row hO (by omega), hb⟩
theorem below_drew {B : Nat} {a w : World} (h : Below B a w) : Below B a w.drew := below_drewN h 1
theorem grown_then {a b c : World} {row : Option Nat} (h : a.grownBy b row) (hb : Below a.heap.size b c) : a.grownBy c row :=
  ⟨hb.os.trans h.os, hb.tape.trans h.tape, hb.output.trans h.output, Nat.le_trans h.size hb.size, fun k hk hne => (hb.block k hk).trans (h.block k hk hne)⟩
theorem grown_cell {a b : World} {g : Nat} (h : a.grownBy b (some g)) {p : Addr} (hp : p.block < a.heap.size) (hne : p.block ≠ g) : b.cell? p = a.cell? p :=
  World.cell?_of_block (h.block _ hp (fun e => hne (by injection e)))

set_option maxHeartbeats 4000000 in
theorem lWalk {w : World} {B : Nat} {A : Option Addr} {L : List Int} {cap : Nat} (h : Rd w B A L) (hB : B ≤ w.heap.size) (W H a : Int) :
    Calls Try.prog 16 #[.agg #[.int .i64 W, .int .i64 H, .slice A L.length cap], .int .i64 a] w (PtsRes w (wkP W H L a) (wkE W H L a)) := by
  have hal : Below w.heap.size w (w.alloc (.cells #[.int .i64 W, .int .i64 H, .slice A L.length cap] 24)) := (Below.refl _ _).alloc (Nat.le_refl _) _
  have hsz : (w.alloc (.cells #[.int .i64 W, .int .i64 H, .slice A L.length cap] 24)).heap.size = w.heap.size + 1 := by simp
  have b0 : (w.alloc (.cells #[.int .i64 W, .int .i64 H, .slice A L.length cap] 24)).cell? ⟨w.heap.size, 0, none⟩ = some (.int .i64 W) := by simp
  have b1 : (w.alloc (.cells #[.int .i64 W, .int .i64 H, .slice A L.length cap] 24)).cell? ⟨w.heap.size, 1, none⟩ = some (.int .i64 H) := by simp
  have b2 : (w.alloc (.cells #[.int .i64 W, .int .i64 H, .slice A L.length cap] 24)).cell? ⟨w.heap.size, 2, none⟩ = some (.slice A L.length cap) := by simp
  have HSZ := Lib.hid hsz
  have HAL := Lib.hid hal
  have C1 := lLooked (cap := cap) (h.below hal hB) (Nat.le_trans hB hal.size) W H a
  have HR := Lib.hid h
  by_cases hk : lkd W H L a = 0
  · obtain ⟨q0, q1, q2⟩ := lkd_zero hk
    obtain ⟨W, H, rfl, rfl, hv⟩ := lck_zero q0
    have W0 := hv.w0
    have W12 := hv.w1
    have H12 := hv.h1
    have l144 := hv.len144
    have HK := Lib.hid hk
    have HV := Lib.hid hv
    rw [hk] at C1
    clear hk q0 hv h hal hsz
    go_enter Try.func16, Try.ntmps16
    go_wp2
    go_step3
    go_wp2_with fail
    generalize w.alloc (.cells #[.int .i64 W, .int .i64 H, .slice A L.length cap] 24) = w0 at *
    refine C1.mono ?_
    rintro e w1 ⟨rfl, hb⟩
    have hz := HSZ.out
    have c0 := ((bcell hb).1 _ _ (by omega)).trans b0
    have c1 := ((bcell hb).1 _ _ (by omega)).trans b1
    have c2 := ((bcell hb).1 _ _ (by omega)).trans b2
    have HB1 := Lib.hid (HAL.out.trans (hb.mono HAL.out.size))
    have HZ1 : Hid (w.heap.size < w1.heap.size) := Lib.hid (by have := hb.size; omega)
    clear b0 b1 b2 hb hz C1 HAL HSZ
    have CI := idxX (cap := cap) (HR.out.below HB1.out hB) a
    by_cases hf : fst L a < 0
    · obtain ⟨e1, e2⟩ := wkE_none HK.out hf
      have E1 := Lib.hid e1
      have E2 := Lib.hid e2
      have CI' : Calls Try.prog 40 #[.slice A L.length cap, .int .i64 a] w1 fun e w' => e = .returned (.int .i64 (fst L a)) ∧ w1 = w' := CI
      have HCI := Lib.hid CI'
      clear CI CI' e1 e2
      generalize fst L a = ff at *
      go_wp2_with fail
      refine HCI.out.mono ?_
      rintro e w2 ⟨rfl, rfl⟩
      go_wp2
      rw [Exit.noGoto_ret]
      go_ret2
      rw [E1.out, E2.out]
      exact ⟨none, 0, rfl, RdOf.nil _ _ _, HB1.out⟩
    · obtain ⟨i, hi, e1, hx, e2, e3, hok⟩ := wk_ok HV.out q1 HK.out hf
      have E2 := Lib.hid e2
      have E3 := Lib.hid e3
      have CI' : Calls Try.prog 40 #[.slice A L.length cap, .int .i64 a] w1 fun e w' => e = .returned (.int .i64 (fst L a)) ∧ w1 = w' := CI
      rw [e1] at CI'
      have HCI := Lib.hid CI'
      have HOK := Lib.hid hok
      have hN : walkN (ownF W H L a) (startS W i) ≤ 600 := Nat.le_trans hok.nW (by have := mul_le_144 W12 H12; omega)
      clear CI CI' e1 e2 e3 hx hf hok
      generalize walkN (ownF W H L a) (startS W i) = N at *
      obtain ⟨i0, i1, i2, i3⟩ := divmod_bd (W := W) (i := i) W0 (by omega)
      go_wp2_with fail
      refine HCI.out.mono ?_
      rintro e w2 ⟨rfl, rfl⟩
      clear HCI
      have d1 : W ≠ 0 := by omega
      have t1 : Int.tmod (i : Int) W = (i : Int) % W := Int.tmod_eq_emod_of_nonneg (by omega)
      have t3 : Int.tdiv (i : Int) W = (i : Int) / W := Int.tdiv_eq_ediv_of_nonneg (by omega)
      have e1 : IntKind.i64.wrap ((i : Int) / W) = (i : Int) / W := IntWalk.i64_in _ (by omega)
      have e2 : IntKind.i64.wrap ((i : Int) % W) = (i : Int) % W := IntWalk.i64_in _ (by omega)
      have hS0 : w1.drew.cell? ⟨w.heap.size, 0, none⟩ = some (.int .i64 W) := c0
      go_wp2
      go_region_held3 (fun w' => w'.cell? ⟨w.heap.size, 0, none⟩ = some (.int .i64 W)) (first | assumption | go_keep) (fail)
      have hb3 : Below w1.heap.size w1 (w1.alloc (.cells #[.int .i64 ((i : Int) % W), .int .i64 ((i : Int) / W)] 62)).drew := below_drewN ((Below.refl _ _).alloc (Nat.le_refl _) _) 1
      have z3 : (w1.alloc (.cells #[.int .i64 ((i : Int) % W), .int .i64 ((i : Int) / W)] 62)).drew.heap.size = w1.heap.size + 1 := by simp
      have s0 : (w1.alloc (.cells #[.int .i64 ((i : Int) % W), .int .i64 ((i : Int) / W)] 62)).drew.cell? ⟨w1.heap.size, 0, none⟩ = some (.int .i64 ((i : Int) % W)) := by simp
      have s1 : (w1.alloc (.cells #[.int .i64 ((i : Int) % W), .int .i64 ((i : Int) / W)] 62)).drew.cell? ⟨w1.heap.size, 1, none⟩ = some (.int .i64 ((i : Int) / W)) := by simp
      generalize (w1.alloc (.cells #[.int .i64 ((i : Int) % W), .int .i64 ((i : Int) / W)] 62)).drew = w3 at *
      have HSX : Hid ((startS W i).x = (i : Int) % W ∧ (startS W i).y = (i : Int) / W) := Lib.hid ⟨rfl, rfl⟩
      clear d1 t1 t3 e1 e2 hS0
      generalize (i : Int) % W = fx at *
      generalize (i : Int) / W = fy at *
      replace c0 := ((bcell hb3).1 _ _ HZ1.out).trans c0
      replace c1 := ((bcell hb3).1 _ _ HZ1.out).trans c1
      replace c2 := ((bcell hb3).1 _ _ HZ1.out).trans c2
      have HB3 := Lib.hid (HB1.out.trans (hb3.mono HB1.out.size))
      have HZ3 := Lib.hid z3
      clear hb3 z3
      have HP4 : Hid ((w3.alloc (.cells #[.int .i64 fx, .int .i64 fy] 62)).heap[w3.heap.size]? = some (.cells #[.int .i64 fx, .int .i64 fy] 62 (0, 0))) := Lib.hid (heap_alloc_new w3 _)
      have hb4 : Below w3.heap.size w3 (w3.alloc (.cells #[.int .i64 fx, .int .i64 fy] 62)) := (Below.refl _ _).alloc (Nat.le_refl _) _
      have z4 : (w3.alloc (.cells #[.int .i64 fx, .int .i64 fy] 62)).heap.size = w3.heap.size + 1 := by simp
      have HB4 := Lib.hid hb4
      have HZ4 := Lib.hid z4
      have HC := Lib.hid (And.intro c0 (And.intro c1 (And.intro c2 (And.intro s0 s1))))
      clear hb4 z4
      go_wp2_with fail
      clear c0 c1 c2 s0 s1
      generalize w3.alloc (.cells #[.int .i64 fx, .int .i64 fy] 62) = w4 at *
      refine lSteps.mono ?_
      rintro e w5 ⟨rfl, hb5⟩
      have HB5 := Lib.hid hb5
      clear hb5
      go_wp2
      go_step3
      go_wp2
      have hw6 : ∀ o1 o2 : Obj, Below w5.heap.size w5 ((w5.alloc o1).alloc o2) ∧ ((w5.alloc o1).alloc o2).heap.size = w5.heap.size + 2 := fun o1 o2 => ⟨((Below.refl _ _).alloc (Nat.le_refl _) _).alloc (by simp) _, by simp⟩
      have ⟨hb6, z6⟩ := hw6 (.cells #[.int .i64 1, .int .i64 0, .int .i64 0, .int .i64 1, .int .i64 (-1), .int .i64 0, .int .i64 0, .int .i64 (-1)] 70) (.cells #[.int .i64 0, .int .i64 0, .int .i64 1, .int .i64 0, .int .i64 1, .int .i64 1, .int .i64 0, .int .i64 1] 70)
      have fw : Hid (∀ d, d < 4 → ((w5.alloc (.cells #[.int .i64 1, .int .i64 0, .int .i64 0, .int .i64 1, .int .i64 (-1), .int .i64 0, .int .i64 0, .int .i64 (-1)] 70)).alloc (.cells #[.int .i64 0, .int .i64 0, .int .i64 1, .int .i64 0, .int .i64 1, .int .i64 1, .int .i64 0, .int .i64 1] 70)).cell? ⟨w5.heap.size, d * 2, none⟩ = some (.int .i64 (dxI d))
          ∧ ((w5.alloc (.cells #[.int .i64 1, .int .i64 0, .int .i64 0, .int .i64 1, .int .i64 (-1), .int .i64 0, .int .i64 0, .int .i64 (-1)] 70)).alloc (.cells #[.int .i64 0, .int .i64 0, .int .i64 1, .int .i64 0, .int .i64 1, .int .i64 1, .int .i64 0, .int .i64 1] 70)).cell? ⟨w5.heap.size, d * 2 + 1, none⟩ = some (.int .i64 (dyI d))
          ∧ ((w5.alloc (.cells #[.int .i64 1, .int .i64 0, .int .i64 0, .int .i64 1, .int .i64 (-1), .int .i64 0, .int .i64 0, .int .i64 (-1)] 70)).alloc (.cells #[.int .i64 0, .int .i64 0, .int .i64 1, .int .i64 0, .int .i64 1, .int .i64 1, .int .i64 0, .int .i64 1] 70)).cell? ⟨w5.heap.size + 1, d * 2, none⟩ = some (.int .i64 (cxI d))
          ∧ ((w5.alloc (.cells #[.int .i64 1, .int .i64 0, .int .i64 0, .int .i64 1, .int .i64 (-1), .int .i64 0, .int .i64 0, .int .i64 (-1)] 70)).alloc (.cells #[.int .i64 0, .int .i64 0, .int .i64 1, .int .i64 0, .int .i64 1, .int .i64 1, .int .i64 0, .int .i64 1] 70)).cell? ⟨w5.heap.size + 1, d * 2 + 1, none⟩ = some (.int .i64 (cyI d))) := Lib.hid (by
        intro d hd
        have hc : d = 0 ∨ d = 1 ∨ d = 2 ∨ d = 3 := by omega
        rcases hc with rfl | rfl | rfl | rfl <;> exact ⟨by simp [dxI], by simp [dyI], by simp [cxI], by simp [cyI]⟩)
      generalize hgw : (w5.alloc (.cells #[.int .i64 1, .int .i64 0, .int .i64 0, .int .i64 1, .int .i64 (-1), .int .i64 0, .int .i64 0, .int .i64 (-1)] 70)).alloc (.cells #[.int .i64 0, .int .i64 0, .int .i64 1, .int .i64 0, .int .i64 1, .int .i64 1, .int .i64 0, .int .i64 1] 70) = w6 at *
      clear hgw hw6
      have hp6 := (hb6.block w3.heap.size (by have := HB5.out.size; have := HZ4.out; omega)).trans ((HB5.out.block w3.heap.size (by have := HZ4.out; omega)).trans HP4.out)
      have HP6 := Lib.hid hp6
      have hb36 : Below w3.heap.size w3 w6 := HB4.out.trans ((HB5.out.mono HB4.out.size).trans (hb6.mono (Nat.le_trans HB4.out.size HB5.out.size)))
      have HC6 : Hid (w6.cell? ⟨w.heap.size, 0, none⟩ = some (.int .i64 W) ∧ w6.cell? ⟨w.heap.size, 1, none⟩ = some (.int .i64 H) ∧ w6.cell? ⟨w.heap.size, 2, none⟩ = some (.slice A L.length cap) ∧ w6.cell? ⟨w1.heap.size, 0, none⟩ = some (.int .i64 fx) ∧ w6.cell? ⟨w1.heap.size, 1, none⟩ = some (.int .i64 fy)) := Lib.hid (by
        obtain ⟨c0, c1, c2, s0, s1⟩ := HC.out
        have q := HZ1.out
        have q3 := HZ3.out
        exact ⟨((bcell hb36).1 _ _ (by omega)).trans c0, ((bcell hb36).1 _ _ (by omega)).trans c1, ((bcell hb36).1 _ _ (by omega)).trans c2, ((bcell hb36).1 _ _ (by omega)).trans s0, ((bcell hb36).1 _ _ (by omega)).trans s1⟩)
      have HSZ6 : Hid (w.heap.size < w1.heap.size ∧ w1.heap.size < w3.heap.size ∧ w3.heap.size < w5.heap.size ∧ w6.heap.size = w5.heap.size + 2) := Lib.hid ⟨HZ1.out, by have := HZ3.out; omega, by have := HB5.out.size; have := HZ4.out; omega, z6⟩
      have HB6 : Hid (Below w.heap.size w w6) := Lib.hid (HB3.out.trans (hb36.mono HB3.out.size))
      clear hb6 z6 hp6 hb36 HP4 HB4 HZ4 HC HB5 HZ3 HB3
      obtain ⟨j0, hj0, hz0, hz1, hz2⟩ := info_parts infoPt
      have HJ := Lib.hid hj0
      clear hj0
      go_loopg [10, 13] N (fun g sv ov wr => ∃ k : Nat, k + g = N ∧ 0 < g ∧ sv = .int .i64 ((itN (ownF W H L a) k (startS W i)).d : Nat)
        ∧ Hid (wr.ownsRow w6.heap.size 62 2 ov k (ptV (ptsK (ownF W H L a) (startS W i) k)))
        ∧ Hid (wr.heap[w3.heap.size]? = some (.cells #[.int .i64 (itN (ownF W H L a) k (startS W i)).x, .int .i64 (itN (ownF W H L a) k (startS W i)).y] 62 (0, 0)))
        ∧ Hid (w6.grownBy wr (some w3.heap.size)))
      case atStart => exact ⟨0, by omega, HOK.out.n0, rfl, Lib.hid (World.ownsRow_nil _ _ _ _), Lib.hid (by rw [HP6.out, ← HSX.out.1, ← HSX.out.2]; rfl), Lib.hid (World.grownBy.refl _ _)⟩
      case round =>
        obtain ⟨k, hkg, hg0, rfl, ho, hp, hgr⟩ := hrel
        have hE := HOK.out.edge k
        have hBD := HOK.out.bd k
        have HNX : Hid (itN (ownF W H L a) (k + 1) (startS W i) = nxt (ownF W H L a) (itN (ownF W H L a) k (startS W i))) := Lib.hid rfl
        have HPK := Lib.hid (ptsK_succ (ownF W H L a) (startS W i) k)
        obtain ⟨S, hS⟩ : ∃ S, itN (ownF W H L a) k (startS W i) = S := ⟨_, rfl⟩
        rw [hS] at hE hBD hp HNX HPK ⊢
        obtain ⟨px, py, d⟩ := S
        have hd := hE.d
        have HE := Lib.hid hE
        obtain ⟨⟨x0, x1⟩, y0, y1⟩ := hBD
        simp only at hd x0 x1 y0 y1 hp ⊢
        have HS := Lib.hid hS
        have HKG := Lib.hid hkg
        have hk600 : k < 600 := by omega
        have q := HSZ6.out
        have hbs : w6.heap.size ≤ wr.heap.size := hgr.out.size
        have c0 := (grown_cell hgr.out (p := ⟨w.heap.size, 0, none⟩) (by simp only; omega) (by simp only; omega)).trans HC6.out.1
        have c1 := (grown_cell hgr.out (p := ⟨w.heap.size, 1, none⟩) (by simp only; omega) (by simp only; omega)).trans HC6.out.2.1
        have c2 := (grown_cell hgr.out (p := ⟨w.heap.size, 2, none⟩) (by simp only; omega) (by simp only; omega)).trans HC6.out.2.2.1
        have s0 := (grown_cell hgr.out (p := ⟨w1.heap.size, 0, none⟩) (by simp only; omega) (by simp only; omega)).trans HC6.out.2.2.2.1
        have s1 := (grown_cell hgr.out (p := ⟨w1.heap.size, 1, none⟩) (by simp only; omega) (by simp only; omega)).trans HC6.out.2.2.2.2
        obtain ⟨d3, hd3⟩ : ∃ d3, (d + 3) % 4 = d3 := ⟨_, rfl⟩
        obtain ⟨d1, hd1⟩ : ∃ d1, (d + 1) % 4 = d1 := ⟨_, rfl⟩
        have hd34 : d3 < 4 := by omega
        have hd14 : d1 < 4 := by omega
        have a0 := (grown_cell hgr.out (p := ⟨w5.heap.size, d * 2, none⟩) (by simp only; omega) (by simp only; omega)).trans (fw.out d hd).1
        have a1 := (grown_cell hgr.out (p := ⟨w5.heap.size, d * 2 + 1, none⟩) (by simp only; omega) (by simp only; omega)).trans (fw.out d hd).2.1
        have a2 := (grown_cell hgr.out (p := ⟨w5.heap.size, d3 * 2, none⟩) (by simp only; omega) (by simp only; omega)).trans (fw.out d3 hd34).1
        have a3 := (grown_cell hgr.out (p := ⟨w5.heap.size, d3 * 2 + 1, none⟩) (by simp only; omega) (by simp only; omega)).trans (fw.out d3 hd34).2.1
        have r0 := (grown_cell hgr.out (p := ⟨w5.heap.size + 1, d * 2, none⟩) (by simp only; omega) (by simp only; omega)).trans (fw.out d hd).2.2.1
        have r1 := (grown_cell hgr.out (p := ⟨w5.heap.size + 1, d * 2 + 1, none⟩) (by simp only; omega) (by simp only; omega)).trans (fw.out d hd).2.2.2
        have p0 : wr.cell? ⟨w3.heap.size, 0, none⟩ = some (.int .i64 px) := (cell_of_row _ _ 0 _ _ (0, 0) hp.out).trans rfl
        have p1 : wr.cell? ⟨w3.heap.size, 1, none⟩ = some (.int .i64 py) := (cell_of_row _ _ 1 _ _ (0, 0) hp.out).trans rfl
        have bdx : (-1 ≤ dxI d ∧ dxI d ≤ 1) ∧ (-1 ≤ dyI d ∧ dyI d ≤ 1) ∧ (-1 ≤ dxI d3 ∧ dxI d3 ≤ 1) ∧ (-1 ≤ dyI d3 ∧ dyI d3 ≤ 1) ∧ (0 ≤ cxI d ∧ cxI d ≤ 1) ∧ (0 ≤ cyI d ∧ cyI d ≤ 1) := by
          refine ⟨?_, ?_, ?_, ?_, ?_, ?_⟩ <;> (first | unfold dxI | unfold dyI | unfold cxI | unfold cyI) <;> (split <;> (try split) <;> omega)
        have HLAND := Lib.hid (And.intro c0 (And.intro c1 c2))
        have HST := Lib.hid (And.intro s0 s1)
        have HWAY := Lib.hid (And.intro a0 (And.intro a1 (And.intro a2 a3)))
        have HD3 := Lib.hid hd3
        have HD1 := Lib.hid hd1
        have e1 : IntKind.i64.wrap (px + cxI d) = px + cxI d := IntWalk.i64_in _ (by omega)
        have e2 : IntKind.i64.wrap (py + cyI d) = py + cyI d := IntWalk.i64_in _ (by omega)
        have f1 : (0 : Int) ≤ (d : Int) := by omega
        have f2 : (d : Int) < 4 := by omega
        have hbelow : Hid (∀ (w7 : World) (o : Obj), ((wr.alloc o).drew).grownBy w7 u13.ownBlock → Below w6.heap.size wr w7) := Lib.hid (fun w7 o hg => by
          have h1 : Below w6.heap.size wr (wr.alloc o).drew := below_drewN ((Below.refl _ _).alloc hbs _) 1
          exact h1.grown hg (Nat.le_trans hbs (by simp)) (fun q hq => (ho.out.lt q hq).1))
        have q0 := q.1
        have hne1 : u13.ownBlock ≠ some w3.heap.size := fun h => by have := (ho.out.lt _ h).1; omega
        have hne2 : u13.ownBlock ≠ some (w5.heap.size + 1) := fun h => by have := (ho.out.lt _ h).1; omega
        have hoz := Lib.hid ho.out
        have HQ := Lib.hid q
        have HBS := Lib.hid hbs
        have hz3w : w3.heap.size < wr.heap.size := by omega
        have hz5w : w5.heap.size + 1 < wr.heap.size := by omega
        clear c0 c1 c2 s0 s1 a0 a1 a2 a3 hd3 hd1 hS hkg hE q q0 hbs ho
        go_wp2
        go_region_held3 (fun w' => w'.cell? ⟨w3.heap.size, 0, none⟩ = some (.int .i64 px) ∧ w'.cell? ⟨w3.heap.size, 1, none⟩ = some (.int .i64 py) ∧ w'.cell? ⟨w5.heap.size + 1, d * 2, none⟩ = some (.int .i64 (cxI d)) ∧ w'.cell? ⟨w5.heap.size + 1, d * 2 + 1, none⟩ = some (.int .i64 (cyI d)))
          (first
            | go_keep
            | (go_split_ands
               refine ⟨?_, ?_, ?_, ?_⟩
               · (rw [hgrow.cell_far _ (by simp; omega) (Ne.symm hne1)]; assumption)
               · (rw [hgrow.cell_far _ (by simp; omega) (Ne.symm hne1)]; assumption)
               · (rw [hgrow.cell_far _ (by simp; omega) (Ne.symm hne2)]; assumption)
               · (rw [hgrow.cell_far _ (by simp; omega) (Ne.symm hne2)]; assumption)))
          ((refine step_append_lies _ (by rfl) _ _ _ (by rfl) w6.heap.size 62 j0 _ 2 16 Try.underlying33 HJ.out hz0 hz1 hz2 rfl (by omega) u13 k (ptV (ptsK (ownF W H L a) (startS W i) k)) (by rfl) ((hoz.out.alloc _).drew)
              ⟨wr.heap.size, 0, none⟩ 1 1 [.int .i64 (px + cxI d), .int .i64 (py + cyI d)] (by rfl) (by rfl) (World.news_of_block (cs := #[.int .i64 (px + cxI d), .int .i64 (py + cyI d)]) (t := 62) (fr := (0, 0)) (heap_alloc_new wr _)) (by simp [Value.oneCell'])
              (by omega) (by unfold maxLen; omega) (by omega) (by have := HBS.out; simp; omega) (wr.heap.size + 1) (by simp) ?_; intro gg gcap w7 hown hgrow hat hlt))
        have hb7 := hbelow.out _ _ hgrow
        have HO7 : Hid (w7.ownsRow w6.heap.size 62 2 (.slice (some ⟨gg, 0, none⟩) (k + 1) gcap) (k + 1) (ptV (ptsK (ownF W H L a) (startS W i) (k + 1)))) := Lib.hid (by rw [HPK.out, ptV_snoc]; exact hown)
        have G7 := Lib.hid (grown_then hgr.out hb7)
        have hq := HQ.out
        have hbs7 : w6.heap.size ≤ w7.heap.size := Nat.le_trans HBS.out hb7.size
        have hp7 := Lib.hid ((hb7.block w3.heap.size (by omega)).trans hp.out)
        have m0 := ((bcell hb7).1 _ _ (by omega)).trans HWAY.out.1
        have m1 := ((bcell hb7).1 _ _ (by omega)).trans HWAY.out.2.1
        have m2 := ((bcell hb7).1 _ _ (by omega)).trans HWAY.out.2.2.1
        have m3 := ((bcell hb7).1 _ _ (by omega)).trans HWAY.out.2.2.2
        have p07 := ((bcell hb7).1 _ _ (by omega)).trans p0
        have p17 := ((bcell hb7).1 _ _ (by omega)).trans p1
        have L7 := Lib.hid (And.intro (((bcell hb7).1 _ _ (by omega)).trans HLAND.out.1) (And.intro (((bcell hb7).1 _ _ (by omega)).trans HLAND.out.2.1) (((bcell hb7).1 _ _ (by omega)).trans HLAND.out.2.2)))
        have S7 := Lib.hid (And.intro (((bcell hb7).1 _ _ (by omega)).trans HST.out.1) (((bcell hb7).1 _ _ (by omega)).trans HST.out.2))
        have Z7 : Hid (w3.heap.size < w7.heap.size ∧ w1.heap.size < w7.heap.size ∧ w.heap.size < w7.heap.size ∧ w5.heap.size < w7.heap.size) := Lib.hid (by omega)
        have HM7 := Lib.hid (And.intro m0 (And.intro m1 (And.intro m2 (And.intro m3 (And.intro p07 p17)))))
        have hd3e := HD3.out
        have hd1e := HD1.out
        have n1 : ((d : Int) + 1) % 4 = (d1 : Int) := by omega
        have n3 : ((d : Int) + 3) % 4 = (d3 : Int) := by omega
        have n1t : Int.tmod ((d : Int) + 1) 4 = (d1 : Int) := by rw [Int.tmod_eq_emod_of_nonneg (by omega)]; exact n1
        have n3t : Int.tmod ((d : Int) + 3) 4 = (d3 : Int) := by rw [Int.tmod_eq_emod_of_nonneg (by omega)]; exact n3
        have v3 : IntKind.i64.wrap ((d : Int) + 3) = (d : Int) + 3 := IntWalk.i64_in _ (by omega)
        have v4 : IntKind.i64.wrap (d3 : Int) = (d3 : Int) := IntWalk.i64_in _ (by omega)
        have g1 : (0 : Int) ≤ (d3 : Int) := by omega
        have g2 : (d3 : Int) < 4 := by omega
        clear hd3e hd1e hq hown hgrow hat hlt hb7 hp HLAND HST HWAY p0 p1 r0 r1 hgr hoz hne1 hne2 e1 e2 hz3w hz5w hbelow
        go_wp2
        have HF14 : Hid (∀ w' : World, Below w7.heap.size w7 w' → w'.cell? ⟨w5.heap.size, d * 2, none⟩ = some (.int .i64 (dxI d)) ∧ w'.cell? ⟨w5.heap.size, d * 2 + 1, none⟩ = some (.int .i64 (dyI d)) ∧ w'.cell? ⟨w5.heap.size, d3 * 2, none⟩ = some (.int .i64 (dxI d3)) ∧ w'.cell? ⟨w5.heap.size, d3 * 2 + 1, none⟩ = some (.int .i64 (dyI d3))) := Lib.hid (fun w' hb => ⟨((bcell hb).1 _ _ Z7.out.2.2.2).trans HM7.out.1, ((bcell hb).1 _ _ Z7.out.2.2.2).trans HM7.out.2.1, ((bcell hb).1 _ _ Z7.out.2.2.2).trans HM7.out.2.2.1, ((bcell hb).1 _ _ Z7.out.2.2.2).trans HM7.out.2.2.2.1⟩)
        have hS14 := HF14.out w7.drew (below_drew (Below.refl _ _))
        clear m0 m1 m2 m3 p07 p17
        have Z70 := Z7.out
        go_region_held3 (fun w' => w'.cell? ⟨w5.heap.size, d * 2, none⟩ = some (.int .i64 (dxI d)) ∧ w'.cell? ⟨w5.heap.size, d * 2 + 1, none⟩ = some (.int .i64 (dyI d)) ∧ w'.cell? ⟨w5.heap.size, d3 * 2, none⟩ = some (.int .i64 (dxI d3)) ∧ w'.cell? ⟨w5.heap.size, d3 * 2 + 1, none⟩ = some (.int .i64 (dyI d3)))
          (first | assumption | (refine HF14.out _ ?_; repeat (first | exact Below.refl _ _ | refine below_drew ?_ | refine Below.alloc ?_ (by simp) _ | refine Below.setCell ?_ (by simp) _))) (fail)
        · generalize hwz : World.drew _ = wz
          have hbz : Below w7.heap.size w7 wz := by
            rw [← hwz]
            repeat (first | exact Below.refl _ _ | refine below_drew ?_ | refine Below.alloc ?_ (by simp) _)
          have t0 : wz.cell? ⟨w7.heap.size, 0, none⟩ = some (.int .i64 (dxI d)) := by rw [← hwz]; simp
          have t1 : wz.cell? ⟨w7.heap.size, 1, none⟩ = some (.int .i64 (dyI d)) := by rw [← hwz]; simp
          have t2 : wz.cell? ⟨w7.heap.size + 1, 0, none⟩ = some (.int .i64 (dxI d3)) := by rw [← hwz]; simp
          have t3 : wz.cell? ⟨w7.heap.size + 1, 1, none⟩ = some (.int .i64 (dyI d3)) := by rw [← hwz]; simp
          have zz : wz.heap.size = w7.heap.size + 2 := by rw [← hwz]; simp
          clear hwz
          have p0 := ((bcell hbz).1 _ _ Z7.out.1).trans HM7.out.2.2.2.2.1
          have p1 := ((bcell hbz).1 _ _ Z7.out.1).trans HM7.out.2.2.2.2.2
          have hal1 : Below wz.heap.size wz (wz.alloc (.cells #[.int .i64 (px + dxI d), .int .i64 (py + dyI d)] 62)) := (Below.refl _ _).alloc (Nat.le_refl _) _
          have u2 := ((bcell hal1).1 (w7.heap.size + 1) 0 (by omega)).trans t2
          have u3 := ((bcell hal1).1 (w7.heap.size + 1) 1 (by omega)).trans t3
          have HZZ := Lib.hid zz
          have HBZ := Lib.hid hbz
          have HAL1 := Lib.hid hal1
          clear zz hbz hal1 n1 n3 n1t n3t v3 v4 hS14 Z70 HF14
          have hw9 : Below wz.heap.size wz ((wz.alloc (.cells #[.int .i64 (px + dxI d), .int .i64 (py + dyI d)] 62)).alloc (.cells #[.int .i64 (px + dxI d + dxI d3), .int .i64 (py + dyI d + dyI d3)] 62)) := ((Below.refl _ _).alloc (Nat.le_refl _) _).alloc (by simp) _
          have z9 : ((wz.alloc (.cells #[.int .i64 (px + dxI d), .int .i64 (py + dyI d)] 62)).alloc (.cells #[.int .i64 (px + dxI d + dxI d3), .int .i64 (py + dyI d + dyI d3)] 62)).heap.size = wz.heap.size + 2 := by simp
          have o0 : ((wz.alloc (.cells #[.int .i64 (px + dxI d), .int .i64 (py + dyI d)] 62)).alloc (.cells #[.int .i64 (px + dxI d + dxI d3), .int .i64 (py + dyI d + dyI d3)] 62)).cell? ⟨wz.heap.size, 0, none⟩ = some (.int .i64 (px + dxI d)) := by simp
          have o1 : ((wz.alloc (.cells #[.int .i64 (px + dxI d), .int .i64 (py + dyI d)] 62)).alloc (.cells #[.int .i64 (px + dxI d + dxI d3), .int .i64 (py + dyI d + dyI d3)] 62)).cell? ⟨wz.heap.size, 1, none⟩ = some (.int .i64 (py + dyI d)) := by simp
          have o2 : ((wz.alloc (.cells #[.int .i64 (px + dxI d), .int .i64 (py + dyI d)] 62)).alloc (.cells #[.int .i64 (px + dxI d + dxI d3), .int .i64 (py + dyI d + dyI d3)] 62)).cell? ⟨wz.heap.size + 1, 0, none⟩ = some (.int .i64 (px + dxI d + dxI d3)) := by simp
          have o3 : ((wz.alloc (.cells #[.int .i64 (px + dxI d), .int .i64 (py + dyI d)] 62)).alloc (.cells #[.int .i64 (px + dxI d + dxI d3), .int .i64 (py + dyI d + dyI d3)] 62)).cell? ⟨wz.heap.size + 1, 1, none⟩ = some (.int .i64 (py + dyI d + dyI d3)) := by simp
          have l0 := ((bcell (HBZ.out.trans (hw9.mono HBZ.out.size))).1 _ _ Z7.out.2.2.1).trans L7.out.1
          have l1 := ((bcell (HBZ.out.trans (hw9.mono HBZ.out.size))).1 _ _ Z7.out.2.2.1).trans L7.out.2.1
          have l2 := ((bcell (HBZ.out.trans (hw9.mono HBZ.out.size))).1 _ _ Z7.out.2.2.1).trans L7.out.2.2
          have HW9 := Lib.hid hw9
          have HZ9 := Lib.hid z9
          clear hw9 z9
          go_wp2_with fail
          clear t0 t1 t2 t3 p0 p1 u2 u3
          generalize (wz.alloc (.cells #[.int .i64 (px + dxI d), .int .i64 (py + dyI d)] 62)).alloc (.cells #[.int .i64 (px + dxI d + dxI d3), .int .i64 (py + dyI d + dyI d3)] 62) = w9 at *
          have HB7 : Hid (Below w.heap.size w w7) := Lib.hid (HB6.out.grown G7.out HB6.out.size (fun q hq => by injection hq with hq; have := HSZ6.out; omega))
          have HB79 : Hid (Below w7.heap.size w7 w9) := Lib.hid (HBZ.out.trans (HW9.out.mono HBZ.out.size))
          have HCAT : Hid (∀ (u : World) (X Y : Int), Below w9.heap.size w9 u → Calls Try.prog 42 #[.agg #[.int .i64 W, .int .i64 H, .slice A L.length cap], .int .i64 X, .int .i64 Y] u fun e w' => e = .returned (.int .i64 (atL W H L X Y)) ∧ Below u.heap.size u w') := Lib.hid (fun u X Y hu => by
            have h9 := HB7.out.trans (HB79.out.mono HB7.out.size)
            have hu2 := h9.trans (hu.mono h9.size)
            exact lAt (HR.out.below hu2 hB) (Nat.le_trans hB hu2.size) HV.out X Y)
          have HO := Lib.hid (And.intro o0 (And.intro o1 (And.intro o2 o3)))
          have HL9 := Lib.hid (And.intro l0 (And.intro l1 l2))
          have hoz9 : wz.heap.size + 1 < w9.heap.size := by have := HZ9.out; omega
          have hlz9 : w.heap.size < w9.heap.size := by have := HB79.out.size; have := Z7.out.2.2.1; omega
          refine (HCAT.out w9 _ _ (Below.refl _ _)).mono ?_
          rintro e w10 ⟨rfl, hb10⟩
          replace o0 := ((bcell hb10).1 _ _ (by omega)).trans o0
          replace o1 := ((bcell hb10).1 _ _ (by omega)).trans o1
          replace o2 := ((bcell hb10).1 _ _ (by omega)).trans o2
          replace o3 := ((bcell hb10).1 _ _ (by omega)).trans o3
          replace l0 := ((bcell hb10).1 _ _ hlz9).trans l0
          replace l1 := ((bcell hb10).1 _ _ hlz9).trans l1
          replace l2 := ((bcell hb10).1 _ _ hlz9).trans l2
          have HB910 := Lib.hid hb10
          have HB710 : Hid (Below w7.heap.size w7 w10) := Lib.hid (HB79.out.trans (hb10.mono HB79.out.size))
          have p0 := ((bcell HB710.out).1 _ _ Z7.out.1).trans HM7.out.2.2.2.2.1
          have p1 := ((bcell HB710.out).1 _ _ Z7.out.1).trans HM7.out.2.2.2.2.2
          have s0 := ((bcell HB710.out).1 _ _ Z7.out.2.1).trans S7.out.1
          have s1 := ((bcell HB710.out).1 _ _ Z7.out.2.1).trans S7.out.2
          clear hb10
          by_cases h1 : atL W H L (px + dxI d) (py + dyI d) = a
          · have b1 : (atL W H L (px + dxI d) (py + dyI d) != a) = false := by simpa using h1
            have HF1 : Hid (ownF W H L a (px + dxI d) (py + dyI d) = true) := Lib.hid (by unfold ownF; simpa using h1)
            clear h1
            generalize atL W H L (px + dxI d) (py + dyI d) = zz1 at *
            go_wp2_with fail
            refine (HCAT.out w10 _ _ HB910.out).mono ?_
            rintro e w11 ⟨rfl, hb11⟩
            have hs10 : w9.heap.size ≤ w10.heap.size := HB910.out.size
            have hs710 : w7.heap.size ≤ w10.heap.size := HB710.out.size
            have hz7 := Z7.out
            replace o0 := ((bcell hb11).1 _ _ (by omega)).trans o0
            replace o1 := ((bcell hb11).1 _ _ (by omega)).trans o1
            replace o2 := ((bcell hb11).1 _ _ (by omega)).trans o2
            replace o3 := ((bcell hb11).1 _ _ (by omega)).trans o3
            replace p0 := ((bcell hb11).1 _ _ (by omega)).trans p0
            replace p1 := ((bcell hb11).1 _ _ (by omega)).trans p1
            replace s0 := ((bcell hb11).1 _ _ (by omega)).trans s0
            replace s1 := ((bcell hb11).1 _ _ (by omega)).trans s1
            have HB711 : Hid (Below w7.heap.size w7 w11) := Lib.hid (HB710.out.trans (hb11.mono HB710.out.size))
            have hpb := (HB711.out.block w3.heap.size Z7.out.1).trans hp7.out
            have z0 : w11.frozen? ⟨w3.heap.size, 0, none⟩ = false := by simp [World.frozen?, hpb]
            have z1 : w11.frozen? ⟨w3.heap.size, 1, none⟩ = false := by simp [World.frozen?, hpb]
            have HPB := Lib.hid hpb
            clear hpb
            clear hb11 hz7 l0 l1 l2
            by_cases h2 : atL W H L (px + dxI d + dxI d3) (py + dyI d + dyI d3) = a
            · have b2 : (atL W H L (px + dxI d + dxI d3) (py + dyI d + dyI d3) != a) = false := by simpa using h2
              have HF2 : Hid (ownF W H L a (px + dxI d + dxI d3) (py + dyI d + dyI d3) = true) := Lib.hid (by unfold ownF; simpa using h2)
              clear h2
              generalize atL W H L (px + dxI d + dxI d3) (py + dyI d + dyI d3) = zz2 at *
              have hts := two_set HPB.out (px + dxI d + dxI d3) (py + dyI d + dyI d3)
              have hne13 : w1.heap.size ≠ w3.heap.size := by have := HQ.out; omega
              have s0' := (hts.2 _ 0 hne13).trans s0
              have s1' := (hts.2 _ 1 hne13).trans s1
              have p0' := (cell_of_row _ _ 0 _ _ (0, 0) hts.1).trans rfl
              have p1' := (cell_of_row _ _ 1 _ _ (0, 0) hts.1).trans rfl
              have HTS := Lib.hid hts
              clear hts
              simp only [List.getElem?_toArray, List.getElem?_cons_zero, List.getElem?_cons_succ] at p0' p1'
              have HNN : Hid (itN (ownF W H L a) (k + 1) (startS W i) = ⟨px + dxI d + dxI d3, py + dyI d + dyI d3, d3⟩) := Lib.hid (by
                rw [HNX.out, nxt_right (f := (ownF W H L a)) (s := ⟨px, py, d⟩) HF1.out (by show ownF W H L a (px + dxI d + dxI ((d + 3) % 4)) (py + dyI d + dyI ((d + 3) % 4)) = true; rw [HD3.out]; exact HF2.out)]
                exact st_eq (by show px + dxI d + dxI ((d + 3) % 4) = _; rw [HD3.out]) (by show py + dyI d + dyI ((d + 3) % 4) = _; rw [HD3.out]) HD3.out)
              have HOF := Lib.hid (row_set (b := w3.heap.size) (o := 1) (row_set (b := w3.heap.size) (o := 0) (row_keep HO7.out HB711.out) (by have := HQ.out; omega) (.int .i64 (px + dxI d + dxI d3))) (by have := HQ.out; omega : w3.heap.size < w6.heap.size) (.int .i64 (py + dyI d + dyI d3)))
              have HPF := Lib.hid HTS.out.1
              have HGF := Lib.hid (grown_set (grown_set (grown_then G7.out (HB711.out.mono hbs7)) 0 (.int .i64 (px + dxI d + dxI d3))) 1 (.int .i64 (py + dyI d + dyI d3)))
              have HBF : Hid (Below w.heap.size w ((w11.setCell ⟨w3.heap.size, 0, none⟩ (.int .i64 (px + dxI d + dxI d3))).setCell ⟨w3.heap.size, 1, none⟩ (.int .i64 (py + dyI d + dyI d3)))) := Lib.hid (((HB7.out.trans (HB711.out.mono HB7.out.size)).setCell (p := ⟨w3.heap.size, 0, none⟩) (by have := HQ.out; simp only; omega) _).setCell (p := ⟨w3.heap.size, 1, none⟩) (by have := HQ.out; simp only; omega) _)
              clear HTS
              generalize px + dxI d + dxI d3 = XX at *
              generalize py + dyI d + dyI d3 = YY at *
              have HLEN := Lib.hid (ptsK_length (ownF W H L a) (startS W i) (k + 1))
              by_cases hl : k + 1 = N
              · have heq : (⟨XX, YY, d3⟩ : St) = startS W i := by rw [← HNN.out, hl, HOK.out.back]
                have hX : XX = fx := (congrArg St.x heq).trans HSX.out.1
                have hY : YY = fy := (congrArg St.y heq).trans HSX.out.2
                have hD : d3 = 0 := (congrArg St.d heq).trans HOK.out.d0
                have HLN := Lib.hid hl
                have hs3 : ((d : Int) + 3) % 4 = 0 := by have := HD3.out; omega
                clear heq hl
                subst hX
                subst hY
                go_wp2
                rw [Exit.noGoto_ret]
                go_ret2
                rw [E2.out, E3.out, ← HLN.out]
                exact walk_fin HOF.out HLEN.out HBF.out (by omega)
              · have hne : ¬ (XX = fx ∧ YY = fy ∧ d3 = 0) := by
                  rintro ⟨q1, q2, q3⟩
                  exact HOK.out.low (k + 1) (by omega) (by have := HKG.out; omega) (by rw [HNN.out]; show (⟨XX, YY, d3⟩ : St) = ⟨(startS W i).x, (startS W i).y, (startS W i).d⟩; rw [HSX.out.1, HSX.out.2, HOK.out.d0, q1, q2, q3])
                have hgk : 0 < gk - 1 := by have := HKG.out; omega
                by_cases hX : XX = fx
                · by_cases hY : YY = fy
                  · have hD : ¬ (d3 = 0) := fun q => hne ⟨hX, hY, q⟩
                    have hs3 : ¬ (((d : Int) + 3) % 4 = 0) := by have := HD3.out; omega
                    clear hne
                    subst hX
                    subst hY
                    go_wp2
                    go_roundg (gk - 1)
                    case measure => omega
                    case rel => exact ⟨k + 1, by have := HKG.out; omega, hgk, by rw [HNN.out]; exact (show Value.int .i64 (((d : Int) + 3) % 4) = .int .i64 ((d3 : Nat) : Int) from int_of (by have := HD3.out; omega)), HOF, Lib.hid (by rw [HNN.out]; exact HPF.out), HGF⟩
                  · clear hne
                    subst hX
                    go_wp2
                    go_roundg (gk - 1)
                    case measure => omega
                    case rel => exact ⟨k + 1, by have := HKG.out; omega, hgk, by rw [HNN.out]; exact (show Value.int .i64 (((d : Int) + 3) % 4) = .int .i64 ((d3 : Nat) : Int) from int_of (by have := HD3.out; omega)), HOF, Lib.hid (by rw [HNN.out]; exact HPF.out), HGF⟩
                · clear hne
                  go_wp2
                  go_roundg (gk - 1)
                  case measure => omega
                  case rel => exact ⟨k + 1, by have := HKG.out; omega, hgk, by rw [HNN.out]; exact (show Value.int .i64 (((d : Int) + 3) % 4) = .int .i64 ((d3 : Nat) : Int) from int_of (by have := HD3.out; omega)), HOF, Lib.hid (by rw [HNN.out]; exact HPF.out), HGF⟩
            · have b2 : (atL W H L (px + dxI d + dxI d3) (py + dyI d + dyI d3) != a) = true := by simpa using h2
              have HF2 : Hid (ownF W H L a (px + dxI d + dxI d3) (py + dyI d + dyI d3) = false) := Lib.hid (by unfold ownF; simpa using h2)
              clear h2
              generalize atL W H L (px + dxI d + dxI d3) (py + dyI d + dyI d3) = zz2 at *
              have hts := two_set HPB.out (px + dxI d) (py + dyI d)
              have hne13 : w1.heap.size ≠ w3.heap.size := by have := HQ.out; omega
              have s0' := (hts.2 _ 0 hne13).trans s0
              have s1' := (hts.2 _ 1 hne13).trans s1
              have p0' := (cell_of_row _ _ 0 _ _ (0, 0) hts.1).trans rfl
              have p1' := (cell_of_row _ _ 1 _ _ (0, 0) hts.1).trans rfl
              have HTS := Lib.hid hts
              clear hts
              simp only [List.getElem?_toArray, List.getElem?_cons_zero, List.getElem?_cons_succ] at p0' p1'
              have HNN : Hid (itN (ownF W H L a) (k + 1) (startS W i) = ⟨px + dxI d, py + dyI d, d⟩) := Lib.hid (by
                rw [HNX.out, nxt_on (f := (ownF W H L a)) (s := ⟨px, py, d⟩) HF1.out (by show ownF W H L a (px + dxI d + dxI ((d + 3) % 4)) (py + dyI d + dyI ((d + 3) % 4)) = false; rw [HD3.out]; exact HF2.out)]
                rfl)
              have HOF := Lib.hid (row_set (b := w3.heap.size) (o := 1) (row_set (b := w3.heap.size) (o := 0) (row_keep HO7.out HB711.out) (by have := HQ.out; omega) (.int .i64 (px + dxI d))) (by have := HQ.out; omega : w3.heap.size < w6.heap.size) (.int .i64 (py + dyI d)))
              have HPF := Lib.hid HTS.out.1
              have HGF := Lib.hid (grown_set (grown_set (grown_then G7.out (HB711.out.mono hbs7)) 0 (.int .i64 (px + dxI d))) 1 (.int .i64 (py + dyI d)))
              have HBF : Hid (Below w.heap.size w ((w11.setCell ⟨w3.heap.size, 0, none⟩ (.int .i64 (px + dxI d))).setCell ⟨w3.heap.size, 1, none⟩ (.int .i64 (py + dyI d)))) := Lib.hid (((HB7.out.trans (HB711.out.mono HB7.out.size)).setCell (p := ⟨w3.heap.size, 0, none⟩) (by have := HQ.out; simp only; omega) _).setCell (p := ⟨w3.heap.size, 1, none⟩) (by have := HQ.out; simp only; omega) _)
              clear HTS
              generalize px + dxI d = XX at *
              generalize py + dyI d = YY at *
              have HLEN := Lib.hid (ptsK_length (ownF W H L a) (startS W i) (k + 1))
              by_cases hl : k + 1 = N
              · have heq : (⟨XX, YY, d⟩ : St) = startS W i := by rw [← HNN.out, hl, HOK.out.back]
                have hX : XX = fx := (congrArg St.x heq).trans HSX.out.1
                have hY : YY = fy := (congrArg St.y heq).trans HSX.out.2
                have hD : d = 0 := (congrArg St.d heq).trans HOK.out.d0
                have HLN := Lib.hid hl
                have hs3 : (d : Int) = 0 := by omega
                clear heq hl
                subst hX
                subst hY
                go_wp2
                rw [Exit.noGoto_ret]
                go_ret2
                rw [E2.out, E3.out, ← HLN.out]
                exact walk_fin HOF.out HLEN.out HBF.out (by omega)
              · have hne : ¬ (XX = fx ∧ YY = fy ∧ d = 0) := by
                  rintro ⟨q1, q2, q3⟩
                  exact HOK.out.low (k + 1) (by omega) (by have := HKG.out; omega) (by rw [HNN.out]; show (⟨XX, YY, d⟩ : St) = ⟨(startS W i).x, (startS W i).y, (startS W i).d⟩; rw [HSX.out.1, HSX.out.2, HOK.out.d0, q1, q2, q3])
                have hgk : 0 < gk - 1 := by have := HKG.out; omega
                by_cases hX : XX = fx
                · by_cases hY : YY = fy
                  · have hD : ¬ (d = 0) := fun q => hne ⟨hX, hY, q⟩
                    have hs3 : ¬ ((d : Int) = 0) := by omega
                    clear hne
                    subst hX
                    subst hY
                    go_wp2
                    go_roundg (gk - 1)
                    case measure => omega
                    case rel => exact ⟨k + 1, by have := HKG.out; omega, hgk, by rw [HNN.out], HOF, Lib.hid (by rw [HNN.out]; exact HPF.out), HGF⟩
                  · clear hne
                    subst hX
                    go_wp2
                    go_roundg (gk - 1)
                    case measure => omega
                    case rel => exact ⟨k + 1, by have := HKG.out; omega, hgk, by rw [HNN.out], HOF, Lib.hid (by rw [HNN.out]; exact HPF.out), HGF⟩
                · clear hne
                  go_wp2
                  go_roundg (gk - 1)
                  case measure => omega
                  case rel => exact ⟨k + 1, by have := HKG.out; omega, hgk, by rw [HNN.out], HOF, Lib.hid (by rw [HNN.out]; exact HPF.out), HGF⟩
          · have b1 : (atL W H L (px + dxI d) (py + dyI d) != a) = true := by simpa using h1
            have HF1 : Hid (ownF W H L a (px + dxI d) (py + dyI d) = false) := Lib.hid (by unfold ownF; simpa using h1)
            clear h1 l0 l1 l2 o0 o1 o2 o3
            generalize atL W H L (px + dxI d) (py + dyI d) = zz1 at *
            have HNN : Hid (itN (ownF W H L a) (k + 1) (startS W i) = ⟨px, py, d1⟩) := Lib.hid (by
              rw [HNX.out, nxt_left (f := (ownF W H L a)) (s := ⟨px, py, d⟩) HF1.out]
              exact st_eq rfl rfl HD1.out)
            have HOF := Lib.hid (row_keep HO7.out HB710.out)
            have HPF := Lib.hid ((HB710.out.block w3.heap.size Z7.out.1).trans hp7.out)
            have HGF := Lib.hid (grown_then G7.out (HB710.out.mono hbs7))
            have HBF := Lib.hid (HB7.out.trans (HB710.out.mono HB7.out.size))
            have HLEN := Lib.hid (ptsK_length (ownF W H L a) (startS W i) (k + 1))
            by_cases hl : k + 1 = N
            · have heq : (⟨px, py, d1⟩ : St) = startS W i := by rw [← HNN.out, hl, HOK.out.back]
              have hX : px = fx := (congrArg St.x heq).trans HSX.out.1
              have hY : py = fy := (congrArg St.y heq).trans HSX.out.2
              have hD : d1 = 0 := (congrArg St.d heq).trans HOK.out.d0
              have HLN := Lib.hid hl
              have hs3 : (d1 : Int) = 0 := by omega
              clear heq hl
              subst hX
              subst hY
              go_wp2
              rw [Exit.noGoto_ret]
              go_ret2
              rw [E2.out, E3.out, ← HLN.out]
              exact walk_fin HOF.out HLEN.out HBF.out (by omega)
            · have hne : ¬ (px = fx ∧ py = fy ∧ d1 = 0) := by
                rintro ⟨q1, q2, q3⟩
                exact HOK.out.low (k + 1) (by omega) (by have := HKG.out; omega) (by rw [HNN.out]; show (⟨px, py, d1⟩ : St) = ⟨(startS W i).x, (startS W i).y, (startS W i).d⟩; rw [HSX.out.1, HSX.out.2, HOK.out.d0, q1, q2, q3])
              have hgk : 0 < gk - 1 := by have := HKG.out; omega
              by_cases hX : px = fx
              · by_cases hY : py = fy
                · have hD : ¬ (d1 = 0) := fun q => hne ⟨hX, hY, q⟩
                  have hs3 : ¬ ((d1 : Int) = 0) := by omega
                  clear hne
                  subst hX
                  subst hY
                  go_wp2
                  go_roundg (gk - 1)
                  case measure => omega
                  case rel => exact ⟨k + 1, by have := HKG.out; omega, hgk, by rw [HNN.out], HOF, Lib.hid (by rw [HNN.out]; exact HPF.out), HGF⟩
                · clear hne
                  subst hX
                  go_wp2
                  go_roundg (gk - 1)
                  case measure => omega
                  case rel => exact ⟨k + 1, by have := HKG.out; omega, hgk, by rw [HNN.out], HOF, Lib.hid (by rw [HNN.out]; exact HPF.out), HGF⟩
              · clear hne
                go_wp2
                go_roundg (gk - 1)
                case measure => omega
                case rel => exact ⟨k + 1, by have := HKG.out; omega, hgk, by rw [HNN.out], HOF, Lib.hid (by rw [HNN.out]; exact HPF.out), HGF⟩
        · generalize hwz : World.drew _ = wz
          have hbz : Below w7.heap.size w7 wz := by
            rw [← hwz]
            repeat (first | exact Below.refl _ _ | refine below_drew ?_ | refine Below.alloc ?_ (by simp) _)
          have t0 : wz.cell? ⟨w7.heap.size + 1, 0, none⟩ = some (.int .i64 (dxI d)) := by rw [← hwz]; simp
          have t1 : wz.cell? ⟨w7.heap.size + 1, 1, none⟩ = some (.int .i64 (dyI d)) := by rw [← hwz]; simp
          have t2 : wz.cell? ⟨w7.heap.size, 0, none⟩ = some (.int .i64 (dxI d3)) := by rw [← hwz]; simp
          have t3 : wz.cell? ⟨w7.heap.size, 1, none⟩ = some (.int .i64 (dyI d3)) := by rw [← hwz]; simp
          have zz : wz.heap.size = w7.heap.size + 2 := by rw [← hwz]; simp
          clear hwz
          have p0 := ((bcell hbz).1 _ _ Z7.out.1).trans HM7.out.2.2.2.2.1
          have p1 := ((bcell hbz).1 _ _ Z7.out.1).trans HM7.out.2.2.2.2.2
          have hal1 : Below wz.heap.size wz (wz.alloc (.cells #[.int .i64 (px + dxI d), .int .i64 (py + dyI d)] 62)) := (Below.refl _ _).alloc (Nat.le_refl _) _
          have u2 := ((bcell hal1).1 w7.heap.size 0 (by omega)).trans t2
          have u3 := ((bcell hal1).1 w7.heap.size 1 (by omega)).trans t3
          have HZZ := Lib.hid zz
          have HBZ := Lib.hid hbz
          have HAL1 := Lib.hid hal1
          clear zz hbz hal1 n1 n3 n1t n3t v3 v4 hS14 Z70 HF14
          have hw9 : Below wz.heap.size wz ((wz.alloc (.cells #[.int .i64 (px + dxI d), .int .i64 (py + dyI d)] 62)).alloc (.cells #[.int .i64 (px + dxI d + dxI d3), .int .i64 (py + dyI d + dyI d3)] 62)) := ((Below.refl _ _).alloc (Nat.le_refl _) _).alloc (by simp) _
          have z9 : ((wz.alloc (.cells #[.int .i64 (px + dxI d), .int .i64 (py + dyI d)] 62)).alloc (.cells #[.int .i64 (px + dxI d + dxI d3), .int .i64 (py + dyI d + dyI d3)] 62)).heap.size = wz.heap.size + 2 := by simp
          have o0 : ((wz.alloc (.cells #[.int .i64 (px + dxI d), .int .i64 (py + dyI d)] 62)).alloc (.cells #[.int .i64 (px + dxI d + dxI d3), .int .i64 (py + dyI d + dyI d3)] 62)).cell? ⟨wz.heap.size, 0, none⟩ = some (.int .i64 (px + dxI d)) := by simp
          have o1 : ((wz.alloc (.cells #[.int .i64 (px + dxI d), .int .i64 (py + dyI d)] 62)).alloc (.cells #[.int .i64 (px + dxI d + dxI d3), .int .i64 (py + dyI d + dyI d3)] 62)).cell? ⟨wz.heap.size, 1, none⟩ = some (.int .i64 (py + dyI d)) := by simp
          have o2 : ((wz.alloc (.cells #[.int .i64 (px + dxI d), .int .i64 (py + dyI d)] 62)).alloc (.cells #[.int .i64 (px + dxI d + dxI d3), .int .i64 (py + dyI d + dyI d3)] 62)).cell? ⟨wz.heap.size + 1, 0, none⟩ = some (.int .i64 (px + dxI d + dxI d3)) := by simp
          have o3 : ((wz.alloc (.cells #[.int .i64 (px + dxI d), .int .i64 (py + dyI d)] 62)).alloc (.cells #[.int .i64 (px + dxI d + dxI d3), .int .i64 (py + dyI d + dyI d3)] 62)).cell? ⟨wz.heap.size + 1, 1, none⟩ = some (.int .i64 (py + dyI d + dyI d3)) := by simp
          have l0 := ((bcell (HBZ.out.trans (hw9.mono HBZ.out.size))).1 _ _ Z7.out.2.2.1).trans L7.out.1
          have l1 := ((bcell (HBZ.out.trans (hw9.mono HBZ.out.size))).1 _ _ Z7.out.2.2.1).trans L7.out.2.1
          have l2 := ((bcell (HBZ.out.trans (hw9.mono HBZ.out.size))).1 _ _ Z7.out.2.2.1).trans L7.out.2.2
          have HW9 := Lib.hid hw9
          have HZ9 := Lib.hid z9
          clear hw9 z9
          go_wp2_with fail
          clear t0 t1 t2 t3 p0 p1 u2 u3
          generalize (wz.alloc (.cells #[.int .i64 (px + dxI d), .int .i64 (py + dyI d)] 62)).alloc (.cells #[.int .i64 (px + dxI d + dxI d3), .int .i64 (py + dyI d + dyI d3)] 62) = w9 at *
          have HB7 : Hid (Below w.heap.size w w7) := Lib.hid (HB6.out.grown G7.out HB6.out.size (fun q hq => by injection hq with hq; have := HSZ6.out; omega))
          have HB79 : Hid (Below w7.heap.size w7 w9) := Lib.hid (HBZ.out.trans (HW9.out.mono HBZ.out.size))
          have HCAT : Hid (∀ (u : World) (X Y : Int), Below w9.heap.size w9 u → Calls Try.prog 42 #[.agg #[.int .i64 W, .int .i64 H, .slice A L.length cap], .int .i64 X, .int .i64 Y] u fun e w' => e = .returned (.int .i64 (atL W H L X Y)) ∧ Below u.heap.size u w') := Lib.hid (fun u X Y hu => by
            have h9 := HB7.out.trans (HB79.out.mono HB7.out.size)
            have hu2 := h9.trans (hu.mono h9.size)
            exact lAt (HR.out.below hu2 hB) (Nat.le_trans hB hu2.size) HV.out X Y)
          have HO := Lib.hid (And.intro o0 (And.intro o1 (And.intro o2 o3)))
          have HL9 := Lib.hid (And.intro l0 (And.intro l1 l2))
          have hoz9 : wz.heap.size + 1 < w9.heap.size := by have := HZ9.out; omega
          have hlz9 : w.heap.size < w9.heap.size := by have := HB79.out.size; have := Z7.out.2.2.1; omega
          refine (HCAT.out w9 _ _ (Below.refl _ _)).mono ?_
          rintro e w10 ⟨rfl, hb10⟩
          replace o0 := ((bcell hb10).1 _ _ (by omega)).trans o0
          replace o1 := ((bcell hb10).1 _ _ (by omega)).trans o1
          replace o2 := ((bcell hb10).1 _ _ (by omega)).trans o2
          replace o3 := ((bcell hb10).1 _ _ (by omega)).trans o3
          replace l0 := ((bcell hb10).1 _ _ hlz9).trans l0
          replace l1 := ((bcell hb10).1 _ _ hlz9).trans l1
          replace l2 := ((bcell hb10).1 _ _ hlz9).trans l2
          have HB910 := Lib.hid hb10
          have HB710 : Hid (Below w7.heap.size w7 w10) := Lib.hid (HB79.out.trans (hb10.mono HB79.out.size))
          have p0 := ((bcell HB710.out).1 _ _ Z7.out.1).trans HM7.out.2.2.2.2.1
          have p1 := ((bcell HB710.out).1 _ _ Z7.out.1).trans HM7.out.2.2.2.2.2
          have s0 := ((bcell HB710.out).1 _ _ Z7.out.2.1).trans S7.out.1
          have s1 := ((bcell HB710.out).1 _ _ Z7.out.2.1).trans S7.out.2
          clear hb10
          by_cases h1 : atL W H L (px + dxI d) (py + dyI d) = a
          · have b1 : (atL W H L (px + dxI d) (py + dyI d) != a) = false := by simpa using h1
            have HF1 : Hid (ownF W H L a (px + dxI d) (py + dyI d) = true) := Lib.hid (by unfold ownF; simpa using h1)
            clear h1
            generalize atL W H L (px + dxI d) (py + dyI d) = zz1 at *
            go_wp2_with fail
            refine (HCAT.out w10 _ _ HB910.out).mono ?_
            rintro e w11 ⟨rfl, hb11⟩
            have hs10 : w9.heap.size ≤ w10.heap.size := HB910.out.size
            have hs710 : w7.heap.size ≤ w10.heap.size := HB710.out.size
            have hz7 := Z7.out
            replace o0 := ((bcell hb11).1 _ _ (by omega)).trans o0
            replace o1 := ((bcell hb11).1 _ _ (by omega)).trans o1
            replace o2 := ((bcell hb11).1 _ _ (by omega)).trans o2
            replace o3 := ((bcell hb11).1 _ _ (by omega)).trans o3
            replace p0 := ((bcell hb11).1 _ _ (by omega)).trans p0
            replace p1 := ((bcell hb11).1 _ _ (by omega)).trans p1
            replace s0 := ((bcell hb11).1 _ _ (by omega)).trans s0
            replace s1 := ((bcell hb11).1 _ _ (by omega)).trans s1
            have HB711 : Hid (Below w7.heap.size w7 w11) := Lib.hid (HB710.out.trans (hb11.mono HB710.out.size))
            have hpb := (HB711.out.block w3.heap.size Z7.out.1).trans hp7.out
            have z0 : w11.frozen? ⟨w3.heap.size, 0, none⟩ = false := by simp [World.frozen?, hpb]
            have z1 : w11.frozen? ⟨w3.heap.size, 1, none⟩ = false := by simp [World.frozen?, hpb]
            have HPB := Lib.hid hpb
            clear hpb
            clear hb11 hz7 l0 l1 l2
            by_cases h2 : atL W H L (px + dxI d + dxI d3) (py + dyI d + dyI d3) = a
            · have b2 : (atL W H L (px + dxI d + dxI d3) (py + dyI d + dyI d3) != a) = false := by simpa using h2
              have HF2 : Hid (ownF W H L a (px + dxI d + dxI d3) (py + dyI d + dyI d3) = true) := Lib.hid (by unfold ownF; simpa using h2)
              clear h2
              generalize atL W H L (px + dxI d + dxI d3) (py + dyI d + dyI d3) = zz2 at *
              have hts := two_set HPB.out (px + dxI d + dxI d3) (py + dyI d + dyI d3)
              have hne13 : w1.heap.size ≠ w3.heap.size := by have := HQ.out; omega
              have s0' := (hts.2 _ 0 hne13).trans s0
              have s1' := (hts.2 _ 1 hne13).trans s1
              have p0' := (cell_of_row _ _ 0 _ _ (0, 0) hts.1).trans rfl
              have p1' := (cell_of_row _ _ 1 _ _ (0, 0) hts.1).trans rfl
              have HTS := Lib.hid hts
              clear hts
              simp only [List.getElem?_toArray, List.getElem?_cons_zero, List.getElem?_cons_succ] at p0' p1'
              have HNN : Hid (itN (ownF W H L a) (k + 1) (startS W i) = ⟨px + dxI d + dxI d3, py + dyI d + dyI d3, d3⟩) := Lib.hid (by
                rw [HNX.out, nxt_right (f := (ownF W H L a)) (s := ⟨px, py, d⟩) HF1.out (by show ownF W H L a (px + dxI d + dxI ((d + 3) % 4)) (py + dyI d + dyI ((d + 3) % 4)) = true; rw [HD3.out]; exact HF2.out)]
                exact st_eq (by show px + dxI d + dxI ((d + 3) % 4) = _; rw [HD3.out]) (by show py + dyI d + dyI ((d + 3) % 4) = _; rw [HD3.out]) HD3.out)
              have HOF := Lib.hid (row_set (b := w3.heap.size) (o := 1) (row_set (b := w3.heap.size) (o := 0) (row_keep HO7.out HB711.out) (by have := HQ.out; omega) (.int .i64 (px + dxI d + dxI d3))) (by have := HQ.out; omega : w3.heap.size < w6.heap.size) (.int .i64 (py + dyI d + dyI d3)))
              have HPF := Lib.hid HTS.out.1
              have HGF := Lib.hid (grown_set (grown_set (grown_then G7.out (HB711.out.mono hbs7)) 0 (.int .i64 (px + dxI d + dxI d3))) 1 (.int .i64 (py + dyI d + dyI d3)))
              have HBF : Hid (Below w.heap.size w ((w11.setCell ⟨w3.heap.size, 0, none⟩ (.int .i64 (px + dxI d + dxI d3))).setCell ⟨w3.heap.size, 1, none⟩ (.int .i64 (py + dyI d + dyI d3)))) := Lib.hid (((HB7.out.trans (HB711.out.mono HB7.out.size)).setCell (p := ⟨w3.heap.size, 0, none⟩) (by have := HQ.out; simp only; omega) _).setCell (p := ⟨w3.heap.size, 1, none⟩) (by have := HQ.out; simp only; omega) _)
              clear HTS
              generalize px + dxI d + dxI d3 = XX at *
              generalize py + dyI d + dyI d3 = YY at *
              have HLEN := Lib.hid (ptsK_length (ownF W H L a) (startS W i) (k + 1))
              by_cases hl : k + 1 = N
              · have heq : (⟨XX, YY, d3⟩ : St) = startS W i := by rw [← HNN.out, hl, HOK.out.back]
                have hX : XX = fx := (congrArg St.x heq).trans HSX.out.1
                have hY : YY = fy := (congrArg St.y heq).trans HSX.out.2
                have hD : d3 = 0 := (congrArg St.d heq).trans HOK.out.d0
                have HLN := Lib.hid hl
                have hs3 : ((d : Int) + 3) % 4 = 0 := by have := HD3.out; omega
                clear heq hl
                subst hX
                subst hY
                go_wp2
                rw [Exit.noGoto_ret]
                go_ret2
                rw [E2.out, E3.out, ← HLN.out]
                exact walk_fin HOF.out HLEN.out HBF.out (by omega)
              · have hne : ¬ (XX = fx ∧ YY = fy ∧ d3 = 0) := by
                  rintro ⟨q1, q2, q3⟩
                  exact HOK.out.low (k + 1) (by omega) (by have := HKG.out; omega) (by rw [HNN.out]; show (⟨XX, YY, d3⟩ : St) = ⟨(startS W i).x, (startS W i).y, (startS W i).d⟩; rw [HSX.out.1, HSX.out.2, HOK.out.d0, q1, q2, q3])
                have hgk : 0 < gk - 1 := by have := HKG.out; omega
                by_cases hX : XX = fx
                · by_cases hY : YY = fy
                  · have hD : ¬ (d3 = 0) := fun q => hne ⟨hX, hY, q⟩
                    have hs3 : ¬ (((d : Int) + 3) % 4 = 0) := by have := HD3.out; omega
                    clear hne
                    subst hX
                    subst hY
                    go_wp2
                    go_roundg (gk - 1)
                    case measure => omega
                    case rel => exact ⟨k + 1, by have := HKG.out; omega, hgk, by rw [HNN.out]; exact (show Value.int .i64 (((d : Int) + 3) % 4) = .int .i64 ((d3 : Nat) : Int) from int_of (by have := HD3.out; omega)), HOF, Lib.hid (by rw [HNN.out]; exact HPF.out), HGF⟩
                  · clear hne
                    subst hX
                    go_wp2
                    go_roundg (gk - 1)
                    case measure => omega
                    case rel => exact ⟨k + 1, by have := HKG.out; omega, hgk, by rw [HNN.out]; exact (show Value.int .i64 (((d : Int) + 3) % 4) = .int .i64 ((d3 : Nat) : Int) from int_of (by have := HD3.out; omega)), HOF, Lib.hid (by rw [HNN.out]; exact HPF.out), HGF⟩
                · clear hne
                  go_wp2
                  go_roundg (gk - 1)
                  case measure => omega
                  case rel => exact ⟨k + 1, by have := HKG.out; omega, hgk, by rw [HNN.out]; exact (show Value.int .i64 (((d : Int) + 3) % 4) = .int .i64 ((d3 : Nat) : Int) from int_of (by have := HD3.out; omega)), HOF, Lib.hid (by rw [HNN.out]; exact HPF.out), HGF⟩
            · have b2 : (atL W H L (px + dxI d + dxI d3) (py + dyI d + dyI d3) != a) = true := by simpa using h2
              have HF2 : Hid (ownF W H L a (px + dxI d + dxI d3) (py + dyI d + dyI d3) = false) := Lib.hid (by unfold ownF; simpa using h2)
              clear h2
              generalize atL W H L (px + dxI d + dxI d3) (py + dyI d + dyI d3) = zz2 at *
              have hts := two_set HPB.out (px + dxI d) (py + dyI d)
              have hne13 : w1.heap.size ≠ w3.heap.size := by have := HQ.out; omega
              have s0' := (hts.2 _ 0 hne13).trans s0
              have s1' := (hts.2 _ 1 hne13).trans s1
              have p0' := (cell_of_row _ _ 0 _ _ (0, 0) hts.1).trans rfl
              have p1' := (cell_of_row _ _ 1 _ _ (0, 0) hts.1).trans rfl
              have HTS := Lib.hid hts
              clear hts
              simp only [List.getElem?_toArray, List.getElem?_cons_zero, List.getElem?_cons_succ] at p0' p1'
              have HNN : Hid (itN (ownF W H L a) (k + 1) (startS W i) = ⟨px + dxI d, py + dyI d, d⟩) := Lib.hid (by
                rw [HNX.out, nxt_on (f := (ownF W H L a)) (s := ⟨px, py, d⟩) HF1.out (by show ownF W H L a (px + dxI d + dxI ((d + 3) % 4)) (py + dyI d + dyI ((d + 3) % 4)) = false; rw [HD3.out]; exact HF2.out)]
                rfl)
              have HOF := Lib.hid (row_set (b := w3.heap.size) (o := 1) (row_set (b := w3.heap.size) (o := 0) (row_keep HO7.out HB711.out) (by have := HQ.out; omega) (.int .i64 (px + dxI d))) (by have := HQ.out; omega : w3.heap.size < w6.heap.size) (.int .i64 (py + dyI d)))
              have HPF := Lib.hid HTS.out.1
              have HGF := Lib.hid (grown_set (grown_set (grown_then G7.out (HB711.out.mono hbs7)) 0 (.int .i64 (px + dxI d))) 1 (.int .i64 (py + dyI d)))
              have HBF : Hid (Below w.heap.size w ((w11.setCell ⟨w3.heap.size, 0, none⟩ (.int .i64 (px + dxI d))).setCell ⟨w3.heap.size, 1, none⟩ (.int .i64 (py + dyI d)))) := Lib.hid (((HB7.out.trans (HB711.out.mono HB7.out.size)).setCell (p := ⟨w3.heap.size, 0, none⟩) (by have := HQ.out; simp only; omega) _).setCell (p := ⟨w3.heap.size, 1, none⟩) (by have := HQ.out; simp only; omega) _)
              clear HTS
              generalize px + dxI d = XX at *
              generalize py + dyI d = YY at *
              have HLEN := Lib.hid (ptsK_length (ownF W H L a) (startS W i) (k + 1))
              by_cases hl : k + 1 = N
              · have heq : (⟨XX, YY, d⟩ : St) = startS W i := by rw [← HNN.out, hl, HOK.out.back]
                have hX : XX = fx := (congrArg St.x heq).trans HSX.out.1
                have hY : YY = fy := (congrArg St.y heq).trans HSX.out.2
                have hD : d = 0 := (congrArg St.d heq).trans HOK.out.d0
                have HLN := Lib.hid hl
                have hs3 : (d : Int) = 0 := by omega
                clear heq hl
                subst hX
                subst hY
                go_wp2
                rw [Exit.noGoto_ret]
                go_ret2
                rw [E2.out, E3.out, ← HLN.out]
                exact walk_fin HOF.out HLEN.out HBF.out (by omega)
              · have hne : ¬ (XX = fx ∧ YY = fy ∧ d = 0) := by
                  rintro ⟨q1, q2, q3⟩
                  exact HOK.out.low (k + 1) (by omega) (by have := HKG.out; omega) (by rw [HNN.out]; show (⟨XX, YY, d⟩ : St) = ⟨(startS W i).x, (startS W i).y, (startS W i).d⟩; rw [HSX.out.1, HSX.out.2, HOK.out.d0, q1, q2, q3])
                have hgk : 0 < gk - 1 := by have := HKG.out; omega
                by_cases hX : XX = fx
                · by_cases hY : YY = fy
                  · have hD : ¬ (d = 0) := fun q => hne ⟨hX, hY, q⟩
                    have hs3 : ¬ ((d : Int) = 0) := by omega
                    clear hne
                    subst hX
                    subst hY
                    go_wp2
                    go_roundg (gk - 1)
                    case measure => omega
                    case rel => exact ⟨k + 1, by have := HKG.out; omega, hgk, by rw [HNN.out], HOF, Lib.hid (by rw [HNN.out]; exact HPF.out), HGF⟩
                  · clear hne
                    subst hX
                    go_wp2
                    go_roundg (gk - 1)
                    case measure => omega
                    case rel => exact ⟨k + 1, by have := HKG.out; omega, hgk, by rw [HNN.out], HOF, Lib.hid (by rw [HNN.out]; exact HPF.out), HGF⟩
                · clear hne
                  go_wp2
                  go_roundg (gk - 1)
                  case measure => omega
                  case rel => exact ⟨k + 1, by have := HKG.out; omega, hgk, by rw [HNN.out], HOF, Lib.hid (by rw [HNN.out]; exact HPF.out), HGF⟩
          · have b1 : (atL W H L (px + dxI d) (py + dyI d) != a) = true := by simpa using h1
            have HF1 : Hid (ownF W H L a (px + dxI d) (py + dyI d) = false) := Lib.hid (by unfold ownF; simpa using h1)
            clear h1 l0 l1 l2 o0 o1 o2 o3
            generalize atL W H L (px + dxI d) (py + dyI d) = zz1 at *
            have HNN : Hid (itN (ownF W H L a) (k + 1) (startS W i) = ⟨px, py, d1⟩) := Lib.hid (by
              rw [HNX.out, nxt_left (f := (ownF W H L a)) (s := ⟨px, py, d⟩) HF1.out]
              exact st_eq rfl rfl HD1.out)
            have HOF := Lib.hid (row_keep HO7.out HB710.out)
            have HPF := Lib.hid ((HB710.out.block w3.heap.size Z7.out.1).trans hp7.out)
            have HGF := Lib.hid (grown_then G7.out (HB710.out.mono hbs7))
            have HBF := Lib.hid (HB7.out.trans (HB710.out.mono HB7.out.size))
            have HLEN := Lib.hid (ptsK_length (ownF W H L a) (startS W i) (k + 1))
            by_cases hl : k + 1 = N
            · have heq : (⟨px, py, d1⟩ : St) = startS W i := by rw [← HNN.out, hl, HOK.out.back]
              have hX : px = fx := (congrArg St.x heq).trans HSX.out.1
              have hY : py = fy := (congrArg St.y heq).trans HSX.out.2
              have hD : d1 = 0 := (congrArg St.d heq).trans HOK.out.d0
              have HLN := Lib.hid hl
              have hs3 : (d1 : Int) = 0 := by omega
              clear heq hl
              subst hX
              subst hY
              go_wp2
              rw [Exit.noGoto_ret]
              go_ret2
              rw [E2.out, E3.out, ← HLN.out]
              exact walk_fin HOF.out HLEN.out HBF.out (by omega)
            · have hne : ¬ (px = fx ∧ py = fy ∧ d1 = 0) := by
                rintro ⟨q1, q2, q3⟩
                exact HOK.out.low (k + 1) (by omega) (by have := HKG.out; omega) (by rw [HNN.out]; show (⟨px, py, d1⟩ : St) = ⟨(startS W i).x, (startS W i).y, (startS W i).d⟩; rw [HSX.out.1, HSX.out.2, HOK.out.d0, q1, q2, q3])
              have hgk : 0 < gk - 1 := by have := HKG.out; omega
              by_cases hX : px = fx
              · by_cases hY : py = fy
                · have hD : ¬ (d1 = 0) := fun q => hne ⟨hX, hY, q⟩
                  have hs3 : ¬ ((d1 : Int) = 0) := by omega
                  clear hne
                  subst hX
                  subst hY
                  go_wp2
                  go_roundg (gk - 1)
                  case measure => omega
                  case rel => exact ⟨k + 1, by have := HKG.out; omega, hgk, by rw [HNN.out], HOF, Lib.hid (by rw [HNN.out]; exact HPF.out), HGF⟩
                · clear hne
                  subst hX
                  go_wp2
                  go_roundg (gk - 1)
                  case measure => omega
                  case rel => exact ⟨k + 1, by have := HKG.out; omega, hgk, by rw [HNN.out], HOF, Lib.hid (by rw [HNN.out]; exact HPF.out), HGF⟩
              · clear hne
                go_wp2
                go_roundg (gk - 1)
                case measure => omega
                case rel => exact ⟨k + 1, by have := HKG.out; omega, hgk, by rw [HNN.out], HOF, Lib.hid (by rw [HNN.out]; exact HPF.out), HGF⟩
  · obtain ⟨e1, e2⟩ := wkE_chk hk
    have E1 := Lib.hid e1
    have E2 := Lib.hid e2
    have hne : (lkd W H L a != 0) = true := by simpa using hk
    clear hk h hal hsz b0 b1 b2 HSZ e1 e2
    generalize lkd W H L a = c at *
    go_enter Try.func16, Try.ntmps16
    go_wp2
    go_step3
    go_wp2_with fail
    refine C1.mono ?_
    rintro e w1 ⟨rfl, hb⟩
    have HB1 := Lib.hid (HAL.out.trans (hb.mono HAL.out.size))
    clear hb
    go_wp2
    rw [Exit.noGoto_ret]
    go_ret2
    rw [E1.out, E2.out]
    exact ⟨none, 0, rfl, RdOf.nil _ _ _, HB1.out⟩
end Go.Proofs.Ytdkcpnmaglkmnaa

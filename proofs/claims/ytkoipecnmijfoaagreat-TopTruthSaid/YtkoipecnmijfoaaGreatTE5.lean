import Derived.Test.YtkoipecnmijfoaaGreatTE4
/-! Walks of the estate of two heirs and one item: Pay. -/
namespace Go.Proofs.YtkoipecnmijfoaaGreat
open Go.RowKit Go.Deep
set_option linter.unusedVariables false
set_option maxRecDepth 100000

def unitE (s : Int) : Int := (s + s) * (s + s)
theorem Two.one {s x y : Int} (h : Two s x y) : -4000000000000 ≤ eOne s x y ∧ eOne s x y ≤ 4000000000000 := by
  have h1 := h.spool; have h2 := h.sx; have h3 := h.w
  have h4 := h.in_ (c := s * x) (v := wOne x y) h2.1 h2.2 h3.1 h3.2.1
  unfold eOne exE; omega
theorem Two.two {s x y : Int} (h : Two s x y) : -4000000000000 ≤ eTwo s x y ∧ eTwo s x y ≤ 4000000000000 := by
  have h1 := h.spool; have h2 := h.sy; have h3 := h.w
  have h4 := h.in_ (c := s * y) (v := wTwo x y) h2.1 h2.2 h3.2.2.1 h3.2.2.2.1
  unfold eTwo exE; omega
theorem Two.unit {s x y : Int} (h : Two s x y) : 4 ≤ unitE s ∧ unitE s ≤ 1000000 := by
  have h1 := h.s1; have h2 := h.s2
  have h3 := mulB (a := s + s) (b := s + s) (A := 1000) (B := 1000) (by omega) (by omega) (by omega) (by omega)
  have h4 := Int.mul_le_mul_of_nonneg_left (show 2 ≤ s + s by omega) (show 0 ≤ s + s by omega)
  unfold unitE
  omega
/-- both together are nothing -/
theorem eOne_two (s x y : Int) : eTwo s x y = -eOne s x y := by
  have hp : (s + s) * (wOne x y + wTwo x y) = (s + s) * wOne x y + (s + s) * wTwo x y := Int.mul_add _ _ _
  unfold eOne eTwo exE poolE
  rw [hp]
  generalize (s + s) * wOne x y = p
  generalize (s + s) * wTwo x y = q
  generalize s * x = a
  generalize s * y = b
  rw [Int.add_mul, Int.add_mul]
  rw [show p + q - (a + b) = (p - a) + (q - b) by omega, Int.mul_add]
  rw [show b - q = -(q - b) by omega, show a - p = -(p - a) by omega, Int.mul_neg, Int.mul_neg]
  omega
/-- what the first heir pays: its exact payment, rounded down or one more -/
def PayOk (s x y a b : Int) : Prop := (a = eOne s x y / unitE s ∨ a = eOne s x y / unitE s + 1) ∧ (eOne s x y % unitE s = 0 → a = eOne s x y / unitE s ∧ b = eTwo s x y / unitE s)
def PayERes (w : World) (s x y : Int) (e : Ending) (w' : World) : Prop := ∃ g a b, e = .returned (.tuple #[.slice (some ⟨g, 0, none⟩) 2 2, .int .i64 0]) ∧ Own w' g 3 [a, b] ∧ PayOk s x y a b ∧ (I64 a ∧ I64 b) ∧ Below w.heap.size w w'
theorem three_heap (w : World) (o1 o2 o3 : Obj) : (((w.alloc o1).alloc o2).alloc o3).heap[w.heap.size]? = some o1 ∧ (((w.alloc o1).alloc o2).alloc o3).heap[w.heap.size + 1]? = some o2 ∧ (((w.alloc o1).alloc o2).alloc o3).heap[w.heap.size + 1 + 1]? = some o3
    ∧ Below w.heap.size w (((w.alloc o1).alloc o2).alloc o3) := by
  have s1 : (w.alloc o1).heap.size = w.heap.size + 1 := by simp
  have s2 : ((w.alloc o1).alloc o2).heap.size = w.heap.size + 1 + 1 := by simp
  have h1 : (w.alloc o1).heap[w.heap.size]? = some o1 := heap_alloc_new w o1
  have h2 : ((w.alloc o1).alloc o2).heap[w.heap.size + 1]? = some o2 := by have := heap_alloc_new (w.alloc o1) o2; rwa [s1] at this
  have h3 : (((w.alloc o1).alloc o2).alloc o3).heap[w.heap.size + 1 + 1]? = some o3 := by have := heap_alloc_new ((w.alloc o1).alloc o2) o3; rwa [s2] at this
  refine ⟨?_, ?_, h3, (((Below.refl _ _).alloc (Nat.le_refl _) _).alloc (by rw [s1]; omega) _).alloc (by rw [s2]; omega) _⟩
  · rw [Below.heap_alloc _ _ _ (by rw [s2]; omega), Below.heap_alloc _ _ _ (by rw [s1]; omega)]; exact h1
  · rw [Below.heap_alloc _ _ _ (by rw [s2]; omega)]; exact h2
set_option maxHeartbeats 4000000 in
theorem ePay {w : World} {B C : Nat} {AS AB : Option Addr} {s x y : Int} {cs cb : Nat} (hS : Rd w B AS [s, s]) (hR : Rd2 w C AB [[x], [y]]) (hB : B ≤ w.heap.size) (hC : C ≤ w.heap.size) (h2 : Two s x y) :
    Calls Tryz.prog 15 #[.agg #[.slice AS 2 cs, .slice AB 2 cb]] w (PayERes w s x y) := by
  have hal := (Below.refl w.heap.size w).alloc (Nat.le_refl _) (.cells #[.slice AS 2 cs, .slice AB 2 cb] 41)
  have hK : Blk (w.alloc (.cells #[.slice AS 2 cs, .slice AB 2 cb] 41)) w.heap.size 41 [.slice AS 2 cs, .slice AB 2 cb] := Blk.new _ _ _
  have hc0 := hK.cell (i := 0) rfl
  have hc1 := hK.cell (i := 1) rfl
  have hsz : (w.alloc (.cells #[.slice AS 2 cs, .slice AB 2 cb] 41)).heap.size = w.heap.size + 1 := by simp
  have C1 := Lib.hid (eExact (cs := cs) (cb := cb) (hS.below hal hB) (hR.below hal hC) (by rw [hsz]; omega) (by rw [hsz]; omega) h2)
  have HS := Lib.hid fun (u : World) (hu : Below w.heap.size w u) => hS.below hu hB
  have HK := Lib.hid hK
  have HAL := Lib.hid hal
  have HSZ := Lib.hid hsz
  have H2 := Lib.hid h2
  have hmk2 : ∀ u : World, (Instr.makeSlice 22 (.int .i64 2) (.int .i64 2)).run Tryz.prog u = .ok (.slice (some ⟨u.heap.size, 0, none⟩) 2 2) (u.alloc (.cells #[.int .i64 0, .int .i64 0] 3)) := fun u => by kernel_rfl
  clear hS hR hK hal hsz
  go_enter Tryz.func15, Tryz.ntmps15
  go_wp2_with fail
  generalize w.alloc (.cells #[.slice AS 2 cs, .slice AB 2 cb] 41) = w1 at *
  refine C1.out.mono ?_
  rintro e w2 ⟨gx, rfl, hX, hb2⟩
  have HB2 := Lib.hid (HAL.out.trans (hb2.mono HAL.out.size))
  have HK2 := Lib.hid (HK.out.below hb2 HK.out.lt)
  have HX := Lib.hid hX
  clear hc0 hc1 hb2 C1 HK HAL HSZ hX
  have hc0 := HK2.out.cell (i := 0) rfl
  have CS := Lib.hid (eSum (cap := cs) (HS.out _ HB2.out) (by simp) (fun z hz => by have := H2.out.s1; have := H2.out.s2; simp at hz; omega))
  rw [show sumL [s, s] = s + s by simp [sumL]] at CS
  go_wp2_with fail
  refine CS.out.mono ?_
  rintro e w' ⟨rfl, rfl⟩
  clear hc0 CS
  have hun := h2.unit
  have hUd : Hid (unitE s = (s + s) * (s + s)) := Lib.hid rfl
  have e1 : IntKind.i64.wrap ((s + s) * (s + s)) = unitE s := by rw [← hUd.out]; exact IntWalk.i64_in _ (by omega)
  clear h2
  generalize hU : unitE s = U at *
  have HU := Lib.hid hU
  clear hU
  go_upto_region 6 with fail
  go_cut [7] (fun t wx => ∃ p ga gb : Nat, t = .pointer (some ⟨p, 0, none⟩) ∧ Hid (Blk wx p 65 [.slice (some ⟨ga, 0, none⟩) 2 2, .slice (some ⟨gb, 0, none⟩) 2 2]) ∧ Hid (Own wx ga 3 [0, 0]) ∧ Hid (Own wx gb 3 [0, 0]) ∧ Hid (ga ≠ gb ∧ p ≠ ga ∧ p ≠ gb ∧ w2.heap.size ≤ p ∧ w2.heap.size ≤ ga ∧ w2.heap.size ≤ gb) ∧ Hid (Below w2.heap.size w2 wx))
  case first =>
    go_region_law (fail)
    all_goals
      (try go_wp2_with fail)
      go_meet
      first
      | exact ⟨w2.heap.size, w2.heap.size + 1, w2.heap.size + 1 + 1, rfl, Lib.hid (three_heap w2 _ _ _).1, Lib.hid (three_heap w2 _ _ _).2.1, Lib.hid (three_heap w2 _ _ _).2.2.1, Lib.hid (by omega), Lib.hid (three_heap w2 _ _ _).2.2.2.drew⟩
      | exact ⟨w2.heap.size, w2.heap.size + 1 + 1, w2.heap.size + 1, rfl, Lib.hid (three_heap w2 _ _ _).1, Lib.hid (three_heap w2 _ _ _).2.2.1, Lib.hid (three_heap w2 _ _ _).2.1, Lib.hid (by omega), Lib.hid (three_heap w2 _ _ _).2.2.2.drew⟩
      | exact ⟨w2.heap.size + 1, w2.heap.size, w2.heap.size + 1 + 1, rfl, Lib.hid (three_heap w2 _ _ _).2.1, Lib.hid (three_heap w2 _ _ _).1, Lib.hid (three_heap w2 _ _ _).2.2.1, Lib.hid (by omega), Lib.hid (three_heap w2 _ _ _).2.2.2.drew⟩
      | exact ⟨w2.heap.size + 1, w2.heap.size + 1 + 1, w2.heap.size, rfl, Lib.hid (three_heap w2 _ _ _).2.1, Lib.hid (three_heap w2 _ _ _).2.2.1, Lib.hid (three_heap w2 _ _ _).1, Lib.hid (by omega), Lib.hid (three_heap w2 _ _ _).2.2.2.drew⟩
      | exact ⟨w2.heap.size + 1 + 1, w2.heap.size, w2.heap.size + 1, rfl, Lib.hid (three_heap w2 _ _ _).2.2.1, Lib.hid (three_heap w2 _ _ _).1, Lib.hid (three_heap w2 _ _ _).2.1, Lib.hid (by omega), Lib.hid (three_heap w2 _ _ _).2.2.2.drew⟩
      | exact ⟨w2.heap.size + 1 + 1, w2.heap.size + 1, w2.heap.size, rfl, Lib.hid (three_heap w2 _ _ _).2.2.1, Lib.hid (three_heap w2 _ _ _).2.1, Lib.hid (three_heap w2 _ _ _).1, Lib.hid (by omega), Lib.hid (three_heap w2 _ _ _).2.2.2.drew⟩
  case rest =>
  obtain ⟨p, ga, gb, rfl, HP, HA, HBo, HNE, HBC⟩ := hcut
  have HB3 := Lib.hid (HB2.out.trans (HBC.out.mono HB2.out.size))
  have HX3 := Lib.hid (HX.out.below HBC.out HX.out.lt)
  have HLT : Hid (gx < w2.heap.size) := Lib.hid HX.out.lt
  have HGE : Hid (w.heap.size ≤ w2.heap.size) := Lib.hid HB2.out.size
  clear HX HK2 HB2 HS
  have HBA := Lib.hid ((Below.refl wc.heap.size wc).alloc (Nat.le_refl _) (.cells #[.int .i64 0, .int .i64 0] 3))
  have HOr : Hid (Own (wc.alloc (.cells #[.int .i64 0, .int .i64 0] 3)) wc.heap.size 3 [0, 0]) := Lib.hid (heap_alloc_new wc _)
  have HG : Hid (gx < wc.heap.size ∧ ga < wc.heap.size ∧ gb < wc.heap.size ∧ p < wc.heap.size ∧ w2.heap.size ≤ wc.heap.size) := Lib.hid ⟨HX3.out.lt, HA.out.lt, HBo.out.lt, HP.out.lt, HBC.out.size⟩
  have HP4 := Lib.hid (HP.out.alloc (.cells #[.int .i64 0, .int .i64 0] 3))
  have HA4 := Lib.hid (HA.out.alloc (.cells #[.int .i64 0, .int .i64 0] 3))
  have HC4 := Lib.hid (HBo.out.alloc (.cells #[.int .i64 0, .int .i64 0] 3))
  have HX4 := Lib.hid (HX3.out.alloc (.cells #[.int .i64 0, .int .i64 0] 3))
  have HB4 := Lib.hid (HB3.out.trans (HBA.out.mono HB3.out.size))
  clear HP HA HBo HX3 HBA HB3 HBC
  go_wp2_with fail
  generalize wc.alloc (.cells #[.int .i64 0, .int .i64 0] 3) = w4 at *
  generalize hgo : wc.heap.size = go at *
  clear hgo wc
  have hb1 := H2.out.one
  have hb2 := H2.out.two
  have HE := Lib.hid (eOne_two s x y)
  have HPK : Hid (∀ a b, (a = eOne s x y / U ∨ a = eOne s x y / U + 1) ∧ (eOne s x y % U = 0 → a = eOne s x y / U ∧ b = eTwo s x y / U) → PayOk s x y a b) := Lib.hid fun a b h => by rw [PayOk, HU.out]; exact h
  generalize eOne s x y = E0 at *
  generalize eTwo s x y = E1 at *
  have hU0 : ¬ U = 0 := by omega
  go_loopw [39] (fun iv wr => ∃ (k : Nat) (O A R : List Int), k ≤ 2 ∧ iv = .int .i64 k ∧ Hid (Own wr go 3 O) ∧ Hid (Own wr ga 3 A) ∧ Hid (Own wr gb 3 R) ∧ Hid (Blk wr p 65 [.slice (some ⟨ga, 0, none⟩) 2 2, .slice (some ⟨gb, 0, none⟩) 2 2]) ∧ Hid (Own wr gx 3 [E0, E1]) ∧ Hid (Below w.heap.size w wr)
    ∧ Hid (O.length = 2 ∧ A.length = 2 ∧ R.length = 2 ∧ ∀ j e, j < k → [E0, E1][j]? = some e → O[j]? = some (j : Int) ∧ A[j]? = some (e / U) ∧ R[j]? = some (e % U))) (fun iv _ => 2 - (intOf iv).toNat)
  case atStart => exact ⟨0, [0, 0], [0, 0], [0, 0], by omega, rfl, HOr, HA4, HC4, HP4, HX4, HB4, Lib.hid ⟨rfl, rfl, rfl, fun j e hj => by omega⟩⟩
  case round =>
    obtain ⟨k, O, A, R, hk, rfl, hO, hA, hR, hP, hX, hb, hL⟩ := hrel
    by_cases hlt : k < 2
    · obtain ⟨e, he⟩ : ∃ e, [E0, E1][k]? = some e := ⟨[E0, E1][k], by simp [hlt]⟩
      have heb : -4000000000000 ≤ e ∧ e ≤ 4000000000000 := by
        have := List.mem_of_getElem? he
        simp at this
        rcases this with rfl | rfl <;> omega
      obtain ⟨f1, f2, f3, f4, f5, f6, f7, f8⟩ := round_facts (E := e) (U := U) (by omega) hun.2 heb
      have hce := hX.out.cell he
      obtain ⟨l1, l2, l3, l4⟩ := hL.out
      obtain ⟨o, ho⟩ : ∃ o, O[k]? = some o := ⟨O[k]'(by omega), by simp⟩
      obtain ⟨a, ha⟩ : ∃ a, A[k]? = some a := ⟨A[k]'(by omega), by simp⟩
      obtain ⟨r, hr⟩ : ∃ r, R[k]? = some r := ⟨R[k]'(by omega), by simp⟩
      have hco := hO.out.cell ho
      have hfo := hO.out.frozen k
      have hNE := HNE.out
      have hGG := HG.out
      have HL2 : Hid ((O.set k (k : Int)).length = 2 ∧ (A.set k (e / U)).length = 2 ∧ (R.set k (e % U)).length = 2 ∧ ∀ j e', j < k + 1 → [E0, E1][j]? = some e' → (O.set k (k : Int))[j]? = some (j : Int) ∧ (A.set k (e / U))[j]? = some (e' / U) ∧ (R.set k (e % U))[j]? = some (e' % U)) := Lib.hid (by
        refine ⟨by rw [List.length_set]; exact l1, by rw [List.length_set]; exact l2, by rw [List.length_set]; exact l3, fun j e' hj he' => ?_⟩
        by_cases hjk : j = k
        · subst hjk
          rw [he] at he'
          cases he'
          exact ⟨List.getElem?_set_self (by omega), List.getElem?_set_self (by omega), List.getElem?_set_self (by omega)⟩
        · rw [List.getElem?_set_ne (by omega), List.getElem?_set_ne (by omega), List.getElem?_set_ne (by omega)]
          exact l4 j e' (by omega) he')
      have hO1 := Lib.hid (hO.out.store k (k : Int))
      have hA1 := Lib.hid (hA.out.far (p := ⟨go, k, none⟩) (by show ga ≠ go; omega) (.int .i64 (k : Int)))
      have hR1 := Lib.hid (hR.out.far (p := ⟨go, k, none⟩) (by show gb ≠ go; omega) (.int .i64 (k : Int)))
      have hP1 := Lib.hid (hP.out.far (p := ⟨go, k, none⟩) (by show p ≠ go; omega) (.int .i64 (k : Int)))
      have hX1 := Lib.hid (hX.out.far (p := ⟨go, k, none⟩) (by show gx ≠ go; omega) (.int .i64 (k : Int)))
      have hB1 := Lib.hid (hb.out.setCell (p := ⟨go, k, none⟩) (by have := HGE.out; show w.heap.size ≤ go; omega) (.int .i64 (k : Int)))
      have hk2 : (k : Int) < 2 := by omega
      clear hO hA hR hP hX hb hL l1 l2 l3 l4 ho
      go_upto_region 12 with fail
      clear hco hfo hce
      generalize wr.setCell ⟨go, k, none⟩ (.int .i64 (k : Int)) = wa at *
      have g1 : IntKind.i64.wrap (e.tmod U) = e.tmod U := IntWalk.i64_in _ (by omega)
      have g2 : IntKind.i64.wrap (e.tmod U + U) = e.tmod U + U := IntWalk.i64_in _ (by omega)
      have g3 : IntKind.i64.wrap (e % U) = e % U := IntWalk.i64_in _ (by omega)
      have hcr := hR1.out.cell hr
      have hfr := hR1.out.frozen k
      have hp1 := hP1.out.cell (i := 1) rfl
      have hR2 := Lib.hid (hR1.out.store k (e % U)).drew
      have hA2 := Lib.hid (hA1.out.far (p := ⟨gb, k, none⟩) (by show ga ≠ gb; omega) (.int .i64 (e % U))).drew
      have hO2 := Lib.hid (hO1.out.far (p := ⟨gb, k, none⟩) (by show go ≠ gb; omega) (.int .i64 (e % U))).drew
      have hP2 := Lib.hid (hP1.out.far (p := ⟨gb, k, none⟩) (by show p ≠ gb; omega) (.int .i64 (e % U))).drew
      have hX2 := Lib.hid (hX1.out.far (p := ⟨gb, k, none⟩) (by have := HLT.out; show gx ≠ gb; omega) (.int .i64 (e % U))).drew
      have hB2 := Lib.hid (hB1.out.setCell (p := ⟨gb, k, none⟩) (by have := HGE.out; show w.heap.size ≤ gb; omega) (.int .i64 (e % U))).drew
      clear hR1 hA1 hO1 hP1 hX1 hB1
      go_still_tail 11, (by kernel_rfl)
      change wpList _ _ _ _ _ wa.drew
      replace hcr : wa.drew.cell? _ = _ := hcr
      replace hfr : wa.drew.frozen? _ = _ := hfr
      clear g1 g2 f1 f2
      go_upto_region 13 with fail
      clear hcr hfr hp1 f3
      generalize (wa.setCell ⟨gb, k, none⟩ (.int .i64 (e % U))).drew = wb at *
      have g4 : IntKind.i64.wrap (e - e % U) = e - e % U := IntWalk.i64_in _ (by omega)
      have g5 : IntKind.i64.wrap (e / U) = e / U := IntWalk.i64_in _ (by omega)
      have hcr := hR2.out.cell (i := k) (x := e % U) (List.getElem?_set_self (by have := (List.getElem?_eq_some_iff.1 hr).1; omega))
      have hca := hA2.out.cell ha
      have hfa := hA2.out.frozen k
      have hp0 := hP2.out.cell (i := 0) rfl
      have hp1 := hP2.out.cell (i := 1) rfl
      have hA3 := Lib.hid (hA2.out.drew.store k (e / U))
      have hR3 := Lib.hid (hR2.out.drew.far (p := ⟨ga, k, none⟩) (by show gb ≠ ga; omega) (.int .i64 (e / U)))
      have hO3 := Lib.hid (hO2.out.drew.far (p := ⟨ga, k, none⟩) (by show go ≠ ga; omega) (.int .i64 (e / U)))
      have hP3 := Lib.hid (hP2.out.drew.far (p := ⟨ga, k, none⟩) (by show p ≠ ga; omega) (.int .i64 (e / U)))
      have hX3 := Lib.hid (hX2.out.drew.far (p := ⟨ga, k, none⟩) (by have := HLT.out; show gx ≠ ga; omega) (.int .i64 (e / U)))
      have hB3 := Lib.hid (hB2.out.drew.setCell (p := ⟨ga, k, none⟩) (by have := HGE.out; show w.heap.size ≤ ga; omega) (.int .i64 (e / U)))
      clear hA2 hR2 hO2 hP2 hX2 hB2 ha hr he heb hNE hGG f4 f5 f7 f8
      go_still_tail 13, (by kernel_rfl)
      change wpList _ _ _ _ _ wb.drew
      replace hca : wb.drew.cell? _ = _ := hca
      replace hfa : wb.drew.frozen? _ = _ := hfa
      clear g4 f6 hcr hp0 hp1
      go_wp2
      go_roundw
      case rel => exact ⟨k + 1, _, _, _, by omega, by go_num, hO3, hA3, hR3, hP3, hX3, hB3, HL2⟩
      case measure => simp [intOf]; omega
    · obtain rfl : k = 2 := by omega
      have hOAR : O = [0, 1] ∧ A = [E0 / U, E1 / U] ∧ R = [E0 % U, E1 % U] := by
        obtain ⟨d1, d2, d3, d4⟩ := hL.out
        have q0 := d4 0 E0 (by omega) rfl
        have q1 := d4 1 E1 (by omega) rfl
        match O, d1, A, d2, R, d3 with
        | [o0, o1], _, [a0, a1], _, [r0, r1], _ =>
          simp at q0 q1
          obtain ⟨rfl, rfl, rfl⟩ := q0
          obtain ⟨rfl, rfl, rfl⟩ := q1
          exact ⟨rfl, rfl, rfl⟩
      obtain ⟨rfl, rfl, rfl⟩ := hOAR
      clear hL
      have hsf := sum_facts (E := E0) (U := U) (by omega)
      have hE1 := HE.out
      rw [← hE1] at hsf
      have hr0 := round_facts (E := E0) (U := U) (by omega) hun.2 hb1
      have hr1 := round_facts (E := E1) (U := U) (by omega) hun.2 hb2
      have hNE := HNE.out
      have hGG := HG.out
      have HRR : Hid (Rd wr go (some ⟨gb, 0, none⟩) [E0 % U, E1 % U]) := Lib.hid (hR.out.rd (fun z hz => by simp at hz; unfold I64; rcases hz with rfl | rfl <;> omega) (by simp) (by omega))
      have HPE := Lib.hid hP.out
      have CSo := sortStableP (w := wr) (g := go) (F := 40) (pre := .agg #[.slice (some ⟨ga, 0, none⟩) 2 2, .slice (some ⟨gb, 0, none⟩) 2 2]) (c := fun a b => cmpI ([E0 % U, E1 % U].getD b.toNat 0) ([E0 % U, E1 % U].getD a.toNat 0)) (p := fun a => ∃ n : Nat, a = n ∧ n < 2) (D0 := [0, 1]) (cap := 2) (fun args u => by kernel_rfl)
        (by
          rintro u hu a b ⟨a, rfl, ha⟩ ⟨b, rfl, hb⟩
          have := eLater (ga := ga) (ca := 2) (cb := 2) (HRR.out.below hu (Nat.le_refl _)) (by have := hu.size; have := hO.out.lt; omega) ha hb
          simpa using this)
        (by
          intro z hz
          simp at hz
          rcases hz with rfl | rfl
          · exact ⟨0, rfl, by omega⟩
          · exact ⟨1, rfl, by omega⟩) hO.out (by simp) (by simp)
      have hcp0 := hP.out.cell (i := 0) rfl
      have hcp1 := hP.out.cell (i := 1) rfl
      have HCSo := Lib.hid CSo
      clear CSo
      go_wp2_with fail
      refine HCSo.out.mono ?_
      rintro e w5 ⟨rfl, hO5, hb5⟩
      have hL2 : (isort (ltOf fun a b => cmpI ([E0 % U, E1 % U].getD b.toNat 0) ([E0 % U, E1 % U].getD a.toNat 0)) [0, 1]).length = 2 := by rw [isort_length]; rfl
      have hLm : ∀ z ∈ isort (ltOf fun a b => cmpI ([E0 % U, E1 % U].getD b.toNat 0) ([E0 % U, E1 % U].getD a.toNat 0)) [0, 1], z = 0 ∨ z = 1 := fun z hz => by rw [isort_mem] at hz; simpa using hz
      generalize isort (ltOf fun a b => cmpI ([E0 % U, E1 % U].getD b.toNat 0) ([E0 % U, E1 % U].getD a.toNat 0)) [0, 1] = L' at *
      have HO5 := Lib.hid hO5
      have HP5 := Lib.hid (hP.out.below hb5 (by omega))
      have HA5 := Lib.hid (hA.out.below hb5 (by omega))
      have HB5 := Lib.hid (hb.out.trans (hb5.mono (by have := HGE.out; omega)))
      have HLM := Lib.hid hLm
      have HL2 := Lib.hid hL2
      clear hcp0 hcp1 HCSo hO5 hb5 hO hA hR hP hX hb HRR HPE hL2 hLm
      have hcp0 := HP5.out.cell (i := 0) rfl
      have CS2 := eSum (cap := 2) (HA5.out.rd (B := go) (fun z hz => by simp at hz; unfold I64; rcases hz with rfl | rfl <;> omega) (by simp) (by omega)) (by simp) (fun z hz => by simp at hz; rcases hz with rfl | rfl <;> omega)
      rw [show sumL [E0 / U, E1 / U] = E0 / U + E1 / U by simp [sumL]] at CS2
      have QB : Hid (I64 (E0 / U) ∧ I64 (E1 / U) ∧ I64 (E0 / U + 1) ∧ I64 (E1 / U + 1)) := Lib.hid (by unfold I64; omega)
      have qb0 : -4000000000001 ≤ E0 / U ∧ E0 / U ≤ 4000000000001 := by omega
      have qb1 : -4000000000001 ≤ E1 / U ∧ E1 / U ≤ 4000000000001 := by omega
      clear hr0 hr1
      rcases hsf.1 with hd | hd
      · rw [hd] at CS2
        have HCS2 := Lib.hid CS2
        clear CS2 hsf hd
        generalize hq0 : E0 / U = q0 at *
        generalize hq1 : E1 / U = q1 at *
        have HPK2 := Lib.hid (HPK.out q0 q1 ⟨.inl rfl, fun _ => ⟨rfl, rfl⟩⟩)
        clear hq0 hq1
        go_wp2_with fail
        refine HCS2.out.mono ?_
        rintro e w' ⟨rfl, rfl⟩
        go_wp2_with fail
        go_loopw [84] (fun iv wr => iv = .int .i64 0 ∧ wr = w5) (fun iv _ => 0)
        case atStart => exact ⟨rfl, rfl⟩
        case round =>
          obtain ⟨rfl, rfl⟩ := hrel
          go_wp2
          go_ret2
          exact ⟨ga, q0, q1, rfl, HA5.out, HPK2.out, ⟨QB.out.1, QB.out.2.1⟩, HB5.out⟩
      · rw [hd] at CS2
        have HCS2 := Lib.hid CS2
        have hnz : E0 % U ≠ 0 := fun h => by have := hsf.2 h; omega
        obtain ⟨f, hf⟩ : ∃ f, L'[0]? = some f := ⟨L'[0]'(by have := HL2.out; omega), by simp⟩
        have hfm := HLM.out f (List.mem_of_getElem? hf)
        have hcf := HO5.out.cell hf
        clear CS2 hsf hd
        have HPK2 : Hid ((∀ a b, a = E0 / U ∨ a = E0 / U + 1 → PayOk s x y a b)) := Lib.hid fun a b h => HPK.out a b ⟨h, fun h0 => absurd h0 hnz⟩
        clear hnz
        generalize hq0 : E0 / U = q0 at *
        generalize hq1 : E1 / U = q1 at *
        clear hq0 hq1
        obtain ⟨fn, rfl, hfn⟩ : ∃ fn : Nat, f = fn ∧ fn < 2 := by
          rcases hfm with rfl | rfl
          · exact ⟨0, rfl, by omega⟩
          · exact ⟨1, rfl, by omega⟩
        obtain ⟨qf, hqf⟩ : ∃ qf, [q0, q1][fn]? = some qf := ⟨[q0, q1][fn], by simp [hfn]⟩
        have hqb : -4000000000001 ≤ qf ∧ qf ≤ 4000000000001 := by
          have := List.mem_of_getElem? hqf
          simp at this
          rcases this with rfl | rfl <;> omega
        have hFIN : Hid (∃ a b, [q0, q1].set fn (qf + 1) = [a, b] ∧ (a = q0 ∨ a = q0 + 1) ∧ I64 a ∧ I64 b) := Lib.hid (by
          have hf' : fn = 0 ∨ fn = 1 := by omega
          rcases hf' with rfl | rfl
          · obtain rfl : q0 = qf := by simpa using hqf
            exact ⟨_, _, rfl, .inr rfl, QB.out.2.2.1, QB.out.2.1⟩
          · obtain rfl : q1 = qf := by simpa using hqf
            exact ⟨_, _, rfl, .inl rfl, QB.out.1, QB.out.2.2.2⟩)
        have hfn2 : (fn : Int) < 2 := by omega
        have HF0 := Lib.hid hf
        clear hf hfm
        go_wp2_with fail
        refine HCS2.out.mono ?_
        rintro e w' ⟨rfl, rfl⟩
        go_wp2_with fail
        clear hcf hcp0
        go_loopw [84] (fun iv wr => ∃ k : Nat, k ≤ 1 ∧ iv = .int .i64 k ∧ Hid (Own wr ga 3 (if k = 0 then [q0, q1] else [q0, q1].set fn (qf + 1))) ∧ Hid (Own wr go 3 L') ∧ Hid (Blk wr p 65 [.slice (some ⟨ga, 0, none⟩) 2 2, .slice (some ⟨gb, 0, none⟩) 2 2]) ∧ Hid (Below w.heap.size w wr)) (fun iv _ => 1 - (intOf iv).toNat)
        case atStart => exact ⟨0, by omega, rfl, HA5, HO5, HP5, HB5⟩
        case round =>
          obtain ⟨k, hk, rfl, hA, hO, hP, hb⟩ := hrel
          by_cases hk0 : k = 0
          · subst hk0
            rw [if_pos rfl] at hA
            have hcp0 := hP.out.cell (i := 0) rfl
            have hca := hA.out.cell hqf
            have hfa := hA.out.frozen fn
            have hcf := hO.out.cell HF0.out
            have HA9 : Hid (Own (wr.setCell ⟨ga, fn, none⟩ (.int .i64 (qf + 1))) ga 3 (if 1 = 0 then [q0, q1] else [q0, q1].set fn (qf + 1))) := Lib.hid (by rw [if_neg (by omega)]; exact hA.out.store fn (qf + 1))
            have HO9 := Lib.hid (hO.out.far (p := ⟨ga, fn, none⟩) (by show go ≠ ga; omega) (.int .i64 (qf + 1)))
            have HP9 := Lib.hid (hP.out.far (p := ⟨ga, fn, none⟩) (by show p ≠ ga; omega) (.int .i64 (qf + 1)))
            have HB9 := Lib.hid (hb.out.setCell (p := ⟨ga, fn, none⟩) (by have := HGE.out; show w.heap.size ≤ ga; omega) (.int .i64 (qf + 1)))
            clear hqf
            go_wp2
            go_roundw
            case rel => exact ⟨1, by omega, rfl, HA9, HO9, HP9, HB9⟩
            case measure => simp [intOf]
          · obtain rfl : k = 1 := by omega
            rw [if_neg (by omega)] at hA
            have hcp0 := hP.out.cell (i := 0) rfl
            go_wp2
            go_ret2
            obtain ⟨a, b, e9, h9, i9, j9⟩ := hFIN.out
            exact ⟨ga, a, b, rfl, by rw [← e9]; exact hA.out, HPK2.out a b h9, ⟨i9, j9⟩, hb.out⟩
end Go.Proofs.YtkoipecnmijfoaaGreat

import Derived.Test.YtjgobpejifhphaaS34c
import Derived.StillTailTactics
/-! Walks of chapter 34: both Pays. -/
namespace Go.Proofs.Ytjgobpejifhphaa
open Go.RowKit Go.Deep
set_option linter.unusedVariables false

/-- the results (a slice that reads as P, an error c), in the world behind the call -/
def PayRes (w : World) (P : List Int) (c : Int) (e : Ending) (w' : World) : Prop :=
  ∃ A cap, e = .returned (.tuple #[.slice A P.length cap, .int .i64 c]) ∧ Rd w' w'.heap.size A P ∧ Below w.heap.size w w'
theorem PayRes.none_ (w w' : World) (c : Int) (h : Below w.heap.size w w') : PayRes w [] c (.returned (.tuple #[.slice none 0 0, .int .i64 c])) w' := ⟨none, 0, rfl, Rd.nil _ _ _, h⟩
def pyL (L O : List Int) (r : Int) : List Int := if sE L O r = 0 then payL (priceOf O r) (sumL L) (bestOf O (-1)).toNat L else []
theorem infoInt : (Try.prog.info? 3).map (fun i => (i.zero, i.size, i.bytes)) = some (some (.int .i64 0), 1, 8) := by kernel_rfl
theorem smallRd {w : World} {g T : Nat} {P : List Int} (h : Own w g T P) (hs : ∀ x ∈ P, -10000000 ≤ x ∧ x ≤ 10000000) (hl : P.length ≤ 10) : Rd w w.heap.size (some ⟨g, 0, none⟩) P :=
  h.rd (fun x hx => by have := hs x hx; unfold I64; omega) (by omega) h.lt

set_option maxRecDepth 100000 in
set_option maxHeartbeats 1000000 in
theorem dPay {w : World} {B C : Nat} {A A' : Option Addr} {L O : List Int} {cap cap' : Nat} (h : Rd w B A L) (hB : B ≤ w.heap.size) (h' : Rd w C A' O) (hC : C ≤ w.heap.size) (r : Int) :
    Calls Try.prog 40 #[.slice A L.length cap, .slice A' O.length cap', .int .i64 r] w (PayRes w (pyL L O r) (sE L O r)) := by
  have C1 := dSold (cap := cap) (cap' := cap') h h' hC r
  by_cases he : sE L O r = 0
  · rw [pyL, if_pos he, he]
    have hl : lok L O = 0 := by
      rcases Decidable.em (lok L O = 0) with h0 | h0
      · exact h0
      · rw [sE_lok h0] at he; exact absurd he h0
    have hV := lok_ok hl
    obtain ⟨b, v, g, s, eb, eg, hs⟩ := hV.sale
    have hp := priceOf_bd (r := r) hl
    rw [sB, sP, if_pos he, if_pos he, he, eb] at C1
    rw [eb, Int.toNat_natCast]
    have hbl : b < L.length := by have := hs.best.lt_len; have := hV.len; omega
    generalize priceOf O r = p at *
    have hlen := h.len
    have hten := hV.v.ten
    have hS := hV.v.sum_pos
    have hS' := hV.v.sum
    have H := Lib.hid h
    have HV := Lib.hid hV.v
    have HB := Lib.hid hB
    have hmk := fun u => run_make_row' (P := Try.prog) 22 3 (.int .i64 0) 8 Try.underlying22 infoInt rfl .i64 .i64 L.length (by omega) (by omega) u
    clear h h' he hl hV eb eg hs hB hC
    go_enter Try.func40, Try.ntmps40
    go_wp2_with (go_at_call 69; refine C1.mono ?_; rintro e w1 ⟨rfl, hbel⟩)
    clear hmk C1
    have hown := Lib.hid (Own.made w1 3 L.length)
    have hsz : w1.heap.size < (w1.alloc (.cells (madeCells #[Value.int .i64 0] L.length) 3)).heap.size := by simp
    have H1 := Lib.hid (H.out.below hbel HB.out)
    have hin := Lib.hid (Below.alloc (B := w1.heap.size) (Below.refl _ w1) (Nat.le_refl _) (.cells (madeCells #[Value.int .i64 0] L.length) 3))
    have HBEL := Lib.hid hbel
    clear hbel hsz
    generalize w1.alloc (.cells (madeCells #[Value.int .i64 0] L.length) 3) = w2 at *
    go_loopw [31] (fun i wr => ∃ (k : Nat) (P : List Int), k ≤ L.length ∧ i = .int .i64 k ∧ Hid (Own wr w1.heap.size 3 P) ∧ Hid (Below w1.heap.size w1 wr) ∧ Hid (PayAt p (sumL L) L b k P)) (fun i _ => L.length - (intOf i).toNat)
    case atStart => exact ⟨0, _, by omega, rfl, hown, hin, Lib.hid (PayAt.start _ _ _ _)⟩
    case round =>
      obtain ⟨k, P, hk, rfl, ho, hw, hr⟩ := hrel
      by_cases hlt : k < L.length
      · have HR := Lib.hid (H1.out.below hw.out (by have := HBEL.out.size; have := HB.out; omega))
        have CT := dTotal (cap := cap) HR.out HV.out
        obtain ⟨bb, off, x, rfl, hbb, hx, hi, hc⟩ := HR.out.at_ hlt
        have hx1 := HV.out.le (mem_of hx)
        have hm := mul_bd hp.1 hp.2 hx1.1 hx1.2
        have hpart := part_bd hp.1 hp.2 hx1.1 (le_sumL HV.out.pos (mem_of hx))
        unfold part at hpart
        by_cases hkb : k = b
        · have hne : ((k : Int) != (b : Int)) = false := by simp; omega
          have hnext := Lib.hid (hr.out.skip hx hkb)
          have HX := Lib.hid hx; clear hx
          have HI := Lib.hid hi; clear hi
          clear hkb
          generalize sumL L = S at *
          go_wp2_with (go_at_call 42; refine CT.mono ?_; rintro e w' ⟨rfl, rfl⟩)
          go_roundw
          case rel => exact ⟨k + 1, P, by omega, by go_num, ho, hw, hnext⟩
          case measure => simp [intOf]; omega
        · have hne : ((k : Int) != (b : Int)) = true := by simp; omega
          obtain ⟨t, ht⟩ : ∃ t, P[b]? = some t := ⟨P[b]'(by have := hr.out.len; omega), by simp⟩
          have htb := hr.out.small HV.out hp.1 hp.2 t (mem_of ht)
          have hnext := Lib.hid (hr.out.next hx hkb ht)
          have hpk := hr.out.zero hx hkb
          have hPl := hr.out.len
          have c1 := ho.out.cell hpk
          have f1 := ho.out.frozen k
          have hsz := ho.out.lt
          have ho2 := ho.out.store k (p * x / sumL L)
          have c2 := ho2.cell (i := b) (x := t) (by rw [List.getElem?_set_ne (by omega)]; exact ht)
          have f2 := ho2.frozen b
          have ho3 := Lib.hid (ho2.store b (t - p * x / sumL L))
          have hw3 := Lib.hid ((hw.out.setCell (p := ⟨w1.heap.size, k, none⟩) (Nat.le_refl _) (.int .i64 (p * x / sumL L))).setCell (p := ⟨w1.heap.size, b, none⟩) (Nat.le_refl _) (.int .i64 (t - p * x / sumL L)))
          have HX := Lib.hid hx; clear hx
          have HI := Lib.hid hi; clear hi
          have HT := Lib.hid ht; clear ht
          have HPL := Lib.hid hPl; clear hPl
          unfold part at hnext
          clear hkb ho2 hpk
          generalize hSS : sumL L = S at *
          clear hSS
          generalize hq : p * x / S = q at *
          go_wp2_with (go_at_call 42; refine CT.mono ?_; rintro e w' ⟨rfl, rfl⟩)
          go_roundw
          case rel => exact ⟨k + 1, _, by omega, by go_num, ho3, hw3, hnext⟩
          case measure => simp [intOf]; omega
      · obtain rfl : k = L.length := by omega
        have hsm := Lib.hid (hr.out.small HV.out hp.1 hp.2)
        have hP := hr.out.done hbl
        have hlenP : P.length = L.length := hr.out.len
        have HLP := Lib.hid hlenP; clear hlenP
        have HP := Lib.hid hP; clear hP
        have hszw := HBEL.out.size
        go_wp2
        go_ret2
        refine ⟨some ⟨w1.heap.size, 0, none⟩, L.length, ?_, ?_, ?_⟩
        · rw [← HP.out, HLP.out]; rfl
        · rw [← HP.out]
          exact smallRd ho.out hsm.out (by rw [HLP.out]; exact hten)
        · exact HBEL.out.trans (hw.out.mono hszw)
  · rw [pyL, if_neg he]
    rw [sB, sP, if_neg he, if_neg he] at C1
    have hb : (sE L O r != 0) = true := by simpa using he
    clear he h h' hB hC
    generalize sE L O r = c at *
    go_enter Try.func40, Try.ntmps40
    go_wp2_with (go_at_call 69; refine C1.mono ?_; rintro e w1 ⟨rfl, hbel⟩)
    go_ret2
    exact PayRes.none_ _ _ _ hbel

set_option maxRecDepth 100000 in
set_option maxHeartbeats 1000000 in
theorem rPay {w : World} {B C : Nat} {A A' : Option Addr} {L O : List Int} {cap cap' : Nat} (h : Rd w B A L) (hB : B ≤ w.heap.size) (h' : Rd w C A' O) (hC : C ≤ w.heap.size) (r : Int) :
    Calls Try.prog 66 #[.slice A L.length cap, .slice A' O.length cap', .int .i64 r] w (PayRes w (pyL L O r) (sE L O r)) := by
  have C1 := rLooked (cap := cap) (cap' := cap') h h' r
  by_cases he : sE L O r = 0
  · rw [pyL, if_pos he, he]
    have hl : lok L O = 0 := by
      rcases Decidable.em (lok L O = 0) with h0 | h0
      · exact h0
      · rw [sE_lok h0] at he; exact absurd he h0
    have hV := lok_ok hl
    obtain ⟨b, v, g, s, eb, eg, hs⟩ := hV.sale
    have hp := priceOf_bd (r := r) hl
    have hpos : 0 < O.length := by have := hV.len; have := hV.v.two; omega
    have C2 := rBought (cap := cap') h' hC hpos
    rw [boughtOf_eq hpos, eb] at C2
    have C3 : Hid (∀ u, Below w.heap.size w u → Calls Try.prog 95 #[.slice A' O.length cap', .int .i64 r] u fun e w' => e = .returned (.int .i64 (priceOf O r)) ∧ Below u.heap.size u w') := Lib.hid (fun u hu => rPriced (L := L) (cap' := cap') (h'.below hu hC) (by have := hu.size; omega) r hl)
    rw [he] at C1
    rw [eb, Int.toNat_natCast]
    have hbl : b < L.length := by have := hs.best.lt_len; have := hV.len; omega
    generalize priceOf O r = p at *
    have hlen := h.len
    have hten := hV.v.ten
    have hS := hV.v.sum_pos
    have hS' := hV.v.sum
    have H := Lib.hid h
    have HV := Lib.hid hV.v
    have HB := Lib.hid hB
    have hmk := fun u => run_make_row' (P := Try.prog) 22 3 (.int .i64 0) 8 Try.underlying22 infoInt rfl .i64 .i64 L.length (by omega) (by omega) u
    clear h h' he hl hV eb eg hs hB hC hpos
    go_enter Try.func66, Try.ntmps66
    go_wp2_with (first | (go_at_call 94; refine C1.mono ?_; rintro e w1 ⟨rfl, rfl⟩) | (go_at_call 68; refine C2.mono ?_; rintro e w0 ⟨rfl, hbel0⟩) | (go_at_call 95; refine (C3.out _ (by assumption)).mono ?_; rintro e w1 ⟨rfl, hbel1⟩))
    clear hmk C1 C2 C3
    have hbel : Below w.heap.size w w1 := hbel0.trans (hbel1.mono hbel0.size)
    clear hbel0 hbel1
    have hown := Lib.hid (Own.made w1 3 L.length)
    have hsz : w1.heap.size < (w1.alloc (.cells (madeCells #[Value.int .i64 0] L.length) 3)).heap.size := by simp
    have H1 := Lib.hid (H.out.below hbel HB.out)
    have hin := Lib.hid (Below.alloc (B := w1.heap.size) (Below.refl _ w1) (Nat.le_refl _) (.cells (madeCells #[Value.int .i64 0] L.length) 3))
    have HBEL := Lib.hid hbel
    clear hbel hsz
    generalize w1.alloc (.cells (madeCells #[Value.int .i64 0] L.length) 3) = w2 at *
    go_loopw [11] (fun i wr => ∃ (k : Nat) (P : List Int), k ≤ L.length ∧ i = .int .i64 k ∧ Hid (Own wr w1.heap.size 3 P) ∧ Hid (Below w1.heap.size w1 wr) ∧ Hid (PayAt p (sumL L) L b k P)) (fun i _ => L.length - (intOf i).toNat)
    case atStart => exact ⟨0, _, by omega, rfl, hown, hin, Lib.hid (PayAt.start _ _ _ _)⟩
    case round =>
      obtain ⟨k, P, hk, rfl, ho, hw, hr⟩ := hrel
      by_cases hlt : k < L.length
      · have HR := Lib.hid (H1.out.below hw.out (by have := HBEL.out.size; have := HB.out; omega))
        have CT := rSum (cap := cap) (HR.out.below (Below.drew (Below.refl wr.heap.size wr)) (by have := HBEL.out.size; have := HB.out; have := hw.out.size; omega)) HV.out
        obtain ⟨bb, off, x, rfl, hbb, hx, hi, hc⟩ := HR.out.at_ hlt
        have hx1 := HV.out.le (mem_of hx)
        have hm := mul_bd hp.1 hp.2 hx1.1 hx1.2
        have hpart := part_bd hp.1 hp.2 hx1.1 (le_sumL HV.out.pos (mem_of hx))
        unfold part at hpart
        by_cases hkb : k = b
        · have hne : ((k : Int) != (b : Int)) = false := by simp; omega
          have hnext := Lib.hid (hr.out.skip hx hkb)
          have HX := Lib.hid hx; clear hx
          have HI := Lib.hid hi; clear hi
          clear hkb
          generalize sumL L = S at *
          go_wp2
          go_roundw
          case rel => exact ⟨k + 1, P, by omega, by go_num, ho, hw, hnext⟩
          case measure => simp [intOf]; omega
        · have hne : ((k : Int) != (b : Int)) = true := by simp; omega
          obtain ⟨t, ht⟩ : ∃ t, P[b]? = some t := ⟨P[b]'(by have := hr.out.len; omega), by simp⟩
          have htb := hr.out.small HV.out hp.1 hp.2 t (mem_of ht)
          have hnext := Lib.hid (hr.out.next hx hkb ht)
          have hpk := hr.out.zero hx hkb
          have hPl := hr.out.len
          have c1 := ho.out.cell hpk
          have f1 := ho.out.frozen k
          have hsz := ho.out.lt
          have ho2 := ho.out.store k (p * x / sumL L)
          have c2 := ho2.cell (i := b) (x := t) (by rw [List.getElem?_set_ne (by omega)]; exact ht)
          have c3 := ho2.cell (i := k) (x := p * x / sumL L) (by rw [List.getElem?_set_self (by omega)])
          have f2 := ho2.frozen b
          have ho3 := Lib.hid (ho2.store b (t - p * x / sumL L))
          have hw3 := Lib.hid ((hw.out.setCell (p := ⟨w1.heap.size, k, none⟩) (Nat.le_refl _) (.int .i64 (p * x / sumL L))).setCell (p := ⟨w1.heap.size, b, none⟩) (Nat.le_refl _) (.int .i64 (t - p * x / sumL L)))
          have HX := Lib.hid hx; clear hx
          have HI := Lib.hid hi; clear hi
          have HT := Lib.hid ht; clear ht
          have HPL := Lib.hid hPl; clear hPl
          unfold part at hnext
          clear hkb ho2 hpk
          generalize hSS : sumL L = S at *
          clear hSS
          generalize hq : p * x / S = q at *
          go_wp2
          go_still_tail 12, (by kernel_rfl)
          have e0 : ¬ S = 0 := by omega
          have e1 : IntKind.i64.wrap (p * x) = p * x := IntWalk.i64_in _ (by omega)
          have e2 : (p * x).tdiv S = q := by rw [Int.tdiv_eq_ediv_of_nonneg hm.1]; exact hq
          have e3 : IntKind.i64.wrap q = q := IntWalk.i64_in _ (by omega)
          have e4 : IntKind.i64.wrap (t - q) = t - q := IntWalk.i64_in _ (by omega)
          still_call (CT.mono fun _ _ h => ⟨h.1, h.2.symm⟩)
          repeat still_step
          refine wpStill_nil ?_
          change wpList _ _ _ _ _ wr.drew
          clear e0 e1 e2 e3
          go_wp2
          have c2' : (wr.setCell ⟨w1.heap.size, k, none⟩ (.int .i64 q)).drew.cell? ⟨w1.heap.size, b, none⟩ = some (.int .i64 t) := c2
          have c3' : (wr.setCell ⟨w1.heap.size, k, none⟩ (.int .i64 q)).drew.cell? ⟨w1.heap.size, k, none⟩ = some (.int .i64 q) := c3
          have f2' : (wr.setCell ⟨w1.heap.size, k, none⟩ (.int .i64 q)).drew.frozen? ⟨w1.heap.size, b, none⟩ = false := f2
          have ho3' : Hid (Own (((wr.setCell ⟨w1.heap.size, k, none⟩ (.int .i64 q)).drew).setCell ⟨w1.heap.size, b, none⟩ (.int .i64 (t - q))) w1.heap.size 3 ((P.set k q).set b (t - q))) := ho3
          have hw3' : Hid (Below w1.heap.size w1 (((wr.setCell ⟨w1.heap.size, k, none⟩ (.int .i64 q)).drew).setCell ⟨w1.heap.size, b, none⟩ (.int .i64 (t - q)))) := Lib.hid (((hw.out.setCell (p := ⟨w1.heap.size, k, none⟩) (Nat.le_refl _) (.int .i64 q)).drew).setCell (p := ⟨w1.heap.size, b, none⟩) (Nat.le_refl _) (.int .i64 (t - q)))
          clear c2 c3 f2 ho3 hw3 c1 f1 CT
          generalize (wr.setCell ⟨w1.heap.size, k, none⟩ (.int .i64 q)).drew = w3 at *
          go_still_tail 10, (by kernel_rfl)
          change wpList _ _ _ _ _ w3.drew
          clear e4
          have ho4 : Hid (Own ((w3.setCell ⟨w1.heap.size, b, none⟩ (.int .i64 (t - q))).drew) w1.heap.size 3 ((P.set k q).set b (t - q))) := ho3'
          have hw4 : Hid (Below w1.heap.size w1 ((w3.setCell ⟨w1.heap.size, b, none⟩ (.int .i64 (t - q))).drew)) := Lib.hid hw3'.out.drew
          go_wp2
          go_roundw
          case rel => exact ⟨k + 1, _, by omega, by go_num, ho4, hw4, hnext⟩
          case measure => simp [intOf]; omega
      · obtain rfl : k = L.length := by omega
        have hsm := Lib.hid (hr.out.small HV.out hp.1 hp.2)
        have hP := hr.out.done hbl
        have hlenP : P.length = L.length := hr.out.len
        have HLP := Lib.hid hlenP; clear hlenP
        have HP := Lib.hid hP; clear hP
        have hszw := HBEL.out.size
        go_wp2
        go_ret2
        refine ⟨some ⟨w1.heap.size, 0, none⟩, L.length, ?_, ?_, ?_⟩
        · rw [← HP.out, HLP.out]; rfl
        · rw [← HP.out]
          exact smallRd ho.out hsm.out (by rw [HLP.out]; exact hten)
        · exact HBEL.out.trans (hw.out.mono hszw)
  · rw [pyL, if_neg he]
    have hb : (sE L O r != 0) = true := by simpa using he
    clear he h h' hB hC
    generalize sE L O r = c at *
    go_enter Try.func66, Try.ntmps66
    go_wp2_with (go_at_call 94; refine C1.mono ?_; rintro e w1 ⟨rfl, rfl⟩)
    go_ret2
    exact PayRes.none_ _ _ _ (Below.refl _ _)
end Go.Proofs.Ytjgobpejifhphaa

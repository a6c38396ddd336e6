import Derived.Test.YtipidlonidihbaaW33n
/-! The walk of parcenerref32.Is, and of the statement HolidayRanks. -/
namespace Go.Proofs.Ytipidlonidihbaa
open Go.RowKit Go.Deep
set_option linter.unusedVariables false
set_option maxRecDepth 100000

/-- each number below n stands in the list just once -/
def OnceEach (L : List Int) (n : Nat) : Prop := ∀ k : Nat, k < n → L.countP (fun x => decide (x = (k : Int))) = 1
theorem count_step {L : List Int} {j : Nat} {x k : Int} {f : Nat} (h : L[j]? = some x) (hc : f + (L.drop j).countP (fun y => decide (y = k)) = 1) :
    (f + if x = k then 1 else 0) + (L.drop (j + 1)).countP (fun y => decide (y = k)) = 1 := by
  rw [drop_of h, List.countP_cons] at hc
  by_cases e : x = k
  · rw [if_pos e]; simp only [e, decide_true, if_true] at hc; omega
  · rw [if_neg e]; simp only [e, decide_false, Bool.false_eq_true, if_false] at hc; omega
theorem range_none : ∀ (n k : Nat), n ≤ k → ((List.range n).filter fun (i : Nat) => decide ((i : Int) = (k : Int))).length = 0
  | 0, _, _ => rfl
  | n + 1, k, h => by
    rw [List.range_succ, List.filter_append, List.length_append, range_none n k (by omega)]
    simp; omega
theorem range_once : ∀ (n k : Nat), k < n → ((List.range n).filter fun (i : Nat) => decide ((i : Int) = (k : Int))).length = 1
  | n + 1, k, h => by
    rw [List.range_succ, List.filter_append, List.length_append]
    by_cases e : k = n
    · subst e
      rw [range_none k k (Nat.le_refl _)]
      simp
    · rw [range_once n k (by omega)]
      simp; omega
theorem rk_once (C B : List Int) : OnceEach (rkList C B) B.length := by
  intro k hk
  rw [(rkList_perm C B).countP_eq, countP_iota]
  exact range_once _ k hk

set_option maxHeartbeats 1000000 in
theorem isW {w : World} {B : Nat} {A : Option Addr} {L : List Int} {cap n : Nat} (h : Rd w B A L) (hl : L.length = n) (h1 : 1 ≤ n) (h12 : n ≤ 12) (ho : OnceEach L n) :
    Calls Try.prog 21 #[.slice A n cap, .int .i64 n] w fun e w' => e = .returned (.bool true) ∧ w = w' := by
  have H := Lib.hid h
  have HL := Lib.hid hl
  have HO := Lib.hid ho
  clear h hl ho
  go_enter Try.func21, Try.ntmps21
  go_wp2
  go_loop [5] (fun i => ∃ k : Nat, k ≤ n ∧ i = .int .i64 k) (fun i => n - (intOf i).toNat)
  case atStart => exact ⟨0, by omega, rfl⟩
  case round =>
    obtain ⟨k, hk, rfl⟩ := hrel
    by_cases hlt : k < n
    · have hok := Lib.hid (HO.out k hlt)
      go_wp2
      go_loop [6, 7] (fun f j => ∃ (jj ff : Nat), jj ≤ n ∧ ff ≤ jj ∧ j = .int .i64 jj ∧ f = .int .i64 ff ∧ Hid (ff + (L.drop jj).countP (fun y => decide (y = (k : Int))) = 1)) (fun _ j => n - (intOf j).toNat)
      case atStart => exact ⟨0, 0, by omega, by omega, rfl, rfl, Lib.hid (by rw [Nat.zero_add]; exact hok.out)⟩
      case round =>
        obtain ⟨j, f, hj, hf, rfl, rfl, hr⟩ := hrel
        by_cases hjl : j < n
        · obtain ⟨b, off, x, rfl, hb, hx, hi, hc⟩ := H.out.at_ (k := j) (by have := HL.out; omega)
          have hst := Lib.hid (count_step hx hr.out)
          have HX := Lib.hid hx
          have HI := Lib.hid hi
          clear hx hi hr
          by_cases e : x = (k : Int)
          · rw [if_pos e] at hst
            go_wp2
            go_round
            case rel => exact ⟨j + 1, f + 1, by omega, by omega, by go_num, by go_num, hst⟩
            case measure => simp [intOf]; omega
          · rw [if_neg e] at hst
            go_wp2
            go_round
            case rel => exact ⟨j + 1, f, by omega, by omega, by go_num, rfl, hst⟩
            case measure => simp [intOf]; omega
        · have hr' := hr.out
          rw [drop_end (by have := HL.out; omega)] at hr'
          have hf1 : f = 1 := by simpa using hr'
          subst hf1
          clear hr hr'
          go_wp2
          go_round
          case rel => exact ⟨k + 1, by omega, by go_num⟩
          case measure => simp [intOf]; omega
    · go_wp2
      go_ret
      exact ⟨rfl, rfl⟩

/-- who stands next -/
theorem rk_next {C B : List Int} {j k a b : Nat} (ha : (rkList C B)[j]? = some (a : Int)) (hb : (rkList C B)[k]? = some (b : Int)) (h : j < k) :
    (B.getD b 0 < B.getD a 0) ∨ (B.getD a 0 = B.getD b 0 ∧ (C.getD b 0 < C.getD a 0 ∨ (C.getD a 0 = C.getD b 0 ∧ a < b))) := by
  obtain ⟨hja, ea⟩ := List.getElem?_eq_some_iff.1 ha
  obtain ⟨hkb, eb⟩ := List.getElem?_eq_some_iff.1 hb
  have hp := List.pairwise_iff_getElem.1 (rkList_pw C B) j k hja hkb h
  rw [ea, eb, ahdI_iff] at hp
  simpa only [Int.toNat_natCast] using hp
set_option maxRecDepth 100000 in
set_option maxHeartbeats 2000000 in
theorem ranks {w : World} {A A' : Option Addr} {L O : List Int} {cap cap' : Nat} (h : Rd w w.heap.size A L) (h' : Rd w w.heap.size A' O) :
    Calls Try.prog 5 #[.slice A L.length cap, .slice A' O.length cap'] w fun e w' => e = .returned (.bool true) ∧ Below w.heap.size w w' := by
  have l1 := h.len
  have l2 := h'.len
  have R : ∀ u, Below w.heap.size w u → w.heap.size ≤ u.heap.size ∧ Rd u w.heap.size A L ∧ Rd u w.heap.size A' O := fun u hu => ⟨hu.size, h.below hu (Nat.le_refl _), h'.below hu (Nat.le_refl _)⟩
  have HR := Lib.hid R
  clear R h h'
  by_cases hl : hlk L O = 0
  · have hV := hlk_ok hl
    have hn := hV.v.one
    have hn2 := hV.v.twelve
    have hlen := hV.len
    have hc0 := hlk_hck hl
    have HBO := Lib.hid (bidsOk_of hl)
    have HC0 := Lib.hid hc0
    have HL := Lib.hid hl
    have HLEN := Lib.hid hlen
    have ho1 : 1 ≤ O.length := by omega
    have ho2 : O.length ≤ 12 := by omega
    clear hl hV hlen hc0
    go_enter Try.func5, Try.ntmps5
    go_wp2_with fail
    refine (alive w).mono ?_
    rintro e w1 ⟨rfl, hb⟩
    have H1 := HR.out w1 hb
    go_wp2_with fail
    refine (hrCheck H1.2.1).mono ?_
    rw [HC0.out]
    rintro e w2 ⟨rfl, rfl⟩
    go_wp2_with fail
    refine (rBids H1.2.2 (L.length : Int)).mono ?_
    rw [HBO.out]
    rintro e w2 ⟨rfl, rfl⟩
    go_wp2_with fail
    refine (hRank H1.2.1 H1.2.2 H1.1 H1.1).mono ?_
    have hrk : rkL L O = rkList L O := by rw [rkL, if_pos HL.out]
    rw [hrk, HL.out]
    have hrl : (rkList L O).length = L.length := by rw [rkList_length]; exact HLEN.out
    rintro e w2 ⟨A1, c1, rfl, r1, hb2⟩
    replace hb := hb.trans (hb2.mono hb.size)
    clear H1 hb2
    have H1 := HR.out w2 hb
    have HB := Lib.hid hb
    clear hb
    have CI := isW (cap := c1) r1 hrl hn hn2 (by rw [← HLEN.out]; exact rk_once L O)
    rw [hrl]
    go_wp2_with fail
    refine CI.mono ?_
    rintro e w3 ⟨rfl, rfl⟩
    have R1 := Lib.hid r1
    have HRL := Lib.hid hrl
    have H2 := Lib.hid (HR.out w2 HB.out)
    clear CI r1 hrk hrl H1
    go_wp2
    go_loopw [8] (fun i wr => ∃ k : Nat, 1 ≤ k ∧ k ≤ L.length ∧ i = .int .i64 k ∧ Hid (Below w2.heap.size w2 wr)) (fun i _ => L.length - (intOf i).toNat)
    case atStart => exact ⟨1, by omega, by omega, rfl, Lib.hid (Below.refl _ _)⟩
    case round =>
      obtain ⟨k, hk1, hk, rfl, hw⟩ := hrel
      by_cases hlt : k < L.length
      · obtain ⟨j, hj⟩ : ∃ j, j = k - 1 := ⟨_, rfl⟩
        obtain ⟨a, ha, hal, hpa⟩ := rk_nat (C := L) (B := O) (k := j) (by have := HLEN.out; omega)
        obtain ⟨b, hb, hbl, hpb⟩ := rk_nat (C := L) (B := O) (k := k) (by have := HLEN.out; omega)
        have hord := rk_next ha hb (by omega)
        obtain ⟨bb, off, rfl, hbb, hcc⟩ := (R1.out.below hw.out (Nat.le_refl _)).2.2 (by have := HRL.out; omega)
        have c1 := hcc j a ha
        have c2 := hcc k b hb
        have H3 := HR.out wr (HB.out.trans (hw.out.mono HB.out.size))
        obtain ⟨xb, xoff, x, rfl, _, hx, hxi, cx⟩ := H3.2.2.at_ (k := a) (by omega)
        obtain ⟨yb, yoff, y, e, _, hy, hyi, cy⟩ := H3.2.2.at_ (k := b) (by omega)
        cases e
        obtain ⟨ub, uoff, u, rfl, _, hu, hui, cu⟩ := H3.2.1.at_ (k := a) (by have := HLEN.out; omega)
        obtain ⟨vb, voff, v, e, _, hv, hvi, cv⟩ := H3.2.1.at_ (k := b) (by have := HLEN.out; omega)
        cases e
        rw [getD_of hx, getD_of hy, getD_of hu, getD_of hv] at hord
        have hal2 : a < L.length := by have := HLEN.out; omega
        have hbl2 : b < L.length := by have := HLEN.out; omega
        have e1 : IntKind.i64.wrap ((k : Int) - 1) = (j : Int) := by rw [show (k : Int) - 1 = (j : Int) by omega]; exact IntWalk.i64_in _ (by omega)
        have hjl : j < L.length := by omega
        clear hj
        clear hcc ha hb hpa hpb hx hy hu hv hxi hyi hui hvi H3
        have mid : ∀ nq, Hid (Below w2.heap.size w2 (wr.drewN nq)) := fun nq => Lib.hid (below_drewN hw.out _)
        rcases hord with h1 | ⟨h1, h2 | ⟨h2, h3⟩⟩
        · have d1 : decide (x < y) = false := decide_eq_false (by omega)
          have d2 : (x == y) = false := beq_eq_false_iff_ne.2 (by omega)
          go_wp2
          go_quiet (fail)
          have M := mid nq
          replace cx : (wr.drewN nq).cell? _ = _ := cx
          replace cy : (wr.drewN nq).cell? _ = _ := cy
          replace cu : (wr.drewN nq).cell? _ = _ := cu
          replace cv : (wr.drewN nq).cell? _ = _ := cv
          clear mid c1 c2
          generalize wr.drewN nq = wq at *
          go_wp2
          go_quiet (fail)
          go_wp2
          go_roundw
          case rel => exact ⟨k + 1, by omega, by omega, by go_num, Lib.hid (below_drewN M.out _)⟩
          case measure => simp [intOf]; omega
        · subst h1
          have d1 : decide (x < x) = false := decide_eq_false (by omega)
          have d2 : (x == x) = true := beq_self_eq_true x
          have d3 : decide (u < v) = false := decide_eq_false (by omega)
          have d4 : (u == v) = false := beq_eq_false_iff_ne.2 (by omega)
          go_wp2
          go_quiet (fail)
          have M := mid nq
          replace cx : (wr.drewN nq).cell? _ = _ := cx
          replace cy : (wr.drewN nq).cell? _ = _ := cy
          replace cu : (wr.drewN nq).cell? _ = _ := cu
          replace cv : (wr.drewN nq).cell? _ = _ := cv
          clear mid c1 c2
          generalize wr.drewN nq = wq at *
          go_wp2
          go_quiet (fail)
          go_wp2
          go_roundw
          case rel => exact ⟨k + 1, by omega, by omega, by go_num, Lib.hid (below_drewN M.out _)⟩
          case measure => simp [intOf]; omega
        · subst h1
          subst h2
          have d1 : decide (x < x) = false := decide_eq_false (by omega)
          have d2 : (x == x) = true := beq_self_eq_true x
          have d3 : decide (u < u) = false := decide_eq_false (by omega)
          have d4 : (u == u) = true := beq_self_eq_true u
          have d5 : decide ((b : Int) < (a : Int)) = false := decide_eq_false (by omega)
          have d6 : decide (b < a) = false := decide_eq_false (by omega)
          go_wp2
          go_quiet (fail)
          have M := mid nq
          replace cx : (wr.drewN nq).cell? _ = _ := cx
          replace cy : (wr.drewN nq).cell? _ = _ := cy
          replace cu : (wr.drewN nq).cell? _ = _ := cu
          replace cv : (wr.drewN nq).cell? _ = _ := cv
          clear mid c1 c2
          generalize wr.drewN nq = wq at *
          go_wp2
          go_quiet (fail)
          go_wp2
          go_roundw
          case rel => exact ⟨k + 1, by omega, by omega, by go_num, Lib.hid (below_drewN M.out _)⟩
          case measure => simp [intOf]; omega
      · go_wp2
        go_ret
        exact ⟨rfl, HB.out.trans (hw.out.mono HB.out.size)⟩
  · by_cases hc : hck L = 0
    · have hbo := (bidsNo_of hc hl).2
      have HBO := Lib.hid hbo
      have HC0 := Lib.hid hc
      clear hl hc hbo
      go_enter Try.func5, Try.ntmps5
      go_wp2_with fail
      refine (alive w).mono ?_
      rintro e w1 ⟨rfl, hb⟩
      have H1 := HR.out w1 hb
      go_wp2_with fail
      refine (hrCheck H1.2.1).mono ?_
      rw [HC0.out]
      rintro e w2 ⟨rfl, rfl⟩
      go_wp2_with fail
      refine (rBids H1.2.2 (L.length : Int)).mono ?_
      rw [HBO.out]
      rintro e w2 ⟨rfl, rfl⟩
      go_wp2
      go_ret
      exact ⟨rfl, hb⟩
    · have hcb : (hck L != 0) = true := by simpa using hc
      clear hl hc
      go_enter Try.func5, Try.ntmps5
      go_wp2_with fail
      refine (alive w).mono ?_
      rintro e w1 ⟨rfl, hb⟩
      have H1 := HR.out w1 hb
      go_wp2_with fail
      refine (hrCheck H1.2.1).mono ?_
      generalize hck L = c at *
      rintro e w2 ⟨rfl, rfl⟩
      go_wp2
      go_ret
      exact ⟨rfl, hb⟩
end Go.Proofs.Ytipidlonidihbaa

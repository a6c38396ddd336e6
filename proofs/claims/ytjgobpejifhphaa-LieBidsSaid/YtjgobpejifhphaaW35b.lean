import Derived.Test.YtjgobpejifhphaaS35b
import Derived.Test.YtjgobpejifhphaaW35a
/-! Walks of chapter 35: Contains, Earned, both Bids; the statement LieBids. -/
namespace Go.Proofs.Ytjgobpejifhphaa
open Go.RowKit Go.Deep
set_option linter.unusedVariables false
set_option maxRecDepth 100000

def IdxRes (w : World) (x : Int) (L : List Int) (e : Ending) (w' : World) : Prop := ∃ r : Int, e = .returned (.int .i64 r) ∧ decide (0 ≤ r) = decide (x ∈ L) ∧ w = w'
set_option maxHeartbeats 1000000 in
theorem idxW {w : World} {B : Nat} {A : Option Addr} {L : List Int} {cap : Nat} (h : Rd w B A L) (x : Int) :
    Calls Try.prog 83 #[.slice A L.length cap, .int .i64 x] w (IdxRes w x L) := by
  have hlen := h.len
  have H := Lib.hid h
  clear h
  go_enter Try.func83, Try.ntmps83
  go_wp2
  go_loop [8] (fun i => ∃ k : Nat, k ≤ L.length ∧ i = .int .i64 k ∧ Hid (decide (x ∈ L.drop k) = decide (x ∈ L))) (fun i => L.length - (intOf i).toNat)
  case atStart => exact ⟨0, by omega, rfl, Lib.hid rfl⟩
  case round =>
    obtain ⟨k, hk, rfl, hr⟩ := hrel
    by_cases hlt : k < L.length
    · obtain ⟨b, off, y, rfl, hb, hy, hi, hc⟩ := H.out.at_ hlt
      have hd := drop_of hy
      have hr' := hr.out
      rw [hd] at hr'
      have HY := Lib.hid hy
      clear hy hd hi hr
      by_cases e : x = y
      · subst e
        have hin := Lib.hid (show decide (x ∈ L) = true by rw [← hr']; simp)
        clear hr'
        go_wp2
        go_ret
        exact ⟨k, rfl, by rw [hin.out]; simp, rfl⟩
      · have hne : (x == y) = false := beq_eq_false_iff_ne.2 e
        have hnx := Lib.hid (show decide (x ∈ L.drop (k + 1)) = decide (x ∈ L) by rw [← hr']; simp [e])
        clear hr' e
        go_wp2
        go_round
        case rel => exact ⟨k + 1, by omega, by go_num, hnx⟩
        case measure => simp [intOf]; omega
    · have hr' := hr.out
      rw [drop_end (by omega)] at hr'
      have hno := Lib.hid (show decide (x ∈ L) = false by rw [← hr']; simp)
      clear hr' hr
      go_wp2
      go_ret
      exact ⟨-1, rfl, by rw [hno.out]; decide, rfl⟩
theorem contW {w : World} {B : Nat} {A : Option Addr} {L : List Int} {cap : Nat} (h : Rd w B A L) (x : Int) :
    Calls Try.prog 52 #[.slice A L.length cap, .int .i64 x] w fun e w' => e = .returned (.bool (decide (x ∈ L))) ∧ w = w' := by
  have C := idxW (cap := cap) h x
  clear h
  go_enter Try.func52, Try.ntmps52
  go_wp2_with (go_at_call 83; refine C.mono ?_; rintro e w1 ⟨r, rfl, hr, rfl⟩)
  go_ret
  exact ⟨rfl, rfl⟩

/-- Earned, and what the program does in its place -/
theorem earn_step {a : Nat} {wv gv x : Int} {k : Nat} {T : Int} {F : List Int} (hx : F[k]? = some x) (h : gv + wv * ((F.drop k).countP (fun y => decide (y = (a : Int))) : Nat) = T) :
    (gv + if x = (a : Int) then wv else 0) + wv * ((F.drop (k + 1)).countP (fun y => decide (y = (a : Int))) : Nat) = T := by
  rw [drop_of hx, List.countP_cons] at h
  by_cases e : x = (a : Int)
  · rw [if_pos e]
    simp only [e, decide_true, if_true] at h
    rw [← h, Int.natCast_add, Int.mul_add]
    simp
    omega
  · rw [if_neg e]
    simp only [e, decide_false, Bool.false_eq_true, if_false] at h
    rw [← h]
    simp

def earnV (C B : List Int) (m a : Nat) (wv b : Int) : Int := if bidOk C B m a b = true then bidG C B m a wv b else 0
set_option maxHeartbeats 2000000 in
theorem earned {w : World} {A A' : Option Addr} {L O : List Int} {cap cap' : Nat} {m a : Nat} {wv b : Int} (h : Rd w w.heap.size A L) (h' : Rd w w.heap.size A' O)
    (hl : hlk L O = 0) (hm : m ≤ L.length) (ha : a < L.length) (w0 : 0 ≤ wv) (w1 : wv ≤ 1000000) (b0 : 0 ≤ b) (b1 : b ≤ 300) :
    Calls Try.prog 34 #[.slice A L.length cap, .slice A' O.length cap', .int .i64 m, .int .i64 a, .int .i64 wv, .int .i64 b] w
      fun e w' => e = .returned (.tuple #[.int .i64 (earnV L O m a wv b), .bool (bidOk L O m a b)]) ∧ Below w.heap.size w w' := by
  have hV := hlk_ok hl
  have hlen := hV.len
  have hn := hV.v.one
  have hn2 := hV.v.twelve
  have hl2 := hlk_with (a := a) hl b0 (by omega)
  have hV2 := hlk_ok hl2
  have hl3 : (O.set a b).length = L.length := by simp [hlen]
  have CP := putL (cap := cap') h' (Nat.le_refl _) (i := a) (by omega) b
  have hpc := pcE_ok (C := L) (B := O.set a b) (m := m) hl2 (by omega)
  have H := Lib.hid h
  have HV := Lib.hid hV
  have HV2 := Lib.hid hV2
  have HL3 := Lib.hid hl3
  have HPC := Lib.hid hpc
  have hab : a < (O.set a b).length := by omega
  have hset : Hid (∀ x ∈ O.set a b, I64 x) := Lib.hid (fun x hx => by have := hV2.bd x hx; unfold I64; omega)
  have hOK : Hid (bidOk L O m a b = decide (gvE L (O.set a b) m = 0)) := Lib.hid rfl
  have hG : Hid (bidG L O m a wv b = after L (O.set a b) m a - L.getD a 0 + if place L (O.set a b) a < m then wv else 0) := Lib.hid rfl
  clear hl hV hlen hl2 hV2 hpc h h' hl3
  go_enter Try.func34, Try.ntmps34
  go_wp2_with fail
  refine CP.mono ?_
  rintro e w2 ⟨g, c, rfl, hg, hP, hb⟩
  generalize O.set a b = Q at *
  have hrd := hP.rd hset.out (by rw [HL3.out]; omega) hP.lt
  have CG := hrGive (cap := cap) (cap' := c) (H.out.below hb (Nat.le_refl _)) hrd hb.size (Nat.le_refl _) m
  have HB := Lib.hid hb
  have hmQ : m ≤ Q.length := by rw [HL3.out]; exact hm
  by_cases hE : gvE L Q m = 0
  · have hF : gvF L Q m = freeL L Q m := by rw [gvF, if_pos hE, Int.toNat_natCast]
    have hA : gvA L Q m = aftL L Q m := by rw [gvA, if_pos hE, Int.toNat_natCast]
    have hok : bidOk L O m a b = true := by rw [hOK.out, hE]; rfl
    rw [hE, hF, hA] at CG
    have HCG := Lib.hid CG
    have HOK := Lib.hid hok
    have hpb := prOf_bd (C := L) (B := Q) (m := m) HV2.out.bd (by omega) (by omega)
    have hqr := gQR (C := L) (B := Q) (m := m) hn hn2 hm hpb.1 hpb.2
    have hpd := fun i => paid_bd (C := L) (B := Q) (m := m) (i := i) HV.out.v.bd hpb.1 hpb.2
    have hyb := after_bd (hpd a) hqr.2.2.1 hqr.2.2.2.1
    clear CP CG hrd hP hb hE hF hA hok hpb hqr hpd
    go_wp2_with fail
    refine HCG.out.mono ?_
    rintro e w3 ⟨A2, c2, A3, c3, rfl, r2, r3, hb3⟩
    have hfl := freeL_length (C := L) hmQ
    have hal : (aftL L Q m).length = L.length := (aftL_length L Q m).trans HL3.out
    rw [hfl, hal]
    obtain ⟨ub, uoff, u, rfl, _, hu, hui, cu⟩ := (H.out.below (HB.out.trans (hb3.mono HB.out.size)) (Nat.le_refl _)).at_ ha
    obtain ⟨yb, yoff, y, rfl, _, hy, hyi, cy⟩ := r3.at_ (k := a) (by omega)
    have hyv : y = after L Q m a := by
      have h2 : (aftL L Q m)[a]? = some (after L Q m a) := by simp [aftL, hab]
      rw [h2] at hy
      simpa using hy.symm
    have hub := HV.out.v.bd u (List.mem_of_getElem? hu)
    rw [← hyv] at hyb
    have hstart : Hid (y - u + wv * (((freeL L Q m).drop 0).countP (fun z => decide (z = (a : Int))) : Nat) = bidG L O m a wv b) := Lib.hid (by
      rw [List.drop_zero, freeL_count hab, hG.out, getD_of hu, hyv]
      by_cases hp : place L Q a < m
      · rw [if_pos hp, if_pos hp]; simp
      · rw [if_neg hp, if_neg hp]; simp)
    have HB3 := Lib.hid (HB.out.trans (hb3.mono HB.out.size))
    have R2 := Lib.hid r2
    have HFL := Lib.hid hfl
    clear hfl hal hu hui hy hyi hyv r2 r3 hb3 HCG
    have e1 : IntKind.i64.wrap (y - u) = y - u := IntWalk.i64_in _ (by omega)
    go_wp2
    go_quiet (fail)
    have HB4 : Hid (Below w.heap.size w (w3.drewN nq)) := Lib.hid (below_drewN HB3.out _)
    have R4 : Hid (Rd (w3.drewN nq) (w3.drewN nq).heap.size A2 (freeL L Q m)) := Lib.hid R2.out
    clear HB3 R2 e1 cu cy
    generalize w3.drewN nq = w4 at *
    go_wp2
    go_loop [17, 18] (fun t i => ∃ (k : Nat) (gv : Int), k ≤ m ∧ -16000000 ≤ gv ∧ gv ≤ 15000000 + 1000000 * (k : Int) ∧ i = .int .i64 k ∧ t = .int .i64 gv
      ∧ Hid (gv + wv * (((freeL L Q m).drop k).countP (fun z => decide (z = (a : Int))) : Nat) = bidG L O m a wv b)) (fun _ i => m - (intOf i).toNat)
    case atStart => exact ⟨0, y - u, by omega, by omega, by omega, rfl, rfl, hstart⟩
    case round =>
      obtain ⟨k, gv, hk, hg0, hg1, rfl, rfl, hr⟩ := hrel
      by_cases hlt : k < m
      · obtain ⟨fb, foff, f, rfl, _, hf, hfi, cf⟩ := R4.out.at_ (k := k) (by have := HFL.out; omega)
        have hst := Lib.hid (earn_step hf hr.out)
        clear hf hfi hr
        by_cases e : f = (a : Int)
        · rw [if_pos e] at hst
          go_wp2
          go_round
          case rel => exact ⟨k + 1, gv + wv, by omega, by omega, by omega, by go_num, rfl, hst⟩
          case measure => simp [intOf]; omega
        · rw [if_neg e, Int.add_zero] at hst
          go_wp2
          go_round
          case rel => exact ⟨k + 1, gv, by omega, by omega, by omega, by go_num, rfl, hst⟩
          case measure => simp [intOf]; omega
      · have hr' := hr.out
        rw [drop_end (by have := HFL.out; omega)] at hr'
        have hfin : Hid (gv = bidG L O m a wv b) := Lib.hid (by rw [← hr']; simp)
        clear hr hr'
        go_wp2
        go_ret2
        have hv : (Ending.returned (.tuple #[.int .i64 gv, .bool true])) = .returned (.tuple #[.int .i64 (earnV L O m a wv b), .bool (bidOk L O m a b)]) := by
          rw [earnV, HOK.out, if_pos rfl, hfin.out]
        exact ⟨Eq.trans rfl hv, HB4.out⟩
  · have hok : bidOk L O m a b = false := by rw [hOK.out]; exact decide_eq_false hE
    have hne : (gvE L Q m != 0) = true := by simpa using hE
    have HCG := Lib.hid CG
    have HOK := Lib.hid hok
    clear CP CG hrd hP hb hE hok
    go_wp2_with fail
    refine HCG.out.mono ?_
    rintro e w3 ⟨A2, c2, A3, c3, rfl, r2, r3, hb3⟩
    have HB3 := Lib.hid (HB.out.trans (hb3.mono HB.out.size))
    clear r2 r3 hb3 HCG hOK
    generalize gvE L Q m = ge at *
    go_wp2
    go_ret2
    have hv : (Ending.returned (.tuple #[.int .i64 0, .bool false])) = .returned (.tuple #[.int .i64 (earnV L O m a wv b), .bool (bidOk L O m a b)]) := by
      rw [earnV, HOK.out, if_neg (by decide)]
    exact ⟨Eq.trans rfl hv, HB3.out⟩
end Go.Proofs.Ytjgobpejifhphaa

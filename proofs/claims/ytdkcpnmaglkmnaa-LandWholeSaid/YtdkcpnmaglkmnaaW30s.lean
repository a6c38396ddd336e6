import Derived.Test.YtdkcpnmaglkmnaaW30r
import Derived.Deep.RegionHeld3
import Derived.Deep.AppendLies
/-! Walks of chapter 30: given. -/
namespace Go.Proofs.Ytdkcpnmaglkmnaa
open Go.RowKit Go.Deep
set_option linter.unusedVariables false
set_option maxRecDepth 100000

theorem land0 {w : World} {g : Nat} (h : w.heap[g]? = some (.cells #[.int .i64 0, .int .i64 0, .slice none 0 0] 24 (0, 0))) :
    w.cell? ⟨g, 0, none⟩ = some (.int .i64 0) ∧ w.cell? ⟨g, 1, none⟩ = some (.int .i64 0) ∧ w.cell? ⟨g, 2, none⟩ = some (.slice none 0 0) ∧ ∀ o, w.frozen? ⟨g, o, none⟩ = false :=
  ⟨by simp [World.cell?, h], by simp [World.cell?, h], by simp [World.cell?, h], fun o => by simp [World.frozen?, h]⟩

theorem sFacts {w2 WX w8 : World} {n q : Nat} (hb : Below w2.heap.size w2 WX) (hg : WX.grownBy w8 (some q)) (hn : n < w2.heap.size) (hq : n ≠ q) {x y z : Value}
    (b0 : w2.cell? ⟨n, 0, none⟩ = some x) (b1 : w2.cell? ⟨n, 1, none⟩ = some y) (b2 : w2.cell? ⟨n, 2, none⟩ = some z) :
    w8.cell? ⟨n, 0, none⟩ = some x ∧ w8.cell? ⟨n, 1, none⟩ = some y ∧ w8.cell? ⟨n, 2, none⟩ = some z ∧ n < w8.heap.size := by
  have hlt : n < WX.heap.size := Nat.lt_of_lt_of_le hn hb.size
  have hf := fun o => (hg.cell_far ⟨n, o, none⟩ hlt (by simpa using hq)).trans ((bcell hb).1 n o hn)
  exact ⟨(hf 0).trans b0, (hf 1).trans b1, (hf 2).trans b2, Nat.lt_of_lt_of_le hlt hg.size⟩
theorem kFacts {WX w8 : World} {p q : Nat} (hg : WX.grownBy w8 (some q)) (hp : p < WX.heap.size) (hq : p ≠ q) (K : WX.cell? ⟨p, 0, none⟩ = some (.int .i64 0) ∧ WX.cell? ⟨p, 1, none⟩ = some (.int .i64 0) ∧ WX.cell? ⟨p, 2, none⟩ = some (.slice none 0 0) ∧ ∀ o, WX.frozen? ⟨p, o, none⟩ = false) :
    w8.cell? ⟨p, 0, none⟩ = some (.int .i64 0) ∧ w8.cell? ⟨p, 1, none⟩ = some (.int .i64 0) ∧ w8.cell? ⟨p, 2, none⟩ = some (.slice none 0 0) ∧ w8.frozen? ⟨p, 0, none⟩ = false ∧ w8.frozen? ⟨p, 1, none⟩ = false ∧ w8.frozen? ⟨p, 2, none⟩ = false := by
  have hf := fun o => hg.cell_far ⟨p, o, none⟩ hp (by simpa using hq)
  have hz := fun o => hg.frozen_far ⟨p, o, none⟩ hp (by simpa using hq)
  exact ⟨(hf 0).trans K.1, (hf 1).trans K.2.1, (hf 2).trans K.2.2.1, (hz 0).trans (K.2.2.2 0), (hz 1).trans (K.2.2.2 1), (hz 2).trans (K.2.2.2 2)⟩

theorem oFacts {w8 : World} {g cp base T : Nat} {L : List Int} (hown : w8.ownsRow base T 1 (.slice (some ⟨g, 0, none⟩) (0 + L.length) cp) (0 + L.length) ([] ++ L.map (Value.int .i64))) (hn : 0 < L.length) :
    OwnP w8 g T L ∧ base ≤ g := by
  obtain ⟨g', c', e, h1, h2⟩ := ownP_of_row (L := L) (by simpa using hown) hn
  cases e
  exact ⟨h2, h1⟩

set_option maxHeartbeats 2000000 in
theorem lrGiven {w : World} {B : Nat} {A : Option Addr} {L : List Int} {cap : Nat} (h : Rd w B A L) (hB : B ≤ w.heap.size) (W H : Int) {i : Nat} (hi : i < L.length) {x : Int} (hx : I64 x) :
    Calls Try.prog 48 #[.agg #[.int .i64 W, .int .i64 H, .slice A L.length cap], .int .i64 i, .int .i64 x] w (LandRes w W H (L.set i x)) := by
  have hal : Below w.heap.size w ((w.alloc (.cells #[.int .i64 W, .int .i64 H, .slice A L.length cap] 24)).alloc (.cells #[.int .i64 0, .int .i64 0, .slice none 0 0] 24)) := ((Below.refl _ _).alloc (Nat.le_refl _) _).alloc (by simp) _
  have hsz : ((w.alloc (.cells #[.int .i64 W, .int .i64 H, .slice A L.length cap] 24)).alloc (.cells #[.int .i64 0, .int .i64 0, .slice none 0 0] 24)).heap.size = w.heap.size + 2 := by simp
  have b0 : ((w.alloc (.cells #[.int .i64 W, .int .i64 H, .slice A L.length cap] 24)).alloc (.cells #[.int .i64 0, .int .i64 0, .slice none 0 0] 24)).cell? ⟨w.heap.size, 0, none⟩ = some (.int .i64 W) := by simp
  have b1 : ((w.alloc (.cells #[.int .i64 W, .int .i64 H, .slice A L.length cap] 24)).alloc (.cells #[.int .i64 0, .int .i64 0, .slice none 0 0] 24)).cell? ⟨w.heap.size, 1, none⟩ = some (.int .i64 H) := by simp
  have b2 : ((w.alloc (.cells #[.int .i64 W, .int .i64 H, .slice A L.length cap] 24)).alloc (.cells #[.int .i64 0, .int .i64 0, .slice none 0 0] 24)).cell? ⟨w.heap.size, 2, none⟩ = some (.slice A L.length cap) := by simp
  have hh2 : ((w.alloc (.cells #[.int .i64 W, .int .i64 H, .slice A L.length cap] 24)).alloc (.cells #[.int .i64 0, .int .i64 0, .slice none 0 0] 24)).heap[w.heap.size + 1]? = some (.cells #[.int .i64 0, .int .i64 0, .slice none 0 0] 24 (0, 0)) := heap_alloc2_new w _ _
  have HR := Lib.hid h
  have HAL := Lib.hid hal
  have HH2 := Lib.hid hh2
  have HSZ := Lib.hid hsz
  have hlen := h.len
  obtain ⟨i0, hi0, hz0, hz1, hz2⟩ := info_parts infoInt'
  have HI := Lib.hid hi0
  have hn : 0 < L.length := by omega
  obtain ⟨bb, off, rfl, hbb, _⟩ := h.2.2 hn
  have HCE : Hid (∀ u, Below w.heap.size w u → ∀ (j : Nat) (v : Value), (L.map (Value.int .i64))[j]? = some v → u.cell? ((⟨bb, off, none⟩ : Addr).add j) = some v) := Lib.hid (fun u hu => by
    obtain ⟨bb', off', e, _, hc⟩ := (h.below hu hB).2.2 hn
    cases e
    exact cells_ints hc)
  clear h hal hh2 hsz hi0
  go_enter Try.func48, Try.ntmps48
  go_wp2_with fail
  generalize hw2 : ((w.alloc (.cells #[.int .i64 W, .int .i64 H, .slice (some ⟨bb, off, none⟩) L.length cap] 24)).alloc (.cells #[.int .i64 0, .int .i64 0, .slice none 0 0] 24)) = w2 at *
  have hS0 : w2.drew.cell? ⟨w.heap.size, 0, none⟩ = some (.int .i64 W) ∧ w2.drew.cell? ⟨w.heap.size, 1, none⟩ = some (.int .i64 H) ∧ w2.drew.cell? ⟨w.heap.size, 2, none⟩ = some (.slice (some ⟨bb, off, none⟩) L.length cap) := ⟨b0, b1, b2⟩
  have HBD : Hid (Below w.heap.size w w2.drew) := Lib.hid (below_drewN HAL.out 1)
  have hz := HSZ.out
  clear hw2
  have HOC : (w2.drew.alloc (.cells #[] 3)).ownsRow (w.heap.size + 2) 3 1 (.slice (some ⟨w.heap.size + 2, 0, none⟩) 0 0) 0 [] := by
    have h1 := own_empty w2.drew 3
    have h2 : w2.drew.heap.size = w.heap.size + 2 := hz
    rwa [h2] at h1
  have HOB := HOC.alloc (.cells #[.int .i64 0, .int .i64 0, .slice none 0 0] 24)
  have HOA : ((w2.drew.alloc (.cells #[.int .i64 0, .int .i64 0, .slice none 0 0] 24)).alloc (.cells #[] 3)).ownsRow (w.heap.size + 3) 3 1 (.slice (some ⟨w.heap.size + 3, 0, none⟩) 0 0) 0 [] := by
    have h1 := own_empty (w2.drew.alloc (.cells #[.int .i64 0, .int .i64 0, .slice none 0 0] 24)) 3
    have h2 : (w2.drew.alloc (.cells #[.int .i64 0, .int .i64 0, .slice none 0 0] 24)).heap.size = w.heap.size + 3 := by
      have h3 : w2.drew.heap.size = w.heap.size + 2 := hz
      simp; omega
    rwa [h2] at h1
  have HHB : ((w2.drew.alloc (.cells #[] 3)).alloc (.cells #[.int .i64 0, .int .i64 0, .slice none 0 0] 24)).heap[w.heap.size + 3]? = some (.cells #[.int .i64 0, .int .i64 0, .slice none 0 0] 24 (0, 0)) := by
    have h1 := heap_alloc2_new w2.drew (.cells #[] 3) (.cells #[.int .i64 0, .int .i64 0, .slice none 0 0] 24)
    have h2 : w2.drew.heap.size = w.heap.size + 2 := hz
    rwa [h2] at h1
  have HHA : ((w2.drew.alloc (.cells #[.int .i64 0, .int .i64 0, .slice none 0 0] 24)).alloc (.cells #[] 3)).heap[w.heap.size + 2]? = some (.cells #[.int .i64 0, .int .i64 0, .slice none 0 0] 24 (0, 0)) := by
    have h1 := heap_alloc2_old w2.drew (.cells #[.int .i64 0, .int .i64 0, .slice none 0 0] 24) (.cells #[] 3)
    have h2 : w2.drew.heap.size = w.heap.size + 2 := hz
    rwa [h2] at h1
  have KA := Lib.hid (land0 HHA)
  have KB := Lib.hid (land0 HHB)
  have HHA' := Lib.hid HHA
  have HHB' := Lib.hid HHB
  clear HHA HHB
  have hzd : w2.drew.heap.size = w.heap.size + 2 := hz
  have SBA : Hid (Below w2.heap.size w2 ((w2.drew.alloc (.cells #[.int .i64 0, .int .i64 0, .slice none 0 0] 24)).alloc (.cells #[] 3)) ∧ w.heap.size + 2 < ((w2.drew.alloc (.cells #[.int .i64 0, .int .i64 0, .slice none 0 0] 24)).alloc (.cells #[] 3)).heap.size) := Lib.hid ⟨((below_drewN (Below.refl w2.heap.size w2) 1).alloc (Nat.le_refl _) _).alloc (by simp) _, by simp [hz]⟩
  have SBB : Hid (Below w2.heap.size w2 ((w2.drew.alloc (.cells #[] 3)).alloc (.cells #[.int .i64 0, .int .i64 0, .slice none 0 0] 24)) ∧ w.heap.size + 3 < ((w2.drew.alloc (.cells #[] 3)).alloc (.cells #[.int .i64 0, .int .i64 0, .slice none 0 0] 24)).heap.size) := Lib.hid ⟨((below_drewN (Below.refl w2.heap.size w2) 1).alloc (Nat.le_refl _) _).alloc (by simp) _, by simp [hz]⟩
  have SBC : Hid (Below w2.heap.size w2 (w2.drew.alloc (.cells #[] 3))) := Lib.hid ((below_drewN (Below.refl w2.heap.size w2) 1).alloc (Nat.le_refl _) _)
  clear hzd
  have HOC' := Lib.hid HOC
  have HOB' := Lib.hid HOB
  have HOA' := Lib.hid HOA
  clear HOA HOB HOC
  go_region_held3 (fun w' => w'.cell? ⟨w.heap.size, 0, none⟩ = some (.int .i64 W) ∧ w'.cell? ⟨w.heap.size, 1, none⟩ = some (.int .i64 H) ∧ w'.cell? ⟨w.heap.size, 2, none⟩ = some (.slice (some ⟨bb, off, none⟩) L.length cap))
    (first | assumption | go_keep | (refine ⟨?_, ?_, ?_⟩ <;> (rw [World.cell?_setCell_far _ _ _ _ (by simp; try omega), World.cell?_setCell_far _ _ _ _ (by simp; try omega), World.cell?_setCell_far _ _ _ _ (by simp; try omega)]; assumption)))
    (first | (refine step_append_lies _ (by rfl) _ _ 22 (by rfl) (w.heap.size + 3) 3 i0 (.int .i64 0) 1 8 Try.underlying22 HI.out hz0 hz1 hz2 rfl (by omega) (.slice (some ⟨w.heap.size + 3, 0, none⟩) 0 0) 0 [] (by rfl) HOA'.out ⟨bb, off, none⟩ L.length cap (L.map (Value.int .i64)) (by rfl) (by simp) (HCE.out _ ((HBD.out.alloc (by simp; omega) _).alloc (by simp; omega) _)) (ints_oneCell _ _) (by omega) (by unfold maxLen; omega) (by omega) (by simp; try omega) _ rfl ?_; intro g cp w8 hown8 hgrow hat hlt8; obtain ⟨s0, s1, s2, s3⟩ := sFacts SBA.out.1 (q := (w.heap.size + 3)) hgrow (by omega) (by omega) b0 b1 b2; obtain ⟨k0, k1, k2, j0, j1, j2⟩ := kFacts (q := (w.heap.size + 3)) hgrow SBA.out.2 (by omega) KA.out) | (refine step_append_lies _ (by rfl) _ _ 22 (by rfl) (w.heap.size + 2) 3 i0 (.int .i64 0) 1 8 Try.underlying22 HI.out hz0 hz1 hz2 rfl (by omega) (.slice (some ⟨w.heap.size + 2, 0, none⟩) 0 0) 0 [] (by rfl) HOB'.out ⟨bb, off, none⟩ L.length cap (L.map (Value.int .i64)) (by rfl) (by simp) (HCE.out _ ((HBD.out.alloc (by simp; omega) _).alloc (by simp; omega) _)) (ints_oneCell _ _) (by omega) (by unfold maxLen; omega) (by omega) (by simp; try omega) _ rfl ?_; intro g cp w8 hown8 hgrow hat hlt8; obtain ⟨s0, s1, s2, s3⟩ := sFacts SBB.out.1 (q := (w.heap.size + 2)) hgrow (by omega) (by omega) b0 b1 b2; obtain ⟨k0, k1, k2, j0, j1, j2⟩ := kFacts (q := (w.heap.size + 2)) hgrow SBB.out.2 (by omega) KB.out) | (refine step_append_lies _ (by rfl) _ _ 22 (by rfl) (w.heap.size + 2) 3 i0 (.int .i64 0) 1 8 Try.underlying22 HI.out hz0 hz1 hz2 rfl (by omega) (.slice (some ⟨w.heap.size + 2, 0, none⟩) 0 0) 0 [] (by rfl) HOC'.out ⟨bb, off, none⟩ L.length cap (L.map (Value.int .i64)) (by rfl) (by simp) (HCE.out _ (HBD.out.alloc (by simp; omega) _)) (ints_oneCell _ _) (by omega) (by unfold maxLen; omega) (by omega) (by simp; try omega) _ rfl ?_; intro g cp w8 hown8 hgrow hat hlt8; obtain ⟨s0, s1, s2, s3⟩ := sFacts SBC.out (q := (w.heap.size + 2)) hgrow (by omega) (by omega) b0 b1 b2))
  · have O8 := Lib.hid (oFacts hown8 hn)
    have hBz : Below w.heap.size w (w8.alloc (.cells #[.int .i64 W, .int .i64 H, (.slice (some ⟨g, 0, none⟩) L.length cp)] 24)) := ((HAL.out.trans (SBC.out.mono HAL.out.size)).grown hgrow (by have := SBC.out.size; have h1 : (w2.alloc (.cells #[] 3)).drew.heap.size = (w2.drew.alloc (.cells #[] 3)).heap.size := rfl; omega) (fun k hk => by simp [Value.ownBlock] at hk; omega)).alloc (Nat.le_of_lt s3) _
    have hT : (w8.alloc (.cells #[.int .i64 W, .int .i64 H, (.slice (some ⟨g, 0, none⟩) L.length cp)] 24)).heap[w.heap.size + 1]? = some (.cells #[.int .i64 0, .int .i64 0, .slice none 0 0] 24 (0, 0)) := by
      have h0 : w.heap.size + 1 < (w2.drew.alloc (.cells #[] 3)).heap.size := by have := SBC.out.size; omega
      have h1 := hgrow.block (w.heap.size + 1) h0 (by simp [Value.ownBlock])
      have h2 := hgrow.size
      have h3 : (w2.drew.alloc (.cells #[] 3)).heap.size ≤ w8.heap.size := h2
      exact (Below.heap_alloc _ _ _ (by omega)).trans (h1.trans ((SBC.out.block (w.heap.size + 1) (by omega)).trans HH2.out))
    have hP := heap_alloc_new w8 (.cells #[.int .i64 W, .int .i64 H, (.slice (some ⟨g, 0, none⟩) L.length cp)] 24)
    have hO := O8.out.1.alloc (.cells #[.int .i64 W, .int .i64 H, (.slice (some ⟨g, 0, none⟩) L.length cp)] 24)
    have hgp : g ≠ w8.heap.size := by omega
    have hgb := O8.out.2
    have hpn : w8.heap.size ≠ w.heap.size + 1 := by omega
    clear hown8 hgrow hat s0 s1 s2 hS0 b0 b1 b2
    generalize hwz : w8.alloc (.cells #[.int .i64 W, .int .i64 H, (.slice (some ⟨g, 0, none⟩) L.length cp)] 24) = wz at *
    generalize hpp : w8.heap.size = pp at *
    have hOb := hO.store i x
    have hBb := hBz.setCell (p := ⟨g, i, none⟩) (by show w.heap.size ≤ g; omega) (.int .i64 x)
    have hPb := (Below.heap_setCell wz ⟨g, i, none⟩ (.int .i64 x) pp (Ne.symm hgp)).trans hP
    have hTb := (Below.heap_setCell wz ⟨g, i, none⟩ (.int .i64 x) (w.heap.size + 1) (by show w.heap.size + 1 ≠ g; omega)).trans hT
    obtain ⟨y, hy⟩ : ∃ y, L[i]? = some y := ⟨L[i], by simp [hi]⟩
    have a2 : wz.cell? ⟨pp, 2, none⟩ = some (.slice (some ⟨g, 0, none⟩) L.length cp) := by simp [World.cell?, hP]
    have ca := hO.cell hy
    have fa := hO.frozen i
    obtain ⟨wy, hwy⟩ : ∃ wy, wz.setCell ⟨g, i, none⟩ (.int .i64 x) = wy := ⟨_, rfl⟩
    rw [hwy] at hOb hBb hPb hTb
    have c0 : wy.cell? ⟨pp, 0, none⟩ = some (.int .i64 W) := by simp [World.cell?, hPb]
    have c1 : wy.cell? ⟨pp, 1, none⟩ = some (.int .i64 H) := by simp [World.cell?, hPb]
    have c2 : wy.cell? ⟨pp, 2, none⟩ = some (.slice (some ⟨g, 0, none⟩) L.length cp) := by simp [World.cell?, hPb]
    obtain ⟨d0, d1, d2, e0⟩ := land0 hTb
    have e1 := e0 1
    have e2 := e0 2
    replace e0 := e0 0
    have HTB := Lib.hid hTb
    have HOB8 := Lib.hid hOb
    have HBB8 := Lib.hid hBb
    have HGP := Lib.hid (And.intro hgb hgp)
    clear hy hOb hBb hPb hTb hP hT hO hBz hgb hgp
    go_wp2
    have hgn : g ≠ w.heap.size + 1 := by have := HGP.out.1; omega
    have hOf := ((HOB8.out.far (p := ⟨w.heap.size + 1, 0, none⟩) hgn (.int .i64 W)).far (p := ⟨w.heap.size + 1, 1, none⟩) hgn (.int .i64 H)).far (p := ⟨w.heap.size + 1, 2, none⟩) hgn (.slice (some ⟨g, 0, none⟩) L.length cp)
    have hBf := ((HBB8.out.setCell (p := ⟨w.heap.size + 1, 0, none⟩) (Nat.le_succ _) (.int .i64 W)).setCell (p := ⟨w.heap.size + 1, 1, none⟩) (Nat.le_succ _) (.int .i64 H)).setCell (p := ⟨w.heap.size + 1, 2, none⟩) (Nat.le_succ _) (.slice (some ⟨g, 0, none⟩) L.length cp)
    have hHf := three_set HTB.out (.int .i64 W) (.int .i64 H) (.slice (some ⟨g, 0, none⟩) L.length cp)
    refine bodyPost_ret (landCell rfl _ _ _ _ _ _ _ rfl hHf) rfl ⟨some ⟨g, 0, none⟩, cp, by rw [List.length_set], ?_, fun p hp => (by cases hp; show w.heap.size ≤ g; have := HGP.out.1; omega), hBf⟩
    refine hOf.rd (fun z hz => ?_) (by rw [List.length_set]; exact hlen) hOf.lt
    rcases List.mem_or_eq_of_mem_set hz with hz | rfl
    · exact HR.out.1 z hz
    · exact hx
  · have O8 := Lib.hid (oFacts hown8 hn)
    have hsz8 : ((w2.drew.alloc (.cells #[] 3)).alloc (.cells #[.int .i64 0, .int .i64 0, .slice none 0 0] 24)).heap.size ≤ w8.heap.size := hgrow.size
    have hs2 := SBB.out.1.size
    have hs3 := SBB.out.2
    have hBz : Below w.heap.size w (((w8.setCell ⟨w.heap.size + 2 + 1, 0, none⟩ (.int .i64 W)).setCell ⟨w.heap.size + 2 + 1, 1, none⟩ (.int .i64 H)).setCell ⟨w.heap.size + 2 + 1, 2, none⟩ (.slice (some ⟨g, 0, none⟩) L.length cp)) := ((((HAL.out.trans (SBB.out.1.mono HAL.out.size)).grown hgrow (show w.heap.size ≤ ((w2.drew.alloc (.cells #[] 3)).alloc (.cells #[.int .i64 0, .int .i64 0, .slice none 0 0] 24)).heap.size by omega) (fun k hk => by simp [Value.ownBlock] at hk; omega)).setCell (p := ⟨w.heap.size + 2 + 1, 0, none⟩) (by show w.heap.size ≤ w.heap.size + 2 + 1; omega) (.int .i64 W)).setCell (p := ⟨w.heap.size + 2 + 1, 1, none⟩) (by show w.heap.size ≤ w.heap.size + 2 + 1; omega) (.int .i64 H)).setCell (p := ⟨w.heap.size + 2 + 1, 2, none⟩) (by show w.heap.size ≤ w.heap.size + 2 + 1; omega) (.slice (some ⟨g, 0, none⟩) L.length cp)
    have hP : (((w8.setCell ⟨w.heap.size + 2 + 1, 0, none⟩ (.int .i64 W)).setCell ⟨w.heap.size + 2 + 1, 1, none⟩ (.int .i64 H)).setCell ⟨w.heap.size + 2 + 1, 2, none⟩ (.slice (some ⟨g, 0, none⟩) L.length cp)).heap[w.heap.size + 2 + 1]? = some (.cells #[.int .i64 W, .int .i64 H, (.slice (some ⟨g, 0, none⟩) L.length cp)] 24 (0, 0)) := three_set ((hgrow.block (w.heap.size + 2 + 1) (show w.heap.size + 2 + 1 < ((w2.drew.alloc (.cells #[] 3)).alloc (.cells #[.int .i64 0, .int .i64 0, .slice none 0 0] 24)).heap.size by omega) (by simp [Value.ownBlock])).trans HHB'.out) _ _ _
    have hT : (((w8.setCell ⟨w.heap.size + 2 + 1, 0, none⟩ (.int .i64 W)).setCell ⟨w.heap.size + 2 + 1, 1, none⟩ (.int .i64 H)).setCell ⟨w.heap.size + 2 + 1, 2, none⟩ (.slice (some ⟨g, 0, none⟩) L.length cp)).heap[w.heap.size + 1]? = some (.cells #[.int .i64 0, .int .i64 0, .slice none 0 0] 24 (0, 0)) := by
      have h1 := hgrow.block (w.heap.size + 1) (show w.heap.size + 1 < ((w2.drew.alloc (.cells #[] 3)).alloc (.cells #[.int .i64 0, .int .i64 0, .slice none 0 0] 24)).heap.size by omega) (by simp [Value.ownBlock])
      exact (Below.heap_setCell _ _ _ _ (show w.heap.size + 1 ≠ w.heap.size + 2 + 1 by omega)).trans ((Below.heap_setCell _ _ _ _ (show w.heap.size + 1 ≠ w.heap.size + 2 + 1 by omega)).trans ((Below.heap_setCell _ _ _ _ (show w.heap.size + 1 ≠ w.heap.size + 2 + 1 by omega)).trans (h1.trans ((SBB.out.1.block (w.heap.size + 1) (by omega)).trans HH2.out))))
    have hgp : g ≠ w.heap.size + 2 + 1 := by
      rcases hat with h1 | h1
      · have : w.heap.size + 2 = g := by simpa [Value.ownBlock] using h1
        omega
      · have h2 : g = ((w2.drew.alloc (.cells #[] 3)).alloc (.cells #[.int .i64 0, .int .i64 0, .slice none 0 0] 24)).heap.size := h1
        omega
    have hO := ((O8.out.1.far (p := ⟨w.heap.size + 2 + 1, 0, none⟩) hgp (.int .i64 W)).far (p := ⟨w.heap.size + 2 + 1, 1, none⟩) hgp (.int .i64 H)).far (p := ⟨w.heap.size + 2 + 1, 2, none⟩) hgp (.slice (some ⟨g, 0, none⟩) L.length cp)
    have hgb : w.heap.size + 2 ≤ g := by have := O8.out.2; omega
    have hpn : w.heap.size + 2 + 1 ≠ w.heap.size + 1 := by omega
    clear hown8 hgrow hat s0 s1 s2 hS0 b0 b1 b2 k0 k1 k2 j0 j1 j2 hsz8 hs2 hs3
    generalize hwz : (((w8.setCell ⟨w.heap.size + 2 + 1, 0, none⟩ (.int .i64 W)).setCell ⟨w.heap.size + 2 + 1, 1, none⟩ (.int .i64 H)).setCell ⟨w.heap.size + 2 + 1, 2, none⟩ (.slice (some ⟨g, 0, none⟩) L.length cp)) = wz at *
    generalize hpp : w.heap.size + 2 + 1 = pp at *
    have hOb := hO.store i x
    have hBb := hBz.setCell (p := ⟨g, i, none⟩) (by show w.heap.size ≤ g; omega) (.int .i64 x)
    have hPb := (Below.heap_setCell wz ⟨g, i, none⟩ (.int .i64 x) pp (Ne.symm hgp)).trans hP
    have hTb := (Below.heap_setCell wz ⟨g, i, none⟩ (.int .i64 x) (w.heap.size + 1) (by show w.heap.size + 1 ≠ g; omega)).trans hT
    obtain ⟨y, hy⟩ : ∃ y, L[i]? = some y := ⟨L[i], by simp [hi]⟩
    have a2 : wz.cell? ⟨pp, 2, none⟩ = some (.slice (some ⟨g, 0, none⟩) L.length cp) := by simp [World.cell?, hP]
    have ca := hO.cell hy
    have fa := hO.frozen i
    obtain ⟨wy, hwy⟩ : ∃ wy, wz.setCell ⟨g, i, none⟩ (.int .i64 x) = wy := ⟨_, rfl⟩
    rw [hwy] at hOb hBb hPb hTb
    have c0 : wy.cell? ⟨pp, 0, none⟩ = some (.int .i64 W) := by simp [World.cell?, hPb]
    have c1 : wy.cell? ⟨pp, 1, none⟩ = some (.int .i64 H) := by simp [World.cell?, hPb]
    have c2 : wy.cell? ⟨pp, 2, none⟩ = some (.slice (some ⟨g, 0, none⟩) L.length cp) := by simp [World.cell?, hPb]
    obtain ⟨d0, d1, d2, e0⟩ := land0 hTb
    have e1 := e0 1
    have e2 := e0 2
    replace e0 := e0 0
    have HTB := Lib.hid hTb
    have HOB8 := Lib.hid hOb
    have HBB8 := Lib.hid hBb
    have HGP := Lib.hid (And.intro hgb hgp)
    clear hy hOb hBb hPb hTb hP hT hO hBz hgb hgp
    go_wp2
    have hgn : g ≠ w.heap.size + 1 := by have := HGP.out.1; omega
    have hOf := ((HOB8.out.far (p := ⟨w.heap.size + 1, 0, none⟩) hgn (.int .i64 W)).far (p := ⟨w.heap.size + 1, 1, none⟩) hgn (.int .i64 H)).far (p := ⟨w.heap.size + 1, 2, none⟩) hgn (.slice (some ⟨g, 0, none⟩) L.length cp)
    have hBf := ((HBB8.out.setCell (p := ⟨w.heap.size + 1, 0, none⟩) (Nat.le_succ _) (.int .i64 W)).setCell (p := ⟨w.heap.size + 1, 1, none⟩) (Nat.le_succ _) (.int .i64 H)).setCell (p := ⟨w.heap.size + 1, 2, none⟩) (Nat.le_succ _) (.slice (some ⟨g, 0, none⟩) L.length cp)
    have hHf := three_set HTB.out (.int .i64 W) (.int .i64 H) (.slice (some ⟨g, 0, none⟩) L.length cp)
    refine bodyPost_ret (landCell rfl _ _ _ _ _ _ _ rfl hHf) rfl ⟨some ⟨g, 0, none⟩, cp, by rw [List.length_set], ?_, fun p hp => (by cases hp; show w.heap.size ≤ g; have := HGP.out.1; omega), hBf⟩
    refine hOf.rd (fun z hz => ?_) (by rw [List.length_set]; exact hlen) hOf.lt
    rcases List.mem_or_eq_of_mem_set hz with hz | rfl
    · exact HR.out.1 z hz
    · exact hx
  · have O8 := Lib.hid (oFacts hown8 hn)
    have hsz8 : ((w2.drew.alloc (.cells #[.int .i64 0, .int .i64 0, .slice none 0 0] 24)).alloc (.cells #[] 3)).heap.size ≤ w8.heap.size := hgrow.size
    have hs2 := SBA.out.1.size
    have hs3 := SBA.out.2
    have hBz : Below w.heap.size w (((w8.setCell ⟨w.heap.size + 2, 0, none⟩ (.int .i64 W)).setCell ⟨w.heap.size + 2, 1, none⟩ (.int .i64 H)).setCell ⟨w.heap.size + 2, 2, none⟩ (.slice (some ⟨g, 0, none⟩) L.length cp)) := ((((HAL.out.trans (SBA.out.1.mono HAL.out.size)).grown hgrow (show w.heap.size ≤ ((w2.drew.alloc (.cells #[.int .i64 0, .int .i64 0, .slice none 0 0] 24)).alloc (.cells #[] 3)).heap.size by omega) (fun k hk => by simp [Value.ownBlock] at hk; omega)).setCell (p := ⟨w.heap.size + 2, 0, none⟩) (by show w.heap.size ≤ w.heap.size + 2; omega) (.int .i64 W)).setCell (p := ⟨w.heap.size + 2, 1, none⟩) (by show w.heap.size ≤ w.heap.size + 2; omega) (.int .i64 H)).setCell (p := ⟨w.heap.size + 2, 2, none⟩) (by show w.heap.size ≤ w.heap.size + 2; omega) (.slice (some ⟨g, 0, none⟩) L.length cp)
    have hP : (((w8.setCell ⟨w.heap.size + 2, 0, none⟩ (.int .i64 W)).setCell ⟨w.heap.size + 2, 1, none⟩ (.int .i64 H)).setCell ⟨w.heap.size + 2, 2, none⟩ (.slice (some ⟨g, 0, none⟩) L.length cp)).heap[w.heap.size + 2]? = some (.cells #[.int .i64 W, .int .i64 H, (.slice (some ⟨g, 0, none⟩) L.length cp)] 24 (0, 0)) := three_set ((hgrow.block (w.heap.size + 2) (show w.heap.size + 2 < ((w2.drew.alloc (.cells #[.int .i64 0, .int .i64 0, .slice none 0 0] 24)).alloc (.cells #[] 3)).heap.size by omega) (by simp [Value.ownBlock])).trans HHA'.out) _ _ _
    have hT : (((w8.setCell ⟨w.heap.size + 2, 0, none⟩ (.int .i64 W)).setCell ⟨w.heap.size + 2, 1, none⟩ (.int .i64 H)).setCell ⟨w.heap.size + 2, 2, none⟩ (.slice (some ⟨g, 0, none⟩) L.length cp)).heap[w.heap.size + 1]? = some (.cells #[.int .i64 0, .int .i64 0, .slice none 0 0] 24 (0, 0)) := by
      have h1 := hgrow.block (w.heap.size + 1) (show w.heap.size + 1 < ((w2.drew.alloc (.cells #[.int .i64 0, .int .i64 0, .slice none 0 0] 24)).alloc (.cells #[] 3)).heap.size by omega) (by simp [Value.ownBlock])
      exact (Below.heap_setCell _ _ _ _ (show w.heap.size + 1 ≠ w.heap.size + 2 by omega)).trans ((Below.heap_setCell _ _ _ _ (show w.heap.size + 1 ≠ w.heap.size + 2 by omega)).trans ((Below.heap_setCell _ _ _ _ (show w.heap.size + 1 ≠ w.heap.size + 2 by omega)).trans (h1.trans ((SBA.out.1.block (w.heap.size + 1) (by omega)).trans HH2.out))))
    have hgp : g ≠ w.heap.size + 2 := by
      rcases hat with h1 | h1
      · have : w.heap.size + 2 + 1 = g := by simpa [Value.ownBlock] using h1
        omega
      · have h2 : g = ((w2.drew.alloc (.cells #[.int .i64 0, .int .i64 0, .slice none 0 0] 24)).alloc (.cells #[] 3)).heap.size := h1
        omega
    have hO := ((O8.out.1.far (p := ⟨w.heap.size + 2, 0, none⟩) hgp (.int .i64 W)).far (p := ⟨w.heap.size + 2, 1, none⟩) hgp (.int .i64 H)).far (p := ⟨w.heap.size + 2, 2, none⟩) hgp (.slice (some ⟨g, 0, none⟩) L.length cp)
    have hgb : w.heap.size + 2 ≤ g := by have := O8.out.2; omega
    have hpn : w.heap.size + 2 ≠ w.heap.size + 1 := by omega
    clear hown8 hgrow hat s0 s1 s2 hS0 b0 b1 b2 k0 k1 k2 j0 j1 j2 hsz8 hs2 hs3
    generalize hwz : (((w8.setCell ⟨w.heap.size + 2, 0, none⟩ (.int .i64 W)).setCell ⟨w.heap.size + 2, 1, none⟩ (.int .i64 H)).setCell ⟨w.heap.size + 2, 2, none⟩ (.slice (some ⟨g, 0, none⟩) L.length cp)) = wz at *
    generalize hpp : w.heap.size + 2 = pp at *
    have hOb := hO.store i x
    have hBb := hBz.setCell (p := ⟨g, i, none⟩) (by show w.heap.size ≤ g; omega) (.int .i64 x)
    have hPb := (Below.heap_setCell wz ⟨g, i, none⟩ (.int .i64 x) pp (Ne.symm hgp)).trans hP
    have hTb := (Below.heap_setCell wz ⟨g, i, none⟩ (.int .i64 x) (w.heap.size + 1) (by show w.heap.size + 1 ≠ g; omega)).trans hT
    obtain ⟨y, hy⟩ : ∃ y, L[i]? = some y := ⟨L[i], by simp [hi]⟩
    have a2 : wz.cell? ⟨pp, 2, none⟩ = some (.slice (some ⟨g, 0, none⟩) L.length cp) := by simp [World.cell?, hP]
    have ca := hO.cell hy
    have fa := hO.frozen i
    obtain ⟨wy, hwy⟩ : ∃ wy, wz.setCell ⟨g, i, none⟩ (.int .i64 x) = wy := ⟨_, rfl⟩
    rw [hwy] at hOb hBb hPb hTb
    have c0 : wy.cell? ⟨pp, 0, none⟩ = some (.int .i64 W) := by simp [World.cell?, hPb]
    have c1 : wy.cell? ⟨pp, 1, none⟩ = some (.int .i64 H) := by simp [World.cell?, hPb]
    have c2 : wy.cell? ⟨pp, 2, none⟩ = some (.slice (some ⟨g, 0, none⟩) L.length cp) := by simp [World.cell?, hPb]
    obtain ⟨d0, d1, d2, e0⟩ := land0 hTb
    have e1 := e0 1
    have e2 := e0 2
    replace e0 := e0 0
    have HTB := Lib.hid hTb
    have HOB8 := Lib.hid hOb
    have HBB8 := Lib.hid hBb
    have HGP := Lib.hid (And.intro hgb hgp)
    clear hy hOb hBb hPb hTb hP hT hO hBz hgb hgp
    go_wp2
    have hgn : g ≠ w.heap.size + 1 := by have := HGP.out.1; omega
    have hOf := ((HOB8.out.far (p := ⟨w.heap.size + 1, 0, none⟩) hgn (.int .i64 W)).far (p := ⟨w.heap.size + 1, 1, none⟩) hgn (.int .i64 H)).far (p := ⟨w.heap.size + 1, 2, none⟩) hgn (.slice (some ⟨g, 0, none⟩) L.length cp)
    have hBf := ((HBB8.out.setCell (p := ⟨w.heap.size + 1, 0, none⟩) (Nat.le_succ _) (.int .i64 W)).setCell (p := ⟨w.heap.size + 1, 1, none⟩) (Nat.le_succ _) (.int .i64 H)).setCell (p := ⟨w.heap.size + 1, 2, none⟩) (Nat.le_succ _) (.slice (some ⟨g, 0, none⟩) L.length cp)
    have hHf := three_set HTB.out (.int .i64 W) (.int .i64 H) (.slice (some ⟨g, 0, none⟩) L.length cp)
    refine bodyPost_ret (landCell rfl _ _ _ _ _ _ _ rfl hHf) rfl ⟨some ⟨g, 0, none⟩, cp, by rw [List.length_set], ?_, fun p hp => (by cases hp; show w.heap.size ≤ g; have := HGP.out.1; omega), hBf⟩
    refine hOf.rd (fun z hz => ?_) (by rw [List.length_set]; exact hlen) hOf.lt
    rcases List.mem_or_eq_of_mem_set hz with hz | rfl
    · exact HR.out.1 z hz
    · exact hx
end Go.Proofs.Ytdkcpnmaglkmnaa

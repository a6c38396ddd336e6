import Derived.Test.YtefbkdjppfofmaaS26t
/-! LevelNames: the calls over literals. -/
namespace Go.Proofs.Ytefbkdjppfofmaa
open Go.RowKit Go.Deep
set_option linter.unusedVariables false
set_option maxRecDepth 100000
theorem below1 (w : World) (o : _) : Below w.heap.size w (w.alloc o) := (Below.refl _ _).alloc (Nat.le_refl _) _
theorem below2 (w : World) (o o' : _) : Below w.heap.size w ((w.alloc o).alloc o') := (below1 w o).alloc (by simp) _
theorem below3 (w : World) (o o' o3 : _) : Below w.heap.size w (((w.alloc o).alloc o').alloc o3) := (below2 w o o').alloc (by simp; omega) _
theorem size1 (w : World) (o : _) : (w.alloc o).heap.size = w.heap.size + 1 := by simp
/-- two literal lists -/
theorem two_rd {w : World} {T : Nat} {L M : List Int} (hs : ∀ x ∈ L, -10000000 ≤ x ∧ x ≤ 10000000) (hl : L.length ≤ 40) (hs' : ∀ x ∈ M, -10000000 ≤ x ∧ x ≤ 10000000) (hl' : M.length ≤ 40) :
    Rd ((w.alloc (.cells (L.map (Value.int .i64)).toArray T)).alloc (.cells (M.map (Value.int .i64)).toArray T)) (w.heap.size + 1) (some ⟨w.heap.size, 0, none⟩) L ∧
    Rd ((w.alloc (.cells (L.map (Value.int .i64)).toArray T)).alloc (.cells (M.map (Value.int .i64)).toArray T)) (w.heap.size + 2) (some ⟨w.heap.size + 1, 0, none⟩) M := by
  have h1 := newRd (w := w) (T := T) hs hl
  have h2 := newRd (w := w.alloc (.cells (L.map (Value.int .i64)).toArray T)) (T := T) hs' hl'
  rw [size1] at h2
  exact ⟨h1.below ((Below.refl _ _).alloc (by simp) _) (Nat.le_refl _), h2⟩
def NumBelow (w : World) (c : Int) (e : Ending) (w' : World) : Prop := e = .returned (.int .i64 c) ∧ Below w.heap.size w w'
def RowBelow (w : World) (c : Int) (e : Ending) (w' : World) : Prop := ∃ A n k, e = .returned (.tuple #[.slice A n k, .int .i64 c]) ∧ Below w.heap.size w w'
theorem RdB2.nil (w : World) (B : Nat) : RdB2 w B none [] := RdOf.nil _ _ _
theorem chkNil (w : World) : Calls Try.prog 26 #[.slice none 0 0] w (NumBelow w 8) := by
  have h := lCheck26 (w := w) (W := []) (cap := 0) (RdB2.nil w 0) (Nat.zero_le _)
  rw [nm_chk.1] at h
  exact h
theorem countsLit {w : World} {A : Option Addr} {cap : Nat} {L : List Int} (h : RdB2 w w.heap.size A exW) (hs : ∀ x ∈ L, -10000000 ≤ x ∧ x ≤ 10000000) (hl : L.length ≤ 40) (hc : lkd26 exW L = 8) :
    Calls Try.prog 10 #[.slice A 2 cap, .slice (some ⟨w.heap.size, 0, none⟩) L.length L.length] (w.alloc (.cells (L.map (Value.int .i64)).toArray 3)) (RowBelow w 8) := by
  have b := below1 w (.cells (L.map (Value.int .i64)).toArray 3)
  have c := lCountsE (cap := cap) (cap' := L.length) (h.below b (Nat.le_refl _)) (newRd (T := 3) hs hl) (by rw [size1]; omega) (by rw [size1]; omega)
  rw [hc] at c
  refine Calls.mono c ?_
  rintro e w' ⟨A', k, rfl, _, hb⟩
  exact ⟨_, _, _, rfl, b.trans (hb.mono b.size)⟩
theorem passLit {w : World} {A : Option Addr} {cap : Nat} {L M : List Int} {c : Int} (h : RdB2 w w.heap.size A exW) (hs : ∀ x ∈ L, -10000000 ≤ x ∧ x ≤ 10000000) (hl : L.length ≤ 40) (hs' : ∀ x ∈ M, -10000000 ≤ x ∧ x ≤ 10000000) (hl' : M.length ≤ 40) (hc : psC exW L M = c) :
    Calls Try.prog 14 #[.slice A 2 cap, .slice (some ⟨w.heap.size, 0, none⟩) L.length L.length, .slice (some ⟨w.heap.size + 1, 0, none⟩) M.length M.length] ((w.alloc (.cells (L.map (Value.int .i64)).toArray 3)).alloc (.cells (M.map (Value.int .i64)).toArray 3)) fun e w' => ∃ A k, e = .returned (.tuple #[.slice A (psF exW L M).length k, .int .i64 c]) ∧ Rd w' w'.heap.size A (psF exW L M) ∧ Below w.heap.size w w' := by
  have b := below2 w (.cells (L.map (Value.int .i64)).toArray 3) (.cells (M.map (Value.int .i64)).toArray 3)
  have hr := two_rd (w := w) (T := 3) hs hl hs' hl'
  have c1 := lPassE (cap := cap) (cap' := L.length) (cap3 := M.length) (h.below b (Nat.le_refl _)) hr.1 hr.2 (by rw [size1, size1]; omega) (by rw [size1, size1]; omega) (by rw [size1, size1]; omega) (by omega) (Nat.le_refl _)
  rw [hc] at c1
  refine Calls.mono c1 ?_
  rintro e w' ⟨A', k, rfl, hr, hb⟩
  exact ⟨_, _, rfl, hr, b.trans (hb.mono b.size)⟩
theorem moreLit {w : World} {L M : List Int} {v c : Int} (hs : ∀ x ∈ L, -10000000 ≤ x ∧ x ≤ 10000000) (hl : L.length ≤ 40) (hs' : ∀ x ∈ M, -10000000 ≤ x ∧ x ≤ 10000000) (hl' : M.length ≤ 40) (hv : moreV L M = v) (hc : moreE L M = c) :
    Calls Try.prog 24 #[.slice (some ⟨w.heap.size, 0, none⟩) L.length L.length, .slice (some ⟨w.heap.size + 1, 0, none⟩) M.length M.length] ((w.alloc (.cells (L.map (Value.int .i64)).toArray 3)).alloc (.cells (M.map (Value.int .i64)).toArray 3)) fun e w' => e = .returned (.tuple #[.int .i64 v, .int .i64 c]) ∧ Below w.heap.size w w' := by
  have b := below2 w (.cells (L.map (Value.int .i64)).toArray 3) (.cells (M.map (Value.int .i64)).toArray 3)
  have hr := two_rd (w := w) (T := 3) hs hl hs' hl'
  have c1 := lMore (cap := L.length) (cap' := M.length) hr.1 hr.2 (by rw [size1, size1]; omega) (by rw [size1, size1]; omega)
  rw [hv, hc] at c1
  refine Calls.mono c1 ?_
  rintro e w' ⟨rfl, hb⟩
  exact ⟨rfl, b.trans (hb.mono b.size)⟩
theorem moreNil (w : World) :
    Calls Try.prog 24 #[.slice (some ⟨w.heap.size, 0, none⟩) 1 1, .slice none 0 0] (w.alloc (.cells #[.int .i64 1] 3)) fun e w' => e = .returned (.tuple #[.int .i64 0, .int .i64 8]) ∧ Below w.heap.size w w' := by
  have b := below1 w (.cells #[.int .i64 1] 3)
  have c1 := lMore (cap := 1) (cap' := 0) (newRd (w := w) (T := 3) (L := [1]) (by decide) (by decide)) (Rd.nil _ 0 none) (by rw [size1]; omega) (Nat.zero_le _)
  rw [moreV, nm_more.1, if_neg (by decide)] at c1
  refine Calls.mono c1 ?_
  rintro e w' ⟨rfl, hb⟩
  exact ⟨rfl, b.trans (hb.mono b.size)⟩
theorem infoBs : (Try.prog.info? 45).map (fun i => (i.zero, i.size, i.bytes)) = some (some (.slice none 0 0), 1, 24) := by kernel_rfl
theorem infoB1 : (Try.prog.info? 4).map (fun i => (i.zero, i.size, i.bytes)) = some (some (.bool false), 1, 1) := by kernel_rfl
theorem madeRep (z : Value) (n : Nat) : madeCells #[z] n = Array.replicate n z := by
  apply Array.ext
  · simp [madeCells]
  · intro i h1 h2
    simp [madeCells, Nat.mod_one]
theorem made7 (z : Value) : madeCells #[z] 7 = #[z, z, z, z, z, z, z] := by rw [madeRep]; rfl
theorem made3 (z : Value) : madeCells #[z] 3 = #[z, z, z] := by rw [madeRep]; rfl
theorem made11 (z : Value) : madeCells #[z] 11 = #[z, z, z, z, z, z, z, z, z, z, z] := by rw [madeRep]; rfl
theorem mk7i (u : World) : (Instr.makeSlice 23 (.int .i64 7) (.int .i64 7)).run Try.prog u = .ok (.slice (some ⟨u.heap.size, 0, none⟩) 7 7) (u.alloc (.cells #[.int .i64 0, .int .i64 0, .int .i64 0, .int .i64 0, .int .i64 0, .int .i64 0, .int .i64 0] 3)) := by
  have h := run_make_row' (P := Try.prog) 23 3 (.int .i64 0) 8 Try.underlying23 infoInt' rfl .i64 .i64 7 (by omega) (by omega) u
  rw [made7] at h
  exact h
theorem mk7b (u : World) : (Instr.makeSlice 22 (.int .i64 7) (.int .i64 7)).run Try.prog u = .ok (.slice (some ⟨u.heap.size, 0, none⟩) 7 7) (u.alloc (.cells #[.slice none 0 0, .slice none 0 0, .slice none 0 0, .slice none 0 0, .slice none 0 0, .slice none 0 0, .slice none 0 0] 45)) := by
  have h := run_make_row' (P := Try.prog) 22 45 (.slice none 0 0) 24 Try.underlying22 infoBs rfl .i64 .i64 7 (by omega) (by omega) u
  rw [made7] at h
  exact h
theorem mk3b (u : World) : (Instr.makeSlice 22 (.int .i64 3) (.int .i64 3)).run Try.prog u = .ok (.slice (some ⟨u.heap.size, 0, none⟩) 3 3) (u.alloc (.cells #[.slice none 0 0, .slice none 0 0, .slice none 0 0] 45)) := by
  have h := run_make_row' (P := Try.prog) 22 45 (.slice none 0 0) 24 Try.underlying22 infoBs rfl .i64 .i64 3 (by omega) (by omega) u
  rw [made3] at h
  exact h
theorem mk11b (u : World) : (Instr.makeSlice 45 (.int .i64 11) (.int .i64 11)).run Try.prog u = .ok (.slice (some ⟨u.heap.size, 0, none⟩) 11 11) (u.alloc (.cells #[.bool false, .bool false, .bool false, .bool false, .bool false, .bool false, .bool false, .bool false, .bool false, .bool false, .bool false] 4)) := by
  have h := run_make_row' (P := Try.prog) 45 4 (.bool false) 1 Try.underlying45 infoB1 rfl .i64 .i64 11 (by omega) (by omega) u
  rw [made11] at h
  exact h
theorem chk7 (w : World) : Calls Try.prog 26 #[.slice (some ⟨w.heap.size, 0, none⟩) 7 7] (w.alloc (.cells #[.slice none 0 0, .slice none 0 0, .slice none 0 0, .slice none 0 0, .slice none 0 0, .slice none 0 0, .slice none 0 0] 45)) (NumBelow w 4) := by
  have r := newRdB2 (w := w) (T := 45) (vs := List.replicate 7 (.slice none 0 0)) (F := List.replicate 7 []) (by simp) (fun i hi => ⟨none, 0, by
    rw [List.length_replicate] at hi
    rw [List.getD_eq_getElem?_getD, List.getElem?_replicate, List.getElem?_replicate, if_pos hi, if_pos hi]; rfl, by
    rw [List.length_replicate] at hi
    rw [List.getD_eq_getElem?_getD, List.getElem?_replicate, if_pos hi]; exact RdB.nil _ _ _⟩) (by simp)
  have b := below1 w (.cells #[.slice none 0 0, .slice none 0 0, .slice none 0 0, .slice none 0 0, .slice none 0 0, .slice none 0 0, .slice none 0 0] 45)
  have c := lCheck26 (cap := 7) r (by rw [size1]; omega)
  have e : chk26 (List.replicate 7 []) = 4 := nm_chk.2.1
  rw [e] at c
  refine Calls.mono c ?_
  rintro e w' ⟨rfl, hb⟩
  exact ⟨rfl, b.trans (hb.mono b.size)⟩
theorem even3 (w : World) : Calls Try.prog 20 #[.slice (some ⟨w.heap.size, 0, none⟩) 3 3] (w.alloc (.cells #[.slice none 0 0, .slice none 0 0, .slice none 0 0] 45)) fun e w' => ∃ A k, e = .returned (.tuple #[.slice A 0 k, .int .i64 0]) ∧ Below w.heap.size w w' := by
  have r := newRdB2 (w := w) (T := 45) (vs := List.replicate 3 (.slice none 0 0)) (F := List.replicate 3 []) (by simp) (fun i hi => ⟨none, 0, by
    rw [List.length_replicate] at hi
    rw [List.getD_eq_getElem?_getD, List.getElem?_replicate, List.getElem?_replicate, if_pos hi, if_pos hi]; rfl, by
    rw [List.length_replicate] at hi
    rw [List.getD_eq_getElem?_getD, List.getElem?_replicate, if_pos hi]; exact RdB.nil _ _ _⟩) (by simp)
  have b := below1 w (.cells #[.slice none 0 0, .slice none 0 0, .slice none 0 0] 45)
  have c := lEven (cap := 3) r (by rw [size1]; omega)
  refine Calls.mono c ?_
  rintro e w' (⟨h1, _⟩ | ⟨m, n, a, A2, c2, _, v, hev, rfl, r2, b2⟩)
  · exact absurd nm_chk.2.2.2.2.1 h1
  · obtain rfl := even_three v hev
    exact ⟨_, _, rfl, b.trans (b2.mono b.size)⟩
theorem chk11 (w : World) : Calls Try.prog 26 #[.slice (some ⟨w.heap.size + 1, 0, none⟩) 1 1] ((w.alloc (.cells #[.bool false, .bool false, .bool false, .bool false, .bool false, .bool false, .bool false, .bool false, .bool false, .bool false, .bool false] 4)).alloc (.cells #[.slice (some ⟨w.heap.size, 0, none⟩) 11 11] 45)) (NumBelow w 4) := by
  have r1 := newRdB (w := w) (T := 4) (L := [false, false, false, false, false, false, false, false, false, false, false]) (by decide)
  have r := newRdB2 (w := (w.alloc (.cells ([false, false, false, false, false, false, false, false, false, false, false].map Value.bool).toArray 4))) (T := 45) (vs := [.slice (some ⟨w.heap.size, 0, none⟩) 11 11]) (F := [[false, false, false, false, false, false, false, false, false, false, false]]) rfl (fun i hi => by
    have hi' : i < 1 := hi
    obtain rfl : i = 0 := by omega
    exact ⟨_, _, rfl, r1.more (by rw [size1]; omega)⟩) (by decide)
  rw [size1] at r
  have b := below2 w (.cells ([false, false, false, false, false, false, false, false, false, false, false].map Value.bool).toArray 4) (.cells #[.slice (some ⟨w.heap.size, 0, none⟩) 11 11] 45)
  have c := lCheck26 (cap := 1) r (by rw [size1, size1]; omega)
  rw [nm_chk.2.2.1] at c
  refine Calls.mono c ?_
  rintro e w' ⟨rfl, hb⟩
  exact ⟨rfl, b.trans (hb.mono b.size)⟩
theorem chkTT (w : World) : Calls Try.prog 26 #[.slice (some ⟨w.heap.size + 1 + 1, 0, none⟩) 2 2] (((w.alloc (.cells #[.bool true] 4)).alloc (.cells #[] 4)).alloc (.cells #[.slice (some ⟨w.heap.size, 0, none⟩) 1 1, .slice (some ⟨w.heap.size + 1, 0, none⟩) 0 0] 45)) (NumBelow w 8) := by
  have r1 := newRdB (w := w) (T := 4) (L := [true]) (by decide)
  have r12 := r1.below ((Below.refl _ (w.alloc (.cells ([true].map Value.bool).toArray 4))).alloc (Nat.le_refl _) (.cells #[] 4)) (by rw [size1]; omega)
  have r := newRdB2 (w := ((w.alloc (.cells ([true].map Value.bool).toArray 4))).alloc (.cells #[] 4)) (T := 45) (vs := [.slice (some ⟨w.heap.size, 0, none⟩) 1 1, .slice (some ⟨w.heap.size + 1, 0, none⟩) 0 0]) (F := [[true], []]) rfl (fun i hi => by
    have hi' : i < 2 := hi
    have h01 : i = 0 ∨ i = 1 := by omega
    rcases h01 with rfl | rfl
    · exact ⟨_, _, rfl, r12.more (by rw [size1, size1]; omega)⟩
    · exact ⟨_, _, rfl, RdB.nil _ _ _⟩) (by decide)
  rw [size1, size1] at r
  have b := below3 w (.cells #[.bool true] 4) (.cells #[] 4) (.cells #[.slice (some ⟨w.heap.size, 0, none⟩) 1 1, .slice (some ⟨w.heap.size + 1, 0, none⟩) 0 0] 45)
  have c := lCheck26 (cap := 2) r (by rw [size1, size1, size1]; omega)
  rw [nm_chk.2.2.2.1] at c
  refine Calls.mono c ?_
  rintro e w' ⟨rfl, hb⟩
  exact ⟨rfl, b.trans (hb.mono b.size)⟩
theorem evenNob (w : World) : Calls Try.prog 20 #[.slice (some ⟨w.heap.size + 2, 0, none⟩) 2 2] (((w.alloc (.cells #[.bool false, .bool true] 4)).alloc (.cells #[.bool false, .bool true] 4)).alloc (.cells #[.slice (some ⟨w.heap.size, 0, none⟩) 2 2, .slice (some ⟨w.heap.size + 1, 0, none⟩) 2 2] 45)) fun e w' => ∃ A k, e = .returned (.tuple #[.slice A 2 k, .int .i64 0]) ∧ Rd w' w'.heap.size A [-1, 0] ∧ Below w.heap.size w w' := by
  have r1 := newRdB (w := w) (T := 4) (L := [false, true]) (by decide)
  have r2 := newRdB (w := (w.alloc (.cells ([false, true].map Value.bool).toArray 4))) (T := 4) (L := [false, true]) (by decide)
  have r12 := r1.below ((Below.refl _ (w.alloc (.cells ([false, true].map Value.bool).toArray 4))).alloc (Nat.le_refl _) (.cells ([false, true].map Value.bool).toArray 4)) (by rw [size1]; omega)
  rw [size1] at r2
  have r := newRdB2 (w := ((w.alloc (.cells ([false, true].map Value.bool).toArray 4))).alloc (.cells ([false, true].map Value.bool).toArray 4)) (T := 45) (vs := [.slice (some ⟨w.heap.size, 0, none⟩) 2 2, .slice (some ⟨w.heap.size + 1, 0, none⟩) 2 2]) (F := nobW) rfl (fun i hi => by
    have hi' : i < 2 := hi
    have h01 : i = 0 ∨ i = 1 := by omega
    rcases h01 with rfl | rfl
    · exact ⟨_, _, rfl, r12.more (by rw [size1, size1]; omega)⟩
    · exact ⟨_, _, rfl, r2.more (by rw [size1, size1]; omega)⟩) (by decide)
  rw [size1, size1] at r
  have b := below3 w (.cells #[.bool false, .bool true] 4) (.cells #[.bool false, .bool true] 4) (.cells #[.slice (some ⟨w.heap.size, 0, none⟩) 2 2, .slice (some ⟨w.heap.size + 1, 0, none⟩) 2 2] 45)
  have c := lEven (cap := 2) r (by rw [size1, size1, size1]; omega)
  refine Calls.mono c ?_
  rintro e w' (⟨h1, _⟩ | ⟨m, n, a, A2, c2, _, v, hev, rfl, r2, b2⟩)
  · exact absurd nm_chk.2.2.2.2.2 h1
  · obtain rfl := even_nob v hev
    exact ⟨_, _, rfl, r2, b.trans (b2.mono b.size)⟩
theorem more7 (w : World) : Calls Try.prog 24 #[.slice (some ⟨w.heap.size, 0, none⟩) 7 7, .slice (some ⟨w.heap.size + 1, 0, none⟩) 7 7] ((w.alloc (.cells #[.int .i64 0, .int .i64 0, .int .i64 0, .int .i64 0, .int .i64 0, .int .i64 0, .int .i64 0] 3)).alloc (.cells #[.int .i64 0, .int .i64 0, .int .i64 0, .int .i64 0, .int .i64 0, .int .i64 0, .int .i64 0] 3)).drew fun e w' => e = .returned (.tuple #[.int .i64 0, .int .i64 4]) ∧ Below w.heap.size w w' := by
  have b := below2 w (.cells ([0, 0, 0, 0, 0, 0, 0].map (Value.int .i64)).toArray 3) (.cells ([0, 0, 0, 0, 0, 0, 0].map (Value.int .i64)).toArray 3)
  have bd := below_drewN (b) 1
  have hr := two_rd (w := w) (T := 3) (L := [0, 0, 0, 0, 0, 0, 0]) (M := [0, 0, 0, 0, 0, 0, 0]) (by decide) (by decide) (by decide) (by decide)
  have bq := below_drewN (Below.refl (w.heap.size + 2) ((w.alloc (.cells ([0, 0, 0, 0, 0, 0, 0].map (Value.int .i64)).toArray 3)).alloc (.cells ([0, 0, 0, 0, 0, 0, 0].map (Value.int .i64)).toArray 3))) 1
  have sz : (((w.alloc (.cells ([0, 0, 0, 0, 0, 0, 0].map (Value.int .i64)).toArray 3)).alloc (.cells ([0, 0, 0, 0, 0, 0, 0].map (Value.int .i64)).toArray 3)).drewN 1).heap.size = w.heap.size + 2 := (size1 _ _).trans (by rw [size1])
  have c1 := lMore (cap := 7) (cap' := 7) (hr.1.below bq (by omega)) (hr.2.below bq (by omega)) (by omega) (by omega)
  rw [moreV, nm_more.2.2, if_neg (by decide)] at c1
  refine Calls.mono c1 ?_
  rintro e w' ⟨rfl, hb⟩
  exact ⟨rfl, bd.trans (hb.mono bd.size)⟩
theorem more7s (w : World) : Calls Try.prog 24 #[.slice (some ⟨w.heap.size + 1, 0, none⟩) 7 7, .slice (some ⟨w.heap.size, 0, none⟩) 7 7] ((w.alloc (.cells #[.int .i64 0, .int .i64 0, .int .i64 0, .int .i64 0, .int .i64 0, .int .i64 0, .int .i64 0] 3)).alloc (.cells #[.int .i64 0, .int .i64 0, .int .i64 0, .int .i64 0, .int .i64 0, .int .i64 0, .int .i64 0] 3)).drew fun e w' => e = .returned (.tuple #[.int .i64 0, .int .i64 4]) ∧ Below w.heap.size w w' := by
  have b := below2 w (.cells ([0, 0, 0, 0, 0, 0, 0].map (Value.int .i64)).toArray 3) (.cells ([0, 0, 0, 0, 0, 0, 0].map (Value.int .i64)).toArray 3)
  have bd := below_drewN (b) 1
  have hr := two_rd (w := w) (T := 3) (L := [0, 0, 0, 0, 0, 0, 0]) (M := [0, 0, 0, 0, 0, 0, 0]) (by decide) (by decide) (by decide) (by decide)
  have bq := below_drewN (Below.refl (w.heap.size + 2) ((w.alloc (.cells ([0, 0, 0, 0, 0, 0, 0].map (Value.int .i64)).toArray 3)).alloc (.cells ([0, 0, 0, 0, 0, 0, 0].map (Value.int .i64)).toArray 3))) 1
  have sz : (((w.alloc (.cells ([0, 0, 0, 0, 0, 0, 0].map (Value.int .i64)).toArray 3)).alloc (.cells ([0, 0, 0, 0, 0, 0, 0].map (Value.int .i64)).toArray 3)).drewN 1).heap.size = w.heap.size + 2 := (size1 _ _).trans (by rw [size1])
  have c1 := lMore (cap := 7) (cap' := 7) (hr.2.below bq (by omega)) (hr.1.below bq (by omega)) (by omega) (by omega)
  rw [moreV, nm_more.2.2, if_neg (by decide)] at c1
  refine Calls.mono c1 ?_
  rintro e w' ⟨rfl, hb⟩
  exact ⟨rfl, bd.trans (hb.mono bd.size)⟩
end Go.Proofs.Ytefbkdjppfofmaa

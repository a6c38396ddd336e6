import Derived.Test.YtjgobpejifhphaaS33j
import Derived.Deep.Slices
import Derived.Laws.AppendOwnNone
/-! Appending a slice of slices, nil or not. No statement about the program. -/
namespace Go.Proofs.Ytjgobpejifhphaa
open Go.RowKit
set_option linter.unusedVariables false

theorem append_none_run {P : Program} (w : World) (base : Nat) (t ty e : TypeId) (i : TypeInfo) (size : Nat) (ht : P.underlying t = some (.slice e)) (hi : P.info? e = some i)
    (v : Value) (n : Nat) (xs : List Value) (hown : w.ownsRow base e size v n xs) (c : Nat) : (Builtin.append_ #[t, t] ty #[v, .slice none 0 c]).run P w = .ok v w := by
  rcases hown.2 with ⟨h1, h2⟩ | ⟨g, cap, cur, h1, _, _, hnc, _⟩
  · subst h1; subst h2
    simp [Builtin.append_, run_underlying ht, sizeOf, typeInfo, hi, Builtin.lenOf, Builtin.firstCells]
  · subst h1
    simp [Builtin.append_, run_underlying ht, sizeOf, typeInfo, hi, Builtin.lenOf, Builtin.firstCells, hnc, storeCells]
/-- append of a slice that came from somewhere: nil, empty or not -/
theorem wpList_append_opt {P : Program} {w : World} {ops : Array Oper} {rest : List Oper} {o : Oper} {a : Act} {Q : Exit → Act → World → Prop} (hgd : o.guard = none) (s x : Operand) (t : TypeId)
    (ho : o.op = .call { callee := .builtin .append, args := #[s, x], argTypes := #[t, t] })
    (base : Nat) (e : TypeId) (i : TypeInfo) (z : Value) (size bytes : Nat) (ht : P.underlying t = some (.slice e)) (hi : P.info? e = some i) (hz : i.zero = some z)
    (hsize : i.size = size) (hby : i.bytes = bytes) (hzs : z.cells.size = size) (hsz : 0 < size)
    (v : Value) (n : Nat) (xs : List Value) (hs : a.eval s = v) (hown : w.ownsRow base e size v n xs)
    (A : Option Addr) (m c : Nat) (news : List Value) (hx : a.eval x = .slice A m c) (hl : news.length = m * size) (hA : A = none → m = 0) (hnews : ∀ ad, A = some ad → ∀ j u, news[j]? = some u → w.cell? (ad.add j) = some u) (h1 : ∀ u ∈ news, u.oneCell' = true)
    (h63 : n + m ≤ maxLen) (hbytes : (n + m) * bytes ≤ 140737488355328) (hbase : base ≤ w.heap.size)
    (h : ∀ v' w', w'.ownsRow base e size v' (n + m) (xs ++ news) → w.grownBy w' v.ownBlock → (v'.ownBlock = v.ownBlock ∨ v'.ownBlock = some w.heap.size) → wpList P ops Q rest (a.put o.dst v') w') :
    wpList P ops Q (o :: rest) a w := by
  rcases A with _ | ad
  · have hm := hA rfl
    subst hm
    have hn : news = [] := List.eq_nil_of_length_eq_zero (by simpa using hl)
    subst hn
    refine wpList_plain hgd fun K hK => ?_
    have hrun := append_none_run (P := P) w base t o.type e i size ht hi v n xs hown c
    unfold Oper.wp
    simp [execOp, ho, resolve, invoke, builtin, hs, hx, hrun, Result.andThen]
    exact hK _ _ (h v w (by simpa using hown) (World.grownBy.refl w _) (.inl rfl))
  · exact wpList_append_own_at w hgd s x t ho base e i z size bytes ht hi hz hsize hby hzs hsz v n xs hs hown ad m c news hx hl (hnews ad rfl) h1 h63 hbytes hbase (fun v' w' h2 h3 _ h5 => h v' w' h2 h3 h5)

/-- the values in a slice of slices -/
theorem rd2_vals {w : World} {B : Nat} {A : Option Addr} {F : List (List Int)} (h : Rd2 w B A F) : ∃ vs : List Value, vs.length = F.length ∧ (A = none → F.length = 0)
    ∧ (∀ (i : Nat) (L : List Int), F[i]? = some L → ∃ A1 c, vs[i]? = some (.slice A1 L.length c) ∧ Rd w B A1 L)
    ∧ (∀ ad, A = some ad → ∀ j u, vs[j]? = some u → w.cell? (ad.add j) = some u) := by
  rcases Nat.eq_zero_or_pos F.length with h0 | h0
  · have hF : F = [] := List.length_eq_zero_iff.1 h0
    subst hF
    exact ⟨[], rfl, fun _ => rfl, by simp, by simp⟩
  · obtain ⟨b, off, rfl, hb, hc⟩ := h.2 h0
    have each : ∀ i, i < F.length → ∃ v : Value, ∃ A1 c, v = .slice A1 (F.getD i []).length c ∧ w.cell? ⟨b, off + i, none⟩ = some v ∧ Rd w B A1 (F.getD i []) := by
      intro i hi
      obtain ⟨A1, c, h1, h2⟩ := hc i (F.getD i []) (by rw [List.getD_eq_getElem?_getD, List.getElem?_eq_getElem hi]; rfl)
      rw [Nat.mul_one] at h1
      exact ⟨_, A1, c, rfl, h1, h2⟩
    obtain ⟨f, hf⟩ := Go.Deep.choose_lt (α := Value) (h := each)
    refine ⟨(List.range F.length).map f, by simp, (fun h => by cases h), ?_, ?_⟩
    · intro i L hi
      have hlt := (List.getElem?_eq_some_iff.1 hi).1
      obtain ⟨A1, c, e1, _, h2⟩ := hf i hlt
      have hL : F.getD i [] = L := by rw [List.getD_eq_getElem?_getD, hi]; rfl
      rw [hL] at e1 h2
      exact ⟨A1, c, by rw [List.getElem?_map, List.getElem?_range hlt, ← e1]; rfl, h2⟩
    · intro ad had j u hu
      cases had
      rw [List.getElem?_map] at hu
      rcases Nat.lt_or_ge j F.length with hlt | hge
      · rw [List.getElem?_range hlt] at hu
        obtain ⟨A1, c, e1, h1, _⟩ := hf j hlt
        simp only [Option.map_some, Option.some.injEq] at hu
        rw [addr_add, ← hu]
        exact h1
      · rw [List.getElem?_eq_none (by simpa using hge)] at hu
        cases hu
theorem cell_kept {w w' : World} {B : Nat} (hb : Below B w w') (hB : w.heap.size ≤ B) {p : Addr} {u : Value} (h : w.cell? p = some u) : w'.cell? p = some u :=
  (hb.cell (Nat.lt_of_lt_of_le (World.block_lt_of_cell? _ _ h) hB)).trans h
/-- rows that lie below the block of f -/
theorem VRowsN.of_vals {w : World} {f : Value} {B : Nat} {vs : List Value} {F : List (List Int)} (hl : vs.length = F.length) (h : ∀ (i : Nat) (L : List Int), F[i]? = some L → ∃ A1 c, vs[i]? = some (.slice A1 L.length c) ∧ Rd w B A1 L)
    (hB : B ≤ w.heap.size) (hf : ∀ g, f.ownBlock = some g → B ≤ g) : VRowsN w f vs F :=
  ⟨hl, fun i L hi => by
    obtain ⟨A1, c, h1, h2⟩ := h i L hi
    refine ⟨A1, c, h1, h2.more hB, fun h0 p hp hq => ?_⟩
    obtain ⟨b, off, e, hb, _⟩ := h2.2.2 h0
    rw [e] at hp
    cases hp
    have := hf _ hq
    simp only at this
    omega⟩
theorem VRowsN.append {w : World} {f : Value} {vs us : List Value} {F G : List (List Int)} (h : VRowsN w f vs F) (h' : VRowsN w f us G) : VRowsN w f (vs ++ us) (F ++ G) := by
  refine ⟨by simp [h.1, h'.1], fun i L hi => ?_⟩
  rcases Nat.lt_or_ge i F.length with hlt | hge
  · rw [List.getElem?_append_left hlt] at hi
    obtain ⟨A', c', h1, h2⟩ := h.2 i L hi
    exact ⟨A', c', by rw [List.getElem?_append_left (by rw [h.1]; exact hlt)]; exact h1, h2⟩
  · rw [List.getElem?_append_right hge] at hi
    obtain ⟨A', c', h1, h2⟩ := h'.2 _ L hi
    exact ⟨A', c', by rw [List.getElem?_append_right (by rw [h.1]; exact hge), h.1]; exact h1, h2⟩
theorem VRowsN.one {w : World} {f : Value} {vs : List Value} {F : List (List Int)} (h : VRowsN w f vs F) : ∀ u ∈ vs, u.oneCell' = true := by
  intro u hu
  obtain ⟨i, hi⟩ := List.getElem?_of_mem hu
  have hlt := (List.getElem?_eq_some_iff.1 hi).1
  rw [h.1] at hlt
  obtain ⟨A', c', h1, _⟩ := h.2 i F[i] (by simp [hlt])
  rw [hi] at h1
  cases h1
  rfl
/-- the rest of a slice of holidays -/
theorem RdH.drop {w : World} {B : Nat} {A : Option Addr} {L : List (Int × List Int)} (h : RdH w B A L) {k : Nat} {A' : Option Addr} (hA : k < L.length → ∀ b off, A = some ⟨b, off, none⟩ → A' = some ⟨b, off + k * 2, none⟩) : RdH w B A' (L.drop k) := by
  refine ⟨?_, fun hn => ?_⟩
  · have := h.1
    rw [List.length_drop]
    omega
  · rw [List.length_drop] at hn
    obtain ⟨b, off, e, hb, hc⟩ := h.2 (by omega)
    refine ⟨b, off + k * 2, hA (by omega) b off e, hb, fun i x hx => ?_⟩
    rw [List.getElem?_drop] at hx
    have := hc _ x hx
    rw [Nat.add_mul, ← Nat.add_assoc] at this
    exact this
theorem RdH.take {w : World} {B : Nat} {A : Option Addr} {L : List (Int × List Int)} (h : RdH w B A L) (k : Nat) : RdH w B A (L.take k) := by
  refine ⟨?_, fun hn => ?_⟩
  · have := h.1
    rw [List.length_take]
    omega
  · rw [List.length_take] at hn
    obtain ⟨b, off, e, hb, hc⟩ := h.2 (by omega)
    refine ⟨b, off, e, hb, fun i x hx => hc i x ?_⟩
    rw [List.getElem?_take] at hx
    split at hx
    · exact hx
    · cases hx
theorem takeA_succ {α : Type} {L : List α} {k : Nat} {x : α} (h : L[k]? = some x) : L.take (k + 1) = L.take k ++ [x] := by
  rw [List.take_add_one, h]; rfl
end Go.Proofs.Ytjgobpejifhphaa

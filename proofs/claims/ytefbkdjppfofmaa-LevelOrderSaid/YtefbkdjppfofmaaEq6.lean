import Derived.Test.YtefbkdjppfofmaaBase
import Derived.Laws.StructEq
import Derived.ChangeKeysEq
/-! '==' on arrays of six numbers. -/
namespace Go.Proofs.Ytefbkdjppfofmaa
open Go.RowKit
set_option linter.unusedVariables false
set_option linter.unusedSimpArgs false
set_option maxRecDepth 100000

theorem infoInt6 : (Try.prog.info? 3).map (fun i => (i.zero, i.size, i.bytes)) = some (some (.int .i64 0), 1, 8) := by kernel_rfl
theorem eq6 (w : World) (x0 x1 x2 x3 x4 x5 y0 y1 y2 y3 y4 y5 : Int) :
    (Op.equalIn 10000 61 (.agg #[.int .i64 y0, .int .i64 y1, .int .i64 y2, .int .i64 y3, .int .i64 y4, .int .i64 y5]) (.agg #[.int .i64 x0, .int .i64 x1, .int .i64 x2, .int .i64 x3, .int .i64 x4, .int .i64 x5])).run Try.prog w = .ok (decide ([y0, y1, y2, y3, y4, y5] = [x0, x1, x2, x3, x4, x5])) w := by
  obtain ⟨i0, hi, _⟩ := info_parts infoInt6
  have he := Try.underlying3
  rw [show (10000 : Nat) = 9999 + 1 from rfl, run_equalIn_array w 9999 _ _ Try.underlying61 hi]
  rw [show Try.prog.cellsOf 3 = 1 by kernel_rfl, show List.range 6 = [0, 1, 2, 3, 4, 5] from rfl]
  have hp : ∀ (zs : Array Value) (j : Nat) (v : Value), zs[j]? = some v → (part 3 zs j).run Try.prog w = .ok v w := by
    intro zs j v h
    simp [part, isAgg, run_underlying he, h]
  have p0 := hp #[.int .i64 y0, .int .i64 y1, .int .i64 y2, .int .i64 y3, .int .i64 y4, .int .i64 y5] 0 (.int .i64 y0) rfl
  have r0 := hp #[.int .i64 x0, .int .i64 x1, .int .i64 x2, .int .i64 x3, .int .i64 x4, .int .i64 x5] 0 (.int .i64 x0) rfl
  have p1 := hp #[.int .i64 y0, .int .i64 y1, .int .i64 y2, .int .i64 y3, .int .i64 y4, .int .i64 y5] 1 (.int .i64 y1) rfl
  have r1 := hp #[.int .i64 x0, .int .i64 x1, .int .i64 x2, .int .i64 x3, .int .i64 x4, .int .i64 x5] 1 (.int .i64 x1) rfl
  have p2 := hp #[.int .i64 y0, .int .i64 y1, .int .i64 y2, .int .i64 y3, .int .i64 y4, .int .i64 y5] 2 (.int .i64 y2) rfl
  have r2 := hp #[.int .i64 x0, .int .i64 x1, .int .i64 x2, .int .i64 x3, .int .i64 x4, .int .i64 x5] 2 (.int .i64 x2) rfl
  have p3 := hp #[.int .i64 y0, .int .i64 y1, .int .i64 y2, .int .i64 y3, .int .i64 y4, .int .i64 y5] 3 (.int .i64 y3) rfl
  have r3 := hp #[.int .i64 x0, .int .i64 x1, .int .i64 x2, .int .i64 x3, .int .i64 x4, .int .i64 x5] 3 (.int .i64 x3) rfl
  have p4 := hp #[.int .i64 y0, .int .i64 y1, .int .i64 y2, .int .i64 y3, .int .i64 y4, .int .i64 y5] 4 (.int .i64 y4) rfl
  have r4 := hp #[.int .i64 x0, .int .i64 x1, .int .i64 x2, .int .i64 x3, .int .i64 x4, .int .i64 x5] 4 (.int .i64 x4) rfl
  have p5 := hp #[.int .i64 y0, .int .i64 y1, .int .i64 y2, .int .i64 y3, .int .i64 y4, .int .i64 y5] 5 (.int .i64 y5) rfl
  have r5 := hp #[.int .i64 x0, .int .i64 x1, .int .i64 x2, .int .i64 x3, .int .i64 x4, .int .i64 x5] 5 (.int .i64 x5) rfl
  have hq : ∀ (a b : Int), (Op.equalIn 9999 3 (.int .i64 a) (.int .i64 b)).run Try.prog w = .ok (a == b) w := fun a b => run_equalIn_int w 9998 3 .i64 .i64 a b he
  simp only [Op.eqItems, Sem.run_bind, Nat.mul_one, p0, p1, p2, p3, p4, p5, r0, r1, r2, r3, r4, r5, hq, Result.andThen_ok]
  clear hp
  by_cases h0 : y0 = x0
  · subst h0
    by_cases h1 : y1 = x1
    · subst h1
      by_cases h2 : y2 = x2
      · subst h2
        by_cases h3 : y3 = x3
        · subst h3
          by_cases h4 : y4 = x4
          · subst h4
            by_cases h5 : y5 = x5
            · subst h5
              simp [Op.eqItems, p0, p1, p2, p3, p4, p5, r0, r1, r2, r3, r4, r5, hq]
            · simp [h5, Op.eqItems, p0, p1, p2, p3, p4, p5, r0, r1, r2, r3, r4, r5, hq]
          · simp [h4, Op.eqItems, p0, p1, p2, p3, p4, p5, r0, r1, r2, r3, r4, r5, hq]
        · simp [h3, Op.eqItems, p0, p1, p2, p3, p4, p5, r0, r1, r2, r3, r4, r5, hq]
      · simp [h2, Op.eqItems, p0, p1, p2, p3, p4, p5, r0, r1, r2, r3, r4, r5, hq]
    · simp [h1, Op.eqItems, p0, p1, p2, p3, p4, p5, r0, r1, r2, r3, r4, r5, hq]
  · simp [h0, Op.eqItems, p0, p1, p2, p3, p4, p5, r0, r1, r2, r3, r4, r5, hq]
end Go.Proofs.Ytefbkdjppfofmaa

/- Structs compared. -/
import Derived.Test.YtfdemnefkfkghaaRT
import Derived.Test.YtfdemnefkfkghaaRS
import Derived.Test.YtfdemnefkfkghaaRW
namespace Go.Proofs.Ytfdemnefkfkghaa.R
open Go
set_option linter.unusedSimpArgs false
theorem eqV4 (x y : Bool) : eqV T 4 (.bool x) (.bool y) = some (x == y) := by simp [eqV, T_4]
theorem eq145 (x y : S145) : eqV T 145 (.agg [.str x.f0, .str x.f1]) (.agg [.str y.f0, .str y.f1]) = some (decide (x = y)) := by
  obtain ⟨a0, a1⟩ := x
  obtain ⟨b0, b1⟩ := y
  by_cases h0 : a0 = b0
  case neg => simp [eqV, eqAgg, eqKind, ba_beq, T_9, T_145, h0]
  by_cases h1 : a1 = b1
  case neg => simp [eqV, eqAgg, eqKind, ba_beq, T_9, T_145, h0, h1]
  simp [eqV, eqAgg, eqKind, ba_beq, T_9, T_145, h0, h1]
theorem eq100 (x y : S100) : eqV T 100 (.agg [.int .u32 x.f0, .int .u16 x.f1, .str x.f2.f0, .str x.f2.f1]) (.agg [.int .u32 y.f0, .int .u16 y.f1, .str y.f2.f0, .str y.f2.f1]) = some (decide (x = y)) := by
  obtain ⟨a0, a1, ⟨a2, a3⟩⟩ := x
  obtain ⟨b0, b1, ⟨b2, b3⟩⟩ := y
  by_cases h0 : a0 = b0
  case neg => simp [eqV, eqAgg, eqKind, ba_beq, T_9, T_42, T_96, T_98, T_100, h0]
  by_cases h1 : a1 = b1
  case neg => simp [eqV, eqAgg, eqKind, ba_beq, T_9, T_42, T_96, T_98, T_100, h0, h1]
  by_cases h2 : a2 = b2
  case neg => simp [eqV, eqAgg, eqKind, ba_beq, T_9, T_42, T_96, T_98, T_100, h0, h1, h2]
  by_cases h3 : a3 = b3
  case neg => simp [eqV, eqAgg, eqKind, ba_beq, T_9, T_42, T_96, T_98, T_100, h0, h1, h2, h3]
  simp [eqV, eqAgg, eqKind, ba_beq, T_9, T_42, T_96, T_98, T_100, h0, h1, h2, h3]
theorem eq98 (x y : S98) : eqV T 98 (.agg [.str x.f0, .str x.f1]) (.agg [.str y.f0, .str y.f1]) = some (decide (x = y)) := by
  obtain ⟨a0, a1⟩ := x
  obtain ⟨b0, b1⟩ := y
  by_cases h0 : a0 = b0
  case neg => simp [eqV, eqAgg, eqKind, ba_beq, T_9, T_98, h0]
  by_cases h1 : a1 = b1
  case neg => simp [eqV, eqAgg, eqKind, ba_beq, T_9, T_98, h0, h1]
  simp [eqV, eqAgg, eqKind, ba_beq, T_9, T_98, h0, h1]
theorem eq121 (x y : S121) : eqV T 121 (.agg [.int .u8 x.f0, .str x.f1, .str x.f2, .int .u32 x.f3, .int .u16 x.f4, .str x.f5]) (.agg [.int .u8 y.f0, .str y.f1, .str y.f2, .int .u32 y.f3, .int .u16 y.f4, .str y.f5]) = some (decide (x = y)) := by
  obtain ⟨a0, a1, a2, a3, a4, a5⟩ := x
  obtain ⟨b0, b1, b2, b3, b4, b5⟩ := y
  by_cases h0 : a0 = b0
  case neg => simp [eqV, eqAgg, eqKind, ba_beq, T_5, T_9, T_42, T_96, T_121, h0]
  by_cases h1 : a1 = b1
  case neg => simp [eqV, eqAgg, eqKind, ba_beq, T_5, T_9, T_42, T_96, T_121, h0, h1]
  by_cases h2 : a2 = b2
  case neg => simp [eqV, eqAgg, eqKind, ba_beq, T_5, T_9, T_42, T_96, T_121, h0, h1, h2]
  by_cases h3 : a3 = b3
  case neg => simp [eqV, eqAgg, eqKind, ba_beq, T_5, T_9, T_42, T_96, T_121, h0, h1, h2, h3]
  by_cases h4 : a4 = b4
  case neg => simp [eqV, eqAgg, eqKind, ba_beq, T_5, T_9, T_42, T_96, T_121, h0, h1, h2, h3, h4]
  by_cases h5 : a5 = b5
  case neg => simp [eqV, eqAgg, eqKind, ba_beq, T_5, T_9, T_42, T_96, T_121, h0, h1, h2, h3, h4, h5]
  simp [eqV, eqAgg, eqKind, ba_beq, T_5, T_9, T_42, T_96, T_121, h0, h1, h2, h3, h4, h5]
end Go.Proofs.Ytfdemnefkfkghaa.R

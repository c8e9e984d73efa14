/- R, part 2E: min and max of two numbers. -/
import Derived.Test.YtmjfdldfaeaolaaRmD
namespace Go.Rl
open Go.RowKit
section
variable {γ : Gho} {P : Program} {n : Nat} {o : Oper} {M B : List Nat} {s : St}
theorem st_min {x y : Operand} {ats : Array TypeId} (ho : o.op = .call { callee := .builtin .min, args := #[x, y], argTypes := ats }) {d d' : Option Nat} {k : IntKind} {a b : Int} (hx : s.ev x = .p d (.v (.int k a))) (hy : s.ev y = .p d' (.v (.int k b))) :
    StepD γ P n o M B s { put := .p none (.v (.int k (min a b))) } :=
  stepD_pure fun s' ag w0 I L ac w hr => by
    have h1 := hr.evv ((ag.ev1 ho (by simp [Op.operands, Call.operands])).trans hx)
    have h2 := hr.evv ((ag.ev1 ho (by simp [Op.operands, Call.operands])).trans hy)
    refine ⟨_, ?_, avr_flat L w s' rfl⟩
    by_cases hlt : b < a
    · have : min a b = b := by omega
      simp [execOp, ho, resolve, invoke, builtin, Builtin.min_, Builtin.min2, h1, h2, hlt, this]
    · have : min a b = a := by omega
      simp [execOp, ho, resolve, invoke, builtin, Builtin.min_, Builtin.min2, h1, h2, hlt, this]
theorem st_max {x y : Operand} {ats : Array TypeId} (ho : o.op = .call { callee := .builtin .max, args := #[x, y], argTypes := ats }) {d d' : Option Nat} {k : IntKind} {a b : Int} (hx : s.ev x = .p d (.v (.int k a))) (hy : s.ev y = .p d' (.v (.int k b))) :
    StepD γ P n o M B s { put := .p none (.v (.int k (max a b))) } :=
  stepD_pure fun s' ag w0 I L ac w hr => by
    have h1 := hr.evv ((ag.ev1 ho (by simp [Op.operands, Call.operands])).trans hx)
    have h2 := hr.evv ((ag.ev1 ho (by simp [Op.operands, Call.operands])).trans hy)
    refine ⟨_, ?_, avr_flat L w s' rfl⟩
    by_cases hlt : a < b
    · have : max a b = b := by omega
      simp [execOp, ho, resolve, invoke, builtin, Builtin.max_, Builtin.max2, h1, h2, hlt, this]
    · have : max a b = a := by omega
      simp [execOp, ho, resolve, invoke, builtin, Builtin.max_, Builtin.max2, h1, h2, hlt, this]
end
end Go.Rl

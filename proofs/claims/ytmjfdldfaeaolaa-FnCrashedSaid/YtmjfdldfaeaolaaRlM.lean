/- R, part M: texts compared, booleans, conversions, function values. -/
import Derived.Test.YtmjfdldfaeaolaaRlL
namespace Go.Rl
open Go.RowKit

theorem beq_bytes (a b : ByteArray) : (a.toList == b.toList) = decide (a = b) := by
  rw [ByteArray.toList_eq, ByteArray.toList_eq]
  by_cases h : a = b
  · subst h; simp
  · rw [decide_eq_false h]
    apply Bool.eq_false_iff.2
    intro e
    apply h
    have := eq_of_beq e
    cases a; cases b
    simp at this
    subst this
    rfl
/-- Texts in their order. -/
def ltB (a b : ByteArray) : Bool := Op.bytesLess a.toList b.toList

section
variable {γ : Gho} {P : Program} {n : Nat} {o : Oper} {M B : List Nat} {s : St}
section strs
variable {xt yt : TypeId} {x y : Operand} {d d' : Option Nat} {a b : ByteArray}
theorem st_seql (ho : o.op = .binOp .eql xt x y yt) (hx : s.ev x = .p d (.v (.string a))) (hy : s.ev y = .p d' (.v (.string b))) : StepD γ P n o M B s { put := .p none (.v (.bool (decide (a = b)))) } :=
  st_bin ho hx hy rfl (fun _ _ w => eqGuard_flat _ _ _ _ _ _ (by simp) w) (fun w => by simp [binOp, Op.stringOp, beq_bytes])
theorem st_sneq (ho : o.op = .binOp .neq xt x y yt) (hx : s.ev x = .p d (.v (.string a))) (hy : s.ev y = .p d' (.v (.string b))) : StepD γ P n o M B s { put := .p none (.v (.bool (!decide (a = b)))) } :=
  st_bin ho hx hy rfl (fun _ _ w => eqGuard_flat _ _ _ _ _ _ (by simp) w) (fun w => by simp [binOp, Op.stringOp, beq_bytes])
theorem st_slss (ho : o.op = .binOp .lss xt x y yt) (hx : s.ev x = .p d (.v (.string a))) (hy : s.ev y = .p d' (.v (.string b))) : StepD γ P n o M B s { put := .p none (.v (.bool (ltB a b))) } :=
  st_bin ho hx hy rfl (fun _ _ w => eqGuard_flat _ _ _ _ _ _ (by simp) w) (fun w => by simp [binOp, Op.stringOp, ltB])
theorem st_sleq (ho : o.op = .binOp .leq xt x y yt) (hx : s.ev x = .p d (.v (.string a))) (hy : s.ev y = .p d' (.v (.string b))) : StepD γ P n o M B s { put := .p none (.v (.bool (ltB a b || decide (a = b)))) } :=
  st_bin ho hx hy rfl (fun _ _ w => eqGuard_flat _ _ _ _ _ _ (by simp) w) (fun w => by simp [binOp, Op.stringOp, beq_bytes, ltB])
theorem st_sgtr (ho : o.op = .binOp .gtr xt x y yt) (hx : s.ev x = .p d (.v (.string a))) (hy : s.ev y = .p d' (.v (.string b))) : StepD γ P n o M B s { put := .p none (.v (.bool (!(ltB a b || decide (a = b))))) } :=
  st_bin ho hx hy rfl (fun _ _ w => eqGuard_flat _ _ _ _ _ _ (by simp) w) (fun w => by simp [binOp, Op.stringOp, beq_bytes, ltB])
theorem st_sgeq (ho : o.op = .binOp .geq xt x y yt) (hx : s.ev x = .p d (.v (.string a))) (hy : s.ev y = .p d' (.v (.string b))) : StepD γ P n o M B s { put := .p none (.v (.bool (!ltB a b))) } :=
  st_bin ho hx hy rfl (fun _ _ w => eqGuard_flat _ _ _ _ _ _ (by simp) w) (fun w => by simp [binOp, Op.stringOp, ltB])
end strs
section bools
variable {xt yt : TypeId} {x y : Operand} {d d' : Option Nat} {a b : Bool}
theorem st_beql (ho : o.op = .binOp .eql xt x y yt) (hx : s.ev x = .p d (.v (.bool a))) (hy : s.ev y = .p d' (.v (.bool b))) (hu : P.underlying xt = some .bool) : StepD γ P n o M B s { put := .p none (.v (.bool (a == b))) } :=
  st_bin ho hx hy rfl (fun _ _ w => eqGuard_flat _ _ _ _ _ _ (by simp) w) (fun w => by simp only [binOp]; simp [Op.equal, Op.maxDepth, run_equalIn_bool (h := hu)])
theorem st_bneq (ho : o.op = .binOp .neq xt x y yt) (hx : s.ev x = .p d (.v (.bool a))) (hy : s.ev y = .p d' (.v (.bool b))) (hu : P.underlying xt = some .bool) : StepD γ P n o M B s { put := .p none (.v (.bool (!(a == b)))) } :=
  st_bin ho hx hy rfl (fun _ _ w => eqGuard_flat _ _ _ _ _ _ (by simp) w) (fun w => by simp only [binOp]; simp [Op.equal, Op.maxDepth, run_equalIn_bool (h := hu)])
end bools
theorem st_un {op : UnOp} {t : TypeId} {x : Operand} (ho : o.op = .unOp op t x) {d : Option Nat} {u v : Value} (hx : s.ev x = .p d (.v u)) (h1 : v.oneCell' = true) (hv : ∀ w, (Op.unary op u).run P w = .ok v w) : StepD γ P n o M B s { put := .p none (.v v) } :=
  stepD_pure fun s' ag w0 I L a w hr => ⟨v, by simp [execOp, ho, hr.evv ((ag.ev1 ho (by simp [Op.operands])).trans hx), hv], avr_flat L w s' h1⟩
theorem st_not {t : TypeId} {x : Operand} (ho : o.op = .unOp .not t x) {d : Option Nat} {b : Bool} (hx : s.ev x = .p d (.v (.bool b))) : StepD γ P n o M B s { put := .p none (.v (.bool (!b))) } :=
  st_un ho hx rfl (fun w => by simp [Op.unary])
theorem st_neg {t : TypeId} {x : Operand} (ho : o.op = .unOp .neg t x) {d : Option Nat} {k : IntKind} {a : Int} (hx : s.ev x = .p d (.v (.int k a))) : StepD γ P n o M B s { put := .p none (.v (.int k (k.wrap (0 - a)))) } :=
  st_un ho hx rfl (fun w => by simp [Op.unary, Op.intArith])
theorem st_com {t : TypeId} {x : Operand} (ho : o.op = .unOp .xor t x) {d : Option Nat} {k : IntKind} {a : Int} (hx : s.ev x = .p d (.v (.int k a))) : StepD γ P n o M B s { put := .p none (.v (.int k (bitsOf .xor k (if k.signed then -1 else k.max) a))) } :=
  st_un ho hx rfl (fun w => by simp [Op.unary, Op.intBits, bitsOf])
theorem st_conv {t u : TypeId} {x : Operand} (ho : o.op = .convert t u x) {d : Option Nat} {k k' : IntKind} {ds : TypeDesc} {a : Int} (hx : s.ev x = .p d (.v (.int k a))) (ht : P.underlying t = some ds) (hu : P.underlying u = some (.int k')) : StepD γ P n o M B s { put := .p none (.v (.int k' (k'.wrap a))) } :=
  stepD_pure fun s' ag w0 I L ac w hr => ⟨.int k' (k'.wrap a), by simp [execOp, ho, hr.evv ((ag.ev1 ho (by simp [Op.operands])).trans hx), convert, run_underlying ht, run_underlying hu, Conv.intToInt], avr_flat L w s' rfl⟩
theorem st_conv_str {t u : TypeId} {x : Operand} (ho : o.op = .convert t u x) {d : Option Nat} {b : ByteArray} (hx : s.ev x = .p d (.v (.string b))) (ht : P.underlying t = some .string) (hu : P.underlying u = some .string) : StepD γ P n o M B s { put := .p none (.v (.string b)) } :=
  stepD_pure fun s' ag w0 I L ac w hr => ⟨.string b, by simp [execOp, ho, hr.evv ((ag.ev1 ho (by simp [Op.operands])).trans hx), convert, run_underlying ht, run_underlying hu], avr_flat L w s' rfl⟩
theorem st_sidx {t : TypeId} {x y : Operand} (ho : o.op = .index t x y) {d d' : Option Nat} {b : ByteArray} {k : IntKind} {i : Int} {c : UInt8} (hx : s.ev x = .p d (.v (.string b))) (hy : s.ev y = .p d' (.v (.int k i))) (ht : P.underlying t = some .string) (h0 : 0 ≤ i) (hc : b[i.toNat]? = some c) : StepD γ P n o M B s { put := .p none (.v (.int .u8 c.toNat)) } :=
  stepD_pure fun s' ag w0 I L a w hr => ⟨.int .u8 c.toNat, by simp [execOp, ho, hr.evv ((ag.ev1 ho (by simp [Op.operands])).trans hx), hr.evv ((ag.ev1 ho (by simp [Op.operands])).trans hy), Instr.index, asIntOf, run_underlying ht, h0, hc], avr_flat L w s' rfl⟩

/-- Function values that have captured variables. -/
theorem st_func {f : FuncId} {cap : Array Operand} (ho : o.op = .makeFunc (.func f) #[] cap) {bs : List Nat} (hc : cap.toList.map s.ev = bs.map (fun b => .ptr b 0)) : StepD γ P n o M B s { put := .clo f bs } :=
  stepD_pure fun s' ag w0 I L a w hr => by
    have hev : ∀ x ∈ cap.toList, s'.ev x = s.ev x := fun x hx => ag.ev1 ho (by simpa [Op.operands] using hx)
    refine ⟨.func (.func f) #[] (cap.map a.eval), by simp [execOp, ho, Instr.makeFunc], ?_⟩
    have hall : ∀ (l : List Operand) (bs : List Nat), (∀ x ∈ l, s'.ev x = s.ev x) → l.map s.ev = bs.map (fun b => .ptr b 0) → (∀ b ∈ bs, (s'.b b).isSome) ∧ l.map a.eval = bs.map (fun b => Value.pointer (some ⟨L.β b, 0, none⟩)) := by
      intro l
      induction l with
      | nil => intro bs _ h; cases bs with
        | nil => simp
        | cons _ _ => simp at h
      | cons x l ih =>
        intro bs hx h
        cases bs with
        | nil => simp at h
        | cons b bs =>
          simp only [List.map_cons, List.cons.injEq] at h
          obtain ⟨h1, h2⟩ := ih bs (fun y hy => hx y (by simp [hy])) h.2
          have hv := hr.ev x
          rw [hx x (by simp), h.1] at hv
          simp only [AVR] at hv
          exact ⟨fun c hc => (List.mem_cons.1 hc).elim (fun e => e ▸ hv.1) (h1 c), by simp [hv.2, h2]⟩
    obtain ⟨h1, h2⟩ := hall _ bs hev hc
    simp only [AVR]
    refine ⟨h1, ?_⟩
    congr 1
    apply Array.ext'
    rw [Array.toList_map, h2]
theorem st_func0 {f : FuncId} (ho : o.op = .makeFunc (.func f) #[] #[]) : StepD γ P n o M B s { put := .p none (.clo f []) } :=
  stepD_pure fun s' ag w0 I L a w hr => ⟨.func (.func f) #[] #[], by simp [execOp, ho, Instr.makeFunc], by simp only [AVR]; exact ⟨.clo f [] [] rfl (by simp) (fun _ _ => undef) (by simp) (by simp), fun _ h => by cases h⟩⟩
/-- Values of more cells, without memory. -/
def flatA : List AV → Option (List Value)
  | [] => some []
  | .p _ (.v v) :: as => (flatA as).map (v :: ·)
  | _ :: _ => none
theorem flatA_ok {L : Pl} {w : World} : ∀ {as : List AV} {vs us : List Value}, flatA as = some vs → AVRs L w s as us → us = vs
  | [], vs, us, h, hv => by
    simp only [flatA, Option.some.injEq] at h
    subst h
    cases us with
    | nil => rfl
    | cons _ _ => simp [AVRs] at hv
  | .p d (.v v) :: as, vs, us, h, hv => by
    simp only [flatA, Option.map_eq_some_iff] at h
    obtain ⟨vs', h1, rfl⟩ := h
    cases us with
    | nil => simp [AVRs] at hv
    | cons u us =>
      simp only [AVRs, AVR] at hv
      have h3 := hv.1.1
      cases h3
      rw [flatA_ok h1 hv.2]
  | .p d (.sl ..) :: as, vs, us, h, hv => by simp [flatA] at h
  | .p d (.clo ..) :: as, vs, us, h, hv => by simp [flatA] at h
  | .undef :: as, vs, us, h, hv => by simp [flatA] at h
  | .sl .. :: as, vs, us, h, hv => by simp [flatA] at h
  | .ptr .. :: as, vs, us, h, hv => by simp [flatA] at h
  | .ea .. :: as, vs, us, h, hv => by simp [flatA] at h
  | .fea .. :: as, vs, us, h, hv => by simp [flatA] at h
  | .nils :: as, vs, us, h, hv => by simp [flatA] at h
  | .sat _ :: as, vs, us, h, hv => by simp [flatA] at h
  | .clo .. :: as, vs, us, h, hv => by simp [flatA] at h
  | .agg .. :: as, vs, us, h, hv => by simp [flatA] at h
  | .tup .. :: as, vs, us, h, hv => by simp [flatA] at h
theorem agg_val {w0 : World} {I : Fr} {L : Pl} {a : Act} {w : World} (hr : Rel w0 I n L s a w) {x : Operand} {cs : List AV} {vs : List Value} (hx : s.ev x = .agg cs) (hf : flatA cs = some vs) : a.eval x = .agg ⟨vs⟩ := by
  have h := hr.ev x
  rw [hx] at h
  simp only [AVR] at h
  obtain ⟨us, h1, h2⟩ := h
  rw [h1, flatA_ok hf h2]
theorem st_aeql {xt yt : TypeId} {x y : Operand} (ho : o.op = .binOp .eql xt x y yt) {cs ds : List AV} {us vs : List Value} {b : Bool} (hx : s.ev x = .agg cs) (hy : s.ev y = .agg ds) (hf : flatA cs = some us) (hg : flatA ds = some vs) (hm : P.eqGuardType P.depth xt = false)
    (he : ∀ w, (Op.equalIn 10000 xt (.agg ⟨us⟩) (.agg ⟨vs⟩)).run P w = .ok b w) : StepD γ P n o M B s { put := .p none (.v (.bool b)) } :=
  stepD_pure fun s' ag w0 I L a w hr => ⟨.bool b, by
    simp [execOp, ho, agg_val hr ((ag.ev1 ho (by simp [Op.operands])).trans hx) hf, agg_val hr ((ag.ev1 ho (by simp [Op.operands])).trans hy) hg, run_eqGuard_agg (hm := hm), run_eql_struct, he], avr_flat L w s' rfl⟩
theorem st_aneq {xt yt : TypeId} {x y : Operand} (ho : o.op = .binOp .neq xt x y yt) {cs ds : List AV} {us vs : List Value} {b : Bool} (hx : s.ev x = .agg cs) (hy : s.ev y = .agg ds) (hf : flatA cs = some us) (hg : flatA ds = some vs) (hm : P.eqGuardType P.depth xt = false)
    (he : ∀ w, (Op.equalIn 10000 xt (.agg ⟨us⟩) (.agg ⟨vs⟩)).run P w = .ok b w) : StepD γ P n o M B s { put := .p none (.v (.bool (!b))) } :=
  stepD_pure fun s' ag w0 I L a w hr => ⟨.bool (!b), by
    simp [execOp, ho, agg_val hr ((ag.ev1 ho (by simp [Op.operands])).trans hx) hf, agg_val hr ((ag.ev1 ho (by simp [Op.operands])).trans hy) hg, run_eqGuard_agg (hm := hm), run_neq_struct, he], avr_flat L w s' rfl⟩
end
end Go.Rl

/- R, part C: one operation's step; the steps that leave memory as it is. -/
import Derived.Test.YtmjfdldfaeaolaaRlB
import Derived.Laws.StructEq
namespace Go.Rl
open Go.RowKit

def cst1 : Value → AV
  | .slice none 0 0 => .nils
  | v => if v.oneCell' then .p none (.v v) else .undef
def cst : Value → AV
  | .agg us => .agg (us.toList.map cst1)
  | v => cst1 v
def St.ev (s : St) : Operand → AV
  | .tmp t => s.t t
  | .const v => cst v
  | .func f => .p none (.clo f [])
  | .global _ => .undef

theorem avr_cst1 (L : Pl) (w : World) (s : St) (v : Value) : AVR L w s (cst1 v) v := by
  unfold cst1
  split
  · simp only [AVR]
    exact ⟨none, rfl⟩
  · split
    · rename_i h
      simp only [AVR]
      exact ⟨.v _ h, fun _ h => by cases h⟩
    · simp [AVR]
theorem avr_cst (L : Pl) (w : World) (s : St) (v : Value) : AVR L w s (cst v) v := by
  unfold cst
  split
  · rename_i us
    simp only [AVR]
    refine ⟨us.toList, rfl, ?_⟩
    generalize us.toList = l
    induction l with
    | nil => simp [AVRs]
    | cons u l ih => simp only [List.map_cons, AVRs]; exact ⟨avr_cst1 L w s u, ih⟩
  · exact avr_cst1 L w s _

section
variable {w0 : World} {I : Fr} {n : Nat} {L : Pl} {s : St} {a : Act} {w : World}
theorem Rel.ev (h : Rel w0 I n L s a w) (x : Operand) : AVR L w s (s.ev x) (a.eval x) := by
  cases x with
  | tmp t => exact h.tm t
  | const v => exact avr_cst L w s v
  | func f => simp only [St.ev, Act.eval, AVR]; exact ⟨.clo f [] [] rfl (by simp) (fun _ _ => undef) (by simp) (by simp), fun _ h => by cases h⟩
  | global g => simp [St.ev, AVR]
theorem Rel.evv (h : Rel w0 I n L s a w) {x : Operand} {d : Option Nat} {v : Value} (hx : s.ev x = .p d (.v v)) : a.eval x = v := by
  have := h.ev x
  rw [hx] at this
  simp only [AVR] at this
  cases this.1
  rfl
end

mutual
/-- The rows that an abstract value leads to. -/
def AV.rows : AV → List Nat
  | .undef => []
  | .p d _ => d.toList
  | .sl id _ _ => [id]
  | .ptr _ _ => []
  | .ea id _ _ => [id]
  | .fea d _ => d.toList
  | .nils => []
  | .sat _ => []
  | .clo _ _ => []
  | .agg cs => AV.rowss cs
  | .tup cs => AV.rowss cs
def AV.rowss : List AV → List Nat
  | [] => []
  | a :: as => AV.rows a ++ AV.rowss as
end
mutual
/-- The variables in memory that it leads to. -/
def AV.bxs : AV → List Nat
  | .ptr b _ => [b]
  | .clo _ bs => bs
  | .agg cs => AV.bxss cs
  | .tup cs => AV.bxss cs
  | _ => []
def AV.bxss : List AV → List Nat
  | [] => []
  | a :: as => AV.bxs a ++ AV.bxss as
end

/-- What an operation leaves: what it puts into its temporary, rows that are forgotten, rows and variables that are set. -/
structure Dl where
  put : AV := .undef
  kill : List Nat := []
  setR : List (Nat × Nat × List (List PV)) := []
  setB : List (Nat × List AV) := []
def setRs (r : Nat → Option (Nat × List (List PV))) : List (Nat × Nat × List (List PV)) → Nat → Option (Nat × List (List PV))
  | [] => r
  | x :: l => setRs (upd r x.1 (some x.2)) l
def setBs (b : Nat → Option (List AV)) : List (Nat × List AV) → Nat → Option (List AV)
  | [] => b
  | x :: l => setBs (upd b x.1 (some x.2)) l
def St.killd (s : St) : List Nat → St
  | [] => s
  | k :: K => s.kill (k :: K)
theorem St.killd_eq (s : St) (K : List Nat) : s.killd K = s.kill K := by
  cases K with
  | cons k K => rfl
  | nil =>
    simp only [St.killd, St.kill]
    cases s
    simp only [List.not_mem_nil, if_false, St.mk.injEq, and_true]
    refine ⟨funext fun j => (AV.kill_nil _).symm, funext fun j => ?_⟩
    rename_i b _
    cases b j <;> simp [AV.kills_nil]
def Dl.app (δ : Dl) (d : Option Tmp) (s : St) : St :=
  St.put { t := (s.killd δ.kill).t, b := setBs (s.killd δ.kill).b δ.setB, r := setRs (s.killd δ.kill).r δ.setR } d δ.put

/-- The operands that an operation asks, its guard's temporary not among them. -/
def Oper.asked (o : Oper) : List Operand := o.op.operands.toList
/-- Whether it asks for a word alone, and not for what lies behind it. -/
def lightO : Op → Bool
  | .move _ => true
  | .assign _ => true
  | _ => false
/-- What an operation asks stands in s' as in s. M: the rows, B: the variables, that it asks besides. -/
structure Ag (o : Oper) (M B : List Nat) (s s' : St) : Prop where
  ev : ∀ x, x ∈ Oper.asked o → s'.ev x = s.ev x
  r : ∀ x, x ∈ Oper.asked o → lightO o.op = false → ∀ id, id ∈ (s.ev x).rows → s'.r id = s.r id
  b : ∀ x, x ∈ Oper.asked o → lightO o.op = false → ∀ i, i ∈ (s.ev x).bxs → s'.b i = s.b i
  m : ∀ id, id ∈ M → s'.r id = s.r id
  n : ∀ i, i ∈ B → s'.b i = s.b i

/-- What is known of one block of memory that nobody writes. -/
abbrev Gho := Option (Nat × Obj)
def Gh (γ : Gho) (w : World) (B : List Nat) : Prop := ∀ k o, γ = some (k, o) → w.heap[k]? = some o ∧ k ∉ B
/-- One operation: whatever stands as s tells comes to stand as s' tells. -/
def StepOk (γ : Gho) (P : Program) (n : Nat) (o : Oper) (s s' : St) : Prop :=
  (∀ x, o.dst = some x → x < n) → ∀ w0 I L a w, Gh γ w0 I.I → Rel w0 I n L s a w → ∀ (K : Act → World → Prop) (Q : Exit → Act → World → Prop), (∀ L' v w', Rel w0 I n L' s' (a.put o.dst v) w' → K (a.put o.dst v) w') → o.wp P a w K Q
/-- The same wherever what it asks stands so. -/
def StepD (γ : Gho) (P : Program) (n : Nat) (o : Oper) (M B : List Nat) (s : St) (δ : Dl) : Prop := ∀ s', Ag o M B s s' → StepOk γ P n o s' (δ.app o.dst s')

theorem app_put (d : Option Tmp) (s : St) (av : AV) : ({ put := av } : Dl).app d s = s.put d av := rfl

section
variable {γ : Gho} {P : Program} {n : Nat} {o : Oper} {M B : List Nat} {s : St}
theorem stepD_pure {av : AV} (h : ∀ s', Ag o M B s s' → ∀ w0 I L a w, Rel w0 I n L s' a w → ∃ v, (execOp a.eval o).run P w = .ok (.value v) w ∧ AVR L w s' av v) : StepD γ P n o M B s { put := av } := by
  intro s' ag hd w0 I L a w hG hr K Q hK
  obtain ⟨v, hv, ha⟩ := h s' ag w0 I L a w hr
  unfold Oper.wp
  rw [hv, app_put] at *
  exact hK L v w (hr.put hd ha)
theorem Ag.ev1 {s' : St} (ag : Ag o M B s s') {op : Op} (ho : o.op = op) {x : Operand} (hx : x ∈ op.operands.toList) : s'.ev x = s.ev x := ag.ev x (by unfold Oper.asked; rw [ho]; exact hx)
theorem Ag.r1 {s' : St} (ag : Ag o M B s s') {op : Op} (ho : o.op = op) {x : Operand} (hx : x ∈ op.operands.toList) {av : AV} (he : s.ev x = av) {id : Nat} (hid : id ∈ av.rows) (hl : lightO op = false := by rfl) : s'.r id = s.r id := ag.r x (by unfold Oper.asked; rw [ho]; exact hx) (by rw [ho]; exact hl) id (by rw [he]; exact hid)
theorem Ag.b1 {s' : St} (ag : Ag o M B s s') {op : Op} (ho : o.op = op) {x : Operand} (hx : x ∈ op.operands.toList) {av : AV} (he : s.ev x = av) {i : Nat} (hi : i ∈ av.bxs) (hl : lightO op = false := by rfl) : s'.b i = s.b i := ag.b x (by unfold Oper.asked; rw [ho]; exact hx) (by rw [ho]; exact hl) i (by rw [he]; exact hi)

theorem st_move {x : Operand} (ho : o.op = .move x) : StepD γ P n o M B s { put := s.ev x } :=
  stepD_pure fun s' ag w0 I L a w hr => ⟨a.eval x, by simp [execOp, ho], by rw [← ag.ev1 ho (by simp [Op.operands])]; exact hr.ev x⟩
theorem st_assign {x : Operand} (ho : o.op = .assign x) : StepD γ P n o M B s { put := s.ev x } :=
  stepD_pure fun s' ag w0 I L a w hr => ⟨a.eval x, by simp [execOp, ho], by rw [← ag.ev1 ho (by simp [Op.operands])]; exact hr.ev x⟩
theorem st_pick {c x y : Operand} (ho : o.op = .pick c x y) {d : Option Nat} {t : Bool} (hc : s.ev c = .p d (.v (.bool t))) : StepD γ P n o M B s { put := if t then s.ev x else s.ev y } :=
  stepD_pure fun s' ag w0 I L a w hr => by
    have h := hr.evv ((ag.ev1 ho (by simp [Op.operands])).trans hc)
    cases t
    · exact ⟨a.eval y, by simp [execOp, ho, h, asBool], by simp only [Bool.false_eq_true, if_false]; rw [← ag.ev1 ho (by simp [Op.operands])]; exact hr.ev y⟩
    · exact ⟨a.eval x, by simp [execOp, ho, h, asBool], by simp only [if_true]; rw [← ag.ev1 ho (by simp [Op.operands])]; exact hr.ev x⟩
theorem avr_flat (L : Pl) (w : World) (s : St) {v : Value} (h : v.oneCell' = true) : AVR L w s (.p none (.v v)) v := by
  simp only [AVR]
  exact ⟨.v _ h, fun _ h => by cases h⟩
/-- Whatever reads values alone. -/
theorem st_scal (hs : ∀ cs b, o.op ≠ .select cs b) (ρ : Operand → Value) (hx : ∀ x ∈ o.op.operands, ∃ d, s.ev x = .p d (.v (ρ x))) {v : Value} (h1 : v.oneCell' = true)
    (hv : ∀ w, (execOp ρ o).run P w = .ok (.value v) w) : StepD γ P n o M B s { put := .p none (.v v) } :=
  stepD_pure fun s' ag w0 I L a w hr => ⟨v, by rw [execOp_congr (ρ' := ρ) o hs (fun x hx' => by obtain ⟨d, h⟩ := hx x hx'; exact hr.evv ((ag.ev x (by simpa [Oper.asked] using hx')).trans h))]; exact hv w, avr_flat L w s' h1⟩
theorem st_bin {op : BinOp} {xt yt : TypeId} {x y : Operand} (ho : o.op = .binOp op xt x y yt) {d d' : Option Nat} {vx vy v : Value} (hx : s.ev x = .p d (.v vx)) (hy : s.ev y = .p d' (.v vy)) (h1 : v.oneCell' = true)
    (hg : ∀ x y w, (eqGuard op xt x y vx vy).run P w = .ok () w) (hv : ∀ w, (binOp op xt vx vy).run P w = .ok v w) : StepD γ P n o M B s { put := .p none (.v v) } :=
  stepD_pure fun s' ag w0 I L a w hr => ⟨v, by simp [execOp, ho, hr.evv ((ag.ev1 ho (by simp [Op.operands])).trans hx), hr.evv ((ag.ev1 ho (by simp [Op.operands])).trans hy), hg, hv], avr_flat L w s' h1⟩
theorem eqGuard_flat (op : BinOp) (t : TypeId) (x y : Operand) (a b : Value) (h : (∀ c, a ≠ .agg c) ∧ a ≠ .nilIface) (w : World) : (eqGuard op t x y a b).run P w = .ok () w := by
  unfold eqGuard
  cases op <;> cases a <;> first | rfl | (exfalso; exact h.1 _ rfl) | (exfalso; exact h.2 rfl)
section ints
variable {xt yt : TypeId} {x y : Operand} {d d' : Option Nat} {k k' : IntKind} {a b : Int}
theorem st_add (ho : o.op = .binOp .add xt x y yt) (hx : s.ev x = .p d (.v (.int k a))) (hy : s.ev y = .p d' (.v (.int k b))) : StepD γ P n o M B s { put := (.p none (.v (.int k (k.wrap (a + b))))) } :=
  st_bin ho hx hy rfl (fun _ _ w => eqGuard_flat _ _ _ _ _ _ (by simp) w) (fun w => by simp [binOp, Op.intArith])
theorem st_sub (ho : o.op = .binOp .sub xt x y yt) (hx : s.ev x = .p d (.v (.int k a))) (hy : s.ev y = .p d' (.v (.int k b))) : StepD γ P n o M B s { put := (.p none (.v (.int k (k.wrap (a - b))))) } :=
  st_bin ho hx hy rfl (fun _ _ w => eqGuard_flat _ _ _ _ _ _ (by simp) w) (fun w => by simp [binOp, Op.intArith])
theorem st_mul (ho : o.op = .binOp .mul xt x y yt) (hx : s.ev x = .p d (.v (.int k a))) (hy : s.ev y = .p d' (.v (.int k b))) : StepD γ P n o M B s { put := (.p none (.v (.int k (k.wrap (a * b))))) } :=
  st_bin ho hx hy rfl (fun _ _ w => eqGuard_flat _ _ _ _ _ _ (by simp) w) (fun w => by simp [binOp, Op.intArith])
theorem st_quo (ho : o.op = .binOp .quo xt x y yt) (hx : s.ev x = .p d (.v (.int k a))) (hy : s.ev y = .p d' (.v (.int k b))) (hb : b ≠ 0) : StepD γ P n o M B s { put := (.p none (.v (.int k (k.wrap (a.tdiv b))))) } :=
  st_bin ho hx hy rfl (fun _ _ w => eqGuard_flat _ _ _ _ _ _ (by simp) w) (fun w => by simp [binOp, Op.intDiv, hb])
theorem st_rem (ho : o.op = .binOp .rem xt x y yt) (hx : s.ev x = .p d (.v (.int k a))) (hy : s.ev y = .p d' (.v (.int k b))) (hb : b ≠ 0) : StepD γ P n o M B s { put := (.p none (.v (.int k (a.tmod b)))) } :=
  st_bin ho hx hy rfl (fun _ _ w => eqGuard_flat _ _ _ _ _ _ (by simp) w) (fun w => by simp [binOp, Op.intDiv, hb])
def bitsOf (op : BinOp) (k : IntKind) (a b : Int) : Int :=
  let x := BitVec.ofInt k.bits a
  let y := BitVec.ofInt k.bits b
  k.wrap (match op with
    | .and => x &&& y
    | .or => x ||| y
    | .xor => x ^^^ y
    | _ => x &&& ~~~y).toNat
theorem st_bits {op : BinOp} (ho : o.op = .binOp op xt x y yt) (hop : op = .and ∨ op = .or ∨ op = .xor ∨ op = .andNot) (hx : s.ev x = .p d (.v (.int k a))) (hy : s.ev y = .p d' (.v (.int k b))) : StepD γ P n o M B s { put := (.p none (.v (.int k (bitsOf op k a b)))) } :=
  st_bin ho hx hy rfl (fun _ _ w => eqGuard_flat _ _ _ _ _ _ (by simp) w) (fun w => by rcases hop with rfl | rfl | rfl | rfl <;> simp [binOp, Op.intBits, bitsOf])
theorem st_shl (ho : o.op = .binOp .shl xt x y yt) (hx : s.ev x = .p d (.v (.int k a))) (hy : s.ev y = .p d' (.v (.int k' b))) (hb : 0 ≤ b) : StepD γ P n o M B s { put := (.p none (.v (.int k (k.wrap (a * 2 ^ min b.toNat k.bits))))) } :=
  st_bin ho hx hy rfl (fun _ _ w => eqGuard_flat _ _ _ _ _ _ (by simp) w) (fun w => by simp [binOp, Op.shift, Int.not_lt.2 hb])
theorem st_shr (ho : o.op = .binOp .shr xt x y yt) (hx : s.ev x = .p d (.v (.int k a))) (hy : s.ev y = .p d' (.v (.int k' b))) (hb : 0 ≤ b) : StepD γ P n o M B s { put := (.p none (.v (.int k (a.fdiv (2 ^ min b.toNat k.bits))))) } :=
  st_bin ho hx hy rfl (fun _ _ w => eqGuard_flat _ _ _ _ _ _ (by simp) w) (fun w => by simp [binOp, Op.shift, Int.not_lt.2 hb])
theorem st_eql (ho : o.op = .binOp .eql xt x y yt) (hx : s.ev x = .p d (.v (.int k a))) (hy : s.ev y = .p d' (.v (.int k b))) : StepD γ P n o M B s { put := (.p none (.v (.bool (decide (a = b))))) } :=
  st_bin ho hx hy rfl (fun _ _ w => eqGuard_flat _ _ _ _ _ _ (by simp) w) (fun w => by simp [binOp, Op.intCmp]; rfl)
theorem st_neq (ho : o.op = .binOp .neq xt x y yt) (hx : s.ev x = .p d (.v (.int k a))) (hy : s.ev y = .p d' (.v (.int k b))) : StepD γ P n o M B s { put := (.p none (.v (.bool (!decide (a = b))))) } :=
  st_bin ho hx hy rfl (fun _ _ w => eqGuard_flat _ _ _ _ _ _ (by simp) w) (fun w => by simp [binOp, Op.intCmp]; rfl)
theorem st_lss (ho : o.op = .binOp .lss xt x y yt) (hx : s.ev x = .p d (.v (.int k a))) (hy : s.ev y = .p d' (.v (.int k b))) : StepD γ P n o M B s { put := (.p none (.v (.bool (decide (a < b))))) } :=
  st_bin ho hx hy rfl (fun _ _ w => eqGuard_flat _ _ _ _ _ _ (by simp) w) (fun w => by simp [binOp, Op.intCmp])
theorem st_leq (ho : o.op = .binOp .leq xt x y yt) (hx : s.ev x = .p d (.v (.int k a))) (hy : s.ev y = .p d' (.v (.int k b))) : StepD γ P n o M B s { put := (.p none (.v (.bool (decide (a ≤ b))))) } :=
  st_bin ho hx hy rfl (fun _ _ w => eqGuard_flat _ _ _ _ _ _ (by simp) w) (fun w => by simp [binOp, Op.intCmp])
theorem st_gtr (ho : o.op = .binOp .gtr xt x y yt) (hx : s.ev x = .p d (.v (.int k a))) (hy : s.ev y = .p d' (.v (.int k b))) : StepD γ P n o M B s { put := (.p none (.v (.bool (decide (b < a))))) } :=
  st_bin ho hx hy rfl (fun _ _ w => eqGuard_flat _ _ _ _ _ _ (by simp) w) (fun w => by simp [binOp, Op.intCmp])
theorem st_geq (ho : o.op = .binOp .geq xt x y yt) (hx : s.ev x = .p d (.v (.int k a))) (hy : s.ev y = .p d' (.v (.int k b))) : StepD γ P n o M B s { put := (.p none (.v (.bool (decide (b ≤ a))))) } :=
  st_bin ho hx hy rfl (fun _ _ w => eqGuard_flat _ _ _ _ _ _ (by simp) w) (fun w => by simp [binOp, Op.intCmp])
end ints
section strs
variable {xt yt : TypeId} {x y : Operand} {d d' : Option Nat} {a b : ByteArray}
theorem st_sadd (ho : o.op = .binOp .add xt x y yt) (hx : s.ev x = .p d (.v (.string a))) (hy : s.ev y = .p d' (.v (.string b))) (hb : a.size + b.size ≤ 9223372036854775807) : StepD γ P n o M B s { put := (.p none (.v (.string (a ++ b)))) } :=
  st_bin ho hx hy rfl (fun _ _ w => eqGuard_flat _ _ _ _ _ _ (by simp) w) (fun w => by
    have h : ¬ (IntKind.i64.max < ((a.size + b.size : Nat) : Int)) := by simp only [IntKind.max]; simp [IntKind.signed, IntKind.bits]; omega
    simp [binOp, Op.stringOp]; simpa using h)
end strs
end
end Go.Rl

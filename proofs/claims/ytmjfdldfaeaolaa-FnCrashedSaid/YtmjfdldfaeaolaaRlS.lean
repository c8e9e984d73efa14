/- R, part S: rules for use. -/
import Derived.Test.YtmjfdldfaeaolaaRlR
namespace Go.Rl
open Go.RowKit

section
variable {γ : Gho} {P : Program} {n : Nat} {o : Oper} {M B : List Nat} {s : St}
/-- The same step, its value said in other words. -/
theorem st_eq {av av' : AV} (h : StepD γ P n o M B s { put := av }) (e : av = av') : StepD γ P n o M B s { put := av' } := e ▸ h
/-- s[:0:0] -/
theorem st_cut_nil {t e : TypeId} {x hi mx : Operand} (ho : o.op = .slice t x none (some hi) (some mx)) {av : AV} {d d' : Option Nat} {k k' : IntKind} (hx : s.ev x = av) (hsl : (∃ d o sz xs, av = .p d (.sl o sz xs)) ∨ (∃ i lo len, av = .sl i lo len) ∨ av = .nils) (hh : s.ev hi = .p d (.v (.int k 0))) (hm : s.ev mx = .p d' (.v (.int k' 0))) (hu : P.underlying t = some (.slice e)) {sz : Nat} (hsz : ∀ w, (sizeOf e).run P w = .ok sz w) :
    StepD γ P n o M B s { put := .nils } :=
  stepD_pure fun s' ag w0 I L a w hr => by
    have he := (ag.ev1 ho (by simp [Op.operands])).trans hx
    have h1 := hr.evv ((ag.ev1 ho (by simp [Op.operands])).trans hh)
    have h2 := hr.evv ((ag.ev1 ho (by simp [Op.operands])).trans hm)
    have hv := hr.ev x
    rw [he] at hv
    have key : ∃ A len c, a.eval x = .slice A len c := by
      rcases hsl with ⟨d, o, sz, xs, rfl⟩ | ⟨i, lo, len, rfl⟩ | rfl
      · simp only [AVR] at hv
        have hp := hv.1
        generalize a.eval x = v at hp
        cases hp with
        | emp _ _ A c => exact ⟨A, 0, c, rfl⟩
        | sl _ _ _ k off c => exact ⟨_, _, c, rfl⟩
      · simp only [AVR] at hv
        obtain ⟨_, _, _, _, _, _, _, A', c', _, e, _⟩ := hv
        exact ⟨A', _, c', e⟩
      · simp only [AVR] at hv
        obtain ⟨A, e⟩ := hv
        exact ⟨A, 0, 0, e⟩
    obtain ⟨A, len, c, hv'⟩ := key
    refine ⟨.slice A 0 0, ?_, by simp only [AVR]; exact ⟨A, rfl⟩⟩
    simp [execOp, ho, hv', h1, h2, Instr.sliceAt, Instr.slice, run_underlying hu, Instr.sliceBounds, Instr.sliceBound, asIntOf, hsz]
theorem run_eq_nil {t e : TypeId} (hu : P.underlying t = some (.slice e)) (d : Nat) (A : Option Addr) (len c : Nat) (w : World) : (Op.equalIn (d + 1) t (.slice A len c) (.slice none 0 0)).run P w = .ok A.isNone w := by
  unfold Op.equalIn
  cases A <;> simp [run_underlying hu]
/-- Whether a slice is nil: if so, it is empty. -/
theorem st_isnil {xt yt : TypeId} {x : Operand} {v : Value} (ho : o.op = .binOp .eql xt x (.const (.slice none 0 0)) yt) {av : AV} {len : Nat} (hx : s.ev x = av) (hsl : (∃ d o sz xs, av = .p d (.sl o sz xs) ∧ len = xs.length) ∨ (∃ i lo, av = .sl i lo len) ∨ (av = .nils ∧ len = 0)) {e : TypeId} (hu : P.underlying xt = some (.slice e)) :
    StepD γ P n o M B s { put := .sat (fun v => ∃ b, v = .bool b ∧ (b = true → len = 0)) } :=
  stepD_pure fun s' ag w0 I L a w hr => by
    have he := (ag.ev1 ho (by simp [Op.operands])).trans hx
    have hv := hr.ev x
    rw [he] at hv
    have key : ∃ A c, a.eval x = .slice A len c ∧ (A = none → len = 0) := by
      rcases hsl with ⟨d, o, sz, xs, rfl, rfl⟩ | ⟨i, lo, rfl⟩ | ⟨rfl, rfl⟩
      · simp only [AVR] at hv
        have hp := hv.1
        generalize a.eval x = v at hp
        cases hp with
        | emp _ _ A c => exact ⟨A, c, rfl, fun _ => rfl⟩
        | sl _ _ _ k off c => exact ⟨_, c, rfl, fun h => by cases h⟩
      · simp only [AVR] at hv
        obtain ⟨_, _, _, _, _, _, _, A', c', _, e, _, _, h7⟩ := hv
        refine ⟨A', c', e, fun hA => ?_⟩
        rcases Nat.eq_zero_or_pos len with h | h
        · exact h
        · obtain ⟨k, _, h8⟩ := h7 h
          rw [hA] at h8; cases h8
      · simp only [AVR] at hv
        obtain ⟨A, e⟩ := hv
        exact ⟨A, 0, e, fun _ => rfl⟩
    obtain ⟨A, c, hv', hA⟩ := key
    refine ⟨.bool A.isNone, ?_, by simp only [AVR]; exact ⟨_, rfl, fun h => hA (by simpa using h)⟩⟩
    have heq : (binOp .eql xt (.slice A len c) (.slice none 0 0)).run P w = .ok (.bool A.isNone) w := by
      simp only [binOp]
      simp [Op.equal, Op.maxDepth, run_eq_nil hu]
    have hc : a.eval (.const (.slice none 0 0)) = .slice none 0 0 := rfl
    simp only [execOp, ho, hv', hc, Sem.run_bind, eqGuard_at_slice, Sem.run_pure, Result.andThen_ok, heq]
end
section
variable {γ : Gho} {P : Program} {n : Nat} {s : St} {Q : Exit → St → Prop}
theorem tr_ifs {c : Operand} {x y : Code} {A : Value → Prop} (hc : s.ev c = .sat A) (hA : ∀ v, A v → ∃ b, v = .bool b) (ht : A (.bool true) → Tr γ P n x s Q) (hf : A (.bool false) → Tr γ P n y s Q) : Tr γ P n (.cond c x y) s Q := fun w0 I L a w hG hr => by
  have h := hr.ev c
  rw [hc] at h
  simp only [AVR] at h
  obtain ⟨b, hb⟩ := hA _ h
  rw [hb] at h
  exact wp_cond_split hb (fun e => ht (e ▸ h) w0 I L a w hG hr) (fun e => hf (e ▸ h) w0 I L a w hG hr)
/-- A loop over states S x. -/
theorem tr_loopS {c : Code} {σ : Type} (S : σ → St) (G : σ → Prop) (μ : σ → Nat) (x0 : σ) (h0 : G x0) (hw : Wk n s (S x0)) (round : ∀ x, G x → Tr γ P n c (S x) (thn (fun s' => ∃ x', G x' ∧ μ x' < μ x ∧ Wk n s' (S x')) Q)) : Tr γ P n (.loop c) s Q := by
  refine tr_loop (fun k s => ∃ x, G x ∧ μ x = k ∧ Wk n s (S x)) (μ x0) ⟨x0, h0, rfl, hw⟩ (fun k s hI => ?_)
  obtain ⟨x, hG, rfl, hW⟩ := hI
  refine tr_mono (tr_wk hW (round x hG)) (fun e s' hq => ?_)
  cases e with
  | normal =>
    obtain ⟨x', h1, h2, h3⟩ := hq
    exact ⟨μ x', h2, x', h1, rfl, h3⟩
  | _ => exact hq
theorem enters {P : Program} {f : FuncId} {fn : Func} (hf : P.funcs[f]? = some fn) (hn : (fn.name == "runtime.NumGoroutine") = false) (hb : fn.body.isNone = false) : ∀ as w, (callFunc f as).run P w = .ok (.enter f as) w := fun as w => by
  simp only [callFunc, Sem.run_bind, run_program, Result.andThen_ok, hf, hn, hb, Bool.false_eq_true, if_false]
  rfl
theorem sizes_ok {P : Program} {t : TypeId} {z : Value} {sz by' : Nat} (hi : (P.info? t).map (fun i => (i.zero, i.size, i.bytes)) = some (some z, sz, by')) : ∀ w, (sizeOf t).run P w = .ok sz w := fun w => by
  obtain ⟨i, h1, h2, h3, h4⟩ := info_of hi
  simp [sizeOf, typeInfo, h1, h3]
theorem agg_yes {P : Program} {t : TypeId} {fs : Array Field} (hu : P.underlying t = some (.struct fs)) : ∀ w, (isAgg t).run P w = .ok true w := fun w => by simp [isAgg, run_underlying hu]
theorem agg_no {P : Program} {t : TypeId} {d : TypeDesc} (hu : P.underlying t = some d) (h : (match d with | .struct _ | .array _ _ => true | _ => false) = false) : ∀ w, (isAgg t).run P w = .ok false w := fun w => by
  cases d <;> simp_all [isAgg, run_underlying hu]
end
section
variable {γ : Gho} {P : Program} {n : Nat} {o : Oper} {M B : List Nat} {s : St} {xt yt : TypeId} {x y : Operand} {d d' : Option Nat} {a b : Int}
theorem wrap_in {a : Int} (h : -9223372036854775808 ≤ a ∧ a < 9223372036854775808) : IntKind.i64.wrap a = a := by rw [IntKind.wrap_i64]; omega
theorem st_addn (ho : o.op = .binOp .add xt x y yt) (hx : s.ev x = .p d (.v (.int .i64 a))) (hy : s.ev y = .p d' (.v (.int .i64 b))) (h : -9223372036854775808 ≤ a + b ∧ a + b < 9223372036854775808) : StepD γ P n o M B s { put := .p none (.v (.int .i64 (a + b))) } :=
  st_eq (st_add ho hx hy) (by rw [wrap_in h])
theorem st_subn (ho : o.op = .binOp .sub xt x y yt) (hx : s.ev x = .p d (.v (.int .i64 a))) (hy : s.ev y = .p d' (.v (.int .i64 b))) (h : -9223372036854775808 ≤ a - b ∧ a - b < 9223372036854775808) : StepD γ P n o M B s { put := .p none (.v (.int .i64 (a - b))) } :=
  st_eq (st_sub ho hx hy) (by rw [wrap_in h])
theorem st_muln (ho : o.op = .binOp .mul xt x y yt) (hx : s.ev x = .p d (.v (.int .i64 a))) (hy : s.ev y = .p d' (.v (.int .i64 b))) (h : -9223372036854775808 ≤ a * b ∧ a * b < 9223372036854775808) : StepD γ P n o M B s { put := .p none (.v (.int .i64 (a * b))) } :=
  st_eq (st_mul ho hx hy) (by rw [wrap_in h])
theorem st_negn {t : TypeId} (ho : o.op = .unOp .neg t x) (hx : s.ev x = .p d (.v (.int .i64 a))) (h : -9223372036854775808 < a ∧ a < 9223372036854775808) : StepD γ P n o M B s { put := .p none (.v (.int .i64 (-a))) } :=
  st_eq (st_neg ho hx) (by rw [wrap_in (by omega)]; congr 3; omega)
theorem st_convn {t u : TypeId} (ho : o.op = .convert t u x) {k : IntKind} {ds : TypeDesc} (hx : s.ev x = .p d (.v (.int k a))) (ht : P.underlying t = some ds) (hu : P.underlying u = some (.int .i64)) (h : -9223372036854775808 ≤ a ∧ a < 9223372036854775808) : StepD γ P n o M B s { put := .p none (.v (.int .i64 a)) } :=
  st_eq (st_conv ho hx ht hu) (by rw [wrap_in h])
theorem nxt {σ : Type} {S : σ → St} {G : σ → Prop} {μ : σ → Nat} {z : σ} {Q : Exit → St → Prop} (z' : σ) (h1 : G z') (h2 : μ z' < μ z) (h3 : Wk n s (S z')) : thn (fun s' => ∃ x', G x' ∧ μ x' < μ z ∧ Wk n s' (S x')) Q .normal s := ⟨z', h1, h2, h3⟩
theorem ends {rs : List ResultVar} {args : List PA} {outs : List (Option (List (List PV)))} {res : List PA} (avs : List AV) (K : List Nat) (h1 : RvAs P s rs avs) (h2 : GPas s avs res K) (h3 : K.Nodup) (h4 : OutsOk s K (owns (fun _ => pinT) pinT args) outs) : RetQ P rs args outs res .ret s := ⟨avs, K, h1, h2, h3, h4⟩
theorem ends' {rs : List ResultVar} {args : List PA} {outs : List (Option (List (List PV)))} {res : List PA} (avs : List AV) (K : List Nat) (h1 : RvAs P s rs avs) (h2 : GPas s avs res K) (h3 : K.Nodup) (h4 : OutsOk s K (owns (fun _ => pinT) pinT args) outs) : RetQ P rs args outs res .normal s := ⟨avs, K, h1, h2, h3, h4⟩
end
theorem nle {a b : Nat} (h : Nat.ble a b = true) : a ≤ b := Nat.le_of_ble_eq_true h
theorem cl_nil : ∀ p ∈ ([] : List PV), Clean p := fun _ h => by cases h
theorem cl_cons {p : PV} {ps : List PV} (h : Clean p) (t : ∀ q ∈ ps, Clean q) : ∀ q ∈ p :: ps, Clean q := fun q hq => by
  rcases List.mem_cons.1 hq with rfl | hq
  · exact h
  · exact t q hq
theorem st_allocZ {γ : Gho} {P : Program} {n : Nat} {o : Oper} {M B : List Nat} {s : St} {ty : TypeId} (ho : o.op = .alloc ty) (b : Nat) {z : Value} {sz by' : Nat} (hi : (P.info? ty).map (fun i => (i.zero, i.size, i.bytes)) = some (some z, sz, by')) (hf : (cst z).fits = true) (hb1 : b < pinT) (hb : s.b b = none) (hB : b ∈ B) :
    StepD γ P n o M B s { put := .ptr b 0, setB := [(b, (cst z).cells)] } := by
  obtain ⟨i, h1, h2, _, _⟩ := info_of hi
  exact st_alloc ho b h1 h2 hf hb1 hb hB
theorem all_nil {p : Nat → Prop} : ∀ i ∈ ([] : List Nat), p i := fun _ h => by cases h
theorem all_cons {p : Nat → Prop} {a : Nat} {l : List Nat} (h : p a) (t : ∀ i ∈ l, p i) : ∀ i ∈ a :: l, p i := fun i hi => by
  rcases List.mem_cons.1 hi with rfl | hi
  · exact h
  · exact t i hi
theorem int_eq {k : IntKind} {a b : Int} (h : a = b) : AV.p none (.v (.int k a)) = AV.p none (.v (.int k b)) := by rw [h]
theorem bool_eq {a b : Bool} (h : a = b) : AV.p none (.v (.bool a)) = AV.p none (.v (.bool b)) := by rw [h]
theorem str_eq {a b : ByteArray} (h : a = b) : AV.p none (.v (.string a)) = AV.p none (.v (.string b)) := by rw [h]
end Go.Rl

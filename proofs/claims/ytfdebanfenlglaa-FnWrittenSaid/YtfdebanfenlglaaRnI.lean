/- Promises of functions, proved by walks over their operations; no conditions beyond those that each theorem states. -/
import Derived.Test.YtfdebanfenlglaaReD
import Derived.Maps.Own
import Derived.Test.YtfdebanfenlglaaRlS
import Derived.Test.YtfdebanfenlglaaRgB
set_option linter.unusedSimpArgs false
set_option linter.unusedVariables false
namespace Go.Rl
open Go.RowKit
section
variable {γ : Gho} {P : Program} {n : Nat} {k e : TypeId}
/-- The datum D knows the numbers ks, and no others. -/
def Knows (D : DataW Unit) (ks : List Int) : Prop := (∃ es, D = .map es) ∧ ∀ x : Int, D.atKey (.int .i64 x) (.lit (.bool false)) = .lit (.bool (decide (x ∈ ks)))
/-- Block b is a map from numbers to truth that says true of the numbers ks (keys of type k, elements of type e). -/
def MapAt (P : Program) (k e : TypeId) (w : World) (b : Nat) (ks : List Int) : Prop := ∃ m D, w.ownsMap P k (plainElem P e) b m D ∧ m ≤ ks.length ∧ Knows D ks
theorem MapAt.obj {w : World} {b : Nat} {ks : List Int} (h : MapAt P k e w b ks) : ∃ es clock, w.heap[b]? = some (.map es clock) ∧ ∀ w' : World, w'.heap[b]? = some (.map es clock) → MapAt P k e w' b ks := by
  obtain ⟨m, D, ⟨es, clock, hb, F, hs, hD⟩, hm, hk⟩ := h
  exact ⟨es, clock, hb, fun w' hw => ⟨m, D, ⟨es, clock, hw, F, hs, hD⟩, hm, hk⟩⟩
theorem MapAt.made (w : World) : MapAt P k e (w.alloc (.map #[] 0)) w.heap.size [] :=
  ⟨0, .map [], World.ownsMap_made w P k _, Nat.le_refl _, ⟨[], rfl⟩, fun x => by simp [DataW.atKey]⟩
theorem MapAt.look {w : World} {b : Nat} {ks : List Int} (h : MapAt P k e w b ks) (hk : P.underlying k = some (.int .i64)) (he : P.underlying e = some .bool) {t : TypeId} (ht : P.underlying t = some (.map k e)) (hz : (zeroValue e).run P w = .ok (.bool false) w) {x : Int} (hx : (Lit.int .i64 x).wf = true) :
    (Instr.lookup t (.map (some b)) (.int .i64 x) false).run P w = .ok (.bool (decide (x ∈ ks))) w := by
  obtain ⟨m, D, h, _, _, hK⟩ := h
  obtain ⟨v, ps, hrun, hv⟩ := h.lookup (Maps.int_keyed hk) ht hz (plainElem_bool he false) (Maps.keyOf_int_mk hk hx)
  rw [hK x] at hv
  have : v = .bool (decide (x ∈ ks)) := by
    unfold plainElem at hv
    rw [he] at hv
    cases v <;> simp at hv
    rw [hv.1]
  rw [hrun, this]
theorem MapAt.upd {w : World} {b : Nat} {ks : List Int} (h : MapAt P k e w b ks) (hk : P.underlying k = some (.int .i64)) (he : P.underlying e = some .bool) {t : TypeId} (ht : P.underlying t = some (.map k e)) {x : Int} (hx : (Lit.int .i64 x).wf = true) (hn : ks.length < maxLen) :
    ∃ w', (Instr.mapUpdate t (.map (some b)) (.int .i64 x) (.bool true)).run P w = .ok () w' ∧ MapAt P k e w' b (ks ++ [x]) ∧ w.grownBy w' (some b) ∧ ∃ o, w.heap[b]? = some o ∧ o.isCells = false := by
  obtain ⟨m, D, h, hm, hI, hK⟩ := h
  obtain ⟨w', hrun, hown, hg⟩ := h.update (Maps.int_keyed hk) ht (Nat.lt_of_le_of_lt hm hn) (Maps.keyOf_int_mk hk hx) (plainElem_bool he true)
  obtain ⟨es, clock, hb, _⟩ := h
  refine ⟨w', hrun, ⟨m + 1, _, hown, by simp; omega, ?_, fun y => ?_⟩, hg, _, hb, rfl⟩
  · obtain ⟨es, rfl⟩ := hI
    exact ⟨_, rfl⟩
  · by_cases hy : y = x
    · subst hy
      rw [Maps.atKey_put_same hI (by simp [WideAt.IsKeyLit])]
      simp
    · rw [Maps.atKey_put_other (by intro q; cases q; exact hy rfl), hK y]
      simp [hy]
/-- Tr, beside a map of the call's own. -/
def TrM (γ : Gho) (P : Program) (k e : TypeId) (n : Nat) (b : Nat) (c : Code) (s : St) (ks : List Int) (Q : Exit → St → List Int → Prop) : Prop :=
  ∀ w0 I L a w, Gh γ w0 I.I → Rel w0 I n L s a w → w0.heap.size ≤ b → (∀ x, I.Z x → x < w0.heap.size) → MapAt P k e w b ks →
    c.wp P (fun ex a' w' => ∃ s' L' ks', Q ex s' ks' ∧ Rel w0 I n L' s' a' w' ∧ MapAt P k e w' b ks') a w
variable {b : Nat} {ks : List Int} {s : St} {Q : Exit → St → List Int → Prop}
/-- What does not write the map goes as ever, and may read it. -/
theorem trm_of {c : Code} (h : ∀ o : Obj, (∀ w : World, w.heap[b]? = some o → MapAt P k e w b ks) → Tr (some (b, o)) P n c s (fun ex s' => Q ex s' ks)) : TrM γ P k e n b c s ks Q := by
  intro w0 I L a w hG hr hb hz hm
  obtain ⟨es, clock, ho, hall⟩ := hm.obj
  have hni : b ∉ (I.root L w).I := fun hx => by
    obtain ⟨l, _, c, t, z, hc⟩ := root_mem hx
    rw [ho] at hc
    cases hc
  have h1 := h _ hall w (I.root L w) (L.trim w) a w (fun k' o' e' => by cases e'; exact ⟨ho, hni⟩) hr.root
  refine wp_mono h1 (fun ex a' w' ⟨s', L', hq, hr'⟩ => ⟨s', L', ks, hq, hr.unroot hr', hall w' ?_⟩)
  have hlt := (Array.getElem?_eq_some_iff.1 ho).1
  exact (hr'.same.block b hlt hni).trans ho
theorem trm_wk {c : Code} {s' : St} (hw : Wk n s s') (h : TrM γ P k e n b c s' ks Q) : TrM γ P k e n b c s ks Q := fun w0 I L a w hG hr hb hz hm => by
  obtain ⟨L', h'⟩ := hw w0 I L a w hr
  exact h w0 I L' a w hG h' hb hz hm
theorem trm_skip (h : Q .normal s ks) : TrM γ P k e n b .skip s ks Q := fun _ _ L _ _ _ hr _ _ hm => wp_skip ⟨s, L, ks, h, hr, hm⟩
theorem trm_exit {id : Nat} (h : Q (.exit id) s ks) : TrM γ P k e n b (.exit id) s ks Q := fun _ _ L _ _ _ hr _ _ hm => wp_exit ⟨s, L, ks, h, hr, hm⟩
theorem trm_ret (h : Q .ret s ks) : TrM γ P k e n b .ret s ks Q := fun _ _ L _ _ _ hr _ _ hm => wp_ret ⟨s, L, ks, h, hr, hm⟩
def thnM (next : St → List Int → Prop) (Q : Exit → St → List Int → Prop) : Exit → St → List Int → Prop
  | .normal, s, ks => next s ks
  | e, s, ks => Q e s ks
def inbM (id : Nat) (Q : Exit → St → List Int → Prop) : Exit → St → List Int → Prop
  | .exit id', s, ks => match Nat.beq id' id with
    | true => Q .normal s ks
    | false => Q (.exit id') s ks
  | e, s, ks => Q e s ks
theorem trm_seq {x y : Code} (h : TrM γ P k e n b x s ks (thnM (fun s' ks' => TrM γ P k e n b y s' ks' Q) Q)) : TrM γ P k e n b (.seq x y) s ks Q := fun w0 I L a w hG hr hb hz hm => by
  refine wp_seq (wp_mono (h w0 I L a w hG hr hb hz hm) (fun ex a' w' ⟨s', L', ks', h1, h2, h3⟩ => ?_))
  cases ex with
  | normal => exact h1 w0 I L' a' w' hG h2 hb hz h3
  | _ => exact ⟨s', L', ks', h1, h2, h3⟩
theorem trm_if {c : Operand} {x y : Code} {d : Option Nat} {t : Bool} (hc : s.ev c = .p d (.v (.bool t))) (ht : t = true → TrM γ P k e n b x s ks Q) (hf : t = false → TrM γ P k e n b y s ks Q) : TrM γ P k e n b (.cond c x y) s ks Q := fun w0 I L a w hG hr hb hz hm =>
  wp_cond_split (hr.evv hc) (fun q => ht q w0 I L a w hG hr hb hz hm) (fun q => hf q w0 I L a w hG hr hb hz hm)
theorem trm_block {id : Nat} {c : Code} (h : TrM γ P k e n b c s ks (inbM id Q)) : TrM γ P k e n b (.block id c) s ks Q := fun w0 I L a w hG hr hb hz hm => by
  refine wp_block (wp_mono (h w0 I L a w hG hr hb hz hm) (fun ex a' w' ⟨s', L', ks', h1, h2, h3⟩ => ?_))
  cases ex with
  | exit id' =>
    simp only [Exit.inBlock]
    by_cases hi : id' = id
    · subst hi
      rw [if_pos rfl]
      simp only [inbM, Nat.beq_refl] at h1
      exact ⟨s', L', ks', h1, h2, h3⟩
    · rw [if_neg hi]
      have hbq : Nat.beq id' id = false := by
        cases q : Nat.beq id' id with
        | false => rfl
        | true => exact absurd (Nat.eq_of_beq_eq_true q) hi
      simp only [inbM, hbq] at h1
      exact ⟨s', L', ks', h1, h2, h3⟩
  | _ => exact ⟨s', L', ks', h1, h2, h3⟩
theorem trm_loop {c : Code} (Inv : Nat → St → List Int → Prop) (q : Nat) (h0 : Inv q s ks) (hr : ∀ q s ks, Inv q s ks → TrM γ P k e n b c s ks (thnM (fun s' ks' => ∃ q', q' < q ∧ Inv q' s' ks') Q)) : TrM γ P k e n b (.loop c) s ks Q := by
  intro w0 I L a w hG hrel hb hz hm bb fr cs
  have key : ∀ q s L a w ks, Inv q s ks → Rel w0 I n L s a w → MapAt P k e w b ks → ∃ ex a' w', (∃ s' L' ks', Q ex s' ks' ∧ Rel w0 I n L' s' a' w' ∧ MapAt P k e w' b ks') ∧ Arrives P (lone (bb.at a (.code c :: .inLoop c :: fr)) cs w) bb fr cs ex a' w' := by
    intro q
    induction q using Nat.strongRecOn with
    | _ q ih =>
      intro s L a w ks hI hrel hm
      obtain ⟨ex, a1, w1, ⟨s1, L1, ks1, hq, hrel1, hm1⟩, harr⟩ := hr q s ks hI w0 I L a w hG hrel hb hz hm bb (.inLoop c :: fr) cs
      cases ex with
      | normal =>
        obtain ⟨q', hlt, hI1⟩ := hq
        obtain ⟨e2, a2, w2, hq2, harr2⟩ := ih q' hlt s1 L1 a1 w1 ks1 hI1 hrel1 hm1
        exact ⟨e2, a2, w2, hq2, .of_steps (Steps.trans harr (.one step_inLoop)) harr2⟩
      | exit id => exact ⟨_, a1, w1, ⟨s1, L1, ks1, hq, hrel1, hm1⟩, .pass (x := .inLoop c) rfl (fun _ _ => .inl (by simp)) harr⟩
      | goto l => exact ⟨_, a1, w1, ⟨s1, L1, ks1, hq, hrel1, hm1⟩, .pass (x := .inLoop c) rfl (fun _ _ => .inl (by simp)) harr⟩
      | ret => exact ⟨_, a1, w1, ⟨s1, L1, ks1, hq, hrel1, hm1⟩, .pass (x := .inLoop c) rfl (fun _ _ => .inl (by simp)) harr⟩
      | panic ch => exact ⟨_, a1, w1, ⟨s1, L1, ks1, hq, hrel1, hm1⟩, .pass (x := .inLoop c) rfl (fun _ _ => .inl (by simp)) harr⟩
      | outgrown => exact ⟨_, a1, w1, ⟨s1, L1, ks1, hq, hrel1, hm1⟩, .pass (x := .inLoop c) rfl (fun _ _ => .inl (by simp)) harr⟩
  obtain ⟨ex, a', w', hq, harr⟩ := key q s L a w ks h0 hrel hm
  exact ⟨ex, a', w', hq, .of_steps (.one step_loop) harr⟩
end
end Go.Rl
namespace Go.Rl
open Go.RowKit
section
variable {γ : Gho} {P : Program} {n : Nat} {k e : TypeId} {w0 : World} {I : Fr} {Qm : Exit → Act → World → Prop} {ops : Array Oper}
theorem run_wpK (hG : Gh γ w0 I.I) (hdst : dstsB n ops = true) {s' : St} {rest : List Nat} : ∀ {Fs : List Fp} {l : List Oper} {s : St} (_ : Run γ P n ops Fs l s s') (_ : ∀ L a w, Rel w0 I n L s' a w → wpOps P ops Qm rest a w) (k : Nat), (∀ j o, l[j]? = some o → ops[k + j]? = some o) → ∀ {L : Pl} {a : Act} {w : World}, Rel w0 I n L s a w → wpOps P ops Qm (List.range' k l.length ++ rest) a w := by
  intro Fs l s h
  induction h with
  | nil => intro hQ k _ L a w hr; exact hQ _ _ _ hr
  | run M B hg h _ ih =>
    rename_i o l s s' δ hrun
    intro hQ k hl L a w hr
    have h0 : ops[k]? = some o := by simpa using hl 0 o rfl
    rw [List.length_cons, List.range'_succ, List.cons_append, wpOps_cons]
    exact good_wp hG h0 (dstsB_spec hdst h0) (.run M B hg h (fp_bd ..) (fp_asks ..)) hr (fun L' a' w' hr' => ih hQ (k + 1) (fun j o hj => by have := hl (j + 1) o (by simpa using hj); simpa [Nat.add_assoc, Nat.add_comm 1 j] using this) hr')
  | not hg _ ih =>
    rename_i o l s s' hrun
    intro hQ k hl L a w hr
    have h0 : ops[k]? = some o := by simpa using hl 0 o rfl
    rw [List.length_cons, List.range'_succ, List.cons_append, wpOps_cons]
    exact good_wp (F := default) hG h0 (dstsB_spec hdst h0) (.not hg) hr (fun L' a' w' hr' => ih hQ (k + 1) (fun j o hj => by have := hl (j + 1) o (by simpa using hj); simpa [Nat.add_assoc, Nat.add_comm 1 j] using this) hr')
variable {b : Nat} {ks : List Int}
/-- Operations that leave the map as it is. -/
theorem runM (hdst : dstsB n ops = true) {s s' : St} {rest : List Nat} {Fs : List Fp} {l : List Oper} (h : ∀ o : Obj, (∀ w : World, w.heap[b]? = some o → MapAt P k e w b ks) → Run (some (b, o)) P n ops Fs l s s')
    (kk : Nat) (hl : ∀ j o, l[j]? = some o → ops[kk + j]? = some o) {L : Pl} {a : Act} {w : World} (hr : Rel w0 I n L s a w) (hm : MapAt P k e w b ks)
    (hQ : ∀ L a w, Rel w0 I n L s' a w → MapAt P k e w b ks → wpOps P ops Qm rest a w) : wpOps P ops Qm (List.range' kk l.length ++ rest) a w := by
  obtain ⟨es, clock, ho, hall⟩ := hm.obj
  have hni : b ∉ (I.root L w).I := fun hx => by
    obtain ⟨l, _, c, t, z, hc⟩ := root_mem hx
    rw [ho] at hc
    cases hc
  have hlt := (Array.getElem?_eq_some_iff.1 ho).1
  refine run_wpK (w0 := w) (I := I.root L w) (fun k' o' e' => by cases e'; exact ⟨ho, hni⟩) hdst (h _ hall) (fun L' a' w' hr' => hQ L' a' w' (hr.unroot hr') (hall w' ((hr'.same.block b hlt hni).trans ho))) kk hl hr.root
variable {s : St} {Q : Exit → St → List Int → Prop}
theorem trm_region {id : Nat} {ops : List Oper} {Fs : List Fp} {s' : St} (hd : dstsB n ops.toArray = true) (h : ∀ o : Obj, (∀ w : World, w.heap[b]? = some o → MapAt P k e w b ks) → Run (some (b, o)) P n ops.toArray Fs ops s s') (hq : Q .normal s' ks) : TrM γ P k e n b (.region id ops.toArray false) s ks Q :=
  trm_of fun o ho => tr_region hd (h o ho) hq
theorem trm_regionD {id : Nat} {ops : List Oper} {Fs : List Fp} {s' : St} (hm : P.follows .mixedOrders = true) (hd : dstsB n ops.toArray = true) (h : ∀ o : Obj, (∀ w : World, w.heap[b]? = some o → MapAt P k e w b ks) → Run (some (b, o)) P n ops.toArray Fs ops s s') (hl : lexF ops.toArray Fs ops.length 0 (Array.replicate ops.length false) = true) (hq : Q .normal s' ks) : TrM γ P k e n b (.region id ops.toArray true) s ks Q :=
  trm_of fun o ho => tr_regionD hm hd (h o ho) hl hq
/-- 'm[k]': whether k is among the numbers. -/
theorem st_lookup {ob : Obj} (hall : ∀ w : World, w.heap[b]? = some ob → MapAt P k e w b ks) {o : Oper} {M B : List Nat} {t : TypeId} {xm xk : Operand} (ho : o.op = .lookup t xm xk false) (hk : P.underlying k = some (.int .i64)) (he : P.underlying e = some .bool) (ht : P.underlying t = some (.map k e))
    (hz : ∀ w, (zeroValue e).run P w = .ok (.bool false) w) {d1 d2 : Option Nat} {x : Int} (hm : s.ev xm = .p d1 (.v (.map (some b)))) (hx : s.ev xk = .p d2 (.v (.int .i64 x))) (hw : (Lit.int .i64 x).wf = true) : StepD (some (b, ob)) P n o M B s { put := .p none (.v (.bool (decide (x ∈ ks)))) } := by
  intro s' ag hd w0 I L a w hG hr K Q hK
  have h1 := hr.evv ((ag.ev1 ho (by simp [Op.operands])).trans hm)
  have h2 := hr.evv ((ag.ev1 ho (by simp [Op.operands])).trans hx)
  obtain ⟨g1, g2⟩ := hG b _ rfl
  have hlt := (Array.getElem?_eq_some_iff.1 g1).1
  have hb : w.heap[b]? = some ob := (hr.same.block b hlt g2).trans g1
  have he' : (execOp a.eval o).run P w = .ok (.value (.bool (decide (x ∈ ks)))) w := by
    simp only [execOp, ho, h1, h2, Sem.run_bind, (hall w hb).look hk he ht (hz w) hw]
    rfl
  unfold Oper.wp
  rw [he', Oper.upon_value]
  exact hK L _ w (by
    have := hr.put hd (av := .p none (.v (.bool (decide (x ∈ ks))))) (v := .bool (decide (x ∈ ks))) (by simp only [AVR]; exact ⟨.v _ rfl, fun _ h => by cases h⟩)
    rw [app_put]
    exact this)
/-- A region whose last operation is 'm[k] = true'. -/
theorem trm_regionU {id : Nat} {ops : List Oper} (m : Nat) {o : Oper} {Fs : List Fp} {s' : St} {t : TypeId} {xm xk xv : Operand} {d1 d2 d3 : Option Nat} {x : Int} (hd : dstsB n ops.toArray = true)
    (h : ∀ o : Obj, (∀ w : World, w.heap[b]? = some o → MapAt P k e w b ks) → Run (some (b, o)) P n ops.toArray Fs (ops.take m) s s') (hlen : ops.length = m + 1) (hlast : ops[m]? = some o)
    (ho : o.op = .mapUpdate t xm xk xv) (hg : o.guard = none) (hdst : o.dst = none) (hm : s'.ev xm = .p d1 (.v (.map (some b)))) (hx : s'.ev xk = .p d2 (.v (.int .i64 x))) (hv : s'.ev xv = .p d3 (.v (.bool true)))
    (hk : P.underlying k = some (.int .i64)) (he : P.underlying e = some .bool) (ht : P.underlying t = some (.map k e)) (hw : (Lit.int .i64 x).wf = true) (hn : ks.length < maxLen) (hq : Q .normal s' (ks ++ [x])) : TrM γ P k e n b (.region id ops.toArray false) s ks Q := by
  intro w0 I L a w hG hr hb hz hma
  refine wp_region ?_
  have key := runM (rest := [m]) (Qm := fun ex a' w' => ∃ s' L' ks', Q ex s' ks' ∧ Rel w0 I n L' s' a' w' ∧ MapAt P k e w' b ks') hd h 0 (fun j oj hj => by
      rw [List.getElem?_take] at hj
      split at hj
      · simpa using hj
      · cases hj) hr hma (fun L' a' w' hr' hma' => by
    have h1 := hr'.evv hm
    have h2 := hr'.evv hx
    have h3 := hr'.evv hv
    obtain ⟨w2, hrun, hma2, hgrow, ob, hob, hoc⟩ := hma'.upd hk he ht hw hn
    have he' : (execOp a'.eval o).run P w' = .ok .skip w2 := by
      simp only [execOp, ho, h1, h2, h3, Sem.run_bind, hrun]
      rfl
    rw [wpOps_cons]
    unfold wpOp
    have hlast' : ops.toArray[m]? = some o := by simpa using hlast
    simp only [hlast', Region.wanted, hg, if_true]
    refine .inl ?_
    unfold Oper.wp
    rw [he', Oper.upon_skip, hdst]
    exact ⟨s', L', _, hq, hr'.grown (B := b) hb (fun x hx => Nat.lt_of_lt_of_le (hz x hx) hb) hgrow (fun r hr2 => by cases hr2; exact ⟨Nat.le_refl _, ob, hob, hoc⟩), hma2⟩)
  have e1 : List.range' 0 (ops.take m).length ++ [m] = List.range ops.length := by
    rw [List.length_take, hlen, Nat.min_eq_left (by omega), List.range_eq_range', List.range'_concat]
    simp
  rw [e1] at key
  simpa using key
end
section
variable {γ : Gho} {P : Program} {n : Nat} {k e : TypeId} {s : St}
/-- A region that makes the map first, and what comes behind it. -/
theorem tr_made {Q : Exit → St → Prop} {id : Nat} {o : Oper} {ops : List Oper} {d : Nat} {t : TypeId} {c : Code} (ho : o.op = .makeMap t none) (hdst : o.dst = some d) (hg : o.guard = none) (hd : dstsB n (o :: ops).toArray = true)
    (h : ∀ b : Nat, ∃ Fs s', (∀ ob : Obj, (∀ w : World, w.heap[b]? = some ob → MapAt P k e w b []) → Run (some (b, ob)) P n (o :: ops).toArray Fs ops (s.put (some d) (.p none (.v (.map (some b))))) s') ∧ TrM none P k e n b c s' [] (fun ex s1 _ => Q ex s1)) : Tr γ P n (.seq (.region id (o :: ops).toArray false) c) s Q := by
  intro w0 I L a w hG hr
  obtain ⟨Fs, s', hrun, hc⟩ := h w.heap.size
  have hdn : d < n := dstsB_spec hd (i := 0) (o := o) (by simp) d hdst
  refine wp_seq (wp_region ?_)
  have hr1 : Rel w (I.root L w) n (L.trim w) (s.put (some d) (.p none (.v (.map (some w.heap.size))))) (a.put (some d) (.map (some w.heap.size))) (w.alloc (.map #[] 0)) :=
    (hr.root.grown (B := w.heap.size) (Nat.le_refl _) (fun x hx => (hr.zlt x hx).1) (World.grownBy_alloc w _ none) (fun r hr2 => by cases hr2)).put (by intro x hx; cases hx; exact hdn) (by simp only [AVR]; exact ⟨.v _ rfl, fun _ h => by cases h⟩)
  have key : wpOps P (o :: ops).toArray (Exit.then (c.wp P (fun e a' w' => ∃ s' L', Q e s' ∧ Rel w0 I n L' s' a' w')) (fun e a' w' => ∃ s' L', Q e s' ∧ Rel w0 I n L' s' a' w')) (List.range' 1 ops.length ++ []) (a.put (some d) (.map (some w.heap.size))) (w.alloc (.map #[] 0)) :=
    runM hd hrun 1 (fun j oj hj => by simpa [Nat.add_comm 1 j] using hj) hr1 (MapAt.made w) (fun L' a' w' hr' hma' => by
      refine wp_mono (hc w (I.root L w) L' a' w' (fun _ _ q => nomatch q) hr' (Nat.le_refl _) (fun x hx => (hr.zlt x hx).1) hma') (fun ex a2 w2 ⟨s2, L2, ks2, hq, hr2, _⟩ => ⟨s2, L2, hq, hr.unroot hr2⟩))
  rw [List.append_nil] at key
  have e1 : List.range (o :: ops).toArray.size = 0 :: List.range' 1 ops.length := by
    rw [List.range_eq_range']
    simp [List.range'_succ]
  rw [e1, wpOps_cons]
  unfold wpOp
  have h0 : (o :: ops).toArray[0]? = some o := by simp
  simp only [h0, Region.wanted, hg, if_true]
  refine .inl ?_
  unfold Oper.wp
  have he' : (execOp a.eval o).run P w = .ok (.value (.map (some w.heap.size))) (w.alloc (.map #[] 0)) := by
    simp only [execOp, ho, Option.map_none, Sem.run_bind, run_makeMap]
    rfl
  rw [he', Oper.upon_value, hdst]
  exact key
/-- A loop, its states and its numbers told by a thing of its own. -/
theorem trm_loopS {b : Nat} {ks : List Int} {Q : Exit → St → List Int → Prop} {c : Code} {σ : Type} (KS : σ → List Int) (S : σ → St) (G : σ → Prop) (μ : σ → Nat) (x0 : σ) (h0 : G x0) (hw : Wk n s (S x0)) (hk : ks = KS x0) (round : ∀ x, G x → TrM γ P k e n b c (S x) (KS x) (thnM (fun s' ks' => ∃ x', G x' ∧ μ x' < μ x ∧ Wk n s' (S x') ∧ ks' = KS x') Q)) : TrM γ P k e n b (.loop c) s ks Q := by
  refine trm_loop (fun q s ks => ∃ x, G x ∧ μ x = q ∧ Wk n s (S x) ∧ ks = KS x) (μ x0) ⟨x0, h0, rfl, hw, hk⟩ (fun q s ks hI => ?_)
  obtain ⟨x, hG, rfl, hW, rfl⟩ := hI
  intro w0 I L a w hG2 hr hb hz hm
  refine wp_mono (trm_wk hW (round x hG) w0 I L a w hG2 hr hb hz hm) (fun ex a' w' ⟨s', L', ks', hq, h2⟩ => ⟨s', L', ks', ?_, h2⟩)
  cases ex with
  | normal =>
    obtain ⟨x', h1, h2, h3, h4⟩ := hq
    exact ⟨μ x', h2, x', h1, rfl, h3, h4⟩
  | _ => exact hq
theorem nxtM {σ : Type} {KS : σ → List Int} {S : σ → St} {G : σ → Prop} {μ : σ → Nat} {z : σ} {ks : List Int} {Q : Exit → St → List Int → Prop} (z' : σ) (hk : ks = KS z') (h1 : G z') (h2 : μ z' < μ z) (h3 : Wk n s (S z')) : thnM (fun s' ks' => ∃ x', G x' ∧ μ x' < μ z ∧ Wk n s' (S x') ∧ ks' = KS x') Q .normal s ks := ⟨z', h1, h2, h3, hk⟩
end
end Go.Rl
namespace Go.Rl
open Go.Proofs
theorem en99 : ∀ vs w, (callFunc 99 vs).run Try.prog w = .ok (.enter 99 vs) w := enters Try.func99 (by decide) rfl
theorem en95 : ∀ vs w, (callFunc 95 vs).run Try.prog w = .ok (.enter 95 vs) w := enters Try.func95 (by decide) rfl
theorem zb4 : ∀ w, (zeroValue 4).run Try.prog w = .ok (.bool false) w := fun w => by
  obtain ⟨i, h1, h2, _, _⟩ := info_of inf4
  simp [zeroValue, typeInfo, h1, h2]
set_option maxRecDepth 1000000 in
set_option maxHeartbeats 2000000 in
theorem dbOkc_con (e : Ent) (b : Int) : Con Try.prog 99 [.agg [PV.v (.string e.user), PV.v (.int .i64 e.seq), PV.v (.int .i64 e.kind), PV.v (.string e.value)], .fbox [PV.v (.int .i64 b)]] [] [.one (.v (.bool (belowP1 b e)))] := by
  refine con_of_tr Try.func99 rfl rfl rfl rfl ?_
  refine tr_seq ?_
  refine tr_region rfl (.run [] [2] rfl (st_box rfl 2 rfl rfl (by decide) rfl (by decide)) (.run [] [] rfl (st_assign rfl) .nil)) ?_
  refine tr_seq ?_
  refine tr_region rfl (.run [] [] rfl (st_faddr_box rfl rfl Try.underlying44 rfl Try.sizeOf42 (by decide)) (.run [] [] rfl (st_faddr_box rfl rfl Try.underlying42 rfl Try.sizeOf2 (by decide)) (.run [] [] rfl (st_load_box1 rfl rfl rfl Try.isAgg2 rfl) (.run [] [] rfl (st_load_fea1 rfl rfl Try.isAgg2 rfl) (.run [] [] rfl (st_leq rfl rfl rfl) (.run [] [] rfl (st_assign rfl) .nil)))))) ?_
  refine tr_ret ?_
  exact ends [_] [] (.cons (.tmp rfl) .nil) (.cons (.one .v (.v _)) .nil) (by decide) trivial
set_option maxRecDepth 1000000 in
set_option maxHeartbeats 2000000 in
theorem progDbOk_con (sq : Int) (mem : List Ent) (rs : RunL) (sn : List Int) (hm : mem.length ≤ 2000000) (hl : rs.length ≤ 1000000) (hb : ∀ r ∈ rs, r.2.length ≤ 2000000) (hsn : sn.length ≤ 1000000) : Con Try.prog 42 [.agg [PV.v (.int .i64 sq), PV.sl false 4 (pvE mem), PV.sl false 1 (pvR rs), PV.sl false 1 (pvI sn)]] [] [.one (.v (.bool (okB sq mem rs sn)))] := by
  refine con_of_tr Try.func42 rfl rfl rfl rfl ?_
  have hle := pvR_length rs
  have hlm := pvE_length mem
  have hls := pvI_length sn
  refine tr_seq ?_
  refine tr_region rfl (.run [] [1] rfl (st_box rfl 1 rfl rfl (by decide) rfl (by decide)) (.run [] [] rfl (st_assign rfl) .nil)) ?_
  refine tr_seq ?_
  refine tr_seq ?_
  refine tr_wk (s' := mk [(1, .ptr 1 0)] [(1, [.p none (.v (.int .i64 sq)), .p none (.sl false 4 (pvE mem)), .p none (.sl false 1 (pvR rs)), .p none (.sl false 1 (pvI sn))])] []) ?_ ?_
  · exact wk_mk ⟨rfl, trivial⟩ ⟨rfl, trivial⟩ trivial rfl
  rcases bfc (!(within sq 0 1000000000000)) with h1 | h1
  · have h1' := h1
    replace h1' : (within sq 0 1000000000000) = true := bnot_f h1'
    rcases bfc (!(entsOk mem)) with h2 | h2
    · have h2' := h2
      replace h2' : (entsOk mem) = true := bnot_f h2'
      rcases bfc (!(runsOkF rs)) with h3 | h3
      · have h3' := h3
        replace h3' : (runsOkF rs) = true := bnot_f h3'
        refine tr_region rfl (.run [] [] rfl (st_faddr_box rfl rfl Try.underlying56 rfl Try.sizeOf2 (by decide)) (.run [] [] rfl (st_load_box1 rfl rfl rfl Try.isAgg2 rfl) (.run [1200] [] rfl (st_call rfl 1200 (X := []) en94 rfl (.val nod) (.cons (.one (.bor .v)) (.cons (.one (.bor .v)) (.cons (.one (.bor .v)) .nil))) (by decide) all_nil .nil (within_con sq 0 1000000000000) rfl rfl (nle rfl)) (.run [] [] rfl (st_eq (st_not (b := within sq 0 1000000000000) rfl rfl) (bool_eq h1)) (.run [] [] rfl (st_move rfl) (.run [] [] rfl (st_faddr_box rfl rfl Try.underlying56 rfl Try.sizeOf26 (by decide)) (.run [] [] rfl (st_load_box1 rfl rfl rfl Try.isAgg26 rfl) (.run [1700] [] rfl (st_call rfl 1700 (X := []) en38 rfl (.val nod) (.cons (.one (.bor (.sl nod))) .nil) (by decide) all_nil .nil (entriesOk_con mem (by omega)) rfl rfl (nle rfl)) (.run [] [] rfl (st_eq (st_not (b := entsOk mem) rfl rfl) (bool_eq h2)) (.run [] [] rfl (st_pickF rfl rfl) (.run [] [] rfl (st_move rfl) (.run [] [] rfl (st_faddr_box rfl rfl Try.underlying56 rfl Try.sizeOf54 (by decide)) (.run [] [] rfl (st_load_box1 rfl rfl rfl Try.isAgg54 rfl) (.run [2300] [] rfl (st_call rfl 2300 (X := []) en95 rfl (.val nod) (.cons (.one (.bor (.sl nod))) .nil) (by decide) all_nil .nil (runsOk_con rs (by omega) hb) rfl rfl (nle rfl)) (.run [] [] rfl (st_eq (st_not (b := runsOkF rs) rfl rfl) (bool_eq h3)) (.run [] [] rfl (st_pickF rfl rfl) (.run [] [] rfl (st_move rfl) (.run [] [] rfl (st_faddr_box rfl rfl Try.underlying56 rfl Try.sizeOf23 (by decide)) (.run [] [] rfl (st_load_box1 rfl rfl rfl Try.isAgg23 rfl) (.run [2900] [] rfl (st_call rfl 2900 (X := []) en73 rfl (.val nod) (.cons (.one (.bor (.sl nod))) .nil) (by decide) all_nil .nil (snapsOk_con sn (by omega)) rfl rfl (nle rfl)) (.run [] [] rfl (st_not (b := snapsOk sn) rfl rfl) (.run [] [] rfl (st_pickF rfl rfl) .nil)))))))))))))))))))))) ?_
        refine tr_if (t := (!(snapsOk sn))) rfl (fun h4 => ?_) (fun h4 => ?_)
        · skip
          replace h4 : (snapsOk sn) = false := bnot_t h4
          refine tr_seq ?_
          refine tr_wk (s' := mk [] [] []) ?_ ?_
          · exact wk_mk trivial trivial trivial rfl
          refine tr_region rfl (.run [] [] rfl (st_assign rfl) .nil) ?_
          refine tr_ret ?_
          exact ends [_] [] (.cons (.tmp (bool_eq (okb_base (base_n4 (by simpa using h4))))) .nil) (.cons (.one .v (.v _)) .nil) (by decide) trivial
        · skip
          replace h4 : (snapsOk sn) = true := bnot_f h4
          refine tr_skip ?_
          refine tr_wk (s' := mk [(1, .ptr 1 0)] [(1, [.p none (.v (.int .i64 sq)), .p none (.sl false 4 (pvE mem)), .p none (.sl false 1 (pvR rs)), .p none (.sl false 1 (pvI sn))])] []) ?_ ?_
          · exact wk_mk ⟨rfl, trivial⟩ ⟨rfl, trivial⟩ trivial rfl
          refine tr_made (k := 2) (e := 4) rfl rfl rfl rfl (fun bm => ?_)
          refine ⟨_, _, fun ob hob => (.run [] [3] rfl (st_allocZ rfl 3 inf2 rfl (by decide) rfl (by decide)) (.run [] [] rfl (st_store_box rfl rfl rfl rfl rfl Try.sizeOf2 rfl (nle rfl)) (.run [] [] rfl (st_assign rfl) (.run [] [] rfl (st_assign rfl) .nil)))), ?_⟩
          refine trm_seq ?_
          refine trm_seq ?_
          have hbase : dbBase sq mem rs sn = true := by simp_all [dbBase]
          have hbm := entsOk_len (l := mem) (by assumption)
          have hbr := runs_len (rs := rs) (by assumption)
          have hbs := snaps_len (sn := sn) (by assumption)
          have hev := pvE_length (ents rs)
          refine trm_region rfl (fun ob hob => (.run [] [] rfl (st_faddr_box rfl rfl Try.underlying56 rfl Try.sizeOf54 (by decide)) (.run [] [] rfl (st_load_box1 rfl rfl rfl Try.isAgg54 rfl) (.run [3500] [] rfl (st_call rfl 3500 (X := []) en96 rfl (.val nod) (.cons (.one (.bor (.sl nod))) .nil) (by decide) all_nil .nil (joined_con rs (by omega) (by omega)) rfl rfl (nle rfl)) (.run [] [] rfl (st_len_row rfl rfl Try.underlying26) (.run [] [] rfl (st_move rfl) .nil)))))) ?_
          refine trm_block ?_
          refine trm_loopS (σ := Nat) (fun _ => []) (fun i => mk [(1, .ptr 1 0), (3, .ptr 3 0), (4, .p none (.v (.map (some bm)))), (5, .p none (.v (.int .i64 0))), (35, .sl 3500 0 ((pvE (ents rs)).length)), (36, .p none (.v (.int .i64 ((pvE (ents rs)).length : Int)))), (37, .p none (.v (.int .i64 (i:Int))))] [(1, [.p none (.v (.int .i64 sq)), .p none (.sl false 4 (pvE mem)), .p none (.sl false 1 (pvR rs)), .p none (.sl false 1 (pvI sn))]), (3, [.p none (.v (.int .i64 (belowM ((ents rs).take i))))])] [(3500, 4, pvE (ents rs))]) (fun i => i ≤ (ents rs).length) (fun i => (ents rs).length - i) 0 (by simp) (wk_mk ⟨rfl, ⟨rfl, ⟨rfl, ⟨rfl, ⟨rfl, ⟨rfl, ⟨(int_eq (by omega)), trivial⟩⟩⟩⟩⟩⟩⟩ ⟨rfl, ⟨rfl, trivial⟩⟩ ⟨rfl, trivial⟩ rfl) rfl ?_
          rintro i hG
          replace hG : i ≤ (ents rs).length := hG
          refine trm_seq ?_
          refine trm_region rfl (fun ob hob => (.run [] [] rfl (st_lss rfl rfl rfl) .nil)) ?_
          refine trm_seq ?_
          refine trm_if (t := decide ((i:Int) < ((pvE (ents rs)).length : Int))) rfl (fun h5 => ?_) (fun h5 => ?_)
          · skip
            replace h5 := of_decide_eq_true h5
            refine trm_skip ?_
            refine trm_seq ?_
            refine trm_block ?_
            refine trm_seq ?_
            obtain ⟨e, he⟩ : ∃ e, (ents rs)[i]? = some e := ⟨_, List.getElem?_eq_getElem (by omega)⟩
            refine trm_region rfl (fun ob hob => (.run [] [] rfl (st_idx_row0 i rfl rfl rfl rfl Try.underlying26 Try.sizeOf44 rfl rfl (by omega)) (.run [] [] rfl (st_load_ea rfl rfl rfl (pvE_get he) Try.isAgg44 Try.sizeOf44 (nle rfl)) (.run [] [7] rfl (st_allocZ rfl 7 inf44 rfl (by decide) rfl (by decide)) (.run [] [] rfl (st_store_box rfl rfl rfl rfl rfl Try.sizeOf44 rfl (nle rfl)) .nil))))) ?_
            refine trm_region rfl (fun ob hob => (.run [] [] rfl (st_load_box1 rfl rfl rfl Try.isAgg2 rfl) (.run [] [] rfl (st_faddr_box rfl rfl Try.underlying44 rfl Try.sizeOf42 (by decide)) (.run [] [] rfl (st_faddr_box rfl rfl Try.underlying42 rfl Try.sizeOf2 (by decide)) (.run [] [] rfl (st_load_box1 rfl rfl rfl Try.isAgg2 rfl) (.run [] [] rfl (st_max rfl rfl rfl) (.run [] [] rfl (st_store_box rfl rfl rfl rfl rfl Try.sizeOf2 rfl (nle rfl)) .nil))))))) ?_
            refine trm_region rfl (fun ob hob => (.run [] [] rfl (st_addn rfl rfl rfl (by omega)) (.run [] [] rfl (st_move rfl) .nil))) ?_
            refine nxtM (Q := fun _ _ _ => False) (z := i) (i + 1) (rfl) ?_ ?_ ?_
            · show (i + 1) ≤ (ents rs).length
              omega
            · show (ents rs).length - (i + 1) < (ents rs).length - i
              omega
            · exact wk_mk ⟨rfl, ⟨rfl, ⟨rfl, ⟨rfl, ⟨rfl, ⟨rfl, ⟨(int_eq (by omega)), trivial⟩⟩⟩⟩⟩⟩⟩ ⟨rfl, ⟨(congrArg (fun z => some [AV.p none (.v (.int .i64 z))]) (belowM_step he).symm), trivial⟩⟩ ⟨rfl, trivial⟩ rfl
          · skip
            replace h5 := of_decide_eq_false h5
            refine trm_exit ?_
            refine trm_seq ?_
            refine trm_seq ?_
            have hbl : belowM ((ents rs).take i) = belowM (ents rs) := by rw [List.take_of_length_le (by omega)]
            rw [hbl]
            have htt : (mem ++ ents rs).length = mem.length + (ents rs).length := List.length_append
            have htv := pvE_length (mem ++ ents rs)
            have hta : (pvE mem ++ pvE (ents rs)).length = (mem ++ ents rs).length := by rw [pvE_app, pvE_length]
            refine trm_regionD mixed rfl (fun ob hob => (.run [] [] rfl (st_faddr_box rfl rfl Try.underlying56 rfl Try.sizeOf26 (by decide)) (.run [] [] rfl (st_load_box1 rfl rfl rfl Try.isAgg26 rfl) (.run [4900] [] rfl (st_call rfl 4900 (X := []) en97 rfl (.val nod) (.cons (.one (.bor (.sl nod))) .nil) (by decide) all_nil .nil (cloneE_con mem (by omega)) rfl rfl (nle rfl)) (.run [] [] rfl (st_faddr_box rfl rfl Try.underlying56 rfl Try.sizeOf54 (by decide)) (.run [] [] rfl (st_load_box1 rfl rfl rfl Try.isAgg54 rfl) (.run [5200] [] rfl (st_call rfl 5200 (X := []) en96 rfl (.val nod) (.cons (.one (.bor (.sl nod))) .nil) (by decide) all_nil .nil (joined_con rs (by omega) (by omega)) rfl rfl (nle rfl)) (.run [4900] [] rfl (st_append rfl 4900 (ib := 4900) (len := ((pvE mem) ++ (pvE (ents rs))).length) rfl rfl (.row (len := (pvE mem).length) (xs := pvE mem) rfl rfl (.inl rfl)) (.give (len := (pvE (ents rs)).length) (xs := pvE (ents rs)) rfl rfl) Try.underlying26 (sk Try.underlying26 rfl) inf44 rfl (by decide) (by decide) (by decide) List.length_append (by simp only [maxLen, List.length_append, List.length_map, List.length_cons, List.length_nil, List.length_take, List.length_drop, pvE_length, pvI_length, pvT_length, pvU_length, pvP_length, pvR_length, pvO_length]; omega) (by simp only [maxLen, List.length_append, List.length_map, List.length_cons, List.length_nil, List.length_take, List.length_drop, pvE_length, pvI_length, pvT_length, pvU_length, pvP_length, pvR_length, pvO_length]; omega)) (.run [] [] rfl (st_eq (st_len_row rfl rfl Try.underlying26) ((show (AV.p none (.v (.int .i64 ((pvE mem ++ pvE (ents rs)).length : Int)))) = AV.p none (.v (.int .i64 ((mem ++ ents rs).length : Int))) from int_eq (by omega)))) (.run [] [] rfl (st_move rfl) .nil)))))))))) (by kernel_rfl) ?_
            have hr6 : (pvE mem) ++ (pvE (ents rs)) = pvE (mem ++ ents rs) := by exact pvE_app _ _
            have hp7 : (.sl 4900 0 (((pvE mem) ++ (pvE (ents rs))).length) : AV) = .sl 4900 0 ((pvE (mem ++ ents rs)).length) := by simp only [hr6]
            refine trm_wk (s' := mk [(1, .ptr 1 0), (3, .ptr 3 0), (4, .p none (.v (.map (some bm)))), (5, .p none (.v (.int .i64 0))), (53, .sl 4900 0 ((pvE (mem ++ ents rs)).length)), (54, .p none (.v (.int .i64 ((mem ++ ents rs).length:Int)))), (55, .p none (.v (.int .i64 0)))] [(1, [.p none (.v (.int .i64 sq)), .p none (.sl false 4 (pvE mem)), .p none (.sl false 1 (pvR rs)), .p none (.sl false 1 (pvI sn))]), (3, [.p none (.v (.int .i64 (belowM (ents rs))))])] [(4900, 4, pvE (mem ++ ents rs))]) ?_ ?_
            · exact wk_mk ⟨rfl, ⟨rfl, ⟨rfl, ⟨rfl, ⟨hp7, ⟨rfl, ⟨rfl, trivial⟩⟩⟩⟩⟩⟩⟩ ⟨rfl, ⟨rfl, trivial⟩⟩ ⟨(congrArg (fun x => some (4, x)) hr6), trivial⟩ rfl
            refine trm_block ?_
            refine trm_loopS (σ := Nat) (fun i1 => seqsOf ((mem ++ ents rs).take i1)) (fun i1 => mk [(1, .ptr 1 0), (3, .ptr 3 0), (4, .p none (.v (.map (some bm)))), (5, .p none (.v (.int .i64 (i1:Int)))), (53, .sl 4900 0 ((pvE (mem ++ ents rs)).length)), (54, .p none (.v (.int .i64 ((mem ++ ents rs).length:Int)))), (55, .p none (.v (.int .i64 (i1:Int))))] [(1, [.p none (.v (.int .i64 sq)), .p none (.sl false 4 (pvE mem)), .p none (.sl false 1 (pvR rs)), .p none (.sl false 1 (pvI sn))]), (3, [.p none (.v (.int .i64 (belowM (ents rs))))])] [(4900, 4, pvE (mem ++ ents rs))]) (fun i1 => i1 ≤ (mem ++ ents rs).length ∧ i1 ≤ 400 ∧ Seqs sq (mem ++ ents rs) i1) (fun i1 => (mem ++ ents rs).length - i1) 0 ⟨Nat.zero_le _, Nat.zero_le _, seqs_zero _ _⟩ (wk_mk ⟨rfl, ⟨rfl, ⟨rfl, ⟨(int_eq (by omega)), ⟨rfl, ⟨rfl, ⟨(int_eq (by omega)), trivial⟩⟩⟩⟩⟩⟩⟩ ⟨rfl, ⟨rfl, trivial⟩⟩ ⟨rfl, trivial⟩ rfl) rfl ?_
            rintro i1 hG
            replace hG : i1 ≤ (mem ++ ents rs).length ∧ i1 ≤ 400 ∧ Seqs sq (mem ++ ents rs) i1 := hG
            obtain ⟨hi1, hi4, hS⟩ := hG
            refine trm_seq ?_
            refine trm_region rfl (fun ob hob => (.run [] [] rfl (st_lss rfl rfl rfl) .nil)) ?_
            refine trm_seq ?_
            refine trm_if (t := decide ((i1:Int) < ((mem ++ ents rs).length:Int))) rfl (fun h8 => ?_) (fun h8 => ?_)
            · skip
              replace h8 := of_decide_eq_true h8
              refine trm_skip ?_
              refine trm_seq ?_
              refine trm_block ?_
              refine trm_seq ?_
              obtain ⟨x, hx⟩ : ∃ x, (mem ++ ents rs)[i1]? = some x := ⟨_, List.getElem?_eq_getElem (by omega)⟩
              have hxw := seq_wf (ent_seq (base_ent hbase (List.mem_of_getElem? hx)))
              have hkl : (seqsOf ((mem ++ ents rs).take i1)).length = i1 := by rw [seqsOf_len, List.length_take]; omega
              refine trm_region rfl (fun ob hob => (.run [] [] rfl (st_idx_row0 i1 rfl rfl rfl rfl Try.underlying26 Try.sizeOf44 rfl rfl (by omega)) (.run [] [] rfl (st_load_ea rfl rfl rfl (pvE_get hx) Try.isAgg44 Try.sizeOf44 (nle rfl)) (.run [] [9] rfl (st_allocZ rfl 9 inf44 rfl (by decide) rfl (by decide)) (.run [] [] rfl (st_store_box rfl rfl rfl rfl rfl Try.sizeOf44 rfl (nle rfl)) .nil))))) ?_
              refine trm_seq ?_
              refine trm_seq ?_
              refine trm_region rfl (fun ob hob => (.run [] [] rfl (st_move rfl) (.run [] [] rfl (st_addn rfl rfl rfl (by omega)) (.run [] [] rfl (st_assign rfl) .nil)))) ?_
              refine trm_seq ?_
              refine trm_wk (s' := mk [(1, .ptr 1 0), (3, .ptr 3 0), (4, .p none (.v (.map (some bm)))), (5, .p none (.v (.int .i64 ((i1:Int) + 1)))), (9, .ptr 9 0), (53, .sl 4900 0 ((pvE (mem ++ ents rs)).length)), (54, .p none (.v (.int .i64 ((mem ++ ents rs).length:Int)))), (55, .p none (.v (.int .i64 (i1:Int))))] [(1, [.p none (.v (.int .i64 sq)), .p none (.sl false 4 (pvE mem)), .p none (.sl false 1 (pvR rs)), .p none (.sl false 1 (pvI sn))]), (3, [.p none (.v (.int .i64 (belowM (ents rs))))]), (9, [.p none (.v (.string x.user)), .p none (.v (.int .i64 x.seq)), .p none (.v (.int .i64 x.kind)), .p none (.v (.string x.value))])] [(4900, 4, pvE (mem ++ ents rs))]) ?_ ?_
              · exact wk_mk ⟨rfl, ⟨rfl, ⟨rfl, ⟨rfl, ⟨rfl, ⟨rfl, ⟨rfl, ⟨rfl, trivial⟩⟩⟩⟩⟩⟩⟩⟩ ⟨rfl, ⟨rfl, ⟨rfl, trivial⟩⟩⟩ ⟨rfl, trivial⟩ rfl
              rcases bfc (decide (400 < ((i1:Int) + 1))) with h9 | h9
              · have h9' := h9
                replace h9' := of_decide_eq_false h9'
                rcases bfc (decide (x.seq ∈ seqsOf ((mem ++ ents rs).take i1))) with h10 | h10
                · have h10' := h10
                  replace h10' := of_decide_eq_false h10'
                  refine trm_region rfl (fun ob hob => (.run [] [] rfl (st_move rfl) (.run [] [] rfl (st_eq (st_gtr rfl rfl rfl) (bool_eq h9)) (.run [] [] rfl (st_move rfl) (.run [] [] rfl (st_move rfl) (.run [] [] rfl (st_faddr_box rfl rfl Try.underlying44 rfl Try.sizeOf42 (by decide)) (.run [] [] rfl (st_faddr_box rfl rfl Try.underlying42 rfl Try.sizeOf2 (by decide)) (.run [] [] rfl (st_load_box1 rfl rfl rfl Try.isAgg2 rfl) (.run [] [] rfl (st_eq (st_lookup hob rfl Try.underlying2 Try.underlying4 Try.underlying111 zb4 rfl rfl hxw) (bool_eq h10)) (.run [] [] rfl (st_pickF rfl rfl) (.run [] [] rfl (st_move rfl) (.run [] [] rfl (st_faddr_box rfl rfl Try.underlying44 rfl Try.sizeOf42 (by decide)) (.run [] [] rfl (st_faddr_box rfl rfl Try.underlying42 rfl Try.sizeOf2 (by decide)) (.run [] [] rfl (st_load_box1 rfl rfl rfl Try.isAgg2 rfl) (.run [] [] rfl (st_faddr_box rfl rfl Try.underlying56 rfl Try.sizeOf2 (by decide)) (.run [] [] rfl (st_load_box1 rfl rfl rfl Try.isAgg2 rfl) (.run [] [] rfl (st_gtr rfl rfl rfl) (.run [] [] rfl (st_pickF rfl rfl) .nil)))))))))))))))))) ?_
                  refine trm_if (t := decide (sq < x.seq)) rfl (fun h11 => ?_) (fun h11 => ?_)
                  · skip
                    replace h11 := of_decide_eq_true h11
                    refine trm_seq ?_
                    refine trm_wk (s' := mk [] [] []) ?_ ?_
                    · exact wk_mk trivial trivial trivial rfl
                    refine trm_region rfl (fun ob hob => (.run [] [] rfl (st_assign rfl) .nil)) ?_
                    refine trm_ret ?_
                    exact ends [_] [] (.cons (.tmp (bool_eq (okb_no (ok_big hx h11)))) .nil) (.cons (.one .v (.v _)) .nil) (by decide) trivial
                  · skip
                    replace h11 := of_decide_eq_false h11
                    refine trm_skip ?_
                    refine trm_wk (s' := mk [(1, .ptr 1 0), (3, .ptr 3 0), (4, .p none (.v (.map (some bm)))), (5, .p none (.v (.int .i64 ((i1:Int) + 1)))), (9, .ptr 9 0), (53, .sl 4900 0 ((pvE (mem ++ ents rs)).length)), (54, .p none (.v (.int .i64 ((mem ++ ents rs).length:Int)))), (55, .p none (.v (.int .i64 (i1:Int)))), (64, .p none (.v (.map (some bm)))), (65, .ptr 9 0), (66, .ptr 9 1), (67, .p none (.v (.int .i64 x.seq))), (68, .p none (.v (.bool false))), (71, .ptr 9 0), (72, .ptr 9 1), (73, .p none (.v (.int .i64 x.seq))), (74, .ptr 1 0), (75, .p none (.v (.int .i64 sq))), (76, .p none (.v (.bool (decide (sq < x.seq)))))] [(1, [.p none (.v (.int .i64 sq)), .p none (.sl false 4 (pvE mem)), .p none (.sl false 1 (pvR rs)), .p none (.sl false 1 (pvI sn))]), (3, [.p none (.v (.int .i64 (belowM (ents rs))))]), (9, [.p none (.v (.string x.user)), .p none (.v (.int .i64 x.seq)), .p none (.v (.int .i64 x.kind)), .p none (.v (.string x.value))])] [(4900, 4, pvE (mem ++ ents rs))]) ?_ ?_
                    · exact wk_mk ⟨rfl, ⟨rfl, ⟨rfl, ⟨rfl, ⟨rfl, ⟨rfl, ⟨rfl, ⟨rfl, ⟨rfl, ⟨rfl, ⟨rfl, ⟨rfl, ⟨rfl, ⟨rfl, ⟨rfl, ⟨rfl, ⟨rfl, ⟨rfl, ⟨rfl, trivial⟩⟩⟩⟩⟩⟩⟩⟩⟩⟩⟩⟩⟩⟩⟩⟩⟩⟩⟩ ⟨rfl, ⟨rfl, ⟨rfl, trivial⟩⟩⟩ ⟨rfl, trivial⟩ rfl
                    refine trm_regionU 4 rfl (fun ob hob => (.run [] [] rfl (st_move rfl) (.run [] [] rfl (st_faddr_box rfl rfl Try.underlying44 rfl Try.sizeOf42 (by decide)) (.run [] [] rfl (st_faddr_box rfl rfl Try.underlying42 rfl Try.sizeOf2 (by decide)) (.run [] [] rfl (st_load_box1 rfl rfl rfl Try.isAgg2 rfl) .nil))))) rfl rfl rfl rfl rfl rfl rfl rfl Try.underlying2 Try.underlying4 Try.underlying111 hxw (by rw [hkl]; simp only [maxLen]; omega) ?_
                    refine trm_region rfl (fun ob hob => (.run [] [] rfl (st_addn rfl rfl rfl (by omega)) (.run [] [] rfl (st_move rfl) .nil))) ?_
                    refine nxtM (Q := fun _ _ _ => False) (z := i1) (i1 + 1) (seqsOf_take hx) ?_ ?_ ?_
                    · show (i1 + 1) ≤ (mem ++ ents rs).length ∧ (i1 + 1) ≤ 400 ∧ Seqs sq (mem ++ ents rs) (i1 + 1)
                      exact ⟨by omega, by omega, seqs_step hS hx h11 (not_met h10')⟩
                    · show (mem ++ ents rs).length - (i1 + 1) < (mem ++ ents rs).length - i1
                      omega
                    · exact wk_mk ⟨rfl, ⟨rfl, ⟨rfl, ⟨(int_eq (by omega)), ⟨rfl, ⟨rfl, ⟨(int_eq (by omega)), trivial⟩⟩⟩⟩⟩⟩⟩ ⟨rfl, ⟨rfl, trivial⟩⟩ ⟨rfl, trivial⟩ rfl
                · have h10' := h10
                  replace h10' := of_decide_eq_true h10'
                  refine trm_region rfl (fun ob hob => (.run [] [] rfl (st_move rfl) (.run [] [] rfl (st_eq (st_gtr rfl rfl rfl) (bool_eq h9)) (.run [] [] rfl (st_move rfl) (.run [] [] rfl (st_move rfl) (.run [] [] rfl (st_faddr_box rfl rfl Try.underlying44 rfl Try.sizeOf42 (by decide)) (.run [] [] rfl (st_faddr_box rfl rfl Try.underlying42 rfl Try.sizeOf2 (by decide)) (.run [] [] rfl (st_load_box1 rfl rfl rfl Try.isAgg2 rfl) (.run [] [] rfl (st_eq (st_lookup hob rfl Try.underlying2 Try.underlying4 Try.underlying111 zb4 rfl rfl hxw) (bool_eq h10)) (.run [] [] rfl (st_pickF rfl rfl) (.run [] [] rfl (st_move rfl) (.not rfl (.not rfl (.not rfl (.not rfl (.not rfl (.not rfl (.run [] [] rfl (st_pickT rfl rfl) .nil)))))))))))))))))) ?_
                  refine trm_if (t := true) rfl (fun _ => ?_) (fun h => nomatch h)
                  refine trm_seq ?_
                  refine trm_wk (s' := mk [] [] []) ?_ ?_
                  · exact wk_mk trivial trivial trivial rfl
                  refine trm_region rfl (fun ob hob => (.run [] [] rfl (st_assign rfl) .nil)) ?_
                  refine trm_ret ?_
                  exact ends [_] [] (.cons (.tmp (bool_eq (okb_no (ok_met hx h10')))) .nil) (.cons (.one .v (.v _)) .nil) (by decide) trivial
              · have h9' := h9
                replace h9' := of_decide_eq_true h9'
                refine trm_region rfl (fun ob hob => (.run [] [] rfl (st_move rfl) (.run [] [] rfl (st_eq (st_gtr rfl rfl rfl) (bool_eq h9)) (.run [] [] rfl (st_move rfl) (.not rfl (.not rfl (.not rfl (.not rfl (.not rfl (.run [] [] rfl (st_pickT rfl rfl) (.run [] [] rfl (st_move rfl) (.not rfl (.not rfl (.not rfl (.not rfl (.not rfl (.not rfl (.run [] [] rfl (st_pickT rfl rfl) .nil)))))))))))))))))) ?_
                refine trm_if (t := true) rfl (fun _ => ?_) (fun h => nomatch h)
                refine trm_seq ?_
                refine trm_wk (s' := mk [] [] []) ?_ ?_
                · exact wk_mk trivial trivial trivial rfl
                refine trm_region rfl (fun ob hob => (.run [] [] rfl (st_assign rfl) .nil)) ?_
                refine trm_ret ?_
                exact ends [_] [] (.cons (.tmp (bool_eq (okb_no (fun q => by have := q.few; omega)))) .nil) (.cons (.one .v (.v _)) .nil) (by decide) trivial
            · skip
              replace h8 := of_decide_eq_false h8
              refine trm_exit ?_
              refine trm_seq ?_
              refine trm_seq ?_
              have htl : (mem ++ ents rs).length ≤ 400 := (by omega)
              have hS : Seqs sq (mem ++ ents rs) (mem ++ ents rs).length := (fun j x hj hx => hS j x (by omega) hx)
              refine trm_region rfl (fun ob hob => (.run [] [] rfl (st_faddr_box rfl rfl Try.underlying56 rfl Try.sizeOf26 (by decide)) (.run [] [] rfl (st_load_box1 rfl rfl rfl Try.isAgg26 rfl) (.run [] [] rfl (st_func (bs := [3]) rfl rfl) (.run [8600] [3] rfl (st_call rfl 8600 (X := []) en98 rfl (.val nod) (.cons (.one (.bor (.sl nod))) (.cons (.one (.bor (.clo (.cons rfl (.cons .v .nil) .nil)))) .nil)) (by decide) all_nil .nil (containsFuncE_con mem (by omega) 99 [[.v (.int .i64 (belowM (ents rs)))]] (belowP1 (belowM (ents rs))) en99 (fun x _ => dbOkc_con x (belowM (ents rs)))) rfl rfl (nle rfl)) .nil))))) ?_
              refine trm_if (t := decide (0 ≤ idxF (belowP1 (belowM (ents rs))) mem)) rfl (fun h12 => ?_) (fun h12 => ?_)
              · skip
                replace h12 := of_decide_eq_true h12
                refine trm_seq ?_
                refine trm_region rfl (fun ob hob => (.run [] [] rfl (st_assign rfl) .nil)) ?_
                refine trm_ret ?_
                exact ends [_] [] (.cons (.tmp (bool_eq (okb_no (fun q => by have := q.mem; omega)))) .nil) (.cons (.one .v (.v _)) .nil) (by decide) trivial
              · skip
                replace h12 := of_decide_eq_false h12
                refine trm_skip ?_
                refine trm_seq ?_
                rcases Nat.eq_zero_or_pos sn.length with hz | hz
                · skip
                  refine trm_wk (s' := mk [(1, .ptr 1 0)] [(1, [.p none (.v (.int .i64 sq)), .p none (.sl false 4 (pvE mem)), .p none (.sl false 1 (pvR rs)), .p none (.sl false 1 (pvI sn))])] []) ?_ ?_
                  · exact wk_mk ⟨rfl, trivial⟩ ⟨rfl, trivial⟩ trivial rfl
                  rcases bfc (decide (((pvI sn).length : Int) = 0)) with h13 | h13
                  · have h13' := h13
                    replace h13' := of_decide_eq_false h13'
                    omega
                  · have h13' := h13
                    replace h13' := of_decide_eq_true h13'
                    refine trm_regionD mixed rfl (fun ob hob => (.run [] [] rfl (st_faddr_box rfl rfl Try.underlying56 rfl Try.sizeOf23 (by decide)) (.run [] [] rfl (st_load_box1 rfl rfl rfl Try.isAgg23 rfl) (.run [] [] rfl (st_len_fro rfl rfl Try.underlying23) (.run [] [] rfl (st_eq (st_eql rfl rfl rfl) (bool_eq h13)) (.run [] [] rfl (st_move rfl) (.not rfl (.not rfl (.not rfl (.not rfl (.not rfl (.not rfl (.not rfl (.not rfl (.not rfl (.not rfl (.not rfl (.run [] [] rfl (st_pickT rfl rfl) (.run [] [] rfl (st_assign rfl) .nil))))))))))))))))))) (by kernel_rfl) ?_
                    refine trm_ret ?_
                    exact ends [_] [] (.cons (.tmp (bool_eq (okb_none hbase htl hS h12 (by omega)))) .nil) (.cons (.one .v (.v _)) .nil) (by decide) trivial
                · skip
                  obtain ⟨x, hx⟩ : ∃ x, sn[sn.length - 1]? = some x := ⟨_, List.getElem?_eq_getElem (by omega)⟩
                  refine trm_wk (s' := mk [(1, .ptr 1 0)] [(1, [.p none (.v (.int .i64 sq)), .p none (.sl false 4 (pvE mem)), .p none (.sl false 1 (pvR rs)), .p none (.sl false 1 (pvI sn))])] []) ?_ ?_
                  · exact wk_mk ⟨rfl, trivial⟩ ⟨rfl, trivial⟩ trivial rfl
                  rcases bfc (decide (((pvI sn).length : Int) = 0)) with h14 | h14
                  · have h14' := h14
                    replace h14' := of_decide_eq_false h14'
                    refine trm_regionD mixed rfl (fun ob hob => (.run [] [] rfl (st_faddr_box rfl rfl Try.underlying56 rfl Try.sizeOf23 (by decide)) (.run [] [] rfl (st_load_box1 rfl rfl rfl Try.isAgg23 rfl) (.run [] [] rfl (st_len_fro rfl rfl Try.underlying23) (.run [] [] rfl (st_eq (st_eql rfl rfl rfl) (bool_eq h14)) (.run [] [] rfl (st_move rfl) (.run [] [] rfl (st_faddr_box rfl rfl Try.underlying56 rfl Try.sizeOf23 (by decide)) (.run [] [] rfl (st_load_box1 rfl rfl rfl Try.isAgg23 rfl) (.run [] [] rfl (st_faddr_box rfl rfl Try.underlying56 rfl Try.sizeOf23 (by decide)) (.run [] [] rfl (st_load_box1 rfl rfl rfl Try.isAgg23 rfl) (.run [] [] rfl (st_len_fro rfl rfl Try.underlying23) (.run [] [] rfl (st_eq (st_subn rfl rfl rfl (by omega)) ((show (AV.p none (.v (.int .i64 (((pvI sn).length : Int) - 1)))) = AV.p none (.v (.int .i64 ((sn.length - 1 : Nat) : Int))) from int_eq (by omega)))) (.run [] [] rfl (st_idx_fro rfl rfl rfl Try.underlying23 Try.sizeOf2 rfl (by omega) (pvI_get hx)) (.run [] [] rfl (st_load_fea1 rfl rfl Try.isAgg2 rfl) (.run [] [] rfl (st_faddr_box rfl rfl Try.underlying56 rfl Try.sizeOf2 (by decide)) (.run [] [] rfl (st_load_box1 rfl rfl rfl Try.isAgg2 rfl) (.run [] [] rfl (st_leq rfl rfl rfl) (.run [] [] rfl (st_pickF rfl rfl) (.run [] [] rfl (st_assign rfl) .nil))))))))))))))))))) (by kernel_rfl) ?_
                    refine trm_ret ?_
                    exact ends [_] [] (.cons (.tmp (bool_eq (okb_last hbase htl hS h12 hx))) .nil) (.cons (.one .v (.v _)) .nil) (by decide) trivial
                  · have h14' := h14
                    replace h14' := of_decide_eq_true h14'
                    omega
      · have h3' := h3
        replace h3' : (runsOkF rs) = false := bnot_t h3'
        refine tr_region rfl (.run [] [] rfl (st_faddr_box rfl rfl Try.underlying56 rfl Try.sizeOf2 (by decide)) (.run [] [] rfl (st_load_box1 rfl rfl rfl Try.isAgg2 rfl) (.run [1200] [] rfl (st_call rfl 1200 (X := []) en94 rfl (.val nod) (.cons (.one (.bor .v)) (.cons (.one (.bor .v)) (.cons (.one (.bor .v)) .nil))) (by decide) all_nil .nil (within_con sq 0 1000000000000) rfl rfl (nle rfl)) (.run [] [] rfl (st_eq (st_not (b := within sq 0 1000000000000) rfl rfl) (bool_eq h1)) (.run [] [] rfl (st_move rfl) (.run [] [] rfl (st_faddr_box rfl rfl Try.underlying56 rfl Try.sizeOf26 (by decide)) (.run [] [] rfl (st_load_box1 rfl rfl rfl Try.isAgg26 rfl) (.run [1700] [] rfl (st_call rfl 1700 (X := []) en38 rfl (.val nod) (.cons (.one (.bor (.sl nod))) .nil) (by decide) all_nil .nil (entriesOk_con mem (by omega)) rfl rfl (nle rfl)) (.run [] [] rfl (st_eq (st_not (b := entsOk mem) rfl rfl) (bool_eq h2)) (.run [] [] rfl (st_pickF rfl rfl) (.run [] [] rfl (st_move rfl) (.run [] [] rfl (st_faddr_box rfl rfl Try.underlying56 rfl Try.sizeOf54 (by decide)) (.run [] [] rfl (st_load_box1 rfl rfl rfl Try.isAgg54 rfl) (.run [2300] [] rfl (st_call rfl 2300 (X := []) en95 rfl (.val nod) (.cons (.one (.bor (.sl nod))) .nil) (by decide) all_nil .nil (runsOk_con rs (by omega) hb) rfl rfl (nle rfl)) (.run [] [] rfl (st_eq (st_not (b := runsOkF rs) rfl rfl) (bool_eq h3)) (.run [] [] rfl (st_pickF rfl rfl) (.run [] [] rfl (st_move rfl) (.not rfl (.not rfl (.not rfl (.not rfl (.run [] [] rfl (st_pickT rfl rfl) .nil)))))))))))))))))))))) ?_
        refine tr_if (t := true) rfl (fun _ => ?_) (fun h => nomatch h)
        refine tr_seq ?_
        refine tr_wk (s' := mk [] [] []) ?_ ?_
        · exact wk_mk trivial trivial trivial rfl
        refine tr_region rfl (.run [] [] rfl (st_assign rfl) .nil) ?_
        refine tr_ret ?_
        exact ends [_] [] (.cons (.tmp (bool_eq (okb_base (base_n3 (by simpa using h3))))) .nil) (.cons (.one .v (.v _)) .nil) (by decide) trivial
    · have h2' := h2
      replace h2' : (entsOk mem) = false := bnot_t h2'
      refine tr_region rfl (.run [] [] rfl (st_faddr_box rfl rfl Try.underlying56 rfl Try.sizeOf2 (by decide)) (.run [] [] rfl (st_load_box1 rfl rfl rfl Try.isAgg2 rfl) (.run [1200] [] rfl (st_call rfl 1200 (X := []) en94 rfl (.val nod) (.cons (.one (.bor .v)) (.cons (.one (.bor .v)) (.cons (.one (.bor .v)) .nil))) (by decide) all_nil .nil (within_con sq 0 1000000000000) rfl rfl (nle rfl)) (.run [] [] rfl (st_eq (st_not (b := within sq 0 1000000000000) rfl rfl) (bool_eq h1)) (.run [] [] rfl (st_move rfl) (.run [] [] rfl (st_faddr_box rfl rfl Try.underlying56 rfl Try.sizeOf26 (by decide)) (.run [] [] rfl (st_load_box1 rfl rfl rfl Try.isAgg26 rfl) (.run [1700] [] rfl (st_call rfl 1700 (X := []) en38 rfl (.val nod) (.cons (.one (.bor (.sl nod))) .nil) (by decide) all_nil .nil (entriesOk_con mem (by omega)) rfl rfl (nle rfl)) (.run [] [] rfl (st_eq (st_not (b := entsOk mem) rfl rfl) (bool_eq h2)) (.run [] [] rfl (st_pickF rfl rfl) (.run [] [] rfl (st_move rfl) (.not rfl (.not rfl (.not rfl (.not rfl (.run [] [] rfl (st_pickT rfl rfl) (.run [] [] rfl (st_move rfl) (.not rfl (.not rfl (.not rfl (.not rfl (.run [] [] rfl (st_pickT rfl rfl) .nil)))))))))))))))))))))) ?_
      refine tr_if (t := true) rfl (fun _ => ?_) (fun h => nomatch h)
      refine tr_seq ?_
      refine tr_wk (s' := mk [] [] []) ?_ ?_
      · exact wk_mk trivial trivial trivial rfl
      refine tr_region rfl (.run [] [] rfl (st_assign rfl) .nil) ?_
      refine tr_ret ?_
      exact ends [_] [] (.cons (.tmp (bool_eq (okb_base (base_n2 (by simpa using h2))))) .nil) (.cons (.one .v (.v _)) .nil) (by decide) trivial
  · have h1' := h1
    replace h1' : (within sq 0 1000000000000) = false := bnot_t h1'
    refine tr_region rfl (.run [] [] rfl (st_faddr_box rfl rfl Try.underlying56 rfl Try.sizeOf2 (by decide)) (.run [] [] rfl (st_load_box1 rfl rfl rfl Try.isAgg2 rfl) (.run [1200] [] rfl (st_call rfl 1200 (X := []) en94 rfl (.val nod) (.cons (.one (.bor .v)) (.cons (.one (.bor .v)) (.cons (.one (.bor .v)) .nil))) (by decide) all_nil .nil (within_con sq 0 1000000000000) rfl rfl (nle rfl)) (.run [] [] rfl (st_eq (st_not (b := within sq 0 1000000000000) rfl rfl) (bool_eq h1)) (.run [] [] rfl (st_move rfl) (.not rfl (.not rfl (.not rfl (.not rfl (.run [] [] rfl (st_pickT rfl rfl) (.run [] [] rfl (st_move rfl) (.not rfl (.not rfl (.not rfl (.not rfl (.run [] [] rfl (st_pickT rfl rfl) (.run [] [] rfl (st_move rfl) (.not rfl (.not rfl (.not rfl (.not rfl (.run [] [] rfl (st_pickT rfl rfl) .nil)))))))))))))))))))))) ?_
    refine tr_if (t := true) rfl (fun _ => ?_) (fun h => nomatch h)
    refine tr_seq ?_
    refine tr_wk (s' := mk [] [] []) ?_ ?_
    · exact wk_mk trivial trivial trivial rfl
    refine tr_region rfl (.run [] [] rfl (st_assign rfl) .nil) ?_
    refine tr_ret ?_
    exact ends [_] [] (.cons (.tmp (bool_eq (okb_base (base_n1 (by simpa using h1))))) .nil) (.cons (.one .v (.v _)) .nil) (by decide) trivial
end Go.Rl
namespace Go.Rl
def totI (d : Eng) : List Ent := d.mem ++ ents (tagT d.runs)
def allI (d : Eng) : List Ent := isort cmpK (totI d)
noncomputable def okI (d : Eng) : Bool := okB d.seq d.mem (tagT d.runs) d.snaps
def askI (d : Eng) (a : Int) : Int := if a = -1 then d.seq else a
theorem base_small {d : Eng} (hb : dbBase d.seq d.mem (tagT d.runs) d.snaps = true) : Small d := by
  simp only [dbBase, Bool.and_eq_true, within, decide_eq_true_eq] at hb
  obtain ⟨h1, h2, h3, h4⟩ := hb
  have r := runs_len h3
  rw [tag_len, ents_tag] at r
  exact ⟨entsOk_len h2, r.1, r.2, snaps_len h4, h1⟩
theorem okI_small {d : Eng} (h : okB d.seq d.mem (tagT d.runs) d.snaps = true) : Small d := base_small (okb_of h).1
theorem seqs_dist {sq : Int} {l : List Ent} (h : Seqs sq l l.length) : l.Pairwise (fun x y => x.seq ≠ y.seq) :=
  List.pairwise_iff_getElem.2 fun i j hi hj hij => (h j _ hj (List.getElem?_eq_getElem hj)).2 i _ hij (List.getElem?_eq_getElem hi)
theorem seqs_of {sq : Int} {l : List Ent} (h1 : l.Pairwise (fun x y => x.seq ≠ y.seq)) (h2 : ∀ e ∈ l, e.seq ≤ sq) : Seqs sq l l.length := fun j x _ hx =>
  ⟨h2 x (List.mem_of_getElem? hx), fun k y hk hy => by
    have := List.pairwise_iff_getElem.1 h1 k j (List.getElem?_eq_some_iff.1 hy).1 (List.getElem?_eq_some_iff.1 hx).1 hk
    rw [(List.getElem?_eq_some_iff.1 hx).2, (List.getElem?_eq_some_iff.1 hy).2] at this
    exact this⟩
theorem seqs_le {sq : Int} {l : List Ent} (h : Seqs sq l l.length) : ∀ e ∈ l, e.seq ≤ sq := fun e he => by
  obtain ⟨i, hi⟩ := List.getElem?_of_mem he
  exact (h i e (List.getElem?_eq_some_iff.1 hi).1 hi).1
theorem ok_dist {sq : Int} {mem : List Ent} {rs : RunL} {sn : List Int} (h : okB sq mem rs sn = true) : Dist cmpK (mem ++ ents rs) := dist_seqs (seqs_dist (okb_of h).2.seqs)
theorem tot_len {d : Eng} (h : okB d.seq d.mem (tagT d.runs) d.snaps = true) : (totI d).length ≤ 400 := (okb_of h).2.few
theorem all_len {d : Eng} (h : okB d.seq d.mem (tagT d.runs) d.snaps = true) : (allI d).length ≤ 400 := by rw [allI, isort_len]; exact tot_len h
noncomputable def getI (d : Eng) (u : ByteArray) (a : Int) : Int × ByteArray := if okI d = true then (if askOk d a = true then getE (allI d) u (askI d a) else (3, ⟨#[]⟩)) else (3, ⟨#[]⟩)
def boundF (f t : ByteArray) (l : List Pr) : List Pr := l.filter (fun x => !outP f t x)
noncomputable def scanI (d : Eng) (a : Int) (f t : ByteArray) : List Pr × Int := if okI d = true then (if askOk d a = true then (boundF f t (visF (allI d) (askI d a)), 0) else ([], 4)) else ([], 1)
noncomputable def writeI (d : Eng) (ops : List Bop) : Eng × Int := if okI d = true then (if batchOkF (d.seq + 1) ops = false then (d, 2) else if 400 < (totI d).length + ops.length then (d, 3) else (⟨d.seq + (ops.length : Int), isort cmpK (d.mem ++ batchE (d.seq + 1) ops), d.runs, d.snaps⟩, 0)) else (Eng.nil, 1)
variable {d : Eng} {u f t : ByteArray} {a : Int} {ops : List Bop}
theorem no_ok (h : okB d.seq d.mem (tagT d.runs) d.snaps = false) : ¬ okI d = true := fun q => by rw [okI, h] at q; cases q
theorem scan_w (h : okB d.seq d.mem (tagT d.runs) d.snaps = false) : scanI d a f t = ([], 1) := if_neg (no_ok h)
theorem scan_n (h : okB d.seq d.mem (tagT d.runs) d.snaps = true) (h1 : askOk d a = false) : scanI d a f t = ([], 4) := by rw [scanI, if_pos (show okI d = true from h), if_neg (by rw [h1]; decide)]
theorem scan_y (h : okB d.seq d.mem (tagT d.runs) d.snaps = true) (h1 : askOk d a = true) : scanI d a f t = (boundF f t (visF (allI d) (askI d a)), 0) := by rw [scanI, if_pos (show okI d = true from h), if_pos h1]
theorem writei_w (h : okB d.seq d.mem (tagT d.runs) d.snaps = false) : writeI d ops = (Eng.nil, 1) := if_neg (no_ok h)
theorem writei_b (h : okB d.seq d.mem (tagT d.runs) d.snaps = true) (h1 : batchOkF (d.seq + 1) ops = false) : writeI d ops = (d, 2) := by rw [writeI, if_pos (show okI d = true from h), if_pos h1]
theorem writei_f (h : okB d.seq d.mem (tagT d.runs) d.snaps = true) (h1 : batchOkF (d.seq + 1) ops = true) (h2 : 400 < (totI d).length + ops.length) : writeI d ops = (d, 3) := by rw [writeI, if_pos (show okI d = true from h), if_neg (by rw [h1]; decide), if_pos h2]
theorem writei_y (h : okB d.seq d.mem (tagT d.runs) d.snaps = true) (h1 : batchOkF (d.seq + 1) ops = true) (h2 : ¬ 400 < (totI d).length + ops.length) : writeI d ops = (⟨d.seq + (ops.length : Int), isort cmpK (d.mem ++ batchE (d.seq + 1) ops), d.runs, d.snaps⟩, 0) := by rw [writeI, if_pos (show okI d = true from h), if_neg (by rw [h1]; decide), if_neg h2]
theorem totI_len (d : Eng) : (totI d).length = d.mem.length + (ents (tagT d.runs)).length := by rw [totI, List.length_append]
/-- The numbers of a batch. -/
theorem batch_pw (s : Int) (ops : List Bop) : (batchE s ops).Pairwise (fun x y => x.seq ≠ y.seq) :=
  List.pairwise_iff_getElem.2 fun i j hi hj hij => by
    simp only [batchE, List.getElem_mapIdx, bent]
    omega
theorem batch_ge {s : Int} {ops : List Bop} {e : Ent} (he : e ∈ batchE s ops) : s ≤ e.seq ∧ e.seq < s + ops.length := by
  obtain ⟨i, hi⟩ := List.getElem?_of_mem he
  obtain ⟨hlt, hx⟩ := List.getElem?_eq_some_iff.1 hi
  rw [batchE_len] at hlt
  rw [← hx]
  simp only [batchE, List.getElem_mapIdx, bent]
  omega
theorem write_pw (h : okB d.seq d.mem (tagT d.runs) d.snaps = true) : (d.mem ++ batchE (d.seq + 1) ops).Pairwise (fun x y => x.seq ≠ y.seq) := by
  have h1 := (okb_of h).2.seqs
  have h2 := seqs_dist h1
  have h3 := seqs_le h1
  refine List.pairwise_append.2 ⟨(List.pairwise_append.1 h2).1, batch_pw _ _, fun x hx y hy => ?_⟩
  have := batch_ge hy
  have := h3 x (List.mem_append_left _ hx)
  omega
theorem write_dist (h : okB d.seq d.mem (tagT d.runs) d.snaps = true) : Dist cmpK (d.mem ++ batchE (d.seq + 1) ops) := dist_seqs (write_pw h)
end Go.Rl
namespace Go.Rl
open Go.Proofs
theorem en42 : ∀ vs w, (callFunc 42 vs).run Try.prog w = .ok (.enter 42 vs) w := enters Try.func42 (by decide) rfl
theorem en110 : ∀ vs w, (callFunc 110 vs).run Try.prog w = .ok (.enter 110 vs) w := enters Try.func110 (by decide) rfl
theorem en112 : ∀ vs w, (callFunc 112 vs).run Try.prog w = .ok (.enter 112 vs) w := enters Try.func112 (by decide) rfl
theorem en125 : ∀ vs w, (callFunc 125 vs).run Try.prog w = .ok (.enter 125 vs) w := enters Try.func125 (by decide) rfl
theorem en102 : ∀ vs w, (callFunc 102 vs).run Try.prog w = .ok (.enter 102 vs) w := enters Try.func102 (by decide) rfl
theorem en119 : ∀ vs w, (callFunc 119 vs).run Try.prog w = .ok (.enter 119 vs) w := enters Try.func119 (by decide) rfl
theorem progDbOk_d (d : Eng) (h : EB d) : Con Try.prog 42 [.agg [.v (.int .i64 d.seq), .sl false 4 (pvE d.mem), .sl false 1 (pvR (tagT d.runs)), .sl false 1 (pvI d.snaps)]] [] [.one (.v (.bool (okB d.seq d.mem (tagT d.runs) d.snaps)))] := progDbOk_con d.seq d.mem (tagT d.runs) d.snaps h.mem h.tag h.b h.snaps
theorem copied_d (d : Eng) (h : Small d) : Con Try.prog 102 [.agg [.v (.int .i64 d.seq), .sl false 4 (pvE d.mem), .sl false 1 (pvR (tagT d.runs)), .sl false 1 (pvI d.snaps)]] [] [.agg [.v (.int .i64 d.seq), .sl true 4 (pvE d.mem), .sl true 1 (pvR (tagT d.runs)), .sl true 1 (pvI d.snaps)]] := by
  have q := copied_con d.seq d.mem (tagT d.runs) d.snaps (by rw [ents_tag]; have := h.mem; have := h.ents; omega) h.eb.tag h.eb.snaps
  rwa [own_tag] at q
theorem dbAll_d (d : Eng) (h : okB d.seq d.mem (tagT d.runs) d.snaps = true) : Con Try.prog 112 [.agg [.v (.int .i64 d.seq), .sl false 4 (pvE d.mem), .sl false 1 (pvR (tagT d.runs)), .sl false 1 (pvI d.snaps)]] [] [.one (.sl true 4 (pvE (allI d)))] := dbAll_con d.seq d.mem (tagT d.runs) d.snaps (by have := (okI_small h).mem; have := (okI_small h).ents; rw [ents_tag]; omega) (okI_small h).eb.tag (okI_small h).eb.snaps (ok_dist h)
theorem asOf_d (d : Eng) (a : Int) (h : d.snaps.length ≤ 2000000) : Con Try.prog 110 [.agg [.v (.int .i64 d.seq), .sl false 4 (pvE d.mem), .sl false 1 (pvR (tagT d.runs)), .sl false 1 (pvI d.snaps)], .one (.v (.int .i64 a))] [] [.one (.v (.int .i64 (askI d a))), .one (.v (.bool (askOk d a)))] := asOf_con d.seq d.mem (tagT d.runs) d.snaps a h
theorem joined_d (d : Eng) (h : Small d) : Con Try.prog 96 [.one (PV.sl false 1 (pvR (tagT d.runs)))] [] [.one (.sl true 4 (pvE (ents (tagT d.runs))))] := joined_con (tagT d.runs) (by rw [ents_tag]; have := h.ents; omega) (by rw [tag_len]; have := h.runs; omega)
theorem ordered_app (a b : List Ent) (hl : (a ++ b).length ≤ 2000000) (hd : Dist cmpK (a ++ b)) : Con Try.prog 120 [.one (PV.sl false 4 (pvE a ++ pvE b))] [] [.one (.sl true 4 (pvE (isort cmpK (a ++ b))))] := by
  rw [pvE_app]
  exact ordered_con (a ++ b) hl hd
set_option maxRecDepth 1000000 in
set_option maxHeartbeats 2000000 in
theorem scanI_con (d : Eng) (hD : EB d) (a : Int) (f t : ByteArray) : Con Try.prog 61 [.agg [PV.v (.int .i64 d.seq), PV.sl false 4 (pvE d.mem), PV.sl false 1 (pvR (tagT d.runs)), PV.sl false 1 (pvI d.snaps)], .one (PV.v (.int .i64 a)), .one (PV.v (.string f)), .one (PV.v (.string t))] [] [.one (.sl true 2 (pvP (scanI d a f t).1)), .one (.v (.int .i64 ((scanI d a f t).2)))] := by
  refine con_of_tr Try.func61 rfl rfl rfl rfl ?_
  have hl1 := pvE_length d.mem
  have hl2 := pvR_length (tagT d.runs)
  have hl3 := pvI_length d.snaps
  have hl4 := tag_len d.runs
  refine tr_seq ?_
  refine tr_region rfl (.run [] [4] rfl (st_box rfl 4 rfl rfl (by decide) rfl (by decide)) (.run [] [] rfl (st_assign rfl) (.run [] [] rfl (st_assign rfl) .nil))) ?_
  refine tr_seq ?_
  refine tr_seq ?_
  refine tr_region rfl (.run [] [] rfl (st_load_box rfl rfl rfl Try.isAgg56 Try.sizeOf56 (nle rfl)) (.run [1300] [] rfl (st_call rfl 1300 (X := []) en42 rfl (.val nod) (.cons (.agg (.cons (.bor .v) (.cons (.bor (.sl nod)) (.cons (.bor (.sl nod)) (.cons (.bor (.sl nod)) .nil))))) .nil) (by decide) all_nil .nil (progDbOk_d d hD) rfl rfl (nle rfl)) (.run [] [] rfl (st_not (b := okB d.seq d.mem (tagT d.runs) d.snaps) rfl rfl) .nil))) ?_
  refine tr_if (t := (!(okB d.seq d.mem (tagT d.runs) d.snaps))) rfl (fun h1 => ?_) (fun h1 => ?_)
  · skip
    replace h1 : (okB d.seq d.mem (tagT d.runs) d.snaps) = false := bnot_t h1
    refine tr_seq ?_
    have hw : okB d.seq d.mem (tagT d.runs) d.snaps = false := by simpa using h1
    rw [scan_w hw]
    refine tr_region rfl (.run [] [] rfl (st_assign rfl) (.run [] [] rfl (st_assign rfl) .nil)) ?_
    refine tr_ret ?_
    exact ends [_, _] [] (.cons (.tmp rfl) (.cons (.tmp rfl) .nil)) (.cons (.one (.nil _) (.sl _ _ (fun _ h => nomatch h))) (.cons (.one .v (.v _)) .nil)) (by decide) trivial
  · skip
    replace h1 : (okB d.seq d.mem (tagT d.runs) d.snaps) = true := bnot_f h1
    refine tr_skip ?_
    refine tr_seq ?_
    have hok : okB d.seq d.mem (tagT d.runs) d.snaps = true := by simpa using h1
    have hsm := okI_small hok
    have hm1 := hsm.mem
    have hm2 := hsm.runs
    have hm3 := hsm.snaps
    have hm4 := hsm.seq
    have hal := all_len hok
    have hav := pvE_length (allI d)
    refine tr_region rfl (.run [] [] rfl (st_load_box rfl rfl rfl Try.isAgg56 Try.sizeOf56 (nle rfl)) (.run [] [] rfl (st_move rfl) (.run [1800, 1801] [] rfl (st_call rfl 1800 (X := []) en110 rfl (.val nod) (.cons (.agg (.cons (.bor .v) (.cons (.bor (.sl nod)) (.cons (.bor (.sl nod)) (.cons (.bor (.sl nod)) .nil))))) (.cons (.one (.bor .v)) .nil)) (by decide) all_nil .nil (asOf_d d a (by omega)) rfl rfl (nle rfl)) (.run [] [] rfl (st_move rfl) (.run [] [] rfl (st_extract rfl rfl rfl) (.run [] [] rfl (st_extract rfl rfl rfl) (.run [] [] rfl (st_assign rfl) (.run [] [] rfl (st_assign rfl) .nil)))))))) ?_
    refine tr_seq ?_
    refine tr_seq ?_
    refine tr_region rfl (.run [] [] rfl (st_move rfl) (.run [] [] rfl (st_not (b := askOk d a) rfl rfl) .nil)) ?_
    refine tr_if (t := (!(askOk d a))) rfl (fun h2 => ?_) (fun h2 => ?_)
    · skip
      replace h2 : (askOk d a) = false := bnot_t h2
      refine tr_seq ?_
      have hak : askOk d a = false := by simpa using h2
      rw [scan_n hok hak]
      refine tr_wk (s' := mk [] [] []) ?_ ?_
      · exact wk_mk trivial trivial trivial rfl
      refine tr_region rfl (.run [] [] rfl (st_assign rfl) (.run [] [] rfl (st_assign rfl) .nil)) ?_
      refine tr_ret ?_
      exact ends [_, _] [] (.cons (.tmp rfl) (.cons (.tmp rfl) .nil)) (.cons (.one (.nil _) (.sl _ _ (fun _ h => nomatch h))) (.cons (.one .v (.v _)) .nil)) (by decide) trivial
    · skip
      replace h2 : (askOk d a) = true := bnot_f h2
      refine tr_skip ?_
      refine tr_seq ?_
      have hak : askOk d a = true := by simpa using h2
      rw [scan_y hok hak]
      have hul := users_len (allI d)
      have hvl := visN_len (allI d) (askI d a) (usersF (allI d))
      rw [← visF] at hvl
      refine tr_wk (s' := mk [(2, .p none (.v (.string f))), (3, .p none (.v (.string t))), (4, .ptr 4 0), (10, .p none (.v (.int .i64 (askI d a))))] [(4, [.p none (.v (.int .i64 d.seq)), .p none (.sl false 4 (pvE d.mem)), .p none (.sl false 1 (pvR (tagT d.runs))), .p none (.sl false 1 (pvI d.snaps))])] []) ?_ ?_
      · exact wk_mk ⟨rfl, ⟨rfl, ⟨rfl, ⟨rfl, trivial⟩⟩⟩⟩ ⟨rfl, trivial⟩ trivial rfl
      refine tr_region rfl (.run [] [] rfl (st_load_box rfl rfl rfl Try.isAgg56 Try.sizeOf56 (nle rfl)) (.run [2400] [] rfl (st_call rfl 2400 (X := []) en112 rfl (.val nod) (.cons (.agg (.cons (.bor .v) (.cons (.bor (.sl nod)) (.cons (.bor (.sl nod)) (.cons (.bor (.sl nod)) .nil))))) .nil) (by decide) all_nil .nil (dbAll_d d hok) rfl rfl (nle rfl)) (.run [] [] rfl (st_move rfl) (.run [2400, 2600] [] rfl (st_call rfl 2600 (X := []) en86 rfl (.val nod) (.cons (.one (.bor (.all (len := (pvE (allI d)).length) (xs := pvE (allI d)) rfl rfl (by decide)))) (.cons (.one (.bor .v)) .nil)) (by decide) all_nil .nil (visible_con (allI d) (askI d a) (by omega)) rfl rfl (nle rfl)) (.run [] [] rfl (st_move rfl) (.run [] [] rfl (st_move rfl) (.run [2600, 2900] [] rfl (st_call rfl 2900 (X := [2600]) en125 rfl (.val nod) (.cons (.one (.own (len := (pvP (visF (allI d) (askI d a))).length) (xs := pvP (visF (allI d) (askI d a))) rfl rfl)) (.cons (.one (.bor .v)) (.cons (.one (.bor .v)) .nil))) (by decide) (all_cons rfl all_nil) (.gone .nil) (bounded_con (visF (allI d) (askI d a)) f t (by omega)) rfl rfl (nle rfl)) (.run [] [] rfl (st_assign rfl) (.run [] [] rfl (st_assign rfl) .nil))))))))) ?_
      refine tr_ret ?_
      exact ends [_, _] [2900] (.cons (.tmp rfl) (.cons (.tmp rfl) .nil)) (.cons (.one (.row (len := (pvP (boundF f t (visF (allI d) (askI d a)))).length) (xs := pvP (boundF f t (visF (allI d) (askI d a)))) rfl rfl) (.sl _ _ (FlatP.clean (pvP_flat _)))) (.cons (.one .v (.v _)) .nil)) (by decide) trivial
set_option maxRecDepth 1000000 in
set_option maxHeartbeats 2000000 in
theorem writeI_con (d : Eng) (hD : EB d) (ops : List Bop) (ho : ops.length ≤ 2000000) : Con Try.prog 57 [.agg [PV.v (.int .i64 d.seq), PV.sl false 4 (pvE d.mem), PV.sl false 1 (pvR (tagT d.runs)), PV.sl false 1 (pvI d.snaps)], .one (PV.sl false 3 (pvO ops))] [] [.agg [.v (.int .i64 ((writeI d ops).1.seq)), .sl true 4 (pvE ((writeI d ops).1.mem)), .sl true 1 (pvR (tagT (writeI d ops).1.runs)), .sl true 1 (pvI ((writeI d ops).1.snaps))], .one (.v (.int .i64 ((writeI d ops).2)))] := by
  refine con_of_tr Try.func57 rfl rfl rfl rfl ?_
  have hl1 := pvE_length d.mem
  have hl2 := pvR_length (tagT d.runs)
  have hl3 := pvI_length d.snaps
  have hl4 := tag_len d.runs
  have hlo := pvO_length ops
  refine tr_seq ?_
  refine tr_region rfl (.run [] [2] rfl (st_box rfl 2 rfl rfl (by decide) rfl (by decide)) (.run [] [4] rfl (st_allocZ rfl 4 inf56 rfl (by decide) rfl (by decide)) (.run [] [] rfl (st_assign rfl) .nil))) ?_
  refine tr_seq ?_
  refine tr_seq ?_
  refine tr_region rfl (.run [] [] rfl (st_load_box rfl rfl rfl Try.isAgg56 Try.sizeOf56 (nle rfl)) (.run [900] [] rfl (st_call rfl 900 (X := []) en42 rfl (.val nod) (.cons (.agg (.cons (.bor .v) (.cons (.bor (.sl nod)) (.cons (.bor (.sl nod)) (.cons (.bor (.sl nod)) .nil))))) .nil) (by decide) all_nil .nil (progDbOk_d d hD) rfl rfl (nle rfl)) (.run [] [] rfl (st_not (b := okB d.seq d.mem (tagT d.runs) d.snaps) rfl rfl) .nil))) ?_
  refine tr_if (t := (!(okB d.seq d.mem (tagT d.runs) d.snaps))) rfl (fun h1 => ?_) (fun h1 => ?_)
  · skip
    replace h1 : (okB d.seq d.mem (tagT d.runs) d.snaps) = false := bnot_t h1
    refine tr_seq ?_
    have hw : okB d.seq d.mem (tagT d.runs) d.snaps = false := by simpa using h1
    rw [writei_w hw]
    refine tr_region rfl (.run [] [] rfl (st_build (pl := [(0, 1), (1, 1), (2, 1), (3, 1)]) rfl Try.underlying56 inf56 (by kernel_rfl) rfl rfl) (.run [] [] rfl (st_store_box rfl rfl rfl rfl rfl Try.sizeOf56 rfl (nle rfl)) (.run [] [] rfl (st_assign rfl) .nil))) ?_
    refine tr_ret ?_
    exact ends [_, _] [] (.cons (.cell rfl rfl Try.isAgg56 Try.sizeOf56 (nle rfl)) (.cons (.tmp rfl) .nil)) (.cons (.agg (.cons .v (.cons (.nil _) (.cons (.nil _) (.cons (.nil _) .nil)))) (cl_cons (.v _) (cl_cons (.sl _ _ (fun _ h => nomatch h)) (cl_cons (.sl _ _ (fun _ h => nomatch h)) (cl_cons (.sl _ _ (fun _ h => nomatch h)) cl_nil))))) (.cons (.one .v (.v _)) .nil)) (by decide) trivial
  · skip
    replace h1 : (okB d.seq d.mem (tagT d.runs) d.snaps) = true := bnot_f h1
    refine tr_skip ?_
    refine tr_seq ?_
    have hok : okB d.seq d.mem (tagT d.runs) d.snaps = true := by simpa using h1
    have hsm := okI_small hok
    have hm1 := hsm.mem
    have hm2 := hsm.runs
    have hm3 := hsm.snaps
    have hm4 := hsm.seq
    have hal := all_len hok
    have hav := pvE_length (allI d)
    have hvj := pvE_length (ents (tagT d.runs))
    have htl := totI_len d
    have htf := tot_len hok
    refine tr_wk (s' := mk [(1, .p none (.sl false 3 (pvO ops))), (2, .ptr 2 0), (4, .ptr 4 0)] [(2, [.p none (.v (.int .i64 d.seq)), .p none (.sl false 4 (pvE d.mem)), .p none (.sl false 1 (pvR (tagT d.runs))), .p none (.sl false 1 (pvI d.snaps))]), (4, [.p none (.v (.int .i64 0)), .nils, .nils, .nils])] []) ?_ ?_
    · exact wk_mk ⟨rfl, ⟨rfl, ⟨rfl, trivial⟩⟩⟩ ⟨rfl, ⟨rfl, trivial⟩⟩ trivial rfl
    refine tr_regionD mixed rfl (.run [] [] rfl (st_load_box rfl rfl rfl Try.isAgg56 Try.sizeOf56 (nle rfl)) (.run [1300, 1301, 1302, 1303] [] rfl (st_call rfl 1300 (X := []) en102 rfl (.val nod) (.cons (.agg (.cons (.bor .v) (.cons (.bor (.sl nod)) (.cons (.bor (.sl nod)) (.cons (.bor (.sl nod)) .nil))))) .nil) (by decide) all_nil .nil (copied_d d hsm) rfl rfl (nle rfl)) (.run [] [] rfl (st_faddr_box rfl rfl Try.underlying56 rfl Try.sizeOf2 (by decide)) (.run [] [] rfl (st_load_box1 rfl rfl rfl Try.isAgg2 rfl) (.run [] [] rfl (st_addn rfl rfl rfl (by omega)) (.run [] [] rfl (st_move rfl) (.run [] [] rfl (st_build (pl := [(0, 1), (1, 1)]) rfl Try.underlying132 inf132 (by kernel_rfl) rfl rfl) (.run [] [6] rfl (st_allocZ rfl 6 inf56 rfl (by decide) rfl (by decide)) (.run [] [7] rfl (st_allocZ rfl 7 inf132 rfl (by decide) rfl (by decide)) (.run [] [] rfl (st_store_box rfl rfl rfl rfl rfl Try.sizeOf56 rfl (nle rfl)) (.run [] [] rfl (st_store_box rfl rfl rfl rfl rfl Try.sizeOf132 rfl (nle rfl)) .nil))))))))))) (by kernel_rfl) ?_
    refine tr_seq ?_
    refine tr_block ?_
    refine tr_seq ?_
    refine tr_region rfl (.run [] [] rfl (st_load_box rfl rfl rfl Try.isAgg132 Try.sizeOf132 (nle rfl)) (.run [2100] [] rfl (st_call rfl 2100 (X := []) en119 rfl (.val nod) (.cons (.agg (.cons (.bor .v) (.cons (.bor (.sl nod)) .nil))) .nil) (by decide) all_nil .nil (batchOk_con (d.seq + 1) ops ho) rfl rfl (nle rfl)) (.run [] [] rfl (st_not (b := batchOkF (d.seq + 1) ops) rfl rfl) (.run [] [] rfl (st_assign rfl) .nil)))) ?_
    refine tr_if (t := (!(batchOkF (d.seq + 1) ops))) rfl (fun h2 => ?_) (fun h2 => ?_)
    · skip
      replace h2 : (batchOkF (d.seq + 1) ops) = false := bnot_t h2
      refine tr_seq ?_
      rw [writei_b hok (by simpa using h2)]
      refine tr_wk (s' := mk [(4, .ptr 4 0), (6, .ptr 6 0)] [(4, [.p none (.v (.int .i64 0)), .nils, .nils, .nils]), (6, [.p none (.v (.int .i64 d.seq)), .sl 1301 0 ((pvE d.mem).length), .sl 1302 0 ((pvR (tagT d.runs)).length), .sl 1303 0 ((pvI d.snaps).length)])] [(1301, 4, pvE d.mem), (1302, 1, pvR (tagT d.runs)), (1303, 1, pvI d.snaps)]) ?_ ?_
      · exact wk_mk ⟨rfl, ⟨rfl, trivial⟩⟩ ⟨rfl, ⟨rfl, trivial⟩⟩ ⟨rfl, ⟨rfl, ⟨rfl, trivial⟩⟩⟩ rfl
      refine tr_region rfl (.run [] [] rfl (st_load_box rfl rfl rfl Try.isAgg56 Try.sizeOf56 (nle rfl)) (.run [] [] rfl (st_store_box rfl rfl rfl rfl rfl Try.sizeOf56 rfl (nle rfl)) (.run [] [] rfl (st_assign rfl) .nil))) ?_
      refine tr_ret ?_
      exact ends [_, _] [1301, 1302, 1303] (.cons (.cell rfl rfl Try.isAgg56 Try.sizeOf56 (nle rfl)) (.cons (.tmp rfl) .nil)) (.cons (.agg (.cons .v (.cons (.row (len := (pvE d.mem).length) (xs := pvE d.mem) rfl rfl) (.cons (.row (len := (pvR (tagT d.runs)).length) (xs := pvR (tagT d.runs)) rfl rfl) (.cons (.row (len := (pvI d.snaps).length) (xs := pvI d.snaps) rfl rfl) .nil)))) (cl_cons (.v _) (cl_cons (.sl _ _ (FlatP.clean (pvE_flat _))) (cl_cons (pvR_tag_clean _) (cl_cons (.sl _ _ (FlatP.clean (pvI_flat _))) cl_nil))))) (.cons (.one .v (.v _)) .nil)) (by decide) trivial
    · skip
      replace h2 : (batchOkF (d.seq + 1) ops) = true := bnot_f h2
      refine tr_seq ?_
      have hbo : batchOkF (d.seq + 1) ops = true := by simpa using h2
      have hs := batch_seq hbo
      have hn20 := batch_len hbo
      refine tr_wk (s' := mk [(1, .p none (.sl false 3 (pvO ops))), (2, .ptr 2 0), (4, .ptr 4 0), (6, .ptr 6 0), (7, .ptr 7 0)] [(2, [.p none (.v (.int .i64 d.seq)), .p none (.sl false 4 (pvE d.mem)), .p none (.sl false 1 (pvR (tagT d.runs))), .p none (.sl false 1 (pvI d.snaps))]), (4, [.p none (.v (.int .i64 0)), .nils, .nils, .nils]), (6, [.p none (.v (.int .i64 d.seq)), .sl 1301 0 ((pvE d.mem).length), .sl 1302 0 ((pvR (tagT d.runs)).length), .sl 1303 0 ((pvI d.snaps).length)]), (7, [.p none (.v (.int .i64 (d.seq + 1))), .p none (.sl false 3 (pvO ops))])] [(1301, 4, pvE d.mem), (1302, 1, pvR (tagT d.runs)), (1303, 1, pvI d.snaps)]) ?_ ?_
      · exact wk_mk ⟨rfl, ⟨rfl, ⟨rfl, ⟨rfl, ⟨rfl, trivial⟩⟩⟩⟩⟩ ⟨rfl, ⟨rfl, ⟨rfl, ⟨rfl, trivial⟩⟩⟩⟩ ⟨rfl, ⟨rfl, ⟨rfl, trivial⟩⟩⟩ rfl
      refine tr_regionD mixed rfl (.run [] [] rfl (st_faddr_box rfl rfl Try.underlying56 rfl Try.sizeOf26 (by decide)) (.run [] [] rfl (st_load_box1 rfl rfl rfl Try.isAgg26 rfl) (.run [] [] rfl (st_len_fro rfl rfl Try.underlying26) (.run [] [] rfl (st_faddr_box rfl rfl Try.underlying56 rfl Try.sizeOf54 (by decide)) (.run [] [] rfl (st_load_box1 rfl rfl rfl Try.isAgg54 rfl) (.run [3000] [] rfl (st_call rfl 3000 (X := []) en96 rfl (.val nod) (.cons (.one (.bor (.sl nod))) .nil) (by decide) all_nil .nil (joined_d d hsm) rfl rfl (nle rfl)) (.run [] [] rfl (st_len_row rfl rfl Try.underlying26) (.run [] [] rfl (st_addn rfl rfl rfl (by omega)) (.run [] [] rfl (st_move rfl) (.run [] [] rfl (st_len_fro rfl rfl Try.underlying73) (.run [] [] rfl (st_addn rfl rfl rfl (by omega)) (.run [] [] rfl (st_gtr rfl rfl rfl) (.run [] [] rfl (st_assign rfl) .nil))))))))))))) (by kernel_rfl) ?_
      refine tr_if (t := decide (400 < ((((pvE d.mem).length : Int) + ((pvE (ents (tagT d.runs))).length : Int)) + ((pvO ops).length : Int)))) rfl (fun h3 => ?_) (fun h3 => ?_)
      · skip
        replace h3 := of_decide_eq_true h3
        refine tr_seq ?_
        rw [writei_f hok hbo (by omega)]
        refine tr_region rfl (.run [] [] rfl (st_load_box rfl rfl rfl Try.isAgg56 Try.sizeOf56 (nle rfl)) (.run [] [] rfl (st_store_box rfl rfl rfl rfl rfl Try.sizeOf56 rfl (nle rfl)) (.run [] [] rfl (st_assign rfl) .nil))) ?_
        refine tr_ret ?_
        exact ends [_, _] [1301, 1302, 1303] (.cons (.cell rfl rfl Try.isAgg56 Try.sizeOf56 (nle rfl)) (.cons (.tmp rfl) .nil)) (.cons (.agg (.cons .v (.cons (.row (len := (pvE d.mem).length) (xs := pvE d.mem) rfl rfl) (.cons (.row (len := (pvR (tagT d.runs)).length) (xs := pvR (tagT d.runs)) rfl rfl) (.cons (.row (len := (pvI d.snaps).length) (xs := pvI d.snaps) rfl rfl) .nil)))) (cl_cons (.v _) (cl_cons (.sl _ _ (FlatP.clean (pvE_flat _))) (cl_cons (pvR_tag_clean _) (cl_cons (.sl _ _ (FlatP.clean (pvI_flat _))) cl_nil))))) (.cons (.one .v (.v _)) .nil)) (by decide) trivial
      · skip
        replace h3 := of_decide_eq_false h3
        refine tr_skip ?_
        refine tr_seq ?_
        rw [writei_y hok hbo (by omega)]
        have hbl := batchE_len (d.seq + 1) ops
        have hbv := pvE_length (batchE (d.seq + 1) ops)
        refine tr_wk (s' := mk [(1, .p none (.sl false 3 (pvO ops))), (4, .ptr 4 0), (6, .ptr 6 0), (7, .ptr 7 0)] [(4, [.p none (.v (.int .i64 0)), .nils, .nils, .nils]), (6, [.p none (.v (.int .i64 d.seq)), .sl 1301 0 ((pvE d.mem).length), .sl 1302 0 ((pvR (tagT d.runs)).length), .sl 1303 0 ((pvI d.snaps).length)]), (7, [.p none (.v (.int .i64 (d.seq + 1))), .p none (.sl false 3 (pvO ops))])] [(1301, 4, pvE d.mem), (1302, 1, pvR (tagT d.runs)), (1303, 1, pvI d.snaps)]) ?_ ?_
        · exact wk_mk ⟨rfl, ⟨rfl, ⟨rfl, ⟨rfl, trivial⟩⟩⟩⟩ ⟨rfl, ⟨rfl, ⟨rfl, trivial⟩⟩⟩ ⟨rfl, ⟨rfl, ⟨rfl, trivial⟩⟩⟩ rfl
        refine tr_regionD mixed rfl (.run [] [] rfl (st_faddr_box rfl rfl Try.underlying56 rfl Try.sizeOf26 (by decide)) (.run [] [] rfl (st_load_box1 rfl rfl rfl Try.isAgg26 rfl) (.run [] [] rfl (st_load_box rfl rfl rfl Try.isAgg132 Try.sizeOf132 (nle rfl)) (.run [4100] [] rfl (st_call rfl 4100 (X := []) en121 rfl (.val nod) (.cons (.agg (.cons (.bor .v) (.cons (.bor (.sl nod)) .nil))) .nil) (by decide) all_nil .nil (batchEntries_con (d.seq + 1) ops (by omega) hs) rfl rfl (nle rfl)) (.run [1301] [] rfl (st_append rfl 1301 (ib := 1301) (len := ((pvE d.mem) ++ (pvE (batchE (d.seq + 1) ops))).length) rfl rfl (.row (len := (pvE d.mem).length) (xs := pvE d.mem) rfl rfl (.inl rfl)) (.give (len := (pvE (batchE (d.seq + 1) ops)).length) (xs := pvE (batchE (d.seq + 1) ops)) rfl rfl) Try.underlying26 (sk Try.underlying26 rfl) inf44 rfl (by decide) (by decide) (by decide) List.length_append (by simp only [maxLen, List.length_append, List.length_map, List.length_cons, List.length_nil, List.length_take, List.length_drop, pvE_length, pvI_length, pvT_length, pvU_length, pvP_length, pvR_length, pvO_length]; omega) (by simp only [maxLen, List.length_append, List.length_map, List.length_cons, List.length_nil, List.length_take, List.length_drop, pvE_length, pvI_length, pvT_length, pvU_length, pvP_length, pvR_length, pvO_length]; omega)) (.run [1301, 4300] [] rfl (st_call rfl 4300 (X := []) en120 rfl (.val nod) (.cons (.one (.bor (.all (len := ((pvE d.mem) ++ (pvE (batchE (d.seq + 1) ops))).length) (xs := (pvE d.mem) ++ (pvE (batchE (d.seq + 1) ops))) rfl rfl (by decide)))) .nil) (by decide) all_nil .nil (ordered_app d.mem (batchE (d.seq + 1) ops) (by rw [List.length_append]; omega) (write_dist hok)) rfl rfl (nle rfl)) (.run [] [] rfl (st_faddr_box rfl rfl Try.underlying56 rfl Try.sizeOf26 (by decide)) (.run [] [] rfl (st_store_box rfl rfl rfl rfl rfl Try.sizeOf26 rfl (nle rfl)) .nil)))))))) (by kernel_rfl) ?_
        refine tr_seq ?_
        refine tr_region rfl (.run [] [] rfl (st_faddr_box rfl rfl Try.underlying56 rfl Try.sizeOf2 (by decide)) (.run [] [] rfl (st_load_box1 rfl rfl rfl Try.isAgg2 rfl) (.run [] [] rfl (st_move rfl) (.run [] [] rfl (st_len_fro rfl rfl Try.underlying73) (.run [] [] rfl (st_eq (st_addn rfl rfl rfl (by omega)) ((show (AV.p none (.v (.int .i64 (d.seq + ((pvO ops).length : Int))))) = AV.p none (.v (.int .i64 (d.seq + (ops.length : Int)))) from int_eq (by omega)))) (.run [] [] rfl (st_faddr_box rfl rfl Try.underlying56 rfl Try.sizeOf2 (by decide)) (.run [] [] rfl (st_store_box rfl rfl rfl rfl rfl Try.sizeOf2 rfl (nle rfl)) .nil))))))) ?_
        refine tr_seq ?_
        refine tr_wk (s' := mk [(4, .ptr 4 0), (6, .ptr 6 0)] [(4, [.p none (.v (.int .i64 0)), .nils, .nils, .nils]), (6, [.p none (.v (.int .i64 (d.seq + (ops.length : Int)))), .sl 4300 0 ((pvE (isort cmpK (d.mem ++ batchE (d.seq + 1) ops))).length), .sl 1302 0 ((pvR (tagT d.runs)).length), .sl 1303 0 ((pvI d.snaps).length)])] [(1302, 1, pvR (tagT d.runs)), (1303, 1, pvI d.snaps), (4300, 4, pvE (isort cmpK (d.mem ++ batchE (d.seq + 1) ops)))]) ?_ ?_
        · exact wk_mk ⟨rfl, ⟨rfl, trivial⟩⟩ ⟨rfl, ⟨rfl, trivial⟩⟩ ⟨rfl, ⟨rfl, ⟨rfl, trivial⟩⟩⟩ rfl
        refine tr_region rfl (.run [] [] rfl (st_load_box rfl rfl rfl Try.isAgg56 Try.sizeOf56 (nle rfl)) (.run [] [] rfl (st_store_box rfl rfl rfl rfl rfl Try.sizeOf56 rfl (nle rfl)) (.run [] [] rfl (st_assign rfl) .nil))) ?_
        refine tr_ret ?_
        exact ends [_, _] [4300, 1302, 1303] (.cons (.cell rfl rfl Try.isAgg56 Try.sizeOf56 (nle rfl)) (.cons (.tmp rfl) .nil)) (.cons (.agg (.cons .v (.cons (.row (len := (pvE (isort cmpK (d.mem ++ batchE (d.seq + 1) ops))).length) (xs := pvE (isort cmpK (d.mem ++ batchE (d.seq + 1) ops))) rfl rfl) (.cons (.row (len := (pvR (tagT d.runs)).length) (xs := pvR (tagT d.runs)) rfl rfl) (.cons (.row (len := (pvI d.snaps).length) (xs := pvI d.snaps) rfl rfl) .nil)))) (cl_cons (.v _) (cl_cons (.sl _ _ (FlatP.clean (pvE_flat _))) (cl_cons (pvR_tag_clean _) (cl_cons (.sl _ _ (FlatP.clean (pvI_flat _))) cl_nil))))) (.cons (.one .v (.v _)) .nil)) (by decide) trivial
end Go.Rl

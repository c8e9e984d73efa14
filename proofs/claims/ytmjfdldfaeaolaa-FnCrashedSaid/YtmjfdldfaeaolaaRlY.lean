/- R, part Y: a struct behind a pointer as a row of one; slices as raw values over a block that is known. -/
import Derived.Test.YtmjfdldfaeaolaaRlX
namespace Go.Rl
open Go.RowKit

section
variable {γ : Gho} {P : Program} {n : Nat} {o : Oper} {M B : List Nat} {s : St}
/-- &T{..}: a row of one. -/
theorem st_box_row {ty : TypeId} {x : Operand} (ho : o.op = .box ty x) (id : Nat) {av : AV} {vs : List Value} (hx : s.ev x = av) (hf : av.fits = true) (hv : flatA av.cells = some vs) (hid1 : id < pinT) (hid : s.r id = none) (hM : id ∈ M) :
    StepD γ P n o M B s { put := .ea id 0 0, setR := [(id, vs.length, [vs.map PV.v])] } := by
  intro s' ag hd w0 I L a w hG hr K Q hK
  have h := hr.ev x
  rw [ag.ev1 ho (by simp [Op.operands]), hx] at h
  have hid' : s'.r id = none := (ag.m id hM).trans hid
  obtain ⟨h1, h2⟩ := h.cells hf
  have hus := flatA_ok hv h1
  obtain ⟨N, hfr⟩ := hr.fresh [] id (cur := ⟨vs⟩) ty (sz := vs.length) (c := 1) (xs := [vs.map PV.v]) (fun es hes => by simp only [List.mem_singleton] at hes; subst hes; simp) (by simp) (by simp) (by decide) (fun _ => []) (fun j p hj => by
    simp only [List.flatten_cons, List.flatten_nil, List.append_nil, List.getElem?_map] at hj
    obtain ⟨v, hv', rfl⟩ := Option.map_eq_some_iff.1 hj
    exact ⟨v, by simpa using hv', .v v (h2 v (by rw [hus]; exact List.mem_of_getElem? hv'))⟩) (by rw [flatMap_no]; simp) (by rw [flatMap_no]; simp) hid1 (.inl hid')
  have he : (execOp a.eval o).run P w = .ok (.value (.pointer (some ⟨w.heap.size, 0, none⟩))) (w.alloc (.cells ⟨vs⟩ ty)) := by
    have : (a.eval x).cells = ⟨vs⟩ := by apply Array.ext'; simpa using hus
    simp [execOp, ho, Instr.box, newVar, newRow, this]
  unfold Oper.wp
  rw [he, Oper.upon_value]
  have hfin := hfr.put hd (av := .ea id 0 0) (v := .pointer (some ⟨w.heap.size, 0, none⟩)) (by
    simp only [AVR]
    exact ⟨vs.length, [vs.map PV.v], w.heap.size, 1, 1, by simp, by simp, by simp [Pl.row], by simp⟩)
  exact hK _ _ _ (by rw [Dl.app, killd_rec]; exact hfin)
theorem st_nilcheck_ea {x : Operand} (ho : o.op = .nilCheck x) {id i off : Nat} (hx : s.ev x = .ea id i off) : StepD γ P n o M B s { put := .ea id i off } :=
  stepD_pure fun s' ag w0 I L a w hrl => by
    have he := (ag.ev1 ho (by simp [Op.operands])).trans hx
    have h := hrl.ev x
    rw [he] at h
    have h' := h
    simp only [AVR] at h
    obtain ⟨_, _, k, _, _, _, _, _, e⟩ := h
    exact ⟨_, by simp only [execOp, ho, e]; rfl, by rw [e] at h'; exact h'⟩
/-- The length of a slice that is told as a raw value. -/
theorem st_len_v {t e : TypeId} {x : Operand} (ho : o.op = .call { callee := .builtin .len, args := #[x], argTypes := #[t] }) {d : Option Nat} {A : Option Addr} {m c : Nat} (hx : s.ev x = .p d (.v (.slice A m c))) (hu : P.underlying t = some (.slice e)) : StepD γ P n o M B s { put := .p none (.v (.int .i64 m)) } :=
  stepD_pure fun s' ag w0 I L a w hrl => by
    have h := hrl.evv ((ag.ev1 ho (by simp [Op.operands, Call.operands])).trans hx)
    exact ⟨_, by simp [execOp, ho, resolve, invoke, builtin, Builtin.len_, h, run_underlying hu, goInt], avr_flat L w s' rfl⟩
theorem st_idx_v {t e : TypeId} {x y : Operand} (ho : o.op = .indexAddr t x y) {d d' : Option Nat} {k off m c : Nat} {kk : IntKind} {i : Int} (hx : s.ev x = .p d (.v (.slice (some ⟨k, off, none⟩) m c))) (hy : s.ev y = .p d' (.v (.int kk i))) (hu : P.underlying t = some (.slice e)) (hsz : ∀ w, (sizeOf e).run P w = .ok 1 w) {j : Nat} (hj : i = j) (h1 : j < m) :
    StepD γ P n o M B s { put := .p none (.v (.pointer (some ⟨k, off + j, none⟩))) } :=
  stepD_pure fun s' ag w0 I L a w hrl => by
    subst hj
    have h := hrl.evv ((ag.ev1 ho (by simp [Op.operands])).trans hx)
    have hi := hrl.evv ((ag.ev1 ho (by simp [Op.operands])).trans hy)
    exact ⟨_, by simp only [execOp, ho, h, hi, Sem.run_bind, run_indexAt hu hsz _ _ _ _ _ (show (0 : Int) ≤ (j : Int) by omega) (show (j : Int) < (m : Int) by omega)]; rfl, by simp only [Int.toNat_natCast, Nat.mul_one]; exact avr_flat L w s' rfl⟩
/-- A cell of the block that is known. -/
theorem st_load_v {t : TypeId} {x : Operand} (ho : o.op = .load t x) {d : Option Nat} {k off : Nat} {cur : Array Value} {ty : TypeId} {fz : Nat × Nat} {u : Value} (hγ : γ = some (k, .cells cur ty fz)) (hx : s.ev x = .p d (.v (.pointer (some ⟨k, off, none⟩)))) (hc : cur[off]? = some u) (h1 : u.oneCell' = true) (hag : ∀ w, (isAgg t).run P w = .ok false w) :
    StepD γ P n o M B s { put := .p none (.v u) } := by
  intro s' ag hd w0 I L a w hG hr K Q hK
  have h := hr.evv ((ag.ev1 ho (by simp [Op.operands])).trans hx)
  obtain ⟨g1, g2⟩ := hG k _ hγ
  have hlt := (Array.getElem?_eq_some_iff.1 g1).1
  have hw : w.heap[k]? = some (.cells cur ty fz) := (hr.same.block k hlt g2).trans g1
  have hcell : w.cell? ⟨k, off, none⟩ = some u := by simp [World.cell?, hw, hc]
  have he : (execOp a.eval o).run P w = .ok (.value u) w := by
    simp only [execOp, ho, h, Instr.loadAt, Instr.sureAddr, pure_bind, Sem.run_bind]
    rw [run_loadVar_one hag hcell]
    rfl
  unfold Oper.wp
  rw [he, Oper.upon_value]
  exact hK L u w (by
    have := hr.put hd (av := .p none (.v u)) (v := u) (by simp only [AVR]; exact ⟨.v u h1, fun _ h => by cases h⟩)
    rw [app_put]
    exact this)
end
mutual
theorem AVR.mono_b {L : Pl} {w : World} {s : St} {b' : Nat → Option (List AV)} : ∀ {av : AV} {v : Value}, AVR L w s av v → (∀ q, (s.b q).isSome → (b' q).isSome) → AVR L w ⟨s.t, b', s.r⟩ av v
  | .undef, v, _, _ => by simp [AVR]
  | .p d x, v, hv, _ => by simpa only [AVR] using hv
  | .sl id lo len, v, hv, _ => by simpa only [AVR] using hv
  | .ptr b off, v, hv, h => by simp only [AVR] at hv ⊢; exact ⟨h b hv.1, hv.2⟩
  | .ea id i off, v, hv, _ => by simpa only [AVR] using hv
  | .fea d ps, v, hv, _ => by simpa only [AVR] using hv
  | .nils, v, hv, _ => by simpa only [AVR] using hv
  | .sat A, v, hv, _ => by simpa only [AVR] using hv
  | .clo f bs, v, hv, h => by simp only [AVR] at hv ⊢; exact ⟨fun q hq => h q (hv.1 q hq), hv.2⟩
  | .agg cs, v, hv, h => by
    simp only [AVR] at hv ⊢
    obtain ⟨us, h1, h2⟩ := hv
    exact ⟨us, h1, AVRs.mono_b h2 h⟩
  | .tup cs, v, hv, h => by
    simp only [AVR] at hv ⊢
    obtain ⟨us, h1, h2⟩ := hv
    exact ⟨us, h1, AVRs.mono_b h2 h⟩
theorem AVRs.mono_b {L : Pl} {w : World} {s : St} {b' : Nat → Option (List AV)} : ∀ {qs : List AV} {us : List Value}, AVRs L w s qs us → (∀ q, (s.b q).isSome → (b' q).isSome) → AVRs L w ⟨s.t, b', s.r⟩ qs us
  | [], [], _, _ => by simp [AVRs]
  | [], _ :: _, hv, _ => by simp [AVRs] at hv
  | _ :: _, [], hv, _ => by simp [AVRs] at hv
  | a :: qs, u :: us, hv, h => by
    simp only [AVRs] at hv ⊢
    exact ⟨AVR.mono_b hv.1 h, AVRs.mono_b hv.2 h⟩
end
theorem AVRs.set_at {L : Pl} {w : World} {s : St} : ∀ {qs : List AV} {us : List Value} {j : Nat} {av : AV} {v : Value}, AVRs L w s qs us → us[j]? = some v → AVR L w s av v → AVRs L w s (qs.set j av) us
  | [], us, _, _, _, h, _, _ => by simpa using h
  | _ :: _, [], _, _, _, h, _, _ => by simp [AVRs] at h
  | a :: qs, u :: us, 0, av, v, h, hv, ha => by
    simp only [AVRs, List.set_cons_zero] at h ⊢
    simp at hv
    subst hv
    exact ⟨ha, h.2⟩
  | a :: qs, u :: us, j + 1, av, v, h, hv, ha => by
    simp only [AVRs, List.set_cons_succ] at h ⊢
    exact ⟨h.1, AVRs.set_at h.2 (by simpa using hv) ha⟩
/-- A nil slice in a variable is an empty row. -/
theorem wk_nil {n : Nat} {s : St} (b j id sz : Nat) {cs : List AV} (hb : s.b b = some cs) (hj : cs[j]? = some .nils) (hid : s.r id = none) (hp : id < pinT) :
    Wk n s ⟨s.t, upd s.b b (some (cs.set j (.sl id 0 0))), upd s.r id (some (sz, []))⟩ := by
  intro w0 I L a w h
  obtain ⟨h1, us, ty, h2, h3, h4⟩ := h.bx b cs hb
  obtain ⟨v, hv, hav⟩ := h3.get j _ hj
  simp only [AVR] at hav
  obtain ⟨A, rfl⟩ := hav
  have hrel := h.adopt (id := id) (sz := sz) (xs := []) (v := .slice A 0 0) (N := []) (.nil sz A) (by simp) (by simp) hid (.inl hp)
  have hsome : ∀ q, (s.b q).isSome → ((upd s.b b (some (cs.set j (.sl id 0 0)))) q).isSome := fun q hq => by
    by_cases e : q = b
    · subst e; simp
    · rw [upd_ne _ _ e]; exact hq
  refine ⟨L.row id (.slice A 0 0) [], ⟨hrel.same, hrel.zlt, hrel.llt, hrel.sz, hrel.df, fun i => ?_, fun i cs' hc => ?_, hrel.rw, hrel.pr, fun i hi hx => ?_, hrel.zi⟩⟩
  · exact AVR.mono_b (hrel.tm i) hsome
  · by_cases e : i = b
    · subst e
      simp only [upd_self, Option.some.injEq] at hc
      subst hc
      obtain ⟨g1, us', ty', g2, g3, g4⟩ := hrel.bx i cs hb
      have g2' : w.heap[L.β i]? = some (.cells ⟨us'⟩ ty' (0, 0)) := g2
      rw [h2] at g2'
      cases g2'
      refine ⟨g1, us, ty, h2, ?_, g4⟩
      have g3' := AVRs.mono_b g3 hsome
      exact AVRs.set_at g3' hv (by
        simp only [AVR]
        exact ⟨sz, [], by simp, by simp, A, 0, 0, A, 0, by simp [Pl.row], rfl, Nat.le_refl _, fun _ => ⟨rfl, rfl⟩, fun h => absurd h (Nat.lt_irrefl _)⟩)
    · simp only [upd_ne _ _ e] at hc
      obtain ⟨g1, us', ty', g2, g3, g4⟩ := hrel.bx i cs' hc
      exact ⟨g1, us', ty', g2, AVRs.mono_b g3 hsome, g4⟩
  · refine hrel.pb i hi ?_
    by_cases e : i = b
    · subst e; simp [hb]
    · simpa [upd_ne _ _ e] using hx
/-- cv is a slice of bytes, bs; where it has any, they lie in the block that is known. -/
def CodeAt (γ : Gho) (cv : Value) (bs : List Nat) : Prop :=
  ∃ A c, cv = .slice A bs.length c ∧ (bs = [] ∨ ∃ k off cur ty fz, A = some ⟨k, off, none⟩ ∧ γ = some (k, .cells cur ty fz) ∧ ∀ (i : Nat) (b : Nat), bs[i]? = some b → b < 256 ∧ cur[off + i]? = some (.int .u8 b))
end Go.Rl

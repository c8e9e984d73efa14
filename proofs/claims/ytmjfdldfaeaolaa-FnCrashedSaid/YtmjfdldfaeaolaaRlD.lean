/- R, part D: the steps that read memory. -/
import Derived.Test.YtmjfdldfaeaolaaRlC
import Derived.Laws.Slices
namespace Go.Rl
open Go.RowKit

theorem cell_blk {w : World} {k o : Nat} {us : List Value} {ty : TypeId} {fr : Nat × Nat} (h : w.heap[k]? = some (.cells ⟨us⟩ ty fr)) : w.cell? ⟨k, o, none⟩ = us[o]? := by
  simp [World.cell?, h]
theorem AVRs.sub {L : Pl} {w : World} {s : St} {as : List AV} {us : List Value} (h : AVRs L w s as us) (o sz : Nat) : AVRs L w s ((as.drop o).take sz) ((us.drop o).take sz) := by
  have hl := h.length
  refine AVRs.mk (by simp [hl]) (fun j a u h1 h2 => ?_)
  rw [List.getElem?_take] at h1 h2
  split at h1
  · rename_i hj
    rw [if_pos hj] at h2
    rw [List.getElem?_drop] at h1 h2
    obtain ⟨u', hu, hr⟩ := h.get _ _ h1
    rw [h2] at hu
    cases hu
    exact hr
  · cases h1
theorem Addr.add0 (k o n : Nat) : Addr.add ⟨k, o, none⟩ n = ⟨k, o + n, none⟩ := Addr.add_lit k o n
theorem run_loadVar_agg {P : Program} {t : TypeId} {sz : Nat} (hag : ∀ w, (isAgg t).run P w = .ok true w) (hsz : ∀ w, (sizeOf t).run P w = .ok sz w) {w : World} {k o : Nat} {us : List Value} (hl : us.length = sz) (h : ∀ (j : Nat) u, us[j]? = some u → w.cell? ⟨k, o + j, none⟩ = some u) :
    (loadVar t ⟨k, o, none⟩).run P w = .ok (.agg ⟨us⟩) w := by
  subst hl
  have h2 := run_loadCells_list (P := P) w ⟨k, o, none⟩ us (fun j v hv => by rw [Addr.add0]; exact h j v hv)
  simp [loadVar, hag, hsz, h2]
theorem run_loadVar_one {P : Program} {t : TypeId} (hag : ∀ w, (isAgg t).run P w = .ok false w) {w : World} {k o : Nat} {u : Value} (h : w.cell? ⟨k, o, none⟩ = some u) : (loadVar t ⟨k, o, none⟩).run P w = .ok u w := by
  simp [loadVar, hag, h]

section
variable {w0 : World} {I : Fr} {n : Nat} {L : Pl} {s : St} {a : Act} {w : World}
theorem Rel.box (h : Rel w0 I n L s a w) {i : Nat} {cs : List AV} (hb : s.b i = some cs) : ∃ us, AVRs L w s cs us ∧ ∀ (j : Nat) u, us[j]? = some u → w.cell? ⟨L.β i, j, none⟩ = some u := by
  obtain ⟨_, us, ty, h2, h3, _⟩ := h.bx i cs hb
  exact ⟨us, h3, fun j u hu => by rw [cell_blk h2]; exact hu⟩
/-- A row's cells. -/
theorem Rel.row (h : Rel w0 I n L s a w) {i sz : Nat} {xs : List (List PV)} (hr : s.r i = some (sz, xs)) : ((∃ A, L.ρ i = .slice A 0 0) ∧ xs = []) ∨
    ∃ k c, L.ρ i = .slice (some ⟨k, 0, none⟩) xs.length c ∧ (∀ es ∈ xs, es.length = sz) ∧ ∃ u : Nat → Value, (∀ j, j < xs.flatten.length → w.cell? ⟨k, j, none⟩ = some (u j)) ∧ ∀ j p, xs.flatten[j]? = some p → PVR (L.zd (some i)) w p (u j) := by
  obtain ⟨h1, h2, h3⟩ := h.rw i sz xs hr
  generalize hv : L.ρ i = v at h1
  generalize hn : L.ν i = N at h1
  cases h1 with
  | nil _ A => exact .inl ⟨⟨A, rfl⟩, rfl⟩
  | own _ _ k c cur ty hlen hk hsz hc hm u m hcell hp =>
    refine .inr ⟨k, c, rfl, hlen, u, fun j hj => ?_, fun j p hj => (hp j p hj).toR.mono (fun _ _ => rfl) (fun x hx => ?_)⟩
    · simp only [World.cell?, hk]
      simpa using hcell j hj
    · rcases hx with hx | hx
      · exact .inl hx
      · refine .inr ⟨i, rfl, ?_⟩
        rw [hn]
        simp only [List.tail_cons, List.mem_flatMap, List.mem_range]
        exact ⟨j, (List.getElem?_eq_some_iff.1 hj).1, hx⟩
end

/-- A cell that is read out of a row (d), or of what is frozen (none). -/
def PV.brw (d : Option Nat) : PV → AV
  | .v u => .p none (.v u)
  | .sl _ sz xs => .p d (.sl false sz xs)
  | .clo f xs => .p d (.clo f xs)
theorem PVR.flag {Z : Nat → Prop} {w : World} {o : Bool} {sz : Nat} {xs : List (List PV)} {v : Value} (h : PVR Z w (.sl o sz xs) v) (o' : Bool) : PVR Z w (.sl o' sz xs) v := by
  cases h with
  | emp _ _ A c => exact .emp _ _ _ _
  | sl _ _ _ k off c hlen hc hz u hcell hp => exact .sl _ _ _ k off c hlen hc hz u hcell hp
theorem avr_brw {L : Pl} {w : World} {s : St} {d : Option Nat} {p : PV} {v : Value} (h : PVR (L.zd d) w p v) (hd : ∀ id, d = some id → (s.r id).isSome) : AVR L w s (p.brw d) v := by
  cases p with
  | v u => cases h; exact avr_flat _ _ _ (by assumption)
  | sl o sz xs => simp only [PV.brw, AVR]; exact ⟨h.flag false, hd⟩
  | clo f xs => simp only [PV.brw, AVR]; exact ⟨h, hd⟩
theorem avrs_brw {L : Pl} {w : World} {s : St} {d : Option Nat} {ps : List PV} {us : List Value} (hl : ps.length = us.length) (h : ∀ (j : Nat) p u, ps[j]? = some p → us[j]? = some u → PVR (L.zd d) w p u) (hd : ∀ id, d = some id → (s.r id).isSome) : AVRs L w s (ps.map (PV.brw d)) us := by
  refine AVRs.mk (by simpa using hl) (fun j a u h1 h2 => ?_)
  rw [List.getElem?_map] at h1
  cases hp : ps[j]? with
  | none => rw [hp] at h1; cases h1
  | some p => rw [hp] at h1; cases h1; exact avr_brw (h j p u hp h2) hd

section
variable {γ : Gho} {P : Program} {n : Nat} {o : Oper} {M B : List Nat} {s : St}
/-! #### loads -/
theorem st_load_box {t : TypeId} {x : Operand} (ho : o.op = .load t x) {b off sz : Nat} {cs : List AV} (hx : s.ev x = .ptr b off) (hb : s.b b = some cs) (hag : ∀ w, (isAgg t).run P w = .ok true w) (hsz : ∀ w, (sizeOf t).run P w = .ok sz w) (hl : off + sz ≤ cs.length) :
    StepD γ P n o M B s { put := .agg ((cs.drop off).take sz) } :=
  stepD_pure fun s' ag w0 I L a w hr => by
    have he := (ag.ev1 ho (by simp [Op.operands])).trans hx
    have hb' := (ag.b1 ho (by simp [Op.operands]) hx (i := b) (by simp [AV.bxs])).trans hb
    have h := hr.ev x
    rw [he] at h
    simp only [AVR] at h
    obtain ⟨us, h1, h2⟩ := hr.box hb'
    have hlen := h1.length
    refine ⟨.agg ⟨(us.drop off).take sz⟩, ?_, ?_⟩
    · simp only [execOp, ho, h.2, Instr.loadAt, Instr.sureAddr, pure_bind, Sem.run_bind]
      rw [run_loadVar_agg hag hsz (us := (us.drop off).take sz) (by simp; omega) (fun j u hu => ?_)]
      · rfl
      · rw [List.getElem?_take] at hu
        split at hu
        · rw [List.getElem?_drop] at hu; exact h2 _ _ hu
        · cases hu
    · simp only [AVR]
      exact ⟨_, rfl, h1.sub off sz⟩
theorem st_load_box1 {t : TypeId} {x : Operand} (ho : o.op = .load t x) {b off : Nat} {cs : List AV} {av : AV} (hx : s.ev x = .ptr b off) (hb : s.b b = some cs) (hag : ∀ w, (isAgg t).run P w = .ok false w) (hav : cs[off]? = some av) :
    StepD γ P n o M B s { put := av } :=
  stepD_pure fun s' ag w0 I L a w hr => by
    have he := (ag.ev1 ho (by simp [Op.operands])).trans hx
    have hb' := (ag.b1 ho (by simp [Op.operands]) hx (i := b) (by simp [AV.bxs])).trans hb
    have h := hr.ev x
    rw [he] at h
    simp only [AVR] at h
    obtain ⟨us, h1, h2⟩ := hr.box hb'
    obtain ⟨u, hu, ha⟩ := h1.get off av hav
    refine ⟨u, ?_, ha⟩
    simp only [execOp, ho, h.2, Instr.loadAt, Instr.sureAddr, pure_bind, Sem.run_bind]
    rw [run_loadVar_one hag (h2 off u hu)]
    rfl
theorem flat_get {xs : List (List PV)} {sz : Nat} (hl : ∀ es ∈ xs, es.length = sz) {i j : Nat} {es : List PV} (hi : xs[i]? = some es) (hj : j < sz) : xs.flatten[i * sz + j]? = es[j]? := by
  induction xs generalizing i with
  | nil => simp at hi
  | cons e xs ih =>
    have he := hl e (by simp)
    cases i with
    | zero => simp at hi; subst hi; simp [List.getElem?_append_left (show j < e.length by omega)]
    | succ i =>
      simp at hi
      rw [List.flatten_cons, List.getElem?_append_right (by rw [he, Nat.succ_mul]; omega)]
      rw [show (i + 1) * sz + j - e.length = i * sz + j by rw [he, Nat.succ_mul]; omega]
      exact ih (fun es h => hl es (by simp [h])) hi
theorem flat_len {xs : List (List PV)} {sz : Nat} (hl : ∀ es ∈ xs, es.length = sz) : xs.flatten.length = xs.length * sz := by
  induction xs with
  | nil => simp
  | cons e xs ih => rw [List.flatten_cons, List.length_append, ih (fun es h => hl es (by simp [h])), hl e (by simp), List.length_cons, Nat.succ_mul]; omega
theorem flat_lt {xs : List (List PV)} {sz i j : Nat} (hl : ∀ es ∈ xs, es.length = sz) (hi : i < xs.length) (hj : j < sz) : i * sz + j < xs.flatten.length := by
  rw [flat_len hl]
  have : (i + 1) * sz ≤ xs.length * sz := Nat.mul_le_mul_right _ hi
  rw [Nat.succ_mul] at this
  omega
/-- An element's cells, out of a row. -/
theorem Rel.elem {w0 : World} {I : Fr} {L : Pl} {a : Act} {w : World} (h : Rel w0 I n L s a w) {id sz i : Nat} {xs : List (List PV)} (hr : s.r id = some (sz, xs)) {es : List PV} (hi : xs[i]? = some es) :
    ∃ k c, L.ρ id = .slice (some ⟨k, 0, none⟩) xs.length c ∧ es.length = sz ∧ ∃ u : Nat → Value, (∀ j, j < sz → w.cell? ⟨k, i * sz + j, none⟩ = some (u j)) ∧ ∀ j p, es[j]? = some p → PVR (L.zd (some id)) w p (u j) := by
  rcases h.row hr with ⟨_, rfl⟩ | ⟨k, c, h1, h2, u, h3, h4⟩
  · simp at hi
  · have hil : i < xs.length := (List.getElem?_eq_some_iff.1 hi).1
    have hes : es.length = sz := h2 es (List.mem_of_getElem? hi)
    refine ⟨k, c, h1, hes, fun j => u (i * sz + j), fun j hj => h3 _ (flat_lt h2 hil hj), fun j p hp => h4 _ p ?_⟩
    have hj : j < sz := by rw [← hes]; exact (List.getElem?_eq_some_iff.1 hp).1
    rw [flat_get h2 hi hj]; exact hp
theorem st_load_ea {t : TypeId} {x : Operand} (ho : o.op = .load t x) {id i off sz tz : Nat} {xs : List (List PV)} {es : List PV} (hx : s.ev x = .ea id i off) (hr : s.r id = some (sz, xs)) (hi : xs[i]? = some es) (hag : ∀ w, (isAgg t).run P w = .ok true w) (hsz : ∀ w, (sizeOf t).run P w = .ok tz w) (hl : off + tz ≤ es.length) :
    StepD γ P n o M B s { put := .agg (((es.drop off).take tz).map (PV.brw (some id))) } :=
  stepD_pure fun s' ag w0 I L a w hrl => by
    have he := (ag.ev1 ho (by simp [Op.operands])).trans hx
    have hr' := (ag.r1 ho (by simp [Op.operands]) hx (id := id) (by simp [AV.rows])).trans hr
    have h := hrl.ev x
    rw [he] at h
    simp only [AVR] at h
    obtain ⟨sz', xs', k, m, c, h1, h2, h3, h4⟩ := h
    rw [hr'] at h1
    cases h1
    obtain ⟨k', c', h5, hes, u, h6, h7⟩ := hrl.elem hr' hi
    rw [h3] at h5
    cases h5
    refine ⟨.agg ⟨(List.range tz).map fun j => u (off + j)⟩, ?_, ?_⟩
    · simp only [execOp, ho, h4, Instr.loadAt, Instr.sureAddr, pure_bind, Sem.run_bind]
      rw [run_loadVar_agg hag hsz (us := (List.range tz).map fun j => u (off + j)) (by simp) (fun j v hv => ?_)]
      · rfl
      · rw [List.getElem?_map] at hv
        by_cases hj : j < tz
        · rw [List.getElem?_range hj] at hv
          cases hv
          rw [Nat.add_assoc]
          exact h6 (off + j) (by omega)
        · rw [List.getElem?_eq_none (by simpa using hj)] at hv; cases hv
    · simp only [AVR]
      refine ⟨_, rfl, avrs_brw (by simp; omega) (fun j p v hp hv => ?_) (fun id' h => by cases h; rw [hr']; rfl)⟩
      rw [List.getElem?_take] at hp
      split at hp
      · rename_i hj
        rw [List.getElem?_map, List.getElem?_range hj] at hv
        cases hv
        rw [List.getElem?_drop] at hp
        exact h7 _ _ hp
      · cases hp
theorem st_load_ea1 {t : TypeId} {x : Operand} (ho : o.op = .load t x) {id i off sz : Nat} {xs : List (List PV)} {es : List PV} {p : PV} (hx : s.ev x = .ea id i off) (hr : s.r id = some (sz, xs)) (hi : xs[i]? = some es) (hag : ∀ w, (isAgg t).run P w = .ok false w) (hp : es[off]? = some p) :
    StepD γ P n o M B s { put := p.brw (some id) } :=
  stepD_pure fun s' ag w0 I L a w hrl => by
    have he := (ag.ev1 ho (by simp [Op.operands])).trans hx
    have hr' := (ag.r1 ho (by simp [Op.operands]) hx (id := id) (by simp [AV.rows])).trans hr
    have h := hrl.ev x
    rw [he] at h
    simp only [AVR] at h
    obtain ⟨sz', xs', k, m, c, h1, h2, h3, h4⟩ := h
    rw [hr'] at h1
    cases h1
    obtain ⟨k', c', h5, hes, u, h6, h7⟩ := hrl.elem hr' hi
    rw [h3] at h5
    cases h5
    have hlt : off < sz := by rw [← hes]; exact (List.getElem?_eq_some_iff.1 hp).1
    refine ⟨u off, ?_, avr_brw (h7 _ _ hp) (fun id' h => by cases h; rw [hr']; rfl)⟩
    simp only [execOp, ho, h4, Instr.loadAt, Instr.sureAddr, pure_bind, Sem.run_bind]
    rw [run_loadVar_one hag (h6 off hlt)]
    rfl
theorem st_load_fea {t : TypeId} {x : Operand} (ho : o.op = .load t x) {d : Option Nat} {ps : List PV} {tz : Nat} (hx : s.ev x = .fea d ps) (hag : ∀ w, (isAgg t).run P w = .ok true w) (hsz : ∀ w, (sizeOf t).run P w = .ok tz w) (hl : tz ≤ ps.length) :
    StepD γ P n o M B s { put := .agg ((ps.take tz).map (PV.brw d)) } :=
  stepD_pure fun s' ag w0 I L a w hrl => by
    have he := (ag.ev1 ho (by simp [Op.operands])).trans hx
    have h := hrl.ev x
    rw [he] at h
    simp only [AVR] at h
    obtain ⟨⟨k, off, h1, h2, h3⟩, h4⟩ := h
    have hex : ∀ j, ∃ u, j < ps.length → w.cell? ⟨k, off + j, none⟩ = some u ∧ ∀ p, ps[j]? = some p → PVR (L.zd d) w p u := by
      intro j
      by_cases hj : j < ps.length
      · obtain ⟨u, hu, hp⟩ := h3 j _ (List.getElem?_eq_getElem hj)
        exact ⟨u, fun _ => ⟨hu, fun p hp' => by rw [List.getElem?_eq_getElem hj] at hp'; cases hp'; exact hp⟩⟩
      · exact ⟨undef, fun h => absurd h hj⟩
    obtain ⟨u, hu⟩ := Classical.axiomOfChoice hex
    refine ⟨.agg ⟨(List.range tz).map u⟩, ?_, ?_⟩
    · simp only [execOp, ho, h1, Instr.loadAt, Instr.sureAddr, pure_bind, Sem.run_bind]
      rw [run_loadVar_agg hag hsz (us := (List.range tz).map u) (by simp) (fun j v hv => ?_)]
      · rfl
      · rw [List.getElem?_map] at hv
        by_cases hj : j < tz
        · rw [List.getElem?_range hj] at hv
          cases hv
          exact (hu j (by omega)).1
        · rw [List.getElem?_eq_none (by simpa using hj)] at hv; cases hv
    · simp only [AVR]
      refine ⟨_, rfl, avrs_brw (by simp; omega) (fun j p v hp hv => ?_) h4⟩
      rw [List.getElem?_take] at hp
      split at hp
      · rename_i hj
        rw [List.getElem?_map, List.getElem?_range hj] at hv
        cases hv
        exact (hu j (by omega)).2 p hp
      · cases hp
theorem st_load_fea1 {t : TypeId} {x : Operand} (ho : o.op = .load t x) {d : Option Nat} {ps : List PV} {p : PV} (hx : s.ev x = .fea d ps) (hag : ∀ w, (isAgg t).run P w = .ok false w) (hp : ps[0]? = some p) :
    StepD γ P n o M B s { put := p.brw d } :=
  stepD_pure fun s' ag w0 I L a w hrl => by
    have he := (ag.ev1 ho (by simp [Op.operands])).trans hx
    have h := hrl.ev x
    rw [he] at h
    simp only [AVR] at h
    obtain ⟨⟨k, off, h1, h2, h3⟩, h4⟩ := h
    obtain ⟨u, hu, hpr⟩ := h3 0 p hp
    refine ⟨u, ?_, avr_brw hpr h4⟩
    simp only [execOp, ho, h1, Instr.loadAt, Instr.sureAddr, pure_bind, Sem.run_bind]
    rw [run_loadVar_one hag (by simpa using hu)]
    rfl
end
end Go.Rl

/- R, part K: values built, rows built, elements stored, cuts, texts. -/
import Derived.Test.YtmjfdldfaeaolaaRlJ
import Derived.Great.BuildSlice
namespace Go.Rl
open Go.RowKit

/-- Parts laid over cells. -/
def fillA (place : Nat → Option (Nat × Nat)) (cs : List AV) : List (Nat × AV) → Option (List AV)
  | [] => some cs
  | (i, av) :: rest => match place i with
    | none => none
    | some (off, size) => match Nat.beq av.cells.length size && Nat.ble (off + size) cs.length && av.fits with
      | true => fillA place (over cs off av.cells) rest
      | false => none
theorem foldl_over (off : Nat) (l : List Value) (cs : Array Value) (h : off + l.length ≤ cs.size) : (l.toArray.zipIdx.foldl (fun cs (x : Value × Nat) => cs.setIfInBounds (off + x.2) x.1) cs) = (over cs.toList off l).toArray := by
  rw [← Array.foldl_toList, Array.toList_zipIdx]
  obtain ⟨h1, h2⟩ := Great.foldl_set off l 0 cs
  apply Array.ext'
  apply List.ext_getElem?
  intro k
  have hl : off + l.length ≤ cs.toList.length := by simpa using h
  rw [Array.getElem?_toList, h2 k]
  simp only [Nat.add_zero]
  rw [over_get hl]
  by_cases h3 : off ≤ k ∧ k < off + l.length
  · rw [if_pos ⟨h3.1, h3.2, by omega⟩, if_pos h3]
  · rw [if_neg (fun e => h3 ⟨e.1, e.2.1⟩), if_neg h3, Array.getElem?_toList]
theorem fillA_ok {L : Pl} {w : World} {s : St} {place : Nat → Option (Nat × Nat)} : ∀ {ps : List (Nat × AV)} {vs : List (Nat × Value)} {cs cs' : List AV} {us : List Value} (_ : ps.length = vs.length) (_ : ∀ (j : Nat) i av, ps[j]? = some (i, av) → ∃ v, vs[j]? = some (i, v) ∧ AVR L w s av v) (_ : AVRs L w s cs us) (_ : fillA place cs ps = some cs'), ∃ us', Instr.fill place us.toArray vs = some us'.toArray ∧ AVRs L w s cs' us'
  | [], [], cs, cs', us, _, _, hc, hf => by simp only [fillA, Option.some.injEq] at hf; subst hf; exact ⟨us, rfl, hc⟩
  | [], _ :: _, _, _, _, hl, _, _, _ => by simp at hl
  | _ :: _, [], _, _, _, hl, _, _, _ => by simp at hl
  | (i, av) :: ps, (i', v) :: vs, cs, cs', us, hl, hv, hc, hf => by
    obtain ⟨v', h1, h2⟩ := hv 0 i av rfl
    simp only [List.getElem?_cons_zero, Option.some.injEq, Prod.mk.injEq] at h1
    obtain ⟨rfl, rfl⟩ := h1
    simp only [fillA] at hf
    simp only [Instr.fill]
    cases hp : place i' with
    | none => rw [hp] at hf; cases hf
    | some os =>
      obtain ⟨off, size⟩ := os
      rw [hp] at hf
      simp only at hf ⊢
      split at hf
      · rename_i hb
        simp only [Bool.and_eq_true, Nat.beq_eq, Nat.ble_eq] at hb
        obtain ⟨⟨h3, h4⟩, h5⟩ := hb
        obtain ⟨h6, h7⟩ := h2.cells h5
        have hlen := h6.length
        have hcl := hc.length
        have hsz : v.cells.size = size := by rw [← Array.length_toList]; omega
        have e1 : ¬ (v.cells.size ≠ size) := by simp [hsz]
        have e2 : ¬ (off + v.cells.size > us.toArray.size) := by simp [hsz]; omega
        simp only [hsz, ne_eq, not_true_eq_false, decide_false, Bool.false_or]
        rw [if_neg (by simp; omega)]
        have hfo := foldl_over off v.cells.toList us.toArray (by simp [hsz]; omega)
        simp only [Array.toArray_toList] at hfo
        have := fillA_ok (ps := ps) (vs := vs) (cs := over cs off av.cells) (us := over us off v.cells.toList) (by simpa using hl) (fun j i av h => hv (j + 1) i av h) (hc.over h6 off (by omega)) hf
        rw [← hfo] at this
        exact this
      · cases hf

section
variable {γ : Gho} {P : Program} {n : Nat} {o : Oper} {M B : List Nat} {s : St}
/-- The values of the parts. -/
def partsA (s : St) (parts : List (Nat × Operand)) : List (Nat × AV) := parts.map fun p => (p.1, s.ev p.2)
theorem built_struct {t : TypeId} {fs : Array Field} {z : Value} {sz by' : Nat} {pl : List (Nat × Nat)} (hu : P.underlying t = some (.struct fs)) (hi : (P.info? t).map (fun i => (i.zero, i.size, i.bytes)) = some (some z, sz, by')) (hp : fs.toList.mapM (fun f => (P.info? f.type).map fun i => (f.offset, i.size)) = some pl) (vs : List (Nat × Value)) :
    P.built t vs = Instr.fill (pl.toArray[·]?) z.cells vs := by
  obtain ⟨i, h1, h2, h3, h4⟩ := info_of hi
  simp only [Program.built, h1, hu, h2, hp]
theorem parts_ok {w0 : World} {I : Fr} {L : Pl} {a : Act} {w : World} (hr : Rel w0 I n L s a w) (parts : Array (Nat × Operand)) : (partsA s parts.toList).length = (parts.map fun (i, x) => (i, a.eval x)).toList.length ∧ ∀ (j : Nat) i av, (partsA s parts.toList)[j]? = some (i, av) → ∃ v, (parts.map fun (i, x) => (i, a.eval x)).toList[j]? = some (i, v) ∧ AVR L w s av v := by
  refine ⟨by simp [partsA], fun j i av h => ?_⟩
  simp only [partsA, List.getElem?_map, Option.map_eq_some_iff, Prod.mk.injEq] at h
  obtain ⟨⟨i', x⟩, h1, rfl, rfl⟩ := h
  refine ⟨a.eval x, ?_, hr.ev x⟩
  rw [Array.toList_map, List.getElem?_map, h1]
  rfl
theorem parts_ag {s' : St} {t : TypeId} {parts : Array (Nat × Operand)} (ho : o.op = .build t parts ∨ ∃ l, o.op = .buildSlice t l parts) (ag : Ag o M B s s') : partsA s' parts.toList = partsA s parts.toList := by
  simp only [partsA]
  refine List.map_congr_left (fun p hp => ?_)
  have : p.2 ∈ Oper.asked o := by
    unfold Oper.asked
    rcases ho with ho | ⟨l, ho⟩ <;> rw [ho] <;> simp only [Op.operands, List.mem_map] <;> exact ⟨p, hp, rfl⟩
  rw [ag.ev _ this]
theorem st_build {t : TypeId} {parts : Array (Nat × Operand)} (ho : o.op = .build t parts) {fs : Array Field} {z : Value} {sz by' : Nat} {pl : List (Nat × Nat)} {cs : List AV} (hu : P.underlying t = some (.struct fs)) (hi : (P.info? t).map (fun i => (i.zero, i.size, i.bytes)) = some (some z, sz, by'))
    (hp : fs.toList.mapM (fun f => (P.info? f.type).map fun i => (f.offset, i.size)) = some pl) (hz : (cst z).fits = true) (hf : fillA (pl.toArray[·]?) (cst z).cells (partsA s parts.toList) = some cs) : StepD γ P n o M B s { put := .agg cs } :=
  stepD_pure fun s' ag w0 I L a w hr => by
    obtain ⟨h1, h2⟩ := parts_ok hr parts
    rw [parts_ag (.inl ho) ag] at h1 h2
    obtain ⟨us, h3, h4⟩ := fillA_ok h1 h2 ((avr_cst L w s' z).cells hz).1 hf
    refine ⟨.agg ⟨us⟩, ?_, by simp only [AVR]; exact ⟨us, rfl, h4⟩⟩
    rw [Array.toArray_toList, ← built_struct hu hi hp] at h3
    simp only [execOp, ho, Sem.run_bind, run_build w t _ _ h3, Result.andThen_ok]
    rfl
/-- Cells in elements of sz cells. -/
def chunks {α : Type} (sz : Nat) : Nat → List α → List (List α)
  | 0, _ => []
  | l + 1, xs => xs.take sz :: chunks sz l (xs.drop sz)
theorem chunks_ok {α : Type} (sz : Nat) : ∀ (l : Nat) (xs : List α), xs.length = l * sz → (chunks sz l xs).flatten = xs ∧ (chunks sz l xs).length = l ∧ ∀ es ∈ chunks sz l xs, es.length = sz
  | 0, xs, h => by
    have : xs = [] := List.eq_nil_of_length_eq_zero (by simpa using h)
    subst this
    simp [chunks]
  | l + 1, xs, h => by
    rw [Nat.succ_mul] at h
    obtain ⟨h1, h2, h3⟩ := chunks_ok sz l (xs.drop sz) (by simp; omega)
    refine ⟨by simp [chunks, h1], by simp [chunks, h2], fun es hes => ?_⟩
    rcases List.mem_cons.1 hes with rfl | hes
    · simp; omega
    · exact h3 es hes
theorem Gvs.at {s s' : St} {as : List AV} {ps : List PV} {K : List Nat} (g : Gvs s as ps K) (h : ∀ id ∈ AV.rowss as, s'.r id = s.r id) : Gvs s' as ps K := by
  induction g with
  | nil => exact .nil
  | cons g _ ih =>
    refine .cons ?_ (ih (fun id hi => h id (by simp only [AV.rowss, List.mem_append]; exact .inr hi)))
    cases g with
    | v => exact .v
    | fro => exact .fro
    | clo => exact .clo
    | nil sz => exact .nil sz
    | row hr hl => exact .row ((h _ (by simp [AV.rowss, AV.rows])).trans hr) hl
    | pre hr hl hn => exact .pre ((h _ (by simp [AV.rowss, AV.rows])).trans hr) hl hn
/-- A slice literal: its cells are laid, what goes into it is given away. -/
theorem st_buildSlice {t e : TypeId} {len : Nat} {parts : Array (Nat × Operand)} (ho : o.op = .buildSlice t len parts) (id : Nat) {z : Value} {sz by' : Nat} {cs : List AV} {ps : List PV} {K : List Nat} {xs : List (List PV)} (hu : P.underlying t = some (.slice e)) (hi : (P.info? e).map (fun i => (i.zero, i.size, i.bytes)) = some (some z, sz, by'))
    (hsm : len * sz ≤ 16777216) (hpos : 0 < sz) (hzs : z.cells.size = sz) (hz : (cst z).fits = true) (hf : fillA (fun i => some (i * sz, sz)) (List.replicate len (cst z).cells).flatten (partsA s parts.toList) = some cs) (g : Gvs s cs ps K) (hnd : K.Nodup) (hx : xs = chunks sz len ps) (hid1 : id < pinT) (hid : s.r id = none) (hM : id ∈ M) (hMK' : (AV.rowss cs).all (fun i => M.elem i) = true) :
    StepD γ P n o M B s { put := .sl id 0 len, kill := K, setR := [(id, sz, xs)] } := by
  intro s' ag hd w0 I L a w hG hr KK Q hK
  have hMK : ∀ i ∈ AV.rowss cs, i ∈ M := fun i hi => by simpa using (List.all_eq_true.1 hMK') i hi
  subst hx
  obtain ⟨h1, h2⟩ := parts_ok hr parts
  rw [parts_ag (.inr ⟨len, ho⟩) ag] at h1 h2
  have hid' : s'.r id = none := (ag.m id hM).trans hid
  obtain ⟨hz1, hz2⟩ := (avr_cst L w s' z).cells hz
  have hzl : z.cells.toList.length = sz := by simpa using hzs
  have hrep : ∀ l, AVRs L w s' (List.replicate l (cst z).cells).flatten (List.replicate l z.cells.toList).flatten := fun l => by
    have hl := hz1.length
    refine AVRs.mk (by simp [hl]) (fun j x u hx hu => ?_)
    have hj : j < l * z.cells.toList.length := by have := (List.getElem?_eq_some_iff.1 hu).1; simpa using this
    rw [flatten_replicate_get _ _ _ hj] at hu
    rw [flatten_replicate_get _ _ _ (by rw [hl]; exact hj), hl] at hx
    obtain ⟨u', hu', hr⟩ := hz1.get _ _ hx
    rw [hu] at hu'; cases hu'; exact hr
  obtain ⟨us, h3, h4⟩ := fillA_ok h1 h2 (hrep len) hf
  have g' : Gvs s' cs ps K := g.at (fun i hi => ag.m i (hMK i hi))
  obtain ⟨h5, m, h6, h7⟩ := g'.ok hr h4
  have hzero : ((Array.range (len * sz)).map (z.cells[· % z.cells.size]!)) = (List.replicate len z.cells.toList).flatten.toArray := by
    apply Array.ext'
    apply List.ext_getElem?
    intro j
    rw [Array.getElem?_toList]
    by_cases hj : j < len * sz
    · rw [flatten_replicate_get _ _ _ (by rw [hzl]; exact hj), hzl, Array.getElem?_map, Array.getElem?_range, if_pos hj]
      have hm : j % sz < z.cells.size := by rw [hzs]; exact Nat.mod_lt _ hpos
      simp [hzs]
      rw [getElem!_pos z.cells (j % sz) hm, Array.getElem?_eq_getElem hm]
    · rw [List.getElem?_eq_none (l := (List.replicate len z.cells.toList).flatten) (by simp [hzs]; omega)]
      simp [hj]
  have hflen : ∀ (ps : List (Nat × AV)) (cs cs' : List AV), fillA (fun i => some (i * sz, sz)) cs ps = some cs' → cs'.length = cs.length := by
    intro ps
    induction ps with
    | nil => intro cs cs' h; simp only [fillA, Option.some.injEq] at h; rw [h]
    | cons p ps ih =>
      intro cs cs' h
      simp only [fillA] at h
      split at h
      · rename_i hb
        simp only [Bool.and_eq_true, Nat.beq_eq, Nat.ble_eq] at hb
        rw [ih _ _ h, over_len (by omega)]
      · cases h
  have hul : us.length = len * sz := by
    rw [← h4.length, hflen _ _ _ hf]
    have := hz1.length
    simp [this, hzs]
  have hpl : ps.length = len * sz := by omega
  obtain ⟨c1, c2, c3⟩ := chunks_ok sz len ps hpl
  obtain ⟨i, e1, e2, e3, e4⟩ := info_of hi
  have hrun : (Instr.buildSlice t len (parts.map fun (i, x) => (i, a.eval x))).run P w = .ok (.slice (some ⟨w.heap.size, 0, none⟩) len len) (w.alloc (.cells us.toArray e)) := by
    by_cases h0 : len * sz = 0
    · have hlen0 : len = 0 := by rcases Nat.mul_eq_zero.1 h0 with h | h; exact h; omega
      subst hlen0
      have hu0 : us = [] := List.eq_nil_of_length_eq_zero (by simpa using hul)
      subst hu0
      simp only [Nat.zero_mul, List.replicate_zero, List.flatten_nil] at h3
      simp [Instr.buildSlice, run_underlying hu, sizeOf, typeInfo, e1, e3, Array.range_zero', newRow]
      simp only [Array.toList_map] at h3
      rw [h3]
      simp
    · refine run_buildSlice w t e len _ _ i z hu e1 e2 (by rw [e3]; omega) (by rw [e3]; exact h0) ?_
      rw [e3, hzero]
      exact h3
  have hnk := hr.nodup hnd (fun i hi => g'.rows i hi)
  obtain ⟨N, hfr⟩ := hr.fresh K id (cur := us.toArray) e (sz := sz) (c := len) (xs := chunks sz len ps) c3 (by simpa using hul) (by omega) (by simp only [maxLen]; have : len ≤ len * sz := Nat.le_mul_of_pos_right _ hpos; omega) m (fun j p hj => by
    rw [c1] at hj
    obtain ⟨u, hu, hr⟩ := h7 j p hj
    exact ⟨u, by simpa using hu, hr⟩) (by rw [c1, h6]; exact hnk.2) (by rw [c1, h6]; exact hnk.1) hid1 (.inl hid')
  have he : (execOp a.eval o).run P w = .ok (.value (.slice (some ⟨w.heap.size, 0, none⟩) len len)) (w.alloc (.cells us.toArray e)) := by
    simp only [execOp, ho, Sem.run_bind, hrun, Result.andThen_ok]
    rfl
  unfold Oper.wp
  rw [he, Oper.upon_value]
  have hfin := hfr.put hd (av := .sl id 0 len) (v := .slice (some ⟨w.heap.size, 0, none⟩) len len) (avr_row (sz := sz) (xs := chunks sz len ps) (by simp) (by simp [Pl.row, c2]) (hfr.rw id sz _ (by simp)).1 c2.symm)
  exact hK _ _ _ (by rw [Dl.app, killd_rec]; exact hfin)
end
end Go.Rl

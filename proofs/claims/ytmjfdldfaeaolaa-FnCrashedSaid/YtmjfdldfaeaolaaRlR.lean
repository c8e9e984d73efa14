/- R, part R: the step that calls. -/
import Derived.Test.YtmjfdldfaeaolaaRlQ
namespace Go.Rl
open Go.RowKit

inductive CellA (s : St) (X : List Nat) : AV → PV → List Nat → Prop where
  | bor {av : AV} {p : PV} (h : Brw s X av p) : CellA s X av p []
  | own {id len sz : Nat} {xs : List (List PV)} (hr : s.r id = some (sz, xs)) (hl : len = xs.length) : CellA s X (.sl id 0 len) (.sl true sz xs) [id]
inductive CellAs (s : St) (X : List Nat) : List AV → List PV → List Nat → Prop where
  | nil : CellAs s X [] [] []
  | cons {av : AV} {p : PV} {K : List Nat} {as : List AV} {ps : List PV} {K' : List Nat} (h : CellA s X av p K) (t : CellAs s X as ps K') : CellAs s X (av :: as) (p :: ps) (K ++ K')
inductive ArgA (s : St) (X : List Nat) : AV → PA → List Nat → Prop where
  | one {av : AV} {p : PV} {K : List Nat} (h : CellA s X av p K) : ArgA s X av (.one p) K
  | agg {cs : List AV} {ps : List PV} {K : List Nat} (h : CellAs s X cs ps K) : ArgA s X (.agg cs) (.agg ps) K
  | box {b off : Nat} {cs : List AV} {ps : List PV} (hb : s.b b = some cs) (h : Brws s X (cs.drop off) ps) : ArgA s X (.ptr b off) (.fbox ps) []
  | fea {d : Option Nat} {ps : List PV} (hd : ∀ i, d = some i → i ∉ X) : ArgA s X (.fea d ps) (.fbox ps) []
  | rptr {id sz : Nat} {ps : List PV} (hr : s.r id = some (sz, [ps])) : ArgA s X (.ea id 0 0) (.rptr sz ps) [id]
inductive ArgAs (s : St) (X : List Nat) : List AV → List PA → List Nat → Prop where
  | nil : ArgAs s X [] [] []
  | cons {av : AV} {p : PA} {K : List Nat} {as : List AV} {ps : List PA} {K' : List Nat} (h : ArgA s X av p K) (t : ArgAs s X as ps K') : ArgAs s X (av :: as) (p :: ps) (K ++ K')
inductive CalleeA (s : St) (X : List Nat) : AV → FuncId → List (List PV) → Prop where
  | val {d : Option Nat} {f : FuncId} {pss : List (List PV)} (hd : ∀ i, d = some i → i ∉ X) : CalleeA s X (.p d (.clo f pss)) f pss
  | clo {f : FuncId} {bs : List Nat} {pss : List (List PV)} (h : BrwB s X bs pss) : CalleeA s X (.clo f bs) f pss
/-- What becomes of the rows that are handed over. -/
inductive Kept (s : St) : List Nat → List (Option (List (List PV))) → List (Nat × Nat × List (List PV)) → List Nat → Prop where
  | nil : Kept s [] [] [] []
  | keep {id sz : Nat} {xs xs' : List (List PV)} {X : List Nat} {outs : List (Option (List (List PV)))} {kr : List (Nat × Nat × List (List PV))} {K : List Nat} (hr : s.r id = some (sz, xs)) (hn : NfP xs) (t : Kept s X outs kr K) : Kept s (id :: X) (some xs' :: outs) ((id, sz, xs') :: kr) K
  | gone {id : Nat} {X : List Nat} {outs : List (Option (List (List PV)))} {kr : List (Nat × Nat × List (List PV))} {K : List Nat} (t : Kept s X outs kr K) : Kept s (id :: X) (none :: outs) kr (id :: K)

/-- s tells no more than s'. -/
structure Less (s s' : St) : Prop where
  r : ∀ i y, s.r i = some y → s'.r i = some y
  b : ∀ i y, s.b i = some y → s'.b i = some y
mutual
theorem Brw.mono {s s' : St} {X : List Nat} (h : Less s s') : ∀ {av : AV} {p : PV}, Brw s X av p → Brw s' X av p
  | _, _, .v => .v
  | _, _, .sl hd => .sl hd
  | _, _, .cl hd => .cl hd
  | _, _, .nil sz => .nil sz
  | _, _, .row hr hi => .row (h.r _ _ hr) hi
  | _, _, .all hr hl hi => .all (h.r _ _ hr) hl hi
  | _, _, .clo hb => .clo (BrwB.mono h hb)
theorem Brws.mono {s s' : St} {X : List Nat} (h : Less s s') : ∀ {as : List AV} {ps : List PV}, Brws s X as ps → Brws s' X as ps
  | _, _, .nil => .nil
  | _, _, .cons g t => .cons (Brw.mono h g) (Brws.mono h t)
theorem BrwB.mono {s s' : St} {X : List Nat} (h : Less s s') : ∀ {bs : List Nat} {pss : List (List PV)}, BrwB s X bs pss → BrwB s' X bs pss
  | _, _, .nil => .nil
  | _, _, .cons hb g t => .cons (h.b _ _ hb) (Brws.mono h g) (BrwB.mono h t)
end
theorem CellA.mono {s s' : St} {X : List Nat} (h : Less s s') {av : AV} {p : PV} {K : List Nat} (g : CellA s X av p K) : CellA s' X av p K := by
  cases g with
  | bor g => exact .bor (g.mono h)
  | own hr hl => exact .own (h.r _ _ hr) hl
theorem CellAs.mono {s s' : St} {X : List Nat} (h : Less s s') {as : List AV} {ps : List PV} {K : List Nat} (g : CellAs s X as ps K) : CellAs s' X as ps K := by
  induction g with
  | nil => exact .nil
  | cons g _ ih => exact .cons (g.mono h) ih
theorem ArgA.mono {s s' : St} {X : List Nat} (h : Less s s') {av : AV} {p : PA} {K : List Nat} (g : ArgA s X av p K) : ArgA s' X av p K := by
  cases g with
  | one g => exact .one (g.mono h)
  | agg g => exact .agg (g.mono h)
  | box hb g => exact .box (h.b _ _ hb) (g.mono h)
  | fea hd => exact .fea hd
  | rptr hr => exact .rptr (h.r _ _ hr)
theorem ArgAs.mono {s s' : St} {X : List Nat} (h : Less s s') {as : List AV} {ps : List PA} {K : List Nat} (g : ArgAs s X as ps K) : ArgAs s' X as ps K := by
  induction g with
  | nil => exact .nil
  | cons g _ ih => exact .cons (g.mono h) ih
theorem CalleeA.mono {s s' : St} {X : List Nat} (h : Less s s') {av : AV} {f : FuncId} {pss : List (List PV)} (g : CalleeA s X av f pss) : CalleeA s' X av f pss := by
  cases g with
  | val hd => exact .val hd
  | clo g => exact .clo (g.mono h)
theorem Kept.mono {s s' : St} (h : Less s s') {X : List Nat} {outs kr K} (g : Kept s X outs kr K) : Kept s' X outs kr K := by
  induction g with
  | nil => exact .nil
  | keep hr hn _ ih => exact .keep (h.r _ _ hr) hn ih
  | gone _ ih => exact .gone ih
/-- What a state tells of the rows M and the variables B. -/
def St.only (s : St) (M B : List Nat) : St := ⟨fun _ => .undef, fun i => match B.elem i with | true => s.b i | false => none, fun i => match M.elem i with | true => s.r i | false => none⟩
theorem only_less (s : St) (M B : List Nat) : Less (s.only M B) s where
  r i y hy := by
    simp only [St.only] at hy
    split at hy
    · exact hy
    · cases hy
  b i y hy := by
    simp only [St.only] at hy
    split at hy
    · exact hy
    · cases hy
theorem only_ag {o : Oper} {M B : List Nat} {s s' : St} (ag : Ag o M B s s') : s'.only M B = s.only M B := by
  refine St.ext' (fun _ => rfl) (fun i => ?_) (fun i => ?_)
  · simp only [St.only]
    split
    · rename_i h; exact ag.n i (by simpa using h)
    · rfl
  · simp only [St.only]
    split
    · rename_i h; exact ag.m i (by simpa using h)
    · rfl

section
variable {w0 : World} {I : Fr} {n : Nat} {L : Pl} {s : St} {a : Act} {w : World} {X : List Nat}
def lf (L : Pl) (s : St) (id : Nat) : Leaf := ⟨L.ρ id, L.ν id, ((s.r id).getD (0, [])).1⟩
theorem CellA.ok (h : Rel w0 I n L s a w) (hX : ∀ i ∈ X, (s.r i).isSome) {av : AV} {p : PV} {K : List Nat} (g : CellA s X av p K) {v : Value} (hv : AVR L w s av v) : PS (rest L w X) w p v (K.map (lf L s)) := by
  cases g with
  | bor g => obtain ⟨h1, h2⟩ := g.ok h hX hv; exact .nf h1 (h2.nfO h1)
  | own hr hl =>
    rename_i id len sz xs
    simp only [AVR] at hv
    obtain ⟨sz', xs', e1, e2, e3⟩ := hv
    rw [hr] at e1
    cases e1
    have hp := (h.rw _ _ _ hr).1
    have := view_whole e3 (fun A n c e => (pvo_own_len hp A n c e).trans hl.symm)
    subst this
    have hs : lf L s id = ⟨L.ρ id, L.ν id, sz⟩ := by simp [lf, hr]
    simp only [List.map_cons, List.map_nil, hs]
    exact .own (hp.up (fun k hk => rest_zd h hX (d := none) (fun _ h => by cases h) k (.inl hk)))
theorem CellAs.ok (h : Rel w0 I n L s a w) (hX : ∀ i ∈ X, (s.r i).isSome) {as : List AV} {ps : List PV} {K : List Nat} (g : CellAs s X as ps K) : ∀ {us : List Value} (_ : AVRs L w s as us), PSs (rest L w X) w ps us (K.map (lf L s)) := by
  induction g with
  | nil =>
    intro us hv
    cases us with
    | nil => exact .nil
    | cons _ _ => simp [AVRs] at hv
  | cons g _ ih =>
    intro us hv
    cases us with
    | nil => simp [AVRs] at hv
    | cons u us =>
      simp only [AVRs] at hv
      rw [List.map_append]
      exact .cons (g.ok h hX hv.1) (ih hv.2)
theorem ArgA.ok (h : Rel w0 I n L s a w) (hX : ∀ i ∈ X, (s.r i).isSome) {av : AV} {p : PA} {K : List Nat} (g : ArgA s X av p K) {v : Value} (hv : AVR L w s av v) : PAS (rest L w X) w p v (K.map (lf L s)) := by
  cases g with
  | one g => exact .one (g.ok h hX hv)
  | agg g =>
    simp only [AVR] at hv
    obtain ⟨us, rfl, hv⟩ := hv
    exact .agg (g.ok h hX hv)
  | box hb g =>
    rename_i b off cs ps
    simp only [AVR] at hv
    obtain ⟨us, h2, h3⟩ := h.box hb
    obtain ⟨hlb, _⟩ := h.bx b cs hb
    have hd := h2.sub off (cs.length - off)
    have e1 : (cs.drop off).take (cs.length - off) = cs.drop off := List.take_of_length_le (by simp)
    have e2 : (us.drop off).take (cs.length - off) = us.drop off := List.take_of_length_le (by simp [h2.length])
    rw [e1, e2] at hd
    obtain ⟨_, h5⟩ := g.ok h hX hd
    rw [hv.2]
    refine .fbox ⟨(h.llt _ _ hlb).1, fun hx => ?_⟩ (fun j p hj => ?_)
    · obtain ⟨i, hi, hki⟩ := List.mem_flatMap.1 hx
      obtain ⟨⟨sz, xs⟩, hr⟩ := Option.isSome_iff_exists.1 (hX i hi)
      have := (h.rw i sz xs hr).2.2 _ hki
      rw [hlb] at this
      cases this
    · obtain ⟨u, hu, _, hr⟩ := h5 j p hj
      rw [List.getElem?_drop] at hu
      exact ⟨u, h3 _ u hu, hr⟩
  | fea hd =>
    simp only [AVR] at hv
    obtain ⟨⟨k, off, rfl, hk, hc⟩, hs⟩ := hv
    have hz := rest_zd h hX (fun i e => ⟨hd i e, hs i e⟩)
    exact .fbox (hz k hk) (fun j p hj => by obtain ⟨u, hu, hr⟩ := hc j p hj; exact ⟨u, hu, hr.mono (fun _ _ => rfl) hz⟩)
  | rptr hr =>
    rename_i id sz ps
    simp only [AVR] at hv
    obtain ⟨sz', xs', k, m, c, e1, e2, e3, rfl⟩ := hv
    rw [hr] at e1
    cases e1
    have hp := (h.rw _ _ _ hr).1
    have hm := pvo_own_len hp _ _ _ e3
    simp only [List.length_cons, List.length_nil] at hm
    subst hm
    have hs : lf L s id = ⟨L.ρ id, L.ν id, sz⟩ := by simp [lf, hr]
    simp only [List.map_cons, List.map_nil, hs, Nat.zero_mul, Nat.add_zero]
    rw [e3] at hp ⊢
    exact .rptr (hp.up (fun k hk => rest_zd h hX (d := none) (fun _ h => by cases h) k (.inl hk)))
theorem ArgAs.ok (h : Rel w0 I n L s a w) (hX : ∀ i ∈ X, (s.r i).isSome) {as : List AV} {ps : List PA} {K : List Nat} (g : ArgAs s X as ps K) : ∀ {us : List Value} (_ : AVRs L w s as us), PASs (rest L w X) w ps us (K.map (lf L s)) := by
  induction g with
  | nil =>
    intro us hv
    cases us with
    | nil => exact .nil
    | cons _ _ => simp [AVRs] at hv
  | cons g _ ih =>
    intro us hv
    cases us with
    | nil => simp [AVRs] at hv
    | cons u us =>
      simp only [AVRs] at hv
      rw [List.map_append]
      exact .cons (g.ok h hX hv.1) (ih hv.2)
theorem boxes_pas {Z : Nat → Prop} {w : World} : ∀ (pss : List (List PV)) (ks : List Nat), ks.length = pss.length → (∀ k ∈ ks, Z k) → (∀ (i : Nat) es k, pss[i]? = some es → ks[i]? = some k → ∀ (j : Nat) p, es[j]? = some p → ∃ u, w.cell? ⟨k, j, none⟩ = some u ∧ PVR Z w p u) → PASs Z w (pss.map .fbox) (ks.map fun k => .pointer (some ⟨k, 0, none⟩)) []
  | [], [], _, _, _ => .nil
  | [], _ :: _, h, _, _ => by simp at h
  | _ :: _, [], h, _, _ => by simp at h
  | es :: pss, k :: ks, h, hz, hc => by
    have := boxes_pas pss ks (by simpa using h) (fun x hx => hz x (by simp [hx])) (fun i es k h1 h2 => hc (i + 1) es k h1 h2)
    exact .cons (.fbox (hz k (by simp)) (fun j p hj => by rw [Nat.zero_add]; exact hc 0 es k rfl rfl j p hj)) this
theorem CalleeA.ok (h : Rel w0 I n L s a w) (hX : ∀ i ∈ X, (s.r i).isSome) {av : AV} {f : FuncId} {pss : List (List PV)} (g : CalleeA s X av f pss) {v : Value} (hv : AVR L w s av v) : ∃ cv, v = .func (.func f) #[] ⟨cv⟩ ∧ PASs (rest L w X) w (pss.map .fbox) cv [] := by
  cases g with
  | val hd =>
    simp only [AVR] at hv
    obtain ⟨hp, hs⟩ := hv
    have hz := rest_zd h hX (fun i e => ⟨hd i e, hs i e⟩)
    cases hp with
    | clo _ _ ks hl hks u hcell hp =>
      refine ⟨_, rfl, boxes_pas pss ks hl (fun k hk => hz k (hks k hk)) (fun i es k h1 h2 j p hj => ⟨u i j, hcell i j es k p h1 h2 hj, (hp i j es p h1 hj).mono (fun _ _ => rfl) hz⟩)⟩
  | clo g =>
    rename_i bs
    have hv' := Brw.ok h hX (.clo g) hv
    simp only [AVR] at hv
    have hp := hv'.2
    generalize v = v0 at hp
    cases hp with
    | clo _ _ ks hl hks u hcell hp => exact ⟨_, rfl, boxes_pas pss ks hl hks (fun i es k h1 h2 j p hj => ⟨u i j, hcell i j es k p h1 h2 hj, hp i j es p h1 hj⟩)⟩
end
theorem PASs.append {Z : Nat → Prop} {w : World} {ps : List PA} {vs : List Value} {E : List Leaf} (h : PASs Z w ps vs E) {ps' : List PA} {vs' : List Value} {E' : List Leaf} (h' : PASs Z w ps' vs' E') : PASs Z w (ps ++ ps') (vs ++ vs') (E ++ E') := by
  induction h with
  | nil => exact h'
  | cons g _ ih => simp only [List.cons_append, List.append_assoc]; exact .cons g ih
theorem PS.up {Z Z' : Nat → Prop} {w : World} {p : PV} {v : Value} {E : List Leaf} (h : PS Z w p v E) (hz : ∀ k, Z k → Z' k) : PS Z' w p v E := by
  cases h with
  | own h => exact .own (h.up hz)
  | nf hn h => exact .nf hn (h.up hz)
theorem PSs.up {Z Z' : Nat → Prop} {w : World} {ps : List PV} {vs : List Value} {E : List Leaf} (h : PSs Z w ps vs E) (hz : ∀ k, Z k → Z' k) : PSs Z' w ps vs E := by
  induction h with
  | nil => exact .nil
  | cons g _ ih => exact .cons (g.up hz) ih
theorem PAS.up {Z Z' : Nat → Prop} {w : World} {p : PA} {v : Value} {E : List Leaf} (h : PAS Z w p v E) (hz : ∀ k, Z k → Z' k) : PAS Z' w p v E := by
  cases h with
  | one h => exact .one (h.up hz)
  | agg h => exact .agg (h.up hz)
  | fbox h1 h2 => exact .fbox (hz _ h1) (fun j p hj => by obtain ⟨u, hu, hr⟩ := h2 j p hj; exact ⟨u, hu, hr.mono (fun _ _ => rfl) hz⟩)
  | rptr h => exact .rptr (h.up hz)
theorem RES.up {Z Z' : Nat → Prop} {w : World} {ps : List PA} {v : Value} {E : List Leaf} (h : RES Z w ps v E) (hz : ∀ k, Z k → Z' k) : RES Z' w ps v E := by
  cases h with
  | one h => exact .one (h.up hz)
  | more hl h =>
    refine .more hl ?_
    clear hl
    induction h with
    | nil => exact .nil
    | cons g _ ih => exact .cons (g.up hz) ih
theorem Kept.mem {s : St} {X : List Nat} {outs kr K} (g : Kept s X outs kr K) : (∀ i ∈ X, i ∈ K ∨ i ∈ kr.map (·.1)) ∧ (∀ i ∈ K, i ∈ X) ∧ (∀ i ∈ kr.map (·.1), i ∈ X) ∧ outs.length = X.length := by
  induction g with
  | nil => simp
  | keep hr hn _ ih =>
    obtain ⟨h1, h2, h3, h4⟩ := ih
    refine ⟨fun i hi => ?_, fun i hi => List.mem_cons_of_mem _ (h2 i hi), fun i hi => ?_, by simp [h4]⟩
    · rcases List.mem_cons.1 hi with rfl | hi
      · exact .inr (by simp)
      · exact (h1 i hi).imp (fun h => h) (fun h => by simp only [List.map_cons, List.mem_cons]; exact .inr h)
    · simp only [List.map_cons, List.mem_cons] at hi
      rcases hi with rfl | hi
      · simp
      · exact List.mem_cons_of_mem _ (h3 i hi)
  | gone _ ih =>
    obtain ⟨h1, h2, h3, h4⟩ := ih
    refine ⟨fun i hi => ?_, fun i hi => ?_, fun i hi => List.mem_cons_of_mem _ (h3 i hi), by simp [h4]⟩
    · rcases List.mem_cons.1 hi with rfl | hi
      · exact .inl (by simp)
      · exact (h1 i hi).imp (fun h => List.mem_cons_of_mem _ h) (fun h => h)
    · rcases List.mem_cons.1 hi with rfl | hi
      · simp
      · exact List.mem_cons_of_mem _ (h2 i hi)
theorem Kept.kr {s : St} {X : List Nat} {outs kr K} (g : Kept s X outs kr K) (hX : X.Nodup) : ∀ {i sz xs'}, (i, sz, xs') ∈ kr → i ∉ K ∧ ∃ xs, s.r i = some (sz, xs) ∧ NfP xs ∧ ∃ q : Nat, X[q]? = some i ∧ outs[q]? = some (some xs') := by
  induction g with
  | nil => intro i sz xs' h; cases h
  | keep hr hn t ih =>
    intro i sz xs' h
    obtain ⟨hx1, hx2⟩ := List.nodup_cons.1 hX
    rcases List.mem_cons.1 h with e | h
    · cases e
      exact ⟨fun hk => hx1 (t.mem.2.1 _ hk), _, hr, hn, 0, rfl, rfl⟩
    · obtain ⟨h1, xs, h2, h3, q, h4, h5⟩ := ih hx2 h
      exact ⟨h1, xs, h2, h3, q + 1, h4, h5⟩
  | gone t ih =>
    intro i sz xs' h
    obtain ⟨hx1, hx2⟩ := List.nodup_cons.1 hX
    obtain ⟨h1, xs, h2, h3, q, h4, h5⟩ := ih hx2 h
    refine ⟨fun hk => ?_, xs, h2, h3, q + 1, h4, h5⟩
    rcases List.mem_cons.1 hk with rfl | hk
    · exact hx1 (t.mem.2.2.1 i (List.mem_map.2 ⟨_, h, rfl⟩))
    · exact h1 hk
theorem Kept.gone_at {s : St} {X : List Nat} {outs kr K} (g : Kept s X outs kr K) : ∀ {q i : Nat}, X[q]? = some i → (∀ xs', outs[q]? ≠ some (some xs')) → i ∈ K := by
  induction g with
  | nil => intro q i h; simp at h
  | keep hr hn t ih =>
    intro q i h1 h2
    cases q with
    | zero => exact absurd rfl (h2 _)
    | succ q => exact ih h1 h2
  | gone t ih =>
    intro q i h1 h2
    cases q with
    | zero => simp at h1; subst h1; simp
    | succ q => exact List.mem_cons_of_mem _ (ih h1 h2)
theorem setRs_none : ∀ (l : List (Nat × Nat × List (List PV))) (q : Nat), setRs (fun _ => none) l q = none → q ∉ l.map (·.1)
  | [], q, _ => by simp
  | x :: l, q, h => by
    simp only [setRs] at h
    rw [setRs_eq] at h
    cases e : setRs (fun _ => none) l q with
    | some c => rw [e] at h; cases h
    | none =>
      rw [e] at h
      have h1 := setRs_none l q e
      simp only [List.map_cons, List.mem_cons, not_or]
      refine ⟨fun hq => ?_, h1⟩
      subst hq
      simp at h

/-- n numbers from rid on are free. -/
def FreshN (s : St) (M : List Nat) : Nat → Nat → Prop
  | _, 0 => True
  | rid, n + 1 => M.elem rid = true ∧ s.r rid = none ∧ FreshN s M (rid + 1) n
def freshB (s : St) (M : List Nat) : Nat → Nat → Bool
  | _, 0 => true
  | rid, n + 1 => M.elem rid && (s.r rid).isNone && freshB s M (rid + 1) n
theorem freshN {s : St} {M : List Nat} : ∀ {n rid : Nat}, freshB s M rid n = true → FreshN s M rid n
  | 0, _, _ => trivial
  | n + 1, rid, h => by
    simp only [freshB, Bool.and_eq_true, Option.isNone_iff_eq_none] at h
    exact ⟨h.1.1, h.1.2, freshN h.2⟩
theorem FreshN.get {s : St} {M : List Nat} : ∀ {n rid : Nat}, FreshN s M rid n → ∀ i, rid ≤ i → i < rid + n → i ∈ M ∧ s.r i = none
  | 0, rid, _, i, h1, h2 => by omega
  | n + 1, rid, h, i, h1, h2 => by
    simp only [FreshN] at h
    by_cases e : i = rid
    · subst e; exact ⟨by simpa using h.1, h.2.1⟩
    · exact FreshN.get h.2.2 i (by omega) (by omega)

section
variable {γ : Gho} {P : Program} {n : Nat} {o : Oper} {M B : List Nat} {s : St}
theorem run_call {x : Operand} {args : List Operand} {ats : Array TypeId} (ho : o.op = .call { callee := .value x, args := args.toArray, argTypes := ats }) {a : Act} {w : World} {f : FuncId} {cv : List Value} (hx : a.eval x = .func (.func f) #[] ⟨cv⟩) (hE : ∀ as w, (callFunc f as).run P w = .ok (.enter f as) w) :
    (execOp a.eval o).run P w = .ok (.enter f ⟨args.map a.eval ++ cv⟩) w := by
  simp only [execOp, ho, resolve, hx, Deferred.ofValue, Sem.run_bind, Sem.run_pure, Result.andThen_ok, invoke, hE]
  congr 2
  apply Array.ext'
  simp
theorem evs_of {w0 : World} {I : Fr} {L : Pl} {a : Act} {w : World} (hr : Rel w0 I n L s a w) : ∀ (args : List Operand), AVRs L w s (args.map s.ev) (args.map a.eval)
  | [] => by simp [AVRs]
  | x :: args => by simp only [List.map_cons, AVRs]; exact ⟨hr.ev x, evs_of hr args⟩
theorem st_callG {γ' : Gho} (hγ : γ' = none ∨ γ' = γ) {x : Operand} {args : List Operand} {ats : Array TypeId} (ho : o.op = .call { callee := .value x, args := args.toArray, argTypes := ats }) (rid : Nat) {f : FuncId} {pas : List PA} {pss : List (List PV)} {X : List Nat} {outs : List (Option (List (List PV)))} {kr : List (Nat × Nat × List (List PV))} {K : List Nat} {res : List PA} {cav : AV}
    (hE : ∀ as w, (callFunc f as).run P w = .ok (.enter f as) w) (hx : s.ev x = cav) (hc : CalleeA (s.only M B) X cav f pss) (ha : ArgAs (s.only M B) X (args.map s.ev) pas X) (hXn : X.Nodup) (hXM : ∀ i ∈ X, ((s.only M B).r i).isSome = true) (hk : Kept (s.only M B) X outs kr K) {all : List PA} (hcon : ConG γ' P f all outs res) (hall : all = pas ++ pss.map .fbox)
    (hf' : freshB s M rid (pSize PA.size res) = true) (hpin : rid + pSize PA.size res ≤ pinT) : StepD γ P n o M B s { put := resAV rid res, kill := K, setR := kr ++ pRowss PA.size rid res } := by
  intro s' ag hd w0 I L a w hG hr KK Q hK
  subst hall
  have hf := freshN hf'
  have hon := only_ag ag
  rw [← hon] at hc ha hk hXM
  have hl := only_less s' M B
  have hX : ∀ i ∈ X, (s'.r i).isSome := fun i hi => by
    obtain ⟨y, hy⟩ := Option.isSome_iff_exists.1 (hXM i hi)
    rw [hl.r i y hy]; rfl
  have hev : args.map s'.ev = args.map s.ev := List.map_congr_left (fun y hy => ag.ev1 ho (by simp [Op.operands, Call.operands, hy]))
  have hk' := hk.mono hl
  have hxv := hr.ev x
  rw [ag.ev1 ho (by simp [Op.operands, Call.operands]), hx] at hxv
  obtain ⟨cv, e1, e2⟩ := (hc.mono hl).ok hr hX hxv
  have e3 := (ha.mono hl).ok hr hX (by rw [← hev]; exact evs_of hr args)
  have e4 := e3.append e2
  rw [List.append_nil] at e4
  have hall : Leaf.all (X.map (lf L s')) = X.flatMap L.ν := by simp [Leaf.all, List.flatMap_map, lf]
  obtain ⟨hnd, hlab⟩ := hr.nodup hXn hX
  unfold Oper.wp
  rw [run_call ho e1 hE, Oper.upon_enter]
  have hGw : Gh γ' w (Leaf.all (X.map (lf L s'))) := by
    rcases hγ with rfl | rfl
    · exact gh_none _ _
    · intro k ob e
      obtain ⟨g1, g2⟩ := hG k ob e
      have hlt := (Array.getElem?_eq_some_iff.1 g1).1
      refine ⟨(hr.same.block k hlt g2).trans g1, fun hx => ?_⟩
      rw [hall] at hx
      obtain ⟨i, _, hl⟩ := hlab k hx
      rcases (hr.llt k _ hl).2 with h3 | h3
      · omega
      · exact g2 h3
  refine (hcon (rest L w X) w _ _ hGw e4 (fun k hk => by rw [hall]; exact hk) (by rw [hall]; exact hnd) (fun k hk => by rw [hall] at hk; obtain ⟨i, _, hl⟩ := hlab k hk; exact (hr.llt k _ hl).1)).mono (fun e w' hp => ?_)
  obtain ⟨v, F, rfl, hsame, hkept, hres, hFn, hFk⟩ := hp
  rw [hall] at hsame
  obtain ⟨m1, m2, m3, m4⟩ := hk'.mem
  have hKO : ∀ i ∈ K ++ kr.map (·.1), (s'.r i).isSome := fun i hi => hX i ((List.mem_append.1 hi).elim (m2 i) (m3 i))
  have hsub : ∀ k, k ∈ X.flatMap L.ν → k ∈ (K ++ kr.map (·.1)).flatMap L.ν := fun k hk => by
    obtain ⟨i, hi, hki⟩ := List.mem_flatMap.1 hk
    exact List.mem_flatMap.2 ⟨i, List.mem_append.2 (m1 i hi), hki⟩
  have hJ : Same ((K ++ kr.map (·.1)).flatMap L.ν) w w' := ⟨hsame.os, hsame.tape, hsame.output, hsame.size, fun k hk hn => hsame.block k hk (fun hx => hn (hsub k hx))⟩
  have hkr : ∀ {i sz xs'}, (i, sz, xs') ∈ kr → i ∉ K ∧ ∃ xs, s'.r i = some (sz, xs) ∧ NfP xs ∧ PVO no w' (.sl true sz xs') (L.ρ i) (L.ν i) := fun {i sz xs'} h => by
    obtain ⟨h1, xs, h2, h3, q, h4, h5⟩ := hk'.kr hXn h
    obtain ⟨hflat, N', hN'⟩ := hkept q (lf L s' i) xs' (by rw [List.getElem?_map, h4]; rfl) h5
    have hlf : lf L s' i = ⟨L.ρ i, L.ν i, sz⟩ := by simp [lf, h2]
    rw [hlf] at hN'
    obtain ⟨r1, _, _⟩ := hr.rw i sz xs h2
    have hNN : L.ν i = N' := by
      rcases head_nf r1 hN' hflat with e | ⟨k, m, e5, e6⟩
      · exact e
      · have := tail_nf r1 h3
        rw [e5] at this
        simp only [List.tail_cons] at this
        rw [e5, e6, this]
    rw [hNN]
    exact ⟨h1, xs, h2, h3, hN'⟩
  have hc1 := hr.call1 K (kr.map (·.1)) hKO (r' := setRs (s'.kill K).r kr) hJ (fun i sz xs' hi => by
    rw [setRs_eq] at hi
    cases e : setRs (fun _ => none) kr i with
    | some y =>
      rw [e] at hi
      cases hi
      have hm := setRs_mem _ _ _ e
      obtain ⟨g1, xs, g2, g3, g4⟩ := hkr hm
      exact .inr ⟨List.mem_map.2 ⟨_, hm, rfl⟩, g1, xs, g2, g3, g4⟩
    | none =>
      rw [e] at hi
      simp only [St.kill] at hi
      split at hi
      · cases hi
      · rename_i hn
        exact .inl ⟨hi, hn, setRs_none _ _ e⟩) (fun i sz xs hn hi => by
    rw [setRs_eq]
    cases e : setRs (fun _ => none) kr i with
    | some y =>
      have hm := setRs_mem _ _ _ e
      obtain ⟨sz', xs'⟩ := y
      obtain ⟨g1, xs0, g2, g3, g4⟩ := hkr hm
      rw [hi] at g2
      cases g2
      exact ⟨xs', rfl⟩
    | none =>
      refine ⟨xs, ?_⟩
      simp only [St.kill]
      rw [if_neg hn]
      exact hi)
  have hfr : ∀ i, rid ≤ i → i < rid + pSize PA.size res → s'.r i = none := fun i h1 h2 => by
    obtain ⟨h3, h4⟩ := hf.get i h1 h2
    exact (ag.m i h3).trans h4
  obtain ⟨L', hrel, hav⟩ := takeR (id := rid) hc1 (hres.up (fun _ h => h.elim)) (fun k hk => by
    rcases hFk k hk with h1 | ⟨q, lf', h1, h2, h3⟩
    · have hn : L.lab k = none := by
        cases e : L.lab k with
        | none => rfl
        | some l => have := (hr.llt k l e).1; omega
      refine ⟨?_, fun hz => ?_, .inl (Nat.le_trans hr.same.size h1)⟩
      · simp only
        split
        · rfl
        · exact hn
      · have := (hr.zlt k hz).1; omega
    · rw [List.getElem?_map] at h1
      obtain ⟨i, hi, rfl⟩ := Option.map_eq_some_iff.1 h1
      simp only [lf] at h2 h3
      obtain ⟨⟨sz, xs⟩, hsx⟩ := Option.isSome_iff_exists.1 (hX i (List.mem_of_getElem? hi))
      obtain ⟨r1, r2, r3⟩ := hr.rw i sz xs hsx
      have hgone : i ∈ K := hk'.gone_at hi (fun xs' ho => by
        have ht := h3 xs' ho
        have : ∀ {X outs kr K}, Kept s' X outs kr K → ∀ {q i : Nat} {xs'}, X[q]? = some i → outs[q]? = some (some xs') → ∃ sz xs, s'.r i = some (sz, xs) ∧ NfP xs := fun {X outs kr K} g => by
          induction g with
          | nil => intro q i xs' h; simp at h
          | keep hr hn t ih =>
            intro q i xs' h1 h2
            cases q with
            | zero => simp at h1; subst h1; exact ⟨_, _, hr, hn⟩
            | succ q => exact ih h1 h2
          | gone t ih =>
            intro q i xs' h1 h2
            cases q with
            | zero => simp at h2
            | succ q => exact ih h1 h2
        obtain ⟨sz', xs', g1, g2⟩ := this hk' hi ho
        rw [hsx] at g1
        cases g1
        rw [tail_nf r1 g2] at ht
        cases ht)
      refine ⟨?_, fun hz => ?_, (hr.llt k _ (r3 k h2)).2⟩
      · simp only
        rw [if_pos (List.mem_flatMap.2 ⟨i, hgone, h2⟩)]
      · have := (hr.zlt k hz).2
        rw [r3 k h2] at this
        cases this) hFn (fun i h1 h2 => by
    simp only
    rw [setRs_eq]
    cases e : setRs (fun _ => none) kr i with
    | some y =>
      obtain ⟨sz, xs'⟩ := y
      obtain ⟨_, xs, g2, _⟩ := hkr (setRs_mem _ _ _ e)
      rw [hfr i h1 h2] at g2
      cases g2
    | none =>
      simp only [St.kill]
      split
      · rfl
      · exact hfr i h1 h2) hpin
  have hfin := hrel.put hd hav
  exact hK _ _ _ (by rw [Dl.app, killd_rec]; simp only; rw [setRs_append]; exact hfin)
theorem st_call {x : Operand} {args : List Operand} {ats : Array TypeId} (ho : o.op = .call { callee := .value x, args := args.toArray, argTypes := ats }) (rid : Nat) {f : FuncId} {pas : List PA} {pss : List (List PV)} {X : List Nat} {outs : List (Option (List (List PV)))} {kr : List (Nat × Nat × List (List PV))} {K : List Nat} {res : List PA} {cav : AV}
    (hE : ∀ as w, (callFunc f as).run P w = .ok (.enter f as) w) (hx : s.ev x = cav) (hc : CalleeA (s.only M B) X cav f pss) (ha : ArgAs (s.only M B) X (args.map s.ev) pas X) (hXn : X.Nodup) (hXM : ∀ i ∈ X, ((s.only M B).r i).isSome = true) (hk : Kept (s.only M B) X outs kr K) {all : List PA} (hcon : Con P f all outs res) (hall : all = pas ++ pss.map .fbox)
    (hf' : freshB s M rid (pSize PA.size res) = true) (hpin : rid + pSize PA.size res ≤ pinT) : StepD γ P n o M B s { put := resAV rid res, kill := K, setR := kr ++ pRowss PA.size rid res } :=
  st_callG (.inl rfl) ho rid hE hx hc ha hXn hXM hk hcon hall hf' hpin
end
end Go.Rl

/- R, part O: what a function promises, and what a call needs. -/
import Derived.Test.YtmjfdldfaeaolaaRlN
namespace Go.Rl
open Go.RowKit

/-- An argument, or a result: one cell, more cells, a variable that is only read. -/
inductive PA where
  | one (p : PV)
  | agg (ps : List PV)
  | fbox (ps : List PV)
  | rptr (sz : Nat) (ps : List PV)
/-- A row that is handed over. -/
structure Leaf where
  v : Value
  N : List Nat
  sz : Nat
abbrev Leaf.all (E : List Leaf) : List Nat := E.flatMap (·.N)
def no : Nat → Prop := fun _ => False

/-- p stands at v; its rows are E's. -/
inductive PS (Z : Nat → Prop) (w : World) : PV → Value → List Leaf → Prop where
  | own {sz : Nat} {xs : List (List PV)} {v : Value} {N : List Nat} (h : PVO Z w (.sl true sz xs) v N) : PS Z w (.sl true sz xs) v [⟨v, N, sz⟩]
  | nf {p : PV} {v : Value} (hn : p.nf = true) (h : PVO Z w p v []) : PS Z w p v []
inductive PSs (Z : Nat → Prop) (w : World) : List PV → List Value → List Leaf → Prop where
  | nil : PSs Z w [] [] []
  | cons {p : PV} {v : Value} {E : List Leaf} {ps : List PV} {vs : List Value} {E' : List Leaf} (h : PS Z w p v E) (t : PSs Z w ps vs E') : PSs Z w (p :: ps) (v :: vs) (E ++ E')
inductive PAS (Z : Nat → Prop) (w : World) : PA → Value → List Leaf → Prop where
  | one {p : PV} {v : Value} {E : List Leaf} (h : PS Z w p v E) : PAS Z w (.one p) v E
  | agg {ps : List PV} {us : List Value} {E : List Leaf} (h : PSs Z w ps us E) : PAS Z w (.agg ps) (.agg ⟨us⟩) E
  | fbox {ps : List PV} {k off : Nat} (hz : Z k) (h : ∀ (j : Nat) p, ps[j]? = some p → ∃ u, w.cell? ⟨k, off + j, none⟩ = some u ∧ PVR Z w p u) : PAS Z w (.fbox ps) (.pointer (some ⟨k, off, none⟩)) []
  | rptr {sz : Nat} {ps : List PV} {k c : Nat} {N : List Nat} (h : PVO Z w (.sl true sz [ps]) (.slice (some ⟨k, 0, none⟩) 1 c) N) : PAS Z w (.rptr sz ps) (.pointer (some ⟨k, 0, none⟩)) [⟨.slice (some ⟨k, 0, none⟩) 1 c, N, sz⟩]
inductive PASs (Z : Nat → Prop) (w : World) : List PA → List Value → List Leaf → Prop where
  | nil : PASs Z w [] [] []
  | cons {p : PA} {v : Value} {E : List Leaf} {ps : List PA} {vs : List Value} {E' : List Leaf} (h : PAS Z w p v E) (t : PASs Z w ps vs E') : PASs Z w (p :: ps) (v :: vs) (E ++ E')
/-- What a call gives back. -/
inductive RES (Z : Nat → Prop) (w : World) : List PA → Value → List Leaf → Prop where
  | one {p : PA} {v : Value} {E : List Leaf} (h : PAS Z w p v E) : RES Z w [p] v E
  | more {ps : List PA} {vs : List Value} {E : List Leaf} (hl : ps.length ≠ 1) (h : PASs Z w ps vs E) : RES Z w ps (.tuple ⟨vs⟩) E

/-- The promise: f, called with args, gives back res; of the rows that it was handed the i-th has outs i, if that is told (else it is gone); all else stays. -/
def ConG (γ : Gho) (P : Program) (f : FuncId) (args : List PA) (outs : List (Option (List (List PV)))) (res : List PA) : Prop :=
  ∀ Z w vs E, Gh γ w (Leaf.all E) → PASs Z w args vs E → (∀ k, Z k → k < w.heap.size ∧ k ∉ Leaf.all E) → (Leaf.all E).Nodup → (∀ k ∈ Leaf.all E, k < w.heap.size) → Calls P f ⟨vs⟩ w fun e w' => ∃ v F, e = .returned v ∧ Same (Leaf.all E) w w' ∧
    (∀ (i : Nat) lf xs', E[i]? = some lf → outs[i]? = some (some xs') → FlatP xs' ∧ ∃ N, PVO no w' (.sl true lf.sz xs') lf.v N) ∧
    RES no w' res v F ∧ (Leaf.all F).Nodup ∧ ∀ k ∈ Leaf.all F, w.heap.size ≤ k ∨ ∃ (i : Nat) (lf : Leaf), E[i]? = some lf ∧ k ∈ lf.N ∧ ∀ xs', outs[i]? = some (some xs') → k ∈ lf.N.tail

theorem gh_none (w : World) (B : List Nat) : Gh none w B := fun _ _ h => by cases h
/-- The promise of a function that asks nothing of memory but its arguments. -/
abbrev Con (P : Program) (f : FuncId) (args : List PA) (outs : List (Option (List (List PV)))) (res : List PA) : Prop := ConG none P f args outs res
/-! #### the caller's side -/
mutual
/-- What is lent: p is read there, away from the rows X. -/
inductive Brw (s : St) (X : List Nat) : AV → PV → Prop where
  | v {d : Option Nat} {x : Value} : Brw s X (.p d (.v x)) (.v x)
  | sl {d : Option Nat} {o : Bool} {sz : Nat} {xs : List (List PV)} (hd : ∀ i, d = some i → i ∉ X) : Brw s X (.p d (.sl o sz xs)) (.sl false sz xs)
  | cl {d : Option Nat} {f : Nat} {xs : List (List PV)} (hd : ∀ i, d = some i → i ∉ X) : Brw s X (.p d (.clo f xs)) (.clo f xs)
  | nil (sz : Nat) : Brw s X .nils (.sl false sz [])
  | row {id lo len sz : Nat} {xs : List (List PV)} (hr : s.r id = some (sz, xs)) (hi : id ∉ X) : Brw s X (.sl id lo len) (.sl false sz ((xs.drop lo).take len))
  | all {id len sz : Nat} {xs : List (List PV)} (hr : s.r id = some (sz, xs)) (hl : len = xs.length) (hi : id ∉ X) : Brw s X (.sl id 0 len) (.sl false sz xs)
  | clo {f : Nat} {bs : List Nat} {pss : List (List PV)} (h : BrwB s X bs pss) : Brw s X (.clo f bs) (.clo f pss)
inductive Brws (s : St) (X : List Nat) : List AV → List PV → Prop where
  | nil : Brws s X [] []
  | cons {a : AV} {p : PV} {as : List AV} {ps : List PV} (h : Brw s X a p) (t : Brws s X as ps) : Brws s X (a :: as) (p :: ps)
inductive BrwB (s : St) (X : List Nat) : List Nat → List (List PV) → Prop where
  | nil : BrwB s X [] []
  | cons {b : Nat} {cs : List AV} {ps : List PV} {bs : List Nat} {pss : List (List PV)} (hb : s.b b = some cs) (h : Brws s X cs ps) (t : BrwB s X bs pss) : BrwB s X (b :: bs) (ps :: pss)
end
theorem PVR.nfO {Z : Nat → Prop} {w : World} {p : PV} {v : Value} (h : PVR Z w p v) (hn : p.nf = true) : PVO Z w p v [] := by
  cases p with
  | v x => cases h; exact .v _ ‹_›
  | sl o sz xs =>
    simp [PV.nf] at hn
    subst hn
    exact .fro _ _ _ h
  | clo f xs => exact .clo _ _ _ h
section
variable {w0 : World} {I : Fr} {n : Nat} {L : Pl} {s : St} {a : Act} {w : World} {X : List Nat}
/-- The blocks that are not handed over. -/
def rest (L : Pl) (w : World) (X : List Nat) : Nat → Prop := fun k => k < w.heap.size ∧ k ∉ X.flatMap L.ν
theorem rest_zd (h : Rel w0 I n L s a w) (hX : ∀ i ∈ X, (s.r i).isSome) {d : Option Nat} (hd : ∀ i, d = some i → i ∉ X ∧ (s.r i).isSome) : ∀ k, L.zd d k → rest L w X k := fun k hk => by
  have lab : k ∈ X.flatMap L.ν → ∃ i ∈ X, L.lab k = some (.row i) := fun hx => by
    obtain ⟨i, hi, hki⟩ := List.mem_flatMap.1 hx
    obtain ⟨⟨sz, xs⟩, hr⟩ := Option.isSome_iff_exists.1 (hX i hi)
    exact ⟨i, hi, (h.rw i sz xs hr).2.2 k hki⟩
  rcases hk with hk | ⟨id, rfl, hk⟩
  · exact ⟨(h.zlt k hk).1, fun hx => by obtain ⟨i, _, e⟩ := lab hx; rw [(h.zlt k hk).2] at e; cases e⟩
  · obtain ⟨hn, hs⟩ := hd id rfl
    obtain ⟨⟨sz, xs⟩, hr⟩ := Option.isSome_iff_exists.1 hs
    have h1 := h.rw id sz xs hr
    refine ⟨h1.1.lt k (List.mem_of_mem_tail hk), fun hx => ?_⟩
    obtain ⟨i, hi, e⟩ := lab hx
    rw [h1.2.2 k (List.mem_of_mem_tail hk)] at e
    simp only [Option.some.injEq, Lab.row.injEq] at e
    subst e
    exact hn hi
theorem rest_row (h : Rel w0 I n L s a w) (hX : ∀ i ∈ X, (s.r i).isSome) {id sz : Nat} {xs : List (List PV)} (hr : s.r id = some (sz, xs)) (hi : id ∉ X) : PVR (rest L w X) w (.sl true sz xs) (L.ρ id) := by
  obtain ⟨h1, h2, h3⟩ := h.rw id sz xs hr
  refine h1.toR.mono (fun _ _ => rfl) (fun k hk => ?_)
  rcases hk with hk | hk
  · exact rest_zd h hX (d := none) (fun _ h => by cases h) k (.inl hk)
  · refine ⟨h1.lt k hk, fun hx => ?_⟩
    obtain ⟨i, hi', hki⟩ := List.mem_flatMap.1 hx
    obtain ⟨⟨sz', xs'⟩, hr'⟩ := Option.isSome_iff_exists.1 (hX i hi')
    have e := (h.rw i sz' xs' hr').2.2 k hki
    rw [h3 k hk] at e
    simp only [Option.some.injEq, Lab.row.injEq] at e
    subst e
    exact hi hi'
theorem view_whole {v0 v : Value} {sz len : Nat} (h : View v0 sz 0 len v) (hl : ∀ A n c, v0 = .slice A n c → n = len) : v = v0 := by
  obtain ⟨A, n, c, A', c', rfl, rfl, _, h0, _⟩ := h
  obtain ⟨rfl, rfl⟩ := h0 rfl
  rw [hl _ _ _ rfl]
theorem pvr_len {Z : Nat → Prop} {w : World} {o : Bool} {sz : Nat} {xs : List (List PV)} {v : Value} (h : PVR Z w (.sl o sz xs) v) : ∀ A n c, v = .slice A n c → n = xs.length := fun A n c e => by
  subst e
  cases h <;> rfl
mutual
theorem Brw.ok (h : Rel w0 I n L s a w) (hX : ∀ i ∈ X, (s.r i).isSome) : ∀ {av : AV} {p : PV} (_ : Brw s X av p) {v : Value} (_ : AVR L w s av v), p.nf = true ∧ PVR (rest L w X) w p v
  | _, _, .v, v, hv => by simp only [AVR] at hv; have h1 := hv.1; cases h1; exact ⟨rfl, .v _ ‹_›⟩
  | _, _, .sl hd, v, hv => by simp only [AVR] at hv; exact ⟨rfl, (hv.1.flag false).mono (fun _ _ => rfl) (rest_zd h hX (fun i e => ⟨hd i e, hv.2 i e⟩))⟩
  | _, _, .cl hd, v, hv => by simp only [AVR] at hv; exact ⟨rfl, hv.1.mono (fun _ _ => rfl) (rest_zd h hX (fun i e => ⟨hd i e, hv.2 i e⟩))⟩
  | _, _, .nil sz, v, hv => by simp only [AVR] at hv; obtain ⟨A, rfl⟩ := hv; exact ⟨rfl, .emp _ _ _ _⟩
  | _, _, .row (id := id) (lo := lo) (len := len) (sz := sz) (xs := xs) hr hi, v, hv => by
    simp only [AVR] at hv
    obtain ⟨sz', xs', e1, e2, A, m, c, A', c', e3, rfl, e5, e6, e7⟩ := hv
    rw [hr] at e1
    cases e1
    have hp := rest_row h hX hr hi
    have hm := pvr_len hp A m c e3
    rw [e3] at hp
    subst hm
    refine ⟨rfl, (hp.flag false).cut e2 _ _ e5 (fun hpos => ?_)⟩
    obtain ⟨k, rfl, rfl⟩ := e7 hpos
    exact ⟨k, 0, rfl, by rw [Nat.zero_add]⟩
  | _, _, .all hr hl hi, v, hv => by
    simp only [AVR] at hv
    obtain ⟨sz', xs', e1, e2, e3⟩ := hv
    rw [hr] at e1
    cases e1
    have hp := rest_row h hX hr hi
    have := view_whole e3 (fun A n c e => (pvr_len hp A n c e).trans hl.symm)
    subst this
    exact ⟨rfl, hp.flag false⟩
  | _, _, .clo (f := f) (bs := bs) (pss := pss) hb, v, hv => by
    simp only [AVR] at hv
    obtain ⟨hl, u, hu⟩ := BrwB.ok h hX hb
    refine ⟨rfl, ?_⟩
    rw [hv.2]
    have : (bs.map fun b => Value.pointer (some ⟨L.β b, 0, none⟩)) = (bs.map L.β).map fun k => Value.pointer (some ⟨k, 0, none⟩) := by simp
    rw [this]
    refine .clo f pss (bs.map L.β) (by simpa using hl) (fun k hk => ?_) u (fun i j es k p h1 h2 h3 => ?_) (fun i j es p h1 h2 => ?_)
    · obtain ⟨b, hb', rfl⟩ := List.mem_map.1 hk
      obtain ⟨cs, hcs⟩ := Option.isSome_iff_exists.1 (hv.1 b hb')
      have hlb := (h.bx b cs hcs).1
      refine ⟨(h.llt _ _ hlb).1, fun hx => ?_⟩
      obtain ⟨i, hi, hki⟩ := List.mem_flatMap.1 hx
      obtain ⟨⟨sz, xs⟩, hr⟩ := Option.isSome_iff_exists.1 (hX i hi)
      have := (h.rw i sz xs hr).2.2 _ hki
      rw [hlb] at this
      cases this
    · rw [List.getElem?_map] at h2
      obtain ⟨b, hb1, hb2⟩ := Option.map_eq_some_iff.1 h2
      subst hb2
      exact (hu i j b es p hb1 h1 h3).1
    · have hlt : i < bs.length := by rw [hl]; exact (List.getElem?_eq_some_iff.1 h1).1
      exact (hu i j bs[i] es p (List.getElem?_eq_getElem hlt) h1 h2).2
theorem Brws.ok (h : Rel w0 I n L s a w) (hX : ∀ i ∈ X, (s.r i).isSome) : ∀ {as : List AV} {ps : List PV} (_ : Brws s X as ps) {us : List Value} (_ : AVRs L w s as us), ps.length = us.length ∧ ∀ (j : Nat) p, ps[j]? = some p → ∃ u, us[j]? = some u ∧ p.nf = true ∧ PVR (rest L w X) w p u
  | _, _, .nil, us, hv => by
    cases us with
    | nil => exact ⟨rfl, by simp⟩
    | cons _ _ => simp [AVRs] at hv
  | _, _, .cons hb ht, us, hv => by
    cases us with
    | nil => simp [AVRs] at hv
    | cons u us =>
      simp only [AVRs] at hv
      obtain ⟨h1, h2⟩ := Brws.ok h hX ht hv.2
      refine ⟨by simp [h1], fun j p hj => ?_⟩
      cases j with
      | zero => simp at hj; subst hj; exact ⟨u, rfl, Brw.ok h hX hb hv.1⟩
      | succ j => simp at hj; simpa using h2 j p hj
theorem BrwB.ok (h : Rel w0 I n L s a w) (hX : ∀ i ∈ X, (s.r i).isSome) : ∀ {bs : List Nat} {pss : List (List PV)} (_ : BrwB s X bs pss), bs.length = pss.length ∧ ∃ u : Nat → Nat → Value, ∀ (i j b : Nat) es p, bs[i]? = some b → pss[i]? = some es → es[j]? = some p → w.cell? ⟨L.β b, j, none⟩ = some (u i j) ∧ PVR (rest L w X) w p (u i j)
  | _, _, .nil => ⟨rfl, fun _ _ => undef, by simp⟩
  | _, _, .cons (b := b) (cs := cs) hb hc ht => by
    obtain ⟨h1, u, hu⟩ := BrwB.ok h hX ht
    obtain ⟨us, h2, h3⟩ := h.box hb
    obtain ⟨h4, h5⟩ := Brws.ok h hX hc h2
    refine ⟨by simp [h1], fun i j => match i with | 0 => us.getD j undef | i + 1 => u i j, fun i j b' es p hb' hes hp => ?_⟩
    cases i with
    | zero =>
      simp at hb' hes
      subst hb' hes
      obtain ⟨x, hx, _, hr⟩ := h5 j p hp
      simp only [List.getD_eq_getElem?_getD, hx, Option.getD_some]
      exact ⟨h3 j x hx, hr⟩
    | succ i =>
      simp at hb' hes
      exact hu i j b' es p hb' hes hp
end
end
end Go.Rl

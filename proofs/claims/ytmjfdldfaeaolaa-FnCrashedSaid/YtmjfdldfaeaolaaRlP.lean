/- R, part P: calls. -/
import Derived.Test.YtmjfdldfaeaolaaRlO
namespace Go.Rl
open Go.RowKit

theorem tail_nf {Z : Nat → Prop} {w : World} {sz : Nat} {xs : List (List PV)} {v : Value} {N : List Nat} (h : PVO Z w (.sl true sz xs) v N) (hn : NfP xs) : N.tail = [] := by
  cases h with
  | nil => rfl
  | own _ _ k c cur ty hlen hk hsz hc hm u m hcell hp =>
    simp only [List.tail_cons]
    rw [flatMap_eq (g := fun _ => []) (fun j hj => ?_), flatMap_no]
    have hj' := List.mem_range.1 hj
    refine (hp j _ (List.getElem?_eq_getElem hj')).nfN ?_
    obtain ⟨es, h1, h2⟩ := List.mem_flatten.1 (List.getElem_mem hj')
    exact hn es h1 _ h2
theorem pvo_own_len {Z : Nat → Prop} {w : World} {sz : Nat} {xs : List (List PV)} {v : Value} {N : List Nat} (h : PVO Z w (.sl true sz xs) v N) : ∀ A n c, v = .slice A n c → n = xs.length := pvr_len h.toR
theorem pvo_own_slice {Z : Nat → Prop} {w : World} {sz : Nat} {xs : List (List PV)} {v : Value} {N : List Nat} (h : PVO Z w (.sl true sz xs) v N) : ∃ A c, v = .slice A xs.length c := by
  cases h with
  | nil _ A => exact ⟨A, 0, rfl⟩
  | own _ _ k c => exact ⟨_, c, rfl⟩
theorem PVO.up {Z Z' : Nat → Prop} {w : World} {p : PV} {v : Value} {N : List Nat} (h : PVO Z w p v N) (hz : ∀ k, Z k → Z' k) : PVO Z' w p v N := h.mono (fun _ _ => rfl) (fun _ _ => rfl) hz

section
variable {w0 : World} {I : Fr} {n : Nat} {L : Pl} {s : St} {a : Act} {w : World}
/-- A row whose blocks stand about is taken in. -/
theorem Rel.adopt (h : Rel w0 I n L s a w) {id sz : Nat} {xs : List (List PV)} {v : Value} {N : List Nat} (hp : PVO L.Z w (.sl true sz xs) v N) (hN : ∀ k ∈ N, L.lab k = none ∧ ¬ L.Z k ∧ (w0.heap.size ≤ k ∨ k ∈ I.I)) (hnd : N.Nodup) (hid : s.r id = none) (hpin : id < pinT ∨ I.ρ id = v) :
    Rel w0 I n (L.row id v N) { s with r := upd s.r id (some (sz, xs)) } a w := by
  have hlab : ∀ k l, L.lab k = some l → (L.row id v N).lab k = L.lab k := fun k l hk => by
    simp only [Pl.row]
    rw [if_neg]
    intro hx
    rw [(hN k hx).1] at hk
    cases hk
  have hne : ∀ {i}, (s.r i).isSome → i ≠ id := fun hs e => by subst e; rw [hid] at hs; cases hs
  have hm : Moves [] L (L.row id v N) w w s { s with r := upd s.r id (some (sz, xs)) } := ⟨fun k hk => ⟨hk, rfl⟩, fun i k _ hi hk => ⟨.inr (by simp only [Pl.row, upd_ne _ _ (hne hi)]; exact hk), rfl⟩, fun b hb => ⟨hb, rfl⟩, fun i sz xs _ hx => ⟨xs, by simp only [upd_ne _ _ (hne (by rw [hx]; rfl))]; exact hx, rfl, upd_ne _ _ (hne (by rw [hx]; rfl))⟩⟩
  refine ⟨h.same, fun k hk => ⟨(h.zlt k hk).1, ?_⟩, fun k l hk => ?_, h.sz, h.df, fun i => (h.tm i).move0 hm, fun i cs hc => ?_, fun i sz' xs' hx => ?_, fun i hi hx => ?_, h.pb, h.zi⟩
  · simp only [Pl.row]
    rw [if_neg (fun hx => (hN k hx).2.1 hk)]
    exact (h.zlt k hk).2
  · simp only [Pl.row] at hk
    split at hk
    · rename_i hx
      exact ⟨hp.lt k hx, (hN k hx).2.2⟩
    · exact h.llt k l hk
  · obtain ⟨h1, us, ty, h2, h3, h4⟩ := h.bx i cs hc
    exact ⟨(hlab _ _ h1).trans h1, us, ty, h2, h3.move0 hm, h4⟩
  · by_cases e : i = id
    · subst e
      simp only [upd_self, Option.some.injEq, Prod.mk.injEq] at hx
      obtain ⟨rfl, rfl⟩ := hx
      simp only [Pl.row, upd_self]
      exact ⟨hp, hnd, fun k hk => if_pos hk⟩
    · simp only [upd_ne _ _ e] at hx
      obtain ⟨h1, h2, h3⟩ := h.rw i sz' xs' hx
      simp only [Pl.row, upd_ne _ _ e]
      exact ⟨h1, h2, fun k hk => (hlab k _ (h3 k hk)).trans (h3 k hk)⟩
  · by_cases e : i = id
    · subst e
      rcases hpin with h1 | h1
      · omega
      · simpa [Pl.row] using h1.symm
    · simp only [upd_ne _ _ e] at hx
      simp only [Pl.row, upd_ne _ _ e]
      exact h.pr i hi hx

/-- Behind a call: rows are gone (K), rows have other elements (O). -/
theorem Rel.call1 (h : Rel w0 I n L s a w) (K O : List Nat) (hKO : ∀ i ∈ K ++ O, (s.r i).isSome) {r' : Nat → Option (Nat × List (List PV))} {w' : World} (hJ : Same ((K ++ O).flatMap L.ν) w w')
    (hr : ∀ i sz xs', r' i = some (sz, xs') → (s.r i = some (sz, xs') ∧ i ∉ K ∧ i ∉ O) ∨ (i ∈ O ∧ i ∉ K ∧ ∃ xs, s.r i = some (sz, xs) ∧ NfP xs ∧ PVO no w' (.sl true sz xs') (L.ρ i) (L.ν i)))
    (hr2 : ∀ i sz xs, i ∉ K → s.r i = some (sz, xs) → ∃ xs', r' i = some (sz, xs')) :
    Rel w0 I n { L with lab := fun k => if k ∈ K.flatMap L.ν then none else L.lab k } { t := fun i => (s.t i).kill K, b := fun j => (s.b j).map (AV.kills K), r := r' } a w' := by
  have labs : ∀ {X : List Nat} {k}, (∀ i ∈ X, (s.r i).isSome) → k ∈ X.flatMap L.ν → ∃ i ∈ X, L.lab k = some (.row i) := fun {X} {k} hX hk => by
    obtain ⟨i, hi, hki⟩ := List.mem_flatMap.1 hk
    obtain ⟨⟨sz, xs⟩, hx⟩ := Option.isSome_iff_exists.1 (hX i hi)
    exact ⟨i, hi, (h.rw i sz xs hx).2.2 k hki⟩
  have hK : ∀ i ∈ K, (s.r i).isSome := fun i hi => hKO i (List.mem_append_left _ hi)
  have keep : ∀ k, k < w.heap.size → (∀ i ∈ K ++ O, L.lab k ≠ some (.row i)) → w'.heap[k]? = w.heap[k]? := fun k hk hi => hJ.block k hk (fun hx => by obtain ⟨i, h1, h2⟩ := labs hKO hx; exact hi i h1 h2)
  have keepl : ∀ k, (∀ i ∈ K, L.lab k ≠ some (.row i)) → (if k ∈ K.flatMap L.ν then none else L.lab k) = L.lab k := fun k hi => if_neg (fun hx => by obtain ⟨i, h1, h2⟩ := labs hK hx; exact hi i h1 h2)
  refine h.next (K := K) (h.same.trans hJ (fun x hx hI hxJ => ?_)) (fun k hk => ⟨Nat.lt_of_lt_of_le (h.zlt k hk).1 hJ.size, ?_⟩) (fun k l hk => ?_) ⟨fun k hk => ⟨hk, ?_⟩, fun i k hi hs hk => ⟨.inr hk, ?_⟩, fun b hb => ⟨by simpa using hb, rfl⟩, fun i sz xs hi hx => ?_⟩ (fun _ => rfl) (fun i cs hc => ?_) (fun i sz xs' hx => ?_)
  · obtain ⟨i, _, h2⟩ := labs hKO hxJ
    rcases (h.llt x _ h2).2 with h3 | h3
    · omega
    · exact hI h3
  · have := (h.zlt k hk).2
    simp only [this, ite_self]
  · simp only at hk
    split at hk
    · cases hk
    · exact ⟨Nat.lt_of_lt_of_le (h.llt k l hk).1 hJ.size, (h.llt k l hk).2⟩
  · exact keep k (h.zlt k hk).1 (fun i _ => by rw [(h.zlt k hk).2]; simp)
  · obtain ⟨⟨sz, xs⟩, hx⟩ := Option.isSome_iff_exists.1 hs
    obtain ⟨h1, h2, h3⟩ := h.rw i sz xs hx
    obtain ⟨xs', hx'⟩ := hr2 i sz xs hi hx
    rcases hr i sz xs' hx' with ⟨_, _, h4⟩ | ⟨_, _, xs0, h5, h6, _⟩
    · refine keep k (h1.lt k (List.mem_of_mem_tail hk)) (fun j hj => ?_)
      rw [h3 k (List.mem_of_mem_tail hk)]
      simp only [ne_eq, Option.some.injEq, Lab.row.injEq]
      intro e
      subst e
      exact (List.mem_append.1 hj).elim hi h4
    · rw [hx] at h5
      cases h5
      rw [tail_nf h1 h6] at hk
      cases hk
  · obtain ⟨xs', hx'⟩ := hr2 i sz xs hi hx
    refine ⟨xs', hx', ?_, rfl⟩
    rcases hr i sz xs' hx' with ⟨h4, _⟩ | ⟨_, _, xs0, h5, _, h6⟩
    · rw [hx] at h4; cases h4; rfl
    · rw [hx] at h5
      cases h5
      obtain ⟨A, c, e⟩ := pvo_own_slice h6
      exact (pvo_own_len (h.rw i sz xs hx).1 A _ c e)
  · simp only [Option.map_eq_some_iff] at hc
    obtain ⟨cs0, h0, rfl⟩ := hc
    have hlb := (h.bx i cs0 h0).1
    exact .inl ⟨cs0, h0, rfl, keep _ (h.llt _ _ hlb).1 (fun j _ => by rw [hlb]; simp), keepl _ (fun j _ => by rw [hlb]; simp)⟩
  · rcases hr i sz xs' hx with ⟨h4, h5, h6⟩ | ⟨h4, h5, xs, h6, h7, h8⟩
    · obtain ⟨h1, h2, h3⟩ := h.rw i sz xs' h4
      refine .inl ⟨h4, rfl, rfl, fun k hk => ⟨keep k (h1.lt k hk) (fun j hj => ?_), keepl k (fun j hj => ?_)⟩⟩
      · rw [h3 k hk]
        simp only [ne_eq, Option.some.injEq, Lab.row.injEq]
        intro e
        subst e
        exact (List.mem_append.1 hj).elim h5 h6
      · rw [h3 k hk]
        simp only [ne_eq, Option.some.injEq, Lab.row.injEq]
        intro e
        subst e
        exact h5 hj
    · obtain ⟨h1, h2, h3⟩ := h.rw i sz xs h6
      refine .inr ⟨.inr ⟨by rw [h6]; rfl, rfl⟩, h8.up (fun _ h => h.elim), h2, fun k hk => ?_⟩
      have := h3 k hk
      rw [← this]
      exact keepl k (fun j hj => by
        rw [this]
        simp only [ne_eq, Option.some.injEq, Lab.row.injEq]
        intro e
        subst e
        exact h5 hj)
end

/-! #### what comes back -/
def rAV (id : Nat) : PV → AV
  | .v x => .p none (.v x)
  | .sl true _ xs => .sl id 0 xs.length
  | .sl false sz xs => .p none (.sl false sz xs)
  | .clo f xs => .p none (.clo f xs)
def rRows (id : Nat) : PV → List (Nat × Nat × List (List PV))
  | .sl true sz xs => [(id, sz, xs)]
  | _ => []
def rAVs (id : Nat) : List PV → List AV
  | [] => []
  | p :: ps => rAV id p :: rAVs (id + 1) ps
def rRowss (id : Nat) : List PV → List (Nat × Nat × List (List PV))
  | [] => []
  | p :: ps => rRows id p ++ rRowss (id + 1) ps
def PA.size : PA → Nat
  | .one _ => 1
  | .agg ps => ps.length
  | .fbox _ => 0
  | .rptr _ _ => 1
def pAV (id : Nat) : PA → AV
  | .one p => rAV id p
  | .agg ps => .agg (rAVs id ps)
  | .fbox ps => .fea none ps
  | .rptr _ _ => .ea id 0 0
def pRows (id : Nat) : PA → List (Nat × Nat × List (List PV))
  | .one p => rRows id p
  | .agg ps => rRowss id ps
  | .fbox _ => []
  | .rptr sz ps => [(id, sz, [ps])]
def pAVs (step : PA → Nat) (id : Nat) : List PA → List AV
  | [] => []
  | p :: ps => pAV id p :: pAVs step (id + step p) ps
def pRowss (step : PA → Nat) (id : Nat) : List PA → List (Nat × Nat × List (List PV))
  | [] => []
  | p :: ps => pRows id p ++ pRowss step (id + step p) ps
def pSize (step : PA → Nat) : List PA → Nat
  | [] => 0
  | p :: ps => step p + pSize step ps
def resAV (id : Nat) : List PA → AV
  | [p] => pAV id p
  | ps => .tup (pAVs PA.size id ps)

theorem setRs_append (r : Nat → Option (Nat × List (List PV))) : ∀ (l l' : List (Nat × Nat × List (List PV))), setRs r (l ++ l') = setRs (setRs r l) l'
  | [], _ => rfl
  | x :: l, l' => by simp only [List.cons_append, setRs]; exact setRs_append _ l l'

/-- The rows that arguments hand over: their numbers and sizes. -/
def ownC (id : Nat) : List PV → List (Nat × Nat)
  | [] => []
  | .sl true sz _ :: ps => (id, sz) :: ownC (id + 1) ps
  | _ :: ps => ownC (id + 1) ps
def ownA (id : Nat) : PA → List (Nat × Nat)
  | .one p => ownC id [p]
  | .agg ps => ownC id ps
  | .fbox _ => []
  | .rptr sz _ => [(id, sz)]
def owns (step : PA → Nat) (id : Nat) : List PA → List (Nat × Nat)
  | [] => []
  | p :: ps => ownA id p ++ owns step (id + step p) ps
/-- Where the rows that are handed over are to stand. -/
def PinE (ρ : Nat → Value) : List (Nat × Nat) → List Leaf → Prop
  | x :: os, lf :: E => ρ x.1 = lf.v ∧ PinE ρ os E
  | _, _ => True
theorem PinE.app {ρ : Nat → Value} : ∀ {os : List (Nat × Nat)} {E : List Leaf} {os' : List (Nat × Nat)} {E' : List Leaf}, os.length = E.length → PinE ρ (os ++ os') (E ++ E') → PinE ρ os E ∧ PinE ρ os' E'
  | [], [], _, _, _, h => ⟨trivial, h⟩
  | [], _ :: _, _, _, hl, _ => by simp at hl
  | _ :: _, [], _, _, hl, _ => by simp at hl
  | x :: os, lf :: E, os', E', hl, h => by
    simp only [List.cons_append, PinE] at h
    obtain ⟨h1, h2⟩ := PinE.app (os := os) (E := E) (by simpa using hl) h.2
    exact ⟨⟨h.1, h1⟩, h2⟩
theorem PinE.get {ρ : Nat → Value} : ∀ {os : List (Nat × Nat)} {E : List Leaf}, PinE ρ os E → ∀ {i : Nat} {x : Nat × Nat} {lf : Leaf}, os[i]? = some x → E[i]? = some lf → ρ x.1 = lf.v
  | [], _, _, i, x, lf, h, _ => by simp at h
  | _ :: _, [], _, i, x, lf, _, h => by simp at h
  | y :: os, l :: E, h, i, x, lf, h1, h2 => by
    simp only [PinE] at h
    cases i with
    | zero => simp at h1 h2; subst h1 h2; exact h.1
    | succ i => simp at h1 h2; exact PinE.get h.2 h1 h2
def mkρ : List (Nat × Nat) → List Leaf → Nat → Value
  | x :: os, lf :: E, i => if i = x.1 then lf.v else mkρ os E i
  | _, _, _ => undef
theorem pinE_ext {ρ ρ' : Nat → Value} : ∀ {os : List (Nat × Nat)} {E : List Leaf}, PinE ρ os E → (∀ x ∈ os, ρ' x.1 = ρ x.1) → PinE ρ' os E
  | [], _, _, _ => by simp [PinE]
  | _ :: _, [], _, _ => by simp [PinE]
  | x :: os, lf :: E, h, he => by
    simp only [PinE] at h ⊢
    exact ⟨(he x (by simp)).trans h.1, pinE_ext h.2 (fun y hy => he y (by simp [hy]))⟩
theorem mkρ_ok : ∀ {os : List (Nat × Nat)} {E : List Leaf}, os.Pairwise (fun x y => x.1 < y.1) → PinE (mkρ os E) os E
  | [], _, _ => by simp [PinE]
  | _ :: _, [], _ => by simp [PinE]
  | x :: os, lf :: E, h => by
    obtain ⟨h1, h2⟩ := List.pairwise_cons.1 h
    simp only [PinE]
    refine ⟨by simp [mkρ], pinE_ext (mkρ_ok h2) (fun y hy => ?_)⟩
    have := h1 y hy
    simp only [mkρ]
    rw [if_neg (by omega)]
theorem ownC_one (id : Nat) (p : PV) (ps : List PV) : ownC id (p :: ps) = ownC id [p] ++ ownC (id + 1) ps := by
  cases p with
  | sl o sz xs => cases o <;> rfl
  | _ => rfl
theorem ownC_in : ∀ (ps : List PV) (id : Nat), (ownC id ps).Pairwise (fun x y => x.1 < y.1) ∧ ∀ x ∈ ownC id ps, id ≤ x.1 ∧ x.1 < id + ps.length
  | [], id => ⟨.nil, by simp [ownC]⟩
  | p :: ps, id => by
    obtain ⟨h1, h2⟩ := ownC_in ps (id + 1)
    have hk : ∀ x ∈ ownC (id + 1) ps, id ≤ x.1 ∧ x.1 < id + (p :: ps).length := fun x hx => by
      have := h2 x hx
      simp only [List.length_cons]
      omega
    cases p with
    | sl o sz xs =>
      cases o with
      | true =>
        refine ⟨List.pairwise_cons.2 ⟨fun x hx => by have := h2 x hx; simp only; omega, h1⟩, fun x hx => ?_⟩
        simp only [ownC, List.mem_cons] at hx
        rcases hx with rfl | hx
        · simp
        · exact hk x hx
      | false => exact ⟨h1, hk⟩
    | _ => exact ⟨h1, hk⟩
theorem ownA_in (p : PA) (id : Nat) : (ownA id p).Pairwise (fun x y => x.1 < y.1) ∧ ∀ x ∈ ownA id p, id ≤ x.1 ∧ x.1 < id + p.size := by
  cases p with
  | one p => exact ownC_in [p] id
  | agg ps => exact ownC_in ps id
  | fbox _ => exact ⟨.nil, by simp [ownA]⟩
  | rptr sz _ => exact ⟨List.pairwise_singleton _ _, by simp [ownA, PA.size]⟩
theorem owns_in {step : PA → Nat} : ∀ (ps : List PA) (id : Nat), (∀ p ∈ ps, p.size ≤ step p) → (owns step id ps).Pairwise (fun x y => x.1 < y.1) ∧ ∀ x ∈ owns step id ps, id ≤ x.1
  | [], _, _ => ⟨.nil, by simp [owns]⟩
  | p :: ps, id, hs => by
    obtain ⟨h1, h2⟩ := ownA_in p id
    obtain ⟨h3, h4⟩ := owns_in ps (id + step p) (fun q hq => hs q (by simp [hq]))
    have hp := hs p (by simp)
    refine ⟨List.pairwise_append.2 ⟨h1, h3, fun x hx y hy => ?_⟩, fun x hx => ?_⟩
    · have := h2 x hx
      have := h4 y hy
      omega
    · rcases List.mem_append.1 hx with hx | hx
      · exact (h2 x hx).1
      · exact Nat.le_trans (Nat.le_add_right _ _) (h4 x hx)
theorem ps_len {Z : Nat → Prop} {w : World} {p : PV} {v : Value} {E : List Leaf} (h : PS Z w p v E) (id : Nat) : (ownC id [p]).length = E.length := by
  cases h with
  | own _ => rfl
  | nf hn _ =>
    cases p with
    | sl o sz xs => simp [PV.nf] at hn; subst hn; rfl
    | _ => rfl
theorem pss_len {Z : Nat → Prop} {w : World} {ps : List PV} {vs : List Value} {E : List Leaf} (h : PSs Z w ps vs E) : ∀ id, (ownC id ps).length = E.length := by
  induction h with
  | nil => intro _; rfl
  | cons h _ ih =>
    intro id
    rw [ownC_one, List.length_append, List.length_append, ps_len h, ih]
theorem pas_len {Z : Nat → Prop} {w : World} {p : PA} {v : Value} {E : List Leaf} (h : PAS Z w p v E) (id : Nat) : (ownA id p).length = E.length := by
  cases h with
  | one h => exact ps_len h id
  | agg h => exact pss_len h id
  | fbox => rfl
  | rptr => rfl
section
variable {w0 : World} {I : Fr} {n : Nat} {a : Act} {w : World}
/-- One step of taking in: what holds ahead of it still holds. -/
structure Takes (w0 : World) (I : Fr) (n : Nat) (a : Act) (w : World) (L L' : Pl) (s s' : St) (F : List Leaf) (lo hi : Nat) : Prop where
  rel : Rel w0 I n L' s' a w
  mv : Moves [] L L' w w s s'
  z : L'.Z = L.Z
  lab : ∀ k, k ∉ Leaf.all F → L'.lab k = L.lab k
  r : ∀ i, i < lo ∨ hi ≤ i → s'.r i = s.r i
theorem take1 {L : Pl} {s : St} (h : Rel w0 I n L s a w) {p : PV} {v : Value} {F : List Leaf} (hp : PS L.Z w p v F) (hF : ∀ k ∈ Leaf.all F, L.lab k = none ∧ ¬ L.Z k ∧ (w0.heap.size ≤ k ∨ k ∈ I.I)) (hnd : (Leaf.all F).Nodup) {id : Nat} (hid : s.r id = none) (hpin : id < pinT ∨ PinE I.ρ (ownC id [p]) F) :
    ∃ L', Takes w0 I n a w L L' s { s with r := setRs s.r (rRows id p) } F id (id + 1) ∧ AVR L' w { s with r := setRs s.r (rRows id p) } (rAV id p) v := by
  cases hp with
  | own h1 =>
    rename_i sz xs N
    have hrel := h.adopt h1 (id := id) (fun k hk => hF k (by simpa [Leaf.all] using hk)) (by simpa [Leaf.all] using hnd) hid (hpin.imp (fun h => h) (fun h => by simpa [PinE, ownC] using h))
    have hne : ∀ {i}, (s.r i).isSome → i ≠ id := fun hs e => by subst e; rw [hid] at hs; cases hs
    refine ⟨_, ⟨hrel, ⟨fun k hk => ⟨hk, rfl⟩, fun i k _ hi hk => ⟨.inr (by simp only [Pl.row, upd_ne _ _ (hne hi)]; exact hk), rfl⟩, fun b hb => ⟨hb, rfl⟩, fun i sz xs _ hx => ⟨xs, by simp only [rRows, setRs, upd_ne _ _ (hne (by rw [hx]; rfl))]; exact hx, rfl, upd_ne _ _ (hne (by rw [hx]; rfl))⟩⟩, rfl, fun k hk => ?_, fun i hi => ?_⟩, ?_⟩
    · simp only [Pl.row]
      exact if_neg (by simpa [Leaf.all] using hk)
    · simp only [rRows, setRs]
      exact upd_ne _ _ (by omega)
    · exact avr_row (sz := sz) (xs := xs) (by simp [rRows, setRs]) (by simp [Pl.row]) (hrel.rw id sz xs (by simp)).1 rfl
  | nf hn h1 =>
    have hrr : rRows id p = [] := by
      cases p with
      | sl o sz xs => simp [PV.nf] at hn; subst hn; rfl
      | _ => rfl
    rw [hrr]
    refine ⟨L, ⟨h, ⟨fun k hk => ⟨hk, rfl⟩, fun _ k _ _ hk => ⟨.inr hk, rfl⟩, fun b hb => ⟨hb, rfl⟩, fun i sz xs _ hx => ⟨xs, hx, rfl, rfl⟩⟩, rfl, fun _ _ => rfl, fun _ _ => rfl⟩, ?_⟩
    have hz : PVR (L.zd none) w p v := h1.toR.mono (fun _ _ => rfl) (fun k hk => hk.elim (fun h => .inl h) (by simp))
    cases p with
    | v x => simp only [rAV, AVR]; exact ⟨hz, fun _ h => by cases h⟩
    | sl o sz xs => simp [PV.nf] at hn; subst hn; simp only [rAV, AVR]; exact ⟨hz, fun _ h => by cases h⟩
    | clo f xs => simp only [rAV, AVR]; exact ⟨hz, fun _ h => by cases h⟩
theorem Takes.trans {L L1 L2 : Pl} {s s1 s2 : St} {F F' : List Leaf} {lo mid hi : Nat} (h : Takes w0 I n a w L L1 s s1 F lo mid) (k : Takes w0 I n a w L1 L2 s1 s2 F' mid hi) (h1 : lo ≤ mid) (h2 : mid ≤ hi) : Takes w0 I n a w L L2 s s2 (F ++ F') lo hi where
  rel := k.rel
  mv := ⟨fun x hx => ⟨(k.mv.z x (h.mv.z x hx).1).1, rfl⟩, fun i x _ hi hx => by
    rcases (h.mv.n i x (by simp) hi hx).1 with h1 | h1
    · exact ⟨.inl (k.mv.z x h1).1, rfl⟩
    · exact ⟨(k.mv.n i x (by simp) (h.mv.some (by simp) hi) h1).1, rfl⟩, fun b hb => ⟨(k.mv.b b (h.mv.b b hb).1).1, (k.mv.b b (h.mv.b b hb).1).2.trans (h.mv.b b hb).2⟩, fun i sz xs _ hx => by
    obtain ⟨x1, e1, e2, e3⟩ := h.mv.r i sz xs (by simp) hx
    obtain ⟨x2, f1, f2, f3⟩ := k.mv.r i sz x1 (by simp) e1
    exact ⟨x2, f1, f2.trans e2, f3.trans e3⟩⟩
  z := k.z.trans h.z
  lab x hx := by
    simp only [Leaf.all, List.flatMap_append, List.mem_append, not_or] at hx
    exact (k.lab x hx.2).trans (h.lab x hx.1)
  r i hi := (k.r i (by omega)).trans (h.r i (by omega))
theorem free_next {L L' : Pl} {s s' : St} {F F' : List Leaf} {lo hi : Nat} (t : Takes w0 I n a w L L' s s' F lo hi) (hnd : (Leaf.all (F ++ F')).Nodup) (hF : ∀ k ∈ Leaf.all (F ++ F'), L.lab k = none ∧ ¬ L.Z k ∧ (w0.heap.size ≤ k ∨ k ∈ I.I)) : ∀ k ∈ Leaf.all F', L'.lab k = none ∧ ¬ L'.Z k ∧ (w0.heap.size ≤ k ∨ k ∈ I.I) := fun k hk => by
  simp only [Leaf.all, List.flatMap_append] at hnd hF
  obtain ⟨h1, h2, h3⟩ := hF k (List.mem_append_right _ hk)
  refine ⟨(t.lab k (fun hx => (List.nodup_append.1 hnd).2.2 k hx k hk rfl)).trans h1, by rw [t.z]; exact h2, h3⟩
theorem takeL {L : Pl} {s : St} (h : Rel w0 I n L s a w) : ∀ {ps : List PV} {vs : List Value} {F : List Leaf} (_ : PSs L.Z w ps vs F) (_ : ∀ k ∈ Leaf.all F, L.lab k = none ∧ ¬ L.Z k ∧ (w0.heap.size ≤ k ∨ k ∈ I.I)) (_ : (Leaf.all F).Nodup) {id : Nat} (_ : ∀ i, id ≤ i → i < id + ps.length → s.r i = none) (_ : id + ps.length ≤ pinT ∨ PinE I.ρ (ownC id ps) F),
    ∃ L', Takes w0 I n a w L L' s { s with r := setRs s.r (rRowss id ps) } F id (id + ps.length) ∧ AVRs L' w { s with r := setRs s.r (rRowss id ps) } (rAVs id ps) vs := by
  intro ps
  induction ps generalizing L s with
  | nil =>
    intro vs F hp _ _ id _ _
    cases hp
    exact ⟨L, ⟨h, ⟨fun k hk => ⟨hk, rfl⟩, fun _ k _ _ hk => ⟨.inr hk, rfl⟩, fun b hb => ⟨hb, rfl⟩, fun i sz xs _ hx => ⟨xs, hx, rfl, rfl⟩⟩, rfl, fun _ _ => rfl, fun _ _ => rfl⟩, by simp [rAVs, AVRs]⟩
  | cons p ps ih =>
    intro vs F hp hF hnd id hid hpin
    cases hp with
    | cons h1 ht =>
      rename_i v E vs E'
      simp only [List.length_cons] at hid hpin
      rw [ownC_one] at hpin
      obtain ⟨L1, t1, a1⟩ := take1 h h1 (fun k hk => hF k (by simp only [Leaf.all, List.flatMap_append]; exact List.mem_append_left _ hk)) (by simp only [Leaf.all, List.flatMap_append] at hnd; exact (List.nodup_append.1 hnd).1) (id := id) (hid id (by omega) (by omega)) (hpin.imp (fun h => by omega) (fun h => (h.app (ps_len h1 id)).1))
      obtain ⟨L2, t2, a2⟩ := ih t1.rel (by rw [t1.z]; exact ht) (free_next t1 hnd hF) (by simp only [Leaf.all, List.flatMap_append] at hnd; exact (List.nodup_append.1 hnd).2.1) (id := id + 1) (fun i h1 h2 => (t1.r i (by omega)).trans (hid i (by omega) (by omega))) (hpin.imp (fun h => by omega) (fun h => (h.app (ps_len h1 id)).2))
      have e : setRs s.r (rRowss id (p :: ps)) = setRs (setRs s.r (rRows id p)) (rRowss (id + 1) ps) := setRs_append _ _ _
      rw [e]
      refine ⟨L2, ?_, ?_⟩
      · have := t1.trans t2 (by omega) (by omega)
        rwa [show id + 1 + ps.length = id + (p :: ps).length by simp; omega] at this
      · simp only [rAVs, AVRs]
        exact ⟨a1.move0 t2.mv, a2⟩
theorem takeA {L : Pl} {s : St} (h : Rel w0 I n L s a w) {p : PA} {v : Value} {F : List Leaf} (hp : PAS L.Z w p v F) (hF : ∀ k ∈ Leaf.all F, L.lab k = none ∧ ¬ L.Z k ∧ (w0.heap.size ≤ k ∨ k ∈ I.I)) (hnd : (Leaf.all F).Nodup) {id : Nat} (hid : ∀ i, id ≤ i → i < id + p.size → s.r i = none) (hpin : id + p.size ≤ pinT ∨ PinE I.ρ (ownA id p) F) :
    ∃ L', Takes w0 I n a w L L' s { s with r := setRs s.r (pRows id p) } F id (id + p.size) ∧ AVR L' w { s with r := setRs s.r (pRows id p) } (pAV id p) v := by
  cases hp with
  | one h1 =>
    refine take1 h h1 hF hnd (hid id (Nat.le_refl _) (by simp [PA.size])) (hpin.imp (fun h => by simp [PA.size] at h; omega) (fun h => h))
  | agg h1 =>
    obtain ⟨L', t, av⟩ := takeL h h1 hF hnd (id := id) hid hpin
    exact ⟨L', t, by simp only [pAV, AVR]; exact ⟨_, rfl, av⟩⟩
  | fbox hz h1 =>
    refine ⟨L, ⟨h, ⟨fun k hk => ⟨hk, rfl⟩, fun _ k _ _ hk => ⟨.inr hk, rfl⟩, fun b hb => ⟨hb, rfl⟩, fun i sz xs _ hx => ⟨xs, hx, rfl, rfl⟩⟩, rfl, fun _ _ => rfl, fun _ _ => rfl⟩, ?_⟩
    simp only [pAV, AVR]
    exact ⟨⟨_, _, rfl, .inl hz, fun j p hj => by obtain ⟨u, hu, hr⟩ := h1 j p hj; exact ⟨u, hu, hr.mono (fun _ _ => rfl) (fun k hk => .inl hk)⟩⟩, fun _ h => by cases h⟩
  | rptr h1 =>
    rename_i sz ps k c N
    obtain ⟨L', t, av⟩ := take1 h (PS.own h1) hF hnd (hid id (Nat.le_refl _) (by simp [PA.size])) (hpin.imp (fun h => by simp [PA.size] at h; omega) (fun h => h))
    refine ⟨L', t, ?_⟩
    simp only [rAV, AVR] at av
    obtain ⟨sz', xs', e1, _, A, m, c1, A', c', e3, e4, _, e6, _⟩ := av
    obtain ⟨rfl, rfl⟩ := e6 rfl
    cases e4
    simp only [pAV, pRows, AVR]
    have e5 : setRs s.r [(id, sz, [ps])] id = some (sz, [ps]) := by simp [setRs]
    exact ⟨sz, [ps], k, m, _, e5, by simp, e3, by simp⟩
theorem takeAs {step : PA → Nat} : ∀ {ps : List PA} {L : Pl} {s : St} (_ : Rel w0 I n L s a w) {vs : List Value} {F : List Leaf} (_ : PASs L.Z w ps vs F) (_ : ∀ k ∈ Leaf.all F, L.lab k = none ∧ ¬ L.Z k ∧ (w0.heap.size ≤ k ∨ k ∈ I.I)) (_ : (Leaf.all F).Nodup) {id : Nat} (_ : ∀ p ∈ ps, p.size ≤ step p) (_ : ∀ i, id ≤ i → i < id + pSize step ps → s.r i = none) (_ : id + pSize step ps ≤ pinT ∨ PinE I.ρ (owns step id ps) F),
    ∃ L', Takes w0 I n a w L L' s { s with r := setRs s.r (pRowss step id ps) } F id (id + pSize step ps) ∧ AVRs L' w { s with r := setRs s.r (pRowss step id ps) } (pAVs step id ps) vs := by
  intro ps
  induction ps with
  | nil =>
    intro L s h vs F hp _ _ id _ _ _
    cases hp
    exact ⟨L, ⟨h, ⟨fun k hk => ⟨hk, rfl⟩, fun _ k _ _ hk => ⟨.inr hk, rfl⟩, fun b hb => ⟨hb, rfl⟩, fun i sz xs _ hx => ⟨xs, hx, rfl, rfl⟩⟩, rfl, fun _ _ => rfl, fun _ _ => rfl⟩, by simp [pAVs, AVRs]⟩
  | cons p ps ih =>
    intro L s h vs F hp hF hnd id hst hid hpin
    cases hp with
    | cons h1 ht =>
      rename_i v E vs E'
      simp only [pSize, owns] at hid hpin
      have hs := hst p (by simp)
      obtain ⟨L1, t1, a1⟩ := takeA h h1 (fun k hk => hF k (by simp only [Leaf.all, List.flatMap_append]; exact List.mem_append_left _ hk)) (by simp only [Leaf.all, List.flatMap_append] at hnd; exact (List.nodup_append.1 hnd).1) (id := id) (fun i e1 e2 => hid i (by omega) (by omega)) (hpin.imp (fun h => by omega) (fun h => (h.app (pas_len h1 id)).1))
      have t1' : Takes w0 I n a w L L1 s { s with r := setRs s.r (pRows id p) } E id (id + step p) := ⟨t1.rel, t1.mv, t1.z, t1.lab, fun i hi => t1.r i (by omega)⟩
      obtain ⟨L2, t2, a2⟩ := ih t1.rel (by rw [t1.z]; exact ht) (free_next t1 hnd hF) (by simp only [Leaf.all, List.flatMap_append] at hnd; exact (List.nodup_append.1 hnd).2.1) (id := id + step p) (fun q hq => hst q (by simp [hq])) (fun i h1 h2 => (t1'.r i (by omega)).trans (hid i (by omega) (by omega))) (hpin.imp (fun h => by omega) (fun h => (h.app (pas_len h1 id)).2))
      have e : setRs s.r (pRowss step id (p :: ps)) = setRs (setRs s.r (pRows id p)) (pRowss step (id + step p) ps) := setRs_append _ _ _
      rw [e]
      refine ⟨L2, ?_, ?_⟩
      · have := t1'.trans t2 (by omega) (by omega)
        rwa [show id + step p + pSize step ps = id + pSize step (p :: ps) by simp only [pSize]; omega] at this
      · simp only [pAVs, AVRs]
        exact ⟨a1.move0 t2.mv, a2⟩
/-- What a call gives back is taken in. -/
theorem takeR {ps : List PA} {L : Pl} {s : St} (h : Rel w0 I n L s a w) {v : Value} {F : List Leaf} (hp : RES L.Z w ps v F) (hF : ∀ k ∈ Leaf.all F, L.lab k = none ∧ ¬ L.Z k ∧ (w0.heap.size ≤ k ∨ k ∈ I.I)) (hnd : (Leaf.all F).Nodup) {id : Nat} (hid : ∀ i, id ≤ i → i < id + pSize PA.size ps → s.r i = none) (hpin : id + pSize PA.size ps ≤ pinT) :
    ∃ L', Rel w0 I n L' { s with r := setRs s.r (pRowss PA.size id ps) } a w ∧ AVR L' w { s with r := setRs s.r (pRowss PA.size id ps) } (resAV id ps) v := by
  cases hp with
  | one h1 =>
    rename_i p
    have e : pRowss PA.size id [p] = pRows id p := by simp [pRowss]
    rw [e]
    simp only [pSize, Nat.add_zero] at hid hpin
    obtain ⟨L', t, av⟩ := takeA h h1 hF hnd hid (.inl hpin)
    exact ⟨L', t.rel, av⟩
  | more hl h1 =>
    obtain ⟨L', t, av⟩ := takeAs h h1 hF hnd (fun p _ => Nat.le_refl _) hid (.inl hpin)
    refine ⟨L', t.rel, ?_⟩
    have e : resAV id ps = .tup (pAVs PA.size id ps) := by
      match ps, hl with
      | [], _ => rfl
      | _ :: _ :: _, _ => rfl
    rw [e]
    simp only [AVR]
    exact ⟨_, rfl, av⟩
end
end Go.Rl

/- Promises of functions, proved by walks over their operations; no conditions beyond those that each theorem states. -/
import Derived.Test.YtamebecmgdbmnaaGreatDoorRlJ
set_option linter.unusedSimpArgs false
set_option linter.unusedVariables false
namespace Go.Rl
open Go.RowKit

theorem zHv {Z : Nat → Prop} {w : World} {sz : Nat} {xs : List (List PV)} {v : Value} {N : List Nat} (h : PVO Z w (.sl true sz xs) v N) (hn : NfP xs) : N.tail = [] := by
 cases h with
 | nil => rfl
 | own _ _ k c cur ty hlen hk hsz hc hm u m hcell hp =>
  simp only [List.tail_cons]
  rw [zDr (g := fun _ => []) (fun j hj => ?_), zBX]
  have hj' := List.mem_range.1 hj
  refine (hp j _ (List.getElem?_eq_getElem hj')).nfN ?_
  obtain ⟨es, h1, h2⟩ := List.mem_flatten.1 (List.getElem_mem hj')
  exact hn es h1 _ h2
theorem zC3 {Z : Nat → Prop} {w : World} {sz : Nat} {xs : List (List PV)} {v : Value} {N : List Nat} (h : PVO Z w (.sl true sz xs) v N) : ∀ A n c, v = .slice A n c → n = xs.length := zIC h.toR
theorem zIE {Z : Nat → Prop} {w : World} {sz : Nat} {xs : List (List PV)} {v : Value} {N : List Nat} (h : PVO Z w (.sl true sz xs) v N) : ∃ A c, v = .slice A xs.length c := by
 cases h with
 | nil _ A => exact ⟨A, 0, rfl⟩
 | own _ _ k c => exact ⟨_, c, rfl⟩
theorem PVO.up {Z Z' : Nat → Prop} {w : World} {p : PV} {v : Value} {N : List Nat} (h : PVO Z w p v N) (hz : ∀ k, Z k → Z' k) : PVO Z' w p v N := h.mono (fun _ _ => rfl) (fun _ _ => rfl) hz

section
variable {w0 : World} {I : Fr} {n : Nat} {L : Pl} {s : St} {a : Act} {w : World}
theorem Rel.adopt (h : Rel w0 I n L s a w) {id sz : Nat} {xs : List (List PV)} {v : Value} {N : List Nat} (hp : PVO L.Z w (.sl true sz xs) v N) (hN : ∀ k ∈ N, L.lab k = none ∧ ¬ L.Z k ∧ (w0.heap.size ≤ k ∨ k ∈ I.I)) (hnd : N.Nodup) (hid : s.r id = none) (hpin : id < pinT ∨ I.ρ id = v) :
  Rel w0 I n (L.row id v N) { s with r := upd s.r id (some (sz, xs)) } a w := by
 have hlab : ∀ k l, L.lab k = some l → (L.row id v N).lab k = L.lab k := fun k l hk => by
  simp only [Pl.row]
  rw [if_neg]
  intro hx
  rw [(hN k hx).1] at hk
  cases hk
 have hne : ∀ {i}, (s.r i).isSome → i ≠ id := fun hs e => by subst e; rw [hid] at hs; cases hs
 have hm : Moves [] L (L.row id v N) w w s { s with r := upd s.r id (some (sz, xs)) } := ⟨fun k hk => ⟨hk, rfl⟩, fun i k _ hi hk => ⟨.inr (by simp only [Pl.row, zBd _ _ (hne hi)]; exact hk), rfl⟩, fun b hb => ⟨hb, rfl⟩, fun i sz xs _ hx => ⟨xs, by simp only [zBd _ _ (hne (by rw [hx]; rfl))]; exact hx, rfl, zBd _ _ (hne (by rw [hx]; rfl))⟩⟩
 refine ⟨h.same, fun k hk => ⟨(h.zlt k hk).1, ?_⟩, fun k l hk => ?_, h.sz, h.df, fun i => (h.tm i).move0 hm, fun i cs hc => ?_, fun i sz' xs' hx => ?_, fun i hi hx => ?_, h.pb, h.zi⟩
 ·
  simp only [Pl.row]
  rw [if_neg (fun hx => (hN k hx).2.1 hk)]
  exact (h.zlt k hk).2
 ·
  simp only [Pl.row] at hk
  split at hk
  ·
   rename_i hx
   exact ⟨hp.lt k hx, (hN k hx).2.2⟩
  · exact h.llt k l hk
 ·
  obtain ⟨h1, us, ty, h2, h3, h4⟩ := h.bx i cs hc
  exact ⟨(hlab _ _ h1).trans h1, us, ty, h2, h3.move0 hm, h4⟩
 ·
  by_cases e : i = id
  ·
   subst e
   simp only [upd_self, Option.some.injEq, Prod.mk.injEq] at hx
   obtain ⟨rfl, rfl⟩ := hx
   simp only [Pl.row, upd_self]
   exact ⟨hp, hnd, fun k hk => if_pos hk⟩
  ·
   simp only [zBd _ _ e] at hx
   obtain ⟨h1, h2, h3⟩ := h.rw i sz' xs' hx
   simp only [Pl.row, zBd _ _ e]
   exact ⟨h1, h2, fun k hk => (hlab k _ (h3 k hk)).trans (h3 k hk)⟩
 ·
  by_cases e : i = id
  ·
   subst e
   rcases hpin with h1 | h1
   · omega
   · simpa [Pl.row] using h1.symm
  ·
   simp only [zBd _ _ e] at hx
   simp only [Pl.row, zBd _ _ e]
   exact h.pr i hi hx

theorem Rel.call1 (h : Rel w0 I n L s a w) (K O : List Nat) (hKO : ∀ i ∈ K ++ O, (s.r i).isSome) {r' : Nat → Option (Nat × List (List PV))} {w' : World} (hJ : Same ((K ++ O).flatMap L.ν) w w')
  (hr : ∀ i sz xs', r' i = some (sz, xs') → (s.r i = some (sz, xs') ∧ i ∉ K ∧ i ∉ O) ∨ (i ∈ O ∧ i ∉ K ∧ ∃ xs, s.r i = some (sz, xs) ∧ NfP xs ∧ PVO no w' (.sl true sz xs') (L.ρ i) (L.ν i)))
  (hr2 : ∀ i sz xs, i ∉ K → s.r i = some (sz, xs) → ∃ xs', r' i = some (sz, xs')) :
  Rel w0 I n { L with lab := fun k => if k ∈ K.flatMap L.ν then none else L.lab k } { t := fun i => (s.t i).kill K, b := fun j => (s.b j).map (AV.kills K), r := r' } a w' := by
 have labs : ∀ {X : List Nat} {k}, (∀ i ∈ X, (s.r i).isSome) → k ∈ X.flatMap L.ν → ∃ i ∈ X, L.lab k = some (.row i) := fun {X} {k} hX hk => by
  obtain ⟨i, hi, hki⟩ := List.mem_flatMap.1 hk
  obtain ⟨⟨sz, xs⟩, hx⟩ := Option.isSome_iff_exists.1 (hX i hi)
  exact ⟨i, hi, (h.rw i sz xs hx).2.2 k hki⟩
 have hK : ∀ i ∈ K, (s.r i).isSome := fun i hi => hKO i (List.mem_append_left _ hi)
 have keep : ∀ k, k < w.heap.size → (∀ i ∈ K ++ O, L.lab k ≠ some (.row i)) → w'.heap[k]? = w.heap[k]? := fun k hk hi => hJ.block k hk (fun hx => by obtain ⟨i, h1, h2⟩ := labs hKO hx; exact hi i h1 h2)
 have keepl : ∀ k, (∀ i ∈ K, L.lab k ≠ some (.row i)) → (if k ∈ K.flatMap L.ν then none else L.lab k) = L.lab k := fun k hi => if_neg (fun hx => by obtain ⟨i, h1, h2⟩ := labs hK hx; exact hi i h1 h2)
 refine h.next (K := K) (h.same.trans hJ (fun x hx hI hxJ => ?_)) (fun k hk => ⟨Nat.lt_of_lt_of_le (h.zlt k hk).1 hJ.size, ?_⟩) (fun k l hk => ?_) ⟨fun k hk => ⟨hk, ?_⟩, fun i k hi hs hk => ⟨.inr hk, ?_⟩, fun b hb => ⟨by simpa using hb, rfl⟩, fun i sz xs hi hx => ?_⟩ (fun _ => rfl) (fun i cs hc => ?_) (fun i sz xs' hx => ?_)
 ·
  obtain ⟨i, _, h2⟩ := labs hKO hxJ
  rcases (h.llt x _ h2).2 with h3 | h3
  · omega
  · exact hI h3
 ·
  have := (h.zlt k hk).2
  simp only [this, ite_self]
 ·
  simp only at hk
  split at hk
  · cases hk
  · exact ⟨Nat.lt_of_lt_of_le (h.llt k l hk).1 hJ.size, (h.llt k l hk).2⟩
 · exact keep k (h.zlt k hk).1 (fun i _ => by rw [(h.zlt k hk).2]; simp)
 ·
  obtain ⟨⟨sz, xs⟩, hx⟩ := Option.isSome_iff_exists.1 hs
  obtain ⟨h1, h2, h3⟩ := h.rw i sz xs hx
  obtain ⟨xs', hx'⟩ := hr2 i sz xs hi hx
  rcases hr i sz xs' hx' with ⟨_, _, h4⟩ | ⟨_, _, xs0, h5, h6, _⟩
  ·
   refine keep k (h1.lt k (List.mem_of_mem_tail hk)) (fun j hj => ?_)
   rw [h3 k (List.mem_of_mem_tail hk)]
   simp only [ne_eq, Option.some.injEq, Lab.row.injEq]
   intro e
   subst e
   exact (List.mem_append.1 hj).elim hi h4
  ·
   rw [hx] at h5
   cases h5
   rw [zHv h1 h6] at hk
   cases hk
 ·
  obtain ⟨xs', hx'⟩ := hr2 i sz xs hi hx
  refine ⟨xs', hx', ?_, rfl⟩
  rcases hr i sz xs' hx' with ⟨h4, _⟩ | ⟨_, _, xs0, h5, _, h6⟩
  · rw [hx] at h4; cases h4; rfl
  ·
   rw [hx] at h5
   cases h5
   obtain ⟨A, c, e⟩ := zIE h6
   exact (zC3 (h.rw i sz xs hx).1 A _ c e)
 ·
  simp only [Option.map_eq_some_iff] at hc
  obtain ⟨cs0, h0, rfl⟩ := hc
  have hlb := (h.bx i cs0 h0).1
  exact .inl ⟨cs0, h0, rfl, keep _ (h.llt _ _ hlb).1 (fun j _ => by rw [hlb]; simp), keepl _ (fun j _ => by rw [hlb]; simp)⟩
 ·
  rcases hr i sz xs' hx with ⟨h4, h5, h6⟩ | ⟨h4, h5, xs, h6, h7, h8⟩
  ·
   obtain ⟨h1, h2, h3⟩ := h.rw i sz xs' h4
   refine .inl ⟨h4, rfl, rfl, fun k hk => ⟨keep k (h1.lt k hk) (fun j hj => ?_), keepl k (fun j hj => ?_)⟩⟩
   ·
    rw [h3 k hk]
    simp only [ne_eq, Option.some.injEq, Lab.row.injEq]
    intro e
    subst e
    exact (List.mem_append.1 hj).elim h5 h6
   ·
    rw [h3 k hk]
    simp only [ne_eq, Option.some.injEq, Lab.row.injEq]
    intro e
    subst e
    exact h5 hj
  ·
   obtain ⟨h1, h2, h3⟩ := h.rw i sz xs h6
   refine .inr ⟨.inr ⟨by rw [h6]; rfl, rfl⟩, h8.up (fun _ h => h.elim), h2, fun k hk => ?_⟩
   have := h3 k hk
   rw [← this]
   exact keepl k (fun j hj => by
    rw [this]
    simp only [ne_eq, Option.some.injEq, Lab.row.injEq]
    intro e
    subst e
    exact h5 hj)
end

def rAV (id : Nat) : PV → AV
 | .v x => .p none (.v x)
 | .sl true _ xs => .sl id 0 xs.length
 | .sl false sz xs => .p none (.sl false sz xs)
 | .clo f xs => .p none (.clo f xs)
def zIB (id : Nat) : PV → List (Nat × Nat × List (List PV))
 | .sl true sz xs => [(id, sz, xs)]
 | _ => []
def rAVs (id : Nat) : List PV → List AV
 | [] => []
 | p :: ps => rAV id p :: rAVs (id + 1) ps
def zHV (id : Nat) : List PV → List (Nat × Nat × List (List PV))
 | [] => []
 | p :: ps => zIB id p ++ zHV (id + 1) ps
def PA.size : PA → Nat
 | .one _ => 1
 | .agg ps => ps.length
 | .fbox _ => 0
 | .rptr _ _ => 1
def pAV (id : Nat) : PA → AV
 | .one p => rAV id p
 | .agg ps => .agg (rAVs id ps)
 | .fbox ps => .fea none ps
 | .rptr _ _ => .ea id 0 0
def zKF (id : Nat) : PA → List (Nat × Nat × List (List PV))
 | .one p => zIB id p
 | .agg ps => zHV id ps
 | .fbox _ => []
 | .rptr sz ps => [(id, sz, [ps])]
def pAVs (step : PA → Nat) (id : Nat) : List PA → List AV
 | [] => []
 | p :: ps => pAV id p :: pAVs step (id + step p) ps
def zDn (step : PA → Nat) (id : Nat) : List PA → List (Nat × Nat × List (List PV))
 | [] => []
 | p :: ps => zKF id p ++ zDn step (id + step p) ps
def zEl (step : PA → Nat) : List PA → Nat
 | [] => 0
 | p :: ps => step p + zEl step ps
def zNm (id : Nat) : List PA → AV
 | [p] => pAV id p
 | ps => .tup (pAVs PA.size id ps)

theorem zDc (r : Nat → Option (Nat × List (List PV))) : ∀ (l l' : List (Nat × Nat × List (List PV))), zBr r (l ++ l') = zBr (zBr r l) l'
 | [], _ => rfl
 | x :: l, l' => by simp only [List.cons_append, zBr]; exact zDc _ l l'

def ownC (id : Nat) : List PV → List (Nat × Nat)
 | [] => []
 | .sl true sz _ :: ps => (id, sz) :: ownC (id + 1) ps
 | _ :: ps => ownC (id + 1) ps
def ownA (id : Nat) : PA → List (Nat × Nat)
 | .one p => ownC id [p]
 | .agg ps => ownC id ps
 | .fbox _ => []
 | .rptr sz _ => [(id, sz)]
def owns (step : PA → Nat) (id : Nat) : List PA → List (Nat × Nat)
 | [] => []
 | p :: ps => ownA id p ++ owns step (id + step p) ps
def PinE (ρ : Nat → Value) : List (Nat × Nat) → List Leaf → Prop
 | x :: os, lf :: E => ρ x.1 = lf.v ∧ PinE ρ os E
 | _, _ => True
theorem PinE.app {ρ : Nat → Value} : ∀ {os : List (Nat × Nat)} {E : List Leaf} {os' : List (Nat × Nat)} {E' : List Leaf}, os.length = E.length → PinE ρ (os ++ os') (E ++ E') → PinE ρ os E ∧ PinE ρ os' E'
 | [], [], _, _, _, h => ⟨trivial, h⟩
 | [], _ :: _, _, _, hl, _ => by simp at hl
 | _ :: _, [], _, _, hl, _ => by simp at hl
 | x :: os, lf :: E, os', E', hl, h => by
  simp only [List.cons_append, PinE] at h
  obtain ⟨h1, h2⟩ := PinE.app (os := os) (E := E) (by simpa using hl) h.2
  exact ⟨⟨h.1, h1⟩, h2⟩
theorem PinE.get {ρ : Nat → Value} : ∀ {os : List (Nat × Nat)} {E : List Leaf}, PinE ρ os E → ∀ {i : Nat} {x : Nat × Nat} {lf : Leaf}, os[i]? = some x → E[i]? = some lf → ρ x.1 = lf.v
 | [], _, _, i, x, lf, h, _ => by simp at h
 | _ :: _, [], _, i, x, lf, _, h => by simp at h
 | y :: os, l :: E, h, i, x, lf, h1, h2 => by
  simp only [PinE] at h
  cases i with
  | zero => simp at h1 h2; subst h1 h2; exact h.1
  | succ i => simp at h1 h2; exact PinE.get h.2 h1 h2
def mkρ : List (Nat × Nat) → List Leaf → Nat → Value
 | x :: os, lf :: E, i => if i = x.1 then lf.v else mkρ os E i
 | _, _, _ => undef
theorem zKn {ρ ρ' : Nat → Value} : ∀ {os : List (Nat × Nat)} {E : List Leaf}, PinE ρ os E → (∀ x ∈ os, ρ' x.1 = ρ x.1) → PinE ρ' os E
 | [], _, _, _ => by simp [PinE]
 | _ :: _, [], _, _ => by simp [PinE]
 | x :: os, lf :: E, h, he => by
  simp only [PinE] at h ⊢
  exact ⟨(he x (by simp)).trans h.1, zKn h.2 (fun y hy => he y (by simp [hy]))⟩
theorem zOu : ∀ {os : List (Nat × Nat)} {E : List Leaf}, os.Pairwise (fun x y => x.1 < y.1) → PinE (mkρ os E) os E
 | [], _, _ => by simp [PinE]
 | _ :: _, [], _ => by simp [PinE]
 | x :: os, lf :: E, h => by
  obtain ⟨h1, h2⟩ := List.pairwise_cons.1 h
  simp only [PinE]
  refine ⟨by simp [mkρ], zKn (zOu h2) (fun y hy => ?_)⟩
  have := h1 y hy
  simp only [mkρ]
  rw [if_neg (by omega)]
theorem zKs (id : Nat) (p : PV) (ps : List PV) : ownC id (p :: ps) = ownC id [p] ++ ownC (id + 1) ps := by
 cases p with
 | sl o sz xs => cases o <;> rfl
 | _ => rfl
theorem zKG : ∀ (ps : List PV) (id : Nat), (ownC id ps).Pairwise (fun x y => x.1 < y.1) ∧ ∀ x ∈ ownC id ps, id ≤ x.1 ∧ x.1 < id + ps.length
 | [], id => ⟨.nil, by simp [ownC]⟩
 | p :: ps, id => by
  obtain ⟨h1, h2⟩ := zKG ps (id + 1)
  have hk : ∀ x ∈ ownC (id + 1) ps, id ≤ x.1 ∧ x.1 < id + (p :: ps).length := fun x hx => by
   have := h2 x hx
   simp only [List.length_cons]
   omega
  cases p with
  | sl o sz xs =>
   cases o with
   | true =>
    refine ⟨List.pairwise_cons.2 ⟨fun x hx => by have := h2 x hx; simp only; omega, h1⟩, fun x hx => ?_⟩
    simp only [ownC, List.mem_cons] at hx
    rcases hx with rfl | hx
    · simp
    · exact hk x hx
   | false => exact ⟨h1, hk⟩
  | _ => exact ⟨h1, hk⟩
theorem ownA_in (p : PA) (id : Nat) : (ownA id p).Pairwise (fun x y => x.1 < y.1) ∧ ∀ x ∈ ownA id p, id ≤ x.1 ∧ x.1 < id + p.size := by
 cases p with
 | one p => exact zKG [p] id
 | agg ps => exact zKG ps id
 | fbox _ => exact ⟨.nil, by simp [ownA]⟩
 | rptr sz _ => exact ⟨List.pairwise_singleton _ _, by simp [ownA, PA.size]⟩
theorem zMZ {step : PA → Nat} : ∀ (ps : List PA) (id : Nat), (∀ p ∈ ps, p.size ≤ step p) → (owns step id ps).Pairwise (fun x y => x.1 < y.1) ∧ ∀ x ∈ owns step id ps, id ≤ x.1
 | [], _, _ => ⟨.nil, by simp [owns]⟩
 | p :: ps, id, hs => by
  obtain ⟨h1, h2⟩ := ownA_in p id
  obtain ⟨h3, h4⟩ := zMZ ps (id + step p) (fun q hq => hs q (by simp [hq]))
  have hp := hs p (by simp)
  refine ⟨List.pairwise_append.2 ⟨h1, h3, fun x hx y hy => ?_⟩, fun x hx => ?_⟩
  ·
   have := h2 x hx
   have := h4 y hy
   omega
  ·
   rcases List.mem_append.1 hx with hx | hx
   · exact (h2 x hx).1
   · exact Nat.le_trans (Nat.le_add_right _ _) (h4 x hx)
theorem zKk {Z : Nat → Prop} {w : World} {p : PV} {v : Value} {E : List Leaf} (h : PS Z w p v E) (id : Nat) : (ownC id [p]).length = E.length := by
 cases h with
 | own _ => rfl
 | nf hn _ =>
  cases p with
  | sl o sz xs => simp [PV.nf] at hn; subst hn; rfl
  | _ => rfl
theorem pss_len {Z : Nat → Prop} {w : World} {ps : List PV} {vs : List Value} {E : List Leaf} (h : PSs Z w ps vs E) : ∀ id, (ownC id ps).length = E.length := by
 induction h with
 | nil => intro _; rfl
 | cons h _ ih =>
  intro id
  rw [zKs, List.length_append, List.length_append, zKk h, ih]
theorem zMX {Z : Nat → Prop} {w : World} {p : PA} {v : Value} {E : List Leaf} (h : PAS Z w p v E) (id : Nat) : (ownA id p).length = E.length := by
 cases h with
 | one h => exact zKk h id
 | agg h => exact pss_len h id
 | fbox => rfl
 | rptr => rfl
section
variable {w0 : World} {I : Fr} {n : Nat} {a : Act} {w : World}
structure Takes (w0 : World) (I : Fr) (n : Nat) (a : Act) (w : World) (L L' : Pl) (s s' : St) (F : List Leaf) (lo hi : Nat) : Prop where
 rel : Rel w0 I n L' s' a w
 mv : Moves [] L L' w w s s'
 z : L'.Z = L.Z
 lab : ∀ k, k ∉ Leaf.all F → L'.lab k = L.lab k
 r : ∀ i, i < lo ∨ hi ≤ i → s'.r i = s.r i
theorem take1 {L : Pl} {s : St} (h : Rel w0 I n L s a w) {p : PV} {v : Value} {F : List Leaf} (hp : PS L.Z w p v F) (hF : ∀ k ∈ Leaf.all F, L.lab k = none ∧ ¬ L.Z k ∧ (w0.heap.size ≤ k ∨ k ∈ I.I)) (hnd : (Leaf.all F).Nodup) {id : Nat} (hid : s.r id = none) (hpin : id < pinT ∨ PinE I.ρ (ownC id [p]) F) :
  ∃ L', Takes w0 I n a w L L' s { s with r := zBr s.r (zIB id p) } F id (id + 1) ∧ AVR L' w { s with r := zBr s.r (zIB id p) } (rAV id p) v := by
 cases hp with
 | own h1 =>
  rename_i sz xs N
  have hrel := h.adopt h1 (id := id) (fun k hk => hF k (by simpa [Leaf.all] using hk)) (by simpa [Leaf.all] using hnd) hid (hpin.imp (fun h => h) (fun h => by simpa [PinE, ownC] using h))
  have hne : ∀ {i}, (s.r i).isSome → i ≠ id := fun hs e => by subst e; rw [hid] at hs; cases hs
  refine ⟨_, ⟨hrel, ⟨fun k hk => ⟨hk, rfl⟩, fun i k _ hi hk => ⟨.inr (by simp only [Pl.row, zBd _ _ (hne hi)]; exact hk), rfl⟩, fun b hb => ⟨hb, rfl⟩, fun i sz xs _ hx => ⟨xs, by simp only [zIB, zBr, zBd _ _ (hne (by rw [hx]; rfl))]; exact hx, rfl, zBd _ _ (hne (by rw [hx]; rfl))⟩⟩, rfl, fun k hk => ?_, fun i hi => ?_⟩, ?_⟩
  ·
   simp only [Pl.row]
   exact if_neg (by simpa [Leaf.all] using hk)
  ·
   simp only [zIB, zBr]
   exact zBd _ _ (by omega)
  · exact zFm (sz := sz) (xs := xs) (by simp [zIB, zBr]) (by simp [Pl.row]) (hrel.rw id sz xs (by simp)).1 rfl
 | nf hn h1 =>
  have hrr : zIB id p = [] := by
   cases p with
   | sl o sz xs => simp [PV.nf] at hn; subst hn; rfl
   | _ => rfl
  rw [hrr]
  refine ⟨L, ⟨h, ⟨fun k hk => ⟨hk, rfl⟩, fun _ k _ _ hk => ⟨.inr hk, rfl⟩, fun b hb => ⟨hb, rfl⟩, fun i sz xs _ hx => ⟨xs, hx, rfl, rfl⟩⟩, rfl, fun _ _ => rfl, fun _ _ => rfl⟩, ?_⟩
  have hz : PVR (L.zd none) w p v := h1.toR.mono (fun _ _ => rfl) (fun k hk => hk.elim (fun h => .inl h) (by simp))
  cases p with
  | v x => simp only [rAV, AVR]; exact ⟨hz, fun _ h => by cases h⟩
  | sl o sz xs => simp [PV.nf] at hn; subst hn; simp only [rAV, AVR]; exact ⟨hz, fun _ h => by cases h⟩
  | clo f xs => simp only [rAV, AVR]; exact ⟨hz, fun _ h => by cases h⟩
theorem Takes.trans {L L1 L2 : Pl} {s s1 s2 : St} {F F' : List Leaf} {lo mid hi : Nat} (h : Takes w0 I n a w L L1 s s1 F lo mid) (k : Takes w0 I n a w L1 L2 s1 s2 F' mid hi) (h1 : lo ≤ mid) (h2 : mid ≤ hi) : Takes w0 I n a w L L2 s s2 (F ++ F') lo hi where
 rel := k.rel
 mv := ⟨fun x hx => ⟨(k.mv.z x (h.mv.z x hx).1).1, rfl⟩, fun i x _ hi hx => by
  rcases (h.mv.n i x (by simp) hi hx).1 with h1 | h1
  · exact ⟨.inl (k.mv.z x h1).1, rfl⟩
  · exact ⟨(k.mv.n i x (by simp) (h.mv.some (by simp) hi) h1).1, rfl⟩, fun b hb => ⟨(k.mv.b b (h.mv.b b hb).1).1, (k.mv.b b (h.mv.b b hb).1).2.trans (h.mv.b b hb).2⟩, fun i sz xs _ hx => by
  obtain ⟨x1, e1, e2, e3⟩ := h.mv.r i sz xs (by simp) hx
  obtain ⟨x2, f1, f2, f3⟩ := k.mv.r i sz x1 (by simp) e1
  exact ⟨x2, f1, f2.trans e2, f3.trans e3⟩⟩
 z := k.z.trans h.z
 lab x hx := by
  simp only [Leaf.all, List.flatMap_append, List.mem_append, not_or] at hx
  exact (k.lab x hx.2).trans (h.lab x hx.1)
 r i hi := (k.r i (by omega)).trans (h.r i (by omega))
theorem zJL {L L' : Pl} {s s' : St} {F F' : List Leaf} {lo hi : Nat} (t : Takes w0 I n a w L L' s s' F lo hi) (hnd : (Leaf.all (F ++ F')).Nodup) (hF : ∀ k ∈ Leaf.all (F ++ F'), L.lab k = none ∧ ¬ L.Z k ∧ (w0.heap.size ≤ k ∨ k ∈ I.I)) : ∀ k ∈ Leaf.all F', L'.lab k = none ∧ ¬ L'.Z k ∧ (w0.heap.size ≤ k ∨ k ∈ I.I) := fun k hk => by
 simp only [Leaf.all, List.flatMap_append] at hnd hF
 obtain ⟨h1, h2, h3⟩ := hF k (List.mem_append_right _ hk)
 refine ⟨(t.lab k (fun hx => (List.nodup_append.1 hnd).2.2 k hx k hk rfl)).trans h1, by rw [t.z]; exact h2, h3⟩
theorem takeL {L : Pl} {s : St} (h : Rel w0 I n L s a w) : ∀ {ps : List PV} {vs : List Value} {F : List Leaf} (_ : PSs L.Z w ps vs F) (_ : ∀ k ∈ Leaf.all F, L.lab k = none ∧ ¬ L.Z k ∧ (w0.heap.size ≤ k ∨ k ∈ I.I)) (_ : (Leaf.all F).Nodup) {id : Nat} (_ : ∀ i, id ≤ i → i < id + ps.length → s.r i = none) (_ : id + ps.length ≤ pinT ∨ PinE I.ρ (ownC id ps) F),
  ∃ L', Takes w0 I n a w L L' s { s with r := zBr s.r (zHV id ps) } F id (id + ps.length) ∧ AVRs L' w { s with r := zBr s.r (zHV id ps) } (rAVs id ps) vs := by
 intro ps
 induction ps generalizing L s with
 | nil =>
  intro vs F hp _ _ id _ _
  cases hp
  exact ⟨L, ⟨h, ⟨fun k hk => ⟨hk, rfl⟩, fun _ k _ _ hk => ⟨.inr hk, rfl⟩, fun b hb => ⟨hb, rfl⟩, fun i sz xs _ hx => ⟨xs, hx, rfl, rfl⟩⟩, rfl, fun _ _ => rfl, fun _ _ => rfl⟩, by simp [rAVs, AVRs]⟩
 | cons p ps ih =>
  intro vs F hp hF hnd id hid hpin
  cases hp with
  | cons h1 ht =>
   rename_i v E vs E'
   simp only [List.length_cons] at hid hpin
   rw [zKs] at hpin
   obtain ⟨L1, t1, a1⟩ := take1 h h1 (fun k hk => hF k (by simp only [Leaf.all, List.flatMap_append]; exact List.mem_append_left _ hk)) (by simp only [Leaf.all, List.flatMap_append] at hnd; exact (List.nodup_append.1 hnd).1) (id := id) (hid id (by omega) (by omega)) (hpin.imp (fun h => by omega) (fun h => (h.app (zKk h1 id)).1))
   obtain ⟨L2, t2, a2⟩ := ih t1.rel (by rw [t1.z]; exact ht) (zJL t1 hnd hF) (by simp only [Leaf.all, List.flatMap_append] at hnd; exact (List.nodup_append.1 hnd).2.1) (id := id + 1) (fun i h1 h2 => (t1.r i (by omega)).trans (hid i (by omega) (by omega))) (hpin.imp (fun h => by omega) (fun h => (h.app (zKk h1 id)).2))
   have e : zBr s.r (zHV id (p :: ps)) = zBr (zBr s.r (zIB id p)) (zHV (id + 1) ps) := zDc _ _ _
   rw [e]
   refine ⟨L2, ?_, ?_⟩
   ·
    have := t1.trans t2 (by omega) (by omega)
    rwa [show id + 1 + ps.length = id + (p :: ps).length by simp; omega] at this
   ·
    simp only [rAVs, AVRs]
    exact ⟨a1.move0 t2.mv, a2⟩
theorem takeA {L : Pl} {s : St} (h : Rel w0 I n L s a w) {p : PA} {v : Value} {F : List Leaf} (hp : PAS L.Z w p v F) (hF : ∀ k ∈ Leaf.all F, L.lab k = none ∧ ¬ L.Z k ∧ (w0.heap.size ≤ k ∨ k ∈ I.I)) (hnd : (Leaf.all F).Nodup) {id : Nat} (hid : ∀ i, id ≤ i → i < id + p.size → s.r i = none) (hpin : id + p.size ≤ pinT ∨ PinE I.ρ (ownA id p) F) :
  ∃ L', Takes w0 I n a w L L' s { s with r := zBr s.r (zKF id p) } F id (id + p.size) ∧ AVR L' w { s with r := zBr s.r (zKF id p) } (pAV id p) v := by
 cases hp with
 | one h1 =>
  refine take1 h h1 hF hnd (hid id (Nat.le_refl _) (by simp [PA.size])) (hpin.imp (fun h => by simp [PA.size] at h; omega) (fun h => h))
 | agg h1 =>
  obtain ⟨L', t, av⟩ := takeL h h1 hF hnd (id := id) hid hpin
  exact ⟨L', t, by simp only [pAV, AVR]; exact ⟨_, rfl, av⟩⟩
 | fbox hz h1 =>
  refine ⟨L, ⟨h, ⟨fun k hk => ⟨hk, rfl⟩, fun _ k _ _ hk => ⟨.inr hk, rfl⟩, fun b hb => ⟨hb, rfl⟩, fun i sz xs _ hx => ⟨xs, hx, rfl, rfl⟩⟩, rfl, fun _ _ => rfl, fun _ _ => rfl⟩, ?_⟩
  simp only [pAV, AVR]
  exact ⟨⟨_, _, rfl, .inl hz, fun j p hj => by obtain ⟨u, hu, hr⟩ := h1 j p hj; exact ⟨u, hu, hr.mono (fun _ _ => rfl) (fun k hk => .inl hk)⟩⟩, fun _ h => by cases h⟩
 | rptr h1 =>
  rename_i sz ps k c N
  obtain ⟨L', t, av⟩ := take1 h (PS.own h1) hF hnd (hid id (Nat.le_refl _) (by simp [PA.size])) (hpin.imp (fun h => by simp [PA.size] at h; omega) (fun h => h))
  refine ⟨L', t, ?_⟩
  simp only [rAV, AVR] at av
  obtain ⟨sz', xs', e1, _, A, m, c1, A', c', e3, e4, _, e6, _⟩ := av
  obtain ⟨rfl, rfl⟩ := e6 rfl
  cases e4
  simp only [pAV, zKF, AVR]
  have e5 : zBr s.r [(id, sz, [ps])] id = some (sz, [ps]) := by simp [zBr]
  exact ⟨sz, [ps], k, m, _, e5, by simp, e3, by simp⟩
theorem zOi {step : PA → Nat} : ∀ {ps : List PA} {L : Pl} {s : St} (_ : Rel w0 I n L s a w) {vs : List Value} {F : List Leaf} (_ : PASs L.Z w ps vs F) (_ : ∀ k ∈ Leaf.all F, L.lab k = none ∧ ¬ L.Z k ∧ (w0.heap.size ≤ k ∨ k ∈ I.I)) (_ : (Leaf.all F).Nodup) {id : Nat} (_ : ∀ p ∈ ps, p.size ≤ step p) (_ : ∀ i, id ≤ i → i < id + zEl step ps → s.r i = none) (_ : id + zEl step ps ≤ pinT ∨ PinE I.ρ (owns step id ps) F),
  ∃ L', Takes w0 I n a w L L' s { s with r := zBr s.r (zDn step id ps) } F id (id + zEl step ps) ∧ AVRs L' w { s with r := zBr s.r (zDn step id ps) } (pAVs step id ps) vs := by
 intro ps
 induction ps with
 | nil =>
  intro L s h vs F hp _ _ id _ _ _
  cases hp
  exact ⟨L, ⟨h, ⟨fun k hk => ⟨hk, rfl⟩, fun _ k _ _ hk => ⟨.inr hk, rfl⟩, fun b hb => ⟨hb, rfl⟩, fun i sz xs _ hx => ⟨xs, hx, rfl, rfl⟩⟩, rfl, fun _ _ => rfl, fun _ _ => rfl⟩, by simp [pAVs, AVRs]⟩
 | cons p ps ih =>
  intro L s h vs F hp hF hnd id hst hid hpin
  cases hp with
  | cons h1 ht =>
   rename_i v E vs E'
   simp only [zEl, owns] at hid hpin
   have hs := hst p (by simp)
   obtain ⟨L1, t1, a1⟩ := takeA h h1 (fun k hk => hF k (by simp only [Leaf.all, List.flatMap_append]; exact List.mem_append_left _ hk)) (by simp only [Leaf.all, List.flatMap_append] at hnd; exact (List.nodup_append.1 hnd).1) (id := id) (fun i e1 e2 => hid i (by omega) (by omega)) (hpin.imp (fun h => by omega) (fun h => (h.app (zMX h1 id)).1))
   have t1' : Takes w0 I n a w L L1 s { s with r := zBr s.r (zKF id p) } E id (id + step p) := ⟨t1.rel, t1.mv, t1.z, t1.lab, fun i hi => t1.r i (by omega)⟩
   obtain ⟨L2, t2, a2⟩ := ih t1.rel (by rw [t1.z]; exact ht) (zJL t1 hnd hF) (by simp only [Leaf.all, List.flatMap_append] at hnd; exact (List.nodup_append.1 hnd).2.1) (id := id + step p) (fun q hq => hst q (by simp [hq])) (fun i h1 h2 => (t1'.r i (by omega)).trans (hid i (by omega) (by omega))) (hpin.imp (fun h => by omega) (fun h => (h.app (zMX h1 id)).2))
   have e : zBr s.r (zDn step id (p :: ps)) = zBr (zBr s.r (zKF id p)) (zDn step (id + step p) ps) := zDc _ _ _
   rw [e]
   refine ⟨L2, ?_, ?_⟩
   ·
    have := t1'.trans t2 (by omega) (by omega)
    rwa [show id + step p + zEl step ps = id + zEl step (p :: ps) by simp only [zEl]; omega] at this
   ·
    simp only [pAVs, AVRs]
    exact ⟨a1.move0 t2.mv, a2⟩
theorem takeR {ps : List PA} {L : Pl} {s : St} (h : Rel w0 I n L s a w) {v : Value} {F : List Leaf} (hp : RES L.Z w ps v F) (hF : ∀ k ∈ Leaf.all F, L.lab k = none ∧ ¬ L.Z k ∧ (w0.heap.size ≤ k ∨ k ∈ I.I)) (hnd : (Leaf.all F).Nodup) {id : Nat} (hid : ∀ i, id ≤ i → i < id + zEl PA.size ps → s.r i = none) (hpin : id + zEl PA.size ps ≤ pinT) :
  ∃ L', Rel w0 I n L' { s with r := zBr s.r (zDn PA.size id ps) } a w ∧ AVR L' w { s with r := zBr s.r (zDn PA.size id ps) } (zNm id ps) v := by
 cases hp with
 | one h1 =>
  rename_i p
  have e : zDn PA.size id [p] = zKF id p := by simp [zDn]
  rw [e]
  simp only [zEl, Nat.add_zero] at hid hpin
  obtain ⟨L', t, av⟩ := takeA h h1 hF hnd hid (.inl hpin)
  exact ⟨L', t.rel, av⟩
 | more hl h1 =>
  obtain ⟨L', t, av⟩ := zOi h h1 hF hnd (fun p _ => Nat.le_refl _) hid (.inl hpin)
  refine ⟨L', t.rel, ?_⟩
  have e : zNm id ps = .tup (pAVs PA.size id ps) := by
   match ps, hl with
   | [], _ => rfl
   | _ :: _ :: _, _ => rfl
  rw [e]
  simp only [AVR]
  exact ⟨_, rfl, av⟩
end
end Go.Rl
namespace Go.Rl
open Go.RowKit

inductive Clean : PV → Prop where
 | v (x : Value) : Clean (.v x)
 | sl (sz : Nat) (xs : List (List PV)) (h : ∀ es ∈ xs, ∀ p ∈ es, Clean p) : Clean (.sl true sz xs)
theorem FlatP.clean {xs : List (List PV)} (h : FlatP xs) : ∀ es ∈ xs, ∀ p ∈ es, Clean p := fun es he p hp => by
 have := h es he p hp
 cases p with
 | v x => exact .v x
 | _ => cases this
theorem PVO.clean {Z : Nat → Prop} {w : World} {p : PV} {v : Value} {N : List Nat} (h : PVO Z w p v N) (hc : Clean p) : PVO no w p v N := by
 induction h with
 | v x h => exact .v x h
 | fro sz xs v h => cases hc
 | clo f xs v h => cases hc
 | nil sz A => exact .nil sz A
 | own sz xs k c cur ty hlen hk hsz hc' hm u n hcell hp hfz ih =>
  cases hc with
  | sl _ _ hx =>
   refine .own sz xs k c cur ty hlen hk hsz hc' hm u n hcell (fun j p hj => ih j p hj ?_) hfz
   obtain ⟨es, h1, h2⟩ := List.mem_flatten.1 (List.mem_of_getElem? hj)
   exact hx es h1 p h2

inductive RvA (P : Program) (s : St) : ResultVar → AV → Prop where
 | tmp {t : Tmp} {av : AV} (h : s.t t = av) : RvA P s (.tmp t) av
 | cell1 {a : Tmp} {ty : TypeId} {b off : Nat} {cs : List AV} {av : AV} (h : s.t a = .ptr b off) (hb : s.b b = some cs) (hag : ∀ w, (isAgg ty).run P w = .ok false w) (hav : cs[off]? = some av) : RvA P s (.cell a ty) av
 | cell {a : Tmp} {ty : TypeId} {b off sz : Nat} {cs : List AV} (h : s.t a = .ptr b off) (hb : s.b b = some cs) (hag : ∀ w, (isAgg ty).run P w = .ok true w) (hsz : ∀ w, (sizeOf ty).run P w = .ok sz w) (hl : off + sz ≤ cs.length) : RvA P s (.cell a ty) (.agg ((cs.drop off).take sz))
inductive RvAs (P : Program) (s : St) : List ResultVar → List AV → Prop where
 | nil : RvAs P s [] []
 | cons {r : ResultVar} {av : AV} {rs : List ResultVar} {avs : List AV} (h : RvA P s r av) (t : RvAs P s rs avs) : RvAs P s (r :: rs) (av :: avs)
inductive GPa (s : St) : AV → PA → List Nat → Prop where
 | one {av : AV} {p : PV} {K : List Nat} (g : Gv s av p K) (hc : Clean p) : GPa s av (.one p) K
 | agg {cs : List AV} {ps : List PV} {K : List Nat} (g : Gvs s cs ps K) (hc : ∀ p ∈ ps, Clean p) : GPa s (.agg cs) (.agg ps) K
 | rptr {id sz : Nat} {ps : List PV} (hr : s.r id = some (sz, [ps])) (hc : ∀ p ∈ ps, Clean p) : GPa s (.ea id 0 0) (.rptr sz ps) [id]
inductive GPas (s : St) : List AV → List PA → List Nat → Prop where
 | nil : GPas s [] [] []
 | cons {av : AV} {p : PA} {K : List Nat} {avs : List AV} {ps : List PA} {K' : List Nat} (h : GPa s av p K) (t : GPas s avs ps K') : GPas s (av :: avs) (p :: ps) (K ++ K')
def OutsOk (s : St) (K : List Nat) : List (Nat × Nat) → List (Option (List (List PV))) → Prop
 | x :: os, o :: outs => (match o with
  | none => True
  | some xs' => s.r x.1 = some (x.2, xs') ∧ FlatP xs' ∧ x.1 ∉ K) ∧ OutsOk s K os outs
 | _, _ => True
theorem OutsOk.get {s : St} {K : List Nat} : ∀ {os : List (Nat × Nat)} {outs : List (Option (List (List PV)))} (_ : OutsOk s K os outs) {i : Nat} {x : Nat × Nat} {xs'} (_ : os[i]? = some x) (_ : outs[i]? = some (some xs')), s.r x.1 = some (x.2, xs') ∧ FlatP xs' ∧ x.1 ∉ K
 | [], _, _, i, x, _, h, _ => by simp at h
 | _ :: _, [], _, i, x, _, _, h => by simp at h
 | y :: os, o :: outs, h, i, x, xs', h1, h2 => by
  simp only [OutsOk] at h
  cases i with
  | zero => simp at h1 h2; subst h1 h2; exact h.1
  | succ i => simp at h1 h2; exact OutsOk.get h.2 h1 h2

theorem zOt {Z : Nat → Prop} {w : World} : ∀ {ps : List PV} {vs : List Value} {E : List Leaf} (_ : PSs Z w ps vs E) {id : Nat}, E.length = (ownC id ps).length ∧ ∀ (i : Nat) lf, E[i]? = some lf → ∃ x, (ownC id ps)[i]? = some x ∧ x.2 = lf.sz ∧ ∃ xs, PVO Z w (.sl true lf.sz xs) lf.v lf.N := by
 intro ps
 induction ps with
 | nil => intro vs E h id; cases h; exact ⟨rfl, by simp⟩
 | cons p ps ih =>
  intro vs E h id
  cases h with
  | cons h1 ht =>
   rename_i v E vs E'
   obtain ⟨g1, g2⟩ := ih ht (id := id + 1)
   cases h1 with
   | own h1 =>
    rename_i sz xs N
    refine ⟨by simp [ownC, g1], fun i lf hl => ?_⟩
    cases i with
    | zero => simp at hl; subst hl; exact ⟨(id, sz), rfl, rfl, xs, h1⟩
    | succ i => simp at hl; simpa [ownC] using g2 i lf hl
   | nf hn h1 =>
    have : ownC id (p :: ps) = ownC (id + 1) ps := by
     cases p with
     | sl o sz xs => simp [PV.nf] at hn; subst hn; rfl
     | _ => rfl
    rw [this]
    exact ⟨g1, g2⟩
theorem own_ats {Z : Nat → Prop} {w : World} {step : PA → Nat} : ∀ {ps : List PA} {vs : List Value} {E : List Leaf} (_ : PASs Z w ps vs E) {id : Nat}, E.length = (owns step id ps).length ∧ ∀ (i : Nat) lf, E[i]? = some lf → ∃ x, (owns step id ps)[i]? = some x ∧ x.2 = lf.sz ∧ ∃ xs, PVO Z w (.sl true lf.sz xs) lf.v lf.N := by
 intro ps
 induction ps with
 | nil => intro vs E h id; cases h; exact ⟨rfl, by simp⟩
 | cons p ps ih =>
  intro vs E h id
  cases h with
  | cons h1 ht =>
   rename_i v E vs E'
   obtain ⟨g1, g2⟩ := ih ht (id := id + step p)
   have key : E.length = (ownA id p).length ∧ ∀ (i : Nat) lf, E[i]? = some lf → ∃ x, (ownA id p)[i]? = some x ∧ x.2 = lf.sz ∧ ∃ xs, PVO Z w (.sl true lf.sz xs) lf.v lf.N := by
    cases h1 with
    | one h1 =>
     have := zOt (id := id) (.cons h1 .nil)
     simpa [ownA] using this
    | agg h1 => exact zOt h1
    | fbox => exact ⟨rfl, by simp⟩
    | rptr h1 =>
     refine ⟨rfl, fun i lf hl => ?_⟩
     cases i with
     | zero => simp at hl; subst hl; exact ⟨_, rfl, rfl, _, h1⟩
     | succ i => simp at hl
   refine ⟨by simp [owns, g1, key.1], fun i lf hl => ?_⟩
   simp only [owns]
   rcases Nat.lt_or_ge i E.length with h2 | h2
   ·
    rw [List.getElem?_append_left h2] at hl
    rw [List.getElem?_append_left (by rw [← key.1]; exact h2)]
    exact key.2 i lf hl
   ·
    rw [List.getElem?_append_right h2] at hl
    rw [List.getElem?_append_right (by rw [← key.1]; exact h2), ← key.1]
    exact g2 _ lf hl

def lkL : List AV → Nat → AV
 | [], _ => .undef
 | x :: _, 0 => x
 | _ :: l, q + 1 => lkL l q
theorem zMk : ∀ (l : List AV) (q : Nat), lkL l q = (l[q]?).getD .undef
 | [], _ => rfl
 | _ :: _, 0 => rfl
 | _ :: l, q + 1 => by simp [lkL, zMk l q]
def zMo (args : List PA) : St := ⟨lkL (pAVs (fun _ => pinT) pinT args), fun _ => none, zBr (fun _ => none) (zDn (fun _ => pinT) pinT args)⟩
def Ends (P : Program) (rs : List ResultVar) (args : List PA) (outs : List (Option (List (List PV)))) (res : List PA) (s : St) : Prop :=
 ∃ avs K, RvAs P s rs avs ∧ GPas s avs res K ∧ K.Nodup ∧ OutsOk s K (owns (fun _ => pinT) pinT args) outs
def RetQ (P : Program) (rs : List ResultVar) (args : List PA) (outs : List (Option (List (List PV)))) (res : List PA) : Exit → St → Prop
 | .normal, s => Ends P rs args outs res s
 | .ret, s => Ends P rs args outs res s
 | _, _ => False

def zHR (tmps : Array Value) : ResultVar → Sem Value
 | .tmp t => pure (tmps.getD t undef)
 | .cell a t => do loadVar t (← asAddr (tmps.getD a undef))
section
variable {w0 : World} {I : Fr} {n : Nat} {L : Pl} {s : St} {a : Act} {w : World} {P : Program}
theorem RvA.ok (h : Rel w0 I n L s a w) {r : ResultVar} {av : AV} (g : RvA P s r av) : ∃ u, (zHR a.tmps r).run P w = .ok u w ∧ AVR L w s av u := by
 cases g with
 | tmp ht => exact ⟨_, rfl, ht ▸ h.tm _⟩
 | cell1 ht hb hag hav =>
  rename_i a0 ty b off cs
  have hv := h.tm a0
  rw [ht] at hv
  simp only [AVR] at hv
  obtain ⟨us, h1, h2⟩ := h.box hb
  obtain ⟨u, hu, ha⟩ := h1.get _ _ hav
  refine ⟨u, ?_, ha⟩
  simp only [zHR, hv.2, asAddr, pure_bind]
  exact zCx hag (h2 _ u hu)
 | cell ht hb hag hsz hl =>
  rename_i a0 ty b off sz cs
  have hv := h.tm a0
  rw [ht] at hv
  simp only [AVR] at hv
  obtain ⟨us, h1, h2⟩ := h.box hb
  have hlen := h1.length
  refine ⟨.agg ⟨(us.drop off).take sz⟩, ?_, ?_⟩
  ·
   simp only [zHR, hv.2, asAddr, pure_bind]
   refine zCy hag hsz (us := (us.drop off).take sz) (by simp; omega) (fun j u hu => ?_)
   rw [List.getElem?_take] at hu
   split at hu
   · rw [List.getElem?_drop] at hu; exact h2 _ _ hu
   · cases hu
  ·
   simp only [AVR]
   exact ⟨_, rfl, h1.sub off sz⟩
theorem RvAs.ok (h : Rel w0 I n L s a w) {rs : List ResultVar} {avs : List AV} (g : RvAs P s rs avs) : ∃ us, (rs.mapM (zHR a.tmps)).run P w = .ok us w ∧ AVRs L w s avs us := by
 induction g with
 | nil => exact ⟨[], rfl, by simp [AVRs]⟩
 | cons g _ ih =>
  obtain ⟨us, h1, h2⟩ := ih
  obtain ⟨u, h3, h4⟩ := g.ok h
  refine ⟨u :: us, ?_, by simp only [AVRs]; exact ⟨h4, h2⟩⟩
  rw [List.mapM_cons, Sem.run_bind, h3, Result.andThen_ok, Sem.run_bind, h1]
  rfl
theorem GPa.ok (h : Rel w0 I n L s a w) {av : AV} {p : PA} {K : List Nat} (g : GPa s av p K) {v : Value} (hv : AVR L w s av v) : ∃ F, PAS no w p v F ∧ Leaf.all F = K.flatMap L.ν := by
 have cell : ∀ {av p K v}, Gv s av p K → Clean p → AVR L w s av v → ∃ F, PS no w p v F ∧ Leaf.all F = K.flatMap L.ν := fun {av p K v} g hc hv => by
  have := (g.ok h hv).clean hc
  cases p with
  | v x =>
   have hK : K = [] := by cases g; rfl
   subst hK
   exact ⟨[], .nf rfl (by simpa using this), rfl⟩
  | sl o sz xs =>
   have ho : o = true := by cases hc; rfl
   subst ho
   exact ⟨_, .own this, by simp [Leaf.all]⟩
  | clo f xs => cases hc
 cases g with
 | one g hc =>
  obtain ⟨F, h1, h2⟩ := cell g hc hv
  exact ⟨F, .one h1, h2⟩
 | agg g hc =>
  rename_i cs ps
  simp only [AVR] at hv
  obtain ⟨us, rfl, hv⟩ := hv
  have : ∀ {cs ps K us}, Gvs s cs ps K → (∀ p ∈ ps, Clean p) → AVRs L w s cs us → ∃ F, PSs no w ps us F ∧ Leaf.all F = K.flatMap L.ν := fun {cs ps K us} g => by
   induction g generalizing us with
   | nil =>
    intro _ hv
    cases us with
    | nil => exact ⟨[], .nil, rfl⟩
    | cons _ _ => simp [AVRs] at hv
   | cons g _ ih =>
    intro hc hv
    cases us with
    | nil => simp [AVRs] at hv
    | cons u us =>
     simp only [AVRs] at hv
     obtain ⟨F, h1, h2⟩ := cell g (hc _ (by simp)) hv.1
     obtain ⟨F', h3, h4⟩ := ih (fun p hp => hc p (by simp [hp])) hv.2
     exact ⟨F ++ F', .cons h1 h3, by simp only [Leaf.all, List.flatMap_append] at h2 h4 ⊢; rw [h2, h4]⟩
  obtain ⟨F, h1, h2⟩ := this g hc hv
  exact ⟨F, .agg h1, h2⟩
 | rptr hr hc =>
  rename_i id sz ps
  simp only [AVR] at hv
  obtain ⟨sz', xs', k, m, c, e1, e2, e3, rfl⟩ := hv
  rw [hr] at e1
  cases e1
  have hp := (h.rw _ _ _ hr).1
  have hm := zC3 hp _ _ _ e3
  simp only [List.length_cons, List.length_nil] at hm
  subst hm
  rw [e3] at hp
  simp only [Nat.zero_mul, Nat.add_zero]
  exact ⟨_, .rptr (hp.clean (.sl _ _ (fun es he => by simp only [List.mem_singleton] at he; subst he; exact hc))), by simp [Leaf.all]⟩
theorem GPas.ok (h : Rel w0 I n L s a w) {avs : List AV} {ps : List PA} {K : List Nat} (g : GPas s avs ps K) : ∀ {us : List Value} (_ : AVRs L w s avs us), ∃ F, PASs no w ps us F ∧ Leaf.all F = K.flatMap L.ν := by
 induction g with
 | nil =>
  intro us hv
  cases us with
  | nil => exact ⟨[], .nil, rfl⟩
  | cons _ _ => simp [AVRs] at hv
 | cons g _ ih =>
  intro us hv
  cases us with
  | nil => simp [AVRs] at hv
  | cons u us =>
   simp only [AVRs] at hv
   obtain ⟨F, h1, h2⟩ := g.ok h hv.1
   obtain ⟨F', h3, h4⟩ := ih hv.2
   exact ⟨F ++ F', .cons h1 h3, by simp only [Leaf.all, List.flatMap_append] at h2 h4 ⊢; rw [h2, h4]⟩
theorem GPas.rows {avs : List AV} {ps : List PA} {K : List Nat} (g : GPas s avs ps K) : ∀ i ∈ K, (s.r i).isSome := by
 have one : ∀ {av p K}, GPa s av p K → ∀ i ∈ K, (s.r i).isSome := fun {av p K} g => by
  cases g with
  | one g _ =>
   intro i hi
   cases g with
   | row hr hl => simp at hi; subst hi; rw [hr]; rfl
   | pre hr hl hn => simp at hi; subst hi; rw [hr]; rfl
   | _ => simp at hi
  | agg g _ => exact g.rows
  | rptr hr _ => intro i hi; simp at hi; subst hi; rw [hr]; rfl
 induction g with
 | nil => simp
 | cons g _ ih =>
  intro i hi
  rcases List.mem_append.1 hi with hi | hi
  · exact one g i hi
  · exact ih i hi
end

theorem zMt {Z Z' : Nat → Prop} {w w' : World} {sz sz' : Nat} {xs xs' : List (List PV)} {v : Value} {N N' : List Nat} (h : PVO Z w (.sl true sz xs) v N) (h' : PVO Z' w' (.sl true sz' xs') v N') (hf : FlatP xs') : N = N' ∨ ∃ k m, N = k :: m ∧ N' = [k] := by
 have ht := zHv h' hf.nf
 cases h with
 | nil _ A =>
  generalize hv : Value.slice A 0 0 = v at h'
  cases h' with
  | nil => exact .inl rfl
  | own _ _ k' c' cur' ty' hlen' hk' hsz' hc' hm' u' m' hcell' hp' =>
   simp only [Value.slice.injEq] at hv
   omega
 | own _ _ k c cur ty hlen hk hsz hc hm u m hcell hp =>
  generalize hv : Value.slice (some ⟨k, 0, none⟩) xs.length c = v at h'
  cases h' with
  | nil =>
   simp only [Value.slice.injEq] at hv
   omega
  | own _ _ k' c' cur' ty' hlen' hk' hsz' hc' hm' u' m' hcell' hp' =>
   simp only [Value.slice.injEq, Option.some.injEq, Addr.mk.injEq, and_true] at hv
   obtain ⟨rfl, _⟩ := hv
   simp only [List.tail_cons] at ht
   exact .inr ⟨k, _, rfl, by rw [ht]⟩

theorem PASs.length {Z : Nat → Prop} {w : World} {ps : List PA} {vs : List Value} {E : List Leaf} (h : PASs Z w ps vs E) : ps.length = vs.length := by
 induction h with
 | nil => rfl
 | cons _ _ ih => simp [ih]
theorem zJ4 {P : Program} {fn : Func} {rs : List ResultVar} (hrs : fn.results = rs.toArray) {tmps : Array Value} {us : List Value} {w : World} (h : (rs.mapM (zHR tmps)).run P w = .ok us w) : (results fn tmps).run P w = .ok (if h : us.length = 1 then us[0] else .tuple ⟨us⟩) w := by
 have e : results fn tmps = (rs.toArray.mapM (zHR tmps) >>= fun vs => pure (if h : vs.size = 1 then vs[0] else .tuple vs)) := by
  unfold results
  rw [hrs]
  congr 1
 rw [e, List.mapM_toArray]
 simp [h]
theorem zAR {γ : Gho} {P : Program} {f : FuncId} {fn : Func} {c : Code} {rs : List ResultVar} {args : List PA} {outs : List (Option (List (List PV)))} {res : List PA} (hf : P.funcs[f]? = some fn) (hb : fn.body = some c) (hrs : fn.results = rs.toArray) (hn' : Nat.ble args.length fn.ntmps = true) (hsz' : args.all (fun p => Nat.ble p.size pinT) = true)
  (h : Tr γ P fn.ntmps c (zMo args) (RetQ P rs args outs res)) : ConG γ P f args outs res := by
 intro Z w vs E hG hp hZ hnd hlt
 have hn : args.length ≤ fn.ntmps := Nat.le_of_ble_eq_true hn'
 have hsz : ∀ p ∈ args, p.size ≤ pinT := fun p hp => Nat.le_of_ble_eq_true ((List.all_eq_true.1 hsz') p hp)
 refine calls_of_wp hf hb ?_
 have hlen : vs.length = args.length := by
  clear hG h hn hsz hn' hsz' hZ hnd hlt
  induction hp with
  | nil => rfl
  | cons _ _ ih => simp [ih]
 have hown0 := zMZ (step := fun _ => pinT) args pinT hsz
 have hpins : PinE (mkρ (owns (fun _ => pinT) pinT args) E) (owns (fun _ => pinT) pinT args) E := zOu hown0.1
 let I : Fr := ⟨Leaf.all E, mkρ (owns (fun _ => pinT) pinT args) E, fun _ => 0, Z, []⟩
 let a : Act := { tmps := (⟨vs⟩ : Array Value) ++ Array.replicate (fn.ntmps - (⟨vs⟩ : Array Value).size) undef, defers := [] }
 let L0 : Pl := ⟨Z, fun _ => 0, fun _ => undef, fun _ => [], fun _ => none⟩
 have hasz : a.tmps.size = fn.ntmps := by simp [a]; omega
 have h0 : Rel w I fn.ntmps L0 ⟨fun _ => .undef, fun _ => none, fun _ => none⟩ a w :=
  ⟨Same.refl _ w, fun k hk => ⟨(hZ k hk).1, rfl⟩, fun k l hk => by simp [L0] at hk, hasz, rfl, fun i => by simp [AVR], fun i cs hc => by simp at hc, fun i sz xs hx => by simp at hx, fun i _ hx => by simp at hx, fun i _ hx => by simp at hx, fun k hk => .inl hk⟩
 obtain ⟨L1, t1, a1⟩ := zOi (step := fun _ => pinT) (id := pinT) h0 (vs := vs) (F := E) hp (fun k hk => ⟨rfl, fun hz => (hZ k hz).2 hk, .inr hk⟩) hnd hsz (fun _ _ _ => rfl) (.inr hpins)
 have h1 : Rel w I fn.ntmps L1 (zMo args) a w := by
  refine ⟨t1.rel.same, t1.rel.zlt, t1.rel.llt, hasz, rfl, fun i => ?_, fun i cs hc => by simp [zMo] at hc, fun i sz xs hx => t1.rel.rw i sz xs hx, t1.rel.pr, t1.rel.pb, t1.rel.zi⟩
  have hmv : Moves [] L1 L1 w w { t := fun _ => .undef, b := fun _ => none, r := zBr (fun _ => none) (zDn (fun _ => pinT) pinT args) } (zMo args) := ⟨fun k hk => ⟨hk, rfl⟩, fun _ k _ _ hk => ⟨.inr hk, rfl⟩, fun b hb => ⟨hb, rfl⟩, fun i sz xs _ hx => ⟨xs, hx, rfl, rfl⟩⟩
  simp only [zMo]
  rw [zMk]
  cases hi : (pAVs (fun _ => pinT) pinT args)[i]? with
  | none => simp [AVR]
  | some av =>
   obtain ⟨u, hu, hr⟩ := a1.get i av hi
   have hui : a.tmps.getD i undef = u := by
    have hlt := (List.getElem?_eq_some_iff.1 hu).1
    have : a.tmps[i]? = some u := by
     simp only [a]
     rw [Array.getElem?_append_left (by simpa using hlt)]
     simpa using hu
    simp [this]
   rw [hui]
   exact hr.move0 hmv
 refine wp_mono (h w I L1 a w hG h1) (fun e a' w' ⟨s', L', hq, hr⟩ => ?_)
 have fin : Ends P rs args outs res s' → a'.defers = [] ∧ ∃ v, (results fn a'.tmps).run P w' = .ok v w' ∧ ∃ v' F, Ending.returned v = .returned v' ∧ Same (Leaf.all E) w w' ∧
   (∀ (i : Nat) lf xs', E[i]? = some lf → outs[i]? = some (some xs') → FlatP xs' ∧ ∃ N, PVO no w' (.sl true lf.sz xs') lf.v N) ∧
   RES no w' res v' F ∧ (Leaf.all F).Nodup ∧ ∀ k ∈ Leaf.all F, w.heap.size ≤ k ∨ ∃ (i : Nat) (lf : Leaf), E[i]? = some lf ∧ k ∈ lf.N ∧ ∀ xs', outs[i]? = some (some xs') → k ∈ lf.N.tail := by
  rintro ⟨avs, K, hrv, hg, hKn, hout⟩
  obtain ⟨us, hrun, hav⟩ := hrv.ok hr
  obtain ⟨F, hF, hFK⟩ := hg.ok hr hav
  obtain ⟨hown1, hown2⟩ := own_ats hp (step := fun _ => pinT) (id := pinT)
  have hrl := hF.length
  have hres := zJ4 hrs hrun
  have kept : ∀ (i : Nat) lf xs', E[i]? = some lf → outs[i]? = some (some xs') → ∃ id, s'.r id = some (lf.sz, xs') ∧ FlatP xs' ∧ id ∉ K ∧ L'.ρ id = lf.v ∧ ∃ xs, PVO Z w (.sl true lf.sz xs) lf.v lf.N := fun i lf xs' hi ho => by
   obtain ⟨x, e1, e2, e4⟩ := hown2 i lf hi
   have e3 := hpins.get e1 hi
   obtain ⟨g1, g2, g3⟩ := hout.get e1 ho
   have hpx : pinT ≤ x.1 := hown0.2 x (List.mem_of_getElem? e1)
   exact ⟨x.1, by rw [← e2]; exact g1, g2, g3, (hr.pr x.1 hpx (by rw [g1]; rfl)).trans e3, e4⟩
  refine ⟨hr.df, _, hres, _, F, rfl, hr.same, fun i lf xs' hi ho => ?_, ?_, by rw [hFK]; exact (hr.nodup hKn hg.rows).1, fun k hk => ?_⟩
  ·
   obtain ⟨id, g1, g2, g3, g4, _⟩ := kept i lf xs' hi ho
   refine ⟨g2, L'.ν id, ?_⟩
   have := (hr.rw id _ _ g1).1
   rw [g4] at this
   exact this.clean (.sl _ _ g2.clean)
  ·
   split
   ·
    rename_i h1
    cases hF with
    | nil => simp at h1
    | cons hF1 hF2 =>
     cases hF2 with
     | nil => rw [List.append_nil]; exact .one hF1
     | cons _ _ => simp at h1
   ·
    rename_i h1
    exact .more (by rw [hrl]; exact h1) hF
  ·
   rw [hFK] at hk
   obtain ⟨j, hj, hl⟩ := (hr.nodup hKn hg.rows).2 k hk
   rcases (hr.llt k _ hl).2 with h2 | h2
   · exact .inl h2
   ·
    obtain ⟨lf, hlf, hkl⟩ := List.mem_flatMap.1 h2
    obtain ⟨i, hi⟩ := List.getElem?_of_mem hlf
    refine .inr ⟨i, lf, hi, hkl, fun xs' ho => ?_⟩
    obtain ⟨id, g1, g2, g3, g4, xs, g5⟩ := kept i lf xs' hi ho
    obtain ⟨r1, r2, r3⟩ := hr.rw id _ _ g1
    rw [g4] at r1
    have hne : k ∉ L'.ν id := fun hx => by
     rw [r3 k hx] at hl
     simp only [Option.some.injEq, Lab.row.injEq] at hl
     subst hl
     exact g3 hj
    rcases zMt g5 r1 g2 with e | ⟨k0, m, e1, e2⟩
    · rw [e] at hkl; exact absurd hkl hne
    ·
     rw [e1] at hkl ⊢
     rcases List.mem_cons.1 hkl with rfl | h3
     · rw [e2] at hne; simp at hne
     · exact h3
 cases e with
 | normal => exact fin hq
 | ret => exact fin hq
 | _ => exact hq.elim
end Go.Rl
namespace Go.Rl
open Go.RowKit

inductive CellA (s : St) (X : List Nat) : AV → PV → List Nat → Prop where
 | bor {av : AV} {p : PV} (h : Brw s X av p) : CellA s X av p []
 | own {id len sz : Nat} {xs : List (List PV)} (hr : s.r id = some (sz, xs)) (hl : len = xs.length) : CellA s X (.sl id 0 len) (.sl true sz xs) [id]
inductive CellAs (s : St) (X : List Nat) : List AV → List PV → List Nat → Prop where
 | nil : CellAs s X [] [] []
 | cons {av : AV} {p : PV} {K : List Nat} {aL : List AV} {ps : List PV} {K' : List Nat} (h : CellA s X av p K) (t : CellAs s X aL ps K') : CellAs s X (av :: aL) (p :: ps) (K ++ K')
inductive ArgA (s : St) (X : List Nat) : AV → PA → List Nat → Prop where
 | one {av : AV} {p : PV} {K : List Nat} (h : CellA s X av p K) : ArgA s X av (.one p) K
 | agg {cs : List AV} {ps : List PV} {K : List Nat} (h : CellAs s X cs ps K) : ArgA s X (.agg cs) (.agg ps) K
 | box {b off : Nat} {cs : List AV} {ps : List PV} (hb : s.b b = some cs) (h : Brws s X (cs.drop off) ps) : ArgA s X (.ptr b off) (.fbox ps) []
 | fea {d : Option Nat} {ps : List PV} (hd : ∀ i, d = some i → i ∉ X) : ArgA s X (.fea d ps) (.fbox ps) []
 | rptr {id sz : Nat} {ps : List PV} (hr : s.r id = some (sz, [ps])) : ArgA s X (.ea id 0 0) (.rptr sz ps) [id]
inductive ArgAs (s : St) (X : List Nat) : List AV → List PA → List Nat → Prop where
 | nil : ArgAs s X [] [] []
 | cons {av : AV} {p : PA} {K : List Nat} {aL : List AV} {ps : List PA} {K' : List Nat} (h : ArgA s X av p K) (t : ArgAs s X aL ps K') : ArgAs s X (av :: aL) (p :: ps) (K ++ K')
inductive CalleeA (s : St) (X : List Nat) : AV → FuncId → List (List PV) → Prop where
 | val {d : Option Nat} {f : FuncId} {pss : List (List PV)} (hd : ∀ i, d = some i → i ∉ X) : CalleeA s X (.p d (.clo f pss)) f pss
 | clo {f : FuncId} {bs : List Nat} {pss : List (List PV)} (h : BrwB s X bs pss) : CalleeA s X (.clo f bs) f pss
inductive Kept (s : St) : List Nat → List (Option (List (List PV))) → List (Nat × Nat × List (List PV)) → List Nat → Prop where
 | nil : Kept s [] [] [] []
 | keep {id sz : Nat} {xs xs' : List (List PV)} {X : List Nat} {outs : List (Option (List (List PV)))} {kr : List (Nat × Nat × List (List PV))} {K : List Nat} (hr : s.r id = some (sz, xs)) (hn : NfP xs) (t : Kept s X outs kr K) : Kept s (id :: X) (some xs' :: outs) ((id, sz, xs') :: kr) K
 | gone {id : Nat} {X : List Nat} {outs : List (Option (List (List PV)))} {kr : List (Nat × Nat × List (List PV))} {K : List Nat} (t : Kept s X outs kr K) : Kept s (id :: X) (none :: outs) kr (id :: K)

structure Less (s s' : St) : Prop where
 r : ∀ i y, s.r i = some y → s'.r i = some y
 b : ∀ i y, s.b i = some y → s'.b i = some y
mutual
theorem Brw.mono {s s' : St} {X : List Nat} (h : Less s s') : ∀ {av : AV} {p : PV}, Brw s X av p → Brw s' X av p
 | _, _, .v => .v
 | _, _, .sl hd => .sl hd
 | _, _, .cl hd => .cl hd
 | _, _, .nil sz => .nil sz
 | _, _, .row hr hi => .row (h.r _ _ hr) hi
 | _, _, .all hr hl hi => .all (h.r _ _ hr) hl hi
 | _, _, .clo hb => .clo (BrwB.mono h hb)
theorem Brws.mono {s s' : St} {X : List Nat} (h : Less s s') : ∀ {aL : List AV} {ps : List PV}, Brws s X aL ps → Brws s' X aL ps
 | _, _, .nil => .nil
 | _, _, .cons g t => .cons (Brw.mono h g) (Brws.mono h t)
theorem BrwB.mono {s s' : St} {X : List Nat} (h : Less s s') : ∀ {bs : List Nat} {pss : List (List PV)}, BrwB s X bs pss → BrwB s' X bs pss
 | _, _, .nil => .nil
 | _, _, .cons hb g t => .cons (h.b _ _ hb) (Brws.mono h g) (BrwB.mono h t)
end
theorem CellA.mono {s s' : St} {X : List Nat} (h : Less s s') {av : AV} {p : PV} {K : List Nat} (g : CellA s X av p K) : CellA s' X av p K := by
 cases g with
 | bor g => exact .bor (g.mono h)
 | own hr hl => exact .own (h.r _ _ hr) hl
theorem CellAs.mono {s s' : St} {X : List Nat} (h : Less s s') {aL : List AV} {ps : List PV} {K : List Nat} (g : CellAs s X aL ps K) : CellAs s' X aL ps K := by
 induction g with
 | nil => exact .nil
 | cons g _ ih => exact .cons (g.mono h) ih
theorem ArgA.mono {s s' : St} {X : List Nat} (h : Less s s') {av : AV} {p : PA} {K : List Nat} (g : ArgA s X av p K) : ArgA s' X av p K := by
 cases g with
 | one g => exact .one (g.mono h)
 | agg g => exact .agg (g.mono h)
 | box hb g => exact .box (h.b _ _ hb) (g.mono h)
 | fea hd => exact .fea hd
 | rptr hr => exact .rptr (h.r _ _ hr)
theorem ArgAs.mono {s s' : St} {X : List Nat} (h : Less s s') {aL : List AV} {ps : List PA} {K : List Nat} (g : ArgAs s X aL ps K) : ArgAs s' X aL ps K := by
 induction g with
 | nil => exact .nil
 | cons g _ ih => exact .cons (g.mono h) ih
theorem CalleeA.mono {s s' : St} {X : List Nat} (h : Less s s') {av : AV} {f : FuncId} {pss : List (List PV)} (g : CalleeA s X av f pss) : CalleeA s' X av f pss := by
 cases g with
 | val hd => exact .val hd
 | clo g => exact .clo (g.mono h)
theorem Kept.mono {s s' : St} (h : Less s s') {X : List Nat} {outs kr K} (g : Kept s X outs kr K) : Kept s' X outs kr K := by
 induction g with
 | nil => exact .nil
 | keep hr hn _ ih => exact .keep (h.r _ _ hr) hn ih
 | gone _ ih => exact .gone ih
def St.only (s : St) (M B : List Nat) : St := ⟨fun _ => .undef, fun i => match B.elem i with | true => s.b i | false => none, fun i => match M.elem i with | true => s.r i | false => none⟩
theorem zMf (s : St) (M B : List Nat) : Less (s.only M B) s where
 r i y hy := by
  simp only [St.only] at hy
  split at hy
  · exact hy
  · cases hy
 b i y hy := by
  simp only [St.only] at hy
  split at hy
  · exact hy
  · cases hy
theorem only_ag {o : Oper} {M B : List Nat} {s s' : St} (ag : Ag o M B s s') : s'.only M B = s.only M B := by
 refine St.ext' (fun _ => rfl) (fun i => ?_) (fun i => ?_)
 ·
  simp only [St.only]
  split
  · rename_i h; exact ag.n i (by simpa using h)
  · rfl
 ·
  simp only [St.only]
  split
  · rename_i h; exact ag.m i (by simpa using h)
  · rfl

section
variable {w0 : World} {I : Fr} {n : Nat} {L : Pl} {s : St} {a : Act} {w : World} {X : List Nat}
def lf (L : Pl) (s : St) (id : Nat) : Leaf := ⟨L.ρ id, L.ν id, ((s.r id).getD (0, [])).1⟩
theorem CellA.ok (h : Rel w0 I n L s a w) (hX : ∀ i ∈ X, (s.r i).isSome) {av : AV} {p : PV} {K : List Nat} (g : CellA s X av p K) {v : Value} (hv : AVR L w s av v) : PS (rest L w X) w p v (K.map (lf L s)) := by
 cases g with
 | bor g => obtain ⟨h1, h2⟩ := g.ok h hX hv; exact .nf h1 (h2.nfO h1)
 | own hr hl =>
  rename_i id len sz xs
  simp only [AVR] at hv
  obtain ⟨sz', xs', e1, e2, e3⟩ := hv
  rw [hr] at e1
  cases e1
  have hp := (h.rw _ _ _ hr).1
  have := zFT e3 (fun A n c e => (zC3 hp A n c e).trans hl.symm)
  subst this
  have hs : lf L s id = ⟨L.ρ id, L.ν id, sz⟩ := by simp [lf, hr]
  simp only [List.map_cons, List.map_nil, hs]
  exact .own (hp.up (fun k hk => zEx h hX (d := none) (fun _ h => by cases h) k (.inl hk)))
theorem CellAs.ok (h : Rel w0 I n L s a w) (hX : ∀ i ∈ X, (s.r i).isSome) {aL : List AV} {ps : List PV} {K : List Nat} (g : CellAs s X aL ps K) : ∀ {us : List Value} (_ : AVRs L w s aL us), PSs (rest L w X) w ps us (K.map (lf L s)) := by
 induction g with
 | nil =>
  intro us hv
  cases us with
  | nil => exact .nil
  | cons _ _ => simp [AVRs] at hv
 | cons g _ ih =>
  intro us hv
  cases us with
  | nil => simp [AVRs] at hv
  | cons u us =>
   simp only [AVRs] at hv
   rw [List.map_append]
   exact .cons (g.ok h hX hv.1) (ih hv.2)
theorem ArgA.ok (h : Rel w0 I n L s a w) (hX : ∀ i ∈ X, (s.r i).isSome) {av : AV} {p : PA} {K : List Nat} (g : ArgA s X av p K) {v : Value} (hv : AVR L w s av v) : PAS (rest L w X) w p v (K.map (lf L s)) := by
 cases g with
 | one g => exact .one (g.ok h hX hv)
 | agg g =>
  simp only [AVR] at hv
  obtain ⟨us, rfl, hv⟩ := hv
  exact .agg (g.ok h hX hv)
 | box hb g =>
  rename_i b off cs ps
  simp only [AVR] at hv
  obtain ⟨us, h2, h3⟩ := h.box hb
  obtain ⟨hlb, _⟩ := h.bx b cs hb
  have hd := h2.sub off (cs.length - off)
  have e1 : (cs.drop off).take (cs.length - off) = cs.drop off := List.take_of_length_le (by simp)
  have e2 : (us.drop off).take (cs.length - off) = us.drop off := List.take_of_length_le (by simp [h2.length])
  rw [e1, e2] at hd
  obtain ⟨_, h5⟩ := g.ok h hX hd
  rw [hv.2]
  refine .fbox ⟨(h.llt _ _ hlb).1, fun hx => ?_⟩ (fun j p hj => ?_)
  ·
   obtain ⟨i, hi, hki⟩ := List.mem_flatMap.1 hx
   obtain ⟨⟨sz, xs⟩, hr⟩ := Option.isSome_iff_exists.1 (hX i hi)
   have := (h.rw i sz xs hr).2.2 _ hki
   rw [hlb] at this
   cases this
  ·
   obtain ⟨u, hu, _, hr⟩ := h5 j p hj
   rw [List.getElem?_drop] at hu
   exact ⟨u, h3 _ u hu, hr⟩
 | fea hd =>
  simp only [AVR] at hv
  obtain ⟨⟨k, off, rfl, hk, hc⟩, hs⟩ := hv
  have hz := zEx h hX (fun i e => ⟨hd i e, hs i e⟩)
  exact .fbox (hz k hk) (fun j p hj => by obtain ⟨u, hu, hr⟩ := hc j p hj; exact ⟨u, hu, hr.mono (fun _ _ => rfl) hz⟩)
 | rptr hr =>
  rename_i id sz ps
  simp only [AVR] at hv
  obtain ⟨sz', xs', k, m, c, e1, e2, e3, rfl⟩ := hv
  rw [hr] at e1
  cases e1
  have hp := (h.rw _ _ _ hr).1
  have hm := zC3 hp _ _ _ e3
  simp only [List.length_cons, List.length_nil] at hm
  subst hm
  have hs : lf L s id = ⟨L.ρ id, L.ν id, sz⟩ := by simp [lf, hr]
  simp only [List.map_cons, List.map_nil, hs, Nat.zero_mul, Nat.add_zero]
  rw [e3] at hp ⊢
  exact .rptr (hp.up (fun k hk => zEx h hX (d := none) (fun _ h => by cases h) k (.inl hk)))
theorem ArgAs.ok (h : Rel w0 I n L s a w) (hX : ∀ i ∈ X, (s.r i).isSome) {aL : List AV} {ps : List PA} {K : List Nat} (g : ArgAs s X aL ps K) : ∀ {us : List Value} (_ : AVRs L w s aL us), PASs (rest L w X) w ps us (K.map (lf L s)) := by
 induction g with
 | nil =>
  intro us hv
  cases us with
  | nil => exact .nil
  | cons _ _ => simp [AVRs] at hv
 | cons g _ ih =>
  intro us hv
  cases us with
  | nil => simp [AVRs] at hv
  | cons u us =>
   simp only [AVRs] at hv
   rw [List.map_append]
   exact .cons (g.ok h hX hv.1) (ih hv.2)
theorem zGy {Z : Nat → Prop} {w : World} : ∀ (pss : List (List PV)) (ks : List Nat), ks.length = pss.length → (∀ k ∈ ks, Z k) → (∀ (i : Nat) es k, pss[i]? = some es → ks[i]? = some k → ∀ (j : Nat) p, es[j]? = some p → ∃ u, w.cell? ⟨k, j, none⟩ = some u ∧ PVR Z w p u) → PASs Z w (pss.map .fbox) (ks.map fun k => .pointer (some ⟨k, 0, none⟩)) []
 | [], [], _, _, _ => .nil
 | [], _ :: _, h, _, _ => by simp at h
 | _ :: _, [], h, _, _ => by simp at h
 | es :: pss, k :: ks, h, hz, hc => by
  have := zGy pss ks (by simpa using h) (fun x hx => hz x (by simp [hx])) (fun i es k h1 h2 => hc (i + 1) es k h1 h2)
  exact .cons (.fbox (hz k (by simp)) (fun j p hj => by rw [Nat.zero_add]; exact hc 0 es k rfl rfl j p hj)) this
theorem CalleeA.ok (h : Rel w0 I n L s a w) (hX : ∀ i ∈ X, (s.r i).isSome) {av : AV} {f : FuncId} {pss : List (List PV)} (g : CalleeA s X av f pss) {v : Value} (hv : AVR L w s av v) : ∃ cv, v = .func (.func f) #[] ⟨cv⟩ ∧ PASs (rest L w X) w (pss.map .fbox) cv [] := by
 cases g with
 | val hd =>
  simp only [AVR] at hv
  obtain ⟨hp, hs⟩ := hv
  have hz := zEx h hX (fun i e => ⟨hd i e, hs i e⟩)
  cases hp with
  | clo _ _ ks hl hks u hcell hp =>
   refine ⟨_, rfl, zGy pss ks hl (fun k hk => hz k (hks k hk)) (fun i es k h1 h2 j p hj => ⟨u i j, hcell i j es k p h1 h2 hj, (hp i j es p h1 hj).mono (fun _ _ => rfl) hz⟩)⟩
 | clo g =>
  rename_i bs
  have hv' := Brw.ok h hX (.clo g) hv
  simp only [AVR] at hv
  have hp := hv'.2
  generalize v = v0 at hp
  cases hp with
  | clo _ _ ks hl hks u hcell hp => exact ⟨_, rfl, zGy pss ks hl hks (fun i es k h1 h2 j p hj => ⟨u i j, hcell i j es k p h1 h2 hj, hp i j es p h1 hj⟩)⟩
end
theorem PASs.append {Z : Nat → Prop} {w : World} {ps : List PA} {vs : List Value} {E : List Leaf} (h : PASs Z w ps vs E) {ps' : List PA} {vs' : List Value} {E' : List Leaf} (h' : PASs Z w ps' vs' E') : PASs Z w (ps ++ ps') (vs ++ vs') (E ++ E') := by
 induction h with
 | nil => exact h'
 | cons g _ ih => simp only [List.cons_append, List.append_assoc]; exact .cons g ih
theorem PS.up {Z Z' : Nat → Prop} {w : World} {p : PV} {v : Value} {E : List Leaf} (h : PS Z w p v E) (hz : ∀ k, Z k → Z' k) : PS Z' w p v E := by
 cases h with
 | own h => exact .own (h.up hz)
 | nf hn h => exact .nf hn (h.up hz)
theorem PSs.up {Z Z' : Nat → Prop} {w : World} {ps : List PV} {vs : List Value} {E : List Leaf} (h : PSs Z w ps vs E) (hz : ∀ k, Z k → Z' k) : PSs Z' w ps vs E := by
 induction h with
 | nil => exact .nil
 | cons g _ ih => exact .cons (g.up hz) ih
theorem PAS.up {Z Z' : Nat → Prop} {w : World} {p : PA} {v : Value} {E : List Leaf} (h : PAS Z w p v E) (hz : ∀ k, Z k → Z' k) : PAS Z' w p v E := by
 cases h with
 | one h => exact .one (h.up hz)
 | agg h => exact .agg (h.up hz)
 | fbox h1 h2 => exact .fbox (hz _ h1) (fun j p hj => by obtain ⟨u, hu, hr⟩ := h2 j p hj; exact ⟨u, hu, hr.mono (fun _ _ => rfl) hz⟩)
 | rptr h => exact .rptr (h.up hz)
theorem RES.up {Z Z' : Nat → Prop} {w : World} {ps : List PA} {v : Value} {E : List Leaf} (h : RES Z w ps v E) (hz : ∀ k, Z k → Z' k) : RES Z' w ps v E := by
 cases h with
 | one h => exact .one (h.up hz)
 | more hl h =>
  refine .more hl ?_
  clear hl
  induction h with
  | nil => exact .nil
  | cons g _ ih => exact .cons (g.up hz) ih
theorem Kept.mem {s : St} {X : List Nat} {outs kr K} (g : Kept s X outs kr K) : (∀ i ∈ X, i ∈ K ∨ i ∈ kr.map (·.1)) ∧ (∀ i ∈ K, i ∈ X) ∧ (∀ i ∈ kr.map (·.1), i ∈ X) ∧ outs.length = X.length := by
 induction g with
 | nil => simp
 | keep hr hn _ ih =>
  obtain ⟨h1, h2, h3, h4⟩ := ih
  refine ⟨fun i hi => ?_, fun i hi => List.mem_cons_of_mem _ (h2 i hi), fun i hi => ?_, by simp [h4]⟩
  ·
   rcases List.mem_cons.1 hi with rfl | hi
   · exact .inr (by simp)
   · exact (h1 i hi).imp (fun h => h) (fun h => by simp only [List.map_cons, List.mem_cons]; exact .inr h)
  ·
   simp only [List.map_cons, List.mem_cons] at hi
   rcases hi with rfl | hi
   · simp
   · exact List.mem_cons_of_mem _ (h3 i hi)
 | gone _ ih =>
  obtain ⟨h1, h2, h3, h4⟩ := ih
  refine ⟨fun i hi => ?_, fun i hi => ?_, fun i hi => List.mem_cons_of_mem _ (h3 i hi), by simp [h4]⟩
  ·
   rcases List.mem_cons.1 hi with rfl | hi
   · exact .inl (by simp)
   · exact (h1 i hi).imp (fun h => List.mem_cons_of_mem _ h) (fun h => h)
  ·
   rcases List.mem_cons.1 hi with rfl | hi
   · simp
   · exact List.mem_cons_of_mem _ (h2 i hi)
theorem Kept.kr {s : St} {X : List Nat} {outs kr K} (g : Kept s X outs kr K) (hX : X.Nodup) : ∀ {i sz xs'}, (i, sz, xs') ∈ kr → i ∉ K ∧ ∃ xs, s.r i = some (sz, xs) ∧ NfP xs ∧ ∃ q : Nat, X[q]? = some i ∧ outs[q]? = some (some xs') := by
 induction g with
 | nil => intro i sz xs' h; cases h
 | keep hr hn t ih =>
  intro i sz xs' h
  obtain ⟨hx1, hx2⟩ := List.nodup_cons.1 hX
  rcases List.mem_cons.1 h with e | h
  ·
   cases e
   exact ⟨fun hk => hx1 (t.mem.2.1 _ hk), _, hr, hn, 0, rfl, rfl⟩
  ·
   obtain ⟨h1, xs, h2, h3, q, h4, h5⟩ := ih hx2 h
   exact ⟨h1, xs, h2, h3, q + 1, h4, h5⟩
 | gone t ih =>
  intro i sz xs' h
  obtain ⟨hx1, hx2⟩ := List.nodup_cons.1 hX
  obtain ⟨h1, xs, h2, h3, q, h4, h5⟩ := ih hx2 h
  refine ⟨fun hk => ?_, xs, h2, h3, q + 1, h4, h5⟩
  rcases List.mem_cons.1 hk with rfl | hk
  · exact hx1 (t.mem.2.2.1 i (List.mem_map.2 ⟨_, h, rfl⟩))
  · exact h1 hk
theorem Kept.gone_at {s : St} {X : List Nat} {outs kr K} (g : Kept s X outs kr K) : ∀ {q i : Nat}, X[q]? = some i → (∀ xs', outs[q]? ≠ some (some xs')) → i ∈ K := by
 induction g with
 | nil => intro q i h; simp at h
 | keep hr hn t ih =>
  intro q i h1 h2
  cases q with
  | zero => exact absurd rfl (h2 _)
  | succ q => exact ih h1 h2
 | gone t ih =>
  intro q i h1 h2
  cases q with
  | zero => simp at h1; subst h1; simp
  | succ q => exact List.mem_cons_of_mem _ (ih h1 h2)
theorem zHM : ∀ (l : List (Nat × Nat × List (List PV))) (q : Nat), zBr (fun _ => none) l q = none → q ∉ l.map (·.1)
 | [], q, _ => by simp
 | x :: l, q, h => by
  simp only [zBr] at h
  rw [zDb] at h
  cases e : zBr (fun _ => none) l q with
  | some c => rw [e] at h; cases h
  | none =>
   rw [e] at h
   have h1 := zHM l q e
   simp only [List.map_cons, List.mem_cons, not_or]
   refine ⟨fun hq => ?_, h1⟩
   subst hq
   simp at h

def FreshN (s : St) (M : List Nat) : Nat → Nat → Prop
 | _, 0 => True
 | rid, n + 1 => M.elem rid = true ∧ s.r rid = none ∧ FreshN s M (rid + 1) n
def zJK (s : St) (M : List Nat) : Nat → Nat → Bool
 | _, 0 => true
 | rid, n + 1 => M.elem rid && (s.r rid).isNone && zJK s M (rid + 1) n
theorem zOw {s : St} {M : List Nat} : ∀ {n rid : Nat}, zJK s M rid n = true → FreshN s M rid n
 | 0, _, _ => trivial
 | n + 1, rid, h => by
  simp only [zJK, Bool.and_eq_true, Option.isNone_iff_eq_none] at h
  exact ⟨h.1.1, h.1.2, zOw h.2⟩
theorem FreshN.get {s : St} {M : List Nat} : ∀ {n rid : Nat}, FreshN s M rid n → ∀ i, rid ≤ i → i < rid + n → i ∈ M ∧ s.r i = none
 | 0, rid, _, i, h1, h2 => by omega
 | n + 1, rid, h, i, h1, h2 => by
  simp only [FreshN] at h
  by_cases e : i = rid
  · subst e; exact ⟨by simpa using h.1, h.2.1⟩
  · exact FreshN.get h.2.2 i (by omega) (by omega)

section
variable {γ : Gho} {P : Program} {n : Nat} {o : Oper} {M B : List Nat} {s : St}
theorem zNf {x : Operand} {args : List Operand} {ats : Array TypeId} (ho : o.op = .call { callee := .value x, args := args.toArray, argTypes := ats }) {a : Act} {w : World} {f : FuncId} {cv : List Value} (hx : a.eval x = .func (.func f) #[] ⟨cv⟩) (hE : ∀ aL w, (callFunc f aL).run P w = .ok (.enter f aL) w) :
  (execOp a.eval o).run P w = .ok (.enter f ⟨args.map a.eval ++ cv⟩) w := by
 simp only [execOp, ho, resolve, hx, Deferred.ofValue, Sem.run_bind, Sem.run_pure, Result.andThen_ok, invoke, hE]
 congr 2
 apply Array.ext'
 simp
theorem zOy {w0 : World} {I : Fr} {L : Pl} {a : Act} {w : World} (hr : Rel w0 I n L s a w) : ∀ (args : List Operand), AVRs L w s (args.map s.ev) (args.map a.eval)
 | [] => by simp [AVRs]
 | x :: args => by simp only [List.map_cons, AVRs]; exact ⟨hr.ev x, zOy hr args⟩
theorem zDa {γ' : Gho} (hγ : γ' = none ∨ γ' = γ) {x : Operand} {args : List Operand} {ats : Array TypeId} (ho : o.op = .call { callee := .value x, args := args.toArray, argTypes := ats }) (rid : Nat) {f : FuncId} {pas : List PA} {pss : List (List PV)} {X : List Nat} {outs : List (Option (List (List PV)))} {kr : List (Nat × Nat × List (List PV))} {K : List Nat} {res : List PA} {cav : AV}
  (hE : ∀ aL w, (callFunc f aL).run P w = .ok (.enter f aL) w) (hx : s.ev x = cav) (hc : CalleeA (s.only M B) X cav f pss) (ha : ArgAs (s.only M B) X (args.map s.ev) pas X) (hXn : X.Nodup) (hXM : ∀ i ∈ X, ((s.only M B).r i).isSome = true) (hk : Kept (s.only M B) X outs kr K) {all : List PA} (hcon : ConG γ' P f all outs res) (hall : all = pas ++ pss.map .fbox)
  (hf' : zJK s M rid (zEl PA.size res) = true) (hpin : rid + zEl PA.size res ≤ pinT) : StepD γ P n o M B s { put := zNm rid res, kill := K, setR := kr ++ zDn PA.size rid res } := by
 intro s' ag hd w0 I L a w hG hr KK Q hK
 subst hall
 have hf := zOw hf'
 have hon := only_ag ag
 rw [← hon] at hc ha hk hXM
 have hl := zMf s' M B
 have hX : ∀ i ∈ X, (s'.r i).isSome := fun i hi => by
  obtain ⟨y, hy⟩ := Option.isSome_iff_exists.1 (hXM i hi)
  rw [hl.r i y hy]; rfl
 have hev : args.map s'.ev = args.map s.ev := List.map_congr_left (fun y hy => ag.ev1 ho (by simp [Op.operands, Call.operands, hy]))
 have hk' := hk.mono hl
 have hxv := hr.ev x
 rw [ag.ev1 ho (by simp [Op.operands, Call.operands]), hx] at hxv
 obtain ⟨cv, e1, e2⟩ := (hc.mono hl).ok hr hX hxv
 have e3 := (ha.mono hl).ok hr hX (by rw [← hev]; exact zOy hr args)
 have e4 := e3.append e2
 rw [List.append_nil] at e4
 have hall : Leaf.all (X.map (lf L s')) = X.flatMap L.ν := by simp [Leaf.all, List.flatMap_map, lf]
 obtain ⟨hnd, hlab⟩ := hr.nodup hXn hX
 unfold Oper.wp
 rw [zNf ho e1 hE, Oper.upon_enter]
 have hGw : Gh γ' w (Leaf.all (X.map (lf L s'))) := by
  rcases hγ with rfl | rfl
  · exact gh_none _ _
  ·
   intro k ob e
   obtain ⟨g1, g2⟩ := hG k ob e
   have hlt := (Array.getElem?_eq_some_iff.1 g1).1
   refine ⟨(hr.same.block k hlt g2).trans g1, fun hx => ?_⟩
   rw [hall] at hx
   obtain ⟨i, _, hl⟩ := hlab k hx
   rcases (hr.llt k _ hl).2 with h3 | h3
   · omega
   · exact g2 h3
 refine (hcon (rest L w X) w _ _ hGw e4 (fun k hk => by rw [hall]; exact hk) (by rw [hall]; exact hnd) (fun k hk => by rw [hall] at hk; obtain ⟨i, _, hl⟩ := hlab k hk; exact (hr.llt k _ hl).1)).mono (fun e w' hp => ?_)
 obtain ⟨v, F, rfl, hsame, hkept, hres, hFn, hFk⟩ := hp
 rw [hall] at hsame
 obtain ⟨m1, m2, m3, m4⟩ := hk'.mem
 have hKO : ∀ i ∈ K ++ kr.map (·.1), (s'.r i).isSome := fun i hi => hX i ((List.mem_append.1 hi).elim (m2 i) (m3 i))
 have hsub : ∀ k, k ∈ X.flatMap L.ν → k ∈ (K ++ kr.map (·.1)).flatMap L.ν := fun k hk => by
  obtain ⟨i, hi, hki⟩ := List.mem_flatMap.1 hk
  exact List.mem_flatMap.2 ⟨i, List.mem_append.2 (m1 i hi), hki⟩
 have hJ : Same ((K ++ kr.map (·.1)).flatMap L.ν) w w' := ⟨hsame.os, hsame.tape, hsame.output, hsame.size, fun k hk hn => hsame.block k hk (fun hx => hn (hsub k hx))⟩
 have hkr : ∀ {i sz xs'}, (i, sz, xs') ∈ kr → i ∉ K ∧ ∃ xs, s'.r i = some (sz, xs) ∧ NfP xs ∧ PVO no w' (.sl true sz xs') (L.ρ i) (L.ν i) := fun {i sz xs'} h => by
  obtain ⟨h1, xs, h2, h3, q, h4, h5⟩ := hk'.kr hXn h
  obtain ⟨hflat, N', hN'⟩ := hkept q (lf L s' i) xs' (by rw [List.getElem?_map, h4]; rfl) h5
  have hlf : lf L s' i = ⟨L.ρ i, L.ν i, sz⟩ := by simp [lf, h2]
  rw [hlf] at hN'
  obtain ⟨r1, _, _⟩ := hr.rw i sz xs h2
  have hNN : L.ν i = N' := by
   rcases zMt r1 hN' hflat with e | ⟨k, m, e5, e6⟩
   · exact e
   ·
    have := zHv r1 h3
    rw [e5] at this
    simp only [List.tail_cons] at this
    rw [e5, e6, this]
  rw [hNN]
  exact ⟨h1, xs, h2, h3, hN'⟩
 have hc1 := hr.call1 K (kr.map (·.1)) hKO (r' := zBr (s'.kill K).r kr) hJ (fun i sz xs' hi => by
  rw [zDb] at hi
  cases e : zBr (fun _ => none) kr i with
  | some y =>
   rw [e] at hi
   cases hi
   have hm := zCe _ _ _ e
   obtain ⟨g1, xs, g2, g3, g4⟩ := hkr hm
   exact .inr ⟨List.mem_map.2 ⟨_, hm, rfl⟩, g1, xs, g2, g3, g4⟩
  | none =>
   rw [e] at hi
   simp only [St.kill] at hi
   split at hi
   · cases hi
   ·
    rename_i hn
    exact .inl ⟨hi, hn, zHM _ _ e⟩) (fun i sz xs hn hi => by
  rw [zDb]
  cases e : zBr (fun _ => none) kr i with
  | some y =>
   have hm := zCe _ _ _ e
   obtain ⟨sz', xs'⟩ := y
   obtain ⟨g1, xs0, g2, g3, g4⟩ := hkr hm
   rw [hi] at g2
   cases g2
   exact ⟨xs', rfl⟩
  | none =>
   refine ⟨xs, ?_⟩
   simp only [St.kill]
   rw [if_neg hn]
   exact hi)
 have hfr : ∀ i, rid ≤ i → i < rid + zEl PA.size res → s'.r i = none := fun i h1 h2 => by
  obtain ⟨h3, h4⟩ := hf.get i h1 h2
  exact (ag.m i h3).trans h4
 obtain ⟨L', hrel, hav⟩ := takeR (id := rid) hc1 (hres.up (fun _ h => h.elim)) (fun k hk => by
  rcases hFk k hk with h1 | ⟨q, lf', h1, h2, h3⟩
  ·
   have hn : L.lab k = none := by
    cases e : L.lab k with
    | none => rfl
    | some l => have := (hr.llt k l e).1; omega
   refine ⟨?_, fun hz => ?_, .inl (Nat.le_trans hr.same.size h1)⟩
   ·
    simp only
    split
    · rfl
    · exact hn
   · have := (hr.zlt k hz).1; omega
  ·
   rw [List.getElem?_map] at h1
   obtain ⟨i, hi, rfl⟩ := Option.map_eq_some_iff.1 h1
   simp only [lf] at h2 h3
   obtain ⟨⟨sz, xs⟩, hsx⟩ := Option.isSome_iff_exists.1 (hX i (List.mem_of_getElem? hi))
   obtain ⟨r1, r2, r3⟩ := hr.rw i sz xs hsx
   have hgone : i ∈ K := hk'.gone_at hi (fun xs' ho => by
    have ht := h3 xs' ho
    have : ∀ {X outs kr K}, Kept s' X outs kr K → ∀ {q i : Nat} {xs'}, X[q]? = some i → outs[q]? = some (some xs') → ∃ sz xs, s'.r i = some (sz, xs) ∧ NfP xs := fun {X outs kr K} g => by
     induction g with
     | nil => intro q i xs' h; simp at h
     | keep hr hn t ih =>
      intro q i xs' h1 h2
      cases q with
      | zero => simp at h1; subst h1; exact ⟨_, _, hr, hn⟩
      | succ q => exact ih h1 h2
     | gone t ih =>
      intro q i xs' h1 h2
      cases q with
      | zero => simp at h2
      | succ q => exact ih h1 h2
    obtain ⟨sz', xs', g1, g2⟩ := this hk' hi ho
    rw [hsx] at g1
    cases g1
    rw [zHv r1 g2] at ht
    cases ht)
   refine ⟨?_, fun hz => ?_, (hr.llt k _ (r3 k h2)).2⟩
   ·
    simp only
    rw [if_pos (List.mem_flatMap.2 ⟨i, hgone, h2⟩)]
   ·
    have := (hr.zlt k hz).2
    rw [r3 k h2] at this
    cases this) hFn (fun i h1 h2 => by
  simp only
  rw [zDb]
  cases e : zBr (fun _ => none) kr i with
  | some y =>
   obtain ⟨sz, xs'⟩ := y
   obtain ⟨_, xs, g2, _⟩ := hkr (zCe _ _ _ e)
   rw [hfr i h1 h2] at g2
   cases g2
  | none =>
   simp only [St.kill]
   split
   · rfl
   · exact hfr i h1 h2) hpin
 have hfin := hrel.put hd hav
 exact hK _ _ _ (by rw [Dl.app, zDX]; simp only; rw [zDc]; exact hfin)
theorem zAF {x : Operand} {args : List Operand} {ats : Array TypeId} (ho : o.op = .call { callee := .value x, args := args.toArray, argTypes := ats }) (rid : Nat) {f : FuncId} {pas : List PA} {pss : List (List PV)} {X : List Nat} {outs : List (Option (List (List PV)))} {kr : List (Nat × Nat × List (List PV))} {K : List Nat} {res : List PA} {cav : AV}
  (hE : ∀ aL w, (callFunc f aL).run P w = .ok (.enter f aL) w) (hx : s.ev x = cav) (hc : CalleeA (s.only M B) X cav f pss) (ha : ArgAs (s.only M B) X (args.map s.ev) pas X) (hXn : X.Nodup) (hXM : ∀ i ∈ X, ((s.only M B).r i).isSome = true) (hk : Kept (s.only M B) X outs kr K) {all : List PA} (hcon : Con P f all outs res) (hall : all = pas ++ pss.map .fbox)
  (hf' : zJK s M rid (zEl PA.size res) = true) (hpin : rid + zEl PA.size res ≤ pinT) : StepD γ P n o M B s { put := zNm rid res, kill := K, setR := kr ++ zDn PA.size rid res } :=
 zDa (.inl rfl) ho rid hE hx hc ha hXn hXM hk hcon hall hf' hpin
end
end Go.Rl
namespace Go.Rl
open Go.RowKit

section
variable {γ : Gho} {P : Program} {n : Nat} {o : Oper} {M B : List Nat} {s : St}
theorem zAI {av av' : AV} (h : StepD γ P n o M B s { put := av }) (e : av = av') : StepD γ P n o M B s { put := av' } := e ▸ h
end
section
variable {γ : Gho} {P : Program} {n : Nat} {s : St} {Q : Exit → St → Prop}
theorem zAo {c : Code} {σ : Type} (S : σ → St) (G : σ → Prop) (μ : σ → Nat) (x0 : σ) (h0 : G x0) (hw : Wk n s (S x0)) (round : ∀ x, G x → Tr γ P n c (S x) (thn (fun s' => ∃ x', G x' ∧ μ x' < μ x ∧ Wk n s' (S x')) Q)) : Tr γ P n (.loop c) s Q := by
 refine tr_loop (fun k s => ∃ x, G x ∧ μ x = k ∧ Wk n s (S x)) (μ x0) ⟨x0, h0, rfl, hw⟩ (fun k s hI => ?_)
 obtain ⟨x, hG, rfl, hW⟩ := hI
 refine tr_mono (zAQ hW (round x hG)) (fun e s' hq => ?_)
 cases e with
 | normal =>
  obtain ⟨x', h1, h2, h3⟩ := hq
  exact ⟨μ x', h2, x', h1, rfl, h3⟩
 | _ => exact hq
theorem zAl {P : Program} {f : FuncId} {fn : Func} (hf : P.funcs[f]? = some fn) (hn : (fn.name == "runtime.NumGoroutine") = false) (hb : fn.body.isNone = false) : ∀ aL w, (callFunc f aL).run P w = .ok (.enter f aL) w := fun aL w => by
 simp only [callFunc, Sem.run_bind, run_program, Result.andThen_ok, hf, hn, hb, Bool.false_eq_true, if_false]
 rfl
end
section
variable {γ : Gho} {P : Program} {n : Nat} {o : Oper} {M B : List Nat} {s : St} {xt yt : TypeId} {x y : Operand} {d d' : Option Nat} {a b : Int}
theorem zEE {a : Int} (h : -9223372036854775808 ≤ a ∧ a < 9223372036854775808) : IntKind.i64.wrap a = a := by rw [IntKind.wrap_i64]; omega
theorem zAd (ho : o.op = .binOp .add xt x y yt) (hx : s.ev x = .p d (.v (.int .i64 a))) (hy : s.ev y = .p d' (.v (.int .i64 b))) (h : -9223372036854775808 ≤ a + b ∧ a + b < 9223372036854775808) : StepD γ P n o M B s { put := .p none (.v (.int .i64 (a + b))) } :=
 zAI (zOl ho hx hy) (by rw [zEE h])
theorem zBt (ho : o.op = .binOp .sub xt x y yt) (hx : s.ev x = .p d (.v (.int .i64 a))) (hy : s.ev y = .p d' (.v (.int .i64 b))) (h : -9223372036854775808 ≤ a - b ∧ a - b < 9223372036854775808) : StepD γ P n o M B s { put := .p none (.v (.int .i64 (a - b))) } :=
 zAI (st_sub ho hx hy) (by rw [zEE h])
theorem zCw (ho : o.op = .binOp .mul xt x y yt) (hx : s.ev x = .p d (.v (.int .i64 a))) (hy : s.ev y = .p d' (.v (.int .i64 b))) (h : -9223372036854775808 ≤ a * b ∧ a * b < 9223372036854775808) : StepD γ P n o M B s { put := .p none (.v (.int .i64 (a * b))) } :=
 zAI (zOk ho hx hy) (by rw [zEE h])
theorem zBe {t u : TypeId} (ho : o.op = .convert t u x) {k : IntKind} {ds : TypeDesc} (hx : s.ev x = .p d (.v (.int k a))) (ht : P.underlying t = some ds) (hu : P.underlying u = some (.int .i64)) (h : -9223372036854775808 ≤ a ∧ a < 9223372036854775808) : StepD γ P n o M B s { put := .p none (.v (.int .i64 a)) } :=
 zAI (zEF ho hx ht hu) (by rw [zEE h])
theorem nxt {σ : Type} {S : σ → St} {G : σ → Prop} {μ : σ → Nat} {z : σ} {Q : Exit → St → Prop} (z' : σ) (h1 : G z') (h2 : μ z' < μ z) (h3 : Wk n s (S z')) : thn (fun s' => ∃ x', G x' ∧ μ x' < μ z ∧ Wk n s' (S x')) Q .normal s := ⟨z', h1, h2, h3⟩
theorem ends {rs : List ResultVar} {args : List PA} {outs : List (Option (List (List PV)))} {res : List PA} (avs : List AV) (K : List Nat) (h1 : RvAs P s rs avs) (h2 : GPas s avs res K) (h3 : K.Nodup) (h4 : OutsOk s K (owns (fun _ => pinT) pinT args) outs) : RetQ P rs args outs res .ret s := ⟨avs, K, h1, h2, h3, h4⟩
end
theorem nle {a b : Nat} (h : Nat.ble a b = true) : a ≤ b := Nat.le_of_ble_eq_true h
theorem zBR : ∀ p ∈ ([] : List PV), Clean p := fun _ h => by cases h
theorem zAL {p : PV} {ps : List PV} (h : Clean p) (t : ∀ q ∈ ps, Clean q) : ∀ q ∈ p :: ps, Clean q := fun q hq => by
 rcases List.mem_cons.1 hq with rfl | hq
 · exact h
 · exact t q hq
theorem zA7 {γ : Gho} {P : Program} {n : Nat} {o : Oper} {M B : List Nat} {s : St} {ty : TypeId} (ho : o.op = .alloc ty) (b : Nat) {z : Value} {sz by' : Nat} (hi : (P.info? ty).map (fun i => (i.zero, i.size, i.bytes)) = some (some z, sz, by')) (hf : (cst z).fits = true) (hb1 : b < pinT) (hb : s.b b = none) (hB : b ∈ B) :
  StepD γ P n o M B s { put := .ptr b 0, setB := [(b, (cst z).cells)] } := by
 obtain ⟨i, h1, h2, _, _⟩ := zFf hi
 exact zNa ho b h1 h2 hf hb1 hb hB
theorem all_nil {p : Nat → Prop} : ∀ i ∈ ([] : List Nat), p i := fun _ h => by cases h
theorem all_cons {p : Nat → Prop} {a : Nat} {l : List Nat} (h : p a) (t : ∀ i ∈ l, p i) : ∀ i ∈ a :: l, p i := fun i hi => by
 rcases List.mem_cons.1 hi with rfl | hi
 · exact h
 · exact t i hi
theorem zAG {k : IntKind} {a b : Int} (h : a = b) : AV.p none (.v (.int k a)) = AV.p none (.v (.int k b)) := by rw [h]
theorem zAE {a b : Bool} (h : a = b) : AV.p none (.v (.bool a)) = AV.p none (.v (.bool b)) := by rw [h]
theorem zA5 {a b : ByteArray} (h : a = b) : AV.p none (.v (.string a)) = AV.p none (.v (.string b)) := by rw [h]
abbrev En (P : Program) (f : FuncId) : Prop := ∀ vs w, (callFunc f vs).run P w = .ok (.enter f vs) w
end Go.Rl

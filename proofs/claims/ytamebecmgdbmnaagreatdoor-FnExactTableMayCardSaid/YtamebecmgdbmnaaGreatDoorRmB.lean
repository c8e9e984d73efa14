/- Promises of functions, proved by walks over their operations; no conditions beyond those that each theorem states. -/
import Derived.Test.YtamebecmgdbmnaaGreatDoorRuC
import Derived.Test.YtamebecmgdbmnaaGreatDoorRmI
set_option linter.unusedSimpArgs false
set_option linter.unusedVariables false
namespace Go.Rl
open Go.RowKit

mutual
def AV.frb (b : Nat) (ps : List PV) : AV → AV
 | .ptr c off => (match Nat.beq c b with
  | true => .fea none (ps.drop off)
  | false => .ptr c off)
 | .clo f [c] => (match Nat.beq c b with
  | true => .p none (.clo f [ps])
  | false => .clo f [c])
 | .clo f bs => if b ∈ bs then .undef else .clo f bs
 | .agg cs => .agg (AV.frbs b ps cs)
 | .tup cs => .tup (AV.frbs b ps cs)
 | x => x
def AV.frbs (b : Nat) (ps : List PV) : List AV → List AV
 | [] => []
 | a :: l => AV.frb b ps a :: AV.frbs b ps l
end
def St.frb (s : St) (b : Nat) (ps : List PV) : St := ⟨fun i => (s.t i).frb b ps, fun i => match Nat.beq i b with
 | true => none
 | false => (s.b i).map (AV.frbs b ps), s.r⟩
def Pl.frb (L : Pl) (b : Nat) : Pl := { L with Z := fun k => L.Z k ∨ k = L.β b, lab := fun k => if k = L.β b then none else L.lab k }
section
variable {w0 : World} {I : Fr} {n : Nat} {L : Pl} {s : St} {a : Act} {w : World} {b : Nat} {ps : List PV}
theorem frb_b {i : Nat} (hi : i ≠ b) : (s.frb b ps).b i = (s.b i).map (AV.frbs b ps) := by simp only [St.frb, zFy hi]
theorem zIQ {i : Nat} (hi : i ≠ b) (h : (s.b i).isSome) : ((s.frb b ps).b i).isSome := by rw [frb_b hi]; simpa using h
theorem zMx {d : Option Nat} : ∀ k, L.zd d k → (L.frb b).zd d k := fun _ hk => hk.imp .inl (fun h => h)
mutual
theorem AVR.frb (hc : ∀ (j : Nat) p, ps[j]? = some p → ∃ u, w.cell? ⟨L.β b, j, none⟩ = some u ∧ PVR L.Z w p u) : ∀ (av : AV) (v : Value), AVR L w s av v → AVR (L.frb b) w (s.frb b ps) (av.frb b ps) v
 | .undef, v, _ => by simp [AV.frb, AVR]
 | .p d x, v, hv => by
  simp only [AV.frb, AVR] at hv ⊢
  exact ⟨hv.1.mono (fun _ _ => rfl) zMx, hv.2⟩
 | .sl d lo len, v, hv => by
  simp only [AV.frb, AVR] at hv ⊢
  exact hv
 | .ptr c off, v, hv => by
  by_cases e : c = b
  ·
   subst e
   simp only [AV.frb, Nat.beq_refl, AVR] at hv ⊢
   refine ⟨⟨_, off, hv.2, .inl (.inr rfl), fun j p hj => ?_⟩, fun _ h => by cases h⟩
   rw [List.getElem?_drop] at hj
   obtain ⟨u, hu, hq⟩ := hc _ p hj
   exact ⟨u, hu, hq.mono (fun _ _ => rfl) (fun k hk => .inl (.inl hk))⟩
  ·
   simp only [AV.frb, zFy e, AVR] at hv ⊢
   exact ⟨zIQ e hv.1, hv.2⟩
 | .ea d i off, v, hv => by
  simp only [AV.frb, AVR] at hv ⊢
  exact hv
 | .fea d qs, v, hv => by
  simp only [AV.frb, AVR] at hv ⊢
  obtain ⟨⟨k, off, h1, h2, h3⟩, h4⟩ := hv
  exact ⟨⟨k, off, h1, zMx k h2, fun j p hj => by obtain ⟨u, hu, hq⟩ := h3 j p hj; exact ⟨u, hu, hq.mono (fun _ _ => rfl) zMx⟩⟩, h4⟩
 | .nils, v, hv => by simpa only [AV.frb, AVR] using hv
 | .sat A, v, hv => by simpa only [AV.frb, AVR] using hv
 | .clo f [], v, hv => by
  simp only [AV.frb, AVR] at hv ⊢
  simpa [AVR] using hv.2
 | .clo f [c], v, hv => by
  by_cases e : c = b
  ·
   subst e
   simp only [AV.frb, Nat.beq_refl, AVR] at hv ⊢
   refine ⟨?_, fun _ h => by cases h⟩
   rw [hv.2]
   refine .clo f [ps] [L.β c] rfl (by simp; exact .inl (.inr rfl)) (fun i j => ((w.cell? ⟨L.β c, j, none⟩).getD undef)) (fun i j es k p h1 h2 h3 => ?_) (fun i j es p h1 h2 => ?_)
   ·
    cases i with
    | zero =>
     simp at h1 h2
     subst h1 h2
     obtain ⟨u, hu, _⟩ := hc j p h3
     rw [hu]; rfl
    | succ i => simp at h1
   ·
    cases i with
    | zero =>
     simp at h1
     subst h1
     obtain ⟨u, hu, hq⟩ := hc j p h2
     rw [hu]
     exact hq.mono (fun _ _ => rfl) (fun k hk => .inl (.inl hk))
    | succ i => simp at h1
  ·
   simp only [AV.frb, zFy e, AVR] at hv ⊢
   exact ⟨fun x hx => by simp at hx; subst hx; exact zIQ e (hv.1 x (by simp)), hv.2⟩
 | .clo f (c :: c' :: bs), v, hv => by
  simp only [AV.frb]
  split
  · simp [AVR]
  ·
   rename_i hn
   simp only [AVR] at hv ⊢
   exact ⟨fun x hx => zIQ (fun e => hn (e ▸ hx)) (hv.1 x hx), hv.2⟩
 | .agg cs, v, hv => by
  simp only [AV.frb, AVR] at hv ⊢
  obtain ⟨us, h1, h2⟩ := hv
  exact ⟨us, h1, AVRs.frb hc cs us h2⟩
 | .tup cs, v, hv => by
  simp only [AV.frb, AVR] at hv ⊢
  obtain ⟨us, h1, h2⟩ := hv
  exact ⟨us, h1, AVRs.frb hc cs us h2⟩
theorem AVRs.frb (hc : ∀ (j : Nat) p, ps[j]? = some p → ∃ u, w.cell? ⟨L.β b, j, none⟩ = some u ∧ PVR L.Z w p u) : ∀ (l : List AV) (us : List Value), AVRs L w s l us → AVRs (L.frb b) w (s.frb b ps) (AV.frbs b ps l) us
 | [], [], _ => by simp [AV.frbs, AVRs]
 | [], _ :: _, hv => by simp [AVRs] at hv
 | _ :: _, [], hv => by simp [AVRs] at hv
 | x :: l, u :: us, hv => by
  simp only [AV.frbs, AVRs] at hv ⊢
  exact ⟨AVR.frb hc x u hv.1, AVRs.frb hc l us hv.2⟩
end
end
def ConS (P : Program) (f : FuncId) (args : List PA) (res : List PA) : Prop :=
 ∀ Z w vs E, PASs Z w args vs E → (∀ k, Z k → k < w.heap.size ∧ k ∉ Leaf.all E) → (Leaf.all E).Nodup → (∀ k ∈ Leaf.all E, k < w.heap.size) → Calls P f ⟨vs⟩ w fun e w' => ∃ v F Z', e = .returned v ∧ Same (Leaf.all E) w w' ∧
  RES Z' w' res v F ∧ (Leaf.all F).Nodup ∧ (∀ k ∈ Leaf.all F, w.heap.size ≤ k ∨ k ∈ Leaf.all E) ∧ (∀ k, Z k → Z' k) ∧ ∀ k, Z' k → k < w'.heap.size ∧ k ∉ Leaf.all F ∧ (Z k ∨ ((w.heap.size ≤ k ∨ k ∈ Leaf.all E) ∧ Cl w' k))

inductive GvS (s : St) : AV → PV → List Nat → Prop where
 | of {av : AV} {p : PV} {K : List Nat} (g : Gv s av p K) : GvS s av p K
 | nilf (sz : Nat) : GvS s .nils (.sl false sz []) []
inductive GvSs (s : St) : List AV → List PV → List Nat → Prop where
 | nil : GvSs s [] [] []
 | cons {a : AV} {p : PV} {K : List Nat} {l : List AV} {ps : List PV} {K' : List Nat} (h : GvS s a p K) (t : GvSs s l ps K') : GvSs s (a :: l) (p :: ps) (K ++ K')
inductive GPaS (s : St) : AV → PA → List Nat → Prop where
 | one {av : AV} {p : PV} {K : List Nat} (g : GvS s av p K) : GPaS s av (.one p) K
 | agg {cs : List AV} {ps : List PV} {K : List Nat} (g : GvSs s cs ps K) : GPaS s (.agg cs) (.agg ps) K
inductive GPasS (s : St) : List AV → List PA → List Nat → Prop where
 | nil : GPasS s [] [] []
 | cons {av : AV} {p : PA} {K : List Nat} {avs : List AV} {ps : List PA} {K' : List Nat} (h : GPaS s av p K) (t : GPasS s avs ps K') : GPasS s (av :: avs) (p :: ps) (K ++ K')
def EndsS (P : Program) (rs : List ResultVar) (res : List PA) (s : St) : Prop :=
 ∃ avs K, RvAs P s rs avs ∧ GPasS s avs res K ∧ K.Nodup
def RetS (P : Program) (rs : List ResultVar) (res : List PA) : Exit → St → Prop
 | .normal, s => EndsS P rs res s
 | .ret, s => EndsS P rs res s
 | _, _ => False
section
variable {w0 : World} {I : Fr} {n : Nat} {L : Pl} {s : St} {a : Act} {w : World}
theorem Gv.ps (h : Rel w0 I n L s a w) {av : AV} {p : PV} {K : List Nat} (g : Gv s av p K) {v : Value} (hv : AVR L w s av v) : ∃ F, PS L.Z w p v F ∧ Leaf.all F = K.flatMap L.ν := by
 have := g.ok h hv
 cases p with
 | v x =>
  have hK : K = [] := by cases g; rfl
  subst hK
  exact ⟨[], .nf rfl (by simpa using this), rfl⟩
 | sl o sz xs =>
  cases o with
  | true => exact ⟨_, .own this, by simp [Leaf.all]⟩
  | false =>
   have hK : K = [] := by cases g; rfl
   subst hK
   exact ⟨[], .nf rfl (by simpa using this), rfl⟩
 | clo f xs =>
  have hK : K = [] := by cases g; rfl
  subst hK
  exact ⟨[], .nf rfl (by simpa using this), rfl⟩
theorem GvS.ps (h : Rel w0 I n L s a w) {av : AV} {p : PV} {K : List Nat} (g : GvS s av p K) {v : Value} (hv : AVR L w s av v) : ∃ F, PS L.Z w p v F ∧ Leaf.all F = K.flatMap L.ν := by
 cases g with
 | of g => exact g.ps h hv
 | nilf sz =>
  simp only [AVR] at hv
  obtain ⟨A, rfl⟩ := hv
  exact ⟨[], .nf rfl (.fro _ _ _ (.emp _ _ _ _)), rfl⟩
theorem GPaS.ok (h : Rel w0 I n L s a w) {av : AV} {p : PA} {K : List Nat} (g : GPaS s av p K) {v : Value} (hv : AVR L w s av v) : ∃ F, PAS L.Z w p v F ∧ Leaf.all F = K.flatMap L.ν := by
 cases g with
 | one g =>
  obtain ⟨F, h1, h2⟩ := g.ps h hv
  exact ⟨F, .one h1, h2⟩
 | agg g =>
  rename_i cs ps
  simp only [AVR] at hv
  obtain ⟨us, rfl, hv⟩ := hv
  have : ∀ {cs ps K us}, GvSs s cs ps K → AVRs L w s cs us → ∃ F, PSs L.Z w ps us F ∧ Leaf.all F = K.flatMap L.ν := fun {cs ps K us} g => by
   induction g generalizing us with
   | nil =>
    intro hv
    cases us with
    | nil => exact ⟨[], .nil, rfl⟩
    | cons _ _ => simp [AVRs] at hv
   | cons g _ ih =>
    intro hv
    cases us with
    | nil => simp [AVRs] at hv
    | cons u us =>
     simp only [AVRs] at hv
     obtain ⟨F, h1, h2⟩ := g.ps h hv.1
     obtain ⟨F', h3, h4⟩ := ih hv.2
     exact ⟨F ++ F', .cons h1 h3, by simp only [Leaf.all, List.flatMap_append] at h2 h4 ⊢; rw [h2, h4]⟩
  obtain ⟨F, h1, h2⟩ := this g hv
  exact ⟨F, .agg h1, h2⟩
theorem GPasS.ok (h : Rel w0 I n L s a w) {avs : List AV} {ps : List PA} {K : List Nat} (g : GPasS s avs ps K) : ∀ {us : List Value} (_ : AVRs L w s avs us), ∃ F, PASs L.Z w ps us F ∧ Leaf.all F = K.flatMap L.ν := by
 induction g with
 | nil =>
  intro us hv
  cases us with
  | nil => exact ⟨[], .nil, rfl⟩
  | cons _ _ => simp [AVRs] at hv
 | cons g _ ih =>
  intro us hv
  cases us with
  | nil => simp [AVRs] at hv
  | cons u us =>
   simp only [AVRs] at hv
   obtain ⟨F, h1, h2⟩ := g.ok h hv.1
   obtain ⟨F', h3, h4⟩ := ih hv.2
   exact ⟨F ++ F', .cons h1 h3, by simp only [Leaf.all, List.flatMap_append] at h2 h4 ⊢; rw [h2, h4]⟩
theorem Gv.rows {av : AV} {p : PV} {K : List Nat} (g : Gv s av p K) : ∀ i ∈ K, (s.r i).isSome := by
 intro i hi
 cases g with
 | row hr hl => simp at hi; subst hi; rw [hr]; rfl
 | pre hr hl hn => simp at hi; subst hi; rw [hr]; rfl
 | _ => simp at hi
theorem GvS.rows {av : AV} {p : PV} {K : List Nat} (g : GvS s av p K) : ∀ i ∈ K, (s.r i).isSome := by
 cases g with
 | of g => exact g.rows
 | nilf sz => simp
theorem GvSs.rows {l : List AV} {ps : List PV} {K : List Nat} (g : GvSs s l ps K) : ∀ i ∈ K, (s.r i).isSome := by
 induction g with
 | nil => simp
 | cons g _ ih =>
  intro i hi
  rcases List.mem_append.1 hi with hi | hi
  · exact g.rows i hi
  · exact ih i hi
theorem GPasS.rows {avs : List AV} {ps : List PA} {K : List Nat} (g : GPasS s avs ps K) : ∀ i ∈ K, (s.r i).isSome := by
 induction g with
 | nil => simp
 | cons g _ ih =>
  intro i hi
  rcases List.mem_append.1 hi with hi | hi
  ·
   cases g with
   | one g => exact g.rows i hi
   | agg g => exact g.rows i hi
  · exact ih i hi
end
end Go.Rl
namespace Go.Rl
open Go.RowKit
inductive CellZ (s : St) : AV → PV → List Nat → Prop where
 | v {d : Option Nat} {x : Value} : CellZ s (.p d (.v x)) (.v x) []
 | sl {o : Bool} {sz : Nat} {xs : List (List PV)} : CellZ s (.p none (.sl o sz xs)) (.sl false sz xs) []
 | cl {f : Nat} {xs : List (List PV)} : CellZ s (.p none (.clo f xs)) (.clo f xs) []
 | nil (sz : Nat) : CellZ s .nils (.sl false sz []) []
 | own {id len sz : Nat} {xs : List (List PV)} (hr : s.r id = some (sz, xs)) (hl : len = xs.length) : CellZ s (.sl id 0 len) (.sl true sz xs) [id]
inductive CellZs (s : St) : List AV → List PV → List Nat → Prop where
 | nil : CellZs s [] [] []
 | cons {av : AV} {p : PV} {K : List Nat} {l : List AV} {ps : List PV} {K' : List Nat} (h : CellZ s av p K) (t : CellZs s l ps K') : CellZs s (av :: l) (p :: ps) (K ++ K')
inductive ArgZ (s : St) : AV → PA → List Nat → Prop where
 | one {av : AV} {p : PV} {K : List Nat} (h : CellZ s av p K) : ArgZ s av (.one p) K
 | agg {cs : List AV} {ps : List PV} {K : List Nat} (h : CellZs s cs ps K) : ArgZ s (.agg cs) (.agg ps) K
 | fea {ps : List PV} : ArgZ s (.fea none ps) (.fbox ps) []
 | rptr {id sz : Nat} {ps : List PV} (hr : s.r id = some (sz, [ps])) : ArgZ s (.ea id 0 0) (.rptr sz ps) [id]
inductive ArgZs (s : St) : List AV → List PA → List Nat → Prop where
 | nil : ArgZs s [] [] []
 | cons {av : AV} {p : PA} {K : List Nat} {l : List AV} {ps : List PA} {K' : List Nat} (h : ArgZ s av p K) (t : ArgZs s l ps K') : ArgZs s (av :: l) (p :: ps) (K ++ K')
theorem CellZ.mono {s s' : St} (h : Less s s') {av : AV} {p : PV} {K : List Nat} (g : CellZ s av p K) : CellZ s' av p K := by
 cases g with
 | v => exact .v
 | sl => exact .sl
 | cl => exact .cl
 | nil sz => exact .nil sz
 | own hr hl => exact .own (h.r _ _ hr) hl
theorem CellZs.mono {s s' : St} (h : Less s s') {l : List AV} {ps : List PV} {K : List Nat} (g : CellZs s l ps K) : CellZs s' l ps K := by
 induction g with
 | nil => exact .nil
 | cons g _ ih => exact .cons (g.mono h) ih
theorem ArgZs.mono {s s' : St} (h : Less s s') {l : List AV} {ps : List PA} {K : List Nat} (g : ArgZs s l ps K) : ArgZs s' l ps K := by
 induction g with
 | nil => exact .nil
 | cons g _ ih =>
  refine .cons ?_ ih
  cases g with
  | one g => exact .one (g.mono h)
  | agg g => exact .agg (g.mono h)
  | fea => exact .fea
  | rptr hr => exact .rptr (h.r _ _ hr)
section
variable {w0 : World} {I : Fr} {n : Nat} {L : Pl} {s : St} {a : Act} {w : World}
theorem zHr : ∀ k, L.zd none k → L.Z k := fun k hk => hk.elim (fun h => h) (fun ⟨_, h, _⟩ => by cases h)
theorem CellZ.ok (h : Rel w0 I n L s a w) {av : AV} {p : PV} {K : List Nat} (g : CellZ s av p K) {v : Value} (hv : AVR L w s av v) : PS L.Z w p v (K.map (lf L s)) := by
 cases g with
 | v => simp only [AVR] at hv; have h1 := hv.1; cases h1; exact .nf rfl (.v _ ‹_›)
 | sl => simp only [AVR] at hv; exact .nf rfl (((hv.1.flag false).mono (fun _ _ => rfl) zHr).nfO rfl)
 | cl => simp only [AVR] at hv; exact .nf rfl ((hv.1.mono (fun _ _ => rfl) zHr).nfO rfl)
 | nil sz => simp only [AVR] at hv; obtain ⟨A, rfl⟩ := hv; exact .nf rfl (.fro _ _ _ (.emp _ _ _ _))
 | own hr hl =>
  rename_i id len sz xs
  simp only [AVR] at hv
  obtain ⟨sz', xs', e1, e2, e3⟩ := hv
  rw [hr] at e1
  cases e1
  have hp := (h.rw _ _ _ hr).1
  have := zFT e3 (fun A n c e => (zC3 hp A n c e).trans hl.symm)
  subst this
  have hs : lf L s id = ⟨L.ρ id, L.ν id, sz⟩ := by simp [lf, hr]
  simp only [List.map_cons, List.map_nil, hs]
  exact .own hp
theorem CellZs.ok (h : Rel w0 I n L s a w) {l : List AV} {ps : List PV} {K : List Nat} (g : CellZs s l ps K) : ∀ {us : List Value} (_ : AVRs L w s l us), PSs L.Z w ps us (K.map (lf L s)) := by
 induction g with
 | nil =>
  intro us hv
  cases us with
  | nil => exact .nil
  | cons _ _ => simp [AVRs] at hv
 | cons g _ ih =>
  intro us hv
  cases us with
  | nil => simp [AVRs] at hv
  | cons u us =>
   simp only [AVRs] at hv
   rw [List.map_append]
   exact .cons (g.ok h hv.1) (ih hv.2)
theorem ArgZs.ok (h : Rel w0 I n L s a w) {l : List AV} {ps : List PA} {K : List Nat} (g : ArgZs s l ps K) : ∀ {us : List Value} (_ : AVRs L w s l us), PASs L.Z w ps us (K.map (lf L s)) := by
 induction g with
 | nil =>
  intro us hv
  cases us with
  | nil => exact .nil
  | cons _ _ => simp [AVRs] at hv
 | cons g _ ih =>
  intro us hv
  cases us with
  | nil => simp [AVRs] at hv
  | cons u us =>
   simp only [AVRs] at hv
   rw [List.map_append]
   refine .cons ?_ (ih hv.2)
   have h1 := hv.1
   cases g with
   | one g => exact .one (g.ok h h1)
   | agg g =>
    simp only [AVR] at h1
    obtain ⟨us, rfl, h1⟩ := h1
    exact .agg (g.ok h h1)
   | fea =>
    simp only [AVR] at h1
    obtain ⟨⟨k, off, rfl, hk, hc⟩, _⟩ := h1
    exact .fbox (zHr k hk) (fun j p hj => by obtain ⟨u, hu, hq⟩ := hc j p hj; exact ⟨u, hu, hq.mono (fun _ _ => rfl) zHr⟩)
   | rptr hr =>
    rename_i id sz ps
    simp only [AVR] at h1
    obtain ⟨sz', xs', k, m, c, e1, e2, e3, rfl⟩ := h1
    rw [hr] at e1
    cases e1
    have hp := (h.rw _ _ _ hr).1
    have hm := zC3 hp _ _ _ e3
    simp only [List.length_cons, List.length_nil] at hm
    subst hm
    have hs : lf L s id = ⟨L.ρ id, L.ν id, sz⟩ := by simp [lf, hr]
    simp only [List.map_cons, List.map_nil, hs, Nat.zero_mul, Nat.add_zero]
    rw [e3] at hp ⊢
    exact .rptr hp
end
section
variable {γ : Gho} {P : Program} {n : Nat} {o : Oper} {M B : List Nat} {s : St}
end
end Go.Rl
namespace Go.Rl
open Go.RowKit
def InE (E : List Leaf) (outs : List (Option (List (List PV)))) (k : Nat) : Prop := ∃ (i : Nat) (lf : Leaf), E[i]? = some lf ∧ k ∈ lf.N ∧ ∀ xs', outs[i]? = some (some xs') → k ∈ lf.N.tail
def ConSG (γ : Gho) (P : Program) (f : FuncId) (args : List PA) (outs : List (Option (List (List PV)))) (res : List PA) : Prop :=
 ∀ Z w vs E, Gh γ w (Leaf.all E) → PASs Z w args vs E → (∀ k, Z k → k < w.heap.size ∧ k ∉ Leaf.all E) → (Leaf.all E).Nodup → (∀ k ∈ Leaf.all E, k < w.heap.size) → Calls P f ⟨vs⟩ w fun e w' => ∃ v F Z', e = .returned v ∧ Same (Leaf.all E) w w' ∧
  (∀ (i : Nat) lf xs', E[i]? = some lf → outs[i]? = some (some xs') → FlatP xs' ∧ ∃ N, PVO no w' (.sl true lf.sz xs') lf.v N) ∧
  RES Z' w' res v F ∧ (Leaf.all F).Nodup ∧ (∀ k ∈ Leaf.all F, w.heap.size ≤ k ∨ InE E outs k) ∧ (∀ k, Z k → Z' k) ∧ ∀ k, Z' k → k < w'.heap.size ∧ k ∉ Leaf.all F ∧ (Z k ∨ ((w.heap.size ≤ k ∨ InE E outs k) ∧ Cl w' k))
def zPC (P : Program) (rs : List ResultVar) (args : List PA) (outs : List (Option (List (List PV)))) (res : List PA) (s : St) : Prop :=
 ∃ avs K, RvAs P s rs avs ∧ GPasS s avs res K ∧ K.Nodup ∧ OutsOk s K (owns (fun _ => pinT) pinT args) outs
def RetSG (P : Program) (rs : List ResultVar) (args : List PA) (outs : List (Option (List (List PV)))) (res : List PA) : Exit → St → Prop
 | .normal, s => zPC P rs args outs res s
 | .ret, s => zPC P rs args outs res s
 | _, _ => False
section
variable {γ : Gho} {P : Program} {n : Nat} {o : Oper} {M B : List Nat} {s : St}
end
end Go.Rl
namespace Go.Rl
open Go.RowKit
section
variable {γ : Gho} {P : Program} {n : Nat} {o : Oper} {M B : List Nat} {s : St}
theorem zL6 {x y : Operand} {ats : Array TypeId} (ho : o.op = .call { callee := .builtin .min, args := #[x, y], argTypes := ats }) {d d' : Option Nat} {k : IntKind} {a b : Int} (hx : s.ev x = .p d (.v (.int k a))) (hy : s.ev y = .p d' (.v (.int k b))) :
  StepD γ P n o M B s { put := .p none (.v (.int k (min a b))) } :=
 zA6 fun s' ag w0 I L ac w hr => by
  have h1 := hr.evv ((ag.ev1 ho (by simp [Op.operands, Call.operands])).trans hx)
  have h2 := hr.evv ((ag.ev1 ho (by simp [Op.operands, Call.operands])).trans hy)
  refine ⟨_, ?_, zCO L w s' rfl⟩
  by_cases hlt : b < a
  ·
   have : min a b = b := by omega
   simp [execOp, ho, resolve, invoke, builtin, Builtin.min_, Builtin.min2, h1, h2, hlt, this]
  ·
   have : min a b = a := by omega
   simp [execOp, ho, resolve, invoke, builtin, Builtin.min_, Builtin.min2, h1, h2, hlt, this]
theorem zIq {x y : Operand} {ats : Array TypeId} (ho : o.op = .call { callee := .builtin .max, args := #[x, y], argTypes := ats }) {d d' : Option Nat} {k : IntKind} {a b : Int} (hx : s.ev x = .p d (.v (.int k a))) (hy : s.ev y = .p d' (.v (.int k b))) :
  StepD γ P n o M B s { put := .p none (.v (.int k (max a b))) } :=
 zA6 fun s' ag w0 I L ac w hr => by
  have h1 := hr.evv ((ag.ev1 ho (by simp [Op.operands, Call.operands])).trans hx)
  have h2 := hr.evv ((ag.ev1 ho (by simp [Op.operands, Call.operands])).trans hy)
  refine ⟨_, ?_, zCO L w s' rfl⟩
  by_cases hlt : a < b
  ·
   have : max a b = b := by omega
   simp [execOp, ho, resolve, invoke, builtin, Builtin.max_, Builtin.max2, h1, h2, hlt, this]
  ·
   have : max a b = a := by omega
   simp [execOp, ho, resolve, invoke, builtin, Builtin.max_, Builtin.max2, h1, h2, hlt, this]
end
end Go.Rl
namespace Go.Rl
open Go.Proofs Go.Proofs.Tryz
set_option maxRecDepth 1000000
set_option maxHeartbeats 2000000
theorem zCm : (Tryz.prog.info? 64).map (fun i => (i.zero, i.size, i.bytes)) = some (some (.agg #[.int .i64 0, .int .i64 0, .int .i64 0, .string ⟨#[]⟩]), 4, 40) := by kernel_rfl
theorem en75 : En Tryz.prog 75 := zAl func75 (by decide) rfl
theorem en115 : En Tryz.prog 115 := zAl func115 (by decide) rfl
theorem zOO : En Tryz.prog 108 := zAl func108 (by decide) rfl
theorem en132 : En Tryz.prog 132 := zAl func132 (by decide) rfl
theorem row0 (us : List ByteArray) : List.replicate (zAk us) [PV.v (.int .u8 0)] = pvNb (bitB us 0) := by simp [pvNb, bitB]
theorem zC7 {u : ByteArray} (h : zBa u = true) : u.size ≤ 40 := by simp only [zBa, zAi, Bool.and_eq_true, decide_eq_true_eq] at h; omega
theorem zFq (us : List ByteArray) (hu : ∀ u ∈ us, zBa u = true) (hn : us.length ≤ 400) : Con Tryz.prog 77 [.one (PV.sl false 1 (pvT us)), .one (PV.v (.int .i64 10))] [] [.agg [.v (.int .i64 (zCf us).kind), .v (.int .i64 (zCf us).seed), .v (.int .i64 (zCf us).probes), .v (.string (zCf us).bits)], .one (.v (.bool true))] := by
 refine zAR func77 rfl rfl rfl rfl ?_
 have hle := zBD us
 have hby := zGD hn
 refine zAB (zAA rfl (.run [] [4] rfl (zA7 rfl 4 zCm rfl (by decide) rfl (by decide)) (.a rfl rfl .nil)) ?_)
 refine zAB ?_
 refine zAB (zAA rfl (.m rfl rfl (.run [1300] [] rfl (zAF rfl 1300 (X := []) en75 rfl (.val nod) (.cons (.one (.bor (.sl nod))) .nil) (by decide) all_nil .nil (zDd us (by assumption) (by omega)) rfl rfl (nle rfl)) (.r rfl (zAa (b := true) rfl rfl) (.m rfl rfl (.m rfl rfl (.run [1700] [] rfl (zAF rfl 1700 (X := []) en71 rfl (.val nod) (.cons (.one (.bor .v)) (.cons (.one (.bor .v)) (.cons (.one (.bor .v)) .nil))) (by decide) all_nil .nil (zBv 10 1 20) rfl rfl (nle rfl)) (.r rfl (zAa (b := zAi 10 1 20) rfl rfl) (.r rfl (zAb (t := false) rfl rfl) .nil)))))))) ?_)
 refine zAT (t := (!(zAi 10 1 20))) rfl (fun h1 => ?_) (fun h1 => ?_)
 ·
  replace h1 : (zAi 10 1 20) = false := zAp h1
  exact absurd h1 (by decide)
 ·
  replace h1 : (zAi 10 1 20) = true := zAq h1
  refine zAM ?_
  refine zAB ?_
  refine zAQ (s' := mk [(0, .p none (.sl false 1 (pvT us))), (1, .vi 10), (4, .ptr 4 0)] [(4, [.vi 0, .vi 0, .vi 0, .vs ⟨#[]⟩])] []) ?_ ?_
  · exact zAJ ⟨rfl, rfl, rfl, trivial⟩ ⟨rfl, trivial⟩ trivial rfl
  refine zAA rfl (.m rfl rfl (.r rfl (zAu rfl rfl underlying61) (.m rfl rfl (.r rfl (zCw rfl rfl rfl (by omega)) (.r rfl (zIq rfl rfl rfl) (.r rfl (zAd rfl rfl rfl (by omega)) (.r rfl (zAI (zE8 rfl rfl rfl (by omega)) ((zAG (zJW (by omega) (by omega))))) (.a rfl rfl .nil)))))))) ?_
  refine zAB (zAA rfl (.m rfl rfl (.r rfl (zCw rfl rfl rfl (by omega)) (.r rfl (zAI (zE8 rfl rfl rfl (by omega)) ((zAG (show IntKind.i64.wrap ((10 * 69 : Int).tdiv 100) = 6 by decide)))) (.r rfl (zAI (zIq rfl rfl rfl) ((zAG (show max (1 : Int) 6 = 6 by decide)))) (.r rfl (zAI (zL6 rfl rfl rfl) ((zAG (show min (6 : Int) 30 = 6 by decide)))) (.a rfl rfl .nil)))))) ?_)
  refine zAB ?_
  refine zAQ (s' := mk [(0, .p none (.sl false 1 (pvT us))), (4, .ptr 4 0), (6, .vi ((zAk us : Nat) : Int)), (7, .vi 6)] [(4, [.vi 0, .vi 0, .vi 0, .vs ⟨#[]⟩])] []) ?_ ?_
  · exact zAJ ⟨rfl, rfl, rfl, rfl, trivial⟩ ⟨rfl, trivial⟩ trivial rfl
  refine zAA rfl (.m rfl rfl (.run [3400] [] rfl (zD3 rfl 3400 (l := zAk us) (c := zAk us) rfl rfl underlying22 inf5 rfl rfl (by decide) rfl (by decide) (by omega) (by omega) (by simp only [maxLen]; omega)) (.a rfl rfl .nil))) ?_
  have hr2 : List.replicate (zAk us) [PV.v (.int .u8 0)] = pvNb (bitB us 0) := by exact row0 us
  have hl3 : zAk us = (pvNb (bitB us 0)).length := by first | (rw [← hr2, List.length_set]; done) | simp [zBK, zDM]
  have hp4 : (.sl 3400 0 (zAk us) : AV) = .sl 3400 0 ((pvNb (bitB us 0)).length) := by first | exact congrArg (AV.sl 3400 0) hl3 | simp only [hr2, hl3]
  refine zAQ (s' := mk [(0, .p none (.sl false 1 (pvT us))), (4, .ptr 4 0), (6, .vi ((zAk us : Nat) : Int)), (7, .vi 6), (8, .sl 3400 0 ((pvNb (bitB us 0)).length))] [(4, [.vi 0, .vi 0, .vi 0, .vs ⟨#[]⟩])] [(3400, 1, pvNb (bitB us 0))]) ?_ ?_
  · exact zAJ ⟨rfl, rfl, rfl, rfl, hp4, trivial⟩ ⟨rfl, trivial⟩ ⟨(congrArg (fun x => some (1, x)) hr2), trivial⟩ rfl
  refine zAB ?_
  refine zAB (zAA rfl (.a rfl rfl .nil) ?_)
  refine zAS ?_
  refine zAQ (zCc 3400 1 rfl rfl (by decide)) ?_
  refine zAo (σ := Nat) (fun i => mk [(0, .p none (.sl false 1 (pvT us))), (4, .ptr 4 0), (6, .vi ((zAk us : Nat) : Int)), (7, .vi 6), (8, .sl 1 0 ((pvNb (bitB us i)).length)), (9, .vi (i:Int))] [(4, [.vi 0, .vi 0, .vi 0, .vs ⟨#[]⟩])] [(1, 1, pvNb (bitB us i))]) (fun i => i ≤ us.length) (fun i => us.length - i) 0 (by simp) (zAJ ⟨rfl, rfl, rfl, rfl, rfl, (zAG (by omega)), trivial⟩ ⟨rfl, trivial⟩ ⟨(congrArg (fun x => some (1, x)) (by rfl)), trivial⟩ rfl) ?_
  rintro i hG
  replace hG : i ≤ us.length := hG
  have hbl := zDM us i
  have hbv := zBK (bitB us i)
  refine zAB ?_
  refine zAB (zAA rfl (.m rfl rfl (.m rfl rfl (.r rfl (zAu rfl rfl underlying61) (.r rfl (zAz rfl rfl rfl) .nil)))) ?_)
  refine zAT (t := decide ((i:Int) < ((pvT us).length : Int))) rfl (fun h5 => ?_) (fun h5 => ?_)
  ·
   replace h5 := of_decide_eq_true h5
   refine zAM ?_
   refine zAB ?_
   refine zAS ?_
   refine zAB ?_
   obtain ⟨x, hx⟩ : ∃ x, us[i]? = some x := ⟨_, List.getElem?_eq_getElem (by omega)⟩
   have huo := hu _ (List.mem_of_getElem? hx)
   have hus := zC7 huo
   refine zAA rfl (.a rfl rfl .nil) ?_
   refine zAS ?_
   refine zAo (σ := Nat) (fun k => mk [(0, .p none (.sl false 1 (pvT us))), (4, .ptr 4 0), (6, .vi ((zAk us : Nat) : Int)), (7, .vi 6), (8, .sl 1 0 ((pvNb (usrB (bitB us i) x (8 * zAk us) k)).length)), (9, .vi (i:Int)), (10, .vi (k:Int))] [(4, [.vi 0, .vi 0, .vi 0, .vs ⟨#[]⟩])] [(1, 1, pvNb (usrB (bitB us i) x (8 * zAk us) k))]) (fun k => k ≤ 6) (fun k => 6 - k) 0 (by simp) (zAJ ⟨rfl, rfl, rfl, rfl, rfl, rfl, (zAG (by omega)), trivial⟩ ⟨rfl, trivial⟩ ⟨(congrArg (fun x => some (1, x)) (by rfl)), trivial⟩ rfl) ?_
   rintro k hG
   replace hG : k ≤ 6 := hG
   have hul := (zF3 (bitB us i) x (8 * zAk us) k).trans (zDM us i)
   have huv := zBK (usrB (bitB us i) x (8 * zAk us) k)
   refine zAB ?_
   refine zAB (zAA rfl (.m rfl rfl (.m rfl rfl (.r rfl (zAz rfl rfl rfl) .nil))) ?_)
   refine zAT (t := decide ((k:Int) < 6)) rfl (fun h6 => ?_) (fun h6 => ?_)
   ·
    replace h6 := of_decide_eq_true h6
    refine zAM ?_
    refine zAB ?_
    refine zAS ?_
    refine zAB (zAA rfl (.m rfl rfl (.m rfl rfl (.r rfl (zA8 rfl rfl rfl underlying61 sizeOf9 rfl (by omega) (zCl hx)) (.r rfl (zBP rfl rfl isAgg9 rfl) (.m rfl rfl (.m rfl rfl (.r rfl (zAI (zCw rfl rfl rfl (by omega)) ((zAG (by omega)))) (.r rfl (zAI (zAc (k' := .u64) 18446744073709551616 rfl (8 * zAk us) rfl rfl rfl underlying2 underlying58) ((zAG (show (((8 * zAk us) % 18446744073709551616 : Nat) : Int) = ((8 * zAk us : Nat) : Int) by omega)))) (.run [5400] [] rfl (zAF rfl 5400 (X := []) en115 rfl (.val nod) (.cons (.one (.bor .v)) (.cons (.one (.bor .v)) (.cons (.one (.bor .v)) .nil))) (by decide) all_nil .nil (zHO x k (8 * zAk us) (by omega) (by omega) (by omega)) rfl rfl (nle rfl)) (.a rfl rfl .nil)))))))))) ?_)
    have hpl : plB x k (8 * zAk us) < (8 * zAk us) := zKm (by omega)
    obtain ⟨b, hb⟩ : ∃ b, (usrB (bitB us i) x (8 * zAk us) k)[plB x k (8 * zAk us) / 8]? = some b := ⟨_, List.getElem?_eq_getElem (by omega)⟩
    refine zAQ (s' := mk [(0, .p none (.sl false 1 (pvT us))), (4, .ptr 4 0), (6, .vi ((zAk us : Nat) : Int)), (7, .vi 6), (8, .sl 1 0 ((pvNb (usrB (bitB us i) x (8 * zAk us) k)).length)), (9, .vi (i:Int)), (10, .vi (k:Int)), (11, .p none (.v (.int .u64 ((plB x k (8 * zAk us) : Nat) : Int))))] [(4, [.vi 0, .vi 0, .vi 0, .vs ⟨#[]⟩])] [(1, 1, pvNb (usrB (bitB us i) x (8 * zAk us) k))]) ?_ ?_
    · exact zAJ ⟨rfl, rfl, rfl, rfl, rfl, rfl, rfl, rfl, trivial⟩ ⟨rfl, trivial⟩ ⟨rfl, trivial⟩ rfl
    refine zAA rfl (.m rfl rfl (.m rfl rfl (.r rfl (zAI (zDP (k := .u64) 18446744073709551616 rfl (plB x k (8 * zAk us)) 8 rfl rfl rfl rfl (by omega)) ((zAG (show (((plB x k (8 * zAk us) / 8) % 18446744073709551616 : Nat) : Int) = ((plB x k (8 * zAk us) / 8 : Nat) : Int) by omega)))) (.m rfl rfl (.m rfl rfl (.r rfl (zAI (zDP (k := .u64) 18446744073709551616 rfl (plB x k (8 * zAk us)) 8 rfl rfl rfl rfl (by omega)) ((zAG (show (((plB x k (8 * zAk us) / 8) % 18446744073709551616 : Nat) : Int) = ((plB x k (8 * zAk us) / 8 : Nat) : Int) by omega)))) (.r rfl (zA0 (plB x k (8 * zAk us) / 8) rfl rfl rfl rfl underlying22 sizeOf5 rfl rfl (by omega)) (.r rfl (zA3 rfl rfl rfl (zCT hb) isAgg5 rfl) (.m rfl rfl (.r rfl (zB1 (plB x k (8 * zAk us)) 8 rfl rfl rfl (by omega)) (.r rfl (zCk (k := .u8) 256 rfl 1 ((plB x k (8 * zAk us)) % 8) rfl rfl rfl rfl (show _ ≤ 8 by omega)) (.r rfl (zC2 (k := .u8) 256 rfl b ((1 * 2 ^ ((plB x k (8 * zAk us)) % 8)) % 256) rfl rfl rfl rfl) (.r rfl (zA0 (plB x k (8 * zAk us) / 8) rfl rfl rfl rfl underlying22 sizeOf5 rfl rfl (by omega)) (.r rfl (zBC rfl rfl rfl (FlatP.nf (zDV _)) (zCT hb) rfl rfl (.cons .v .nil) sizeOf5 rfl (nle rfl)) .nil)))))))))))))) ?_
    have hr7 : (pvNb (usrB (bitB us i) x (8 * zAk us) k)).set (plB x k (8 * zAk us) / 8) [PV.v (.int .u8 (((b ||| ((1 * 2 ^ ((plB x k (8 * zAk us)) % 8)) % 256)) % 256 : Nat) : Int))] = pvNb (usrB (bitB us i) x (8 * zAk us) (k + 1)) := by exact zKb hb
    have hl8 : (pvNb (usrB (bitB us i) x (8 * zAk us) k)).length = (pvNb (usrB (bitB us i) x (8 * zAk us) (k + 1))).length := by first | (rw [← hr7, List.length_set]; done) | simp [zBK]
    have hp9 : (.sl 1 0 ((pvNb (usrB (bitB us i) x (8 * zAk us) k)).length) : AV) = .sl 1 0 ((pvNb (usrB (bitB us i) x (8 * zAk us) (k + 1))).length) := by first | exact congrArg (AV.sl 1 0) hl8 | simp only [hr7, hl8]
    refine zAQ (s' := mk [(0, .p none (.sl false 1 (pvT us))), (4, .ptr 4 0), (6, .vi ((zAk us : Nat) : Int)), (7, .vi 6), (8, .sl 1 0 ((pvNb (usrB (bitB us i) x (8 * zAk us) (k + 1))).length)), (9, .vi (i:Int)), (10, .vi (k:Int))] [(4, [.vi 0, .vi 0, .vi 0, .vs ⟨#[]⟩])] [(1, 1, pvNb (usrB (bitB us i) x (8 * zAk us) (k + 1)))]) ?_ ?_
    · exact zAJ ⟨rfl, rfl, rfl, rfl, hp9, rfl, rfl, trivial⟩ ⟨rfl, trivial⟩ ⟨(congrArg (fun x => some (1, x)) hr7), trivial⟩ rfl
    refine zAA rfl (.m rfl rfl (.r rfl (zAd rfl rfl rfl (by omega)) (.a rfl rfl .nil))) ?_
    refine nxt (Q := fun _ _ => False) (z := k) (k + 1) ?_ ?_ ?_
    ·
     show (k + 1) ≤ 6
     omega
    ·
     show 6 - (k + 1) < 6 - k
     omega
    · exact zAJ ⟨rfl, rfl, rfl, rfl, rfl, rfl, (zAG (by omega)), trivial⟩ ⟨rfl, trivial⟩ ⟨rfl, trivial⟩ rfl
   ·
    replace h6 := of_decide_eq_false h6
    refine zAn ?_
    refine zAA rfl (.m rfl rfl (.r rfl (zAd rfl rfl rfl (by omega)) (.a rfl rfl .nil))) ?_
    refine nxt (Q := fun _ _ => False) (z := i) (i + 1) ?_ ?_ ?_
    ·
     show (i + 1) ≤ us.length
     omega
    ·
     show us.length - (i + 1) < us.length - i
     omega
    · exact zAJ ⟨rfl, rfl, rfl, rfl, (congrArg (fun z => AV.sl 1 0 (pvNb z).length) (by rw [zEP hx, show k = 6 by omega])), (zAG (by omega)), trivial⟩ ⟨rfl, trivial⟩ ⟨(congrArg (fun x => some (1, x)) (by rw [zEP hx, show k = 6 by omega])), trivial⟩ rfl
  ·
   replace h5 := of_decide_eq_false h5
   refine zAn ?_
   refine zAB (zAA rfl (.m rfl rfl (.m rfl rfl (.r rfl (zCj (ints (bitB us us.length)) rfl rfl (.give (len := (pvNb (bitB us i)).length) (xs := pvNb (bitB us i)) rfl rfl) rfl (by rw [show i = us.length by omega]; exact zC0 _) underlying22 underlying9 underlying5) (.r rfl (zAt (pl := [(0, 1), (1, 1), (2, 1), (3, 1)]) rfl underlying64 zCm (by kernel_rfl) rfl rfl) (.r rfl (zAN rfl rfl rfl rfl rfl sizeOf64 rfl (nle rfl)) (.a rfl rfl .nil)))))) ?_)
   refine zAK ?_
   exact ends [_, _] [] (.cons (.cell rfl rfl isAgg64 sizeOf64 (nle rfl)) (.cons (.tmp rfl) .nil)) (.cons (.agg (.cons .v (.cons .v (.cons .v (.cons .v .nil)))) (zAL (.v _) (zAL (.v _) (zAL (.v _) (zAL (.v _) zBR))))) (.cons (.one .v (.v _)) .nil)) (by decide) trivial
theorem zGz (us : List ByteArray) (hu : ∀ u ∈ us, zBa u = true) (hn : us.length ≤ 400) : Con Tryz.prog 110 [.one (PV.sl false 1 (pvT us)), .one (PV.v (.int .i64 10))] [] [.agg [.v (.int .i64 (zCf us).kind), .v (.int .i64 (zCf us).seed), .v (.int .i64 (zCf us).probes), .v (.string (zCf us).bits)], .one (.v (.bool true))] := by
 refine zAR func110 rfl rfl rfl rfl ?_
 have hle := zBD us
 have hby := zGD hn
 refine zAB (zAA rfl (.run [] [4] rfl (zA7 rfl 4 zCm rfl (by decide) rfl (by decide)) (.a rfl rfl .nil)) ?_)
 refine zAB ?_
 refine zAB (zAA rfl (.m rfl rfl (.run [1300] [] rfl (zAF rfl 1300 (X := []) zOO rfl (.val nod) (.cons (.one (.bor (.sl nod))) .nil) (by decide) all_nil .nil (zDw us (by assumption) (by omega)) rfl rfl (nle rfl)) (.r rfl (zAa (b := true) rfl rfl) (.m rfl rfl (.m rfl rfl (.run [1700] [] rfl (zAF rfl 1700 (X := []) en60 rfl (.val nod) (.cons (.one (.bor .v)) (.cons (.one (.bor .v)) (.cons (.one (.bor .v)) .nil))) (by decide) all_nil .nil (zBU 10 1 20) rfl rfl (nle rfl)) (.r rfl (zAa (b := zAi 10 1 20) rfl rfl) (.r rfl (zAb (t := false) rfl rfl) .nil)))))))) ?_)
 refine zAT (t := (!(zAi 10 1 20))) rfl (fun h1 => ?_) (fun h1 => ?_)
 ·
  replace h1 : (zAi 10 1 20) = false := zAp h1
  exact absurd h1 (by decide)
 ·
  replace h1 : (zAi 10 1 20) = true := zAq h1
  refine zAM ?_
  refine zAB ?_
  refine zAQ (s' := mk [(0, .p none (.sl false 1 (pvT us))), (1, .vi 10), (4, .ptr 4 0)] [(4, [.vi 0, .vi 0, .vi 0, .vs ⟨#[]⟩])] []) ?_ ?_
  · exact zAJ ⟨rfl, rfl, rfl, trivial⟩ ⟨rfl, trivial⟩ trivial rfl
  refine zAA rfl (.m rfl rfl (.m rfl rfl (.r rfl (zAu rfl rfl underlying61) (.r rfl (zCw rfl rfl rfl (by omega)) (.r rfl (zIq rfl rfl rfl) (.r rfl (zAd rfl rfl rfl (by omega)) (.r rfl (zAI (zE8 rfl rfl rfl (by omega)) ((zAG (zJW (by omega) (by omega))))) (.run [2800] [] rfl (zD3 rfl 2800 (l := zAk us) (c := zAk us) rfl rfl underlying22 inf5 rfl rfl (by decide) rfl (by decide) (by omega) (by omega) (by simp only [maxLen]; omega)) (.a rfl rfl .nil))))))))) ?_
  have hr2 : List.replicate (zAk us) [PV.v (.int .u8 0)] = pvNb (bitB us 0) := by exact row0 us
  have hl3 : zAk us = (pvNb (bitB us 0)).length := by first | (rw [← hr2, List.length_set]; done) | simp [zBK, zDM]
  have hp4 : (.sl 2800 0 (zAk us) : AV) = .sl 2800 0 ((pvNb (bitB us 0)).length) := by first | exact congrArg (AV.sl 2800 0) hl3 | simp only [hr2, hl3]
  refine zAQ (s' := mk [(0, .p none (.sl false 1 (pvT us))), (1, .vi 10), (4, .ptr 4 0), (6, .sl 2800 0 ((pvNb (bitB us 0)).length))] [(4, [.vi 0, .vi 0, .vi 0, .vs ⟨#[]⟩])] [(2800, 1, pvNb (bitB us 0))]) ?_ ?_
  · exact zAJ ⟨rfl, rfl, rfl, hp4, trivial⟩ ⟨rfl, trivial⟩ ⟨(congrArg (fun x => some (1, x)) hr2), trivial⟩ rfl
  refine zAB (zAA rfl (.m rfl rfl (.r rfl (zCw rfl rfl rfl (by omega)) (.r rfl (zAI (zE8 rfl rfl rfl (by omega)) ((zAG (show IntKind.i64.wrap ((69 * 10 : Int).tdiv 100) = 6 by decide)))) (.r rfl (zAI (zIq rfl rfl rfl) ((zAG (show max (6 : Int) 1 = 6 by decide)))) (.r rfl (zAI (zL6 rfl rfl rfl) ((zAG (show min (6 : Int) 30 = 6 by decide)))) (.r rfl (zAt (pl := [(0, 1), (1, 1), (2, 1), (3, 1)]) rfl underlying64 zCm (by kernel_rfl) rfl rfl) (.run [] [7] rfl (zA7 rfl 7 zCm rfl (by decide) rfl (by decide)) (.r rfl (zAN rfl rfl rfl rfl rfl sizeOf64 rfl (nle rfl)) .nil)))))))) ?_)
  refine zAB ?_
  refine zAB (zAA rfl (.m rfl rfl (.r rfl (zAu rfl rfl underlying61) (.m rfl rfl .nil))) ?_)
  refine zAS ?_
  refine zAQ (zCc 2800 1 rfl rfl (by decide)) ?_
  refine zAo (σ := Nat) (fun i => mk [(4, .ptr 4 0), (6, .sl 1 0 ((pvNb (bitB us i)).length)), (7, .ptr 7 0), (35, .p none (.sl false 1 (pvT us))), (36, .vi ((pvT us).length : Int)), (37, .vi (i:Int))] [(4, [.vi 0, .vi 0, .vi 0, .vs ⟨#[]⟩]), (7, [.vi 1, .vi 0, .vi 6, .vs ⟨#[]⟩])] [(1, 1, pvNb (bitB us i))]) (fun i => i ≤ us.length) (fun i => us.length - i) 0 (by simp) (zAJ ⟨rfl, rfl, rfl, rfl, rfl, (zAG (by omega)), trivial⟩ ⟨rfl, rfl, trivial⟩ ⟨(congrArg (fun x => some (1, x)) (by rfl)), trivial⟩ rfl) ?_
  rintro i hG
  replace hG : i ≤ us.length := hG
  have hbl := zDM us i
  have hbv := zBK (bitB us i)
  refine zAB (zAA rfl (.r rfl (zAz rfl rfl rfl) .nil) ?_)
  refine zAB ?_
  refine zAT (t := decide ((i:Int) < ((pvT us).length : Int))) rfl (fun h5 => ?_) (fun h5 => ?_)
  ·
   replace h5 := of_decide_eq_true h5
   refine zAM ?_
   refine zAB ?_
   refine zAS ?_
   refine zAB ?_
   obtain ⟨x, hx⟩ : ∃ x, us[i]? = some x := ⟨_, List.getElem?_eq_getElem (by omega)⟩
   have huo := hu _ (List.mem_of_getElem? hx)
   have hus := zC7 huo
   refine zAA rfl (.r rfl (zA8 rfl rfl rfl underlying61 sizeOf9 rfl (by omega) (zCl hx)) (.r rfl (zBP rfl rfl isAgg9 rfl) (.a rfl rfl .nil))) ?_
   refine zAB (zAA rfl (.m rfl rfl (.r rfl (zAC rfl rfl underlying64 rfl sizeOf2 (by decide)) (.r rfl (zAD rfl rfl rfl isAgg2 rfl) (.m rfl rfl (.r rfl (zAI (zB9 rfl rfl underlying22) ((zAG (by rw [hbv, hbl])))) (.run [4600] [] rfl (zAF rfl 4600 (X := []) en132 rfl (.val nod) (.cons (.one (.bor .v)) (.cons (.one (.bor .v)) (.cons (.one (.bor .v)) .nil))) (by decide) all_nil .nil (zHY x 6 (zAk us) (by omega) (by omega) (by omega)) rfl rfl (nle rfl)) (.r rfl (zB9 rfl rfl underlying124) (.m rfl rfl .nil)))))))) ?_)
   refine zAS ?_
   refine zAQ (zCc 4600 2 rfl rfl (by decide)) ?_
   refine zAo (σ := Nat) (fun k => mk [(4, .ptr 4 0), (6, .sl 1 0 ((pvNb (usrB (bitB us i) x (8 * zAk us) k)).length)), (7, .ptr 7 0), (35, .p none (.sl false 1 (pvT us))), (36, .vi ((pvT us).length : Int)), (37, .vi (i:Int)), (46, .sl 2 0 ((pvQ (zBG x (8 * zAk us) 6)).length)), (47, .vi ((pvQ (zBG x (8 * zAk us) 6)).length : Int)), (48, .vi (k:Int))] [(4, [.vi 0, .vi 0, .vi 0, .vs ⟨#[]⟩]), (7, [.vi 1, .vi 0, .vi 6, .vs ⟨#[]⟩])] [(1, 1, pvNb (usrB (bitB us i) x (8 * zAk us) k)), (2, 1, pvQ (zBG x (8 * zAk us) 6))]) (fun k => k ≤ 6) (fun k => 6 - k) 0 (by simp) (zAJ ⟨rfl, rfl, rfl, rfl, rfl, rfl, rfl, rfl, (zAG (by omega)), trivial⟩ ⟨rfl, rfl, trivial⟩ ⟨(congrArg (fun x => some (1, x)) (by rfl)), rfl, trivial⟩ rfl) ?_
   rintro k hG
   replace hG : k ≤ 6 := hG
   have hul := (zF3 (bitB us i) x (8 * zAk us) k).trans (zDM us i)
   have huv := zBK (usrB (bitB us i) x (8 * zAk us) k)
   have hpq := zBj (zBG x (8 * zAk us) 6)
   have hp6 := zCX x (8 * zAk us) 6
   refine zAB ?_
   have hpq := zBj (zBG x (8 * zAk us) 6)
   have hp6 := zCX x (8 * zAk us) 6
   refine zAA rfl (.r rfl (zAz rfl rfl rfl) .nil) ?_
   refine zAB ?_
   refine zAT (t := decide ((k:Int) < ((pvQ (zBG x (8 * zAk us) 6)).length : Int))) rfl (fun h6 => ?_) (fun h6 => ?_)
   ·
    replace h6 := of_decide_eq_true h6
    refine zAM ?_
    refine zAB ?_
    refine zAS ?_
    refine zAB (zAA rfl (.r rfl (zA0 k rfl rfl rfl rfl underlying124 sizeOf58 rfl rfl (by omega)) (.r rfl (zA3 rfl rfl rfl (zD6 (zGj (by omega))) isAgg58 rfl) (.a rfl rfl .nil))) ?_)
    have hpl : plB x k (8 * zAk us) < (8 * zAk us) := zKm (by omega)
    obtain ⟨b, hb⟩ : ∃ b, (usrB (bitB us i) x (8 * zAk us) k)[plB x k (8 * zAk us) / 8]? = some b := ⟨_, List.getElem?_eq_getElem (by omega)⟩
    refine zAA rfl (.m rfl rfl (.m rfl rfl (.r rfl (zAI (zDP (k := .u64) 18446744073709551616 rfl (plB x k (8 * zAk us)) 8 rfl rfl rfl rfl (by omega)) ((zAG (show (((plB x k (8 * zAk us) / 8) % 18446744073709551616 : Nat) : Int) = ((plB x k (8 * zAk us) / 8 : Nat) : Int) by omega)))) (.r rfl (zA0 (plB x k (8 * zAk us) / 8) rfl rfl rfl rfl underlying22 sizeOf5 rfl rfl (by omega)) (.r rfl (zA3 rfl rfl rfl (zCT hb) isAgg5 rfl) (.m rfl rfl (.r rfl (zB1 (plB x k (8 * zAk us)) 8 rfl rfl rfl (by omega)) (.r rfl (zCk (k := .u8) 256 rfl 1 ((plB x k (8 * zAk us)) % 8) rfl rfl rfl rfl (show _ ≤ 8 by omega)) (.r rfl (zC2 (k := .u8) 256 rfl b ((1 * 2 ^ ((plB x k (8 * zAk us)) % 8)) % 256) rfl rfl rfl rfl) (.r rfl (zA0 (plB x k (8 * zAk us) / 8) rfl rfl rfl rfl underlying22 sizeOf5 rfl rfl (by omega)) (.r rfl (zBC rfl rfl rfl (FlatP.nf (zDV _)) (zCT hb) rfl rfl (.cons .v .nil) sizeOf5 rfl (nle rfl)) .nil))))))))))) ?_
    have hr7 : (pvNb (usrB (bitB us i) x (8 * zAk us) k)).set (plB x k (8 * zAk us) / 8) [PV.v (.int .u8 (((b ||| ((1 * 2 ^ ((plB x k (8 * zAk us)) % 8)) % 256)) % 256 : Nat) : Int))] = pvNb (usrB (bitB us i) x (8 * zAk us) (k + 1)) := by exact zKb hb
    have hl8 : (pvNb (usrB (bitB us i) x (8 * zAk us) k)).length = (pvNb (usrB (bitB us i) x (8 * zAk us) (k + 1))).length := by first | (rw [← hr7, List.length_set]; done) | simp [zBK]
    have hp9 : (.sl 1 0 ((pvNb (usrB (bitB us i) x (8 * zAk us) k)).length) : AV) = .sl 1 0 ((pvNb (usrB (bitB us i) x (8 * zAk us) (k + 1))).length) := by first | exact congrArg (AV.sl 1 0) hl8 | simp only [hr7, hl8]
    refine zAQ (s' := mk [(4, .ptr 4 0), (6, .sl 1 0 ((pvNb (usrB (bitB us i) x (8 * zAk us) (k + 1))).length)), (7, .ptr 7 0), (35, .p none (.sl false 1 (pvT us))), (36, .vi ((pvT us).length : Int)), (37, .vi (i:Int)), (46, .sl 2 0 ((pvQ (zBG x (8 * zAk us) 6)).length)), (47, .vi ((pvQ (zBG x (8 * zAk us) 6)).length : Int)), (48, .vi (k:Int))] [(4, [.vi 0, .vi 0, .vi 0, .vs ⟨#[]⟩]), (7, [.vi 1, .vi 0, .vi 6, .vs ⟨#[]⟩])] [(1, 1, pvNb (usrB (bitB us i) x (8 * zAk us) (k + 1))), (2, 1, pvQ (zBG x (8 * zAk us) 6))]) ?_ ?_
    · exact zAJ ⟨rfl, hp9, rfl, rfl, rfl, rfl, rfl, rfl, rfl, trivial⟩ ⟨rfl, rfl, trivial⟩ ⟨(congrArg (fun x => some (1, x)) hr7), rfl, trivial⟩ rfl
    refine zAA rfl (.r rfl (zAd rfl rfl rfl (by omega)) (.m rfl rfl .nil)) ?_
    refine nxt (Q := fun _ _ => False) (z := k) (k + 1) ?_ ?_ ?_
    ·
     show (k + 1) ≤ 6
     omega
    ·
     show 6 - (k + 1) < 6 - k
     omega
    · exact zAJ ⟨rfl, rfl, rfl, rfl, rfl, rfl, rfl, rfl, (zAG (by omega)), trivial⟩ ⟨rfl, rfl, trivial⟩ ⟨rfl, rfl, trivial⟩ rfl
   ·
    replace h6 := of_decide_eq_false h6
    refine zAn ?_
    refine zAA rfl (.r rfl (zAd rfl rfl rfl (by omega)) (.m rfl rfl .nil)) ?_
    refine nxt (Q := fun _ _ => False) (z := i) (i + 1) ?_ ?_ ?_
    ·
     show (i + 1) ≤ us.length
     omega
    ·
     show us.length - (i + 1) < us.length - i
     omega
    · exact zAJ ⟨rfl, (congrArg (fun z => AV.sl 1 0 (pvNb z).length) (by rw [zEP hx, show k = 6 by omega])), rfl, rfl, rfl, (zAG (by omega)), trivial⟩ ⟨rfl, rfl, trivial⟩ ⟨(congrArg (fun x => some (1, x)) (by rw [zEP hx, show k = 6 by omega])), trivial⟩ rfl
  ·
   replace h5 := of_decide_eq_false h5
   refine zAn ?_
   refine zAB (zAA rfl (.m rfl rfl (.r rfl (zCj (ints (bitB us us.length)) rfl rfl (.give (len := (pvNb (bitB us i)).length) (xs := pvNb (bitB us i)) rfl rfl) rfl (by rw [show i = us.length by omega]; exact zC0 _) underlying22 underlying9 underlying5) (.r rfl (zAC rfl rfl underlying64 rfl sizeOf9 (by decide)) (.r rfl (zAN rfl rfl rfl rfl rfl sizeOf9 rfl (nle rfl)) .nil)))) ?_)
   refine zAB (zAA rfl (.r rfl (zAW rfl rfl rfl isAgg64 sizeOf64 (nle rfl)) (.r rfl (zAN rfl rfl rfl rfl rfl sizeOf64 rfl (nle rfl)) (.a rfl rfl .nil))) ?_)
   refine zAK ?_
   exact ends [_, _] [] (.cons (.cell rfl rfl isAgg64 sizeOf64 (nle rfl)) (.cons (.tmp rfl) .nil)) (.cons (.agg (.cons .v (.cons .v (.cons .v (.cons .v .nil)))) (zAL (.v _) (zAL (.v _) (zAL (.v _) (zAL (.v _) zBR))))) (.cons (.one .v (.v _)) .nil)) (by decide) trivial
end Go.Rl
namespace Go.Rl
structure Eqn where
 place : Nat
 row : Nat
 sum : Nat
def Eqn.pv (e : Eqn) : List PV := [.v (.int .i64 ((e.place : Nat) : Int)), .v (.int .u64 ((e.row : Nat) : Int)), .v (.int .u8 ((e.sum : Nat) : Int))]
def pvK (l : List Eqn) : List (List PV) := l.map Eqn.pv
theorem zEY (l : List Eqn) : (pvK l).length = l.length := by simp [pvK]
theorem zGg {l : List Eqn} {i : Nat} {e : Eqn} (h : l[i]? = some e) : (pvK l)[i]? = some [.v (.int .i64 ((e.place : Nat) : Int)), .v (.int .u64 ((e.row : Nat) : Int)), .v (.int .u8 ((e.sum : Nat) : Int))] := by simp [pvK, Eqn.pv, h]
theorem zNv (l : List Eqn) : FlatP (pvK l) := fun es he p hp => by
 obtain ⟨e, _, rfl⟩ := List.mem_map.1 he
 simp only [Eqn.pv, List.mem_cons, List.not_mem_nil, or_false] at hp
 rcases hp with rfl | rfl | rfl <;> rfl
theorem pvK_set {l : List Eqn} {i : Nat} (e : Eqn) : (pvK l).set i [.v (.int .i64 ((e.place : Nat) : Int)), .v (.int .u64 ((e.row : Nat) : Int)), .v (.int .u8 ((e.sum : Nat) : Int))] = pvK (l.set i e) := by
 rw [pvK, pvK, List.map_set]; rfl
theorem zNu {l : List Eqn} {i : Nat} (e : Eqn) : (pvQ (l.map Eqn.row)).set i [.v (.int .u64 ((e.row : Nat) : Int))] = pvQ ((l.set i e).map Eqn.row) := by
 simp [pvQ, List.map_set]
theorem zNt {l : List Eqn} {i : Nat} (e : Eqn) : (pvQ (l.map Eqn.sum)).set i [.v (.int .u64 ((e.sum : Nat) : Int))] = pvQ ((l.set i e).map Eqn.sum) := by
 simp [pvQ, List.map_set]
theorem zH5 {l : List Eqn} {i : Nat} {e : Eqn} (h : l[i]? = some e) : (l.map Eqn.row)[i]? = some e.row := by simp [h]
theorem zJw {l : List Eqn} {i : Nat} {e : Eqn} (h : l[i]? = some e) : (l.map Eqn.sum)[i]? = some e.sum := by simp [h]
def EOk (m p : Nat) (e : Eqn) : Prop := e.row < 65536 ∧ e.row < 2 ^ (m - p) ∧ e.sum < 128 ∧ (e.row = 0 → e.sum = 0) ∧ (e.row ≠ 0 → e.row % 2 = 1)
structure KOk (m : Nat) (K : List Eqn) : Prop where
 len : K.length = m
 all : ∀ p e, K[p]? = some e → EOk m p e
structure RI (m a r s : Nat) : Prop where
 at_ : a ≤ m
 row : r < 65536
 gap : r < 2 ^ (m - a)
 sum : s < 128
theorem RI.in_ {m a r s : Nat} (h : RI m a r s) (h0 : r ≠ 0) : a < m := by
 have h1 := h.gap
 have h2 := h.at_
 rcases Nat.lt_or_ge a m with h3 | h3
 · exact h3
 · rw [show m - a = 0 by omega, Nat.pow_zero] at h1; omega
def ribE (m at_ row sum : Nat) (K : List Eqn) : Option (List Eqn) :=
 if h0 : row = 0 then (if sum = 0 then some K else none)
 else if h : at_ < m then
  if h1 : row % 2 = 0 then ribE m (at_ + 1) (row / 2) sum K
  else match K[at_]? with
   | some e => if e.row = 0 then some (K.set at_ ⟨at_, row, sum⟩) else if h2 : e.row % 2 = 0 then none else ribE m at_ (row ^^^ e.row) (sum ^^^ e.sum) K
   | none => none
 else none
termination_by 2 * (m - at_) + row % 2
decreasing_by
 · omega
 ·
  have := zJo (a := row) (b := e.row) (by omega) (by omega)
  omega
theorem zDe (m a s : Nat) (K : List Eqn) : ribE m a 0 s K = if s = 0 then some K else none := by rw [ribE]; simp
theorem zFE {m a r s : Nat} {K : List Eqn} (hi : RI m a r s) (h : r % 2 = 0) (h0 : r ≠ 0) : ribE m (a + 1) (r / 2) s K = ribE m a r s K ∧ RI m (a + 1) (r / 2) s := by
 have ha := hi.in_ h0
 have h1 := hi.gap
 have h2 := hi.row
 refine ⟨?_, ha, by omega, ?_, hi.sum⟩
 · rw [ribE.eq_def m a r s K, dif_neg h0, dif_pos ha, dif_pos h]
 ·
  rw [show m - a = (m - (a + 1)) + 1 by omega, Nat.pow_succ] at h1
  omega
theorem zH8 {m a r s : Nat} {K : List Eqn} {e : Eqn} (hi : RI m a r s) (hK : KOk m K) (h : r % 2 = 1) (he : K[a]? = some e) (h0 : e.row = 0) : ribE m a r s K = some (K.set a ⟨a, r, s⟩) ∧ KOk m (K.set a ⟨a, r, s⟩) := by
 have hr : r ≠ 0 := by omega
 have ha := hi.in_ hr
 refine ⟨?_, by rw [List.length_set]; exact hK.len, fun p x hx => ?_⟩
 ·
  rw [ribE, dif_neg hr, dif_pos ha, dif_neg (by omega), he]
  simp only [h0, if_true]
 ·
  by_cases q : p = a
  ·
   subst q
   rw [List.getElem?_set_self (by rw [hK.len]; exact ha)] at hx
   cases hx
   exact ⟨hi.row, hi.gap, hi.sum, fun w => absurd w hr, fun _ => h⟩
  ·
   rw [List.getElem?_set_ne (fun w => q w.symm)] at hx
   exact hK.all p x hx
theorem zJ7 {m a r s : Nat} {K : List Eqn} {e : Eqn} (hi : RI m a r s) (hK : KOk m K) (h : r % 2 = 1) (he : K[a]? = some e) (h0 : ¬ e.row = 0) : ribE m a (r ^^^ e.row) (s ^^^ e.sum) K = ribE m a r s K ∧ RI m a (r ^^^ e.row) (s ^^^ e.sum) ∧ (r ^^^ e.row) % 2 = 0 := by
 have hr : r ≠ 0 := by omega
 have ha := hi.in_ hr
 have hE := hK.all a e he
 have ho := hE.2.2.2.2 h0
 refine ⟨?_, ⟨hi.at_, Nat.xor_lt_two_pow (n := 16) hi.row hE.1, Nat.xor_lt_two_pow hi.gap hE.2.1, Nat.xor_lt_two_pow (n := 7) hi.sum hE.2.2.1⟩, zJo h ho⟩
 rw [ribE.eq_def m a r s K, dif_neg hr, dif_pos ha, dif_neg (by omega), he]
 simp only [h0, if_false, show ¬ e.row % 2 = 0 by omega, dite_false]
def atN (h m : Nat) : Nat := (h / 2 ^ 32) % (m - 15)
def rowN (h : Nat) : Nat := h % 65536 ||| 1
def sumN (h : Nat) : Nat := (h / 2 ^ 16) % 128
theorem zH6 (h : Nat) : rowN h < 65536 := Nat.or_lt_two_pow (n := 16) (Nat.mod_lt _ (by decide)) (by decide)
theorem zMI (h : Nat) : (((h % 65536 ||| 1) % 18446744073709551616 : Nat) : Int) = ((rowN h : Nat) : Int) := by
 have := zH6 h
 rw [← rowN]
 omega
theorem zNh (h : Nat) : ((((h &&& 65535) % 18446744073709551616 ||| 1) % 18446744073709551616 : Nat) : Int) = ((rowN h : Nat) : Int) := by
 have h1 : h &&& 65535 = h % 65536 := Nat.and_two_pow_sub_one_eq_mod h 16
 rw [h1, Nat.mod_eq_of_lt (a := h % 65536) (by omega)]
 exact zMI h
theorem zF7 (h m : Nat) (hm : 20 ≤ m) : RI m (atN h m) (rowN h) (sumN h) := by
 have h1 : atN h m < m - 15 := Nat.mod_lt _ (by omega)
 refine ⟨by omega, zH6 h, Nat.lt_of_lt_of_le (zH6 h) ?_, Nat.mod_lt _ (by decide)⟩
 exact Nat.pow_le_pow_right (n := 2) (by decide) (show 16 ≤ m - atN h m by omega)
def eq0 (m : Nat) : List Eqn := List.replicate m ⟨0, 0, 0⟩
def zB6 (us : List ByteArray) (sd m : Nat) : Nat → Option (List Eqn)
 | 0 => some (eq0 m)
 | i + 1 => match zB6 us sd m i with
  | some K => match us[i]? with
   | some u => ribE m (atN (zAj sd u) m) (rowN (zAj sd u)) (sumN (zAj sd u)) K
   | none => some K
  | none => none
theorem zCJ {us : List ByteArray} {sd m i : Nat} {K : List Eqn} {u : ByteArray} (h : zB6 us sd m i = some K) (hu : us[i]? = some u) : zB6 us sd m (i + 1) = ribE m (atN (zAj sd u) m) (rowN (zAj sd u)) (sumN (zAj sd u)) K := by
 rw [zB6, h, hu]
theorem zGb {us : List ByteArray} {sd m i : Nat} (h : zB6 us sd m i = none) : ∀ k, zB6 us sd m (i + k) = none
 | 0 => h
 | k + 1 => by rw [← Nat.add_assoc, zB6, zGb h k]
theorem zFc {us : List ByteArray} {sd m i n : Nat} (h : zB6 us sd m i = none) (hn : i ≤ n) : zB6 us sd m n = none := by
 have := zGb h (n - i)
 rwa [show i + (n - i) = n by omega] at this
theorem zIM (m : Nat) : KOk m (eq0 m) := ⟨by simp [eq0], fun p e h => by
 rw [eq0, List.getElem?_replicate] at h
 split at h
 · cases h; exact ⟨by decide, Nat.two_pow_pos _, by decide, fun _ => rfl, fun h => absurd rfl h⟩
 · cases h⟩
theorem eq0_row (m : Nat) : List.replicate m [PV.v (.int .u64 0)] = pvQ ((eq0 m).map Eqn.row) := by simp [pvQ, eq0]
theorem eq0_sum (m : Nat) : List.replicate m [PV.v (.int .u64 0)] = pvQ ((eq0 m).map Eqn.sum) := by simp [pvQ, eq0]
theorem eq0_all (m : Nat) : List.replicate m [PV.v (.int .i64 0), PV.v (.int .u64 0), PV.v (.int .u8 0)] = pvK (eq0 m) := by simp [pvK, eq0, Eqn.pv]
theorem zFD {m a r s : Nat} {K : List Eqn} {e : Eqn} (hi : RI m a r s) (hK : KOk m K) (h : r % 2 = 1) (he : K[a]? = some e) (h0 : e.row = 0) : ribE m a 0 0 (K.set a ⟨a, r, s⟩) = ribE m a r s K ∧ RI m a 0 0 ∧ KOk m (K.set a ⟨a, r, s⟩) := by
 have h1 := zH8 hi hK h he h0
 exact ⟨by rw [zDe, if_pos rfl, h1.1], ⟨hi.at_, by decide, Nat.two_pow_pos _, by decide⟩, h1.2⟩
theorem zPA (h m : Nat) : ((h / 2 ^ 32 % (m - 15) : Nat) : Int) = ((atN h m : Nat) : Int) := by rw [atN]
theorem zO9 {h m : Nat} (h1 : 20 ≤ m) (h2 : m ≤ 600) : atN h m < 600 := Nat.lt_of_lt_of_le (Nat.mod_lt _ (show 0 < m - 15 by omega)) (by omega)
theorem sumN_u8 (h : Nat) : ((sumN h % 256 : Nat) : Int) = ((sumN h : Nat) : Int) := by
 have : sumN h < 128 := Nat.mod_lt _ (by decide)
 omega
theorem zL5 (h : Nat) : ((h / 2 ^ 16 % 128 : Nat) : Int) = ((sumN h : Nat) : Int) := by rw [sumN]
theorem quo4 {n : Nat} (h : n ≤ 400) : IntKind.i64.wrap ((n : Int).tdiv 4) = ((n / 4 : Nat) : Int) := by
 rw [Int.tdiv_eq_ediv_of_nonneg (by omega), zEE (by omega)]
 omega
theorem zNM {a : Nat} (h : a < 18446744073709551616) : zDv .andNot .u64 (a : Int) 1 = ((a / 2 * 2 : Nat) : Int) := by
 have hn : (~~~ (BitVec.ofInt 64 1)).toNat = 18446744073709551614 := by decide
 have h0 : a &&& 18446744073709551614 = a / 2 * 2 := by
  have h1 := Nat.and_div_two (a := a) (b := 18446744073709551614)
  have h2 := Nat.and_mod_two_pow (a := a) (b := 18446744073709551614) (n := 1)
  rw [Nat.pow_one, show 18446744073709551614 % 2 = 0 from rfl, Nat.and_zero] at h2
  rw [show 18446744073709551614 / 2 = 2 ^ 63 - 1 from rfl, Nat.and_two_pow_sub_one_eq_mod, Nat.mod_eq_of_lt (by omega)] at h1
  omega
 show IntKind.u64.wrap (((BitVec.ofInt 64 (a : Int) &&& ~~~ (BitVec.ofInt 64 1)).toNat : Nat) : Int) = _
 rw [BitVec.toNat_and, hn, zEc, BitVec.toNat_ofNat, Nat.mod_eq_of_lt h, h0, zCs rfl]
 show ((a / 2 * 2 % 18446744073709551616 : Nat) : Int) = _
 omega
theorem st_not1 {γ : Gho} {P : Program} {n : Nat} {o : Oper} {M B : List Nat} {s : St} {xt yt : TypeId} {x y : Operand} {d d' : Option Nat} (a : Nat) (ho : o.op = .binOp .andNot xt x y yt) (hx : s.ev x = .p d (.v (.int .u64 (a : Int)))) (hy : s.ev y = .p d' (.v (.int .u64 1))) (h : a < 18446744073709551616) : StepD γ P n o M B s { put := (.p none (.v (.int .u64 ((a / 2 * 2 : Nat) : Int)))) } := by
 rw [← zNM h]; exact zGM ho (.inr (.inr (.inr rfl))) hx hy
def solT (B : List Nat) (p r : Nat) : Nat → Nat
 | 0 => 0
 | j + 1 => if (r / 2 ^ j) % 2 = 1 then solT B p r j ^^^ B.getD (p + j) 0 else solT B p r j
theorem getD_lt {B : List Nat} (h : ∀ b ∈ B, b < 128) (i : Nat) : B.getD i 0 < 128 := by
 rw [List.getD_eq_getElem?_getD]
 cases q : B[i]? with
 | none => exact Nat.zero_lt_succ _
 | some b => exact h b (List.mem_of_getElem? q)
theorem zEG {B : List Nat} (h : ∀ b ∈ B, b < 128) (p r : Nat) : ∀ j, solT B p r j < 128
 | 0 => Nat.zero_lt_succ _
 | j + 1 => by
  rw [solT]
  split
  · exact Nat.xor_lt_two_pow (n := 7) (zEG h p r j) (getD_lt h _)
  · exact zEG h p r j
theorem zIs {B : List Nat} {p r j : Nat} (h : r / 2 ^ j = 0) : ∀ k, solT B p r (j + k) = solT B p r j
 | 0 => rfl
 | k + 1 => by
  rw [← Nat.add_assoc, solT, if_neg, zIs h k]
  rw [Nat.pow_add, ← Nat.div_div_eq_div_mul, h, Nat.zero_div]
  decide
theorem zKa {B : List Nat} {p r j n : Nat} (h : r / 2 ^ j = 0) (hn : j ≤ n) : solT B p r n = solT B p r j := by
 have := zIs (B := B) (p := p) h (n - j)
 rwa [show j + (n - j) = n by omega] at this
theorem zJz {B : List Nat} {p r j b : Nat} (h : (r / 2 ^ j) % 2 = 1) (hb : B[p + j]? = some b) : solT B p r (j + 1) = solT B p r j ^^^ b := by
 rw [solT, if_pos h, List.getD_eq_getElem?_getD, hb]; rfl
theorem zMA {B : List Nat} {p r j : Nat} (h : ¬ (r / 2 ^ j) % 2 = 1) : solT B p r (j + 1) = solT B p r j := by rw [solT, if_neg h]
theorem zFu (r j : Nat) : r / 2 ^ j / 2 = r / 2 ^ (j + 1) := by rw [Nat.div_div_eq_div_mul, ← Nat.pow_succ]
theorem zMV {r j m p : Nat} (h : r < 2 ^ (m - p)) (h0 : r / 2 ^ j ≠ 0) : p + j < m := by
 have h1 : 2 ^ j ≤ r := by
  rcases Nat.lt_or_ge r (2 ^ j) with q | q
  · exact absurd (Nat.div_eq_of_lt q) h0
  · exact q
 have h2 : 2 ^ j < 2 ^ (m - p) := Nat.lt_of_le_of_lt h1 h
 have h3 := (Nat.pow_lt_pow_iff_right (by decide : 1 < 2)).1 h2
 omega
theorem zJU (r k : Nat) (h : 1 ≤ k) : ((r / 2 * 2) / 2 ^ k) = r / 2 ^ k := by
 obtain ⟨j, rfl⟩ : ∃ j, k = j + 1 := ⟨k - 1, by omega⟩
 rw [Nat.pow_succ, Nat.mul_comm (2 ^ j) 2, ← Nat.div_div_eq_div_mul, ← Nat.div_div_eq_div_mul, Nat.mul_div_cancel _ (by decide)]
def bitK (K : List Eqn) (m : Nat) : Nat → List Nat
 | 0 => List.replicate m 0
 | j + 1 => match K[m - 1 - j]? with
  | some e => (bitK K m j).set (m - 1 - j) (e.sum ^^^ solT (bitK K m j) (m - 1 - j) (e.row / 2 * 2) 16)
  | none => bitK K m j
theorem zDi (K : List Eqn) (m : Nat) : ∀ j, (bitK K m j).length = m
 | 0 => by simp [bitK]
 | j + 1 => by
  rw [bitK]
  split
  · rw [List.length_set, zDi K m j]
  · exact zDi K m j
theorem zIe {K : List Eqn} {m : Nat} (hK : KOk m K) : ∀ j, ∀ b ∈ bitK K m j, b < 128
 | 0 => fun b hb => by
  rw [bitK, List.mem_replicate] at hb
  omega
 | j + 1 => by
  have ih := zIe hK j
  rw [bitK]
  split
  ·
   next e he =>
   intro b hb
   rcases List.mem_or_eq_of_mem_set hb with q | q
   · exact ih b q
   ·
    subst q
    exact Nat.xor_lt_two_pow (n := 7) (hK.all _ _ he).2.2.1 (zEG ih _ _ _)
  · exact ih
theorem zLB {K : List Eqn} {m : Nat} : ∀ j q, q + j < m → (bitK K m j)[q]? = some 0
 | 0, q, h => by rw [bitK, List.getElem?_replicate, if_pos (by omega)]
 | j + 1, q, h => by
  have ih := zLB (K := K) (m := m) j q (by omega)
  rw [bitK]
  split
  · rw [List.getElem?_set_ne (by omega)]; exact ih
  · exact ih
theorem zG2 {K : List Eqn} {m j : Nat} {e : Eqn} (he : K[m - 1 - j]? = some e) : bitK K m (j + 1) = (bitK K m j).set (m - 1 - j) (e.sum ^^^ solT (bitK K m j) (m - 1 - j) (e.row / 2 * 2) 16) := by rw [bitK, he]
theorem zJi {K : List Eqn} {m j : Nat} {e : Eqn} (hK : KOk m K) (hj : j < m) (he : K[m - 1 - j]? = some e) (h0 : e.row = 0) : bitK K m (j + 1) = bitK K m j := by
 have hl := zLB (K := K) (m := m) j (m - 1 - j) (by omega)
 have h1 : solT (bitK K m j) (m - 1 - j) 0 16 = 0 := (zKa (j := 0) (by decide) (by omega)).trans rfl
 rw [zG2 he, h0, show 0 / 2 * 2 = 0 from rfl, h1, (hK.all _ _ he).2.2.2.1 h0]
 apply List.ext_getElem?
 intro i
 by_cases q : m - 1 - j = i
 ·
  subst q
  rw [List.getElem?_set_self (by rw [zDi]; omega), hl]
  rfl
 · rw [List.getElem?_set_ne q]
theorem zHq (K : List Eqn) (m : Nat) : List.replicate m [PV.v (.int .u8 0)] = pvNb (bitK K m 0) := by simp [pvNb, bitK]
theorem sol_one (B : List Nat) (p r : Nat) : solT B p (r / 2 * 2) 1 = 0 := by
 rw [solT, if_neg (by rw [Nat.pow_zero, Nat.div_one]; omega), solT]
theorem zL8 {B : List Nat} {p r k s b : Nat} (hk : 1 ≤ k) (h : (r / 2 ^ k) % 2 = 1) (hb : B[p + k]? = some b) (hs : s < 128) (hB : ∀ b ∈ B, b < 128) : ((s ^^^ solT B p (r / 2 * 2) k) ^^^ b) % 18446744073709551616 = s ^^^ solT B p (r / 2 * 2) (k + 1) := by
 rw [zJz (by rw [zJU r k hk]; exact h) hb, Nat.xor_assoc]
 have h1 : s ^^^ (solT B p (r / 2 * 2) k ^^^ b) < 2 ^ 7 := Nat.xor_lt_two_pow (n := 7) hs (Nat.xor_lt_two_pow (n := 7) (zEG hB _ _ _) (hB _ (List.mem_of_getElem? hb)))
 omega
theorem zL9 {B : List Nat} {p r k : Nat} (hk : 1 ≤ k) (h : ¬ (r / 2 ^ k) % 2 = 1) : solT B p (r / 2 * 2) (k + 1) = solT B p (r / 2 * 2) k := zMA (by rw [zJU r k hk]; exact h)
theorem zFH {B : List Nat} {i x : Nat} : (pvNb B).set i [.v (.int .u8 ((x : Nat) : Int))] = pvNb (B.set i x) := by simp [pvNb, List.map_set]
def ribM (us : List ByteArray) : Nat := us.length + us.length / 4 + 20
def zBO (us : List ByteArray) (sd : Nat) : Option Flt := match zB6 us sd (ribM us) us.length with
 | none => none
 | some K => some ⟨2, ((sd : Nat) : Int), 0, zB0 (ints (bitK K (ribM us) (ribM us)))⟩
theorem zGU {us : List ByteArray} {sd : Nat} {K : List Eqn} (h : zB6 us sd (ribM us) us.length = some K) : zBO us sd = some ⟨2, ((sd : Nat) : Int), 0, zB0 (ints (bitK K (ribM us) (ribM us)))⟩ := by rw [zBO, h]
theorem zEv {us : List ByteArray} {sd : Nat} (h : zB6 us sd (ribM us) us.length = none) : zBO us sd = none := by rw [zBO, h]
def zCV (us : List ByteArray) : Nat → Option Flt
 | 0 => none
 | n + 1 => match zCV us n with
  | some f => some f
  | none => zBO us n
def Flt.zero : Flt := ⟨0, 0, 0, ByteArray.empty⟩
def zAr (us : List ByteArray) (kind : Int) : Flt := if kind = 0 then .zero else if kind = 2 then (zCV us 4).getD (zCf us) else zCf us
end Go.Rl
namespace Go.Rl
open Go.Proofs Go.Proofs.Tryz
set_option maxRecDepth 1000000
set_option maxHeartbeats 2000000
theorem zHf : (Tryz.prog.info? 132).map (fun i => (i.zero, i.size, i.bytes)) = some (some (.agg #[.int .i64 0, .int .u64 0, .int .u8 0]), 3, 24) := by kernel_rfl
theorem bit_y {c : Nat} (h : (((c &&& 1) % 18446744073709551616 : Nat) : Int) = 1) : c % 2 = 1 := by rw [Nat.and_one_is_mod] at h; omega
theorem bit_n {c : Nat} (h : ¬ (((c &&& 1) % 18446744073709551616 : Nat) : Int) = 1) : ¬ c % 2 = 1 := by rw [Nat.and_one_is_mod] at h; omega
theorem zNb {B : List Nat} {p r j b : Nat} (hB : ∀ b ∈ B, b < 128) (h : (r / 2 ^ j) % 2 = 1) (hb : B[p + j]? = some b) : (solT B p r j ^^^ b) % 256 = solT B p r (j + 1) := by
 have h1 : solT B p r j ^^^ b < 2 ^ 7 := Nat.xor_lt_two_pow (n := 7) (zEG hB _ _ _) (hB _ (List.mem_of_getElem? hb))
 rw [zJz h hb]
 omega
theorem zMH (u : ByteArray) (sd m : Nat) (hs : sd ≤ 3) (hm : 20 ≤ m ∧ m ≤ 600) (hu : u.size ≤ 9000000000000000000) : Con Tryz.prog 114 [.one (PV.v (.string u)), .one (PV.v (.int .i64 (sd:Int))), .one (PV.v (.int .i64 (m:Int)))] [] [.one (.v (.int .i64 ((atN (zAj sd u) m : Nat) : Int))), .one (.v (.int .u64 ((rowN (zAj sd u) : Nat) : Int))), .one (.v (.int .u64 ((sumN (zAj sd u) : Nat) : Int)))] := by
 refine zAR func114 rfl rfl rfl rfl ?_
 refine zAB (zAA rfl (.a rfl rfl (.a rfl rfl (.a rfl rfl .nil))) ?_)
 refine zAB (zAA rfl (.m rfl rfl (.r rfl (zAI (zAc (k' := .u32) 4294967296 rfl sd rfl rfl rfl underlying2 underlying69) ((zAG (show ((sd % 4294967296 : Nat) : Int) = ((sd : Nat) : Int) by omega)))) (.m rfl rfl (.run [1300] [] rfl (zAF rfl 1300 (X := []) en117 rfl (.val nod) (.cons (.one (.bor .v)) (.cons (.one (.bor .v)) .nil)) (by decide) all_nil .nil (zGP sd u (by omega)) rfl rfl (nle rfl)) (.a rfl rfl .nil))))) ?_)
 refine zAB ?_
 have hat := zO9 (h := zAj sd u) hm.1 hm.2
 refine zAQ (s' := mk [(2, .vi (m:Int)), (9, .p none (.v (.int .u64 ((zAj sd u : Nat) : Int))))] [] []) ?_ ?_
 · exact zAJ ⟨rfl, rfl, trivial⟩ trivial trivial rfl
 refine zAA rfl (.m rfl rfl (.r rfl (zBZ (zAj sd u) 32 rfl rfl rfl (by decide)) (.m rfl rfl (.r rfl (zAI (zBt rfl rfl rfl (by omega)) ((zAG (by omega)))) (.r rfl (zAI (zAc (k' := .u64) 18446744073709551616 rfl (m - 15) rfl rfl rfl underlying2 underlying58) ((zAG (show (((m - 15) % 18446744073709551616 : Nat) : Int) = ((m - 15 : Nat) : Int) by omega)))) (.r rfl (zAI (zB1 ((zAj sd u) / 2 ^ 32) (m - 15) rfl rfl rfl (by omega)) ((zAG (zPA (zAj sd u) m)))) (.r rfl (zBe rfl rfl underlying58 underlying2 (by omega)) (.m rfl rfl (.r rfl (zB1 (zAj sd u) 65536 rfl rfl rfl (by omega)) (.r rfl (zAI (zC2 (k := .u64) 18446744073709551616 rfl ((zAj sd u) % 65536) 1 rfl rfl rfl rfl) ((zAG (zMI (zAj sd u))))) (.m rfl rfl (.r rfl (zBZ (zAj sd u) 16 rfl rfl rfl (by decide)) (.r rfl (zAI (zB1 ((zAj sd u) / 2 ^ 16) 128 rfl rfl rfl (by omega)) ((zAG (zL5 (zAj sd u))))) (.a rfl rfl (.a rfl rfl (.a rfl rfl .nil)))))))))))))))) ?_
 refine zAK ?_
 exact ends [_, _, _] [] (.cons (.tmp rfl) (.cons (.tmp rfl) (.cons (.tmp rfl) .nil))) (.cons (.one .v (.v _)) (.cons (.one .v (.v _)) (.cons (.one .v (.v _)) .nil))) (by decide) trivial
theorem zK4 (u : ByteArray) (sd m : Nat) (hs : sd ≤ 3) (hm : 20 ≤ m ∧ m ≤ 600) (hu : u.size ≤ 9000000000000000000) : Con Tryz.prog 127 [.one (PV.v (.string u)), .one (PV.v (.int .i64 (sd:Int))), .one (PV.v (.int .i64 (m:Int)))] [] [.agg [.v (.int .i64 ((atN (zAj sd u) m : Nat) : Int)), .v (.int .u64 ((rowN (zAj sd u) : Nat) : Int)), .v (.int .u8 ((sumN (zAj sd u) : Nat) : Int))]] := by
 refine zAR func127 rfl rfl rfl rfl ?_
 refine zAB (zAA rfl (.run [] [6] rfl (zA7 rfl 6 zHf rfl (by decide) rfl (by decide)) .nil) ?_)
 refine zAB (zAA rfl (.m rfl rfl (.r rfl (zAI (zAc (k' := .u32) 4294967296 rfl sd rfl rfl rfl underlying2 underlying69) ((zAG (show ((sd % 4294967296 : Nat) : Int) = ((sd : Nat) : Int) by omega)))) (.m rfl rfl (.run [1100] [] rfl (zAF rfl 1100 (X := []) en133 rfl (.val nod) (.cons (.one (.bor .v)) (.cons (.one (.bor .v)) .nil)) (by decide) all_nil .nil (zIP sd u (by omega)) rfl rfl (nle rfl)) (.a rfl rfl .nil))))) ?_)
 refine zAB ?_
 have hat := zO9 (h := zAj sd u) hm.1 hm.2
 refine zAQ (s' := mk [(2, .vi (m:Int)), (6, .ptr 6 0), (7, .p none (.v (.int .u64 ((zAj sd u : Nat) : Int))))] [(6, [.vi 0, .p none (.v (.int .u64 0)), .p none (.v (.int .u8 0))])] []) ?_ ?_
 · exact zAJ ⟨rfl, rfl, rfl, trivial⟩ ⟨rfl, trivial⟩ trivial rfl
 refine zAA rfl (.m rfl rfl (.r rfl (zBZ (zAj sd u) 32 rfl rfl rfl (by decide)) (.m rfl rfl (.r rfl (zAI (zBt rfl rfl rfl (by omega)) ((zAG (by omega)))) (.r rfl (zAI (zAc (k' := .u64) 18446744073709551616 rfl (m - 15) rfl rfl rfl underlying3 underlying58) ((zAG (show (((m - 15) % 18446744073709551616 : Nat) : Int) = ((m - 15 : Nat) : Int) by omega)))) (.r rfl (zAI (zB1 ((zAj sd u) / 2 ^ 32) (m - 15) rfl rfl rfl (by omega)) ((zAG (zPA (zAj sd u) m)))) (.r rfl (zBe rfl rfl underlying58 underlying3 (by omega)) (.m rfl rfl (.r rfl (zFa (k := .u64) 18446744073709551616 rfl (zAj sd u) 65535 rfl rfl rfl rfl) (.r rfl (zAI (zC2 (k := .u64) 18446744073709551616 rfl (((zAj sd u) &&& 65535) % 18446744073709551616) 1 rfl rfl rfl rfl) ((zAG (zNh (zAj sd u))))) (.m rfl rfl (.r rfl (zBZ (zAj sd u) 16 rfl rfl rfl (by decide)) (.r rfl (zAI (zB1 ((zAj sd u) / 2 ^ 16) 128 rfl rfl rfl (by omega)) ((zAG (zL5 (zAj sd u))))) (.r rfl (zAI (zAc (k' := .u8) 256 rfl (sumN (zAj sd u)) rfl rfl rfl underlying58 underlying5) ((zAG (sumN_u8 (zAj sd u))))) (.r rfl (zAt (pl := [(0, 1), (1, 1), (2, 1)]) rfl underlying132 zHf (by kernel_rfl) rfl rfl) (.r rfl (zAN rfl rfl rfl rfl rfl sizeOf132 rfl (nle rfl)) .nil)))))))))))))))) ?_
 refine zAK ?_
 exact ends [_] [] (.cons (.cell rfl rfl isAgg132 sizeOf132 (nle rfl)) .nil) (.cons (.agg (.cons .v (.cons .v (.cons .v .nil))) (zAL (.v _) (zAL (.v _) (zAL (.v _) zBR)))) .nil) (by decide) trivial
theorem zIr (B : List Nat) (p r m : Nat) (hB : ∀ b ∈ B, b < 128) (hl : B.length = m) (hr : r < 65536) (hg : r < 2 ^ (m - p)) (hp : p ≤ m) (hm : m ≤ 600) : Con Tryz.prog 128 [.one (PV.sl false 1 (pvNb B)), .one (PV.v (.int .i64 (p:Int))), .one (PV.v (.int .u64 (r:Int)))] [] [.one (.v (.int .u8 ((solT B p r 16 : Nat) : Int)))] := by
 refine zAR func128 rfl rfl rfl rfl ?_
 refine zAB (zAA rfl (.a rfl rfl .nil) ?_)
 refine zAB (zAA rfl (.a rfl rfl .nil) ?_)
 refine zAB ?_
 refine zAS ?_
 refine zAo (σ := Nat) (fun j => mk [(0, .p none (.sl false 1 (pvNb B))), (1, .vi ((p + j : Nat) : Int)), (2, .p none (.v (.int .u64 ((r / 2 ^ j : Nat) : Int)))), (7, .p none (.v (.int .u8 ((solT B p r j : Nat) : Int))))] [] []) (fun j => j ≤ 16) (fun j => 16 - j) 0 (by simp) (zAJ ⟨rfl, (zAG (by omega)), (zAG (by rw [Nat.pow_zero, Nat.div_one])), rfl, trivial⟩ trivial trivial rfl) ?_
 rintro j hG
 replace hG : j ≤ 16 := hG
 have hj16 : r / 2 ^ j ≠ 0 → 0 + j < 16 := zMV (m := 16) (p := 0) hr
 have hjm : r / 2 ^ j ≠ 0 → p + j < m := zMV hg
 have hBv := zBK B
 refine zAB ?_
 refine zAB (zAA rfl (.m rfl rfl (.r rfl (zB8 rfl rfl rfl) .nil)) ?_)
 refine zAT (t := (!(decide (((r / 2 ^ j : Nat) : Int) = 0)))) rfl (fun h1 => ?_) (fun h1 => ?_)
 ·
  replace h1 : ¬ (((r / 2 ^ j : Nat) : Int) = 0) := of_decide_eq_false (zAp h1)
  refine zAM ?_
  refine zAB ?_
  refine zAS ?_
  refine zAB ?_
  refine zAB (zAA rfl (.m rfl rfl (.r rfl (zFa (k := .u64) 18446744073709551616 rfl (r / 2 ^ j) 1 rfl rfl rfl rfl) (.r rfl (zA9 rfl rfl rfl) .nil))) ?_)
  refine zAT (t := decide (((((r / 2 ^ j) &&& 1) % 18446744073709551616 : Nat) : Int) = 1)) rfl (fun h2 => ?_) (fun h2 => ?_)
  ·
   replace h2 := of_decide_eq_true h2
   have hpj := hjm (by have := bit_y h2; intro q; rw [q] at this; exact absurd this (by decide))
   obtain ⟨b, hb⟩ : ∃ b, B[p + j]? = some b := ⟨_, List.getElem?_eq_getElem (by omega)⟩
   refine zAA rfl (.m rfl rfl (.m rfl rfl (.m rfl rfl (.r rfl (zA8 rfl rfl rfl underlying22 sizeOf5 rfl (by omega) (zCT hb)) (.r rfl (zBP rfl rfl isAgg5 rfl) (.r rfl (zBw (k := .u8) 256 rfl (solT B p r j) b rfl rfl rfl rfl) (.a rfl rfl .nil))))))) ?_
   refine zAA rfl (.m rfl rfl (.r rfl (zAd rfl rfl rfl (by omega)) (.a rfl rfl .nil))) ?_
   refine zAQ (s' := mk [(0, .p none (.sl false 1 (pvNb B))), (1, .vi (((p + j : Nat) : Int) + 1)), (2, .p none (.v (.int .u64 ((r / 2 ^ j : Nat) : Int)))), (7, .p none (.v (.int .u8 ((((solT B p r j) ^^^ b) % 256 : Nat) : Int))))] [] []) ?_ ?_
   · exact zAJ ⟨rfl, rfl, rfl, rfl, trivial⟩ trivial trivial rfl
   refine zAA rfl (.m rfl rfl (.r rfl (zBZ (r / 2 ^ j) 1 rfl rfl rfl (by decide)) (.a rfl rfl .nil))) ?_
   refine nxt (Q := fun _ _ => False) (z := j) (j + 1) ?_ ?_ ?_
   ·
    show (j + 1) ≤ 16
    have := hj16 (by have := h1; intro q; rw [q] at this; exact absurd rfl this); omega
   ·
    show 16 - (j + 1) < 16 - j
    have := hj16 (by have := h1; intro q; rw [q] at this; exact absurd rfl this); omega
   · exact zAJ ⟨rfl, (zAG (by omega)), (zAG (by rw [Nat.pow_one, zFu])), (zAG (congrArg Nat.cast ((zNb hB (bit_y h2) hb).trans rfl))), trivial⟩ trivial trivial rfl
  ·
   replace h2 := of_decide_eq_false h2
   refine zAM ?_
   refine zAA rfl (.m rfl rfl (.r rfl (zAd rfl rfl rfl (by omega)) (.a rfl rfl .nil))) ?_
   refine zAA rfl (.m rfl rfl (.r rfl (zBZ (r / 2 ^ j) 1 rfl rfl rfl (by decide)) (.a rfl rfl .nil))) ?_
   refine nxt (Q := fun _ _ => False) (z := j) (j + 1) ?_ ?_ ?_
   ·
    show (j + 1) ≤ 16
    have := hj16 (by have := h1; intro q; rw [q] at this; exact absurd rfl this); omega
   ·
    show 16 - (j + 1) < 16 - j
    have := hj16 (by have := h1; intro q; rw [q] at this; exact absurd rfl this); omega
   · exact zAJ ⟨rfl, (zAG (by omega)), (zAG (by rw [Nat.pow_one, zFu])), (zAG (congrArg Nat.cast (zMA (bit_n h2)).symm)), trivial⟩ trivial trivial rfl
 ·
  replace h1 : ((r / 2 ^ j : Nat) : Int) = 0 := of_decide_eq_true (zAq h1)
  refine zAn ?_
  refine zAB (zAA rfl (.m rfl rfl (.a rfl rfl .nil)) ?_)
  refine zAK ?_
  exact ends [_] [] (.cons (.tmp (zAG (congrArg Nat.cast (zKa (Int.ofNat_eq_zero.1 h1) (by omega)).symm))) .nil) (.cons (.one .v (.v _)) .nil) (by decide) trivial
end Go.Rl

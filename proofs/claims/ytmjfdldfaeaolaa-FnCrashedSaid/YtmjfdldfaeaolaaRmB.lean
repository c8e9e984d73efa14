/- R, part 2B: a variable that nobody writes any more. -/
import Derived.Test.YtmjfdldfaeaolaaRmA
namespace Go.Rl
open Go.RowKit

mutual
def AV.frb (b : Nat) (ps : List PV) : AV → AV
  | .ptr c off => (match Nat.beq c b with
    | true => .fea none (ps.drop off)
    | false => .ptr c off)
  | .clo f [c] => (match Nat.beq c b with
    | true => .p none (.clo f [ps])
    | false => .clo f [c])
  | .clo f bs => if b ∈ bs then .undef else .clo f bs
  | .agg cs => .agg (AV.frbs b ps cs)
  | .tup cs => .tup (AV.frbs b ps cs)
  | x => x
def AV.frbs (b : Nat) (ps : List PV) : List AV → List AV
  | [] => []
  | a :: l => AV.frb b ps a :: AV.frbs b ps l
end
def St.frb (s : St) (b : Nat) (ps : List PV) : St := ⟨fun i => (s.t i).frb b ps, fun i => match Nat.beq i b with
  | true => none
  | false => (s.b i).map (AV.frbs b ps), s.r⟩
def Pl.frb (L : Pl) (b : Nat) : Pl := { L with Z := fun k => L.Z k ∨ k = L.β b, lab := fun k => if k = L.β b then none else L.lab k }
section
variable {w0 : World} {I : Fr} {n : Nat} {L : Pl} {s : St} {a : Act} {w : World} {b : Nat} {ps : List PV}
theorem frb_b {i : Nat} (hi : i ≠ b) : (s.frb b ps).b i = (s.b i).map (AV.frbs b ps) := by simp only [St.frb, beq_ne hi]
theorem frb_some {i : Nat} (hi : i ≠ b) (h : (s.b i).isSome) : ((s.frb b ps).b i).isSome := by rw [frb_b hi]; simpa using h
theorem frb_zd {d : Option Nat} : ∀ k, L.zd d k → (L.frb b).zd d k := fun _ hk => hk.imp .inl (fun h => h)
mutual
theorem AVR.frb (hc : ∀ (j : Nat) p, ps[j]? = some p → ∃ u, w.cell? ⟨L.β b, j, none⟩ = some u ∧ PVR L.Z w p u) : ∀ (av : AV) (v : Value), AVR L w s av v → AVR (L.frb b) w (s.frb b ps) (av.frb b ps) v
  | .undef, v, _ => by simp [AV.frb, AVR]
  | .p d x, v, hv => by
    simp only [AV.frb, AVR] at hv ⊢
    exact ⟨hv.1.mono (fun _ _ => rfl) frb_zd, hv.2⟩
  | .sl d lo len, v, hv => by
    simp only [AV.frb, AVR] at hv ⊢
    exact hv
  | .ptr c off, v, hv => by
    by_cases e : c = b
    · subst e
      simp only [AV.frb, Nat.beq_refl, AVR] at hv ⊢
      refine ⟨⟨_, off, hv.2, .inl (.inr rfl), fun j p hj => ?_⟩, fun _ h => by cases h⟩
      rw [List.getElem?_drop] at hj
      obtain ⟨u, hu, hq⟩ := hc _ p hj
      exact ⟨u, hu, hq.mono (fun _ _ => rfl) (fun k hk => .inl (.inl hk))⟩
    · simp only [AV.frb, beq_ne e, AVR] at hv ⊢
      exact ⟨frb_some e hv.1, hv.2⟩
  | .ea d i off, v, hv => by
    simp only [AV.frb, AVR] at hv ⊢
    exact hv
  | .fea d qs, v, hv => by
    simp only [AV.frb, AVR] at hv ⊢
    obtain ⟨⟨k, off, h1, h2, h3⟩, h4⟩ := hv
    exact ⟨⟨k, off, h1, frb_zd k h2, fun j p hj => by obtain ⟨u, hu, hq⟩ := h3 j p hj; exact ⟨u, hu, hq.mono (fun _ _ => rfl) frb_zd⟩⟩, h4⟩
  | .nils, v, hv => by simpa only [AV.frb, AVR] using hv
  | .sat A, v, hv => by simpa only [AV.frb, AVR] using hv
  | .clo f [], v, hv => by
    simp only [AV.frb, AVR] at hv ⊢
    simpa [AVR] using hv.2
  | .clo f [c], v, hv => by
    by_cases e : c = b
    · subst e
      simp only [AV.frb, Nat.beq_refl, AVR] at hv ⊢
      refine ⟨?_, fun _ h => by cases h⟩
      rw [hv.2]
      refine .clo f [ps] [L.β c] rfl (by simp; exact .inl (.inr rfl)) (fun i j => ((w.cell? ⟨L.β c, j, none⟩).getD undef)) (fun i j es k p h1 h2 h3 => ?_) (fun i j es p h1 h2 => ?_)
      · cases i with
        | zero =>
          simp at h1 h2
          subst h1 h2
          obtain ⟨u, hu, _⟩ := hc j p h3
          rw [hu]; rfl
        | succ i => simp at h1
      · cases i with
        | zero =>
          simp at h1
          subst h1
          obtain ⟨u, hu, hq⟩ := hc j p h2
          rw [hu]
          exact hq.mono (fun _ _ => rfl) (fun k hk => .inl (.inl hk))
        | succ i => simp at h1
    · simp only [AV.frb, beq_ne e, AVR] at hv ⊢
      exact ⟨fun x hx => by simp at hx; subst hx; exact frb_some e (hv.1 x (by simp)), hv.2⟩
  | .clo f (c :: c' :: bs), v, hv => by
    simp only [AV.frb]
    split
    · simp [AVR]
    · rename_i hn
      simp only [AVR] at hv ⊢
      exact ⟨fun x hx => frb_some (fun e => hn (e ▸ hx)) (hv.1 x hx), hv.2⟩
  | .agg cs, v, hv => by
    simp only [AV.frb, AVR] at hv ⊢
    obtain ⟨us, h1, h2⟩ := hv
    exact ⟨us, h1, AVRs.frb hc cs us h2⟩
  | .tup cs, v, hv => by
    simp only [AV.frb, AVR] at hv ⊢
    obtain ⟨us, h1, h2⟩ := hv
    exact ⟨us, h1, AVRs.frb hc cs us h2⟩
theorem AVRs.frb (hc : ∀ (j : Nat) p, ps[j]? = some p → ∃ u, w.cell? ⟨L.β b, j, none⟩ = some u ∧ PVR L.Z w p u) : ∀ (l : List AV) (us : List Value), AVRs L w s l us → AVRs (L.frb b) w (s.frb b ps) (AV.frbs b ps l) us
  | [], [], _ => by simp [AV.frbs, AVRs]
  | [], _ :: _, hv => by simp [AVRs] at hv
  | _ :: _, [], hv => by simp [AVRs] at hv
  | x :: l, u :: us, hv => by
    simp only [AV.frbs, AVRs] at hv ⊢
    exact ⟨AVR.frb hc x u hv.1, AVRs.frb hc l us hv.2⟩
end
end
/-- Nobody writes variable b any more. -/
theorem wk_frb {n : Nat} {s : St} (b : Nat) {cs : List AV} {ps : List PV} (hb : s.b b = some cs) (hp : AV.pvzs cs = some ps) : Wk n s (s.frb b ps) := by
  intro w0 I L ac w h
  obtain ⟨hlb, us0, ty0, hheap0, _, _⟩ := h.bx b cs hb
  have hc : ∀ (j : Nat) p, ps[j]? = some p → ∃ u, w.cell? ⟨L.β b, j, none⟩ = some u ∧ PVR L.Z w p u := fun j p hj => by
    obtain ⟨us, h1, h2⟩ := h.box hb
    obtain ⟨u, hu, hq⟩ := pvzs_ok hp h1 j p hj
    exact ⟨u, h2 j u hu, hq⟩
  have lab : ∀ {k l}, L.lab k = some l → l ≠ .box b → (L.frb b).lab k = some l := fun {k l} hk hl => by
    simp only [Pl.frb]
    rw [if_neg (fun hx => hl (by rw [hx, hlb] at hk; cases hk; rfl)), hk]
  refine ⟨L.frb b, h.same, fun k hk => ?_, fun k l hk => ?_, h.sz, h.df, fun i => (h.tm i).frb hc _ _, fun i cs' hc' => ?_, fun i sz' xs' hx => ?_, fun i hi hx => h.pr i hi hx, fun i hi hx => ?_, fun k hk => ?_⟩
  · simp only [Pl.frb] at hk ⊢
    rcases hk with hk | rfl
    · exact ⟨(h.zlt k hk).1, by split; rfl; exact (h.zlt k hk).2⟩
    · exact ⟨(h.llt _ _ hlb).1, by rw [if_pos rfl]⟩
  · simp only [Pl.frb] at hk
    split at hk
    · cases hk
    · exact h.llt k l hk
  · have hne : i ≠ b := fun e => by subst e; simp [St.frb] at hc'
    rw [frb_b hne] at hc'
    obtain ⟨cs0, h0, rfl⟩ := Option.map_eq_some_iff.1 hc'
    obtain ⟨h1, us, ty, h2, h3, h4⟩ := h.bx i cs0 h0
    exact ⟨lab h1 (by simpa using hne), us, ty, h2, h3.frb hc _ _, h4⟩
  · obtain ⟨h1, h2, h3⟩ := h.rw i sz' xs' hx
    exact ⟨h1.up (fun _ h => .inl h), h2, fun k hk => lab (h3 k hk) (by simp)⟩
  · have hne : i ≠ b := fun e => by subst e; simp [St.frb] at hx
    rw [frb_b hne] at hx
    exact h.pb i hi (by simpa using hx)
  · simp only [Pl.frb] at hk
    rcases hk with hk | rfl
    · exact h.zi k hk
    · exact .inr (h.llt _ _ hlb).2

/-! #### promises whose results share memory -/
/-- The promise: f, called with args, gives back res, which may share what nobody writes. -/
def ConS (P : Program) (f : FuncId) (args : List PA) (res : List PA) : Prop :=
  ∀ Z w vs E, PASs Z w args vs E → (∀ k, Z k → k < w.heap.size ∧ k ∉ Leaf.all E) → (Leaf.all E).Nodup → (∀ k ∈ Leaf.all E, k < w.heap.size) → Calls P f ⟨vs⟩ w fun e w' => ∃ v F Z', e = .returned v ∧ Same (Leaf.all E) w w' ∧
    RES Z' w' res v F ∧ (Leaf.all F).Nodup ∧ (∀ k ∈ Leaf.all F, w.heap.size ≤ k ∨ k ∈ Leaf.all E) ∧ (∀ k, Z k → Z' k) ∧ ∀ k, Z' k → k < w'.heap.size ∧ k ∉ Leaf.all F ∧ (Z k ∨ w.heap.size ≤ k ∨ k ∈ Leaf.all E)

/-- What can be given back where it may be shared. -/
inductive GvS (s : St) : AV → PV → List Nat → Prop where
  | of {av : AV} {p : PV} {K : List Nat} (g : Gv s av p K) : GvS s av p K
  | nilf (sz : Nat) : GvS s .nils (.sl false sz []) []
inductive GvSs (s : St) : List AV → List PV → List Nat → Prop where
  | nil : GvSs s [] [] []
  | cons {a : AV} {p : PV} {K : List Nat} {l : List AV} {ps : List PV} {K' : List Nat} (h : GvS s a p K) (t : GvSs s l ps K') : GvSs s (a :: l) (p :: ps) (K ++ K')
inductive GPaS (s : St) : AV → PA → List Nat → Prop where
  | one {av : AV} {p : PV} {K : List Nat} (g : GvS s av p K) : GPaS s av (.one p) K
  | agg {cs : List AV} {ps : List PV} {K : List Nat} (g : GvSs s cs ps K) : GPaS s (.agg cs) (.agg ps) K
inductive GPasS (s : St) : List AV → List PA → List Nat → Prop where
  | nil : GPasS s [] [] []
  | cons {av : AV} {p : PA} {K : List Nat} {avs : List AV} {ps : List PA} {K' : List Nat} (h : GPaS s av p K) (t : GPasS s avs ps K') : GPasS s (av :: avs) (p :: ps) (K ++ K')
def EndsS (P : Program) (rs : List ResultVar) (res : List PA) (s : St) : Prop :=
  ∃ avs K, RvAs P s rs avs ∧ GPasS s avs res K ∧ K.Nodup
def RetS (P : Program) (rs : List ResultVar) (res : List PA) : Exit → St → Prop
  | .normal, s => EndsS P rs res s
  | .ret, s => EndsS P rs res s
  | _, _ => False
section
variable {w0 : World} {I : Fr} {n : Nat} {L : Pl} {s : St} {a : Act} {w : World}
theorem Gv.ps (h : Rel w0 I n L s a w) {av : AV} {p : PV} {K : List Nat} (g : Gv s av p K) {v : Value} (hv : AVR L w s av v) : ∃ F, PS L.Z w p v F ∧ Leaf.all F = K.flatMap L.ν := by
  have := g.ok h hv
  cases p with
  | v x =>
    have hK : K = [] := by cases g; rfl
    subst hK
    exact ⟨[], .nf rfl (by simpa using this), rfl⟩
  | sl o sz xs =>
    cases o with
    | true => exact ⟨_, .own this, by simp [Leaf.all]⟩
    | false =>
      have hK : K = [] := by cases g; rfl
      subst hK
      exact ⟨[], .nf rfl (by simpa using this), rfl⟩
  | clo f xs =>
    have hK : K = [] := by cases g; rfl
    subst hK
    exact ⟨[], .nf rfl (by simpa using this), rfl⟩
theorem GvS.ps (h : Rel w0 I n L s a w) {av : AV} {p : PV} {K : List Nat} (g : GvS s av p K) {v : Value} (hv : AVR L w s av v) : ∃ F, PS L.Z w p v F ∧ Leaf.all F = K.flatMap L.ν := by
  cases g with
  | of g => exact g.ps h hv
  | nilf sz =>
    simp only [AVR] at hv
    obtain ⟨A, rfl⟩ := hv
    exact ⟨[], .nf rfl (.fro _ _ _ (.emp _ _ _ _)), rfl⟩
theorem GPaS.ok (h : Rel w0 I n L s a w) {av : AV} {p : PA} {K : List Nat} (g : GPaS s av p K) {v : Value} (hv : AVR L w s av v) : ∃ F, PAS L.Z w p v F ∧ Leaf.all F = K.flatMap L.ν := by
  cases g with
  | one g =>
    obtain ⟨F, h1, h2⟩ := g.ps h hv
    exact ⟨F, .one h1, h2⟩
  | agg g =>
    rename_i cs ps
    simp only [AVR] at hv
    obtain ⟨us, rfl, hv⟩ := hv
    have : ∀ {cs ps K us}, GvSs s cs ps K → AVRs L w s cs us → ∃ F, PSs L.Z w ps us F ∧ Leaf.all F = K.flatMap L.ν := fun {cs ps K us} g => by
      induction g generalizing us with
      | nil =>
        intro hv
        cases us with
        | nil => exact ⟨[], .nil, rfl⟩
        | cons _ _ => simp [AVRs] at hv
      | cons g _ ih =>
        intro hv
        cases us with
        | nil => simp [AVRs] at hv
        | cons u us =>
          simp only [AVRs] at hv
          obtain ⟨F, h1, h2⟩ := g.ps h hv.1
          obtain ⟨F', h3, h4⟩ := ih hv.2
          exact ⟨F ++ F', .cons h1 h3, by simp only [Leaf.all, List.flatMap_append] at h2 h4 ⊢; rw [h2, h4]⟩
    obtain ⟨F, h1, h2⟩ := this g hv
    exact ⟨F, .agg h1, h2⟩
theorem GPasS.ok (h : Rel w0 I n L s a w) {avs : List AV} {ps : List PA} {K : List Nat} (g : GPasS s avs ps K) : ∀ {us : List Value} (_ : AVRs L w s avs us), ∃ F, PASs L.Z w ps us F ∧ Leaf.all F = K.flatMap L.ν := by
  induction g with
  | nil =>
    intro us hv
    cases us with
    | nil => exact ⟨[], .nil, rfl⟩
    | cons _ _ => simp [AVRs] at hv
  | cons g _ ih =>
    intro us hv
    cases us with
    | nil => simp [AVRs] at hv
    | cons u us =>
      simp only [AVRs] at hv
      obtain ⟨F, h1, h2⟩ := g.ok h hv.1
      obtain ⟨F', h3, h4⟩ := ih hv.2
      exact ⟨F ++ F', .cons h1 h3, by simp only [Leaf.all, List.flatMap_append] at h2 h4 ⊢; rw [h2, h4]⟩
theorem Gv.rows {av : AV} {p : PV} {K : List Nat} (g : Gv s av p K) : ∀ i ∈ K, (s.r i).isSome := by
  intro i hi
  cases g with
  | row hr hl => simp at hi; subst hi; rw [hr]; rfl
  | pre hr hl hn => simp at hi; subst hi; rw [hr]; rfl
  | _ => simp at hi
theorem GvS.rows {av : AV} {p : PV} {K : List Nat} (g : GvS s av p K) : ∀ i ∈ K, (s.r i).isSome := by
  cases g with
  | of g => exact g.rows
  | nilf sz => simp
theorem GvSs.rows {l : List AV} {ps : List PV} {K : List Nat} (g : GvSs s l ps K) : ∀ i ∈ K, (s.r i).isSome := by
  induction g with
  | nil => simp
  | cons g _ ih =>
    intro i hi
    rcases List.mem_append.1 hi with hi | hi
    · exact g.rows i hi
    · exact ih i hi
theorem GPasS.rows {avs : List AV} {ps : List PA} {K : List Nat} (g : GPasS s avs ps K) : ∀ i ∈ K, (s.r i).isSome := by
  induction g with
  | nil => simp
  | cons g _ ih =>
    intro i hi
    rcases List.mem_append.1 hi with hi | hi
    · cases g with
      | one g => exact g.rows i hi
      | agg g => exact g.rows i hi
    · exact ih i hi
end
end Go.Rl

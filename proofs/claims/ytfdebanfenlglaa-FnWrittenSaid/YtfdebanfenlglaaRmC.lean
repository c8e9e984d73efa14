/- Promises of functions, proved by walks over their operations; no conditions beyond those that each theorem states. -/
import Derived.Test.YtfdebanfenlglaaReD
import Derived.RangeFuncBox
import Derived.RangeFuncLeaves
import Derived.Shelf.Abstract
import Derived.WalkKit
import Derived.OwnWalkIn
import Derived.TacticsInMore
import Derived.LoopNIn
import Derived.LoopIn
import Derived.Test.YtfdebanfenlglaaProg
import Derived.Test.YtfdebanfenlglaaRlS
set_option linter.unusedSimpArgs false
set_option linter.unusedVariables false
namespace Go.Rl
open Go.RowKit
/-- What the body does is what the function promises. -/
theorem con_of_trS {P : Program} {f : FuncId} {fn : Func} {c : Code} {rs : List ResultVar} {args : List PA} {res : List PA} (hf : P.funcs[f]? = some fn) (hb : fn.body = some c) (hrs : fn.results = rs.toArray) (hn' : Nat.ble args.length fn.ntmps = true) (hsz' : args.all (fun p => Nat.ble p.size pinT) = true)
    (h : Tr none P fn.ntmps c (initS args) (RetS P rs res)) : ConS P f args res := by
  intro Z w vs E hp hZ hnd hlt
  have hn : args.length ≤ fn.ntmps := Nat.le_of_ble_eq_true hn'
  have hsz : ∀ p ∈ args, p.size ≤ pinT := fun p hp => Nat.le_of_ble_eq_true ((List.all_eq_true.1 hsz') p hp)
  refine calls_of_wp hf hb ?_
  have hlen : vs.length = args.length := by
    clear h hn hsz hn' hsz' hZ hnd hlt
    induction hp with
    | nil => rfl
    | cons _ _ ih => simp [ih]
  have hown0 := owns_in (step := fun _ => pinT) args pinT hsz
  have hpins : PinE (mkρ (owns (fun _ => pinT) pinT args) E) (owns (fun _ => pinT) pinT args) E := mkρ_ok hown0.1
  let I : Fr := ⟨Leaf.all E, mkρ (owns (fun _ => pinT) pinT args) E, fun _ => 0, Z, []⟩
  let a : Act := { tmps := (⟨vs⟩ : Array Value) ++ Array.replicate (fn.ntmps - (⟨vs⟩ : Array Value).size) undef, defers := [] }
  let L0 : Pl := ⟨Z, fun _ => 0, fun _ => undef, fun _ => [], fun _ => none⟩
  have hasz : a.tmps.size = fn.ntmps := by simp [a]; omega
  have h0 : Rel w I fn.ntmps L0 ⟨fun _ => .undef, fun _ => none, fun _ => none⟩ a w :=
    ⟨Same.refl _ w, fun k hk => ⟨(hZ k hk).1, rfl⟩, fun k l hk => by simp [L0] at hk, hasz, rfl, fun i => by simp [AVR], fun i cs hc => by simp at hc, fun i sz xs hx => by simp at hx, fun i _ hx => by simp at hx, fun i _ hx => by simp at hx, fun k hk => .inl hk⟩
  obtain ⟨L1, t1, a1⟩ := takeAs (step := fun _ => pinT) (id := pinT) h0 (vs := vs) (F := E) hp (fun k hk => ⟨rfl, fun hz => (hZ k hz).2 hk, .inr hk⟩) hnd hsz (fun _ _ _ => rfl) (.inr hpins)
  have h1 : Rel w I fn.ntmps L1 (initS args) a w := by
    refine ⟨t1.rel.same, t1.rel.zlt, t1.rel.llt, hasz, rfl, fun i => ?_, fun i cs hc => by simp [initS] at hc, fun i sz xs hx => t1.rel.rw i sz xs hx, t1.rel.pr, t1.rel.pb, t1.rel.zi⟩
    have hmv : Moves [] L1 L1 w w { t := fun _ => .undef, b := fun _ => none, r := setRs (fun _ => none) (pRowss (fun _ => pinT) pinT args) } (initS args) := ⟨fun k hk => ⟨hk, rfl⟩, fun _ k _ _ hk => ⟨.inr hk, rfl⟩, fun b hb => ⟨hb, rfl⟩, fun i sz xs _ hx => ⟨xs, hx, rfl, rfl⟩⟩
    simp only [initS]
    rw [lkL_get]
    cases hi : (pAVs (fun _ => pinT) pinT args)[i]? with
    | none => simp [AVR]
    | some av =>
      obtain ⟨u, hu, hr⟩ := a1.get i av hi
      have hui : a.tmps.getD i undef = u := by
        have hlt := (List.getElem?_eq_some_iff.1 hu).1
        have : a.tmps[i]? = some u := by
          simp only [a]
          rw [Array.getElem?_append_left (by simpa using hlt)]
          simpa using hu
        simp [this]
      rw [hui]
      exact hr.move0 hmv
  refine wp_mono (h w I L1 a w (gh_none _ _) h1) (fun e a' w' ⟨s', L', hq, hr⟩ => ?_)
  have fin : EndsS P rs res s' → a'.defers = [] ∧ ∃ v, (results fn a'.tmps).run P w' = .ok v w' ∧ ∃ v' F Z', Ending.returned v = .returned v' ∧ Same (Leaf.all E) w w' ∧
      RES Z' w' res v' F ∧ (Leaf.all F).Nodup ∧ (∀ k ∈ Leaf.all F, w.heap.size ≤ k ∨ k ∈ Leaf.all E) ∧ (∀ k, Z k → Z' k) ∧ ∀ k, Z' k → k < w'.heap.size ∧ k ∉ Leaf.all F ∧ (Z k ∨ ((w.heap.size ≤ k ∨ k ∈ Leaf.all E) ∧ Cl w' k)) := by
    rintro ⟨avs, K, hrv, hg, hKn⟩
    obtain ⟨us, hrun, hav⟩ := hrv.ok hr
    obtain ⟨F, hF, hFK⟩ := hg.ok hr hav
    have hrl := hF.length
    have hres := run_results hrs hrun
    have hfk : ∀ k ∈ Leaf.all F, ∃ j ∈ K, L'.lab k = some (.row j) := fun k hk => by
      rw [hFK] at hk
      exact (hr.nodup hKn hg.rows).2 k hk
    refine ⟨hr.df, _, hres, _, F, fun k => Z k ∨ L'.Z k, rfl, hr.same, ?_, by rw [hFK]; exact (hr.nodup hKn hg.rows).1, fun k hk => ?_, fun k hk => .inl hk, fun k hk => ?_⟩
    · refine RES.up (Z := L'.Z) ?_ (fun _ h => .inr h)
      split
      · rename_i h1
        cases hF with
        | nil => simp at h1
        | cons hF1 hF2 =>
          cases hF2 with
          | nil => rw [List.append_nil]; exact .one hF1
          | cons _ _ => simp at h1
      · rename_i h1
        exact .more (by rw [hrl]; exact h1) hF
    · obtain ⟨j, _, hl⟩ := hfk k hk
      exact (hr.llt k _ hl).2
    · rcases hk with hk | hk
      · refine ⟨Nat.lt_of_lt_of_le (hZ k hk).1 hr.same.size, fun hx => ?_, .inl hk⟩
        obtain ⟨j, _, hl⟩ := hfk k hx
        rcases (hr.llt k _ hl).2 with h2 | h2
        · have := (hZ k hk).1; omega
        · exact (hZ k hk).2 h2
      · refine ⟨(hr.zlt k hk).1, fun hx => ?_, hr.zi k hk⟩
        obtain ⟨j, _, hl⟩ := hfk k hx
        rw [(hr.zlt k hk).2] at hl
        cases hl
  cases e with
  | normal => exact fin hq
  | ret => exact fin hq
  | _ => exact hq.elim

inductive CellZ (s : St) : AV → PV → List Nat → Prop where
  | v {d : Option Nat} {x : Value} : CellZ s (.p d (.v x)) (.v x) []
  | sl {o : Bool} {sz : Nat} {xs : List (List PV)} : CellZ s (.p none (.sl o sz xs)) (.sl false sz xs) []
  | cl {f : Nat} {xs : List (List PV)} : CellZ s (.p none (.clo f xs)) (.clo f xs) []
  | nil (sz : Nat) : CellZ s .nils (.sl false sz []) []
  | own {id len sz : Nat} {xs : List (List PV)} (hr : s.r id = some (sz, xs)) (hl : len = xs.length) : CellZ s (.sl id 0 len) (.sl true sz xs) [id]
inductive CellZs (s : St) : List AV → List PV → List Nat → Prop where
  | nil : CellZs s [] [] []
  | cons {av : AV} {p : PV} {K : List Nat} {l : List AV} {ps : List PV} {K' : List Nat} (h : CellZ s av p K) (t : CellZs s l ps K') : CellZs s (av :: l) (p :: ps) (K ++ K')
inductive ArgZ (s : St) : AV → PA → List Nat → Prop where
  | one {av : AV} {p : PV} {K : List Nat} (h : CellZ s av p K) : ArgZ s av (.one p) K
  | agg {cs : List AV} {ps : List PV} {K : List Nat} (h : CellZs s cs ps K) : ArgZ s (.agg cs) (.agg ps) K
  | fea {ps : List PV} : ArgZ s (.fea none ps) (.fbox ps) []
  | rptr {id sz : Nat} {ps : List PV} (hr : s.r id = some (sz, [ps])) : ArgZ s (.ea id 0 0) (.rptr sz ps) [id]
inductive ArgZs (s : St) : List AV → List PA → List Nat → Prop where
  | nil : ArgZs s [] [] []
  | cons {av : AV} {p : PA} {K : List Nat} {l : List AV} {ps : List PA} {K' : List Nat} (h : ArgZ s av p K) (t : ArgZs s l ps K') : ArgZs s (av :: l) (p :: ps) (K ++ K')
theorem CellZ.mono {s s' : St} (h : Less s s') {av : AV} {p : PV} {K : List Nat} (g : CellZ s av p K) : CellZ s' av p K := by
  cases g with
  | v => exact .v
  | sl => exact .sl
  | cl => exact .cl
  | nil sz => exact .nil sz
  | own hr hl => exact .own (h.r _ _ hr) hl
theorem CellZs.mono {s s' : St} (h : Less s s') {l : List AV} {ps : List PV} {K : List Nat} (g : CellZs s l ps K) : CellZs s' l ps K := by
  induction g with
  | nil => exact .nil
  | cons g _ ih => exact .cons (g.mono h) ih
theorem ArgZs.mono {s s' : St} (h : Less s s') {l : List AV} {ps : List PA} {K : List Nat} (g : ArgZs s l ps K) : ArgZs s' l ps K := by
  induction g with
  | nil => exact .nil
  | cons g _ ih =>
    refine .cons ?_ ih
    cases g with
    | one g => exact .one (g.mono h)
    | agg g => exact .agg (g.mono h)
    | fea => exact .fea
    | rptr hr => exact .rptr (h.r _ _ hr)
section
variable {w0 : World} {I : Fr} {n : Nat} {L : Pl} {s : St} {a : Act} {w : World}
theorem zd_none : ∀ k, L.zd none k → L.Z k := fun k hk => hk.elim (fun h => h) (fun ⟨_, h, _⟩ => by cases h)
theorem CellZ.ok (h : Rel w0 I n L s a w) {av : AV} {p : PV} {K : List Nat} (g : CellZ s av p K) {v : Value} (hv : AVR L w s av v) : PS L.Z w p v (K.map (lf L s)) := by
  cases g with
  | v => simp only [AVR] at hv; have h1 := hv.1; cases h1; exact .nf rfl (.v _ ‹_›)
  | sl => simp only [AVR] at hv; exact .nf rfl (((hv.1.flag false).mono (fun _ _ => rfl) zd_none).nfO rfl)
  | cl => simp only [AVR] at hv; exact .nf rfl ((hv.1.mono (fun _ _ => rfl) zd_none).nfO rfl)
  | nil sz => simp only [AVR] at hv; obtain ⟨A, rfl⟩ := hv; exact .nf rfl (.fro _ _ _ (.emp _ _ _ _))
  | own hr hl =>
    rename_i id len sz xs
    simp only [AVR] at hv
    obtain ⟨sz', xs', e1, e2, e3⟩ := hv
    rw [hr] at e1
    cases e1
    have hp := (h.rw _ _ _ hr).1
    have := view_whole e3 (fun A n c e => (pvo_own_len hp A n c e).trans hl.symm)
    subst this
    have hs : lf L s id = ⟨L.ρ id, L.ν id, sz⟩ := by simp [lf, hr]
    simp only [List.map_cons, List.map_nil, hs]
    exact .own hp
theorem CellZs.ok (h : Rel w0 I n L s a w) {l : List AV} {ps : List PV} {K : List Nat} (g : CellZs s l ps K) : ∀ {us : List Value} (_ : AVRs L w s l us), PSs L.Z w ps us (K.map (lf L s)) := by
  induction g with
  | nil =>
    intro us hv
    cases us with
    | nil => exact .nil
    | cons _ _ => simp [AVRs] at hv
  | cons g _ ih =>
    intro us hv
    cases us with
    | nil => simp [AVRs] at hv
    | cons u us =>
      simp only [AVRs] at hv
      rw [List.map_append]
      exact .cons (g.ok h hv.1) (ih hv.2)
theorem ArgZs.ok (h : Rel w0 I n L s a w) {l : List AV} {ps : List PA} {K : List Nat} (g : ArgZs s l ps K) : ∀ {us : List Value} (_ : AVRs L w s l us), PASs L.Z w ps us (K.map (lf L s)) := by
  induction g with
  | nil =>
    intro us hv
    cases us with
    | nil => exact .nil
    | cons _ _ => simp [AVRs] at hv
  | cons g _ ih =>
    intro us hv
    cases us with
    | nil => simp [AVRs] at hv
    | cons u us =>
      simp only [AVRs] at hv
      rw [List.map_append]
      refine .cons ?_ (ih hv.2)
      have h1 := hv.1
      cases g with
      | one g => exact .one (g.ok h h1)
      | agg g =>
        simp only [AVR] at h1
        obtain ⟨us, rfl, h1⟩ := h1
        exact .agg (g.ok h h1)
      | fea =>
        simp only [AVR] at h1
        obtain ⟨⟨k, off, rfl, hk, hc⟩, _⟩ := h1
        exact .fbox (zd_none k hk) (fun j p hj => by obtain ⟨u, hu, hq⟩ := hc j p hj; exact ⟨u, hu, hq.mono (fun _ _ => rfl) zd_none⟩)
      | rptr hr =>
        rename_i id sz ps
        simp only [AVR] at h1
        obtain ⟨sz', xs', k, m, c, e1, e2, e3, rfl⟩ := h1
        rw [hr] at e1
        cases e1
        have hp := (h.rw _ _ _ hr).1
        have hm := pvo_own_len hp _ _ _ e3
        simp only [List.length_cons, List.length_nil] at hm
        subst hm
        have hs : lf L s id = ⟨L.ρ id, L.ν id, sz⟩ := by simp [lf, hr]
        simp only [List.map_cons, List.map_nil, hs, Nat.zero_mul, Nat.add_zero]
        rw [e3] at hp ⊢
        exact .rptr hp
/-- More that nobody writes. -/
theorem Rel.widen (h : Rel w0 I n L s a w) (Z2 : Nat → Prop) (hz : ∀ k, Z2 k → k < w.heap.size ∧ L.lab k = none ∧ (I.Z k ∨ ((w0.heap.size ≤ k ∨ k ∈ I.I) ∧ Cl w k))) : Rel w0 I n { L with Z := fun k => L.Z k ∨ Z2 k } s a w := by
  have hm : Moves [] L { L with Z := fun k => L.Z k ∨ Z2 k } w w s s := ⟨fun k hk => ⟨.inl hk, rfl⟩, fun _ k _ _ hk => ⟨.inr hk, rfl⟩, fun b hb => ⟨hb, rfl⟩, fun i sz xs _ hx => ⟨xs, hx, rfl, rfl⟩⟩
  refine ⟨h.same, fun k hk => hk.elim (h.zlt k) (fun hk => ⟨(hz k hk).1, (hz k hk).2.1⟩), h.llt, h.sz, h.df, fun i => (h.tm i).move0 hm, fun i cs hc => ?_, fun i sz xs hx => ?_, h.pr, h.pb, fun k hk => hk.elim (h.zi k) (fun hk => (hz k hk).2.2)⟩
  · obtain ⟨h1, us, ty, h2, h3, h4⟩ := h.bx i cs hc
    exact ⟨h1, us, ty, h2, h3.move0 hm, h4⟩
  · obtain ⟨h1, h2, h3⟩ := h.rw i sz xs hx
    exact ⟨h1.up (fun _ h => .inl h), h2, h3⟩
end
section
variable {γ : Gho} {P : Program} {n : Nat} {o : Oper} {M B : List Nat} {s : St}
theorem st_callS {x : Operand} {args : List Operand} {ats : Array TypeId} (ho : o.op = .call { callee := .value x, args := args.toArray, argTypes := ats }) (rid : Nat) {f : FuncId} {pas : List PA} {X : List Nat} {res : List PA} {d : Option Nat}
    (hE : ∀ xs w, (callFunc f xs).run P w = .ok (.enter f xs) w) (hx : s.ev x = .p d (.clo f [])) (ha : ArgZs (s.only M B) (args.map s.ev) pas X) (hXn : X.Nodup) (hXM : ∀ i ∈ X, ((s.only M B).r i).isSome = true) (hcon : ConS P f pas res)
    (hf' : freshB s M rid (pSize PA.size res) = true) (hpin : rid + pSize PA.size res ≤ pinT) : StepD γ P n o M B s { put := resAV rid res, kill := X, setR := pRowss PA.size rid res } := by
  intro s' ag hd w0 I L a w hG hr KK Q hK
  have hf := freshN hf'
  have hon := only_ag ag
  rw [← hon] at ha hXM
  have hl := only_less s' M B
  have hX : ∀ i ∈ X, (s'.r i).isSome := fun i hi => by
    obtain ⟨y, hy⟩ := Option.isSome_iff_exists.1 (hXM i hi)
    rw [hl.r i y hy]; rfl
  have hev : args.map s'.ev = args.map s.ev := List.map_congr_left (fun y hy => ag.ev1 ho (by simp [Op.operands, Call.operands, hy]))
  have hxv := hr.ev x
  rw [ag.ev1 ho (by simp [Op.operands, Call.operands]), hx] at hxv
  have e1 : a.eval x = .func (.func f) #[] ⟨[]⟩ := by
    simp only [AVR] at hxv
    generalize a.eval x = u at hxv
    obtain ⟨hq, _⟩ := hxv
    cases hq with
    | clo _ _ ks hl _ _ _ _ =>
      cases ks with
      | nil => rfl
      | cons _ _ => simp at hl
  have e3 := (ha.mono hl).ok hr (by rw [← hev]; exact evs_of hr args)
  have hall : Leaf.all (X.map (lf L s')) = X.flatMap L.ν := by simp [Leaf.all, List.flatMap_map, lf]
  obtain ⟨hnd, hlab⟩ := hr.nodup hXn hX
  unfold Oper.wp
  rw [run_call ho e1 hE, Oper.upon_enter, List.append_nil]
  refine (hcon L.Z w _ _ e3 (fun k hk => ⟨(hr.zlt k hk).1, fun hx => by rw [hall] at hx; obtain ⟨i, _, hl⟩ := hlab k hx; rw [(hr.zlt k hk).2] at hl; cases hl⟩) (by rw [hall]; exact hnd) (fun k hk => by rw [hall] at hk; obtain ⟨i, _, hl⟩ := hlab k hk; exact (hr.llt k _ hl).1)).mono (fun e w' hp => ?_)
  obtain ⟨v, F, Z', rfl, hsame, hres, hFn, hFk, hZZ, hZ'⟩ := hp
  rw [hall] at hsame hFk hZ'
  have hc1 := hr.call1 X [] (fun i hi => hX i (by simpa using hi)) (r' := (s'.kill X).r) (by simpa using hsame) (fun i sz xs' hi => by
    simp only [St.kill] at hi
    split at hi
    · cases hi
    · rename_i hn
      exact .inl ⟨hi, hn, by simp⟩) (fun i sz xs hn hi => ⟨xs, by simp only [St.kill]; rw [if_neg hn]; exact hi⟩)
  have hlabn : ∀ k, (w.heap.size ≤ k ∨ k ∈ X.flatMap L.ν) → (if k ∈ X.flatMap L.ν then none else L.lab k) = none := fun k hk => by
    split
    · rfl
    · rename_i hn
      rcases hk with hk | hk
      · cases e : L.lab k with
        | none => rfl
        | some l => have := (hr.llt k l e).1; omega
      · exact absurd hk hn
  have hIw : ∀ k, (w.heap.size ≤ k ∨ k ∈ X.flatMap L.ν) → w0.heap.size ≤ k ∨ k ∈ I.I := fun k hk => by
    rcases hk with hk | hk
    · exact .inl (Nat.le_trans hr.same.size hk)
    · obtain ⟨i, _, hl⟩ := hlab k hk
      exact (hr.llt k _ hl).2
  have hc2 := hc1.widen Z' (fun k hk => by
    obtain ⟨g1, g2, g3⟩ := hZ' k hk
    rcases g3 with g3 | ⟨g3, hcl⟩
    · refine ⟨g1, ?_, (hr.zi k g3).imp id (fun h2 => ⟨h2.1, h2.2.of (hsame.block k (hr.zlt k g3).1 (fun hx => by obtain ⟨i, _, hl⟩ := hlab k hx; rw [(hr.zlt k g3).2] at hl; cases hl))⟩)⟩
      have := (hr.zlt k g3).2
      simp only [this, ite_self]
    · exact ⟨g1, hlabn k g3, .inr ⟨hIw k g3, hcl⟩⟩)
  have hfr : ∀ i, rid ≤ i → i < rid + pSize PA.size res → s'.r i = none := fun i h1 h2 => by
    obtain ⟨h3, h4⟩ := hf.get i h1 h2
    exact (ag.m i h3).trans h4
  obtain ⟨L', hrel, hav⟩ := takeR (id := rid) hc2 (hres.up (fun _ h => .inr h)) (fun k hk => by
    refine ⟨hlabn k (hFk k hk), fun hz => ?_, hIw k (hFk k hk)⟩
    rcases hz with hz | hz
    · exact (hZ' k (hZZ k hz)).2.1 hk
    · exact (hZ' k hz).2.1 hk) hFn (fun i h1 h2 => by
    simp only [St.kill]
    split
    · rfl
    · exact hfr i h1 h2) hpin
  have hfin := hrel.put hd hav
  exact hK _ _ _ (by rw [Dl.app, killd_rec]; exact hfin)
end
theorem endsS {P : Program} {s : St} {rs : List ResultVar} {res : List PA} (avs : List AV) (K : List Nat) (h1 : RvAs P s rs avs) (h2 : GPasS s avs res K) (h3 : K.Nodup) : RetS P rs res .ret s := ⟨avs, K, h1, h2, h3⟩
end Go.Rl
namespace Go.Rl
open Go.RowKit
/-- Whether a block lies in what was handed over for good. -/
def InE (E : List Leaf) (outs : List (Option (List (List PV)))) (k : Nat) : Prop := ∃ (i : Nat) (lf : Leaf), E[i]? = some lf ∧ k ∈ lf.N ∧ ∀ xs', outs[i]? = some (some xs') → k ∈ lf.N.tail
/-- The promise: f, called with args, gives back res, which may share what nobody writes; of the rows that it was handed the i-th has outs i. -/
def ConSG (γ : Gho) (P : Program) (f : FuncId) (args : List PA) (outs : List (Option (List (List PV)))) (res : List PA) : Prop :=
  ∀ Z w vs E, Gh γ w (Leaf.all E) → PASs Z w args vs E → (∀ k, Z k → k < w.heap.size ∧ k ∉ Leaf.all E) → (Leaf.all E).Nodup → (∀ k ∈ Leaf.all E, k < w.heap.size) → Calls P f ⟨vs⟩ w fun e w' => ∃ v F Z', e = .returned v ∧ Same (Leaf.all E) w w' ∧
    (∀ (i : Nat) lf xs', E[i]? = some lf → outs[i]? = some (some xs') → FlatP xs' ∧ ∃ N, PVO no w' (.sl true lf.sz xs') lf.v N) ∧
    RES Z' w' res v F ∧ (Leaf.all F).Nodup ∧ (∀ k ∈ Leaf.all F, w.heap.size ≤ k ∨ InE E outs k) ∧ (∀ k, Z k → Z' k) ∧ ∀ k, Z' k → k < w'.heap.size ∧ k ∉ Leaf.all F ∧ (Z k ∨ ((w.heap.size ≤ k ∨ InE E outs k) ∧ Cl w' k))
def EndsSG (P : Program) (rs : List ResultVar) (args : List PA) (outs : List (Option (List (List PV)))) (res : List PA) (s : St) : Prop :=
  ∃ avs K, RvAs P s rs avs ∧ GPasS s avs res K ∧ K.Nodup ∧ OutsOk s K (owns (fun _ => pinT) pinT args) outs
def RetSG (P : Program) (rs : List ResultVar) (args : List PA) (outs : List (Option (List (List PV)))) (res : List PA) : Exit → St → Prop
  | .normal, s => EndsSG P rs args outs res s
  | .ret, s => EndsSG P rs args outs res s
  | _, _ => False
section
variable {γ : Gho} {P : Program} {n : Nat} {o : Oper} {M B : List Nat} {s : St}
end
end Go.Rl
namespace Go.Rl
open Go.RowKit
/-- As Tr, where what comes may have left one deferred entry. -/
def TrR (γ : Gho) (P : Program) (n : Nat) (c : Code) (s : St) (Q : Exit → St → Prop) : Prop :=
  ∀ w0 I L a w, I.df = [] → (∀ k, I.Z k → k < w0.heap.size) → Gh γ w0 I.I → Rel w0 I n L s a w → c.wp P (fun e a' w' => ∃ s' L', Q e s' ∧ (Rel w0 I n L' s' a' w' ∨ ∃ D, a'.defers = [{ target := .collected D, args := #[] }] ∧ w0.heap.size ≤ D ∧ w'.heap[D]? = some (.deferred (some [])) ∧ Rel w0 ⟨I.I, I.ρ, I.β, I.Z, [{ target := .collected D, args := #[] }]⟩ n L' s' a' w')) a w
end Go.Rl
namespace Go.Rl
open Go.RowKit Go.Proofs
end Go.Rl
namespace Go.Rl
open Go.RowKit Go.Proofs
/-- The state with which a round begins. -/
def St.bw (s : St) (ti tx d : Tmp) (zs : List Int) (x : Fin zs.length) : St :=
  ((s.put (some ti) (.p none (.v (.int .i64 (x.1 : Int))))).put (some tx) (.p none (.v (.int .i64 (zs[x.1]'x.2))))).put (some d) (.p none (.v (.int .i64 (zs[x.1]'x.2))))
def asgT (tx d : Tmp) (a : Act) : Act := a.put (some d) (a.eval (.tmp tx))
end Go.Rl
namespace Go.Rl
open Go.Proofs
set_option maxRecDepth 1000000 in
set_option maxHeartbeats 2000000 in
theorem l14Compacted_con (l : List Ent) (s : List Int) (b : Bool) (zs : List Int) (hzs : zs = needF l (pointsF s) l.length) (hl : l.length ≤ 2000000) (hs : s.length ≤ 2000000) : Con Try.prog 85 [.one (PV.sl false 4 (pvE l)), .one (PV.sl false 1 (pvI s)), .one (PV.v (.bool b))] [] [.one (.sl true 4 (pvE (compU l b zs zs.length)))] := by
  refine con_of_tr Try.func85 rfl rfl rfl rfl ?_
  have hle := pvE_length l
  have hls := pvI_length s
  have hlz := pvI_length zs
  have hzl : zs.length ≤ l.length := by rw [hzs]; exact needF_len _ _ _
  refine tr_seq ?_
  refine tr_region rfl (.run [] [] rfl (st_assign rfl) .nil) ?_
  refine tr_seq ?_
  refine tr_region rfl (.run [] [] rfl (st_move rfl) (.run [] [] rfl (st_move rfl) (.run [1400] [] rfl (st_call rfl 1400 (X := []) en71 rfl (.val nod) (.cons (.one (.bor (.sl nod))) (.cons (.one (.bor (.sl nod))) .nil)) (by decide) all_nil .nil ((by have h := l14Needed_con l s (by omega) (by omega); rw [← hzs] at h; exact h)) rfl rfl (nle rfl)) (.run [] [] rfl (st_assign rfl) .nil)))) ?_
  refine tr_seq ?_
  refine tr_region rfl (.run [1500] [] rfl (st_buildSlice rfl 1500 Try.underlying26 inf44 (nle rfl) (by decide) rfl rfl rfl .nil (by decide) rfl (by decide) rfl (by decide) rfl) (.run [] [] rfl (st_assign rfl) .nil)) ?_
  refine tr_seq ?_
  refine tr_seq ?_
  refine tr_region rfl (.run [] [] rfl (st_move rfl) (.run [] [] rfl (st_len_row rfl rfl Try.underlying23) (.run [] [] rfl (st_subn rfl rfl rfl (by omega)) (.run [] [] rfl (st_assign rfl) .nil)))) ?_
  refine tr_block ?_
  refine tr_wk (wk_ren 1500 1 rfl rfl (by decide)) ?_
  refine tr_loopS (σ := Nat) (fun i => mk [(0, .p none (.sl false 4 (pvE l))), (2, .p none (.v (.bool b))), (7, .sl 1400 0 ((pvI zs).length)), (8, .sl 1 0 ((pvE (compU l b zs (zs.length - i))).length)), (9, .p none (.v (.int .i64 ((i:Int) - 1))))] [] [(1, 4, pvE (compU l b zs (zs.length - i))), (1400, 1, pvI zs)]) (fun i => i ≤ zs.length) (fun i => i) zs.length (by simp) (wk_mk ⟨rfl, ⟨rfl, ⟨rfl, ⟨(congrArg (fun k => AV.sl 1 0 (pvE (compU l b zs k)).length) (Nat.sub_self _).symm), ⟨(int_eq (by rw [hlz])), trivial⟩⟩⟩⟩⟩ trivial ⟨(congrArg (fun x => some (4, x)) (by rw [Nat.sub_self]; rfl)), ⟨rfl, trivial⟩⟩ rfl) ?_
  rintro i hG
  replace hG : i ≤ zs.length := hG
  refine tr_seq ?_
  refine tr_seq ?_
  refine tr_region rfl (.run [] [] rfl (st_move rfl) (.run [] [] rfl (st_geq rfl rfl rfl) .nil)) ?_
  refine tr_if (t := decide (0 ≤ ((i:Int) - 1))) rfl (fun h1 => ?_) (fun h1 => ?_)
  · skip
    replace h1 := of_decide_eq_true h1
    refine tr_skip ?_
    refine tr_seq ?_
    refine tr_block ?_
    refine tr_seq ?_
    obtain ⟨z, hz⟩ : ∃ z, zs[i - 1]? = some z := ⟨_, List.getElem?_eq_getElem (by omega)⟩
    obtain ⟨q, rfl, hql⟩ : ∃ q : Nat, z = (q : Int) ∧ q < l.length := by rw [hzs] at hz; exact need_at hz
    obtain ⟨e, he⟩ : ∃ e, l[q]? = some e := ⟨_, List.getElem?_eq_getElem hql⟩
    have hstep : compU l b zs (zs.length - i + 1) = cstep b (compU l b zs (zs.length - i)) e := compU_succ (i := i - 1) (by omega) hz (by simpa using he)
    have hol := compU_len l b zs (k := zs.length - i) (by omega)
    have hle5 := pvE_length (compU l b zs (zs.length - i))
    refine tr_region rfl (.run [] [] rfl (st_move rfl) (.run [] [] rfl (st_move rfl) (.run [] [] rfl (st_eq (st_move rfl) (((show (AV.p none (.v (.int .i64 ((i:Int) - 1)))) = AV.p none (.v (.int .i64 ((i - 1 : Nat) : Int))) from int_eq (by omega))))) (.run [] [] rfl (st_idx_row0 (i - 1) rfl rfl rfl rfl Try.underlying23 Try.sizeOf2 rfl rfl (by omega)) (.run [] [] rfl (st_load_ea1 rfl rfl rfl (pvI_get hz) Try.isAgg2 rfl) (.run [] [] rfl (st_idx_fro rfl rfl rfl Try.underlying26 Try.sizeOf44 rfl (by omega) (pvE_get he)) (.run [] [] rfl (st_load_fea rfl rfl Try.isAgg44 Try.sizeOf44 (nle rfl)) (.run [] [10] rfl (st_allocZ rfl 10 inf44 rfl (by decide) rfl (by decide)) (.run [] [] rfl (st_store_box rfl rfl rfl rfl rfl Try.sizeOf44 rfl (nle rfl)) .nil))))))))) ?_
    refine tr_seq ?_
    refine tr_wk (s' := mk [(0, .p none (.sl false 4 (pvE l))), (2, .p none (.v (.bool b))), (7, .sl 1400 0 ((pvI zs).length)), (8, .sl 1 0 ((pvE (compU l b zs (zs.length - i))).length)), (9, .p none (.v (.int .i64 ((i:Int) - 1)))), (10, .ptr 10 0)] [(10, [.p none (.v (.string e.user)), .p none (.v (.int .i64 e.seq)), .p none (.v (.int .i64 e.kind)), .p none (.v (.string e.value))])] [(1, 4, pvE (compU l b zs (zs.length - i))), (1400, 1, pvI zs)]) ?_ ?_
    · exact wk_mk ⟨rfl, ⟨rfl, ⟨rfl, ⟨rfl, ⟨rfl, ⟨rfl, trivial⟩⟩⟩⟩⟩⟩ ⟨rfl, trivial⟩ ⟨rfl, ⟨rfl, trivial⟩⟩ rfl
    rcases bfc (decide (0 < ((pvE (compU l b zs (zs.length - i))).length : Int))) with h2 | h2
    · have h2' := h2
      replace h2' := of_decide_eq_false h2'
      refine tr_regionD mixed rfl (.run [] [] rfl (st_move rfl) (.run [] [] rfl (st_len_row rfl rfl Try.underlying26) (.run [] [] rfl (st_eq (st_gtr rfl rfl rfl) (bool_eq h2)) (.run [] [] rfl (st_move rfl) (.not rfl (.not rfl (.not rfl (.not rfl (.not rfl (.not rfl (.not rfl (.not rfl (.not rfl (.run [] [] rfl (st_pick (t := false) rfl rfl) (.run [] [] rfl (st_assign rfl) .nil))))))))))))))) (by kernel_rfl) ?_
      refine tr_seq ?_
      refine tr_seq ?_
      refine tr_wk (s' := mk [(0, .p none (.sl false 4 (pvE l))), (2, .p none (.v (.bool b))), (7, .sl 1400 0 ((pvI zs).length)), (8, .sl 1 0 ((pvE (compU l b zs (zs.length - i))).length)), (9, .p none (.v (.int .i64 ((i:Int) - 1)))), (10, .ptr 10 0), (11, .p none (.v (.bool false)))] [(10, [.p none (.v (.string e.user)), .p none (.v (.int .i64 e.seq)), .p none (.v (.int .i64 e.kind)), .p none (.v (.string e.value))])] [(1, 4, pvE (compU l b zs (zs.length - i))), (1400, 1, pvI zs)]) ?_ ?_
      · exact wk_mk ⟨rfl, ⟨rfl, ⟨rfl, ⟨rfl, ⟨rfl, ⟨rfl, ⟨rfl, trivial⟩⟩⟩⟩⟩⟩⟩ ⟨rfl, trivial⟩ ⟨rfl, ⟨rfl, trivial⟩⟩ rfl
      rcases bfc (decide (e.kind = 0)) with h3 | h3
      · have h3' := h3
        replace h3' := of_decide_eq_false h3'
        refine tr_region rfl (.run [] [] rfl (st_faddr_box rfl rfl Try.underlying44 rfl Try.sizeOf42 (by decide)) (.run [] [] rfl (st_faddr_box rfl rfl Try.underlying42 rfl Try.sizeOf2 (by decide)) (.run [] [] rfl (st_load_box1 rfl rfl rfl Try.isAgg2 rfl) (.run [] [] rfl (st_eq (st_eql rfl rfl rfl) (bool_eq h3)) (.run [] [] rfl (st_move rfl) (.not rfl (.run [] [] rfl (st_pick (t := false) rfl rfl) (.run [] [] rfl (st_move rfl) (.not rfl (.not rfl (.run [] [] rfl (st_pick (t := false) rfl rfl) .nil))))))))))) ?_
        refine tr_if (t := false) rfl (fun h => nomatch h) (fun _ => ?_)
        refine tr_skip ?_
        refine tr_region rfl (.run [] [] rfl (st_load_box rfl rfl rfl Try.isAgg44 Try.sizeOf44 (nle rfl)) (.run [5600] [] rfl (st_buildSlice rfl 5600 Try.underlying26 inf44 (nle rfl) (by decide) rfl rfl rfl (.cons .v (.cons .v (.cons .v (.cons .v .nil)))) (by decide) rfl (by decide) rfl (by decide) rfl) (.run [] [] rfl (st_move rfl) (.run [5600] [] rfl (st_append rfl 5600 (ib := 5600) (len := ([[PV.v (.string e.user), PV.v (.int .i64 e.seq), PV.v (.int .i64 e.kind), PV.v (.string e.value)]] ++ (pvE (compU l b zs (zs.length - i)))).length) rfl rfl (.row (len := 1) (xs := [[PV.v (.string e.user), PV.v (.int .i64 e.seq), PV.v (.int .i64 e.kind), PV.v (.string e.value)]]) rfl rfl (.inl rfl)) (.give (len := (pvE (compU l b zs (zs.length - i))).length) (xs := pvE (compU l b zs (zs.length - i))) rfl rfl) Try.underlying26 (sk Try.underlying26 rfl) inf44 rfl (by decide) (by decide) (by decide) List.length_append (by simp only [maxLen, List.length_append, List.length_map, List.length_cons, List.length_nil, List.length_take, List.length_drop, pvE_length, pvI_length, pvT_length]; omega) (by simp only [maxLen, List.length_append, List.length_map, List.length_cons, List.length_nil, List.length_take, List.length_drop, pvE_length, pvI_length, pvT_length]; omega)) (.run [] [] rfl (st_assign rfl) .nil))))) ?_
        have hr4 : [[PV.v (.string e.user), PV.v (.int .i64 e.seq), PV.v (.int .i64 e.kind), PV.v (.string e.value)]] ++ (pvE (compU l b zs (zs.length - i))) = pvE (compU l b zs (zs.length - i + 1)) := by rw [hstep, cstep_keep (fun hc => h3' hc.2.1)]; rfl
        have hp5 : (.sl 5600 0 (([[PV.v (.string e.user), PV.v (.int .i64 e.seq), PV.v (.int .i64 e.kind), PV.v (.string e.value)]] ++ (pvE (compU l b zs (zs.length - i)))).length) : AV) = .sl 5600 0 ((pvE (compU l b zs (zs.length - i + 1))).length) := by simp only [hr4]
        refine tr_wk (s' := mk [(0, .p none (.sl false 4 (pvE l))), (2, .p none (.v (.bool b))), (7, .sl 1400 0 ((pvI zs).length)), (8, .sl 5600 0 ((pvE (compU l b zs (zs.length - i + 1))).length)), (9, .p none (.v (.int .i64 ((i:Int) - 1))))] [] [(1400, 1, pvI zs), (5600, 4, pvE (compU l b zs (zs.length - i + 1)))]) ?_ ?_
        · exact wk_mk ⟨rfl, ⟨rfl, ⟨rfl, ⟨hp5, ⟨rfl, trivial⟩⟩⟩⟩⟩ trivial ⟨rfl, ⟨(congrArg (fun x => some (4, x)) hr4), trivial⟩⟩ rfl
        refine tr_region rfl (.run [] [] rfl (st_move rfl) (.run [] [] rfl (st_subn rfl rfl rfl (by omega)) (.run [] [] rfl (st_assign rfl) .nil))) ?_
        refine nxt (Q := fun _ _ => False) (z := i) (i - 1) ?_ ?_ ?_
        · show (i - 1) ≤ zs.length
          omega
        · show (i - 1) < i
          omega
        · exact (wk_ren 5600 1 rfl rfl (by decide)).trans (wk_mk ⟨rfl, ⟨rfl, ⟨rfl, ⟨(congrArg (fun k => AV.sl 1 0 (pvE (compU l b zs k)).length) (show zs.length - i + 1 = zs.length - (i - 1) by omega)), ⟨(int_eq (by omega)), trivial⟩⟩⟩⟩⟩ trivial ⟨(congrArg (fun x => some (4, x)) (by rw [show zs.length - (i - 1) = zs.length - i + 1 by omega])), ⟨rfl, trivial⟩⟩ rfl)
      · have h3' := h3
        replace h3' := of_decide_eq_true h3'
        rcases bfc b with h6 | h6
        · have h6' := h6
          refine tr_region rfl (.run [] [] rfl (st_faddr_box rfl rfl Try.underlying44 rfl Try.sizeOf42 (by decide)) (.run [] [] rfl (st_faddr_box rfl rfl Try.underlying42 rfl Try.sizeOf2 (by decide)) (.run [] [] rfl (st_load_box1 rfl rfl rfl Try.isAgg2 rfl) (.run [] [] rfl (st_eq (st_eql rfl rfl rfl) (bool_eq h3)) (.run [] [] rfl (st_move rfl) (.run [] [] rfl (st_eq (st_move rfl) (bool_eq h6)) (.run [] [] rfl (st_pick (t := true) rfl rfl) (.run [] [] rfl (st_move rfl) (.not rfl (.not rfl (.run [] [] rfl (st_pick (t := false) rfl rfl) .nil))))))))))) ?_
          refine tr_if (t := false) rfl (fun h => nomatch h) (fun _ => ?_)
          refine tr_skip ?_
          refine tr_region rfl (.run [] [] rfl (st_load_box rfl rfl rfl Try.isAgg44 Try.sizeOf44 (nle rfl)) (.run [5600] [] rfl (st_buildSlice rfl 5600 Try.underlying26 inf44 (nle rfl) (by decide) rfl rfl rfl (.cons .v (.cons .v (.cons .v (.cons .v .nil)))) (by decide) rfl (by decide) rfl (by decide) rfl) (.run [] [] rfl (st_move rfl) (.run [5600] [] rfl (st_append rfl 5600 (ib := 5600) (len := ([[PV.v (.string e.user), PV.v (.int .i64 e.seq), PV.v (.int .i64 e.kind), PV.v (.string e.value)]] ++ (pvE (compU l b zs (zs.length - i)))).length) rfl rfl (.row (len := 1) (xs := [[PV.v (.string e.user), PV.v (.int .i64 e.seq), PV.v (.int .i64 e.kind), PV.v (.string e.value)]]) rfl rfl (.inl rfl)) (.give (len := (pvE (compU l b zs (zs.length - i))).length) (xs := pvE (compU l b zs (zs.length - i))) rfl rfl) Try.underlying26 (sk Try.underlying26 rfl) inf44 rfl (by decide) (by decide) (by decide) List.length_append (by simp only [maxLen, List.length_append, List.length_map, List.length_cons, List.length_nil, List.length_take, List.length_drop, pvE_length, pvI_length, pvT_length]; omega) (by simp only [maxLen, List.length_append, List.length_map, List.length_cons, List.length_nil, List.length_take, List.length_drop, pvE_length, pvI_length, pvT_length]; omega)) (.run [] [] rfl (st_assign rfl) .nil))))) ?_
          have hr7 : [[PV.v (.string e.user), PV.v (.int .i64 e.seq), PV.v (.int .i64 e.kind), PV.v (.string e.value)]] ++ (pvE (compU l b zs (zs.length - i))) = pvE (compU l b zs (zs.length - i + 1)) := by rw [hstep, cstep_keep (fun hc => by rw [h6'] at hc; cases hc.1)]; rfl
          have hp8 : (.sl 5600 0 (([[PV.v (.string e.user), PV.v (.int .i64 e.seq), PV.v (.int .i64 e.kind), PV.v (.string e.value)]] ++ (pvE (compU l b zs (zs.length - i)))).length) : AV) = .sl 5600 0 ((pvE (compU l b zs (zs.length - i + 1))).length) := by simp only [hr7]
          refine tr_wk (s' := mk [(0, .p none (.sl false 4 (pvE l))), (2, .p none (.v (.bool b))), (7, .sl 1400 0 ((pvI zs).length)), (8, .sl 5600 0 ((pvE (compU l b zs (zs.length - i + 1))).length)), (9, .p none (.v (.int .i64 ((i:Int) - 1)))), (49, .p none (.v (.bool false)))] [] [(1400, 1, pvI zs), (5600, 4, pvE (compU l b zs (zs.length - i + 1)))]) ?_ ?_
          · exact wk_mk ⟨rfl, ⟨rfl, ⟨rfl, ⟨hp8, ⟨rfl, ⟨rfl, trivial⟩⟩⟩⟩⟩⟩ trivial ⟨rfl, ⟨(congrArg (fun x => some (4, x)) hr7), trivial⟩⟩ rfl
          refine tr_region rfl (.run [] [] rfl (st_move rfl) (.run [] [] rfl (st_subn rfl rfl rfl (by omega)) (.run [] [] rfl (st_assign rfl) .nil))) ?_
          refine nxt (Q := fun _ _ => False) (z := i) (i - 1) ?_ ?_ ?_
          · show (i - 1) ≤ zs.length
            omega
          · show (i - 1) < i
            omega
          · exact (wk_ren 5600 1 rfl rfl (by decide)).trans (wk_mk ⟨rfl, ⟨rfl, ⟨rfl, ⟨(congrArg (fun k => AV.sl 1 0 (pvE (compU l b zs k)).length) (show zs.length - i + 1 = zs.length - (i - 1) by omega)), ⟨(int_eq (by omega)), trivial⟩⟩⟩⟩⟩ trivial ⟨(congrArg (fun x => some (4, x)) (by rw [show zs.length - (i - 1) = zs.length - i + 1 by omega])), ⟨rfl, trivial⟩⟩ rfl)
        · have h6' := h6
          refine tr_region rfl (.run [] [] rfl (st_faddr_box rfl rfl Try.underlying44 rfl Try.sizeOf42 (by decide)) (.run [] [] rfl (st_faddr_box rfl rfl Try.underlying42 rfl Try.sizeOf2 (by decide)) (.run [] [] rfl (st_load_box1 rfl rfl rfl Try.isAgg2 rfl) (.run [] [] rfl (st_eq (st_eql rfl rfl rfl) (bool_eq h3)) (.run [] [] rfl (st_move rfl) (.run [] [] rfl (st_eq (st_move rfl) (bool_eq h6)) (.run [] [] rfl (st_pick (t := true) rfl rfl) (.run [] [] rfl (st_move rfl) (.run [] [] rfl (st_move rfl) (.run [] [] rfl (st_not (b := false) rfl rfl) (.run [] [] rfl (st_pick (t := true) rfl rfl) .nil))))))))))) ?_
          refine tr_if (t := true) rfl (fun _ => ?_) (fun h => nomatch h)
          refine tr_exit ?_
          refine tr_region rfl (.run [] [] rfl (st_move rfl) (.run [] [] rfl (st_subn rfl rfl rfl (by omega)) (.run [] [] rfl (st_assign rfl) .nil))) ?_
          refine nxt (Q := fun _ _ => False) (z := i) (i - 1) ?_ ?_ ?_
          · show (i - 1) ≤ zs.length
            omega
          · show (i - 1) < i
            omega
          · exact wk_mk ⟨rfl, ⟨rfl, ⟨rfl, ⟨(congrArg (fun x => AV.sl 1 0 (pvE x).length) (by rw [show zs.length - (i - 1) = zs.length - i + 1 by omega, hstep, cstep_drop h6' h3' (older_len (by omega))])), ⟨(int_eq (by omega)), trivial⟩⟩⟩⟩⟩ trivial ⟨(congrArg (fun x => some (4, x)) (by rw [show zs.length - (i - 1) = zs.length - i + 1 by omega, hstep, cstep_drop h6' h3' (older_len (by omega))])), ⟨rfl, trivial⟩⟩ rfl
    · have h2' := h2
      replace h2' := of_decide_eq_true h2'
      obtain ⟨e2, he2⟩ : ∃ e, (compU l b zs (zs.length - i))[0]? = some e := ⟨_, List.getElem?_eq_getElem (by (have hL := pvE_length (compU l b zs (zs.length - i)); omega))⟩
      have hlte2 := (List.getElem?_eq_some_iff.1 he2).1
      refine tr_regionD mixed rfl (.run [] [] rfl (st_move rfl) (.run [] [] rfl (st_len_row rfl rfl Try.underlying26) (.run [] [] rfl (st_eq (st_gtr rfl rfl rfl) (bool_eq h2)) (.run [] [] rfl (st_move rfl) (.run [] [] rfl (st_move rfl) (.run [] [] rfl (st_idx_row0 0 rfl rfl rfl rfl Try.underlying26 Try.sizeOf44 rfl rfl (by omega)) (.run [] [] rfl (st_faddr_ea rfl rfl Try.underlying44 rfl Try.sizeOf42 (by decide)) (.run [] [] rfl (st_faddr_ea rfl rfl Try.underlying42 rfl Try.sizeOf9 (by decide)) (.run [] [] rfl (st_load_ea1 rfl rfl rfl (pvE_get he2) Try.isAgg9 rfl) (.run [] [] rfl (st_faddr_box rfl rfl Try.underlying44 rfl Try.sizeOf42 (by decide)) (.run [] [] rfl (st_faddr_box rfl rfl Try.underlying42 rfl Try.sizeOf9 (by decide)) (.run [] [] rfl (st_load_box1 rfl rfl rfl Try.isAgg9 rfl) (.run [] [] rfl (st_seql rfl rfl rfl) (.run [] [] rfl (st_pick (t := true) rfl rfl) (.run [] [] rfl (st_assign rfl) .nil))))))))))))))) (by kernel_rfl) ?_
      refine tr_seq ?_
      refine tr_seq ?_
      refine tr_wk (s' := mk [(0, .p none (.sl false 4 (pvE l))), (2, .p none (.v (.bool b))), (7, .sl 1400 0 ((pvI zs).length)), (8, .sl 1 0 ((pvE (compU l b zs (zs.length - i))).length)), (9, .p none (.v (.int .i64 ((i:Int) - 1)))), (10, .ptr 10 0), (11, .p none (.v (.bool (decide (e2.user = e.user))))), (34, .sl 1 0 ((pvE (compU l b zs (zs.length - i))).length)), (35, .ea 1 0 0), (36, .ea 1 0 0), (37, .ea 1 0 0), (38, .p none (.v (.string e2.user))), (39, .ptr 10 0), (40, .ptr 10 0), (41, .p none (.v (.string e.user))), (42, .p none (.v (.bool (decide (e2.user = e.user)))))] [(10, [.p none (.v (.string e.user)), .p none (.v (.int .i64 e.seq)), .p none (.v (.int .i64 e.kind)), .p none (.v (.string e.value))])] [(1, 4, pvE (compU l b zs (zs.length - i))), (1400, 1, pvI zs)]) ?_ ?_
      · exact wk_mk ⟨rfl, ⟨rfl, ⟨rfl, ⟨rfl, ⟨rfl, ⟨rfl, ⟨rfl, ⟨rfl, ⟨rfl, ⟨rfl, ⟨rfl, ⟨rfl, ⟨rfl, ⟨rfl, ⟨rfl, ⟨rfl, trivial⟩⟩⟩⟩⟩⟩⟩⟩⟩⟩⟩⟩⟩⟩⟩⟩ ⟨rfl, trivial⟩ ⟨rfl, ⟨rfl, trivial⟩⟩ rfl
      rcases bfc (decide (e.kind = 0)) with h9 | h9
      · have h9' := h9
        replace h9' := of_decide_eq_false h9'
        refine tr_region rfl (.run [] [] rfl (st_faddr_box rfl rfl Try.underlying44 rfl Try.sizeOf42 (by decide)) (.run [] [] rfl (st_faddr_box rfl rfl Try.underlying42 rfl Try.sizeOf2 (by decide)) (.run [] [] rfl (st_load_box1 rfl rfl rfl Try.isAgg2 rfl) (.run [] [] rfl (st_eq (st_eql rfl rfl rfl) (bool_eq h9)) (.run [] [] rfl (st_move rfl) (.not rfl (.run [] [] rfl (st_pick (t := false) rfl rfl) (.run [] [] rfl (st_move rfl) (.not rfl (.not rfl (.run [] [] rfl (st_pick (t := false) rfl rfl) .nil))))))))))) ?_
        refine tr_if (t := false) rfl (fun h => nomatch h) (fun _ => ?_)
        refine tr_skip ?_
        refine tr_region rfl (.run [] [] rfl (st_load_box rfl rfl rfl Try.isAgg44 Try.sizeOf44 (nle rfl)) (.run [5600] [] rfl (st_buildSlice rfl 5600 Try.underlying26 inf44 (nle rfl) (by decide) rfl rfl rfl (.cons .v (.cons .v (.cons .v (.cons .v .nil)))) (by decide) rfl (by decide) rfl (by decide) rfl) (.run [] [] rfl (st_move rfl) (.run [5600] [] rfl (st_append rfl 5600 (ib := 5600) (len := ([[PV.v (.string e.user), PV.v (.int .i64 e.seq), PV.v (.int .i64 e.kind), PV.v (.string e.value)]] ++ (pvE (compU l b zs (zs.length - i)))).length) rfl rfl (.row (len := 1) (xs := [[PV.v (.string e.user), PV.v (.int .i64 e.seq), PV.v (.int .i64 e.kind), PV.v (.string e.value)]]) rfl rfl (.inl rfl)) (.give (len := (pvE (compU l b zs (zs.length - i))).length) (xs := pvE (compU l b zs (zs.length - i))) rfl rfl) Try.underlying26 (sk Try.underlying26 rfl) inf44 rfl (by decide) (by decide) (by decide) List.length_append (by simp only [maxLen, List.length_append, List.length_map, List.length_cons, List.length_nil, List.length_take, List.length_drop, pvE_length, pvI_length, pvT_length]; omega) (by simp only [maxLen, List.length_append, List.length_map, List.length_cons, List.length_nil, List.length_take, List.length_drop, pvE_length, pvI_length, pvT_length]; omega)) (.run [] [] rfl (st_assign rfl) .nil))))) ?_
        have hr10 : [[PV.v (.string e.user), PV.v (.int .i64 e.seq), PV.v (.int .i64 e.kind), PV.v (.string e.value)]] ++ (pvE (compU l b zs (zs.length - i))) = pvE (compU l b zs (zs.length - i + 1)) := by rw [hstep, cstep_keep (fun hc => h9' hc.2.1)]; rfl
        have hp11 : (.sl 5600 0 (([[PV.v (.string e.user), PV.v (.int .i64 e.seq), PV.v (.int .i64 e.kind), PV.v (.string e.value)]] ++ (pvE (compU l b zs (zs.length - i)))).length) : AV) = .sl 5600 0 ((pvE (compU l b zs (zs.length - i + 1))).length) := by simp only [hr10]
        refine tr_wk (s' := mk [(0, .p none (.sl false 4 (pvE l))), (2, .p none (.v (.bool b))), (7, .sl 1400 0 ((pvI zs).length)), (8, .sl 5600 0 ((pvE (compU l b zs (zs.length - i + 1))).length)), (9, .p none (.v (.int .i64 ((i:Int) - 1)))), (38, .p none (.v (.string e2.user))), (39, .ptr 10 0), (40, .ptr 10 0), (41, .p none (.v (.string e.user))), (42, .p none (.v (.bool (decide (e2.user = e.user)))))] [(10, [.p none (.v (.string e.user)), .p none (.v (.int .i64 e.seq)), .p none (.v (.int .i64 e.kind)), .p none (.v (.string e.value))])] [(1400, 1, pvI zs), (5600, 4, pvE (compU l b zs (zs.length - i + 1)))]) ?_ ?_
        · exact wk_mk ⟨rfl, ⟨rfl, ⟨rfl, ⟨hp11, ⟨rfl, ⟨rfl, ⟨rfl, ⟨rfl, ⟨rfl, ⟨rfl, trivial⟩⟩⟩⟩⟩⟩⟩⟩⟩⟩ ⟨rfl, trivial⟩ ⟨rfl, ⟨(congrArg (fun x => some (4, x)) hr10), trivial⟩⟩ rfl
        refine tr_region rfl (.run [] [] rfl (st_move rfl) (.run [] [] rfl (st_subn rfl rfl rfl (by omega)) (.run [] [] rfl (st_assign rfl) .nil))) ?_
        refine nxt (Q := fun _ _ => False) (z := i) (i - 1) ?_ ?_ ?_
        · show (i - 1) ≤ zs.length
          omega
        · show (i - 1) < i
          omega
        · exact (wk_ren 5600 1 rfl rfl (by decide)).trans (wk_mk ⟨rfl, ⟨rfl, ⟨rfl, ⟨(congrArg (fun k => AV.sl 1 0 (pvE (compU l b zs k)).length) (show zs.length - i + 1 = zs.length - (i - 1) by omega)), ⟨(int_eq (by omega)), trivial⟩⟩⟩⟩⟩ trivial ⟨(congrArg (fun x => some (4, x)) (by rw [show zs.length - (i - 1) = zs.length - i + 1 by omega])), ⟨rfl, trivial⟩⟩ rfl)
      · have h9' := h9
        replace h9' := of_decide_eq_true h9'
        rcases bfc b with h12 | h12
        · have h12' := h12
          refine tr_region rfl (.run [] [] rfl (st_faddr_box rfl rfl Try.underlying44 rfl Try.sizeOf42 (by decide)) (.run [] [] rfl (st_faddr_box rfl rfl Try.underlying42 rfl Try.sizeOf2 (by decide)) (.run [] [] rfl (st_load_box1 rfl rfl rfl Try.isAgg2 rfl) (.run [] [] rfl (st_eq (st_eql rfl rfl rfl) (bool_eq h9)) (.run [] [] rfl (st_move rfl) (.run [] [] rfl (st_eq (st_move rfl) (bool_eq h12)) (.run [] [] rfl (st_pick (t := true) rfl rfl) (.run [] [] rfl (st_move rfl) (.not rfl (.not rfl (.run [] [] rfl (st_pick (t := false) rfl rfl) .nil))))))))))) ?_
          refine tr_if (t := false) rfl (fun h => nomatch h) (fun _ => ?_)
          refine tr_skip ?_
          refine tr_region rfl (.run [] [] rfl (st_load_box rfl rfl rfl Try.isAgg44 Try.sizeOf44 (nle rfl)) (.run [5600] [] rfl (st_buildSlice rfl 5600 Try.underlying26 inf44 (nle rfl) (by decide) rfl rfl rfl (.cons .v (.cons .v (.cons .v (.cons .v .nil)))) (by decide) rfl (by decide) rfl (by decide) rfl) (.run [] [] rfl (st_move rfl) (.run [5600] [] rfl (st_append rfl 5600 (ib := 5600) (len := ([[PV.v (.string e.user), PV.v (.int .i64 e.seq), PV.v (.int .i64 e.kind), PV.v (.string e.value)]] ++ (pvE (compU l b zs (zs.length - i)))).length) rfl rfl (.row (len := 1) (xs := [[PV.v (.string e.user), PV.v (.int .i64 e.seq), PV.v (.int .i64 e.kind), PV.v (.string e.value)]]) rfl rfl (.inl rfl)) (.give (len := (pvE (compU l b zs (zs.length - i))).length) (xs := pvE (compU l b zs (zs.length - i))) rfl rfl) Try.underlying26 (sk Try.underlying26 rfl) inf44 rfl (by decide) (by decide) (by decide) List.length_append (by simp only [maxLen, List.length_append, List.length_map, List.length_cons, List.length_nil, List.length_take, List.length_drop, pvE_length, pvI_length, pvT_length]; omega) (by simp only [maxLen, List.length_append, List.length_map, List.length_cons, List.length_nil, List.length_take, List.length_drop, pvE_length, pvI_length, pvT_length]; omega)) (.run [] [] rfl (st_assign rfl) .nil))))) ?_
          have hr13 : [[PV.v (.string e.user), PV.v (.int .i64 e.seq), PV.v (.int .i64 e.kind), PV.v (.string e.value)]] ++ (pvE (compU l b zs (zs.length - i))) = pvE (compU l b zs (zs.length - i + 1)) := by rw [hstep, cstep_keep (fun hc => by rw [h12'] at hc; cases hc.1)]; rfl
          have hp14 : (.sl 5600 0 (([[PV.v (.string e.user), PV.v (.int .i64 e.seq), PV.v (.int .i64 e.kind), PV.v (.string e.value)]] ++ (pvE (compU l b zs (zs.length - i)))).length) : AV) = .sl 5600 0 ((pvE (compU l b zs (zs.length - i + 1))).length) := by simp only [hr13]
          refine tr_wk (s' := mk [(0, .p none (.sl false 4 (pvE l))), (2, .p none (.v (.bool b))), (7, .sl 1400 0 ((pvI zs).length)), (8, .sl 5600 0 ((pvE (compU l b zs (zs.length - i + 1))).length)), (9, .p none (.v (.int .i64 ((i:Int) - 1)))), (38, .p none (.v (.string e2.user))), (39, .ptr 10 0), (40, .ptr 10 0), (41, .p none (.v (.string e.user))), (42, .p none (.v (.bool (decide (e2.user = e.user))))), (49, .p none (.v (.bool false)))] [(10, [.p none (.v (.string e.user)), .p none (.v (.int .i64 e.seq)), .p none (.v (.int .i64 e.kind)), .p none (.v (.string e.value))])] [(1400, 1, pvI zs), (5600, 4, pvE (compU l b zs (zs.length - i + 1)))]) ?_ ?_
          · exact wk_mk ⟨rfl, ⟨rfl, ⟨rfl, ⟨hp14, ⟨rfl, ⟨rfl, ⟨rfl, ⟨rfl, ⟨rfl, ⟨rfl, ⟨rfl, trivial⟩⟩⟩⟩⟩⟩⟩⟩⟩⟩⟩ ⟨rfl, trivial⟩ ⟨rfl, ⟨(congrArg (fun x => some (4, x)) hr13), trivial⟩⟩ rfl
          refine tr_region rfl (.run [] [] rfl (st_move rfl) (.run [] [] rfl (st_subn rfl rfl rfl (by omega)) (.run [] [] rfl (st_assign rfl) .nil))) ?_
          refine nxt (Q := fun _ _ => False) (z := i) (i - 1) ?_ ?_ ?_
          · show (i - 1) ≤ zs.length
            omega
          · show (i - 1) < i
            omega
          · exact (wk_ren 5600 1 rfl rfl (by decide)).trans (wk_mk ⟨rfl, ⟨rfl, ⟨rfl, ⟨(congrArg (fun k => AV.sl 1 0 (pvE (compU l b zs k)).length) (show zs.length - i + 1 = zs.length - (i - 1) by omega)), ⟨(int_eq (by omega)), trivial⟩⟩⟩⟩⟩ trivial ⟨(congrArg (fun x => some (4, x)) (by rw [show zs.length - (i - 1) = zs.length - i + 1 by omega])), ⟨rfl, trivial⟩⟩ rfl)
        · have h12' := h12
          refine tr_region rfl (.run [] [] rfl (st_faddr_box rfl rfl Try.underlying44 rfl Try.sizeOf42 (by decide)) (.run [] [] rfl (st_faddr_box rfl rfl Try.underlying42 rfl Try.sizeOf2 (by decide)) (.run [] [] rfl (st_load_box1 rfl rfl rfl Try.isAgg2 rfl) (.run [] [] rfl (st_eq (st_eql rfl rfl rfl) (bool_eq h9)) (.run [] [] rfl (st_move rfl) (.run [] [] rfl (st_eq (st_move rfl) (bool_eq h12)) (.run [] [] rfl (st_pick (t := true) rfl rfl) (.run [] [] rfl (st_move rfl) (.run [] [] rfl (st_move rfl) (.run [] [] rfl (st_not (b := decide (e2.user = e.user)) rfl rfl) (.run [] [] rfl (st_pick (t := true) rfl rfl) .nil))))))))))) ?_
          refine tr_if (t := (!(decide (e2.user = e.user)))) rfl (fun h15 => ?_) (fun h15 => ?_)
          · skip
            replace h15 : ¬ (e2.user = e.user) := of_decide_eq_false (bnot_t h15)
            refine tr_exit ?_
            refine tr_region rfl (.run [] [] rfl (st_move rfl) (.run [] [] rfl (st_subn rfl rfl rfl (by omega)) (.run [] [] rfl (st_assign rfl) .nil))) ?_
            refine nxt (Q := fun _ _ => False) (z := i) (i - 1) ?_ ?_ ?_
            · show (i - 1) ≤ zs.length
              omega
            · show (i - 1) < i
              omega
            · exact wk_mk ⟨rfl, ⟨rfl, ⟨rfl, ⟨(congrArg (fun x => AV.sl 1 0 (pvE x).length) (by rw [show zs.length - (i - 1) = zs.length - i + 1 by omega, hstep, cstep_drop h12' h9' ((older_at he2).trans (decide_eq_false h15))])), ⟨(int_eq (by omega)), trivial⟩⟩⟩⟩⟩ trivial ⟨(congrArg (fun x => some (4, x)) (by rw [show zs.length - (i - 1) = zs.length - i + 1 by omega, hstep, cstep_drop h12' h9' ((older_at he2).trans (decide_eq_false h15))])), ⟨rfl, trivial⟩⟩ rfl
          · skip
            replace h15 : e2.user = e.user := of_decide_eq_true (bnot_f h15)
            refine tr_skip ?_
            refine tr_region rfl (.run [] [] rfl (st_load_box rfl rfl rfl Try.isAgg44 Try.sizeOf44 (nle rfl)) (.run [5600] [] rfl (st_buildSlice rfl 5600 Try.underlying26 inf44 (nle rfl) (by decide) rfl rfl rfl (.cons .v (.cons .v (.cons .v (.cons .v .nil)))) (by decide) rfl (by decide) rfl (by decide) rfl) (.run [] [] rfl (st_move rfl) (.run [5600] [] rfl (st_append rfl 5600 (ib := 5600) (len := ([[PV.v (.string e.user), PV.v (.int .i64 e.seq), PV.v (.int .i64 e.kind), PV.v (.string e.value)]] ++ (pvE (compU l b zs (zs.length - i)))).length) rfl rfl (.row (len := 1) (xs := [[PV.v (.string e.user), PV.v (.int .i64 e.seq), PV.v (.int .i64 e.kind), PV.v (.string e.value)]]) rfl rfl (.inl rfl)) (.give (len := (pvE (compU l b zs (zs.length - i))).length) (xs := pvE (compU l b zs (zs.length - i))) rfl rfl) Try.underlying26 (sk Try.underlying26 rfl) inf44 rfl (by decide) (by decide) (by decide) List.length_append (by simp only [maxLen, List.length_append, List.length_map, List.length_cons, List.length_nil, List.length_take, List.length_drop, pvE_length, pvI_length, pvT_length]; omega) (by simp only [maxLen, List.length_append, List.length_map, List.length_cons, List.length_nil, List.length_take, List.length_drop, pvE_length, pvI_length, pvT_length]; omega)) (.run [] [] rfl (st_assign rfl) .nil))))) ?_
            have hr16 : [[PV.v (.string e.user), PV.v (.int .i64 e.seq), PV.v (.int .i64 e.kind), PV.v (.string e.value)]] ++ (pvE (compU l b zs (zs.length - i))) = pvE (compU l b zs (zs.length - i + 1)) := by rw [hstep, cstep_keep (fun hc => by rw [((older_at he2).trans (decide_eq_true h15))] at hc; cases hc.2.2)]; rfl
            have hp17 : (.sl 5600 0 (([[PV.v (.string e.user), PV.v (.int .i64 e.seq), PV.v (.int .i64 e.kind), PV.v (.string e.value)]] ++ (pvE (compU l b zs (zs.length - i)))).length) : AV) = .sl 5600 0 ((pvE (compU l b zs (zs.length - i + 1))).length) := by simp only [hr16]
            refine tr_wk (s' := mk [(0, .p none (.sl false 4 (pvE l))), (2, .p none (.v (.bool b))), (7, .sl 1400 0 ((pvI zs).length)), (8, .sl 5600 0 ((pvE (compU l b zs (zs.length - i + 1))).length)), (9, .p none (.v (.int .i64 ((i:Int) - 1)))), (38, .p none (.v (.string e2.user))), (39, .ptr 10 0), (40, .ptr 10 0), (41, .p none (.v (.string e.user))), (42, .p none (.v (.bool (decide (e2.user = e.user))))), (49, .p none (.v (.bool true))), (52, .p none (.v (.bool (decide (e2.user = e.user))))), (53, .p none (.v (.bool (!(decide (e2.user = e.user))))))] [(10, [.p none (.v (.string e.user)), .p none (.v (.int .i64 e.seq)), .p none (.v (.int .i64 e.kind)), .p none (.v (.string e.value))])] [(1400, 1, pvI zs), (5600, 4, pvE (compU l b zs (zs.length - i + 1)))]) ?_ ?_
            · exact wk_mk ⟨rfl, ⟨rfl, ⟨rfl, ⟨hp17, ⟨rfl, ⟨rfl, ⟨rfl, ⟨rfl, ⟨rfl, ⟨rfl, ⟨rfl, ⟨rfl, ⟨rfl, trivial⟩⟩⟩⟩⟩⟩⟩⟩⟩⟩⟩⟩⟩ ⟨rfl, trivial⟩ ⟨rfl, ⟨(congrArg (fun x => some (4, x)) hr16), trivial⟩⟩ rfl
            refine tr_region rfl (.run [] [] rfl (st_move rfl) (.run [] [] rfl (st_subn rfl rfl rfl (by omega)) (.run [] [] rfl (st_assign rfl) .nil))) ?_
            refine nxt (Q := fun _ _ => False) (z := i) (i - 1) ?_ ?_ ?_
            · show (i - 1) ≤ zs.length
              omega
            · show (i - 1) < i
              omega
            · exact (wk_ren 5600 1 rfl rfl (by decide)).trans (wk_mk ⟨rfl, ⟨rfl, ⟨rfl, ⟨(congrArg (fun k => AV.sl 1 0 (pvE (compU l b zs k)).length) (show zs.length - i + 1 = zs.length - (i - 1) by omega)), ⟨(int_eq (by omega)), trivial⟩⟩⟩⟩⟩ trivial ⟨(congrArg (fun x => some (4, x)) (by rw [show zs.length - (i - 1) = zs.length - i + 1 by omega])), ⟨rfl, trivial⟩⟩ rfl)
  · skip
    replace h1 := of_decide_eq_false h1
    refine tr_exit ?_
    refine tr_seq ?_
    refine tr_region rfl (.run [] [] rfl (st_move rfl) (.run [] [] rfl (st_assign rfl) .nil)) ?_
    have hr18 : pvE (compU l b zs (zs.length - i)) = pvE (compU l b zs zs.length) := by rw [show i = 0 by omega, Nat.sub_zero]
    have hp19 : (.sl 1 0 ((pvE (compU l b zs (zs.length - i))).length) : AV) = .sl 1 0 ((pvE (compU l b zs zs.length)).length) := by simp only [hr18]
    refine tr_wk (s' := mk [(6, .sl 1 0 ((pvE (compU l b zs zs.length)).length))] [] [(1, 4, pvE (compU l b zs zs.length))]) ?_ ?_
    · exact wk_mk ⟨hp19, trivial⟩ trivial ⟨(congrArg (fun x => some (4, x)) hr18), trivial⟩ rfl
    refine tr_ret ?_
    exact ends [_] [1] (.cons (.tmp rfl) .nil) (.cons (.one (.row (len := (pvE (compU l b zs zs.length)).length) (xs := pvE (compU l b zs zs.length)) rfl rfl) (.sl _ _ (FlatP.clean (pvE_flat _)))) .nil) (by decide) trivial
end Go.Rl
namespace Go.Proofs
open Go.RowKit Go.Shelf
attribute [local go_sem] Oper.semAt_some
end Go.Proofs
namespace Go.Rl
open Go.Proofs
theorem en85 : ∀ vs w, (callFunc 85 vs).run Try.prog w = .ok (.enter 85 vs) w := enters Try.func85 (by decide) rfl
end Go.Rl
namespace Go.Rl
open Go.Proofs
end Go.Rl
namespace Go.Rl
def pvRd (x : Value × Nat) : List (List PV) := [[.v x.1, .v (.int .i64 x.2)]]
theorem pvRd_flat (x : Value × Nat) : FlatP (pvRd x) := fun es he p hp => by
  simp only [pvRd, List.mem_singleton] at he
  subst he
  simp only [List.mem_cons, List.not_mem_nil, or_false] at hp
  rcases hp with rfl | rfl <;> rfl
theorem pvRd_clean {a b : Value} : ∀ p ∈ ([.v a, .v b] : List PV), Clean p := fun p hp => by
  simp only [List.mem_cons, List.not_mem_nil, or_false] at hp
  rcases hp with rfl | rfl <;> exact .v _
/-- The next byte, and the place behind it. -/
def nextV (bs : List Nat) (p : Nat) : Nat := bs.getD p 0
def nextP (bs : List Nat) (p : Nat) : Nat := if p < bs.length then p + 1 else p
theorem next_end {bs : List Nat} {p : Nat} (h : bs.length ≤ p) : nextV bs p = 0 ∧ nextP bs p = p := by
  refine ⟨?_, by rw [nextP, if_neg (by omega)]⟩
  simp [nextV, List.getD_eq_getElem?_getD, List.getElem?_eq_none h]
theorem next_in {bs : List Nat} {p : Nat} {b : Nat} (h : bs[p]? = some b) : nextV bs p = b ∧ nextP bs p = p + 1 := by
  refine ⟨by simp [nextV, List.getD_eq_getElem?_getD, h], by rw [nextP, if_pos (List.getElem?_eq_some_iff.1 h).1]⟩
theorem nextP_le {bs : List Nat} {p : Nat} (h : p ≤ bs.length) : nextP bs p ≤ bs.length := by unfold nextP; split <;> omega
theorem code_bytes {γ : Gho} {cv : Value} {bs : List Nat} (h : CodeAt γ cv bs) : ∀ b ∈ bs, b < 256 := fun b hb => by
  obtain ⟨A, c, _, h⟩ := h
  rcases h with rfl | ⟨k, off, cur, ty, fz, _, _, h⟩
  · cases hb
  · obtain ⟨i, hi⟩ := List.getElem?_of_mem hb
    exact (h i b hi).1
theorem nextV_lt {bs : List Nat} (h : ∀ b ∈ bs, b < 256) (p : Nat) : nextV bs p < 256 := by
  unfold nextV
  rw [List.getD_eq_getElem?_getD]
  cases hp : bs[p]? with
  | none => decide
  | some b => exact h b (List.mem_of_getElem? hp)
def belowV (bs : List Nat) (p n : Nat) : Nat := if n ≤ 1 then 0 else if n ≤ 256 then nextV bs p % n else (nextV bs p * 256 + nextV bs (nextP bs p)) % n
def belowP (bs : List Nat) (p n : Nat) : Nat := if n ≤ 1 then p else if n ≤ 256 then nextP bs p else nextP bs (nextP bs p)
theorem belowP_le {bs : List Nat} {p n : Nat} (h : p ≤ bs.length) : belowP bs p n ≤ bs.length := by
  unfold belowP
  split
  · exact h
  · split
    · exact nextP_le h
    · exact nextP_le (nextP_le h)
theorem belowV_lt {bs : List Nat} {p n : Nat} (h : 0 < n) : belowV bs p n < n := by
  unfold belowV
  split
  · exact h
  · split <;> exact Nat.mod_lt _ h
theorem below_1 {bs : List Nat} {p n : Nat} (h : n ≤ 1) : belowV bs p n = 0 ∧ belowP bs p n = p := by simp [belowV, belowP, h]
theorem below_2 {bs : List Nat} {p n : Nat} (h1 : ¬ n ≤ 1) (h : n ≤ 256) : belowV bs p n = nextV bs p % n ∧ belowP bs p n = nextP bs p := by simp [belowV, belowP, h, h1]
theorem below_3 {bs : List Nat} {p n : Nat} (h1 : ¬ n ≤ 1) (h : ¬ n ≤ 256) : belowV bs p n = (nextV bs p * 256 + nextV bs (nextP bs p)) % n ∧ belowP bs p n = nextP bs (nextP bs p) := by simp [belowV, belowP, h, h1]
/-- A word of eight bytes. -/
def wordStep (x : Int) (v : Nat) : Int := bitsOf .or .u64 (IntKind.u64.wrap (x * 2 ^ min (8 : Int).toNat IntKind.u64.bits)) (IntKind.u64.wrap (v : Int))
def wordF (bs : List Nat) : Nat → Int → Nat → Int × Nat
  | 0, x, p => (x, p)
  | n + 1, x, p => wordF bs n (wordStep x (nextV bs p)) (nextP bs p)
theorem wordF_le {bs : List Nat} : ∀ (n : Nat) (x : Int) (p : Nat), p ≤ bs.length → (wordF bs n x p).2 ≤ bs.length
  | 0, _, _, h => h
  | n + 1, x, p, h => wordF_le n _ _ (nextP_le h)
def wordV (bs : List Nat) (p : Nat) : Int := (wordF bs 8 0 p).1
def wordP (bs : List Nat) (p : Nat) : Nat := (wordF bs 8 0 p).2
theorem wordP_le {bs : List Nat} {p : Nat} (h : p ≤ bs.length) : wordP bs p ≤ bs.length := wordF_le 8 0 p h
def nearV (bs : List Nat) (p : Nat) (low high : Int) : Int :=
  if belowV bs p 8 = 0 then low else if belowV bs p 8 = 1 then high else if high < low then low
  else IntKind.i64.wrap (low + IntKind.i64.wrap (((wordV bs (belowP bs p 8)).fdiv (2 ^ min (1 : Int).toNat IntKind.u64.bits)).tmod (IntKind.u64.wrap (high - low + 1))))
def nearP (bs : List Nat) (p : Nat) (low high : Int) : Nat :=
  if belowV bs p 8 = 0 then belowP bs p 8 else if belowV bs p 8 = 1 then belowP bs p 8 else if high < low then belowP bs p 8 else wordP bs (belowP bs p 8)
theorem near_a {bs : List Nat} {p : Nat} {low high : Int} (h : belowV bs p 8 = 0) : nearV bs p low high = low ∧ nearP bs p low high = belowP bs p 8 := by simp [nearV, nearP, h]
theorem near_b {bs : List Nat} {p : Nat} {low high : Int} (h : belowV bs p 8 = 1) : nearV bs p low high = high ∧ nearP bs p low high = belowP bs p 8 := by simp [nearV, nearP, h]
theorem near_c {bs : List Nat} {p : Nat} {low high : Int} (h0 : belowV bs p 8 ≠ 0) (h1 : belowV bs p 8 ≠ 1) (h : high < low) : nearV bs p low high = low ∧ nearP bs p low high = belowP bs p 8 := by simp [nearV, nearP, h, h0, h1]
theorem near_d {bs : List Nat} {p : Nat} {low high : Int} (h0 : belowV bs p 8 ≠ 0) (h1 : belowV bs p 8 ≠ 1) (h : ¬ high < low) : nearV bs p low high = IntKind.i64.wrap (low + IntKind.i64.wrap (((wordV bs (belowP bs p 8)).fdiv (2 ^ min (1 : Int).toNat IntKind.u64.bits)).tmod (IntKind.u64.wrap (high - low + 1)))) ∧ nearP bs p low high = wordP bs (belowP bs p 8) := by
  simp only [nearV, nearP, if_neg h0, if_neg h1, if_neg h, and_self]
theorem nearP_le {bs : List Nat} {p : Nat} {low high : Int} (h : p ≤ bs.length) : nearP bs p low high ≤ bs.length := by
  have h1 := belowP_le (n := 8) h
  unfold nearP
  split
  · exact h1
  · split
    · exact h1
    · split
      · exact h1
      · exact wordP_le h1
def onceV (bs : List Nat) (p n : Nat) : Bool := decide (belowV bs p n = n - 1)
def offL (low high : Int) : List Int := [low - 1, high + 1, -9223372036854775808, 9223372036854775807]
def offV (bs : List Nat) (p : Nat) (low high : Int) : Int :=
  if onceV bs p 24 = true then (offL low high).getD (belowV bs (belowP bs p 24) 4) 0 else nearV bs (belowP bs p 24) low high
def offP (bs : List Nat) (p : Nat) (low high : Int) : Nat :=
  if onceV bs p 24 = true then belowP bs (belowP bs p 24) 4 else nearP bs (belowP bs p 24) low high
theorem offP_le {bs : List Nat} {p : Nat} {low high : Int} (h : p ≤ bs.length) : offP bs p low high ≤ bs.length := by
  unfold offP
  split
  · exact belowP_le (belowP_le h)
  · exact nearP_le (belowP_le h)
theorem getD_some {α : Type} {l : List α} {k : Nat} {d : α} (h : k < l.length) : l[k]? = some (l.getD k d) := by
  rw [List.getD_eq_getElem?_getD, List.getElem?_eq_getElem h]
  rfl
def usersL : List ByteArray := [⟨#[97]⟩, ⟨#[98]⟩, ⟨#[97, 98]⟩, ⟨#[97, 98, 99]⟩, ⟨#[97, 98, 100]⟩, ⟨#[107, 101, 121]⟩, ⟨#[107, 101, 121, 49]⟩, ⟨#[107, 101, 121, 50]⟩, ⟨#[122, 122]⟩, ⟨#[97, 0]⟩]
def userV (bs : List Nat) (p : Nat) : ByteArray := usersL.getD (belowV bs p 10) ⟨#[]⟩
def userP (bs : List Nat) (p : Nat) : Nat := belowP bs p 10
theorem user_get (bs : List Nat) (p : Nat) : usersL[belowV bs p 10]? = some (userV bs p) := getD_some (belowV_lt (n := 10) (by decide))
theorem off_get (bs : List Nat) (p : Nat) (low high : Int) : (offL low high)[belowV bs p 4]? = some ((offL low high).getD (belowV bs p 4) 0) := getD_some (belowV_lt (n := 4) (by decide))
end Go.Rl
namespace Go.Rl
section
variable {X : List (List PV)} {k : Nat} {z : List PV}
/-- How long a row is when its k-th element is gone. -/
abbrev delL (X : List (List PV)) (k : Nat) : Nat := k + (X.length - (k + 1))
end
/-! #### search -/
/-- How many stand ahead: where p, true of a beginning, turns false. -/
def cntF {α : Type} (p : α → Bool) (l : List α) : Nat := (l.takeWhile p).length
/-- p is true of a beginning alone. -/
def MonoP {α : Type} (p : α → Bool) (l : List α) : Prop := ∀ (i j : Nat) x y, i ≤ j → l[i]? = some x → l[j]? = some y → p y = true → p x = true
/-- The two bounds of a search by halves. -/
def Halves {α : Type} (p : α → Bool) (l : List α) (i j : Nat) : Prop := (∀ (k : Nat) x, k < i → l[k]? = some x → p x = true) ∧ ∀ (k : Nat) x, j ≤ k → l[k]? = some x → p x = false
theorem shr_one (n : Nat) (h : n ≤ 9000000000000000000) : IntKind.i64.wrap (Int.fdiv (IntKind.u64.wrap (n : Int)) (2 ^ min (1:Int).toNat IntKind.u64.bits)) = ((n / 2 : Nat) : Int) := by
  have h1 : IntKind.u64.wrap (n : Int) = (n : Int) := by
    simp [IntKind.wrap, IntKind.signed, IntKind.bits]
    omega
  rw [h1]
  have h2 : ((2 : Int) ^ min (1:Int).toNat IntKind.u64.bits) = 2 := by decide
  rw [h2]
  have h3 : Int.fdiv (n : Int) 2 = ((n / 2 : Nat) : Int) := by
    rw [Int.fdiv_eq_ediv_of_nonneg _ (by decide)]
    omega
  rw [h3, IntKind.wrap_i64]
  omega
end Go.Rl
namespace Go.Rl
def pvU (l : List Int) : List (List PV) := l.map fun n => [.v (.int .u8 n)]
theorem pvU_length (l : List Int) : (pvU l).length = l.length := by simp [pvU]
def bytesL (bs : List Nat) : Nat → List Int → Nat → List Int × Nat
  | 0, l, p => (l, p)
  | n + 1, l, p => bytesL bs n (l ++ [IntKind.u8.wrap ((belowV bs p 256 : Nat) : Int)]) (belowP bs p 256)
theorem bytesL_le {bs : List Nat} : ∀ (n : Nat) (l : List Int) (p : Nat), p ≤ bs.length → (bytesL bs n l p).2 ≤ bs.length
  | 0, _, _, h => h
  | n + 1, _, _, h => bytesL_le n _ _ (belowP_le h)
theorem bytesL_go {bs : List Nat} {n : Nat} {l : List Int} {p : Nat} {z : List Int × Nat} (h : 0 < n) (he : bytesL bs n l p = z) : bytesL bs (n - 1) (l ++ [IntKind.u8.wrap ((belowV bs p 256 : Nat) : Int)]) (belowP bs p 256) = z := by
  obtain ⟨j, rfl⟩ : ∃ j, n = j + 1 := ⟨n - 1, by omega⟩
  exact he
def bytesR (bs : List Nat) (p most : Nat) : List Int × Nat := bytesL bs (belowV bs p (most + 1)) [] (belowP bs p (most + 1))
def bytesV (bs : List Nat) (p most : Nat) : ByteArray := strOf (bytesR bs p most).1
def bytesP (bs : List Nat) (p most : Nat) : Nat := (bytesR bs p most).2
theorem bytesP_le {bs : List Nat} {p most : Nat} (h : p ≤ bs.length) : bytesP bs p most ≤ bs.length := bytesL_le _ _ _ (belowP_le h)
def valuesL : List ByteArray := [⟨#[]⟩, ⟨#[49]⟩, ⟨#[50]⟩, ⟨#[118, 97, 108, 117, 101]⟩, ⟨#[118, 118]⟩]
def valueV (bs : List Nat) (p : Nat) : ByteArray := valuesL.getD (belowV bs p 5) ⟨#[]⟩
theorem value_get (bs : List Nat) (p : Nat) : valuesL[belowV bs p 5]? = some (valueV bs p) := getD_some (belowV_lt (n := 5) (by decide))
/-! #### keys -/
def key0 (bs : List Nat) (p : Nat) : Ent := ⟨userV bs p, nearV bs (userP bs p) 0 12, ((belowV bs (nearP bs (userP bs p) 0 12) 2 : Nat) : Int), ⟨#[]⟩⟩
def key0P (bs : List Nat) (p : Nat) : Nat := belowP bs (nearP bs (userP bs p) 0 12) 2
def keyV (bs : List Nat) (p : Nat) : Ent :=
  if belowV bs (key0P bs p) 24 = 0 then { key0 bs p with seq := offV bs (belowP bs (key0P bs p) 24) 0 1000000000000 }
  else if belowV bs (key0P bs p) 24 = 1 then { key0 bs p with kind := offV bs (belowP bs (key0P bs p) 24) 0 1 }
  else if belowV bs (key0P bs p) 24 = 2 then { key0 bs p with user := bytesV bs (belowP bs (key0P bs p) 24) 45 }
  else key0 bs p
def keyP (bs : List Nat) (p : Nat) : Nat :=
  if belowV bs (key0P bs p) 24 = 0 then offP bs (belowP bs (key0P bs p) 24) 0 1000000000000
  else if belowV bs (key0P bs p) 24 = 1 then offP bs (belowP bs (key0P bs p) 24) 0 1
  else if belowV bs (key0P bs p) 24 = 2 then bytesP bs (belowP bs (key0P bs p) 24) 45
  else belowP bs (key0P bs p) 24
theorem key0P_le {bs : List Nat} {p : Nat} (h : p ≤ bs.length) : key0P bs p ≤ bs.length := belowP_le (nearP_le (belowP_le h))
theorem keyP_le {bs : List Nat} {p : Nat} (h : p ≤ bs.length) : keyP bs p ≤ bs.length := by
  have h2 := belowP_le (n := 24) (key0P_le h)
  unfold keyP
  split
  · exact offP_le h2
  · split
    · exact offP_le h2
    · split
      · exact bytesP_le h2
      · exact h2
theorem key_0 {bs : List Nat} {p : Nat} (h : belowV bs (key0P bs p) 24 = 0) : keyV bs p = { key0 bs p with seq := offV bs (belowP bs (key0P bs p) 24) 0 1000000000000 } ∧ keyP bs p = offP bs (belowP bs (key0P bs p) 24) 0 1000000000000 := by simp [keyV, keyP, h]
theorem key_1 {bs : List Nat} {p : Nat} (h0 : ¬ belowV bs (key0P bs p) 24 = 0) (h : belowV bs (key0P bs p) 24 = 1) : keyV bs p = { key0 bs p with kind := offV bs (belowP bs (key0P bs p) 24) 0 1 } ∧ keyP bs p = offP bs (belowP bs (key0P bs p) 24) 0 1 := by simp [keyV, keyP, h]
theorem key_2 {bs : List Nat} {p : Nat} (h0 : ¬ belowV bs (key0P bs p) 24 = 0) (h1 : ¬ belowV bs (key0P bs p) 24 = 1) (h : belowV bs (key0P bs p) 24 = 2) : keyV bs p = { key0 bs p with user := bytesV bs (belowP bs (key0P bs p) 24) 45 } ∧ keyP bs p = bytesP bs (belowP bs (key0P bs p) 24) 45 := by simp [keyV, keyP, h]
theorem key_3 {bs : List Nat} {p : Nat} (h0 : ¬ belowV bs (key0P bs p) 24 = 0) (h1 : ¬ belowV bs (key0P bs p) 24 = 1) (h2 : ¬ belowV bs (key0P bs p) 24 = 2) : keyV bs p = key0 bs p ∧ keyP bs p = belowP bs (key0P bs p) 24 := by simp [keyV, keyP, h0, h1, h2]
/-! #### entries -/
def ent0 (bs : List Nat) (p : Nat) : Ent := { keyV bs p with value := valueV bs (keyP bs p) }
def ent0P (bs : List Nat) (p : Nat) : Nat := belowP bs (keyP bs p) 5
def entryV (bs : List Nat) (p : Nat) : Ent := if (ent0 bs p).kind = 0 then (if onceV bs (ent0P bs p) 12 = true then ent0 bs p else { ent0 bs p with value := ⟨#[]⟩ }) else ent0 bs p
def entryP (bs : List Nat) (p : Nat) : Nat := if (ent0 bs p).kind = 0 then belowP bs (ent0P bs p) 12 else ent0P bs p
theorem ent0P_le {bs : List Nat} {p : Nat} (h : p ≤ bs.length) : ent0P bs p ≤ bs.length := belowP_le (keyP_le h)
theorem entryP_le {bs : List Nat} {p : Nat} (h : p ≤ bs.length) : entryP bs p ≤ bs.length := by
  unfold entryP
  split
  · exact belowP_le (ent0P_le h)
  · exact ent0P_le h
theorem ent_0 {bs : List Nat} {p : Nat} (h : (ent0 bs p).kind = 0) (h2 : onceV bs (ent0P bs p) 12 = true) : entryV bs p = ent0 bs p ∧ entryP bs p = belowP bs (ent0P bs p) 12 := by simp [entryV, entryP, h, h2]
theorem ent_1 {bs : List Nat} {p : Nat} (h : (ent0 bs p).kind = 0) (h2 : onceV bs (ent0P bs p) 12 = false) : entryV bs p = { ent0 bs p with value := ⟨#[]⟩ } ∧ entryP bs p = belowP bs (ent0P bs p) 12 := by simp [entryV, entryP, h, h2]
theorem ent_2 {bs : List Nat} {p : Nat} (h : ¬ (ent0 bs p).kind = 0) : entryV bs p = ent0 bs p ∧ entryP bs p = ent0P bs p := by simp [entryV, entryP, h]
/-! #### rows -/
/-- How many stand ahead of e. -/
def aheadN (out : List Ent) (e : Ent) : Nat := cntF (fun x => decide (kcmp x e < 0)) out
def sameKey (a b : Ent) : Bool := decide (a.user = b.user ∧ a.seq = b.seq ∧ a.kind = b.kind)
def entIns (out : List Ent) (e : Ent) : List Ent :=
  if entOk e = true then (match out[aheadN out e]? with
    | some x => if (x.user, x.seq, x.kind) = (e.user, e.seq, e.kind) then out else out.take (aheadN out e) ++ [e] ++ out.drop (aheadN out e)
    | none => out.take (aheadN out e) ++ [e] ++ out.drop (aheadN out e)) else out
def entLoop (bs : List Nat) : Nat → List Ent × Nat → List Ent × Nat
  | 0, x => x
  | i + 1, x => entLoop bs i (entIns x.1 (entryV bs x.2), entryP bs x.2)
def entBase (bs : List Nat) (p most : Nat) : List Ent × Nat := entLoop bs (belowV bs p (most + 1)) ([], belowP bs p (most + 1))
def entsR (bs : List Nat) (p most : Nat) : List Ent × Nat :=
  let x := entBase bs p most
  if onceV bs x.2 24 = true then (x.1 ++ [entryV bs (belowP bs x.2 24)], entryP bs (belowP bs x.2 24)) else (x.1, belowP bs x.2 24)
/-! #### snapshots -/
abbrev SnSt := List Int × Int × Nat
def snLast (out : List Int) (n : Int) : Bool := match out[out.length - 1]? with
  | some x => decide (x < n)
  | none => true
def snStep (bs : List Nat) (x : SnSt) : SnSt :=
  let n := x.2.1 + ((belowV bs x.2.2 6 : Nat) : Int)
  let q := belowP bs x.2.2 6
  if snLast x.1 n = true then (x.1 ++ [n], n, q)
  else if onceV bs q 12 = true then (x.1 ++ [n], n, belowP bs q 12) else (x.1, n, belowP bs q 12)
def snLoop (bs : List Nat) : Nat → SnSt → SnSt
  | 0, x => x
  | i + 1, x => snLoop bs i (snStep bs x)
def snapsR (bs : List Nat) (p : Nat) : SnSt := snLoop bs (belowV bs p 4) ([], 0, belowP bs p 4)
def snapsV (bs : List Nat) (p : Nat) : List Int := (snapsR bs p).1
def snapsP (bs : List Nat) (p : Nat) : Nat := (snapsR bs p).2.2
end Go.Rl

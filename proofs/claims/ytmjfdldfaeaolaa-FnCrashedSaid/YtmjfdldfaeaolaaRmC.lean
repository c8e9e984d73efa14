/- R, part 2C: promises whose results share memory: from a body to the promise; the step that calls. -/
import Derived.Test.YtmjfdldfaeaolaaRmB
namespace Go.Rl
open Go.RowKit
/-- What the body does is what the function promises. -/
theorem con_of_trS {P : Program} {f : FuncId} {fn : Func} {c : Code} {rs : List ResultVar} {args : List PA} {res : List PA} (hf : P.funcs[f]? = some fn) (hb : fn.body = some c) (hrs : fn.results = rs.toArray) (hn' : Nat.ble args.length fn.ntmps = true) (hsz' : args.all (fun p => Nat.ble p.size pinT) = true)
    (h : Tr none P fn.ntmps c (initS args) (RetS P rs res)) : ConS P f args res := by
  intro Z w vs E hp hZ hnd hlt
  have hn : args.length ≤ fn.ntmps := Nat.le_of_ble_eq_true hn'
  have hsz : ∀ p ∈ args, p.size ≤ pinT := fun p hp => Nat.le_of_ble_eq_true ((List.all_eq_true.1 hsz') p hp)
  refine calls_of_wp hf hb ?_
  have hlen : vs.length = args.length := by
    clear h hn hsz hn' hsz' hZ hnd hlt
    induction hp with
    | nil => rfl
    | cons _ _ ih => simp [ih]
  have hown0 := owns_in (step := fun _ => pinT) args pinT hsz
  have hpins : PinE (mkρ (owns (fun _ => pinT) pinT args) E) (owns (fun _ => pinT) pinT args) E := mkρ_ok hown0.1
  let I : Fr := ⟨Leaf.all E, mkρ (owns (fun _ => pinT) pinT args) E, fun _ => 0, Z⟩
  let a : Act := { tmps := (⟨vs⟩ : Array Value) ++ Array.replicate (fn.ntmps - (⟨vs⟩ : Array Value).size) undef, defers := [] }
  let L0 : Pl := ⟨Z, fun _ => 0, fun _ => undef, fun _ => [], fun _ => none⟩
  have hasz : a.tmps.size = fn.ntmps := by simp [a]; omega
  have h0 : Rel w I fn.ntmps L0 ⟨fun _ => .undef, fun _ => none, fun _ => none⟩ a w :=
    ⟨Same.refl _ w, fun k hk => ⟨(hZ k hk).1, rfl⟩, fun k l hk => by simp [L0] at hk, hasz, rfl, fun i => by simp [AVR], fun i cs hc => by simp at hc, fun i sz xs hx => by simp at hx, fun i _ hx => by simp at hx, fun i _ hx => by simp at hx, fun k hk => .inl hk⟩
  obtain ⟨L1, t1, a1⟩ := takeAs (step := fun _ => pinT) (id := pinT) h0 (vs := vs) (F := E) hp (fun k hk => ⟨rfl, fun hz => (hZ k hz).2 hk, .inr hk⟩) hnd hsz (fun _ _ _ => rfl) (.inr hpins)
  have h1 : Rel w I fn.ntmps L1 (initS args) a w := by
    refine ⟨t1.rel.same, t1.rel.zlt, t1.rel.llt, hasz, rfl, fun i => ?_, fun i cs hc => by simp [initS] at hc, fun i sz xs hx => t1.rel.rw i sz xs hx, t1.rel.pr, t1.rel.pb, t1.rel.zi⟩
    have hmv : Moves [] L1 L1 w w { t := fun _ => .undef, b := fun _ => none, r := setRs (fun _ => none) (pRowss (fun _ => pinT) pinT args) } (initS args) := ⟨fun k hk => ⟨hk, rfl⟩, fun _ k _ _ hk => ⟨.inr hk, rfl⟩, fun b hb => ⟨hb, rfl⟩, fun i sz xs _ hx => ⟨xs, hx, rfl, rfl⟩⟩
    simp only [initS]
    rw [lkL_get]
    cases hi : (pAVs (fun _ => pinT) pinT args)[i]? with
    | none => simp [AVR]
    | some av =>
      obtain ⟨u, hu, hr⟩ := a1.get i av hi
      have hui : a.tmps.getD i undef = u := by
        have hlt := (List.getElem?_eq_some_iff.1 hu).1
        have : a.tmps[i]? = some u := by
          simp only [a]
          rw [Array.getElem?_append_left (by simpa using hlt)]
          simpa using hu
        simp [this]
      rw [hui]
      exact hr.move0 hmv
  refine wp_mono (h w I L1 a w (gh_none _ _) h1) (fun e a' w' ⟨s', L', hq, hr⟩ => ?_)
  have fin : EndsS P rs res s' → a'.defers = [] ∧ ∃ v, (results fn a'.tmps).run P w' = .ok v w' ∧ ∃ v' F Z', Ending.returned v = .returned v' ∧ Same (Leaf.all E) w w' ∧
      RES Z' w' res v' F ∧ (Leaf.all F).Nodup ∧ (∀ k ∈ Leaf.all F, w.heap.size ≤ k ∨ k ∈ Leaf.all E) ∧ (∀ k, Z k → Z' k) ∧ ∀ k, Z' k → k < w'.heap.size ∧ k ∉ Leaf.all F ∧ (Z k ∨ w.heap.size ≤ k ∨ k ∈ Leaf.all E) := by
    rintro ⟨avs, K, hrv, hg, hKn⟩
    obtain ⟨us, hrun, hav⟩ := hrv.ok hr
    obtain ⟨F, hF, hFK⟩ := hg.ok hr hav
    have hrl := hF.length
    have hres := run_results hrs hrun
    have hfk : ∀ k ∈ Leaf.all F, ∃ j ∈ K, L'.lab k = some (.row j) := fun k hk => by
      rw [hFK] at hk
      exact (hr.nodup hKn hg.rows).2 k hk
    refine ⟨hr.df, _, hres, _, F, fun k => Z k ∨ L'.Z k, rfl, hr.same, ?_, by rw [hFK]; exact (hr.nodup hKn hg.rows).1, fun k hk => ?_, fun k hk => .inl hk, fun k hk => ?_⟩
    · refine RES.up (Z := L'.Z) ?_ (fun _ h => .inr h)
      split
      · rename_i h1
        cases hF with
        | nil => simp at h1
        | cons hF1 hF2 =>
          cases hF2 with
          | nil => rw [List.append_nil]; exact .one hF1
          | cons _ _ => simp at h1
      · rename_i h1
        exact .more (by rw [hrl]; exact h1) hF
    · obtain ⟨j, _, hl⟩ := hfk k hk
      exact (hr.llt k _ hl).2
    · rcases hk with hk | hk
      · refine ⟨Nat.lt_of_lt_of_le (hZ k hk).1 hr.same.size, fun hx => ?_, .inl hk⟩
        obtain ⟨j, _, hl⟩ := hfk k hx
        rcases (hr.llt k _ hl).2 with h2 | h2
        · have := (hZ k hk).1; omega
        · exact (hZ k hk).2 h2
      · refine ⟨(hr.zlt k hk).1, fun hx => ?_, hr.zi k hk⟩
        obtain ⟨j, _, hl⟩ := hfk k hx
        rw [(hr.zlt k hk).2] at hl
        cases hl
  cases e with
  | normal => exact fin hq
  | ret => exact fin hq
  | _ => exact hq.elim

inductive CellZ (s : St) : AV → PV → List Nat → Prop where
  | v {d : Option Nat} {x : Value} : CellZ s (.p d (.v x)) (.v x) []
  | sl {o : Bool} {sz : Nat} {xs : List (List PV)} : CellZ s (.p none (.sl o sz xs)) (.sl false sz xs) []
  | cl {f : Nat} {xs : List (List PV)} : CellZ s (.p none (.clo f xs)) (.clo f xs) []
  | nil (sz : Nat) : CellZ s .nils (.sl false sz []) []
  | own {id len sz : Nat} {xs : List (List PV)} (hr : s.r id = some (sz, xs)) (hl : len = xs.length) : CellZ s (.sl id 0 len) (.sl true sz xs) [id]
inductive CellZs (s : St) : List AV → List PV → List Nat → Prop where
  | nil : CellZs s [] [] []
  | cons {av : AV} {p : PV} {K : List Nat} {l : List AV} {ps : List PV} {K' : List Nat} (h : CellZ s av p K) (t : CellZs s l ps K') : CellZs s (av :: l) (p :: ps) (K ++ K')
inductive ArgZ (s : St) : AV → PA → List Nat → Prop where
  | one {av : AV} {p : PV} {K : List Nat} (h : CellZ s av p K) : ArgZ s av (.one p) K
  | agg {cs : List AV} {ps : List PV} {K : List Nat} (h : CellZs s cs ps K) : ArgZ s (.agg cs) (.agg ps) K
  | fea {ps : List PV} : ArgZ s (.fea none ps) (.fbox ps) []
  | rptr {id sz : Nat} {ps : List PV} (hr : s.r id = some (sz, [ps])) : ArgZ s (.ea id 0 0) (.rptr sz ps) [id]
inductive ArgZs (s : St) : List AV → List PA → List Nat → Prop where
  | nil : ArgZs s [] [] []
  | cons {av : AV} {p : PA} {K : List Nat} {l : List AV} {ps : List PA} {K' : List Nat} (h : ArgZ s av p K) (t : ArgZs s l ps K') : ArgZs s (av :: l) (p :: ps) (K ++ K')
theorem CellZ.mono {s s' : St} (h : Less s s') {av : AV} {p : PV} {K : List Nat} (g : CellZ s av p K) : CellZ s' av p K := by
  cases g with
  | v => exact .v
  | sl => exact .sl
  | cl => exact .cl
  | nil sz => exact .nil sz
  | own hr hl => exact .own (h.r _ _ hr) hl
theorem CellZs.mono {s s' : St} (h : Less s s') {l : List AV} {ps : List PV} {K : List Nat} (g : CellZs s l ps K) : CellZs s' l ps K := by
  induction g with
  | nil => exact .nil
  | cons g _ ih => exact .cons (g.mono h) ih
theorem ArgZs.mono {s s' : St} (h : Less s s') {l : List AV} {ps : List PA} {K : List Nat} (g : ArgZs s l ps K) : ArgZs s' l ps K := by
  induction g with
  | nil => exact .nil
  | cons g _ ih =>
    refine .cons ?_ ih
    cases g with
    | one g => exact .one (g.mono h)
    | agg g => exact .agg (g.mono h)
    | fea => exact .fea
    | rptr hr => exact .rptr (h.r _ _ hr)
section
variable {w0 : World} {I : Fr} {n : Nat} {L : Pl} {s : St} {a : Act} {w : World}
theorem zd_none : ∀ k, L.zd none k → L.Z k := fun k hk => hk.elim (fun h => h) (fun ⟨_, h, _⟩ => by cases h)
theorem CellZ.ok (h : Rel w0 I n L s a w) {av : AV} {p : PV} {K : List Nat} (g : CellZ s av p K) {v : Value} (hv : AVR L w s av v) : PS L.Z w p v (K.map (lf L s)) := by
  cases g with
  | v => simp only [AVR] at hv; have h1 := hv.1; cases h1; exact .nf rfl (.v _ ‹_›)
  | sl => simp only [AVR] at hv; exact .nf rfl (((hv.1.flag false).mono (fun _ _ => rfl) zd_none).nfO rfl)
  | cl => simp only [AVR] at hv; exact .nf rfl ((hv.1.mono (fun _ _ => rfl) zd_none).nfO rfl)
  | nil sz => simp only [AVR] at hv; obtain ⟨A, rfl⟩ := hv; exact .nf rfl (.fro _ _ _ (.emp _ _ _ _))
  | own hr hl =>
    rename_i id len sz xs
    simp only [AVR] at hv
    obtain ⟨sz', xs', e1, e2, e3⟩ := hv
    rw [hr] at e1
    cases e1
    have hp := (h.rw _ _ _ hr).1
    have := view_whole e3 (fun A n c e => (pvo_own_len hp A n c e).trans hl.symm)
    subst this
    have hs : lf L s id = ⟨L.ρ id, L.ν id, sz⟩ := by simp [lf, hr]
    simp only [List.map_cons, List.map_nil, hs]
    exact .own hp
theorem CellZs.ok (h : Rel w0 I n L s a w) {l : List AV} {ps : List PV} {K : List Nat} (g : CellZs s l ps K) : ∀ {us : List Value} (_ : AVRs L w s l us), PSs L.Z w ps us (K.map (lf L s)) := by
  induction g with
  | nil =>
    intro us hv
    cases us with
    | nil => exact .nil
    | cons _ _ => simp [AVRs] at hv
  | cons g _ ih =>
    intro us hv
    cases us with
    | nil => simp [AVRs] at hv
    | cons u us =>
      simp only [AVRs] at hv
      rw [List.map_append]
      exact .cons (g.ok h hv.1) (ih hv.2)
theorem ArgZs.ok (h : Rel w0 I n L s a w) {l : List AV} {ps : List PA} {K : List Nat} (g : ArgZs s l ps K) : ∀ {us : List Value} (_ : AVRs L w s l us), PASs L.Z w ps us (K.map (lf L s)) := by
  induction g with
  | nil =>
    intro us hv
    cases us with
    | nil => exact .nil
    | cons _ _ => simp [AVRs] at hv
  | cons g _ ih =>
    intro us hv
    cases us with
    | nil => simp [AVRs] at hv
    | cons u us =>
      simp only [AVRs] at hv
      rw [List.map_append]
      refine .cons ?_ (ih hv.2)
      have h1 := hv.1
      cases g with
      | one g => exact .one (g.ok h h1)
      | agg g =>
        simp only [AVR] at h1
        obtain ⟨us, rfl, h1⟩ := h1
        exact .agg (g.ok h h1)
      | fea =>
        simp only [AVR] at h1
        obtain ⟨⟨k, off, rfl, hk, hc⟩, _⟩ := h1
        exact .fbox (zd_none k hk) (fun j p hj => by obtain ⟨u, hu, hq⟩ := hc j p hj; exact ⟨u, hu, hq.mono (fun _ _ => rfl) zd_none⟩)
      | rptr hr =>
        rename_i id sz ps
        simp only [AVR] at h1
        obtain ⟨sz', xs', k, m, c, e1, e2, e3, rfl⟩ := h1
        rw [hr] at e1
        cases e1
        have hp := (h.rw _ _ _ hr).1
        have hm := pvo_own_len hp _ _ _ e3
        simp only [List.length_cons, List.length_nil] at hm
        subst hm
        have hs : lf L s id = ⟨L.ρ id, L.ν id, sz⟩ := by simp [lf, hr]
        simp only [List.map_cons, List.map_nil, hs, Nat.zero_mul, Nat.add_zero]
        rw [e3] at hp ⊢
        exact .rptr hp
/-- More that nobody writes. -/
theorem Rel.widen (h : Rel w0 I n L s a w) (Z2 : Nat → Prop) (hz : ∀ k, Z2 k → k < w.heap.size ∧ L.lab k = none ∧ (I.Z k ∨ w0.heap.size ≤ k ∨ k ∈ I.I)) : Rel w0 I n { L with Z := fun k => L.Z k ∨ Z2 k } s a w := by
  have hm : Moves [] L { L with Z := fun k => L.Z k ∨ Z2 k } w w s s := ⟨fun k hk => ⟨.inl hk, rfl⟩, fun _ k _ _ hk => ⟨.inr hk, rfl⟩, fun b hb => ⟨hb, rfl⟩, fun i sz xs _ hx => ⟨xs, hx, rfl, rfl⟩⟩
  refine ⟨h.same, fun k hk => hk.elim (h.zlt k) (fun hk => ⟨(hz k hk).1, (hz k hk).2.1⟩), h.llt, h.sz, h.df, fun i => (h.tm i).move0 hm, fun i cs hc => ?_, fun i sz xs hx => ?_, h.pr, h.pb, fun k hk => hk.elim (h.zi k) (fun hk => (hz k hk).2.2)⟩
  · obtain ⟨h1, us, ty, h2, h3, h4⟩ := h.bx i cs hc
    exact ⟨h1, us, ty, h2, h3.move0 hm, h4⟩
  · obtain ⟨h1, h2, h3⟩ := h.rw i sz xs hx
    exact ⟨h1.up (fun _ h => .inl h), h2, h3⟩
end
section
variable {γ : Gho} {P : Program} {n : Nat} {o : Oper} {M B : List Nat} {s : St}
theorem st_callS {x : Operand} {args : List Operand} {ats : Array TypeId} (ho : o.op = .call { callee := .value x, args := args.toArray, argTypes := ats }) (rid : Nat) {f : FuncId} {pas : List PA} {X : List Nat} {res : List PA} {d : Option Nat}
    (hE : ∀ xs w, (callFunc f xs).run P w = .ok (.enter f xs) w) (hx : s.ev x = .p d (.clo f [])) (ha : ArgZs (s.only M B) (args.map s.ev) pas X) (hXn : X.Nodup) (hXM : ∀ i ∈ X, ((s.only M B).r i).isSome = true) (hcon : ConS P f pas res)
    (hf' : freshB s M rid (pSize PA.size res) = true) (hpin : rid + pSize PA.size res ≤ pinT) : StepD γ P n o M B s { put := resAV rid res, kill := X, setR := pRowss PA.size rid res } := by
  intro s' ag hd w0 I L a w hG hr KK Q hK
  have hf := freshN hf'
  have hon := only_ag ag
  rw [← hon] at ha hXM
  have hl := only_less s' M B
  have hX : ∀ i ∈ X, (s'.r i).isSome := fun i hi => by
    obtain ⟨y, hy⟩ := Option.isSome_iff_exists.1 (hXM i hi)
    rw [hl.r i y hy]; rfl
  have hev : args.map s'.ev = args.map s.ev := List.map_congr_left (fun y hy => ag.ev1 ho (by simp [Op.operands, Call.operands, hy]))
  have hxv := hr.ev x
  rw [ag.ev1 ho (by simp [Op.operands, Call.operands]), hx] at hxv
  have e1 : a.eval x = .func (.func f) #[] ⟨[]⟩ := by
    simp only [AVR] at hxv
    generalize a.eval x = u at hxv
    obtain ⟨hq, _⟩ := hxv
    cases hq with
    | clo _ _ ks hl _ _ _ _ =>
      cases ks with
      | nil => rfl
      | cons _ _ => simp at hl
  have e3 := (ha.mono hl).ok hr (by rw [← hev]; exact evs_of hr args)
  have hall : Leaf.all (X.map (lf L s')) = X.flatMap L.ν := by simp [Leaf.all, List.flatMap_map, lf]
  obtain ⟨hnd, hlab⟩ := hr.nodup hXn hX
  unfold Oper.wp
  rw [run_call ho e1 hE, Oper.upon_enter, List.append_nil]
  refine (hcon L.Z w _ _ e3 (fun k hk => ⟨(hr.zlt k hk).1, fun hx => by rw [hall] at hx; obtain ⟨i, _, hl⟩ := hlab k hx; rw [(hr.zlt k hk).2] at hl; cases hl⟩) (by rw [hall]; exact hnd) (fun k hk => by rw [hall] at hk; obtain ⟨i, _, hl⟩ := hlab k hk; exact (hr.llt k _ hl).1)).mono (fun e w' hp => ?_)
  obtain ⟨v, F, Z', rfl, hsame, hres, hFn, hFk, hZZ, hZ'⟩ := hp
  rw [hall] at hsame hFk hZ'
  have hc1 := hr.call1 X [] (fun i hi => hX i (by simpa using hi)) (r' := (s'.kill X).r) (by simpa using hsame) (fun i sz xs' hi => by
    simp only [St.kill] at hi
    split at hi
    · cases hi
    · rename_i hn
      exact .inl ⟨hi, hn, by simp⟩) (fun i sz xs hn hi => ⟨xs, by simp only [St.kill]; rw [if_neg hn]; exact hi⟩)
  have hlabn : ∀ k, (w.heap.size ≤ k ∨ k ∈ X.flatMap L.ν) → (if k ∈ X.flatMap L.ν then none else L.lab k) = none := fun k hk => by
    split
    · rfl
    · rename_i hn
      rcases hk with hk | hk
      · cases e : L.lab k with
        | none => rfl
        | some l => have := (hr.llt k l e).1; omega
      · exact absurd hk hn
  have hIw : ∀ k, (w.heap.size ≤ k ∨ k ∈ X.flatMap L.ν) → w0.heap.size ≤ k ∨ k ∈ I.I := fun k hk => by
    rcases hk with hk | hk
    · exact .inl (Nat.le_trans hr.same.size hk)
    · obtain ⟨i, _, hl⟩ := hlab k hk
      exact (hr.llt k _ hl).2
  have hc2 := hc1.widen Z' (fun k hk => by
    obtain ⟨g1, g2, g3⟩ := hZ' k hk
    rcases g3 with g3 | g3
    · refine ⟨g1, ?_, hr.zi k g3⟩
      have := (hr.zlt k g3).2
      simp only [this, ite_self]
    · exact ⟨g1, hlabn k g3, .inr (hIw k g3)⟩)
  have hfr : ∀ i, rid ≤ i → i < rid + pSize PA.size res → s'.r i = none := fun i h1 h2 => by
    obtain ⟨h3, h4⟩ := hf.get i h1 h2
    exact (ag.m i h3).trans h4
  obtain ⟨L', hrel, hav⟩ := takeR (id := rid) hc2 (hres.up (fun _ h => .inr h)) (fun k hk => by
    refine ⟨hlabn k (hFk k hk), fun hz => ?_, hIw k (hFk k hk)⟩
    rcases hz with hz | hz
    · exact (hZ' k (hZZ k hz)).2.1 hk
    · exact (hZ' k hz).2.1 hk) hFn (fun i h1 h2 => by
    simp only [St.kill]
    split
    · rfl
    · exact hfr i h1 h2) hpin
  have hfin := hrel.put hd hav
  exact hK _ _ _ (by rw [Dl.app, killd_rec]; exact hfin)
end
theorem endsS {P : Program} {s : St} {rs : List ResultVar} {res : List PA} (avs : List AV) (K : List Nat) (h1 : RvAs P s rs avs) (h2 : GPasS s avs res K) (h3 : K.Nodup) : RetS P rs res .ret s := ⟨avs, K, h1, h2, h3⟩
theorem endsS' {P : Program} {s : St} {rs : List ResultVar} {res : List PA} (avs : List AV) (K : List Nat) (h1 : RvAs P s rs avs) (h2 : GPasS s avs res K) (h3 : K.Nodup) : RetS P rs res .normal s := ⟨avs, K, h1, h2, h3⟩
end Go.Rl

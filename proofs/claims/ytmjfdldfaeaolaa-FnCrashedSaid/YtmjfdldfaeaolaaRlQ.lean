/- R, part Q: from a body to a promise. -/
import Derived.Test.YtmjfdldfaeaolaaRlP
namespace Go.Rl
open Go.RowKit

/-- Nothing shared lies in it. -/
inductive Clean : PV → Prop where
  | v (x : Value) : Clean (.v x)
  | sl (sz : Nat) (xs : List (List PV)) (h : ∀ es ∈ xs, ∀ p ∈ es, Clean p) : Clean (.sl true sz xs)
theorem FlatP.clean {xs : List (List PV)} (h : FlatP xs) : ∀ es ∈ xs, ∀ p ∈ es, Clean p := fun es he p hp => by
  have := h es he p hp
  cases p with
  | v x => exact .v x
  | _ => cases this
theorem PVO.clean {Z : Nat → Prop} {w : World} {p : PV} {v : Value} {N : List Nat} (h : PVO Z w p v N) (hc : Clean p) : PVO no w p v N := by
  induction h with
  | v x h => exact .v x h
  | fro sz xs v h => cases hc
  | clo f xs v h => cases hc
  | nil sz A => exact .nil sz A
  | own sz xs k c cur ty hlen hk hsz hc' hm u n hcell hp ih =>
    cases hc with
    | sl _ _ hx =>
      refine .own sz xs k c cur ty hlen hk hsz hc' hm u n hcell (fun j p hj => ih j p hj ?_)
      obtain ⟨es, h1, h2⟩ := List.mem_flatten.1 (List.mem_of_getElem? hj)
      exact hx es h1 p h2

/-- The value of a result. -/
inductive RvA (P : Program) (s : St) : ResultVar → AV → Prop where
  | tmp {t : Tmp} {av : AV} (h : s.t t = av) : RvA P s (.tmp t) av
  | cell1 {a : Tmp} {ty : TypeId} {b off : Nat} {cs : List AV} {av : AV} (h : s.t a = .ptr b off) (hb : s.b b = some cs) (hag : ∀ w, (isAgg ty).run P w = .ok false w) (hav : cs[off]? = some av) : RvA P s (.cell a ty) av
  | cell {a : Tmp} {ty : TypeId} {b off sz : Nat} {cs : List AV} (h : s.t a = .ptr b off) (hb : s.b b = some cs) (hag : ∀ w, (isAgg ty).run P w = .ok true w) (hsz : ∀ w, (sizeOf ty).run P w = .ok sz w) (hl : off + sz ≤ cs.length) : RvA P s (.cell a ty) (.agg ((cs.drop off).take sz))
inductive RvAs (P : Program) (s : St) : List ResultVar → List AV → Prop where
  | nil : RvAs P s [] []
  | cons {r : ResultVar} {av : AV} {rs : List ResultVar} {avs : List AV} (h : RvA P s r av) (t : RvAs P s rs avs) : RvAs P s (r :: rs) (av :: avs)
inductive GPa (s : St) : AV → PA → List Nat → Prop where
  | one {av : AV} {p : PV} {K : List Nat} (g : Gv s av p K) (hc : Clean p) : GPa s av (.one p) K
  | agg {cs : List AV} {ps : List PV} {K : List Nat} (g : Gvs s cs ps K) (hc : ∀ p ∈ ps, Clean p) : GPa s (.agg cs) (.agg ps) K
  | rptr {id sz : Nat} {ps : List PV} (hr : s.r id = some (sz, [ps])) (hc : ∀ p ∈ ps, Clean p) : GPa s (.ea id 0 0) (.rptr sz ps) [id]
inductive GPas (s : St) : List AV → List PA → List Nat → Prop where
  | nil : GPas s [] [] []
  | cons {av : AV} {p : PA} {K : List Nat} {avs : List AV} {ps : List PA} {K' : List Nat} (h : GPa s av p K) (t : GPas s avs ps K') : GPas s (av :: avs) (p :: ps) (K ++ K')
def OutsOk (s : St) (K : List Nat) : List (Nat × Nat) → List (Option (List (List PV))) → Prop
  | x :: os, o :: outs => (match o with
    | none => True
    | some xs' => s.r x.1 = some (x.2, xs') ∧ FlatP xs' ∧ x.1 ∉ K) ∧ OutsOk s K os outs
  | _, _ => True
theorem OutsOk.get {s : St} {K : List Nat} : ∀ {os : List (Nat × Nat)} {outs : List (Option (List (List PV)))} (_ : OutsOk s K os outs) {i : Nat} {x : Nat × Nat} {xs'} (_ : os[i]? = some x) (_ : outs[i]? = some (some xs')), s.r x.1 = some (x.2, xs') ∧ FlatP xs' ∧ x.1 ∉ K
  | [], _, _, i, x, _, h, _ => by simp at h
  | _ :: _, [], _, i, x, _, _, h => by simp at h
  | y :: os, o :: outs, h, i, x, xs', h1, h2 => by
    simp only [OutsOk] at h
    cases i with
    | zero => simp at h1 h2; subst h1 h2; exact h.1
    | succ i => simp at h1 h2; exact OutsOk.get h.2 h1 h2

theorem cells_of_PS {Z : Nat → Prop} {w : World} {p : PV} {v : Value} {E : List Leaf} (h : PS Z w p v E) : v.oneCell' = true := by
  cases h with
  | own h => exact h.one
  | nf _ h => exact h.one
/-- The leaves of arguments, and where they stand. -/
theorem own_at {Z : Nat → Prop} {w : World} : ∀ {ps : List PV} {vs : List Value} {E : List Leaf} (_ : PSs Z w ps vs E) {id : Nat}, E.length = (ownC id ps).length ∧ ∀ (i : Nat) lf, E[i]? = some lf → ∃ x, (ownC id ps)[i]? = some x ∧ x.2 = lf.sz ∧ ∃ xs, PVO Z w (.sl true lf.sz xs) lf.v lf.N := by
  intro ps
  induction ps with
  | nil => intro vs E h id; cases h; exact ⟨rfl, by simp⟩
  | cons p ps ih =>
    intro vs E h id
    cases h with
    | cons h1 ht =>
      rename_i v E vs E'
      obtain ⟨g1, g2⟩ := ih ht (id := id + 1)
      cases h1 with
      | own h1 =>
        rename_i sz xs N
        refine ⟨by simp [ownC, g1], fun i lf hl => ?_⟩
        cases i with
        | zero => simp at hl; subst hl; exact ⟨(id, sz), rfl, rfl, xs, h1⟩
        | succ i => simp at hl; simpa [ownC] using g2 i lf hl
      | nf hn h1 =>
        have : ownC id (p :: ps) = ownC (id + 1) ps := by
          cases p with
          | sl o sz xs => simp [PV.nf] at hn; subst hn; rfl
          | _ => rfl
        rw [this]
        exact ⟨g1, g2⟩
theorem own_ats {Z : Nat → Prop} {w : World} {step : PA → Nat} : ∀ {ps : List PA} {vs : List Value} {E : List Leaf} (_ : PASs Z w ps vs E) {id : Nat}, E.length = (owns step id ps).length ∧ ∀ (i : Nat) lf, E[i]? = some lf → ∃ x, (owns step id ps)[i]? = some x ∧ x.2 = lf.sz ∧ ∃ xs, PVO Z w (.sl true lf.sz xs) lf.v lf.N := by
  intro ps
  induction ps with
  | nil => intro vs E h id; cases h; exact ⟨rfl, by simp⟩
  | cons p ps ih =>
    intro vs E h id
    cases h with
    | cons h1 ht =>
      rename_i v E vs E'
      obtain ⟨g1, g2⟩ := ih ht (id := id + step p)
      have key : E.length = (ownA id p).length ∧ ∀ (i : Nat) lf, E[i]? = some lf → ∃ x, (ownA id p)[i]? = some x ∧ x.2 = lf.sz ∧ ∃ xs, PVO Z w (.sl true lf.sz xs) lf.v lf.N := by
        cases h1 with
        | one h1 =>
          have := own_at (id := id) (.cons h1 .nil)
          simpa [ownA] using this
        | agg h1 => exact own_at h1
        | fbox => exact ⟨rfl, by simp⟩
        | rptr h1 =>
          refine ⟨rfl, fun i lf hl => ?_⟩
          cases i with
          | zero => simp at hl; subst hl; exact ⟨_, rfl, rfl, _, h1⟩
          | succ i => simp at hl
      refine ⟨by simp [owns, g1, key.1], fun i lf hl => ?_⟩
      simp only [owns]
      rcases Nat.lt_or_ge i E.length with h2 | h2
      · rw [List.getElem?_append_left h2] at hl
        rw [List.getElem?_append_left (by rw [← key.1]; exact h2)]
        exact key.2 i lf hl
      · rw [List.getElem?_append_right h2] at hl
        rw [List.getElem?_append_right (by rw [← key.1]; exact h2), ← key.1]
        exact g2 _ lf hl

def lkL : List AV → Nat → AV
  | [], _ => .undef
  | x :: _, 0 => x
  | _ :: l, q + 1 => lkL l q
theorem lkL_get : ∀ (l : List AV) (q : Nat), lkL l q = (l[q]?).getD .undef
  | [], _ => rfl
  | _ :: _, 0 => rfl
  | _ :: l, q + 1 => by simp [lkL, lkL_get l q]
/-- How a body begins. -/
def initS (args : List PA) : St := ⟨lkL (pAVs (fun _ => pinT) pinT args), fun _ => none, setRs (fun _ => none) (pRowss (fun _ => pinT) pinT args)⟩
/-- How a body is to end. -/
def Ends (P : Program) (rs : List ResultVar) (args : List PA) (outs : List (Option (List (List PV)))) (res : List PA) (s : St) : Prop :=
  ∃ avs K, RvAs P s rs avs ∧ GPas s avs res K ∧ K.Nodup ∧ OutsOk s K (owns (fun _ => pinT) pinT args) outs
def RetQ (P : Program) (rs : List ResultVar) (args : List PA) (outs : List (Option (List (List PV)))) (res : List PA) : Exit → St → Prop
  | .normal, s => Ends P rs args outs res s
  | .ret, s => Ends P rs args outs res s
  | _, _ => False

/-- The value of one result. -/
def resOne (tmps : Array Value) : ResultVar → Sem Value
  | .tmp t => pure (tmps.getD t undef)
  | .cell a t => do loadVar t (← asAddr (tmps.getD a undef))
section
variable {w0 : World} {I : Fr} {n : Nat} {L : Pl} {s : St} {a : Act} {w : World} {P : Program}
theorem RvA.ok (h : Rel w0 I n L s a w) {r : ResultVar} {av : AV} (g : RvA P s r av) : ∃ u, (resOne a.tmps r).run P w = .ok u w ∧ AVR L w s av u := by
  cases g with
  | tmp ht => exact ⟨_, rfl, ht ▸ h.tm _⟩
  | cell1 ht hb hag hav =>
    rename_i a0 ty b off cs
    have hv := h.tm a0
    rw [ht] at hv
    simp only [AVR] at hv
    obtain ⟨us, h1, h2⟩ := h.box hb
    obtain ⟨u, hu, ha⟩ := h1.get _ _ hav
    refine ⟨u, ?_, ha⟩
    simp only [resOne, hv.2, asAddr, pure_bind]
    exact run_loadVar_one hag (h2 _ u hu)
  | cell ht hb hag hsz hl =>
    rename_i a0 ty b off sz cs
    have hv := h.tm a0
    rw [ht] at hv
    simp only [AVR] at hv
    obtain ⟨us, h1, h2⟩ := h.box hb
    have hlen := h1.length
    refine ⟨.agg ⟨(us.drop off).take sz⟩, ?_, ?_⟩
    · simp only [resOne, hv.2, asAddr, pure_bind]
      refine run_loadVar_agg hag hsz (us := (us.drop off).take sz) (by simp; omega) (fun j u hu => ?_)
      rw [List.getElem?_take] at hu
      split at hu
      · rw [List.getElem?_drop] at hu; exact h2 _ _ hu
      · cases hu
    · simp only [AVR]
      exact ⟨_, rfl, h1.sub off sz⟩
theorem RvAs.ok (h : Rel w0 I n L s a w) {rs : List ResultVar} {avs : List AV} (g : RvAs P s rs avs) : ∃ us, (rs.mapM (resOne a.tmps)).run P w = .ok us w ∧ AVRs L w s avs us := by
  induction g with
  | nil => exact ⟨[], rfl, by simp [AVRs]⟩
  | cons g _ ih =>
    obtain ⟨us, h1, h2⟩ := ih
    obtain ⟨u, h3, h4⟩ := g.ok h
    refine ⟨u :: us, ?_, by simp only [AVRs]; exact ⟨h4, h2⟩⟩
    rw [List.mapM_cons, Sem.run_bind, h3, Result.andThen_ok, Sem.run_bind, h1]
    rfl
theorem GPa.ok (h : Rel w0 I n L s a w) {av : AV} {p : PA} {K : List Nat} (g : GPa s av p K) {v : Value} (hv : AVR L w s av v) : ∃ F, PAS no w p v F ∧ Leaf.all F = K.flatMap L.ν := by
  have cell : ∀ {av p K v}, Gv s av p K → Clean p → AVR L w s av v → ∃ F, PS no w p v F ∧ Leaf.all F = K.flatMap L.ν := fun {av p K v} g hc hv => by
    have := (g.ok h hv).clean hc
    cases p with
    | v x =>
      have hK : K = [] := by cases g; rfl
      subst hK
      exact ⟨[], .nf rfl (by simpa using this), rfl⟩
    | sl o sz xs =>
      have ho : o = true := by cases hc; rfl
      subst ho
      exact ⟨_, .own this, by simp [Leaf.all]⟩
    | clo f xs => cases hc
  cases g with
  | one g hc =>
    obtain ⟨F, h1, h2⟩ := cell g hc hv
    exact ⟨F, .one h1, h2⟩
  | agg g hc =>
    rename_i cs ps
    simp only [AVR] at hv
    obtain ⟨us, rfl, hv⟩ := hv
    have : ∀ {cs ps K us}, Gvs s cs ps K → (∀ p ∈ ps, Clean p) → AVRs L w s cs us → ∃ F, PSs no w ps us F ∧ Leaf.all F = K.flatMap L.ν := fun {cs ps K us} g => by
      induction g generalizing us with
      | nil =>
        intro _ hv
        cases us with
        | nil => exact ⟨[], .nil, rfl⟩
        | cons _ _ => simp [AVRs] at hv
      | cons g _ ih =>
        intro hc hv
        cases us with
        | nil => simp [AVRs] at hv
        | cons u us =>
          simp only [AVRs] at hv
          obtain ⟨F, h1, h2⟩ := cell g (hc _ (by simp)) hv.1
          obtain ⟨F', h3, h4⟩ := ih (fun p hp => hc p (by simp [hp])) hv.2
          exact ⟨F ++ F', .cons h1 h3, by simp only [Leaf.all, List.flatMap_append] at h2 h4 ⊢; rw [h2, h4]⟩
    obtain ⟨F, h1, h2⟩ := this g hc hv
    exact ⟨F, .agg h1, h2⟩
  | rptr hr hc =>
    rename_i id sz ps
    simp only [AVR] at hv
    obtain ⟨sz', xs', k, m, c, e1, e2, e3, rfl⟩ := hv
    rw [hr] at e1
    cases e1
    have hp := (h.rw _ _ _ hr).1
    have hm := pvo_own_len hp _ _ _ e3
    simp only [List.length_cons, List.length_nil] at hm
    subst hm
    rw [e3] at hp
    simp only [Nat.zero_mul, Nat.add_zero]
    exact ⟨_, .rptr (hp.clean (.sl _ _ (fun es he => by simp only [List.mem_singleton] at he; subst he; exact hc))), by simp [Leaf.all]⟩
theorem GPas.ok (h : Rel w0 I n L s a w) {avs : List AV} {ps : List PA} {K : List Nat} (g : GPas s avs ps K) : ∀ {us : List Value} (_ : AVRs L w s avs us), ∃ F, PASs no w ps us F ∧ Leaf.all F = K.flatMap L.ν := by
  induction g with
  | nil =>
    intro us hv
    cases us with
    | nil => exact ⟨[], .nil, rfl⟩
    | cons _ _ => simp [AVRs] at hv
  | cons g _ ih =>
    intro us hv
    cases us with
    | nil => simp [AVRs] at hv
    | cons u us =>
      simp only [AVRs] at hv
      obtain ⟨F, h1, h2⟩ := g.ok h hv.1
      obtain ⟨F', h3, h4⟩ := ih hv.2
      exact ⟨F ++ F', .cons h1 h3, by simp only [Leaf.all, List.flatMap_append] at h2 h4 ⊢; rw [h2, h4]⟩
theorem GPas.rows {avs : List AV} {ps : List PA} {K : List Nat} (g : GPas s avs ps K) : ∀ i ∈ K, (s.r i).isSome := by
  have one : ∀ {av p K}, GPa s av p K → ∀ i ∈ K, (s.r i).isSome := fun {av p K} g => by
    cases g with
    | one g _ =>
      intro i hi
      cases g with
      | row hr hl => simp at hi; subst hi; rw [hr]; rfl
      | pre hr hl hn => simp at hi; subst hi; rw [hr]; rfl
      | _ => simp at hi
    | agg g _ => exact g.rows
    | rptr hr _ => intro i hi; simp at hi; subst hi; rw [hr]; rfl
  induction g with
  | nil => simp
  | cons g _ ih =>
    intro i hi
    rcases List.mem_append.1 hi with hi | hi
    · exact one g i hi
    · exact ih i hi
end

theorem head_nf {Z Z' : Nat → Prop} {w w' : World} {sz sz' : Nat} {xs xs' : List (List PV)} {v : Value} {N N' : List Nat} (h : PVO Z w (.sl true sz xs) v N) (h' : PVO Z' w' (.sl true sz' xs') v N') (hf : FlatP xs') : N = N' ∨ ∃ k m, N = k :: m ∧ N' = [k] := by
  have ht := tail_nf h' hf.nf
  cases h with
  | nil _ A =>
    generalize hv : Value.slice A 0 0 = v at h'
    cases h' with
    | nil => exact .inl rfl
    | own _ _ k' c' cur' ty' hlen' hk' hsz' hc' hm' u' m' hcell' hp' =>
      simp only [Value.slice.injEq] at hv
      omega
  | own _ _ k c cur ty hlen hk hsz hc hm u m hcell hp =>
    generalize hv : Value.slice (some ⟨k, 0, none⟩) xs.length c = v at h'
    cases h' with
    | nil =>
      simp only [Value.slice.injEq] at hv
      omega
    | own _ _ k' c' cur' ty' hlen' hk' hsz' hc' hm' u' m' hcell' hp' =>
      simp only [Value.slice.injEq, Option.some.injEq, Addr.mk.injEq, and_true] at hv
      obtain ⟨rfl, _⟩ := hv
      simp only [List.tail_cons] at ht
      exact .inr ⟨k, _, rfl, by rw [ht]⟩

theorem PASs.length {Z : Nat → Prop} {w : World} {ps : List PA} {vs : List Value} {E : List Leaf} (h : PASs Z w ps vs E) : ps.length = vs.length := by
  induction h with
  | nil => rfl
  | cons _ _ ih => simp [ih]
theorem run_results {P : Program} {fn : Func} {rs : List ResultVar} (hrs : fn.results = rs.toArray) {tmps : Array Value} {us : List Value} {w : World} (h : (rs.mapM (resOne tmps)).run P w = .ok us w) : (results fn tmps).run P w = .ok (if h : us.length = 1 then us[0] else .tuple ⟨us⟩) w := by
  have e : results fn tmps = (rs.toArray.mapM (resOne tmps) >>= fun vs => pure (if h : vs.size = 1 then vs[0] else .tuple vs)) := by
    unfold results
    rw [hrs]
    congr 1
  rw [e, List.mapM_toArray]
  simp [h]
/-- What the body does is what the function promises. -/
theorem con_of_tr {γ : Gho} {P : Program} {f : FuncId} {fn : Func} {c : Code} {rs : List ResultVar} {args : List PA} {outs : List (Option (List (List PV)))} {res : List PA} (hf : P.funcs[f]? = some fn) (hb : fn.body = some c) (hrs : fn.results = rs.toArray) (hn' : Nat.ble args.length fn.ntmps = true) (hsz' : args.all (fun p => Nat.ble p.size pinT) = true)
    (h : Tr γ P fn.ntmps c (initS args) (RetQ P rs args outs res)) : ConG γ P f args outs res := by
  intro Z w vs E hG hp hZ hnd hlt
  have hn : args.length ≤ fn.ntmps := Nat.le_of_ble_eq_true hn'
  have hsz : ∀ p ∈ args, p.size ≤ pinT := fun p hp => Nat.le_of_ble_eq_true ((List.all_eq_true.1 hsz') p hp)
  refine calls_of_wp hf hb ?_
  have hlen : vs.length = args.length := by
    clear hG h hn hsz hn' hsz' hZ hnd hlt
    induction hp with
    | nil => rfl
    | cons _ _ ih => simp [ih]
  have hown0 := owns_in (step := fun _ => pinT) args pinT hsz
  have hpins : PinE (mkρ (owns (fun _ => pinT) pinT args) E) (owns (fun _ => pinT) pinT args) E := mkρ_ok hown0.1
  let I : Fr := ⟨Leaf.all E, mkρ (owns (fun _ => pinT) pinT args) E, fun _ => 0, Z⟩
  let a : Act := { tmps := (⟨vs⟩ : Array Value) ++ Array.replicate (fn.ntmps - (⟨vs⟩ : Array Value).size) undef, defers := [] }
  let L0 : Pl := ⟨Z, fun _ => 0, fun _ => undef, fun _ => [], fun _ => none⟩
  have hasz : a.tmps.size = fn.ntmps := by simp [a]; omega
  have h0 : Rel w I fn.ntmps L0 ⟨fun _ => .undef, fun _ => none, fun _ => none⟩ a w :=
    ⟨Same.refl _ w, fun k hk => ⟨(hZ k hk).1, rfl⟩, fun k l hk => by simp [L0] at hk, hasz, rfl, fun i => by simp [AVR], fun i cs hc => by simp at hc, fun i sz xs hx => by simp at hx, fun i _ hx => by simp at hx, fun i _ hx => by simp at hx, fun k hk => .inl hk⟩
  obtain ⟨L1, t1, a1⟩ := takeAs (step := fun _ => pinT) (id := pinT) h0 (vs := vs) (F := E) hp (fun k hk => ⟨rfl, fun hz => (hZ k hz).2 hk, .inr hk⟩) hnd hsz (fun _ _ _ => rfl) (.inr hpins)
  have h1 : Rel w I fn.ntmps L1 (initS args) a w := by
    refine ⟨t1.rel.same, t1.rel.zlt, t1.rel.llt, hasz, rfl, fun i => ?_, fun i cs hc => by simp [initS] at hc, fun i sz xs hx => t1.rel.rw i sz xs hx, t1.rel.pr, t1.rel.pb, t1.rel.zi⟩
    have hmv : Moves [] L1 L1 w w { t := fun _ => .undef, b := fun _ => none, r := setRs (fun _ => none) (pRowss (fun _ => pinT) pinT args) } (initS args) := ⟨fun k hk => ⟨hk, rfl⟩, fun _ k _ _ hk => ⟨.inr hk, rfl⟩, fun b hb => ⟨hb, rfl⟩, fun i sz xs _ hx => ⟨xs, hx, rfl, rfl⟩⟩
    simp only [initS]
    rw [lkL_get]
    cases hi : (pAVs (fun _ => pinT) pinT args)[i]? with
    | none => simp [AVR]
    | some av =>
      obtain ⟨u, hu, hr⟩ := a1.get i av hi
      have hui : a.tmps.getD i undef = u := by
        have hlt := (List.getElem?_eq_some_iff.1 hu).1
        have : a.tmps[i]? = some u := by
          simp only [a]
          rw [Array.getElem?_append_left (by simpa using hlt)]
          simpa using hu
        simp [this]
      rw [hui]
      exact hr.move0 hmv
  refine wp_mono (h w I L1 a w hG h1) (fun e a' w' ⟨s', L', hq, hr⟩ => ?_)
  have fin : Ends P rs args outs res s' → a'.defers = [] ∧ ∃ v, (results fn a'.tmps).run P w' = .ok v w' ∧ ∃ v' F, Ending.returned v = .returned v' ∧ Same (Leaf.all E) w w' ∧
      (∀ (i : Nat) lf xs', E[i]? = some lf → outs[i]? = some (some xs') → FlatP xs' ∧ ∃ N, PVO no w' (.sl true lf.sz xs') lf.v N) ∧
      RES no w' res v' F ∧ (Leaf.all F).Nodup ∧ ∀ k ∈ Leaf.all F, w.heap.size ≤ k ∨ ∃ (i : Nat) (lf : Leaf), E[i]? = some lf ∧ k ∈ lf.N ∧ ∀ xs', outs[i]? = some (some xs') → k ∈ lf.N.tail := by
    rintro ⟨avs, K, hrv, hg, hKn, hout⟩
    obtain ⟨us, hrun, hav⟩ := hrv.ok hr
    obtain ⟨F, hF, hFK⟩ := hg.ok hr hav
    obtain ⟨hown1, hown2⟩ := own_ats hp (step := fun _ => pinT) (id := pinT)
    have hrl := hF.length
    have hres := run_results hrs hrun
    have kept : ∀ (i : Nat) lf xs', E[i]? = some lf → outs[i]? = some (some xs') → ∃ id, s'.r id = some (lf.sz, xs') ∧ FlatP xs' ∧ id ∉ K ∧ L'.ρ id = lf.v ∧ ∃ xs, PVO Z w (.sl true lf.sz xs) lf.v lf.N := fun i lf xs' hi ho => by
      obtain ⟨x, e1, e2, e4⟩ := hown2 i lf hi
      have e3 := hpins.get e1 hi
      obtain ⟨g1, g2, g3⟩ := hout.get e1 ho
      have hpx : pinT ≤ x.1 := hown0.2 x (List.mem_of_getElem? e1)
      exact ⟨x.1, by rw [← e2]; exact g1, g2, g3, (hr.pr x.1 hpx (by rw [g1]; rfl)).trans e3, e4⟩
    refine ⟨hr.df, _, hres, _, F, rfl, hr.same, fun i lf xs' hi ho => ?_, ?_, by rw [hFK]; exact (hr.nodup hKn hg.rows).1, fun k hk => ?_⟩
    · obtain ⟨id, g1, g2, g3, g4, _⟩ := kept i lf xs' hi ho
      refine ⟨g2, L'.ν id, ?_⟩
      have := (hr.rw id _ _ g1).1
      rw [g4] at this
      exact this.clean (.sl _ _ g2.clean)
    · split
      · rename_i h1
        cases hF with
        | nil => simp at h1
        | cons hF1 hF2 =>
          cases hF2 with
          | nil => rw [List.append_nil]; exact .one hF1
          | cons _ _ => simp at h1
      · rename_i h1
        exact .more (by rw [hrl]; exact h1) hF
    · rw [hFK] at hk
      obtain ⟨j, hj, hl⟩ := (hr.nodup hKn hg.rows).2 k hk
      rcases (hr.llt k _ hl).2 with h2 | h2
      · exact .inl h2
      · obtain ⟨lf, hlf, hkl⟩ := List.mem_flatMap.1 h2
        obtain ⟨i, hi⟩ := List.getElem?_of_mem hlf
        refine .inr ⟨i, lf, hi, hkl, fun xs' ho => ?_⟩
        obtain ⟨id, g1, g2, g3, g4, xs, g5⟩ := kept i lf xs' hi ho
        obtain ⟨r1, r2, r3⟩ := hr.rw id _ _ g1
        rw [g4] at r1
        have hne : k ∉ L'.ν id := fun hx => by
          rw [r3 k hx] at hl
          simp only [Option.some.injEq, Lab.row.injEq] at hl
          subst hl
          exact g3 hj
        rcases head_nf g5 r1 g2 with e | ⟨k0, m, e1, e2⟩
        · rw [e] at hkl; exact absurd hkl hne
        · rw [e1] at hkl ⊢
          rcases List.mem_cons.1 hkl with rfl | h3
          · rw [e2] at hne; simp at hne
          · exact h3
  cases e with
  | normal => exact fin hq
  | ret => exact fin hq
  | _ => exact hq.elim
end Go.Rl

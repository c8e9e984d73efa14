/- Promises of functions, proved by walks over their operations; no conditions beyond those that each theorem states. -/
import Derived.Test.YtfdebanfenlglaaRnB
import Derived.Test.YtfdebanfenlglaaReD
import Derived.RangeFuncBox
import Derived.RangeFuncLeaves
import Derived.Shelf.Abstract
import Derived.WalkKit
import Derived.OwnWalkIn
import Derived.TacticsInMore
import Derived.LoopNIn
import Derived.LoopIn
import Derived.Test.YtfdebanfenlglaaProg
set_option linter.unusedSimpArgs false
set_option linter.unusedVariables false
namespace Go.Rl
open Go.RowKit
theorem leaves0 {F : Fence} {n : Nat} {P : Program} {fn : Func} {tmps : Array Value} {R : Ending → World → Prop} {w : World} {v : Value} (hv : Sem.run P (results fn tmps) w = .ok v w) (hR : R (.returned v) w) : LeavesInM F n P fn tmps R [] .returning w := by
  unfold LeavesInM LeavesIn
  exact ⟨v, hv, hR⟩
theorem leaves1 {F : Fence} {n : Nat} {P : Program} {fn : Func} {tmps : Array Value} {R : Ending → World → Prop} {w : World} {D : Nat} (hK : w.heap[D]? = some (.deferred (some []))) (h : LeavesInM F n P fn tmps R [] .returning (w.putObj D (.deferred none))) : LeavesInM F n P fn tmps R [{ target := .collected D, args := #[] }] .returning w := by
  unfold LeavesInM
  refine ⟨by simp, .inl ⟨_, _, rfl, run_takeDeferred hK, ?_⟩⟩
  exact h
/-- As Tr, where what comes may have left one deferred entry. -/
def TrR (γ : Gho) (P : Program) (n : Nat) (c : Code) (s : St) (Q : Exit → St → Prop) : Prop :=
  ∀ w0 I L a w, I.df = [] → (∀ k, I.Z k → k < w0.heap.size) → Gh γ w0 I.I → Rel w0 I n L s a w → c.wp P (fun e a' w' => ∃ s' L', Q e s' ∧ (Rel w0 I n L' s' a' w' ∨ ∃ D, a'.defers = [{ target := .collected D, args := #[] }] ∧ w0.heap.size ≤ D ∧ w'.heap[D]? = some (.deferred (some [])) ∧ Rel w0 ⟨I.I, I.ρ, I.β, I.Z, [{ target := .collected D, args := #[] }]⟩ n L' s' a' w')) a w
theorem trR_seq {γ : Gho} {P : Program} {n : Nat} {x y : Code} {s : St} {Q : Exit → St → Prop} (h : Tr γ P n x s (thn (fun s' => TrR γ P n y s' Q) Q)) : TrR γ P n (.seq x y) s Q := fun w0 I L a w hd hz hG hr => by
  refine wp_seq (wp_mono (h w0 I L a w hG hr) (fun e a' w' ⟨s', L', h1, h2⟩ => ?_))
  cases e with
  | normal => exact h1 w0 I L' a' w' hd hz hG h2
  | _ => exact ⟨s', L', h1, .inl h2⟩
/-- What the body does is what the function promises. -/
theorem con_of_trR {γ : Gho} {P : Program} {f : FuncId} {fn : Func} {c : Code} {rs : List ResultVar} {args : List PA} {outs : List (Option (List (List PV)))} {res : List PA} (hf : P.funcs[f]? = some fn) (hb : fn.body = some c) (hrs : fn.results = rs.toArray) (hn' : Nat.ble args.length fn.ntmps = true) (hsz' : args.all (fun p => Nat.ble p.size pinT) = true)
    (h : TrR γ P fn.ntmps c (initS args) (RetSG P rs args outs res)) : ConSG γ P f args outs res := by
  intro Z w vs E hG hp hZ hnd hlt
  have hn : args.length ≤ fn.ntmps := Nat.le_of_ble_eq_true hn'
  have hsz : ∀ p ∈ args, p.size ≤ pinT := fun p hp => Nat.le_of_ble_eq_true ((List.all_eq_true.1 hsz') p hp)
  refine callsIn_wide.1 (callsIn_of_wp_marks (F := Fence.wide) (n := 6) hf hb trivial ?_ rfl)
  refine wpIn_wide.2 ?_
  have hlen : vs.length = args.length := by
    clear hG h hn hsz hn' hsz' hZ hnd hlt
    induction hp with
    | nil => rfl
    | cons _ _ ih => simp [ih]
  have hown0 := owns_in (step := fun _ => pinT) args pinT hsz
  have hpins : PinE (mkρ (owns (fun _ => pinT) pinT args) E) (owns (fun _ => pinT) pinT args) E := mkρ_ok hown0.1
  let I : Fr := ⟨Leaf.all E, mkρ (owns (fun _ => pinT) pinT args) E, fun _ => 0, Z, []⟩
  let a : Act := { tmps := (⟨vs⟩ : Array Value) ++ Array.replicate (fn.ntmps - (⟨vs⟩ : Array Value).size) undef, defers := [] }
  let L0 : Pl := ⟨Z, fun _ => 0, fun _ => undef, fun _ => [], fun _ => none⟩
  have hasz : a.tmps.size = fn.ntmps := by simp [a]; omega
  have h0 : Rel w I fn.ntmps L0 ⟨fun _ => .undef, fun _ => none, fun _ => none⟩ a w :=
    ⟨Same.refl _ w, fun k hk => ⟨(hZ k hk).1, rfl⟩, fun k l hk => by simp [L0] at hk, hasz, rfl, fun i => by simp [AVR], fun i cs hc => by simp at hc, fun i sz xs hx => by simp at hx, fun i _ hx => by simp at hx, fun i _ hx => by simp at hx, fun k hk => .inl hk⟩
  obtain ⟨L1, t1, a1⟩ := takeAs (step := fun _ => pinT) (id := pinT) h0 (vs := vs) (F := E) hp (fun k hk => ⟨rfl, fun hz => (hZ k hz).2 hk, .inr hk⟩) hnd hsz (fun _ _ _ => rfl) (.inr hpins)
  have h1 : Rel w I fn.ntmps L1 (initS args) a w := by
    refine ⟨t1.rel.same, t1.rel.zlt, t1.rel.llt, hasz, rfl, fun i => ?_, fun i cs hc => by simp [initS] at hc, fun i sz xs hx => t1.rel.rw i sz xs hx, t1.rel.pr, t1.rel.pb, t1.rel.zi⟩
    have hmv : Moves [] L1 L1 w w { t := fun _ => .undef, b := fun _ => none, r := setRs (fun _ => none) (pRowss (fun _ => pinT) pinT args) } (initS args) := ⟨fun k hk => ⟨hk, rfl⟩, fun _ k _ _ hk => ⟨.inr hk, rfl⟩, fun b hb => ⟨hb, rfl⟩, fun i sz xs _ hx => ⟨xs, hx, rfl, rfl⟩⟩
    simp only [initS]
    rw [lkL_get]
    cases hi : (pAVs (fun _ => pinT) pinT args)[i]? with
    | none => simp [AVR]
    | some av =>
      obtain ⟨u, hu, hr⟩ := a1.get i av hi
      have hui : a.tmps.getD i undef = u := by
        have hlt := (List.getElem?_eq_some_iff.1 hu).1
        have : a.tmps[i]? = some u := by
          simp only [a]
          rw [Array.getElem?_append_left (by simpa using hlt)]
          simpa using hu
        simp [this]
      rw [hui]
      exact hr.move0 hmv
  have fin : ∀ (ds : List Deferred) (L' : Pl) (s' : St) (a' : Act) (w' : World), Rel w ⟨I.I, I.ρ, I.β, I.Z, ds⟩ fn.ntmps L' s' a' w' → EndsSG P rs args outs res s' → ∃ v, (results fn a'.tmps).run P w' = .ok v w' ∧ ∃ v' F Z', Ending.returned v = .returned v' ∧ Same (Leaf.all E) w w' ∧
      (∀ (i : Nat) lf xs', E[i]? = some lf → outs[i]? = some (some xs') → FlatP xs' ∧ ∃ N, PVO no w' (.sl true lf.sz xs') lf.v N) ∧
      RES Z' w' res v' F ∧ (Leaf.all F).Nodup ∧ (∀ k ∈ Leaf.all F, w.heap.size ≤ k ∨ InE E outs k) ∧ (∀ k, Z k → Z' k) ∧ ∀ k, Z' k → k < w'.heap.size ∧ k ∉ Leaf.all F ∧ (Z k ∨ ((w.heap.size ≤ k ∨ InE E outs k) ∧ Cl w' k)) := by
    rintro ds L' s' a' w' hr ⟨avs, K, hrv, hg, hKn, hout⟩
    obtain ⟨us, hrun, hav⟩ := hrv.ok hr
    obtain ⟨F, hF, hFK⟩ := hg.ok hr hav
    obtain ⟨hown1, hown2⟩ := own_ats hp (step := fun _ => pinT) (id := pinT)
    have hrl := hF.length
    have hres := run_results hrs hrun
    have hfk : ∀ k ∈ Leaf.all F, ∃ j ∈ K, L'.lab k = some (.row j) := fun k hk => by
      rw [hFK] at hk
      exact (hr.nodup hKn hg.rows).2 k hk
    have kept : ∀ (i : Nat) lf xs', E[i]? = some lf → outs[i]? = some (some xs') → ∃ id, s'.r id = some (lf.sz, xs') ∧ FlatP xs' ∧ id ∉ K ∧ L'.ρ id = lf.v ∧ ∃ xs, PVO Z w (.sl true lf.sz xs) lf.v lf.N := fun i lf xs' hi ho => by
      obtain ⟨x, e1, e2, e4⟩ := hown2 i lf hi
      have e3 := hpins.get e1 hi
      obtain ⟨g1, g2, g3⟩ := hout.get e1 ho
      have hpx : pinT ≤ x.1 := hown0.2 x (List.mem_of_getElem? e1)
      exact ⟨x.1, by rw [← e2]; exact g1, g2, g3, (hr.pr x.1 hpx (by rw [g1]; rfl)).trans e3, e4⟩
    have inE : ∀ k, k ∈ Leaf.all E → (∀ id, (∀ (i : Nat) (lf : Leaf) xs', E[i]? = some lf → outs[i]? = some (some xs') → k ∈ lf.N → L'.ρ id = lf.v → s'.r id = some (lf.sz, xs') → id ∉ K → k ∉ L'.ν id)) → InE E outs k := fun k hk hne => by
      obtain ⟨lf, hlf, hkl⟩ := List.mem_flatMap.1 hk
      obtain ⟨i, hi⟩ := List.getElem?_of_mem hlf
      refine ⟨i, lf, hi, hkl, fun xs' ho => ?_⟩
      obtain ⟨id, g1, g2, g3, g4, xs, g5⟩ := kept i lf xs' hi ho
      obtain ⟨r1, r2, r3⟩ := hr.rw id _ _ g1
      rw [g4] at r1
      have hne' : k ∉ L'.ν id := hne id i lf xs' hi ho hkl g4 g1 g3
      rcases head_nf g5 r1 g2 with e | ⟨k0, m, e1, e2⟩
      · rw [e] at hkl; exact absurd hkl hne'
      · rw [e1] at hkl ⊢
        rcases List.mem_cons.1 hkl with rfl | h3
        · rw [e2] at hne'; simp at hne'
        · exact h3
    refine ⟨_, hres, _, F, fun k => Z k ∨ L'.Z k, rfl, hr.same, fun i lf xs' hi ho => ?_, ?_, by rw [hFK]; exact (hr.nodup hKn hg.rows).1, fun k hk => ?_, fun k hk => .inl hk, fun k hk => ?_⟩
    · obtain ⟨id, g1, g2, g3, g4, _⟩ := kept i lf xs' hi ho
      refine ⟨g2, L'.ν id, ?_⟩
      have := (hr.rw id _ _ g1).1
      rw [g4] at this
      exact this.clean (.sl _ _ g2.clean)
    · refine RES.up (Z := L'.Z) ?_ (fun _ h => .inr h)
      split
      · rename_i h1
        cases hF with
        | nil => simp at h1
        | cons hF1 hF2 =>
          cases hF2 with
          | nil => rw [List.append_nil]; exact .one hF1
          | cons _ _ => simp at h1
      · rename_i h1
        exact .more (by rw [hrl]; exact h1) hF
    · obtain ⟨j, hj, hl⟩ := hfk k hk
      rcases (hr.llt k _ hl).2 with h2 | h2
      · exact .inl h2
      · refine .inr (inE k h2 (fun id i lf xs' _ _ _ _ g1 g3 hx => ?_))
        have := (hr.rw id _ _ g1).2.2 k hx
        rw [hl] at this
        simp only [Option.some.injEq, Lab.row.injEq] at this
        subst this
        exact g3 hj
    · rcases hk with hk | hk
      · refine ⟨Nat.lt_of_lt_of_le (hZ k hk).1 hr.same.size, fun hx => ?_, .inl hk⟩
        obtain ⟨j, _, hl⟩ := hfk k hx
        rcases (hr.llt k _ hl).2 with h2 | h2
        · have := (hZ k hk).1; omega
        · exact (hZ k hk).2 h2
      · refine ⟨(hr.zlt k hk).1, fun hx => ?_, ?_⟩
        · obtain ⟨j, _, hl⟩ := hfk k hx
          rw [(hr.zlt k hk).2] at hl
          cases hl
        · rcases hr.zi k hk with h2 | ⟨h2 | h2, hcl⟩
          · exact .inl h2
          · exact .inr ⟨.inl h2, hcl⟩
          · refine .inr ⟨.inr (inE k h2 (fun id i lf xs' _ _ _ _ g1 g3 hx => ?_)), hcl⟩
            have := (hr.rw id _ _ g1).2.2 k hx
            rw [(hr.zlt k hk).2] at this
            cases this
  refine wp_mono (h w I L1 a w rfl (fun k hk => (hZ k hk).1) hG h1) (fun e a' w' ⟨s', L', hq, hr⟩ => ?_)
  rcases hr with hr | ⟨D, hD, hDs, hK, hr⟩
  · have hdf : a'.defers = [] := hr.df
    have key := fin [] L' s' a' w' hr
    cases e with
    | normal =>
      obtain ⟨v, h1, h2⟩ := key hq
      show LeavesInM _ _ _ _ a'.tmps _ a'.defers _ w'
      rw [hdf]
      exact leaves0 h1 h2
    | ret =>
      obtain ⟨v, h1, h2⟩ := key hq
      show LeavesInM _ _ _ _ a'.tmps _ a'.defers _ w'
      rw [hdf]
      exact leaves0 h1 h2
    | _ => exact hq.elim
  · have hr2 := hr.grown (Nat.le_refl _) (fun k hk => (hZ k hk).1) (grownBy_putObj' w' D (.deferred none)) (fun r e => by cases e; exact ⟨hDs, _, hK, rfl⟩)
    have key := fin _ L' s' a' _ hr2
    cases e with
    | normal =>
      obtain ⟨v, h1, h2⟩ := key hq
      show LeavesInM _ _ _ _ a'.tmps _ a'.defers _ w'
      rw [hD]
      exact leaves1 hK (leaves0 h1 h2)
    | ret =>
      obtain ⟨v, h1, h2⟩ := key hq
      show LeavesInM _ _ _ _ a'.tmps _ a'.defers _ w'
      rw [hD]
      exact leaves1 hK (leaves0 h1 h2)
    | _ => exact hq.elim
end Go.Rl
namespace Go.Rl
open Go.RowKit Go.Proofs
theorem gh_root {γ : Gho} {w0 : World} {I : Fr} {n : Nat} {L : Pl} {s : St} {a : Act} {w : World} (hG : Gh γ w0 I.I) (h : Rel w0 I n L s a w) : Gh γ w (I.root L w).I := fun k ob e => by
  obtain ⟨g1, g2⟩ := hG k ob e
  have hlt := (Array.getElem?_eq_some_iff.1 g1).1
  refine ⟨(h.same.block k hlt g2).trans g1, fun hx => ?_⟩
  obtain ⟨l0, h0, _⟩ := root_mem hx
  rcases (h.llt k l0 h0).2 with h3 | h3
  · omega
  · exact g2 h3
end Go.Rl
namespace Go.Rl
open Go.RowKit Go.Proofs
theorem pvr_flag {Z : Nat → Prop} {w : World} {o : Bool} {sz : Nat} {xs : List (List PV)} {v : Value} (h : PVR Z w (.sl o sz xs) v) (o' : Bool) : PVR Z w (.sl o' sz xs) v := by
  cases h with
  | emp => exact .emp _ _ _ _
  | sl _ _ _ k off c hlen hc hz u hcell hp => exact .sl _ _ _ k off c hlen hc hz u hcell hp
/-- A row of its own that is given back may be shared. -/
theorem con_frz {P : Program} {f : FuncId} {args : List PA} {sz : Nat} {xs : List (List PV)} (h : Con P f args [] [.one (.sl true sz xs)]) : ConS P f args [.one (.sl false sz xs)] := by
  intro Z w vs E hp hZ hnd hlt
  refine Calls.mono (h Z w vs E (gh_none _ _) hp hZ hnd hlt) ?_
  rintro e w' ⟨v, F, rfl, hsame, _, hres, hndF, hF⟩
  cases hres with
  | more hl => simp at hl
  | one hpa =>
    cases hpa with
    | one hps =>
      cases hps with
      | nf hn _ => simp [PV.nf] at hn
      | own ho =>
        rename_i N
        have hN : ∀ k ∈ N, w.heap.size ≤ k ∨ k ∈ Leaf.all E := fun k hk => by
          rcases hF k (by simpa [Leaf.all] using hk) with h1 | ⟨i, lf, h1, h2, _⟩
          · exact .inl h1
          · exact .inr (List.mem_flatMap.2 ⟨lf, List.mem_of_getElem? h1, h2⟩)
        refine ⟨v, [], fun k => Z k ∨ k ∈ N, rfl, hsame, .one (.one (.nf rfl (.fro _ _ _ ?_))), by simp, by simp, fun k hk => .inl hk, fun k hk => ?_⟩
        · exact pvr_flag (ho.toR.mono (fun _ _ => rfl) (fun k hk => hk.elim (fun h => h.elim) .inr)) false
        · rcases hk with hk | hk
          · exact ⟨Nat.lt_of_lt_of_le (hZ k hk).1 hsame.size, by simp, .inl hk⟩
          · exact ⟨ho.lt k hk, by simp, .inr ⟨hN k hk, ho.cl k hk⟩⟩
/-- What shares nothing after all. -/
theorem con_of_SG {γ : Gho} {P : Program} {f : FuncId} {args : List PA} {outs : List (Option (List (List PV)))} {p : PV} (h : ConSG γ P f args outs [.one p]) (hc : Clean p) : ConG γ P f args outs [.one p] := by
  intro Z w vs E hG hp hZ hnd hlt
  refine Calls.mono (h Z w vs E hG hp hZ hnd hlt) ?_
  rintro e w' ⟨v, F, Z', rfl, hsame, hout, hres, hndF, hF, _, _⟩
  refine ⟨v, F, rfl, hsame, hout, ?_, hndF, hF⟩
  cases hres with
  | more hl => simp at hl
  | one hpa =>
    cases hpa with
    | one hps =>
      refine .one (.one ?_)
      cases hps with
      | nf hn ho => exact .nf hn (ho.clean hc)
      | own ho => exact .own (ho.clean hc)
theorem getD_bw {a : Act} {n : Nat} {ti tx : Tmp} {zs : List Int} {x : Fin zs.length} (hs : a.tmps.size = n) (hx : tx < n) : (bwAct a ti tx zs x).tmps.getD tx undef = .int .i64 (zs[x.1]'x.2) := by
  simp [bwAct, hs, hx]
/-- The state with which a round begins. -/
def St.bw (s : St) (ti tx d : Tmp) (zs : List Int) (x : Fin zs.length) : St :=
  ((s.put (some ti) (.p none (.v (.int .i64 (x.1 : Int))))).put (some tx) (.p none (.v (.int .i64 (zs[x.1]'x.2))))).put (some d) (.p none (.v (.int .i64 (zs[x.1]'x.2))))
def asgT (tx d : Tmp) (a : Act) : Act := a.put (some d) (a.eval (.tmp tx))
theorem rel_bw {n : Nat} {w0 : World} {I : Fr} {L : Pl} {s : St} {a : Act} {w : World} {ti tx d : Tmp} {zs : List Int} {x : Fin zs.length} (hdf : I.df = []) (h : Rel w0 I n L s a w) (h1 : ti < n) (h2 : tx < n) (h3 : d < n) :
    Rel w0 I n L (s.bw ti tx d zs x) (asgT tx d (bwAct a ti tx zs x)) w := by
  have hb : bwAct a ti tx zs x = (a.put (some ti) (.int .i64 (x.1 : Int))).put (some tx) (.int .i64 (zs[x.1]'x.2)) := by
    have := h.df
    rw [hdf] at this
    simp [bwAct, Act.put, this]
  have hv : (bwAct a ti tx zs x).eval (.tmp tx) = .int .i64 (zs[x.1]'x.2) := getD_bw h.sz h2
  unfold asgT St.bw
  rw [hv, hb]
  exact ((h.put (d := some ti) (fun y hy => by cases hy; exact h1) (avr_flat L w s rfl)).put (d := some tx) (fun y hy => by cases hy; exact h2) (avr_flat L w _ rfl)).put (d := some d) (fun y hy => by cases hy; exact h3) (avr_flat L w _ rfl)
theorem keeps_bw {kp : Nat → Bool} {a : Act} {ti tx d : Tmp} {zs : List Int} {x : Fin zs.length} (h1 : kp ti = false) (h2 : kp tx = false) (h3 : kp d = false) : keeps kp a (asgT tx d (bwAct a ti tx zs x)) := by
  unfold asgT
  refine keeps_put ?_ (fun y hy => by cases hy; exact h3)
  exact keeps_put (d := some tx) (keeps_put (d := some ti) (keeps_refl kp a) (fun y hy => by cases hy; exact h1)) (fun y hy => by cases hy; exact h2)
theorem wpIn_asgT {l nn : Nat} {P : Program} {id : Nat} {o : Oper} {tx d : Tmp} (ho : o.op = .assign (.tmp tx)) (hd : o.dst = some d) (hg : o.guard = none) (a : Act) (W : World) (K : Act → World → Prop) (hK : K (asgT tx d a) W) : (Code.region id #[o] false).wpIn (Fw l) nn P (Exit.then K fun _ _ _ => False) a W := by
  refine wpIn_region ?_
  show wpOpsIn _ _ _ _ _ [0] a W
  rw [wpOpsIn_cons]
  unfold wpOpIn
  have hw : Region.wanted o (yielded #[o] a.tmps) = true := by simp [Region.wanted, hg]
  simp only [List.getElem?_toArray, List.getElem?_cons_zero, hw, if_true]
  refine op_in (K := fun a' w' => K a' w') (Q := fun _ _ _ => False) (fun c => by rw [ho]; simp) ?_ (fun a' w' h => h)
  unfold Oper.wp
  simp only [execOp, ho, Sem.run_bind, Sem.run_pure]
  show K (a.put o.dst (a.eval (.tmp tx))) W
  rw [hd]
  exact hK
theorem trR_backward' {γ : Gho} {P : Program} {n : Nat} {gf : Nat} (hC : Bw.Contract P gf) (hEn : ∀ (args : Array Value) (w : World), Sem.run P (callFunc gf args) w = .ok (.enter gf args) w) {id : Nat} {tf ti tx : Tmp} {pre0 assign body rest : Code} {zs : List Int} {o : Bool} (hz : zs.length ≤ 1000000000)
    (S : List (Fin zs.length) → St) (B : List (Fin zs.length) → Fin zs.length → St) (kp : Nat → Bool) (asg : Act → Act)
    (hf : ∀ pre, (S pre).t tf = .p none (.clo gf [[.sl o 1 (pvI zs)]]))
    (hassign : ∀ l nn (a0 : Act) W (K : Act → World → Prop), K (asg a0) W → assign.wpIn (Fw l) nn P (Exit.then K fun _ _ _ => False) a0 W)
    (hB : ∀ pre x w0 I L a W, I.df = [] → Rel w0 I n L (S pre) a W → Rel w0 I n L (B pre x) (asg (bwAct a ti tx zs x)) W)
    (hkp : ∀ a x, keeps kp a (asg (bwAct a ti tx zs x)))
    (round : ∀ l nn (pre : List (Fin zs.length)) x, pre.length < zs.length → TrI kp l nn γ P n body (B pre x) (fun e s' => e = .normal ∧ Wk n (s'.keepT kp) (S (pre ++ [x]))))
    {s0 : St} {Q : Exit → St → Prop} (hpre : Tr γ P n pre0 s0 (thn (fun s' => Wk n s' (S [])) Q)) (hrest : Tr γ P n rest (S (Bw.upto zs zs.length)) Q) :
    TrR γ P n (.seq (.seq pre0 (.block id (.rangeFunc (.tmp tf) #[ti, tx] assign body))) rest) s0 Q := fun w0 I L a w hd hZ hG hr => by
  refine wp_seq (wp_seq (wp_mono (hpre w0 I L a w hG hr) ?_))
  rintro e a' w' ⟨s', L', h1, h2⟩
  cases e with
  | normal =>
    obtain ⟨L2, hr⟩ := h1 w0 I L' a' w' h2
    refine wp_block (wp_backward hC hEn hz S B kp asg hG hr hd hZ hf hassign (fun pre x L W h => hB pre x w0 I L a' W hd h) (hkp a') round ?_)
    intro D L1 W hD h1 hK
    show rest.wp P _ _ W
    have h2 : Rel w0 ⟨I.I, I.ρ, I.β, I.Z, [{ target := .collected D, args := #[] }]⟩ n L1 (S (Bw.upto zs zs.length)) { tmps := a'.tmps, defers := [{ target := .collected D, args := #[] }] } W :=
      { same := h1.same, zlt := h1.zlt, llt := h1.llt, sz := h1.sz, df := rfl, tm := h1.tm, bx := h1.bx, rw := h1.rw, pr := h1.pr, pb := h1.pb, zi := h1.zi }
    refine wp_mono (hrest W _ _ _ W (gh_root (I := ⟨I.I, I.ρ, I.β, I.Z, [{ target := .collected D, args := #[] }]⟩) hG h2) h2.root) ?_
    rintro e a' w' ⟨s', L', hq, h3⟩
    refine ⟨s', L', hq, .inr ⟨D, h3.df, Nat.le_trans hr.same.size hD, ?_, h2.unroot h3⟩⟩
    have hlt := (Array.getElem?_eq_some_iff.1 hK).1
    exact (h3.same.block D hlt (fun hx => by
      obtain ⟨_, _, c, t, z, hcl⟩ := root_mem hx
      rw [hcl] at hK
      cases hK)).trans hK
  | _ => exact ⟨s', L', h1, .inl h2⟩
end Go.Rl
namespace Go.Rl
open Go.Proofs
set_option maxRecDepth 1000000 in
set_option maxHeartbeats 2000000 in
theorem reverseE_con (l : List Ent) (hl : l.length ≤ 2000000) : Con Try.prog 142 [.one (.sl true 4 (pvE l))] [some (pvE l.reverse)] [] := by
  refine con_of_tr Try.func142 rfl rfl rfl rfl ?_
  have hle := pvE_length l
  refine tr_seq ?_
  refine tr_region rfl (.run [] [] rfl (st_move rfl) (.run [] [] rfl (st_len_row rfl rfl Try.underlying26) (.run [] [] rfl (st_subn rfl rfl rfl (by omega)) (.run [] [] rfl (st_assign rfl) (.run [] [] rfl (st_assign rfl) .nil))))) ?_
  refine tr_block ?_
  refine tr_loopS (σ := Nat × Nat × List Ent) (fun (i, k, m) => mk [(0, .sl 100000 0 ((pvE l).length)), (2, .p none (.v (.int .i64 (i:Int)))), (3, .p none (.v (.int .i64 ((k:Int) - 1))))] [] [(100000, 4, pvE m)]) (fun (i, k, m) => i + k = l.length ∧ i ≤ l.length ∧ (i ≤ k ∨ i = k + 1) ∧ Swapped l m i) (fun (i, k, m) => l.length - i) (0, l.length, l) ⟨by omega, Nat.zero_le _, .inl (Nat.zero_le _), swapped_zero l⟩ (wk_mk ⟨rfl, ⟨(int_eq (by omega)), ⟨(int_eq (by omega)), trivial⟩⟩⟩ trivial ⟨(congrArg (fun x => some (4, x)) (by rfl)), trivial⟩ rfl) ?_
  rintro ⟨i, k, m⟩ hG
  replace hG : i + k = l.length ∧ i ≤ l.length ∧ (i ≤ k ∨ i = k + 1) ∧ Swapped l m i := hG
  obtain ⟨hik, hi, hw, hS⟩ := hG
  have hml := hS.1
  have hle2 := pvE_length m
  refine tr_seq ?_
  refine tr_seq ?_
  refine tr_region rfl (.run [] [] rfl (st_move rfl) (.run [] [] rfl (st_move rfl) (.run [] [] rfl (st_lss rfl rfl rfl) .nil))) ?_
  refine tr_if (t := decide ((i:Int) < ((k:Int) - 1))) rfl (fun h1 => ?_) (fun h1 => ?_)
  · skip
    replace h1 := of_decide_eq_true h1
    refine tr_skip ?_
    refine tr_seq ?_
    refine tr_block ?_
    obtain ⟨x, hx⟩ : ∃ x, m[i]? = some x := ⟨_, List.getElem?_eq_getElem (by omega)⟩
    obtain ⟨y, hy⟩ : ∃ y, m[k - 1]? = some y := ⟨_, List.getElem?_eq_getElem (by omega)⟩
    refine tr_wk (s' := mk [(0, .sl 100000 0 ((pvE l).length)), (2, .p none (.v (.int .i64 (i:Int)))), (3, .p none (.v (.int .i64 ((k:Int) - 1))))] [] [(100000, 4, pvE m)]) ?_ ?_
    · exact wk_mk ⟨rfl, ⟨rfl, ⟨rfl, trivial⟩⟩⟩ trivial ⟨rfl, trivial⟩ rfl
    refine tr_regionD mixed rfl (.run [] [] rfl (st_move rfl) (.run [] [] rfl (st_move rfl) (.run [] [] rfl (st_move rfl) (.run [] [] rfl (st_eq (st_move rfl) (((show (AV.p none (.v (.int .i64 ((k:Int) - 1)))) = AV.p none (.v (.int .i64 ((k - 1 : Nat) : Int))) from int_eq (by omega))))) (.run [] [] rfl (st_move rfl) (.run [] [] rfl (st_eq (st_move rfl) (((show (AV.p none (.v (.int .i64 ((k:Int) - 1)))) = AV.p none (.v (.int .i64 ((k - 1 : Nat) : Int))) from int_eq (by omega))))) (.run [] [] rfl (st_idx_row0 (k - 1) rfl rfl rfl rfl Try.underlying26 Try.sizeOf44 rfl rfl (by omega)) (.run [] [] rfl (st_load_ea rfl rfl rfl (pvE_get hy) Try.isAgg44 Try.sizeOf44 (nle rfl)) (.run [] [] rfl (st_move rfl) (.run [] [] rfl (st_move rfl) (.run [] [] rfl (st_idx_row0 i rfl rfl rfl rfl Try.underlying26 Try.sizeOf44 rfl rfl (by omega)) (.run [] [] rfl (st_load_ea rfl rfl rfl (pvE_get hx) Try.isAgg44 Try.sizeOf44 (nle rfl)) (.run [] [] rfl (st_idx_row0 i rfl rfl rfl rfl Try.underlying26 Try.sizeOf44 rfl rfl (by omega)) (.run [] [] rfl (st_store_row rfl rfl rfl (FlatP.nf (pvE_flat _)) (pvE_get hx) rfl rfl (.cons .v (.cons .v (.cons .v (.cons .v .nil)))) Try.sizeOf44 rfl (nle rfl)) (.run [] [] rfl (st_idx_row0 (k - 1) rfl rfl rfl rfl Try.underlying26 Try.sizeOf44 rfl rfl (by omega)) (.run [] [] rfl (st_store_row rfl rfl rfl (FlatP.nf (FlatP.set (i := i) (cs := [PV.v (.string y.user), PV.v (.int .i64 y.seq), PV.v (.int .i64 y.kind), PV.v (.string y.value)]) (pvE_flat m) rfl)) (by rw [List.getElem?_set_ne (by omega)]; exact pvE_get hy) rfl rfl (.cons .v (.cons .v (.cons .v (.cons .v .nil)))) Try.sizeOf44 rfl (nle rfl)) .nil)))))))))))))))) (by kernel_rfl) ?_
    refine tr_wk (s' := mk [(0, .sl 100000 0 ((pvE l).length)), (2, .p none (.v (.int .i64 (i:Int)))), (3, .p none (.v (.int .i64 ((k:Int) - 1))))] [] [(100000, 4, ((pvE m).set i [PV.v (.string y.user), PV.v (.int .i64 y.seq), PV.v (.int .i64 y.kind), PV.v (.string y.value)]).set (k - 1) [PV.v (.string x.user), PV.v (.int .i64 x.seq), PV.v (.int .i64 x.kind), PV.v (.string x.value)])]) ?_ ?_
    · exact wk_mk ⟨rfl, ⟨rfl, ⟨rfl, trivial⟩⟩⟩ trivial ⟨rfl, trivial⟩ rfl
    refine tr_region rfl (.run [] [] rfl (st_move rfl) (.run [] [] rfl (st_addn rfl rfl rfl (by omega)) (.run [] [] rfl (st_move rfl) (.run [] [] rfl (st_subn rfl rfl rfl (by omega)) (.run [] [] rfl (st_assign rfl) (.run [] [] rfl (st_assign rfl) .nil)))))) ?_
    refine nxt (Q := fun _ _ => False) (z := (i, k, m)) (i + 1, k - 1, (m.set i y).set (k - 1) x) ?_ ?_ ?_
    · show (i + 1) + (k - 1) = l.length ∧ (i + 1) ≤ l.length ∧ ((i + 1) ≤ (k - 1) ∨ (i + 1) = (k - 1) + 1) ∧ Swapped l ((m.set i y).set (k - 1) x) (i + 1)
      exact ⟨by omega, by omega, by omega, swapped_next hS (by omega) (by omega) hx hy⟩
    · show l.length - (i + 1) < l.length - i
      omega
    · exact wk_mk ⟨rfl, ⟨(int_eq (by omega)), ⟨(int_eq (by omega)), trivial⟩⟩⟩ trivial ⟨(congrArg (fun x => some (4, x)) (by exact pvE_set2)), trivial⟩ rfl
  · skip
    replace h1 := of_decide_eq_false h1
    refine tr_exit ?_
    exact ends' [] [] .nil .nil (by decide) (outs1 (congrArg (fun x => some (4, x)) (congrArg pvE (swapped_all hS (by omega)))) (pvE_flat _) (by decide))
set_option maxRecDepth 1000000 in
set_option maxHeartbeats 2000000 in
theorem l14Compacted_con (l : List Ent) (s : List Int) (b : Bool) (zs : List Int) (hzs : zs = needF l (pointsF s) l.length) (hl : l.length ≤ 2000000) (hs : s.length ≤ 2000000) : Con Try.prog 85 [.one (PV.sl false 4 (pvE l)), .one (PV.sl false 1 (pvI s)), .one (PV.v (.bool b))] [] [.one (.sl true 4 (pvE (compU l b zs zs.length)))] := by
  refine con_of_tr Try.func85 rfl rfl rfl rfl ?_
  have hle := pvE_length l
  have hls := pvI_length s
  have hlz := pvI_length zs
  have hzl : zs.length ≤ l.length := by rw [hzs]; exact needF_len _ _ _
  refine tr_seq ?_
  refine tr_region rfl (.run [] [] rfl (st_assign rfl) .nil) ?_
  refine tr_seq ?_
  refine tr_region rfl (.run [] [] rfl (st_move rfl) (.run [] [] rfl (st_move rfl) (.run [1400] [] rfl (st_call rfl 1400 (X := []) en71 rfl (.val nod) (.cons (.one (.bor (.sl nod))) (.cons (.one (.bor (.sl nod))) .nil)) (by decide) all_nil .nil ((by have h := l14Needed_con l s (by omega) (by omega); rw [← hzs] at h; exact h)) rfl rfl (nle rfl)) (.run [] [] rfl (st_assign rfl) .nil)))) ?_
  refine tr_seq ?_
  refine tr_region rfl (.run [1500] [] rfl (st_buildSlice rfl 1500 Try.underlying26 inf44 (nle rfl) (by decide) rfl rfl rfl .nil (by decide) rfl (by decide) rfl (by decide) rfl) (.run [] [] rfl (st_assign rfl) .nil)) ?_
  refine tr_seq ?_
  refine tr_seq ?_
  refine tr_region rfl (.run [] [] rfl (st_move rfl) (.run [] [] rfl (st_len_row rfl rfl Try.underlying23) (.run [] [] rfl (st_subn rfl rfl rfl (by omega)) (.run [] [] rfl (st_assign rfl) .nil)))) ?_
  refine tr_block ?_
  refine tr_wk (wk_ren 1500 1 rfl rfl (by decide)) ?_
  refine tr_loopS (σ := Nat) (fun i => mk [(0, .p none (.sl false 4 (pvE l))), (2, .p none (.v (.bool b))), (7, .sl 1400 0 ((pvI zs).length)), (8, .sl 1 0 ((pvE (compU l b zs (zs.length - i))).length)), (9, .p none (.v (.int .i64 ((i:Int) - 1))))] [] [(1, 4, pvE (compU l b zs (zs.length - i))), (1400, 1, pvI zs)]) (fun i => i ≤ zs.length) (fun i => i) zs.length (by simp) (wk_mk ⟨rfl, ⟨rfl, ⟨rfl, ⟨(congrArg (fun k => AV.sl 1 0 (pvE (compU l b zs k)).length) (Nat.sub_self _).symm), ⟨(int_eq (by rw [hlz])), trivial⟩⟩⟩⟩⟩ trivial ⟨(congrArg (fun x => some (4, x)) (by rw [Nat.sub_self]; rfl)), ⟨rfl, trivial⟩⟩ rfl) ?_
  rintro i hG
  replace hG : i ≤ zs.length := hG
  refine tr_seq ?_
  refine tr_seq ?_
  refine tr_region rfl (.run [] [] rfl (st_move rfl) (.run [] [] rfl (st_geq rfl rfl rfl) .nil)) ?_
  refine tr_if (t := decide (0 ≤ ((i:Int) - 1))) rfl (fun h1 => ?_) (fun h1 => ?_)
  · skip
    replace h1 := of_decide_eq_true h1
    refine tr_skip ?_
    refine tr_seq ?_
    refine tr_block ?_
    refine tr_seq ?_
    obtain ⟨z, hz⟩ : ∃ z, zs[i - 1]? = some z := ⟨_, List.getElem?_eq_getElem (by omega)⟩
    obtain ⟨q, rfl, hql⟩ : ∃ q : Nat, z = (q : Int) ∧ q < l.length := by rw [hzs] at hz; exact need_at hz
    obtain ⟨e, he⟩ : ∃ e, l[q]? = some e := ⟨_, List.getElem?_eq_getElem hql⟩
    have hstep : compU l b zs (zs.length - i + 1) = cstep b (compU l b zs (zs.length - i)) e := compU_succ (i := i - 1) (by omega) hz (by simpa using he)
    have hol := compU_len l b zs (k := zs.length - i) (by omega)
    have hle5 := pvE_length (compU l b zs (zs.length - i))
    refine tr_region rfl (.run [] [] rfl (st_move rfl) (.run [] [] rfl (st_move rfl) (.run [] [] rfl (st_eq (st_move rfl) (((show (AV.p none (.v (.int .i64 ((i:Int) - 1)))) = AV.p none (.v (.int .i64 ((i - 1 : Nat) : Int))) from int_eq (by omega))))) (.run [] [] rfl (st_idx_row0 (i - 1) rfl rfl rfl rfl Try.underlying23 Try.sizeOf2 rfl rfl (by omega)) (.run [] [] rfl (st_load_ea1 rfl rfl rfl (pvI_get hz) Try.isAgg2 rfl) (.run [] [] rfl (st_idx_fro rfl rfl rfl Try.underlying26 Try.sizeOf44 rfl (by omega) (pvE_get he)) (.run [] [] rfl (st_load_fea rfl rfl Try.isAgg44 Try.sizeOf44 (nle rfl)) (.run [] [10] rfl (st_allocZ rfl 10 inf44 rfl (by decide) rfl (by decide)) (.run [] [] rfl (st_store_box rfl rfl rfl rfl rfl Try.sizeOf44 rfl (nle rfl)) .nil))))))))) ?_
    refine tr_seq ?_
    refine tr_wk (s' := mk [(0, .p none (.sl false 4 (pvE l))), (2, .p none (.v (.bool b))), (7, .sl 1400 0 ((pvI zs).length)), (8, .sl 1 0 ((pvE (compU l b zs (zs.length - i))).length)), (9, .p none (.v (.int .i64 ((i:Int) - 1)))), (10, .ptr 10 0)] [(10, [.p none (.v (.string e.user)), .p none (.v (.int .i64 e.seq)), .p none (.v (.int .i64 e.kind)), .p none (.v (.string e.value))])] [(1, 4, pvE (compU l b zs (zs.length - i))), (1400, 1, pvI zs)]) ?_ ?_
    · exact wk_mk ⟨rfl, ⟨rfl, ⟨rfl, ⟨rfl, ⟨rfl, ⟨rfl, trivial⟩⟩⟩⟩⟩⟩ ⟨rfl, trivial⟩ ⟨rfl, ⟨rfl, trivial⟩⟩ rfl
    rcases bfc (decide (0 < ((pvE (compU l b zs (zs.length - i))).length : Int))) with h2 | h2
    · have h2' := h2
      replace h2' := of_decide_eq_false h2'
      refine tr_regionD mixed rfl (.run [] [] rfl (st_move rfl) (.run [] [] rfl (st_len_row rfl rfl Try.underlying26) (.run [] [] rfl (st_eq (st_gtr rfl rfl rfl) (by exact congrArg (fun b => AV.p none (.v (.bool b))) h2)) (.run [] [] rfl (st_move rfl) (.not rfl (.not rfl (.not rfl (.not rfl (.not rfl (.not rfl (.not rfl (.not rfl (.not rfl (.run [] [] rfl (st_pick (t := false) rfl rfl) (.run [] [] rfl (st_assign rfl) .nil))))))))))))))) (by kernel_rfl) ?_
      refine tr_seq ?_
      refine tr_seq ?_
      refine tr_wk (s' := mk [(0, .p none (.sl false 4 (pvE l))), (2, .p none (.v (.bool b))), (7, .sl 1400 0 ((pvI zs).length)), (8, .sl 1 0 ((pvE (compU l b zs (zs.length - i))).length)), (9, .p none (.v (.int .i64 ((i:Int) - 1)))), (10, .ptr 10 0), (11, .p none (.v (.bool false)))] [(10, [.p none (.v (.string e.user)), .p none (.v (.int .i64 e.seq)), .p none (.v (.int .i64 e.kind)), .p none (.v (.string e.value))])] [(1, 4, pvE (compU l b zs (zs.length - i))), (1400, 1, pvI zs)]) ?_ ?_
      · exact wk_mk ⟨rfl, ⟨rfl, ⟨rfl, ⟨rfl, ⟨rfl, ⟨rfl, ⟨rfl, trivial⟩⟩⟩⟩⟩⟩⟩ ⟨rfl, trivial⟩ ⟨rfl, ⟨rfl, trivial⟩⟩ rfl
      rcases bfc (decide (e.kind = 0)) with h3 | h3
      · have h3' := h3
        replace h3' := of_decide_eq_false h3'
        refine tr_region rfl (.run [] [] rfl (st_faddr_box rfl rfl Try.underlying44 rfl Try.sizeOf42 (by decide)) (.run [] [] rfl (st_faddr_box rfl rfl Try.underlying42 rfl Try.sizeOf2 (by decide)) (.run [] [] rfl (st_load_box1 rfl rfl rfl Try.isAgg2 rfl) (.run [] [] rfl (st_eq (st_eql rfl rfl rfl) (by exact congrArg (fun b => AV.p none (.v (.bool b))) h3)) (.run [] [] rfl (st_move rfl) (.not rfl (.run [] [] rfl (st_pick (t := false) rfl rfl) (.run [] [] rfl (st_move rfl) (.not rfl (.not rfl (.run [] [] rfl (st_pick (t := false) rfl rfl) .nil))))))))))) ?_
        refine tr_if (t := false) rfl (fun h => nomatch h) (fun _ => ?_)
        refine tr_skip ?_
        refine tr_region rfl (.run [] [] rfl (st_load_box rfl rfl rfl Try.isAgg44 Try.sizeOf44 (nle rfl)) (.run [5600] [] rfl (st_buildSlice rfl 5600 Try.underlying26 inf44 (nle rfl) (by decide) rfl rfl rfl (.cons .v (.cons .v (.cons .v (.cons .v .nil)))) (by decide) rfl (by decide) rfl (by decide) rfl) (.run [] [] rfl (st_move rfl) (.run [5600] [] rfl (st_append rfl 5600 (ib := 5600) (len := ([[PV.v (.string e.user), PV.v (.int .i64 e.seq), PV.v (.int .i64 e.kind), PV.v (.string e.value)]] ++ (pvE (compU l b zs (zs.length - i)))).length) rfl rfl (.row (len := 1) (xs := [[PV.v (.string e.user), PV.v (.int .i64 e.seq), PV.v (.int .i64 e.kind), PV.v (.string e.value)]]) rfl rfl (.inl rfl)) (.give (len := (pvE (compU l b zs (zs.length - i))).length) (xs := pvE (compU l b zs (zs.length - i))) rfl rfl) Try.underlying26 (sk Try.underlying26 rfl) inf44 rfl (by decide) (by decide) (by decide) List.length_append (by simp only [maxLen, List.length_append, List.length_map, List.length_cons, List.length_nil, List.length_take, List.length_drop, pvE_length, pvI_length, pvT_length]; omega) (by simp only [maxLen, List.length_append, List.length_map, List.length_cons, List.length_nil, List.length_take, List.length_drop, pvE_length, pvI_length, pvT_length]; omega)) (.run [] [] rfl (st_assign rfl) .nil))))) ?_
        have hr4 : [[PV.v (.string e.user), PV.v (.int .i64 e.seq), PV.v (.int .i64 e.kind), PV.v (.string e.value)]] ++ (pvE (compU l b zs (zs.length - i))) = pvE (compU l b zs (zs.length - i + 1)) := by rw [hstep, cstep_keep (fun hc => h3' hc.2.1)]; rfl
        have hp5 : (.sl 5600 0 (([[PV.v (.string e.user), PV.v (.int .i64 e.seq), PV.v (.int .i64 e.kind), PV.v (.string e.value)]] ++ (pvE (compU l b zs (zs.length - i)))).length) : AV) = .sl 5600 0 ((pvE (compU l b zs (zs.length - i + 1))).length) := by simp only [hr4]
        refine tr_wk (s' := mk [(0, .p none (.sl false 4 (pvE l))), (2, .p none (.v (.bool b))), (7, .sl 1400 0 ((pvI zs).length)), (8, .sl 5600 0 ((pvE (compU l b zs (zs.length - i + 1))).length)), (9, .p none (.v (.int .i64 ((i:Int) - 1))))] [] [(1400, 1, pvI zs), (5600, 4, pvE (compU l b zs (zs.length - i + 1)))]) ?_ ?_
        · exact wk_mk ⟨rfl, ⟨rfl, ⟨rfl, ⟨hp5, ⟨rfl, trivial⟩⟩⟩⟩⟩ trivial ⟨rfl, ⟨(congrArg (fun x => some (4, x)) hr4), trivial⟩⟩ rfl
        refine tr_region rfl (.run [] [] rfl (st_move rfl) (.run [] [] rfl (st_subn rfl rfl rfl (by omega)) (.run [] [] rfl (st_assign rfl) .nil))) ?_
        refine nxt (Q := fun _ _ => False) (z := i) (i - 1) ?_ ?_ ?_
        · show (i - 1) ≤ zs.length
          omega
        · show (i - 1) < i
          omega
        · exact (wk_ren 5600 1 rfl rfl (by decide)).trans (wk_mk ⟨rfl, ⟨rfl, ⟨rfl, ⟨(congrArg (fun k => AV.sl 1 0 (pvE (compU l b zs k)).length) (show zs.length - i + 1 = zs.length - (i - 1) by omega)), ⟨(int_eq (by omega)), trivial⟩⟩⟩⟩⟩ trivial ⟨(congrArg (fun x => some (4, x)) (by rw [show zs.length - (i - 1) = zs.length - i + 1 by omega])), ⟨rfl, trivial⟩⟩ rfl)
      · have h3' := h3
        replace h3' := of_decide_eq_true h3'
        rcases bfc b with h6 | h6
        · have h6' := h6
          refine tr_region rfl (.run [] [] rfl (st_faddr_box rfl rfl Try.underlying44 rfl Try.sizeOf42 (by decide)) (.run [] [] rfl (st_faddr_box rfl rfl Try.underlying42 rfl Try.sizeOf2 (by decide)) (.run [] [] rfl (st_load_box1 rfl rfl rfl Try.isAgg2 rfl) (.run [] [] rfl (st_eq (st_eql rfl rfl rfl) (by exact congrArg (fun b => AV.p none (.v (.bool b))) h3)) (.run [] [] rfl (st_move rfl) (.run [] [] rfl (st_eq (st_move rfl) (by exact congrArg (fun b => AV.p none (.v (.bool b))) h6)) (.run [] [] rfl (st_pick (t := true) rfl rfl) (.run [] [] rfl (st_move rfl) (.not rfl (.not rfl (.run [] [] rfl (st_pick (t := false) rfl rfl) .nil))))))))))) ?_
          refine tr_if (t := false) rfl (fun h => nomatch h) (fun _ => ?_)
          refine tr_skip ?_
          refine tr_region rfl (.run [] [] rfl (st_load_box rfl rfl rfl Try.isAgg44 Try.sizeOf44 (nle rfl)) (.run [5600] [] rfl (st_buildSlice rfl 5600 Try.underlying26 inf44 (nle rfl) (by decide) rfl rfl rfl (.cons .v (.cons .v (.cons .v (.cons .v .nil)))) (by decide) rfl (by decide) rfl (by decide) rfl) (.run [] [] rfl (st_move rfl) (.run [5600] [] rfl (st_append rfl 5600 (ib := 5600) (len := ([[PV.v (.string e.user), PV.v (.int .i64 e.seq), PV.v (.int .i64 e.kind), PV.v (.string e.value)]] ++ (pvE (compU l b zs (zs.length - i)))).length) rfl rfl (.row (len := 1) (xs := [[PV.v (.string e.user), PV.v (.int .i64 e.seq), PV.v (.int .i64 e.kind), PV.v (.string e.value)]]) rfl rfl (.inl rfl)) (.give (len := (pvE (compU l b zs (zs.length - i))).length) (xs := pvE (compU l b zs (zs.length - i))) rfl rfl) Try.underlying26 (sk Try.underlying26 rfl) inf44 rfl (by decide) (by decide) (by decide) List.length_append (by simp only [maxLen, List.length_append, List.length_map, List.length_cons, List.length_nil, List.length_take, List.length_drop, pvE_length, pvI_length, pvT_length]; omega) (by simp only [maxLen, List.length_append, List.length_map, List.length_cons, List.length_nil, List.length_take, List.length_drop, pvE_length, pvI_length, pvT_length]; omega)) (.run [] [] rfl (st_assign rfl) .nil))))) ?_
          have hr7 : [[PV.v (.string e.user), PV.v (.int .i64 e.seq), PV.v (.int .i64 e.kind), PV.v (.string e.value)]] ++ (pvE (compU l b zs (zs.length - i))) = pvE (compU l b zs (zs.length - i + 1)) := by rw [hstep, cstep_keep (fun hc => by rw [h6'] at hc; cases hc.1)]; rfl
          have hp8 : (.sl 5600 0 (([[PV.v (.string e.user), PV.v (.int .i64 e.seq), PV.v (.int .i64 e.kind), PV.v (.string e.value)]] ++ (pvE (compU l b zs (zs.length - i)))).length) : AV) = .sl 5600 0 ((pvE (compU l b zs (zs.length - i + 1))).length) := by simp only [hr7]
          refine tr_wk (s' := mk [(0, .p none (.sl false 4 (pvE l))), (2, .p none (.v (.bool b))), (7, .sl 1400 0 ((pvI zs).length)), (8, .sl 5600 0 ((pvE (compU l b zs (zs.length - i + 1))).length)), (9, .p none (.v (.int .i64 ((i:Int) - 1)))), (49, .p none (.v (.bool false)))] [] [(1400, 1, pvI zs), (5600, 4, pvE (compU l b zs (zs.length - i + 1)))]) ?_ ?_
          · exact wk_mk ⟨rfl, ⟨rfl, ⟨rfl, ⟨hp8, ⟨rfl, ⟨rfl, trivial⟩⟩⟩⟩⟩⟩ trivial ⟨rfl, ⟨(congrArg (fun x => some (4, x)) hr7), trivial⟩⟩ rfl
          refine tr_region rfl (.run [] [] rfl (st_move rfl) (.run [] [] rfl (st_subn rfl rfl rfl (by omega)) (.run [] [] rfl (st_assign rfl) .nil))) ?_
          refine nxt (Q := fun _ _ => False) (z := i) (i - 1) ?_ ?_ ?_
          · show (i - 1) ≤ zs.length
            omega
          · show (i - 1) < i
            omega
          · exact (wk_ren 5600 1 rfl rfl (by decide)).trans (wk_mk ⟨rfl, ⟨rfl, ⟨rfl, ⟨(congrArg (fun k => AV.sl 1 0 (pvE (compU l b zs k)).length) (show zs.length - i + 1 = zs.length - (i - 1) by omega)), ⟨(int_eq (by omega)), trivial⟩⟩⟩⟩⟩ trivial ⟨(congrArg (fun x => some (4, x)) (by rw [show zs.length - (i - 1) = zs.length - i + 1 by omega])), ⟨rfl, trivial⟩⟩ rfl)
        · have h6' := h6
          refine tr_region rfl (.run [] [] rfl (st_faddr_box rfl rfl Try.underlying44 rfl Try.sizeOf42 (by decide)) (.run [] [] rfl (st_faddr_box rfl rfl Try.underlying42 rfl Try.sizeOf2 (by decide)) (.run [] [] rfl (st_load_box1 rfl rfl rfl Try.isAgg2 rfl) (.run [] [] rfl (st_eq (st_eql rfl rfl rfl) (by exact congrArg (fun b => AV.p none (.v (.bool b))) h3)) (.run [] [] rfl (st_move rfl) (.run [] [] rfl (st_eq (st_move rfl) (by exact congrArg (fun b => AV.p none (.v (.bool b))) h6)) (.run [] [] rfl (st_pick (t := true) rfl rfl) (.run [] [] rfl (st_move rfl) (.run [] [] rfl (st_move rfl) (.run [] [] rfl (st_not (b := false) rfl rfl) (.run [] [] rfl (st_pick (t := true) rfl rfl) .nil))))))))))) ?_
          refine tr_if (t := true) rfl (fun _ => ?_) (fun h => nomatch h)
          refine tr_exit ?_
          refine tr_region rfl (.run [] [] rfl (st_move rfl) (.run [] [] rfl (st_subn rfl rfl rfl (by omega)) (.run [] [] rfl (st_assign rfl) .nil))) ?_
          refine nxt (Q := fun _ _ => False) (z := i) (i - 1) ?_ ?_ ?_
          · show (i - 1) ≤ zs.length
            omega
          · show (i - 1) < i
            omega
          · exact wk_mk ⟨rfl, ⟨rfl, ⟨rfl, ⟨(congrArg (fun x => AV.sl 1 0 (pvE x).length) (by rw [show zs.length - (i - 1) = zs.length - i + 1 by omega, hstep, cstep_drop h6' h3' (older_len (by omega))])), ⟨(int_eq (by omega)), trivial⟩⟩⟩⟩⟩ trivial ⟨(congrArg (fun x => some (4, x)) (by rw [show zs.length - (i - 1) = zs.length - i + 1 by omega, hstep, cstep_drop h6' h3' (older_len (by omega))])), ⟨rfl, trivial⟩⟩ rfl
    · have h2' := h2
      replace h2' := of_decide_eq_true h2'
      obtain ⟨e2, he2⟩ : ∃ e, (compU l b zs (zs.length - i))[0]? = some e := ⟨_, List.getElem?_eq_getElem (by (have hL := pvE_length (compU l b zs (zs.length - i)); omega))⟩
      have hlte2 := (List.getElem?_eq_some_iff.1 he2).1
      refine tr_regionD mixed rfl (.run [] [] rfl (st_move rfl) (.run [] [] rfl (st_len_row rfl rfl Try.underlying26) (.run [] [] rfl (st_eq (st_gtr rfl rfl rfl) (by exact congrArg (fun b => AV.p none (.v (.bool b))) h2)) (.run [] [] rfl (st_move rfl) (.run [] [] rfl (st_move rfl) (.run [] [] rfl (st_idx_row0 0 rfl rfl rfl rfl Try.underlying26 Try.sizeOf44 rfl rfl (by omega)) (.run [] [] rfl (st_faddr_ea rfl rfl Try.underlying44 rfl Try.sizeOf42 (by decide)) (.run [] [] rfl (st_faddr_ea rfl rfl Try.underlying42 rfl Try.sizeOf9 (by decide)) (.run [] [] rfl (st_load_ea1 rfl rfl rfl (pvE_get he2) Try.isAgg9 rfl) (.run [] [] rfl (st_faddr_box rfl rfl Try.underlying44 rfl Try.sizeOf42 (by decide)) (.run [] [] rfl (st_faddr_box rfl rfl Try.underlying42 rfl Try.sizeOf9 (by decide)) (.run [] [] rfl (st_load_box1 rfl rfl rfl Try.isAgg9 rfl) (.run [] [] rfl (st_seql rfl rfl rfl) (.run [] [] rfl (st_pick (t := true) rfl rfl) (.run [] [] rfl (st_assign rfl) .nil))))))))))))))) (by kernel_rfl) ?_
      refine tr_seq ?_
      refine tr_seq ?_
      refine tr_wk (s' := mk [(0, .p none (.sl false 4 (pvE l))), (2, .p none (.v (.bool b))), (7, .sl 1400 0 ((pvI zs).length)), (8, .sl 1 0 ((pvE (compU l b zs (zs.length - i))).length)), (9, .p none (.v (.int .i64 ((i:Int) - 1)))), (10, .ptr 10 0), (11, .p none (.v (.bool (decide (e2.user = e.user))))), (34, .sl 1 0 ((pvE (compU l b zs (zs.length - i))).length)), (35, .ea 1 0 0), (36, .ea 1 0 0), (37, .ea 1 0 0), (38, .p none (.v (.string e2.user))), (39, .ptr 10 0), (40, .ptr 10 0), (41, .p none (.v (.string e.user))), (42, .p none (.v (.bool (decide (e2.user = e.user)))))] [(10, [.p none (.v (.string e.user)), .p none (.v (.int .i64 e.seq)), .p none (.v (.int .i64 e.kind)), .p none (.v (.string e.value))])] [(1, 4, pvE (compU l b zs (zs.length - i))), (1400, 1, pvI zs)]) ?_ ?_
      · exact wk_mk ⟨rfl, ⟨rfl, ⟨rfl, ⟨rfl, ⟨rfl, ⟨rfl, ⟨rfl, ⟨rfl, ⟨rfl, ⟨rfl, ⟨rfl, ⟨rfl, ⟨rfl, ⟨rfl, ⟨rfl, ⟨rfl, trivial⟩⟩⟩⟩⟩⟩⟩⟩⟩⟩⟩⟩⟩⟩⟩⟩ ⟨rfl, trivial⟩ ⟨rfl, ⟨rfl, trivial⟩⟩ rfl
      rcases bfc (decide (e.kind = 0)) with h9 | h9
      · have h9' := h9
        replace h9' := of_decide_eq_false h9'
        refine tr_region rfl (.run [] [] rfl (st_faddr_box rfl rfl Try.underlying44 rfl Try.sizeOf42 (by decide)) (.run [] [] rfl (st_faddr_box rfl rfl Try.underlying42 rfl Try.sizeOf2 (by decide)) (.run [] [] rfl (st_load_box1 rfl rfl rfl Try.isAgg2 rfl) (.run [] [] rfl (st_eq (st_eql rfl rfl rfl) (by exact congrArg (fun b => AV.p none (.v (.bool b))) h9)) (.run [] [] rfl (st_move rfl) (.not rfl (.run [] [] rfl (st_pick (t := false) rfl rfl) (.run [] [] rfl (st_move rfl) (.not rfl (.not rfl (.run [] [] rfl (st_pick (t := false) rfl rfl) .nil))))))))))) ?_
        refine tr_if (t := false) rfl (fun h => nomatch h) (fun _ => ?_)
        refine tr_skip ?_
        refine tr_region rfl (.run [] [] rfl (st_load_box rfl rfl rfl Try.isAgg44 Try.sizeOf44 (nle rfl)) (.run [5600] [] rfl (st_buildSlice rfl 5600 Try.underlying26 inf44 (nle rfl) (by decide) rfl rfl rfl (.cons .v (.cons .v (.cons .v (.cons .v .nil)))) (by decide) rfl (by decide) rfl (by decide) rfl) (.run [] [] rfl (st_move rfl) (.run [5600] [] rfl (st_append rfl 5600 (ib := 5600) (len := ([[PV.v (.string e.user), PV.v (.int .i64 e.seq), PV.v (.int .i64 e.kind), PV.v (.string e.value)]] ++ (pvE (compU l b zs (zs.length - i)))).length) rfl rfl (.row (len := 1) (xs := [[PV.v (.string e.user), PV.v (.int .i64 e.seq), PV.v (.int .i64 e.kind), PV.v (.string e.value)]]) rfl rfl (.inl rfl)) (.give (len := (pvE (compU l b zs (zs.length - i))).length) (xs := pvE (compU l b zs (zs.length - i))) rfl rfl) Try.underlying26 (sk Try.underlying26 rfl) inf44 rfl (by decide) (by decide) (by decide) List.length_append (by simp only [maxLen, List.length_append, List.length_map, List.length_cons, List.length_nil, List.length_take, List.length_drop, pvE_length, pvI_length, pvT_length]; omega) (by simp only [maxLen, List.length_append, List.length_map, List.length_cons, List.length_nil, List.length_take, List.length_drop, pvE_length, pvI_length, pvT_length]; omega)) (.run [] [] rfl (st_assign rfl) .nil))))) ?_
        have hr10 : [[PV.v (.string e.user), PV.v (.int .i64 e.seq), PV.v (.int .i64 e.kind), PV.v (.string e.value)]] ++ (pvE (compU l b zs (zs.length - i))) = pvE (compU l b zs (zs.length - i + 1)) := by rw [hstep, cstep_keep (fun hc => h9' hc.2.1)]; rfl
        have hp11 : (.sl 5600 0 (([[PV.v (.string e.user), PV.v (.int .i64 e.seq), PV.v (.int .i64 e.kind), PV.v (.string e.value)]] ++ (pvE (compU l b zs (zs.length - i)))).length) : AV) = .sl 5600 0 ((pvE (compU l b zs (zs.length - i + 1))).length) := by simp only [hr10]
        refine tr_wk (s' := mk [(0, .p none (.sl false 4 (pvE l))), (2, .p none (.v (.bool b))), (7, .sl 1400 0 ((pvI zs).length)), (8, .sl 5600 0 ((pvE (compU l b zs (zs.length - i + 1))).length)), (9, .p none (.v (.int .i64 ((i:Int) - 1)))), (38, .p none (.v (.string e2.user))), (39, .ptr 10 0), (40, .ptr 10 0), (41, .p none (.v (.string e.user))), (42, .p none (.v (.bool (decide (e2.user = e.user)))))] [(10, [.p none (.v (.string e.user)), .p none (.v (.int .i64 e.seq)), .p none (.v (.int .i64 e.kind)), .p none (.v (.string e.value))])] [(1400, 1, pvI zs), (5600, 4, pvE (compU l b zs (zs.length - i + 1)))]) ?_ ?_
        · exact wk_mk ⟨rfl, ⟨rfl, ⟨rfl, ⟨hp11, ⟨rfl, ⟨rfl, ⟨rfl, ⟨rfl, ⟨rfl, ⟨rfl, trivial⟩⟩⟩⟩⟩⟩⟩⟩⟩⟩ ⟨rfl, trivial⟩ ⟨rfl, ⟨(congrArg (fun x => some (4, x)) hr10), trivial⟩⟩ rfl
        refine tr_region rfl (.run [] [] rfl (st_move rfl) (.run [] [] rfl (st_subn rfl rfl rfl (by omega)) (.run [] [] rfl (st_assign rfl) .nil))) ?_
        refine nxt (Q := fun _ _ => False) (z := i) (i - 1) ?_ ?_ ?_
        · show (i - 1) ≤ zs.length
          omega
        · show (i - 1) < i
          omega
        · exact (wk_ren 5600 1 rfl rfl (by decide)).trans (wk_mk ⟨rfl, ⟨rfl, ⟨rfl, ⟨(congrArg (fun k => AV.sl 1 0 (pvE (compU l b zs k)).length) (show zs.length - i + 1 = zs.length - (i - 1) by omega)), ⟨(int_eq (by omega)), trivial⟩⟩⟩⟩⟩ trivial ⟨(congrArg (fun x => some (4, x)) (by rw [show zs.length - (i - 1) = zs.length - i + 1 by omega])), ⟨rfl, trivial⟩⟩ rfl)
      · have h9' := h9
        replace h9' := of_decide_eq_true h9'
        rcases bfc b with h12 | h12
        · have h12' := h12
          refine tr_region rfl (.run [] [] rfl (st_faddr_box rfl rfl Try.underlying44 rfl Try.sizeOf42 (by decide)) (.run [] [] rfl (st_faddr_box rfl rfl Try.underlying42 rfl Try.sizeOf2 (by decide)) (.run [] [] rfl (st_load_box1 rfl rfl rfl Try.isAgg2 rfl) (.run [] [] rfl (st_eq (st_eql rfl rfl rfl) (by exact congrArg (fun b => AV.p none (.v (.bool b))) h9)) (.run [] [] rfl (st_move rfl) (.run [] [] rfl (st_eq (st_move rfl) (by exact congrArg (fun b => AV.p none (.v (.bool b))) h12)) (.run [] [] rfl (st_pick (t := true) rfl rfl) (.run [] [] rfl (st_move rfl) (.not rfl (.not rfl (.run [] [] rfl (st_pick (t := false) rfl rfl) .nil))))))))))) ?_
          refine tr_if (t := false) rfl (fun h => nomatch h) (fun _ => ?_)
          refine tr_skip ?_
          refine tr_region rfl (.run [] [] rfl (st_load_box rfl rfl rfl Try.isAgg44 Try.sizeOf44 (nle rfl)) (.run [5600] [] rfl (st_buildSlice rfl 5600 Try.underlying26 inf44 (nle rfl) (by decide) rfl rfl rfl (.cons .v (.cons .v (.cons .v (.cons .v .nil)))) (by decide) rfl (by decide) rfl (by decide) rfl) (.run [] [] rfl (st_move rfl) (.run [5600] [] rfl (st_append rfl 5600 (ib := 5600) (len := ([[PV.v (.string e.user), PV.v (.int .i64 e.seq), PV.v (.int .i64 e.kind), PV.v (.string e.value)]] ++ (pvE (compU l b zs (zs.length - i)))).length) rfl rfl (.row (len := 1) (xs := [[PV.v (.string e.user), PV.v (.int .i64 e.seq), PV.v (.int .i64 e.kind), PV.v (.string e.value)]]) rfl rfl (.inl rfl)) (.give (len := (pvE (compU l b zs (zs.length - i))).length) (xs := pvE (compU l b zs (zs.length - i))) rfl rfl) Try.underlying26 (sk Try.underlying26 rfl) inf44 rfl (by decide) (by decide) (by decide) List.length_append (by simp only [maxLen, List.length_append, List.length_map, List.length_cons, List.length_nil, List.length_take, List.length_drop, pvE_length, pvI_length, pvT_length]; omega) (by simp only [maxLen, List.length_append, List.length_map, List.length_cons, List.length_nil, List.length_take, List.length_drop, pvE_length, pvI_length, pvT_length]; omega)) (.run [] [] rfl (st_assign rfl) .nil))))) ?_
          have hr13 : [[PV.v (.string e.user), PV.v (.int .i64 e.seq), PV.v (.int .i64 e.kind), PV.v (.string e.value)]] ++ (pvE (compU l b zs (zs.length - i))) = pvE (compU l b zs (zs.length - i + 1)) := by rw [hstep, cstep_keep (fun hc => by rw [h12'] at hc; cases hc.1)]; rfl
          have hp14 : (.sl 5600 0 (([[PV.v (.string e.user), PV.v (.int .i64 e.seq), PV.v (.int .i64 e.kind), PV.v (.string e.value)]] ++ (pvE (compU l b zs (zs.length - i)))).length) : AV) = .sl 5600 0 ((pvE (compU l b zs (zs.length - i + 1))).length) := by simp only [hr13]
          refine tr_wk (s' := mk [(0, .p none (.sl false 4 (pvE l))), (2, .p none (.v (.bool b))), (7, .sl 1400 0 ((pvI zs).length)), (8, .sl 5600 0 ((pvE (compU l b zs (zs.length - i + 1))).length)), (9, .p none (.v (.int .i64 ((i:Int) - 1)))), (38, .p none (.v (.string e2.user))), (39, .ptr 10 0), (40, .ptr 10 0), (41, .p none (.v (.string e.user))), (42, .p none (.v (.bool (decide (e2.user = e.user))))), (49, .p none (.v (.bool false)))] [(10, [.p none (.v (.string e.user)), .p none (.v (.int .i64 e.seq)), .p none (.v (.int .i64 e.kind)), .p none (.v (.string e.value))])] [(1400, 1, pvI zs), (5600, 4, pvE (compU l b zs (zs.length - i + 1)))]) ?_ ?_
          · exact wk_mk ⟨rfl, ⟨rfl, ⟨rfl, ⟨hp14, ⟨rfl, ⟨rfl, ⟨rfl, ⟨rfl, ⟨rfl, ⟨rfl, ⟨rfl, trivial⟩⟩⟩⟩⟩⟩⟩⟩⟩⟩⟩ ⟨rfl, trivial⟩ ⟨rfl, ⟨(congrArg (fun x => some (4, x)) hr13), trivial⟩⟩ rfl
          refine tr_region rfl (.run [] [] rfl (st_move rfl) (.run [] [] rfl (st_subn rfl rfl rfl (by omega)) (.run [] [] rfl (st_assign rfl) .nil))) ?_
          refine nxt (Q := fun _ _ => False) (z := i) (i - 1) ?_ ?_ ?_
          · show (i - 1) ≤ zs.length
            omega
          · show (i - 1) < i
            omega
          · exact (wk_ren 5600 1 rfl rfl (by decide)).trans (wk_mk ⟨rfl, ⟨rfl, ⟨rfl, ⟨(congrArg (fun k => AV.sl 1 0 (pvE (compU l b zs k)).length) (show zs.length - i + 1 = zs.length - (i - 1) by omega)), ⟨(int_eq (by omega)), trivial⟩⟩⟩⟩⟩ trivial ⟨(congrArg (fun x => some (4, x)) (by rw [show zs.length - (i - 1) = zs.length - i + 1 by omega])), ⟨rfl, trivial⟩⟩ rfl)
        · have h12' := h12
          refine tr_region rfl (.run [] [] rfl (st_faddr_box rfl rfl Try.underlying44 rfl Try.sizeOf42 (by decide)) (.run [] [] rfl (st_faddr_box rfl rfl Try.underlying42 rfl Try.sizeOf2 (by decide)) (.run [] [] rfl (st_load_box1 rfl rfl rfl Try.isAgg2 rfl) (.run [] [] rfl (st_eq (st_eql rfl rfl rfl) (by exact congrArg (fun b => AV.p none (.v (.bool b))) h9)) (.run [] [] rfl (st_move rfl) (.run [] [] rfl (st_eq (st_move rfl) (by exact congrArg (fun b => AV.p none (.v (.bool b))) h12)) (.run [] [] rfl (st_pick (t := true) rfl rfl) (.run [] [] rfl (st_move rfl) (.run [] [] rfl (st_move rfl) (.run [] [] rfl (st_not (b := decide (e2.user = e.user)) rfl rfl) (.run [] [] rfl (st_pick (t := true) rfl rfl) .nil))))))))))) ?_
          refine tr_if (t := (!(decide (e2.user = e.user)))) rfl (fun h15 => ?_) (fun h15 => ?_)
          · skip
            replace h15 : ¬ (e2.user = e.user) := of_decide_eq_false (bnot_t h15)
            refine tr_exit ?_
            refine tr_region rfl (.run [] [] rfl (st_move rfl) (.run [] [] rfl (st_subn rfl rfl rfl (by omega)) (.run [] [] rfl (st_assign rfl) .nil))) ?_
            refine nxt (Q := fun _ _ => False) (z := i) (i - 1) ?_ ?_ ?_
            · show (i - 1) ≤ zs.length
              omega
            · show (i - 1) < i
              omega
            · exact wk_mk ⟨rfl, ⟨rfl, ⟨rfl, ⟨(congrArg (fun x => AV.sl 1 0 (pvE x).length) (by rw [show zs.length - (i - 1) = zs.length - i + 1 by omega, hstep, cstep_drop h12' h9' ((older_at he2).trans (decide_eq_false h15))])), ⟨(int_eq (by omega)), trivial⟩⟩⟩⟩⟩ trivial ⟨(congrArg (fun x => some (4, x)) (by rw [show zs.length - (i - 1) = zs.length - i + 1 by omega, hstep, cstep_drop h12' h9' ((older_at he2).trans (decide_eq_false h15))])), ⟨rfl, trivial⟩⟩ rfl
          · skip
            replace h15 : e2.user = e.user := of_decide_eq_true (bnot_f h15)
            refine tr_skip ?_
            refine tr_region rfl (.run [] [] rfl (st_load_box rfl rfl rfl Try.isAgg44 Try.sizeOf44 (nle rfl)) (.run [5600] [] rfl (st_buildSlice rfl 5600 Try.underlying26 inf44 (nle rfl) (by decide) rfl rfl rfl (.cons .v (.cons .v (.cons .v (.cons .v .nil)))) (by decide) rfl (by decide) rfl (by decide) rfl) (.run [] [] rfl (st_move rfl) (.run [5600] [] rfl (st_append rfl 5600 (ib := 5600) (len := ([[PV.v (.string e.user), PV.v (.int .i64 e.seq), PV.v (.int .i64 e.kind), PV.v (.string e.value)]] ++ (pvE (compU l b zs (zs.length - i)))).length) rfl rfl (.row (len := 1) (xs := [[PV.v (.string e.user), PV.v (.int .i64 e.seq), PV.v (.int .i64 e.kind), PV.v (.string e.value)]]) rfl rfl (.inl rfl)) (.give (len := (pvE (compU l b zs (zs.length - i))).length) (xs := pvE (compU l b zs (zs.length - i))) rfl rfl) Try.underlying26 (sk Try.underlying26 rfl) inf44 rfl (by decide) (by decide) (by decide) List.length_append (by simp only [maxLen, List.length_append, List.length_map, List.length_cons, List.length_nil, List.length_take, List.length_drop, pvE_length, pvI_length, pvT_length]; omega) (by simp only [maxLen, List.length_append, List.length_map, List.length_cons, List.length_nil, List.length_take, List.length_drop, pvE_length, pvI_length, pvT_length]; omega)) (.run [] [] rfl (st_assign rfl) .nil))))) ?_
            have hr16 : [[PV.v (.string e.user), PV.v (.int .i64 e.seq), PV.v (.int .i64 e.kind), PV.v (.string e.value)]] ++ (pvE (compU l b zs (zs.length - i))) = pvE (compU l b zs (zs.length - i + 1)) := by rw [hstep, cstep_keep (fun hc => by rw [((older_at he2).trans (decide_eq_true h15))] at hc; cases hc.2.2)]; rfl
            have hp17 : (.sl 5600 0 (([[PV.v (.string e.user), PV.v (.int .i64 e.seq), PV.v (.int .i64 e.kind), PV.v (.string e.value)]] ++ (pvE (compU l b zs (zs.length - i)))).length) : AV) = .sl 5600 0 ((pvE (compU l b zs (zs.length - i + 1))).length) := by simp only [hr16]
            refine tr_wk (s' := mk [(0, .p none (.sl false 4 (pvE l))), (2, .p none (.v (.bool b))), (7, .sl 1400 0 ((pvI zs).length)), (8, .sl 5600 0 ((pvE (compU l b zs (zs.length - i + 1))).length)), (9, .p none (.v (.int .i64 ((i:Int) - 1)))), (38, .p none (.v (.string e2.user))), (39, .ptr 10 0), (40, .ptr 10 0), (41, .p none (.v (.string e.user))), (42, .p none (.v (.bool (decide (e2.user = e.user))))), (49, .p none (.v (.bool true))), (52, .p none (.v (.bool (decide (e2.user = e.user))))), (53, .p none (.v (.bool (!(decide (e2.user = e.user))))))] [(10, [.p none (.v (.string e.user)), .p none (.v (.int .i64 e.seq)), .p none (.v (.int .i64 e.kind)), .p none (.v (.string e.value))])] [(1400, 1, pvI zs), (5600, 4, pvE (compU l b zs (zs.length - i + 1)))]) ?_ ?_
            · exact wk_mk ⟨rfl, ⟨rfl, ⟨rfl, ⟨hp17, ⟨rfl, ⟨rfl, ⟨rfl, ⟨rfl, ⟨rfl, ⟨rfl, ⟨rfl, ⟨rfl, ⟨rfl, trivial⟩⟩⟩⟩⟩⟩⟩⟩⟩⟩⟩⟩⟩ ⟨rfl, trivial⟩ ⟨rfl, ⟨(congrArg (fun x => some (4, x)) hr16), trivial⟩⟩ rfl
            refine tr_region rfl (.run [] [] rfl (st_move rfl) (.run [] [] rfl (st_subn rfl rfl rfl (by omega)) (.run [] [] rfl (st_assign rfl) .nil))) ?_
            refine nxt (Q := fun _ _ => False) (z := i) (i - 1) ?_ ?_ ?_
            · show (i - 1) ≤ zs.length
              omega
            · show (i - 1) < i
              omega
            · exact (wk_ren 5600 1 rfl rfl (by decide)).trans (wk_mk ⟨rfl, ⟨rfl, ⟨rfl, ⟨(congrArg (fun k => AV.sl 1 0 (pvE (compU l b zs k)).length) (show zs.length - i + 1 = zs.length - (i - 1) by omega)), ⟨(int_eq (by omega)), trivial⟩⟩⟩⟩⟩ trivial ⟨(congrArg (fun x => some (4, x)) (by rw [show zs.length - (i - 1) = zs.length - i + 1 by omega])), ⟨rfl, trivial⟩⟩ rfl)
  · skip
    replace h1 := of_decide_eq_false h1
    refine tr_exit ?_
    refine tr_seq ?_
    refine tr_region rfl (.run [] [] rfl (st_move rfl) (.run [] [] rfl (st_assign rfl) .nil)) ?_
    have hr18 : pvE (compU l b zs (zs.length - i)) = pvE (compU l b zs zs.length) := by rw [show i = 0 by omega, Nat.sub_zero]
    have hp19 : (.sl 1 0 ((pvE (compU l b zs (zs.length - i))).length) : AV) = .sl 1 0 ((pvE (compU l b zs zs.length)).length) := by simp only [hr18]
    refine tr_wk (s' := mk [(6, .sl 1 0 ((pvE (compU l b zs zs.length)).length))] [] [(1, 4, pvE (compU l b zs zs.length))]) ?_ ?_
    · exact wk_mk ⟨hp19, trivial⟩ trivial ⟨(congrArg (fun x => some (4, x)) hr18), trivial⟩ rfl
    refine tr_ret ?_
    exact ends [_] [1] (.cons (.tmp rfl) .nil) (.cons (.one (.row (len := (pvE (compU l b zs zs.length)).length) (xs := pvE (compU l b zs zs.length)) rfl rfl) (.sl _ _ (FlatP.clean (pvE_flat _)))) .nil) (by decide) trivial
end Go.Rl
namespace Go.Proofs
open Go.RowKit Go.Shelf
attribute [local go_sem] Oper.semAt_some
set_option maxRecDepth 100000 in
set_option maxHeartbeats 2000000 in
theorem Bw.back1_in (F : Fence) (n : Nat) (h7 : F.fn 171) (hro : F.round = none) (hn : 1 ≤ n) (l Bs : Nat) (zs : List Int) (hreach : zs.length ≤ 1000000000) (J Jx : List (Fin zs.length) → World → Prop)
    (hY : ∀ pre x W, J pre W → pre.length < zs.length → YieldAt F (n - 1) Try.prog l (Bw.enc zs x) W fun e W' =>
      (e = .returned (.bool true) ∧ J (pre ++ [x]) W' ∧ (Bw.Reads Bs zs W → Bw.Reads Bs zs W')) ∨ (e = .returned (.bool false) ∧ Jx (pre ++ [x]) W'))
    (W : World) (hR : Bw.Reads Bs zs W) (h0 : J [] W) :
    CallsIn F n Try.prog 171 #[.func (.yield l) #[] #[], .pointer (some ⟨Bs, 0, none⟩)] W fun e W' => (∃ v, e = .returned v) ∧
      ((∃ ys, ys = Bw.upto zs zs.length ∧ J ys W') ∨ (∃ pre, True ∧ Jx pre W')) := by
  obtain ⟨a, len, cap, hbox, hlen⟩ : ∃ a len cap, W.cell? ⟨Bs, 0, none⟩ = some (.slice a len cap) ∧ len = zs.length := by
    rcases hR with ⟨⟨A, c, h⟩, rfl⟩ | ⟨b, off, cap, h, _⟩
    · exact ⟨_, _, _, h, rfl⟩
    · exact ⟨_, _, _, h, rfl⟩
  subst hlen
  refine callsIn_of_wp Try.func171 rfl h7 ?_ hro
  simp only [Try.ntmps171, List.size_toArray, List.length_cons, List.length_nil, Nat.reduceAdd, Nat.reduceSub, Array.replicate_succ, Array.replicate_zero, List.push_toArray, List.append_toArray, List.nil_append, List.cons_append]
  gi_wp2
  gi_loopw [3] (fun i wr => ∃ k : Nat, k ≤ zs.length ∧ i = .int .i64 ((zs.length : Int) - 1 - k) ∧ J (Bw.upto zs k) wr ∧ Bw.Reads Bs zs wr)
    (fun i _ => (intOf i + 1).toNat)
  case atStart => exact ⟨0, Nat.zero_le _, by simp, h0, hR⟩
  case round =>
    obtain ⟨k, hk, rfl, hJs, hnx⟩ := hrel
    by_cases hlt : k < zs.length
    · have hd : zs.length - 1 - k < zs.length := by omega
      obtain ⟨m, z, x, hml, hmi, hmu, hmx, hmc⟩ : ∃ (m : Nat) (z : Int) (x : Fin zs.length), m < zs.length ∧ ((zs.length : Int) - 1 - k) = (m : Int) ∧ Bw.upto zs (k + 1) = Bw.upto zs k ++ [x] ∧ Bw.enc zs x = #[.int .i64 (m : Int), .int .i64 z] ∧ zs[m]? = some z :=
        ⟨zs.length - 1 - k, zs[zs.length - 1 - k]'hd, ⟨zs.length - 1 - k, hd⟩, hd, by omega, Bw.upto_succ zs k hd, rfl, List.getElem?_eq_getElem hd⟩
      have hYx := hY _ x wr hJs (by rw [Bw.upto_length zs k hk]; exact hlt)
      rw [hmx] at hYx
      obtain ⟨fn, tmps, assign, body, hy, hRr⟩ := hYx
      obtain ⟨b, off, cap, hbx, hcs⟩ : ∃ b off cap, wr.cell? ⟨Bs, 0, none⟩ = some (.slice (some ⟨b, off, none⟩) zs.length cap) ∧ ∀ (j : Nat) (z : Int), zs[j]? = some z → wr.cell? ⟨b, off + j, none⟩ = some (.int .i64 z) := by
        rcases hnx with ⟨_, h⟩ | h
        · rw [h] at hlt; simp at hlt
        · exact h
      have hcx := hcs m _ hmc
      clear hmc hcs
      rw [hmi]
      gi_wp2
      refine hRr.mono ?_
      rintro e W3 (⟨rfl, hJ3, hk3⟩ | ⟨rfl, hJx3⟩)
      · gi_wp2
        go_roundw
        case rel => exact ⟨k + 1, by omega, by simp; omega, by rw [hmu]; exact hJ3, hk3 hnx⟩
        case measure => simp [intOf]
      · gi_wp2
        refine bodyPost_ret (results_none rfl _ _ _) rfl ?_
        exact ⟨⟨_, rfl⟩, .inr ⟨_, trivial, hJx3⟩⟩
    · obtain rfl : k = zs.length := by omega
      gi_wp2
      go_end0
      exact ⟨⟨_, rfl⟩, .inl ⟨_, rfl, hJs⟩⟩
theorem Bw.try : Bw.Contract Try.prog 171 := fun F n h7 hro hn l Bs zs hreach J Jx hY W hR h0 => Bw.back1_in F n h7 hro hn l Bs zs hreach J Jx hY W hR h0
end Go.Proofs

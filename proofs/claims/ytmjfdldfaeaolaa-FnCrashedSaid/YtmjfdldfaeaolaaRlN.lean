/- R, part N: whole code, told of abstract states. -/
import Derived.Test.YtmjfdldfaeaolaaRlM
namespace Go.Rl
open Go.RowKit

/-- Whatever stands as s tells, behind c it stands as Q tells. -/
def Tr (γ : Gho) (P : Program) (n : Nat) (c : Code) (s : St) (Q : Exit → St → Prop) : Prop :=
  ∀ w0 I L a w, Gh γ w0 I.I → Rel w0 I n L s a w → c.wp P (fun e a' w' => ∃ s' L', Q e s' ∧ Rel w0 I n L' s' a' w') a w
/-- s tells no less than s'. -/
def Wk (n : Nat) (s s' : St) : Prop := ∀ w0 I L a w, Rel w0 I n L s a w → ∃ L', Rel w0 I n L' s' a w
theorem Wk.refl (n : Nat) (s : St) : Wk n s s := fun _ _ L _ _ h => ⟨L, h⟩
theorem Wk.trans {n : Nat} {s s' s'' : St} (h : Wk n s s') (k : Wk n s' s'') : Wk n s s'' := fun w0 I L a w hr => by
  obtain ⟨L', h'⟩ := h w0 I L a w hr
  exact k w0 I L' a w h'

section
variable {γ : Gho} {P : Program} {n : Nat} {s : St} {Q : Exit → St → Prop}
theorem tr_mono {c : Code} {Q' : Exit → St → Prop} (h : Tr γ P n c s Q) (hq : ∀ e s, Q e s → Q' e s) : Tr γ P n c s Q' :=
  fun w0 I L a w hG hr => wp_mono (h w0 I L a w hG hr) (fun e _ _ ⟨s', L', h1, h2⟩ => ⟨s', L', hq e s' h1, h2⟩)
theorem tr_wk {c : Code} {s' : St} (hw : Wk n s s') (h : Tr γ P n c s' Q) : Tr γ P n c s Q := fun w0 I L a w hG hr => by
  obtain ⟨L', h'⟩ := hw w0 I L a w hr
  exact h w0 I L' a w hG h'
theorem tr_skip (h : Q .normal s) : Tr γ P n .skip s Q := fun _ _ L _ _ _ hr => wp_skip ⟨s, L, h, hr⟩
theorem tr_label {l : Nat} (h : Q .normal s) : Tr γ P n (.label l) s Q := fun _ _ L _ _ _ hr => wp_label ⟨s, L, h, hr⟩
theorem tr_exit {id : Nat} (h : Q (.exit id) s) : Tr γ P n (.exit id) s Q := fun _ _ L _ _ _ hr => wp_exit ⟨s, L, h, hr⟩
theorem tr_ret (h : Q .ret s) : Tr γ P n .ret s Q := fun _ _ L _ _ _ hr => wp_ret ⟨s, L, h, hr⟩
def thn (next : St → Prop) (Q : Exit → St → Prop) : Exit → St → Prop
  | .normal, s => next s
  | e, s => Q e s
def inb (id : Nat) (Q : Exit → St → Prop) : Exit → St → Prop
  | .exit id', s => match Nat.beq id' id with
    | true => Q .normal s
    | false => Q (.exit id') s
  | e, s => Q e s
theorem tr_seq {x y : Code} (h : Tr γ P n x s (thn (fun s' => Tr γ P n y s' Q) Q)) : Tr γ P n (.seq x y) s Q := fun w0 I L a w hG hr => by
  refine wp_seq (wp_mono (h w0 I L a w hG hr) (fun e a' w' ⟨s', L', h1, h2⟩ => ?_))
  cases e with
  | normal => exact h1 w0 I L' a' w' hG h2
  | _ => exact ⟨s', L', h1, h2⟩
theorem tr_if {c : Operand} {x y : Code} {d : Option Nat} {t : Bool} (hc : s.ev c = .p d (.v (.bool t))) (ht : t = true → Tr γ P n x s Q) (hf : t = false → Tr γ P n y s Q) : Tr γ P n (.cond c x y) s Q := fun w0 I L a w hG hr =>
  wp_cond_split (hr.evv hc) (fun e => ht e w0 I L a w hG hr) (fun e => hf e w0 I L a w hG hr)
theorem tr_block {id : Nat} {c : Code} (h : Tr γ P n c s (inb id Q)) : Tr γ P n (.block id c) s Q := fun w0 I L a w hG hr => by
  refine wp_block (wp_mono (h w0 I L a w hG hr) (fun e a' w' ⟨s', L', h1, h2⟩ => ?_))
  cases e with
  | exit id' =>
    simp only [Exit.inBlock]
    by_cases hi : id' = id
    · subst hi
      rw [if_pos rfl]
      simp only [inb, Nat.beq_refl] at h1
      exact ⟨s', L', h1, h2⟩
    · rw [if_neg hi]
      have hb : Nat.beq id' id = false := by
        cases e : Nat.beq id' id with
        | false => rfl
        | true => exact absurd (Nat.eq_of_beq_eq_true e) hi
      simp only [inb, hb] at h1
      exact ⟨s', L', h1, h2⟩
  | _ => exact ⟨s', L', h1, h2⟩
/-- A loop whose invariant tells how many rounds are left at most. -/
theorem tr_loop {c : Code} (Inv : Nat → St → Prop) (k : Nat) (h0 : Inv k s) (hr : ∀ k s, Inv k s → Tr γ P n c s (thn (fun s' => ∃ k', k' < k ∧ Inv k' s') Q)) : Tr γ P n (.loop c) s Q := by
  intro w0 I L a w hG hrel b fr cs
  have key : ∀ k s L a w, Inv k s → Rel w0 I n L s a w → ∃ e a' w', (∃ s' L', Q e s' ∧ Rel w0 I n L' s' a' w') ∧ Arrives P (lone (b.at a (.code c :: .inLoop c :: fr)) cs w) b fr cs e a' w' := by
    intro k
    induction k using Nat.strongRecOn with
    | _ k ih =>
      intro s L a w hI hrel
      obtain ⟨e, a1, w1, ⟨s1, L1, hq, hrel1⟩, harr⟩ := hr k s hI w0 I L a w hG hrel b (.inLoop c :: fr) cs
      cases e with
      | normal =>
        obtain ⟨k', hlt, hI1⟩ := hq
        obtain ⟨e2, a2, w2, hq2, harr2⟩ := ih k' hlt s1 L1 a1 w1 hI1 hrel1
        exact ⟨e2, a2, w2, hq2, .of_steps (Steps.trans harr (.one step_inLoop)) harr2⟩
      | exit id => exact ⟨_, a1, w1, ⟨s1, L1, hq, hrel1⟩, .pass (x := .inLoop c) rfl (fun _ _ => .inl (by simp)) harr⟩
      | goto l => exact ⟨_, a1, w1, ⟨s1, L1, hq, hrel1⟩, .pass (x := .inLoop c) rfl (fun _ _ => .inl (by simp)) harr⟩
      | ret => exact ⟨_, a1, w1, ⟨s1, L1, hq, hrel1⟩, .pass (x := .inLoop c) rfl (fun _ _ => .inl (by simp)) harr⟩
      | panic ch => exact ⟨_, a1, w1, ⟨s1, L1, hq, hrel1⟩, .pass (x := .inLoop c) rfl (fun _ _ => .inl (by simp)) harr⟩
      | outgrown => exact ⟨_, a1, w1, ⟨s1, L1, hq, hrel1⟩, .pass (x := .inLoop c) rfl (fun _ _ => .inl (by simp)) harr⟩
  obtain ⟨e, a', w', hq, harr⟩ := key k s L a w h0 hrel
  exact ⟨e, a', w', hq, .of_steps (.one step_loop) harr⟩
theorem tr_region {id : Nat} {ops : List Oper} {Fs : List Fp} {s' : St} (hd : dstsB n ops.toArray = true) (h : Run γ P n ops.toArray Fs ops s s') (hq : Q .normal s') : Tr γ P n (.region id ops.toArray false) s Q := fun w0 I L a w hG hr => by
  refine wp_region ?_
  have := run_wp hG (Qm := fun e a' w' => ∃ s' L', Q e s' ∧ Rel w0 I n L' s' a' w') hd h (fun L' a' w' hr' => ⟨s', L', hq, hr'⟩) 0 (fun j => by simp) hr
  rw [← List.range_eq_range'] at this
  simpa using this
theorem tr_regionD {id : Nat} {ops : List Oper} {Fs : List Fp} {s' : St} (hm : P.follows .mixedOrders = true) (hd : dstsB n ops.toArray = true) (h : Run γ P n ops.toArray Fs ops s s') (hl : lexF ops.toArray Fs ops.length 0 (Array.replicate ops.length false) = true) (hq : Q .normal s') : Tr γ P n (.region id ops.toArray true) s Q := fun w0 I L a w hG hr => by
  refine wp_region_any hm ?_
  have := sany_run (Fs := Fs) (Q := fun s => Q .normal s) h 0 (Array.replicate ops.length false) (fun k o hk => by
    exfalso
    rw [Array.getD_eq_getD_getElem?, Array.getElem?_replicate] at hk
    split at hk <;> cases hk) (fun j => by simp) (fun j F hj => by simp [hj]) hl hq
  have := sany_wp hG (Fs := Fs) (w0 := w0) (I := I) (Qm := fun e a' w' => ∃ s' L', Q e s' ∧ Rel w0 I n L' s' a' w') hd (fun s1 hs L' a' w' hr' => ⟨s1, L', hs, hr'⟩) ops.length (Array.replicate ops.length false) s L a { w with drawn := w.drawn + 1 } this (hr.drawn _)
  simpa using this
end

/-! #### states that are told as lists -/
def lkT : List (Nat × AV) → Nat → AV
  | [], _ => .undef
  | x :: l, q => match Nat.beq q x.1 with
    | true => x.2
    | false => lkT l q
def lkO {α : Type} : List (Nat × α) → Nat → Option α
  | [], _ => none
  | x :: l, q => match Nat.beq q x.1 with
    | true => some x.2
    | false => lkO l q
def mk (T : List (Nat × AV)) (B : List (Nat × List AV)) (R : List (Nat × Nat × List (List PV))) : St := ⟨lkT T, lkO B, lkO R⟩
def EqT (s : St) : List (Nat × AV) → Prop
  | [] => True
  | x :: l => s.t x.1 = x.2 ∧ EqT s l
def EqB (s : St) : List (Nat × List AV) → Prop
  | [] => True
  | x :: l => s.b x.1 = some x.2 ∧ EqB s l
def EqR (s : St) : List (Nat × Nat × List (List PV)) → Prop
  | [] => True
  | x :: l => s.r x.1 = some x.2 ∧ EqR s l
theorem eqT {s : St} : ∀ {l : List (Nat × AV)}, EqT s l → ∀ q, lkT l q = .undef ∨ (∃ x ∈ l, x.2 = lkT l q) ∧ lkT l q = s.t q
  | [], _, _ => .inl rfl
  | x :: l, h, q => by
    simp only [lkT]
    cases e : Nat.beq q x.1 with
    | true => have := Nat.eq_of_beq_eq_true e; subst this; exact .inr ⟨⟨x, by simp, rfl⟩, h.1.symm⟩
    | false => exact (eqT h.2 q).imp (fun h => h) (fun ⟨⟨y, hy, e⟩, h⟩ => ⟨⟨y, by simp [hy], e⟩, h⟩)
theorem eqB {s : St} : ∀ {l : List (Nat × List AV)}, EqB s l → ∀ q y, lkO l q = some y → (q, y) ∈ l ∧ s.b q = some y
  | [], _, _, _, h => by simp [lkO] at h
  | x :: l, h, q, y, hy => by
    simp only [lkO] at hy
    cases e : Nat.beq q x.1 with
    | true => have := Nat.eq_of_beq_eq_true e; subst this; rw [e] at hy; cases hy; exact ⟨by simp, h.1⟩
    | false => rw [e] at hy; exact ⟨List.mem_cons_of_mem _ (eqB h.2 q y hy).1, (eqB h.2 q y hy).2⟩
theorem eqR {s : St} : ∀ {l : List (Nat × Nat × List (List PV))}, EqR s l → ∀ q y, lkO l q = some y → (q, y) ∈ l ∧ s.r q = some y
  | [], _, _, _, h => by simp [lkO] at h
  | x :: l, h, q, y, hy => by
    simp only [lkO] at hy
    cases e : Nat.beq q x.1 with
    | true => have := Nat.eq_of_beq_eq_true e; subst this; rw [e] at hy; cases hy; exact ⟨by simp, h.1⟩
    | false => rw [e] at hy; exact ⟨List.mem_cons_of_mem _ (eqR h.2 q y hy).1, (eqR h.2 q y hy).2⟩
theorem lkO_some {α : Type} : ∀ {l : List (Nat × α)} {q : Nat}, q ∈ l.map (·.1) → (lkO l q).isSome
  | [], _, h => by simp at h
  | x :: l, q, h => by
    simp only [lkO]
    cases e : Nat.beq q x.1 with
    | true => rfl
    | false =>
      refine lkO_some ?_
      simp only [List.map_cons, List.mem_cons] at h
      rcases h with h | h
      · subst h; simp at e
      · exact h
/-- What an abstract value leads to is told. -/
def aliveB (B R : List Nat) (av : AV) : Bool := av.rows.all (fun i => R.contains i) && av.bxs.all (fun i => B.contains i)
mutual
theorem AVR.sub {L : Pl} {w : World} {s s' : St} : ∀ (av : AV) (v : Value), AVR L w s av v → (∀ id ∈ av.rows, s'.r id = s.r id) → (∀ b ∈ av.bxs, (s'.b b).isSome) → AVR L w s' av v
  | .undef, v, _, _, _ => by simp [AVR]
  | .p d x, v, hv, hr, _ => by
    simp only [AVR] at hv ⊢
    exact ⟨hv.1, fun id hid => by subst hid; rw [hr id (by simp [AV.rows])]; exact hv.2 id rfl⟩
  | .sl id lo len, v, hv, hr, _ => by simp only [AVR] at hv ⊢; rw [hr id (by simp [AV.rows])]; exact hv
  | .ptr b off, v, hv, _, hb => by simp only [AVR] at hv ⊢; exact ⟨hb b (by simp [AV.bxs]), hv.2⟩
  | .ea id i off, v, hv, hr, _ => by simp only [AVR] at hv ⊢; rw [hr id (by simp [AV.rows])]; exact hv
  | .fea d ps, v, hv, hr, _ => by
    simp only [AVR] at hv ⊢
    exact ⟨hv.1, fun id hid => by subst hid; rw [hr id (by simp [AV.rows])]; exact hv.2 id rfl⟩
  | .nils, v, hv, _, _ => by simpa only [AVR] using hv
  | .sat A, v, hv, _, _ => by simpa only [AVR] using hv
  | .clo f bs, v, hv, _, hb => by simp only [AVR] at hv ⊢; exact ⟨fun b h => hb b (by simpa [AV.bxs] using h), hv.2⟩
  | .agg cs, v, hv, hr, hb => by
    simp only [AVR] at hv ⊢
    obtain ⟨us, h1, h2⟩ := hv
    exact ⟨us, h1, AVRs.subs cs us h2 (by simpa [AV.rows] using hr) (by simpa [AV.bxs] using hb)⟩
  | .tup cs, v, hv, hr, hb => by
    simp only [AVR] at hv ⊢
    obtain ⟨us, h1, h2⟩ := hv
    exact ⟨us, h1, AVRs.subs cs us h2 (by simpa [AV.rows] using hr) (by simpa [AV.bxs] using hb)⟩
theorem AVRs.subs {L : Pl} {w : World} {s s' : St} : ∀ (as : List AV) (us : List Value), AVRs L w s as us → (∀ id ∈ AV.rowss as, s'.r id = s.r id) → (∀ b ∈ AV.bxss as, (s'.b b).isSome) → AVRs L w s' as us
  | [], [], _, _, _ => by simp [AVRs]
  | [], _ :: _, hv, _, _ => by simp [AVRs] at hv
  | _ :: _, [], hv, _, _ => by simp [AVRs] at hv
  | a :: as, u :: us, hv, hr, hb => by
    simp only [AVRs] at hv ⊢
    simp only [AV.rowss, AV.bxss, List.mem_append] at hr hb
    exact ⟨AVR.sub a u hv.1 (fun i h => hr i (.inl h)) (fun i h => hb i (.inl h)), AVRs.subs as us hv.2 (fun i h => hr i (.inr h)) (fun i h => hb i (.inr h))⟩
end
def aliveL (T : List (Nat × AV)) (B : List (Nat × List AV)) (R : List (Nat × Nat × List (List PV))) : Bool :=
  T.all (fun x => aliveB (B.map (·.1)) (R.map (·.1)) x.2) && B.all (fun x => aliveB (B.map (·.1)) (R.map (·.1)) (.agg x.2))
theorem wk_mk {n : Nat} {s : St} {T : List (Nat × AV)} {B : List (Nat × List AV)} {R : List (Nat × Nat × List (List PV))} (hT : EqT s T) (hB : EqB s B) (hR : EqR s R) (hl : aliveL T B R = true) : Wk n s (mk T B R) := by
  intro w0 I L a w h
  simp only [aliveL, Bool.and_eq_true, List.all_eq_true] at hl
  have rows : ∀ av, aliveB (B.map (·.1)) (R.map (·.1)) av = true → (∀ id ∈ av.rows, (mk T B R).r id = s.r id) ∧ ∀ b ∈ av.bxs, ((mk T B R).b b).isSome := fun av ha => by
    simp only [aliveB, Bool.and_eq_true, List.all_eq_true, List.contains_eq_mem, decide_eq_true_eq] at ha
    refine ⟨fun id hid => ?_, fun b hb => lkO_some (ha.2 b hb)⟩
    obtain ⟨y, hy⟩ := Option.isSome_iff_exists.1 (lkO_some (ha.1 id hid))
    exact hy.trans (eqR hR id y hy).2.symm
  refine ⟨L, ⟨h.same, h.zlt, h.llt, h.sz, h.df, fun i => ?_, fun i cs hc => ?_, fun i sz xs hx => h.rw i sz xs (eqR hR i _ hx).2, fun i hi hx => ?_, fun i hi hx => ?_, h.zi⟩⟩
  · rcases eqT hT i with e | ⟨⟨x, hx, ex⟩, e⟩
    · simp only [mk, e, AVR]
    · have ha := rows (lkT T i) (by rw [← ex]; exact hl.1 x hx)
      exact AVR.sub (lkT T i) _ (by rw [e]; exact h.tm i) ha.1 ha.2
  · obtain ⟨hm, hb⟩ := eqB hB i cs hc
    obtain ⟨h1, us, ty, h2, h3, h4⟩ := h.bx i cs hb
    have ha := rows (.agg cs) (hl.2 _ hm)
    simp only [AV.rows, AV.bxs] at ha
    exact ⟨h1, us, ty, h2, AVRs.subs cs us h3 ha.1 ha.2, h4⟩
  · obtain ⟨y, hy⟩ := Option.isSome_iff_exists.1 hx
    exact h.pr i hi (by rw [(eqR hR i y hy).2]; rfl)
  · obtain ⟨y, hy⟩ := Option.isSome_iff_exists.1 hx
    exact h.pb i hi (by rw [(eqB hB i y hy).2]; rfl)
end Go.Rl

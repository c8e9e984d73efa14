/- Promises of functions, proved by walks over their operations; no conditions beyond those that each theorem states. -/
import Derived.Test.YtamebecmgdbmnaaGreatDoorRlA
import Derived.Laws.OwnMore
import Derived.Laws.Tables
set_option linter.unusedSimpArgs false
set_option linter.unusedVariables false
namespace Go.Rl
open Go.RowKit

mutual
def AV.full : AV → Bool
 | .undef => false
 | .agg cs => AV.fulls cs
 | .tup cs => AV.fulls cs
 | _ => true
def AV.fulls : List AV → Bool
 | [] => true
 | a :: aL => AV.full a && AV.fulls aL
end
mutual
theorem AV.kill_full (K : List Nat) : ∀ a : AV, (a.kill K).full = true → a.kill K = a
 | .undef, h => by simp [AV.kill]
 | .p none x, _ => rfl
 | .p (some d) x, h => by simp only [AV.kill] at h ⊢; split <;> simp_all [AV.full]
 | .sl id lo len, h => by simp only [AV.kill] at h ⊢; split <;> simp_all [AV.full]
 | .ptr b off, _ => rfl
 | .ea id j off, h => by simp only [AV.kill] at h ⊢; split <;> simp_all [AV.full]
 | .fea none ps, _ => rfl
 | .fea (some d) ps, h => by simp only [AV.kill] at h ⊢; split <;> simp_all [AV.full]
 | .nils, _ => rfl
 | .sat _, _ => rfl
 | .clo f bs, _ => rfl
 | .agg cs, h => by simp only [AV.kill, AV.full] at h ⊢; rw [AV.kills_full K cs h]
 | .tup cs, h => by simp only [AV.kill, AV.full] at h ⊢; rw [AV.kills_full K cs h]
theorem AV.kills_full (K : List Nat) : ∀ aL : List AV, AV.fulls (AV.kills K aL) = true → AV.kills K aL = aL
 | [], _ => rfl
 | a :: aL, h => by
  simp only [AV.kills, AV.fulls, Bool.and_eq_true] at h ⊢
  rw [AV.kill_full K a h.1, AV.kills_full K aL h.2]
end
mutual
theorem AV.kill_off (K : List Nat) : ∀ a : AV, (∀ id ∈ a.rows, id ∉ K) → a.kill K = a
 | .undef, _ => rfl
 | .p none x, _ => rfl
 | .p (some d) x, h => by simp only [AV.kill]; rw [if_neg (h d (by simp [AV.rows]))]
 | .sl id lo len, h => by simp only [AV.kill]; rw [if_neg (h id (by simp [AV.rows]))]
 | .ptr b off, _ => rfl
 | .ea id j off, h => by simp only [AV.kill]; rw [if_neg (h id (by simp [AV.rows]))]
 | .fea none ps, _ => rfl
 | .fea (some d) ps, h => by simp only [AV.kill]; rw [if_neg (h d (by simp [AV.rows]))]
 | .nils, _ => rfl
 | .sat _, _ => rfl
 | .clo f bs, _ => rfl
 | .agg cs, h => by simp only [AV.kill]; rw [AV.kills_off K cs (by simpa [AV.rows] using h)]
 | .tup cs, h => by simp only [AV.kill]; rw [AV.kills_off K cs (by simpa [AV.rows] using h)]
theorem AV.kills_off (K : List Nat) : ∀ aL : List AV, (∀ id ∈ AV.rowss aL, id ∉ K) → AV.kills K aL = aL
 | [], _ => rfl
 | a :: aL, h => by
  simp only [AV.rowss, List.mem_append] at h
  simp only [AV.kills]
  rw [AV.kill_off K a (fun id hi => h id (.inl hi)), AV.kills_off K aL (fun id hi => h id (.inr hi))]
end
mutual
theorem AV.kill_comm (K K' : List Nat) : ∀ a : AV, (a.kill K).kill K' = (a.kill K').kill K
 | .undef => rfl
 | .p none x => rfl
 | .p (some d) x => by simp only [AV.kill]; by_cases h : d ∈ K <;> by_cases h' : d ∈ K' <;> simp [h, h', AV.kill]
 | .sl id lo len => by simp only [AV.kill]; by_cases h : id ∈ K <;> by_cases h' : id ∈ K' <;> simp [h, h', AV.kill]
 | .ptr b off => rfl
 | .ea id j off => by simp only [AV.kill]; by_cases h : id ∈ K <;> by_cases h' : id ∈ K' <;> simp [h, h', AV.kill]
 | .fea none ps => rfl
 | .fea (some d) ps => by simp only [AV.kill]; by_cases h : d ∈ K <;> by_cases h' : d ∈ K' <;> simp [h, h', AV.kill]
 | .nils => rfl
 | .sat _ => rfl
 | .clo f bs => rfl
 | .agg cs => by simp only [AV.kill]; rw [AV.kills_comm K K' cs]
 | .tup cs => by simp only [AV.kill]; rw [AV.kills_comm K K' cs]
theorem AV.kills_comm (K K' : List Nat) : ∀ aL : List AV, AV.kills K' (AV.kills K aL) = AV.kills K (AV.kills K' aL)
 | [] => rfl
 | a :: aL => by simp only [AV.kills]; rw [AV.kill_comm K K' a, AV.kills_comm K K' aL]
end

theorem zF6 : ∀ (l : List (Nat × List AV)) (b : Nat → Option (List AV)) (q : Nat), zEk b l q = match zEk (fun _ => none) l q with
  | some cs => some cs
  | none => b q
 | [], b, q => rfl
 | x :: l, b, q => by
  simp only [zEk]
  rw [zF6 l (upd b x.1 (some x.2)), zF6 l (upd (fun _ => none) x.1 (some x.2))]
  cases zEk (fun _ => none) l q with
  | some cs => rfl
  | none => by_cases h : q = x.1 <;> simp [h, zBd]
theorem zDb : ∀ (l : List (Nat × Nat × List (List PV))) (b : Nat → Option (Nat × List (List PV))) (q : Nat), zBr b l q = match zBr (fun _ => none) l q with
  | some cs => some cs
  | none => b q
 | [], b, q => rfl
 | x :: l, b, q => by
  simp only [zBr]
  rw [zDb l (upd b x.1 (some x.2)), zDb l (upd (fun _ => none) x.1 (some x.2))]
  cases zBr (fun _ => none) l q with
  | some cs => rfl
  | none => by_cases h : q = x.1 <;> simp [h, zBd]
theorem zDT : ∀ (l : List (Nat × List AV)) (q : Nat) (cs : List AV), zEk (fun _ => none) l q = some cs → (q, cs) ∈ l
 | [], q, cs, h => by simp [zEk] at h
 | x :: l, q, cs, h => by
  simp only [zEk] at h
  rw [zF6] at h
  cases e : zEk (fun _ => none) l q with
  | some c => rw [e] at h; cases h; exact List.mem_cons_of_mem _ (zDT l q _ e)
  | none =>
   rw [e] at h
   by_cases hq : q = x.1
   · subst hq; simp at h; subst h; simp
   · simp [zBd _ _ hq] at h
theorem zCe : ∀ (l : List (Nat × Nat × List (List PV))) (q : Nat) (y), zBr (fun _ => none) l q = some y → (q, y) ∈ l
 | [], q, cs, h => by simp [zBr] at h
 | x :: l, q, cs, h => by
  simp only [zBr] at h
  rw [zDb] at h
  cases e : zBr (fun _ => none) l q with
  | some c => rw [e] at h; cases h; exact List.mem_cons_of_mem _ (zCe l q _ e)
  | none =>
   rw [e] at h
   by_cases hq : q = x.1
   · subst hq; simp at h; subst h; simp
   · simp [zBd _ _ hq] at h

theorem zKT (δ : Dl) (d : Option Tmp) (s : St) (q : Nat) : (δ.app d s).t q = if d = some q then δ.put else (s.t q).kill δ.kill := by
 rw [Dl.app, St.killd_eq]
 cases d with
 | none => simp [St.put, St.kill]
 | some d =>
  by_cases h : d = q
  · subst h; simp [St.put]
  · simp [St.put, h, zBd _ _ (Ne.symm h), St.kill]
theorem zLm (δ : Dl) (d : Option Tmp) (s : St) (q : Nat) : (δ.app d s).b q = match zEk (fun _ => none) δ.setB q with
  | some cs => some cs
  | none => (s.b q).map (AV.kills δ.kill) := by
 rw [Dl.app, St.killd_eq, St.put_b]
 exact zF6 _ _ _
theorem zLl (δ : Dl) (d : Option Tmp) (s : St) (q : Nat) : (δ.app d s).r q = match zBr (fun _ => none) δ.setR q with
  | some cs => some cs
  | none => if q ∈ δ.kill then none else s.r q := by
 rw [Dl.app, St.killd_eq, St.put_r]
 exact zDb _ _ _

structure Fp where
 /-- The rows that it knows of, -/
 R : List Nat
 /-- those that it looks into, -/
 C : List Nat
 /-- those that it ends, -/
 W : List Nat
 /-- those that it sets. -/
 S : List Nat
 B : List Nat
 V : List Nat
 full : Bool
 deriving Inhabited
structure Bd (F : Fp) (δ : Dl) : Prop where
 k : ∀ id ∈ δ.kill, id ∈ F.W
 sr : ∀ x ∈ δ.setR, x.1 ∈ F.S
 sb : ∀ x ∈ δ.setB, x.1 ∈ F.V
 sc : ∀ x ∈ δ.setB, ∀ id ∈ AV.rowss x.2, id ∈ F.R
 pt : ∀ id ∈ δ.put.rows, id ∈ F.R
structure Asks (F : Fp) (o : Oper) (M B : List Nat) (s : St) : Prop where
 ar : ∀ x ∈ Oper.asked o, ∀ id ∈ (s.ev x).rows, id ∈ F.R
 ac : ∀ x ∈ Oper.asked o, zFr o.op = false → ∀ id ∈ (s.ev x).rows, id ∈ F.C
 ab : ∀ x ∈ Oper.asked o, zFr o.op = false → ∀ i ∈ (s.ev x).bxs, i ∈ F.B
 m : ∀ id ∈ M, id ∈ F.C
 cr : ∀ id ∈ F.C, id ∈ F.R
 n : ∀ i ∈ B, i ∈ F.B
 bc : ∀ i ∈ F.B, ∀ cs, s.b i = some cs → ∀ id ∈ AV.rowss cs, id ∈ F.R
 fl : F.full = true → (∀ x ∈ Oper.asked o, (s.ev x).full = true) ∧ ∀ i ∈ F.B, ∀ cs, s.b i = some cs → AV.fulls cs = true

def fpA (o : Oper) (l : List Nat) : List Nat := match zFr o.op with
 | true => []
 | false => l
theorem zOx {o : Oper} {l : List Nat} {x : Nat} (h : zFr o.op = false) (hx : x ∈ l) : x ∈ fpA o l := by unfold fpA; rw [h]; exact hx
theorem fpA_of {o : Oper} {l : List Nat} {x : Nat} (hx : x ∈ fpA o l) : x ∈ l := by
 unfold fpA at hx
 split at hx
 · cases hx
 · exact hx
def fpB (o : Oper) (B : List Nat) (s : St) : List Nat := fpA o ((Oper.asked o).flatMap (fun x => (s.ev x).bxs)) ++ B
def fpC (s : St) (i : Nat) : List AV := (s.b i).getD []
def fpOf (o : Oper) (M B : List Nat) (s : St) (δ : Dl) : Fp where
 R := (Oper.asked o).flatMap (fun x => (s.ev x).rows) ++ M ++ (fpB o B s).flatMap (fun i => AV.rowss (fpC s i)) ++ δ.put.rows ++ δ.setB.flatMap (fun x => AV.rowss x.2)
 C := fpA o ((Oper.asked o).flatMap (fun x => (s.ev x).rows)) ++ M
 W := δ.kill
 S := δ.setR.map (·.1)
 B := fpB o B s
 V := δ.setB.map (·.1)
 full := (Oper.asked o).all (fun x => (s.ev x).full) && (fpB o B s).all (fun i => AV.fulls (fpC s i))
theorem fp_bd (o : Oper) (M B : List Nat) (s : St) (δ : Dl) : Bd (fpOf o M B s δ) δ where
 k id h := h
 sr x h := List.mem_map.2 ⟨x, h, rfl⟩
 sb x h := by simp only [fpOf, List.mem_map]; exact ⟨x, h, rfl⟩
 sc x h id hi := by simp only [fpOf, List.mem_append, List.mem_flatMap]; exact .inr ⟨x, h, hi⟩
 pt id h := by simp [fpOf, h]
theorem zMy (o : Oper) (M B : List Nat) (s : St) (δ : Dl) : Asks (fpOf o M B s δ) o M B s where
 ar x hx id hi := by simp only [fpOf, List.mem_append, List.mem_flatMap]; exact .inl (.inl (.inl (.inl ⟨x, hx, hi⟩)))
 ac x hx hl id hi := by simp only [fpOf, List.mem_append]; exact .inl (zOx hl (List.mem_flatMap.2 ⟨x, hx, hi⟩))
 ab x hx hl id hi := by simp only [fpOf, fpB, List.mem_append]; exact .inl (zOx hl (List.mem_flatMap.2 ⟨x, hx, hi⟩))
 m id h := by simp [fpOf, h]
 cr id h := by
  simp only [fpOf, List.mem_append] at h ⊢
  rcases h with h | h
  · exact .inl (.inl (.inl (.inl (fpA_of h))))
  · exact .inl (.inl (.inl (.inr h)))
 n id h := by simp [fpOf, fpB, h]
 bc i hi cs hc id hid := by
  simp only [fpOf, List.mem_append, List.mem_flatMap]
  exact .inl (.inl (.inr ⟨i, hi, by simpa [fpC, hc] using hid⟩))
 fl h := by
  simp only [fpOf, Bool.and_eq_true, List.all_eq_true] at h
  exact ⟨h.1, fun i hi cs hc => by have := h.2 i hi; simpa [fpC, hc] using this⟩

def zNN (Fi Fj : Fp) : Bool :=
 (Fi.W.all fun x => !Fj.R.contains x && !Fj.W.contains x && !Fj.S.contains x) && (Fi.S.all fun x => !Fj.C.contains x && !Fj.W.contains x && !Fj.S.contains x) && (Fj.W.all fun x => !Fi.R.contains x) && (Fj.S.all fun x => !Fi.C.contains x) &&
 (Fi.V.all fun x => !Fj.B.contains x && !Fj.V.contains x) && (Fj.V.all fun x => !Fi.B.contains x) && (Fi.W.isEmpty || Fj.full) && (Fj.W.isEmpty || Fi.full)
structure ApartF (Fi Fj : Fp) : Prop where
 a : ∀ x ∈ Fi.W, x ∉ Fj.R
 a2 : ∀ x ∈ Fi.S, x ∉ Fj.C
 b1 : ∀ x ∈ Fi.W, x ∉ Fj.W
 b2 : ∀ x ∈ Fi.W, x ∉ Fj.S
 b3 : ∀ x ∈ Fi.S, x ∉ Fj.W
 b4 : ∀ x ∈ Fi.S, x ∉ Fj.S
 c : ∀ x ∈ Fj.W, x ∉ Fi.R
 c2 : ∀ x ∈ Fj.S, x ∉ Fi.C
 d : ∀ x ∈ Fi.V, x ∉ Fj.B
 e : ∀ x ∈ Fi.V, x ∉ Fj.V
 f : ∀ x ∈ Fj.V, x ∉ Fi.B
 g : Fi.W = [] ∨ Fj.full = true
 h : Fj.W = [] ∨ Fi.full = true
theorem zKU {Fi Fj : Fp} (h : zNN Fi Fj = true) : ApartF Fi Fj := by
 simp only [zNN, Bool.and_eq_true, List.all_eq_true, Bool.not_eq_true', List.contains_eq_mem, decide_eq_false_iff_not, Bool.or_eq_true, List.isEmpty_iff] at h
 obtain ⟨⟨⟨⟨⟨⟨⟨h1, hs⟩, h2⟩, hc⟩, h3⟩, h4⟩, h5⟩, h6⟩ := h
 exact ⟨fun x hx => (h1 x hx).1.1, fun x hx => (hs x hx).1.1, fun x hx => (h1 x hx).1.2, fun x hx => (h1 x hx).2, fun x hx => (hs x hx).1.2, fun x hx => (hs x hx).2, h2, hc, fun x hx => (h3 x hx).1, fun x hx => (h3 x hx).2, h4, h5, h6⟩
theorem ApartF.symm {Fi Fj : Fp} (h : ApartF Fi Fj) : ApartF Fj Fi :=
 ⟨h.c, h.c2, fun x hx hy => h.b1 x hy hx, fun x hx hy => h.b3 x hy hx, fun x hx hy => h.b2 x hy hx, fun x hx hy => h.b4 x hy hx, h.a, h.a2, h.f, fun x hx hy => h.e x hy hx, h.d, h.h, h.g⟩

structure Eqs (F : Fp) (o : Oper) (s s' : St) : Prop where
 ev : ∀ x ∈ Oper.asked o, s'.ev x = s.ev x
 r : ∀ id ∈ F.C, s'.r id = s.r id
 b : ∀ i ∈ F.B, s'.b i = s.b i
theorem Eqs.symm {F : Fp} {o : Oper} {s s' : St} (h : Eqs F o s s') : Eqs F o s' s := ⟨fun x hx => (h.ev x hx).symm, fun x hx => (h.r x hx).symm, fun x hx => (h.b x hx).symm⟩
theorem Asks.ag {F : Fp} {o : Oper} {M B : List Nat} {s s' : St} (h : Asks F o M B s) (e : Eqs F o s s') : Ag o M B s s' where
 ev := e.ev
 r x hx hl id hid := e.r id (h.ac x hx hl id hid)
 b x hx hl i hi := e.b i (h.ab x hx hl i hi)
 m id hid := e.r id (h.m id hid)
 n i hi := e.b i (h.n i hi)
theorem Asks.of {F : Fp} {o : Oper} {M B : List Nat} {s s' : St} (h : Asks F o M B s) (e : Eqs F o s s') : Asks F o M B s' where
 ar x hx id hi := h.ar x hx id (by rw [← e.ev x hx]; exact hi)
 ac x hx hl id hi := h.ac x hx hl id (by rw [← e.ev x hx]; exact hi)
 ab x hx hl id hi := h.ab x hx hl id (by rw [← e.ev x hx]; exact hi)
 m := h.m
 cr := h.cr
 n := h.n
 bc i hi cs hc := h.bc i hi cs (by rw [← e.b i hi]; exact hc)
 fl hf := ⟨fun x hx => by rw [e.ev x hx]; exact (h.fl hf).1 x hx, fun i hi cs hc => (h.fl hf).2 i hi cs (by rw [← e.b i hi]; exact hc)⟩
theorem Ag.trans {o : Oper} {M B : List Nat} {s s' s'' : St} (h : Ag o M B s s') (k : Ag o M B s' s'') : Ag o M B s s'' where
 ev x hx := (k.ev x hx).trans (h.ev x hx)
 r x hx hl id hid := (k.r x hx hl id (by rw [h.ev x hx]; exact hid)).trans (h.r x hx hl id hid)
 b x hx hl i hi := (k.b x hx hl i (by rw [h.ev x hx]; exact hi)).trans (h.b x hx hl i hi)
 m id hid := (k.m id hid).trans (h.m id hid)
 n i hi := (k.n i hi).trans (h.n i hi)
theorem StepD.at {γ : Gho} {P : Program} {n : Nat} {o : Oper} {M B : List Nat} {s s' : St} {δ : Dl} (h : StepD γ P n o M B s δ) (ag : Ag o M B s s') : StepD γ P n o M B s' δ :=
 fun s'' ag' => h s'' (ag.trans ag')

section
variable {ops : Array Oper}
theorem ev_app {δ : Dl} {d : Option Tmp} {s : St} {x : Operand} (hd : ∀ t, d = some t → x ≠ .tmp t) : (δ.app d s).ev x = match x with
  | .tmp t => (s.t t).kill δ.kill
  | _ => s.ev x := by
 cases x with
 | tmp t => simp only [St.ev]; rw [zKT, if_neg (fun e => hd t e rfl)]
 | _ => rfl
theorem eqs_fwd {Fi Fj : Fp} {oi oj : Oper} {M B : List Nat} {δ : Dl} {s : St} (hF : ApartF Fi Fj) (hd : ∀ t, oi.dst = some t → Operand.tmp t ∉ Oper.asked oj) (hb : Bd Fi δ) (hs : Asks Fj oj M B s) : Eqs Fj oj s (δ.app oi.dst s) where
 ev x hx := by
  rw [ev_app (fun t ht e => hd t ht (e ▸ hx))]
  split
  ·
   rename_i t
   exact AV.kill_off _ _ (fun id hid hk => hF.a id (hb.k id hk) (hs.ar _ hx id hid))
  · rfl
 r id hid := by
  rw [zLl]
  cases e : zBr (fun _ => none) δ.setR id with
  | some y => exact absurd hid (hF.a2 id (hb.sr _ (zCe _ _ _ e)))
  | none => exact if_neg (fun hk => hF.a id (hb.k id hk) (hs.cr id hid))
 b i hi := by
  rw [zLm]
  cases e : zEk (fun _ => none) δ.setB i with
  | some y => exact absurd hi (hF.d i (hb.sb _ (zDT _ _ _ e)))
  | none =>
   cases hc : s.b i with
   | none => rfl
   | some cs =>
    simp only [Option.map_some]
    rw [AV.kills_off _ _ (fun id hid hk => hF.a id (hb.k id hk) (hs.bc i hi cs hc id hid))]
theorem eqs_bwd {Fi Fj : Fp} {oi oj : Oper} {M B : List Nat} {δ : Dl} {s : St} (hF : ApartF Fi Fj) (hd : ∀ t, oi.dst = some t → Operand.tmp t ∉ Oper.asked oj) (hb : Bd Fi δ) (hs : Asks Fj oj M B (δ.app oi.dst s)) : Eqs Fj oj s (δ.app oi.dst s) := by
 have hK : δ.kill = [] ∨ Fj.full = true := hF.g.imp (fun h => by
  cases hk : δ.kill with
  | nil => rfl
  | cons k K => have := hb.k k (by rw [hk]; simp); rw [h] at this; cases this) id
 have hr : ∀ id, id ∈ Fj.C → (δ.app oi.dst s).r id = s.r id := fun id hid => by
  rw [zLl]
  cases e : zBr (fun _ => none) δ.setR id with
  | some y => exact absurd hid (hF.a2 id (hb.sr _ (zCe _ _ _ e)))
  | none => exact if_neg (fun hk => hF.a id (hb.k id hk) (hs.cr id hid))
 have hbb : ∀ i, i ∈ Fj.B → (δ.app oi.dst s).b i = (s.b i).map (AV.kills δ.kill) := fun i hi => by
  rw [zLm]
  cases e : zEk (fun _ => none) δ.setB i with
  | some y => exact absurd hi (hF.d i (hb.sb _ (zDT _ _ _ e)))
  | none => rfl
 have hev : ∀ x, x ∈ Oper.asked oj → ∀ t, x = .tmp t → (δ.app oi.dst s).t t = (s.t t).kill δ.kill := fun x hx t ht => by
  rw [zKT, if_neg (fun e => hd t e (ht ▸ hx))]
 rcases hK with hK | hK
 ·
  refine ⟨fun x hx => ?_, hr, fun i hi => ?_⟩
  ·
   cases x with
   | tmp t => simp only [St.ev]; rw [hev _ hx t rfl, hK, AV.kill_nil]
   | _ => rfl
  ·
   rw [hbb i hi, hK]
   cases s.b i <;> simp [AV.kills_nil]
 ·
  obtain ⟨f1, f2⟩ := hs.fl hK
  refine ⟨fun x hx => ?_, hr, fun i hi => ?_⟩
  ·
   cases x with
   | tmp t =>
    have := f1 _ hx
    simp only [St.ev] at this ⊢
    rw [hev _ hx t rfl] at this ⊢
    exact AV.kill_full _ _ this
   | _ => rfl
  ·
   have h2 := f2 i hi
   rw [hbb i hi] at h2 ⊢
   cases hc : s.b i with
   | none => rfl
   | some cs =>
    rw [hc] at h2
    simp only [Option.map_some] at h2 ⊢
    rw [AV.kills_full _ _ (h2 _ rfl)]

theorem St.ext' {s s' : St} (ht : ∀ q, s.t q = s'.t q) (hb : ∀ q, s.b q = s'.b q) (hr : ∀ q, s.r q = s'.r q) : s = s' := by
 cases s; cases s'
 simp only [St.mk.injEq]
 exact ⟨funext ht, funext hb, funext hr⟩
theorem zOe {Fi Fj : Fp} {δi δj : Dl} {di dj : Option Tmp} {s : St} (hF : ApartF Fi Fj) (hd : ∀ t, di = some t → dj ≠ some t) (hi : Bd Fi δi) (hj : Bd Fj δj) : δj.app dj (δi.app di s) = δi.app di (δj.app dj s) := by
 refine St.ext' (fun q => ?_) (fun q => ?_) (fun q => ?_)
 ·
  rw [zKT, zKT, zKT, zKT]
  by_cases h1 : dj = some q
  ·
   have h2 : di ≠ some q := fun e => hd q e h1
   rw [if_pos h1, if_neg h2, if_pos h1]
   exact (AV.kill_off _ _ (fun id hid hk => hF.a id (hi.k id hk) (hj.pt id hid))).symm
  ·
   rw [if_neg h1]
   by_cases h2 : di = some q
   ·
    rw [if_pos h2, if_pos h2]
    exact AV.kill_off _ _ (fun id hid hk => hF.c id (hj.k id hk) (hi.pt id hid))
   · rw [if_neg h2, if_neg h2, if_neg h1, AV.kill_comm]
 ·
  rw [zLm, zLm, zLm, zLm]
  cases e1 : zEk (fun _ => none) δj.setB q with
  | some y =>
   cases e2 : zEk (fun _ => none) δi.setB q with
   | some z => exact absurd (hj.sb _ (zDT _ _ _ e1)) (hF.e q (hi.sb _ (zDT _ _ _ e2)))
   | none =>
    simp only [Option.map_some]
    rw [AV.kills_off _ _ (fun id hid hk => hF.a id (hi.k id hk) (hj.sc _ (zDT _ _ _ e1) id hid))]
  | none =>
   cases e2 : zEk (fun _ => none) δi.setB q with
   | some z =>
    simp only [Option.map_some]
    rw [AV.kills_off _ _ (fun id hid hk => hF.c id (hj.k id hk) (hi.sc _ (zDT _ _ _ e2) id hid))]
   | none =>
    cases s.b q with
    | none => rfl
    | some cs => simp only [Option.map_some]; rw [AV.kills_comm]
 ·
  rw [zLl, zLl, zLl, zLl]
  cases e1 : zBr (fun _ => none) δj.setR q with
  | some y =>
   cases e2 : zBr (fun _ => none) δi.setR q with
   | some z => exact absurd (hj.sr _ (zCe _ _ _ e1)) (hF.b4 q (hi.sr _ (zCe _ _ _ e2)))
   | none =>
    simp only []
    rw [if_neg (fun hk => hF.b2 q (hi.k q hk) (hj.sr _ (zCe _ _ _ e1)))]
  | none =>
   cases e2 : zBr (fun _ => none) δi.setR q with
   | some z =>
    simp only []
    rw [if_neg (fun hk => hF.b3 q (hi.sr _ (zCe _ _ _ e2)) (hj.k q hk))]
   | none =>
    simp only []
    by_cases h1 : q ∈ δj.kill <;> by_cases h2 : q ∈ δi.kill <;> simp [h1, h2]

def gval (ops : Array Oper) (o : Oper) (s : St) : Option Bool := match o.guard with
 | none => some true
 | some (g, want) => match (ops[g]?).bind (·.dst) with
  | none => none
  | some t => match s.t t with
   | .p none (.v (.bool b)) => some (b == want)
   | .tup [] => some false
   | _ => none
theorem zGs {w0 : World} {I : Fr} {n : Nat} {L : Pl} {s : St} {a : Act} {w : World} (h : Rel w0 I n L s a w) {o : Oper} {b : Bool} (hg : gval ops o s = some b) : Region.wanted o (yielded ops a.tmps) = b := by
 unfold gval at hg
 unfold Region.wanted
 cases hgd : o.guard with
 | none => rw [hgd] at hg; simpa using hg
 | some gw =>
  obtain ⟨g, want⟩ := gw
  rw [hgd] at hg
  simp only at hg ⊢
  unfold yielded
  cases ht : (ops[g]?).bind (·.dst) with
  | none => rw [ht] at hg; cases hg
  | some t =>
   rw [ht] at hg
   simp only at hg
   split at hg
   ·
    rename_i c hc
    have hv := h.tm t
    rw [hc] at hv
    simp only [AVR] at hv
    obtain ⟨hv, _⟩ := hv
    generalize hu : a.tmps.getD t undef = u at hv
    cases hv
    cases hx : a.tmps[t]? with
    | none => simp [hx, undef] at hu
    | some u =>
     simp [hx] at hu
     subst hu
     simp [hx]
     simpa using hg
   ·
    rename_i hc
    have hv := h.tm t
    rw [hc] at hv
    simp only [AVR] at hv
    obtain ⟨us, hv, hus⟩ := hv
    have hb : b = false := by simpa using hg.symm
    subst hb
    cases hx : a.tmps[t]? with
    | none => simp [hx]
    | some u =>
     simp [hx] at hv
     subst hv
     simp [hx]
   · cases hg
theorem zF9 {o : Oper} {δ : Dl} {d : Option Tmp} {s : St} {b : Bool} (hd : ∀ t, d = some t → t ∉ o.looksAt ops) : gval ops o (δ.app d s) = some b ↔ gval ops o s = some b := by
 unfold gval
 cases hgd : o.guard with
 | none => simp
 | some gw =>
  obtain ⟨g, want⟩ := gw
  simp only
  cases ht : (ops[g]?).bind (·.dst) with
  | none => simp
  | some t =>
   simp only
   have hne : d ≠ some t := fun e => hd t e (by simp [Oper.looksAt, hgd, ht])
   rw [zKT, if_neg hne]
   cases hs : s.t t with
   | p d x => cases d with
    | none => simp [AV.kill]
    | some d => by_cases h : d ∈ δ.kill <;> simp [AV.kill, h]
   | sl id lo len => by_cases h : id ∈ δ.kill <;> simp [AV.kill, h]
   | ea id lo len => by_cases h : id ∈ δ.kill <;> simp [AV.kill, h]
   | fea d x => cases d with
    | none => simp [AV.kill]
    | some d => by_cases h : d ∈ δ.kill <;> simp [AV.kill, h]
   | tup cs => cases cs <;> simp [AV.kill, AV.kills]
   | _ => simp [AV.kill]

inductive Good (γ : Gho) (P : Program) (n : Nat) (ops : Array Oper) (o : Oper) (s : St) : Fp → Dl → Prop where
 | run (M B : List Nat) {F : Fp} {δ : Dl} (hg : gval ops o s = some true) (h : StepD γ P n o M B s δ) (hb : Bd F δ) (hs : Asks F o M B s) : Good γ P n ops o s F δ
 | not {F : Fp} (hg : gval ops o s = some false) : Good γ P n ops o s F { put := .tup [] }
theorem Good.bd {γ : Gho} {P : Program} {n : Nat} {o : Oper} {s : St} {F : Fp} {δ : Dl} (h : Good γ P n ops o s F δ) : Bd F δ := by
 cases h with
 | run _ _ _ _ hb _ => exact hb
 | not _ => exact ⟨by simp, by simp, by simp, by simp, by simp [AV.rows, AV.rowss]⟩

theorem zG5 {o : Oper} {t : Tmp} (h : t ∉ o.looksAt ops) : Operand.tmp t ∉ Oper.asked o := fun hm => h (List.mem_append_left _ (List.mem_filterMap.2 ⟨.tmp t, hm, rfl⟩))
theorem Good.fwd {γ : Gho} {P : Program} {n : Nat} {oi oj : Oper} {s : St} {Fi Fj : Fp} {δi δj : Dl} (h : Good γ P n ops oj s Fj δj) (hF : ApartF Fi Fj) (hd : ∀ t, oi.dst = some t → t ∉ oj.looksAt ops) (hb : Bd Fi δi) : Good γ P n ops oj (δi.app oi.dst s) Fj δj := by
 cases h with
 | run M B hg h hb' hs =>
  have e := eqs_fwd hF (fun t ht => zG5 (hd t ht)) hb hs
  exact .run M B ((zF9 hd).2 hg) (h.at (hs.ag e)) hb' (hs.of e)
 | not hg => exact .not ((zF9 hd).2 hg)
theorem Good.bwd {γ : Gho} {P : Program} {n : Nat} {oi oj : Oper} {s : St} {Fi Fj : Fp} {δi δj : Dl} (h : Good γ P n ops oj (δi.app oi.dst s) Fj δj) (hF : ApartF Fi Fj) (hd : ∀ t, oi.dst = some t → t ∉ oj.looksAt ops) (hb : Bd Fi δi) : Good γ P n ops oj s Fj δj := by
 cases h with
 | run M B hg h hb' hs =>
  have e := (eqs_bwd hF (fun t ht => zG5 (hd t ht)) hb hs).symm
  exact .run M B ((zF9 hd).1 hg) (h.at (hs.ag e)) hb' (hs.of e)
 | not hg => exact .not ((zF9 hd).1 hg)

section
variable {γ : Gho} {P : Program} {n : Nat} {Fs : List Fp} {Q : St → Prop}
def Sany (γ : Gho) (P : Program) (n : Nat) (ops : Array Oper) (Fs : List Fp) (Q : St → Prop) : Nat → Array Bool → St → Prop
 | 0, listed, s => Region.ready .any ops listed = [] ∧ Q s
 | f + 1, listed, s => (Region.ready .any ops listed = [] → Q s) ∧ ∀ i ∈ Region.ready .any ops listed, ∀ o, ops[i]? = some o → ∃ δ, Good γ P n ops o s (Fs.getD i default) δ ∧ Sany γ P n ops Fs Q f (listed.setIfInBounds i true) (δ.app o.dst s)

def desc (ops : Array Oper) (i : Nat) : Nat → Nat → Bool
 | 0, _ => false
 | f + 1, j => match ops[j]? with
  | some o => o.after.any fun e => Region.binds .any e && (Nat.beq e.on i || desc ops i f e.on)
  | none => false
def Closed (ops : Array Oper) (listed : Array Bool) : Prop := ∀ k o, listed.getD k false = true → ops[k]? = some o → ∀ e ∈ o.after, Region.binds .any e = true → listed.getD e.on false = true
theorem Closed.desc {listed : Array Bool} (h : Closed ops listed) {i : Nat} : ∀ (f j : Nat) (o : Oper), ops[j]? = some o → (∀ e ∈ o.after, Region.binds .any e = true → listed.getD e.on false = true) → desc ops i f j = true → listed.getD i false = true
 | 0, _, _, _, _, hd => by simp [Rl.desc] at hd
 | f + 1, j, o, ho, hp, hd => by
  simp only [Rl.desc, ho] at hd
  obtain ⟨e, he, hb⟩ := Array.any_eq_true'.1 hd
  simp only [Bool.and_eq_true, Bool.or_eq_true] at hb
  have hl := hp e he hb.1
  rcases hb.2 with h1 | h1
  · rw [← Nat.eq_of_beq_eq_true h1]; exact hl
  ·
   cases hk : ops[e.on]? with
   | none => cases f <;> simp [Rl.desc, hk] at h1
   | some o' => exact Closed.desc h f e.on o' hk (h e.on o' hl hk) h1
theorem Closed.set {listed : Array Bool} (h : Closed ops listed) {j : Nat} (hj : j ∈ Region.ready .any ops listed) : Closed ops (listed.setIfInBounds j true) := fun k o hk ho e he hb => by
 by_cases hkj : j = k
 ·
  subst hkj
  obtain ⟨_, o', ho', hall⟩ := mem_ready.1 hj
  rw [ho] at ho'; cases ho'
  exact getD_set_true (hall e he hb)
 ·
  rw [getD_set_ne false hkj] at hk
  exact getD_set_true (h k o hk ho e he hb)
theorem zHN {i : Nat} {oi : Oper} {δ : Dl} (hi : ops[i]? = some oi) : ∀ (f : Nat) (listed : Array Bool) (s : St),
  Closed ops listed → (∀ j oj, ops[j]? = some oj → j ≠ i → listed.getD j true = false → desc ops i ops.size j = false → oi.apart ops oj = true ∧ ApartF (Fs.getD i default) (Fs.getD j default)) →
  i ∈ Region.ready .any ops listed → Good γ P n ops oi s (Fs.getD i default) δ →
  Sany γ P n ops Fs Q f (listed.setIfInBounds i true) (δ.app oi.dst s) → Sany γ P n ops Fs Q (f + 1) listed s := by
 intro f
 induction f with
 | zero =>
  intro listed s _ _ hr hy H
  refine ⟨fun h => (by rw [h] at hr; cases hr), fun j hj o ho => ?_⟩
  by_cases hji : j = i
  · subst hji; rw [hi] at ho; cases ho; exact ⟨δ, hy, H⟩
  ·
   have := ready_mono hj hji
   rw [H.1] at this
   cases this
 | succ f ih =>
  intro listed s hcl hfree hr hy H
  refine ⟨fun h => (by rw [h] at hr; cases hr), fun j hj oj hoj => ?_⟩
  by_cases hji : j = i
  · subst hji; rw [hi] at hoj; cases hoj; exact ⟨δ, hy, H⟩
  ·
   obtain ⟨δj, hgj, hH⟩ := H.2 j (ready_mono hj hji) oj hoj
   obtain ⟨hjun, oj', hoj', hall⟩ := mem_ready.1 hj
   rw [hoj] at hoj'; cases hoj'
   have hnot : desc ops i ops.size j = false := by
    cases hd : desc ops i ops.size j with
    | false => rfl
    | true =>
     have h1 := hcl.desc _ j oj hoj hall hd
     have h0 := (mem_ready.1 hr).1
     rcases Nat.lt_or_ge i listed.size with h' | h'
     · simp [h'] at h0 h1; rw [h0] at h1; cases h1
     · simp [Array.getElem?_eq_none h'] at h1
   obtain ⟨hap, hF⟩ := hfree j oj hoj hji hjun hnot
   obtain ⟨a1, a2, a3⟩ := Oper.apart_spec hap
   have hgj' : Good γ P n ops oj s (Fs.getD j default) δj := hgj.bwd hF a1 hy.bd
   refine ⟨δj, hgj', ?_⟩
   have hyi : Good γ P n ops oi (δj.app oj.dst s) (Fs.getD i default) δ := hy.fwd hF.symm a3 hgj'.bd
   refine ih (listed.setIfInBounds j true) _ (hcl.set hj) (fun k ok hk hki hun hno => ?_) (ready_mono hr (Ne.symm hji)) hyi ?_
   ·
    refine hfree k ok hk hki ?_ hno
    by_cases hjk : j = k
    · subst hjk; exact hjun
    · rw [getD_set_ne true hjk] at hun; exact hun
   ·
    rw [Array.setIfInBounds_comm _ _ hji, ← zOe hF a2 hy.bd hgj'.bd]
    exact hH

theorem zKK {ops : Array Oper} {i : Nat} : ∀ {f f' j : Nat}, desc ops i f j = true → f ≤ f' → desc ops i f' j = true
 | 0, _, _, h, _ => by simp [Rl.desc] at h
 | f + 1, 0, _, _, h => absurd h (by omega)
 | f + 1, f' + 1, j, h, hf => by
  cases ho : ops[j]? with
  | none => simp [Rl.desc, ho] at h
  | some o =>
   simp only [Rl.desc, ho] at h ⊢
   obtain ⟨e, he, hb⟩ := Array.any_eq_true'.1 h
   refine Array.any_eq_true'.2 ⟨e, he, ?_⟩
   simp only [Bool.and_eq_true, Bool.or_eq_true] at hb ⊢
   exact ⟨hb.1, hb.2.imp id (fun h => zKK h (by omega))⟩
def zJF : List Oper → Nat → Nat → Nat
 | [], _, m => m
 | o :: l, j, m => match o.after.any (fun e => Region.binds .any e && m.testBit e.on) with
  | true => zJF l (j + 1) (m ||| 2 ^ j)
  | false => zJF l (j + 1) m
theorem zGq {ops : Array Oper} {i : Nat} : ∀ (l : List Oper) (j m : Nat), (∀ q, l[q]? = ops[j + q]?) → (∀ q, m.testBit q = true → q = i ∨ (q < j ∧ desc ops i (q + 1) q = true)) →
  ∀ q, (zJF l j m).testBit q = true → q = i ∨ desc ops i (q + 1) q = true
 | [], j, m, _, hm, q, h => (hm q h).imp id (·.2)
 | o :: l, j, m, hl, hm, q, h => by
  have hl' : ∀ q, l[q]? = ops[j + 1 + q]? := fun q => by
   have := hl (q + 1)
   rw [List.getElem?_cons_succ] at this
   rw [this]
   congr 1
   omega
  have ho : ops[j]? = some o := by
   have := hl 0
   simpa using this.symm
  rw [zJF] at h
  split at h
  ·
   rename_i hany
   refine zGq l (j + 1) _ hl' (fun q hq => ?_) q h
   rw [Nat.testBit_or, Bool.or_eq_true] at hq
   rcases hq with hq | hq
   ·
    rcases hm q hq with h1 | ⟨h1, h2⟩
    · exact .inl h1
    · exact .inr ⟨by omega, h2⟩
   ·
    have hqj : q = j := by
     rw [Nat.testBit_two_pow] at hq
     simpa using (of_decide_eq_true hq).symm
    subst hqj
    refine .inr ⟨by omega, ?_⟩
    simp only [Rl.desc, ho]
    obtain ⟨e, he, hb⟩ := Array.any_eq_true'.1 hany
    refine Array.any_eq_true'.2 ⟨e, he, ?_⟩
    simp only [Bool.and_eq_true, Bool.or_eq_true] at hb ⊢
    refine ⟨hb.1, ?_⟩
    rcases hm _ hb.2 with h1 | ⟨h1, h2⟩
    · exact .inl (by rw [h1]; exact Nat.beq_refl i)
    · exact .inr (zKK h2 (by omega))
  ·
   refine zGq l (j + 1) _ hl' (fun q hq => ?_) q h
   rcases hm q hq with h1 | ⟨h1, h2⟩
   · exact .inl h1
   · exact .inr ⟨by omega, h2⟩
def zOH (ops : Array Oper) (Fs : List Fp) (listed : Array Bool) (i : Nat) (oi : Oper) (m : Nat) : Bool :=
 (List.range ops.size).all fun j => Nat.beq j i || listed.getD j true || Nat.testBit m j || match ops[j]? with
   | some oj => oi.apart ops oj && zNN (Fs.getD i default) (Fs.getD j default)
   | none => true
def freeF (ops : Array Oper) (Fs : List Fp) (listed : Array Bool) (i : Nat) : Bool :=
 match ops[i]? with
 | none => false
 | some oi => match zJF ops.toList 0 (2 ^ i) with
  | 0 => zOH ops Fs listed i oi 0
  | m + 1 => zOH ops Fs listed i oi (m + 1)
theorem zHj {i : Nat} {oi : Oper} {listed : Array Bool} (hi : ops[i]? = some oi) (h : freeF ops Fs listed i = true) (j : Nat) (oj : Oper)
  (hj : ops[j]? = some oj) (hne : j ≠ i) (hun : listed.getD j true = false) (hno : desc ops i ops.size j = false) :
  oi.apart ops oj = true ∧ ApartF (Fs.getD i default) (Fs.getD j default) := by
 have h' : zOH ops Fs listed i oi (zJF ops.toList 0 (2 ^ i)) = true := by
  simp only [freeF, hi] at h
  split at h
  · rename_i h0; rw [h0]; exact h
  · rename_i h0; rw [h0]; exact h
 have hlt := (Array.getElem?_eq_some_iff.1 hj).1
 simp only [zOH, List.all_eq_true, List.mem_range] at h'
 have h1 := h' j hlt
 have hm : Nat.testBit (zJF ops.toList 0 (2 ^ i)) j = false := by
  cases hb : Nat.testBit (zJF ops.toList 0 (2 ^ i)) j with
  | false => rfl
  | true =>
   rcases zGq (ops := ops) (i := i) ops.toList 0 (2 ^ i) (fun q => by simp) (fun q hq => .inl (by
    rw [Nat.testBit_two_pow] at hq
    exact (of_decide_eq_true hq).symm)) j hb with h2 | h2
   · exact absurd h2 hne
   · rw [zKK h2 (by omega)] at hno; cases hno
 have hbe : Nat.beq j i = false := by
  cases hb : Nat.beq j i with
  | false => rfl
  | true => exact absurd (Nat.eq_of_beq_eq_true hb) hne
 simp only [hj, hbe, hun, hm, Bool.false_or, Bool.and_eq_true] at h1
 exact ⟨h1.1, zKU h1.2⟩
def lexF (ops : Array Oper) (Fs : List Fp) : Nat → Nat → Array Bool → Bool
 | 0, _, listed => (Region.ready .any ops listed).isEmpty
 | f + 1, k, listed => (Region.ready .any ops listed).contains k && freeF ops Fs listed k && lexF ops Fs f (k + 1) (listed.setIfInBounds k true)

inductive Run (γ : Gho) (P : Program) (n : Nat) (ops : Array Oper) : List Fp → List Oper → St → St → Prop where
 | nil {s : St} : Run γ P n ops [] [] s s
 | run (M B : List Nat) {Fs : List Fp} {o : Oper} {l : List Oper} {s s' : St} {δ : Dl} (hg : gval ops o s = some true) (h : StepD γ P n o M B s δ) (k : Run γ P n ops Fs l (δ.app o.dst s) s') : Run γ P n ops (fpOf o M B s δ :: Fs) (o :: l) s s'
 | not {Fs : List Fp} {o : Oper} {l : List Oper} {s s' : St} (hg : gval ops o s = some false) (k : Run γ P n ops Fs l (s.put o.dst (.tup [])) s') : Run γ P n ops (⟨[], [], [], [], [], [], true⟩ :: Fs) (o :: l) s s'

theorem zNe : ∀ {Fs' : List Fp} {l : List Oper} {s s' : St} (_ : Run γ P n ops Fs' l s s') (k : Nat) (listed : Array Bool), Closed ops listed → (∀ j, l[j]? = ops[k + j]?) → (∀ j F, Fs'[j]? = some F → Fs.getD (k + j) default = F) →
  lexF ops Fs l.length k listed = true → Q s' → Sany γ P n ops Fs Q l.length listed s := by
 intro Fs' l s s' h
 induction h with
 | nil => intro k listed _ _ _ hB hq; exact ⟨by simpa [lexF] using hB, hq⟩
 | run M B hg h _ ih =>
  rename_i o l s s' δ hrun
  intro k listed hcl hl hF hB hq
  have h0 : ops[k]? = some o := by simpa using (hl 0).symm
  simp only [List.length_cons, lexF, Bool.and_eq_true] at hB
  obtain ⟨⟨hr, hf⟩, hB'⟩ := hB
  have hF0 : Fs.getD k default = fpOf o M B s δ := by simpa using hF 0 _ rfl
  refine zHN h0 l.length listed s hcl (zHj h0 hf) (by simpa using hr) (.run M B hg h (by rw [hF0]; exact fp_bd ..) (by rw [hF0]; exact zMy ..)) ?_
  exact ih (k + 1) _ (hcl.set (by simpa using hr)) (fun j => by have := hl (j + 1); simpa [Nat.add_assoc, Nat.add_comm 1 j] using this) (fun j F hj => by have := hF (j + 1) F (by simpa using hj); simpa [Nat.add_assoc, Nat.add_comm 1 j] using this) hB' hq
 | not hg _ ih =>
  rename_i o l s s' hrun
  intro k listed hcl hl hF hB hq
  have h0 : ops[k]? = some o := by simpa using (hl 0).symm
  simp only [List.length_cons, lexF, Bool.and_eq_true] at hB
  obtain ⟨⟨hr, hf⟩, hB'⟩ := hB
  refine zHN h0 l.length listed s hcl (zHj h0 hf) (by simpa using hr) (.not hg) ?_
  exact ih (k + 1) _ (hcl.set (by simpa using hr)) (fun j => by have := hl (j + 1); simpa [Nat.add_assoc, Nat.add_comm 1 j] using this) (fun j F hj => by have := hF (j + 1) F (by simpa using hj); simpa [Nat.add_assoc, Nat.add_comm 1 j] using this) hB' hq

def zLi (n : Nat) (ops : Array Oper) : Bool := ops.toList.all fun o => match o.dst with
 | some d => Nat.blt d n
 | none => true
theorem zFj (h : zLi n ops = true) {i : Nat} {o : Oper} (hi : ops[i]? = some o) : ∀ x, o.dst = some x → x < n := fun x hx => by
 simp only [zLi, List.all_eq_true] at h
 have := h o (by rw [Array.mem_toList_iff]; exact Array.mem_of_getElem? hi)
 rw [hx] at this
 simpa [Nat.blt_eq] using this

section
variable {w0 : World} {I : Fr} {Qm : Exit → Act → World → Prop}
theorem zKH (hG : Gh γ w0 I.I) {o : Oper} {s : St} {F : Fp} {δ : Dl} {i : Nat} (hi : ops[i]? = some o) (hd : ∀ x, o.dst = some x → x < n) (hg : Good γ P n ops o s F δ) {L : Pl} {a : Act} {w : World} (hr : Rel w0 I n L s a w) {K : Act → World → Prop} (hK : ∀ L' a' w', Rel w0 I n L' (δ.app o.dst s) a' w' → K a' w') : wpOp P ops Qm i K a w := by
 unfold wpOp
 simp only [hi]
 cases hg with
 | run M B hg h _ _ =>
  rw [zGs hr hg, if_pos rfl]
  exact .inl (h s ⟨fun _ _ => rfl, fun _ _ _ _ _ => rfl, fun _ _ _ _ _ => rfl, fun _ _ => rfl, fun _ _ => rfl⟩ hd w0 I L a w hG hr K Qm (fun L' v w' hr' => hK L' _ w' hr'))
 | not hg =>
  rw [zGs hr hg, if_neg (by simp)]
  exact hK L _ w (hr.put hd (by simp only [AVR]; exact ⟨[], rfl, by simp [AVRs]⟩))
theorem zMF (hG : Gh γ w0 I.I) (hdst : zLi n ops = true) (hQ : ∀ s, Q s → ∀ L a w, Rel w0 I n L s a w → Qm .normal a w) : ∀ (f : Nat) (listed : Array Bool) (s : St) (L : Pl) (a : Act) (w : World), Sany γ P n ops Fs Q f listed s → Rel w0 I n L s a w → wpAny P .any ops Qm f listed a w
 | 0, _, _, _, _, _, h, hr => ⟨h.1, hQ _ h.2 _ _ _ hr⟩
 | f + 1, listed, s, L, a, w, h, hr => ⟨fun h0 => hQ _ (h.1 h0) _ _ _ hr, fun i hi => by
   cases ho : ops[i]? with
   | none => exact absurd ho (by obtain ⟨_, o, ho, _⟩ := mem_ready.1 hi; simp [ho])
   | some o =>
    obtain ⟨δ, hg, hs⟩ := h.2 i hi o ho
    exact zKH hG ho (zFj hdst ho) hg hr (fun L' a' w' hr' => zMF hG hdst hQ f _ _ L' a' w' hs hr')⟩
theorem run_wp (hG : Gh γ w0 I.I) (hdst : zLi n ops = true) {s' : St} : ∀ {Fs : List Fp} {l : List Oper} {s : St} (_ : Run γ P n ops Fs l s s') (_ : ∀ L a w, Rel w0 I n L s' a w → Qm .normal a w) (k : Nat), (∀ j, l[j]? = ops[k + j]?) → ∀ {L : Pl} {a : Act} {w : World}, Rel w0 I n L s a w → wpOps P ops Qm (List.range' k l.length) a w := by
 intro Fs l s h
 induction h with
 | nil => intro hQ k _ L a w hr; exact hQ _ _ _ hr
 | run M B hg h _ ih =>
  rename_i o l s s' δ hrun
  intro hQ k hl L a w hr
  have h0 : ops[k]? = some o := by simpa using (hl 0).symm
  rw [List.length_cons, List.range'_succ, wpOps_cons]
  exact zKH hG h0 (zFj hdst h0) (.run M B hg h (fp_bd ..) (zMy ..)) hr (fun L' a' w' hr' => ih hQ (k + 1) (fun j => by have := hl (j + 1); simpa [Nat.add_assoc, Nat.add_comm 1 j] using this) hr')
 | not hg _ ih =>
  rename_i o l s s' hrun
  intro hQ k hl L a w hr
  have h0 : ops[k]? = some o := by simpa using (hl 0).symm
  rw [List.length_cons, List.range'_succ, wpOps_cons]
  exact zKH (F := default) hG h0 (zFj hdst h0) (.not hg) hr (fun L' a' w' hr' => ih hQ (k + 1) (fun j => by have := hl (j + 1); simpa [Nat.add_assoc, Nat.add_comm 1 j] using this) hr')
theorem zGp (L : Pl) (s : St) (w : World) (d : Nat) : Moves [] L L w { w with drawn := d } s s :=
 ⟨fun _ hk => ⟨hk, rfl⟩, fun _ _ _ _ hk => ⟨.inr hk, rfl⟩, fun _ hb => ⟨hb, rfl⟩, fun _ _ xs _ hx => ⟨xs, hx, rfl, rfl⟩⟩
theorem Rel.drawn {L : Pl} {s : St} {a : Act} {w : World} (h : Rel w0 I n L s a w) (d : Nat) : Rel w0 I n L s a { w with drawn := d } where
 same := ⟨h.same.os, h.same.tape, h.same.output, h.same.size, h.same.block⟩
 zlt := h.zlt
 llt := h.llt
 sz := h.sz
 df := h.df
 tm i := (h.tm i).move0 (zGp L s w d)
 bx i cs hc := by
  obtain ⟨h1, us, ty, h2, h3, h4⟩ := h.bx i cs hc
  exact ⟨h1, us, ty, h2, h3.move0 (zGp L s w d), h4⟩
 rw i sz xs hx := by
  obtain ⟨h1, h2⟩ := h.rw i sz xs hx
  exact ⟨h1.mono (fun _ _ => rfl) (fun _ _ => rfl) (fun _ h => h), h2⟩
 pr := h.pr
 pb := h.pb
 zi := h.zi
end
end
end
section
variable {γ : Gho} {P : Program} {n : Nat} {ops : Array Oper} {Fs : List Fp} {o : Oper} {l : List Oper} {s s' : St} {δ : Dl} {x : Operand}
theorem Run.r (hg : gval ops o s = some true) (h : StepD γ P n o [] [] s δ) (k : Run γ P n ops Fs l (δ.app o.dst s) s') : Run γ P n ops (fpOf o [] [] s δ :: Fs) (o :: l) s s' := .run [] [] hg h k
theorem Run.m (hg : gval ops o s = some true) (ho : o.op = .move x) (k : Run γ P n ops Fs l (({ put := s.ev x } : Dl).app o.dst s) s') : Run γ P n ops (fpOf o [] [] s { put := s.ev x } :: Fs) (o :: l) s s' := .run [] [] hg (zBF ho) k
theorem Run.a (hg : gval ops o s = some true) (ho : o.op = .assign x) (k : Run γ P n ops Fs l (({ put := s.ev x } : Dl).app o.dst s) s') : Run γ P n ops (fpOf o [] [] s { put := s.ev x } :: Fs) (o :: l) s s' := .run [] [] hg (zL7 ho) k
end
abbrev AV.vi (x : Int) : AV := .p none (.v (.int .i64 x))
abbrev AV.vs (x : ByteArray) : AV := .p none (.v (.string x))
abbrev AV.vb (x : Bool) : AV := .p none (.v (.bool x))
end Go.Rl
namespace Go.Rl
open Go.RowKit

section
variable {w0 : World} {I : Fr} {n : Nat} {L : Pl} {s : St} {a : Act} {w : World}
theorem Rel.next {K : List Nat} {L' : Pl} {s1 : St} {w' : World} (h : Rel w0 I n L s a w) (hs : Same I.I w0 w')
  (hz : ∀ k, L'.Z k → k < w'.heap.size ∧ L'.lab k = none) (hl : ∀ k l, L'.lab k = some l → k < w'.heap.size ∧ (w0.heap.size ≤ k ∨ k ∈ I.I))
  (hm : Moves K L L' w w' s s1) (ht : ∀ i, s1.t i = (s.t i).kill K)
  (hb : ∀ i cs, s1.b i = some cs → (∃ cs0, s.b i = some cs0 ∧ cs = AV.kills K cs0 ∧ w'.heap[L.β i]? = w.heap[L.β i]? ∧ L'.lab (L.β i) = L.lab (L.β i)) ∨
   ((i < pinT ∨ (s.b i).isSome) ∧ L'.lab (L'.β i) = some (.box i) ∧ ∃ us ty, w'.heap[L'.β i]? = some (.cells ⟨us⟩ ty (0, 0)) ∧ AVRs L' w' s1 cs us ∧ ∀ u ∈ us, u.oneCell' = true))
  (hr : ∀ i sz xs, s1.r i = some (sz, xs) → (s.r i = some (sz, xs) ∧ L'.ρ i = L.ρ i ∧ L'.ν i = L.ν i ∧ ∀ k ∈ L.ν i, w'.heap[k]? = w.heap[k]? ∧ L'.lab k = L.lab k) ∨
   ((i < pinT ∨ ((s.r i).isSome ∧ L'.ρ i = L.ρ i)) ∧ PVO L'.Z w' (.sl true sz xs) (L'.ρ i) (L'.ν i) ∧ (L'.ν i).Nodup ∧ ∀ k ∈ L'.ν i, L'.lab k = some (.row i))) (hZ : ∀ k, L'.Z k → L.Z k := by exact fun _ h => h) : Rel w0 I n L' s1 a w' where
 same := hs
 zlt := hz
 llt := hl
 sz := h.sz
 df := h.df
 tm i := by rw [ht]; exact (h.tm i).move hm _ _
 bx i cs hc := by
  rcases hb i cs hc with ⟨cs0, h0, rfl, h2, h3⟩ | h2
  ·
   obtain ⟨h4, us, ty, h5, h6, h7⟩ := h.bx i cs0 h0
   obtain ⟨h8, h9⟩ := hm.b i (by rw [h0]; rfl)
   rw [h9]
   exact ⟨h3.trans h4, us, ty, h2.trans h5, h6.move hm _ _, h7⟩
  · exact h2.2
 rw i sz xs hx := by
  rcases hr i sz xs hx with ⟨h1, h2, h3, h4⟩ | h2
  ·
   obtain ⟨h5, h6, h7⟩ := h.rw i sz xs h1
   rw [h2, h3]
   exact ⟨h5.mono (fun k hk => (hm.z k hk).2) (fun k hk => (h4 k hk).1) (fun k hk => (hm.z k hk).1), h6, fun k hk => (h4 k hk).2.trans (h7 k hk)⟩
  · exact h2.2
 pr i hi hx := by
  obtain ⟨⟨sz, xs⟩, hx⟩ := Option.isSome_iff_exists.1 hx
  rcases hr i sz xs hx with ⟨h1, h2, _⟩ | ⟨h1 | h1, _⟩
  · exact h2.trans (h.pr i hi (by rw [h1]; rfl))
  · omega
  · exact h1.2.trans (h.pr i hi h1.1)
 pb i hi hx := by
  obtain ⟨cs, hx⟩ := Option.isSome_iff_exists.1 hx
  rcases hb i cs hx with ⟨cs0, h1, _⟩ | ⟨h1 | h1, _⟩
  · exact (hm.b i (by rw [h1]; rfl)).2.trans (h.pb i hi (by rw [h1]; rfl))
  · omega
  · exact (hm.b i h1).2.trans (h.pb i hi h1)
 zi k hk := (h.zi k (hZ k hk)).imp id (fun h2 => ⟨h2.1, h2.2.of (hm.z k (hZ k hk)).2⟩)

theorem Same.push {J : List Nat} {w0 w : World} (h : Same J w0 w) (o : Obj) : Same J w0 (w.alloc o) :=
 ⟨h.os, h.tape, h.output, Nat.le_trans h.size (by simp), fun k hk hJ => (heap_alloc_old w o (Nat.lt_of_lt_of_le hk h.size)).trans (h.block k hk hJ)⟩
theorem Same.drew {J : List Nat} {w0 w : World} (h : Same J w0 w) : Same J w0 w.drew := ⟨h.os, h.tape, h.output, h.size, h.block⟩

def Pl.box (L : Pl) (b k : Nat) : Pl := { L with β := upd L.β b k, lab := upd L.lab k (some (.box b)) }
theorem Rel.newbox (h : Rel w0 I n L s a w) {b : Nat} (hb1 : b < pinT) (hb : s.b b = none) {cs : List AV} {us : List Value} (hc : AVRs L w s cs us) (h1 : ∀ u ∈ us, u.oneCell' = true) (ty : TypeId) :
  Rel w0 I n (L.box b w.heap.size) { s with b := upd s.b b (some cs) } a (w.alloc (.cells ⟨us⟩ ty)) := by
 have hne : ∀ {x}, (s.b x).isSome → x ≠ b := fun hx e => by subst e; rw [hb] at hx; cases hx
 have hm : Moves [] L (L.box b w.heap.size) w (w.alloc (.cells ⟨us⟩ ty)) s { s with b := upd s.b b (some cs) } := by
  refine ⟨fun k hk => ⟨hk, heap_alloc_old w _ (h.zlt k hk).1⟩, fun id k _ hi hk => ⟨.inr hk, ?_⟩, fun x hx => ⟨?_, ?_⟩, fun id sz xs _ hx => ⟨xs, hx, rfl, rfl⟩⟩
  ·
   obtain ⟨⟨sz, xs⟩, hx⟩ := Option.isSome_iff_exists.1 hi
   exact heap_alloc_old w _ ((h.rw id sz xs hx).1.lt k (List.mem_of_mem_tail hk))
  · simpa [zBd _ _ (hne hx)] using hx
  · simp [Pl.box, zBd _ _ (hne hx)]
 have hlab : ∀ k, k < w.heap.size → (L.box b w.heap.size).lab k = L.lab k := fun k hk => zBd _ _ (Nat.ne_of_lt hk)
 refine h.next (K := []) (h.same.push _) (fun k hk => ?_) (fun k l hk => ?_) hm (fun i => (AV.kill_nil _).symm) (fun i ds hd => ?_) (fun i sz xs hx => .inl ⟨hx, rfl, rfl, fun k hk => ?_⟩)
 ·
  have h2 := h.zlt k hk
  exact ⟨Nat.lt_of_lt_of_le h2.1 (by simp), (hlab k h2.1).trans h2.2⟩
 ·
  by_cases e : k = w.heap.size
  · subst e; exact ⟨by simp, .inl h.same.size⟩
  ·
   simp only [Pl.box, zBd _ _ e] at hk
   exact ⟨Nat.lt_of_lt_of_le (h.llt k l hk).1 (by simp), (h.llt k l hk).2⟩
 ·
  by_cases e : i = b
  ·
   subst e
   simp only [upd_self, Option.some.injEq] at hd
   subst hd
   refine .inr ⟨.inl hb1, by simp [Pl.box], us, ty, ?_, hc.move0 hm, h1⟩
   simp only [Pl.box, upd_self]
   exact heap_alloc_new w _
  ·
   simp only [zBd _ _ e] at hd
   obtain ⟨h2, us', ty', h3, _⟩ := h.bx i ds hd
   exact .inl ⟨ds, hd, (AV.kills_nil _).symm, heap_alloc_old w _ (h.llt _ _ h2).1, hlab _ (h.llt _ _ h2).1⟩
 ·
  have h2 := h.rw i sz xs hx
  have h3 := h2.1.lt k hk
  exact ⟨heap_alloc_old w _ h3, hlab k h3⟩
end

def AV.one : AV → Bool
 | .undef => false
 | .sat _ => false
 | .agg _ => false
 | .tup _ => false
 | _ => true
def AV.cells : AV → List AV
 | .agg cs => cs
 | av => [av]
def AV.fits (av : AV) : Bool := av.cells.all AV.one
theorem AVR.one {L : Pl} {w : World} {s : St} {av : AV} {v : Value} (h : AVR L w s av v) (ho : av.one = true) : v.oneCell' = true := by
 cases av <;> simp only [AV.one, AVR, Bool.false_eq_true] at h ho
 case p d x => exact h.1.one
 case sl id lo len => obtain ⟨_, _, _, _, _, _, _, _, _, _, rfl, _⟩ := h; rfl
 case ptr b off => rw [h.2]; rfl
 case ea id i off => obtain ⟨_, _, _, _, _, _, _, _, rfl⟩ := h; rfl
 case fea d ps => obtain ⟨⟨_, _, rfl, _⟩, _⟩ := h; rfl
 case nils => obtain ⟨A, rfl⟩ := h; rfl
 case clo f bs => rw [h.2]; rfl
theorem AVRs.ones {L : Pl} {w : World} {s : St} : ∀ {aL : List AV} {us : List Value}, AVRs L w s aL us → aL.all AV.one = true → ∀ u ∈ us, u.oneCell' = true
 | [], [], _, _ => by simp
 | [], _ :: _, hv, _ => by simp [AVRs] at hv
 | _ :: _, [], hv, _ => by simp [AVRs] at hv
 | a :: aL, u :: us, hv, h => by
  simp only [AVRs] at hv
  simp only [List.all_cons, Bool.and_eq_true] at h
  intro x hx
  rcases List.mem_cons.1 hx with rfl | hx
  · exact hv.1.one h.1
  · exact AVRs.ones hv.2 h.2 x hx
theorem zNH {v : Value} (h : v.oneCell' = true) : v.cells = #[v] := by cases v <;> first | rfl | cases h
theorem AVR.cells {L : Pl} {w : World} {s : St} {av : AV} {v : Value} (h : AVR L w s av v) (hf : av.fits = true) : AVRs L w s av.cells v.cells.toList ∧ ∀ u ∈ v.cells.toList, u.oneCell' = true := by
 cases av
 case agg cs =>
  simp only [AVR] at h
  obtain ⟨us, rfl, h2⟩ := h
  exact ⟨h2, h2.ones hf⟩
 all_goals
  simp only [AV.fits, AV.cells, List.all_cons, List.all_nil, Bool.and_true] at hf
  have h1 := h.one hf
  rw [zNH h1]
  exact ⟨by simp only [AV.cells, AVRs, and_true]; exact h, by simpa using h1⟩

section
variable {γ : Gho} {P : Program} {n : Nat} {o : Oper} {M B : List Nat} {s : St}
theorem zCF {ty : TypeId} {x : Operand} (ho : o.op = .box ty x) (b : Nat) {av : AV} (hx : s.ev x = av) (hf : av.fits = true) (hb1 : b < pinT) (hb : s.b b = none) (hB : b ∈ B) :
  StepD γ P n o M B s { put := .ptr b 0, setB := [(b, av.cells)] } := by
 intro s' ag hd w0 I L a w hG hr K Q hK
 have h := hr.ev x
 rw [ag.ev1 ho (by simp [Op.operands]), hx] at h
 have hb' : s'.b b = none := (ag.n b hB).trans hb
 obtain ⟨h1, h2⟩ := h.cells hf
 have hn := hr.newbox hb1 hb' h1 h2 ty
 have he : (execOp a.eval o).run P w = .ok (.value (.pointer (some ⟨w.heap.size, 0, none⟩))) (w.alloc (.cells ⟨(a.eval x).cells.toList⟩ ty)) := by
  simp [execOp, ho, Instr.box, newVar, newRow]
 unfold Oper.wp
 rw [he]
 exact hK _ _ _ (hn.put hd (av := .ptr b 0) (by simp only [AVR]; exact ⟨by simp, by simp [Pl.box]⟩))
theorem zFC {t : TypeId} {i : TypeInfo} {z : Value} (hi : P.info? t = some i) (hz : i.zero = some z) (w : World) : (zeroValue t).run P w = .ok z w := by
 simp [zeroValue, typeInfo, hi, hz]
theorem zNa {ty : TypeId} (ho : o.op = .alloc ty) (b : Nat) {i : TypeInfo} {z : Value} (hi : P.info? ty = some i) (hz : i.zero = some z) (hf : (cst z).fits = true) (hb1 : b < pinT) (hb : s.b b = none) (hB : b ∈ B) :
  StepD γ P n o M B s { put := .ptr b 0, setB := [(b, (cst z).cells)] } := by
 intro s' ag hd w0 I L a w hG hr K Q hK
 have hb' : s'.b b = none := (ag.n b hB).trans hb
 obtain ⟨h1, h2⟩ := (zIf L w s' z).cells hf
 have hn := hr.newbox hb1 hb' h1 h2 ty
 have he : (execOp a.eval o).run P w = .ok (.value (.pointer (some ⟨w.heap.size, 0, none⟩))) (w.alloc (.cells ⟨z.cells.toList⟩ ty)) := by
  simp [execOp, ho, Instr.alloc, newVar, newRow, zFC hi hz]
 unfold Oper.wp
 rw [he]
 exact hK _ _ _ (hn.put hd (av := .ptr b 0) (by simp only [AVR]; exact ⟨by simp, by simp [Pl.box]⟩))

def over {α : Type} (xs : List α) (o : Nat) (ys : List α) : List α := xs.take o ++ ys ++ xs.drop (o + ys.length)
theorem zEa {α : Type} {xs : List α} {o : Nat} {ys : List α} (h : o + ys.length ≤ xs.length) : (over xs o ys).length = xs.length := by
 simp [over]; omega
theorem zDf {α : Type} {xs : List α} {o : Nat} {ys : List α} (h : o + ys.length ≤ xs.length) (j : Nat) : (over xs o ys)[j]? = if o ≤ j ∧ j < o + ys.length then ys[j - o]? else xs[j]? := by
 simp only [over, List.append_assoc]
 rcases Nat.lt_or_ge j o with h1 | h1
 · rw [List.getElem?_append_left (by simp; omega), if_neg (by omega), List.getElem?_take, if_pos h1]
 ·
  rw [List.getElem?_append_right (by simp; omega)]
  have hl : (xs.take o).length = o := by simp; omega
  rw [hl]
  rcases Nat.lt_or_ge j (o + ys.length) with h2 | h2
  · rw [List.getElem?_append_left (by omega), if_pos ⟨h1, h2⟩]
  ·
   rw [List.getElem?_append_right (by omega), if_neg (by omega), List.getElem?_drop]
   congr 1
   omega
theorem AVRs.over {L : Pl} {w : World} {s : St} {aL bs : List AV} {us vs : List Value} (h : AVRs L w s aL us) (h2 : AVRs L w s bs vs) (o : Nat) (hl : o + bs.length ≤ aL.length) : AVRs L w s (over aL o bs) (Rl.over us o vs) := by
 have e1 := h.length
 have e2 := h2.length
 refine AVRs.mk (by rw [zEa hl, zEa (by omega), e1]) (fun j x u hx hu => ?_)
 rw [zDf hl] at hx
 rw [zDf (by omega), ← e2] at hu
 split at hx
 ·
  rename_i hc
  rw [if_pos hc] at hu
  obtain ⟨u', hu', hr⟩ := h2.get _ _ hx
  rw [hu] at hu'; cases hu'; exact hr
 ·
  rename_i hc
  rw [if_neg hc] at hu
  obtain ⟨u', hu', hr⟩ := h.get _ _ hx
  rw [hu] at hu'; cases hu'; exact hr
theorem zCY (P : Program) (g o : Nat) (t : TypeId) (fz : Nat × Nat) : ∀ (vs : List Value) (i : Nat) (cur : Array Value) (w : World), w.heap[g]? = some (.cells cur t fz) → (fz = (0, 0) ∨ cur.size ≤ fz.1) → o + i + vs.length ≤ cur.size → (∀ v ∈ vs, v.oneCell' = true) →
  (storeCells ⟨g, o, none⟩ vs i).run P w = .ok () (w.setRow g (cur.toList.take (o + i) ++ vs ++ cur.toList.drop (o + i + vs.length)).toArray)
 | [], i, cur, w, hg, _, _, _ => by
  simp only [storeCells, List.append_nil, List.length_nil, Nat.add_zero, List.take_append_drop, Array.toArray_toList]
  rw [setRow_self w g cur t fz hg]
  rfl
 | v :: rest, i, cur, w, hg, hz, hl, h1 => by
  have hi : o + i < cur.size := by simp at hl; omega
  have hadd : (⟨g, o, none⟩ : Addr).add i = ⟨g, o + i, none⟩ := by unfold Addr.add; split <;> simp_all
  have hcell : w.cell? ⟨g, o + i, none⟩ = some cur[o + i] := by simp [World.cell?, hg, hi]
  have hfro : w.frozen? ⟨g, o + i, none⟩ = false := by
   rcases hz with rfl | hz
   · simp [World.frozen?, hg]
   ·
    obtain ⟨lo, hi'⟩ := fz
    simp only [World.frozen?, hg]
    have : ¬ lo ≤ o + i := by simp at hz; omega
    simp [this]
  have hst : (store ((⟨g, o, none⟩ : Addr).add i) v).run P w = .ok () (w.setRow g (cur.setIfInBounds (o + i) v)) := by
   rw [hadd, run_store P w _ v _ (h1 v (by simp)), hcell]
   simp [hfro, setCell_eq_setRow w g (o + i) cur t fz v hg]
  have ih := zCY P g o t fz rest (i + 1) (cur.setIfInBounds (o + i) v) (w.setRow g (cur.setIfInBounds (o + i) v)) (setRow_heap w g cur _ t _ hg) (hz.imp id (fun h => by simpa using h)) (by simp at hl ⊢; omega) (fun x hx => h1 x (by simp [hx]))
  simp only [storeCells, Sem.run_bind, hst, Result.andThen_ok, ih, setRow_setRow]
  congr 3
  have e := list_seg_step cur.toList (o + i) v rest (by simp at hl ⊢; omega)
  simpa [Array.toList_setIfInBounds, Nat.add_assoc] using e
theorem zGS {ty : TypeId} {sz : Nat} (hsz : ∀ w, (sizeOf ty).run P w = .ok sz w) {w : World} {k o : Nat} {us : List Value} {t : TypeId} {fz : Nat × Nat} {v : Value} (hk : w.heap[k]? = some (.cells ⟨us⟩ t fz)) (hz : fz = (0, 0) ∨ us.length ≤ fz.1) (hl : v.cells.size = sz) (hf : o + sz ≤ us.length) (h1 : ∀ u ∈ v.cells.toList, u.oneCell' = true) :
  (storeVar ty ⟨k, o, none⟩ v).run P w = .ok () (w.setRow k ⟨Rl.over us o v.cells.toList⟩) := by
 have hst := zCY P k o t fz v.cells.toList 0 ⟨us⟩ w hk (by simpa using hz) (by simp; omega) h1
 simp only [Nat.add_zero] at hst
 simp [storeVar, hsz, hl, hst, over]
theorem zIz {ty : TypeId} {sz : Nat} (hsz : ∀ w, (sizeOf ty).run P w = .ok sz w) {w : World} {k o : Nat} {us : List Value} {t : TypeId} {v : Value} (hk : w.heap[k]? = some (.cells ⟨us⟩ t (0, 0))) (hl : v.cells.size = sz) (hf : o + sz ≤ us.length) (h1 : ∀ u ∈ v.cells.toList, u.oneCell' = true) :
  (storeVar ty ⟨k, o, none⟩ v).run P w = .ok () (w.setRow k ⟨Rl.over us o v.cells.toList⟩) := by
 have hst := run_storeCells_at P k o t v.cells.toList 0 ⟨us⟩ w hk (by simp; omega) h1
 simp only [Nat.add_zero] at hst
 simp [storeVar, hsz, hl, hst, over]
theorem Same.setRow {J : List Nat} {w0 w : World} (h : Same J w0 w) {k : Nat} (hk : w0.heap.size ≤ k ∨ k ∈ J) (cs : Array Value) : Same J w0 (w.setRow k cs) :=
 ⟨h.os, h.tape, h.output, by simpa using h.size, fun x hx hJ => (setRow_other w k x cs (fun e => by subst e; rcases hk with hk | hk; omega; exact hJ hk)).trans (h.block x hx hJ)⟩

theorem Rel.setbox {w0 : World} {I : Fr} {L : Pl} {a : Act} {w : World} (h : Rel w0 I n L s a w) {b : Nat} {cs0 cs : List AV} {us0 us : List Value} {ty : TypeId} (hb : s.b b = some cs0) (hk : w.heap[L.β b]? = some (.cells ⟨us0⟩ ty (0, 0))) (hc : AVRs L w s cs us) (h1 : ∀ u ∈ us, u.oneCell' = true) :
  Rel w0 I n L { s with b := upd s.b b (some cs) } a (w.setRow (L.β b) ⟨us⟩) := by
 have hlb := (h.bx b cs0 hb).1
 have off : ∀ k, L.lab k ≠ some (.box b) → (w.setRow (L.β b) ⟨us⟩).heap[k]? = w.heap[k]? := fun k hk => setRow_other w _ k _ (fun e => hk (by rw [e]; exact hlb))
 have hm : Moves [] L L w (w.setRow (L.β b) ⟨us⟩) s { s with b := upd s.b b (some cs) } := by
  refine ⟨fun k hk => ⟨hk, off k (by rw [(h.zlt k hk).2]; simp)⟩, fun id k _ hi hk => ⟨.inr hk, ?_⟩, fun x hx => ⟨?_, rfl⟩, fun id sz xs _ hx => ⟨xs, hx, rfl, rfl⟩⟩
  ·
   obtain ⟨⟨sz, xs⟩, hx⟩ := Option.isSome_iff_exists.1 hi
   exact off k (by rw [(h.rw id sz xs hx).2.2 k (List.mem_of_mem_tail hk)]; simp)
  ·
   by_cases e : x = b
   · subst e; simp
   · simpa [zBd _ _ e] using hx
 refine h.next (K := []) (h.same.setRow (h.llt _ _ hlb).2 _) (fun k hk => ⟨by simpa using (h.zlt k hk).1, (h.zlt k hk).2⟩) (fun k l hk => ⟨by simpa using (h.llt k l hk).1, (h.llt k l hk).2⟩) hm (fun i => (AV.kill_nil _).symm) (fun i ds hd => ?_) (fun i sz xs hx => .inl ⟨hx, rfl, rfl, fun k hk => ⟨off k (by rw [(h.rw i sz xs hx).2.2 k hk]; simp), rfl⟩⟩)
 by_cases e : i = b
 ·
  subst e
  simp only [upd_self, Option.some.injEq] at hd
  subst hd
  exact .inr ⟨.inr (by rw [hb]; rfl), hlb, us, ty, setRow_heap w _ _ _ _ _ hk, hc.move0 hm, h1⟩
 ·
  simp only [zBd _ _ e] at hd
  exact .inl ⟨ds, hd, (AV.kills_nil _).symm, off _ (by rw [(h.bx i ds hd).1]; simp [e]), rfl⟩
theorem zAN {ty : TypeId} {x y : Operand} {sz : Nat} (ho : o.op = .store ty x y) {b off : Nat} {cs : List AV} {av : AV} (hx : s.ev x = .ptr b off) (hb : s.b b = some cs) (hy : s.ev y = av) (hf : av.fits = true) (hsz : ∀ w, (sizeOf ty).run P w = .ok sz w) (hl : av.cells.length = sz) (hle : off + sz ≤ cs.length) :
  StepD γ P n o M B s { setB := [(b, over cs off av.cells)] } := by
 intro s' ag hd w0 I L a w hG hr K Q hK
 have h := hr.ev y
 rw [ag.ev1 ho (by simp [Op.operands]), hy] at h
 have hb' := (ag.b1 ho (by simp [Op.operands]) hx (i := b) (by simp [AV.bxs])).trans hb
 have hp := hr.ev x
 rw [ag.ev1 ho (by simp [Op.operands]), hx] at hp
 simp only [AVR] at hp
 obtain ⟨h1, h2⟩ := h.cells hf
 obtain ⟨hlb, us, t, h3, h4, h5⟩ := hr.bx b cs hb'
 have hlen := h4.length
 have hlen2 := h1.length
 have hn := hr.setbox hb' h3 (h4.over h1 off (by omega)) (fun u hu => by
  simp only [over, List.mem_append] at hu
  rcases hu with (hu | hu) | hu
  · exact h5 u (List.mem_of_mem_take hu)
  · exact h2 u hu
  · exact h5 u (List.mem_of_mem_drop hu))
 have he : (execOp a.eval o).run P w = .ok .skip (w.setRow (L.β b) ⟨over us off (a.eval y).cells.toList⟩) := by
  simp only [execOp, ho, hp.2, Instr.storeAt, Instr.sureAddr, pure_bind, Sem.run_bind]
  rw [zIz hsz h3 (by rw [← Array.length_toList]; omega) (by omega) h2]
  rfl
 unfold Oper.wp
 rw [he]
 exact hK _ _ _ (hn.put hd (av := .undef) (by simp only [AVR]))
end
end Go.Rl
namespace Go.Rl
open Go.RowKit

section
variable {w0 : World} {I : Fr} {n : Nat} {L : Pl} {s : St} {a : Act} {w : World}
def Pl.row (L : Pl) (id : Nat) (v : Value) (N : List Nat) : Pl := { L with ρ := upd L.ρ id v, ν := upd L.ν id N, lab := fun k => if k ∈ N then some (.row id) else L.lab k }
theorem Rel.setrow (h : Rel w0 I n L s a w) (K : List Nat) {id sz : Nat} {xs : List (List PV)} {v : Value} {N : List Nat} {w' : World} {J : List Nat} (hJ : Same J w w') (hlab : ∀ k ∈ J, ∃ i ∈ K, L.lab k = some (.row i))
  (hp : PVO L.Z w' (.sl true sz xs) v N) (hN : ∀ k ∈ N, (∃ i ∈ K, L.lab k = some (.row i)) ∨ w.heap.size ≤ k) (hnd : N.Nodup) (hid1 : id < pinT) (hid : s.r id = none ∨ id ∈ K) :
  Rel w0 I n (L.row id v N) { t := fun i => (s.t i).kill K, b := fun j => (s.b j).map (AV.kills K), r := upd (s.kill K).r id (some (sz, xs)) } a w' := by
 have hnotJ : ∀ k, k < w.heap.size → (∀ i ∈ K, L.lab k ≠ some (.row i)) → w'.heap[k]? = w.heap[k]? := fun k hk hi => hJ.block k hk (fun hx => by obtain ⟨i, h1, h2⟩ := hlab k hx; exact hi i h1 h2)
 have hnotN : ∀ k, k < w.heap.size → (∀ i ∈ K, L.lab k ≠ some (.row i)) → (L.row id v N).lab k = L.lab k := fun k hk hi => by
  simp only [Pl.row]
  rw [if_neg]
  intro hx
  rcases hN k hx with ⟨i, h1, h2⟩ | h2
  · exact hi i h1 h2
  · omega
 have hidne : ∀ {i}, i ∉ K → (s.r i).isSome → i ≠ id := fun hi hs e => by
  subst e
  rcases hid with h1 | h1
  · rw [h1] at hs; cases hs
  · exact hi h1
 have hrow : ∀ {i sz xs}, s.r i = some (sz, xs) → i ∉ K → ∀ k ∈ L.ν i, k < w.heap.size ∧ ∀ j ∈ K, L.lab k ≠ some (.row j) := fun {i sz xs} hx hi k hk => by
  obtain ⟨h1, h2, h3⟩ := h.rw i sz xs hx
  refine ⟨h1.lt k hk, fun j hj e => ?_⟩
  rw [h3 k hk] at e
  simp only [Option.some.injEq, Lab.row.injEq] at e
  subst e
  exact hi hj
 refine h.next (K := K) (h.same.trans hJ (fun x hx hI hxJ => ?_)) (fun k hk => ?_) (fun k l hk => ?_) ⟨fun k hk => ⟨hk, ?_⟩, fun i k hi hs hk => ?_, fun b hb => ⟨by simpa using hb, rfl⟩, fun i sz xs hi hx => ⟨xs, ?_, rfl, ?_⟩⟩ (fun i => rfl) (fun i cs hc => ?_) (fun i sz' xs' hx => ?_)
 ·
  obtain ⟨i, _, h2⟩ := hlab x hxJ
  rcases (h.llt x _ h2).2 with h3 | h3
  · omega
  · exact hI h3
 ·
  obtain ⟨h1, h2⟩ := h.zlt k hk
  exact ⟨Nat.lt_of_lt_of_le h1 hJ.size, (hnotN k h1 (fun i _ => by rw [h2]; simp)).trans h2⟩
 ·
  simp only [Pl.row] at hk
  split at hk
  ·
   rename_i hx
   refine ⟨hp.lt k hx, ?_⟩
   rcases hN k hx with ⟨i, h1, h2⟩ | h2
   · exact (h.llt k _ h2).2
   · exact .inl (Nat.le_trans h.same.size h2)
  · exact ⟨Nat.lt_of_lt_of_le (h.llt k l hk).1 hJ.size, (h.llt k l hk).2⟩
 ·
  obtain ⟨h1, h2⟩ := h.zlt k hk
  exact hnotJ k h1 (fun i _ => by rw [h2]; simp)
 ·
  obtain ⟨⟨sz, xs⟩, hx⟩ := Option.isSome_iff_exists.1 hs
  obtain ⟨h1, h2⟩ := hrow hx hi k (List.mem_of_mem_tail hk)
  exact ⟨.inr (by simp only [Pl.row, zBd _ _ (hidne hi hs)]; exact hk), hnotJ k h1 h2⟩
 ·
  simp only [zBd _ _ (hidne hi (by rw [hx]; rfl)), St.kill]
  rw [if_neg hi]
  exact hx
 · exact zBd _ _ (hidne hi (by rw [hx]; rfl))
 ·
  simp only [Option.map_eq_some_iff] at hc
  obtain ⟨cs0, h0, rfl⟩ := hc
  have hlb := (h.bx i cs0 h0).1
  exact .inl ⟨cs0, h0, rfl, hnotJ _ (h.llt _ _ hlb).1 (fun j _ => by rw [hlb]; simp), hnotN _ (h.llt _ _ hlb).1 (fun j _ => by rw [hlb]; simp)⟩
 ·
  by_cases e : i = id
  ·
   subst e
   simp only [upd_self, Option.some.injEq, Prod.mk.injEq] at hx
   obtain ⟨rfl, rfl⟩ := hx
   refine .inr ⟨.inl hid1, by simpa [Pl.row] using hp, by simpa [Pl.row] using hnd, fun k hk => ?_⟩
   simp only [Pl.row, upd_self] at hk ⊢
   rw [if_pos hk]
  ·
   simp only [zBd _ _ e, St.kill] at hx
   split at hx
   · cases hx
   ·
    rename_i hi
    exact .inl ⟨hx, zBd _ _ e, zBd _ _ e, fun k hk => ⟨hnotJ k (hrow hx hi k hk).1 (hrow hx hi k hk).2, hnotN k (hrow hx hi k hk).1 (hrow hx hi k hk).2⟩⟩
end

inductive Gv (s : St) : AV → PV → List Nat → Prop where
 | v {d : Option Nat} {x : Value} : Gv s (.p d (.v x)) (.v x) []
 | fro {o : Bool} {sz : Nat} {xs : List (List PV)} : Gv s (.p none (.sl o sz xs)) (.sl false sz xs) []
 | clo {f : Nat} {xs : List (List PV)} : Gv s (.p none (.clo f xs)) (.clo f xs) []
 | nil (sz : Nat) : Gv s .nils (.sl true sz []) []
 | row {id len sz : Nat} {xs : List (List PV)} (hr : s.r id = some (sz, xs)) (hl : len = xs.length) : Gv s (.sl id 0 len) (.sl true sz xs) [id]
 | pre {id len sz : Nat} {xs : List (List PV)} (hr : s.r id = some (sz, xs)) (hl : len ≤ xs.length) (hn : ∀ es ∈ xs, ∀ p ∈ es, (match p with | .v _ => true | _ => false) = true) : Gv s (.sl id 0 len) (.sl true sz (xs.take len)) [id]
inductive Gvs (s : St) : List AV → List PV → List Nat → Prop where
 | nil : Gvs s [] [] []
 | cons {a : AV} {p : PV} {K : List Nat} {aL : List AV} {ps : List PV} {K' : List Nat} (h : Gv s a p K) (t : Gvs s aL ps K') : Gvs s (a :: aL) (p :: ps) (K ++ K')
theorem Gvs.length {s : St} {aL : List AV} {ps : List PV} {K : List Nat} (h : Gvs s aL ps K) : aL.length = ps.length := by
 induction h with
 | nil => rfl
 | cons _ _ ih => simp [ih]
section
variable {w0 : World} {I : Fr} {n : Nat} {L : Pl} {s : St} {a : Act} {w : World}
theorem Gv.ok (h : Rel w0 I n L s a w) {av : AV} {p : PV} {K : List Nat} (g : Gv s av p K) {v : Value} (hv : AVR L w s av v) : PVO L.Z w p v (K.flatMap L.ν) := by
 have hz : ∀ {k}, L.zd none k → L.Z k := fun hk => hk.elim id (fun ⟨_, h, _⟩ => by cases h)
 cases g with
 | v => simp only [AVR] at hv; have h1 := hv.1; cases h1; exact .v _ ‹_›
 | fro => simp only [AVR] at hv; exact .fro _ _ _ ((hv.1.flag false).mono (fun _ _ => rfl) (fun k hk => hz hk))
 | clo => simp only [AVR] at hv; exact .clo _ _ _ (hv.1.mono (fun _ _ => rfl) (fun k hk => hz hk))
 | nil sz => simp only [AVR] at hv; obtain ⟨A, rfl⟩ := hv; exact .nil sz A
 | row hr hl =>
  rename_i id _ _ _
  subst hl
  simp only [AVR] at hv
  obtain ⟨sz', xs', h2, h3, h4⟩ := hv
  rw [hr] at h2
  cases h2
  obtain ⟨h5, h6, h7⟩ := h.rw _ _ _ hr
  have hvv : v = L.ρ id := by
   obtain ⟨A, m, c, A', c', e1, rfl, hc, h0, _⟩ := h4
   obtain ⟨rfl, rfl⟩ := h0 rfl
   rw [e1] at h5 ⊢
   generalize L.ν id = N at h5
   cases h5 <;> rfl
  subst hvv
  simpa using h5
 | pre hr hl hn =>
  rename_i id len sz xs
  simp only [AVR] at hv
  obtain ⟨sz', xs', h2, h3, h4⟩ := hv
  rw [hr] at h2
  cases h2
  obtain ⟨h5, h6, h7⟩ := h.rw _ _ _ hr
  simp only [List.flatMap_cons, List.flatMap_nil, List.append_nil]
  obtain ⟨A, m, c, A', c', e1, rfl, hc, h0, _⟩ := h4
  obtain ⟨rfl, rfl⟩ := h0 rfl
  rw [e1] at h5
  generalize L.ν id = N at h5
  cases h5 with
  | nil =>
   have : len = 0 := by simpa using hl
   subst this
   exact .nil _ _
  | own _ _ k c cur ty hlen hk hsz hc' hm u nn hcell hp hfz =>
   have hnn : ∀ j, j < xs.flatten.length → nn j = [] := fun j hj => by
    have hx := hp j _ (List.getElem?_eq_getElem hj)
    obtain ⟨es, g1, g2⟩ := List.mem_flatten.1 (List.getElem_mem hj)
    have := hn es g1 _ g2
    generalize xs.flatten[j] = p at hx this
    generalize nn j = N at hx
    cases p with
    | v x => cases hx; rfl
    | _ => cases this
   have hfl : (xs.take len).flatten = xs.flatten.take ((xs.take len).flatten.length) := by
    conv => rhs; rw [← List.take_append_drop len xs, List.flatten_append]
    simp
   have hle : (xs.take len).flatten.length ≤ xs.flatten.length := by
    conv => rhs; rw [← List.take_append_drop len xs, List.flatten_append, List.length_append]
    omega
   have e0 : (List.range xs.flatten.length).flatMap nn = [] := List.flatMap_eq_nil_iff.2 (fun j hj => hnn j (List.mem_range.1 hj))
   have e1 : (List.range (xs.take len).flatten.length).flatMap nn = [] := List.flatMap_eq_nil_iff.2 (fun j hj => hnn j (Nat.lt_of_lt_of_le (List.mem_range.1 hj) hle))
   have hl2 : (xs.take len).length = len := by simp; omega
   have := PVO.own (Z := L.Z) (w := w) sz (xs.take len) k _ cur ty (fun es hes => hlen es (List.mem_of_mem_take hes)) hk hsz ⟨by omega, hc'.2⟩ hm u nn (fun j hj => hcell j (by omega)) (fun j p hj => by
    rw [hfl, List.getElem?_take] at hj
    split at hj
    · exact hp j p hj
    · cases hj) hfz
   rw [e1, hl2] at this
   rw [e0]
   exact this
theorem Gvs.ok (h : Rel w0 I n L s a w) {aL : List AV} {ps : List PV} {K : List Nat} (g : Gvs s aL ps K) : ∀ {us : List Value} (_ : AVRs L w s aL us), us.length = ps.length ∧ ∃ m : Nat → List Nat, (List.range ps.length).flatMap m = K.flatMap L.ν ∧ ∀ j p, ps[j]? = some p → ∃ u, us[j]? = some u ∧ PVO L.Z w p u (m j) := by
 induction g with
 | nil =>
  intro us hv
  cases us with
  | nil => exact ⟨rfl, fun _ => [], by simp, by simp⟩
  | cons _ _ => simp [AVRs] at hv
 | cons g t ih =>
  intro us hv
  cases us with
  | nil => simp [AVRs] at hv
  | cons u us =>
   simp only [AVRs] at hv
   obtain ⟨h1, m, h2, h3⟩ := ih hv.2
   rename_i _ _ K0 _ _ _
   refine ⟨by simp [h1], fun j => match j with | 0 => K0.flatMap L.ν | j + 1 => m j, ?_, fun j p hj => ?_⟩
   · rw [List.length_cons, List.range_succ_eq_map, List.flatMap_cons, List.flatMap_map, List.flatMap_append, ← h2]
   ·
    cases j with
    | zero => simp at hj; subst hj; exact ⟨u, rfl, g.ok h hv.1⟩
    | succ j => simp at hj; simpa using h3 j p hj
theorem Rel.nodup (h : Rel w0 I n L s a w) : ∀ {K : List Nat}, K.Nodup → (∀ i ∈ K, (s.r i).isSome) → (K.flatMap L.ν).Nodup ∧ ∀ k ∈ K.flatMap L.ν, ∃ i ∈ K, L.lab k = some (.row i)
 | [], _, _ => by simp
 | i :: K, hn, hs => by
  obtain ⟨⟨sz, xs⟩, hx⟩ := Option.isSome_iff_exists.1 (hs i (by simp))
  obtain ⟨h1, h2, h3⟩ := h.rw i sz xs hx
  obtain ⟨h4, h5⟩ := Rel.nodup h (List.nodup_cons.1 hn).2 (fun j hj => hs j (by simp [hj]))
  rw [List.flatMap_cons]
  refine ⟨List.nodup_append.2 ⟨h2, h4, fun k hk k' hk' e => ?_⟩, fun k hk => ?_⟩
  ·
   subst e
   obtain ⟨j, hj, hl⟩ := h5 k hk'
   rw [h3 k hk] at hl
   simp only [Option.some.injEq, Lab.row.injEq] at hl
   subst hl
   exact (List.nodup_cons.1 hn).1 hj
  ·
   rcases List.mem_append.1 hk with hk | hk
   · exact ⟨i, by simp, h3 k hk⟩
   ·
    obtain ⟨j, hj, hl⟩ := h5 k hk
    exact ⟨j, by simp [hj], hl⟩
theorem Gvs.rows {aL : List AV} {ps : List PV} {K : List Nat} (g : Gvs s aL ps K) : ∀ i ∈ K, (s.r i).isSome := by
 induction g with
 | nil => simp
 | cons g _ ih =>
  intro i hi
  rcases List.mem_append.1 hi with hi | hi
  ·
   cases g with
   | row hr hl => simp at hi; subst hi; rw [hr]; rfl
   | pre hr hl hn => simp at hi; subst hi; rw [hr]; rfl
   | _ => simp at hi
  · exact ih i hi
end

theorem flat_at {sz : Nat} {xs : List (List PV)} (hl : ∀ es ∈ xs, es.length = sz) {j : Nat} {p : PV} (h : xs.flatten[j]? = some p) : 0 < sz ∧ ∃ es, xs[j / sz]? = some es ∧ es[j % sz]? = some p := by
 have hj := (List.getElem?_eq_some_iff.1 h).1
 rw [zCg hl] at hj
 have hsz : 0 < sz := Nat.pos_of_ne_zero (fun e => by subst e; simp at hj)
 have hd : j / sz < xs.length := Nat.div_lt_of_lt_mul (by rw [Nat.mul_comm]; exact hj)
 refine ⟨hsz, xs[j / sz], List.getElem?_eq_getElem hd, ?_⟩
 rw [← zIU hl (List.getElem?_eq_getElem hd) (Nat.mod_lt _ hsz), Nat.mul_comm, Nat.div_add_mod]
 exact h
end Go.Rl
namespace Go.Rl
open Go.RowKit

theorem zID {Z : Nat → Prop} {w : World} {k c sz : Nat} {cur : Array Value} {ty : TypeId} {xs : List (List PV)} (hlen : ∀ es ∈ xs, es.length = sz) {fz : Nat × Nat} (hk : w.heap[k]? = some (.cells cur ty fz)) (hsz : cur.size = c * sz) (hc : xs.length ≤ c) (hc0 : 0 < c) (hm : c ≤ maxLen) (m : Nat → List Nat)
  (hp : ∀ j p, xs.flatten[j]? = some p → ∃ u, cur[j]? = some u ∧ PVO Z w p u (m j)) (hfz : FzOk fz cur.size sz := by exact .inl rfl) : PVO Z w (.sl true sz xs) (.slice (some ⟨k, 0, none⟩) xs.length c) (k :: (List.range xs.flatten.length).flatMap m) := by
 refine .own sz xs k c cur ty hlen hk hsz ⟨hc, hc0⟩ hm (fun j => cur.getD j undef) m (fun j hj => ?_) (fun j p hj => ?_) hfz
 ·
  obtain ⟨u, hu, _⟩ := hp j _ (List.getElem?_eq_getElem hj)
  simp [hu]
 ·
  obtain ⟨u, hu, hr⟩ := hp j p hj
  simpa [hu] using hr
theorem zOr {Z : Nat → Prop} {w : World} {p : PV} {v : Value} {N : List Nat} (h : PVO Z w p v N) (hz : ∀ k, Z k → k < w.heap.size) (o : Obj) : PVO Z (w.alloc o) p v N :=
 h.mono (fun k hk => heap_alloc_old w o (hz k hk)) (fun k hk => heap_alloc_old w o (h.lt k hk)) (fun _ h => h)

section
variable {w0 : World} {I : Fr} {n : Nat} {L : Pl} {s : St} {a : Act} {w : World}
theorem Rel.fresh (h : Rel w0 I n L s a w) (K : List Nat) (id : Nat) {cur : Array Value} (e : TypeId) {sz c : Nat} {xs : List (List PV)} (hlen : ∀ es ∈ xs, es.length = sz) (hsz : cur.size = c * sz) (hc : xs.length ≤ c) (hm : c ≤ maxLen) (m : Nat → List Nat)
  (hp : ∀ j p, xs.flatten[j]? = some p → ∃ u, cur[j]? = some u ∧ PVO L.Z w p u (m j)) (hK : ∀ k ∈ (List.range xs.flatten.length).flatMap m, ∃ i ∈ K, L.lab k = some (.row i)) (hnd : ((List.range xs.flatten.length).flatMap m).Nodup) (hid1 : id < pinT) (hid : s.r id = none ∨ id ∈ K) :
  ∃ N, Rel w0 I n (L.row id (.slice (some ⟨w.heap.size, 0, none⟩) xs.length c) N) { t := fun i => (s.t i).kill K, b := fun j => (s.b j).map (AV.kills K), r := upd (s.kill K).r id (some (sz, xs)) } a (w.alloc (.cells cur e)) := by
 have hlt : ∀ k ∈ (List.range xs.flatten.length).flatMap m, k < w.heap.size := fun k hk => by obtain ⟨i, _, h2⟩ := hK k hk; exact (h.llt k _ h2).1
 by_cases hc0 : c = 0
 ·
  subst hc0
  have hx : xs = [] := List.eq_nil_of_length_eq_zero (by omega)
  subst hx
  exact ⟨[], h.setrow K (J := []) ((Same.refl [] w).push _) (by simp) (.nil sz _) (by simp) (by simp) hid1 hid⟩
 refine ⟨w.heap.size :: (List.range xs.flatten.length).flatMap m, ?_⟩
 refine h.setrow K (J := []) ((Same.refl [] w).push _) (by simp) (zID hlen (heap_alloc_new w _) hsz hc (by omega) hm m (fun j p hj => ?_)) (fun k hk => ?_) (List.nodup_cons.2 ⟨fun hk => Nat.lt_irrefl _ (hlt _ hk), hnd⟩) hid1 hid
 ·
  obtain ⟨u, hu, hr⟩ := hp j p hj
  exact ⟨u, hu, zOr hr (fun k hk => (h.zlt k hk).1) _⟩
 ·
  rcases List.mem_cons.1 hk with rfl | hk
  · exact .inr (Nat.le_refl _)
  · exact .inl (hK k hk)

theorem zFm {L : Pl} {w : World} {s : St} {id sz len : Nat} {xs : List (List PV)} {v : Value} {N : List Nat} {Z : Nat → Prop} (hr : s.r id = some (sz, xs)) (hv : v = L.ρ id) (hp : PVO Z w (.sl true sz xs) (L.ρ id) N) (hl : len = xs.length) : AVR L w s (.sl id 0 len) v := by
 subst hl
 simp only [AVR]
 refine ⟨sz, xs, hr, by omega, ?_⟩
 subst hv
 generalize L.ρ id = v at hp
 cases hp with
 | nil _ A => exact ⟨A, 0, 0, A, 0, rfl, rfl, by simp, fun _ => ⟨rfl, rfl⟩, by simp⟩
 | own _ _ k c _ _ _ _ _ hc => exact ⟨_, _, c, _, c, rfl, rfl, hc.1, fun _ => ⟨rfl, rfl⟩, fun _ => ⟨k, rfl, by simp⟩⟩
end

theorem zBX {α β : Type} : ∀ l : List α, l.flatMap (fun _ => ([] : List β)) = []
 | [] => rfl
 | _ :: l => zBX l
theorem zDX (s : St) (K : List Nat) : s.killd K = { t := fun i => (s.t i).kill K, b := fun j => (s.b j).map (AV.kills K), r := (s.kill K).r } := St.killd_eq s K

def zpv : Value → PV
 | .slice none 0 0 => .sl true 0 []
 | v => .v v
theorem pvo_z (Z : Nat → Prop) (w : World) {v : Value} (h : v.oneCell' = true) : PVO Z w (zpv v) v [] := by
 unfold zpv
 split
 · exact .nil 0 none
 · exact .v _ h

section
variable {γ : Gho} {P : Program} {n : Nat} {o : Oper} {M B : List Nat} {s : St}
theorem zFf {e : TypeId} {z : Value} {sz by' : Nat} (hi : (P.info? e).map (fun i => (i.zero, i.size, i.bytes)) = some (some z, sz, by')) : ∃ i, P.info? e = some i ∧ i.zero = some z ∧ i.size = sz ∧ i.bytes = by' := by
 cases h : P.info? e with
 | none => simp [h] at hi
 | some i => simp [h] at hi; exact ⟨i, rfl, hi.1, hi.2.1, hi.2.2⟩
theorem zBc {α : Type} (zs : List α) : ∀ (l j : Nat), j < l * zs.length → (List.replicate l zs).flatten[j]? = zs[j % zs.length]?
 | 0, j, h => by simp at h
 | l + 1, j, h => by
  rw [List.replicate_succ, List.flatten_cons]
  rcases Nat.lt_or_ge j zs.length with h1 | h1
  · rw [List.getElem?_append_left h1, Nat.mod_eq_of_lt h1]
  · rw [List.getElem?_append_right h1, zBc zs l (j - zs.length) (by rw [Nat.succ_mul] at h; omega), Nat.mod_eq_sub_mod h1]
theorem zD3 {t e : TypeId} {x y : Operand} (ho : o.op = .makeSlice t x y) (id : Nat) {d d' : Option Nat} {kl kc : IntKind} {l c : Nat} {z : Value} {sz by' : Nat} (hx : s.ev x = .p d (.v (.int kl l))) (hy : s.ev y = .p d' (.v (.int kc c)))
  (hu : P.underlying t = some (.slice e)) (hi : (P.info? e).map (fun i => (i.zero, i.size, i.bytes)) = some (some z, sz, by')) (hz : z.cells.toList.all (·.oneCell') = true) (hzs : z.cells.size = sz) (hid1 : id < pinT) (hid : s.r id = none) (hM : id ∈ M) (hlc : l ≤ c) (hb : by' * c ≤ 281474976710656) (hm : c ≤ maxLen) :
  StepD γ P n o M B s { put := .sl id 0 l, setR := [(id, sz, List.replicate l (z.cells.toList.map zpv))] } := by
 intro s' ag hd w0 I L a w hG hr K Q hK
 have e1 := hr.evv ((ag.ev1 ho (by simp [Op.operands])).trans hx)
 have e2 := hr.evv ((ag.ev1 ho (by simp [Op.operands])).trans hy)
 have hid' : s'.r id = none := (ag.m id hM).trans hid
 obtain ⟨i, h1, h2, h3, h4⟩ := zFf hi
 have hm' : (c : Int) ≤ 9223372036854775807 := by simp only [maxLen] at hm; omega
 have hb' : (i.bytes : Int) * (c : Int) ≤ 281474976710656 := by
  rw [h4, ← Int.natCast_mul]
  omega
 have hrun := run_make (P := P) w t e i z hu h1 h2 kl kc (l : Int) (c : Int) (by omega) (by omega) hb' hm'
 simp only [Int.toNat_natCast] at hrun
 have hzl : (z.cells.toList.map zpv).length = sz := by simpa using hzs
 have hcur : (madeCells z.cells (c * i.size)).size = c * sz := by rw [size_madeCells, h3]
 obtain ⟨N, hfr⟩ := hr.fresh [] id (cur := madeCells z.cells (c * i.size)) e (sz := sz) (c := c) (xs := List.replicate l (z.cells.toList.map zpv)) (fun es hes => by rw [List.eq_of_mem_replicate hes]; exact hzl) hcur (by simpa using hlc) hm (fun _ => []) (fun j p hj => by
  have hj' : j < l * sz := by have := (List.getElem?_eq_some_iff.1 hj).1; simpa [hzs] using this
  have hj2 : j < c * sz := Nat.lt_of_lt_of_le hj' (Nat.mul_le_mul_right _ hlc)
  rw [zBc _ _ _ (by rw [hzl]; exact hj'), hzl, List.getElem?_map] at hj
  have hpos : 0 < sz := Nat.pos_of_ne_zero (fun e => by subst e; simp at hj')
  have hmod : j % sz < z.cells.toList.length := by rw [Array.length_toList, hzs]; exact Nat.mod_lt _ hpos
  rw [List.getElem?_eq_getElem hmod] at hj
  cases hj
  refine ⟨z.cells.toList[j % sz], ?_, pvo_z _ _ ?_⟩
  ·
   simp only [madeCells, h3]
   rw [Array.getElem?_map, Array.getElem?_range, if_pos hj2]
   have hmod' : j % sz < z.cells.size := by rw [hzs]; exact Nat.mod_lt _ hpos
   simp [hzs, hmod']
   exact getElem!_pos z.cells (j % sz) hmod'
  · exact (List.all_eq_true.1 hz) _ (List.getElem_mem hmod)) (by rw [zBX]; simp) (by rw [zBX]; simp) hid1 (.inl hid')
 have he : (execOp a.eval o).run P w = .ok (.value (.slice (some ⟨w.heap.size, 0, none⟩) l c)) (w.alloc (.cells (madeCells z.cells (c * i.size)) e)) := by
  simp [execOp, ho, e1, e2, hrun]
 unfold Oper.wp
 rw [he, Oper.upon_value]
 have hfin := hfr.put hd (av := .sl id 0 l) (v := .slice (some ⟨w.heap.size, 0, none⟩) l c) (zFm (sz := sz) (xs := List.replicate l (z.cells.toList.map zpv)) (by simp) (by simp [Pl.row]) (hfr.rw id sz _ (by simp)).1 (by simp))
 exact hK _ _ _ (by rw [Dl.app, zDX]; exact hfin)
end
end Go.Rl

/- Promises of functions, proved by walks over their operations; no conditions beyond those that each theorem states. -/
import Derived.Test.YtfdebanfenlglaaReD
import Derived.Test.YtfdebanfenlglaaReQ
set_option linter.unusedSimpArgs false
set_option linter.unusedVariables false
namespace Go.Rl
theorem lessE_of {a b : Ent} (h : cmpK a b < 0) : LessE a b := by
  by_cases h1 : LessE a b
  · exact h1
  · by_cases h2 : a.user = b.user ∧ a.seq = b.seq ∧ a.kind = b.kind
    · rw [cmpK_eq h2.1 h2.2.1 h2.2.2] at h; omega
    · rw [cmpK_gt h1 h2] at h; omega
theorem LessE.trans {a b c : Ent} (h : LessE a b) (k : LessE b c) : LessE a c := by
  rcases h with h | ⟨hu, h⟩
  · rcases k with k | ⟨ku, _⟩
    · exact .inl (ltB_trans h k)
    · exact .inl (by rw [← ku]; exact h)
  · rcases k with k | ⟨ku, k⟩
    · exact .inl (by rw [hu]; exact k)
    · refine .inr ⟨hu.trans ku, ?_⟩
      rcases h with h | ⟨h1, h2⟩
      · rcases k with k | ⟨k1, k2⟩
        · exact .inl (by omega)
        · exact .inl (by omega)
      · rcases k with k | ⟨k1, k2⟩
        · exact .inl (by omega)
        · exact .inr ⟨by omega, by omega⟩
theorem LessE.irrefl {a : Ent} (h : LessE a a) : False := by
  rcases h with h | ⟨_, h | ⟨_, h⟩⟩
  · rw [ltB_irr] at h; cases h
  · omega
  · omega
theorem ents_less {l : List Ent} (h : entsOk l = true) : ∀ (d i : Nat) (x e : Ent), l[i]? = some x → l[i + d + 1]? = some e → LessE x e
  | 0, i, x, e, hx, he => by
    simp only [entsOk, Bool.and_eq_true] at h
    have := allIx_get h.2 he
    simp only [okEnt, Nat.add_zero, Nat.add_sub_cancel, hx, Bool.and_eq_true, Bool.or_eq_true, decide_eq_true_eq] at this
    exact lessE_of (this.2.resolve_left (by omega))
  | d + 1, i, x, e, hx, he => by
    obtain ⟨y, hy⟩ : ∃ y, l[i + d + 1]? = some y := ⟨_, List.getElem?_eq_getElem (by have := (List.getElem?_eq_some_iff.1 he).1; omega)⟩
    exact (ents_less h d i x y hx hy).trans (ents_less h 0 (i + d + 1) y e hy (by rw [← he]; congr 1))
theorem ents_lt {l : List Ent} (h : entsOk l = true) {i j : Nat} {x e : Ent} (hij : i < j) (hx : l[i]? = some x) (he : l[j]? = some e) : LessE x e :=
  ents_less h (j - i - 1) i x e hx (by rw [← he]; congr 1; omega)
theorem ents_inj {l : List Ent} (h : entsOk l = true) {i j : Nat} {e : Ent} (hx : l[i]? = some e) (he : l[j]? = some e) : i = j := by
  rcases Nat.lt_trichotomy i j with hij | hij | hij
  · exact (ents_lt h hij hx he).irrefl.elim
  · exact hij
  · exact (ents_lt h hij he hx).irrefl.elim
/-! #### the needed places stand in order -/
theorem needF_lt {l : List Ent} {ps : List Int} {n : Nat} {z : Int} (h : z ∈ needF l ps n) : z < (n : Int) := by
  obtain ⟨k, h1, h2, _⟩ := needF_bnd (n := n) h
  omega
theorem needF_sorted (l : List Ent) (ps : List Int) : ∀ n, (needF l ps n).Pairwise (· < ·)
  | 0 => .nil
  | n + 1 => by
    rw [needF, List.pairwise_append]
    refine ⟨needF_sorted l ps n, ?_, fun a ha b hb => ?_⟩
    · cases l[n]? with
      | none => exact .nil
      | some e =>
        simp only
        split
        · exact List.pairwise_singleton _ _
        · exact .nil
    · have h1 := needF_lt ha
      cases hn : l[n]? with
      | none => rw [hn] at hb; cases hb
      | some e =>
        rw [hn] at hb
        simp only at hb
        split at hb
        · rw [List.mem_singleton] at hb; omega
        · cases hb
theorem sorted_get {zs : List Int} (h : zs.Pairwise (· < ·)) {i j : Nat} {x y : Int} (hij : i < j) (hx : zs[i]? = some x) (hy : zs[j]? = some y) : x < y := by
  obtain ⟨h1, rfl⟩ := List.getElem?_eq_some_iff.1 hx
  obtain ⟨h2, rfl⟩ := List.getElem?_eq_some_iff.1 hy
  exact (List.pairwise_iff_getElem.1 h) i j h1 h2 hij
theorem cstep_cases (b : Bool) (out : List Ent) (e : Ent) : (cstep b out e = e :: out) ∨ (cstep b out e = out ∧ b = true ∧ e.kind = 0 ∧ older out e = false) := by
  by_cases h : b = true ∧ e.kind = 0 ∧ older out e = false
  · exact .inr ⟨cstep_drop h.1 h.2.1 h.2.2, h⟩
  · exact .inl (cstep_keep h)
/-- What is kept of the last k of them. -/
theorem compU_mem {l : List Ent} {b : Bool} {zs : List Int} (hz : ∀ z ∈ zs, ∃ q : Nat, z = (q : Int) ∧ q < l.length) : ∀ {k : Nat} {x : Ent}, k ≤ zs.length → x ∈ compU l b zs k → ∃ (j q : Nat), zs.length - k ≤ j ∧ zs[j]? = some (q : Int) ∧ l[q]? = some x
  | 0, x, _, h => by simp [compU, Go.Proofs.Bw.upto, compP] at h
  | k + 1, x, hk, h => by
    obtain ⟨z, hzz⟩ : ∃ z, zs[zs.length - 1 - k]? = some z := ⟨_, List.getElem?_eq_getElem (by omega)⟩
    obtain ⟨q, rfl, hq⟩ := hz z (List.mem_of_getElem? hzz)
    obtain ⟨e, he⟩ : ∃ e, l[q]? = some e := ⟨_, List.getElem?_eq_getElem hq⟩
    have hs := compU_succ (l := l) (bot := b) (i := zs.length - 1 - k) (k := k) (by omega) hzz (e := e) (by simpa using he)
    rw [hs] at h
    have rec_ : x ∈ compU l b zs k → ∃ (j q : Nat), zs.length - (k + 1) ≤ j ∧ zs[j]? = some (q : Int) ∧ l[q]? = some x := fun hx => by
      obtain ⟨j, q', h1, h2, h3⟩ := compU_mem hz (by omega) hx
      exact ⟨j, q', by omega, h2, h3⟩
    rcases cstep_cases b (compU l b zs k) e with hc | ⟨hc, _⟩
    · rw [hc] at h
      rcases List.mem_cons.1 h with rfl | h
      · exact ⟨zs.length - 1 - k, q, by omega, hzz, he⟩
      · exact rec_ h
    · rw [hc] at h; exact rec_ h
theorem compactedF_ok {l : List Ent} {s : List Int} {b : Bool} (h1 : entsOk l = true) (h2 : snapsOk s = true) : compactedF l s b = compU l b (needF l (pointsF s) l.length) (needF l (pointsF s) l.length).length := if_pos ⟨h1, h2⟩
end Go.Rl
namespace Go.Rl
end Go.Rl
namespace Go.Rl
open Go.Proofs
theorem en27 : ∀ vs w, (callFunc 27 vs).run Try.prog w = .ok (.enter 27 vs) w := enters Try.func27 (by decide) rfl
theorem en28 : ∀ vs w, (callFunc 28 vs).run Try.prog w = .ok (.enter 28 vs) w := enters Try.func28 (by decide) rfl
set_option maxRecDepth 100000 in
theorem ent_eqIn (a b : Ent) (w : World) : (Op.equalIn 10000 44 (.agg ⟨[.string a.user, .int .i64 a.seq, .int .i64 a.kind, .string a.value]⟩) (.agg ⟨[.string b.user, .int .i64 b.seq, .int .i64 b.kind, .string b.value]⟩)).run Try.prog w = .ok (decide (a = b)) w := by
  rw [show (10000 : Nat) = 9999 + 1 from rfl, run_equalIn_agg w 9999 44 _ _ Try.underlying44 (by kernel_rfl)]
  rw [show (Try.prog.fieldsOf 44).toList = [⟨"Key", 42, 0, false, "", "", 0⟩, ⟨"Value", 9, 3, false, "", "", 32⟩] from rfl]
  rw [show (9999 : Nat) = 9998 + 1 from rfl]
  have hb : ∀ x y : ByteArray, x.toList = y.toList ↔ x = y := fun x y => ⟨toList_inj, fun h => by rw [h]⟩
  have hk : ∀ w, (Op.equalIn 9999 42 (.agg ⟨[.string a.user, .int .i64 a.seq, .int .i64 a.kind]⟩) (.agg ⟨[.string b.user, .int .i64 b.seq, .int .i64 b.kind]⟩)).run Try.prog w = .ok (decide ((a.user, a.seq, a.kind) = (b.user, b.seq, b.kind))) w := fun w => by
    rw [show (9999 : Nat) = 9998 + 1 from rfl, run_equalIn_agg w 9998 42 _ _ Try.underlying42 (by kernel_rfl)]
    rw [show (Try.prog.fieldsOf 42).toList = [⟨"User", 9, 0, false, "", "", 0⟩, ⟨"Seq", 2, 1, false, "", "", 16⟩, ⟨"Kind", 2, 2, false, "", "", 24⟩] from rfl]
    rw [show (9998 : Nat) = 9997 + 1 from rfl]
    simp [Op.eqFields, part, Try.isAgg9, Try.sizeOf9, Try.isAgg2, Try.sizeOf2, run_equalIn_string (h := Try.underlying9), run_equalIn_int (h := Try.underlying2), hb]
    cases a; cases b
    simp only [Prod.mk.injEq]
    split
    · split
      · split <;> simp_all
      · simp_all
    · simp_all
  simp [Op.eqFields, part, Try.isAgg9, Try.sizeOf9, Try.isAgg42, Try.sizeOf42, hk, run_equalIn_string (h := Try.underlying9), hb]
  cases a; cases b
  simp only [Ent.mk.injEq]
  split
  · simp_all
  · split <;> simp_all
end Go.Rl
namespace Go.Rl
structure Pr where
  user : ByteArray
  value : ByteArray
  deriving DecidableEq
def Pr.pv (e : Pr) : List PV := [.v (.string e.user), .v (.string e.value)]
def pvP (l : List Pr) : List (List PV) := l.map Pr.pv
theorem pvP_length (l : List Pr) : (pvP l).length = l.length := by simp [pvP]
theorem pvP_get {l : List Pr} {i : Nat} {e : Pr} (h : l[i]? = some e) : (pvP l)[i]? = some e.pv := by simp [pvP, h]
theorem pvP_flat (l : List Pr) : FlatP (pvP l) := fun es he p hp => by
  obtain ⟨s, _, rfl⟩ := List.mem_map.1 he
  simp only [Pr.pv, List.mem_cons, List.not_mem_nil, or_false] at hp
  rcases hp with rfl | rfl <;> rfl
theorem pvP_snoc (l : List Pr) (e : Pr) : pvP l ++ [[PV.v (.string e.user), PV.v (.string e.value)]] = pvP (l ++ [e]) := by simp [pvP, Pr.pv]
/-! #### a look -/
def lookE (l : List Ent) (u : ByteArray) (p : Int) : Option Ent := if idxF (asOf u p) l < 0 then none else l[(idxF (asOf u p) l).toNat]?
def getC1 (o : Option Ent) : Int := match o with
  | some e => if e.kind = 0 then 2 else 1
  | none => 0
def getC2 (o : Option Ent) : ByteArray := match o with
  | some e => if e.kind = 0 then ⟨#[]⟩ else e.value
  | none => ⟨#[]⟩
theorem idx_neg {α : Type} {p : α → Bool} {l : List α} : idxF p l < 0 ↔ ∀ x ∈ l, p x = false := by
  unfold idxF
  cases hf : l.findIdx? p with
  | none =>
    simp only [show ((-1 : Int) < 0) = True by simp, true_iff]
    intro x hx
    exact List.findIdx?_eq_none_iff.1 hf x hx
  | some q =>
    simp only
    constructor
    · intro h; omega
    · intro h
      obtain ⟨h1, h2, _⟩ := List.findIdx?_eq_some_iff_getElem.1 hf
      rw [h _ (List.getElem_mem h1)] at h2
      cases h2
theorem look_none {l : List Ent} {u : ByteArray} {p : Int} (h : idxF (asOf u p) l < 0) : lookE l u p = none := if_pos h
theorem look_some {l : List Ent} {u : ByteArray} {p : Int} {e : Ent} (h : ¬ idxF (asOf u p) l < 0) (he : l[(idxF (asOf u p) l).toNat]? = some e) : lookE l u p = some e := (if_neg h).trans he
/-- A row in strict order. -/
def Strict (l : List Ent) : Prop := ∀ (i j : Nat) x e, i < j → l[i]? = some x → l[j]? = some e → LessE x e
theorem ents_strict {l : List Ent} (h : entsOk l = true) : Strict l := fun _ _ _ _ hij hx he => ents_lt h hij hx he
/-- e is what l has of user u as of p. -/
def IsLook (l : List Ent) (u : ByteArray) (p : Int) (e : Ent) : Prop := e ∈ l ∧ asOf u p e = true ∧ ∀ x ∈ l, asOf u p x = true → x = e ∨ LessE e x
theorem look_is {l : List Ent} (hl : Strict l) {u : ByteArray} {p : Int} {e : Ent} {k : Nat} (hk : l[k]? = some e) (hp : asOf u p e = true) (hn : ∀ j e', j < k → l[j]? = some e' → asOf u p e' = false) : IsLook l u p e := by
  refine ⟨List.mem_of_getElem? hk, hp, fun x hx hpx => ?_⟩
  obtain ⟨j, hj⟩ := List.getElem?_of_mem hx
  rcases Nat.lt_trichotomy j k with h | h | h
  · rw [hn j x h hj] at hpx; cases hpx
  · subst h; rw [hk] at hj; cases hj; exact .inl rfl
  · exact .inr (hl k j e x h hk hj)
theorem lookE_iff {l : List Ent} (hl : Strict l) {u : ByteArray} {p : Int} {e : Ent} : lookE l u p = some e ↔ IsLook l u p e := by
  constructor
  · intro h
    unfold lookE at h
    split at h
    · cases h
    · rename_i hn
      obtain ⟨k, hk⟩ : ∃ k : Nat, idxF (asOf u p) l = (k : Int) := ⟨(idxF (asOf u p) l).toNat, by omega⟩
      rw [hk] at h
      obtain ⟨e', he', hp, hlt⟩ := idx_at.1 hk
      simp only [Int.toNat_natCast] at h
      rw [he'] at h; cases h
      exact look_is hl he' hp hlt
  · rintro ⟨h1, h2, h3⟩
    have hn : ¬ idxF (asOf u p) l < 0 := fun h => by rw [idx_neg.1 h e h1] at h2; cases h2
    obtain ⟨k, hk⟩ : ∃ k : Nat, idxF (asOf u p) l = (k : Int) := ⟨(idxF (asOf u p) l).toNat, by omega⟩
    obtain ⟨e', he', hp, hlt⟩ := idx_at.1 hk
    have he : e' = e := by
      rcases h3 e' (List.mem_of_getElem? he') hp with h | h
      · exact h
      · rcases (look_is hl he' hp hlt).2.2 e h1 h2 with h4 | h4
        · exact h4.symm
        · exact (h.trans h4).irrefl.elim
    subst he
    exact look_some hn (by rw [hk]; exact he')
theorem look_ex {l : List Ent} (hl : Strict l) {u : ByteArray} {p : Int} {x : Ent} (hx : x ∈ l) (hp : asOf u p x = true) : ∃ e, IsLook l u p e := by
  have hn : ¬ idxF (asOf u p) l < 0 := fun h => by rw [idx_neg.1 h x hx] at hp; cases hp
  obtain ⟨k, hk⟩ : ∃ k : Nat, idxF (asOf u p) l = (k : Int) := ⟨(idxF (asOf u p) l).toNat, by omega⟩
  obtain ⟨e', he', hp, hlt⟩ := idx_at.1 hk
  exact ⟨e', look_is hl he' hp hlt⟩
theorem need_look {l : List Ent} (h : entsOk l = true) {ps : List Int} {k : Nat} {e : Ent} (he : l[k]? = some e) : needP l ps k e = true ↔ ∃ p ∈ ps, IsLook l e.user p e := by
  have hs := ents_strict h
  simp only [needP, List.any_eq_true]
  constructor
  · rintro ⟨p, hp, hc⟩
    have hi := (idx_asOf h he).2 ⟨rfl, hc⟩
    obtain ⟨e', he', hpe, hlt⟩ := idx_at.1 hi
    rw [he] at he'; cases he'
    exact ⟨p, hp, look_is hs he hpe hlt⟩
  · rintro ⟨p, hp, hl⟩
    refine ⟨p, hp, ((idx_asOf h he (u := e.user)).1 ?_).2⟩
    have h1 := (lookE_iff hs).2 hl
    unfold lookE at h1
    split at h1
    · cases h1
    · have := ents_inj h h1 he
      omega
/-! #### lists in order with the same elements -/
theorem sorted_ext {α : Type} {R : α → α → Prop} (hir : ∀ a, ¬ R a a) (hasy : ∀ a b, R a b → ¬ R b a) : ∀ {l m : List α}, l.Pairwise R → m.Pairwise R → (∀ x, x ∈ l ↔ x ∈ m) → l = m
  | [], [], _, _, _ => rfl
  | [], b :: m, _, _, h => by have := (h b).2 (by simp); cases this
  | a :: l, [], _, _, h => by have := (h a).1 (by simp); cases this
  | a :: l, b :: m, hl, hm, h => by
    rw [List.pairwise_cons] at hl hm
    have hab : a = b := by
      rcases List.mem_cons.1 ((h a).1 (by simp)) with e | e
      · exact e
      · rcases List.mem_cons.1 ((h b).2 (by simp)) with e' | e'
        · exact e'.symm
        · exact absurd (hm.1 a e) (hasy _ _ (hl.1 b e'))
    subst hab
    congr 1
    refine sorted_ext hir hasy hl.2 hm.2 (fun x => ⟨fun hx => ?_, fun hx => ?_⟩)
    · rcases List.mem_cons.1 ((h x).1 (List.mem_cons_of_mem _ hx)) with e | e
      · subst e; exact absurd (hl.1 x hx) (hir x)
      · exact e
    · rcases List.mem_cons.1 ((h x).2 (List.mem_cons_of_mem _ hx)) with e | e
      · subst e; exact absurd (hm.1 x hx) (hir x)
      · exact e
/-! #### what is visible -/
def visOne (l : List Ent) (p : Int) (u : ByteArray) : List Pr := if getC1 (lookE l u p) = 1 then [⟨u, getC2 (lookE l u p)⟩] else []
def visN (l : List Ent) (p : Int) (us : List ByteArray) : List Pr := us.flatMap (visOne l p)
def visF (l : List Ent) (p : Int) : List Pr := visN l p (usersF l)
theorem visN_yes {l : List Ent} {p : Int} {us : List ByteArray} {i : Nat} {u : ByteArray} (h : us[i]? = some u) (hg : getC1 (lookE l u p) = 1) : visN l p (us.take (i + 1)) = visN l p (us.take i) ++ [⟨u, getC2 (lookE l u p)⟩] := by
  simp [visN, List.take_add_one, h, visOne, hg]
theorem visN_no {l : List Ent} {p : Int} {us : List ByteArray} {i : Nat} {u : ByteArray} (h : us[i]? = some u) (hg : ¬ getC1 (lookE l u p) = 1) : visN l p (us.take (i + 1)) = visN l p (us.take i) := by
  simp [visN, List.take_add_one, h, visOne, hg]
theorem visN_len (l : List Ent) (p : Int) : ∀ us : List ByteArray, (visN l p us).length ≤ us.length
  | [] => Nat.le_refl _
  | u :: us => by
    have := visN_len l p us
    simp only [visN, List.flatMap_cons, List.length_append, List.length_cons] at this ⊢
    have h1 : (visOne l p u).length ≤ 1 := by unfold visOne; split <;> simp
    omega
theorem visN_mem {l : List Ent} {p : Int} {us : List ByteArray} {x : Pr} : x ∈ visN l p us ↔ x.user ∈ us ∧ ∃ e, lookE l x.user p = some e ∧ e.kind ≠ 0 ∧ e.value = x.value := by
  simp only [visN, List.mem_flatMap, visOne]
  constructor
  · rintro ⟨u, hu, hx⟩
    split at hx
    · rename_i hg
      rw [List.mem_singleton] at hx
      subst hx
      refine ⟨hu, ?_⟩
      simp only
      cases ho : lookE l u p with
      | none => rw [ho] at hg; simp [getC1] at hg
      | some e =>
        rw [ho] at hg
        have hk : ¬ e.kind = 0 := fun h => by simp [getC1, h] at hg
        exact ⟨e, rfl, hk, by simp [getC2, hk]⟩
    · cases hx
  · rintro ⟨hu, e, ho, hk, hv⟩
    refine ⟨x.user, hu, ?_⟩
    rw [ho, if_pos (by simp [getC1, hk])]
    simp [getC2, hk, hv]
theorem compactN_sorted {l : List ByteArray} (h : ∀ (i j : Nat) x y, i < j → l[i]? = some x → l[j]? = some y → ltB x y = true ∨ x = y) : ∀ n, (compactN l n).Pairwise (fun x y => ltB x y = true)
  | 0 => .nil
  | n + 1 => by
    have ih := compactN_sorted h n
    rw [compactN]
    cases hy : l[n]? with
    | none => exact ih
    | some y =>
      simp only
      split
      · exact ih
      · rename_i hd
        rw [List.pairwise_append]
        refine ⟨ih, List.pairwise_singleton _ _, fun a ha b hb => ?_⟩
        rw [List.mem_singleton] at hb
        subst hb
        obtain ⟨j, hj, hja⟩ := compactN_mem.1 ha
        rcases h j n a b hj hja hy with h1 | h1
        · exact h1
        · exfalso
          subst h1
          refine hd ⟨by omega, ?_⟩
          by_cases hjn : j = n - 1
          · rw [← hjn]; exact hja
          · obtain ⟨z, hz⟩ : ∃ z, l[n - 1]? = some z := ⟨_, List.getElem?_eq_getElem (by have := (List.getElem?_eq_some_iff.1 hy).1; omega)⟩
            rw [hz]
            rcases h j (n - 1) a z (by omega) hja hz with h2 | h2
            · rcases h (n - 1) n z a (by omega) hz hy with h3 | h3
              · rw [ltB_asymm h2] at h3; cases h3
              · rw [h3]
            · rw [h2]
theorem users_sorted {l : List Ent} (hl : Strict l) : (usersF l).Pairwise (fun x y => ltB x y = true) := by
  refine compactN_sorted (fun i j x y hij hx hy => ?_) _
  rw [List.getElem?_map] at hx hy
  cases hi : l[i]? with
  | none => rw [hi] at hx; cases hx
  | some a =>
    cases hj : l[j]? with
    | none => rw [hj] at hy; cases hy
    | some b =>
      rw [hi] at hx; rw [hj] at hy
      cases hx; cases hy
      rcases hl i j a b hij hi hj with h | ⟨h, _⟩
      · exact .inl h
      · exact .inr h
theorem visN_sorted {l : List Ent} {p : Int} : ∀ {us : List ByteArray}, us.Pairwise (fun x y => ltB x y = true) → (visN l p us).Pairwise (fun x y => ltB x.user y.user = true)
  | [], _ => .nil
  | u :: us, h => by
    rw [List.pairwise_cons] at h
    have ih := visN_sorted (l := l) (p := p) h.2
    show (visOne l p u ++ visN l p us).Pairwise _
    rw [List.pairwise_append]
    refine ⟨?_, ih, fun a ha b hb => ?_⟩
    · unfold visOne; split
      · exact List.pairwise_singleton _ _
      · exact .nil
    · have hb := (visN_mem.1 hb).1
      unfold visOne at ha
      split at ha
      · rw [List.mem_singleton] at ha; subst ha; exact h.1 _ hb
      · cases ha
theorem user_mem {l : List Ent} {u : ByteArray} : u ∈ usersF l ↔ ∃ e ∈ l, e.user = u := by
  rw [usersF, compact_mem, List.mem_map]
theorem vis_mem {l : List Ent} (hl : Strict l) {p : Int} {x : Pr} : x ∈ visF l p ↔ ∃ e, IsLook l x.user p e ∧ e.kind ≠ 0 ∧ e.value = x.value := by
  rw [visF, visN_mem]
  constructor
  · rintro ⟨_, e, h1, h2, h3⟩; exact ⟨e, (lookE_iff hl).1 h1, h2, h3⟩
  · rintro ⟨e, h1, h2, h3⟩
    refine ⟨user_mem.2 ⟨e, h1.1, ?_⟩, e, (lookE_iff hl).2 h1, h2, h3⟩
    have := h1.2.1
    simp only [asOf, Bool.and_eq_true, decide_eq_true_eq] at this
    exact this.1
theorem vis_eq {l a : List Ent} (hl : Strict l) (ha : Strict a) {p : Int} (h : ∀ u e, e.kind ≠ 0 → (IsLook l u p e ↔ IsLook a u p e)) : visF a p = visF l p := by
  refine sorted_ext (R := fun x y : Pr => ltB x.user y.user = true) (fun x h => by rw [ltB_irr] at h; cases h) (fun x y h k => by rw [ltB_asymm h] at k; cases k) (visN_sorted (users_sorted ha)) (visN_sorted (users_sorted hl)) (fun x => ?_)
  show x ∈ visF a p ↔ x ∈ visF l p
  rw [vis_mem ha, vis_mem hl]
  constructor
  · rintro ⟨e, h1, h2, h3⟩; exact ⟨e, (h _ _ h2).2 h1, h2, h3⟩
  · rintro ⟨e, h1, h2, h3⟩; exact ⟨e, (h _ _ h2).1 h1, h2, h3⟩
/-! #### the compacted row -/
section
variable {l : List Ent} {b : Bool} {zs : List Int}
theorem compU_strict (hl : entsOk l = true) (hs : zs.Pairwise (· < ·)) (hz : ∀ z ∈ zs, ∃ q : Nat, z = (q : Int) ∧ q < l.length) : ∀ k, k ≤ zs.length → (compU l b zs k).Pairwise LessE
  | 0, _ => .nil
  | k + 1, hk => by
    have ih := compU_strict hl hs hz k (by omega)
    obtain ⟨z, hzz⟩ : ∃ z, zs[zs.length - 1 - k]? = some z := ⟨_, List.getElem?_eq_getElem (by omega)⟩
    obtain ⟨q, rfl, hq⟩ := hz z (List.mem_of_getElem? hzz)
    obtain ⟨e, he⟩ : ∃ e, l[q]? = some e := ⟨_, List.getElem?_eq_getElem hq⟩
    rw [compU_succ (l := l) (bot := b) (i := zs.length - 1 - k) (k := k) (by omega) hzz (e := e) (by simpa using he)]
    rcases cstep_cases b (compU l b zs k) e with hc | ⟨hc, _⟩
    · rw [hc, List.pairwise_cons]
      refine ⟨fun x hx => ?_, ih⟩
      obtain ⟨j, q', h1, h2, h3⟩ := compU_mem hz (by omega) hx
      have := sorted_get hs (show zs.length - 1 - k < j by omega) hzz h2
      exact ents_lt hl (by omega) he h3
    · rw [hc]; exact ih
theorem strict_of {a : List Ent} (h : a.Pairwise LessE) : Strict a := fun i j x e hij hx he => by
  obtain ⟨h1, rfl⟩ := List.getElem?_eq_some_iff.1 hx
  obtain ⟨h2, rfl⟩ := List.getElem?_eq_some_iff.1 he
  exact (List.pairwise_iff_getElem.1 h) i j h1 h2 hij
theorem older_of {out : List Ent} {e : Ent} (ho : out.Pairwise LessE) (he : ∀ x ∈ out, LessE e x) (h : older out e = false) : ∀ x ∈ out, x.user ≠ e.user := by
  cases out with
  | nil => intro x hx; cases hx
  | cons o out =>
    intro x hx hxu
    have h1 : o.user ≠ e.user := of_decide_eq_false h
    rw [List.pairwise_cons] at ho
    rcases List.mem_cons.1 hx with rfl | hx
    · exact h1 hxu
    · have h2 := ho.1 x hx
      have h3 := he o (by simp)
      rcases h3 with h3 | ⟨h3, _⟩
      · rcases h2 with h2 | ⟨h2, _⟩
        · have := ltB_trans h3 h2; rw [hxu, ltB_irr] at this; cases this
        · rw [h2, hxu, ltB_irr] at h3; cases h3
      · exact h1 h3.symm
/-- What is needed is there, or it was a deletion at the bottom that nothing of its user stands behind. -/
theorem compU_lost (hl : entsOk l = true) (hs : zs.Pairwise (· < ·)) (hz : ∀ z ∈ zs, ∃ q : Nat, z = (q : Int) ∧ q < l.length) : ∀ k, k ≤ zs.length → ∀ (j q : Nat) e, zs.length - k ≤ j → zs[j]? = some (q : Int) → l[q]? = some e → e ∈ compU l b zs k ∨ (e.kind = 0 ∧ ∀ x ∈ compU l b zs k, LessE e x → x.user ≠ e.user)
  | 0, _, j, q, e, hj, hzj, _ => by have := (List.getElem?_eq_some_iff.1 hzj).1; omega
  | k + 1, hk, j, q, e, hj, hzj, hqe => by
    have ih := compU_lost hl hs hz k (by omega)
    obtain ⟨z, hzz⟩ : ∃ z, zs[zs.length - 1 - k]? = some z := ⟨_, List.getElem?_eq_getElem (by omega)⟩
    obtain ⟨q0, rfl, hq⟩ := hz z (List.mem_of_getElem? hzz)
    obtain ⟨e0, he0⟩ : ∃ e, l[q0]? = some e := ⟨_, List.getElem?_eq_getElem hq⟩
    have hst := compU_strict (b := b) hl hs hz k (by omega)
    have hlt : ∀ x ∈ compU l b zs k, LessE e0 x := fun x hx => by
      obtain ⟨j', q', h1, h2, h3⟩ := compU_mem hz (by omega) hx
      have := sorted_get hs (show zs.length - 1 - k < j' by omega) hzz h2
      exact ents_lt hl (by omega) he0 h3
    rw [compU_succ (l := l) (bot := b) (i := zs.length - 1 - k) (k := k) (by omega) hzz (e := e0) (by simpa using he0)]
    have sub : ∀ x ∈ cstep b (compU l b zs k) e0, x = e0 ∨ x ∈ compU l b zs k := fun x hx => by
      rcases cstep_cases b (compU l b zs k) e0 with hc | ⟨hc, _⟩
      · rw [hc] at hx; exact List.mem_cons.1 hx
      · rw [hc] at hx; exact .inr hx
    by_cases hjk : j = zs.length - 1 - k
    · subst hjk
      rw [hzz] at hzj
      simp only [Option.some.injEq, Int.ofNat_inj] at hzj
      subst hzj
      rw [he0] at hqe; cases hqe
      rcases cstep_cases b (compU l b zs k) e with hc | ⟨hc, _, h3, h4⟩
      · rw [hc]; exact .inl (by simp)
      · rw [hc]; exact .inr ⟨h3, fun x hx _ => older_of hst hlt h4 x hx⟩
    · rcases ih j q e (by omega) hzj hqe with h | ⟨h1, h2⟩
      · left
        rcases cstep_cases b (compU l b zs k) e0 with hc | ⟨hc, _⟩
        · rw [hc]; exact List.mem_cons_of_mem _ h
        · rw [hc]; exact h
      · refine .inr ⟨h1, fun x hx hex => ?_⟩
        rcases sub x hx with hxe | hx
        · rw [hxe] at hex
          have := sorted_get hs (show zs.length - 1 - k < j by have := (List.getElem?_eq_some_iff.1 hzj).1; omega) hzz hzj
          exact ((ents_lt hl (by omega) he0 hqe).trans hex).irrefl.elim
        · exact h2 x hx hex
/-- Each entry stays when it is asked again. -/
theorem compU_kept (hz : ∀ z ∈ zs, ∃ q : Nat, z = (q : Int) ∧ q < l.length) : ∀ k, k ≤ zs.length → ∀ (i : Nat) e, (compU l b zs k)[i]? = some e → cstep b ((compU l b zs k).drop (i + 1)) e = e :: (compU l b zs k).drop (i + 1)
  | 0, _, i, e, h => by simp [compU, Go.Proofs.Bw.upto, compP] at h
  | k + 1, hk, i, e, h => by
    have ih := compU_kept hz k (by omega)
    obtain ⟨z, hzz⟩ : ∃ z, zs[zs.length - 1 - k]? = some z := ⟨_, List.getElem?_eq_getElem (by omega)⟩
    obtain ⟨q0, rfl, hq⟩ := hz z (List.mem_of_getElem? hzz)
    obtain ⟨e0, he0⟩ : ∃ e, l[q0]? = some e := ⟨_, List.getElem?_eq_getElem hq⟩
    rw [compU_succ (l := l) (bot := b) (i := zs.length - 1 - k) (k := k) (by omega) hzz (e := e0) (by simpa using he0)] at h ⊢
    rcases cstep_cases b (compU l b zs k) e0 with hc | ⟨hc, _⟩
    · rw [hc] at h ⊢
      cases i with
      | zero =>
        simp only [List.getElem?_cons_zero, Option.some.injEq] at h
        subst h
        simpa using hc
      | succ i =>
        simp only [List.getElem?_cons_succ] at h
        simpa using ih i e h
    · rw [hc] at h ⊢
      exact ih i e h
end
theorem ents_of {a : List Ent} (h : a.Pairwise LessE) (hl : a.length ≤ 400) (he : ∀ e ∈ a, entOk e = true) : entsOk a = true := by
  simp only [entsOk, hl, decide_true, Bool.true_and]
  refine allIx_yes (Nat.le_refl _) (fun j e _ hj => ?_)
  simp only [okEnt, he e (List.mem_of_getElem? hj), Bool.true_and, Bool.or_eq_true, decide_eq_true_eq]
  by_cases h0 : j = 0
  · exact .inl h0
  · right
    split
    · rename_i x hx
      have := strict_of h (j - 1) j x e (by omega) hx hj
      exact decide_eq_true (by rw [cmpK_lt this]; decide)
    · rfl
theorem ents_mem {l : List Ent} (h : entsOk l = true) {e : Ent} (he : e ∈ l) : entOk e = true := by
  obtain ⟨i, hi⟩ := List.getElem?_of_mem he
  simp only [entsOk, Bool.and_eq_true] at h
  exact okEnt_ent (allIx_get h.2 hi)
theorem ents_max {l : List Ent} (h : entsOk l = true) : l.length ≤ 400 := by
  simp only [entsOk, Bool.and_eq_true, decide_eq_true_eq] at h
  exact h.1
theorem needF_mem {l : List Ent} {ps : List Int} {q : Nat} {e : Ent} (he : l[q]? = some e) (h : needP l ps q e = true) : ∀ {n}, q < n → (q : Int) ∈ needF l ps n
  | 0, h => absurd h (Nat.not_lt_zero _)
  | n + 1, hn => by
    rw [needF, List.mem_append]
    by_cases hq : q = n
    · subst hq
      rw [he]
      exact .inr (by simp [h])
    · exact .inl (needF_mem he h (by omega))
theorem needF_need {l : List Ent} {ps : List Int} {q : Nat} {e : Ent} (he : l[q]? = some e) : ∀ {n}, (q : Int) ∈ needF l ps n → needP l ps q e = true
  | 0, h => by simp [needF] at h
  | n + 1, h => by
    rw [needF, List.mem_append] at h
    rcases h with h | h
    · exact needF_need he h
    · cases hn : l[n]? with
      | none => rw [hn] at h; cases h
      | some e' =>
        rw [hn] at h
        simp only at h
        split at h
        · rename_i hp
          rw [List.mem_singleton] at h
          have : q = n := by omega
          subst this
          rw [he] at hn; cases hn
          exact hp
        · cases h
/-- The law. -/
theorem compacted_law {l : List Ent} {s : List Int} {b : Bool} (hl : entsOk l = true) (hs : snapsOk s = true) :
    (∀ p ∈ pointsF s, visF (compactedF l s b) p = visF l p) ∧ entsOk (compactedF l s b) = true ∧ compactedF (compactedF l s b) s b = compactedF l s b := by
  have hcd := compactedF_ok (b := b) hl hs
  generalize hzs : needF l (pointsF s) l.length = zs at hcd
  have hsd : zs.Pairwise (· < ·) := by rw [← hzs]; exact needF_sorted _ _ _
  have hzb : ∀ z ∈ zs, ∃ q : Nat, z = (q : Int) ∧ q < l.length := fun z hz => by
    rw [← hzs] at hz
    obtain ⟨k, h1, _, h3⟩ := needF_bnd (n := l.length) hz
    exact ⟨k, h1, h3⟩
  have hpw : (compactedF l s b).Pairwise LessE := by rw [hcd]; exact compU_strict hl hsd hzb _ (Nat.le_refl _)
  have hmem : ∀ x ∈ compactedF l s b, ∃ q : Nat, (q : Int) ∈ zs ∧ l[q]? = some x := fun x hx => by
    rw [hcd] at hx
    obtain ⟨j, q, _, h2, h3⟩ := compU_mem hzb (Nat.le_refl _) hx
    exact ⟨q, List.mem_of_getElem? h2, h3⟩
  have hsub : ∀ x ∈ compactedF l s b, x ∈ l := fun x hx => by
    obtain ⟨q, _, h⟩ := hmem x hx
    exact List.mem_of_getElem? h
  have hlost : ∀ (q : Nat) e, (q : Int) ∈ zs → l[q]? = some e → e ∈ compactedF l s b ∨ (e.kind = 0 ∧ ∀ x ∈ compactedF l s b, LessE e x → x.user ≠ e.user) := fun q e hq he => by
    obtain ⟨j, hj⟩ := List.getElem?_of_mem hq
    rw [hcd]
    exact compU_lost hl hsd hzb _ (Nat.le_refl _) j q e (by omega) hj he
  have hkept : ∀ (i : Nat) e, (compactedF l s b)[i]? = some e → cstep b ((compactedF l s b).drop (i + 1)) e = e :: (compactedF l s b).drop (i + 1) := by
    rw [hcd]; exact compU_kept hzb _ (Nat.le_refl _)
  have hlen := compactedF_len l s b
  generalize compactedF l s b = a at hpw hmem hsub hlost hkept hlen ⊢
  have hsl := ents_strict hl
  have hsa := strict_of hpw
  have look_down : ∀ {u p e}, e ∈ a → IsLook l u p e → IsLook a u p e := fun ha h => ⟨ha, h.2.1, fun x hx hp => h.2.2 x (hsub x hx) hp⟩
  have hoka : entsOk a = true := ents_of hpw (Nat.le_trans hlen (ents_max hl)) (fun e he => ents_mem hl (hsub e he))
  have needed : ∀ {u p e}, p ∈ pointsF s → IsLook l u p e → ∃ q : Nat, (q : Int) ∈ zs ∧ l[q]? = some e := fun {u p e} hp h => by
    obtain ⟨q, hq⟩ := List.getElem?_of_mem h.1
    refine ⟨q, ?_, hq⟩
    have hu : e.user = u := by
      have := h.2.1
      simp only [asOf, Bool.and_eq_true, decide_eq_true_eq] at this
      exact this.1
    subst hu
    rw [← hzs]
    exact needF_mem hq ((need_look hl hq).2 ⟨p, hp, h⟩) (List.getElem?_eq_some_iff.1 hq).1
  refine ⟨fun p hp => vis_eq hsl hsa (fun u e hk => ⟨fun h => ?_, fun h => ?_⟩), hoka, ?_⟩
  · obtain ⟨q, h1, h2⟩ := needed hp h
    rcases hlost q e h1 h2 with h3 | h3
    · exact look_down h3 h
    · exact absurd h3.1 hk
  · obtain ⟨e', he'⟩ := look_ex hsl (hsub e h.1) h.2.1
    rcases he'.2.2 e (hsub e h.1) h.2.1 with h1 | h1
    · rw [h1]; exact he'
    · exfalso
      obtain ⟨q, h2, h3⟩ := needed hp he'
      rcases hlost q e' h2 h3 with h4 | ⟨_, h4⟩
      · rcases h.2.2 e' h4 he'.2.1 with h5 | h5
        · subst h5; exact h1.irrefl
        · exact (h1.trans h5).irrefl
      · refine h4 e h.1 h1 ?_
        have h5 := h.2.1
        have h6 := he'.2.1
        simp only [asOf, Bool.and_eq_true, decide_eq_true_eq] at h5 h6
        rw [h5.1, h6.1]
  · -- asked again
    have hall : ∀ (i : Nat) e, a[i]? = some e → needP a (pointsF s) i e = true := fun i e hi => by
      obtain ⟨q, h1, h2⟩ := hmem e (List.mem_of_getElem? hi)
      rw [← hzs] at h1
      obtain ⟨p, hp, h3⟩ := (need_look hl h2).1 (needF_need h2 h1)
      exact (need_look hoka hi).2 ⟨p, hp, look_down (List.mem_of_getElem? hi) h3⟩
    have hneed : ∀ n, n ≤ a.length → needF a (pointsF s) n = (List.range n).map (fun i : Nat => (i : Int)) := by
      intro n
      induction n with
      | zero => intro _; rfl
      | succ n ih =>
        intro hn
        obtain ⟨e, he⟩ : ∃ e, a[n]? = some e := ⟨_, List.getElem?_eq_getElem (by omega)⟩
        rw [need_yes he (hall n e he), ih (by omega), List.range_succ, List.map_append]
        rfl
    rw [compactedF_ok hoka hs, hneed a.length (Nat.le_refl _)]
    have hzl : ((List.range a.length).map (fun i : Nat => (i : Int))).length = a.length := by simp
    generalize hws : (List.range a.length).map (fun i : Nat => (i : Int)) = ws at hzl ⊢
    rw [hzl]
    have hget : ∀ i, i < a.length → ws[i]? = some (i : Int) := fun i hi => by rw [← hws]; simp [hi]
    have hk : ∀ k, k ≤ a.length → compU a b ws k = a.drop (a.length - k) := by
      intro k
      induction k with
      | zero => intro _; rw [Nat.sub_zero, List.drop_length]; rfl
      | succ k ih =>
        intro hk
        obtain ⟨e, he⟩ : ∃ e, a[a.length - (k + 1)]? = some e := ⟨_, List.getElem?_eq_getElem (by omega)⟩
        rw [compU_succ (i := a.length - (k + 1)) (by omega) (hget _ (by omega)) (e := e) (by simpa using he), ih (by omega)]
        have h1 := hkept _ e he
        rw [show a.length - (k + 1) + 1 = a.length - k by omega] at h1
        rw [h1, List.drop_eq_getElem_cons (show a.length - (k + 1) < a.length by omega), (List.getElem?_eq_some_iff.1 he).2, show a.length - (k + 1) + 1 = a.length - k by omega]
    rw [hk a.length (Nat.le_refl _), Nat.sub_self, List.drop_zero]
end Go.Rl
namespace Go.Rl
open Go.Proofs
theorem inf85 : (Try.prog.info? 85).map (fun i => (i.zero, i.size, i.bytes)) = some (some (.agg #[.string ⟨#[]⟩, .string ⟨#[]⟩]), 2, 32) := by kernel_rfl
theorem en111 : ∀ vs w, (callFunc 111 vs).run Try.prog w = .ok (.enter 111 vs) w := enters Try.func111 (by decide) rfl
theorem en86 : ∀ vs w, (callFunc 86 vs).run Try.prog w = .ok (.enter 86 vs) w := enters Try.func86 (by decide) rfl
theorem en35 : ∀ vs w, (callFunc 35 vs).run Try.prog w = .ok (.enter 35 vs) w := enters Try.func35 (by decide) rfl
theorem en37 : ∀ vs w, (callFunc 37 vs).run Try.prog w = .ok (.enter 37 vs) w := enters Try.func37 (by decide) rfl
theorem en36 : ∀ vs w, (callFunc 36 vs).run Try.prog w = .ok (.enter 36 vs) w := enters Try.func36 (by decide) rfl
set_option maxRecDepth 100000 in
theorem pr_eqIn (a b : Pr) (w : World) : (Op.equalIn 10000 85 (.agg ⟨[.string a.user, .string a.value]⟩) (.agg ⟨[.string b.user, .string b.value]⟩)).run Try.prog w = .ok (decide (a = b)) w := by
  rw [show (10000 : Nat) = 9999 + 1 from rfl, run_equalIn_agg w 9999 85 _ _ Try.underlying85 (by kernel_rfl)]
  rw [show (Try.prog.fieldsOf 85).toList = [⟨"User", 9, 0, false, "", "", 0⟩, ⟨"Value", 9, 1, false, "", "", 16⟩] from rfl]
  rw [show (9999 : Nat) = 9998 + 1 from rfl]
  have hb : ∀ x y : ByteArray, x.toList = y.toList ↔ x = y := fun x y => ⟨toList_inj, fun h => by rw [h]⟩
  simp [Op.eqFields, part, Try.isAgg9, Try.sizeOf9, run_equalIn_string (h := Try.underlying9), hb]
  cases a; cases b
  simp only [Pr.mk.injEq]
  split
  · split <;> simp_all
  · simp_all
theorem st_pickT {γ : Gho} {P : Program} {n : Nat} {o : Oper} {M B : List Nat} {s : St} {c x y : Operand} (ho : o.op = .pick c x y) {d : Option Nat} (hc : s.ev c = .p d (.v (.bool true))) : StepD γ P n o M B s { put := s.ev x } := st_pick ho hc
theorem st_pickF {γ : Gho} {P : Program} {n : Nat} {o : Oper} {M B : List Nat} {s : St} {c x y : Operand} (ho : o.op = .pick c x y) {d : Option Nat} (hc : s.ev c = .p d (.v (.bool false))) : StepD γ P n o M B s { put := s.ev y } := st_pick ho hc
set_option maxRecDepth 1000000 in
set_option maxHeartbeats 2000000 in
theorem get_con (l : List Ent) (u : ByteArray) (p : Int) (hl : l.length ≤ 2000000) : Con Try.prog 111 [.one (PV.sl false 4 (pvE l)), .one (PV.v (.string u)), .one (PV.v (.int .i64 p))] [] [.one (.v (.int .i64 (getC1 (lookE l u p)))), .one (.v (.string (getC2 (lookE l u p))))] := by
  refine con_of_tr Try.func111 rfl rfl rfl rfl ?_
  have hle := pvE_length l
  refine tr_seq ?_
  refine tr_region rfl (.run [] [] rfl (st_assign rfl) (.run [] [] rfl (st_assign rfl) .nil)) ?_
  refine tr_seq ?_
  refine tr_region rfl (.run [] [] rfl (st_move rfl) (.run [] [] rfl (st_move rfl) (.run [] [] rfl (st_move rfl) (.run [1200] [] rfl (st_call rfl 1200 (X := []) en137 rfl (.val nod) (.cons (.one (.bor (.sl nod))) (.cons (.one (.bor .v)) (.cons (.one (.bor .v)) .nil))) (by decide) all_nil .nil (looked_con l u p (by omega)) rfl rfl (nle rfl)) (.run [] [] rfl (st_assign rfl) .nil))))) ?_
  refine tr_seq ?_
  refine tr_block ?_
  refine tr_seq ?_
  refine tr_region rfl (.run [] [] rfl (st_move rfl) (.run [] [] rfl (st_lss rfl rfl rfl) (.run [] [] rfl (st_assign rfl) .nil))) ?_
  refine tr_if (t := decide ((idxF (asOf u p) l) < 0)) rfl (fun h1 => ?_) (fun h1 => ?_)
  · skip
    replace h1 := of_decide_eq_true h1
    refine tr_seq ?_
    refine tr_region rfl (.run [] [] rfl (st_assign rfl) (.run [] [] rfl (st_assign rfl) .nil)) ?_
    refine tr_ret ?_
    exact ends [_, _] [] (.cons (.tmp (int_eq (by rw [look_none h1]; rfl))) (.cons (.tmp (str_eq (by rw [look_none h1]; rfl))) .nil)) (.cons (.one .v (.v _)) (.cons (.one .v (.v _)) .nil)) (by decide) trivial
  · skip
    replace h1 := of_decide_eq_false h1
    refine tr_seq ?_
    have hib := idx_bnd (p := asOf u p) (l := l) (by omega)
    obtain ⟨e, he⟩ : ∃ e, l[(idxF (asOf u p) l).toNat]? = some e := ⟨_, List.getElem?_eq_getElem hib⟩
    have hlk : lookE l u p = some e := look_some (by omega) he
    refine tr_wk (s' := mk [(0, .p none (.sl false 4 (pvE l))), (8, .p none (.v (.int .i64 (idxF (asOf u p) l))))] [] []) ?_ ?_
    · exact wk_mk ⟨rfl, ⟨rfl, trivial⟩⟩ trivial trivial rfl
    refine tr_region rfl (.run [] [] rfl (st_move rfl) (.run [] [] rfl (st_move rfl) (.run [] [] rfl (st_idx_fro rfl rfl rfl Try.underlying26 Try.sizeOf44 rfl (by omega) (pvE_get he)) (.run [] [] rfl (st_faddr_fea rfl rfl Try.underlying44 rfl Try.sizeOf42 (by decide)) (.run [] [] rfl (st_faddr_fea rfl rfl Try.underlying42 rfl Try.sizeOf2 (by decide)) (.run [] [] rfl (st_load_fea1 rfl rfl Try.isAgg2 rfl) (.run [] [] rfl (st_eql rfl rfl rfl) (.run [] [] rfl (st_assign rfl) .nil)))))))) ?_
    refine tr_if (t := decide (e.kind = 0)) rfl (fun h2 => ?_) (fun h2 => ?_)
    · skip
      replace h2 := of_decide_eq_true h2
      refine tr_seq ?_
      refine tr_region rfl (.run [] [] rfl (st_assign rfl) (.run [] [] rfl (st_assign rfl) .nil)) ?_
      refine tr_ret ?_
      exact ends [_, _] [] (.cons (.tmp (int_eq (by rw [hlk]; exact (if_pos h2).symm))) (.cons (.tmp (str_eq (by rw [hlk]; exact (if_pos h2).symm))) .nil)) (.cons (.one .v (.v _)) (.cons (.one .v (.v _)) .nil)) (by decide) trivial
    · skip
      replace h2 := of_decide_eq_false h2
      refine tr_skip ?_
      refine tr_seq ?_
      refine tr_regionD mixed rfl (.run [] [] rfl (st_move rfl) (.run [] [] rfl (st_move rfl) (.run [] [] rfl (st_idx_fro rfl rfl rfl Try.underlying26 Try.sizeOf44 rfl (by omega) (pvE_get he)) (.run [] [] rfl (st_faddr_fea rfl rfl Try.underlying44 rfl Try.sizeOf9 (by decide)) (.run [] [] rfl (st_load_fea1 rfl rfl Try.isAgg9 rfl) (.run [] [] rfl (st_assign rfl) (.run [] [] rfl (st_assign rfl) .nil))))))) (by kernel_rfl) ?_
      refine tr_ret ?_
      exact ends [_, _] [] (.cons (.tmp (int_eq (by rw [hlk]; exact (if_neg h2).symm))) (.cons (.tmp (str_eq (by rw [hlk]; exact (if_neg h2).symm))) .nil)) (.cons (.one .v (.v _)) (.cons (.one .v (.v _)) .nil)) (by decide) trivial
set_option maxRecDepth 1000000 in
set_option maxHeartbeats 2000000 in
theorem visible_con (l : List Ent) (p : Int) (hl : l.length ≤ 2000000) : Con Try.prog 86 [.one (PV.sl false 4 (pvE l)), .one (PV.v (.int .i64 p))] [] [.one (.sl true 2 (pvP (visF l p)))] := by
  refine con_of_tr Try.func86 rfl rfl rfl rfl ?_
  have hle := pvE_length l
  have hul := users_len l
  have hlu := pvT_length (usersF l)
  refine tr_seq ?_
  refine tr_region rfl (.run [] [] rfl (st_assign rfl) .nil) ?_
  refine tr_seq ?_
  refine tr_region rfl (.run [1000] [] rfl (st_buildSlice rfl 1000 Try.underlying47 inf85 (nle rfl) (by decide) rfl rfl rfl .nil (by decide) rfl (by decide) rfl (by decide) rfl) (.run [] [] rfl (st_assign rfl) .nil)) ?_
  refine tr_seq ?_
  refine tr_seq ?_
  refine tr_region rfl (.run [] [] rfl (st_move rfl) (.run [1200] [] rfl (st_call rfl 1200 (X := []) en135 rfl (.val nod) (.cons (.one (.bor (.sl nod))) .nil) (by decide) all_nil .nil (users_con l (by omega)) rfl rfl (nle rfl)) (.run [] [] rfl (st_len_row rfl rfl Try.underlying147) (.run [] [] rfl (st_move rfl) .nil)))) ?_
  refine tr_block ?_
  refine tr_wk (wk_ren 1000 1 rfl rfl (by decide)) ?_
  refine tr_loopS (σ := Nat) (fun i => mk [(0, .p none (.sl false 4 (pvE l))), (1, .p none (.v (.int .i64 p))), (5, .sl 1 0 ((pvP (visN l p ((usersF l).take i))).length)), (12, .sl 1200 0 ((pvT (usersF l)).length)), (13, .p none (.v (.int .i64 ((pvT (usersF l)).length : Int)))), (14, .p none (.v (.int .i64 (i:Int))))] [] [(1, 2, pvP (visN l p ((usersF l).take i))), (1200, 1, pvT (usersF l))]) (fun i => i ≤ (usersF l).length) (fun i => (usersF l).length - i) 0 (by simp) (wk_mk ⟨rfl, ⟨rfl, ⟨rfl, ⟨rfl, ⟨rfl, ⟨(int_eq (by omega)), trivial⟩⟩⟩⟩⟩⟩ trivial ⟨(congrArg (fun x => some (2, x)) (by rfl)), ⟨rfl, trivial⟩⟩ rfl) ?_
  rintro i hG
  replace hG : i ≤ (usersF l).length := hG
  have hvn := visN_len l p ((usersF l).take i)
  have hlv := pvP_length (visN l p ((usersF l).take i))
  rw [List.length_take] at hvn
  refine tr_seq ?_
  refine tr_region rfl (.run [] [] rfl (st_lss rfl rfl rfl) .nil) ?_
  refine tr_seq ?_
  refine tr_if (t := decide ((i:Int) < ((pvT (usersF l)).length : Int))) rfl (fun h1 => ?_) (fun h1 => ?_)
  · skip
    replace h1 := of_decide_eq_true h1
    refine tr_skip ?_
    refine tr_seq ?_
    refine tr_block ?_
    refine tr_seq ?_
    obtain ⟨e, he⟩ : ∃ e, (usersF l)[i]? = some e := ⟨_, List.getElem?_eq_getElem (by (have hL := pvT_length (usersF l); omega))⟩
    have hlte := (List.getElem?_eq_some_iff.1 he).1
    refine tr_region rfl (.run [] [] rfl (st_idx_row0 i rfl rfl rfl rfl Try.underlying147 Try.sizeOf9 rfl rfl (by omega)) (.run [] [] rfl (st_load_ea1 rfl rfl rfl (pvT_get he) Try.isAgg9 rfl) (.run [] [] rfl (st_assign rfl) .nil))) ?_
    refine tr_seq ?_
    refine tr_region rfl (.run [] [] rfl (st_move rfl) (.run [] [] rfl (st_move rfl) (.run [] [] rfl (st_move rfl) (.run [2200, 2201] [] rfl (st_call rfl 2200 (X := []) en111 rfl (.val nod) (.cons (.one (.bor (.sl nod))) (.cons (.one (.bor .v)) (.cons (.one (.bor .v)) .nil))) (by decide) all_nil .nil (get_con l e p (by omega)) rfl rfl (nle rfl)) (.run [] [] rfl (st_move rfl) (.run [] [] rfl (st_extract rfl rfl rfl) (.run [] [] rfl (st_extract rfl rfl rfl) (.run [] [] rfl (st_assign rfl) (.run [] [] rfl (st_assign rfl) .nil))))))))) ?_
    refine tr_seq ?_
    refine tr_region rfl (.run [] [] rfl (st_move rfl) (.run [] [] rfl (st_eql rfl rfl rfl) .nil)) ?_
    refine tr_if (t := decide ((getC1 (lookE l e p)) = 1)) rfl (fun h2 => ?_) (fun h2 => ?_)
    · skip
      replace h2 := of_decide_eq_true h2
      refine tr_wk (s' := mk [(0, .p none (.sl false 4 (pvE l))), (1, .p none (.v (.int .i64 p))), (5, .sl 1 0 ((pvP (visN l p ((usersF l).take i))).length)), (7, .p none (.v (.string e))), (9, .p none (.v (.string (getC2 (lookE l e p))))), (12, .sl 1200 0 ((pvT (usersF l)).length)), (13, .p none (.v (.int .i64 ((pvT (usersF l)).length : Int)))), (14, .p none (.v (.int .i64 (i:Int))))] [] [(1, 2, pvP (visN l p ((usersF l).take i))), (1200, 1, pvT (usersF l))]) ?_ ?_
      · exact wk_mk ⟨rfl, ⟨rfl, ⟨rfl, ⟨rfl, ⟨rfl, ⟨rfl, ⟨rfl, ⟨rfl, trivial⟩⟩⟩⟩⟩⟩⟩⟩ trivial ⟨rfl, ⟨rfl, trivial⟩⟩ rfl
      refine tr_region rfl (.run [] [] rfl (st_move rfl) (.run [] [] rfl (st_move rfl) (.run [] [] rfl (st_move rfl) (.run [] [] rfl (st_build (pl := [(0, 1), (1, 1)]) rfl Try.underlying85 inf85 (by kernel_rfl) rfl rfl) (.run [3100] [] rfl (st_buildSlice rfl 3100 Try.underlying47 inf85 (nle rfl) (by decide) rfl rfl rfl (.cons .v (.cons .v .nil)) (by decide) rfl (by decide) rfl (by decide) rfl) (.run [1] [] rfl (st_append rfl 1 (ib := 1) (len := ((pvP (visN l p ((usersF l).take i))) ++ [[PV.v (.string e), PV.v (.string (getC2 (lookE l e p)))]]).length) rfl rfl (.row (len := (pvP (visN l p ((usersF l).take i))).length) (xs := pvP (visN l p ((usersF l).take i))) rfl rfl (.inl rfl)) (.give (len := 1) (xs := [[PV.v (.string e), PV.v (.string (getC2 (lookE l e p)))]]) rfl rfl) Try.underlying47 (sk Try.underlying47 rfl) inf85 rfl (by decide) (by decide) (by decide) List.length_append (by simp only [maxLen, List.length_append, List.length_map, List.length_cons, List.length_nil, List.length_take, List.length_drop, pvE_length, pvI_length, pvT_length, pvU_length, pvP_length]; omega) (by simp only [maxLen, List.length_append, List.length_map, List.length_cons, List.length_nil, List.length_take, List.length_drop, pvE_length, pvI_length, pvT_length, pvU_length, pvP_length]; omega)) (.run [] [] rfl (st_assign rfl) .nil))))))) ?_
      have hr3 : (pvP (visN l p ((usersF l).take i))) ++ [[PV.v (.string e), PV.v (.string (getC2 (lookE l e p)))]] = pvP (visN l p ((usersF l).take (i + 1))) := by rw [visN_yes he h2]; exact pvP_snoc _ ⟨_, _⟩
      have hp4 : (.sl 1 0 (((pvP (visN l p ((usersF l).take i))) ++ [[PV.v (.string e), PV.v (.string (getC2 (lookE l e p)))]]).length) : AV) = .sl 1 0 ((pvP (visN l p ((usersF l).take (i + 1)))).length) := by simp only [hr3]
      refine tr_wk (s' := mk [(0, .p none (.sl false 4 (pvE l))), (1, .p none (.v (.int .i64 p))), (5, .sl 1 0 ((pvP (visN l p ((usersF l).take (i + 1)))).length)), (12, .sl 1200 0 ((pvT (usersF l)).length)), (13, .p none (.v (.int .i64 ((pvT (usersF l)).length : Int)))), (14, .p none (.v (.int .i64 (i:Int))))] [] [(1, 2, pvP (visN l p ((usersF l).take (i + 1)))), (1200, 1, pvT (usersF l))]) ?_ ?_
      · exact wk_mk ⟨rfl, ⟨rfl, ⟨hp4, ⟨rfl, ⟨rfl, ⟨rfl, trivial⟩⟩⟩⟩⟩⟩ trivial ⟨(congrArg (fun x => some (2, x)) hr3), ⟨rfl, trivial⟩⟩ rfl
      refine tr_region rfl (.run [] [] rfl (st_addn rfl rfl rfl (by omega)) (.run [] [] rfl (st_move rfl) .nil)) ?_
      refine nxt (Q := fun _ _ => False) (z := i) (i + 1) ?_ ?_ ?_
      · show (i + 1) ≤ (usersF l).length
        omega
      · show (usersF l).length - (i + 1) < (usersF l).length - i
        omega
      · exact wk_mk ⟨rfl, ⟨rfl, ⟨rfl, ⟨rfl, ⟨rfl, ⟨(int_eq (by omega)), trivial⟩⟩⟩⟩⟩⟩ trivial ⟨rfl, ⟨rfl, trivial⟩⟩ rfl
    · skip
      replace h2 := of_decide_eq_false h2
      refine tr_skip ?_
      refine tr_wk (s' := mk [(0, .p none (.sl false 4 (pvE l))), (1, .p none (.v (.int .i64 p))), (5, .sl 1 0 ((pvP (visN l p ((usersF l).take i))).length)), (12, .sl 1200 0 ((pvT (usersF l)).length)), (13, .p none (.v (.int .i64 ((pvT (usersF l)).length : Int)))), (14, .p none (.v (.int .i64 (i:Int))))] [] [(1, 2, pvP (visN l p ((usersF l).take i))), (1200, 1, pvT (usersF l))]) ?_ ?_
      · exact wk_mk ⟨rfl, ⟨rfl, ⟨rfl, ⟨rfl, ⟨rfl, ⟨rfl, trivial⟩⟩⟩⟩⟩⟩ trivial ⟨rfl, ⟨rfl, trivial⟩⟩ rfl
      refine tr_region rfl (.run [] [] rfl (st_addn rfl rfl rfl (by omega)) (.run [] [] rfl (st_move rfl) .nil)) ?_
      refine nxt (Q := fun _ _ => False) (z := i) (i + 1) ?_ ?_ ?_
      · show (i + 1) ≤ (usersF l).length
        omega
      · show (usersF l).length - (i + 1) < (usersF l).length - i
        omega
      · exact wk_mk ⟨rfl, ⟨rfl, ⟨(congrArg (fun x => AV.sl 1 0 (pvP x).length) (visN_no he h2).symm), ⟨rfl, ⟨rfl, ⟨(int_eq (by omega)), trivial⟩⟩⟩⟩⟩⟩ trivial ⟨(congrArg (fun x => some (2, x)) (by rw [visN_no he h2])), ⟨rfl, trivial⟩⟩ rfl
  · skip
    replace h1 := of_decide_eq_false h1
    refine tr_exit ?_
    refine tr_seq ?_
    refine tr_region rfl (.run [] [] rfl (st_move rfl) (.run [] [] rfl (st_assign rfl) .nil)) ?_
    have hr5 : pvP (visN l p ((usersF l).take i)) = pvP (visF l p) := by rw [List.take_of_length_le (by omega)]; rfl
    have hp6 : (.sl 1 0 ((pvP (visN l p ((usersF l).take i))).length) : AV) = .sl 1 0 ((pvP (visF l p)).length) := by simp only [hr5]
    refine tr_wk (s' := mk [(4, .sl 1 0 ((pvP (visF l p)).length))] [] [(1, 2, pvP (visF l p))]) ?_ ?_
    · exact wk_mk ⟨hp6, trivial⟩ trivial ⟨(congrArg (fun x => some (2, x)) hr5), trivial⟩ rfl
    refine tr_ret ?_
    exact ends [_] [1] (.cons (.tmp rfl) .nil) (.cons (.one (.row (len := (pvP (visF l p)).length) (xs := pvP (visF l p)) rfl rfl) (.sl _ _ (FlatP.clean (pvP_flat _)))) .nil) (by decide) trivial
set_option maxRecDepth 1000000 in
set_option maxHeartbeats 2000000 in
theorem progVisible_con (l : List Ent) (p : Int) (hl : l.length ≤ 2000000) (hok : entsOk l = true) : Con Try.prog 37 [.one (PV.sl false 4 (pvE l)), .one (PV.v (.int .i64 p))] [] [.one (.sl true 2 (pvP (visF l p)))] := by
  refine con_of_tr Try.func37 rfl rfl rfl rfl ?_
  have hle := pvE_length l
  refine tr_seq ?_
  refine tr_region rfl (.run [] [] rfl (st_assign rfl) .nil) ?_
  refine tr_seq ?_
  refine tr_seq ?_
  refine tr_region rfl (.run [] [] rfl (st_move rfl) (.run [600] [] rfl (st_call rfl 600 (X := []) en38 rfl (.val nod) (.cons (.one (.bor (.sl nod))) .nil) (by decide) all_nil .nil (entriesOk_con l (by omega)) rfl rfl (nle rfl)) (.run [] [] rfl (st_not (b := entsOk l) rfl rfl) .nil))) ?_
  refine tr_if (t := (!(entsOk l))) rfl (fun h1 => ?_) (fun h1 => ?_)
  · skip
    replace h1 : (entsOk l) = false := bnot_t h1
    rw [hok] at h1; cases h1
  · skip
    replace h1 : (entsOk l) = true := bnot_f h1
    refine tr_skip ?_
    refine tr_seq ?_
    refine tr_region rfl (.run [] [] rfl (st_move rfl) (.run [] [] rfl (st_move rfl) (.run [1000] [] rfl (st_call rfl 1000 (X := []) en86 rfl (.val nod) (.cons (.one (.bor (.sl nod))) (.cons (.one (.bor .v)) .nil)) (by decide) all_nil .nil (visible_con l p (by omega)) rfl rfl (nle rfl)) (.run [] [] rfl (st_assign rfl) .nil)))) ?_
    refine tr_ret ?_
    exact ends [_] [1000] (.cons (.tmp rfl) .nil) (.cons (.one (.row (len := (pvP (visF l p)).length) (xs := pvP (visF l p)) rfl rfl) (.sl _ _ (FlatP.clean (pvP_flat _)))) .nil) (by decide) trivial
set_option maxRecDepth 1000000 in
set_option maxHeartbeats 2000000 in
theorem sameEntries_con (a b : List Ent) (hl : a.length ≤ 1000000000) : Con Try.prog 35 [.one (PV.sl false 4 (pvE a)), .one (PV.sl false 4 (pvE b))] [] [.one (.v (.bool (decide (a = b))))] := by
  refine con_of_tr Try.func35 rfl rfl rfl rfl ?_
  have hla := pvE_length a
  have hlb := pvE_length b
  refine tr_seq ?_
  refine tr_region rfl (.run [] [] rfl (st_assign rfl) .nil) ?_
  refine tr_seq ?_
  refine tr_seq ?_
  refine tr_region rfl (.run [] [] rfl (st_move rfl) (.run [] [] rfl (st_len_fro rfl rfl Try.underlying26) (.run [] [] rfl (st_move rfl) (.run [] [] rfl (st_len_fro rfl rfl Try.underlying26) (.run [] [] rfl (st_neq rfl rfl rfl) .nil))))) ?_
  refine tr_if (t := (!(decide (((pvE a).length : Int) = ((pvE b).length : Int))))) rfl (fun h1 => ?_) (fun h1 => ?_)
  · skip
    replace h1 : ¬ (((pvE a).length : Int) = ((pvE b).length : Int)) := of_decide_eq_false (bnot_t h1)
    refine tr_seq ?_
    refine tr_region rfl (.run [] [] rfl (st_assign rfl) .nil) ?_
    refine tr_ret ?_
    exact ends [_] [] (.cons (.tmp (bool_eq (decide_eq_false (fun e => by subst e; omega)).symm)) .nil) (.cons (.one .v (.v _)) .nil) (by decide) trivial
  · skip
    replace h1 : ((pvE a).length : Int) = ((pvE b).length : Int) := of_decide_eq_true (bnot_f h1)
    refine tr_skip ?_
    refine tr_seq ?_
    refine tr_seq ?_
    refine tr_region rfl (.run [] [] rfl (st_assign rfl) .nil) ?_
    refine tr_block ?_
    refine tr_loopS (σ := Nat) (fun i => mk [(0, .p none (.sl false 4 (pvE a))), (1, .p none (.sl false 4 (pvE b))), (5, .p none (.v (.int .i64 (i:Int))))] [] []) (fun i => i ≤ a.length ∧ ∀ j, j < i → a[j]? = b[j]?) (fun i => a.length - i) 0 ⟨Nat.zero_le _, fun j hj => absurd hj (Nat.not_lt_zero j)⟩ (wk_mk ⟨rfl, ⟨rfl, ⟨(int_eq (by omega)), trivial⟩⟩⟩ trivial trivial rfl) ?_
    rintro i hG
    replace hG : i ≤ a.length ∧ ∀ j, j < i → a[j]? = b[j]? := hG
    obtain ⟨hi, hG⟩ := hG
    refine tr_seq ?_
    refine tr_seq ?_
    refine tr_region rfl (.run [] [] rfl (st_move rfl) (.run [] [] rfl (st_move rfl) (.run [] [] rfl (st_len_fro rfl rfl Try.underlying26) (.run [] [] rfl (st_lss rfl rfl rfl) .nil)))) ?_
    refine tr_if (t := decide ((i:Int) < ((pvE a).length : Int))) rfl (fun h2 => ?_) (fun h2 => ?_)
    · skip
      replace h2 := of_decide_eq_true h2
      refine tr_skip ?_
      refine tr_seq ?_
      refine tr_block ?_
      refine tr_seq ?_
      obtain ⟨e, he⟩ : ∃ e, a[i]? = some e := ⟨_, List.getElem?_eq_getElem (by (have hL := pvE_length a; omega))⟩
      have hlte := (List.getElem?_eq_some_iff.1 he).1
      obtain ⟨e2, he2⟩ : ∃ e, b[i]? = some e := ⟨_, List.getElem?_eq_getElem (by (have hL := pvE_length b; omega))⟩
      have hlte2 := (List.getElem?_eq_some_iff.1 he2).1
      refine tr_regionD mixed rfl (.run [] [] rfl (st_move rfl) (.run [] [] rfl (st_move rfl) (.run [] [] rfl (st_idx_fro rfl rfl rfl Try.underlying26 Try.sizeOf44 rfl (by omega) (pvE_get he)) (.run [] [] rfl (st_load_fea rfl rfl Try.isAgg44 Try.sizeOf44 (nle rfl)) (.run [] [] rfl (st_move rfl) (.run [] [] rfl (st_move rfl) (.run [] [] rfl (st_idx_fro rfl rfl rfl Try.underlying26 Try.sizeOf44 rfl (by omega) (pvE_get he2)) (.run [] [] rfl (st_load_fea rfl rfl Try.isAgg44 Try.sizeOf44 (nle rfl)) (.run [] [] rfl (st_aneq rfl rfl rfl rfl rfl Try.eqGuardType44 (fun w => ent_eqIn e e2 w)) .nil))))))))) (by kernel_rfl) ?_
      refine tr_if (t := (!(decide (e = e2)))) rfl (fun h3 => ?_) (fun h3 => ?_)
      · skip
        replace h3 : ¬ (e = e2) := of_decide_eq_false (bnot_t h3)
        refine tr_seq ?_
        refine tr_region rfl (.run [] [] rfl (st_assign rfl) .nil) ?_
        refine tr_ret ?_
        exact ends [_] [] (.cons (.tmp (bool_eq (decide_eq_false (glist_ne he he2 h3)).symm)) .nil) (.cons (.one .v (.v _)) .nil) (by decide) trivial
      · skip
        replace h3 : e = e2 := of_decide_eq_true (bnot_f h3)
        refine tr_skip ?_
        refine tr_region rfl (.run [] [] rfl (st_move rfl) (.run [] [] rfl (st_addn rfl rfl rfl (by omega)) (.run [] [] rfl (st_assign rfl) .nil))) ?_
        refine nxt (Q := fun _ _ => False) (z := i) (i + 1) ?_ ?_ ?_
        · show (i + 1) ≤ a.length ∧ ∀ j, j < (i + 1) → a[j]? = b[j]?
          exact ⟨by omega, glist_step hG he he2 h3⟩
        · show a.length - (i + 1) < a.length - i
          omega
        · exact wk_mk ⟨rfl, ⟨rfl, ⟨(int_eq (by omega)), trivial⟩⟩⟩ trivial trivial rfl
    · skip
      replace h2 := of_decide_eq_false h2
      refine tr_exit ?_
      refine tr_seq ?_
      refine tr_region rfl (.run [] [] rfl (st_assign rfl) .nil) ?_
      refine tr_ret ?_
      exact ends [_] [] (.cons (.tmp (bool_eq (decide_eq_true (glist_all (by omega) (by omega) hG)).symm)) .nil) (.cons (.one .v (.v _)) .nil) (by decide) trivial
set_option maxRecDepth 1000000 in
set_option maxHeartbeats 2000000 in
theorem samePairs_con (a b : List Pr) (hl : a.length ≤ 1000000000) : Con Try.prog 36 [.one (PV.sl false 2 (pvP a)), .one (PV.sl false 2 (pvP b))] [] [.one (.v (.bool (decide (a = b))))] := by
  refine con_of_tr Try.func36 rfl rfl rfl rfl ?_
  have hla := pvP_length a
  have hlb := pvP_length b
  refine tr_seq ?_
  refine tr_region rfl (.run [] [] rfl (st_assign rfl) .nil) ?_
  refine tr_seq ?_
  refine tr_seq ?_
  refine tr_region rfl (.run [] [] rfl (st_move rfl) (.run [] [] rfl (st_len_fro rfl rfl Try.underlying47) (.run [] [] rfl (st_move rfl) (.run [] [] rfl (st_len_fro rfl rfl Try.underlying47) (.run [] [] rfl (st_neq rfl rfl rfl) .nil))))) ?_
  refine tr_if (t := (!(decide (((pvP a).length : Int) = ((pvP b).length : Int))))) rfl (fun h1 => ?_) (fun h1 => ?_)
  · skip
    replace h1 : ¬ (((pvP a).length : Int) = ((pvP b).length : Int)) := of_decide_eq_false (bnot_t h1)
    refine tr_seq ?_
    refine tr_region rfl (.run [] [] rfl (st_assign rfl) .nil) ?_
    refine tr_ret ?_
    exact ends [_] [] (.cons (.tmp (bool_eq (decide_eq_false (fun e => by subst e; omega)).symm)) .nil) (.cons (.one .v (.v _)) .nil) (by decide) trivial
  · skip
    replace h1 : ((pvP a).length : Int) = ((pvP b).length : Int) := of_decide_eq_true (bnot_f h1)
    refine tr_skip ?_
    refine tr_seq ?_
    refine tr_seq ?_
    refine tr_region rfl (.run [] [] rfl (st_assign rfl) .nil) ?_
    refine tr_block ?_
    refine tr_loopS (σ := Nat) (fun i => mk [(0, .p none (.sl false 2 (pvP a))), (1, .p none (.sl false 2 (pvP b))), (5, .p none (.v (.int .i64 (i:Int))))] [] []) (fun i => i ≤ a.length ∧ ∀ j, j < i → a[j]? = b[j]?) (fun i => a.length - i) 0 ⟨Nat.zero_le _, fun j hj => absurd hj (Nat.not_lt_zero j)⟩ (wk_mk ⟨rfl, ⟨rfl, ⟨(int_eq (by omega)), trivial⟩⟩⟩ trivial trivial rfl) ?_
    rintro i hG
    replace hG : i ≤ a.length ∧ ∀ j, j < i → a[j]? = b[j]? := hG
    obtain ⟨hi, hG⟩ := hG
    refine tr_seq ?_
    refine tr_seq ?_
    refine tr_region rfl (.run [] [] rfl (st_move rfl) (.run [] [] rfl (st_move rfl) (.run [] [] rfl (st_len_fro rfl rfl Try.underlying47) (.run [] [] rfl (st_lss rfl rfl rfl) .nil)))) ?_
    refine tr_if (t := decide ((i:Int) < ((pvP a).length : Int))) rfl (fun h2 => ?_) (fun h2 => ?_)
    · skip
      replace h2 := of_decide_eq_true h2
      refine tr_skip ?_
      refine tr_seq ?_
      refine tr_block ?_
      refine tr_seq ?_
      obtain ⟨e, he⟩ : ∃ e, a[i]? = some e := ⟨_, List.getElem?_eq_getElem (by (have hL := pvP_length a; omega))⟩
      have hlte := (List.getElem?_eq_some_iff.1 he).1
      obtain ⟨e2, he2⟩ : ∃ e, b[i]? = some e := ⟨_, List.getElem?_eq_getElem (by (have hL := pvP_length b; omega))⟩
      have hlte2 := (List.getElem?_eq_some_iff.1 he2).1
      refine tr_regionD mixed rfl (.run [] [] rfl (st_move rfl) (.run [] [] rfl (st_move rfl) (.run [] [] rfl (st_idx_fro rfl rfl rfl Try.underlying47 Try.sizeOf85 rfl (by omega) (pvP_get he)) (.run [] [] rfl (st_load_fea rfl rfl Try.isAgg85 Try.sizeOf85 (nle rfl)) (.run [] [] rfl (st_move rfl) (.run [] [] rfl (st_move rfl) (.run [] [] rfl (st_idx_fro rfl rfl rfl Try.underlying47 Try.sizeOf85 rfl (by omega) (pvP_get he2)) (.run [] [] rfl (st_load_fea rfl rfl Try.isAgg85 Try.sizeOf85 (nle rfl)) (.run [] [] rfl (st_aneq rfl rfl rfl rfl rfl Try.eqGuardType85 (fun w => pr_eqIn e e2 w)) .nil))))))))) (by kernel_rfl) ?_
      refine tr_if (t := (!(decide (e = e2)))) rfl (fun h3 => ?_) (fun h3 => ?_)
      · skip
        replace h3 : ¬ (e = e2) := of_decide_eq_false (bnot_t h3)
        refine tr_seq ?_
        refine tr_region rfl (.run [] [] rfl (st_assign rfl) .nil) ?_
        refine tr_ret ?_
        exact ends [_] [] (.cons (.tmp (bool_eq (decide_eq_false (glist_ne he he2 h3)).symm)) .nil) (.cons (.one .v (.v _)) .nil) (by decide) trivial
      · skip
        replace h3 : e = e2 := of_decide_eq_true (bnot_f h3)
        refine tr_skip ?_
        refine tr_region rfl (.run [] [] rfl (st_move rfl) (.run [] [] rfl (st_addn rfl rfl rfl (by omega)) (.run [] [] rfl (st_assign rfl) .nil))) ?_
        refine nxt (Q := fun _ _ => False) (z := i) (i + 1) ?_ ?_ ?_
        · show (i + 1) ≤ a.length ∧ ∀ j, j < (i + 1) → a[j]? = b[j]?
          exact ⟨by omega, glist_step hG he he2 h3⟩
        · show a.length - (i + 1) < a.length - i
          omega
        · exact wk_mk ⟨rfl, ⟨rfl, ⟨(int_eq (by omega)), trivial⟩⟩⟩ trivial trivial rfl
    · skip
      replace h2 := of_decide_eq_false h2
      refine tr_exit ?_
      refine tr_seq ?_
      refine tr_region rfl (.run [] [] rfl (st_assign rfl) .nil) ?_
      refine tr_ret ?_
      exact ends [_] [] (.cons (.tmp (bool_eq (decide_eq_true (glist_all (by omega) (by omega) hG)).symm)) .nil) (.cons (.one .v (.v _)) .nil) (by decide) trivial
theorem sameEntries_self (a : List Ent) (hl : a.length ≤ 1000000000) : Con Try.prog 35 [.one (PV.sl false 4 (pvE a)), .one (PV.sl false 4 (pvE a))] [] [.one (.v (.bool true))] := by
  simpa using sameEntries_con a a hl
theorem samePairs_self (a : List Pr) (hl : a.length ≤ 1000000000) : Con Try.prog 36 [.one (PV.sl false 2 (pvP a)), .one (PV.sl false 2 (pvP a))] [] [.one (.v (.bool true))] := by
  simpa using samePairs_con a a hl
set_option maxRecDepth 1000000 in
set_option maxHeartbeats 2000000 in
theorem law_compactedD_con {γ : Gho} {cv : Value} {bs : List Nat} (hc : CodeAt γ cv bs) : ConG γ Try.prog 6 [.one (PV.v (cv))] [] [.one (.v (.bool true))] := by
  refine con_of_tr Try.func6 rfl rfl rfl rfl ?_
  refine tr_seq ?_
  refine tr_region rfl (.run [] [] rfl (st_assign rfl) .nil) ?_
  refine tr_seq ?_
  refine tr_seq ?_
  refine tr_region rfl (.run [] [] rfl (st_move rfl) (.run [1000] [] rfl (st_callG (.inr rfl) rfl 1000 (X := []) en27 rfl (.val nod) (.cons (.one (.bor .v)) .nil) (by decide) all_nil .nil (big_con hc) rfl rfl (nle rfl)) .nil)) ?_
  refine tr_if (t := decide (1048576 < (bs.length : Int))) rfl (fun h1 => ?_) (fun h1 => ?_)
  · skip
    replace h1 := of_decide_eq_true h1
    refine tr_seq ?_
    refine tr_region rfl (.run [] [] rfl (st_assign rfl) .nil) ?_
    refine tr_ret ?_
    exact ends [_] [] (.cons (.tmp rfl) .nil) (.cons (.one .v (.v _)) .nil) (by decide) trivial
  · skip
    replace h1 := of_decide_eq_false h1
    refine tr_skip ?_
    refine tr_seq ?_
    refine tr_region rfl (.run [] [] rfl (st_move rfl) (.run [1300, 1301, 1302] [] rfl (st_callG (.inr rfl) rfl 1300 (X := []) en28 rfl (.val nod) (.cons (.one (.bor .v)) .nil) (by decide) all_nil .nil (drawCompacted_con hc (by omega)) rfl rfl (nle rfl)) (.run [] [] rfl (st_move rfl) (.run [] [] rfl (st_extract rfl rfl rfl) (.run [] [] rfl (st_extract rfl rfl rfl) (.run [] [] rfl (st_extract rfl rfl rfl) (.run [] [] rfl (st_assign rfl) (.run [] [] rfl (st_assign rfl) (.run [] [] rfl (st_assign rfl) .nil))))))))) ?_
    refine tr_seq ?_
    have hdl := (entsR_ok (bs := bs) (p := 0) (most := 14) (Nat.zero_le _)).1
    have hds := (snapsR_ok (bs := bs) (p := (entsR bs 0 14).2) ((entsR_ok (Nat.zero_le _)).2)).1
    generalize onceV bs (snapsP bs (entsR bs 0 14).2) 2 = b
    generalize (snapsV bs (entsR bs 0 14).2) = s at hds ⊢
    generalize (entsR bs 0 14).1 = l at hdl ⊢
    have hle := pvE_length l
    have hls := pvI_length s
    refine tr_wk (s' := mk [(3, .sl 1300 0 ((pvE l).length)), (4, .sl 1301 0 ((pvI s).length)), (5, .p none (.v (.bool b)))] [] [(1300, 4, pvE l), (1301, 1, pvI s)]) ?_ ?_
    · exact wk_mk ⟨rfl, ⟨rfl, ⟨rfl, trivial⟩⟩⟩ trivial ⟨rfl, ⟨rfl, trivial⟩⟩ rfl
    refine tr_region rfl (.run [] [] rfl (st_move rfl) (.run [] [] rfl (st_move rfl) (.run [] [] rfl (st_move rfl) (.run [1300, 1301, 2000] [] rfl (st_call rfl 2000 (X := []) en29 rfl (.val nod) (.cons (.one (.bor (.all (len := (pvE l).length) (xs := pvE l) rfl rfl (by decide)))) (.cons (.one (.bor (.all (len := (pvI s).length) (xs := pvI s) rfl rfl (by decide)))) (.cons (.one (.bor .v)) .nil))) (by decide) all_nil .nil (progCompacted_con2 l s b (by omega) (by omega)) rfl rfl (nle rfl)) (.run [] [] rfl (st_assign rfl) .nil))))) ?_
    refine tr_seq ?_
    refine tr_seq ?_
    have hcl := compactedF_len l s b
    have hlc := pvE_length (compactedF l s b)
    refine tr_wk (s' := mk [(3, .sl 1300 0 ((pvE l).length)), (4, .sl 1301 0 ((pvI s).length)), (5, .p none (.v (.bool b))), (6, .sl 2000 0 ((pvE (compactedF l s b)).length))] [] [(1300, 4, pvE l), (1301, 1, pvI s), (2000, 4, pvE (compactedF l s b))]) ?_ ?_
    · exact wk_mk ⟨rfl, ⟨rfl, ⟨rfl, ⟨rfl, trivial⟩⟩⟩⟩ trivial ⟨rfl, ⟨rfl, ⟨rfl, trivial⟩⟩⟩ rfl
    rcases bfc (!(entsOk l)) with h2 | h2
    · have h2' := h2
      replace h2' : (entsOk l) = true := bnot_f h2'
      refine tr_region rfl (.run [] [] rfl (st_move rfl) (.run [] [] rfl (st_move rfl) (.run [] [] rfl (st_move rfl) (.run [] [] rfl (st_move rfl) (.run [1300, 1301, 2500] [] rfl (st_call rfl 2500 (X := []) en33 rfl (.val nod) (.cons (.one (.bor (.all (len := (pvE l).length) (xs := pvE l) rfl rfl (by decide)))) (.cons (.one (.bor (.all (len := (pvI s).length) (xs := pvI s) rfl rfl (by decide)))) (.cons (.one (.bor .v)) .nil))) (by decide) all_nil .nil (specCompacted_con l s b (by omega) (by omega)) rfl rfl (nle rfl)) (.run [2000, 2500, 2600] [] rfl (st_call rfl 2600 (X := []) en35 rfl (.val nod) (.cons (.one (.bor (.all (len := (pvE (compactedF l s b)).length) (xs := pvE (compactedF l s b)) rfl rfl (by decide)))) (.cons (.one (.bor (.all (len := (pvE (compactedF l s b)).length) (xs := pvE (compactedF l s b)) rfl rfl (by decide)))) .nil)) (by decide) all_nil .nil (sameEntries_self (compactedF l s b) (by omega)) rfl rfl (nle rfl)) (.run [] [] rfl (st_not (b := true) rfl rfl) (.run [] [] rfl (st_move rfl) (.run [] [] rfl (st_move rfl) (.run [1300, 3000] [] rfl (st_call rfl 3000 (X := []) en31 rfl (.val nod) (.cons (.one (.bor (.all (len := (pvE l).length) (xs := pvE l) rfl rfl (by decide)))) .nil) (by decide) all_nil .nil (specEntriesOk_con l (by omega)) rfl rfl (nle rfl)) (.run [] [] rfl (st_eq (st_not (b := entsOk l) rfl rfl) (bool_eq h2)) (.run [] [] rfl (st_pickF rfl rfl) (.run [] [] rfl (st_move rfl) (.run [] [] rfl (st_move rfl) (.run [1301, 3500] [] rfl (st_call rfl 3500 (X := []) en32 rfl (.val nod) (.cons (.one (.bor (.all (len := (pvI s).length) (xs := pvI s) rfl rfl (by decide)))) .nil) (by decide) all_nil .nil (specSnapsOk_con s (by omega)) rfl rfl (nle rfl)) (.run [] [] rfl (st_not (b := snapsOk s) rfl rfl) (.run [] [] rfl (st_pickF rfl rfl) .nil))))))))))))))))) ?_
      refine tr_if (t := (!(snapsOk s))) rfl (fun h3 => ?_) (fun h3 => ?_)
      · skip
        replace h3 : (snapsOk s) = false := bnot_t h3
        refine tr_seq ?_
        refine tr_wk (s' := mk [(3, .sl 1300 0 ((pvE l).length)), (4, .sl 1301 0 ((pvI s).length)), (5, .p none (.v (.bool b))), (6, .sl 2000 0 ((pvE (compactedF l s b)).length))] [] [(1300, 4, pvE l), (1301, 1, pvI s), (2000, 4, pvE (compactedF l s b))]) ?_ ?_
        · exact wk_mk ⟨rfl, ⟨rfl, ⟨rfl, ⟨rfl, trivial⟩⟩⟩⟩ trivial ⟨rfl, ⟨rfl, ⟨rfl, trivial⟩⟩⟩ rfl
        refine tr_region rfl (.run [] [] rfl (st_move rfl) (.run [] [] rfl (st_move rfl) (.run [] [] rfl (st_move rfl) (.run [] [] rfl (st_move rfl) (.run [1300, 1301, 4200] [] rfl (st_call rfl 4200 (X := []) en33 rfl (.val nod) (.cons (.one (.bor (.all (len := (pvE l).length) (xs := pvE l) rfl rfl (by decide)))) (.cons (.one (.bor (.all (len := (pvI s).length) (xs := pvI s) rfl rfl (by decide)))) (.cons (.one (.bor .v)) .nil))) (by decide) all_nil .nil (specCompacted_con l s b (by omega) (by omega)) rfl rfl (nle rfl)) (.run [2000, 4200, 4300] [] rfl (st_call rfl 4300 (X := []) en35 rfl (.val nod) (.cons (.one (.bor (.all (len := (pvE (compactedF l s b)).length) (xs := pvE (compactedF l s b)) rfl rfl (by decide)))) (.cons (.one (.bor (.all (len := (pvE (compactedF l s b)).length) (xs := pvE (compactedF l s b)) rfl rfl (by decide)))) .nil)) (by decide) all_nil .nil (sameEntries_self (compactedF l s b) (by omega)) rfl rfl (nle rfl)) (.run [] [] rfl (st_assign rfl) .nil))))))) ?_
        refine tr_ret ?_
        exact ends [_] [] (.cons (.tmp rfl) .nil) (.cons (.one .v (.v _)) .nil) (by decide) trivial
      · skip
        replace h3 : (snapsOk s) = true := bnot_f h3
        refine tr_skip ?_
        refine tr_seq ?_
        have hok : entsOk l = true := h2'
        have hos : snapsOk s = true := h3
        obtain ⟨hvis, hoka, hagn⟩ := compacted_law (b := b) hok hos
        have hps := points_len s
        have hlp := pvI_length (pointsF s)
        refine tr_wk (s' := mk [(3, .sl 1300 0 ((pvE l).length)), (4, .sl 1301 0 ((pvI s).length)), (5, .p none (.v (.bool b))), (6, .sl 2000 0 ((pvE (compactedF l s b)).length))] [] [(1300, 4, pvE l), (1301, 1, pvI s), (2000, 4, pvE (compactedF l s b))]) ?_ ?_
        · exact wk_mk ⟨rfl, ⟨rfl, ⟨rfl, ⟨rfl, trivial⟩⟩⟩⟩ trivial ⟨rfl, ⟨rfl, ⟨rfl, trivial⟩⟩⟩ rfl
        refine tr_region rfl (.run [4400] [] rfl (st_buildSlice rfl 4400 Try.underlying23 inf2 (nle rfl) (by decide) rfl rfl rfl .nil (by decide) rfl (by decide) rfl (by decide) rfl) (.run [] [] rfl (st_move rfl) (.run [4400] [] rfl (st_append rfl 4400 (ib := 4400) (len := ([] ++ (((pvI s).drop 0).take ((pvI s).length))).length) rfl rfl (.row (len := 0) (xs := []) rfl rfl (.inl rfl)) (.row rfl (by omega) (pvI_flat _)) Try.underlying23 (sk Try.underlying23 rfl) inf2 rfl (by decide) (by decide) (by decide) List.length_append (by simp only [maxLen, List.length_append, List.length_map, List.length_cons, List.length_nil, List.length_take, List.length_drop, pvE_length, pvI_length, pvT_length, pvU_length, pvP_length]; omega) (by simp only [maxLen, List.length_append, List.length_map, List.length_cons, List.length_nil, List.length_take, List.length_drop, pvE_length, pvI_length, pvT_length, pvU_length, pvP_length]; omega)) (.run [4700] [] rfl (st_buildSlice rfl 4700 Try.underlying23 inf2 (nle rfl) (by decide) rfl rfl rfl (.cons .v .nil) (by decide) rfl (by decide) rfl (by decide) rfl) (.run [4400] [] rfl (st_append rfl 4400 (ib := 4400) (len := (([] ++ (((pvI s).drop 0).take ((pvI s).length))) ++ [[PV.v (.int .i64 1000000000000)]]).length) rfl rfl (.row (len := ([] ++ (((pvI s).drop 0).take ((pvI s).length))).length) (xs := [] ++ (((pvI s).drop 0).take ((pvI s).length))) rfl rfl (.inl rfl)) (.give (len := 1) (xs := [[PV.v (.int .i64 1000000000000)]]) rfl rfl) Try.underlying23 (sk Try.underlying23 rfl) inf2 rfl (by decide) (by decide) (by decide) List.length_append (by simp only [maxLen, List.length_append, List.length_map, List.length_cons, List.length_nil, List.length_take, List.length_drop, pvE_length, pvI_length, pvT_length, pvU_length, pvP_length]; omega) (by simp only [maxLen, List.length_append, List.length_map, List.length_cons, List.length_nil, List.length_take, List.length_drop, pvE_length, pvI_length, pvT_length, pvU_length, pvP_length]; omega)) (.run [] [] rfl (st_assign rfl) .nil)))))) ?_
        have hr4 : ([] ++ (((pvI s).drop 0).take ((pvI s).length))) ++ [[PV.v (.int .i64 1000000000000)]] = pvI (pointsF s) := by rw [List.nil_append, List.drop_zero, List.take_of_length_le (Nat.le_refl _)]; exact pvI_points s
        have hp5 : (.sl 4400 0 ((([] ++ (((pvI s).drop 0).take ((pvI s).length))) ++ [[PV.v (.int .i64 1000000000000)]]).length) : AV) = .sl 4400 0 ((pvI (pointsF s)).length) := by simp only [hr4]
        refine tr_wk (s' := mk [(3, .sl 1300 0 ((pvE l).length)), (4, .sl 1301 0 ((pvI s).length)), (5, .p none (.v (.bool b))), (6, .sl 2000 0 ((pvE (compactedF l s b)).length)), (7, .sl 4400 0 ((pvI (pointsF s)).length))] [] [(1300, 4, pvE l), (1301, 1, pvI s), (2000, 4, pvE (compactedF l s b)), (4400, 1, pvI (pointsF s))]) ?_ ?_
        · exact wk_mk ⟨rfl, ⟨rfl, ⟨rfl, ⟨rfl, ⟨hp5, trivial⟩⟩⟩⟩⟩ trivial ⟨rfl, ⟨rfl, ⟨rfl, ⟨(congrArg (fun x => some (1, x)) hr4), trivial⟩⟩⟩⟩ rfl
        refine tr_seq ?_
        refine tr_seq ?_
        refine tr_region rfl (.run [] [] rfl (st_assign rfl) .nil) ?_
        refine tr_block ?_
        refine tr_loopS (σ := Nat) (fun i => mk [(3, .sl 1300 0 ((pvE l).length)), (4, .sl 1301 0 ((pvI s).length)), (5, .p none (.v (.bool b))), (6, .sl 2000 0 ((pvE (compactedF l s b)).length)), (7, .sl 4400 0 ((pvI (pointsF s)).length)), (8, .p none (.v (.int .i64 (i:Int))))] [] [(1300, 4, pvE l), (1301, 1, pvI s), (2000, 4, pvE (compactedF l s b)), (4400, 1, pvI (pointsF s))]) (fun i => i ≤ (pointsF s).length) (fun i => (pointsF s).length - i) 0 (by simp) (wk_mk ⟨rfl, ⟨rfl, ⟨rfl, ⟨rfl, ⟨rfl, ⟨(int_eq (by omega)), trivial⟩⟩⟩⟩⟩⟩ trivial ⟨rfl, ⟨rfl, ⟨rfl, ⟨rfl, trivial⟩⟩⟩⟩ rfl) ?_
        rintro i hG
        replace hG : i ≤ (pointsF s).length := hG
        refine tr_seq ?_
        refine tr_seq ?_
        refine tr_region rfl (.run [] [] rfl (st_move rfl) (.run [] [] rfl (st_move rfl) (.run [] [] rfl (st_len_row rfl rfl Try.underlying23) (.run [] [] rfl (st_lss rfl rfl rfl) .nil)))) ?_
        refine tr_if (t := decide ((i:Int) < ((pvI (pointsF s)).length : Int))) rfl (fun h6 => ?_) (fun h6 => ?_)
        · skip
          replace h6 := of_decide_eq_true h6
          refine tr_skip ?_
          refine tr_seq ?_
          refine tr_block ?_
          refine tr_seq ?_
          obtain ⟨e, he⟩ : ∃ e, (pointsF s)[i]? = some e := ⟨_, List.getElem?_eq_getElem (by omega)⟩
          have hvs := hvis e (List.mem_of_getElem? he)
          have hvl := visN_len l e (usersF l)
          have hul := users_len l
          rw [← visF] at hvl
          refine tr_wk (s' := mk [(3, .sl 1300 0 ((pvE l).length)), (4, .sl 1301 0 ((pvI s).length)), (5, .p none (.v (.bool b))), (6, .sl 2000 0 ((pvE (compactedF l s b)).length)), (7, .sl 4400 0 ((pvI (pointsF s)).length)), (8, .p none (.v (.int .i64 (i:Int))))] [] [(1300, 4, pvE l), (1301, 1, pvI s), (2000, 4, pvE (compactedF l s b)), (4400, 1, pvI (pointsF s))]) ?_ ?_
          · exact wk_mk ⟨rfl, ⟨rfl, ⟨rfl, ⟨rfl, ⟨rfl, ⟨rfl, trivial⟩⟩⟩⟩⟩⟩ trivial ⟨rfl, ⟨rfl, ⟨rfl, ⟨rfl, trivial⟩⟩⟩⟩ rfl
          refine tr_regionD mixed rfl (.run [] [] rfl (st_move rfl) (.run [] [] rfl (st_move rfl) (.run [] [] rfl (st_move rfl) (.run [] [] rfl (st_idx_row0 i rfl rfl rfl rfl Try.underlying23 Try.sizeOf2 rfl rfl (by omega)) (.run [] [] rfl (st_load_ea1 rfl rfl rfl (pvI_get he) Try.isAgg2 rfl) (.run [2000, 6000] [] rfl (st_call rfl 6000 (X := []) en37 rfl (.val nod) (.cons (.one (.bor (.all (len := (pvE (compactedF l s b)).length) (xs := pvE (compactedF l s b)) rfl rfl (by decide)))) (.cons (.one (.bor .v)) .nil)) (by decide) all_nil .nil (progVisible_con (compactedF l s b) e (by omega) hoka) rfl rfl (nle rfl)) (.run [] [] rfl (st_move rfl) (.run [] [] rfl (st_move rfl) (.run [] [] rfl (st_move rfl) (.run [] [] rfl (st_idx_row0 i rfl rfl rfl rfl Try.underlying23 Try.sizeOf2 rfl rfl (by omega)) (.run [] [] rfl (st_load_ea1 rfl rfl rfl (pvI_get he) Try.isAgg2 rfl) (.run [1300, 6600] [] rfl (st_call rfl 6600 (X := []) en37 rfl (.val nod) (.cons (.one (.bor (.all (len := (pvE l).length) (xs := pvE l) rfl rfl (by decide)))) (.cons (.one (.bor .v)) .nil)) (by decide) all_nil .nil (progVisible_con l e (by omega) hok) rfl rfl (nle rfl)) (.run [6000, 6600, 6700] [] rfl (st_call rfl 6700 (X := []) en36 rfl (.val nod) (.cons (.one (.bor (.all (len := (pvP (visF (compactedF l s b) e)).length) (xs := pvP (visF (compactedF l s b) e)) rfl rfl (by decide)))) (.cons (.one (.bor (.all (len := (pvP (visF l e)).length) (xs := pvP (visF l e)) rfl rfl (by decide)))) .nil)) (by decide) all_nil .nil ((by rw [hvs]; exact samePairs_self (visF l e) (by omega))) rfl rfl (nle rfl)) (.run [] [] rfl (st_not (b := true) rfl rfl) .nil)))))))))))))) (by kernel_rfl) ?_
          refine tr_if (t := false) rfl (fun h => nomatch h) (fun _ => ?_)
          refine tr_skip ?_
          refine tr_wk (s' := mk [(3, .sl 1300 0 ((pvE l).length)), (4, .sl 1301 0 ((pvI s).length)), (5, .p none (.v (.bool b))), (6, .sl 2000 0 ((pvE (compactedF l s b)).length)), (7, .sl 4400 0 ((pvI (pointsF s)).length)), (8, .p none (.v (.int .i64 (i:Int))))] [] [(1300, 4, pvE l), (1301, 1, pvI s), (2000, 4, pvE (compactedF l s b)), (4400, 1, pvI (pointsF s))]) ?_ ?_
          · exact wk_mk ⟨rfl, ⟨rfl, ⟨rfl, ⟨rfl, ⟨rfl, ⟨rfl, trivial⟩⟩⟩⟩⟩⟩ trivial ⟨rfl, ⟨rfl, ⟨rfl, ⟨rfl, trivial⟩⟩⟩⟩ rfl
          refine tr_region rfl (.run [] [] rfl (st_move rfl) (.run [] [] rfl (st_addn rfl rfl rfl (by omega)) (.run [] [] rfl (st_assign rfl) .nil))) ?_
          refine nxt (Q := fun _ _ => False) (z := i) (i + 1) ?_ ?_ ?_
          · show (i + 1) ≤ (pointsF s).length
            omega
          · show (pointsF s).length - (i + 1) < (pointsF s).length - i
            omega
          · exact wk_mk ⟨rfl, ⟨rfl, ⟨rfl, ⟨rfl, ⟨rfl, ⟨(int_eq (by omega)), trivial⟩⟩⟩⟩⟩⟩ trivial ⟨rfl, ⟨rfl, ⟨rfl, ⟨rfl, trivial⟩⟩⟩⟩ rfl
        · skip
          replace h6 := of_decide_eq_false h6
          refine tr_exit ?_
          refine tr_seq ?_
          have hag2 : Con Try.prog 29 [.one (PV.sl false 4 (pvE (compactedF l s b))), .one (PV.sl false 1 (pvI s)), .one (PV.v (.bool b))] [] [.one (.sl true 4 (pvE (compactedF l s b)))] := by have h := progCompacted_con2 (compactedF l s b) s b (by omega) (by omega); rw [hagn] at h; exact h
          refine tr_wk (s' := mk [(3, .sl 1300 0 ((pvE l).length)), (4, .sl 1301 0 ((pvI s).length)), (5, .p none (.v (.bool b))), (6, .sl 2000 0 ((pvE (compactedF l s b)).length))] [] [(1300, 4, pvE l), (1301, 1, pvI s), (2000, 4, pvE (compactedF l s b))]) ?_ ?_
          · exact wk_mk ⟨rfl, ⟨rfl, ⟨rfl, ⟨rfl, trivial⟩⟩⟩⟩ trivial ⟨rfl, ⟨rfl, ⟨rfl, trivial⟩⟩⟩ rfl
          rcases bfc (entsOk (compactedF l s b)) with h7 | h7
          · have h7' := h7
            rw [hoka] at h7'; cases h7'
          · have h7' := h7
            rcases bfc (decide (((pvE (compactedF l s b)).length : Int) ≤ ((pvE l).length : Int))) with h8 | h8
            · have h8' := h8
              replace h8' := of_decide_eq_false h8'
              omega
            · have h8' := h8
              replace h8' := of_decide_eq_true h8'
              refine tr_region rfl (.run [] [] rfl (st_move rfl) (.run [2000, 7000] [] rfl (st_call rfl 7000 (X := []) en38 rfl (.val nod) (.cons (.one (.bor (.all (len := (pvE (compactedF l s b)).length) (xs := pvE (compactedF l s b)) rfl rfl (by decide)))) .nil) (by decide) all_nil .nil (entriesOk_con (compactedF l s b) (by omega)) rfl rfl (nle rfl)) (.run [] [] rfl (st_eq (st_move rfl) (bool_eq h7)) (.run [] [] rfl (st_move rfl) (.run [] [] rfl (st_len_row rfl rfl Try.underlying26) (.run [] [] rfl (st_move rfl) (.run [] [] rfl (st_len_row rfl rfl Try.underlying26) (.run [] [] rfl (st_eq (st_leq rfl rfl rfl) (bool_eq h8)) (.run [] [] rfl (st_pickT rfl rfl) (.run [] [] rfl (st_move rfl) (.run [] [] rfl (st_move rfl) (.run [] [] rfl (st_move rfl) (.run [] [] rfl (st_move rfl) (.run [1301, 2000, 8200] [] rfl (st_call rfl 8200 (X := []) en29 rfl (.val nod) (.cons (.one (.bor (.all (len := (pvE (compactedF l s b)).length) (xs := pvE (compactedF l s b)) rfl rfl (by decide)))) (.cons (.one (.bor (.all (len := (pvI s).length) (xs := pvI s) rfl rfl (by decide)))) (.cons (.one (.bor .v)) .nil))) (by decide) all_nil .nil (hag2) rfl rfl (nle rfl)) (.run [] [] rfl (st_move rfl) (.run [2000, 8200, 8400] [] rfl (st_call rfl 8400 (X := []) en35 rfl (.val nod) (.cons (.one (.bor (.all (len := (pvE (compactedF l s b)).length) (xs := pvE (compactedF l s b)) rfl rfl (by decide)))) (.cons (.one (.bor (.all (len := (pvE (compactedF l s b)).length) (xs := pvE (compactedF l s b)) rfl rfl (by decide)))) .nil)) (by decide) all_nil .nil (sameEntries_self (compactedF l s b) (by omega)) rfl rfl (nle rfl)) (.run [] [] rfl (st_pickT rfl rfl) (.run [] [] rfl (st_assign rfl) .nil)))))))))))))))))) ?_
              refine tr_ret ?_
              exact ends [_] [] (.cons (.tmp rfl) .nil) (.cons (.one .v (.v _)) .nil) (by decide) trivial
    · have h2' := h2
      replace h2' : (entsOk l) = false := bnot_t h2'
      refine tr_region rfl (.run [] [] rfl (st_move rfl) (.run [] [] rfl (st_move rfl) (.run [] [] rfl (st_move rfl) (.run [] [] rfl (st_move rfl) (.run [1300, 1301, 2500] [] rfl (st_call rfl 2500 (X := []) en33 rfl (.val nod) (.cons (.one (.bor (.all (len := (pvE l).length) (xs := pvE l) rfl rfl (by decide)))) (.cons (.one (.bor (.all (len := (pvI s).length) (xs := pvI s) rfl rfl (by decide)))) (.cons (.one (.bor .v)) .nil))) (by decide) all_nil .nil (specCompacted_con l s b (by omega) (by omega)) rfl rfl (nle rfl)) (.run [2000, 2500, 2600] [] rfl (st_call rfl 2600 (X := []) en35 rfl (.val nod) (.cons (.one (.bor (.all (len := (pvE (compactedF l s b)).length) (xs := pvE (compactedF l s b)) rfl rfl (by decide)))) (.cons (.one (.bor (.all (len := (pvE (compactedF l s b)).length) (xs := pvE (compactedF l s b)) rfl rfl (by decide)))) .nil)) (by decide) all_nil .nil (sameEntries_self (compactedF l s b) (by omega)) rfl rfl (nle rfl)) (.run [] [] rfl (st_not (b := true) rfl rfl) (.run [] [] rfl (st_move rfl) (.run [] [] rfl (st_move rfl) (.run [1300, 3000] [] rfl (st_call rfl 3000 (X := []) en31 rfl (.val nod) (.cons (.one (.bor (.all (len := (pvE l).length) (xs := pvE l) rfl rfl (by decide)))) .nil) (by decide) all_nil .nil (specEntriesOk_con l (by omega)) rfl rfl (nle rfl)) (.run [] [] rfl (st_eq (st_not (b := entsOk l) rfl rfl) (bool_eq h2)) (.run [] [] rfl (st_pickF rfl rfl) (.run [] [] rfl (st_move rfl) (.not rfl (.not rfl (.not rfl (.run [] [] rfl (st_pickT rfl rfl) .nil))))))))))))))))) ?_
      refine tr_if (t := true) rfl (fun _ => ?_) (fun h => nomatch h)
      refine tr_seq ?_
      refine tr_wk (s' := mk [(3, .sl 1300 0 ((pvE l).length)), (4, .sl 1301 0 ((pvI s).length)), (5, .p none (.v (.bool b))), (6, .sl 2000 0 ((pvE (compactedF l s b)).length))] [] [(1300, 4, pvE l), (1301, 1, pvI s), (2000, 4, pvE (compactedF l s b))]) ?_ ?_
      · exact wk_mk ⟨rfl, ⟨rfl, ⟨rfl, ⟨rfl, trivial⟩⟩⟩⟩ trivial ⟨rfl, ⟨rfl, ⟨rfl, trivial⟩⟩⟩ rfl
      refine tr_region rfl (.run [] [] rfl (st_move rfl) (.run [] [] rfl (st_move rfl) (.run [] [] rfl (st_move rfl) (.run [] [] rfl (st_move rfl) (.run [1300, 1301, 4200] [] rfl (st_call rfl 4200 (X := []) en33 rfl (.val nod) (.cons (.one (.bor (.all (len := (pvE l).length) (xs := pvE l) rfl rfl (by decide)))) (.cons (.one (.bor (.all (len := (pvI s).length) (xs := pvI s) rfl rfl (by decide)))) (.cons (.one (.bor .v)) .nil))) (by decide) all_nil .nil (specCompacted_con l s b (by omega) (by omega)) rfl rfl (nle rfl)) (.run [2000, 4200, 4300] [] rfl (st_call rfl 4300 (X := []) en35 rfl (.val nod) (.cons (.one (.bor (.all (len := (pvE (compactedF l s b)).length) (xs := pvE (compactedF l s b)) rfl rfl (by decide)))) (.cons (.one (.bor (.all (len := (pvE (compactedF l s b)).length) (xs := pvE (compactedF l s b)) rfl rfl (by decide)))) .nil)) (by decide) all_nil .nil (sameEntries_self (compactedF l s b) (by omega)) rfl rfl (nle rfl)) (.run [] [] rfl (st_assign rfl) .nil))))))) ?_
      refine tr_ret ?_
      exact ends [_] [] (.cons (.tmp rfl) .nil) (.cons (.one .v (.v _)) .nil) (by decide) trivial
end Go.Rl

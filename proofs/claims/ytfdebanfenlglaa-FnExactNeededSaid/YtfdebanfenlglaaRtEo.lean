/- Entries: rules for the walks. -/
import Derived.Test.YtfdebanfenlglaaRtEn
import Derived.Test.YtfdebanfenlglaaRtGe
namespace Go.Rl
def orF : List Int → Int
  | [] => 0
  | x :: l => if x ≠ 0 then x else orF l
theorem or_cons {l : List Int} {i : Nat} {e : Int} (he : l[i]? = some e) : orF (l.drop i) = if e ≠ 0 then e else orF (l.drop (i + 1)) := by
  have hlt := (List.getElem?_eq_some_iff.1 he).1
  have : l.drop i = e :: l.drop (i + 1) := by rw [List.drop_eq_getElem_cons hlt, (List.getElem?_eq_some_iff.1 he).2]
  rw [this, orF]
theorem or_end {l : List Int} {i : Nat} (hi : l.length ≤ i) : orF (l.drop i) = 0 := by rw [List.drop_of_length_le hi]; rfl
theorem or_three (a b : Ent) : orF [cmpS a.user b.user, cmpI b.seq a.seq, cmpI b.kind a.kind] = cmpK a b := by
  unfold cmpK
  simp only [orF]
  by_cases h1 : cmpS a.user b.user = 0
  · by_cases h2 : cmpI b.seq a.seq = 0
    · by_cases h3 : cmpI b.kind a.kind = 0 <;> simp [h1, h2, h3]
    · simp [h1, h2]
  · simp [h1]
/-- a stands ahead of b. -/
def LessE (a b : Ent) : Prop := ltB a.user b.user = true ∨ (a.user = b.user ∧ (b.seq < a.seq ∨ (a.seq = b.seq ∧ b.kind < a.kind)))
theorem cmpS_self (a : ByteArray) : cmpS a a = 0 := by simp [cmpS, ltB_irr]
theorem cmpK_eq {a b : Ent} (h1 : a.user = b.user) (h2 : a.seq = b.seq) (h3 : a.kind = b.kind) : cmpK a b = 0 := by
  unfold cmpK
  rw [h1, h2, h3, cmpS_self]
  simp [cmpI]
theorem cmpK_lt {a b : Ent} (h : LessE a b) : cmpK a b = -1 := by
  unfold cmpK
  rcases h with h | ⟨h1, h | ⟨h2, h⟩⟩
  · simp [cmpS, h]
  · rw [h1, cmpS_self]
    simp [cmpI, h]
  · rw [h1, cmpS_self, h2]
    simp [cmpI, h]
theorem cmpK_gt {a b : Ent} (h : ¬ LessE a b) (hn : ¬ (a.user = b.user ∧ a.seq = b.seq ∧ a.kind = b.kind)) : cmpK a b = 1 := by
  unfold cmpK
  by_cases h1 : ltB a.user b.user = true
  · exact absurd (.inl h1) h
  · by_cases h2 : ltB b.user a.user = true
    · simp [cmpS, h1, h2]
    · have he : a.user = b.user := ltB_tot (by simpa using h1) (by simpa using h2)
      rw [he, cmpS_self]
      have h3 : ¬ b.seq < a.seq := fun h3 => h (.inr ⟨he, .inl h3⟩)
      by_cases h4 : a.seq < b.seq
      · simp [cmpI, h3, h4]
      · have h5 : a.seq = b.seq := by omega
        have h6 : ¬ b.kind < a.kind := fun h6 => h (.inr ⟨he, .inr ⟨h5, h6⟩⟩)
        have h7 : a.kind < b.kind := by
          have : a.kind ≠ b.kind := fun h7 => hn ⟨he, h5, h7⟩
          omega
        simp [cmpI, h5, h6, h7]
theorem ents_no {l : List Ent} {i : Nat} {e : Ent} (he : l[i]? = some e) (hn : okEnt l i e = false) : entsOk l = false := by simp [entsOk, allIx_no he hn]
theorem ents_long {l : List Ent} (h : 400 < l.length) : entsOk l = false := by
  have : ¬ l.length ≤ 400 := by omega
  simp [entsOk, this]
theorem ents_yes {l : List Ent} {i : Nat} (hl : l.length ≤ 400) (hi : l.length ≤ i) (h : ∀ j e, j < i → l[j]? = some e → okEnt l j e = true) : entsOk l = true := by simp [entsOk, hl, allIx_yes hi h]
theorem okEnt_bad {l : List Ent} {j : Nat} {e : Ent} (h : entOk e = false) : okEnt l j e = false := by simp [okEnt, h]
theorem okEnt_off {l : List Ent} {j : Nat} {x e : Ent} (hj : 0 < j) (hx : l[j - 1]? = some x) (h : 0 ≤ cmpK x e) : okEnt l j e = false := by
  have h1 : ¬ j = 0 := by omega
  have h2 : ¬ cmpK x e < 0 := by omega
  simp [okEnt, hx, h1, h2]
theorem okEnt_first {l : List Ent} {j : Nat} {e : Ent} (h : entOk e = true) (hj : ¬ 0 < j) : okEnt l j e = true := by
  have h1 : j = 0 := by omega
  simp [okEnt, h, h1]
theorem okEnt_next {l : List Ent} {j : Nat} {x e : Ent} (h : entOk e = true) (hx : l[j - 1]? = some x) (hc : ¬ 0 ≤ cmpK x e) : okEnt l j e = true := by
  have h2 : cmpK x e < 0 := by omega
  simp [okEnt, h, hx, h2]
theorem okEnt_ent {l : List Ent} {j : Nat} {e : Ent} (h : okEnt l j e = true) : entOk e = true := by
  simp only [okEnt, Bool.and_eq_true] at h
  exact h.1
theorem entOk_key {e : Ent} (h : entOk e = true) : keyOk e.user e.seq e.kind = true := by
  simp only [entOk, Bool.and_eq_true] at h
  exact h.1.1
def kcmp (a b : Ent) : Int := if keyOk a.user a.seq a.kind = true ∧ keyOk b.user b.seq b.kind = true then cmpK a b else 0
theorem kcmp_ok {a b : Ent} (h1 : keyOk a.user a.seq a.kind = true) (h2 : keyOk b.user b.seq b.kind = true) : kcmp a b = cmpK a b := by simp [kcmp, h1, h2]
theorem kc_ok {l : List Ent} {i : Nat} {x e : Ent} (hG : ∀ j e, j < i → l[j]? = some e → okEnt l j e = true) (hi : 0 < i) (hx : l[i - 1]? = some x) (he : entOk e = true) : kcmp x e = cmpK x e := kcmp_ok (entOk_key (okEnt_ent (hG _ _ (by omega) hx))) (entOk_key he)
theorem snaps_no {s : List Int} {i : Nat} {x : Int} (he : s[i]? = some x) (hn : okSnap s i x = false) : snapsOk s = false := by simp [snapsOk, allIx_no he hn]
theorem snaps_long {s : List Int} (h : 20 < s.length) : snapsOk s = false := by
  have : ¬ s.length ≤ 20 := by omega
  simp [snapsOk, this]
theorem snaps_yes {s : List Int} {i : Nat} (hi : s.length ≤ i) (h : ∀ j x, j < i → s[j]? = some x → okSnap s j x = true) : snapsOk s = decide (s.length ≤ 20) := by simp [snapsOk, allIx_yes hi h]
theorem okSnap_bad {s : List Int} {j : Nat} {x : Int} (h : within x 0 1000000000000 = false) : okSnap s j x = false := by simp [okSnap, h]
theorem okSnap_off {s : List Int} {j : Nat} {y x : Int} (hj : 0 < j) (hy : s[j - 1]? = some y) (h : x ≤ y) : okSnap s j x = false := by
  have h1 : ¬ j = 0 := by omega
  have h2 : ¬ y < x := by omega
  simp [okSnap, hy, h1, h2]
theorem okSnap_first {s : List Int} {j : Nat} {x : Int} (h : within x 0 1000000000000 = true) (hj : ¬ 0 < j) : okSnap s j x = true := by
  have h1 : j = 0 := by omega
  simp [okSnap, h, h1]
theorem okSnap_next {s : List Int} {j : Nat} {y x : Int} (h : within x 0 1000000000000 = true) (hy : s[j - 1]? = some y) (hc : ¬ x ≤ y) : okSnap s j x = true := by
  have h2 : y < x := by omega
  simp [okSnap, h, hy, h2]
def needC (l : List Ent) (i : Nat) (e : Ent) (p : Int) : Bool := decide (e.seq ≤ p) && (decide (i = 0) || match l[i - 1]? with
  | some x => decide (x.user ≠ e.user) || decide (p < x.seq)
  | none => true)
theorem needP_any (l : List Ent) (ps : List Int) (i : Nat) (e : Ent) : needP l ps i e = ps.any (needC l i e) := rfl
theorem needC_no {l : List Ent} {i : Nat} {e : Ent} {p : Int} (h : p < e.seq) : needC l i e p = false := by
  have h1 : ¬ e.seq ≤ p := by omega
  simp [needC, h1]
theorem needC_zero {l : List Ent} {i : Nat} {e : Ent} {p : Int} (h : ¬ p < e.seq) (hi : (i : Int) = 0) : needC l i e p = true := by
  have h1 : e.seq ≤ p := by omega
  have h2 : i = 0 := by omega
  simp [needC, h1, h2]
theorem needC_user {l : List Ent} {i : Nat} {x e : Ent} {p : Int} (h : ¬ p < e.seq) (hx : l[i - 1]? = some x) (hu : ¬ x.user = e.user) : needC l i e p = true := by
  have h1 : e.seq ≤ p := by omega
  simp [needC, h1, hx, hu]
theorem needC_seq {l : List Ent} {i : Nat} {x e : Ent} {p : Int} (h : ¬ p < e.seq) (hi : ¬ (i : Int) = 0) (hx : l[i - 1]? = some x) (hu : x.user = e.user) : needC l i e p = decide (p < x.seq) := by
  have h1 : e.seq ≤ p := by omega
  have h2 : ¬ i = 0 := by omega
  simp [needC, h1, h2, hx, hu]
theorem any_snoc {α : Type} {ps : List α} {k : Nat} {p : α} (f : α → Bool) (hp : ps[k]? = some p) : (ps.take (k + 1)).any f = ((ps.take k).any f || f p) := by simp [List.take_add_one, hp]
theorem need_yes {l : List Ent} {ps : List Int} {i : Nat} {e : Ent} (he : l[i]? = some e) (h : needP l ps i e = true) : needF l ps (i + 1) = needF l ps i ++ [(i : Int)] := by
  rw [needF, he]
  simp [h]
theorem need_no {l : List Ent} {ps : List Int} {i : Nat} {e : Ent} (he : l[i]? = some e) (h : needP l ps i e = false) : needF l ps (i + 1) = needF l ps i := by
  rw [needF, he]
  simp [h]
theorem needF_len (l : List Ent) (ps : List Int) : ∀ i, (needF l ps i).length ≤ i
  | 0 => Nat.le_refl _
  | i + 1 => by
    have := needF_len l ps i
    rw [needF, List.length_append]
    split
    · split
      · simp only [List.length_cons, List.length_nil]; omega
      · simp only [List.length_nil]; omega
    · simp only [List.length_nil]; omega
theorem points_len (s : List Int) : (pointsF s).length = s.length + 1 := by simp [pointsF]
theorem pvI_points (s : List Int) : pvI s ++ [[PV.v (.int .i64 1000000000000)]] = pvI (pointsF s) := by simp [pvI, pointsF]
theorem pvI_snoc (l : List Int) (n : Int) : pvI l ++ [[PV.v (.int .i64 n)]] = pvI (l ++ [n]) := by simp [pvI]
/-! #### slices.Compact: the row while it is turned -/
theorem cpt_get {α : Type} {l c : List α} {q : Nat} (h : c.length ≤ q) : (c ++ l.drop c.length)[q]? = l[q]? := by
  rw [List.getElem?_append_right h, List.getElem?_drop]
  congr 1
  omega
theorem cpt_set {α : Type} {l c : List α} {y : α} (h : c.length < l.length) : (c ++ l.drop c.length).set c.length y = (c ++ [y]) ++ l.drop (c ++ [y]).length := by
  rw [List.set_append_right _ _ (Nat.le_refl _), Nat.sub_self, List.drop_eq_getElem_cons h, List.set_cons_zero]
  simp
theorem cpt_start {α : Type} [DecidableEq α] {l : List α} {k : Nat} (h : compactN l k = l.take k) (hk : k ≤ l.length) : compactN l k ++ l.drop (compactN l k).length = l := by
  rw [h, List.length_take, Nat.min_eq_left hk, List.take_append_drop]
theorem cpt_next {α : Type} [DecidableEq α] {l : List α} {k : Nat} {x y : α} (h : compactN l k = l.take k) (hx : l[k - 1]? = some x) (hy : l[k]? = some y) (hn : ¬ y = x) : compactN l (k + 1) = l.take (k + 1) := by
  rw [compactN_new hx hy hn, h, List.take_add_one, hy]
  rfl
theorem st_idx_rowK {γ : Gho} {P : Program} {n : Nat} {o : Oper} {M B : List Nat} {s : St} {t e : TypeId} {x y : Operand} {sz : Nat} {d' : Option Nat} {kk : IntKind} {i : Int} (k : Nat) (ho : o.op = .indexAddr t x y) {id lo len rz : Nat} {xs : List (List PV)} (hx : s.ev x = .sl id lo len) (hr : s.r id = some (rz, xs)) (hy : s.ev y = .p d' (.v (.int kk i))) (hu : P.underlying t = some (.slice e)) (hsz : ∀ w, (sizeOf e).run P w = .ok sz w) (hz : rz = sz) (hk : i = k) (h1 : k < len) :
    StepD γ P n o M B s { put := .ea id (lo + k) 0 } :=
  st_eq (st_idx_row ho hx hr hy hu hsz hz (by omega) (by omega)) (by subst hk; simp)
theorem cpt_one {α : Type} [DecidableEq α] {l : List α} (h : 1 ≤ l.length) : compactN l 1 = l.take 1 := by
  cases l with
  | nil => simp at h
  | cons x l => simp [compactN]
theorem cpt_short {α : Type} [DecidableEq α] {l : List α} (h : l.length ≤ 1) : compactF l = l := by
  cases l with
  | nil => rfl
  | cons x l => cases l with
    | nil => simp [compactF, compactN]
    | cons y l => simp only [List.length_cons] at h; omega
theorem cpt_row {c r : List ByteArray} {n m : Nat} {z : List PV} (h : n = c.length) : ((((pvT (c ++ r)).take n) ++ List.replicate m z).take (n - 0)) = pvT c := by
  subst h
  rw [Nat.sub_zero, List.take_append_of_le_length (by rw [List.length_take, pvT_length]; simp), List.take_take, Nat.min_self]
  simp [pvT, List.map_append]
theorem cpt_flat {c : List ByteArray} {n m : Nat} : ∀ es ∈ ((pvT c).take n ++ List.replicate m [PV.v (.string ⟨#[]⟩)]), ∀ p ∈ es, (match p with | .v _ => true | _ => false) = true := fun es he p hp => by
  rcases List.mem_append.1 he with he | he
  · obtain ⟨b, _, rfl⟩ := List.mem_map.1 (List.mem_of_mem_take he)
    simp only [List.mem_singleton] at hp
    subst hp; rfl
  · rw [List.eq_of_mem_replicate he] at hp
    simp only [List.mem_singleton] at hp
    subst hp; rfl
end Go.Rl

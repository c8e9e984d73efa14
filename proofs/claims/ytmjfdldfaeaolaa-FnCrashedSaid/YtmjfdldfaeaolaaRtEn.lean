/- Entries and snapshots: right rows, and what of them is needed. -/
import Derived.Test.YtmjfdldfaeaolaaRtDom
namespace Go.Rl
structure Ent where
  user : ByteArray
  seq : Int
  kind : Int
  value : ByteArray
  deriving DecidableEq
def Ent.pv (e : Ent) : List PV := [.v (.string e.user), .v (.int .i64 e.seq), .v (.int .i64 e.kind), .v (.string e.value)]
def pvE (l : List Ent) : List (List PV) := l.map Ent.pv
theorem pvE_length (l : List Ent) : (pvE l).length = l.length := by simp [pvE]
theorem pvE_get {l : List Ent} {i : Nat} {e : Ent} (h : l[i]? = some e) : (pvE l)[i]? = some e.pv := by simp [pvE, h]
theorem pvE_flat (l : List Ent) : FlatP (pvE l) := fun es he p hp => by
  obtain ⟨s, _, rfl⟩ := List.mem_map.1 he
  simp only [Ent.pv, List.mem_cons, List.not_mem_nil, or_false] at hp
  rcases hp with rfl | rfl | rfl | rfl <;> rfl
/-! #### the order of bytes -/
theorem bl_irr : ∀ x : List UInt8, Op.bytesLess x x = false
  | [] => rfl
  | a :: x => by simp [Op.bytesLess, bl_irr x]
theorem bl_trans : ∀ {x y z : List UInt8}, Op.bytesLess x y = true → Op.bytesLess y z = true → Op.bytesLess x z = true
  | _, [], _, h, _ => by simp [Op.bytesLess] at h
  | _, _ :: _, [], _, h => by simp [Op.bytesLess] at h
  | [], _ :: _, _ :: _, _, _ => rfl
  | a :: x, b :: y, c :: z, h, k => by
    simp only [Op.bytesLess, Bool.or_eq_true, decide_eq_true_eq, Bool.and_eq_true, beq_iff_eq] at h k ⊢
    rcases h with h | ⟨rfl, h⟩
    · rcases k with k | ⟨rfl, k⟩
      · exact .inl (UInt8.lt_trans h k)
      · exact .inl h
    · rcases k with k | ⟨rfl, k⟩
      · exact .inl k
      · exact .inr ⟨rfl, bl_trans h k⟩
theorem bl_tot : ∀ {x y : List UInt8}, Op.bytesLess x y = false → Op.bytesLess y x = false → x = y
  | [], [], _, _ => rfl
  | [], _ :: _, h, _ => by simp [Op.bytesLess] at h
  | _ :: _, [], _, h => by simp [Op.bytesLess] at h
  | a :: x, b :: y, h, k => by
    simp only [Op.bytesLess, Bool.or_eq_false_iff, decide_eq_false_iff_not, Bool.and_eq_false_iff, beq_eq_false_iff_ne] at h k
    have hab : a = b := UInt8.le_antisymm (UInt8.not_lt.1 k.1) (UInt8.not_lt.1 h.1)
    subst hab
    rw [bl_tot (h.2.resolve_left (fun h => h rfl)) (k.2.resolve_left (fun h => h rfl))]
theorem toList_inj {a b : ByteArray} (h : a.toList = b.toList) : a = b := by
  cases a with | mk a => cases b with | mk b =>
  have h1 := beq_toListBytes ⟨a⟩ ⟨b⟩
  rw [h, beq_self_eq_true] at h1
  have h2 : (a == b) = true := h1
  rw [eq_of_beq h2]
theorem ltB_irr (a : ByteArray) : ltB a a = false := bl_irr _
theorem ltB_trans {a b c : ByteArray} (h : ltB a b = true) (k : ltB b c = true) : ltB a c = true := bl_trans h k
theorem ltB_tot {a b : ByteArray} (h : ltB a b = false) (k : ltB b a = false) : a = b := toList_inj (bl_tot h k)
theorem ltB_asymm {a b : ByteArray} (h : ltB a b = true) : ltB b a = false := by
  cases hb : ltB b a with
  | false => rfl
  | true => have := ltB_trans h hb; rw [ltB_irr] at this; cases this
/-! #### keys -/
def cmpS (a b : ByteArray) : Int := if ltB a b = true then -1 else if ltB b a = true then 1 else 0
def cmpI (a b : Int) : Int := if a < b then -1 else if b < a then 1 else 0
def cmpK (a b : Ent) : Int := if cmpS a.user b.user ≠ 0 then cmpS a.user b.user else if cmpI b.seq a.seq ≠ 0 then cmpI b.seq a.seq else cmpI b.kind a.kind
theorem cmpS_gt {a b : ByteArray} (h : ltB a b = false) : (!(ltB a b || decide (a = b))) = ltB b a := by
  rw [h, Bool.false_or]
  cases hb : ltB b a with
  | true => 
    have : a ≠ b := fun e => by subst e; rw [ltB_irr] at hb; cases hb
    simp [this]
  | false => simp [ltB_tot h hb]
def keyOk (u : ByteArray) (s k : Int) : Bool := isUser u && within s 0 1000000000000 && within k 0 1
def entOk (e : Ent) : Bool := keyOk e.user e.seq e.kind && decide ((e.value.size : Int) ≤ 200) && (decide (e.kind = 1) || decide (e.value = ⟨#[]⟩))
/-- All elements, with their places. -/
def allIx {α : Type} (p : Nat → α → Bool) (l : List α) : Bool := (List.range l.length).all fun j => match l[j]? with
  | some e => p j e
  | none => true
theorem allIx_no {α : Type} {p : Nat → α → Bool} {l : List α} {i : Nat} {e : α} (h : l[i]? = some e) (hn : p i e = false) : allIx p l = false := by
  apply Bool.eq_false_iff.2
  intro ha
  have := (List.all_eq_true.1 ha) i (List.mem_range.2 (List.getElem?_eq_some_iff.1 h).1)
  rw [h] at this
  simp only at this
  rw [hn] at this
  cases this
theorem allIx_yes {α : Type} {p : Nat → α → Bool} {l : List α} {i : Nat} (hi : l.length ≤ i) (h : ∀ j e, j < i → l[j]? = some e → p j e = true) : allIx p l = true := by
  refine List.all_eq_true.2 (fun j hj => ?_)
  have hlt := List.mem_range.1 hj
  rw [List.getElem?_eq_getElem hlt]
  exact h j _ (by omega) (List.getElem?_eq_getElem hlt)
theorem allIx_get {α : Type} {p : Nat → α → Bool} {l : List α} {i : Nat} {e : α} (h : allIx p l = true) (he : l[i]? = some e) : p i e = true := by
  have := (List.all_eq_true.1 h) i (List.mem_range.2 (List.getElem?_eq_some_iff.1 he).1)
  rw [he] at this
  exact this
theorem ix_step {α : Type} {p : Nat → α → Bool} {l : List α} {i : Nat} {e : α} (h : ∀ j e, j < i → l[j]? = some e → p j e = true) (he : l[i]? = some e) (ho : p i e = true) : ∀ j e, j < i + 1 → l[j]? = some e → p j e = true := fun j e' hj hl => by
  by_cases hji : j = i
  · subst hji; rw [he] at hl; cases hl; exact ho
  · exact h j e' (by omega) hl
def okEnt (l : List Ent) (j : Nat) (e : Ent) : Bool := entOk e && (decide (j = 0) || match l[j - 1]? with
  | some x => decide (cmpK x e < 0)
  | none => true)
def entsOk (l : List Ent) : Bool := decide (l.length ≤ 400) && allIx (okEnt l) l
def okSnap (s : List Int) (j : Nat) (x : Int) : Bool := within x 0 1000000000000 && (decide (j = 0) || match s[j - 1]? with
  | some y => decide (y < x)
  | none => true)
def snapsOk (s : List Int) : Bool := decide (s.length ≤ 20) && allIx (okSnap s) s
/-! #### what is needed -/
/-- x stands right ahead of e. -/
def Ahead (x e : Ent) : Prop := ltB x.user e.user = true ∨ (x.user = e.user ∧ e.seq ≤ x.seq)
theorem ahead_of {x e : Ent} (h : cmpK x e < 0) : Ahead x e := by
  unfold cmpK cmpS cmpI at h
  by_cases h1 : ltB x.user e.user = true
  · exact .inl h1
  · by_cases h2 : ltB e.user x.user = true
    · simp [h1, h2] at h
    · refine .inr ⟨ltB_tot (by simpa using h1) (by simpa using h2), ?_⟩
      by_cases h3 : x.seq < e.seq
      · have h4 : ¬ e.seq < x.seq := by omega
        simp [h1, h2, h3, h4] at h
      · omega
theorem Ahead.trans {x y z : Ent} (h : Ahead x y) (k : Ahead y z) : Ahead x z := by
  rcases h with h | ⟨h, h'⟩
  · rcases k with k | ⟨k, _⟩
    · exact .inl (ltB_trans h k)
    · exact .inl (by rw [← k]; exact h)
  · rcases k with k | ⟨k, k'⟩
    · exact .inl (by rw [h]; exact k)
    · exact .inr ⟨h.trans k, by omega⟩
theorem ents_ahead {l : List Ent} (h : entsOk l = true) : ∀ (d i : Nat) (x e : Ent), l[i]? = some x → l[i + d + 1]? = some e → Ahead x e
  | 0, i, x, e, hx, he => by
    simp only [entsOk, Bool.and_eq_true] at h
    have := allIx_get h.2 he
    simp only [okEnt, Nat.add_zero, Nat.add_sub_cancel, hx, Bool.and_eq_true, Bool.or_eq_true, decide_eq_true_eq] at this
    exact ahead_of (this.2.resolve_left (by omega))
  | d + 1, i, x, e, hx, he => by
    obtain ⟨y, hy⟩ : ∃ y, l[i + d + 1]? = some y := ⟨_, List.getElem?_eq_getElem (by have := (List.getElem?_eq_some_iff.1 he).1; omega)⟩
    have h1 := ents_ahead h d i x y hx hy
    have h2 := ents_ahead h 0 (i + d + 1) y e hy (by rw [← he]; congr 1)
    exact h1.trans h2
def asOf (u : ByteArray) (s : Int) (e : Ent) : Bool := decide (e.user = u) && decide (e.seq ≤ s)
def needP (l : List Ent) (ps : List Int) (i : Nat) (e : Ent) : Bool := ps.any fun p => decide (e.seq ≤ p) && (decide (i = 0) || match l[i - 1]? with
  | some x => decide (x.user ≠ e.user) || decide (p < x.seq)
  | none => true)
theorem idx_at {α : Type} {p : α → Bool} {l : List α} {k : Nat} : idxF p l = (k : Int) ↔ ∃ e, l[k]? = some e ∧ p e = true ∧ ∀ j e', j < k → l[j]? = some e' → p e' = false := by
  constructor
  · intro h
    unfold idxF at h
    cases hf : l.findIdx? p with
    | none => rw [hf] at h; simp only at h; omega
    | some q =>
      rw [hf] at h
      simp only at h
      have hq : q = k := by omega
      subst hq
      obtain ⟨h1, h2, h3⟩ := List.findIdx?_eq_some_iff_getElem.1 hf
      refine ⟨l[q], List.getElem?_eq_getElem h1, h2, fun j e' hj he' => ?_⟩
      have := h3 j hj
      rw [(List.getElem?_eq_some_iff.1 he').2] at this
      simpa using this
  · rintro ⟨e, he, hp, hn⟩
    exact idx_hit hn he hp
/-- A right row: the first entry of a user as of s is the one whose neighbour is not. -/
theorem idx_asOf {l : List Ent} (h : entsOk l = true) {u : ByteArray} {s : Int} {k : Nat} {e : Ent} (he : l[k]? = some e) : idxF (asOf u s) l = (k : Int) ↔ e.user = u ∧ (decide (e.seq ≤ s) && (decide (k = 0) || match l[k - 1]? with
    | some x => decide (x.user ≠ e.user) || decide (s < x.seq)
    | none => true)) = true := by
  rw [idx_at]
  constructor
  · rintro ⟨e', he', hp, hn⟩
    rw [he] at he'; cases he'
    simp only [asOf, Bool.and_eq_true, decide_eq_true_eq] at hp
    refine ⟨hp.1, ?_⟩
    by_cases hk : k = 0
    · simp [hp.2, hk]
    · obtain ⟨x, hx⟩ : ∃ x, l[k - 1]? = some x := ⟨_, List.getElem?_eq_getElem (by have := (List.getElem?_eq_some_iff.1 he).1; omega)⟩
      have h1 := hn (k - 1) x (by omega) hx
      simp only [asOf, Bool.and_eq_false_iff, decide_eq_false_iff_not] at h1
      simp only [hx, hp.2, hk, decide_true, decide_false, Bool.true_and, Bool.false_or, Bool.or_eq_true, decide_eq_true_eq]
      rcases h1 with h1 | h1
      · exact .inl (by rw [hp.1]; exact h1)
      · exact .inr (by omega)
  · rintro ⟨rfl, hc⟩
    simp only [Bool.and_eq_true, Bool.or_eq_true, decide_eq_true_eq] at hc
    refine ⟨e, he, by simp [asOf, hc.1], fun j e' hj he' => ?_⟩
    have hlt := (List.getElem?_eq_some_iff.1 he).1
    obtain ⟨x, hx⟩ : ∃ x, l[k - 1]? = some x := ⟨_, List.getElem?_eq_getElem (by omega)⟩
    have h1 := hc.2.resolve_left (by omega)
    rw [hx] at h1
    simp only [Bool.or_eq_true, decide_eq_true_eq] at h1
    have hxe := ents_ahead h 0 (k - 1) x e hx (by rw [← he]; congr 1; omega)
    apply Bool.eq_false_iff.2
    intro ha
    simp only [asOf, Bool.and_eq_true, decide_eq_true_eq] at ha
    by_cases hjk : j = k - 1
    · subst hjk
      rw [hx] at he'; cases he'
      rcases h1 with h1 | h1
      · exact h1 ha.1
      · omega
    · have hex := ents_ahead h (k - 1 - j - 1) j e' x he' (by rw [← hx]; congr 1; omega)
      rcases hex with hex | ⟨hex, hs⟩
      · rcases hxe with hxe | ⟨hxe, _⟩
        · have := ltB_trans hex hxe
          rw [ha.1, ltB_irr] at this; cases this
        · rw [hxe, ha.1, ltB_irr] at hex; cases hex
      · rcases h1 with h1 | h1
        · exact h1 (by rw [← hex]; exact ha.1)
        · omega
/-- Of neighbours that are the same, the first: up to place n. -/
def compactN {α : Type} [DecidableEq α] (l : List α) : Nat → List α
  | 0 => []
  | j + 1 => match l[j]? with
    | some y => if j ≠ 0 ∧ l[j - 1]? = some y then compactN l j else compactN l j ++ [y]
    | none => compactN l j
def compactF {α : Type} [DecidableEq α] (l : List α) : List α := compactN l l.length
theorem compactN_mem {α : Type} [DecidableEq α] {l : List α} {u : α} : ∀ {n : Nat}, u ∈ compactN l n ↔ ∃ j, j < n ∧ l[j]? = some u
  | 0 => by simp [compactN]
  | n + 1 => by
    have ih := compactN_mem (l := l) (u := u) (n := n)
    rw [compactN]
    cases hy : l[n]? with
    | none =>
      simp only [ih]
      constructor
      · rintro ⟨j, hj, h⟩; exact ⟨j, by omega, h⟩
      · rintro ⟨j, hj, h⟩
        by_cases hjn : j = n
        · subst hjn; rw [hy] at h; cases h
        · exact ⟨j, by omega, h⟩
    | some y =>
      simp only []
      by_cases hd : n ≠ 0 ∧ l[n - 1]? = some y
      · rw [if_pos hd, ih]
        constructor
        · rintro ⟨j, hj, h⟩; exact ⟨j, by omega, h⟩
        · rintro ⟨j, hj, h⟩
          by_cases hjn : j = n
          · subst hjn; rw [hy] at h; cases h
            exact ⟨j - 1, by omega, hd.2⟩
          · exact ⟨j, by omega, h⟩
      · rw [if_neg hd, List.mem_append, ih, List.mem_singleton]
        constructor
        · rintro (⟨j, hj, h⟩ | rfl)
          · exact ⟨j, by omega, h⟩
          · exact ⟨n, by omega, hy⟩
        · rintro ⟨j, hj, h⟩
          by_cases hjn : j = n
          · subst hjn; rw [hy] at h; cases h; exact .inr rfl
          · exact .inl ⟨j, by omega, h⟩
theorem compact_mem {α : Type} [DecidableEq α] {u : α} {l : List α} : u ∈ compactF l ↔ u ∈ l := by
  rw [compactF, compactN_mem]
  constructor
  · rintro ⟨j, _, h⟩; exact List.mem_of_getElem? h
  · intro h
    obtain ⟨j, hj⟩ := List.getElem?_of_mem h
    exact ⟨j, (List.getElem?_eq_some_iff.1 hj).1, hj⟩
theorem compactN_len {α : Type} [DecidableEq α] (l : List α) : ∀ n, (compactN l n).length ≤ n
  | 0 => Nat.le_refl _
  | n + 1 => by
    have := compactN_len l n
    rw [compactN]
    split
    · split
      · omega
      · simp only [List.length_append, List.length_cons, List.length_nil]; omega
    · omega
theorem compactN_dup {α : Type} [DecidableEq α] {l : List α} {j : Nat} {x y : α} (h1 : 1 ≤ j) (hx : l[j - 1]? = some x) (hy : l[j]? = some y) (h : y = x) : compactN l (j + 1) = compactN l j := by
  rw [compactN, hy]
  simp only []
  rw [if_pos ⟨by omega, by rw [hx, h]⟩]
theorem compactN_new {α : Type} [DecidableEq α] {l : List α} {j : Nat} {x y : α} (hx : l[j - 1]? = some x) (hy : l[j]? = some y) (h : ¬ y = x) : compactN l (j + 1) = compactN l j ++ [y] := by
  rw [compactN, hy]
  simp only []
  rw [if_neg (fun hd => h (by rw [hx] at hd; exact (Option.some.inj hd.2).symm))]
def usersF (l : List Ent) : List ByteArray := compactF (l.map (·.user))
/-- The places are needed that some user's look as of some point finds. -/
theorem need_iff {l : List Ent} {ps : List Int} (h : entsOk l = true) {k : Nat} {e : Ent} (he : l[k]? = some e) : ((usersF l).any fun u => ps.any fun s => decide (idxF (asOf u s) l = (k : Int))) = needP l ps k e := by
  rw [Bool.eq_iff_iff]
  simp only [List.any_eq_true, decide_eq_true_eq, needP]
  constructor
  · rintro ⟨u, _, s, hs, hi⟩
    exact ⟨s, hs, ((idx_asOf h he).1 hi).2⟩
  · rintro ⟨s, hs, hc⟩
    exact ⟨e.user, compact_mem.2 (List.mem_map.2 ⟨e, List.mem_of_getElem? he, rfl⟩), s, hs, (idx_asOf h he).2 ⟨rfl, hc⟩⟩
/-- The needed places. -/
def needF (l : List Ent) (ps : List Int) : Nat → List Int
  | 0 => []
  | i + 1 => needF l ps i ++ match l[i]? with
    | some e => if needP l ps i e = true then [(i : Int)] else []
    | none => []
def pointsF (s : List Int) : List Int := s ++ [1000000000000]
def neededF (l : List Ent) (s : List Int) : List Int := if entsOk l = true ∧ snapsOk s = true then needF l (pointsF s) l.length else []
end Go.Rl

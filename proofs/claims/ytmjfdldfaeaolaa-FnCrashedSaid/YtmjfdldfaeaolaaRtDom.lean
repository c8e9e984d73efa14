/- Promises of functions, proved by walks over their operations; no conditions beyond those that each theorem states. -/
import Derived.Test.YtmjfdldfaeaolaaRlT
namespace Go.Rl
theorem bnot_t {b : Bool} (h : (!b) = true) : b = false := by cases b <;> simp_all
theorem bnot_f {b : Bool} (h : (!b) = false) : b = true := by cases b <;> simp_all
structure Slot where
  name : ByteArray
  size : Int
  pins : Int
  deriving DecidableEq
def Slot.pv (s : Slot) : List PV := [.v (.string s.name), .v (.int .i64 s.size), .v (.int .i64 s.pins)]
def pvS (l : List Slot) : List (List PV) := l.map Slot.pv
theorem pvS_length (l : List Slot) : (pvS l).length = l.length := by simp [pvS]
theorem pvS_get {l : List Slot} {i : Nat} {e : Slot} (h : l[i]? = some e) : (pvS l)[i]? = some e.pv := by simp [pvS, h]
def usedF (l : List Slot) : Int := (l.map (·.size)).sum
theorem used_step {l : List Slot} {i : Nat} {e : Slot} (h : l[i]? = some e) : usedF (l.take i) + e.size = usedF (l.take (i + 1)) := by
  simp [usedF, List.take_add_one, h]
theorem used_all {l : List Slot} {i : Nat} (h : l.length ≤ i) : usedF (l.take i) = usedF l := by rw [List.take_of_length_le h]
theorem used_le {l : List Slot} (hb : ∀ s ∈ l, 0 ≤ s.size ∧ s.size ≤ 100000) (i : Nat) : 0 ≤ usedF (l.take i) ∧ usedF (l.take i) ≤ 100000 * i := by
  induction i with
  | zero => simp [usedF]
  | succ i ih =>
    cases h : l[i]? with
    | none =>
      have h2 : l.length ≤ i := by simpa using h
      rw [used_all (by omega), ← used_all h2]
      omega
    | some e =>
      rw [← used_step h]
      have := hb e (List.mem_of_getElem? h)
      omega
def within (n low high : Int) : Bool := decide (low ≤ n) && decide (n ≤ high)
def isUser (s : ByteArray) : Bool := decide ((1 : Int) ≤ (s.size : Int)) && decide ((s.size : Int) ≤ 40)
def isSlot (s : ByteArray) (n : Int) : Bool := isUser s && within n 1 100000
/-- The first place where p holds, or -1. -/
def idxF {α : Type} (p : α → Bool) (l : List α) : Int := match l.findIdx? p with
  | some i => (i : Int)
  | none => -1
theorem idx_step {α : Type} {p : α → Bool} {l : List α} {i : Nat} {e : α} (h : ∀ j e, j < i → l[j]? = some e → p e = false) (he : l[i]? = some e) (hp : p e = false) : ∀ j e, j < i + 1 → l[j]? = some e → p e = false := fun j e' hj hl => by
  by_cases hji : j = i
  · subst hji; rw [he] at hl; cases hl; exact hp
  · exact h j e' (by omega) hl
theorem idx_hit {α : Type} {p : α → Bool} {l : List α} {i : Nat} {e : α} (h : ∀ j e, j < i → l[j]? = some e → p e = false) (he : l[i]? = some e) (hp : p e = true) : idxF p l = (i : Int) := by
  have hlt := (List.getElem?_eq_some_iff.1 he).1
  have : l.findIdx? p = some i := by
    rw [List.findIdx?_eq_some_iff_getElem]
    refine ⟨hlt, ?_, fun j hj => ?_⟩
    · rw [(List.getElem?_eq_some_iff.1 he).2]; exact hp
    · have := h j _ hj (List.getElem?_eq_getElem (by omega))
      simp [this]
  simp [idxF, this]
theorem idx_none {α : Type} {p : α → Bool} {l : List α} {i : Nat} (hi : l.length ≤ i) (h : ∀ j e, j < i → l[j]? = some e → p e = false) : idxF p l = -1 := by
  have : l.findIdx? p = none := by
    rw [List.findIdx?_eq_none_iff]
    intro x hx
    obtain ⟨j, hj⟩ := List.getElem?_of_mem hx
    exact h j x (by have := (List.getElem?_eq_some_iff.1 hj).1; omega) hj
  simp [idxF, this]
theorem idx_any {α : Type} (p : α → Bool) (l : List α) : decide ((0 : Int) ≤ idxF p l) = l.any p := by
  unfold idxF
  cases h : l.findIdx? p with
  | none =>
    have := List.findIdx?_eq_none_iff.1 h
    have h2 : l.any p = false := by simpa using this
    rw [h2]
    rfl
  | some i =>
    obtain ⟨hlt, hp, _⟩ := List.findIdx?_eq_some_iff_getElem.1 h
    have h2 : l.any p = true := List.any_eq_true.2 ⟨_, List.getElem_mem hlt, hp⟩
    rw [h2]
    simp
theorem pvS_flat (l : List Slot) : FlatP (pvS l) := fun es he p hp => by
  obtain ⟨s, _, rfl⟩ := List.mem_map.1 he
  simp only [Slot.pv, List.mem_cons, List.not_mem_nil, or_false] at hp
  rcases hp with rfl | rfl | rfl <;> rfl
theorem slot_eq {a b : Slot} (h1 : a.name = b.name) (h2 : a.size = b.size) (h3 : a.pins = b.pins) : a = b := by
  cases a; cases b; simp_all
theorem list_ne {a b : List Slot} {i : Nat} {x y : Slot} (h1 : a[i]? = some x) (h2 : b[i]? = some y) (h : x ≠ y) : a ≠ b := fun e => by
  subst e; rw [h1] at h2; cases h2; exact h rfl
theorem list_all {a b : List Slot} {i : Nat} (hl : a.length = b.length) (hi : a.length ≤ i) (h : ∀ j, j < i → a[j]? = b[j]?) : a = b := by
  apply List.ext_getElem?
  intro j
  rcases Nat.lt_or_ge j i with h1 | h1
  · exact h j h1
  · rw [List.getElem?_eq_none (by omega), List.getElem?_eq_none (by omega)]
theorem list_step {a b : List Slot} {i : Nat} {x y : Slot} (h : ∀ j, j < i → a[j]? = b[j]?) (h1 : a[i]? = some x) (h2 : b[i]? = some y) (e : x = y) : ∀ j, j < i + 1 → a[j]? = b[j]? := fun j hj => by
  by_cases hji : j = i
  · subst hji; rw [h1, h2, e]
  · exact h j (by omega)
def zSlot : List PV := [.v (.string ⟨#[]⟩), .v (.int .i64 0), .v (.int .i64 0)]
theorem to_get {l : List Slot} {i : Nat} (h : i < l.length) : (pvS (l.take i) ++ List.replicate (l.length - i) zSlot)[i]? = some zSlot := by
  rw [List.getElem?_append_right (by simp [pvS]; omega)]
  simp [pvS, List.getElem?_replicate]
  omega
theorem to_step {l : List Slot} {i : Nat} {e : Slot} (he : l[i]? = some e) : (pvS (l.take i) ++ List.replicate (l.length - i) zSlot).set i (over zSlot 0 e.pv) = pvS (l.take (i + 1)) ++ List.replicate (l.length - (i + 1)) zSlot := by
  have hlt := (List.getElem?_eq_some_iff.1 he).1
  have ho : over zSlot 0 e.pv = e.pv := by simp [over, zSlot, Slot.pv]
  rw [ho]
  have hl : (pvS (l.take i)).length = i := by simp [pvS]; omega
  rw [List.set_append_right _ _ (by omega), hl, Nat.sub_self]
  have : l.length - i = (l.length - (i + 1)) + 1 := by omega
  rw [this, List.replicate_succ, List.set_cons_zero]
  simp [pvS, List.take_add_one, he]
theorem to_flat {l : List Slot} {n : Nat} : FlatP (pvS l ++ List.replicate n zSlot) := fun es he p hp => by
  rcases List.mem_append.1 he with he | he
  · exact pvS_flat l es he p hp
  · rw [List.eq_of_mem_replicate he] at hp
    simp only [zSlot, List.mem_cons, List.not_mem_nil, or_false] at hp
    rcases hp with rfl | rfl | rfl <;> rfl
theorem to_all {l : List Slot} {i : Nat} (h : l.length ≤ i) : pvS (l.take i) ++ List.replicate (l.length - i) zSlot = pvS l := by
  rw [List.take_of_length_le h, show l.length - i = 0 by omega]
  simp
theorem to_len {l : List Slot} {i : Nat} (h : i ≤ l.length) : l.length = (pvS (l.take i) ++ List.replicate (l.length - i) zSlot).length := by
  simp [pvS]; omega
/-- How much is left of 'left' behind the names. -/
def szF : List Slot → Int → Int
  | [], left => left
  | e :: l, left => if left - (e.name.size : Int) < 0 then -1 else szF l (left - (e.name.size : Int))
def szSlotF (s : Slot) (left : Int) : Int := if left - (s.name.size : Int) < 0 then -1 else left - (s.name.size : Int)
def szSlotsF (l : List Slot) (left : Int) : Int := if left - (l.length : Int) < 0 then -1 else szF l (left - (l.length : Int))
theorem sz_cons {l : List Slot} {i : Nat} {e : Slot} (he : l[i]? = some e) (left : Int) : szF (l.drop i) left = if left - (e.name.size : Int) < 0 then -1 else szF (l.drop (i + 1)) (left - (e.name.size : Int)) := by
  have hlt := (List.getElem?_eq_some_iff.1 he).1
  have : l.drop i = e :: l.drop (i + 1) := by
    rw [List.drop_eq_getElem_cons hlt, (List.getElem?_eq_some_iff.1 he).2]
  rw [this, szF]
theorem to_zero (l : List Slot) : List.replicate (pvS l).length zSlot = pvS (l.take 0) ++ List.replicate (l.length - 0) zSlot := by
  simp [pvS]
theorem sz_next {l : List Slot} {i : Nat} {e : Slot} {x y : Int} (he : l[i]? = some e) (h2 : 0 ≤ x ∧ x ≤ 1048576) (h3 : ¬ szSlotF e x < 0) (h : y = szF (l.drop i) x) : (0 ≤ szSlotF e x ∧ szSlotF e x ≤ 1048576) ∧ y = szF (l.drop (i + 1)) (szSlotF e x) := by
  rw [sz_cons he] at h
  by_cases hx : x - (e.name.size : Int) < 0
  · simp [szSlotF, hx] at h3
  · rw [if_neg hx] at h
    simp only [szSlotF, if_neg hx] at h3 ⊢
    exact ⟨by omega, h⟩
/-- The digits of n ahead of acc. -/
def dig : Nat → Nat → ByteArray → ByteArray
  | 0, _, acc => acc
  | f + 1, n, acc => if n = 0 then acc else dig f (n / 10) (strOf [IntKind.u8.wrap (48 + (n : Int).tmod 10)] ++ acc)
def markT (k : Nat) : ByteArray := if k = 0 then ⟨#[109, 48]⟩ else ⟨#[109]⟩ ++ dig k k ⟨#[]⟩
theorem dig_zero (f : Nat) (acc : ByteArray) : dig f 0 acc = acc := by cases f <;> simp [dig]
theorem quo_nat (n : Nat) (h : n ≤ 1099511627776) : IntKind.i64.wrap ((n : Int).tdiv 10) = ((n / 10 : Nat) : Int) := by
  rw [Int.tdiv_eq_ediv_of_nonneg (by omega), wrap_in (by omega)]
  omega
theorem strOf_one (x : Int) : (strOf [x]).size = 1 := by
  simp [strOf]
theorem size_app (a b : ByteArray) : (a ++ b).size = a.size + b.size := ByteArray.size_append
def markS (k : Nat) (i : Nat) : Slot := ⟨markT (k + 3 * i), ((k + 3 * i : Nat) : Int) + 1, ((k + 3 * i : Nat) : Int) + 1 + 1⟩
def marks (k n : Nat) : List Slot := (List.range n).map (markS k)
theorem marks_len (k n : Nat) : (marks k n).length = n := by simp [marks]
theorem mc_get {k i : Nat} {l : List Slot} {e : Slot} (h : l[i]? = some e) : (pvS (marks k i ++ l.drop i))[i]? = some e.pv := by
  simp [pvS, List.getElem?_append_right, marks_len, h]
theorem mc_step {k i : Nat} {l : List Slot} {e : Slot} (h : l[i]? = some e) : (pvS (marks k i ++ l.drop i)).set i (markS k i).pv = pvS (marks k (i + 1) ++ l.drop (i + 1)) := by
  have hlt := (List.getElem?_eq_some_iff.1 h).1
  have hd : l.drop i = e :: l.drop (i + 1) := by rw [List.drop_eq_getElem_cons hlt, (List.getElem?_eq_some_iff.1 h).2]
  rw [hd]
  simp only [pvS, List.map_append, List.map_cons]
  rw [List.set_append_right _ _ (by simp [marks_len]), List.length_map, marks_len, Nat.sub_self, List.set_cons_zero]
  simp [marks, List.range_succ]
theorem mc_all {k i : Nat} {l : List Slot} (h : l.length ≤ i) (h2 : i ≤ l.length) : marks k i ++ l.drop i = marks k l.length := by
  have : i = l.length := by omega
  subst this
  simp
theorem mc_len {k i : Nat} {l : List Slot} (h : i ≤ l.length) : (marks k i ++ l.drop i).length = l.length := by simp [marks_len]; omega
theorem dig_next {n f : Nat} {acc x : ByteArray} (h : n ≤ f) (h2 : x = dig f n acc) (hn : n ≠ 0) : x = dig (f - 1) (n / 10) (strOf [IntKind.u8.wrap (48 + (n : Int).tmod 10)] ++ acc) := by
  obtain ⟨f', rfl⟩ : ∃ f', f = f' + 1 := ⟨f - 1, by omega⟩
  rw [h2, dig, if_neg hn]
  rfl
theorem marks_get {k n i : Nat} (h : i < n) : (marks k n)[i]? = some (markS k i) := by simp [marks, h]
theorem held_ne {k i : Nat} {l : List Slot} {e : Slot} (h : l[i]? = some e) (hne : e ≠ markS k i) : l ≠ marks k l.length := fun he => by
  have h2 := marks_get (k := k) (List.getElem?_eq_some_iff.1 h).1
  rw [← he, h] at h2
  exact hne (Option.some.inj h2)
theorem held_all {k i : Nat} {l : List Slot} (h : l.length ≤ i) (h2 : ∀ j e, j < i → l[j]? = some e → e = markS k j) : l = marks k l.length := by
  apply List.ext_getElem?
  intro j
  rcases Nat.lt_or_ge j l.length with h1 | h1
  · rw [marks_get h1, List.getElem?_eq_getElem h1, h2 j _ (by omega) (List.getElem?_eq_getElem h1)]
  · rw [List.getElem?_eq_none h1, List.getElem?_eq_none (by rw [marks_len]; exact h1)]
theorem held_step {k i : Nat} {l : List Slot} {e : Slot} (h2 : ∀ j e, j < i → l[j]? = some e → e = markS k j) (h : l[i]? = some e) (n1 : e.name = markT (k + 3 * i)) (n2 : e.size = ((k + 3 * i : Nat) : Int) + 1) (n3 : e.pins = ((k + 3 * i : Nat) : Int) + 1 + 1) : ∀ j e, j < i + 1 → l[j]? = some e → e = markS k j := fun j e' hj he => by
  by_cases hji : j = i
  · subst hji
    rw [h] at he
    cases he
    cases e
    simp_all [markS]
  · exact h2 j e' (by omega) he
def heldF (k : Nat) (l : List Slot) : Int := if l = marks k l.length then ((k + 3 * l.length : Nat) : Int) else -1
theorem held_neg {k : Nat} {l : List Slot} (h : heldF k l < 0) : heldF k l = -1 := by
  unfold heldF at h ⊢
  by_cases he : l = marks k l.length
  · rw [if_pos he] at h; omega
  · rw [if_neg he]
theorem del_len {l : List Slot} {k : Nat} (hk : k < l.length) : ((pvS l).take k ++ (pvS l).drop (k + 1) ++ (pvS l).drop (k + ((pvS l).length - (k + 1)))).length = (pvS l).length := by
  have := pvS_length l
  simp only [List.length_append, List.length_take, List.length_drop]
  omega
theorem del_flat {l : List Slot} {a b c : Nat} : FlatP ((pvS l).take a ++ (pvS l).drop b ++ (pvS l).drop c) := fun es he p hp => by
  rcases List.mem_append.1 he with he | he
  · rcases List.mem_append.1 he with he | he
    · exact pvS_flat l es (List.mem_of_mem_take he) p hp
    · exact pvS_flat l es (List.mem_of_mem_drop he) p hp
  · exact pvS_flat l es (List.mem_of_mem_drop he) p hp
theorem del_flat2 {l : List Slot} {a b c d n : Nat} : ∀ es ∈ ((pvS l).take a ++ (pvS l).drop b ++ (pvS l).drop c).take d ++ List.replicate n zSlot, ∀ p ∈ es, (match p with | .v _ => true | _ => false) = true := fun es he p hp => by
  have : PV.isV p = true := by
    rcases List.mem_append.1 he with he | he
    · exact del_flat es (List.mem_of_mem_take he) p hp
    · rw [List.eq_of_mem_replicate he] at hp
      simp only [zSlot, List.mem_cons, List.not_mem_nil, or_false] at hp
      rcases hp with rfl | rfl | rfl <;> rfl
  cases p <;> first | rfl | cases this
theorem del_le {l : List Slot} {k : Nat} (hk : k < l.length) : k + ((pvS l).length - (k + 1)) ≤ (((pvS l).take k ++ (pvS l).drop (k + 1) ++ (pvS l).drop (k + ((pvS l).length - (k + 1)))).take (k + ((pvS l).length - (k + 1))) ++ List.replicate ((pvS l).length - (k + ((pvS l).length - (k + 1)))) zSlot).length := by
  have := pvS_length l
  simp only [List.length_append, List.length_take, List.length_drop, List.length_replicate]
  omega
theorem del_eq {l : List Slot} {k : Nat} (hk : k < l.length) : (((pvS l).take k ++ (pvS l).drop (k + 1) ++ (pvS l).drop (k + ((pvS l).length - (k + 1)))).take (k + ((pvS l).length - (k + 1))) ++ List.replicate ((pvS l).length - (k + ((pvS l).length - (k + 1)))) zSlot).take (k + ((pvS l).length - (k + 1))) = pvS (l.eraseIdx k) := by
  have h1 := pvS_length l
  have hA : ((pvS l).take k ++ (pvS l).drop (k + 1)).length = k + ((pvS l).length - (k + 1)) := by
    simp only [List.length_append, List.length_take, List.length_drop]; omega
  have hB : (((pvS l).take k ++ (pvS l).drop (k + 1) ++ (pvS l).drop (k + ((pvS l).length - (k + 1)))).take (k + ((pvS l).length - (k + 1)))) = (pvS l).take k ++ (pvS l).drop (k + 1) := by
    rw [← hA, List.take_left]
  rw [hB, List.take_append_of_le_length (by omega), List.take_of_length_le (by omega)]
  simp [pvS, List.eraseIdx_eq_take_drop_succ, List.map_take, List.map_drop]
def nameIs (n : ByteArray) (s : Slot) : Bool := decide (s.name = n)
def okSlot (l : List Slot) (j : Nat) (e : Slot) : Bool := isSlot e.name e.size && within e.pins 0 100000 && decide (idxF (fun s => decide (s.name = e.name)) l = (j : Int))
def okS (l : List Slot) : Bool := (List.range l.length).all fun j => match l[j]? with
  | some e => okSlot l j e
  | none => true
def okC (m : Int) (l : List Slot) : Bool := within m 0 100000 && decide (l.length ≤ 40) && okS l && (decide (usedF l ≤ m) || !l.any fun s => decide (s.pins = 0))
theorem okS_no {l : List Slot} {i : Nat} {e : Slot} (h : l[i]? = some e) (hn : okSlot l i e = false) : okS l = false := by
  apply Bool.eq_false_iff.2
  intro ha
  have := (List.all_eq_true.1 ha) i (List.mem_range.2 (List.getElem?_eq_some_iff.1 h).1)
  rw [h] at this
  simp only at this
  rw [hn] at this
  cases this
theorem okS_yes {l : List Slot} {i : Nat} (hi : l.length ≤ i) (h : ∀ j e, j < i → l[j]? = some e → okSlot l j e = true) : okS l = true := by
  refine List.all_eq_true.2 (fun j hj => ?_)
  have hlt := List.mem_range.1 hj
  rw [List.getElem?_eq_getElem hlt]
  exact h j _ (by omega) (List.getElem?_eq_getElem hlt)
theorem okS_step {l : List Slot} {i : Nat} {e : Slot} (h : ∀ j e, j < i → l[j]? = some e → okSlot l j e = true) (he : l[i]? = some e) (ho : okSlot l i e = true) : ∀ j e, j < i + 1 → l[j]? = some e → okSlot l j e = true := fun j e' hj hl => by
  by_cases hji : j = i
  · subst hji; rw [he] at hl; cases hl; exact ho
  · exact h j e' (by omega) hl
theorem okS_bnd {l : List Slot} (h : okS l = true) : ∀ s ∈ l, 0 ≤ s.size ∧ s.size ≤ 100000 := fun s hs => by
  obtain ⟨j, hj⟩ := List.getElem?_of_mem hs
  have := (List.all_eq_true.1 h) j (List.mem_range.2 (List.getElem?_eq_some_iff.1 hj).1)
  rw [hj] at this
  simp only [okSlot, isSlot, within, Bool.and_eq_true, decide_eq_true_eq] at this
  omega
theorem idx_first {l : List Slot} {i : Nat} {e : Slot} (he : l[i]? = some e) (h : ∀ j e', j < i → l[j]? = some e' → e'.name ≠ e.name) : idxF (fun s => decide (s.name = e.name)) l = (i : Int) :=
  idx_hit (fun j e' hj hl => decide_eq_false (h j e' hj hl)) he (by simp)
theorem idx_later {l : List Slot} {i j : Nat} {e e' : Slot} (hj : j < i) (hl : l[j]? = some e') (hn : e'.name = e.name) : idxF (fun s => decide (s.name = e.name)) l ≠ (i : Int) := fun h => by
  unfold idxF at h
  cases hf : l.findIdx? (fun s => decide (s.name = e.name)) with
  | none => rw [hf] at h; simp only at h; omega
  | some q =>
    rw [hf] at h
    simp only at h
    have hq : q = i := by omega
    subst hq
    obtain ⟨h1, h2, h3⟩ := List.findIdx?_eq_some_iff_getElem.1 hf
    have := h3 j hj
    rw [(List.getElem?_eq_some_iff.1 hl).2] at this
    simp [hn] at this
theorem any_step {l : List Slot} {i : Nat} {e : Slot} (f : Slot → Bool) (h : l[i]? = some e) : (l.take (i + 1)).any f = ((l.take i).any f || f e) := by
  simp [List.take_add_one, h]
theorem any_take {l : List Slot} {i : Nat} (f : Slot → Bool) (h : l.length ≤ i) : (l.take i).any f = l.any f := by rw [List.take_of_length_le h]
theorem nm_step {l : List Slot} {q : Nat} {n : ByteArray} {e' : Slot} (h : ∀ j e', j < q → l[j]? = some e' → e'.name ≠ n) (he : l[q]? = some e') (hn : e'.name ≠ n) : ∀ j e', j < q + 1 → l[j]? = some e' → e'.name ≠ n := fun j e'' hj hl => by
  by_cases hjq : j = q
  · subst hjq; rw [he] at hl; cases hl; exact hn
  · exact h j e'' (by omega) hl
theorem used_pre {l : List Slot} {i : Nat} (h : ∀ j e, j < i → l[j]? = some e → okSlot l j e = true) : 0 ≤ usedF (l.take i) ∧ usedF (l.take i) ≤ 100000 * i := by
  have hb : ∀ s ∈ l.take i, 0 ≤ s.size ∧ s.size ≤ 100000 := fun s hs => by
    obtain ⟨j, hj⟩ := List.getElem?_of_mem hs
    have hlt := (List.getElem?_eq_some_iff.1 hj).1
    rw [List.length_take] at hlt
    rw [List.getElem?_take_of_lt (by omega)] at hj
    have := h j s (by omega) hj
    simp only [okSlot, isSlot, within, Bool.and_eq_true, decide_eq_true_eq] at this
    omega
  have := used_le hb i
  rw [List.take_take, Nat.min_self] at this
  exact this
theorem bfc (b : Bool) : b = false ∨ b = true := by cases b <;> simp
/-- What is left when, from place n down, what is not pinned goes as long as the use is above m. -/
def shedL (m : Int) : Nat → List Slot → List Slot
  | 0, l => l
  | i + 1, l => if m < usedF l then match l[i]? with
    | some e => if e.pins = 0 then shedL m i (l.eraseIdx i) else shedL m i l
    | none => shedL m i l
    else l
theorem shed_done {m : Int} {n : Nat} {l : List Slot} (h : ¬ m < usedF l) : shedL m n l = l := by
  cases n with
  | zero => rfl
  | succ n => rw [shedL, if_neg h]
theorem shed_go {m : Int} {n : Nat} {l : List Slot} {e : Slot} (h : m < usedF l) (he : l[n]? = some e) (hp : e.pins = 0) : shedL m (n + 1) l = shedL m n (l.eraseIdx n) := by
  rw [shedL, if_pos h, he]
  simp only [if_pos hp]
theorem shed_pass {m : Int} {n : Nat} {l : List Slot} {e : Slot} (h : m < usedF l) (he : l[n]? = some e) (hp : e.pins ≠ 0) : shedL m (n + 1) l = shedL m n l := by
  rw [shedL, if_pos h, he]
  simp only [if_neg hp]
theorem shed_skip {m : Int} {l : List Slot} (n k : Nat) (h : ∀ j e, n ≤ j → l[j]? = some e → e.pins ≠ 0) : shedL m (n + k) l = shedL m n l := by
  induction k with
  | zero => rfl
  | succ k ih =>
    by_cases hu : m < usedF l
    · rw [← ih, ← Nat.add_assoc, shedL, if_pos hu]
      cases he : l[n + k]? with
      | none => rfl
      | some e => simp only [if_neg (h _ e (by omega) he)]
    · rw [shed_done hu, shed_done hu]
theorem evict_step {m : Int} {l : List Slot} {k : Nat} {e : Slot} (hu : m < usedF l) (he : l[k]? = some e) (hp : e.pins = 0) (h : ∀ j e, k < j → l[j]? = some e → e.pins ≠ 0) : shedL m l.length l = shedL m (l.eraseIdx k).length (l.eraseIdx k) := by
  have hlt := (List.getElem?_eq_some_iff.1 he).1
  have h1 := shed_skip (m := m) (l := l) (k + 1) (l.length - (k + 1)) (fun j e hj hl => h j e (by omega) hl)
  rw [show k + 1 + (l.length - (k + 1)) = l.length by omega] at h1
  have h2 := shed_skip (m := m) (l := l.eraseIdx k) k (l.length - 1 - k) (fun j e hj hl => by
    rw [List.getElem?_eraseIdx_of_ge hj] at hl
    exact h (j + 1) e (by omega) hl)
  rw [show k + (l.length - 1 - k) = l.length - 1 by omega] at h2
  rw [List.length_eraseIdx_of_lt hlt, h1, h2, shed_go hu he hp]
theorem evict_none {m : Int} {l : List Slot} (h : ∀ j e, 0 ≤ j → l[j]? = some e → e.pins ≠ 0) : shedL m l.length l = l := by
  have := shed_skip (m := m) (l := l) 0 l.length h
  rw [Nat.zero_add] at this
  rw [this]
  rfl
/-- The last place below q whose pins are 0, or -1. -/
def lastF (l : List Slot) : Nat → Int
  | 0 => -1
  | q + 1 => match l[q]? with
    | some e => if e.pins = 0 then (q : Int) else lastF l q
    | none => lastF l q
theorem last_hit {l : List Slot} {q : Nat} {e : Slot} (he : l[q]? = some e) (hp : e.pins = 0) : lastF l (q + 1) = (q : Int) := by
  simp only [lastF, he, if_pos hp]
theorem last_pass {l : List Slot} {q : Nat} {e : Slot} (he : l[q]? = some e) (hp : e.pins ≠ 0) : lastF l (q + 1) = lastF l q := by
  simp only [lastF, he, if_neg hp]
theorem last_spec {l : List Slot} (q : Nat) : (lastF l q = -1 ∧ ∀ j e, j < q → l[j]? = some e → e.pins ≠ 0) ∨ ∃ (k : Nat) (e : Slot), lastF l q = (k : Int) ∧ k < q ∧ l[k]? = some e ∧ e.pins = 0 ∧ ∀ j e', k < j → j < q → l[j]? = some e' → e'.pins ≠ 0 := by
  induction q with
  | zero => exact .inl ⟨rfl, fun _ _ h => absurd h (Nat.not_lt_zero _)⟩
  | succ q ih =>
    cases he : l[q]? with
    | none =>
      have hl : lastF l (q + 1) = lastF l q := by simp only [lastF, he]
      rcases ih with ⟨h1, h2⟩ | ⟨k, e, h1, h2, h3, h4, h5⟩
      · refine .inl ⟨hl.trans h1, fun j e hj hs => ?_⟩
        by_cases hjq : j = q
        · subst hjq; rw [he] at hs; cases hs
        · exact h2 j e (by omega) hs
      · refine .inr ⟨k, e, hl.trans h1, by omega, h3, h4, fun j e' hj hj2 hs => ?_⟩
        by_cases hjq : j = q
        · subst hjq; rw [he] at hs; cases hs
        · exact h5 j e' hj (by omega) hs
    | some x =>
      by_cases hp : x.pins = 0
      · exact .inr ⟨q, x, last_hit he hp, by omega, he, hp, fun j e' hj hj2 _ => absurd hj (by omega)⟩
      · rcases ih with ⟨h1, h2⟩ | ⟨k, e, h1, h2, h3, h4, h5⟩
        · refine .inl ⟨(last_pass he hp).trans h1, fun j e hj hs => ?_⟩
          by_cases hjq : j = q
          · subst hjq; rw [he] at hs; cases hs; exact hp
          · exact h2 j e (by omega) hs
        · refine .inr ⟨k, e, (last_pass he hp).trans h1, by omega, h3, h4, fun j e' hj hj2 hs => ?_⟩
          by_cases hjq : j = q
          · subst hjq; rw [he] at hs; cases hs; exact hp
          · exact h5 j e' hj (by omega) hs
end Go.Rl

/- Promises of functions, proved by walks over their operations; no conditions beyond those that each theorem states. -/
import Derived.Test.YtgdfpjpfomcilaaGreatReN
import Derived.Test.YtgdfpjpfomcilaaGreatReQ
import Derived.Test.YtgdfpjpfomcilaaGreatRlJ
set_option linter.unusedSimpArgs false
set_option linter.unusedVariables false
namespace Go.Rl
section
variable {α : Type} {c : α → α → Int}
structure CmpOk (c : α → α → Int) : Prop where
 tr : ∀ x y z, c x y < 0 → c y z < 0 → c x z < 0
 asy : ∀ x y, c x y < 0 → ¬ c y x < 0
def Dist (c : α → α → Int) (l : List α) : Prop := l.Pairwise (fun x y => c x y < 0 ∨ c y x < 0)
def Srt (c : α → α → Int) (l : List α) : Prop := l.Pairwise (fun x y => c x y < 0)
def insC (c : α → α → Int) (x : α) : List α → List α
 | [] => [x]
 | y :: s => if c x y < 0 then x :: y :: s else y :: insC c x s
def zB4 (c : α → α → Int) : List α → List α
 | [] => []
 | x :: l => insC c x (zB4 c l)
theorem zFZ (x : α) : ∀ s : List α, (insC c x s).Perm (x :: s)
 | [] => .refl _
 | y :: s => by
  unfold insC
  split
  · exact .refl _
  · exact ((zFZ x s).cons y).trans (.swap _ _ _)
theorem zBX : ∀ l : List α, (zB4 c l).Perm l
 | [] => .refl _
 | x :: l => (zFZ x _).trans ((zBX l).cons x)
theorem zBT {l m : List α} (h : m.Perm l) (hl : Dist c l) : Dist c m := (h.pairwise_iff (fun h => h.symm)).2 hl
theorem zI8 (hc : CmpOk c) {x : α} : ∀ {s : List α}, Srt c s → (∀ y ∈ s, c x y < 0 ∨ c y x < 0) → Srt c (insC c x s)
 | [], _, _ => List.pairwise_singleton _ _
 | y :: s, hs, hd => by
  have hs' := List.pairwise_cons.1 hs
  unfold insC
  split
  ·
   rename_i h
   refine List.pairwise_cons.2 ⟨fun z hz => ?_, hs⟩
   rcases List.mem_cons.1 hz with rfl | hz
   · exact h
   · exact hc.tr _ _ _ h (hs'.1 z hz)
  ·
   rename_i h
   have ih := zI8 hc (x := x) hs'.2 (fun z hz => hd z (List.mem_cons_of_mem _ hz))
   refine List.pairwise_cons.2 ⟨fun z hz => ?_, ih⟩
   rcases List.mem_cons.1 ((zFZ x s).mem_iff.1 hz) with rfl | hz
   · exact (hd y (by simp)).resolve_left h
   · exact hs'.1 z hz
theorem zDO (hc : CmpOk c) : ∀ {l : List α}, Dist c l → Srt c (zB4 c l)
 | [], _ => .nil
 | x :: l, h => by
  have h' := List.pairwise_cons.1 h
  exact zI8 hc (zDO hc h'.2) (fun y hy => h'.1 y ((zBX l).mem_iff.1 hy))
theorem zMy (hc : CmpOk c) {a b : List α} (ha : Srt c a) (hb : Srt c b) (h : a.Perm b) : a = b :=
 List.Perm.eq_of_pairwise (fun x y _ _ h1 h2 => absurd h2 (hc.asy _ _ h1)) ha hb h
theorem zGl (hc : CmpOk c) {l m : List α} (hm : Srt c m) (hp : m.Perm l) (hd : Dist c l) : m = zB4 c l := zMy hc hm (zDO hc hd) (hp.trans (zBX l).symm)
def seg (l : List α) (a b : Nat) : List α := (l.drop a).take (b - a)
theorem zCj {l : List α} {a b k : Nat} : (seg l a b)[k]? = if a + k < b then l[a + k]? else none := by
 unfold seg
 rw [List.getElem?_take, List.getElem?_drop]
 by_cases h : k < b - a
 · rw [if_pos h, if_pos (by omega)]
 · rw [if_neg h, if_neg (by omega)]
theorem zDF {l : List α} {a b : Nat} (hb : b ≤ l.length) : (seg l a b).length = b - a := by
 unfold seg
 rw [List.length_take, List.length_drop]
 omega
theorem zJd (l : List α) {a b : Nat} (h : a ≤ b) : l = l.take a ++ seg l a b ++ l.drop b := by
 unfold seg
 rw [List.append_assoc]
 have h1 : l.drop b = (l.drop a).drop (b - a) := by rw [List.drop_drop]; congr 1; omega
 rw [h1, List.take_append_drop, List.take_append_drop]
def SrtI (c : α → α → Int) (l : List α) (a b : Nat) : Prop := ∀ (i j : Nat) x y, a ≤ i → i < j → j < b → l[i]? = some x → l[j]? = some y → c x y < 0
theorem zLv {l : List α} {a b : Nat} (h : SrtI c l a b) : Srt c (seg l a b) := by
 refine List.pairwise_iff_getElem.2 (fun i j hi hj hij => ?_)
 have h1 : (seg l a b)[i]? = some (seg l a b)[i] := List.getElem?_eq_getElem hi
 have h2 : (seg l a b)[j]? = some (seg l a b)[j] := List.getElem?_eq_getElem hj
 rw [zCj] at h1 h2
 split at h1
 ·
  split at h2
  · exact h _ _ _ _ (by omega) (by omega) (by omega) h1 h2
  · cases h2
 · cases h1
theorem zPg {l : List α} {a b : Nat} (h : Srt c (seg l a b)) : SrtI c l a b := fun i j x y ha hij hb hx hy => by
 have h1 : (seg l a b)[i - a]? = some x := by rw [zCj, if_pos (by omega), show a + (i - a) = i by omega]; exact hx
 have h2 : (seg l a b)[j - a]? = some y := by rw [zCj, if_pos (by omega), show a + (j - a) = j by omega]; exact hy
 obtain ⟨h3, rfl⟩ := List.getElem?_eq_some_iff.1 h1
 obtain ⟨h4, rfl⟩ := List.getElem?_eq_some_iff.1 h2
 exact List.pairwise_iff_getElem.1 h _ _ h3 h4 (by omega)
def zPI (c : α → α → Int) (l : List α) : Prop := ∀ (i j : Nat) x y, i ≠ j → l[i]? = some x → l[j]? = some y → c x y < 0 ∨ c y x < 0
theorem zFf {l : List α} (h : Dist c l) : zPI c l := fun i j x y hij hx hy => by
 obtain ⟨h3, rfl⟩ := List.getElem?_eq_some_iff.1 hx
 obtain ⟨h4, rfl⟩ := List.getElem?_eq_some_iff.1 hy
 rcases Nat.lt_or_gt_of_ne hij with h1 | h1
 · exact List.pairwise_iff_getElem.1 h _ _ h3 h4 h1
 · exact (List.pairwise_iff_getElem.1 h _ _ h4 h3 h1).symm
structure Res (l m : List α) (a b : Nat) : Prop where
 perm : m.Perm l
 out : ∀ k, (k < a ∨ b ≤ k) → m[k]? = l[k]?
theorem Res.len {l m : List α} {a b : Nat} (h : Res l m a b) : m.length = l.length := h.perm.length_eq
theorem Res.refl (l : List α) (a b : Nat) : Res l l a b := ⟨.refl _, fun _ _ => rfl⟩
theorem Res.trans {l m k : List α} {a b : Nat} (h : Res l m a b) (g : Res m k a b) : Res l k a b := ⟨g.perm.trans h.perm, fun i hi => (g.out i hi).trans (h.out i hi)⟩
theorem Res.wide {l m : List α} {a b a' b' : Nat} (h : Res l m a b) (ha : a' ≤ a) (hb : b ≤ b') : Res l m a' b' := ⟨h.perm, fun k hk => h.out k (by omega)⟩
theorem zNq {m : List α} {i j : Nat} {x y : α} (hx : m[i]? = some x) (hy : m[j]? = some y) : ((m.set i y).set j x).Perm m := by
 obtain ⟨h3, rfl⟩ := List.getElem?_eq_some_iff.1 hx
 obtain ⟨h4, rfl⟩ := List.getElem?_eq_some_iff.1 hy
 exact List.set_set_perm h3 h4
theorem zDR {m : List α} {i j : Nat} {x y : α} (hx : m[i]? = some x) (hy : m[j]? = some y) (k : Nat) : ((m.set i y).set j x)[k]? = if k = j then some x else if k = i then some y else m[k]? := by
 have hi := (List.getElem?_eq_some_iff.1 hx).1
 have hj := (List.getElem?_eq_some_iff.1 hy).1
 rw [List.getElem?_set]
 by_cases h1 : j = k
 · rw [if_pos h1, List.length_set, if_pos hj, if_pos h1.symm]
 ·
  rw [if_neg h1, if_neg (fun h => h1 h.symm), List.getElem?_set]
  by_cases h2 : i = k
  · rw [if_pos h2, if_pos hi, if_pos h2.symm]
  · rw [if_neg h2, if_neg (fun h => h2 h.symm)]
theorem Res.swap {l m : List α} {a b i j : Nat} {x y : α} (h : Res l m a b) (hx : m[i]? = some x) (hy : m[j]? = some y) (hi : a ≤ i ∧ i < b) (hj : a ≤ j ∧ j < b) : Res l ((m.set i y).set j x) a b :=
 ⟨(zNq hx hy).trans h.perm, fun k hk => by rw [zDR hx hy, if_neg (by omega), if_neg (by omega)]; exact h.out k hk⟩
theorem zGg {l m : List α} {a : Nat} (h : ∀ k, k < a → m[k]? = l[k]?) : m.take a = l.take a := List.ext_getElem? (fun k => by
 rw [List.getElem?_take, List.getElem?_take]
 split
 · exact h k ‹_›
 · rfl)
theorem zHP {l m : List α} {b : Nat} (h : ∀ k, b ≤ k → m[k]? = l[k]?) : m.drop b = l.drop b := List.ext_getElem? (fun k => by
 rw [List.getElem?_drop, List.getElem?_drop]
 exact h _ (by omega))
theorem Res.seg {l m : List α} {a b : Nat} (h : Res l m a b) (hab : a ≤ b) : (Rl.seg m a b).Perm (Rl.seg l a b) := by
 have h1 := h.perm
 rw [zJd m hab, zJd l hab, zGg (fun k hk => h.out k (.inl hk)), zHP (fun k hk => h.out k (.inr hk))] at h1
 exact (List.perm_append_left_iff _).1 ((List.perm_append_right_iff _).1 h1)
theorem Res.from {l m : List α} {a b k : Nat} {x : α} (h : Res l m a b) (hk : a ≤ k ∧ k < b) (hx : m[k]? = some x) : ∃ k', a ≤ k' ∧ k' < b ∧ l[k']? = some x := by
 have h1 : x ∈ Rl.seg m a b := List.mem_of_getElem? (i := k - a) (by rw [zCj, if_pos (by omega), show a + (k - a) = k by omega]; exact hx)
 obtain ⟨q, hq⟩ := List.getElem?_of_mem ((h.seg (by omega)).mem_iff.1 h1)
 rw [zCj] at hq
 split at hq
 · exact ⟨a + q, by omega, by omega, hq⟩
 · cases hq
def srtS (c : α → α → Int) (l : List α) (a b : Nat) : List α := l.take a ++ zB4 c (seg l a b) ++ l.drop b
theorem zDD (hc : CmpOk c) {l m : List α} {a b : Nat} (hab : a ≤ b) (h : Res l m a b) (hs : SrtI c m a b) (hd : Dist c l) : m = srtS c l a b := by
 rw [zJd m hab, zGg (fun k hk => h.out k (.inl hk)), zHP (fun k hk => h.out k (.inr hk))]
 unfold srtS
 rw [zGl hc (zLv hs) (h.seg hab) (hd.sublist ((List.take_sublist _ _).trans (List.drop_sublist _ _)))]
theorem zCh (l : List α) {a b : Nat} (hab : a ≤ b) (hb : b ≤ l.length) : Res l (srtS c l a b) a b := by
 have hl : (zB4 c (seg l a b)).length = b - a := by rw [(zBX _).length_eq, zDF hb]
 refine ⟨?_, fun k hk => ?_⟩
 ·
  unfold srtS
  have h2 : (l.take a ++ zB4 c (seg l a b) ++ l.drop b).Perm (l.take a ++ seg l a b ++ l.drop b) := (List.perm_append_right_iff _).2 ((List.perm_append_left_iff _).2 (zBX _))
  rwa [← zJd l hab] at h2
 ·
  unfold srtS
  have hta : (l.take a).length = a := by rw [List.length_take]; omega
  rcases hk with hk | hk
  · rw [List.append_assoc, List.getElem?_append_left (by omega), List.getElem?_take, if_pos hk]
  ·
   rw [List.getElem?_append_right (by rw [List.length_append]; omega), List.getElem?_drop, List.length_append, hta, hl]
   congr 1
   omega
theorem zEY (hc : CmpOk c) {l : List α} {a b : Nat} (hab : a ≤ b) (hb : b ≤ l.length) (hd : Dist c l) : SrtI c (srtS c l a b) a b := by
 refine zPg ?_
 have hl : (zB4 c (seg l a b)).length = b - a := by rw [(zBX _).length_eq, zDF hb]
 have hta : (l.take a).length = a := by rw [List.length_take]; omega
 have : seg (srtS c l a b) a b = zB4 c (seg l a b) := by
  refine List.ext_getElem? (fun k => ?_)
  rw [zCj]
  unfold srtS
  by_cases h : a + k < b
  ·
   rw [if_pos h, List.append_assoc, List.getElem?_append_right (by omega), List.getElem?_append_left (by omega), hta]
   congr 1
   omega
  · rw [if_neg h, List.getElem?_eq_none (by omega)]
 rw [this]
 exact zDO hc (hd.sublist ((List.take_sublist _ _).trans (List.drop_sublist _ _)))
theorem zIj (hc : CmpOk c) {l : List α} {a b : Nat} (hab : a ≤ b) (hs : SrtI c l a b) (hd : Dist c l) : srtS c l a b = l := (zDD hc hab (Res.refl l a b) hs hd).symm
def Puts (c : α → α → Int) (m : List α) (a i j : Nat) : Prop := (∀ (p q : Nat) x y, a ≤ p → p < q → q ≤ i → p ≠ j → q ≠ j → m[p]? = some x → m[q]? = some y → c x y < 0) ∧ ∀ (q : Nat) x y, j < q → q ≤ i → m[j]? = some x → m[q]? = some y → c x y < 0
theorem zM7 {m : List α} {a i : Nat} (h : SrtI c m a i) : Puts c m a i i :=
 ⟨fun p q x y hp hpq hq _ hqi hx hy => h p q x y hp hpq (by omega) hx hy, fun q x y hj hq => by omega⟩
theorem zOA {m : List α} {a i j : Nat} {x y : α} (h : Puts c m a i j) (hj : a < j) (hi : j ≤ i) (hx : m[j]? = some x) (hy : m[j - 1]? = some y) (hlt : c x y < 0) : Puts c ((m.set j y).set (j - 1) x) a i (j - 1) := by
 obtain ⟨h1, h2⟩ := h
 have hne : ¬ (j = j - 1) := by omega
 refine ⟨fun p q u v hp hpq hq hpj hqj hu hv => ?_, fun q u v hjq hq hu hv => ?_⟩
 ·
  rw [zDR hx hy, if_neg hpj] at hu
  rw [zDR hx hy, if_neg hqj] at hv
  by_cases hp2 : p = j
  ·
   rw [if_pos hp2] at hu
   cases hu
   rw [if_neg (by omega)] at hv
   exact h1 (j - 1) q _ v (by omega) (by omega) hq (by omega) (by omega) hy hv
  ·
   rw [if_neg hp2] at hu
   by_cases hq2 : q = j
   ·
    rw [if_pos hq2] at hv
    cases hv
    exact h1 p (j - 1) u _ hp (by omega) (by omega) hp2 (by omega) hu hy
   ·
    rw [if_neg hq2] at hv
    exact h1 p q u v hp hpq hq hp2 hq2 hu hv
 ·
  rw [zDR hx hy, if_pos rfl] at hu
  cases hu
  rw [zDR hx hy, if_neg (by omega)] at hv
  by_cases hq2 : q = j
  ·
   rw [if_pos hq2] at hv
   cases hv
   exact hlt
  ·
   rw [if_neg hq2] at hv
   exact h2 q x v (by omega) hq hx hv
theorem zMA (hc : CmpOk c) {m : List α} {a i j : Nat} (h : Puts c m a i j) (ha : a ≤ j) (hd : zPI c m) (he : a < j → ∀ x y, m[j]? = some x → m[j - 1]? = some y → ¬ c x y < 0) : SrtI c m a (i + 1) := fun p q u v hp hpq hq hu hv => by
 by_cases hpj : p = j
 · subst hpj; exact h.2 q u v hpq (by omega) hu hv
 ·
  by_cases hqj : q = j
  ·
   subst hqj
   obtain ⟨y, hy⟩ : ∃ y, m[q - 1]? = some y := ⟨_, List.getElem?_eq_getElem (by have := (List.getElem?_eq_some_iff.1 hv).1; omega)⟩
   have h1 : c y v < 0 := (hd (q - 1) q y v (by omega) hy hv).resolve_right (he (by omega) v y hv hy)
   by_cases hp1 : p = q - 1
   · subst hp1; rw [hu] at hy; cases hy; exact h1
   · exact hc.tr _ _ _ (h.1 p (q - 1) u y hp (by omega) (by omega) hpj (by omega) hu hy) h1
  · exact h.1 p q u v hp hpq (by omega) hpj hqj hu hv
def swpL (l : List α) (a b n : Nat) : List α := l.take a ++ seg l b (b + n) ++ seg l (a + n) b ++ seg l a (a + n) ++ l.drop (b + n)
theorem zMq {p q r s t : List α} {k : Nat} : (p ++ q ++ r ++ s ++ t)[k]? = if k < p.length then p[k]? else if k < p.length + q.length then q[k - p.length]? else if k < p.length + q.length + r.length then r[k - p.length - q.length]? else if k < p.length + q.length + r.length + s.length then s[k - p.length - q.length - r.length]? else t[k - p.length - q.length - r.length - s.length]? := by
 simp only [List.append_assoc, List.getElem?_append]
 repeat' split
 all_goals first | rfl | (exfalso; omega)
theorem zE0 {l : List α} {a b n : Nat} (h1 : a + n ≤ b) (h2 : b + n ≤ l.length) (k : Nat) : (swpL l a b n)[k]? = if a ≤ k ∧ k < a + n then l[b + (k - a)]? else if b ≤ k ∧ k < b + n then l[a + (k - b)]? else l[k]? := by
 unfold swpL
 have e1 : (l.take a).length = a := by rw [List.length_take]; omega
 have e2 := zDF (l := l) (a := b) (b := b + n) (by omega)
 have e3 := zDF (l := l) (a := a + n) (b := b) (by omega)
 have e4 := zDF (l := l) (a := a) (b := a + n) (by omega)
 rw [zMq, e1, e2, e3, e4]
 simp only [zCj, List.getElem?_take, List.getElem?_drop]
 repeat' split
 all_goals first | (exfalso; omega) | rfl | (congr 1; omega)
def rotL (l : List α) (a m b : Nat) : List α := l.take a ++ seg l m b ++ seg l a m ++ l.drop b
theorem zE9 {l : List α} {a m b : Nat} (h1 : a ≤ m) (h2 : m ≤ b) (h3 : b ≤ l.length) (k : Nat) : (rotL l a m b)[k]? = if a ≤ k ∧ k < a + (b - m) then l[k - a + m]? else if a + (b - m) ≤ k ∧ k < b then l[k - (a + (b - m)) + a]? else l[k]? := by
 have e : rotL l a m b = l.take a ++ seg l m b ++ seg l a m ++ [] ++ l.drop b := by simp [rotL]
 have e1 : (l.take a).length = a := by rw [List.length_take]; omega
 have e2 := zDF (l := l) (a := m) (b := b) (by omega)
 have e3 := zDF (l := l) (a := a) (b := m) (by omega)
 have e4 : ([] : List α).length = 0 := rfl
 rw [e, zMq, e1, e2, e3, e4]
 simp only [zCj, List.getElem?_take, List.getElem?_drop]
 repeat' split
 all_goals first | (exfalso; omega) | rfl | (congr 1; omega)
theorem zPj (l : List α) {a m b : Nat} (h1 : a ≤ m) (h2 : m ≤ b) : (rotL l a m b).Perm l := by
 have h : l = l.take a ++ (seg l a m ++ seg l m b) ++ l.drop b := by
  have e : seg l a m ++ seg l m b = seg l a b := by
   refine List.ext_getElem? (fun k => ?_)
   by_cases hm : m ≤ l.length
   ·
    rw [List.getElem?_append, zDF hm]
    split
    · rw [zCj, zCj, if_pos (by omega), if_pos (by omega)]
    ·
     rw [zCj, zCj]
     by_cases hk : a + k < b
     · rw [if_pos (by omega), if_pos hk]; congr 1; omega
     · rw [if_neg (by omega), if_neg hk]
   ·
    have h0 : seg l m b = [] := by unfold seg; rw [List.drop_of_length_le (by omega), List.take_nil]
    rw [h0, List.append_nil, zCj, zCj]
    by_cases hk : a + k < m
    · rw [if_pos hk, if_pos (by omega)]
    ·
     rw [if_neg hk]
     split
     · rw [List.getElem?_eq_none (by omega)]
     · rfl
  rw [e]
  exact zJd l (by omega)
 have h5 : (l.take a ++ (seg l m b ++ seg l a m) ++ l.drop b).Perm (l.take a ++ (seg l a m ++ seg l m b) ++ l.drop b) := (List.perm_append_right_iff _).2 ((List.perm_append_left_iff _).2 List.perm_append_comm)
 rw [← h] at h5
 unfold rotL
 rwa [List.append_assoc (l.take a)]
theorem zL2 {l : List α} {a m b : Nat} (h1 : a ≤ m) (h2 : m ≤ b) (h3 : b ≤ l.length) (h : a = m ∨ m = b) : rotL l a m b = l := List.ext_getElem? (fun k => by
 rw [zE9 h1 h2 h3]
 by_cases c1 : a ≤ k ∧ k < a + (b - m)
 · rw [if_pos c1]; congr 1; omega
 ·
  rw [if_neg c1]
  by_cases c2 : a + (b - m) ≤ k ∧ k < b
  · rw [if_pos c2]; congr 1; omega
  · rw [if_neg c2])
theorem zGh (l : List α) {a b n : Nat} (h1 : a + n ≤ b) (h2 : b + n ≤ l.length) : (swpL l a b n).length = l.length := by
 have e1 : (l.take a).length = a := by rw [List.length_take]; omega
 have e2 := zDF (l := l) (a := b) (b := b + n) (by omega)
 have e3 := zDF (l := l) (a := a + n) (b := b) (by omega)
 have e4 := zDF (l := l) (a := a) (b := a + n) (by omega)
 unfold swpL
 simp only [List.length_append, e1, e2, e3, e4, List.length_drop]
 omega
theorem rot_gt {l d : List α} {a m b i j : Nat} (h1 : j < i) (hi : i ≤ m) (hm : m + j ≤ d.length) (h : rotL d (m - i) m (m + j) = rotL l a m b) : rotL (swpL d (m - i) m j) (m - (i - j)) m (m + j) = rotL l a m b := by
 rw [← h]
 refine List.ext_getElem? (fun k => ?_)
 have hsl := zGh d (a := m - i) (b := m) (n := j) (by omega) hm
 rw [zE9 (by omega) (by omega) (by omega), zE9 (by omega) (by omega) hm]
 simp only [zE0 (l := d) (a := m - i) (b := m) (n := j) (by omega) hm]
 repeat' split
 all_goals first | (exfalso; omega) | rfl | (congr 1; omega)
theorem rot_lt {l d : List α} {a m b i j : Nat} (h1 : i < j) (hi : i ≤ m) (hm : m + j ≤ d.length) (h : rotL d (m - i) m (m + j) = rotL l a m b) : rotL (swpL d (m - i) (m + j - i) i) (m - i) m (m + (j - i)) = rotL l a m b := by
 rw [← h]
 refine List.ext_getElem? (fun k => ?_)
 have hsl := zGh d (a := m - i) (b := m + j - i) (n := i) (by omega) (by omega)
 rw [zE9 (by omega) (by omega) (by omega), zE9 (by omega) (by omega) hm]
 simp only [zE0 (l := d) (a := m - i) (b := m + j - i) (n := i) (by omega) (by omega)]
 repeat' split
 all_goals first | (exfalso; omega) | rfl | (congr 1; omega)
theorem rot_eq {l d : List α} {a m b i : Nat} (hi : i ≤ m) (hm : m + i ≤ d.length) (h : rotL d (m - i) m (m + i) = rotL l a m b) : swpL d (m - i) m i = rotL l a m b := by
 rw [← h]
 refine List.ext_getElem? (fun k => ?_)
 rw [zE9 (by omega) (by omega) hm, zE0 (by omega) hm]
 repeat' split
 all_goals first | (exfalso; omega) | rfl | (congr 1; omega)
end
end Go.Rl
namespace Go.Rl
section
variable {α : Type} {c : α → α → Int}
def MovU (l m : List α) (a k : Nat) (x : α) : Prop := ∀ q, m[q]? = if a ≤ q ∧ q < k then l[q + 1]? else if q = k then some x else l[q]?
theorem zND {l : List α} {a : Nat} {x : α} (hx : l[a]? = some x) : MovU l l a a x := fun q => by
 rw [if_neg (by omega)]
 split
 · rename_i h; rw [h]; exact hx
 · rfl
theorem zOQ {l m : List α} {a k : Nat} {x y : α} (h : MovU l m a k x) (ha : a ≤ k) (hx : m[k]? = some x) (hy : m[k + 1]? = some y) : MovU l ((m.set k y).set (k + 1) x) a (k + 1) x := fun q => by
 rw [zDR hx hy, h]
 have hyl : l[k + 1]? = some y := by rw [h, if_neg (by omega), if_neg (by omega)] at hy; exact hy
 by_cases h1 : q = k + 1
 · rw [if_pos h1, if_neg (by omega), if_pos h1]
 ·
  rw [if_neg h1]
  by_cases h2 : q = k
  · rw [if_pos h2, if_pos (by omega), h2, hyl]
  ·
   rw [if_neg h2]
   by_cases h3 : a ≤ q ∧ q < k
   · rw [if_pos h3, if_pos (by omega)]
   · rw [if_neg h3, if_neg h2, if_neg (by omega), if_neg h1]
def BetU (c : α → α → Int) (l : List α) (x : α) (m b i j : Nat) : Prop := (i = m ∨ ∃ y, l[i - 1]? = some y ∧ c y x < 0) ∧ (j = b ∨ ∃ y, l[j]? = some y ∧ ¬ c y x < 0)
theorem zOS (hc : CmpOk c) {l m : List α} {a b i : Nat} {x : α} (hs : SrtI c l (a + 1) b) (hd : zPI c l) (hx : l[a]? = some x) (hi : a + 1 ≤ i ∧ i ≤ b) (hb : BetU c l x (a + 1) b i i) (hm : MovU l m a (i - 1) x) : SrtI c m a b := by
 have lo : ∀ q y, a < q → q < i → l[q]? = some y → c y x < 0 := fun q y h1 h2 hy => by
  rcases hb.1 with h | ⟨z, hz, hzx⟩
  · omega
  ·
   by_cases hq : q = i - 1
   · subst hq; rw [hz] at hy; cases hy; exact hzx
   · exact hc.tr _ _ _ (hs q (i - 1) y z (by omega) (by omega) (by omega) hy hz) hzx
 have hi2 : ∀ q y, i ≤ q → q < b → l[q]? = some y → c x y < 0 := fun q y h1 h2 hy => by
  rcases hb.2 with h | ⟨z, hz, hzx⟩
  · omega
  ·
   have h3 : c x z < 0 := (hd a i x z (by omega) hx hz).resolve_right hzx
   by_cases hq : q = i
   · subst hq; rw [hz] at hy; cases hy; exact h3
   · exact hc.tr _ _ _ h3 (hs i q z y (by omega) (by omega) h2 hz hy)
 intro p q u v hp hpq hq hu hv
 rw [hm] at hu hv
 by_cases p1 : p < i - 1
 ·
  rw [if_pos ⟨hp, p1⟩] at hu
  by_cases q1 : q < i - 1
  ·
   rw [if_pos (by omega)] at hv
   exact hs (p + 1) (q + 1) u v (by omega) (by omega) (by omega) hu hv
  ·
   rw [if_neg (by omega)] at hv
   by_cases q2 : q = i - 1
   ·
    rw [if_pos q2] at hv; cases hv
    exact lo (p + 1) u (by omega) (by omega) hu
   ·
    rw [if_neg q2] at hv
    exact hs (p + 1) q u v (by omega) (by omega) hq hu hv
 ·
  rw [if_neg (by omega)] at hu
  rw [if_neg (by omega), if_neg (by omega)] at hv
  by_cases p2 : p = i - 1
  ·
   rw [if_pos p2] at hu; cases hu
   exact hi2 q v (by omega) hq hv
  ·
   rw [if_neg p2] at hu
   exact hs p q u v (by omega) hpq hq hu hv
def MovD (l m : List α) (b k : Nat) (x : α) : Prop := ∀ q, m[q]? = if k < q ∧ q ≤ b then l[q - 1]? else if q = k then some x else l[q]?
theorem zNE {l : List α} {b : Nat} {x : α} (hx : l[b]? = some x) : MovD l l b b x := fun q => by
 rw [if_neg (by omega)]
 split
 · rename_i h; rw [h]; exact hx
 · rfl
theorem zOR {l m : List α} {b k : Nat} {x y : α} (h : MovD l m b k x) (hb : k ≤ b) (hk : 0 < k) (hx : m[k]? = some x) (hy : m[k - 1]? = some y) : MovD l ((m.set k y).set (k - 1) x) b (k - 1) x := fun q => by
 rw [zDR hx hy, h]
 have hyl : l[k - 1]? = some y := by rw [h, if_neg (by omega), if_neg (by omega)] at hy; exact hy
 by_cases h1 : q = k - 1
 · rw [if_pos h1, if_neg (by omega), if_pos h1]
 ·
  rw [if_neg h1]
  by_cases h2 : q = k
  · rw [if_pos h2, if_pos (by omega), h2, hyl]
  ·
   rw [if_neg h2]
   by_cases h3 : k < q ∧ q ≤ b
   · rw [if_pos h3, if_pos (by omega)]
   · rw [if_neg h3, if_neg h2, if_neg (by omega), if_neg h1]
def BetD (c : α → α → Int) (l : List α) (x : α) (a m i j : Nat) : Prop := (i = a ∨ ∃ y, l[i - 1]? = some y ∧ ¬ c x y < 0) ∧ (j = m ∨ ∃ y, l[j]? = some y ∧ c x y < 0)
theorem zNG (hc : CmpOk c) {l m : List α} {a b i : Nat} {x : α} (hs : SrtI c l a b) (hd : zPI c l) (hx : l[b]? = some x) (hi : a ≤ i ∧ i ≤ b) (hb : BetD c l x a b i i) (hm : MovD l m b i x) : SrtI c m a (b + 1) := by
 have lo : ∀ q y, a ≤ q → q < i → l[q]? = some y → c y x < 0 := fun q y h1 h2 hy => by
  rcases hb.1 with h | ⟨z, hz, hzx⟩
  · omega
  ·
   have h3 : c z x < 0 := (hd (i - 1) b z x (by omega) hz hx).resolve_right hzx
   by_cases hq : q = i - 1
   · subst hq; rw [hz] at hy; cases hy; exact h3
   · exact hc.tr _ _ _ (hs q (i - 1) y z (by omega) (by omega) (by omega) hy hz) h3
 have hi2 : ∀ q y, i ≤ q → q < b → l[q]? = some y → c x y < 0 := fun q y h1 h2 hy => by
  rcases hb.2 with h | ⟨z, hz, hzx⟩
  · omega
  ·
   by_cases hq : q = i
   · subst hq; rw [hz] at hy; cases hy; exact hzx
   · exact hc.tr _ _ _ hzx (hs i q z y (by omega) (by omega) h2 hz hy)
 intro p q u v hp hpq hq hu hv
 rw [hm] at hu hv
 by_cases p1 : p < i
 ·
  rw [if_neg (by omega), if_neg (by omega)] at hu
  by_cases q1 : i < q
  ·
   rw [if_pos (by omega)] at hv
   exact (Nat.lt_or_ge p (q - 1)).elim (fun h => hs p (q - 1) u v hp h (by omega) hu hv) (fun h => by omega)
  ·
   rw [if_neg (by omega)] at hv
   by_cases q2 : q = i
   ·
    rw [if_pos q2] at hv; cases hv
    exact lo p u hp p1 hu
   ·
    rw [if_neg q2] at hv
    exact hs p q u v hp hpq (by omega) hu hv
 ·
  by_cases p2 : p = i
  ·
   rw [if_neg (by omega), if_pos p2] at hu; cases hu
   rw [if_pos (by omega)] at hv
   exact hi2 (q - 1) v (by omega) (by omega) hv
  ·
   rw [if_pos (by omega)] at hu
   rw [if_pos (by omega)] at hv
   exact hs (p - 1) (q - 1) u v (by omega) (by omega) (by omega) hu hv
def BetS (c : α → α → Int) (l : List α) (p s0 r0 s r : Nat) : Prop := (s = s0 ∨ ∃ x y, l[p - (s - 1)]? = some x ∧ l[s - 1]? = some y ∧ ¬ c x y < 0) ∧ (r = r0 ∨ ∃ x y, l[p - r]? = some x ∧ l[r]? = some y ∧ c x y < 0)
def Sm (c : α → α → Int) (l : List α) (i j : Nat) : Prop := ∃ x y, l[i]? = some x ∧ l[j]? = some y ∧ c x y < 0
structure Turned (c : α → α → Int) (l d : List α) (a s mid e b : Nat) : Prop where
 res : Res l d a b
 p1 : SrtI c d a s
 p2 : SrtI c d s mid
 p3 : SrtI c d mid e
 p4 : SrtI c d e b
 ap : ∀ (i j : Nat) x y, a ≤ i → i < mid → mid ≤ j → j < b → d[i]? = some x → d[j]? = some y → c x y < 0
theorem zNk (hc : CmpOk c) {l : List α} {a m b mid s : Nat} (h1 : SrtI c l a m) (h2 : SrtI c l m b) (hd : zPI c l) (ham : a < m) (hmb : m < b) (hbl : b ≤ l.length) (hmid : mid = (a + b) / 2) (hs : s ≤ m ∧ a ≤ s ∧ s ≤ mid ∧ mid + m ≤ s + b)
  (hB : BetS c l (mid + m - 1) (if mid < m then mid + m - b else a) (if mid < m then mid else m) s s) : Turned c l (rotL l s m (mid + m - s)) a s mid (mid + m - s) b := by
 obtain ⟨hs1, hs2, hs3, hs4⟩ := hs
 have he : mid + m - s ≤ l.length := by omega
 have g := zE9 (l := l) (a := s) (m := m) (b := mid + m - s) hs1 (by omega) he
 have left : ∀ q, q < s → (rotL l s m (mid + m - s))[q]? = l[q]? := fun q hq => by rw [g, if_neg (by omega), if_neg (by omega)]
 have b1 : ∀ q, s ≤ q → q < mid → (rotL l s m (mid + m - s))[q]? = l[q - s + m]? := fun q h1 h2 => by rw [g, if_pos (by omega)]
 have a2 : ∀ q, mid ≤ q → q < mid + m - s → (rotL l s m (mid + m - s))[q]? = l[q - mid + s]? := fun q h1 h2 => by rw [g, if_neg (by omega), if_pos (by omega)]; congr 1; omega
 have right : ∀ q, mid + m - s ≤ q → (rotL l s m (mid + m - s))[q]? = l[q]? := fun q hq => by rw [g, if_neg (by omega), if_neg (by omega)]
 -- what is at the seams
 have seam1 : s = m ∨ s = mid ∨ Sm c l (mid + m - 1 - s) s := by
  rcases hB.2 with h | h
  ·
   split at h
   · exact .inr (.inl h)
   · exact .inl h
  · exact .inr (.inr h)
 have seam2 : s = a ∨ mid + m - s = b ∨ (Sm c l (s - 1) (mid + m - s) ∧ a < s) := by
  rcases hB.1 with h | ⟨x, y, hx, hy, hxy⟩
  ·
   clear seam1
   split at h
   · exact .inr (.inl (by omega))
   · exact .inl h
  ·
   by_cases hsa : s = a
   · exact .inl hsa
   ·
    refine .inr (.inr ⟨⟨y, x, hy, ?_, (hd (s - 1) (mid + m - 1 - (s - 1)) y x (by omega) hy hx).resolve_right hxy⟩, by omega⟩)
    rw [show mid + m - s = mid + m - 1 - (s - 1) by omega]
    exact hx
 refine ⟨⟨zPj l hs1 (by omega), fun k hk => ?_⟩, fun p q x y hp hpq hq hx hy => ?_, fun p q x y hp hpq hq hx hy => ?_, fun p q x y hp hpq hq hx hy => ?_, fun p q x y hp hpq hq hx hy => ?_, fun p q x y hp hpm hmq hq hx hy => ?_⟩
 ·
  rcases hk with hk | hk
  · exact left k (by omega)
  · exact right k (by omega)
 ·
  rw [left p (by omega)] at hx
  rw [left q (by omega)] at hy
  exact h1 p q x y hp hpq (by omega) hx hy
 ·
  rw [b1 p hp (by omega)] at hx
  rw [b1 q (by omega) hq] at hy
  exact h2 _ _ x y (by omega) (by omega) (by omega) hx hy
 ·
  rw [a2 p hp (by omega)] at hx
  rw [a2 q (by omega) hq] at hy
  exact h1 _ _ x y (by omega) (by omega) (by omega) hx hy
 ·
  rw [right p hp] at hx
  rw [right q (by omega)] at hy
  exact h2 p q x y (by omega) hpq hq hx hy
 ·
  -- every pair
  by_cases hps : p < s
  ·
   rw [left p hps] at hx
   by_cases hqe : q < mid + m - s
   ·
    rw [a2 q hmq hqe] at hy
    exact h1 p _ x y hp (by omega) (by omega) hx hy
   ·
    rw [right q (by omega)] at hy
    rcases seam2 with h | h | ⟨⟨v, u, hv, hu, huv⟩, has⟩
    · omega
    · omega
    ·
     have e1 : c x u < 0 := by
      by_cases hp1 : p = s - 1
      · subst hp1; rw [hv] at hx; cases hx; exact huv
      · exact hc.tr _ _ _ (h1 p (s - 1) x v hp (by omega) (by omega) hx hv) huv
     by_cases hq1 : q = mid + m - s
     · subst hq1; rw [hu] at hy; cases hy; exact e1
     · exact hc.tr _ _ _ e1 (h2 _ q u y (by omega) (by omega) hq hu hy)
  ·
   rw [b1 p (by omega) hpm] at hx
   by_cases hqe : q < mid + m - s
   ·
    rw [a2 q hmq hqe] at hy
    rcases seam1 with h | h | ⟨u, v, hu, hv, huv⟩
    · omega
    · omega
    ·
     have e1 : c x v < 0 := by
      by_cases hp1 : p - s + m = mid + m - 1 - s
      · rw [hp1, hu] at hx; cases hx; exact huv
      · exact hc.tr _ _ _ (h2 _ _ x u (by omega) (by omega) (by omega) hx hu) huv
     by_cases hq1 : q - mid + s = s
     · rw [hq1, hv] at hy; cases hy; exact e1
     · exact hc.tr _ _ _ e1 (h1 _ _ v y hs2 (by omega) (by omega) hv hy)
   ·
    rw [right q (by omega)] at hy
    exact h2 _ q x y (by omega) (by omega) hq hx hy
theorem zG9 (hc : CmpOk c) {l d : List α} {a s mid e b : Nat} (hl : Dist c l) (h : Turned c l d a s mid e b) (ham : a ≤ mid) (hmb : mid ≤ b) (hb : b ≤ l.length) : srtS c (srtS c d a mid) mid b = srtS c l a b := by
 have hd := zBT h.res.perm hl
 have hdl : d.length = l.length := h.res.len
 have r1 := zCh (c := c) d ham (by omega)
 have hd1 := zBT r1.perm hd
 have r2 := zCh (c := c) (srtS c d a mid) hmb (by rw [r1.len]; omega)
 refine zDD hc (by omega) (h.res.trans ((r1.wide (Nat.le_refl _) hmb).trans (r2.wide ham (Nat.le_refl _)))) (fun p q x y hp hpq hq hx hy => ?_) hl
 have s1 := zEY hc ham (by omega) hd
 have s2 := zEY hc (l := srtS c d a mid) hmb (by rw [r1.len]; omega) hd1
 by_cases hqm : q < mid
 ·
  rw [r2.out q (.inl hqm)] at hy
  rw [r2.out p (.inl (by omega))] at hx
  exact s1 p q x y hp hpq hqm hx hy
 ·
  by_cases hpm : p < mid
  ·
   rw [r2.out p (.inl hpm)] at hx
   obtain ⟨p', h1, h2, h3⟩ := r1.from ⟨hp, hpm⟩ hx
   obtain ⟨q', h4, h5, h6⟩ := r2.from ⟨by omega, hq⟩ hy
   rw [r1.out q' (.inr h4)] at h6
   exact h.ap p' q' x y h1 h2 h4 h5 h3 h6
  · exact s2 p q x y (by omega) hpq hq hx hy
def Blocks (c : α → α → Int) (m : List α) (z a : Nat) : Prop := ∀ q, a ≤ q * z → SrtI c m (q * z) (q * z + z)
end
end Go.Rl
namespace Go.Rl
section
variable {α : Type} {c : α → α → Int}
def Al (z a : Nat) : Prop := ∃ q, a = q * z
theorem zLc (z : Nat) : Al z 0 := ⟨0, by simp⟩
theorem zLd {z a : Nat} (h : Al z a) : Al z (a + z) := by
 obtain ⟨q, rfl⟩ := h
 exact ⟨q + 1, by rw [Nat.succ_mul]⟩
theorem zLe {z a : Nat} (h : Al (2 * z) a) : Al z a := by
 obtain ⟨q, rfl⟩ := h
 exact ⟨q * 2, by rw [Nat.mul_assoc]⟩
theorem zPG {z a p : Nat} (h : Al z a) (hp : Al z p) (hlt : p < a) : p + z ≤ a := by
 obtain ⟨q, rfl⟩ := h
 obtain ⟨r, rfl⟩ := hp
 have h1 : r < q := by
  rcases Nat.lt_or_ge r q with h | h
  · exact h
  · have := Nat.mul_le_mul_right z h; omega
 have := Nat.mul_le_mul_right z h1
 rwa [Nat.succ_mul] at this
def zFq (c : α → α → Int) (m : List α) (z a : Nat) : Prop := ∀ p, Al z p → p + z ≤ a → SrtI c m p (p + z)
def zB3 (c : α → α → Int) (m : List α) (z a : Nat) : Prop := ∀ p, Al z p → a ≤ p → SrtI c m p (p + z)
theorem zEJ {m m' : List α} {a b : Nat} (h : SrtI c m a b) (he : ∀ k, a ≤ k → k < b → m'[k]? = m[k]?) : SrtI c m' a b := fun i j x y hi hij hj hx hy => by
 rw [he i hi (by omega)] at hx
 rw [he j (by omega) hj] at hy
 exact h i j x y hi hij hj hx hy
theorem zGn {m : List α} {a b a' b' : Nat} (h : SrtI c m a b) (ha : a ≤ a') (hb : b' ≤ b) : SrtI c m a' b' := fun i j x y hi hij hj hx hy => h i j x y (by omega) hij (by omega) hx hy
theorem zGm {m : List α} {a b b' : Nat} (h : SrtI c m a b) (hb : m.length ≤ b) : SrtI c m a b' := fun i j x y hi hij _ hx hy => h i j x y hi hij (by have := (List.getElem?_eq_some_iff.1 hy).1; omega) hx hy
theorem zNu {m : List α} {a b : Nat} (h : m.length ≤ a + 1) : SrtI c m a b := fun i j x y hi hij _ _ hy => by have := (List.getElem?_eq_some_iff.1 hy).1; omega
theorem zIW {m m' : List α} {z a : Nat} (ha : Al z a) (h : zFq c m z a) (he : ∀ k, k < a → m'[k]? = m[k]?) (hs : SrtI c m' a (a + z)) : zFq c m' z (a + z) := fun p hp hpa => by
 rcases Nat.lt_trichotomy p a with h1 | h1 | h1
 · exact zEJ (h p hp (zPG ha hp h1)) (fun k _ h2 => he k (by have := zPG ha hp h1; omega))
 · subst h1; exact hs
 · omega
theorem zHZ {m m' : List α} {z a : Nat} (hz : 0 < z) (ha : Al z a) (hn : m'.length ≤ a + z) (h : zFq c m z a) (he : ∀ k, k < a → m'[k]? = m[k]?) (hs : SrtI c m' a (a + z)) : zB3 c m' z 0 := fun p hp _ => by
 rcases Nat.lt_trichotomy p a with h1 | h1 | h1
 · exact zEJ (h p hp (zPG ha hp h1)) (fun k _ h2 => he k (by have := zPG ha hp h1; omega))
 · subst h1; exact hs
 · exact zNu (by have := zPG hp ha h1; omega)
theorem zKR {m m' : List α} {z a b : Nat} (h : zB3 c m z a) (hab : a ≤ b) (he : ∀ k, b ≤ k → m'[k]? = m[k]?) : zB3 c m' z b := fun p hp hb => zEJ (h p hp (by omega)) (fun k hk _ => he k (by omega))
theorem blk_all {m l : List α} {z : Nat} (hc : CmpOk c) (h : zB3 c m z 0) (hz : m.length ≤ z) (hp : m.Perm l) (hd : Dist c l) : m = zB4 c l := by
 have h1 := h 0 (zLc z) (Nat.le_refl _)
 have h2 : SrtI c m 0 m.length := zGn h1 (Nat.le_refl _) (by omega)
 have h3 := zLv h2
 have h4 : seg m 0 m.length = m := by simp [seg]
 rw [h4] at h3
 exact zGl hc h3 hp hd
theorem zIV (m : List α) {z : Nat} (hz : 0 < z) : zFq c m z 0 := fun p _ h => by omega
theorem zOD (hc : CmpOk c) {l m : List α} {z a : Nat} (hz : 0 < z) (ha : Al (2 * z) a) (hr : Res l m 0 l.length) (hd : Dist c l) (hT : zFq c m (2 * z) a) (hF : zB3 c m z a) (hb : a + 2 * z ≤ l.length) :
  Res l (srtS c m a (a + 2 * z)) 0 l.length ∧ zFq c (srtS c m a (a + 2 * z)) (2 * z) (a + 2 * z) ∧ zB3 c (srtS c m a (a + 2 * z)) z (a + 2 * z) := by
 have hdm := zBT hr.perm hd
 have hl := hr.len
 have r := zCh (c := c) m (a := a) (b := a + 2 * z) (by omega) (by omega)
 exact ⟨hr.trans (r.wide (Nat.zero_le _) (by omega)), zIW ha hT (fun k hk => r.out k (.inl hk)) (zEY hc (by omega) (by omega) hdm), zKR hF (by omega) (fun k hk => r.out k (.inr hk))⟩
theorem zD0 {m : List α} {z a : Nat} (ha : Al (2 * z) a) (hF : zB3 c m z a) : SrtI c m a (a + z) ∧ SrtI c m (a + z) (a + z + z) := ⟨hF a (zLe ha) (Nat.le_refl _), hF (a + z) (zLd (zLe ha)) (by omega)⟩
theorem zPv (hc : CmpOk c) {l m : List α} {z a : Nat} (hz : 0 < z) (ha : Al (2 * z) a) (hr : Res l m 0 l.length) (hd : Dist c l) (hT : zFq c m (2 * z) a) (hn : l.length < a + 2 * z) (hm : a + z < l.length) : Res l (srtS c m a l.length) 0 l.length ∧ zB3 c (srtS c m a l.length) (2 * z) 0 := by
 have hdm := zBT hr.perm hd
 have hl := hr.len
 have r := zCh (c := c) m (a := a) (b := l.length) (by omega) (by omega)
 refine ⟨hr.trans (r.wide (Nat.zero_le _) (Nat.le_refl _)), zHZ (by omega) ha (by rw [r.len]; omega) hT (fun k hk => r.out k (.inl hk)) (zGm (zEY hc (by omega) (by omega) hdm) (by rw [r.len]; omega))⟩
theorem zOE {l m : List α} {z a : Nat} (hz : 0 < z) (ha : Al (2 * z) a) (hr : Res l m 0 l.length) (hT : zFq c m (2 * z) a) (hF : zB3 c m z a) (hn : l.length < a + 2 * z) (hm : l.length ≤ a + z) : zB3 c m (2 * z) 0 := by
 have hl := hr.len
 exact zHZ (by omega) ha (by omega) hT (fun _ _ => rfl) (zGm (hF a (zLe ha) (Nat.le_refl _)) (by omega))
end
end Go.Rl
namespace Go.Rl
open Go.Proofs Go.Proofs.Tryz
set_option maxRecDepth 1000000
set_option maxHeartbeats 2000000
theorem en115 : En Tryz.prog 115 := zAm func115 (by decide) rfl
theorem zJZ {l m : List Ent} {a b n i : Nat} {x y : Ent} (h1 : a + n ≤ b) (h2 : b + n ≤ l.length) (hi : i < n) (h : m = swpL l a b i) (hx : m[a + i]? = some x) (hy : m[b + i]? = some y) : (m.set (a + i) y).set (b + i) x = swpL l a b (i + 1) := by
 refine List.ext_getElem? (fun k => ?_)
 rw [zDR hx hy]
 subst h
 rw [zE0 (by omega) (by omega)] at hx hy
 rw [zE0 (by omega) (by omega), zE0 (by omega) (by omega)]
 rw [if_neg (by omega), if_neg (by omega)] at hx hy
 by_cases c1 : k = b + i
 · rw [if_pos c1, if_neg (by omega), if_pos (by omega), ← hx]; congr 1; omega
 ·
  rw [if_neg c1]
  by_cases c2 : k = a + i
  · rw [if_pos c2, if_pos (by omega), ← hy]; congr 1; omega
  ·
   rw [if_neg c2]
   repeat' split
   all_goals first | (exfalso; omega) | rfl
theorem zJY (l : List Ent) {a b : Nat} (h : b ≤ l.length) (hab : a ≤ b) : l = swpL l a b 0 := List.ext_getElem? (fun k => by rw [zE0 (by omega) (by omega), if_neg (by omega), if_neg (by omega)])
theorem zFV {m : List Ent} {i j : Nat} {x y : Ent} : (((pvE m).set i y.pv).set j x.pv) = pvE ((m.set i y).set j x) := by simp [pvE, List.map_set]
theorem zCf (l : List Ent) (hl : l.length ≤ 2000000) (a b n : Nat) (ga : a + n ≤ b) (gb : b + n ≤ l.length) (f : Nat) (pss : List (List PV)) : Con Tryz.prog 115 [.one (.sl true 4 (pvE l)), .one (PV.v (.int .i64 (a:Int))), .one (PV.v (.int .i64 (b:Int))), .one (PV.v (.int .i64 (n:Int))), .one (PV.clo f pss)] [some (pvE (swpL l a b n))] [] := by
 refine zAQ func115 rfl rfl rfl rfl ?_
 have hle := zAF l
 refine zAB (zAA rfl (.a rfl rfl .nil) ?_)
 refine zAS ?_
 refine zAp (σ := Nat × List Ent) (fun (i, m) => mk [(0, .sl 100000 0 ((pvE l).length)), (1, .vi (a:Int)), (2, .vi (b:Int)), (3, .vi (n:Int)), (10, .vi (i:Int))] [] [(100000, 4, pvE m)]) (fun (i, m) => i ≤ n ∧ m = swpL l a b i) (fun (i, m) => n - i) (0, l) ⟨Nat.zero_le _, zJY l (by omega) (by omega)⟩ (zAJ ⟨rfl, rfl, rfl, rfl, (zAL (by omega)), trivial⟩ trivial ⟨(congrArg (fun x => some (4, x)) (by rfl)), trivial⟩ rfl) ?_
 rintro ⟨i, m⟩ hG
 replace hG : i ≤ n ∧ m = swpL l a b i := hG
 obtain ⟨hi, hm⟩ := hG
 have hml : m.length = l.length := by rw [hm]; exact zGh l (by omega) (by omega)
 have hle2 := zAF m
 refine zAB ?_
 refine zAB (zAA rfl (.m rfl rfl (.m rfl rfl (.r rfl (zA4 rfl rfl rfl) .nil))) ?_)
 refine zAZ (t := decide ((i:Int) < (n:Int))) rfl (fun h1 => ?_) (fun h1 => ?_)
 ·
  replace h1 := of_decide_eq_true h1
  refine zAM ?_
  refine zAB ?_
  refine zAS ?_
  obtain ⟨x, hx⟩ : ∃ x, m[a + i]? = some x := ⟨_, List.getElem?_eq_getElem (by omega)⟩
  obtain ⟨y, hy⟩ : ∃ y, m[b + i]? = some y := ⟨_, List.getElem?_eq_getElem (by omega)⟩
  refine zAY (s' := mk [(0, .sl 100000 0 ((pvE l).length)), (1, .vi (a:Int)), (2, .vi (b:Int)), (3, .vi (n:Int)), (10, .vi (i:Int))] [] [(100000, 4, pvE m)]) ?_ ?_
  · exact zAJ ⟨rfl, rfl, rfl, rfl, rfl, trivial⟩ trivial ⟨rfl, trivial⟩ rfl
  refine zAc zBL rfl (.m rfl rfl (.m rfl rfl (.m rfl rfl (.r rfl (zAW (zAf rfl rfl rfl (by omega)) ((zAL (by omega)))) (.m rfl rfl (.m rfl rfl (.m rfl rfl (.r rfl (zAW (zAf rfl rfl rfl (by omega)) ((zAL (by omega)))) (.m rfl rfl (.m rfl rfl (.m rfl rfl (.r rfl (zAW (zAf rfl rfl rfl (by omega)) ((zAL (by omega)))) (.r rfl (zAe (b + i) rfl rfl rfl rfl underlying24 sizeOf56 rfl rfl (by omega)) (.r rfl (zBB rfl rfl rfl (zA0 hy) isAgg56 sizeOf56 (nle rfl)) (.m rfl rfl (.m rfl rfl (.m rfl rfl (.r rfl (zAW (zAf rfl rfl rfl (by omega)) ((zAL (by omega)))) (.r rfl (zAe (a + i) rfl rfl rfl rfl underlying24 sizeOf56 rfl rfl (by omega)) (.r rfl (zBB rfl rfl rfl (zA0 hx) isAgg56 sizeOf56 (nle rfl)) (.r rfl (zAe (a + i) rfl rfl rfl rfl underlying24 sizeOf56 rfl rfl (by omega)) (.r rfl (zBR rfl rfl rfl (FlatP.nf (zAd _)) (zA0 hx) rfl rfl (.cons .v (.cons .v (.cons .v (.cons .v .nil)))) sizeOf56 rfl (nle rfl)) (.r rfl (zAe (b + i) rfl rfl rfl rfl underlying24 sizeOf56 rfl rfl (by omega)) (.r rfl (zBR rfl rfl rfl (FlatP.nf (FlatP.set (i := a + i) (cs := [PV.v (.string y.user), PV.v (.int .i64 y.seq), PV.v (.int .i64 y.kind), PV.v (.string y.value)]) (zAd m) rfl)) (by rw [List.getElem?_set_ne (by omega)]; exact zA0 hy) rfl rfl (.cons .v (.cons .v (.cons .v (.cons .v .nil)))) sizeOf56 rfl (nle rfl)) .nil)))))))))))))))))))))))) (by kernel_rfl) ?_
  refine zAY (s' := mk [(0, .sl 100000 0 ((pvE l).length)), (1, .vi (a:Int)), (2, .vi (b:Int)), (3, .vi (n:Int)), (10, .vi (i:Int))] [] [(100000, 4, ((pvE m).set (a + i) [PV.v (.string y.user), PV.v (.int .i64 y.seq), PV.v (.int .i64 y.kind), PV.v (.string y.value)]).set (b + i) [PV.v (.string x.user), PV.v (.int .i64 x.seq), PV.v (.int .i64 x.kind), PV.v (.string x.value)])]) ?_ ?_
  · exact zAJ ⟨rfl, rfl, rfl, rfl, rfl, trivial⟩ trivial ⟨rfl, trivial⟩ rfl
  refine zAA rfl (.m rfl rfl (.r rfl (zAf rfl rfl rfl (by omega)) (.a rfl rfl .nil))) ?_
  refine nxt (Q := fun _ _ => False) (z := (i, m)) (i + 1, (m.set (a + i) y).set (b + i) x) ?_ ?_ ?_
  ·
   show (i + 1) ≤ n ∧ ((m.set (a + i) y).set (b + i) x) = swpL l a b (i + 1)
   exact ⟨by omega, zJZ ga gb (by omega) hm hx hy⟩
  ·
   show n - (i + 1) < n - i
   omega
  · exact zAJ ⟨rfl, rfl, rfl, rfl, (zAL (by omega)), trivial⟩ trivial ⟨(congrArg (fun x => some (4, x)) (by exact zFV)), trivial⟩ rfl
 ·
  replace h1 := of_decide_eq_false h1
  refine zAx ?_
  exact zJJ [] [] .nil .nil (by decide) (zB7 (congrArg (fun x => some (4, x)) (congrArg pvE (by rw [hm, show i = n by omega]))) (zAd _) (by decide))
theorem zGw (l : List Ent) (hl : l.length ≤ 2000000) (a m b : Nat) (ga : a < m) (gb : m < b) (gc : b ≤ l.length) (f : Nat) (pss : List (List PV)) : Con Tryz.prog 114 [.one (.sl true 4 (pvE l)), .one (PV.v (.int .i64 (a:Int))), .one (PV.v (.int .i64 (m:Int))), .one (PV.v (.int .i64 (b:Int))), .one (PV.clo f pss)] [some (pvE (rotL l a m b))] [] := by
 refine zAQ func114 rfl rfl rfl rfl ?_
 have hle := zAF l
 refine zAB (zAA rfl (.m rfl rfl (.m rfl rfl (.r rfl (zAv rfl rfl rfl (by omega)) (.a rfl rfl .nil)))) ?_)
 refine zAB (zAA rfl (.m rfl rfl (.m rfl rfl (.r rfl (zAv rfl rfl rfl (by omega)) (.a rfl rfl .nil)))) ?_)
 refine zAB ?_
 refine zAS ?_
 refine zAp (σ := Nat × Nat × List Ent) (fun (i, j, d) => mk [(0, .sl 100000 0 ((pvE l).length)), (2, .vi (m:Int)), (4, .p none (.clo f pss)), (10, .vi (i:Int)), (11, .vi (j:Int))] [] [(100000, 4, pvE d)]) (fun (i, j, d) => 0 < i ∧ 0 < j ∧ i ≤ m ∧ m + j ≤ l.length ∧ d.length = l.length ∧ rotL d (m - i) m (m + j) = rotL l a m b) (fun (i, j, d) => i + j) (m - a, b - m, l) ⟨by omega, by omega, by omega, by omega, rfl, by rw [show m - (m - a) = a by omega, show m + (b - m) = b by omega]⟩ (zAJ ⟨rfl, rfl, rfl, (zAL (by omega)), (zAL (by omega)), trivial⟩ trivial ⟨(congrArg (fun x => some (4, x)) (by rfl)), trivial⟩ rfl) ?_
 rintro ⟨i, j, d⟩ hG
 replace hG : 0 < i ∧ 0 < j ∧ i ≤ m ∧ m + j ≤ l.length ∧ d.length = l.length ∧ rotL d (m - i) m (m + j) = rotL l a m b := hG
 obtain ⟨hi, hj, him, hjl, hdl, hR⟩ := hG
 have hle2 := zAF d
 refine zAB ?_
 refine zAB (zAA rfl (.m rfl rfl (.m rfl rfl (.r rfl (zCg rfl rfl rfl) .nil))) ?_)
 refine zAZ (t := (!(decide ((i:Int) = (j:Int))))) rfl (fun h1 => ?_) (fun h1 => ?_)
 ·
  replace h1 : ¬ ((i:Int) = (j:Int)) := of_decide_eq_false (zBF h1)
  refine zAM ?_
  refine zAS ?_
  refine zAB (zAA rfl (.m rfl rfl (.m rfl rfl (.r rfl (zBN rfl rfl rfl) .nil))) ?_)
  refine zAZ (t := decide ((j:Int) < (i:Int))) rfl (fun h2 => ?_) (fun h2 => ?_)
  ·
   replace h2 := of_decide_eq_true h2
   refine zAB (zAA rfl (.m rfl rfl (.m rfl rfl (.m rfl rfl (.r rfl (zAW (zAv rfl rfl rfl (by omega)) ((show AV.p none (.v (.int .i64 (((m : Nat):Int) - ((i : Nat):Int)))) = AV.p none (.v (.int .i64 ((m - i : Nat):Int))) from zAL (by omega)))) (.m rfl rfl (.m rfl rfl (.m rfl rfl (.run [100000] [] rfl (zAK rfl 3100 (X := [100000]) en115 rfl (.val nod) (.cons (.one (.own (len := (pvE l).length) (xs := pvE d) rfl (by first | rfl | omega))) (.cons (.one (.bor .v)) (.cons (.one (.bor .v)) (.cons (.one (.bor .v)) (.cons (.one (.bor (.cl nod))) .nil))))) (by decide) (all_cons rfl all_nil) (.keep (xs := pvE d) rfl (FlatP.nf (zAd _)) .nil) (zCf d (by omega) (m - i) m j (by omega) (by omega) _ _) rfl rfl (nle rfl)) .nil)))))))) ?_)
   refine zAY (s' := mk [(0, .sl 100000 0 ((pvE l).length)), (2, .vi (m:Int)), (4, .p none (.clo f pss)), (10, .vi (i:Int)), (11, .vi (j:Int))] [] [(100000, 4, pvE (swpL d (m - i) m j))]) ?_ ?_
   · exact zAJ ⟨rfl, rfl, rfl, rfl, rfl, trivial⟩ trivial ⟨rfl, trivial⟩ rfl
   refine zAA rfl (.m rfl rfl (.m rfl rfl (.r rfl (zAv rfl rfl rfl (by omega)) (.a rfl rfl .nil)))) ?_
   refine nxt (Q := fun _ _ => False) (z := (i, j, d)) (i - j, j, swpL d (m - i) m j) ?_ ?_ ?_
   ·
    show 0 < (i - j) ∧ 0 < j ∧ (i - j) ≤ m ∧ m + j ≤ l.length ∧ (swpL d (m - i) m j).length = l.length ∧ rotL (swpL d (m - i) m j) (m - (i - j)) m (m + j) = rotL l a m b
    exact ⟨by omega, hj, by omega, hjl, by rw [zGh d (by omega) (by omega)]; exact hdl, rot_gt (by omega) him (by omega) hR⟩
   ·
    show (i - j) + j < i + j
    omega
   · exact zAJ ⟨rfl, rfl, rfl, (zAL (by omega)), (zAL (by omega)), trivial⟩ trivial ⟨(congrArg (fun x => some (4, x)) (by rfl)), trivial⟩ rfl
  ·
   replace h2 := of_decide_eq_false h2
   refine zAB ?_
   refine zAY (s' := mk [(0, .sl 100000 0 ((pvE l).length)), (2, .vi (m:Int)), (4, .p none (.clo f pss)), (10, .vi (i:Int)), (11, .vi (j:Int))] [] [(100000, 4, pvE d)]) ?_ ?_
   · exact zAJ ⟨rfl, rfl, rfl, rfl, rfl, trivial⟩ trivial ⟨rfl, trivial⟩ rfl
   refine zAA rfl (.m rfl rfl (.m rfl rfl (.m rfl rfl (.r rfl (zAW (zAv rfl rfl rfl (by omega)) ((show AV.p none (.v (.int .i64 (((m : Nat):Int) - ((i : Nat):Int)))) = AV.p none (.v (.int .i64 ((m - i : Nat):Int))) from zAL (by omega)))) (.m rfl rfl (.m rfl rfl (.r rfl (zAW (zAf rfl rfl rfl (by omega)) ((show AV.p none (.v (.int .i64 (((m : Nat):Int) + ((j : Nat):Int)))) = AV.p none (.v (.int .i64 ((m + j : Nat):Int))) from zAL (by omega)))) (.m rfl rfl (.r rfl (zAW (zAv rfl rfl rfl (by omega)) ((show AV.p none (.v (.int .i64 (((m + j : Nat):Int) - ((i : Nat):Int)))) = AV.p none (.v (.int .i64 ((m + j - i : Nat):Int))) from zAL (by omega)))) (.m rfl rfl (.m rfl rfl (.run [100000] [] rfl (zAK rfl 4600 (X := [100000]) en115 rfl (.val nod) (.cons (.one (.own (len := (pvE l).length) (xs := pvE d) rfl (by first | rfl | omega))) (.cons (.one (.bor .v)) (.cons (.one (.bor .v)) (.cons (.one (.bor .v)) (.cons (.one (.bor (.cl nod))) .nil))))) (by decide) (all_cons rfl all_nil) (.keep (xs := pvE d) rfl (FlatP.nf (zAd _)) .nil) (zCf d (by omega) (m - i) (m + j - i) i (by omega) (by omega) _ _) rfl rfl (nle rfl)) .nil)))))))))))) ?_
   refine zAA rfl (.m rfl rfl (.m rfl rfl (.r rfl (zAv rfl rfl rfl (by omega)) (.a rfl rfl .nil)))) ?_
   refine nxt (Q := fun _ _ => False) (z := (i, j, d)) (i, j - i, swpL d (m - i) (m + j - i) i) ?_ ?_ ?_
   ·
    show 0 < i ∧ 0 < (j - i) ∧ i ≤ m ∧ m + (j - i) ≤ l.length ∧ (swpL d (m - i) (m + j - i) i).length = l.length ∧ rotL (swpL d (m - i) (m + j - i) i) (m - i) m (m + (j - i)) = rotL l a m b
    exact ⟨hi, by omega, him, by omega, by rw [zGh d (by omega) (by omega)]; exact hdl, rot_lt (by omega) him (by omega) hR⟩
   ·
    show i + (j - i) < i + j
    omega
   · exact zAJ ⟨rfl, rfl, rfl, (zAL (by omega)), (zAL (by omega)), trivial⟩ trivial ⟨(congrArg (fun x => some (4, x)) (by rfl)), trivial⟩ rfl
 ·
  replace h1 : (i:Int) = (j:Int) := of_decide_eq_true (zBG h1)
  refine zAx ?_
  have hij : i = j := (by omega)
  subst hij
  refine zAA rfl (.m rfl rfl (.m rfl rfl (.m rfl rfl (.r rfl (zAW (zAv rfl rfl rfl (by omega)) ((show AV.p none (.v (.int .i64 (((m : Nat):Int) - ((i : Nat):Int)))) = AV.p none (.v (.int .i64 ((m - i : Nat):Int))) from zAL (by omega)))) (.m rfl rfl (.m rfl rfl (.m rfl rfl (.run [100000] [] rfl (zAK rfl 5700 (X := [100000]) en115 rfl (.val nod) (.cons (.one (.own (len := (pvE l).length) (xs := pvE d) rfl (by first | rfl | omega))) (.cons (.one (.bor .v)) (.cons (.one (.bor .v)) (.cons (.one (.bor .v)) (.cons (.one (.bor (.cl nod))) .nil))))) (by decide) (all_cons rfl all_nil) (.keep (xs := pvE d) rfl (FlatP.nf (zAd _)) .nil) (zCf d (by omega) (m - i) m i (by omega) (by omega) _ _) rfl rfl (nle rfl)) .nil)))))))) ?_
  exact zJJ [] [] .nil .nil (by decide) (zB7 (congrArg (fun x => some (4, x)) (congrArg pvE (rot_eq him (by omega) hR))) (zAd _) (by decide))
theorem zEF (l : List Ent) (hl : l.length ≤ 2000000) (a b : Nat) (ga : a ≤ b) (gb : b ≤ l.length) (c : Ent → Ent → Int) (hc : CmpOk c) (f : Nat) (pss : List (List PV)) (hE : ∀ vs w, (callFunc f vs).run Tryz.prog w = .ok (.enter f vs) w) (hp : ∀ x y : Ent, Con Tryz.prog f ([.agg x.pv, .agg y.pv] ++ pss.map .fbox) [] [.one (.v (.int .i64 (c x y)))]) (hd : Dist c l) : Con Tryz.prog 112 [.one (.sl true 4 (pvE l)), .one (PV.v (.int .i64 (a:Int))), .one (PV.v (.int .i64 (b:Int))), .one (PV.clo f pss)] [some (pvE (srtS c l a b))] [] := by
 refine zAQ func112 rfl rfl rfl rfl ?_
 have hle := zAF l
 refine zAB (zAA rfl (.m rfl rfl (.r rfl (zAf rfl rfl rfl (by omega)) (.a rfl rfl .nil))) ?_)
 refine zAS ?_
 refine zAp (σ := Nat × List Ent) (fun (i, m) => mk [(0, .sl 100000 0 ((pvE l).length)), (1, .vi (a:Int)), (2, .vi (b:Int)), (3, .p none (.clo f pss)), (8, .vi (i:Int))] [] [(100000, 4, pvE m)]) (fun (i, m) => a < i ∧ (i ≤ b ∨ i = a + 1) ∧ Res l m a b ∧ SrtI c m a i) (fun (i, m) => b - i) (a + 1, l) ⟨by omega, .inr rfl, Res.refl l a b, fun p q x y hp hpq hq => by omega⟩ (zAJ ⟨rfl, rfl, rfl, rfl, (zAL (by omega)), trivial⟩ trivial ⟨(congrArg (fun x => some (4, x)) (by rfl)), trivial⟩ rfl) ?_
 rintro ⟨i, m⟩ hG
 replace hG : a < i ∧ (i ≤ b ∨ i = a + 1) ∧ Res l m a b ∧ SrtI c m a i := hG
 obtain ⟨hai, hib, hR, hS⟩ := hG
 have hml := hR.len
 have hle2 := zAF m
 refine zAB ?_
 refine zAB (zAA rfl (.m rfl rfl (.m rfl rfl (.r rfl (zA4 rfl rfl rfl) .nil))) ?_)
 refine zAZ (t := decide ((i:Int) < (b:Int))) rfl (fun h1 => ?_) (fun h1 => ?_)
 ·
  replace h1 := of_decide_eq_true h1
  refine zAM ?_
  refine zAB ?_
  refine zAS ?_
  refine zAB (zAA rfl (.m rfl rfl (.a rfl rfl .nil)) ?_)
  refine zAS ?_
  refine zAp (σ := Nat × List Ent) (fun (j, m2) => mk [(0, .sl 100000 0 ((pvE l).length)), (1, .vi (a:Int)), (2, .vi (b:Int)), (3, .p none (.clo f pss)), (8, .vi (i:Int)), (9, .vi (j:Int))] [] [(100000, 4, pvE m2)]) (fun (j, m2) => a ≤ j ∧ j ≤ i ∧ Res l m2 a b ∧ Puts c m2 a i j) (fun (j, m2) => j) (i, m) ⟨by omega, Nat.le_refl _, hR, zM7 hS⟩ (zAJ ⟨rfl, rfl, rfl, rfl, rfl, rfl, trivial⟩ trivial ⟨(congrArg (fun x => some (4, x)) (by rfl)), trivial⟩ rfl) ?_
  rintro ⟨j, m2⟩ hG
  replace hG : a ≤ j ∧ j ≤ i ∧ Res l m2 a b ∧ Puts c m2 a i j := hG
  obtain ⟨haj, hji, hR2, hP⟩ := hG
  have hml2 := hR2.len
  have hle3 := zAF m2
  obtain ⟨x, hx⟩ : ∃ x, m2[j]? = some x := ⟨_, List.getElem?_eq_getElem (by omega)⟩
  obtain ⟨y, hy⟩ : ∃ y, m2[j - 1]? = some y := ⟨_, List.getElem?_eq_getElem (by omega)⟩
  refine zAB ?_
  refine zAB ?_
  rcases bfc (decide ((a:Int) < (j:Int))) with h2 | h2
  ·
   have h2' := h2
   replace h2' := of_decide_eq_false h2'
   refine zAc zBL rfl (.m rfl rfl (.m rfl rfl (.r rfl (zAW (zBN rfl rfl rfl) (zAN h2)) (.m rfl rfl (.not rfl (.not rfl (.not rfl (.not rfl (.not rfl (.not rfl (.not rfl (.not rfl (.not rfl (.not rfl (.not rfl (.not rfl (.r rfl (zAU (t := false) rfl rfl) .nil))))))))))))))))) (by kernel_rfl) ?_
   refine zAZ (t := false) rfl (fun h => nomatch h) (fun _ => ?_)
   refine zAx ?_
   refine zAY (s' := mk [(0, .sl 100000 0 ((pvE l).length)), (1, .vi (a:Int)), (2, .vi (b:Int)), (3, .p none (.clo f pss)), (8, .vi (i:Int))] [] [(100000, 4, pvE m2)]) ?_ ?_
   · exact zAJ ⟨rfl, rfl, rfl, rfl, rfl, trivial⟩ trivial ⟨rfl, trivial⟩ rfl
   refine zAA rfl (.m rfl rfl (.r rfl (zAf rfl rfl rfl (by omega)) (.a rfl rfl .nil))) ?_
   refine nxt (Q := fun _ _ => False) (z := (i, m)) (i + 1, m2) ?_ ?_ ?_
   ·
    show a < (i + 1) ∧ ((i + 1) ≤ b ∨ (i + 1) = a + 1) ∧ Res l m2 a b ∧ SrtI c m2 a (i + 1)
    exact ⟨by omega, by omega, hR2, zMA hc hP haj (zFf (zBT hR2.perm hd)) (fun h => by omega)⟩
   ·
    show b - (i + 1) < b - i
    omega
   · exact zAJ ⟨rfl, rfl, rfl, rfl, (zAL (by omega)), trivial⟩ trivial ⟨(congrArg (fun x => some (4, x)) (by rfl)), trivial⟩ rfl
  ·
   have h2' := h2
   replace h2' := of_decide_eq_true h2'
   refine zAc zBL rfl (.m rfl rfl (.m rfl rfl (.r rfl (zAW (zBN rfl rfl rfl) (zAN h2)) (.m rfl rfl (.m rfl rfl (.m rfl rfl (.m rfl rfl (.r rfl (zAe j rfl rfl rfl rfl underlying24 sizeOf56 rfl rfl (by omega)) (.r rfl (zBB rfl rfl rfl (zA0 hx) isAgg56 sizeOf56 (nle rfl)) (.m rfl rfl (.m rfl rfl (.r rfl (zAW (zAv rfl rfl rfl (by omega)) (((show (AV.p none (.v (.int .i64 ((j:Int) - 1)))) = AV.p none (.v (.int .i64 ((j - 1 : Nat) : Int))) from zAL (by omega))))) (.r rfl (zAe (j - 1) rfl rfl rfl rfl underlying24 sizeOf56 rfl rfl (by omega)) (.r rfl (zBB rfl rfl rfl (zA0 hy) isAgg56 sizeOf56 (nle rfl)) (.run [3200] [] rfl (zAK rfl 3200 (X := []) hE rfl (.val nod) (.cons (.agg (.cons (.bor .v) (.cons (.bor .v) (.cons (.bor .v) (.cons (.bor .v) .nil))))) (.cons (.agg (.cons (.bor .v) (.cons (.bor .v) (.cons (.bor .v) (.cons (.bor .v) .nil))))) .nil)) (by decide) all_nil .nil (hp x y) rfl rfl (nle rfl)) (.r rfl (zA4 rfl rfl rfl) (.r rfl (zAU (t := true) rfl rfl) .nil))))))))))))))))) (by kernel_rfl) ?_
   refine zAZ (t := decide ((c x y) < 0)) rfl (fun h3 => ?_) (fun h3 => ?_)
   ·
    replace h3 := of_decide_eq_true h3
    refine zAM ?_
    refine zAB ?_
    refine zAS ?_
    refine zAY (s' := mk [(0, .sl 100000 0 ((pvE l).length)), (1, .vi (a:Int)), (2, .vi (b:Int)), (3, .p none (.clo f pss)), (8, .vi (i:Int)), (9, .vi (j:Int)), (22, .p none (.clo f pss)), (23, .sl 100000 0 ((pvE l).length)), (24, .vi (j:Int)), (25, .ea 100000 j 0), (26, .agg [.vs x.user, .vi x.seq, .vi x.kind, .vs x.value]), (27, .sl 100000 0 ((pvE l).length)), (28, .vi (j:Int)), (29, .vi ((j - 1 : Nat):Int)), (30, .ea 100000 (j - 1) 0), (31, .agg [.vs y.user, .vi y.seq, .vi y.kind, .vs y.value]), (32, .vi (c x y)), (33, .vb (decide ((c x y) < 0)))] [] [(100000, 4, pvE m2)]) ?_ ?_
    · exact zAJ ⟨rfl, rfl, rfl, rfl, rfl, rfl, rfl, rfl, rfl, rfl, rfl, rfl, rfl, rfl, rfl, rfl, rfl, rfl, trivial⟩ trivial ⟨rfl, trivial⟩ rfl
    refine zAc zBL rfl (.m rfl rfl (.m rfl rfl (.m rfl rfl (.m rfl rfl (.r rfl (zAW (zAv rfl rfl rfl (by omega)) (((show (AV.p none (.v (.int .i64 ((j:Int) - 1)))) = AV.p none (.v (.int .i64 ((j - 1 : Nat) : Int))) from zAL (by omega))))) (.m rfl rfl (.m rfl rfl (.r rfl (zAW (zAv rfl rfl rfl (by omega)) (((show (AV.p none (.v (.int .i64 ((j:Int) - 1)))) = AV.p none (.v (.int .i64 ((j - 1 : Nat) : Int))) from zAL (by omega))))) (.r rfl (zAe (j - 1) rfl rfl rfl rfl underlying24 sizeOf56 rfl rfl (by omega)) (.r rfl (zBB rfl rfl rfl (zA0 hy) isAgg56 sizeOf56 (nle rfl)) (.m rfl rfl (.m rfl rfl (.r rfl (zAe j rfl rfl rfl rfl underlying24 sizeOf56 rfl rfl (by omega)) (.r rfl (zBB rfl rfl rfl (zA0 hx) isAgg56 sizeOf56 (nle rfl)) (.r rfl (zAe j rfl rfl rfl rfl underlying24 sizeOf56 rfl rfl (by omega)) (.r rfl (zBR rfl rfl rfl (FlatP.nf (zAd _)) (zA0 hx) rfl rfl (.cons .v (.cons .v (.cons .v (.cons .v .nil)))) sizeOf56 rfl (nle rfl)) (.r rfl (zAe (j - 1) rfl rfl rfl rfl underlying24 sizeOf56 rfl rfl (by omega)) (.r rfl (zBR rfl rfl rfl (FlatP.nf (FlatP.set (i := j) (cs := [PV.v (.string y.user), PV.v (.int .i64 y.seq), PV.v (.int .i64 y.kind), PV.v (.string y.value)]) (zAd m2) rfl)) (by rw [List.getElem?_set_ne (by omega)]; exact zA0 hy) rfl rfl (.cons .v (.cons .v (.cons .v (.cons .v .nil)))) sizeOf56 rfl (nle rfl)) .nil)))))))))))))))))) (by kernel_rfl) ?_
    refine zAY (s' := mk [(0, .sl 100000 0 ((pvE l).length)), (1, .vi (a:Int)), (2, .vi (b:Int)), (3, .p none (.clo f pss)), (8, .vi (i:Int)), (9, .vi (j:Int)), (22, .p none (.clo f pss)), (23, .sl 100000 0 ((pvE l).length)), (24, .vi (j:Int)), (25, .ea 100000 j 0), (26, .agg [.vs x.user, .vi x.seq, .vi x.kind, .vs x.value]), (27, .sl 100000 0 ((pvE l).length)), (28, .vi (j:Int)), (29, .vi ((j - 1 : Nat):Int)), (30, .ea 100000 (j - 1) 0), (31, .agg [.vs y.user, .vi y.seq, .vi y.kind, .vs y.value]), (32, .vi (c x y)), (33, .vb (decide ((c x y) < 0)))] [] [(100000, 4, ((pvE m2).set j [PV.v (.string y.user), PV.v (.int .i64 y.seq), PV.v (.int .i64 y.kind), PV.v (.string y.value)]).set (j - 1) [PV.v (.string x.user), PV.v (.int .i64 x.seq), PV.v (.int .i64 x.kind), PV.v (.string x.value)])]) ?_ ?_
    · exact zAJ ⟨rfl, rfl, rfl, rfl, rfl, rfl, rfl, rfl, rfl, rfl, rfl, rfl, rfl, rfl, rfl, rfl, rfl, rfl, trivial⟩ trivial ⟨rfl, trivial⟩ rfl
    refine zAA rfl (.m rfl rfl (.r rfl (zAv rfl rfl rfl (by omega)) (.a rfl rfl .nil))) ?_
    refine nxt (Q := fun _ _ => False) (z := (j, m2)) (j - 1, (m2.set j y).set (j - 1) x) ?_ ?_ ?_
    ·
     show a ≤ (j - 1) ∧ (j - 1) ≤ i ∧ Res l ((m2.set j y).set (j - 1) x) a b ∧ Puts c ((m2.set j y).set (j - 1) x) a i (j - 1)
     exact ⟨by omega, by omega, hR2.swap hx hy (by omega) (by omega), zOA hP (by omega) hji hx hy h3⟩
    ·
     show (j - 1) < j
     omega
    · exact zAJ ⟨rfl, rfl, rfl, rfl, rfl, (zAL (by omega)), trivial⟩ trivial ⟨(congrArg (fun x => some (4, x)) (by exact zFV)), trivial⟩ rfl
   ·
    replace h3 := of_decide_eq_false h3
    refine zAx ?_
    refine zAY (s' := mk [(0, .sl 100000 0 ((pvE l).length)), (1, .vi (a:Int)), (2, .vi (b:Int)), (3, .p none (.clo f pss)), (8, .vi (i:Int)), (22, .p none (.clo f pss)), (23, .sl 100000 0 ((pvE l).length)), (24, .vi (j:Int)), (25, .ea 100000 j 0), (26, .agg [.vs x.user, .vi x.seq, .vi x.kind, .vs x.value]), (27, .sl 100000 0 ((pvE l).length)), (28, .vi (j:Int)), (29, .vi ((j - 1 : Nat):Int)), (30, .ea 100000 (j - 1) 0), (31, .agg [.vs y.user, .vi y.seq, .vi y.kind, .vs y.value]), (32, .vi (c x y)), (33, .vb (decide ((c x y) < 0)))] [] [(100000, 4, pvE m2)]) ?_ ?_
    · exact zAJ ⟨rfl, rfl, rfl, rfl, rfl, rfl, rfl, rfl, rfl, rfl, rfl, rfl, rfl, rfl, rfl, rfl, rfl, trivial⟩ trivial ⟨rfl, trivial⟩ rfl
    refine zAA rfl (.m rfl rfl (.r rfl (zAf rfl rfl rfl (by omega)) (.a rfl rfl .nil))) ?_
    refine nxt (Q := fun _ _ => False) (z := (i, m)) (i + 1, m2) ?_ ?_ ?_
    ·
     show a < (i + 1) ∧ ((i + 1) ≤ b ∨ (i + 1) = a + 1) ∧ Res l m2 a b ∧ SrtI c m2 a (i + 1)
     exact ⟨by omega, by omega, hR2, zMA hc hP haj (zFf (zBT hR2.perm hd)) (fun _ u v hu hv => by rw [hx] at hu; rw [hy] at hv; cases hu; cases hv; exact h3)⟩
    ·
     show b - (i + 1) < b - i
     omega
    · exact zAJ ⟨rfl, rfl, rfl, rfl, (zAL (by omega)), trivial⟩ trivial ⟨(congrArg (fun x => some (4, x)) (by rfl)), trivial⟩ rfl
 ·
  replace h1 := of_decide_eq_false h1
  refine zAx ?_
  exact zJJ [] [] .nil .nil (by decide) (zB7 (congrArg (fun x => some (4, x)) (congrArg pvE (zDD hc ga hR (zGn hS (Nat.le_refl _) (by omega)) hd))) (zAd _) (by decide))
end Go.Rl
namespace Go.Rl
section
variable {γ : Gho} {P : Program} {n : Nat} {s : St} {Q : Exit → St → Prop}
theorem zDx {σ : Type} {x y : Code} (S : σ → St) (G : σ → Prop) (h1 : Tr γ P n x s (thn (fun s' => ∃ z, G z ∧ Wk n s' (S z)) Q)) (h2 : ∀ z, G z → Tr γ P n y (S z) Q) : Tr γ P n (.seq x y) s Q :=
 zAB (zNn h1 (fun e s' h => by
  cases e with
  | normal =>
   obtain ⟨z, hz, hw⟩ := h
   exact zAY hw (h2 z hz)
  | _ => exact h))
end
end Go.Rl

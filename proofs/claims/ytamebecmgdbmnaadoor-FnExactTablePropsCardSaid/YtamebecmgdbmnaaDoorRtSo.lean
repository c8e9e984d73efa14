/- Promises of functions, proved by walks over their operations; no conditions beyond those that each theorem states. -/
import Derived.Test.YtamebecmgdbmnaaDoorReH
import Derived.Test.YtamebecmgdbmnaaDoorRuB
import Derived.Test.YtamebecmgdbmnaaDoorRuQ
import Derived.Test.YtamebecmgdbmnaaDoorRuR
set_option linter.unusedSimpArgs false
set_option linter.unusedVariables false
namespace Go.Rl
section
variable {α : Type} {c : α → α → Int}
structure CmpOk (c : α → α → Int) : Prop where
 tr : ∀ x y z, c x y < 0 → c y z < 0 → c x z < 0
 asy : ∀ x y, c x y < 0 → ¬ c y x < 0
def Dist (c : α → α → Int) (l : List α) : Prop := l.Pairwise (fun x y => c x y < 0 ∨ c y x < 0)
def Srt (c : α → α → Int) (l : List α) : Prop := l.Pairwise (fun x y => c x y < 0)
def insC (c : α → α → Int) (x : α) : List α → List α
 | [] => [x]
 | y :: s => if c x y < 0 then x :: y :: s else y :: insC c x s
def isort (c : α → α → Int) : List α → List α
 | [] => []
 | x :: l => insC c x (isort c l)
def seg (l : List α) (a b : Nat) : List α := (l.drop a).take (b - a)
theorem zMU {l : List α} {a b k : Nat} : (seg l a b)[k]? = if a + k < b then l[a + k]? else none := by
 unfold seg
 rw [List.getElem?_take, List.getElem?_drop]
 by_cases h : k < b - a
 · rw [if_pos h, if_pos (by omega)]
 · rw [if_neg h, if_neg (by omega)]
theorem zO0 (l : List α) {a b : Nat} (h : a ≤ b) : l = l.take a ++ seg l a b ++ l.drop b := by
 unfold seg
 rw [List.append_assoc]
 have h1 : l.drop b = (l.drop a).drop (b - a) := by rw [List.drop_drop]; congr 1; omega
 rw [h1, List.take_append_drop, List.take_append_drop]
def SrtI (c : α → α → Int) (l : List α) (a b : Nat) : Prop := ∀ (i j : Nat) x y, a ≤ i → i < j → j < b → l[i]? = some x → l[j]? = some y → c x y < 0
def DistI (c : α → α → Int) (l : List α) : Prop := ∀ (i j : Nat) x y, i ≠ j → l[i]? = some x → l[j]? = some y → c x y < 0 ∨ c y x < 0
structure Res (l m : List α) (a b : Nat) : Prop where
 perm : m.Perm l
 out : ∀ k, (k < a ∨ b ≤ k) → m[k]? = l[k]?
theorem Res.len {l m : List α} {a b : Nat} (h : Res l m a b) : m.length = l.length := h.perm.length_eq
theorem Res.refl (l : List α) (a b : Nat) : Res l l a b := ⟨.refl _, fun _ _ => rfl⟩
theorem Res.trans {l m k : List α} {a b : Nat} (h : Res l m a b) (g : Res m k a b) : Res l k a b := ⟨g.perm.trans h.perm, fun i hi => (g.out i hi).trans (h.out i hi)⟩
theorem zJu {l m : List α} {a : Nat} (h : ∀ k, k < a → m[k]? = l[k]?) : m.take a = l.take a := List.ext_getElem? (fun k => by
 rw [List.getElem?_take, List.getElem?_take]
 split
 · exact h k ‹_›
 · rfl)
theorem zKO {l m : List α} {b : Nat} (h : ∀ k, b ≤ k → m[k]? = l[k]?) : m.drop b = l.drop b := List.ext_getElem? (fun k => by
 rw [List.getElem?_drop, List.getElem?_drop]
 exact h _ (by omega))
theorem Res.seg {l m : List α} {a b : Nat} (h : Res l m a b) (hab : a ≤ b) : (Rl.seg m a b).Perm (Rl.seg l a b) := by
 have h1 := h.perm
 rw [zO0 m hab, zO0 l hab, zJu (fun k hk => h.out k (.inl hk)), zKO (fun k hk => h.out k (.inr hk))] at h1
 exact (List.perm_append_left_iff _).1 ((List.perm_append_right_iff _).1 h1)
theorem Res.from {l m : List α} {a b k : Nat} {x : α} (h : Res l m a b) (hk : a ≤ k ∧ k < b) (hx : m[k]? = some x) : ∃ k', a ≤ k' ∧ k' < b ∧ l[k']? = some x := by
 have h1 : x ∈ Rl.seg m a b := List.mem_of_getElem? (i := k - a) (by rw [zMU, if_pos (by omega), show a + (k - a) = k by omega]; exact hx)
 obtain ⟨q, hq⟩ := List.getElem?_of_mem ((h.seg (by omega)).mem_iff.1 h1)
 rw [zMU] at hq
 split at hq
 · exact ⟨a + q, by omega, by omega, hq⟩
 · cases hq
def srtS (c : α → α → Int) (l : List α) (a b : Nat) : List α := l.take a ++ isort c (seg l a b) ++ l.drop b
def Puts (c : α → α → Int) (m : List α) (a i j : Nat) : Prop := (∀ (p q : Nat) x y, a ≤ p → p < q → q ≤ i → p ≠ j → q ≠ j → m[p]? = some x → m[q]? = some y → c x y < 0) ∧ ∀ (q : Nat) x y, j < q → q ≤ i → m[j]? = some x → m[q]? = some y → c x y < 0
def swpL (l : List α) (a b n : Nat) : List α := l.take a ++ seg l b (b + n) ++ seg l (a + n) b ++ seg l a (a + n) ++ l.drop (b + n)
def rotL (l : List α) (a m b : Nat) : List α := l.take a ++ seg l m b ++ seg l a m ++ l.drop b
end
end Go.Rl
namespace Go.Rl
section
variable {α : Type} {c : α → α → Int}
def MovU (l m : List α) (a k : Nat) (x : α) : Prop := ∀ q, m[q]? = if a ≤ q ∧ q < k then l[q + 1]? else if q = k then some x else l[q]?
def BetU (c : α → α → Int) (l : List α) (x : α) (m b i j : Nat) : Prop := (i = m ∨ ∃ y, l[i - 1]? = some y ∧ c y x < 0) ∧ (j = b ∨ ∃ y, l[j]? = some y ∧ ¬ c y x < 0)
def MovD (l m : List α) (b k : Nat) (x : α) : Prop := ∀ q, m[q]? = if k < q ∧ q ≤ b then l[q - 1]? else if q = k then some x else l[q]?
def BetD (c : α → α → Int) (l : List α) (x : α) (a m i j : Nat) : Prop := (i = a ∨ ∃ y, l[i - 1]? = some y ∧ ¬ c x y < 0) ∧ (j = m ∨ ∃ y, l[j]? = some y ∧ c x y < 0)
def BetS (c : α → α → Int) (l : List α) (p s0 r0 s r : Nat) : Prop := (s = s0 ∨ ∃ x y, l[p - (s - 1)]? = some x ∧ l[s - 1]? = some y ∧ ¬ c x y < 0) ∧ (r = r0 ∨ ∃ x y, l[p - r]? = some x ∧ l[r]? = some y ∧ c x y < 0)
def Sm (c : α → α → Int) (l : List α) (i j : Nat) : Prop := ∃ x y, l[i]? = some x ∧ l[j]? = some y ∧ c x y < 0
structure Turned (c : α → α → Int) (l d : List α) (a s mid e b : Nat) : Prop where
 res : Res l d a b
 p1 : SrtI c d a s
 p2 : SrtI c d s mid
 p3 : SrtI c d mid e
 p4 : SrtI c d e b
 ap : ∀ (i j : Nat) x y, a ≤ i → i < mid → mid ≤ j → j < b → d[i]? = some x → d[j]? = some y → c x y < 0
def zPV (c : α → α → Int) (m : List α) (z a : Nat) : Prop := ∀ q, a ≤ q * z → SrtI c m (q * z) (q * z + z)
end
end Go.Rl
namespace Go.Rl
section
variable {α : Type} {c : α → α → Int}
def Al (z a : Nat) : Prop := ∃ q, a = q * z
def BlkTo (c : α → α → Int) (m : List α) (z a : Nat) : Prop := ∀ p, Al z p → p + z ≤ a → SrtI c m p (p + z)
def BlkFrom (c : α → α → Int) (m : List α) (z a : Nat) : Prop := ∀ p, Al z p → a ≤ p → SrtI c m p (p + z)
end
end Go.Rl
namespace Go.Rl
def putS (e : Ent) (r : List Ent × Bool) (x : Ent) : List Ent × Bool :=
 let c := kcmp x e
 let r1 := if (!r.2 && decide (0 ≤ c)) = true then (r.1 ++ [e], true) else r
 if c ≠ 0 then (r1.1 ++ [x], r1.2) else r1
def putN (l : List Ent) (e : Ent) (i : Nat) : List Ent × Bool := (l.take i).foldl (putS e) ([], false)
def putF (l : List Ent) (e : Ent) : List Ent := if (putN l e l.length).2 = true then (putN l e l.length).1 else (putN l e l.length).1 ++ [e]
theorem look_at {l : List Ent} {u : ByteArray} {p : Int} {i : Nat} {e : Ent} (hG : ∀ j e, j < i → l[j]? = some e → asOf u p e = false) (he : l[i]? = some e) (hp : asOf u p e = true) : zEM l u p = some e := by
 have h := zM8 hG he hp
 unfold zEM
 rw [h, if_neg (by omega), Int.toNat_natCast]
 exact he
theorem zK7 {l : List Ent} {u : ByteArray} {p : Int} {i : Nat} (hi : l.length ≤ i) (hG : ∀ j e, j < i → l[j]? = some e → asOf u p e = false) : zEM l u p = none := zGp (by rw [zLA hi hG]; decide)
theorem put_b {r : List Ent × Bool} {e : Ent} {c : Int} (h : c < 0) : (r.1, r.2) = (if (!r.2 && decide (0 ≤ c)) = true then (r.1 ++ [e], true) else r) := by rw [if_neg (by simp; omega)]
def keepN {α : Type} (p : α → Bool) (l : List α) (j : Nat) : List α := (l.take j).filter (fun x => !p x)
def outP (f t : ByteArray) (q : Pr) : Bool := ltB q.user f || (!decide (t = ⟨#[]⟩) && !ltB q.user t)
end Go.Rl
namespace Go.Rl
def cutN (s : ByteArray) : Nat → ByteArray
 | 0 => zCQ s
 | i + 1 => cut4 (cutN s i)
theorem zFU {s : ByteArray} (h : 16 ≤ s.size) : (zCQ s).size = 16 := by rw [zCQ, ByteArray.size_extract]; omega
theorem zGz {s : ByteArray} (h : 16 ≤ s.size) : ∀ i, (cutN s i).size = 16 - 4 * i
 | 0 => zFU h
 | i + 1 => by
  have := zGz h i
  rw [cutN, cut4, ByteArray.size_extract]
  omega
theorem zFN {s : ByteArray} (h : 16 ≤ s.size) {i : Nat} (hi : i < 4) : zBL (cutN s i) = some (fx4 (cutN s i), cutN s (i + 1)) := by
 have := zGz h i
 rw [zC9 (by omega)]
 rfl
def atsN (s : ByteArray) : Nat → List Int
 | 0 => []
 | i + 1 => atsN s i ++ [((fx4 (cutN s i) : Nat) : Int)]
def zJO (s : ByteArray) : Bool := decide (16 ≤ s.size ∧ s.size ≤ 60000)
def zDa (s : ByteArray) : List Int := if zJO s = true then atsN s 4 else []
def footB (s : ByteArray) : Bool := zJO s && decide (tAt3 s = 1279478321)
theorem zLH {s : ByteArray} (h : ¬ (16 ≤ s.size ∧ s.size ≤ 60000)) : zDa s = [] ∧ footB s = false := by
 have : zJO s = false := decide_eq_false h
 exact ⟨by rw [zDa, this]; rfl, by rw [footB, this]; rfl⟩
theorem zFK {s : ByteArray} (h : 16 ≤ s.size ∧ s.size ≤ 60000) : zDa s = atsN s 4 ∧ footB s = decide (tAt3 s = 1279478321) := by
 have : zJO s = true := decide_eq_true h
 exact ⟨by rw [zDa, this]; rfl, by rw [footB, this]; rfl⟩
theorem zNM {s : ByteArray} (h : footB s = true) : (16 ≤ s.size ∧ s.size ≤ 60000) ∧ tAt3 s = 1279478321 ∧ zDa s = [((tAt0 s : Nat) : Int), ((tAt1 s : Nat) : Int), ((tAt2 s : Nat) : Int), ((tAt3 s : Nat) : Int)] := by
 simp only [footB, zJO, Bool.and_eq_true, decide_eq_true_eq] at h
 exact ⟨h.1, h.2, (zFK h.1).1⟩
theorem IsTab.footB {s : ByteArray} {L : List Ent} {ev sz kd : Nat} (h : IsTab s L ev sz kd) : footB s = true := by
 have hf := h.foot
 rw [(zFK ⟨hf.big, h.small⟩).2, decide_eq_true hf.at3]
theorem at_lt (s : ByteArray) : tAt0 s < 4294967296 ∧ tAt1 s < 4294967296 ∧ tAt2 s < 4294967296 ∧ tAt3 s < 4294967296 := ⟨zFJ _, zFJ _, zFJ _, zFJ _⟩
theorem zMW {s : ByteArray} {n : Nat} (h : s.size < n) : zBD s n = none := if_neg (by omega)
theorem secAt_1 {s : ByteArray} {n : Nat} (h : n ≤ s.size) (h1 : (zAX (s.extract n s.size)).isSome = false) : zBD s n = none := by rw [zBD, if_pos h, zCu, zCz h1]
theorem takeS_1 {s x r : ByteArray} (h : zAX s = some (x, r)) (h2 : zBL r = none) : zCu s = none := by
 rw [zCu, h]
 simp only [h2]
theorem takeS_2 {s x r r' : ByteArray} {c : Nat} (h : zAX s = some (x, r)) (h2 : zBL r = some (c, r')) (h3 : ¬ c = crcF x) : zCu s = none := by
 rw [zCu, h]
 simp only [h2]
 rw [if_neg h3]
theorem takeS_3 {s x r r' : ByteArray} {c : Nat} (h : zAX s = some (x, r)) (h2 : zBL r = some (c, r')) (h3 : c = crcF x) : zCu s = some (x, r') := by
 rw [zCu, h]
 simp only [h2]
 rw [if_pos h3]
theorem secAt_2 {s : ByteArray} {n : Nat} (h : n ≤ s.size) (h1 : (zAX (s.extract n s.size)).isSome = true) (h2 : (zBL (txR (zAX (s.extract n s.size)))).isSome = false) : zBD s n = none := by
 rw [zBD, if_pos h]
 exact takeS_1 (zJs h1) (zCz h2)
theorem secAt_3 {s : ByteArray} {n : Nat} (h : n ≤ s.size) (h1 : (zAX (s.extract n s.size)).isSome = true) (h2 : (zBL (txR (zAX (s.extract n s.size)))).isSome = true) (h3 : ¬ tvN (zBL (txR (zAX (s.extract n s.size)))) = crcF (txX (zAX (s.extract n s.size)))) : zBD s n = none := by
 rw [zBD, if_pos h]
 exact takeS_2 (zJs h1) (zIg h2) h3
theorem secAt_4 {s : ByteArray} {n : Nat} (h : n ≤ s.size) (h1 : (zAX (s.extract n s.size)).isSome = true) (h2 : (zBL (txR (zAX (s.extract n s.size)))).isSome = true) (h3 : tvN (zBL (txR (zAX (s.extract n s.size)))) = crcF (txX (zAX (s.extract n s.size)))) : zBD s n = some (txX (zAX (s.extract n s.size)), tvR (zBL (txR (zAX (s.extract n s.size))))) := by
 rw [zBD, if_pos h]
 exact takeS_3 (zJs h1) (zIg h2) h3
theorem zMV (s : ByteArray) (n : Nat) : (txX (zBD s n)).size ≤ 60000 := by
 rw [zBD]
 split
 ·
  cases h : zCu (s.extract n s.size) with
  | none => exact Nat.zero_le _
  | some p => obtain ⟨x, r⟩ := p; exact (zF0 h).1
 · exact Nat.zero_le _
def pB (s : ByteArray) : ByteArray := txX (zBD s (tAt2 s))
def pV (s : ByteArray) : Option (Nat × ByteArray) := zAQ (pB s)
def pQ1 (s : ByteArray) : Option (Nat × ByteArray) := zAQ ((tvR (pV s)).extract 64 (tvR (pV s)).size)
def pQ2 (s : ByteArray) : Option (Nat × ByteArray) := zAQ (tvR (pQ1 s))
def pQ3 (s : ByteArray) : Option (Nat × ByteArray) := zAQ (tvR (pQ2 s))
structure POk (s : ByteArray) : Prop where
 foot : footB s = true
 sec : (zBD s (tAt2 s)).isSome = true
 v : (pV s).isSome = true
 regs : 64 ≤ (tvR (pV s)).size
 many : tvN (pV s) ≤ 400
 q1 : (pQ1 s).isSome = true
 q2 : (pQ2 s).isSome = true
 q3 : (pQ3 s).isSome = true
 end_ : tvR (pQ3 s) = ⟨#[]⟩
 n1 : tvN (pQ1 s) ≤ 100
 n2 : tvN (pQ2 s) ≤ 10000
 n3 : tvN (pQ3 s) ≤ 2
open Classical in
noncomputable def propsF (s : ByteArray) : Option (Nat × ByteArray × Nat × Nat × Nat) := if POk s then some (tvN (pV s), (tvR (pV s)).extract 0 64, tvN (pQ1 s), tvN (pQ2 s), tvN (pQ3 s)) else none
theorem zCN {s : ByteArray} (h : ¬ POk s) : propsF s = none := if_neg h
theorem zHc {s : ByteArray} (h : POk s) : propsF s = some (tvN (pV s), (tvR (pV s)).extract 0 64, tvN (pQ1 s), tvN (pQ2 s), tvN (pQ3 s)) := if_pos h
theorem zKE {s : ByteArray} {x : Nat × ByteArray × Nat × Nat × Nat} (h : propsF s = some x) : footB s = true := by
 rw [propsF] at h
 split at h
 · next q => exact q.foot
 · cases h
theorem zGh {s : ByteArray} {n ev sz kd : Nat} {rg : ByteArray} (h : propsF s = some (n, rg, ev, sz, kd)) : n ≤ 400 ∧ rg.size = 64 ∧ ev ≤ 100 ∧ sz ≤ 10000 ∧ kd ≤ 2 := by
 rw [propsF] at h
 split at h
 ·
  next q =>
  simp only [Option.some.injEq, Prod.mk.injEq] at h
  obtain ⟨rfl, rfl, rfl, rfl, rfl⟩ := h
  have := q.regs
  refine ⟨q.many, ?_, q.n1, q.n2, q.n3⟩
  rw [ByteArray.size_extract]; omega
 · cases h
theorem IsTab.propsF {s : ByteArray} {L : List Ent} {ev sz kd : Nat} (h : IsTab s L ev sz kd) : propsF s = some (L.length, hllF (zAz L), ev, sz, kd) := by
 obtain ⟨r, a1, a2, a3, r2, r3, a4, a5, a6⟩ := zEc L (ev := ev) (sz := sz) (kd := kd) (zBj h.ok) h.ev2 h.sz2 h.kd2
 obtain ⟨r', hr'⟩ := h.props_at.1
 have hf := h.foot
 have hle : tAt2 s ≤ s.size := by
  have h1 := hf.at2
  have h2 := hf.size
  have h3 := hf.le23
  omega
 have hs : zBD s (tAt2 s) = some (zCA L ev sz kd, r') := by rw [zBD, if_pos hle]; exact hr'
 have hB : pB s = zCA L ev sz kd := by rw [pB, hs]; rfl
 have hV : pV s = some (L.length, r) := by rw [pV, hB]; exact a1
 have h1 : pQ1 s = some (ev, r2) := by rw [pQ1, hV]; exact a4
 have h2 : pQ2 s = some (sz, r3) := by rw [pQ2, h1]; exact a5
 have h3 : pQ3 s = some (kd, ⟨#[]⟩) := by rw [pQ3, h2]; exact a6
 have hm := zBj h.ok
 have e2 := h.ev2
 have s2 := h.sz2
 have k2 := h.kd2
 have hok : POk s := ⟨h.footB, by rw [hs]; rfl, by rw [hV]; rfl, by rw [hV]; exact a2, by rw [hV]; exact hm, by rw [h1]; rfl, by rw [h2]; rfl, by rw [h3]; rfl, by rw [h3]; rfl, by rw [h1]; show ev ≤ 100; omega, by rw [h2]; show sz ≤ 10000; omega, by rw [h3]; exact k2⟩
 rw [zHc hok, h1, h2, h3, hV]
 have : (tvR (some (L.length, r))).extract 0 64 = hllF (zAz L) := a3
 rw [this]
 rfl
noncomputable def tabL (s : ByteArray) : List Ent := ((zBq s).map Prod.fst).getD []
theorem zD6 {s : ByteArray} (h : zBq s = none) : tabL s = [] := by rw [tabL, h]; rfl
theorem zEU {s : ByteArray} {L : List Ent} {ev sz kd : Nat} (h : IsTab s L ev sz kd) : tabL s = L ∧ (zBq s).isSome = true := by rw [tabL, zI0 h]; exact ⟨rfl, rfl⟩
theorem TA.stop {s : ByteArray} {at_ : Nat} {out : List Ent} (h : TA s at_ out) (hlt : at_ < tAt0 s) (hx : (zBD s at_).isSome = false ∨ (zBI (txX (zBD s at_))).isSome = false ∨ 400 < out.length + ((zBI (txX (zBD s at_))).getD []).length) : zBq s = none := zF3 fun L ev sz kd hL => by
 obtain ⟨h0, x, r, m, h1, h2, h3⟩ := h.more hlt hL
 have hs : zBD s at_ = some (x, r) := by rw [zBD, if_pos h0]; exact h1
 have hr : zBI (txX (zBD s at_)) = some m := by rw [hs]; exact h2
 rw [hr] at hx
 rcases hx with hx | hx | hx
 · rw [hs] at hx; cases hx
 · cases hx
 ·
  have : ((some m).getD []).length = m.length := rfl
  omega
theorem TA.go {s : ByteArray} {at_ : Nat} {out : List Ent} (h : TA s at_ out) (hlt : at_ < tAt0 s) (h1 : (zBD s at_).isSome = true) (h2 : (zBI (txX (zBD s at_))).isSome = true) : TA s (at_ + (secF (txX (zBD s at_))).size) (out ++ (zBI (txX (zBD s at_))).getD []) := by
 have hle : at_ ≤ s.size := by
  rcases Nat.lt_or_ge s.size at_ with q | q
  · rw [zMW q] at h1; cases h1
  · exact q
 have e1 := zJs h1
 have e2 : zBD s at_ = zCu (s.extract at_ s.size) := if_pos hle
 have e3 : zCu (s.extract at_ s.size) = some (txX (zBD s at_), txR (zBD s at_)) := by rw [← e2]; exact e1
 exact h.step hlt e3 (zDT h2)
theorem TA.end_ {s : ByteArray} {at_ : Nat} {out : List Ent} (h : TA s at_ out) (hge : ¬ at_ < tAt0 s) {n ev sz kd : Nat} {rg : ByteArray} (hp : propsF s = some (n, rg, ev, sz, kd)) (hx : ¬ zBb out (shpN ev sz kd) = some s) : zBq s = none := zF3 fun L ev' sz' kd' hL => hx (by
 have h1 := hL.propsF
 rw [hp] at h1
 have h2 := Prod.mk.inj (Option.some.inj h1)
 have h3 := Prod.mk.inj h2.2
 have h4 := Prod.mk.inj h3.2
 have h5 := Prod.mk.inj h4.2
 rw [h.last hge hL, h4.1, h5.1, h5.2]
 exact hL.back)
theorem max3 (a b c : Nat) : max (max ((a : Nat) : Int) ((b : Nat) : Int)) ((c : Nat) : Int) = ((max (max a b) c : Nat) : Int) := by omega
open Classical in
noncomputable def pT : Nat → ByteArray → List Ent → Option (List Ent)
 | 0, _, _ => none
 | k + 1, left, out => if left = ⟨#[]⟩ then some out else if (sS left false).2 = true then none else match zBI (xV left) with
  | none => none
  | some m => pT k (sS left false).1 (out ++ m)
theorem zK1 {k : Nat} {out : List Ent} : pT (k + 1) ⟨#[]⟩ out = some out := by rw [pT, if_pos rfl]
theorem zHd {k : Nat} {left : ByteArray} {out : List Ent} (h : ¬ left = ⟨#[]⟩) (hx : (sS left false).2 = true ∨ (zBI (xV left)).isSome = false) : pT (k + 1) left out = none := by
 rw [pT, if_neg h]
 rcases hx with hx | hx
 · rw [if_pos hx]
 ·
  rw [zCz hx]
  split <;> rfl
theorem zOH {k : Nat} {left : ByteArray} {out : List Ent} (h : ¬ left = ⟨#[]⟩) (h1 : (sS left false).2 = false) (h2 : (zBI (xV left)).isSome = true) : pT (k + 1) left out = pT k (sS left false).1 (out ++ (zBI (xV left)).getD []) := by
 rw [pT, if_neg h, if_neg (by rw [h1]; decide), zDT (d := []) h2]
 rfl
theorem sS_lt {left : ByteArray} (h1 : (sS left false).2 = false) : (sS left false).1.size < left.size := by
 have := zF0 (zMY h1).2
 omega
theorem zMn : ∀ {k k' : Nat} {left : ByteArray} {out : List Ent}, left.size < k → left.size < k' → pT k left out = pT k' left out
 | 0, _, _, _, h, _ => absurd h (Nat.not_lt_zero _)
 | _, 0, _, _, _, h => absurd h (Nat.not_lt_zero _)
 | k + 1, k' + 1, left, out, h, h' => by
  by_cases q : left = ⟨#[]⟩
  · subst q; rw [zK1, zK1]
  ·
   cases h1 : (sS left false).2 with
   | true => rw [zHd q (.inl h1), zHd q (.inl h1)]
   | false =>
    cases h2 : (zBI (xV left)).isSome with
    | false => rw [zHd q (.inr h2), zHd q (.inr h2)]
    | true =>
     have := sS_lt h1
     rw [zOH q h1 h2, zOH q h1 h2, zMn (k := k) (k' := k') (by omega) (by omega)]
structure Opn where
 list : List Ent
 shp : Shp
 flt : Flt
 regs : ByteArray
def Opn.zero : Opn := ⟨[], ⟨0, 0, 0⟩, .zero, ⟨#[]⟩⟩
def q1 (s : ByteArray) : ByteArray × Bool := nS s false
def q2 (s : ByteArray) : ByteArray × Bool := nS (q1 s).1 (q1 s).2
def q3 (s : ByteArray) : ByteArray × Bool := nS (q2 s).1 (q2 s).2
def q4 (s : ByteArray) : ByteArray × Bool := xS (q3 s).1 (q3 s).2
def zKC (s : ByteArray) : Flt := ⟨nV s, nV (q1 s).1, nV (q2 s).1, xV (q3 s).1⟩
def zBP (s : ByteArray) : Option Flt := if ((!(q4 s).2) && decide ((q4 s).1 = ⟨#[]⟩)) = true ∧ zBF (zKC s) = true then some (zKC s) else none
theorem zN6 {s : ByteArray} (h : ((!(q4 s).2) && decide ((q4 s).1 = ⟨#[]⟩)) = false) : zBP s = none := by rw [zBP, if_neg]; rintro ⟨q, _⟩; rw [h] at q; cases q
theorem zN5 {s : ByteArray} (h : zBF (zKC s) = false) : zBP s = none := by rw [zBP, if_neg]; rintro ⟨_, q⟩; rw [h] at q; cases q
theorem zN4 {s : ByteArray} (h1 : ((!(q4 s).2) && decide ((q4 s).1 = ⟨#[]⟩)) = true) (h2 : zBF (zKC s) = true) : zBP s = some (zKC s) := by rw [zBP, if_pos ⟨h1, h2⟩]
def oN (s : ByteArray) : Nat := s.size - 16
def oP (s : ByteArray) : ByteArray := xV (s.extract (tAt2 s) (oN s))
def oA (s : ByteArray) : ByteArray × Bool := nS (oP s) false
def oR (s : ByteArray) : ByteArray := (oA s).1.extract 64 (oA s).1.size
def oB1 (s : ByteArray) : ByteArray × Bool := nS (oR s) (oA s).2
def oB2 (s : ByteArray) : ByteArray × Bool := nS (oB1 s).1 (oB1 s).2
def oS (s : ByteArray) : Shp := ⟨nV (oR s), nV (oB1 s).1, nV (oB2 s).1⟩
def oF (s : ByteArray) : Flt := (zBP (xV (s.extract (tAt1 s) (oN s)))).getD .zero
structure OOk (s : ByteArray) : Prop where
 big : 16 ≤ s.size
 small : s.size ≤ 60000
 in_ : max (max (tAt0 s) (tAt1 s)) (tAt2 s) ≤ oN s
 regs : 64 ≤ (oA s).1.size
open Classical in
noncomputable def zE1 (s : ByteArray) : Option Opn := if OOk s then (pT ((s.extract 0 (tAt0 s)).size + 1) (s.extract 0 (tAt0 s)) []).map fun l => ⟨l, oS s, oF s, (oA s).1.extract 0 64⟩ else none
noncomputable def zBO (s : ByteArray) : Opn := (zE1 s).getD .zero
noncomputable def zDJ (s : ByteArray) : Bool := match zE1 s with
 | none => false
 | some o => decide (zBb o.list o.shp = some s)
theorem zE0 {s : ByteArray} (h : zE1 s = none) : zBO s = .zero ∧ zDJ s = false := by rw [zBO, zDJ, h]; exact ⟨rfl, rfl⟩
theorem zF4 {s : ByteArray} (h : ¬ OOk s) : zE1 s = none := if_neg h
theorem zI9 {s : ByteArray} (h : pT ((s.extract 0 (tAt0 s)).size + 1) (s.extract 0 (tAt0 s)) [] = none) : zE1 s = none := by
 rw [zE1, h]
 split <;> rfl
theorem zI8 {s : ByteArray} {l : List Ent} (h : OOk s) (hp : pT ((s.extract 0 (tAt0 s)).size + 1) (s.extract 0 (tAt0 s)) [] = some l) : zE1 s = some ⟨l, oS s, oF s, (oA s).1.extract 0 64⟩ := by rw [zE1, if_pos h, hp]; rfl
theorem zFG {s : ByteArray} {o : Opn} (h : zE1 s = some o) : zBO s = o ∧ zDJ s = decide (zBb o.list o.shp = some s) := by rw [zBO, zDJ, h]; exact ⟨rfl, rfl⟩
theorem zK0 {s : ByteArray} {L : List Ent} {ev sz kd : Nat} (hL : IsTab s L ev sz kd) : ∀ k left out, left.size < k → TI s left out → pT k left out = some L
 | 0, _, _, h, _ => absurd h (Nat.not_lt_zero _)
 | k + 1, left, out, h, hT => by
  by_cases q : left = ⟨#[]⟩
  ·
   subst q
   rw [zK1, hT.last hL]
  ·
   obtain ⟨x, r, m, h1, h2, _⟩ := hT.more q hL
   obtain ⟨e1, e2⟩ := sS_of h1
   have h3 := zF0 h1
   rw [zOH q (by rw [e2]) (by rw [e1, h2]; rfl), e1, e2, h2]
   exact zK0 hL k r (out ++ m) (by omega) (hT.step q h1 h2)
theorem IsTab.open_ {s : ByteArray} {L : List Ent} {ev sz kd : Nat} (h : IsTab s L ev sz kd) : zE1 s = some ⟨L, shpN ev sz kd, oF s, hllF (zAz L)⟩ := by
 have hf := h.foot
 have hsm := h.small
 obtain ⟨r, a1, a2, a3, r2, r3, a4, a5, a6⟩ := zEc L (ev := ev) (sz := sz) (kd := kd) (zBj h.ok) h.ev2 h.sz2 h.kd2
 obtain ⟨r', hr'⟩ := h.props_at.2
 have hm := zBj h.ok
 have e2 := h.ev2
 have s2 := h.sz2
 have k2 := h.kd2
 have hP : oP s = zCA L ev sz kd := (sS_of hr').1
 have hA := zMw (b := false) a1 (show L.length ≤ 4611686018427387904 by omega)
 have hA' : oA s = (r, false) := by rw [oA, hP]; exact hA.2
 have hR : oR s = r.extract 64 r.size := by rw [oR, hA']
 have hB1 := zMw (b := false) a4 (show ev ≤ 4611686018427387904 by omega)
 have hB1' : oB1 s = (r2, false) := by rw [oB1, hR, hA']; exact hB1.2
 have hB2 := zMw (b := false) a5 (show sz ≤ 4611686018427387904 by omega)
 have hB2' : oB2 s = (r3, false) := by rw [oB2, hB1']; exact hB2.2
 have hB3 := zMw (b := false) a6 (show kd ≤ 4611686018427387904 by omega)
 have hS : oS s = shpN ev sz kd := by rw [oS, hR, hB1', hB2', hB1.1, hB2.1, hB3.1]; rfl
 have hok : OOk s := ⟨hf.big, hsm, by
  have h1 := hf.at0
  have h2 := hf.at1
  have h3 := hf.at2
  have h4 := hf.size
  have h5 := hf.le01
  have h6 := hf.le12
  have h7 := hf.le23
  rw [oN]; omega, by rw [hA']; exact a2⟩
 rw [zI8 hok (zK0 h _ _ _ (Nat.lt_succ_self _) (TI.start s)), hS, hA', a3]
theorem zK4 {s : ByteArray} {L : List Ent} {ev sz kd : Nat} (h : IsTab s L ev sz kd) : zBO s = ⟨L, shpN ev sz kd, oF s, hllF (zAz L)⟩ ∧ zDJ s = true := by
 obtain ⟨h1, h2⟩ := zFG h.open_
 refine ⟨h1, ?_⟩
 rw [h2]
 exact decide_eq_true h.back
def pw (b : Nat) : Nat := 2 ^ (40 - min b 40)
theorem pw_b (b : Nat) : 1 ≤ pw b ∧ pw b ≤ 1099511627776 := by
 have h1 : 2 ^ (40 - min b 40) ≤ 2 ^ 40 := Nat.pow_le_pow_right (by decide) (by omega)
 have h2 : 0 < 2 ^ (40 - min b 40) := Nat.two_pow_pos _
 have h3 : (2 : Nat) ^ 40 = 1099511627776 := by decide
 rw [h3] at h1
 exact ⟨h2, h1⟩
theorem shl1 {b : Nat} : IntKind.i64.wrap (1 * 2 ^ min ((40 - min b 40 : Nat) : Int).toNat IntKind.i64.bits) = ((pw b : Nat) : Int) := by
 have h1 : min ((40 - min b 40 : Nat) : Int).toNat IntKind.i64.bits = 40 - min b 40 := by show min ((40 - min b 40 : Nat) : Int).toNat 64 = _; omega
 have h2 := pw_b b
 have h4 : ((pw b : Nat) : Int) = (2 : Int) ^ (40 - min b 40) := by rw [pw]; simp
 rw [h1, Int.one_mul, ← h4, zDE (by omega)]
def fw (x : Nat) : Nat := 64000 / x
theorem fw_b (x : Nat) : fw x ≤ 64000 := Nat.div_le_self _ _
def zT (h : ByteArray) : Nat → Nat
 | 0 => 0
 | i + 1 => zT h i + pw (zBU h i)
def vT (h : ByteArray) : Nat → Nat
 | 0 => 0
 | i + 1 => vT h i + (if zBU h i = 0 then 1 else 0)
def fewT (v : Nat) : Nat → Nat
 | 0 => 0
 | j + 1 => fewT v j + fw (v + 1 + j)
def rawT (h : ByteArray) : Nat := 3193052135805681664 / (1000 * zT h 64)
def hllC (h : ByteArray) : Int := if zBk h = true then (if 160 < rawT h ∨ vT h 64 = 0 then ((rawT h : Nat) : Int) else ((fewT (vT h 64) (64 - vT h 64) / 1000 : Nat) : Int)) else -1
theorem zT_b (h : ByteArray) : ∀ i, zT h i ≤ 1099511627776 * i ∧ i ≤ zT h i
 | 0 => ⟨Nat.le_refl _, Nat.le_refl _⟩
 | i + 1 => by
  have ih := zT_b h i
  have h1 := pw_b (zBU h i)
  simp only [zT]
  omega
theorem vT_b (h : ByteArray) : ∀ i, vT h i ≤ i
 | 0 => Nat.le_refl _
 | i + 1 => by
  have ih := vT_b h i
  simp only [vT]
  split <;> omega
theorem zJQ (v : Nat) : ∀ j, fewT v j ≤ 64000 * j
 | 0 => Nat.le_refl _
 | j + 1 => by
  have ih := zJQ v j
  have := fw_b (v + 1 + j)
  simp only [fewT]
  omega
end Go.Rl
namespace Go.Rl
def pz : Nat × ByteArray × Nat × Nat × Nat := (0, ⟨#[]⟩, 0, 0, 0)
structure Is {α : Type} (a b : α) : Prop where
 h : a = b
theorem TA.end2 {s : ByteArray} {at_ : Nat} {out : List Ent} (h : TA s at_ out) (hge : ¬ at_ < tAt0 s) (hp : (propsF s).isSome = true) (hx : ¬ zBb out (shpN ((propsF s).getD pz).2.2.1 ((propsF s).getD pz).2.2.2.1 ((propsF s).getD pz).2.2.2.2) = some s) : zBq s = none := h.end_ hge (zDT (d := pz) hp) hx
theorem zKs {s : ByteArray} (h : (zBq s).isSome = true) : ∃ L ev sz kd, IsTab s L ev sz kd := by
 obtain ⟨⟨L, p⟩, hq⟩ := Option.isSome_iff_exists.1 h
 obtain ⟨ev, sz, kd, _, hL⟩ := zLl hq
 exact ⟨L, ev, sz, kd, hL⟩
theorem zKA {s : ByteArray} (h : (propsF s).isSome = false) : zBq s = none := zF3 fun L ev sz kd hL => by
 have := hL.propsF
 rw [zCz h] at this
 cases this
noncomputable def tgC (s u : ByteArray) (p : Int) : Int := if (zBq s).isSome = true then zNH (zEM (tabL s) u p) else 3
noncomputable def tgV (s u : ByteArray) (p : Int) : ByteArray := if (zBq s).isSome = true then zNG (zEM (tabL s) u p) else ⟨#[]⟩
noncomputable def tpS (s : ByteArray) : Shp := ((zBq s).map Prod.snd).getD ⟨0, 0, 0⟩
noncomputable def tpN (s : ByteArray) : Int := (((tabL s).length : Nat) : Int)
noncomputable def tpH (s : ByteArray) : Int := if (zBq s).isSome = true then hllC (hllF (zAz (tabL s))) else 0
theorem zNs {s u : ByteArray} {p : Int} (h : (zBq s).isSome = false) : tgC s u p = 3 ∧ tgV s u p = ⟨#[]⟩ := by rw [tgC, tgV, h]; exact ⟨rfl, rfl⟩
theorem zKe {s u : ByteArray} {p : Int} (h : (zBq s).isSome = true) : tgC s u p = zNH (zEM (tabL s) u p) ∧ tgV s u p = zNG (zEM (tabL s) u p) := ⟨if_pos h, if_pos h⟩
theorem tp_no {s : ByteArray} (h : (zBq s).isSome = false) : tpS s = ⟨0, 0, 0⟩ ∧ tpN s = 0 ∧ tpH s = 0 := by
 have := zCz h
 rw [tpS, tpN, tpH, zD6 this, this]
 exact ⟨rfl, rfl, rfl⟩
theorem zOv {s : ByteArray} {L : List Ent} {ev sz kd : Nat} (h : IsTab s L ev sz kd) : tpS s = shpN ev sz kd ∧ tpN s = ((L.length : Nat) : Int) ∧ tpH s = hllC (hllF (zAz L)) := by
 obtain ⟨h1, h2⟩ := zEU h
 refine ⟨by rw [tpS, zI0 h]; rfl, by rw [tpN, h1], by rw [tpH, if_pos h2, h1]⟩
theorem zKh (s : ByteArray) : (tabL s).length ≤ 400 := by
 cases h : (zBq s).isSome with
 | false => rw [zD6 (zCz h)]; exact Nat.zero_le _
 | true =>
  obtain ⟨L, ev, sz, kd, hL⟩ := zKs h
  rw [(zEU hL).1]
  exact zBj hL.ok
theorem zMe (x : ByteArray) : ((zBI x).getD []).length ≤ 400 := by
 cases h : zBI x with
 | none => exact Nat.zero_le _
 | some m =>
  obtain ⟨ev, hb⟩ := zHY h
  exact zBj hb.ok
theorem zNz (s : ByteArray) : 0 < (secF s).size := by simp only [secF, zAY, zAU]; omega
theorem zMj (a b : List Ent) : pvE a ++ pvE b = pvE (a ++ b) := by simp [pvE]
theorem zMi (l : List Int) (x : Int) : pvI l ++ [[PV.v (.int .i64 x)]] = pvI (l ++ [x]) := by simp [pvI]
theorem zIk {s : ByteArray} {L : List Ent} {ev sz kd : Nat} (h : zBb L (shpN ev sz kd) = some s) : IsTab s L ev sz kd := IsTab.mk' h
end Go.Rl
namespace Go.Rl
open Go.Proofs Go.Proofs.Tryd
set_option maxRecDepth 1000000
set_option maxHeartbeats 2000000
theorem inf2 : (Tryd.prog.info? 2).map (fun i => (i.zero, i.size, i.bytes)) = some (some (.int .i64 0), 1, 8) := by kernel_rfl
theorem en82 : En Tryd.prog 82 := zAh func82 (by decide) rfl
theorem zNB {h : ByteArray} (q : zBk h = false) : hllC h = -1 := by rw [hllC, q]; rfl
theorem zF5 {h : ByteArray} (q : zBk h = true) (x : 160 < rawT h ∨ vT h 64 = 0) : hllC h = ((rawT h : Nat) : Int) := by rw [hllC, if_pos q, if_pos x]
theorem zLC {h : ByteArray} (q : zBk h = true) (x : ¬ (160 < rawT h ∨ vT h 64 = 0)) : hllC h = ((fewT (vT h 64) (64 - vT h 64) / 1000 : Nat) : Int) := by rw [hllC, if_pos q, if_neg x]
theorem sub_u8 {x : Nat} (h : x ≤ 40) : IntKind.u8.wrap (40 - ((x : Nat) : Int)) = ((40 - x : Nat) : Int) := by
 rw [zKc rfl]
 show _ % ((256 : Nat) : Int) = _
 omega
theorem zO6 {h : ByteArray} : IntKind.i64.wrap ((3193052135805681664 : Int).tdiv (1000 * ((zT h 64 : Nat) : Int))) = ((rawT h : Nat) : Int) := by
 have h1 : (3193052135805681664 : Int).tdiv (1000 * ((zT h 64 : Nat) : Int)) = ((rawT h : Nat) : Int) := by
  rw [show (1000 * ((zT h 64 : Nat) : Int)) = ((1000 * zT h 64 : Nat) : Int) by omega]
  exact rfl
 have h2 : rawT h ≤ 3193052135805681664 := Nat.div_le_self _ _
 rw [h1, zDE (by omega)]
theorem zKu {a b : Nat} (h : a ≤ 1000000000) : IntKind.i64.wrap (((a : Nat) : Int).tdiv ((b : Nat) : Int)) = ((a / b : Nat) : Int) := by
 have h1 : ((a : Nat) : Int).tdiv ((b : Nat) : Int) = ((a / b : Nat) : Int) := rfl
 have h2 : a / b ≤ a := Nat.div_le_self _ _
 rw [h1]
 generalize a / b = q at *
 exact zDE (by omega)
theorem zJK (h : ByteArray) (hs : h.size ≤ 9000000000000000000) : Con Tryd.prog 45 [.one (PV.v (.string h))] [] [.one (.v (.int .i64 (hllC h)))] := by
 refine zAR func45 rfl rfl rfl rfl ?_
 refine zAB (zAA rfl (.a rfl rfl .nil) ?_)
 refine zAB ?_
 refine zAB (zAA rfl (.m rfl rfl (.run [1000] [] rfl (zAF rfl 1000 (X := []) en85 rfl (.val nod) (.cons (.one (.bor .v)) .nil) (by decide) all_nil .nil (zJI h (by omega)) rfl rfl (nle rfl)) (.r rfl (zAa (b := zBk h) rfl rfl) .nil))) ?_)
 refine zAT (t := (!(zBk h))) rfl (fun h1 => ?_) (fun h1 => ?_)
 ·
  replace h1 : (zBk h) = false := zAm h1
  refine zAB ?_
  rw [zNB h1]
  refine zAA rfl (.a rfl rfl .nil) ?_
  refine zAI ?_
  exact ends [_] [] (.cons (.tmp rfl) .nil) (.cons (.one .v (.v _)) .nil) (by decide) trivial
 ·
  replace h1 : (zBk h) = true := zAn h1
  refine zAK ?_
  refine zAB ?_
  have hok := h1
  have hl := zDl hok
  refine zAA rfl (.a rfl rfl (.a rfl rfl .nil)) ?_
  refine zAB ?_
  refine zAB (zAA rfl (.m rfl rfl (.r rfl (zAP rfl rfl underlying9) (.m rfl rfl .nil))) ?_)
  refine zAS ?_
  refine zAj (σ := Nat) (fun i => mk [(0, .vs h), (3, .vi ((zT h i : Nat) : Int)), (4, .vi ((vT h i : Nat) : Int)), (13, .vi (h.size : Int)), (14, .vi (i:Int))] [] []) (fun i => i ≤ 64) (fun i => 64 - i) 0 (by simp) (zAJ ⟨rfl, rfl, rfl, rfl, (zAE (by omega)), trivial⟩ trivial trivial rfl) ?_
  rintro i hG
  replace hG : i ≤ 64 := hG
  have hzb := zT_b h i
  have hvb := vT_b h i
  refine zAB (zAA rfl (.r rfl (zAt rfl rfl rfl) .nil) ?_)
  refine zAB ?_
  refine zAT (t := decide ((i:Int) < (h.size : Int))) rfl (fun h2 => ?_) (fun h2 => ?_)
  ·
   replace h2 := of_decide_eq_true h2
   refine zAK ?_
   refine zAB ?_
   refine zAS ?_
   refine zAB (zAA rfl (.m rfl rfl (.a rfl rfl .nil)) ?_)
   refine zAB ?_
   have hpw := pw_b (zBU h i)
   have hbn := zIb h i
   refine zAA rfl (.m rfl rfl (.m rfl rfl (.m rfl rfl (.r rfl (zAL (zBX rfl rfl rfl underlying9 (by omega) (zCG (by omega))) ((zAE (show (((h[i]?.getD 0).toNat : Nat) : Int) = ((zBU h i : Nat) : Int) from rfl)))) (.r rfl (zAL (zIp rfl rfl rfl) ((zAE (show min ((zBU h i : Nat) : Int) 40 = ((min (zBU h i) 40 : Nat) : Int) by omega)))) (.r rfl (zAL (zOx rfl rfl rfl) ((zAE (sub_u8 (by omega))))) (.r rfl (zAL (zKi rfl rfl rfl (by omega)) ((zAE shl1))) (.r rfl (zAW rfl rfl rfl (by omega)) (.a rfl rfl .nil))))))))) ?_
   refine zAB (zAA rfl (.m rfl rfl (.m rfl rfl (.r rfl (zAL (zBX rfl rfl rfl underlying9 (by omega) (zCG (by omega))) ((zAE (show (((h[i]?.getD 0).toNat : Nat) : Int) = ((zBU h i : Nat) : Int) from rfl)))) (.r rfl (zBB rfl rfl rfl) .nil)))) ?_)
   refine zAT (t := decide (((zBU h i : Nat) : Int) = 0)) rfl (fun h3 => ?_) (fun h3 => ?_)
   ·
    replace h3 := of_decide_eq_true h3
    refine zAO (s' := mk [(0, .vs h), (3, .vi (((zT h i : Nat) : Int) + ((pw (zBU h i) : Nat) : Int))), (4, .vi ((vT h i : Nat) : Int)), (13, .vi (h.size : Int)), (14, .vi (i:Int))] [] []) ?_ ?_
    · exact zAJ ⟨rfl, rfl, rfl, rfl, rfl, trivial⟩ trivial trivial rfl
    refine zAA rfl (.m rfl rfl (.r rfl (zAW rfl rfl rfl (by omega)) (.a rfl rfl .nil))) ?_
    refine zAA rfl (.r rfl (zAW rfl rfl rfl (by omega)) (.m rfl rfl .nil)) ?_
    refine nxt (Q := fun _ _ => False) (z := i) (i + 1) ?_ ?_ ?_
    ·
     show (i + 1) ≤ 64
     omega
    ·
     show 64 - (i + 1) < 64 - i
     omega
    · exact zAJ ⟨rfl, (zAE (show ((zT h i : Nat) : Int) + ((pw (zBU h i) : Nat) : Int) = ((zT h i + pw (zBU h i) : Nat) : Int) from (Int.natCast_add _ _).symm)), (zAE (by rw [vT, if_pos (by omega)]; omega)), rfl, (zAE (by omega)), trivial⟩ trivial trivial rfl
   ·
    replace h3 := of_decide_eq_false h3
    refine zAK ?_
    refine zAO (s' := mk [(0, .vs h), (3, .vi (((zT h i : Nat) : Int) + ((pw (zBU h i) : Nat) : Int))), (4, .vi ((vT h i : Nat) : Int)), (13, .vi (h.size : Int)), (14, .vi (i:Int))] [] []) ?_ ?_
    · exact zAJ ⟨rfl, rfl, rfl, rfl, rfl, trivial⟩ trivial trivial rfl
    refine zAA rfl (.r rfl (zAW rfl rfl rfl (by omega)) (.m rfl rfl .nil)) ?_
    refine nxt (Q := fun _ _ => False) (z := i) (i + 1) ?_ ?_ ?_
    ·
     show (i + 1) ≤ 64
     omega
    ·
     show 64 - (i + 1) < 64 - i
     omega
    · exact zAJ ⟨rfl, (zAE (show ((zT h i : Nat) : Int) + ((pw (zBU h i) : Nat) : Int) = ((zT h i + pw (zBU h i) : Nat) : Int) from (Int.natCast_add _ _).symm)), (zAE (by rw [vT, if_neg (by omega)]; omega)), rfl, (zAE (by omega)), trivial⟩ trivial trivial rfl
  ·
   replace h2 := of_decide_eq_false h2
   refine zAi ?_
   refine zAB ?_
   have hzb2 := zT_b h 64
   have hvb2 := vT_b h 64
   have hrw : rawT h ≤ 3193052135805681664 := Nat.div_le_self _ _
   refine zAO (s' := mk [(3, .vi ((zT h 64 : Nat) : Int)), (4, .vi ((vT h 64 : Nat) : Int))] [] []) ?_ ?_
   · exact zAJ ⟨(zAE (by rw [show i = 64 by omega])), (zAE (by rw [show i = 64 by omega])), trivial⟩ trivial trivial rfl
   refine zAA rfl (.m rfl rfl (.r rfl (zCj rfl rfl rfl (by omega)) (.r rfl (zAL (zDF rfl rfl rfl (by omega)) ((zAE zO6))) (.a rfl rfl .nil)))) ?_
   refine zAB ?_
   refine zAB ?_
   rcases bfc (decide (160 < ((rawT h : Nat) : Int))) with h4 | h4
   ·
    have h4' := h4
    replace h4' := of_decide_eq_false h4'
    refine zAA rfl (.m rfl rfl (.r rfl (zAL (zBE rfl rfl rfl) (zAG h4)) (.m rfl rfl (.m rfl rfl (.r rfl (zBB rfl rfl rfl) (.r rfl (zAg rfl rfl) .nil)))))) ?_
    refine zAT (t := decide (((vT h 64 : Nat) : Int) = 0)) rfl (fun h5 => ?_) (fun h5 => ?_)
    ·
     replace h5 := of_decide_eq_true h5
     refine zAB ?_
     rw [zF5 hok (by omega)]
     refine zAA rfl (.m rfl rfl (.a rfl rfl .nil)) ?_
     refine zAI ?_
     exact ends [_] [] (.cons (.tmp rfl) .nil) (.cons (.one .v (.v _)) .nil) (by decide) trivial
    ·
     replace h5 := of_decide_eq_false h5
     refine zAK ?_
     refine zAB (zAA rfl (.a rfl rfl .nil) ?_)
     refine zAB ?_
     refine zAB (zAA rfl (.m rfl rfl (.r rfl (zAW rfl rfl rfl (by omega)) (.a rfl rfl .nil))) ?_)
     refine zAS ?_
     refine zAj (σ := Nat) (fun j => mk [(7, .vi ((fewT (vT h 64) j : Nat) : Int)), (8, .vi ((vT h 64 + 1 + j : Nat) : Int))] [] []) (fun j => j ≤ 64 - vT h 64) (fun j => 64 - vT h 64 - j) 0 (by simp) (zAJ ⟨rfl, (zAE (by omega)), trivial⟩ trivial trivial rfl) ?_
     rintro j hG
     replace hG : j ≤ 64 - vT h 64 := hG
     have hfb := zJQ (vT h 64) j
     refine zAB ?_
     refine zAB (zAA rfl (.m rfl rfl (.r rfl (zDG rfl rfl rfl) .nil)) ?_)
     refine zAT (t := decide (((vT h 64 + 1 + j : Nat) : Int) ≤ 64)) rfl (fun h6 => ?_) (fun h6 => ?_)
     ·
      replace h6 := of_decide_eq_true h6
      refine zAK ?_
      refine zAB ?_
      refine zAS ?_
      have hq := fw_b (vT h 64 + 1 + j)
      refine zAA rfl (.m rfl rfl (.m rfl rfl (.r rfl (zAL (zDF rfl rfl rfl (by omega)) ((zAE (show IntKind.i64.wrap ((64000 : Int).tdiv ((vT h 64 + 1 + j : Nat) : Int)) = ((fw (vT h 64 + 1 + j) : Nat) : Int) from zKu (a := 64000) (by omega))))) (.r rfl (zAW rfl rfl rfl (by omega)) (.a rfl rfl .nil))))) ?_
      refine zAA rfl (.m rfl rfl (.r rfl (zAW rfl rfl rfl (by omega)) (.a rfl rfl .nil))) ?_
      refine nxt (Q := fun _ _ => False) (z := j) (j + 1) ?_ ?_ ?_
      ·
       show (j + 1) ≤ 64 - vT h 64
       omega
      ·
       show 64 - vT h 64 - (j + 1) < 64 - vT h 64 - j
       omega
      · exact zAJ ⟨(zAE (Int.natCast_add _ _).symm), (zAE (by omega)), trivial⟩ trivial trivial rfl
     ·
      replace h6 := of_decide_eq_false h6
      refine zAi ?_
      refine zAB ?_
      rw [zLC hok (by omega)]
      refine zAA rfl (.m rfl rfl (.r rfl (zAL (zDF rfl rfl rfl (by omega)) ((zAE (show IntKind.i64.wrap (((fewT (vT h 64) j : Nat) : Int).tdiv 1000) = ((fewT (vT h 64) (64 - vT h 64) / 1000 : Nat) : Int) by rw [show j = 64 - vT h 64 by omega]; exact zKu (b := 1000) (by have := zJQ (vT h 64) (64 - vT h 64); omega))))) (.a rfl rfl .nil))) ?_
      refine zAI ?_
      exact ends [_] [] (.cons (.tmp rfl) .nil) (.cons (.one .v (.v _)) .nil) (by decide) trivial
   ·
    have h4' := h4
    replace h4' := of_decide_eq_true h4'
    refine zAA rfl (.m rfl rfl (.r rfl (zAL (zBE rfl rfl rfl) (zAG h4)) (.m rfl rfl (.not rfl (.not rfl (.r rfl (zAo rfl rfl) .nil)))))) ?_
    refine zAT (t := true) rfl (fun _ => ?_) (fun h => nomatch h)
    refine zAB ?_
    rw [zF5 hok (by omega)]
    refine zAA rfl (.m rfl rfl (.a rfl rfl .nil)) ?_
    refine zAI ?_
    exact ends [_] [] (.cons (.tmp rfl) .nil) (.cons (.one .v (.v _)) .nil) (by decide) trivial
theorem zH3 (h : ByteArray) (hs : h.size ≤ 9000000000000000000) : Con Tryd.prog 44 [.one (PV.v (.string h))] [] [.one (.v (.int .i64 (hllC h)))] := by
 refine zAR func44 rfl rfl rfl rfl ?_
 refine zAB (zAA rfl (.a rfl rfl .nil) ?_)
 refine zAB ?_
 refine zAB (zAA rfl (.m rfl rfl (.run [1000] [] rfl (zAF rfl 1000 (X := []) en84 rfl (.val nod) (.cons (.one (.bor .v)) .nil) (by decide) all_nil .nil (zHT h (by omega)) rfl rfl (nle rfl)) (.r rfl (zAa (b := zBk h) rfl rfl) .nil))) ?_)
 refine zAT (t := (!(zBk h))) rfl (fun h1 => ?_) (fun h1 => ?_)
 ·
  replace h1 : (zBk h) = false := zAm h1
  refine zAB ?_
  rw [zNB h1]
  refine zAA rfl (.a rfl rfl .nil) ?_
  refine zAI ?_
  exact ends [_] [] (.cons (.tmp rfl) .nil) (.cons (.one .v (.v _)) .nil) (by decide) trivial
 ·
  replace h1 : (zBk h) = true := zAn h1
  refine zAK ?_
  refine zAB ?_
  have hok := h1
  have hl := zDl hok
  refine zAA rfl (.a rfl rfl .nil) ?_
  refine zAB (zAA rfl (.a rfl rfl .nil) ?_)
  refine zAB ?_
  refine zAB (zAA rfl (.a rfl rfl .nil) ?_)
  refine zAS ?_
  refine zAj (σ := Nat) (fun i => mk [(0, .vs h), (3, .vi ((zT h i : Nat) : Int)), (4, .vi ((vT h i : Nat) : Int)), (5, .vi (i:Int))] [] []) (fun i => i ≤ 64) (fun i => 64 - i) 0 (by simp) (zAJ ⟨rfl, rfl, rfl, (zAE (by omega)), trivial⟩ trivial trivial rfl) ?_
  rintro i hG
  replace hG : i ≤ 64 := hG
  have hzb := zT_b h i
  have hvb := vT_b h i
  refine zAB ?_
  refine zAB (zAA rfl (.m rfl rfl (.m rfl rfl (.r rfl (zAP rfl rfl underlying9) (.r rfl (zAt rfl rfl rfl) .nil)))) ?_)
  refine zAT (t := decide ((i:Int) < (h.size : Int))) rfl (fun h2 => ?_) (fun h2 => ?_)
  ·
   replace h2 := of_decide_eq_true h2
   refine zAK ?_
   refine zAB ?_
   refine zAS ?_
   refine zAB ?_
   have hpw := pw_b (zBU h i)
   have hbn := zIb h i
   refine zAA rfl (.m rfl rfl (.m rfl rfl (.m rfl rfl (.r rfl (zAL (zBX rfl rfl rfl underlying9 (by omega) (zCG (by omega))) ((zAE (show (((h[i]?.getD 0).toNat : Nat) : Int) = ((zBU h i : Nat) : Int) from rfl)))) (.r rfl (zBn rfl rfl underlying5 underlying2 (by omega)) (.r rfl (zAL (zIp rfl rfl rfl) ((zAE (show min ((zBU h i : Nat) : Int) 40 = ((min (zBU h i) 40 : Nat) : Int) by omega)))) (.r rfl (zAL (zBw rfl rfl rfl (by omega)) ((zAE (by omega)))) (.r rfl (zAL (zAe (k' := .u64) 18446744073709551616 rfl (40 - min (zBU h i) 40) rfl rfl rfl underlying2 underlying92) ((zAE (show (((40 - min (zBU h i) 40) % 18446744073709551616 : Nat) : Int) = ((40 - min (zBU h i) 40 : Nat) : Int) by omega)))) (.r rfl (zAL (zKi rfl rfl rfl (by omega)) ((zAE shl1))) (.r rfl (zAW rfl rfl rfl (by omega)) (.a rfl rfl .nil))))))))))) ?_
   refine zAB ?_
   refine zAO (s' := mk [(0, .vs h), (3, .vi (((zT h i : Nat) : Int) + ((pw (zBU h i) : Nat) : Int))), (4, .vi ((vT h i : Nat) : Int)), (5, .vi (i:Int))] [] []) ?_ ?_
   · exact zAJ ⟨rfl, rfl, rfl, rfl, trivial⟩ trivial trivial rfl
   refine zAA rfl (.m rfl rfl (.m rfl rfl (.r rfl (zAL (zBX rfl rfl rfl underlying9 (by omega) (zCG (by omega))) ((zAE (show (((h[i]?.getD 0).toNat : Nat) : Int) = ((zBU h i : Nat) : Int) from rfl)))) (.r rfl (zBB rfl rfl rfl) .nil)))) ?_
   refine zAT (t := decide (((zBU h i : Nat) : Int) = 0)) rfl (fun h3 => ?_) (fun h3 => ?_)
   ·
    replace h3 := of_decide_eq_true h3
    refine zAA rfl (.m rfl rfl (.r rfl (zAW rfl rfl rfl (by omega)) (.a rfl rfl .nil))) ?_
    refine zAA rfl (.m rfl rfl (.r rfl (zAW rfl rfl rfl (by omega)) (.a rfl rfl .nil))) ?_
    refine nxt (Q := fun _ _ => False) (z := i) (i + 1) ?_ ?_ ?_
    ·
     show (i + 1) ≤ 64
     omega
    ·
     show 64 - (i + 1) < 64 - i
     omega
    · exact zAJ ⟨rfl, (zAE (show ((zT h i : Nat) : Int) + ((pw (zBU h i) : Nat) : Int) = ((zT h i + pw (zBU h i) : Nat) : Int) from (Int.natCast_add _ _).symm)), (zAE (by rw [vT, if_pos (by omega)]; omega)), (zAE (by omega)), trivial⟩ trivial trivial rfl
   ·
    replace h3 := of_decide_eq_false h3
    refine zAK ?_
    refine zAA rfl (.m rfl rfl (.r rfl (zAW rfl rfl rfl (by omega)) (.a rfl rfl .nil))) ?_
    refine nxt (Q := fun _ _ => False) (z := i) (i + 1) ?_ ?_ ?_
    ·
     show (i + 1) ≤ 64
     omega
    ·
     show 64 - (i + 1) < 64 - i
     omega
    · exact zAJ ⟨rfl, (zAE (show ((zT h i : Nat) : Int) + ((pw (zBU h i) : Nat) : Int) = ((zT h i + pw (zBU h i) : Nat) : Int) from (Int.natCast_add _ _).symm)), (zAE (by rw [vT, if_neg (by omega)]; omega)), (zAE (by omega)), trivial⟩ trivial trivial rfl
  ·
   replace h2 := of_decide_eq_false h2
   refine zAi ?_
   refine zAB ?_
   have hzb2 := zT_b h 64
   have hvb2 := vT_b h 64
   have hrw : rawT h ≤ 3193052135805681664 := Nat.div_le_self _ _
   refine zAO (s' := mk [(3, .vi ((zT h 64 : Nat) : Int)), (4, .vi ((vT h 64 : Nat) : Int))] [] []) ?_ ?_
   · exact zAJ ⟨(zAE (by rw [show i = 64 by omega])), (zAE (by rw [show i = 64 by omega])), trivial⟩ trivial trivial rfl
   refine zAA rfl (.m rfl rfl (.r rfl (zCj rfl rfl rfl (by omega)) (.r rfl (zAL (zDF rfl rfl rfl (by omega)) ((zAE zO6))) (.a rfl rfl .nil)))) ?_
   refine zAB ?_
   refine zAB ?_
   rcases bfc (decide (160 < ((rawT h : Nat) : Int))) with h4 | h4
   ·
    have h4' := h4
    replace h4' := of_decide_eq_false h4'
    refine zAA rfl (.m rfl rfl (.r rfl (zAL (zBE rfl rfl rfl) (zAG h4)) (.m rfl rfl (.m rfl rfl (.r rfl (zBB rfl rfl rfl) (.r rfl (zAg rfl rfl) .nil)))))) ?_
    refine zAT (t := decide (((vT h 64 : Nat) : Int) = 0)) rfl (fun h5 => ?_) (fun h5 => ?_)
    ·
     replace h5 := of_decide_eq_true h5
     refine zAB ?_
     rw [zF5 hok (by omega)]
     refine zAA rfl (.m rfl rfl (.a rfl rfl .nil)) ?_
     refine zAI ?_
     exact ends [_] [] (.cons (.tmp rfl) .nil) (.cons (.one .v (.v _)) .nil) (by decide) trivial
    ·
     replace h5 := of_decide_eq_false h5
     refine zAK ?_
     refine zAB (zAA rfl (.a rfl rfl .nil) ?_)
     refine zAB ?_
     refine zAB (zAA rfl (.m rfl rfl (.r rfl (zAW rfl rfl rfl (by omega)) (.a rfl rfl .nil))) ?_)
     refine zAS ?_
     refine zAj (σ := Nat) (fun j => mk [(7, .vi ((fewT (vT h 64) j : Nat) : Int)), (8, .vi ((vT h 64 + 1 + j : Nat) : Int))] [] []) (fun j => j ≤ 64 - vT h 64) (fun j => 64 - vT h 64 - j) 0 (by simp) (zAJ ⟨rfl, (zAE (by omega)), trivial⟩ trivial trivial rfl) ?_
     rintro j hG
     replace hG : j ≤ 64 - vT h 64 := hG
     have hfb := zJQ (vT h 64) j
     refine zAB ?_
     refine zAB (zAA rfl (.m rfl rfl (.r rfl (zDG rfl rfl rfl) .nil)) ?_)
     refine zAT (t := decide (((vT h 64 + 1 + j : Nat) : Int) ≤ 64)) rfl (fun h6 => ?_) (fun h6 => ?_)
     ·
      replace h6 := of_decide_eq_true h6
      refine zAK ?_
      refine zAB ?_
      refine zAS ?_
      have hq := fw_b (vT h 64 + 1 + j)
      refine zAA rfl (.m rfl rfl (.m rfl rfl (.r rfl (zAL (zDF rfl rfl rfl (by omega)) ((zAE (show IntKind.i64.wrap ((64000 : Int).tdiv ((vT h 64 + 1 + j : Nat) : Int)) = ((fw (vT h 64 + 1 + j) : Nat) : Int) from zKu (a := 64000) (by omega))))) (.r rfl (zAW rfl rfl rfl (by omega)) (.a rfl rfl .nil))))) ?_
      refine zAA rfl (.m rfl rfl (.r rfl (zAW rfl rfl rfl (by omega)) (.a rfl rfl .nil))) ?_
      refine nxt (Q := fun _ _ => False) (z := j) (j + 1) ?_ ?_ ?_
      ·
       show (j + 1) ≤ 64 - vT h 64
       omega
      ·
       show 64 - vT h 64 - (j + 1) < 64 - vT h 64 - j
       omega
      · exact zAJ ⟨(zAE (Int.natCast_add _ _).symm), (zAE (by omega)), trivial⟩ trivial trivial rfl
     ·
      replace h6 := of_decide_eq_false h6
      refine zAi ?_
      refine zAB ?_
      rw [zLC hok (by omega)]
      refine zAA rfl (.m rfl rfl (.r rfl (zAL (zDF rfl rfl rfl (by omega)) ((zAE (show IntKind.i64.wrap (((fewT (vT h 64) j : Nat) : Int).tdiv 1000) = ((fewT (vT h 64) (64 - vT h 64) / 1000 : Nat) : Int) by rw [show j = 64 - vT h 64 by omega]; exact zKu (b := 1000) (by have := zJQ (vT h 64) (64 - vT h 64); omega))))) (.a rfl rfl .nil))) ?_
      refine zAI ?_
      exact ends [_] [] (.cons (.tmp rfl) .nil) (.cons (.one .v (.v _)) .nil) (by decide) trivial
   ·
    have h4' := h4
    replace h4' := of_decide_eq_true h4'
    refine zAA rfl (.m rfl rfl (.r rfl (zAL (zBE rfl rfl rfl) (zAG h4)) (.m rfl rfl (.not rfl (.not rfl (.r rfl (zAo rfl rfl) .nil)))))) ?_
    refine zAT (t := true) rfl (fun _ => ?_) (fun h => nomatch h)
    refine zAB ?_
    rw [zF5 hok (by omega)]
    refine zAA rfl (.m rfl rfl (.a rfl rfl .nil)) ?_
    refine zAI ?_
    exact ends [_] [] (.cons (.tmp rfl) .nil) (.cons (.one .v (.v _)) .nil) (by decide) trivial
theorem get_con (l : List Ent) (u : ByteArray) (p : Int) (hl : l.length ≤ 2000000) : Con Tryd.prog 42 [.one (PV.sl false 4 (pvE l)), .one (PV.v (.string u)), .one (PV.v (.int .i64 p))] [] [.one (.v (.int .i64 (zNH (zEM l u p)))), .one (.v (.string (zNG (zEM l u p))))] := by
 refine zAR func42 rfl rfl rfl rfl ?_
 have hle := zAf l
 refine zAB (zAA rfl (.a rfl rfl (.a rfl rfl .nil)) ?_)
 refine zAB (zAA rfl (.m rfl rfl (.m rfl rfl (.m rfl rfl (.run [1200] [] rfl (zAF rfl 1200 (X := []) en82 rfl (.val nod) (.cons (.one (.bor (.sl nod))) (.cons (.one (.bor .v)) (.cons (.one (.bor .v)) .nil))) (by decide) all_nil .nil (zLt l u p (by omega)) rfl rfl (nle rfl)) (.a rfl rfl .nil))))) ?_)
 refine zAB ?_
 refine zAS ?_
 refine zAB (zAA rfl (.m rfl rfl (.r rfl (zAt rfl rfl rfl) (.a rfl rfl .nil))) ?_)
 refine zAT (t := decide ((idxF (asOf u p) l) < 0)) rfl (fun h1 => ?_) (fun h1 => ?_)
 ·
  replace h1 := of_decide_eq_true h1
  refine zAB (zAA rfl (.a rfl rfl (.a rfl rfl .nil)) ?_)
  refine zAI ?_
  exact ends [_, _] [] (.cons (.tmp (zAE (by rw [zGp h1]; rfl))) (.cons (.tmp (zA3 (by rw [zGp h1]; rfl))) .nil)) (.cons (.one .v (.v _)) (.cons (.one .v (.v _)) .nil)) (by decide) trivial
 ·
  replace h1 := of_decide_eq_false h1
  refine zAB ?_
  have hib := idx_bnd (p := asOf u p) (l := l) (by omega)
  obtain ⟨e, he⟩ : ∃ e, l[(idxF (asOf u p) l).toNat]? = some e := ⟨_, List.getElem?_eq_getElem hib⟩
  have hlk : zEM l u p = some e := zM0 (by omega) he
  refine zAO (s' := mk [(0, .p none (.sl false 4 (pvE l))), (8, .vi (idxF (asOf u p) l))] [] []) ?_ ?_
  · exact zAJ ⟨rfl, rfl, trivial⟩ trivial trivial rfl
  refine zAA rfl (.m rfl rfl (.m rfl rfl (.r rfl (zAq rfl rfl rfl underlying28 sizeOf58 rfl (by omega) (zBZ he)) (.r rfl (zAk rfl rfl underlying58 rfl sizeOf56 (by decide)) (.r rfl (zAk rfl rfl underlying56 rfl sizeOf2 (by decide)) (.r rfl (zAx rfl rfl isAgg2 rfl) (.r rfl (zBB rfl rfl rfl) (.a rfl rfl .nil)))))))) ?_
  refine zAT (t := decide (e.kind = 0)) rfl (fun h2 => ?_) (fun h2 => ?_)
  ·
   replace h2 := of_decide_eq_true h2
   refine zAB (zAA rfl (.a rfl rfl (.a rfl rfl .nil)) ?_)
   refine zAI ?_
   exact ends [_, _] [] (.cons (.tmp (zAE (by rw [hlk]; exact (if_pos h2).symm))) (.cons (.tmp (zA3 (by rw [hlk]; exact (if_pos h2).symm))) .nil)) (.cons (.one .v (.v _)) (.cons (.one .v (.v _)) .nil)) (by decide) trivial
  ·
   replace h2 := of_decide_eq_false h2
   refine zAK ?_
   refine zAB (zAb zBh rfl (.m rfl rfl (.m rfl rfl (.r rfl (zAq rfl rfl rfl underlying28 sizeOf58 rfl (by omega) (zBZ he)) (.r rfl (zAk rfl rfl underlying58 rfl sizeOf9 (by decide)) (.r rfl (zAx rfl rfl isAgg9 rfl) (.a rfl rfl (.a rfl rfl .nil))))))) (by kernel_rfl) ?_)
   refine zAI ?_
   exact ends [_, _] [] (.cons (.tmp (zAE (by rw [hlk]; exact (if_neg h2).symm))) (.cons (.tmp (zA3 (by rw [hlk]; exact (if_neg h2).symm))) .nil)) (.cons (.one .v (.v _)) (.cons (.one .v (.v _)) .nil)) (by decide) trivial
theorem zM2 (l : List Ent) (u : ByteArray) (p : Int) (hl : l.length ≤ 2000000) : Con Tryd.prog 40 [.one (PV.sl false 4 (pvE l)), .one (PV.v (.string u)), .one (PV.v (.int .i64 p))] [] [.one (.v (.int .i64 (zNH (zEM l u p)))), .one (.v (.string (zNG (zEM l u p))))] := by
 refine zAR func40 rfl rfl rfl rfl ?_
 have hle := zAf l
 refine zAB (zAA rfl (.a rfl rfl (.a rfl rfl .nil)) ?_)
 refine zAB ?_
 refine zAB (zAA rfl (.a rfl rfl .nil) ?_)
 refine zAS ?_
 refine zAj (σ := Nat) (fun i => mk [(0, .p none (.sl false 4 (pvE l))), (1, .vs u), (2, .vi p), (8, .vi (i:Int))] [] []) (fun i => i ≤ l.length ∧ ∀ j e, j < i → l[j]? = some e → asOf u p e = false) (fun i => l.length - i) 0 ⟨Nat.zero_le _, fun _ _ h => absurd h (Nat.not_lt_zero _)⟩ (zAJ ⟨rfl, rfl, rfl, (zAE (by omega)), trivial⟩ trivial trivial rfl) ?_
 rintro i hG
 replace hG : i ≤ l.length ∧ ∀ j e, j < i → l[j]? = some e → asOf u p e = false := hG
 obtain ⟨hi, hG⟩ := hG
 refine zAB ?_
 refine zAB (zAA rfl (.m rfl rfl (.m rfl rfl (.r rfl (zAp rfl rfl underlying28) (.r rfl (zAt rfl rfl rfl) .nil)))) ?_)
 refine zAT (t := decide ((i:Int) < ((pvE l).length : Int))) rfl (fun h1 => ?_) (fun h1 => ?_)
 ·
  replace h1 := of_decide_eq_true h1
  refine zAK ?_
  refine zAB ?_
  refine zAS ?_
  refine zAB ?_
  refine zAB ?_
  obtain ⟨e, he⟩ : ∃ e, l[i]? = some e := ⟨_, List.getElem?_eq_getElem (by omega)⟩
  refine zAO (s' := mk [(0, .p none (.sl false 4 (pvE l))), (1, .vs u), (2, .vi p), (8, .vi (i:Int))] [] []) ?_ ?_
  · exact zAJ ⟨rfl, rfl, rfl, rfl, trivial⟩ trivial trivial rfl
  rcases bfc (!(decide (e.user = u))) with h2 | h2
  ·
   have h2' := h2
   replace h2' : e.user = u := of_decide_eq_true (zAn h2')
   refine zAA rfl (.m rfl rfl (.m rfl rfl (.r rfl (zAq rfl rfl rfl underlying28 sizeOf58 rfl (by omega) (zBZ he)) (.r rfl (zAk rfl rfl underlying58 rfl sizeOf56 (by decide)) (.r rfl (zAk rfl rfl underlying56 rfl sizeOf9 (by decide)) (.r rfl (zAx rfl rfl isAgg9 rfl) (.m rfl rfl (.r rfl (zAL (zCC rfl rfl rfl) (zAG h2)) (.m rfl rfl (.m rfl rfl (.m rfl rfl (.r rfl (zAq rfl rfl rfl underlying28 sizeOf58 rfl (by omega) (zBZ he)) (.r rfl (zAk rfl rfl underlying58 rfl sizeOf56 (by decide)) (.r rfl (zAk rfl rfl underlying56 rfl sizeOf2 (by decide)) (.r rfl (zAx rfl rfl isAgg2 rfl) (.m rfl rfl (.r rfl (zBE rfl rfl rfl) (.r rfl (zAg rfl rfl) .nil)))))))))))))))))) ?_
   refine zAT (t := decide (p < e.seq)) rfl (fun h3 => ?_) (fun h3 => ?_)
   ·
    replace h3 := of_decide_eq_true h3
    refine zAi ?_
    refine zAO (s' := mk [(0, .p none (.sl false 4 (pvE l))), (1, .vs u), (2, .vi p), (8, .vi (i:Int)), (24, .p none (.sl false 4 (pvE l))), (25, .vi (i:Int)), (26, .fea none [PV.v (.string e.user), PV.v (.int .i64 e.seq), PV.v (.int .i64 e.kind), PV.v (.string e.value)]), (27, .fea none [PV.v (.string e.user), PV.v (.int .i64 e.seq), PV.v (.int .i64 e.kind), PV.v (.string e.value)]), (28, .fea none [PV.v (.int .i64 e.seq), PV.v (.int .i64 e.kind), PV.v (.string e.value)]), (29, .vi e.seq), (30, .vi p), (31, .vb (decide (p < e.seq)))] [] []) ?_ ?_
    · exact zAJ ⟨rfl, rfl, rfl, rfl, rfl, rfl, rfl, rfl, rfl, rfl, rfl, rfl, trivial⟩ trivial trivial rfl
    refine zAA rfl (.m rfl rfl (.r rfl (zAW rfl rfl rfl (by omega)) (.a rfl rfl .nil))) ?_
    refine nxt (Q := fun _ _ => False) (z := i) (i + 1) ?_ ?_ ?_
    ·
     show (i + 1) ≤ l.length ∧ ∀ j e, j < (i + 1) → l[j]? = some e → asOf u p e = false
     exact ⟨by omega, zIL hG he (by simp_all [asOf])⟩
    ·
     show l.length - (i + 1) < l.length - i
     omega
    · exact zAJ ⟨rfl, rfl, rfl, (zAE (by omega)), trivial⟩ trivial trivial rfl
   ·
    replace h3 := of_decide_eq_false h3
    refine zAK ?_
    refine zAB ?_
    refine zAB ?_
    have hlk : zEM l u p = some e := look_at hG he (by simp_all [asOf])
    refine zAO (s' := mk [(0, .p none (.sl false 4 (pvE l))), (8, .vi (i:Int))] [] []) ?_ ?_
    · exact zAJ ⟨rfl, rfl, trivial⟩ trivial trivial rfl
    refine zAA rfl (.m rfl rfl (.m rfl rfl (.r rfl (zAq rfl rfl rfl underlying28 sizeOf58 rfl (by omega) (zBZ he)) (.r rfl (zAk rfl rfl underlying58 rfl sizeOf56 (by decide)) (.r rfl (zAk rfl rfl underlying56 rfl sizeOf2 (by decide)) (.r rfl (zAx rfl rfl isAgg2 rfl) (.r rfl (zBB rfl rfl rfl) .nil))))))) ?_
    refine zAT (t := decide (e.kind = 0)) rfl (fun h4 => ?_) (fun h4 => ?_)
    ·
     replace h4 := of_decide_eq_true h4
     refine zAB (zAA rfl (.a rfl rfl (.a rfl rfl .nil)) ?_)
     refine zAI ?_
     exact ends [_, _] [] (.cons (.tmp (zAE (by rw [hlk]; exact (if_pos h4).symm))) (.cons (.tmp (zA3 (by rw [hlk]; exact (if_pos h4).symm))) .nil)) (.cons (.one .v (.v _)) (.cons (.one .v (.v _)) .nil)) (by decide) trivial
    ·
     replace h4 := of_decide_eq_false h4
     refine zAK ?_
     refine zAB (zAb zBh rfl (.m rfl rfl (.m rfl rfl (.r rfl (zAq rfl rfl rfl underlying28 sizeOf58 rfl (by omega) (zBZ he)) (.r rfl (zAk rfl rfl underlying58 rfl sizeOf9 (by decide)) (.r rfl (zAx rfl rfl isAgg9 rfl) (.a rfl rfl (.a rfl rfl .nil))))))) (by kernel_rfl) ?_)
     refine zAI ?_
     exact ends [_, _] [] (.cons (.tmp (zAE (by rw [hlk]; exact (if_neg h4).symm))) (.cons (.tmp (zA3 (by rw [hlk]; exact (if_neg h4).symm))) .nil)) (.cons (.one .v (.v _)) (.cons (.one .v (.v _)) .nil)) (by decide) trivial
  ·
   have h2' := h2
   replace h2' : ¬ (e.user = u) := of_decide_eq_false (zAm h2')
   refine zAA rfl (.m rfl rfl (.m rfl rfl (.r rfl (zAq rfl rfl rfl underlying28 sizeOf58 rfl (by omega) (zBZ he)) (.r rfl (zAk rfl rfl underlying58 rfl sizeOf56 (by decide)) (.r rfl (zAk rfl rfl underlying56 rfl sizeOf9 (by decide)) (.r rfl (zAx rfl rfl isAgg9 rfl) (.m rfl rfl (.r rfl (zAL (zCC rfl rfl rfl) (zAG h2)) (.m rfl rfl (.not rfl (.not rfl (.not rfl (.not rfl (.not rfl (.not rfl (.not rfl (.not rfl (.r rfl (zAo rfl rfl) .nil)))))))))))))))))) ?_
   refine zAT (t := true) rfl (fun _ => ?_) (fun h => nomatch h)
   refine zAi ?_
   refine zAO (s' := mk [(0, .p none (.sl false 4 (pvE l))), (1, .vs u), (2, .vi p), (8, .vi (i:Int))] [] []) ?_ ?_
   · exact zAJ ⟨rfl, rfl, rfl, rfl, trivial⟩ trivial trivial rfl
   refine zAA rfl (.m rfl rfl (.r rfl (zAW rfl rfl rfl (by omega)) (.a rfl rfl .nil))) ?_
   refine nxt (Q := fun _ _ => False) (z := i) (i + 1) ?_ ?_ ?_
   ·
    show (i + 1) ≤ l.length ∧ ∀ j e, j < (i + 1) → l[j]? = some e → asOf u p e = false
    exact ⟨by omega, zIL hG he (by simp_all [asOf])⟩
   ·
    show l.length - (i + 1) < l.length - i
    omega
   · exact zAJ ⟨rfl, rfl, rfl, (zAE (by omega)), trivial⟩ trivial trivial rfl
 ·
  replace h1 := of_decide_eq_false h1
  refine zAi ?_
  refine zAB (zAA rfl (.a rfl rfl (.a rfl rfl .nil)) ?_)
  refine zAI ?_
  exact ends [_, _] [] (.cons (.tmp (zAE (by rw [zK7 (by omega) hG]; rfl))) (.cons (.tmp (zA3 (by rw [zK7 (by omega) hG]; rfl))) .nil)) (.cons (.one .v (.v _)) (.cons (.one .v (.v _)) .nil)) (by decide) trivial
theorem zGq (s : ByteArray) (n : Nat) (hs : s.size ≤ 9000000000000000000) (hn : n ≤ 9000000000000000000) : Con Tryd.prog 47 [.one (PV.v (.string s)), .one (PV.v (.int .i64 (n:Int)))] [] [.one (.v (.string (txX (zBD s n)))), .one (.v (.bool ((zBD s n).isSome)))] := by
 refine zAR func47 rfl rfl rfl rfl ?_
 refine zAB (zAA rfl (.a rfl rfl (.a rfl rfl .nil)) ?_)
 refine zAB ?_
 refine zAB (zAA rfl (.m rfl rfl (.m rfl rfl (.r rfl (zAP rfl rfl underlying9) (.r rfl (zBE rfl rfl rfl) .nil)))) ?_)
 refine zAT (t := decide ((s.size : Int) < (n:Int))) rfl (fun h1 => ?_) (fun h1 => ?_)
 ·
  replace h1 := of_decide_eq_true h1
  refine zAB ?_
  rw [zMW (by omega)]
  refine zAA rfl (.a rfl rfl (.a rfl rfl .nil)) ?_
  refine zAI ?_
  exact ends [_, _] [] (.cons (.tmp rfl) (.cons (.tmp rfl) .nil)) (.cons (.one .v (.v _)) (.cons (.one .v (.v _)) .nil)) (by decide) trivial
 ·
  replace h1 := of_decide_eq_false h1
  refine zAK ?_
  refine zAB ?_
  have hex := zC6 s n
  refine zAO (s' := mk [(0, .vs s), (1, .vi (n:Int))] [] []) ?_ ?_
  · exact zAJ ⟨rfl, rfl, trivial⟩ trivial trivial rfl
  refine zAA rfl (.m rfl rfl (.m rfl rfl (.r rfl (zA0 rfl rfl underlying9 (.at_ rfl rfl) .no (by omega) (Nat.le_refl _)) (.run [2000, 2001, 2002] [] rfl (zAF rfl 2000 (X := []) en87 rfl (.val nod) (.cons (.one (.bor .v)) .nil) (by decide) all_nil .nil (zEA (s.extract n s.size) (by omega)) rfl rfl (nle rfl)) (.m rfl rfl (.r rfl (zAH rfl rfl rfl) (.r rfl (zAH rfl rfl rfl) (.r rfl (zAH rfl rfl rfl) (.a rfl rfl (.a rfl rfl (.a rfl rfl .nil))))))))))) ?_
  refine zAB ?_
  have hxr := zIf (s.extract n s.size)
  have hxx := zMD (s.extract n s.size)
  refine zAO (s' := mk [(6, .vs (txX (zAX (s.extract n s.size)))), (7, .vs (txR (zAX (s.extract n s.size)))), (8, .vb ((zAX (s.extract n s.size)).isSome))] [] []) ?_ ?_
  · exact zAJ ⟨rfl, rfl, rfl, trivial⟩ trivial trivial rfl
  refine zAA rfl (.m rfl rfl (.run [2600, 2601, 2602] [] rfl (zAF rfl 2600 (X := []) en86 rfl (.val nod) (.cons (.one (.bor .v)) .nil) (by decide) all_nil .nil (zCO (txR (zAX (s.extract n s.size))) (by omega)) rfl rfl (nle rfl)) (.m rfl rfl (.r rfl (zAH rfl rfl rfl) (.r rfl (zAH rfl rfl rfl) (.r rfl (zAH rfl rfl rfl) (.a rfl rfl (.a rfl rfl (.a rfl rfl .nil))))))))) ?_
  refine zAB ?_
  refine zAB ?_
  refine zAO (s' := mk [(6, .vs (txX (zAX (s.extract n s.size)))), (8, .vb ((zAX (s.extract n s.size)).isSome)), (9, .p none (.v (.int .u32 ((tvN (zBL (txR (zAX (s.extract n s.size)))) : Nat) : Int)))), (11, .vb ((zBL (txR (zAX (s.extract n s.size)))).isSome))] [] []) ?_ ?_
  · exact zAJ ⟨rfl, rfl, rfl, rfl, trivial⟩ trivial trivial rfl
  rcases bfc (!((zAX (s.extract n s.size)).isSome)) with h2 | h2
  ·
   have h2' := h2
   replace h2' : ((zAX (s.extract n s.size)).isSome) = true := zAn h2'
   rcases bfc (!((zBL (txR (zAX (s.extract n s.size)))).isSome)) with h3 | h3
   ·
    have h3' := h3
    replace h3' : ((zBL (txR (zAX (s.extract n s.size)))).isSome) = true := zAn h3'
    refine zAA rfl (.m rfl rfl (.r rfl (zAL (zAa (b := (zAX (s.extract n s.size)).isSome) rfl rfl) (zAG h2)) (.m rfl rfl (.m rfl rfl (.r rfl (zAL (zAa (b := (zBL (txR (zAX (s.extract n s.size)))).isSome) rfl rfl) (zAG h3)) (.r rfl (zAg rfl rfl) (.m rfl rfl (.m rfl rfl (.m rfl rfl (.run [3900] [] rfl (zAF rfl 3900 (X := []) en56 rfl (.val nod) (.cons (.one (.bor .v)) .nil) (by decide) all_nil .nil (zKm (txX (zAX (s.extract n s.size))) (by omega)) rfl rfl (nle rfl)) (.r rfl (zB2 rfl rfl rfl) (.r rfl (zAg rfl rfl) .nil)))))))))))) ?_
    refine zAT (t := (!(decide (((tvN (zBL (txR (zAX (s.extract n s.size)))) : Nat) : Int) = ((crcF (txX (zAX (s.extract n s.size))) : Nat) : Int))))) rfl (fun h4 => ?_) (fun h4 => ?_)
    ·
     replace h4 : ¬ (((tvN (zBL (txR (zAX (s.extract n s.size)))) : Nat) : Int) = ((crcF (txX (zAX (s.extract n s.size))) : Nat) : Int)) := of_decide_eq_false (zAm h4)
     refine zAB ?_
     rw [secAt_3 (by omega) h2' h3' (by omega)]
     refine zAA rfl (.a rfl rfl (.a rfl rfl .nil)) ?_
     refine zAI ?_
     exact ends [_, _] [] (.cons (.tmp rfl) (.cons (.tmp rfl) .nil)) (.cons (.one .v (.v _)) (.cons (.one .v (.v _)) .nil)) (by decide) trivial
    ·
     replace h4 : ((tvN (zBL (txR (zAX (s.extract n s.size)))) : Nat) : Int) = ((crcF (txX (zAX (s.extract n s.size))) : Nat) : Int) := of_decide_eq_true (zAn h4)
     refine zAK ?_
     refine zAB ?_
     rw [secAt_4 (by omega) h2' h3' (by omega)]
     refine zAA rfl (.m rfl rfl (.a rfl rfl (.a rfl rfl .nil))) ?_
     refine zAI ?_
     exact ends [_, _] [] (.cons (.tmp rfl) (.cons (.tmp rfl) .nil)) (.cons (.one .v (.v _)) (.cons (.one .v (.v _)) .nil)) (by decide) trivial
   ·
    have h3' := h3
    replace h3' : ((zBL (txR (zAX (s.extract n s.size)))).isSome) = false := zAm h3'
    refine zAA rfl (.m rfl rfl (.r rfl (zAL (zAa (b := (zAX (s.extract n s.size)).isSome) rfl rfl) (zAG h2)) (.m rfl rfl (.m rfl rfl (.r rfl (zAL (zAa (b := (zBL (txR (zAX (s.extract n s.size)))).isSome) rfl rfl) (zAG h3)) (.r rfl (zAg rfl rfl) (.m rfl rfl (.not rfl (.not rfl (.not rfl (.not rfl (.r rfl (zAo rfl rfl) .nil)))))))))))) ?_
    refine zAT (t := true) rfl (fun _ => ?_) (fun h => nomatch h)
    refine zAB ?_
    rw [secAt_2 (by omega) h2' h3']
    refine zAA rfl (.a rfl rfl (.a rfl rfl .nil)) ?_
    refine zAI ?_
    exact ends [_, _] [] (.cons (.tmp rfl) (.cons (.tmp rfl) .nil)) (.cons (.one .v (.v _)) (.cons (.one .v (.v _)) .nil)) (by decide) trivial
  ·
   have h2' := h2
   replace h2' : ((zAX (s.extract n s.size)).isSome) = false := zAm h2'
   refine zAA rfl (.m rfl rfl (.r rfl (zAL (zAa (b := (zAX (s.extract n s.size)).isSome) rfl rfl) (zAG h2)) (.m rfl rfl (.not rfl (.not rfl (.r rfl (zAo rfl rfl) (.m rfl rfl (.not rfl (.not rfl (.not rfl (.not rfl (.r rfl (zAo rfl rfl) .nil)))))))))))) ?_
   refine zAT (t := true) rfl (fun _ => ?_) (fun h => nomatch h)
   refine zAB ?_
   rw [secAt_1 (by omega) h2']
   refine zAA rfl (.a rfl rfl (.a rfl rfl .nil)) ?_
   refine zAI ?_
   exact ends [_, _] [] (.cons (.tmp rfl) (.cons (.tmp rfl) .nil)) (.cons (.one .v (.v _)) (.cons (.one .v (.v _)) .nil)) (by decide) trivial
theorem zGr (s : ByteArray) (hs : s.size ≤ 9000000000000000000) : Con Tryd.prog 46 [.one (PV.v (.string s))] [] [.one (.sl true 1 (pvI (zDa s))), .one (.v (.bool (footB s)))] := by
 refine zAR func46 rfl rfl rfl rfl ?_
 refine zAB (zAA rfl (.a rfl rfl (.a rfl rfl .nil)) ?_)
 refine zAB ?_
 refine zAB ?_
 rcases bfc (decide ((s.size : Int) < 16)) with h1 | h1
 ·
  have h1' := h1
  replace h1' := of_decide_eq_false h1'
  refine zAA rfl (.m rfl rfl (.r rfl (zAP rfl rfl underlying9) (.r rfl (zAL (zAt rfl rfl rfl) (zAG h1)) (.m rfl rfl (.m rfl rfl (.r rfl (zAP rfl rfl underlying9) (.r rfl (zBE rfl rfl rfl) (.r rfl (zAg rfl rfl) .nil)))))))) ?_
  refine zAT (t := decide (60000 < (s.size : Int))) rfl (fun h2 => ?_) (fun h2 => ?_)
  ·
   replace h2 := of_decide_eq_true h2
   refine zAB ?_
   have hz := zLH (s := s) (by omega)
   rw [hz.1, hz.2]
   refine zAA rfl (.a rfl rfl (.a rfl rfl .nil)) ?_
   refine zAI ?_
   exact ends [_, _] [] (.cons (.tmp rfl) (.cons (.tmp rfl) .nil)) (.cons (.one (.nil _) (.sl _ _ (fun _ h => nomatch h))) (.cons (.one .v (.v _)) .nil)) (by decide) trivial
  ·
   replace h2 := of_decide_eq_false h2
   refine zAK ?_
   refine zAB ?_
   have hf : 16 ≤ s.size ∧ s.size ≤ 60000 := by omega
   have htl := zFU hf.1
   refine zAA rfl (.run [1800] [] rfl (zAv rfl 1800 underlying80 inf2 (nle rfl) (by decide) rfl rfl rfl .nil (by decide) rfl (by decide) rfl (by decide) rfl) (.a rfl rfl .nil)) ?_
   refine zAB ?_
   refine zAO (s' := mk [(0, .vs s), (4, .sl 1800 0 0)] [] [(1800, 1, [])]) ?_ ?_
   · exact zAJ ⟨rfl, rfl, trivial⟩ trivial ⟨rfl, trivial⟩ rfl
   refine zAA rfl (.m rfl rfl (.m rfl rfl (.r rfl (zAP rfl rfl underlying9) (.r rfl (zAL (zBw rfl rfl rfl (by omega)) ((zAE (show (s.size : Int) - 16 = ((s.size - 16 : Nat) : Int) by omega)))) (.r rfl (zAL (zA0 rfl rfl underlying9 (.at_ rfl rfl) .no (by omega) (Nat.le_refl _)) ((zA3 (show s.extract (s.size - 16) s.size = zCQ s from rfl)))) (.a rfl rfl .nil)))))) ?_
   refine zAB ?_
   refine zAB (zAA rfl (.a rfl rfl .nil) ?_)
   refine zAS ?_
   refine zAO (zCd 1800 1 rfl rfl (by decide)) ?_
   refine zAj (σ := Nat) (fun i => mk [(4, .sl 1 0 ((pvI (atsN s i)).length)), (5, .vs (cutN s i)), (6, .vi (i:Int))] [] [(1, 1, pvI (atsN s i))]) (fun i => i ≤ 4) (fun i => 4 - i) 0 (by simp) (zAJ ⟨rfl, rfl, (zAE (by omega)), trivial⟩ trivial ⟨(congrArg (fun x => some (1, x)) (by rfl)), trivial⟩ rfl) ?_
   rintro i hG
   replace hG : i ≤ 4 := hG
   have hcs := zGz hf.1 i
   have hvi := zDq (atsN s i)
   have hal : (atsN s i).length = i := by clear hcs hvi; induction i with | zero => rfl | succ i ih => rw [atsN, List.length_append, ih (by omega)]; rfl
   refine zAB ?_
   refine zAB (zAA rfl (.m rfl rfl (.r rfl (zAt rfl rfl rfl) .nil)) ?_)
   refine zAT (t := decide ((i:Int) < 4)) rfl (fun h3 => ?_) (fun h3 => ?_)
   ·
    replace h3 := of_decide_eq_true h3
    refine zAK ?_
    refine zAB ?_
    refine zAS ?_
    refine zAB ?_
    have hct := zFN hf.1 (show i < 4 by omega)
    refine zAA rfl (.m rfl rfl (.run [3000, 3001, 3002] [] rfl (zAF rfl 3000 (X := []) en86 rfl (.val nod) (.cons (.one (.bor .v)) .nil) (by decide) all_nil .nil (zCO (cutN s i) (by omega)) rfl rfl (nle rfl)) (.m rfl rfl (.r rfl (zAH rfl rfl rfl) (.r rfl (zAH rfl rfl rfl) (.r rfl (zAH rfl rfl rfl) (.a rfl rfl (.a rfl rfl (.a rfl rfl .nil))))))))) ?_
    refine zAB ?_
    have hfx : tvN (zBL (cutN s i)) < 4294967296 := fV_lt _
    refine zAO (s' := mk [(4, .sl 1 0 ((pvI (atsN s i)).length)), (6, .vi (i:Int)), (7, .p none (.v (.int .u32 ((tvN (zBL (cutN s i)) : Nat) : Int)))), (8, .vs (tvR (zBL (cutN s i))))] [] [(1, 1, pvI (atsN s i))]) ?_ ?_
    · exact zAJ ⟨rfl, rfl, rfl, rfl, trivial⟩ trivial ⟨rfl, trivial⟩ rfl
    refine zAA rfl (.m rfl rfl (.m rfl rfl (.r rfl (zBn rfl rfl underlying67 underlying2 (by omega)) (.run [3700] [] rfl (zAv rfl 3700 underlying80 inf2 (nle rfl) (by decide) rfl rfl rfl (.cons .v .nil) (by decide) rfl (by decide) rfl (by decide) rfl) (.run [1] [] rfl (zB6 rfl 1 (ib := 1) (len := ((pvI (atsN s i)) ++ [[PV.v (.int .i64 ((tvN (zBL (cutN s i)) : Nat) : Int))]]).length) rfl rfl (.row (len := (pvI (atsN s i)).length) (xs := pvI (atsN s i)) rfl rfl (.inl rfl)) (.give (len := 1) (xs := [[PV.v (.int .i64 ((tvN (zBL (cutN s i)) : Nat) : Int))]]) rfl rfl) underlying80 (sk underlying80 rfl) inf2 rfl (by decide) (by decide) (by decide) List.length_append (by simp only [maxLen, List.length_append, List.length_cons, List.length_nil, List.length_take, zDq]; omega) (by simp only [maxLen, List.length_append, List.length_cons, List.length_nil, List.length_take, zDq]; omega)) (.a rfl rfl .nil)))))) ?_
    have hr4 : (pvI (atsN s i)) ++ [[PV.v (.int .i64 ((tvN (zBL (cutN s i)) : Nat) : Int))]] = pvI (atsN s (i + 1)) := by rw [atsN, hct]; exact zMi _ _
    have hp5 : (.sl 1 0 (((pvI (atsN s i)) ++ [[PV.v (.int .i64 ((tvN (zBL (cutN s i)) : Nat) : Int))]]).length) : AV) = .sl 1 0 ((pvI (atsN s (i + 1))).length) := by simp only [hr4]
    refine zAO (s' := mk [(4, .sl 1 0 ((pvI (atsN s (i + 1))).length)), (6, .vi (i:Int)), (8, .vs (tvR (zBL (cutN s i))))] [] [(1, 1, pvI (atsN s (i + 1)))]) ?_ ?_
    · exact zAJ ⟨hp5, rfl, rfl, trivial⟩ trivial ⟨(congrArg (fun x => some (1, x)) hr4), trivial⟩ rfl
    refine zAA rfl (.m rfl rfl (.a rfl rfl .nil)) ?_
    refine zAA rfl (.m rfl rfl (.r rfl (zAW rfl rfl rfl (by omega)) (.a rfl rfl .nil))) ?_
    refine nxt (Q := fun _ _ => False) (z := i) (i + 1) ?_ ?_ ?_
    ·
     show (i + 1) ≤ 4
     omega
    ·
     show 4 - (i + 1) < 4 - i
     omega
    · exact zAJ ⟨rfl, (zA3 (by rw [hct]; rfl)), (zAE (by omega)), trivial⟩ trivial ⟨rfl, trivial⟩ rfl
   ·
    replace h3 := of_decide_eq_false h3
    refine zAi ?_
    refine zAB ?_
    have hi4 : i = 4 := by omega
    subst hi4
    rw [(zFK hf).1, (zFK hf).2]
    refine zAb zBh rfl (.m rfl rfl (.m rfl rfl (.r rfl (zA1 3 rfl rfl rfl rfl underlying80 sizeOf2 rfl rfl (by omega)) (.r rfl (zBl (.int .i64 ((tAt3 s : Nat) : Int)) rfl rfl rfl rfl isAgg2 rfl) (.r rfl (zBB rfl rfl rfl) (.a rfl rfl (.a rfl rfl .nil))))))) (by kernel_rfl) ?_
    refine zAI ?_
    exact ends [_, _] [1] (.cons (.tmp rfl) (.cons (.tmp (zAG (decide_eq_decide.2 (by omega)))) .nil)) (.cons (.one (.row (len := (pvI (atsN s 4)).length) (xs := pvI (atsN s 4)) rfl rfl) (.sl _ _ (FlatP.clean (zOE _)))) (.cons (.one .v (.v _)) .nil)) (by decide) trivial
 ·
  have h1' := h1
  replace h1' := of_decide_eq_true h1'
  refine zAA rfl (.m rfl rfl (.r rfl (zAP rfl rfl underlying9) (.r rfl (zAL (zAt rfl rfl rfl) (zAG h1)) (.m rfl rfl (.not rfl (.not rfl (.not rfl (.r rfl (zAo rfl rfl) .nil)))))))) ?_
  refine zAT (t := true) rfl (fun _ => ?_) (fun h => nomatch h)
  refine zAB ?_
  have hz := zLH (s := s) (by omega)
  rw [hz.1, hz.2]
  refine zAA rfl (.a rfl rfl (.a rfl rfl .nil)) ?_
  refine zAI ?_
  exact ends [_, _] [] (.cons (.tmp rfl) (.cons (.tmp rfl) .nil)) (.cons (.one (.nil _) (.sl _ _ (fun _ h => nomatch h))) (.cons (.one .v (.v _)) .nil)) (by decide) trivial
end Go.Rl

/- Promises of functions, proved by walks over their operations; no conditions beyond those that each theorem states. -/
import Derived.Test.YtamebecmgdbmnaaGreatDoorRmI
import Derived.Test.YtamebecmgdbmnaaGreatDoorRuQ
import Derived.Test.YtamebecmgdbmnaaGreatDoorRuR
set_option linter.unusedSimpArgs false
set_option linter.unusedVariables false
namespace Go.Rl
section
variable {α : Type} {c : α → α → Int}
structure CmpOk (c : α → α → Int) : Prop where
 tr : ∀ x y z, c x y < 0 → c y z < 0 → c x z < 0
 asy : ∀ x y, c x y < 0 → ¬ c y x < 0
def Dist (c : α → α → Int) (l : List α) : Prop := l.Pairwise (fun x y => c x y < 0 ∨ c y x < 0)
def Srt (c : α → α → Int) (l : List α) : Prop := l.Pairwise (fun x y => c x y < 0)
def insC (c : α → α → Int) (x : α) : List α → List α
 | [] => [x]
 | y :: s => if c x y < 0 then x :: y :: s else y :: insC c x s
def isort (c : α → α → Int) : List α → List α
 | [] => []
 | x :: l => insC c x (isort c l)
def seg (l : List α) (a b : Nat) : List α := (l.drop a).take (b - a)
theorem zMD {l : List α} {a b k : Nat} : (seg l a b)[k]? = if a + k < b then l[a + k]? else none := by
 unfold seg
 rw [List.getElem?_take, List.getElem?_drop]
 by_cases h : k < b - a
 · rw [if_pos h, if_pos (by omega)]
 · rw [if_neg h, if_neg (by omega)]
theorem zOm (l : List α) {a b : Nat} (h : a ≤ b) : l = l.take a ++ seg l a b ++ l.drop b := by
 unfold seg
 rw [List.append_assoc]
 have h1 : l.drop b = (l.drop a).drop (b - a) := by rw [List.drop_drop]; congr 1; omega
 rw [h1, List.take_append_drop, List.take_append_drop]
def SrtI (c : α → α → Int) (l : List α) (a b : Nat) : Prop := ∀ (i j : Nat) x y, a ≤ i → i < j → j < b → l[i]? = some x → l[j]? = some y → c x y < 0
def DistI (c : α → α → Int) (l : List α) : Prop := ∀ (i j : Nat) x y, i ≠ j → l[i]? = some x → l[j]? = some y → c x y < 0 ∨ c y x < 0
structure Res (l m : List α) (a b : Nat) : Prop where
 perm : m.Perm l
 out : ∀ k, (k < a ∨ b ≤ k) → m[k]? = l[k]?
theorem Res.len {l m : List α} {a b : Nat} (h : Res l m a b) : m.length = l.length := h.perm.length_eq
theorem Res.refl (l : List α) (a b : Nat) : Res l l a b := ⟨.refl _, fun _ _ => rfl⟩
theorem Res.trans {l m k : List α} {a b : Nat} (h : Res l m a b) (g : Res m k a b) : Res l k a b := ⟨g.perm.trans h.perm, fun i hi => (g.out i hi).trans (h.out i hi)⟩
theorem zJt {l m : List α} {a : Nat} (h : ∀ k, k < a → m[k]? = l[k]?) : m.take a = l.take a := List.ext_getElem? (fun k => by
 rw [List.getElem?_take, List.getElem?_take]
 split
 · exact h k ‹_›
 · rfl)
theorem zKJ {l m : List α} {b : Nat} (h : ∀ k, b ≤ k → m[k]? = l[k]?) : m.drop b = l.drop b := List.ext_getElem? (fun k => by
 rw [List.getElem?_drop, List.getElem?_drop]
 exact h _ (by omega))
theorem Res.seg {l m : List α} {a b : Nat} (h : Res l m a b) (hab : a ≤ b) : (Rl.seg m a b).Perm (Rl.seg l a b) := by
 have h1 := h.perm
 rw [zOm m hab, zOm l hab, zJt (fun k hk => h.out k (.inl hk)), zKJ (fun k hk => h.out k (.inr hk))] at h1
 exact (List.perm_append_left_iff _).1 ((List.perm_append_right_iff _).1 h1)
theorem Res.from {l m : List α} {a b k : Nat} {x : α} (h : Res l m a b) (hk : a ≤ k ∧ k < b) (hx : m[k]? = some x) : ∃ k', a ≤ k' ∧ k' < b ∧ l[k']? = some x := by
 have h1 : x ∈ Rl.seg m a b := List.mem_of_getElem? (i := k - a) (by rw [zMD, if_pos (by omega), show a + (k - a) = k by omega]; exact hx)
 obtain ⟨q, hq⟩ := List.getElem?_of_mem ((h.seg (by omega)).mem_iff.1 h1)
 rw [zMD] at hq
 split at hq
 · exact ⟨a + q, by omega, by omega, hq⟩
 · cases hq
def srtS (c : α → α → Int) (l : List α) (a b : Nat) : List α := l.take a ++ isort c (seg l a b) ++ l.drop b
def Puts (c : α → α → Int) (m : List α) (a i j : Nat) : Prop := (∀ (p q : Nat) x y, a ≤ p → p < q → q ≤ i → p ≠ j → q ≠ j → m[p]? = some x → m[q]? = some y → c x y < 0) ∧ ∀ (q : Nat) x y, j < q → q ≤ i → m[j]? = some x → m[q]? = some y → c x y < 0
def swpL (l : List α) (a b n : Nat) : List α := l.take a ++ seg l b (b + n) ++ seg l (a + n) b ++ seg l a (a + n) ++ l.drop (b + n)
def rotL (l : List α) (a m b : Nat) : List α := l.take a ++ seg l m b ++ seg l a m ++ l.drop b
end
end Go.Rl
namespace Go.Rl
section
variable {α : Type} {c : α → α → Int}
def MovU (l m : List α) (a k : Nat) (x : α) : Prop := ∀ q, m[q]? = if a ≤ q ∧ q < k then l[q + 1]? else if q = k then some x else l[q]?
def BetU (c : α → α → Int) (l : List α) (x : α) (m b i j : Nat) : Prop := (i = m ∨ ∃ y, l[i - 1]? = some y ∧ c y x < 0) ∧ (j = b ∨ ∃ y, l[j]? = some y ∧ ¬ c y x < 0)
def MovD (l m : List α) (b k : Nat) (x : α) : Prop := ∀ q, m[q]? = if k < q ∧ q ≤ b then l[q - 1]? else if q = k then some x else l[q]?
def BetD (c : α → α → Int) (l : List α) (x : α) (a m i j : Nat) : Prop := (i = a ∨ ∃ y, l[i - 1]? = some y ∧ ¬ c x y < 0) ∧ (j = m ∨ ∃ y, l[j]? = some y ∧ c x y < 0)
def BetS (c : α → α → Int) (l : List α) (p s0 r0 s r : Nat) : Prop := (s = s0 ∨ ∃ x y, l[p - (s - 1)]? = some x ∧ l[s - 1]? = some y ∧ ¬ c x y < 0) ∧ (r = r0 ∨ ∃ x y, l[p - r]? = some x ∧ l[r]? = some y ∧ c x y < 0)
def Sm (c : α → α → Int) (l : List α) (i j : Nat) : Prop := ∃ x y, l[i]? = some x ∧ l[j]? = some y ∧ c x y < 0
structure Turned (c : α → α → Int) (l d : List α) (a s mid e b : Nat) : Prop where
 res : Res l d a b
 p1 : SrtI c d a s
 p2 : SrtI c d s mid
 p3 : SrtI c d mid e
 p4 : SrtI c d e b
 ap : ∀ (i j : Nat) x y, a ≤ i → i < mid → mid ≤ j → j < b → d[i]? = some x → d[j]? = some y → c x y < 0
def zPD (c : α → α → Int) (m : List α) (z a : Nat) : Prop := ∀ q, a ≤ q * z → SrtI c m (q * z) (q * z + z)
end
end Go.Rl
namespace Go.Rl
section
variable {α : Type} {c : α → α → Int}
def Al (z a : Nat) : Prop := ∃ q, a = q * z
def BlkTo (c : α → α → Int) (m : List α) (z a : Nat) : Prop := ∀ p, Al z p → p + z ≤ a → SrtI c m p (p + z)
def BlkFrom (c : α → α → Int) (m : List α) (z a : Nat) : Prop := ∀ p, Al z p → a ≤ p → SrtI c m p (p + z)
end
end Go.Rl
namespace Go.Rl
def putS (e : Ent) (r : List Ent × Bool) (x : Ent) : List Ent × Bool :=
 let c := kcmp x e
 let r1 := if (!r.2 && decide (0 ≤ c)) = true then (r.1 ++ [e], true) else r
 if c ≠ 0 then (r1.1 ++ [x], r1.2) else r1
def putN (l : List Ent) (e : Ent) (i : Nat) : List Ent × Bool := (l.take i).foldl (putS e) ([], false)
def putF (l : List Ent) (e : Ent) : List Ent := if (putN l e l.length).2 = true then (putN l e l.length).1 else (putN l e l.length).1 ++ [e]
theorem put_b {r : List Ent × Bool} {e : Ent} {c : Int} (h : c < 0) : (r.1, r.2) = (if (!r.2 && decide (0 ≤ c)) = true then (r.1 ++ [e], true) else r) := by rw [if_neg (by simp; omega)]
def keepN {α : Type} (p : α → Bool) (l : List α) (j : Nat) : List α := (l.take j).filter (fun x => !p x)
def outP (f t : ByteArray) (q : Pr) : Bool := ltB q.user f || (!decide (t = ⟨#[]⟩) && !ltB q.user t)
end Go.Rl
namespace Go.Rl
def cutN (s : ByteArray) : Nat → ByteArray
 | 0 => zCS s
 | i + 1 => cut4 (cutN s i)
theorem zFY {s : ByteArray} (h : 16 ≤ s.size) : (zCS s).size = 16 := by rw [zCS, ByteArray.size_extract]; omega
theorem zGv {s : ByteArray} (h : 16 ≤ s.size) : ∀ i, (cutN s i).size = 16 - 4 * i
 | 0 => zFY h
 | i + 1 => by
  have := zGv h i
  rw [cutN, cut4, ByteArray.size_extract]
  omega
theorem zFP {s : ByteArray} (h : 16 ≤ s.size) {i : Nat} (hi : i < 4) : zBM (cutN s i) = some (fx4 (cutN s i), cutN s (i + 1)) := by
 have := zGv h i
 rw [zC8 (by omega)]
 rfl
def atsN (s : ByteArray) : Nat → List Int
 | 0 => []
 | i + 1 => atsN s i ++ [((fx4 (cutN s i) : Nat) : Int)]
def zJM (s : ByteArray) : Bool := decide (16 ≤ s.size ∧ s.size ≤ 60000)
def zDJ (s : ByteArray) : List Int := if zJM s = true then atsN s 4 else []
def footB (s : ByteArray) : Bool := zJM s && decide (tAt3 s = 1279478321)
theorem zK1 {s : ByteArray} (h : ¬ (16 ≤ s.size ∧ s.size ≤ 60000)) : zDJ s = [] ∧ footB s = false := by
 have : zJM s = false := decide_eq_false h
 exact ⟨by rw [zDJ, this]; rfl, by rw [footB, this]; rfl⟩
theorem zFM {s : ByteArray} (h : 16 ≤ s.size ∧ s.size ≤ 60000) : zDJ s = atsN s 4 ∧ footB s = decide (tAt3 s = 1279478321) := by
 have : zJM s = true := decide_eq_true h
 exact ⟨by rw [zDJ, this]; rfl, by rw [footB, this]; rfl⟩
theorem zMz {s : ByteArray} (h : footB s = true) : (16 ≤ s.size ∧ s.size ≤ 60000) ∧ tAt3 s = 1279478321 ∧ zDJ s = [((tAt0 s : Nat) : Int), ((tAt1 s : Nat) : Int), ((tAt2 s : Nat) : Int), ((tAt3 s : Nat) : Int)] := by
 simp only [footB, zJM, Bool.and_eq_true, decide_eq_true_eq] at h
 exact ⟨h.1, h.2, (zFM h.1).1⟩
theorem IsTab.footB {s : ByteArray} {L : List Ent} {ev sz kd : Nat} (h : IsTab s L ev sz kd) : footB s = true := by
 have hf := h.foot
 rw [(zFM ⟨hf.big, h.small⟩).2, decide_eq_true hf.at3]
theorem zOc (s : ByteArray) : tAt0 s < 4294967296 ∧ tAt1 s < 4294967296 ∧ tAt2 s < 4294967296 ∧ tAt3 s < 4294967296 := ⟨zFL _, zFL _, zFL _, zFL _⟩
theorem zME {s : ByteArray} {n : Nat} (h : s.size < n) : zBA s n = none := if_neg (by omega)
theorem secAt_1 {s : ByteArray} {n : Nat} (h : n ≤ s.size) (h1 : (zAX (s.extract n s.size)).isSome = false) : zBA s n = none := by rw [zBA, if_pos h, zCi, zDD h1]
theorem takeS_1 {s x r : ByteArray} (h : zAX s = some (x, r)) (h2 : zBM r = none) : zCi s = none := by
 rw [zCi, h]
 simp only [h2]
theorem takeS_2 {s x r r' : ByteArray} {c : Nat} (h : zAX s = some (x, r)) (h2 : zBM r = some (c, r')) (h3 : ¬ c = crcF x) : zCi s = none := by
 rw [zCi, h]
 simp only [h2]
 rw [if_neg h3]
theorem takeS_3 {s x r r' : ByteArray} {c : Nat} (h : zAX s = some (x, r)) (h2 : zBM r = some (c, r')) (h3 : c = crcF x) : zCi s = some (x, r') := by
 rw [zCi, h]
 simp only [h2]
 rw [if_pos h3]
theorem secAt_2 {s : ByteArray} {n : Nat} (h : n ≤ s.size) (h1 : (zAX (s.extract n s.size)).isSome = true) (h2 : (zBM (txR (zAX (s.extract n s.size)))).isSome = false) : zBA s n = none := by
 rw [zBA, if_pos h]
 exact takeS_1 (zJr h1) (zDD h2)
theorem secAt_3 {s : ByteArray} {n : Nat} (h : n ≤ s.size) (h1 : (zAX (s.extract n s.size)).isSome = true) (h2 : (zBM (txR (zAX (s.extract n s.size)))).isSome = true) (h3 : ¬ tvN (zBM (txR (zAX (s.extract n s.size)))) = crcF (txX (zAX (s.extract n s.size)))) : zBA s n = none := by
 rw [zBA, if_pos h]
 exact takeS_2 (zJr h1) (zIj h2) h3
theorem secAt_4 {s : ByteArray} {n : Nat} (h : n ≤ s.size) (h1 : (zAX (s.extract n s.size)).isSome = true) (h2 : (zBM (txR (zAX (s.extract n s.size)))).isSome = true) (h3 : tvN (zBM (txR (zAX (s.extract n s.size)))) = crcF (txX (zAX (s.extract n s.size)))) : zBA s n = some (txX (zAX (s.extract n s.size)), tvR (zBM (txR (zAX (s.extract n s.size))))) := by
 rw [zBA, if_pos h]
 exact takeS_3 (zJr h1) (zIj h2) h3
theorem zJ1 (s : ByteArray) (n : Nat) : (txX (zBA s n)).size ≤ 60000 := by
 rw [zBA]
 split
 ·
  cases h : zCi (s.extract n s.size) with
  | none => exact Nat.zero_le _
  | some p => obtain ⟨x, r⟩ := p; exact (zF4 h).1
 · exact Nat.zero_le _
def pB (s : ByteArray) : ByteArray := txX (zBA s (tAt2 s))
def pV (s : ByteArray) : Option (Nat × ByteArray) := zAP (pB s)
def pQ1 (s : ByteArray) : Option (Nat × ByteArray) := zAP ((tvR (pV s)).extract 64 (tvR (pV s)).size)
def pQ2 (s : ByteArray) : Option (Nat × ByteArray) := zAP (tvR (pQ1 s))
def pQ3 (s : ByteArray) : Option (Nat × ByteArray) := zAP (tvR (pQ2 s))
structure POk (s : ByteArray) : Prop where
 foot : footB s = true
 sec : (zBA s (tAt2 s)).isSome = true
 v : (pV s).isSome = true
 regs : 64 ≤ (tvR (pV s)).size
 many : tvN (pV s) ≤ 400
 q1 : (pQ1 s).isSome = true
 q2 : (pQ2 s).isSome = true
 q3 : (pQ3 s).isSome = true
 end_ : tvR (pQ3 s) = ⟨#[]⟩
 n1 : tvN (pQ1 s) ≤ 100
 n2 : tvN (pQ2 s) ≤ 10000
 n3 : tvN (pQ3 s) ≤ 2
open Classical in
noncomputable def propsF (s : ByteArray) : Option (Nat × ByteArray × Nat × Nat × Nat) := if POk s then some (tvN (pV s), (tvR (pV s)).extract 0 64, tvN (pQ1 s), tvN (pQ2 s), tvN (pQ3 s)) else none
theorem zCP {s : ByteArray} (h : ¬ POk s) : propsF s = none := if_neg h
theorem zHX {s : ByteArray} (h : POk s) : propsF s = some (tvN (pV s), (tvR (pV s)).extract 0 64, tvN (pQ1 s), tvN (pQ2 s), tvN (pQ3 s)) := if_pos h
theorem zKD {s : ByteArray} {x : Nat × ByteArray × Nat × Nat × Nat} (h : propsF s = some x) : footB s = true := by
 rw [propsF] at h
 split at h
 · next q => exact q.foot
 · cases h
theorem zKC {s : ByteArray} {n ev sz kd : Nat} {rg : ByteArray} (h : propsF s = some (n, rg, ev, sz, kd)) : n ≤ 400 ∧ rg.size = 64 ∧ ev ≤ 100 ∧ sz ≤ 10000 ∧ kd ≤ 2 := by
 rw [propsF] at h
 split at h
 ·
  next q =>
  simp only [Option.some.injEq, Prod.mk.injEq] at h
  obtain ⟨rfl, rfl, rfl, rfl, rfl⟩ := h
  have := q.regs
  refine ⟨q.many, ?_, q.n1, q.n2, q.n3⟩
  rw [ByteArray.size_extract]; omega
 · cases h
theorem IsTab.propsF {s : ByteArray} {L : List Ent} {ev sz kd : Nat} (h : IsTab s L ev sz kd) : propsF s = some (L.length, hllF (zAm L), ev, sz, kd) := by
 obtain ⟨r, a1, a2, a3, r2, r3, a4, a5, a6⟩ := zEZ L (ev := ev) (sz := sz) (kd := kd) (zBm h.ok) h.ev2 h.sz2 h.kd2
 obtain ⟨r', hr'⟩ := h.props_at.1
 have hf := h.foot
 have hle : tAt2 s ≤ s.size := by
  have h1 := hf.at2
  have h2 := hf.size
  have h3 := hf.le23
  omega
 have hs : zBA s (tAt2 s) = some (zBx L ev sz kd, r') := by rw [zBA, if_pos hle]; exact hr'
 have hB : pB s = zBx L ev sz kd := by rw [pB, hs]; rfl
 have hV : pV s = some (L.length, r) := by rw [pV, hB]; exact a1
 have h1 : pQ1 s = some (ev, r2) := by rw [pQ1, hV]; exact a4
 have h2 : pQ2 s = some (sz, r3) := by rw [pQ2, h1]; exact a5
 have h3 : pQ3 s = some (kd, ⟨#[]⟩) := by rw [pQ3, h2]; exact a6
 have hm := zBm h.ok
 have e2 := h.ev2
 have s2 := h.sz2
 have k2 := h.kd2
 have hok : POk s := ⟨h.footB, by rw [hs]; rfl, by rw [hV]; rfl, by rw [hV]; exact a2, by rw [hV]; exact hm, by rw [h1]; rfl, by rw [h2]; rfl, by rw [h3]; rfl, by rw [h3]; rfl, by rw [h1]; show ev ≤ 100; omega, by rw [h2]; show sz ≤ 10000; omega, by rw [h3]; exact k2⟩
 rw [zHX hok, h1, h2, h3, hV]
 have : (tvR (some (L.length, r))).extract 0 64 = hllF (zAm L) := a3
 rw [this]
 rfl
noncomputable def tabL (s : ByteArray) : List Ent := ((zCz s).map Prod.fst).getD []
theorem zFX {s : ByteArray} (h : zCz s = none) : tabL s = [] := by rw [tabL, h]; rfl
theorem zHx {s : ByteArray} {L : List Ent} {ev sz kd : Nat} (h : IsTab s L ev sz kd) : tabL s = L ∧ (zCz s).isSome = true := by rw [tabL, zML h]; exact ⟨rfl, rfl⟩
theorem TA.stop {s : ByteArray} {at_ : Nat} {out : List Ent} (h : TA s at_ out) (hlt : at_ < tAt0 s) (hx : (zBA s at_).isSome = false ∨ (zBI (txX (zBA s at_))).isSome = false ∨ 400 < out.length + ((zBI (txX (zBA s at_))).getD []).length) : zCz s = none := zFF fun L ev sz kd hL => by
 obtain ⟨h0, x, r, m, h1, h2, h3⟩ := h.more hlt hL
 have hs : zBA s at_ = some (x, r) := by rw [zBA, if_pos h0]; exact h1
 have hr : zBI (txX (zBA s at_)) = some m := by rw [hs]; exact h2
 rw [hr] at hx
 rcases hx with hx | hx | hx
 · rw [hs] at hx; cases hx
 · cases hx
 ·
  have : ((some m).getD []).length = m.length := rfl
  omega
theorem TA.go {s : ByteArray} {at_ : Nat} {out : List Ent} (h : TA s at_ out) (hlt : at_ < tAt0 s) (h1 : (zBA s at_).isSome = true) (h2 : (zBI (txX (zBA s at_))).isSome = true) : TA s (at_ + (secF (txX (zBA s at_))).size) (out ++ (zBI (txX (zBA s at_))).getD []) := by
 have hle : at_ ≤ s.size := by
  rcases Nat.lt_or_ge s.size at_ with q | q
  · rw [zME q] at h1; cases h1
  · exact q
 have e1 := zJr h1
 have e2 : zBA s at_ = zCi (s.extract at_ s.size) := if_pos hle
 have e3 : zCi (s.extract at_ s.size) = some (txX (zBA s at_), txR (zBA s at_)) := by rw [← e2]; exact e1
 exact h.step hlt e3 (zDS h2)
theorem TA.end_ {s : ByteArray} {at_ : Nat} {out : List Ent} (h : TA s at_ out) (hge : ¬ at_ < tAt0 s) {n ev sz kd : Nat} {rg : ByteArray} (hp : propsF s = some (n, rg, ev, sz, kd)) (hx : ¬ zBW out (shpN ev sz kd) = some s) : zCz s = none := zFF fun L ev' sz' kd' hL => hx (by
 have h1 := hL.propsF
 rw [hp] at h1
 have h2 := Prod.mk.inj (Option.some.inj h1)
 have h3 := Prod.mk.inj h2.2
 have h4 := Prod.mk.inj h3.2
 have h5 := Prod.mk.inj h4.2
 rw [h.last hge hL, h4.1, h5.1, h5.2]
 exact hL.back)
theorem max3 (a b c : Nat) : max (max ((a : Nat) : Int) ((b : Nat) : Int)) ((c : Nat) : Int) = ((max (max a b) c : Nat) : Int) := by omega
open Classical in
noncomputable def pT : Nat → ByteArray → List Ent → Option (List Ent)
 | 0, _, _ => none
 | k + 1, left, out => if left = ⟨#[]⟩ then some out else if (sS left false).2 = true then none else match zBI (xV left) with
  | none => none
  | some m => pT k (sS left false).1 (out ++ m)
theorem zKr {k : Nat} {out : List Ent} : pT (k + 1) ⟨#[]⟩ out = some out := by rw [pT, if_pos rfl]
theorem zHa {k : Nat} {left : ByteArray} {out : List Ent} (h : ¬ left = ⟨#[]⟩) (hx : (sS left false).2 = true ∨ (zBI (xV left)).isSome = false) : pT (k + 1) left out = none := by
 rw [pT, if_neg h]
 rcases hx with hx | hx
 · rw [if_pos hx]
 ·
  rw [zDD hx]
  split <;> rfl
theorem zNz {k : Nat} {left : ByteArray} {out : List Ent} (h : ¬ left = ⟨#[]⟩) (h1 : (sS left false).2 = false) (h2 : (zBI (xV left)).isSome = true) : pT (k + 1) left out = pT k (sS left false).1 (out ++ (zBI (xV left)).getD []) := by
 rw [pT, if_neg h, if_neg (by rw [h1]; decide), zDS (d := []) h2]
 rfl
theorem sS_lt {left : ByteArray} (h1 : (sS left false).2 = false) : (sS left false).1.size < left.size := by
 have := zF4 (zMG h1).2
 omega
theorem zMY : ∀ {k k' : Nat} {left : ByteArray} {out : List Ent}, left.size < k → left.size < k' → pT k left out = pT k' left out
 | 0, _, _, _, h, _ => absurd h (Nat.not_lt_zero _)
 | _, 0, _, _, _, h => absurd h (Nat.not_lt_zero _)
 | k + 1, k' + 1, left, out, h, h' => by
  by_cases q : left = ⟨#[]⟩
  · subst q; rw [zKr, zKr]
  ·
   cases h1 : (sS left false).2 with
   | true => rw [zHa q (.inl h1), zHa q (.inl h1)]
   | false =>
    cases h2 : (zBI (xV left)).isSome with
    | false => rw [zHa q (.inr h2), zHa q (.inr h2)]
    | true =>
     have := sS_lt h1
     rw [zNz q h1 h2, zNz q h1 h2, zMY (k := k) (k' := k') (by omega) (by omega)]
structure Opn where
 list : List Ent
 shp : Shp
 flt : Flt
 regs : ByteArray
def Opn.zero : Opn := ⟨[], ⟨0, 0, 0⟩, .zero, ⟨#[]⟩⟩
def q1 (s : ByteArray) : ByteArray × Bool := nS s false
def q2 (s : ByteArray) : ByteArray × Bool := nS (q1 s).1 (q1 s).2
def q3 (s : ByteArray) : ByteArray × Bool := nS (q2 s).1 (q2 s).2
def q4 (s : ByteArray) : ByteArray × Bool := xS (q3 s).1 (q3 s).2
def zIA (s : ByteArray) : Flt := ⟨nV s, nV (q1 s).1, nV (q2 s).1, xV (q3 s).1⟩
def zBL (s : ByteArray) : Option Flt := if ((!(q4 s).2) && decide ((q4 s).1 = ⟨#[]⟩)) = true ∧ zAY (zIA s) = true then some (zIA s) else none
theorem zNo {s : ByteArray} (h : ((!(q4 s).2) && decide ((q4 s).1 = ⟨#[]⟩)) = false) : zBL s = none := by rw [zBL, if_neg]; rintro ⟨q, _⟩; rw [h] at q; cases q
theorem zNn {s : ByteArray} (h : zAY (zIA s) = false) : zBL s = none := by rw [zBL, if_neg]; rintro ⟨_, q⟩; rw [h] at q; cases q
theorem zKi {s : ByteArray} (h1 : ((!(q4 s).2) && decide ((q4 s).1 = ⟨#[]⟩)) = true) (h2 : zAY (zIA s) = true) : zBL s = some (zIA s) := by rw [zBL, if_pos ⟨h1, h2⟩]
def oN (s : ByteArray) : Nat := s.size - 16
def oP (s : ByteArray) : ByteArray := xV (s.extract (tAt2 s) (oN s))
def oA (s : ByteArray) : ByteArray × Bool := nS (oP s) false
def oR (s : ByteArray) : ByteArray := (oA s).1.extract 64 (oA s).1.size
def oB1 (s : ByteArray) : ByteArray × Bool := nS (oR s) (oA s).2
def oB2 (s : ByteArray) : ByteArray × Bool := nS (oB1 s).1 (oB1 s).2
def oS (s : ByteArray) : Shp := ⟨nV (oR s), nV (oB1 s).1, nV (oB2 s).1⟩
def oF (s : ByteArray) : Flt := (zBL (xV (s.extract (tAt1 s) (oN s)))).getD .zero
structure OOk (s : ByteArray) : Prop where
 big : 16 ≤ s.size
 small : s.size ≤ 60000
 in_ : max (max (tAt0 s) (tAt1 s)) (tAt2 s) ≤ oN s
 regs : 64 ≤ (oA s).1.size
open Classical in
noncomputable def zEJ (s : ByteArray) : Option Opn := if OOk s then (pT ((s.extract 0 (tAt0 s)).size + 1) (s.extract 0 (tAt0 s)) []).map fun l => ⟨l, oS s, oF s, (oA s).1.extract 0 64⟩ else none
noncomputable def zCL (s : ByteArray) : Opn := (zEJ s).getD .zero
noncomputable def zEB (s : ByteArray) : Bool := match zEJ s with
 | none => false
 | some o => decide (zBW o.list o.shp = some s)
theorem zEz {s : ByteArray} (h : zEJ s = none) : zCL s = .zero ∧ zEB s = false := by rw [zCL, zEB, h]; exact ⟨rfl, rfl⟩
theorem zF8 {s : ByteArray} (h : ¬ OOk s) : zEJ s = none := if_neg h
theorem zJA {s : ByteArray} (h : pT ((s.extract 0 (tAt0 s)).size + 1) (s.extract 0 (tAt0 s)) [] = none) : zEJ s = none := by
 rw [zEJ, h]
 split <;> rfl
theorem zI9 {s : ByteArray} {l : List Ent} (h : OOk s) (hp : pT ((s.extract 0 (tAt0 s)).size + 1) (s.extract 0 (tAt0 s)) [] = some l) : zEJ s = some ⟨l, oS s, oF s, (oA s).1.extract 0 64⟩ := by rw [zEJ, if_pos h, hp]; rfl
theorem zFK {s : ByteArray} {o : Opn} (h : zEJ s = some o) : zCL s = o ∧ zEB s = decide (zBW o.list o.shp = some s) := by rw [zCL, zEB, h]; exact ⟨rfl, rfl⟩
theorem zKq {s : ByteArray} {L : List Ent} {ev sz kd : Nat} (hL : IsTab s L ev sz kd) : ∀ k left out, left.size < k → TI s left out → pT k left out = some L
 | 0, _, _, h, _ => absurd h (Nat.not_lt_zero _)
 | k + 1, left, out, h, hT => by
  by_cases q : left = ⟨#[]⟩
  ·
   subst q
   rw [zKr, hT.last hL]
  ·
   obtain ⟨x, r, m, h1, h2, _⟩ := hT.more q hL
   obtain ⟨e1, e2⟩ := sS_of h1
   have h3 := zF4 h1
   rw [zNz q (by rw [e2]) (by rw [e1, h2]; rfl), e1, e2, h2]
   exact zKq hL k r (out ++ m) (by omega) (hT.step q h1 h2)
theorem IsTab.open_ {s : ByteArray} {L : List Ent} {ev sz kd : Nat} (h : IsTab s L ev sz kd) : zEJ s = some ⟨L, shpN ev sz kd, oF s, hllF (zAm L)⟩ := by
 have hf := h.foot
 have hsm := h.small
 obtain ⟨r, a1, a2, a3, r2, r3, a4, a5, a6⟩ := zEZ L (ev := ev) (sz := sz) (kd := kd) (zBm h.ok) h.ev2 h.sz2 h.kd2
 obtain ⟨r', hr'⟩ := h.props_at.2
 have hm := zBm h.ok
 have e2 := h.ev2
 have s2 := h.sz2
 have k2 := h.kd2
 have hP : oP s = zBx L ev sz kd := (sS_of hr').1
 have hA := zJE (b := false) a1 (show L.length ≤ 4611686018427387904 by omega)
 have hA' : oA s = (r, false) := by rw [oA, hP]; exact hA.2
 have hR : oR s = r.extract 64 r.size := by rw [oR, hA']
 have hB1 := zJE (b := false) a4 (show ev ≤ 4611686018427387904 by omega)
 have hB1' : oB1 s = (r2, false) := by rw [oB1, hR, hA']; exact hB1.2
 have hB2 := zJE (b := false) a5 (show sz ≤ 4611686018427387904 by omega)
 have hB2' : oB2 s = (r3, false) := by rw [oB2, hB1']; exact hB2.2
 have hB3 := zJE (b := false) a6 (show kd ≤ 4611686018427387904 by omega)
 have hS : oS s = shpN ev sz kd := by rw [oS, hR, hB1', hB2', hB1.1, hB2.1, hB3.1]; rfl
 have hok : OOk s := ⟨hf.big, hsm, by
  have h1 := hf.at0
  have h2 := hf.at1
  have h3 := hf.at2
  have h4 := hf.size
  have h5 := hf.le01
  have h6 := hf.le12
  have h7 := hf.le23
  rw [oN]; omega, by rw [hA']; exact a2⟩
 rw [zI9 hok (zKq h _ _ _ (Nat.lt_succ_self _) (TI.start s)), hS, hA', a3]
theorem zIJ {s : ByteArray} {L : List Ent} {ev sz kd : Nat} (h : IsTab s L ev sz kd) : zCL s = ⟨L, shpN ev sz kd, oF s, hllF (zAm L)⟩ ∧ zEB s = true := by
 obtain ⟨h1, h2⟩ := zFK h.open_
 refine ⟨h1, ?_⟩
 rw [h2]
 exact decide_eq_true h.back
def pw (b : Nat) : Nat := 2 ^ (40 - min b 40)
def fw (x : Nat) : Nat := 64000 / x
def zT (h : ByteArray) : Nat → Nat
 | 0 => 0
 | i + 1 => zT h i + pw (zB5 h i)
def vT (h : ByteArray) : Nat → Nat
 | 0 => 0
 | i + 1 => vT h i + (if zB5 h i = 0 then 1 else 0)
def fewT (v : Nat) : Nat → Nat
 | 0 => 0
 | j + 1 => fewT v j + fw (v + 1 + j)
def rawT (h : ByteArray) : Nat := 3193052135805681664 / (1000 * zT h 64)
def hllC (h : ByteArray) : Int := if zCI h = true then (if 160 < rawT h ∨ vT h 64 = 0 then ((rawT h : Nat) : Int) else ((fewT (vT h 64) (64 - vT h 64) / 1000 : Nat) : Int)) else -1
end Go.Rl
namespace Go.Rl
def pz : Nat × ByteArray × Nat × Nat × Nat := (0, ⟨#[]⟩, 0, 0, 0)
structure Is {α : Type} (a b : α) : Prop where
 h : a = b
theorem TA.end2 {s : ByteArray} {at_ : Nat} {out : List Ent} (h : TA s at_ out) (hge : ¬ at_ < tAt0 s) (hp : (propsF s).isSome = true) (hx : ¬ zBW out (shpN ((propsF s).getD pz).2.2.1 ((propsF s).getD pz).2.2.2.1 ((propsF s).getD pz).2.2.2.2) = some s) : zCz s = none := h.end_ hge (zDS (d := pz) hp) hx
theorem zJ9 {s : ByteArray} (h : (propsF s).isSome = false) : zCz s = none := zFF fun L ev sz kd hL => by
 have := hL.propsF
 rw [zDD h] at this
 cases this
noncomputable def tgC (s u : ByteArray) (p : Int) : Int := if (zCz s).isSome = true then getC1 (zN9 (tabL s) u p) else 3
noncomputable def tgV (s u : ByteArray) (p : Int) : ByteArray := if (zCz s).isSome = true then getC2 (zN9 (tabL s) u p) else ⟨#[]⟩
noncomputable def tpS (s : ByteArray) : Shp := ((zCz s).map Prod.snd).getD ⟨0, 0, 0⟩
noncomputable def tpN (s : ByteArray) : Int := (((tabL s).length : Nat) : Int)
noncomputable def tpH (s : ByteArray) : Int := if (zCz s).isSome = true then hllC (hllF (zAm (tabL s))) else 0
theorem zMO (x : ByteArray) : ((zBI x).getD []).length ≤ 400 := by
 cases h : zBI x with
 | none => exact Nat.zero_le _
 | some m =>
  obtain ⟨ev, hb⟩ := zHT h
  exact zBm hb.ok
theorem zNd (s : ByteArray) : 0 < (secF s).size := by simp only [secF, zAZ, zAU]; omega
theorem zMT (a b : List Ent) : pvE a ++ pvE b = pvE (a ++ b) := by simp [pvE]
theorem zMS (l : List Int) (x : Int) : pvI l ++ [[PV.v (.int .i64 x)]] = pvI (l ++ [x]) := by simp [pvI]
theorem zIn {s : ByteArray} {L : List Ent} {ev sz kd : Nat} (h : zBW L (shpN ev sz kd) = some s) : IsTab s L ev sz kd := IsTab.mk' h
end Go.Rl
namespace Go.Rl
open Go.Proofs Go.Proofs.Tryz
set_option maxRecDepth 1000000
set_option maxHeartbeats 2000000
theorem inf2 : (Tryz.prog.info? 2).map (fun i => (i.zero, i.size, i.bytes)) = some (some (.int .i64 0), 1, 8) := by kernel_rfl
theorem zE0 (s : ByteArray) (n : Nat) (hs : s.size ≤ 9000000000000000000) (hn : n ≤ 9000000000000000000) : Con Tryz.prog 46 [.one (PV.v (.string s)), .one (PV.v (.int .i64 (n:Int)))] [] [.one (.v (.string (txX (zBA s n)))), .one (.v (.bool ((zBA s n).isSome)))] := by
 refine zAR func46 rfl rfl rfl rfl ?_
 refine zAB (zAA rfl (.a rfl rfl (.a rfl rfl .nil)) ?_)
 refine zAB ?_
 refine zAB (zAA rfl (.m rfl rfl (.m rfl rfl (.r rfl (zAO rfl rfl underlying9) (.r rfl (zBH rfl rfl rfl) .nil)))) ?_)
 refine zAT (t := decide ((s.size : Int) < (n:Int))) rfl (fun h1 => ?_) (fun h1 => ?_)
 ·
  replace h1 := of_decide_eq_true h1
  refine zAB ?_
  rw [zME (by omega)]
  refine zAA rfl (.a rfl rfl (.a rfl rfl .nil)) ?_
  refine zAK ?_
  exact ends [_, _] [] (.cons (.tmp rfl) (.cons (.tmp rfl) .nil)) (.cons (.one .v (.v _)) (.cons (.one .v (.v _)) .nil)) (by decide) trivial
 ·
  replace h1 := of_decide_eq_false h1
  refine zAM ?_
  refine zAB ?_
  have hex := zC6 s n
  refine zAQ (s' := mk [(0, .vs s), (1, .vi (n:Int))] [] []) ?_ ?_
  · exact zAJ ⟨rfl, rfl, trivial⟩ trivial trivial rfl
  refine zAA rfl (.m rfl rfl (.m rfl rfl (.r rfl (zAv rfl rfl underlying9 (.at_ rfl rfl) .no (by omega) (Nat.le_refl _)) (.run [2000, 2001, 2002] [] rfl (zAF rfl 2000 (X := []) en90 rfl (.val nod) (.cons (.one (.bor .v)) .nil) (by decide) all_nil .nil (zDH (s.extract n s.size) (by omega)) rfl rfl (nle rfl)) (.m rfl rfl (.r rfl (zAH rfl rfl rfl) (.r rfl (zAH rfl rfl rfl) (.r rfl (zAH rfl rfl rfl) (.a rfl rfl (.a rfl rfl (.a rfl rfl .nil))))))))))) ?_
  refine zAB ?_
  have hxr := zIi (s.extract n s.size)
  have hxx := zLv (s.extract n s.size)
  refine zAQ (s' := mk [(6, .vs (txX (zAX (s.extract n s.size)))), (7, .vs (txR (zAX (s.extract n s.size)))), (8, .vb ((zAX (s.extract n s.size)).isSome))] [] []) ?_ ?_
  · exact zAJ ⟨rfl, rfl, rfl, trivial⟩ trivial trivial rfl
  refine zAA rfl (.m rfl rfl (.run [2600, 2601, 2602] [] rfl (zAF rfl 2600 (X := []) en89 rfl (.val nod) (.cons (.one (.bor .v)) .nil) (by decide) all_nil .nil (zCQ (txR (zAX (s.extract n s.size))) (by omega)) rfl rfl (nle rfl)) (.m rfl rfl (.r rfl (zAH rfl rfl rfl) (.r rfl (zAH rfl rfl rfl) (.r rfl (zAH rfl rfl rfl) (.a rfl rfl (.a rfl rfl (.a rfl rfl .nil))))))))) ?_
  refine zAB ?_
  refine zAB ?_
  refine zAQ (s' := mk [(6, .vs (txX (zAX (s.extract n s.size)))), (8, .vb ((zAX (s.extract n s.size)).isSome)), (9, .p none (.v (.int .u32 ((tvN (zBM (txR (zAX (s.extract n s.size)))) : Nat) : Int)))), (11, .vb ((zBM (txR (zAX (s.extract n s.size)))).isSome))] [] []) ?_ ?_
  · exact zAJ ⟨rfl, rfl, rfl, rfl, trivial⟩ trivial trivial rfl
  rcases bfc (!((zAX (s.extract n s.size)).isSome)) with h2 | h2
  ·
   have h2' := h2
   replace h2' : ((zAX (s.extract n s.size)).isSome) = true := zAq h2'
   rcases bfc (!((zBM (txR (zAX (s.extract n s.size)))).isSome)) with h3 | h3
   ·
    have h3' := h3
    replace h3' : ((zBM (txR (zAX (s.extract n s.size)))).isSome) = true := zAq h3'
    refine zAA rfl (.m rfl rfl (.r rfl (zAI (zAa (b := (zAX (s.extract n s.size)).isSome) rfl rfl) (zAE h2)) (.m rfl rfl (.m rfl rfl (.r rfl (zAI (zAa (b := (zBM (txR (zAX (s.extract n s.size)))).isSome) rfl rfl) (zAE h3)) (.r rfl (zAg rfl rfl) (.m rfl rfl (.m rfl rfl (.m rfl rfl (.run [3900] [] rfl (zAF rfl 3900 (X := []) en74 rfl (.val nod) (.cons (.one (.bor .v)) .nil) (by decide) all_nil .nil (zKd (txX (zAX (s.extract n s.size))) (by omega)) rfl rfl (nle rfl)) (.r rfl (zB8 rfl rfl rfl) (.r rfl (zAg rfl rfl) .nil)))))))))))) ?_
    refine zAT (t := (!(decide (((tvN (zBM (txR (zAX (s.extract n s.size)))) : Nat) : Int) = ((crcF (txX (zAX (s.extract n s.size))) : Nat) : Int))))) rfl (fun h4 => ?_) (fun h4 => ?_)
    ·
     replace h4 : ¬ (((tvN (zBM (txR (zAX (s.extract n s.size)))) : Nat) : Int) = ((crcF (txX (zAX (s.extract n s.size))) : Nat) : Int)) := of_decide_eq_false (zAp h4)
     refine zAB ?_
     rw [secAt_3 (by omega) h2' h3' (by omega)]
     refine zAA rfl (.a rfl rfl (.a rfl rfl .nil)) ?_
     refine zAK ?_
     exact ends [_, _] [] (.cons (.tmp rfl) (.cons (.tmp rfl) .nil)) (.cons (.one .v (.v _)) (.cons (.one .v (.v _)) .nil)) (by decide) trivial
    ·
     replace h4 : ((tvN (zBM (txR (zAX (s.extract n s.size)))) : Nat) : Int) = ((crcF (txX (zAX (s.extract n s.size))) : Nat) : Int) := of_decide_eq_true (zAq h4)
     refine zAM ?_
     refine zAB ?_
     rw [secAt_4 (by omega) h2' h3' (by omega)]
     refine zAA rfl (.m rfl rfl (.a rfl rfl (.a rfl rfl .nil))) ?_
     refine zAK ?_
     exact ends [_, _] [] (.cons (.tmp rfl) (.cons (.tmp rfl) .nil)) (.cons (.one .v (.v _)) (.cons (.one .v (.v _)) .nil)) (by decide) trivial
   ·
    have h3' := h3
    replace h3' : ((zBM (txR (zAX (s.extract n s.size)))).isSome) = false := zAp h3'
    refine zAA rfl (.m rfl rfl (.r rfl (zAI (zAa (b := (zAX (s.extract n s.size)).isSome) rfl rfl) (zAE h2)) (.m rfl rfl (.m rfl rfl (.r rfl (zAI (zAa (b := (zBM (txR (zAX (s.extract n s.size)))).isSome) rfl rfl) (zAE h3)) (.r rfl (zAg rfl rfl) (.m rfl rfl (.not rfl (.not rfl (.not rfl (.not rfl (.r rfl (zAh rfl rfl) .nil)))))))))))) ?_
    refine zAT (t := true) rfl (fun _ => ?_) (fun h => nomatch h)
    refine zAB ?_
    rw [secAt_2 (by omega) h2' h3']
    refine zAA rfl (.a rfl rfl (.a rfl rfl .nil)) ?_
    refine zAK ?_
    exact ends [_, _] [] (.cons (.tmp rfl) (.cons (.tmp rfl) .nil)) (.cons (.one .v (.v _)) (.cons (.one .v (.v _)) .nil)) (by decide) trivial
  ·
   have h2' := h2
   replace h2' : ((zAX (s.extract n s.size)).isSome) = false := zAp h2'
   refine zAA rfl (.m rfl rfl (.r rfl (zAI (zAa (b := (zAX (s.extract n s.size)).isSome) rfl rfl) (zAE h2)) (.m rfl rfl (.not rfl (.not rfl (.r rfl (zAh rfl rfl) (.m rfl rfl (.not rfl (.not rfl (.not rfl (.not rfl (.r rfl (zAh rfl rfl) .nil)))))))))))) ?_
   refine zAT (t := true) rfl (fun _ => ?_) (fun h => nomatch h)
   refine zAB ?_
   rw [secAt_1 (by omega) h2']
   refine zAA rfl (.a rfl rfl (.a rfl rfl .nil)) ?_
   refine zAK ?_
   exact ends [_, _] [] (.cons (.tmp rfl) (.cons (.tmp rfl) .nil)) (.cons (.one .v (.v _)) (.cons (.one .v (.v _)) .nil)) (by decide) trivial
theorem zE1 (s : ByteArray) (hs : s.size ≤ 9000000000000000000) : Con Tryz.prog 45 [.one (PV.v (.string s))] [] [.one (.sl true 1 (pvI (zDJ s))), .one (.v (.bool (footB s)))] := by
 refine zAR func45 rfl rfl rfl rfl ?_
 refine zAB (zAA rfl (.a rfl rfl (.a rfl rfl .nil)) ?_)
 refine zAB ?_
 refine zAB ?_
 rcases bfc (decide ((s.size : Int) < 16)) with h1 | h1
 ·
  have h1' := h1
  replace h1' := of_decide_eq_false h1'
  refine zAA rfl (.m rfl rfl (.r rfl (zAO rfl rfl underlying9) (.r rfl (zAI (zAz rfl rfl rfl) (zAE h1)) (.m rfl rfl (.m rfl rfl (.r rfl (zAO rfl rfl underlying9) (.r rfl (zBH rfl rfl rfl) (.r rfl (zAg rfl rfl) .nil)))))))) ?_
  refine zAT (t := decide (60000 < (s.size : Int))) rfl (fun h2 => ?_) (fun h2 => ?_)
  ·
   replace h2 := of_decide_eq_true h2
   refine zAB ?_
   have hz := zK1 (s := s) (by omega)
   rw [hz.1, hz.2]
   refine zAA rfl (.a rfl rfl (.a rfl rfl .nil)) ?_
   refine zAK ?_
   exact ends [_, _] [] (.cons (.tmp rfl) (.cons (.tmp rfl) .nil)) (.cons (.one (.nil _) (.sl _ _ (fun _ h => nomatch h))) (.cons (.one .v (.v _)) .nil)) (by decide) trivial
  ·
   replace h2 := of_decide_eq_false h2
   refine zAM ?_
   refine zAB ?_
   have hf : 16 ≤ s.size ∧ s.size ≤ 60000 := by omega
   have htl := zFY hf.1
   refine zAA rfl (.run [1800] [] rfl (zAy rfl 1800 underlying77 inf2 (nle rfl) (by decide) rfl rfl rfl .nil (by decide) rfl (by decide) rfl (by decide) rfl) (.a rfl rfl .nil)) ?_
   refine zAB ?_
   refine zAQ (s' := mk [(0, .vs s), (4, .sl 1800 0 0)] [] [(1800, 1, [])]) ?_ ?_
   · exact zAJ ⟨rfl, rfl, trivial⟩ trivial ⟨rfl, trivial⟩ rfl
   refine zAA rfl (.m rfl rfl (.m rfl rfl (.r rfl (zAO rfl rfl underlying9) (.r rfl (zAI (zBt rfl rfl rfl (by omega)) ((zAG (show (s.size : Int) - 16 = ((s.size - 16 : Nat) : Int) by omega)))) (.r rfl (zAI (zAv rfl rfl underlying9 (.at_ rfl rfl) .no (by omega) (Nat.le_refl _)) ((zA5 (show s.extract (s.size - 16) s.size = zCS s from rfl)))) (.a rfl rfl .nil)))))) ?_
   refine zAB ?_
   refine zAB (zAA rfl (.a rfl rfl .nil) ?_)
   refine zAS ?_
   refine zAQ (zCc 1800 1 rfl rfl (by decide)) ?_
   refine zAo (σ := Nat) (fun i => mk [(4, .sl 1 0 ((pvI (atsN s i)).length)), (5, .vs (cutN s i)), (6, .vi (i:Int))] [] [(1, 1, pvI (atsN s i))]) (fun i => i ≤ 4) (fun i => 4 - i) 0 (by simp) (zAJ ⟨rfl, rfl, (zAG (by omega)), trivial⟩ trivial ⟨(congrArg (fun x => some (1, x)) (by rfl)), trivial⟩ rfl) ?_
   rintro i hG
   replace hG : i ≤ 4 := hG
   have hcs := zGv hf.1 i
   have hvi := zDm (atsN s i)
   have hal : (atsN s i).length = i := by clear hcs hvi; induction i with | zero => rfl | succ i ih => rw [atsN, List.length_append, ih (by omega)]; rfl
   refine zAB ?_
   refine zAB (zAA rfl (.m rfl rfl (.r rfl (zAz rfl rfl rfl) .nil)) ?_)
   refine zAT (t := decide ((i:Int) < 4)) rfl (fun h3 => ?_) (fun h3 => ?_)
   ·
    replace h3 := of_decide_eq_true h3
    refine zAM ?_
    refine zAB ?_
    refine zAS ?_
    refine zAB ?_
    have hct := zFP hf.1 (show i < 4 by omega)
    refine zAA rfl (.m rfl rfl (.run [3000, 3001, 3002] [] rfl (zAF rfl 3000 (X := []) en89 rfl (.val nod) (.cons (.one (.bor .v)) .nil) (by decide) all_nil .nil (zCQ (cutN s i) (by omega)) rfl rfl (nle rfl)) (.m rfl rfl (.r rfl (zAH rfl rfl rfl) (.r rfl (zAH rfl rfl rfl) (.r rfl (zAH rfl rfl rfl) (.a rfl rfl (.a rfl rfl (.a rfl rfl .nil))))))))) ?_
    refine zAB ?_
    have hfx : tvN (zBM (cutN s i)) < 4294967296 := fV_lt _
    refine zAQ (s' := mk [(4, .sl 1 0 ((pvI (atsN s i)).length)), (6, .vi (i:Int)), (7, .p none (.v (.int .u32 ((tvN (zBM (cutN s i)) : Nat) : Int)))), (8, .vs (tvR (zBM (cutN s i))))] [] [(1, 1, pvI (atsN s i))]) ?_ ?_
    · exact zAJ ⟨rfl, rfl, rfl, rfl, trivial⟩ trivial ⟨rfl, trivial⟩ rfl
    refine zAA rfl (.m rfl rfl (.m rfl rfl (.r rfl (zBe rfl rfl underlying69 underlying2 (by omega)) (.run [3700] [] rfl (zAy rfl 3700 underlying77 inf2 (nle rfl) (by decide) rfl rfl rfl (.cons .v .nil) (by decide) rfl (by decide) rfl (by decide) rfl) (.run [1] [] rfl (zB2 rfl 1 (ib := 1) (len := ((pvI (atsN s i)) ++ [[PV.v (.int .i64 ((tvN (zBM (cutN s i)) : Nat) : Int))]]).length) rfl rfl (.row (len := (pvI (atsN s i)).length) (xs := pvI (atsN s i)) rfl rfl (.inl rfl)) (.give (len := 1) (xs := [[PV.v (.int .i64 ((tvN (zBM (cutN s i)) : Nat) : Int))]]) rfl rfl) underlying77 (sk underlying77 rfl) inf2 rfl (by decide) (by decide) (by decide) List.length_append (by simp only [maxLen, List.length_append, List.length_cons, List.length_nil, List.length_take, zDm]; omega) (by simp only [maxLen, List.length_append, List.length_cons, List.length_nil, List.length_take, zDm]; omega)) (.a rfl rfl .nil)))))) ?_
    have hr4 : (pvI (atsN s i)) ++ [[PV.v (.int .i64 ((tvN (zBM (cutN s i)) : Nat) : Int))]] = pvI (atsN s (i + 1)) := by rw [atsN, hct]; exact zMS _ _
    have hp5 : (.sl 1 0 (((pvI (atsN s i)) ++ [[PV.v (.int .i64 ((tvN (zBM (cutN s i)) : Nat) : Int))]]).length) : AV) = .sl 1 0 ((pvI (atsN s (i + 1))).length) := by simp only [hr4]
    refine zAQ (s' := mk [(4, .sl 1 0 ((pvI (atsN s (i + 1))).length)), (6, .vi (i:Int)), (8, .vs (tvR (zBM (cutN s i))))] [] [(1, 1, pvI (atsN s (i + 1)))]) ?_ ?_
    · exact zAJ ⟨hp5, rfl, rfl, trivial⟩ trivial ⟨(congrArg (fun x => some (1, x)) hr4), trivial⟩ rfl
    refine zAA rfl (.m rfl rfl (.a rfl rfl .nil)) ?_
    refine zAA rfl (.m rfl rfl (.r rfl (zAd rfl rfl rfl (by omega)) (.a rfl rfl .nil))) ?_
    refine nxt (Q := fun _ _ => False) (z := i) (i + 1) ?_ ?_ ?_
    ·
     show (i + 1) ≤ 4
     omega
    ·
     show 4 - (i + 1) < 4 - i
     omega
    · exact zAJ ⟨rfl, (zA5 (by rw [hct]; rfl)), (zAG (by omega)), trivial⟩ trivial ⟨rfl, trivial⟩ rfl
   ·
    replace h3 := of_decide_eq_false h3
    refine zAn ?_
    refine zAB ?_
    have hi4 : i = 4 := by omega
    subst hi4
    rw [(zFM hf).1, (zFM hf).2]
    refine zAf zBo rfl (.m rfl rfl (.m rfl rfl (.r rfl (zA0 3 rfl rfl rfl rfl underlying77 sizeOf2 rfl rfl (by omega)) (.r rfl (zBb (.int .i64 ((tAt3 s : Nat) : Int)) rfl rfl rfl rfl isAgg2 rfl) (.r rfl (zA9 rfl rfl rfl) (.a rfl rfl (.a rfl rfl .nil))))))) (by kernel_rfl) ?_
    refine zAK ?_
    exact ends [_, _] [1] (.cons (.tmp rfl) (.cons (.tmp (zAE (decide_eq_decide.2 (by omega)))) .nil)) (.cons (.one (.row (len := (pvI (atsN s 4)).length) (xs := pvI (atsN s 4)) rfl rfl) (.sl _ _ (FlatP.clean (zNw _)))) (.cons (.one .v (.v _)) .nil)) (by decide) trivial
 ·
  have h1' := h1
  replace h1' := of_decide_eq_true h1'
  refine zAA rfl (.m rfl rfl (.r rfl (zAO rfl rfl underlying9) (.r rfl (zAI (zAz rfl rfl rfl) (zAE h1)) (.m rfl rfl (.not rfl (.not rfl (.not rfl (.r rfl (zAh rfl rfl) .nil)))))))) ?_
  refine zAT (t := true) rfl (fun _ => ?_) (fun h => nomatch h)
  refine zAB ?_
  have hz := zK1 (s := s) (by omega)
  rw [hz.1, hz.2]
  refine zAA rfl (.a rfl rfl (.a rfl rfl .nil)) ?_
  refine zAK ?_
  exact ends [_, _] [] (.cons (.tmp rfl) (.cons (.tmp rfl) .nil)) (.cons (.one (.nil _) (.sl _ _ (fun _ h => nomatch h))) (.cons (.one .v (.v _)) .nil)) (by decide) trivial
end Go.Rl
namespace Go.Rl
open Go.Proofs Go.Proofs.Tryz
set_option maxRecDepth 1000000
set_option maxHeartbeats 2000000
theorem zEm : (Tryz.prog.info? 26).map (fun i => (i.zero, i.size, i.bytes)) = some (some (.agg #[.int .i64 0, .int .i64 0, .int .i64 0]), 3, 24) := by kernel_rfl
theorem en45 : En Tryz.prog 45 := zAl func45 (by decide) rfl
theorem en46 : En Tryz.prog 46 := zAl func46 (by decide) rfl
theorem en50 : En Tryz.prog 50 := zAl func50 (by decide) rfl
theorem en51 : En Tryz.prog 51 := zAl func51 (by decide) rfl
theorem en11 : En Tryz.prog 11 := zAl func11 (by decide) rfl
theorem zIR {s : ByteArray} (h : footB s = true) : (pvI (zDJ s))[0]? = some [.v (.int .i64 ((tAt0 s : Nat) : Int))] ∧ (pvI (zDJ s))[1]? = some [.v (.int .i64 ((tAt1 s : Nat) : Int))] ∧ (pvI (zDJ s))[2]? = some [.v (.int .i64 ((tAt2 s : Nat) : Int))] ∧ (pvI (zDJ s)).length = 4 := by
 rw [(zMz h).2.2]
 exact ⟨rfl, rfl, rfl, rfl⟩
theorem zJH (s : ByteArray) (o : Option (Nat × ByteArray × Nat × Nat × Nat)) (ho : propsF s = o) (hs : s.size ≤ 9000000000000000000) : Con Tryz.prog 50 [.one (PV.v (.string s))] [] [.one (.v (.int .i64 (((o.getD pz).1 : Nat) : Int))), .one (.v (.string ((o.getD pz).2.1))), .agg [.v (.int .i64 (((o.getD pz).2.2.1 : Nat) : Int)), .v (.int .i64 (((o.getD pz).2.2.2.1 : Nat) : Int)), .v (.int .i64 (((o.getD pz).2.2.2.2 : Nat) : Int))], .one (.v (.bool o.isSome))] := by
 refine zAR func50 rfl rfl rfl rfl ?_
 refine zAB (zAA rfl (.a rfl rfl (.a rfl rfl (.run [] [4] rfl (zA7 rfl 4 zEm rfl (by decide) rfl (by decide)) (.a rfl rfl .nil)))) ?_)
 refine zAB (zAA rfl (.m rfl rfl (.run [2400, 2401] [] rfl (zAF rfl 2400 (X := []) en45 rfl (.val nod) (.cons (.one (.bor .v)) .nil) (by decide) all_nil .nil (zE1 s (by omega)) rfl rfl (nle rfl)) (.m rfl rfl (.r rfl (zAH rfl rfl rfl) (.r rfl (zAH rfl rfl rfl) (.a rfl rfl (.a rfl rfl .nil))))))) ?_)
 refine zAB ?_
 refine zAB (zAA rfl (.m rfl rfl (.r rfl (zAa (b := footB s) rfl rfl) .nil)) ?_)
 refine zAT (t := (!(footB s))) rfl (fun h1 => ?_) (fun h1 => ?_)
 ·
  replace h1 : (footB s) = false := zAp h1
  refine zAB ?_
  refine zAQ (s' := mk [(4, .ptr 4 0)] [(4, [.vi 0, .vi 0, .vi 0])] []) ?_ ?_
  · exact zAJ ⟨rfl, trivial⟩ ⟨rfl, trivial⟩ trivial rfl
  obtain rfl := ho.symm.trans (zCP (s := s) (fun q => by rw [q.foot] at h1; cases h1))
  refine zAA rfl (.r rfl (zAt (pl := [(0, 1), (1, 1), (2, 1)]) rfl underlying26 zEm (by kernel_rfl) rfl rfl) (.a rfl rfl (.a rfl rfl (.r rfl (zAN rfl rfl rfl rfl rfl sizeOf26 rfl (nle rfl)) (.a rfl rfl .nil))))) ?_
  refine zAK ?_
  exact ends [_, _, _, _] [] (.cons (.tmp rfl) (.cons (.tmp rfl) (.cons (.cell rfl rfl isAgg26 sizeOf26 (nle rfl)) (.cons (.tmp rfl) .nil)))) (.cons (.one .v (.v _)) (.cons (.one .v (.v _)) (.cons (.agg (.cons .v (.cons .v (.cons .v .nil))) (zAL (.v _) (zAL (.v _) (zAL (.v _) zBR)))) (.cons (.one .v (.v _)) .nil)))) (by decide) trivial
 ·
  replace h1 : (footB s) = true := zAq h1
  refine zAM ?_
  refine zAB ?_
  refine zAQ (s' := mk [(0, .vs s), (4, .ptr 4 0), (6, .sl 2400 0 ((pvI (zDJ s)).length))] [(4, [.vi 0, .vi 0, .vi 0])] [(2400, 1, pvI (zDJ s))]) ?_ ?_
  · exact zAJ ⟨rfl, rfl, rfl, trivial⟩ ⟨rfl, trivial⟩ ⟨rfl, trivial⟩ rfl
  have hfg := zIR h1
  have hfl := hfg.2.2.2
  have hat := zOc s
  refine zAA rfl (.m rfl rfl (.m rfl rfl (.r rfl (zA0 2 rfl rfl rfl rfl underlying77 sizeOf2 rfl rfl (by omega)) (.r rfl (zBb (.int .i64 ((tAt2 s : Nat) : Int)) rfl rfl rfl hfg.2.2.1 isAgg2 rfl) (.run [3500, 3501] [] rfl (zAF rfl 3500 (X := []) en46 rfl (.val nod) (.cons (.one (.bor .v)) (.cons (.one (.bor .v)) .nil)) (by decide) all_nil .nil (zE0 s (tAt2 s) (by omega) (by omega)) rfl rfl (nle rfl)) (.m rfl rfl (.r rfl (zAH rfl rfl rfl) (.r rfl (zAH rfl rfl rfl) (.a rfl rfl (.a rfl rfl .nil)))))))))) ?_
  refine zAB ?_
  refine zAQ (s' := mk [(4, .ptr 4 0), (8, .vs (txX (zBA s (tAt2 s)))), (9, .vb ((zBA s (tAt2 s)).isSome))] [(4, [.vi 0, .vi 0, .vi 0])] []) ?_ ?_
  · exact zAJ ⟨rfl, rfl, rfl, trivial⟩ ⟨rfl, trivial⟩ trivial rfl
  have hpb : (pB s).size ≤ 60000 := zJ1 _ _
  refine zAQ (s' := mk [(4, .ptr 4 0), (8, .vs (pB s)), (9, .vb ((zBA s (tAt2 s)).isSome))] [(4, [.vi 0, .vi 0, .vi 0])] []) ?_ ?_
  · exact zAJ ⟨rfl, rfl, rfl, trivial⟩ ⟨rfl, trivial⟩ trivial rfl
  refine zAA rfl (.m rfl rfl (.run [4000, 4001, 4002] [] rfl (zAF rfl 4000 (X := []) en91 rfl (.val nod) (.cons (.one (.bor .v)) .nil) (by decide) all_nil .nil (zB3 (pB s) (by omega)) rfl rfl (nle rfl)) (.m rfl rfl (.r rfl (zAH rfl rfl rfl) (.r rfl (zAH rfl rfl rfl) (.r rfl (zAH rfl rfl rfl) (.a rfl rfl (.a rfl rfl (.a rfl rfl .nil))))))))) ?_
  refine zAB ?_
  refine zAB ?_
  refine zAQ (s' := mk [(4, .ptr 4 0), (9, .vb ((zBA s (tAt2 s)).isSome)), (10, .p none (.v (.int .u64 ((tvN (zAP (pB s)) : Nat) : Int)))), (11, .vs (tvR (zAP (pB s)))), (12, .vb ((zAP (pB s)).isSome))] [(4, [.vi 0, .vi 0, .vi 0])] []) ?_ ?_
  · exact zAJ ⟨rfl, rfl, rfl, rfl, rfl, trivial⟩ ⟨rfl, trivial⟩ trivial rfl
  obtain ⟨n0, c1⟩ : ∃ x, Is (tvN (pV s)) x := ⟨_, ⟨rfl⟩⟩
  obtain ⟨r0, c2⟩ : ∃ x, Is (tvR (pV s)) x := ⟨_, ⟨rfl⟩⟩
  have hv1 : r0.size ≤ 60000 := by rw [← c2.h]; exact Nat.le_trans (zFn _) hpb
  clear hpb
  refine zAQ (s' := mk [(4, .ptr 4 0), (9, .vb ((zBA s (tAt2 s)).isSome)), (10, .p none (.v (.int .u64 ((n0 : Nat) : Int)))), (11, .vs r0), (12, .vb ((pV s).isSome))] [(4, [.vi 0, .vi 0, .vi 0])] []) ?_ ?_
  · exact zAJ ⟨rfl, rfl, (zAG (congrArg Nat.cast c1.h)), (zA5 c2.h), rfl, trivial⟩ ⟨rfl, trivial⟩ trivial rfl
  rcases bfc (!((zBA s (tAt2 s)).isSome)) with h2 | h2
  ·
   have h2' := h2
   replace h2' : ((zBA s (tAt2 s)).isSome) = true := zAq h2'
   rcases bfc (!((pV s).isSome)) with h3 | h3
   ·
    have h3' := h3
    replace h3' : ((pV s).isSome) = true := zAq h3'
    rcases bfc (decide ((r0.size : Int) < 64)) with h4 | h4
    ·
     have h4' := h4
     replace h4' := of_decide_eq_false h4'
     refine zAA rfl (.m rfl rfl (.r rfl (zAI (zAa (b := (zBA s (tAt2 s)).isSome) rfl rfl) (zAE h2)) (.m rfl rfl (.m rfl rfl (.r rfl (zAI (zAa (b := (pV s).isSome) rfl rfl) (zAE h3)) (.r rfl (zAg rfl rfl) (.m rfl rfl (.m rfl rfl (.r rfl (zAO rfl rfl underlying9) (.r rfl (zAI (zAz rfl rfl rfl) (zAE h4)) (.r rfl (zAg rfl rfl) (.m rfl rfl (.m rfl rfl (.r rfl (zBH rfl rfl rfl) (.r rfl (zAg rfl rfl) .nil))))))))))))))) ?_
     refine zAT (t := decide (400 < ((n0 : Nat) : Int))) rfl (fun h5 => ?_) (fun h5 => ?_)
     ·
      replace h5 := of_decide_eq_true h5
      refine zAB ?_
      refine zAQ (s' := mk [(4, .ptr 4 0)] [(4, [.vi 0, .vi 0, .vi 0])] []) ?_ ?_
      · exact zAJ ⟨rfl, trivial⟩ ⟨rfl, trivial⟩ trivial rfl
      obtain rfl := ho.symm.trans (zCP (s := s) (fun q => by have q2 := q.many; rw [c1.h] at q2; omega))
      refine zAA rfl (.r rfl (zAt (pl := [(0, 1), (1, 1), (2, 1)]) rfl underlying26 zEm (by kernel_rfl) rfl rfl) (.a rfl rfl (.a rfl rfl (.r rfl (zAN rfl rfl rfl rfl rfl sizeOf26 rfl (nle rfl)) (.a rfl rfl .nil))))) ?_
      refine zAK ?_
      exact ends [_, _, _, _] [] (.cons (.tmp rfl) (.cons (.tmp rfl) (.cons (.cell rfl rfl isAgg26 sizeOf26 (nle rfl)) (.cons (.tmp rfl) .nil)))) (.cons (.one .v (.v _)) (.cons (.one .v (.v _)) (.cons (.agg (.cons .v (.cons .v (.cons .v .nil))) (zAL (.v _) (zAL (.v _) (zAL (.v _) zBR)))) (.cons (.one .v (.v _)) .nil)))) (by decide) trivial
     ·
      replace h5 := of_decide_eq_false h5
      refine zAM ?_
      refine zAB ?_
      refine zAQ (s' := mk [(4, .ptr 4 0), (10, .p none (.v (.int .u64 ((n0 : Nat) : Int)))), (11, .vs r0)] [(4, [.vi 0, .vi 0, .vi 0])] []) ?_ ?_
      · exact zAJ ⟨rfl, rfl, rfl, trivial⟩ ⟨rfl, trivial⟩ trivial rfl
      have hex := zC6 r0 64
      refine zAA rfl (.m rfl rfl (.r rfl (zAv rfl rfl underlying9 (.at_ rfl (show (64 : Int) = ((64 : Nat) : Int) from rfl)) .no (by omega) (Nat.le_refl _)) (.run [6300, 6301, 6302] [] rfl (zAF rfl 6300 (X := []) en91 rfl (.val nod) (.cons (.one (.bor .v)) .nil) (by decide) all_nil .nil (zB3 (r0.extract 64 r0.size) (by omega)) rfl rfl (nle rfl)) (.m rfl rfl (.r rfl (zAH rfl rfl rfl) (.r rfl (zAH rfl rfl rfl) (.r rfl (zAH rfl rfl rfl) (.a rfl rfl (.a rfl rfl (.a rfl rfl .nil)))))))))) ?_
      refine zAB ?_
      refine zAQ (s' := mk [(4, .ptr 4 0), (10, .p none (.v (.int .u64 ((n0 : Nat) : Int)))), (11, .vs r0), (13, .p none (.v (.int .u64 ((tvN (zAP (r0.extract 64 r0.size)) : Nat) : Int)))), (14, .vs (tvR (zAP (r0.extract 64 r0.size)))), (15, .vb ((zAP (r0.extract 64 r0.size)).isSome))] [(4, [.vi 0, .vi 0, .vi 0])] []) ?_ ?_
      · exact zAJ ⟨rfl, rfl, rfl, rfl, rfl, rfl, trivial⟩ ⟨rfl, trivial⟩ trivial rfl
      have hq1 : pQ1 s = zAP (r0.extract 64 r0.size) := by rw [pQ1, c2.h]
      obtain ⟨e1, c3⟩ : ∃ x, Is (tvN (pQ1 s)) x := ⟨_, ⟨rfl⟩⟩
      obtain ⟨r1, c7⟩ : ∃ x, Is (tvR (pQ1 s)) x := ⟨_, ⟨rfl⟩⟩
      have hv2 : r1.size ≤ 60000 := by rw [← c7.h, hq1]; exact Nat.le_trans (zFn _) (Nat.le_trans hex hv1)
      clear hex
      refine zAQ (s' := mk [(4, .ptr 4 0), (10, .p none (.v (.int .u64 ((n0 : Nat) : Int)))), (11, .vs r0), (13, .p none (.v (.int .u64 ((e1 : Nat) : Int)))), (14, .vs r1), (15, .vb ((pQ1 s).isSome))] [(4, [.vi 0, .vi 0, .vi 0])] []) ?_ ?_
      · exact zAJ ⟨rfl, rfl, rfl, (zAG (congrArg Nat.cast (by rw [← hq1]; exact c3.h))), (zA5 (by rw [← hq1]; exact c7.h)), (zAE (by rw [hq1])), trivial⟩ ⟨rfl, trivial⟩ trivial rfl
      refine zAA rfl (.m rfl rfl (.run [6900, 6901, 6902] [] rfl (zAF rfl 6900 (X := []) en91 rfl (.val nod) (.cons (.one (.bor .v)) .nil) (by decide) all_nil .nil (zB3 r1 (by omega)) rfl rfl (nle rfl)) (.m rfl rfl (.r rfl (zAH rfl rfl rfl) (.r rfl (zAH rfl rfl rfl) (.r rfl (zAH rfl rfl rfl) (.a rfl rfl (.a rfl rfl (.a rfl rfl .nil))))))))) ?_
      refine zAB ?_
      refine zAQ (s' := mk [(4, .ptr 4 0), (10, .p none (.v (.int .u64 ((n0 : Nat) : Int)))), (11, .vs r0), (13, .p none (.v (.int .u64 ((e1 : Nat) : Int)))), (15, .vb ((pQ1 s).isSome)), (16, .p none (.v (.int .u64 ((tvN (zAP r1) : Nat) : Int)))), (17, .vs (tvR (zAP r1))), (18, .vb ((zAP r1).isSome))] [(4, [.vi 0, .vi 0, .vi 0])] []) ?_ ?_
      · exact zAJ ⟨rfl, rfl, rfl, rfl, rfl, rfl, rfl, rfl, trivial⟩ ⟨rfl, trivial⟩ trivial rfl
      have hq2 : pQ2 s = zAP r1 := by rw [pQ2, c7.h]
      obtain ⟨e2, c4⟩ : ∃ x, Is (tvN (pQ2 s)) x := ⟨_, ⟨rfl⟩⟩
      obtain ⟨r2, c8⟩ : ∃ x, Is (tvR (pQ2 s)) x := ⟨_, ⟨rfl⟩⟩
      have hv3 : r2.size ≤ 60000 := by rw [← c8.h, hq2]; exact Nat.le_trans (zFn _) hv2
      refine zAQ (s' := mk [(4, .ptr 4 0), (10, .p none (.v (.int .u64 ((n0 : Nat) : Int)))), (11, .vs r0), (13, .p none (.v (.int .u64 ((e1 : Nat) : Int)))), (15, .vb ((pQ1 s).isSome)), (16, .p none (.v (.int .u64 ((e2 : Nat) : Int)))), (17, .vs r2), (18, .vb ((pQ2 s).isSome))] [(4, [.vi 0, .vi 0, .vi 0])] []) ?_ ?_
      · exact zAJ ⟨rfl, rfl, rfl, rfl, rfl, (zAG (congrArg Nat.cast (by rw [← hq2]; exact c4.h))), (zA5 (by rw [← hq2]; exact c8.h)), (zAE (by rw [hq2])), trivial⟩ ⟨rfl, trivial⟩ trivial rfl
      refine zAA rfl (.m rfl rfl (.run [7500, 7501, 7502] [] rfl (zAF rfl 7500 (X := []) en91 rfl (.val nod) (.cons (.one (.bor .v)) .nil) (by decide) all_nil .nil (zB3 r2 (by omega)) rfl rfl (nle rfl)) (.m rfl rfl (.r rfl (zAH rfl rfl rfl) (.r rfl (zAH rfl rfl rfl) (.r rfl (zAH rfl rfl rfl) (.a rfl rfl (.a rfl rfl (.a rfl rfl .nil))))))))) ?_
      refine zAB ?_
      refine zAB ?_
      refine zAQ (s' := mk [(4, .ptr 4 0), (10, .p none (.v (.int .u64 ((n0 : Nat) : Int)))), (11, .vs r0), (13, .p none (.v (.int .u64 ((e1 : Nat) : Int)))), (15, .vb ((pQ1 s).isSome)), (16, .p none (.v (.int .u64 ((e2 : Nat) : Int)))), (18, .vb ((pQ2 s).isSome)), (19, .p none (.v (.int .u64 ((tvN (zAP r2) : Nat) : Int)))), (20, .vs (tvR (zAP r2))), (21, .vb ((zAP r2).isSome))] [(4, [.vi 0, .vi 0, .vi 0])] []) ?_ ?_
      · exact zAJ ⟨rfl, rfl, rfl, rfl, rfl, rfl, rfl, rfl, rfl, rfl, trivial⟩ ⟨rfl, trivial⟩ trivial rfl
      have hq3 : pQ3 s = zAP r2 := by rw [pQ3, c8.h]
      obtain ⟨e3, c5⟩ : ∃ x, Is (tvN (pQ3 s)) x := ⟨_, ⟨rfl⟩⟩
      obtain ⟨r3, c9⟩ : ∃ x, Is (tvR (pQ3 s)) x := ⟨_, ⟨rfl⟩⟩
      refine zAQ (s' := mk [(4, .ptr 4 0), (10, .p none (.v (.int .u64 ((n0 : Nat) : Int)))), (11, .vs r0), (13, .p none (.v (.int .u64 ((e1 : Nat) : Int)))), (15, .vb ((pQ1 s).isSome)), (16, .p none (.v (.int .u64 ((e2 : Nat) : Int)))), (18, .vb ((pQ2 s).isSome)), (19, .p none (.v (.int .u64 ((e3 : Nat) : Int)))), (20, .vs r3), (21, .vb ((pQ3 s).isSome))] [(4, [.vi 0, .vi 0, .vi 0])] []) ?_ ?_
      · exact zAJ ⟨rfl, rfl, rfl, rfl, rfl, rfl, rfl, (zAG (congrArg Nat.cast (by rw [← hq3]; exact c5.h))), (zA5 (by rw [← hq3]; exact c9.h)), (zAE (by rw [hq3])), trivial⟩ ⟨rfl, trivial⟩ trivial rfl
      rcases bfc (!((pQ1 s).isSome)) with h6 | h6
      ·
       have h6' := h6
       replace h6' : ((pQ1 s).isSome) = true := zAq h6'
       rcases bfc (!((pQ2 s).isSome)) with h7 | h7
       ·
        have h7' := h7
        replace h7' : ((pQ2 s).isSome) = true := zAq h7'
        rcases bfc (!((pQ3 s).isSome)) with h8 | h8
        ·
         have h8' := h8
         replace h8' : ((pQ3 s).isSome) = true := zAq h8'
         rcases bfc (!(decide (r3 = ⟨#[]⟩))) with h9 | h9
         ·
          have h9' := h9
          replace h9' : r3 = ⟨#[]⟩ := of_decide_eq_true (zAq h9')
          rcases bfc (decide (100 < ((e1 : Nat) : Int))) with h10 | h10
          ·
           have h10' := h10
           replace h10' := of_decide_eq_false h10'
           rcases bfc (decide (10000 < ((e2 : Nat) : Int))) with h11 | h11
           ·
            have h11' := h11
            replace h11' := of_decide_eq_false h11'
            refine zAA rfl (.m rfl rfl (.r rfl (zAI (zAa (b := (pQ1 s).isSome) rfl rfl) (zAE h6)) (.m rfl rfl (.m rfl rfl (.r rfl (zAI (zAa (b := (pQ2 s).isSome) rfl rfl) (zAE h7)) (.r rfl (zAg rfl rfl) (.m rfl rfl (.m rfl rfl (.r rfl (zAI (zAa (b := (pQ3 s).isSome) rfl rfl) (zAE h8)) (.r rfl (zAg rfl rfl) (.m rfl rfl (.m rfl rfl (.r rfl (zAI (zCv rfl rfl rfl) (zAE h9)) (.r rfl (zAg rfl rfl) (.m rfl rfl (.m rfl rfl (.r rfl (zAI (zBH rfl rfl rfl) (zAE h10)) (.r rfl (zAg rfl rfl) (.m rfl rfl (.m rfl rfl (.r rfl (zAI (zBH rfl rfl rfl) (zAE h11)) (.r rfl (zAg rfl rfl) (.m rfl rfl (.m rfl rfl (.r rfl (zBH rfl rfl rfl) (.r rfl (zAg rfl rfl) .nil)))))))))))))))))))))))))) ?_
            refine zAT (t := decide (2 < ((e3 : Nat) : Int))) rfl (fun h12 => ?_) (fun h12 => ?_)
            ·
             replace h12 := of_decide_eq_true h12
             refine zAB ?_
             refine zAQ (s' := mk [(4, .ptr 4 0)] [(4, [.vi 0, .vi 0, .vi 0])] []) ?_ ?_
             · exact zAJ ⟨rfl, trivial⟩ ⟨rfl, trivial⟩ trivial rfl
             obtain rfl := ho.symm.trans (zCP (s := s) (fun q => by have q2 := q.n3; rw [c5.h] at q2; omega))
             refine zAA rfl (.r rfl (zAt (pl := [(0, 1), (1, 1), (2, 1)]) rfl underlying26 zEm (by kernel_rfl) rfl rfl) (.a rfl rfl (.a rfl rfl (.r rfl (zAN rfl rfl rfl rfl rfl sizeOf26 rfl (nle rfl)) (.a rfl rfl .nil))))) ?_
             refine zAK ?_
             exact ends [_, _, _, _] [] (.cons (.tmp rfl) (.cons (.tmp rfl) (.cons (.cell rfl rfl isAgg26 sizeOf26 (nle rfl)) (.cons (.tmp rfl) .nil)))) (.cons (.one .v (.v _)) (.cons (.one .v (.v _)) (.cons (.agg (.cons .v (.cons .v (.cons .v .nil))) (zAL (.v _) (zAL (.v _) (zAL (.v _) zBR)))) (.cons (.one .v (.v _)) .nil)))) (by decide) trivial
            ·
             replace h12 := of_decide_eq_false h12
             refine zAM ?_
             refine zAB ?_
             refine zAQ (s' := mk [(4, .ptr 4 0), (10, .p none (.v (.int .u64 ((n0 : Nat) : Int)))), (11, .vs r0), (13, .p none (.v (.int .u64 ((e1 : Nat) : Int)))), (16, .p none (.v (.int .u64 ((e2 : Nat) : Int)))), (19, .p none (.v (.int .u64 ((e3 : Nat) : Int))))] [(4, [.vi 0, .vi 0, .vi 0])] []) ?_ ?_
             · exact zAJ ⟨rfl, rfl, rfl, rfl, rfl, rfl, trivial⟩ ⟨rfl, trivial⟩ trivial rfl
             have hP : POk s := ⟨h1, h2', h3', by rw [c2.h]; omega, by rw [c1.h]; omega, h6', h7', h8', c9.h.trans h9', by rw [c3.h]; omega, by rw [c4.h]; omega, by rw [c5.h]; omega⟩
             have hY : propsF s = some (n0, r0.extract 0 64, e1, e2, e3) := by rw [zHX hP, c1.h, c2.h, c3.h, c4.h, c5.h]
             obtain rfl := ho.symm.trans hY
             refine zAf zBo rfl (.m rfl rfl (.r rfl (zBe rfl rfl underlying58 underlying2 (by omega)) (.m rfl rfl (.r rfl (zAv rfl rfl underlying9 .no (.at_ rfl (show (64 : Int) = ((64 : Nat) : Int) from rfl)) (Nat.zero_le _) (by omega)) (.m rfl rfl (.r rfl (zBe rfl rfl underlying58 underlying2 (by omega)) (.m rfl rfl (.r rfl (zBe rfl rfl underlying58 underlying2 (by omega)) (.m rfl rfl (.r rfl (zBe rfl rfl underlying58 underlying2 (by omega)) (.r rfl (zAt (pl := [(0, 1), (1, 1), (2, 1)]) rfl underlying26 zEm (by kernel_rfl) rfl rfl) (.a rfl rfl (.a rfl rfl (.r rfl (zAN rfl rfl rfl rfl rfl sizeOf26 rfl (nle rfl)) (.a rfl rfl .nil))))))))))))))) (by kernel_rfl) ?_
             refine zAK ?_
             exact ends [_, _, _, _] [] (.cons (.tmp rfl) (.cons (.tmp rfl) (.cons (.cell rfl rfl isAgg26 sizeOf26 (nle rfl)) (.cons (.tmp rfl) .nil)))) (.cons (.one .v (.v _)) (.cons (.one .v (.v _)) (.cons (.agg (.cons .v (.cons .v (.cons .v .nil))) (zAL (.v _) (zAL (.v _) (zAL (.v _) zBR)))) (.cons (.one .v (.v _)) .nil)))) (by decide) trivial
           ·
            have h11' := h11
            replace h11' := of_decide_eq_true h11'
            refine zAA rfl (.m rfl rfl (.r rfl (zAI (zAa (b := (pQ1 s).isSome) rfl rfl) (zAE h6)) (.m rfl rfl (.m rfl rfl (.r rfl (zAI (zAa (b := (pQ2 s).isSome) rfl rfl) (zAE h7)) (.r rfl (zAg rfl rfl) (.m rfl rfl (.m rfl rfl (.r rfl (zAI (zAa (b := (pQ3 s).isSome) rfl rfl) (zAE h8)) (.r rfl (zAg rfl rfl) (.m rfl rfl (.m rfl rfl (.r rfl (zAI (zCv rfl rfl rfl) (zAE h9)) (.r rfl (zAg rfl rfl) (.m rfl rfl (.m rfl rfl (.r rfl (zAI (zBH rfl rfl rfl) (zAE h10)) (.r rfl (zAg rfl rfl) (.m rfl rfl (.m rfl rfl (.r rfl (zAI (zBH rfl rfl rfl) (zAE h11)) (.r rfl (zAg rfl rfl) (.m rfl rfl (.not rfl (.not rfl (.r rfl (zAh rfl rfl) .nil)))))))))))))))))))))))))) ?_
            refine zAT (t := true) rfl (fun _ => ?_) (fun h => nomatch h)
            refine zAB ?_
            refine zAQ (s' := mk [(4, .ptr 4 0)] [(4, [.vi 0, .vi 0, .vi 0])] []) ?_ ?_
            · exact zAJ ⟨rfl, trivial⟩ ⟨rfl, trivial⟩ trivial rfl
            obtain rfl := ho.symm.trans (zCP (s := s) (fun q => by have q2 := q.n2; rw [c4.h] at q2; omega))
            refine zAA rfl (.r rfl (zAt (pl := [(0, 1), (1, 1), (2, 1)]) rfl underlying26 zEm (by kernel_rfl) rfl rfl) (.a rfl rfl (.a rfl rfl (.r rfl (zAN rfl rfl rfl rfl rfl sizeOf26 rfl (nle rfl)) (.a rfl rfl .nil))))) ?_
            refine zAK ?_
            exact ends [_, _, _, _] [] (.cons (.tmp rfl) (.cons (.tmp rfl) (.cons (.cell rfl rfl isAgg26 sizeOf26 (nle rfl)) (.cons (.tmp rfl) .nil)))) (.cons (.one .v (.v _)) (.cons (.one .v (.v _)) (.cons (.agg (.cons .v (.cons .v (.cons .v .nil))) (zAL (.v _) (zAL (.v _) (zAL (.v _) zBR)))) (.cons (.one .v (.v _)) .nil)))) (by decide) trivial
          ·
           have h10' := h10
           replace h10' := of_decide_eq_true h10'
           refine zAA rfl (.m rfl rfl (.r rfl (zAI (zAa (b := (pQ1 s).isSome) rfl rfl) (zAE h6)) (.m rfl rfl (.m rfl rfl (.r rfl (zAI (zAa (b := (pQ2 s).isSome) rfl rfl) (zAE h7)) (.r rfl (zAg rfl rfl) (.m rfl rfl (.m rfl rfl (.r rfl (zAI (zAa (b := (pQ3 s).isSome) rfl rfl) (zAE h8)) (.r rfl (zAg rfl rfl) (.m rfl rfl (.m rfl rfl (.r rfl (zAI (zCv rfl rfl rfl) (zAE h9)) (.r rfl (zAg rfl rfl) (.m rfl rfl (.m rfl rfl (.r rfl (zAI (zBH rfl rfl rfl) (zAE h10)) (.r rfl (zAg rfl rfl) (.m rfl rfl (.not rfl (.not rfl (.r rfl (zAh rfl rfl) (.m rfl rfl (.not rfl (.not rfl (.r rfl (zAh rfl rfl) .nil)))))))))))))))))))))))))) ?_
           refine zAT (t := true) rfl (fun _ => ?_) (fun h => nomatch h)
           refine zAB ?_
           refine zAQ (s' := mk [(4, .ptr 4 0)] [(4, [.vi 0, .vi 0, .vi 0])] []) ?_ ?_
           · exact zAJ ⟨rfl, trivial⟩ ⟨rfl, trivial⟩ trivial rfl
           obtain rfl := ho.symm.trans (zCP (s := s) (fun q => by have q2 := q.n1; rw [c3.h] at q2; omega))
           refine zAA rfl (.r rfl (zAt (pl := [(0, 1), (1, 1), (2, 1)]) rfl underlying26 zEm (by kernel_rfl) rfl rfl) (.a rfl rfl (.a rfl rfl (.r rfl (zAN rfl rfl rfl rfl rfl sizeOf26 rfl (nle rfl)) (.a rfl rfl .nil))))) ?_
           refine zAK ?_
           exact ends [_, _, _, _] [] (.cons (.tmp rfl) (.cons (.tmp rfl) (.cons (.cell rfl rfl isAgg26 sizeOf26 (nle rfl)) (.cons (.tmp rfl) .nil)))) (.cons (.one .v (.v _)) (.cons (.one .v (.v _)) (.cons (.agg (.cons .v (.cons .v (.cons .v .nil))) (zAL (.v _) (zAL (.v _) (zAL (.v _) zBR)))) (.cons (.one .v (.v _)) .nil)))) (by decide) trivial
         ·
          have h9' := h9
          replace h9' : ¬ (r3 = ⟨#[]⟩) := of_decide_eq_false (zAp h9')
          refine zAA rfl (.m rfl rfl (.r rfl (zAI (zAa (b := (pQ1 s).isSome) rfl rfl) (zAE h6)) (.m rfl rfl (.m rfl rfl (.r rfl (zAI (zAa (b := (pQ2 s).isSome) rfl rfl) (zAE h7)) (.r rfl (zAg rfl rfl) (.m rfl rfl (.m rfl rfl (.r rfl (zAI (zAa (b := (pQ3 s).isSome) rfl rfl) (zAE h8)) (.r rfl (zAg rfl rfl) (.m rfl rfl (.m rfl rfl (.r rfl (zAI (zCv rfl rfl rfl) (zAE h9)) (.r rfl (zAg rfl rfl) (.m rfl rfl (.not rfl (.not rfl (.r rfl (zAh rfl rfl) (.m rfl rfl (.not rfl (.not rfl (.r rfl (zAh rfl rfl) (.m rfl rfl (.not rfl (.not rfl (.r rfl (zAh rfl rfl) .nil)))))))))))))))))))))))))) ?_
          refine zAT (t := true) rfl (fun _ => ?_) (fun h => nomatch h)
          refine zAB ?_
          refine zAQ (s' := mk [(4, .ptr 4 0)] [(4, [.vi 0, .vi 0, .vi 0])] []) ?_ ?_
          · exact zAJ ⟨rfl, trivial⟩ ⟨rfl, trivial⟩ trivial rfl
          obtain rfl := ho.symm.trans (zCP (s := s) (fun q => h9' (c9.h.symm.trans q.end_)))
          refine zAA rfl (.r rfl (zAt (pl := [(0, 1), (1, 1), (2, 1)]) rfl underlying26 zEm (by kernel_rfl) rfl rfl) (.a rfl rfl (.a rfl rfl (.r rfl (zAN rfl rfl rfl rfl rfl sizeOf26 rfl (nle rfl)) (.a rfl rfl .nil))))) ?_
          refine zAK ?_
          exact ends [_, _, _, _] [] (.cons (.tmp rfl) (.cons (.tmp rfl) (.cons (.cell rfl rfl isAgg26 sizeOf26 (nle rfl)) (.cons (.tmp rfl) .nil)))) (.cons (.one .v (.v _)) (.cons (.one .v (.v _)) (.cons (.agg (.cons .v (.cons .v (.cons .v .nil))) (zAL (.v _) (zAL (.v _) (zAL (.v _) zBR)))) (.cons (.one .v (.v _)) .nil)))) (by decide) trivial
        ·
         have h8' := h8
         replace h8' : ((pQ3 s).isSome) = false := zAp h8'
         refine zAA rfl (.m rfl rfl (.r rfl (zAI (zAa (b := (pQ1 s).isSome) rfl rfl) (zAE h6)) (.m rfl rfl (.m rfl rfl (.r rfl (zAI (zAa (b := (pQ2 s).isSome) rfl rfl) (zAE h7)) (.r rfl (zAg rfl rfl) (.m rfl rfl (.m rfl rfl (.r rfl (zAI (zAa (b := (pQ3 s).isSome) rfl rfl) (zAE h8)) (.r rfl (zAg rfl rfl) (.m rfl rfl (.not rfl (.not rfl (.r rfl (zAh rfl rfl) (.m rfl rfl (.not rfl (.not rfl (.r rfl (zAh rfl rfl) (.m rfl rfl (.not rfl (.not rfl (.r rfl (zAh rfl rfl) (.m rfl rfl (.not rfl (.not rfl (.r rfl (zAh rfl rfl) .nil)))))))))))))))))))))))))) ?_
         refine zAT (t := true) rfl (fun _ => ?_) (fun h => nomatch h)
         refine zAB ?_
         refine zAQ (s' := mk [(4, .ptr 4 0)] [(4, [.vi 0, .vi 0, .vi 0])] []) ?_ ?_
         · exact zAJ ⟨rfl, trivial⟩ ⟨rfl, trivial⟩ trivial rfl
         obtain rfl := ho.symm.trans (zCP (s := s) (fun q => by rw [q.q3] at h8'; cases h8'))
         refine zAA rfl (.r rfl (zAt (pl := [(0, 1), (1, 1), (2, 1)]) rfl underlying26 zEm (by kernel_rfl) rfl rfl) (.a rfl rfl (.a rfl rfl (.r rfl (zAN rfl rfl rfl rfl rfl sizeOf26 rfl (nle rfl)) (.a rfl rfl .nil))))) ?_
         refine zAK ?_
         exact ends [_, _, _, _] [] (.cons (.tmp rfl) (.cons (.tmp rfl) (.cons (.cell rfl rfl isAgg26 sizeOf26 (nle rfl)) (.cons (.tmp rfl) .nil)))) (.cons (.one .v (.v _)) (.cons (.one .v (.v _)) (.cons (.agg (.cons .v (.cons .v (.cons .v .nil))) (zAL (.v _) (zAL (.v _) (zAL (.v _) zBR)))) (.cons (.one .v (.v _)) .nil)))) (by decide) trivial
       ·
        have h7' := h7
        replace h7' : ((pQ2 s).isSome) = false := zAp h7'
        refine zAA rfl (.m rfl rfl (.r rfl (zAI (zAa (b := (pQ1 s).isSome) rfl rfl) (zAE h6)) (.m rfl rfl (.m rfl rfl (.r rfl (zAI (zAa (b := (pQ2 s).isSome) rfl rfl) (zAE h7)) (.r rfl (zAg rfl rfl) (.m rfl rfl (.not rfl (.not rfl (.r rfl (zAh rfl rfl) (.m rfl rfl (.not rfl (.not rfl (.r rfl (zAh rfl rfl) (.m rfl rfl (.not rfl (.not rfl (.r rfl (zAh rfl rfl) (.m rfl rfl (.not rfl (.not rfl (.r rfl (zAh rfl rfl) (.m rfl rfl (.not rfl (.not rfl (.r rfl (zAh rfl rfl) .nil)))))))))))))))))))))))))) ?_
        refine zAT (t := true) rfl (fun _ => ?_) (fun h => nomatch h)
        refine zAB ?_
        refine zAQ (s' := mk [(4, .ptr 4 0)] [(4, [.vi 0, .vi 0, .vi 0])] []) ?_ ?_
        · exact zAJ ⟨rfl, trivial⟩ ⟨rfl, trivial⟩ trivial rfl
        obtain rfl := ho.symm.trans (zCP (s := s) (fun q => by rw [q.q2] at h7'; cases h7'))
        refine zAA rfl (.r rfl (zAt (pl := [(0, 1), (1, 1), (2, 1)]) rfl underlying26 zEm (by kernel_rfl) rfl rfl) (.a rfl rfl (.a rfl rfl (.r rfl (zAN rfl rfl rfl rfl rfl sizeOf26 rfl (nle rfl)) (.a rfl rfl .nil))))) ?_
        refine zAK ?_
        exact ends [_, _, _, _] [] (.cons (.tmp rfl) (.cons (.tmp rfl) (.cons (.cell rfl rfl isAgg26 sizeOf26 (nle rfl)) (.cons (.tmp rfl) .nil)))) (.cons (.one .v (.v _)) (.cons (.one .v (.v _)) (.cons (.agg (.cons .v (.cons .v (.cons .v .nil))) (zAL (.v _) (zAL (.v _) (zAL (.v _) zBR)))) (.cons (.one .v (.v _)) .nil)))) (by decide) trivial
      ·
       have h6' := h6
       replace h6' : ((pQ1 s).isSome) = false := zAp h6'
       refine zAA rfl (.m rfl rfl (.r rfl (zAI (zAa (b := (pQ1 s).isSome) rfl rfl) (zAE h6)) (.m rfl rfl (.not rfl (.not rfl (.r rfl (zAh rfl rfl) (.m rfl rfl (.not rfl (.not rfl (.r rfl (zAh rfl rfl) (.m rfl rfl (.not rfl (.not rfl (.r rfl (zAh rfl rfl) (.m rfl rfl (.not rfl (.not rfl (.r rfl (zAh rfl rfl) (.m rfl rfl (.not rfl (.not rfl (.r rfl (zAh rfl rfl) (.m rfl rfl (.not rfl (.not rfl (.r rfl (zAh rfl rfl) .nil)))))))))))))))))))))))))) ?_
       refine zAT (t := true) rfl (fun _ => ?_) (fun h => nomatch h)
       refine zAB ?_
       refine zAQ (s' := mk [(4, .ptr 4 0)] [(4, [.vi 0, .vi 0, .vi 0])] []) ?_ ?_
       · exact zAJ ⟨rfl, trivial⟩ ⟨rfl, trivial⟩ trivial rfl
       obtain rfl := ho.symm.trans (zCP (s := s) (fun q => by rw [q.q1] at h6'; cases h6'))
       refine zAA rfl (.r rfl (zAt (pl := [(0, 1), (1, 1), (2, 1)]) rfl underlying26 zEm (by kernel_rfl) rfl rfl) (.a rfl rfl (.a rfl rfl (.r rfl (zAN rfl rfl rfl rfl rfl sizeOf26 rfl (nle rfl)) (.a rfl rfl .nil))))) ?_
       refine zAK ?_
       exact ends [_, _, _, _] [] (.cons (.tmp rfl) (.cons (.tmp rfl) (.cons (.cell rfl rfl isAgg26 sizeOf26 (nle rfl)) (.cons (.tmp rfl) .nil)))) (.cons (.one .v (.v _)) (.cons (.one .v (.v _)) (.cons (.agg (.cons .v (.cons .v (.cons .v .nil))) (zAL (.v _) (zAL (.v _) (zAL (.v _) zBR)))) (.cons (.one .v (.v _)) .nil)))) (by decide) trivial
    ·
     have h4' := h4
     replace h4' := of_decide_eq_true h4'
     refine zAA rfl (.m rfl rfl (.r rfl (zAI (zAa (b := (zBA s (tAt2 s)).isSome) rfl rfl) (zAE h2)) (.m rfl rfl (.m rfl rfl (.r rfl (zAI (zAa (b := (pV s).isSome) rfl rfl) (zAE h3)) (.r rfl (zAg rfl rfl) (.m rfl rfl (.m rfl rfl (.r rfl (zAO rfl rfl underlying9) (.r rfl (zAI (zAz rfl rfl rfl) (zAE h4)) (.r rfl (zAg rfl rfl) (.m rfl rfl (.not rfl (.not rfl (.r rfl (zAh rfl rfl) .nil))))))))))))))) ?_
     refine zAT (t := true) rfl (fun _ => ?_) (fun h => nomatch h)
     refine zAB ?_
     refine zAQ (s' := mk [(4, .ptr 4 0)] [(4, [.vi 0, .vi 0, .vi 0])] []) ?_ ?_
     · exact zAJ ⟨rfl, trivial⟩ ⟨rfl, trivial⟩ trivial rfl
     obtain rfl := ho.symm.trans (zCP (s := s) (fun q => by have q2 := q.regs; rw [c2.h] at q2; omega))
     refine zAA rfl (.r rfl (zAt (pl := [(0, 1), (1, 1), (2, 1)]) rfl underlying26 zEm (by kernel_rfl) rfl rfl) (.a rfl rfl (.a rfl rfl (.r rfl (zAN rfl rfl rfl rfl rfl sizeOf26 rfl (nle rfl)) (.a rfl rfl .nil))))) ?_
     refine zAK ?_
     exact ends [_, _, _, _] [] (.cons (.tmp rfl) (.cons (.tmp rfl) (.cons (.cell rfl rfl isAgg26 sizeOf26 (nle rfl)) (.cons (.tmp rfl) .nil)))) (.cons (.one .v (.v _)) (.cons (.one .v (.v _)) (.cons (.agg (.cons .v (.cons .v (.cons .v .nil))) (zAL (.v _) (zAL (.v _) (zAL (.v _) zBR)))) (.cons (.one .v (.v _)) .nil)))) (by decide) trivial
   ·
    have h3' := h3
    replace h3' : ((pV s).isSome) = false := zAp h3'
    refine zAA rfl (.m rfl rfl (.r rfl (zAI (zAa (b := (zBA s (tAt2 s)).isSome) rfl rfl) (zAE h2)) (.m rfl rfl (.m rfl rfl (.r rfl (zAI (zAa (b := (pV s).isSome) rfl rfl) (zAE h3)) (.r rfl (zAg rfl rfl) (.m rfl rfl (.not rfl (.not rfl (.not rfl (.r rfl (zAh rfl rfl) (.m rfl rfl (.not rfl (.not rfl (.r rfl (zAh rfl rfl) .nil))))))))))))))) ?_
    refine zAT (t := true) rfl (fun _ => ?_) (fun h => nomatch h)
    refine zAB ?_
    refine zAQ (s' := mk [(4, .ptr 4 0)] [(4, [.vi 0, .vi 0, .vi 0])] []) ?_ ?_
    · exact zAJ ⟨rfl, trivial⟩ ⟨rfl, trivial⟩ trivial rfl
    obtain rfl := ho.symm.trans (zCP (s := s) (fun q => by rw [q.v] at h3'; cases h3'))
    refine zAA rfl (.r rfl (zAt (pl := [(0, 1), (1, 1), (2, 1)]) rfl underlying26 zEm (by kernel_rfl) rfl rfl) (.a rfl rfl (.a rfl rfl (.r rfl (zAN rfl rfl rfl rfl rfl sizeOf26 rfl (nle rfl)) (.a rfl rfl .nil))))) ?_
    refine zAK ?_
    exact ends [_, _, _, _] [] (.cons (.tmp rfl) (.cons (.tmp rfl) (.cons (.cell rfl rfl isAgg26 sizeOf26 (nle rfl)) (.cons (.tmp rfl) .nil)))) (.cons (.one .v (.v _)) (.cons (.one .v (.v _)) (.cons (.agg (.cons .v (.cons .v (.cons .v .nil))) (zAL (.v _) (zAL (.v _) (zAL (.v _) zBR)))) (.cons (.one .v (.v _)) .nil)))) (by decide) trivial
  ·
   have h2' := h2
   replace h2' : ((zBA s (tAt2 s)).isSome) = false := zAp h2'
   refine zAA rfl (.m rfl rfl (.r rfl (zAI (zAa (b := (zBA s (tAt2 s)).isSome) rfl rfl) (zAE h2)) (.m rfl rfl (.not rfl (.not rfl (.r rfl (zAh rfl rfl) (.m rfl rfl (.not rfl (.not rfl (.not rfl (.r rfl (zAh rfl rfl) (.m rfl rfl (.not rfl (.not rfl (.r rfl (zAh rfl rfl) .nil))))))))))))))) ?_
   refine zAT (t := true) rfl (fun _ => ?_) (fun h => nomatch h)
   refine zAB ?_
   refine zAQ (s' := mk [(4, .ptr 4 0)] [(4, [.vi 0, .vi 0, .vi 0])] []) ?_ ?_
   · exact zAJ ⟨rfl, trivial⟩ ⟨rfl, trivial⟩ trivial rfl
   obtain rfl := ho.symm.trans (zCP (s := s) (fun q => by rw [q.sec] at h2'; cases h2'))
   refine zAA rfl (.r rfl (zAt (pl := [(0, 1), (1, 1), (2, 1)]) rfl underlying26 zEm (by kernel_rfl) rfl rfl) (.a rfl rfl (.a rfl rfl (.r rfl (zAN rfl rfl rfl rfl rfl sizeOf26 rfl (nle rfl)) (.a rfl rfl .nil))))) ?_
   refine zAK ?_
   exact ends [_, _, _, _] [] (.cons (.tmp rfl) (.cons (.tmp rfl) (.cons (.cell rfl rfl isAgg26 sizeOf26 (nle rfl)) (.cons (.tmp rfl) .nil)))) (.cons (.one .v (.v _)) (.cons (.one .v (.v _)) (.cons (.agg (.cons .v (.cons .v (.cons .v .nil))) (zAL (.v _) (zAL (.v _) (zAL (.v _) zBR)))) (.cons (.one .v (.v _)) .nil)))) (by decide) trivial
theorem zG8 (s : ByteArray) (hs : s.size ≤ 9000000000000000000) : Con Tryz.prog 20 [.one (PV.v (.string s))] [] [.one (.sl true 4 (pvE (tabL s))), .one (.v (.bool ((zCz s).isSome)))] := by
 refine zAR func20 rfl rfl rfl rfl ?_
 refine zAB (zAA rfl (.a rfl rfl (.a rfl rfl .nil)) ?_)
 refine zAB (zAA rfl (.m rfl rfl (.run [2000, 2001, 2002, 2003, 2004, 2005] [] rfl (zAF rfl 2000 (X := []) en50 rfl (.val nod) (.cons (.one (.bor .v)) .nil) (by decide) all_nil .nil (zJH s _ rfl (by omega)) rfl rfl (nle rfl)) (.m rfl rfl (.r rfl (zAH rfl rfl rfl) (.r rfl (zAH rfl rfl rfl) (.r rfl (zAH rfl rfl rfl) (.r rfl (zAH rfl rfl rfl) (.run [] [6] rfl (zA7 rfl 6 zEm rfl (by decide) rfl (by decide)) (.a rfl rfl (.a rfl rfl (.r rfl (zAN rfl rfl rfl rfl rfl sizeOf26 rfl (nle rfl)) (.a rfl rfl .nil)))))))))))) ?_)
 refine zAB ?_
 refine zAB (zAA rfl (.m rfl rfl (.r rfl (zAa (b := (propsF s).isSome) rfl rfl) .nil)) ?_)
 refine zAT (t := (!((propsF s).isSome))) rfl (fun h1 => ?_) (fun h1 => ?_)
 ·
  replace h1 : ((propsF s).isSome) = false := zAp h1
  refine zAB ?_
  refine zAQ (s' := mk [] [] []) ?_ ?_
  · exact zAJ trivial trivial trivial rfl
  have hz := zJ9 h1
  rw [zFX hz, hz]
  refine zAA rfl (.a rfl rfl (.a rfl rfl .nil)) ?_
  refine zAK ?_
  exact ends [_, _] [] (.cons (.tmp rfl) (.cons (.tmp rfl) .nil)) (.cons (.one (.nil _) (.sl _ _ (fun _ h => nomatch h))) (.cons (.one .v (.v _)) .nil)) (by decide) trivial
 ·
  replace h1 : ((propsF s).isSome) = true := zAq h1
  refine zAM ?_
  refine zAB ?_
  refine zAQ (s' := mk [(0, .vs s), (6, .ptr 6 0)] [(6, [.vi ((((propsF s).getD pz).2.2.1 : Nat) : Int), .vi ((((propsF s).getD pz).2.2.2.1 : Nat) : Int), .vi ((((propsF s).getD pz).2.2.2.2 : Nat) : Int)])] []) ?_ ?_
  · exact zAJ ⟨rfl, rfl, trivial⟩ ⟨rfl, trivial⟩ trivial rfl
  have hpq := zDS (d := pz) h1
  have hpn := zKC hpq
  have hfb := zKD hpq
  refine zAA rfl (.m rfl rfl (.run [2900, 2901] [] rfl (zAF rfl 2900 (X := []) en45 rfl (.val nod) (.cons (.one (.bor .v)) .nil) (by decide) all_nil .nil (zE1 s (by omega)) rfl rfl (nle rfl)) (.m rfl rfl (.r rfl (zAH rfl rfl rfl) (.r rfl (zAH rfl rfl rfl) (.a rfl rfl (.a rfl rfl .nil))))))) ?_
  refine zAB ?_
  have hfg := zIR hfb
  have hfl := hfg.2.2.2
  have hat := zOc s
  refine zAA rfl (.run [3200] [] rfl (zAy rfl 3200 underlying24 zEC (nle rfl) (by decide) rfl rfl rfl .nil (by decide) rfl (by decide) rfl (by decide) rfl) (.a rfl rfl .nil)) ?_
  refine zAB (zAA rfl (.a rfl rfl .nil) ?_)
  refine zAB ?_
  refine zAS ?_
  refine zAQ (zCc 2700 1 rfl rfl (by decide)) ?_
  refine zAQ (zCc 3200 2 rfl rfl (by decide)) ?_
  refine zAo (σ := Nat × List Ent) (fun (a, out) => mk [(0, .vs s), (6, .ptr 6 0), (8, .sl 2900 0 ((pvI (zDJ s)).length)), (10, .sl 2 0 ((pvE out).length)), (11, .vi ((a : Nat) : Int))] [(6, [.vi ((((propsF s).getD pz).2.2.1 : Nat) : Int), .vi ((((propsF s).getD pz).2.2.2.1 : Nat) : Int), .vi ((((propsF s).getD pz).2.2.2.2 : Nat) : Int)])] [(2, 4, pvE out), (2900, 1, pvI (zDJ s))]) (fun (a, out) => (a ≤ 5000000000 ∧ out.length ≤ 400) ∧ TA s a out) (fun (a, out) => tAt0 s - a) (0, []) ⟨⟨by decide, by decide⟩, TA.start s⟩ (zAJ ⟨rfl, rfl, rfl, rfl, rfl, trivial⟩ ⟨rfl, trivial⟩ ⟨(congrArg (fun x => some (4, x)) (by rfl)), rfl, trivial⟩ rfl) ?_
  rintro ⟨a, out⟩ hG
  replace hG : (a ≤ 5000000000 ∧ out.length ≤ 400) ∧ TA s a out := hG
  obtain ⟨⟨ha, hlo⟩, hT⟩ := hG
  have hvo := zA2 out
  refine zAB ?_
  refine zAB (zAA rfl (.m rfl rfl (.m rfl rfl (.r rfl (zA0 0 rfl rfl rfl rfl underlying77 sizeOf2 rfl rfl (by omega)) (.r rfl (zBb (.int .i64 ((tAt0 s : Nat) : Int)) rfl rfl rfl hfg.1 isAgg2 rfl) (.r rfl (zAz rfl rfl rfl) .nil))))) ?_)
  refine zAT (t := decide (((a : Nat) : Int) < ((tAt0 s : Nat) : Int))) rfl (fun h2 => ?_) (fun h2 => ?_)
  ·
   replace h2 := of_decide_eq_true h2
   refine zAM ?_
   refine zAS ?_
   refine zAB ?_
   have hlt : a < tAt0 s := by omega
   refine zAA rfl (.m rfl rfl (.m rfl rfl (.run [4100, 4101] [] rfl (zAF rfl 4100 (X := []) en46 rfl (.val nod) (.cons (.one (.bor .v)) (.cons (.one (.bor .v)) .nil)) (by decide) all_nil .nil (zE0 s a (by omega) (by omega)) rfl rfl (nle rfl)) (.m rfl rfl (.r rfl (zAH rfl rfl rfl) (.r rfl (zAH rfl rfl rfl) (.a rfl rfl (.a rfl rfl .nil)))))))) ?_
   refine zAB ?_
   refine zAQ (s' := mk [(0, .vs s), (6, .ptr 6 0), (8, .sl 2900 0 ((pvI (zDJ s)).length)), (10, .sl 2 0 ((pvE out).length)), (11, .vi ((a : Nat) : Int)), (12, .vs (txX (zBA s a))), (13, .vb ((zBA s a).isSome))] [(6, [.vi ((((propsF s).getD pz).2.2.1 : Nat) : Int), .vi ((((propsF s).getD pz).2.2.2.1 : Nat) : Int), .vi ((((propsF s).getD pz).2.2.2.2 : Nat) : Int)])] [(2, 4, pvE out), (2900, 1, pvI (zDJ s))]) ?_ ?_
   · exact zAJ ⟨rfl, rfl, rfl, rfl, rfl, rfl, rfl, trivial⟩ ⟨rfl, trivial⟩ ⟨rfl, rfl, trivial⟩ rfl
   have hsx := zJ1 s a
   have hse := zDU (s := txX (zBA s a)) (by omega)
   have hsp := zNd (txX (zBA s a))
   refine zAA rfl (.m rfl rfl (.run [4600, 4601] [] rfl (zAF rfl 4600 (X := []) en51 rfl (.val nod) (.cons (.one (.bor .v)) .nil) (by decide) all_nil .nil (zG9 (txX (zBA s a)) (by omega)) rfl rfl (nle rfl)) (.m rfl rfl (.r rfl (zAH rfl rfl rfl) (.r rfl (zAH rfl rfl rfl) (.a rfl rfl (.a rfl rfl .nil))))))) ?_
   refine zAB ?_
   refine zAB ?_
   have hvr := zA2 ((zBI (txX (zBA s a))).getD [])
   have hrl := zMO (txX (zBA s a))
   refine zAQ (s' := mk [(0, .vs s), (6, .ptr 6 0), (8, .sl 2900 0 ((pvI (zDJ s)).length)), (10, .sl 2 0 ((pvE out).length)), (11, .vi ((a : Nat) : Int)), (12, .vs (txX (zBA s a))), (13, .vb ((zBA s a).isSome)), (14, .sl 4600 0 ((pvE ((zBI (txX (zBA s a))).getD [])).length)), (15, .vb ((zBI (txX (zBA s a))).isSome))] [(6, [.vi ((((propsF s).getD pz).2.2.1 : Nat) : Int), .vi ((((propsF s).getD pz).2.2.2.1 : Nat) : Int), .vi ((((propsF s).getD pz).2.2.2.2 : Nat) : Int)])] [(2, 4, pvE out), (2900, 1, pvI (zDJ s)), (4600, 4, pvE ((zBI (txX (zBA s a))).getD []))]) ?_ ?_
   · exact zAJ ⟨rfl, rfl, rfl, rfl, rfl, rfl, rfl, rfl, rfl, trivial⟩ ⟨rfl, trivial⟩ ⟨rfl, rfl, rfl, trivial⟩ rfl
   rcases bfc (!((zBA s a).isSome)) with h3 | h3
   ·
    have h3' := h3
    replace h3' : ((zBA s a).isSome) = true := zAq h3'
    rcases bfc (!((zBI (txX (zBA s a))).isSome)) with h4 | h4
    ·
     have h4' := h4
     replace h4' : ((zBI (txX (zBA s a))).isSome) = true := zAq h4'
     refine zAA rfl (.m rfl rfl (.r rfl (zAI (zAa (b := (zBA s a).isSome) rfl rfl) (zAE h3)) (.m rfl rfl (.m rfl rfl (.r rfl (zAI (zAa (b := (zBI (txX (zBA s a))).isSome) rfl rfl) (zAE h4)) (.r rfl (zAg rfl rfl) (.m rfl rfl (.m rfl rfl (.r rfl (zB9 rfl rfl underlying24) (.m rfl rfl (.r rfl (zB9 rfl rfl underlying24) (.r rfl (zAd rfl rfl rfl (by omega)) (.r rfl (zBH rfl rfl rfl) (.r rfl (zAg rfl rfl) .nil)))))))))))))) ?_
     refine zAT (t := decide (400 < (((pvE out).length : Int) + ((pvE ((zBI (txX (zBA s a))).getD [])).length : Int)))) rfl (fun h5 => ?_) (fun h5 => ?_)
     ·
      replace h5 := of_decide_eq_true h5
      refine zAB ?_
      refine zAQ (s' := mk [] [] []) ?_ ?_
      · exact zAJ trivial trivial trivial rfl
      have hz := hT.stop hlt (.inr (.inr (by have := zA2 ((zBI (txX (zBA s a))).getD []); omega)))
      rw [zFX hz, hz]
      refine zAA rfl (.a rfl rfl (.a rfl rfl .nil)) ?_
      refine zAK ?_
      exact ends [_, _] [] (.cons (.tmp rfl) (.cons (.tmp rfl) .nil)) (.cons (.one (.nil _) (.sl _ _ (fun _ h => nomatch h))) (.cons (.one .v (.v _)) .nil)) (by decide) trivial
     ·
      replace h5 := of_decide_eq_false h5
      refine zAM ?_
      refine zAB ?_
      refine zAQ (s' := mk [(0, .vs s), (6, .ptr 6 0), (8, .sl 2900 0 ((pvI (zDJ s)).length)), (10, .sl 2 0 ((pvE out).length)), (11, .vi ((a : Nat) : Int)), (12, .vs (txX (zBA s a))), (14, .sl 4600 0 ((pvE ((zBI (txX (zBA s a))).getD [])).length)), (52, .vb ((zBI (txX (zBA s a))).isSome)), (53, .vb false), (56, .sl 2 0 ((pvE out).length)), (57, .vi ((pvE out).length : Int)), (58, .sl 4600 0 ((pvE ((zBI (txX (zBA s a))).getD [])).length)), (59, .vi ((pvE ((zBI (txX (zBA s a))).getD [])).length : Int)), (60, .vi (((pvE out).length : Int) + ((pvE ((zBI (txX (zBA s a))).getD [])).length : Int))), (61, .vb (decide (400 < (((pvE out).length : Int) + ((pvE ((zBI (txX (zBA s a))).getD [])).length : Int)))))] [(6, [.vi ((((propsF s).getD pz).2.2.1 : Nat) : Int), .vi ((((propsF s).getD pz).2.2.2.1 : Nat) : Int), .vi ((((propsF s).getD pz).2.2.2.2 : Nat) : Int)])] [(2, 4, pvE out), (2900, 1, pvI (zDJ s)), (4600, 4, pvE ((zBI (txX (zBA s a))).getD []))]) ?_ ?_
      · exact zAJ ⟨rfl, rfl, rfl, rfl, rfl, rfl, rfl, rfl, rfl, rfl, rfl, rfl, rfl, rfl, rfl, trivial⟩ ⟨rfl, trivial⟩ ⟨rfl, rfl, rfl, trivial⟩ rfl
      refine zAA rfl (.m rfl rfl (.m rfl rfl (.run [2] [] rfl (zB2 rfl 2 (ib := 2) (len := ((pvE out) ++ (pvE ((zBI (txX (zBA s a))).getD []))).length) rfl rfl (.row (len := (pvE out).length) (xs := pvE out) rfl rfl (.inl rfl)) (.give (len := (pvE ((zBI (txX (zBA s a))).getD [])).length) (xs := pvE ((zBI (txX (zBA s a))).getD [])) rfl rfl) underlying24 (sk underlying24 rfl) zEC rfl (by decide) (by decide) (by decide) List.length_append (by simp only [maxLen, List.length_append, List.length_cons, List.length_nil, zA2]; omega) (by simp only [maxLen, List.length_append, List.length_cons, List.length_nil, zA2]; omega)) (.a rfl rfl .nil)))) ?_
      have hr6 : (pvE out) ++ (pvE ((zBI (txX (zBA s a))).getD [])) = pvE (out ++ (zBI (txX (zBA s a))).getD []) := by exact zMT _ _
      have hp7 : (.sl 2 0 (((pvE out) ++ (pvE ((zBI (txX (zBA s a))).getD []))).length) : AV) = .sl 2 0 ((pvE (out ++ (zBI (txX (zBA s a))).getD [])).length) := by simp only [hr6]
      refine zAQ (s' := mk [(0, .vs s), (6, .ptr 6 0), (8, .sl 2900 0 ((pvI (zDJ s)).length)), (10, .sl 2 0 ((pvE (out ++ (zBI (txX (zBA s a))).getD [])).length)), (11, .vi ((a : Nat) : Int)), (12, .vs (txX (zBA s a))), (52, .vb ((zBI (txX (zBA s a))).isSome)), (53, .vb false), (57, .vi ((pvE out).length : Int)), (59, .vi ((pvE ((zBI (txX (zBA s a))).getD [])).length : Int)), (60, .vi (((pvE out).length : Int) + ((pvE ((zBI (txX (zBA s a))).getD [])).length : Int))), (61, .vb (decide (400 < (((pvE out).length : Int) + ((pvE ((zBI (txX (zBA s a))).getD [])).length : Int)))))] [(6, [.vi ((((propsF s).getD pz).2.2.1 : Nat) : Int), .vi ((((propsF s).getD pz).2.2.2.1 : Nat) : Int), .vi ((((propsF s).getD pz).2.2.2.2 : Nat) : Int)])] [(2, 4, pvE (out ++ (zBI (txX (zBA s a))).getD [])), (2900, 1, pvI (zDJ s))]) ?_ ?_
      · exact zAJ ⟨rfl, rfl, rfl, hp7, rfl, rfl, rfl, rfl, rfl, rfl, rfl, rfl, trivial⟩ ⟨rfl, trivial⟩ ⟨(congrArg (fun x => some (4, x)) hr6), rfl, trivial⟩ rfl
      refine zAA rfl (.m rfl rfl (.m rfl rfl (.run [6800] [] rfl (zAF rfl 6800 (X := []) en35 rfl (.val nod) (.cons (.one (.bor .v)) .nil) (by decide) all_nil .nil (zCq (txX (zBA s a)) (by omega)) rfl rfl (nle rfl)) (.r rfl (zAO rfl rfl underlying9) (.r rfl (zAI (zAd rfl rfl rfl (by omega)) ((zAG (show ((a : Nat) : Int) + (((secF (txX (zBA s a))).size : Nat) : Int) = ((a + (secF (txX (zBA s a))).size : Nat) : Int) by omega)))) (.a rfl rfl .nil)))))) ?_
      refine nxt (Q := fun _ _ => False) (z := (a, out)) (a + (secF (txX (zBA s a))).size, out ++ (zBI (txX (zBA s a))).getD []) ?_ ?_ ?_
      ·
       show ((a + (secF (txX (zBA s a))).size) ≤ 5000000000 ∧ (out ++ (zBI (txX (zBA s a))).getD []).length ≤ 400) ∧ TA s (a + (secF (txX (zBA s a))).size) (out ++ (zBI (txX (zBA s a))).getD [])
       exact ⟨⟨by omega, by rw [List.length_append]; omega⟩, hT.go hlt h3' h4'⟩
      ·
       show tAt0 s - (a + (secF (txX (zBA s a))).size) < tAt0 s - a
       omega
      · exact zAJ ⟨rfl, rfl, rfl, rfl, rfl, trivial⟩ ⟨rfl, trivial⟩ ⟨rfl, rfl, trivial⟩ rfl
    ·
     have h4' := h4
     replace h4' : ((zBI (txX (zBA s a))).isSome) = false := zAp h4'
     refine zAA rfl (.m rfl rfl (.r rfl (zAI (zAa (b := (zBA s a).isSome) rfl rfl) (zAE h3)) (.m rfl rfl (.m rfl rfl (.r rfl (zAI (zAa (b := (zBI (txX (zBA s a))).isSome) rfl rfl) (zAE h4)) (.r rfl (zAg rfl rfl) (.m rfl rfl (.not rfl (.not rfl (.not rfl (.not rfl (.not rfl (.not rfl (.r rfl (zAh rfl rfl) .nil)))))))))))))) ?_
     refine zAT (t := true) rfl (fun _ => ?_) (fun h => nomatch h)
     refine zAB ?_
     refine zAQ (s' := mk [] [] []) ?_ ?_
     · exact zAJ trivial trivial trivial rfl
     have hz := hT.stop hlt (.inr (.inl h4'))
     rw [zFX hz, hz]
     refine zAA rfl (.a rfl rfl (.a rfl rfl .nil)) ?_
     refine zAK ?_
     exact ends [_, _] [] (.cons (.tmp rfl) (.cons (.tmp rfl) .nil)) (.cons (.one (.nil _) (.sl _ _ (fun _ h => nomatch h))) (.cons (.one .v (.v _)) .nil)) (by decide) trivial
   ·
    have h3' := h3
    replace h3' : ((zBA s a).isSome) = false := zAp h3'
    refine zAA rfl (.m rfl rfl (.r rfl (zAI (zAa (b := (zBA s a).isSome) rfl rfl) (zAE h3)) (.m rfl rfl (.not rfl (.not rfl (.r rfl (zAh rfl rfl) (.m rfl rfl (.not rfl (.not rfl (.not rfl (.not rfl (.not rfl (.not rfl (.r rfl (zAh rfl rfl) .nil)))))))))))))) ?_
    refine zAT (t := true) rfl (fun _ => ?_) (fun h => nomatch h)
    refine zAB ?_
    refine zAQ (s' := mk [] [] []) ?_ ?_
    · exact zAJ trivial trivial trivial rfl
    have hz := hT.stop hlt (.inl h3')
    rw [zFX hz, hz]
    refine zAA rfl (.a rfl rfl (.a rfl rfl .nil)) ?_
    refine zAK ?_
    exact ends [_, _] [] (.cons (.tmp rfl) (.cons (.tmp rfl) .nil)) (.cons (.one (.nil _) (.sl _ _ (fun _ h => nomatch h))) (.cons (.one .v (.v _)) .nil)) (by decide) trivial
  ·
   replace h2 := of_decide_eq_false h2
   refine zAn ?_
   refine zAB ?_
   have hge : ¬ a < tAt0 s := by omega
   refine zAA rfl (.m rfl rfl (.r rfl (zAW rfl rfl rfl isAgg26 sizeOf26 (nle rfl)) (.run [2, 7400, 7401] [] rfl (zAF rfl 7400 (X := []) en11 rfl (.val nod) (.cons (.one (.bor (.all (len := (pvE out).length) (xs := pvE out) rfl rfl (by decide)))) (.cons (.agg (.cons (.bor .v) (.cons (.bor .v) (.cons (.bor .v) .nil)))) .nil)) (by decide) all_nil .nil (zIv out ((((propsF s).getD pz).2.2.1 : Nat) : Int) ((((propsF s).getD pz).2.2.2.1 : Nat) : Int) ((((propsF s).getD pz).2.2.2.2 : Nat) : Int) (by omega)) rfl rfl (nle rfl)) (.m rfl rfl (.r rfl (zAH rfl rfl rfl) (.r rfl (zAH rfl rfl rfl) (.a rfl rfl (.a rfl rfl .nil)))))))) ?_
   refine zAB ?_
   refine zAB ?_
   refine zAQ (s' := mk [(0, .vs s), (10, .sl 2 0 ((pvE out).length)), (16, .vs ((zBW out ⟨((((propsF s).getD pz).2.2.1 : Nat) : Int), ((((propsF s).getD pz).2.2.2.1 : Nat) : Int), ((((propsF s).getD pz).2.2.2.2 : Nat) : Int)⟩).getD ⟨#[]⟩)), (17, .vb ((zBW out ⟨((((propsF s).getD pz).2.2.1 : Nat) : Int), ((((propsF s).getD pz).2.2.2.1 : Nat) : Int), ((((propsF s).getD pz).2.2.2.2 : Nat) : Int)⟩).isSome))] [] [(2, 4, pvE out)]) ?_ ?_
   · exact zAJ ⟨rfl, rfl, rfl, rfl, trivial⟩ trivial ⟨rfl, trivial⟩ rfl
   rcases bfc (!((zBW out ⟨((((propsF s).getD pz).2.2.1 : Nat) : Int), ((((propsF s).getD pz).2.2.2.1 : Nat) : Int), ((((propsF s).getD pz).2.2.2.2 : Nat) : Int)⟩).isSome)) with h8 | h8
   ·
    have h8' := h8
    replace h8' : ((zBW out ⟨((((propsF s).getD pz).2.2.1 : Nat) : Int), ((((propsF s).getD pz).2.2.2.1 : Nat) : Int), ((((propsF s).getD pz).2.2.2.2 : Nat) : Int)⟩).isSome) = true := zAq h8'
    refine zAA rfl (.m rfl rfl (.r rfl (zAI (zAa (b := (zBW out ⟨((((propsF s).getD pz).2.2.1 : Nat) : Int), ((((propsF s).getD pz).2.2.2.1 : Nat) : Int), ((((propsF s).getD pz).2.2.2.2 : Nat) : Int)⟩).isSome) rfl rfl) (zAE h8)) (.m rfl rfl (.m rfl rfl (.m rfl rfl (.r rfl (zCv rfl rfl rfl) (.r rfl (zAg rfl rfl) .nil))))))) ?_
    refine zAT (t := (!(decide (((zBW out ⟨((((propsF s).getD pz).2.2.1 : Nat) : Int), ((((propsF s).getD pz).2.2.2.1 : Nat) : Int), ((((propsF s).getD pz).2.2.2.2 : Nat) : Int)⟩).getD ⟨#[]⟩) = s)))) rfl (fun h9 => ?_) (fun h9 => ?_)
    ·
     replace h9 : ¬ (((zBW out ⟨((((propsF s).getD pz).2.2.1 : Nat) : Int), ((((propsF s).getD pz).2.2.2.1 : Nat) : Int), ((((propsF s).getD pz).2.2.2.2 : Nat) : Int)⟩).getD ⟨#[]⟩) = s) := of_decide_eq_false (zAp h9)
     refine zAB ?_
     have hz := hT.end2 hge h1 (fun q => h9 (by have q2 : zBW out (⟨((((propsF s).getD pz).2.2.1 : Nat) : Int), ((((propsF s).getD pz).2.2.2.1 : Nat) : Int), ((((propsF s).getD pz).2.2.2.2 : Nat) : Int)⟩ : Shp) = some s := q; rw [q2]; rfl))
     rw [zFX hz, hz]
     refine zAA rfl (.a rfl rfl (.a rfl rfl .nil)) ?_
     refine zAK ?_
     exact ends [_, _] [] (.cons (.tmp rfl) (.cons (.tmp rfl) .nil)) (.cons (.one (.nil _) (.sl _ _ (fun _ h => nomatch h))) (.cons (.one .v (.v _)) .nil)) (by decide) trivial
    ·
     replace h9 : ((zBW out ⟨((((propsF s).getD pz).2.2.1 : Nat) : Int), ((((propsF s).getD pz).2.2.2.1 : Nat) : Int), ((((propsF s).getD pz).2.2.2.2 : Nat) : Int)⟩).getD ⟨#[]⟩) = s := of_decide_eq_true (zAq h9)
     refine zAM ?_
     refine zAB ?_
     have hI := zIn (L := out) (show zBW out (shpN ((propsF s).getD pz).2.2.1 ((propsF s).getD pz).2.2.2.1 ((propsF s).getD pz).2.2.2.2) = some s from zHy h8' h9)
     have hz := zHx hI
     rw [hz.1, hz.2]
     refine zAA rfl (.m rfl rfl (.a rfl rfl (.a rfl rfl .nil))) ?_
     refine zAK ?_
     exact ends [_, _] [2] (.cons (.tmp rfl) (.cons (.tmp rfl) .nil)) (.cons (.one (.row (len := (pvE out).length) (xs := pvE out) rfl rfl) (.sl _ _ (FlatP.clean (zFI _)))) (.cons (.one .v (.v _)) .nil)) (by decide) trivial
   ·
    have h8' := h8
    replace h8' : ((zBW out ⟨((((propsF s).getD pz).2.2.1 : Nat) : Int), ((((propsF s).getD pz).2.2.2.1 : Nat) : Int), ((((propsF s).getD pz).2.2.2.2 : Nat) : Int)⟩).isSome) = false := zAp h8'
    refine zAA rfl (.m rfl rfl (.r rfl (zAI (zAa (b := (zBW out ⟨((((propsF s).getD pz).2.2.1 : Nat) : Int), ((((propsF s).getD pz).2.2.2.1 : Nat) : Int), ((((propsF s).getD pz).2.2.2.2 : Nat) : Int)⟩).isSome) rfl rfl) (zAE h8)) (.m rfl rfl (.not rfl (.not rfl (.not rfl (.r rfl (zAh rfl rfl) .nil))))))) ?_
    refine zAT (t := true) rfl (fun _ => ?_) (fun h => nomatch h)
    refine zAB ?_
    have hz := hT.end2 hge h1 (fun q => by have q2 : zBW out (⟨((((propsF s).getD pz).2.2.1 : Nat) : Int), ((((propsF s).getD pz).2.2.2.1 : Nat) : Int), ((((propsF s).getD pz).2.2.2.2 : Nat) : Int)⟩ : Shp) = some s := q; rw [q2] at h8'; cases h8')
    rw [zFX hz, hz]
    refine zAA rfl (.a rfl rfl (.a rfl rfl .nil)) ?_
    refine zAK ?_
    exact ends [_, _] [] (.cons (.tmp rfl) (.cons (.tmp rfl) .nil)) (.cons (.one (.nil _) (.sl _ _ (fun _ h => nomatch h))) (.cons (.one .v (.v _)) .nil)) (by decide) trivial
end Go.Rl

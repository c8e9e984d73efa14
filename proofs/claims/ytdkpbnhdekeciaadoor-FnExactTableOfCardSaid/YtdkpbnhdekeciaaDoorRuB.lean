/- Promises of functions, proved by walks over their operations; no conditions beyond those that each theorem states. -/
import Derived.Test.YtdkpbnhdekeciaaDoorReG
set_option linter.unusedSimpArgs false
set_option linter.unusedVariables false
namespace Go.Rl
open Go.Proofs
theorem zFO (q : Nat) (s : ByteArray) : zBc q s 0 = zKI q := by rw [zBc, List.take_zero, List.foldl_nil]
set_option maxRecDepth 1000000 in
set_option maxHeartbeats 2000000 in
theorem zFt (q : Nat) (s : ByteArray) (hs : s.size ≤ 9000000000000000000) : Con Tryd.prog 80 [.one (PV.v (.int .u32 (q:Int))), .one (PV.v (.string s))] [] [.one (.v (.int .u64 ((zAh q s : Nat) : Int)))] := by
 refine zAP Tryd.func80 rfl rfl rfl rfl ?_
 refine zAC ?_
 refine zAA rfl (.run [] [] rfl (zAD rfl) .nil) ?_
 refine zAC ?_
 refine zAA rfl (.run [] [] rfl (zAB rfl) (.run [] [] rfl (zAe (k' := .u64) 18446744073709551616 rfl q rfl rfl rfl Tryd.underlying57 Tryd.underlying43) (.run [] [] rfl (zCX (k := .u64) 18446744073709551616 rfl (q % 18446744073709551616) 11400714819323198485 rfl rfl rfl rfl) (.run [] [] rfl (zBY (k := .u64) 18446744073709551616 rfl 14695981039346656037 (((q % 18446744073709551616) * 11400714819323198485) % 18446744073709551616) rfl rfl rfl rfl) (.run [] [] rfl (zAD rfl) .nil))))) ?_
 refine zAC ?_
 refine zAC ?_
 refine zAA rfl (.run [] [] rfl (zAB rfl) (.run [] [] rfl (zAR rfl rfl Tryd.underlying9) (.run [] [] rfl (zAB rfl) .nil))) ?_
 refine zAM ?_
 refine zAj (σ := Nat) (fun i => mk [(1, .p none (.v (.string s))), (5, .p none (.v (.int .u64 ((zBc q s i : Nat) : Int)))), (12, .p none (.v (.int .i64 (s.size : Int)))), (13, .p none (.v (.int .i64 (i:Int))))] [] []) (fun i => i ≤ s.size) (fun i => s.size - i) 0 (by simp) (zAK ⟨rfl, ⟨(zAH (by rw [zFO, zKI])), ⟨rfl, ⟨(zAH (by omega)), trivial⟩⟩⟩⟩ trivial trivial rfl) ?_
 rintro i hG
 replace hG : i ≤ s.size := hG
 refine zAC ?_
 refine zAA rfl (.run [] [] rfl (zAu rfl rfl rfl) .nil) ?_
 refine zAC ?_
 refine zAW (t := decide ((i:Int) < (s.size : Int))) rfl (fun h1 => ?_) (fun h1 => ?_)
 ·
  replace h1 := of_decide_eq_true h1
  refine zAJ ?_
  refine zAC ?_
  refine zAM ?_
  refine zAC ?_
  refine zAA rfl (.run [] [] rfl (zAB rfl) (.run [] [] rfl (zAD rfl) .nil)) ?_
  refine zAC ?_
  obtain ⟨b, hb⟩ : ∃ b : UInt8, s[i]? = some b := ⟨_, getElem?_pos s i (by omega)⟩
  refine zAA rfl (.run [] [] rfl (zAB rfl) (.run [] [] rfl (zAB rfl) (.run [] [] rfl (zAB rfl) (.run [] [] rfl (zCO rfl rfl rfl Tryd.underlying9 (by omega) hb) (.run [] [] rfl (zAe (k' := .u64) 18446744073709551616 rfl b.toNat rfl rfl rfl Tryd.underlying5 Tryd.underlying43) (.run [] [] rfl (zBY (k := .u64) 18446744073709551616 rfl (zBc q s i) (b.toNat % 18446744073709551616) rfl rfl rfl rfl) (.run [] [] rfl (zAD rfl) .nil))))))) ?_
  refine zAA rfl (.run [] [] rfl (zAB rfl) (.run [] [] rfl (zCX (k := .u64) 18446744073709551616 rfl (((zBc q s i) ^^^ (b.toNat % 18446744073709551616)) % 18446744073709551616) 1099511628211 rfl rfl rfl rfl) (.run [] [] rfl (zAD rfl) .nil))) ?_
  refine zAA rfl (.run [] [] rfl (zAX rfl rfl rfl (by omega)) (.run [] [] rfl (zAB rfl) .nil)) ?_
  refine nxt (Q := fun _ _ => False) (z := i) (i + 1) ?_ ?_ ?_
  ·
   show (i + 1) ≤ s.size
   omega
  ·
   show s.size - (i + 1) < s.size - i
   omega
  · exact zAK ⟨rfl, ⟨(zAH (by rw [zFP (zDZ hb), zJM])), ⟨rfl, ⟨(zAH (by omega)), trivial⟩⟩⟩⟩ trivial trivial rfl
 ·
  replace h1 := of_decide_eq_false h1
  refine zAk ?_
  refine zAC ?_
  refine zAU (s' := mk [(5, .p none (.v (.int .u64 ((zBc q s s.size : Nat) : Int))))] [] []) ?_ ?_
  · exact zAK ⟨(zAH (by rw [show i = s.size by omega])), trivial⟩ trivial trivial rfl
  refine zAA rfl (.run [] [] rfl (zAB rfl) (.run [] [] rfl (zAB rfl) (.run [] [] rfl (zBK (zBc q s s.size) 30 rfl rfl rfl (by decide)) (.run [] [] rfl (zBY (k := .u64) 18446744073709551616 rfl (zBc q s s.size) ((zBc q s s.size) / 2 ^ 30) rfl rfl rfl rfl) (.run [] [] rfl (zAD rfl) .nil))))) ?_
  refine zAC ?_
  refine zAA rfl (.run [] [] rfl (zAB rfl) (.run [] [] rfl (zCX (k := .u64) 18446744073709551616 rfl (((zBc q s s.size) ^^^ ((zBc q s s.size) / 2 ^ 30)) % 18446744073709551616) 13787848793156543929 rfl rfl rfl rfl) (.run [] [] rfl (zAD rfl) .nil))) ?_
  refine zAC ?_
  refine zAU (s' := mk [(5, .p none (.v (.int .u64 ((mixA (zBc q s s.size) : Nat) : Int))))] [] []) ?_ ?_
  · exact zAK ⟨(zAH (by rw [mixA])), trivial⟩ trivial trivial rfl
  refine zAA rfl (.run [] [] rfl (zAB rfl) (.run [] [] rfl (zAB rfl) (.run [] [] rfl (zBK (mixA (zBc q s s.size)) 27 rfl rfl rfl (by decide)) (.run [] [] rfl (zBY (k := .u64) 18446744073709551616 rfl (mixA (zBc q s s.size)) ((mixA (zBc q s s.size)) / 2 ^ 27) rfl rfl rfl rfl) (.run [] [] rfl (zAD rfl) .nil))))) ?_
  refine zAC ?_
  refine zAA rfl (.run [] [] rfl (zAB rfl) (.run [] [] rfl (zCX (k := .u64) 18446744073709551616 rfl (((mixA (zBc q s s.size)) ^^^ ((mixA (zBc q s s.size)) / 2 ^ 27)) % 18446744073709551616) 10723151780598845931 rfl rfl rfl rfl) (.run [] [] rfl (zAD rfl) .nil))) ?_
  refine zAC ?_
  refine zAU (s' := mk [(5, .p none (.v (.int .u64 ((mixB (mixA (zBc q s s.size)) : Nat) : Int))))] [] []) ?_ ?_
  · exact zAK ⟨(zAH (by rw [mixB])), trivial⟩ trivial trivial rfl
  refine zAA rfl (.run [] [] rfl (zAB rfl) (.run [] [] rfl (zAB rfl) (.run [] [] rfl (zBK (mixB (mixA (zBc q s s.size))) 31 rfl rfl rfl (by decide)) (.run [] [] rfl (zBY (k := .u64) 18446744073709551616 rfl (mixB (mixA (zBc q s s.size))) ((mixB (mixA (zBc q s s.size))) / 2 ^ 31) rfl rfl rfl rfl) (.run [] [] rfl (zAD rfl) .nil))))) ?_
  refine zAL ?_
  exact ends [_] [] (.cons (.tmp (zAH (by rw [zAh, mixC]))) .nil) (.cons (.one .v (.v _)) .nil) (by decide) trivial
set_option maxRecDepth 1000000 in
set_option maxHeartbeats 2000000 in
theorem zEb (q : Nat) (s : ByteArray) (hs : s.size ≤ 9000000000000000000) : Con Tryd.prog 59 [.one (PV.v (.int .u32 (q:Int))), .one (PV.v (.string s))] [] [.one (.v (.int .u64 ((zAh q s : Nat) : Int)))] := by
 refine zAP Tryd.func59 rfl rfl rfl rfl ?_
 refine zAC ?_
 refine zAA rfl (.run [] [] rfl (zAD rfl) .nil) ?_
 refine zAC ?_
 refine zAA rfl (.run [] [] rfl (zAB rfl) (.run [] [] rfl (zAe (k' := .u64) 18446744073709551616 rfl q rfl rfl rfl Tryd.underlying57 Tryd.underlying43) (.run [] [] rfl (zCX (k := .u64) 18446744073709551616 rfl (q % 18446744073709551616) 11400714819323198485 rfl rfl rfl rfl) (.run [] [] rfl (zBY (k := .u64) 18446744073709551616 rfl 14695981039346656037 (((q % 18446744073709551616) * 11400714819323198485) % 18446744073709551616) rfl rfl rfl rfl) (.run [] [] rfl (zAD rfl) .nil))))) ?_
 refine zAC ?_
 refine zAC ?_
 refine zAA rfl (.run [] [] rfl (zAD rfl) .nil) ?_
 refine zAM ?_
 refine zAj (σ := Nat) (fun i => mk [(1, .p none (.v (.string s))), (5, .p none (.v (.int .u64 ((zBc q s i : Nat) : Int)))), (6, .p none (.v (.int .i64 (i:Int))))] [] []) (fun i => i ≤ s.size) (fun i => s.size - i) 0 (by simp) (zAK ⟨rfl, ⟨(zAH (by rw [zFO, zKI])), ⟨(zAH (by omega)), trivial⟩⟩⟩ trivial trivial rfl) ?_
 rintro i hG
 replace hG : i ≤ s.size := hG
 refine zAC ?_
 refine zAC ?_
 refine zAA rfl (.run [] [] rfl (zAB rfl) (.run [] [] rfl (zAB rfl) (.run [] [] rfl (zAR rfl rfl Tryd.underlying9) (.run [] [] rfl (zAu rfl rfl rfl) .nil)))) ?_
 refine zAW (t := decide ((i:Int) < (s.size : Int))) rfl (fun h1 => ?_) (fun h1 => ?_)
 ·
  replace h1 := of_decide_eq_true h1
  refine zAJ ?_
  refine zAC ?_
  refine zAM ?_
  obtain ⟨b, hb⟩ : ∃ b : UInt8, s[i]? = some b := ⟨_, getElem?_pos s i (by omega)⟩
  refine zAA rfl (.run [] [] rfl (zAB rfl) (.run [] [] rfl (zAB rfl) (.run [] [] rfl (zAB rfl) (.run [] [] rfl (zCO rfl rfl rfl Tryd.underlying9 (by omega) hb) (.run [] [] rfl (zAe (k' := .u64) 18446744073709551616 rfl b.toNat rfl rfl rfl Tryd.underlying5 Tryd.underlying43) (.run [] [] rfl (zBY (k := .u64) 18446744073709551616 rfl (zBc q s i) (b.toNat % 18446744073709551616) rfl rfl rfl rfl) (.run [] [] rfl (zCX (k := .u64) 18446744073709551616 rfl (((zBc q s i) ^^^ (b.toNat % 18446744073709551616)) % 18446744073709551616) 1099511628211 rfl rfl rfl rfl) (.run [] [] rfl (zAD rfl) .nil)))))))) ?_
  refine zAA rfl (.run [] [] rfl (zAB rfl) (.run [] [] rfl (zAX rfl rfl rfl (by omega)) (.run [] [] rfl (zAD rfl) .nil))) ?_
  refine nxt (Q := fun _ _ => False) (z := i) (i + 1) ?_ ?_ ?_
  ·
   show (i + 1) ≤ s.size
   omega
  ·
   show s.size - (i + 1) < s.size - i
   omega
  · exact zAK ⟨rfl, ⟨(zAH (by rw [zFP (zDZ hb), zJM])), ⟨(zAH (by omega)), trivial⟩⟩⟩ trivial trivial rfl
 ·
  replace h1 := of_decide_eq_false h1
  refine zAk ?_
  refine zAC ?_
  refine zAU (s' := mk [(5, .p none (.v (.int .u64 ((zBc q s s.size : Nat) : Int))))] [] []) ?_ ?_
  · exact zAK ⟨(zAH (by rw [show i = s.size by omega])), trivial⟩ trivial trivial rfl
  refine zAA rfl (.run [] [] rfl (zAB rfl) (.run [] [] rfl (zAB rfl) (.run [] [] rfl (zBK (zBc q s s.size) 30 rfl rfl rfl (by decide)) (.run [] [] rfl (zBY (k := .u64) 18446744073709551616 rfl (zBc q s s.size) ((zBc q s s.size) / 2 ^ 30) rfl rfl rfl rfl) (.run [] [] rfl (zCX (k := .u64) 18446744073709551616 rfl (((zBc q s s.size) ^^^ ((zBc q s s.size) / 2 ^ 30)) % 18446744073709551616) 13787848793156543929 rfl rfl rfl rfl) (.run [] [] rfl (zAD rfl) .nil)))))) ?_
  refine zAC ?_
  refine zAU (s' := mk [(5, .p none (.v (.int .u64 ((mixA (zBc q s s.size) : Nat) : Int))))] [] []) ?_ ?_
  · exact zAK ⟨(zAH (by rw [mixA])), trivial⟩ trivial trivial rfl
  refine zAA rfl (.run [] [] rfl (zAB rfl) (.run [] [] rfl (zAB rfl) (.run [] [] rfl (zBK (mixA (zBc q s s.size)) 27 rfl rfl rfl (by decide)) (.run [] [] rfl (zBY (k := .u64) 18446744073709551616 rfl (mixA (zBc q s s.size)) ((mixA (zBc q s s.size)) / 2 ^ 27) rfl rfl rfl rfl) (.run [] [] rfl (zCX (k := .u64) 18446744073709551616 rfl (((mixA (zBc q s s.size)) ^^^ ((mixA (zBc q s s.size)) / 2 ^ 27)) % 18446744073709551616) 10723151780598845931 rfl rfl rfl rfl) (.run [] [] rfl (zAD rfl) .nil)))))) ?_
  refine zAC ?_
  refine zAU (s' := mk [(5, .p none (.v (.int .u64 ((mixB (mixA (zBc q s s.size)) : Nat) : Int))))] [] []) ?_ ?_
  · exact zAK ⟨(zAH (by rw [mixB])), trivial⟩ trivial trivial rfl
  refine zAA rfl (.run [] [] rfl (zAB rfl) (.run [] [] rfl (zAB rfl) (.run [] [] rfl (zBK (mixB (mixA (zBc q s s.size))) 31 rfl rfl rfl (by decide)) (.run [] [] rfl (zBY (k := .u64) 18446744073709551616 rfl (mixB (mixA (zBc q s s.size))) ((mixB (mixA (zBc q s s.size))) / 2 ^ 31) rfl rfl rfl rfl) (.run [] [] rfl (zAD rfl) .nil))))) ?_
  refine zAL ?_
  exact ends [_] [] (.cons (.tmp (zAH (by rw [zAh, mixC]))) .nil) (.cons (.one .v (.v _)) .nil) (by decide) trivial
end Go.Rl
namespace Go.Rl
theorem LessE.trans {a b c : Ent} (h : LessE a b) (k : LessE b c) : LessE a c := by
 rcases h with h | ⟨hu, h⟩
 ·
  rcases k with k | ⟨ku, _⟩
  · exact .inl (zGX h k)
  · exact .inl (by rw [← ku]; exact h)
 ·
  rcases k with k | ⟨ku, k⟩
  · exact .inl (by rw [hu]; exact k)
  ·
   refine .inr ⟨hu.trans ku, ?_⟩
   rcases h with h | ⟨h1, h2⟩
   ·
    rcases k with k | ⟨k1, k2⟩
    · exact .inl (by omega)
    · exact .inl (by omega)
   ·
    rcases k with k | ⟨k1, k2⟩
    · exact .inl (by omega)
    · exact .inr ⟨by omega, by omega⟩
end Go.Rl
namespace Go.Rl
end Go.Rl
namespace Go.Rl
structure Pr where
 user : ByteArray
 value : ByteArray
 deriving DecidableEq
def Pr.pv (e : Pr) : List PV := [.v (.string e.user), .v (.string e.value)]
def pvP (l : List Pr) : List (List PV) := l.map Pr.pv
def lookE (l : List Ent) (u : ByteArray) (p : Int) : Option Ent := if idxF (asOf u p) l < 0 then none else l[(idxF (asOf u p) l).toNat]?
def getC1 (o : Option Ent) : Int := match o with
 | some e => if e.kind = 0 then 2 else 1
 | none => 0
def getC2 (o : Option Ent) : ByteArray := match o with
 | some e => if e.kind = 0 then ⟨#[]⟩ else e.value
 | none => ⟨#[]⟩
def Strict (l : List Ent) : Prop := ∀ (i j : Nat) x e, i < j → l[i]? = some x → l[j]? = some e → LessE x e
def IsLook (l : List Ent) (u : ByteArray) (p : Int) (e : Ent) : Prop := e ∈ l ∧ asOf u p e = true ∧ ∀ x ∈ l, asOf u p x = true → x = e ∨ LessE e x
def visOne (l : List Ent) (p : Int) (u : ByteArray) : List Pr := if getC1 (lookE l u p) = 1 then [⟨u, getC2 (lookE l u p)⟩] else []
def visN (l : List Ent) (p : Int) (us : List ByteArray) : List Pr := us.flatMap (visOne l p)
def visF (l : List Ent) (p : Int) : List Pr := visN l p (zAs l)
theorem zJr {l : List Ent} {u : ByteArray} : u ∈ zAs l ↔ ∃ e ∈ l, e.user = u := by
 rw [zAs, zHR, List.mem_map]
section
variable {l : List Ent} {b : Bool} {zs : List Int}
end
theorem zC2 {l : List Ent} (h : zBD l = true) {e : Ent} (he : e ∈ l) : zBV e = true := by
 obtain ⟨i, hi⟩ := List.getElem?_of_mem he
 simp only [zBD, Bool.and_eq_true] at h
 exact zGU (zGx h.2 hi)
theorem zC3 {l : List Ent} (h : zBD l = true) : l.length ≤ 400 := by
 simp only [zBD, Bool.and_eq_true, decide_eq_true_eq] at h
 exact h.1
end Go.Rl
namespace Go.Rl
theorem zDK {s : ByteArray} {n : Nat} (h : n < s.size) : s[n]? = some (s[n]?.getD 0) := by rw [getElem?_pos s n h]; rfl
def zDa (a b : ByteArray) (n : Nat) : Prop := ∀ j x y, j < n → a.data.toList[j]? = some x → b.data.toList[j]? = some y → x = y
theorem zGG (a b : ByteArray) : zDa a b 0 := fun _ _ _ h => absurd h (Nat.not_lt_zero _)
theorem zGH {a b : ByteArray} {n : Nat} (hG : zDa a b n) (h1 : n < a.size) (h2 : n < b.size) (h : ((a[n]?.getD 0).toNat : Int) = ((b[n]?.getD 0).toNat : Int)) : zDa a b (n + 1) := fun j x y hj hx hy => by
 by_cases e : j = n
 ·
  subst e
  have e1 := zDZ (zDK h1)
  have e2 := zDZ (zDK h2)
  rw [hx] at e1
  rw [hy] at e2
  cases e1
  cases e2
  exact UInt8.toNat_inj.1 (by omega)
 · exact hG j x y (by omega) hx hy
theorem zDQ {a b : ByteArray} {n : Nat} (hG : zDa a b n) (h1 : n ≤ a.size) (h2 : n ≤ b.size) (h : n = a.size ∨ n = b.size ∨ (n < a.size ∧ n < b.size ∧ ¬ ((a[n]?.getD 0).toNat : Int) = ((b[n]?.getD 0).toNat : Int))) : zA0 a b = n := by
 refine zFF hG (by rw [zEN]; exact h1) (by rw [zEN]; exact h2) ?_
 rcases h with h | h | ⟨h3, h4, h5⟩
 · exact .inl (by rw [zEN]; exact h)
 · exact .inr (.inl (by rw [zEN]; exact h))
 · exact .inr (.inr ⟨_, _, zDZ (zDK h3), zDZ (zDK h4), fun q => h5 (by rw [q])⟩)
theorem zDP (a b : ByteArray) : zA0 a b ≤ a.size ∧ zA0 a b ≤ b.size := by
 have := zFE a.data.toList b.data.toList
 rw [zEN, zEN] at this
 exact this
theorem zBB {s : ByteArray} (h : s.size < 18446744073709551616) : (putX s).size ≤ 10 + s.size := by
 have := zAl h
 rw [putX, zAY]
 omega
theorem zFq {u : ByteArray} {s k : Int} (h : zBr u s k = true) : u.size ≤ 40 ∧ 1 ≤ u.size ∧ 0 ≤ s ∧ s ≤ 1000000000000 ∧ 0 ≤ k ∧ k ≤ 1 := by
 simp only [zBr, zBI, zAd, Bool.and_eq_true, decide_eq_true_eq] at h
 omega
theorem zJE {e : Ent} (h : zBr e.user e.seq e.kind = true) : (keyT e).size ≤ 48 ∧ 9 ≤ (keyT e).size := by
 have := zFq h
 rw [keyT, zAY, zAY, zAQ, zAQ]
 omega
theorem zC5 {e : Ent} (h : zBV e = true) : e.value.size ≤ 200 ∧ (keyT e).size ≤ 48 := by
 refine ⟨?_, (zJE (zCE h)).1⟩
 simp only [zBV, Bool.and_eq_true, decide_eq_true_eq] at h
 omega
theorem zDT (s : ByteArray) (a : Nat) : (s.extract a s.size).size ≤ s.size := by
 rw [ByteArray.size_extract]; omega
structure BlkB (b : Blk) (i : Nat) : Prop where
 out : b.out.size ≤ 290 * i
 anew : b.anew.size ≤ 4 * i
 ahead : b.ahead.size ≤ 48
 many : b.many ≤ i
theorem zFT {l : List Ent} {ev : Nat} (hl : ∀ e ∈ l, zBV e = true) : ∀ i, i ≤ l.length → BlkB (blkN l ev i) i
 | 0, _ => ⟨Nat.le_refl _, Nat.le_refl _, Nat.zero_le _, Nat.le_refl _⟩
 | i + 1, h => by
  have ih := zFT hl (ev := ev) i (by omega)
  obtain ⟨e, he⟩ : ∃ e, l[i]? = some e := ⟨_, List.getElem?_eq_getElem (by omega)⟩
  have hn := zC5 (hl e (List.mem_of_getElem? he))
  have h1 := ih.out
  have h2 := ih.anew
  have h3 := ih.many
  have h4 := zAl (n := 0) (by decide)
  have h5 := zDP (blkN l ev i).ahead (keyT e)
  have h6 := zAl (n := zA0 (blkN l ev i).ahead (keyT e)) (by omega)
  have h7 := zDT (keyT e) (zA0 (blkN l ev i).ahead (keyT e))
  have h8 := zBB (s := keyT e) (by omega)
  have h9 := zBB (s := (keyT e).extract (zA0 (blkN l ev i).ahead (keyT e)) (keyT e).size) (by omega)
  have h10 := zBB (s := e.value) (by omega)
  rw [zCG he, blkS]
  split
  · exact ⟨by simp only [zAY]; omega, by simp only [zAY, zAQ]; omega, hn.2, by show _ + 1 ≤ i + 1; omega⟩
  · exact ⟨by simp only [zAY]; omega, by show (blkN l ev i).anew.size ≤ 4 * (i + 1); omega, hn.2, by show (blkN l ev i).many ≤ i + 1; omega⟩
theorem zCm {i ev : Nat} : ((i : Int).tmod (ev : Int) = 0) ↔ i % ev = 0 := by
 rw [Int.tmod_eq_emod_of_nonneg (Int.natCast_nonneg i), ← Int.natCast_emod]
 omega
def secF (s : ByteArray) : ByteArray := putX s ++ fixV (crcF s)
section
variable {l : List Ent} {ev i : Nat} {e : Ent}
theorem zD1 (he : l[i]? = some e) : keyT e = (blkN l ev (i + 1)).ahead := by
 rw [zCG he, blkS]
 split <;> rfl
theorem zH3 (he : l[i]? = some e) (h : (i : Int).tmod (ev : Int) = 0) : (blkN l ev i).out ++ putV (0 : Int).toNat ++ putX ((keyT e).extract 0 (keyT e).size) ++ putX e.value = (blkN l ev (i + 1)).out := by
 rw [zCG he, blkS, if_pos (zCm.1 h), ba_all]
 rfl
theorem zJg (he : l[i]? = some e) (h : (i : Int).tmod (ev : Int) = 0) : (blkN l ev i).out ++ (putV (0 : Int).toNat ++ putX ((keyT e).extract 0 (keyT e).size) ++ putX e.value) = (blkN l ev (i + 1)).out := by
 rw [← zH3 he h, zEO, zEO, zEO]
theorem zGs (he : l[i]? = some e) (h : (i : Int).tmod (ev : Int) = 0) : (blkN l ev i).anew ++ fixV ((blkN l ev i).out.size % 4294967296) = (blkN l ev (i + 1)).anew := by
 rw [zCG he, blkS, if_pos (zCm.1 h)]
theorem zGq (he : l[i]? = some e) (h : (i : Int).tmod (ev : Int) = 0) (hm : (blkN l ev i).many ≤ 1000000) : ((blkN l ev i).many + 1) % 4294967296 = (blkN l ev (i + 1)).many := by
 rw [zCG he, blkS, if_pos (zCm.1 h)]
 show _ = (blkN l ev i).many + 1
 omega
theorem zH2 (he : l[i]? = some e) (h : ¬ (i : Int).tmod (ev : Int) = 0) : (blkN l ev i).out ++ putV (zA0 (blkN l ev i).ahead (keyT e)) ++ putX ((keyT e).extract (zA0 (blkN l ev i).ahead (keyT e)) (keyT e).size) ++ putX e.value = (blkN l ev (i + 1)).out := by
 rw [zCG he, blkS, if_neg (fun q => h (zCm.2 q))]
theorem zJf (he : l[i]? = some e) (h : ¬ (i : Int).tmod (ev : Int) = 0) : (blkN l ev i).out ++ (putV (((zA0 (blkN l ev i).ahead (keyT e) : Nat) : Int) : Int).toNat ++ putX ((keyT e).extract (zA0 (blkN l ev i).ahead (keyT e)) (keyT e).size) ++ putX e.value) = (blkN l ev (i + 1)).out := by
 rw [← zH2 he h, zEO, zEO, zEO]
 rfl
theorem zGr (he : l[i]? = some e) (h : ¬ (i : Int).tmod (ev : Int) = 0) : (blkN l ev i).anew = (blkN l ev (i + 1)).anew := by
 rw [zCG he, blkS, if_neg (fun q => h (zCm.2 q))]
theorem zGp (he : l[i]? = some e) (h : ¬ (i : Int).tmod (ev : Int) = 0) : (blkN l ev i).many = (blkN l ev (i + 1)).many := by
 rw [zCG he, blkS, if_neg (fun q => h (zCm.2 q))]
end
end Go.Rl
namespace Go.Rl
open Go.Proofs
theorem en53 : ∀ vs w, (callFunc 53 vs).run Tryd.prog w = .ok (.enter 53 vs) w := zAn Tryd.func53 (by decide) rfl
theorem en21 : ∀ vs w, (callFunc 21 vs).run Tryd.prog w = .ok (.enter 21 vs) w := zAn Tryd.func21 (by decide) rfl
theorem en46 : ∀ vs w, (callFunc 46 vs).run Tryd.prog w = .ok (.enter 46 vs) w := zAn Tryd.func46 (by decide) rfl
theorem en66 : ∀ vs w, (callFunc 66 vs).run Tryd.prog w = .ok (.enter 66 vs) w := zAn Tryd.func66 (by decide) rfl
theorem en15 : ∀ vs w, (callFunc 15 vs).run Tryd.prog w = .ok (.enter 15 vs) w := zAn Tryd.func15 (by decide) rfl
theorem en34 : ∀ vs w, (callFunc 34 vs).run Tryd.prog w = .ok (.enter 34 vs) w := zAn Tryd.func34 (by decide) rfl
set_option maxRecDepth 1000000 in
set_option maxHeartbeats 2000000 in
theorem zIG (a b : ByteArray) (ha : a.size ≤ 4000000000000000000) (hb : b.size ≤ 4000000000000000000) : Con Tryd.prog 64 [.one (PV.v (.string a)), .one (PV.v (.string b))] [] [.one (.v (.int .i64 ((zA0 a b : Nat) : Int)))] := by
 refine zAP Tryd.func64 rfl rfl rfl rfl ?_
 refine zAC ?_
 refine zAA rfl (.run [] [] rfl (zAD rfl) .nil) ?_
 refine zAC ?_
 refine zAA rfl (.run [] [] rfl (zAD rfl) .nil) ?_
 refine zAC ?_
 refine zAM ?_
 refine zAj (σ := Nat) (fun n => mk [(0, .p none (.v (.string a))), (1, .p none (.v (.string b))), (5, .p none (.v (.int .i64 (n:Int))))] [] []) (fun n => (n ≤ a.size ∧ n ≤ b.size) ∧ zDa a b n) (fun n => a.size - n) 0 ⟨⟨Nat.zero_le _, Nat.zero_le _⟩, zGG _ _⟩ (zAK ⟨rfl, ⟨rfl, ⟨(zAH (by omega)), trivial⟩⟩⟩ trivial trivial rfl) ?_
 rintro n hG
 replace hG : (n ≤ a.size ∧ n ≤ b.size) ∧ zDa a b n := hG
 obtain ⟨⟨hn1, hn2⟩, hS⟩ := hG
 refine zAC ?_
 refine zAC ?_
 rcases bfc (decide ((n:Int) < (a.size : Int))) with h1 | h1
 ·
  have h1' := h1
  replace h1' := of_decide_eq_false h1'
  refine zAf zBj rfl (.run [] [] rfl (zAB rfl) (.run [] [] rfl (zAB rfl) (.run [] [] rfl (zAR rfl rfl Tryd.underlying9) (.run [] [] rfl (zAO (zAu rfl rfl rfl) (zAI h1)) (.run [] [] rfl (zAB rfl) (.not rfl (.not rfl (.not rfl (.not rfl (.run [] [] rfl (zAT (t := false) rfl rfl) (.run [] [] rfl (zAB rfl) (.not rfl (.not rfl (.not rfl (.not rfl (.not rfl (.not rfl (.not rfl (.run [] [] rfl (zAT (t := false) rfl rfl) .nil))))))))))))))))))) (by kernel_rfl) ?_
  refine zAW (t := false) rfl (fun h => nomatch h) (fun _ => ?_)
  refine zAk ?_
  refine zAC ?_
  refine zAU (s' := mk [(5, .p none (.v (.int .i64 (n:Int))))] [] []) ?_ ?_
  · exact zAK ⟨rfl, trivial⟩ trivial trivial rfl
  refine zAA rfl (.run [] [] rfl (zAB rfl) (.run [] [] rfl (zAD rfl) .nil)) ?_
  refine zAL ?_
  exact ends [_] [] (.cons (.tmp (zAH (congrArg Nat.cast (zDQ hS (by omega) (by omega) (.inl (by omega)))).symm)) .nil) (.cons (.one .v (.v _)) .nil) (by decide) trivial
 ·
  have h1' := h1
  replace h1' := of_decide_eq_true h1'
  rcases bfc (decide ((n:Int) < (b.size : Int))) with h2 | h2
  ·
   have h2' := h2
   replace h2' := of_decide_eq_false h2'
   refine zAf zBj rfl (.run [] [] rfl (zAB rfl) (.run [] [] rfl (zAB rfl) (.run [] [] rfl (zAR rfl rfl Tryd.underlying9) (.run [] [] rfl (zAO (zAu rfl rfl rfl) (zAI h1)) (.run [] [] rfl (zAB rfl) (.run [] [] rfl (zAB rfl) (.run [] [] rfl (zAB rfl) (.run [] [] rfl (zAR rfl rfl Tryd.underlying9) (.run [] [] rfl (zAO (zAu rfl rfl rfl) (zAI h2)) (.run [] [] rfl (zAT (t := true) rfl rfl) (.run [] [] rfl (zAB rfl) (.not rfl (.not rfl (.not rfl (.not rfl (.not rfl (.not rfl (.not rfl (.run [] [] rfl (zAT (t := false) rfl rfl) .nil))))))))))))))))))) (by kernel_rfl) ?_
   refine zAW (t := false) rfl (fun h => nomatch h) (fun _ => ?_)
   refine zAk ?_
   refine zAC ?_
   refine zAU (s' := mk [(5, .p none (.v (.int .i64 (n:Int))))] [] []) ?_ ?_
   · exact zAK ⟨rfl, trivial⟩ trivial trivial rfl
   refine zAA rfl (.run [] [] rfl (zAB rfl) (.run [] [] rfl (zAD rfl) .nil)) ?_
   refine zAL ?_
   exact ends [_] [] (.cons (.tmp (zAH (congrArg Nat.cast (zDQ hS (by omega) (by omega) (.inr (.inl (by omega))))).symm)) .nil) (.cons (.one .v (.v _)) .nil) (by decide) trivial
  ·
   have h2' := h2
   replace h2' := of_decide_eq_true h2'
   refine zAf zBj rfl (.run [] [] rfl (zAB rfl) (.run [] [] rfl (zAB rfl) (.run [] [] rfl (zAR rfl rfl Tryd.underlying9) (.run [] [] rfl (zAO (zAu rfl rfl rfl) (zAI h1)) (.run [] [] rfl (zAB rfl) (.run [] [] rfl (zAB rfl) (.run [] [] rfl (zAB rfl) (.run [] [] rfl (zAR rfl rfl Tryd.underlying9) (.run [] [] rfl (zAO (zAu rfl rfl rfl) (zAI h2)) (.run [] [] rfl (zAT (t := true) rfl rfl) (.run [] [] rfl (zAB rfl) (.run [] [] rfl (zAB rfl) (.run [] [] rfl (zAB rfl) (.run [] [] rfl (zCO rfl rfl rfl Tryd.underlying9 (by omega) (zDK (by omega))) (.run [] [] rfl (zAB rfl) (.run [] [] rfl (zAB rfl) (.run [] [] rfl (zCO rfl rfl rfl Tryd.underlying9 (by omega) (zDK (by omega))) (.run [] [] rfl (zA6 rfl rfl rfl) (.run [] [] rfl (zAT (t := true) rfl rfl) .nil))))))))))))))))))) (by kernel_rfl) ?_
   refine zAW (t := decide (((a[n]?.getD 0).toNat : Int) = ((b[n]?.getD 0).toNat : Int))) rfl (fun h3 => ?_) (fun h3 => ?_)
   ·
    replace h3 := of_decide_eq_true h3
    refine zAJ ?_
    refine zAM ?_
    refine zAU (s' := mk [(0, .p none (.v (.string a))), (1, .p none (.v (.string b))), (5, .p none (.v (.int .i64 (n:Int)))), (11, .p none (.v (.int .i64 (n:Int)))), (12, .p none (.v (.string b))), (13, .p none (.v (.int .i64 (b.size : Int)))), (14, .p none (.v (.bool true))), (17, .p none (.v (.string a))), (18, .p none (.v (.int .i64 (n:Int)))), (19, .p none (.v (.int .u8 ((a[n]?.getD 0).toNat : Int)))), (20, .p none (.v (.string b))), (21, .p none (.v (.int .i64 (n:Int)))), (22, .p none (.v (.int .u8 ((b[n]?.getD 0).toNat : Int)))), (23, .p none (.v (.bool (decide (((a[n]?.getD 0).toNat : Int) = ((b[n]?.getD 0).toNat : Int))))))] [] []) ?_ ?_
    · exact zAK ⟨rfl, ⟨rfl, ⟨rfl, ⟨rfl, ⟨rfl, ⟨rfl, ⟨rfl, ⟨rfl, ⟨rfl, ⟨rfl, ⟨rfl, ⟨rfl, ⟨rfl, ⟨rfl, trivial⟩⟩⟩⟩⟩⟩⟩⟩⟩⟩⟩⟩⟩⟩ trivial trivial rfl
    refine zAA rfl (.run [] [] rfl (zAB rfl) (.run [] [] rfl (zAX rfl rfl rfl (by omega)) (.run [] [] rfl (zAD rfl) .nil))) ?_
    refine nxt (Q := fun _ _ => False) (z := n) (n + 1) ?_ ?_ ?_
    ·
     show ((n + 1) ≤ a.size ∧ (n + 1) ≤ b.size) ∧ zDa a b (n + 1)
     exact ⟨⟨by omega, by omega⟩, zGH hS (by omega) (by omega) (by assumption)⟩
    ·
     show a.size - (n + 1) < a.size - n
     omega
    · exact zAK ⟨rfl, ⟨rfl, ⟨(zAH (by omega)), trivial⟩⟩⟩ trivial trivial rfl
   ·
    replace h3 := of_decide_eq_false h3
    refine zAk ?_
    refine zAC ?_
    refine zAU (s' := mk [(5, .p none (.v (.int .i64 (n:Int))))] [] []) ?_ ?_
    · exact zAK ⟨rfl, trivial⟩ trivial trivial rfl
    refine zAA rfl (.run [] [] rfl (zAB rfl) (.run [] [] rfl (zAD rfl) .nil)) ?_
    refine zAL ?_
    exact ends [_] [] (.cons (.tmp (zAH (congrArg Nat.cast (zDQ hS (by omega) (by omega) (.inr (.inr ⟨by omega, by omega, by assumption⟩)))).symm)) .nil) (.cons (.one .v (.v _)) .nil) (by decide) trivial
set_option maxRecDepth 1000000 in
set_option maxHeartbeats 2000000 in
theorem zG8 (a b : ByteArray) (ha : a.size ≤ 4000000000000000000) (hb : b.size ≤ 4000000000000000000) : Con Tryd.prog 32 [.one (PV.v (.string a)), .one (PV.v (.string b))] [] [.one (.v (.int .i64 ((zA0 a b : Nat) : Int)))] := by
 refine zAP Tryd.func32 rfl rfl rfl rfl ?_
 refine zAC ?_
 refine zAA rfl (.run [] [] rfl (zAD rfl) .nil) ?_
 refine zAC ?_
 refine zAA rfl (.run [] [] rfl (zAD rfl) .nil) ?_
 refine zAC ?_
 refine zAM ?_
 refine zAj (σ := Nat) (fun n => mk [(0, .p none (.v (.string a))), (1, .p none (.v (.string b))), (5, .p none (.v (.int .i64 (n:Int))))] [] []) (fun n => (n ≤ a.size ∧ n ≤ b.size) ∧ zDa a b n) (fun n => a.size - n) 0 ⟨⟨Nat.zero_le _, Nat.zero_le _⟩, zGG _ _⟩ (zAK ⟨rfl, ⟨rfl, ⟨(zAH (by omega)), trivial⟩⟩⟩ trivial trivial rfl) ?_
 rintro n hG
 replace hG : (n ≤ a.size ∧ n ≤ b.size) ∧ zDa a b n := hG
 obtain ⟨⟨hn1, hn2⟩, hS⟩ := hG
 refine zAC ?_
 refine zAC ?_
 rcases bfc (decide ((n:Int) < (a.size : Int))) with h1 | h1
 ·
  have h1' := h1
  replace h1' := of_decide_eq_false h1'
  refine zAf zBj rfl (.run [] [] rfl (zAB rfl) (.run [] [] rfl (zAB rfl) (.run [] [] rfl (zAR rfl rfl Tryd.underlying9) (.run [] [] rfl (zAO (zAu rfl rfl rfl) (zAI h1)) (.run [] [] rfl (zAB rfl) (.not rfl (.not rfl (.not rfl (.not rfl (.run [] [] rfl (zAT (t := false) rfl rfl) (.run [] [] rfl (zAB rfl) (.not rfl (.not rfl (.not rfl (.not rfl (.not rfl (.not rfl (.not rfl (.run [] [] rfl (zAT (t := false) rfl rfl) .nil))))))))))))))))))) (by kernel_rfl) ?_
  refine zAW (t := false) rfl (fun h => nomatch h) (fun _ => ?_)
  refine zAk ?_
  refine zAC ?_
  refine zAU (s' := mk [(5, .p none (.v (.int .i64 (n:Int))))] [] []) ?_ ?_
  · exact zAK ⟨rfl, trivial⟩ trivial trivial rfl
  refine zAA rfl (.run [] [] rfl (zAB rfl) (.run [] [] rfl (zAD rfl) .nil)) ?_
  refine zAL ?_
  exact ends [_] [] (.cons (.tmp (zAH (congrArg Nat.cast (zDQ hS (by omega) (by omega) (.inl (by omega)))).symm)) .nil) (.cons (.one .v (.v _)) .nil) (by decide) trivial
 ·
  have h1' := h1
  replace h1' := of_decide_eq_true h1'
  rcases bfc (decide ((n:Int) < (b.size : Int))) with h2 | h2
  ·
   have h2' := h2
   replace h2' := of_decide_eq_false h2'
   refine zAf zBj rfl (.run [] [] rfl (zAB rfl) (.run [] [] rfl (zAB rfl) (.run [] [] rfl (zAR rfl rfl Tryd.underlying9) (.run [] [] rfl (zAO (zAu rfl rfl rfl) (zAI h1)) (.run [] [] rfl (zAB rfl) (.run [] [] rfl (zAB rfl) (.run [] [] rfl (zAB rfl) (.run [] [] rfl (zAR rfl rfl Tryd.underlying9) (.run [] [] rfl (zAO (zAu rfl rfl rfl) (zAI h2)) (.run [] [] rfl (zAT (t := true) rfl rfl) (.run [] [] rfl (zAB rfl) (.not rfl (.not rfl (.not rfl (.not rfl (.not rfl (.not rfl (.not rfl (.run [] [] rfl (zAT (t := false) rfl rfl) .nil))))))))))))))))))) (by kernel_rfl) ?_
   refine zAW (t := false) rfl (fun h => nomatch h) (fun _ => ?_)
   refine zAk ?_
   refine zAC ?_
   refine zAU (s' := mk [(5, .p none (.v (.int .i64 (n:Int))))] [] []) ?_ ?_
   · exact zAK ⟨rfl, trivial⟩ trivial trivial rfl
   refine zAA rfl (.run [] [] rfl (zAB rfl) (.run [] [] rfl (zAD rfl) .nil)) ?_
   refine zAL ?_
   exact ends [_] [] (.cons (.tmp (zAH (congrArg Nat.cast (zDQ hS (by omega) (by omega) (.inr (.inl (by omega))))).symm)) .nil) (.cons (.one .v (.v _)) .nil) (by decide) trivial
  ·
   have h2' := h2
   replace h2' := of_decide_eq_true h2'
   refine zAf zBj rfl (.run [] [] rfl (zAB rfl) (.run [] [] rfl (zAB rfl) (.run [] [] rfl (zAR rfl rfl Tryd.underlying9) (.run [] [] rfl (zAO (zAu rfl rfl rfl) (zAI h1)) (.run [] [] rfl (zAB rfl) (.run [] [] rfl (zAB rfl) (.run [] [] rfl (zAB rfl) (.run [] [] rfl (zAR rfl rfl Tryd.underlying9) (.run [] [] rfl (zAO (zAu rfl rfl rfl) (zAI h2)) (.run [] [] rfl (zAT (t := true) rfl rfl) (.run [] [] rfl (zAB rfl) (.run [] [] rfl (zAB rfl) (.run [] [] rfl (zAB rfl) (.run [] [] rfl (zCO rfl rfl rfl Tryd.underlying9 (by omega) (zDK (by omega))) (.run [] [] rfl (zAB rfl) (.run [] [] rfl (zAB rfl) (.run [] [] rfl (zCO rfl rfl rfl Tryd.underlying9 (by omega) (zDK (by omega))) (.run [] [] rfl (zA6 rfl rfl rfl) (.run [] [] rfl (zAT (t := true) rfl rfl) .nil))))))))))))))))))) (by kernel_rfl) ?_
   refine zAW (t := decide (((a[n]?.getD 0).toNat : Int) = ((b[n]?.getD 0).toNat : Int))) rfl (fun h3 => ?_) (fun h3 => ?_)
   ·
    replace h3 := of_decide_eq_true h3
    refine zAJ ?_
    refine zAM ?_
    refine zAU (s' := mk [(0, .p none (.v (.string a))), (1, .p none (.v (.string b))), (5, .p none (.v (.int .i64 (n:Int)))), (11, .p none (.v (.int .i64 (n:Int)))), (12, .p none (.v (.string b))), (13, .p none (.v (.int .i64 (b.size : Int)))), (14, .p none (.v (.bool true))), (17, .p none (.v (.string a))), (18, .p none (.v (.int .i64 (n:Int)))), (19, .p none (.v (.int .u8 ((a[n]?.getD 0).toNat : Int)))), (20, .p none (.v (.string b))), (21, .p none (.v (.int .i64 (n:Int)))), (22, .p none (.v (.int .u8 ((b[n]?.getD 0).toNat : Int)))), (23, .p none (.v (.bool (decide (((a[n]?.getD 0).toNat : Int) = ((b[n]?.getD 0).toNat : Int))))))] [] []) ?_ ?_
    · exact zAK ⟨rfl, ⟨rfl, ⟨rfl, ⟨rfl, ⟨rfl, ⟨rfl, ⟨rfl, ⟨rfl, ⟨rfl, ⟨rfl, ⟨rfl, ⟨rfl, ⟨rfl, ⟨rfl, trivial⟩⟩⟩⟩⟩⟩⟩⟩⟩⟩⟩⟩⟩⟩ trivial trivial rfl
    refine zAA rfl (.run [] [] rfl (zAB rfl) (.run [] [] rfl (zAX rfl rfl rfl (by omega)) (.run [] [] rfl (zAD rfl) .nil))) ?_
    refine nxt (Q := fun _ _ => False) (z := n) (n + 1) ?_ ?_ ?_
    ·
     show ((n + 1) ≤ a.size ∧ (n + 1) ≤ b.size) ∧ zDa a b (n + 1)
     exact ⟨⟨by omega, by omega⟩, zGH hS (by omega) (by omega) (by assumption)⟩
    ·
     show a.size - (n + 1) < a.size - n
     omega
    · exact zAK ⟨rfl, ⟨rfl, ⟨(zAH (by omega)), trivial⟩⟩⟩ trivial trivial rfl
   ·
    replace h3 := of_decide_eq_false h3
    refine zAk ?_
    refine zAC ?_
    refine zAU (s' := mk [(5, .p none (.v (.int .i64 (n:Int))))] [] []) ?_ ?_
    · exact zAK ⟨rfl, trivial⟩ trivial trivial rfl
    refine zAA rfl (.run [] [] rfl (zAB rfl) (.run [] [] rfl (zAD rfl) .nil)) ?_
    refine zAL ?_
    exact ends [_] [] (.cons (.tmp (zAH (congrArg Nat.cast (zDQ hS (by omega) (by omega) (.inr (.inr ⟨by omega, by omega, by assumption⟩)))).symm)) .nil) (.cons (.one .v (.v _)) .nil) (by decide) trivial
set_option maxRecDepth 1000000 in
set_option maxHeartbeats 2000000 in
theorem zDn (e : Ent) (hk : zBr e.user e.seq e.kind = true) : Con Tryd.prog 47 [.agg [PV.v (.string e.user), PV.v (.int .i64 e.seq), PV.v (.int .i64 e.kind)]] [] [.one (.v (.string (keyT e)))] := by
 refine zAP Tryd.func47 rfl rfl rfl rfl ?_
 have hkn := zFq hk
 have hf1 := zAQ (keyN e % 4294967296)
 have hf2 := zAQ ((keyN e / 2 ^ 32) % 4294967296)
 have hf3 := zAY e.user (fixV (keyN e % 4294967296))
 refine zAC ?_
 refine zAA rfl (.run [] [1] rfl (zBa rfl 1 rfl rfl (by decide) rfl (by decide)) (.run [] [] rfl (zAD rfl) .nil)) ?_
 refine zAC ?_
 refine zAA rfl (.run [] [] rfl (zAE rfl rfl Tryd.underlying46 rfl Tryd.sizeOf2 (by decide)) (.run [] [] rfl (zAF rfl rfl rfl Tryd.isAgg2 rfl) (.run [] [] rfl (zDc rfl rfl rfl (by omega)) (.run [] [] rfl (zAE rfl rfl Tryd.underlying46 rfl Tryd.sizeOf2 (by decide)) (.run [] [] rfl (zAF rfl rfl rfl Tryd.isAgg2 rfl) (.run [] [] rfl (zAX rfl rfl rfl (by omega)) (.run [] [] rfl (zAO (zDD rfl rfl Tryd.underlying2 Tryd.underlying43) ((show (AV.p none (.v (.int .u64 (IntKind.u64.wrap ((2 * e.seq) + e.kind))))) = AV.p none (.v (.int .u64 ((keyN e : Nat) : Int))) from zAH (by rw [keyN, IntKind.wrap_u64]; omega)))) (.run [] [] rfl (zAD rfl) .nil)))))))) ?_
 refine zAC ?_
 refine zAU (s' := mk [(1, .ptr 1 0), (3, .p none (.v (.int .u64 ((keyN e : Nat) : Int))))] [(1, [.p none (.v (.string e.user)), .p none (.v (.int .i64 e.seq)), .p none (.v (.int .i64 e.kind))])] []) ?_ ?_
 · exact zAK ⟨rfl, ⟨rfl, trivial⟩⟩ ⟨rfl, trivial⟩ trivial rfl
 refine zAf zBj rfl (.run [] [] rfl (zAE rfl rfl Tryd.underlying46 rfl Tryd.sizeOf9 (by decide)) (.run [] [] rfl (zAF rfl rfl rfl Tryd.isAgg9 rfl) (.run [] [] rfl (zAB rfl) (.run [] [] rfl (zAe (k' := .u32) 4294967296 rfl (keyN e) rfl rfl rfl Tryd.underlying43 Tryd.underlying57) (.run [1500] [] rfl (zAG rfl 1500 (X := []) en53 rfl (.val nod) (.cons (.one (.bor .v)) .nil) (by decide) all_nil .nil (zBh ((keyN e) % 4294967296)) rfl rfl (nle rfl)) (.run [] [] rfl (zAi rfl rfl rfl (by omega)) (.run [] [] rfl (zAB rfl) (.run [] [] rfl (zBK (keyN e) 32 rfl rfl rfl (by decide)) (.run [] [] rfl (zAe (k' := .u32) 4294967296 rfl ((keyN e) / 2 ^ 32) rfl rfl rfl Tryd.underlying43 Tryd.underlying57) (.run [2000] [] rfl (zAG rfl 2000 (X := []) en53 rfl (.val nod) (.cons (.one (.bor .v)) .nil) (by decide) all_nil .nil (zBh (((keyN e) / 2 ^ 32) % 4294967296)) rfl rfl (nle rfl)) (.run [] [] rfl (zAi rfl rfl rfl (by omega)) (.run [] [] rfl (zAD rfl) .nil)))))))))))) (by kernel_rfl) ?_
 refine zAL ?_
 exact ends [_] [] (.cons (.tmp rfl) .nil) (.cons (.one .v (.v _)) .nil) (by decide) trivial
set_option maxRecDepth 1000000 in
set_option maxHeartbeats 2000000 in
theorem zDE (e : Ent) (hk : zBr e.user e.seq e.kind = true) : Con Tryd.prog 16 [.agg [PV.v (.string e.user), PV.v (.int .i64 e.seq), PV.v (.int .i64 e.kind)]] [] [.one (.v (.string (keyT e)))] := by
 refine zAP Tryd.func16 rfl rfl rfl rfl ?_
 have hkn := zFq hk
 have hf1 := zAQ (keyN e % 4294967296)
 have hf2 := zAQ ((keyN e / 2 ^ 32) % 4294967296)
 have hf3 := zAY e.user (fixV (keyN e % 4294967296))
 refine zAC ?_
 refine zAA rfl (.run [] [1] rfl (zBa rfl 1 rfl rfl (by decide) rfl (by decide)) (.run [] [] rfl (zAD rfl) .nil)) ?_
 refine zAC ?_
 refine zAC ?_
 refine zAA rfl (.run [] [] rfl (zAV rfl rfl rfl Tryd.isAgg46 Tryd.sizeOf46 (nle rfl)) (.run [500] [] rfl (zAG rfl 500 (X := []) en33 rfl (.val nod) (.cons (.agg (.cons (.bor .v) (.cons (.bor .v) (.cons (.bor .v) .nil)))) .nil) (by decide) all_nil .nil (zBb e) rfl rfl (nle rfl)) (.run [] [] rfl (zA1 (b := zBr e.user e.seq e.kind) rfl rfl) .nil))) ?_
 refine zAW (t := (!(zBr e.user e.seq e.kind))) rfl (fun h1 => ?_) (fun h1 => ?_)
 ·
  replace h1 : (zBr e.user e.seq e.kind) = false := zA4 h1
  rw [hk] at h1; cases h1
 ·
  replace h1 : (zBr e.user e.seq e.kind) = true := zA5 h1
  refine zAJ ?_
  refine zAC ?_
  refine zAA rfl (.run [] [] rfl (zAE rfl rfl Tryd.underlying46 rfl Tryd.sizeOf2 (by decide)) (.run [] [] rfl (zAF rfl rfl rfl Tryd.isAgg2 rfl) (.run [] [] rfl (zDc rfl rfl rfl (by omega)) (.run [] [] rfl (zAE rfl rfl Tryd.underlying46 rfl Tryd.sizeOf2 (by decide)) (.run [] [] rfl (zAF rfl rfl rfl Tryd.isAgg2 rfl) (.run [] [] rfl (zAX rfl rfl rfl (by omega)) (.run [] [] rfl (zAO (zDD rfl rfl Tryd.underlying2 Tryd.underlying43) ((show (AV.p none (.v (.int .u64 (IntKind.u64.wrap ((2 * e.seq) + e.kind))))) = AV.p none (.v (.int .u64 ((keyN e : Nat) : Int))) from zAH (by rw [keyN, IntKind.wrap_u64]; omega)))) (.run [] [] rfl (zAD rfl) .nil)))))))) ?_
  refine zAC ?_
  refine zAU (s' := mk [(1, .ptr 1 0), (3, .p none (.v (.int .u64 ((keyN e : Nat) : Int))))] [(1, [.p none (.v (.string e.user)), .p none (.v (.int .i64 e.seq)), .p none (.v (.int .i64 e.kind))])] []) ?_ ?_
  · exact zAK ⟨rfl, ⟨rfl, trivial⟩⟩ ⟨rfl, trivial⟩ trivial rfl
  refine zAf zBj rfl (.run [] [] rfl (zAE rfl rfl Tryd.underlying46 rfl Tryd.sizeOf9 (by decide)) (.run [] [] rfl (zAF rfl rfl rfl Tryd.isAgg9 rfl) (.run [] [] rfl (zAB rfl) (.run [] [] rfl (zAe (k' := .u32) 4294967296 rfl (keyN e) rfl rfl rfl Tryd.underlying43 Tryd.underlying57) (.run [1800] [] rfl (zAG rfl 1800 (X := []) en21 rfl (.val nod) (.cons (.one (.bor .v)) .nil) (by decide) all_nil .nil (zBQ ((keyN e) % 4294967296)) rfl rfl (nle rfl)) (.run [] [] rfl (zAi rfl rfl rfl (by omega)) (.run [] [] rfl (zAB rfl) (.run [] [] rfl (zBK (keyN e) 32 rfl rfl rfl (by decide)) (.run [] [] rfl (zAe (k' := .u32) 4294967296 rfl ((keyN e) / 2 ^ 32) rfl rfl rfl Tryd.underlying43 Tryd.underlying57) (.run [2300] [] rfl (zAG rfl 2300 (X := []) en21 rfl (.val nod) (.cons (.one (.bor .v)) .nil) (by decide) all_nil .nil (zBQ (((keyN e) / 2 ^ 32) % 4294967296)) rfl rfl (nle rfl)) (.run [] [] rfl (zAi rfl rfl rfl (by omega)) (.run [] [] rfl (zAD rfl) .nil)))))))))))) (by kernel_rfl) ?_
  refine zAL ?_
  exact ends [_] [] (.cons (.tmp rfl) .nil) (.cons (.one .v (.v _)) .nil) (by decide) trivial
set_option maxRecDepth 1000000 in
set_option maxHeartbeats 2000000 in
theorem zDi (s : ByteArray) (hs : s.size ≤ 3000000000000000000) : Con Tryd.prog 48 [.one (PV.v (.string s))] [] [.one (.v (.string (secF s)))] := by
 refine zAP Tryd.func48 rfl rfl rfl rfl ?_
 refine zAC ?_
 refine zAA rfl (.run [] [] rfl (zAD rfl) .nil) ?_
 refine zAC ?_
 have hx := zBB (s := s) (by omega)
 have hf := zAQ (crcF s)
 refine zAA rfl (.run [] [] rfl (zAB rfl) (.run [400] [] rfl (zAG rfl 400 (X := []) en46 rfl (.val nod) (.cons (.one (.bor .v)) .nil) (by decide) all_nil .nil (zBq s (by omega)) rfl rfl (nle rfl)) (.run [] [] rfl (zAB rfl) (.run [600] [] rfl (zAG rfl 600 (X := []) en66 rfl (.val nod) (.cons (.one (.bor .v)) .nil) (by decide) all_nil .nil (crc_con s (by omega)) rfl rfl (nle rfl)) (.run [700] [] rfl (zAG rfl 700 (X := []) en53 rfl (.val nod) (.cons (.one (.bor .v)) .nil) (by decide) all_nil .nil (zBh (crcF s)) rfl rfl (nle rfl)) (.run [] [] rfl (zAi rfl rfl rfl (by omega)) (.run [] [] rfl (zAD rfl) .nil))))))) ?_
 refine zAL ?_
 exact ends [_] [] (.cons (.tmp rfl) .nil) (.cons (.one .v (.v _)) .nil) (by decide) trivial
set_option maxRecDepth 1000000 in
set_option maxHeartbeats 2000000 in
theorem zCL (s : ByteArray) (hs : s.size ≤ 3000000000000000000) : Con Tryd.prog 17 [.one (PV.v (.string s))] [] [.one (.v (.string (secF s)))] := by
 refine zAP Tryd.func17 rfl rfl rfl rfl ?_
 refine zAC ?_
 refine zAA rfl (.run [] [] rfl (zAD rfl) .nil) ?_
 refine zAC ?_
 have hx := zBB (s := s) (by omega)
 have hf := zAQ (crcF s)
 refine zAA rfl (.run [] [] rfl (zAB rfl) (.run [400] [] rfl (zAG rfl 400 (X := []) en15 rfl (.val nod) (.cons (.one (.bor .v)) .nil) (by decide) all_nil .nil (zBg s (by omega)) rfl rfl (nle rfl)) (.run [] [] rfl (zAB rfl) (.run [600] [] rfl (zAG rfl 600 (X := []) en34 rfl (.val nod) (.cons (.one (.bor .v)) .nil) (by decide) all_nil .nil (zJx s (by omega)) rfl rfl (nle rfl)) (.run [700] [] rfl (zAG rfl 700 (X := []) en21 rfl (.val nod) (.cons (.one (.bor .v)) .nil) (by decide) all_nil .nil (zBQ (crcF s)) rfl rfl (nle rfl)) (.run [] [] rfl (zAi rfl rfl rfl (by omega)) (.run [] [] rfl (zAD rfl) .nil))))))) ?_
 refine zAL ?_
 exact ends [_] [] (.cons (.tmp rfl) .nil) (.cons (.one .v (.v _)) .nil) (by decide) trivial
end Go.Rl
namespace Go.Rl
open Go.Proofs
theorem en47 : ∀ vs w, (callFunc 47 vs).run Tryd.prog w = .ok (.enter 47 vs) w := zAn Tryd.func47 (by decide) rfl
theorem en45 : ∀ vs w, (callFunc 45 vs).run Tryd.prog w = .ok (.enter 45 vs) w := zAn Tryd.func45 (by decide) rfl
theorem en64 : ∀ vs w, (callFunc 64 vs).run Tryd.prog w = .ok (.enter 64 vs) w := zAn Tryd.func64 (by decide) rfl
set_option maxRecDepth 1000000 in
set_option maxHeartbeats 2000000 in
theorem zJe (l : List Ent) (ev : Nat) (hl : ∀ e ∈ l, zBV e = true) (hn : l.length ≤ 400) (hev : 1 ≤ ev ∧ ev ≤ 16) : Con Tryd.prog 44 [.one (PV.sl false 4 (pvE l)), .one (PV.v (.int .i64 (ev:Int)))] [] [.one (.v (.string (blkF l ev)))] := by
 refine zAP Tryd.func44 rfl rfl rfl rfl ?_
 have hle := zAc l
 refine zAC ?_
 refine zAA rfl (.run [] [] rfl (zAD rfl) .nil) ?_
 refine zAC ?_
 refine zAA rfl (.run [] [] rfl (zAD rfl) (.run [] [] rfl (zAD rfl) (.run [] [] rfl (zAD rfl) (.run [] [] rfl (zAD rfl) .nil)))) ?_
 refine zAC ?_
 refine zAC ?_
 refine zAA rfl (.run [] [] rfl (zAB rfl) (.run [] [] rfl (zAa rfl rfl Tryd.underlying28) (.run [] [] rfl (zAB rfl) .nil))) ?_
 refine zAM ?_
 refine zAj (σ := Nat) (fun i => mk [(1, .p none (.v (.int .i64 (ev:Int)))), (5, .p none (.v (.string ((blkN l ev i).out)))), (6, .p none (.v (.string ((blkN l ev i).ahead)))), (7, .p none (.v (.string ((blkN l ev i).anew)))), (8, .p none (.v (.int .u32 (((blkN l ev i).many : Nat) : Int)))), (13, .p none (.sl false 4 (pvE l))), (14, .p none (.v (.int .i64 ((pvE l).length : Int)))), (15, .p none (.v (.int .i64 (i:Int))))] [] []) (fun i => i ≤ l.length) (fun i => l.length - i) 0 (by simp) (zAK ⟨rfl, ⟨(zAz (by rfl)), ⟨(zAz (by rfl)), ⟨(zAz (by rfl)), ⟨(zAH (by rfl)), ⟨rfl, ⟨rfl, ⟨(zAH (by omega)), trivial⟩⟩⟩⟩⟩⟩⟩⟩ trivial trivial rfl) ?_
 rintro i hG
 replace hG : i ≤ l.length := hG
 have hb := zFT hl (ev := ev) i (by omega)
 have hb1 := hb.out
 have hb2 := hb.anew
 have hb3 := hb.ahead
 have hb4 := hb.many
 refine zAC ?_
 refine zAA rfl (.run [] [] rfl (zAu rfl rfl rfl) .nil) ?_
 refine zAC ?_
 refine zAW (t := decide ((i:Int) < ((pvE l).length : Int))) rfl (fun h1 => ?_) (fun h1 => ?_)
 ·
  replace h1 := of_decide_eq_true h1
  refine zAJ ?_
  refine zAC ?_
  refine zAM ?_
  refine zAC ?_
  obtain ⟨e, he⟩ : ∃ e, l[i]? = some e := ⟨_, List.getElem?_eq_getElem (by omega)⟩
  have hen := hl e (List.mem_of_getElem? he)
  have hnn := zC5 hen
  have hx1 := zBB (s := e.value) (by omega)
  have hx0 := zDT (keyT e) 0
  have hx2 := zBB (s := (keyT e).extract 0 (keyT e).size) (by omega)
  have hx3 := zDT (keyT e) (zA0 (blkN l ev i).ahead (keyT e))
  have hx4 := zBB (s := (keyT e).extract (zA0 (blkN l ev i).ahead (keyT e)) (keyT e).size) (by omega)
  have hx5 := zDP (blkN l ev i).ahead (keyT e)
  have hv0 := zAl (n := (0 : Int).toNat) (by decide)
  have hv1 := zAl (n := (((zA0 (blkN l ev i).ahead (keyT e) : Nat) : Int) : Int).toNat) (by omega)
  have hv2 := zAl (n := zA0 (blkN l ev i).ahead (keyT e)) (by omega)
  have hv3 := zAl (n := 0) (by decide)
  refine zAA rfl (.run [] [] rfl (zAB rfl) (.run [] [] rfl (zAm rfl rfl rfl Tryd.underlying28 Tryd.sizeOf48 rfl (by omega) (zBW he)) (.run [] [] rfl (zBA rfl rfl Tryd.isAgg48 Tryd.sizeOf48 (nle rfl)) (.run [] [10] rfl (zA7 rfl 10 zE5 rfl (by decide) rfl (by decide)) (.run [] [] rfl (zAD rfl) (.run [] [] rfl (zAS rfl rfl rfl rfl rfl Tryd.sizeOf48 rfl (nle rfl)) .nil)))))) ?_
  refine zAC ?_
  refine zAA rfl (.run [] [] rfl (zAE rfl rfl Tryd.underlying48 rfl Tryd.sizeOf46 (by decide)) (.run [] [] rfl (zAV rfl rfl rfl Tryd.isAgg46 Tryd.sizeOf46 (nle rfl)) (.run [2200] [] rfl (zAG rfl 2200 (X := []) en47 rfl (.val nod) (.cons (.agg (.cons (.bor .v) (.cons (.bor .v) (.cons (.bor .v) .nil)))) .nil) (by decide) all_nil .nil (zDn e (zCE hen)) rfl rfl (nle rfl)) (.run [] [] rfl (zAD rfl) (.run [] [] rfl (zAD rfl) .nil))))) ?_
  refine zAC ?_
  refine zAC ?_
  refine zAA rfl (.run [] [] rfl (zAB rfl) (.run [] [] rfl (zAB rfl) (.run [] [] rfl (zIn rfl rfl rfl (by omega)) (.run [] [] rfl (zA6 rfl rfl rfl) .nil)))) ?_
  refine zAW (t := decide (((i:Int).tmod (ev:Int)) = 0)) rfl (fun h2 => ?_) (fun h2 => ?_)
  ·
   replace h2 := of_decide_eq_true h2
   refine zAC ?_
   refine zAU (s' := mk [(1, .p none (.v (.int .i64 (ev:Int)))), (5, .p none (.v (.string ((blkN l ev i).out)))), (7, .p none (.v (.string ((blkN l ev i).anew)))), (8, .p none (.v (.int .u32 (((blkN l ev i).many : Nat) : Int)))), (10, .ptr 10 0), (11, .p none (.v (.string (keyT e)))), (12, .p none (.v (.int .i64 0))), (13, .p none (.sl false 4 (pvE l))), (14, .p none (.v (.int .i64 ((pvE l).length : Int)))), (15, .p none (.v (.int .i64 (i:Int))))] [(10, [.p none (.v (.string e.user)), .p none (.v (.int .i64 e.seq)), .p none (.v (.int .i64 e.kind)), .p none (.v (.string e.value))])] []) ?_ ?_
   · exact zAK ⟨rfl, ⟨rfl, ⟨rfl, ⟨rfl, ⟨rfl, ⟨rfl, ⟨rfl, ⟨rfl, ⟨rfl, ⟨rfl, trivial⟩⟩⟩⟩⟩⟩⟩⟩⟩⟩ ⟨rfl, trivial⟩ trivial rfl
   refine zAA rfl (.run [] [] rfl (zAB rfl) (.run [] [] rfl (zAB rfl) (.run [] [] rfl (zAR rfl rfl Tryd.underlying9) (.run [] [] rfl (zAe (k' := .u32) 4294967296 rfl (((blkN l ev i).out).size) rfl rfl rfl Tryd.underlying3 Tryd.underlying57) (.run [3100] [] rfl (zAG rfl 3100 (X := []) en53 rfl (.val nod) (.cons (.one (.bor .v)) .nil) (by decide) all_nil .nil (zBh ((((blkN l ev i).out).size) % 4294967296)) rfl rfl (nle rfl)) (.run [] [] rfl (zAi rfl rfl rfl (by first | omega | (simp only [zAY, zAQ]; omega))) (.run [] [] rfl (zAD rfl) .nil))))))) ?_
   refine zAA rfl (.run [] [] rfl (zAB rfl) (.run [] [] rfl (zD7 (k := .u32) 4294967296 rfl ((blkN l ev i).many) 1 rfl rfl rfl rfl) (.run [] [] rfl (zAD rfl) .nil))) ?_
   refine zAC ?_
   refine zAU (s' := mk [(1, .p none (.v (.int .i64 (ev:Int)))), (5, .p none (.v (.string ((blkN l ev i).out)))), (7, .p none (.v (.string (((blkN l ev i).anew) ++ (fixV ((((blkN l ev i).out).size) % 4294967296)))))), (8, .p none (.v (.int .u32 (((((blkN l ev i).many) + 1) % 4294967296 : Nat) : Int)))), (10, .ptr 10 0), (11, .p none (.v (.string (keyT e)))), (12, .p none (.v (.int .i64 0))), (13, .p none (.sl false 4 (pvE l))), (14, .p none (.v (.int .i64 ((pvE l).length : Int)))), (15, .p none (.v (.int .i64 (i:Int))))] [(10, [.p none (.v (.string e.user)), .p none (.v (.int .i64 e.seq)), .p none (.v (.int .i64 e.kind)), .p none (.v (.string e.value))])] []) ?_ ?_
   · exact zAK ⟨rfl, ⟨rfl, ⟨rfl, ⟨rfl, ⟨rfl, ⟨rfl, ⟨rfl, ⟨rfl, ⟨rfl, ⟨rfl, trivial⟩⟩⟩⟩⟩⟩⟩⟩⟩⟩ ⟨rfl, trivial⟩ trivial rfl
   refine zAf zBj rfl (.run [] [] rfl (zAB rfl) (.run [] [] rfl (zAB rfl) (.run [4000] [] rfl (zAG rfl 4000 (X := []) en45 rfl (.val nod) (.cons (.one (.bor .v)) .nil) (by decide) all_nil .nil (zBf 0 (by omega) (by omega)) rfl rfl (nle rfl)) (.run [] [] rfl (zAB rfl) (.run [] [] rfl (zAB rfl) (.run [] [] rfl (zDL rfl rfl Tryd.underlying9 (.at_ rfl (show (0 : Int) = ((0 : Nat) : Int) from rfl)) .no (by omega) (Nat.le_refl _)) (.run [4400] [] rfl (zAG rfl 4400 (X := []) en46 rfl (.val nod) (.cons (.one (.bor .v)) .nil) (by decide) all_nil .nil (zBq ((keyT e).extract 0 ((keyT e).size)) (by omega)) rfl rfl (nle rfl)) (.run [] [] rfl (zAi rfl rfl rfl (by first | omega | (simp only [zAY, zAQ]; omega))) (.run [] [] rfl (zAE rfl rfl Tryd.underlying48 rfl Tryd.sizeOf9 (by decide)) (.run [] [] rfl (zAF rfl rfl rfl Tryd.isAgg9 rfl) (.run [4800] [] rfl (zAG rfl 4800 (X := []) en46 rfl (.val nod) (.cons (.one (.bor .v)) .nil) (by decide) all_nil .nil (zBq e.value (by omega)) rfl rfl (nle rfl)) (.run [] [] rfl (zAi rfl rfl rfl (by first | omega | (simp only [zAY, zAQ]; omega))) (.run [] [] rfl (zAi rfl rfl rfl (by first | omega | (simp only [zAY, zAQ]; omega))) (.run [] [] rfl (zAD rfl) .nil)))))))))))))) (by kernel_rfl) ?_
   refine zAA rfl (.run [] [] rfl (zAB rfl) (.run [] [] rfl (zAD rfl) .nil)) ?_
   refine zAU (s' := mk [(1, .p none (.v (.int .i64 (ev:Int)))), (5, .p none (.v (.string (((blkN l ev i).out) ++ (((putV (0 : Int).toNat) ++ (putX ((keyT e).extract 0 ((keyT e).size)))) ++ (putX e.value)))))), (6, .p none (.v (.string (keyT e)))), (7, .p none (.v (.string (((blkN l ev i).anew) ++ (fixV ((((blkN l ev i).out).size) % 4294967296)))))), (8, .p none (.v (.int .u32 (((((blkN l ev i).many) + 1) % 4294967296 : Nat) : Int)))), (13, .p none (.sl false 4 (pvE l))), (14, .p none (.v (.int .i64 ((pvE l).length : Int)))), (15, .p none (.v (.int .i64 (i:Int))))] [] []) ?_ ?_
   · exact zAK ⟨rfl, ⟨rfl, ⟨rfl, ⟨rfl, ⟨rfl, ⟨rfl, ⟨rfl, ⟨rfl, trivial⟩⟩⟩⟩⟩⟩⟩⟩ trivial trivial rfl
   refine zAA rfl (.run [] [] rfl (zAX rfl rfl rfl (by omega)) (.run [] [] rfl (zAB rfl) .nil)) ?_
   refine nxt (Q := fun _ _ => False) (z := i) (i + 1) ?_ ?_ ?_
   ·
    show (i + 1) ≤ l.length
    omega
   ·
    show l.length - (i + 1) < l.length - i
    omega
   · exact zAK ⟨rfl, ⟨(zAz (by exact zJg he h2)), ⟨(zAz (by exact zD1 he)), ⟨(zAz (by exact zGs he h2)), ⟨(zAH (by exact congrArg Nat.cast (zGq he h2 (by omega)))), ⟨rfl, ⟨rfl, ⟨(zAH (by omega)), trivial⟩⟩⟩⟩⟩⟩⟩⟩ trivial trivial rfl
  ·
   replace h2 := of_decide_eq_false h2
   refine zAU (s' := mk [(1, .p none (.v (.int .i64 (ev:Int)))), (5, .p none (.v (.string ((blkN l ev i).out)))), (6, .p none (.v (.string ((blkN l ev i).ahead)))), (7, .p none (.v (.string ((blkN l ev i).anew)))), (8, .p none (.v (.int .u32 (((blkN l ev i).many : Nat) : Int)))), (10, .ptr 10 0), (11, .p none (.v (.string (keyT e)))), (13, .p none (.sl false 4 (pvE l))), (14, .p none (.v (.int .i64 ((pvE l).length : Int)))), (15, .p none (.v (.int .i64 (i:Int))))] [(10, [.p none (.v (.string e.user)), .p none (.v (.int .i64 e.seq)), .p none (.v (.int .i64 e.kind)), .p none (.v (.string e.value))])] []) ?_ ?_
   · exact zAK ⟨rfl, ⟨rfl, ⟨rfl, ⟨rfl, ⟨rfl, ⟨rfl, ⟨rfl, ⟨rfl, ⟨rfl, ⟨rfl, trivial⟩⟩⟩⟩⟩⟩⟩⟩⟩⟩ ⟨rfl, trivial⟩ trivial rfl
   refine zAA rfl (.run [] [] rfl (zAB rfl) (.run [] [] rfl (zAB rfl) (.run [3700] [] rfl (zAG rfl 3700 (X := []) en64 rfl (.val nod) (.cons (.one (.bor .v)) (.cons (.one (.bor .v)) .nil)) (by decide) all_nil .nil (zIG ((blkN l ev i).ahead) (keyT e) (by omega) (by omega)) rfl rfl (nle rfl)) (.run [] [] rfl (zAD rfl) .nil)))) ?_
   refine zAC ?_
   refine zAU (s' := mk [(1, .p none (.v (.int .i64 (ev:Int)))), (5, .p none (.v (.string ((blkN l ev i).out)))), (7, .p none (.v (.string ((blkN l ev i).anew)))), (8, .p none (.v (.int .u32 (((blkN l ev i).many : Nat) : Int)))), (10, .ptr 10 0), (11, .p none (.v (.string (keyT e)))), (12, .p none (.v (.int .i64 ((zA0 ((blkN l ev i).ahead) (keyT e) : Nat) : Int)))), (13, .p none (.sl false 4 (pvE l))), (14, .p none (.v (.int .i64 ((pvE l).length : Int)))), (15, .p none (.v (.int .i64 (i:Int))))] [(10, [.p none (.v (.string e.user)), .p none (.v (.int .i64 e.seq)), .p none (.v (.int .i64 e.kind)), .p none (.v (.string e.value))])] []) ?_ ?_
   · exact zAK ⟨rfl, ⟨rfl, ⟨rfl, ⟨rfl, ⟨rfl, ⟨rfl, ⟨rfl, ⟨rfl, ⟨rfl, ⟨rfl, trivial⟩⟩⟩⟩⟩⟩⟩⟩⟩⟩ ⟨rfl, trivial⟩ trivial rfl
   refine zAf zBj rfl (.run [] [] rfl (zAB rfl) (.run [] [] rfl (zAB rfl) (.run [4000] [] rfl (zAG rfl 4000 (X := []) en45 rfl (.val nod) (.cons (.one (.bor .v)) .nil) (by decide) all_nil .nil (zBf ((zA0 ((blkN l ev i).ahead) (keyT e) : Nat) : Int) (by omega) (by omega)) rfl rfl (nle rfl)) (.run [] [] rfl (zAB rfl) (.run [] [] rfl (zAB rfl) (.run [] [] rfl (zDL rfl rfl Tryd.underlying9 (.at_ rfl rfl) .no (by omega) (Nat.le_refl _)) (.run [4400] [] rfl (zAG rfl 4400 (X := []) en46 rfl (.val nod) (.cons (.one (.bor .v)) .nil) (by decide) all_nil .nil (zBq ((keyT e).extract (zA0 ((blkN l ev i).ahead) (keyT e)) ((keyT e).size)) (by omega)) rfl rfl (nle rfl)) (.run [] [] rfl (zAi rfl rfl rfl (by first | omega | (simp only [zAY, zAQ]; omega))) (.run [] [] rfl (zAE rfl rfl Tryd.underlying48 rfl Tryd.sizeOf9 (by decide)) (.run [] [] rfl (zAF rfl rfl rfl Tryd.isAgg9 rfl) (.run [4800] [] rfl (zAG rfl 4800 (X := []) en46 rfl (.val nod) (.cons (.one (.bor .v)) .nil) (by decide) all_nil .nil (zBq e.value (by omega)) rfl rfl (nle rfl)) (.run [] [] rfl (zAi rfl rfl rfl (by first | omega | (simp only [zAY, zAQ]; omega))) (.run [] [] rfl (zAi rfl rfl rfl (by first | omega | (simp only [zAY, zAQ]; omega))) (.run [] [] rfl (zAD rfl) .nil)))))))))))))) (by kernel_rfl) ?_
   refine zAA rfl (.run [] [] rfl (zAB rfl) (.run [] [] rfl (zAD rfl) .nil)) ?_
   refine zAU (s' := mk [(1, .p none (.v (.int .i64 (ev:Int)))), (5, .p none (.v (.string (((blkN l ev i).out) ++ (((putV (((zA0 ((blkN l ev i).ahead) (keyT e) : Nat) : Int) : Int).toNat) ++ (putX ((keyT e).extract (zA0 ((blkN l ev i).ahead) (keyT e)) ((keyT e).size)))) ++ (putX e.value)))))), (6, .p none (.v (.string (keyT e)))), (7, .p none (.v (.string ((blkN l ev i).anew)))), (8, .p none (.v (.int .u32 (((blkN l ev i).many : Nat) : Int)))), (13, .p none (.sl false 4 (pvE l))), (14, .p none (.v (.int .i64 ((pvE l).length : Int)))), (15, .p none (.v (.int .i64 (i:Int))))] [] []) ?_ ?_
   · exact zAK ⟨rfl, ⟨rfl, ⟨rfl, ⟨rfl, ⟨rfl, ⟨rfl, ⟨rfl, ⟨rfl, trivial⟩⟩⟩⟩⟩⟩⟩⟩ trivial trivial rfl
   refine zAA rfl (.run [] [] rfl (zAX rfl rfl rfl (by omega)) (.run [] [] rfl (zAB rfl) .nil)) ?_
   refine nxt (Q := fun _ _ => False) (z := i) (i + 1) ?_ ?_ ?_
   ·
    show (i + 1) ≤ l.length
    omega
   ·
    show l.length - (i + 1) < l.length - i
    omega
   · exact zAK ⟨rfl, ⟨(zAz (by exact zJf he h2)), ⟨(zAz (by exact zD1 he)), ⟨(zAz (by exact zGr he h2)), ⟨(zAH (by exact congrArg Nat.cast (zGp he h2))), ⟨rfl, ⟨rfl, ⟨(zAH (by omega)), trivial⟩⟩⟩⟩⟩⟩⟩⟩ trivial trivial rfl
 ·
  replace h1 := of_decide_eq_false h1
  refine zAk ?_
  refine zAC ?_
  rw [show i = l.length by omega]
  have hc := zFT hl (ev := ev) l.length (Nat.le_refl _)
  have hc1 := hc.out
  have hc2 := hc.anew
  refine zAA rfl (.run [] [] rfl (zAB rfl) (.run [] [] rfl (zAB rfl) (.run [] [] rfl (zAi rfl rfl rfl (by first | omega | (simp only [zAY, zAQ]; omega))) (.run [] [] rfl (zAB rfl) (.run [5700] [] rfl (zAG rfl 5700 (X := []) en53 rfl (.val nod) (.cons (.one (.bor .v)) .nil) (by decide) all_nil .nil (zBh ((blkN l ev l.length).many)) rfl rfl (nle rfl)) (.run [] [] rfl (zAi rfl rfl rfl (by first | omega | (simp only [zAY, zAQ]; omega))) (.run [] [] rfl (zAB rfl) (.run [] [] rfl (zAe (k' := .u32) 4294967296 rfl ev rfl rfl rfl Tryd.underlying2 Tryd.underlying57) (.run [6100] [] rfl (zAG rfl 6100 (X := []) en53 rfl (.val nod) (.cons (.one (.bor .v)) .nil) (by decide) all_nil .nil (zBh (ev % 4294967296)) rfl rfl (nle rfl)) (.run [] [] rfl (zAi rfl rfl rfl (by first | omega | (simp only [zAY, zAQ]; omega))) (.run [] [] rfl (zAD rfl) .nil))))))))))) ?_
  refine zAL ?_
  exact ends [_] [] (.cons (.tmp rfl) .nil) (.cons (.one .v (.v _)) .nil) (by decide) trivial
end Go.Rl
namespace Go.Rl
open Go.Proofs
theorem en11 : ∀ vs w, (callFunc 11 vs).run Tryd.prog w = .ok (.enter 11 vs) w := zAn Tryd.func11 (by decide) rfl
theorem en16 : ∀ vs w, (callFunc 16 vs).run Tryd.prog w = .ok (.enter 16 vs) w := zAn Tryd.func16 (by decide) rfl
theorem en32 : ∀ vs w, (callFunc 32 vs).run Tryd.prog w = .ok (.enter 32 vs) w := zAn Tryd.func32 (by decide) rfl
set_option maxRecDepth 1000000 in
set_option maxHeartbeats 2000000 in
theorem zGK (l : List Ent) (ev : Nat) (hok : zBD l = true) (h0 : 0 < l.length) (hev : 1 ≤ ev ∧ ev ≤ 16) (hsz : (blkF l ev).size ≤ 60000) : Con Tryd.prog 13 [.one (PV.sl false 4 (pvE l)), .one (PV.v (.int .i64 (ev:Int)))] [] [.one (.v (.string (blkF l ev))), .one (.v (.bool true))] := by
 refine zAP Tryd.func13 rfl rfl rfl rfl ?_
 have hle := zAc l
 have hl : ∀ e ∈ l, zBV e = true := fun e he => zC2 hok he
 have hn := zC3 hok
 refine zAC ?_
 refine zAA rfl (.run [] [] rfl (zAD rfl) (.run [] [] rfl (zAD rfl) .nil)) ?_
 refine zAC ?_
 refine zAC ?_
 rcases bfc (!(zBD l)) with h1 | h1
 ·
  have h1' := h1
  replace h1' : (zBD l) = true := zA5 h1'
  rcases bfc (decide (((pvE l).length : Int) = 0)) with h2 | h2
  ·
   have h2' := h2
   replace h2' := of_decide_eq_false h2'
   refine zAA rfl (.run [] [] rfl (zAB rfl) (.run [1400] [] rfl (zAG rfl 1400 (X := []) en11 rfl (.val nod) (.cons (.one (.bor (.sl nod))) .nil) (by decide) all_nil .nil (zBe l (by omega)) rfl rfl (nle rfl)) (.run [] [] rfl (zAO (zA1 (b := zBD l) rfl rfl) (zAI h1)) (.run [] [] rfl (zAB rfl) (.run [] [] rfl (zAB rfl) (.run [] [] rfl (zAa rfl rfl Tryd.underlying28) (.run [] [] rfl (zAO (zA6 rfl rfl rfl) (zAI h2)) (.run [] [] rfl (zAT (t := false) rfl rfl) (.run [] [] rfl (zAB rfl) (.run [] [] rfl (zAB rfl) (.run [2300] [] rfl (zAG rfl 2300 (X := []) en31 rfl (.val nod) (.cons (.one (.bor .v)) (.cons (.one (.bor .v)) (.cons (.one (.bor .v)) .nil))) (by decide) all_nil .nil (zBU (ev:Int) 1 16) rfl rfl (nle rfl)) (.run [] [] rfl (zA1 (b := zAd (ev:Int) 1 16) rfl rfl) (.run [] [] rfl (zAT (t := false) rfl rfl) .nil))))))))))))) ?_
   refine zAW (t := (!(zAd (ev:Int) 1 16))) rfl (fun h3 => ?_) (fun h3 => ?_)
   ·
    replace h3 : (zAd (ev:Int) 1 16) = false := zA4 h3
    rw [show zAd (ev : Int) 1 16 = true by simp only [zAd, Bool.and_eq_true, decide_eq_true_eq]; omega] at h3; cases h3
   ·
    replace h3 : (zAd (ev:Int) 1 16) = true := zA5 h3
    refine zAJ ?_
    refine zAC ?_
    refine zAA rfl (.run [] [] rfl (zAD rfl) .nil) ?_
    refine zAC ?_
    refine zAU (s' := mk [(0, .p none (.sl false 4 (pvE l))), (1, .p none (.v (.int .i64 (ev:Int)))), (6, .p none (.v (.string ⟨#[]⟩)))] [] []) ?_ ?_
    · exact zAK ⟨rfl, ⟨rfl, ⟨rfl, trivial⟩⟩⟩ trivial trivial rfl
    refine zAA rfl (.run [] [] rfl (zAD rfl) .nil) ?_
    refine zAC ?_
    refine zAA rfl (.run [] [] rfl (zAD rfl) .nil) ?_
    refine zAC ?_
    refine zAA rfl (.run [] [] rfl (zAD rfl) .nil) ?_
    refine zAC ?_
    refine zAC ?_
    refine zAA rfl (.run [] [] rfl (zAD rfl) .nil) ?_
    refine zAM ?_
    refine zAj (σ := Nat) (fun i => mk [(0, .p none (.sl false 4 (pvE l))), (1, .p none (.v (.int .i64 (ev:Int)))), (6, .p none (.v (.string ((blkN l ev i).out)))), (7, .p none (.v (.string ((blkN l ev i).anew)))), (8, .p none (.v (.int .u32 (((blkN l ev i).many : Nat) : Int)))), (9, .p none (.v (.string ((blkN l ev i).ahead)))), (10, .p none (.v (.int .i64 (i:Int))))] [] []) (fun i => i ≤ l.length) (fun i => l.length - i) 0 (by simp) (zAK ⟨rfl, ⟨rfl, ⟨(zAz (by rfl)), ⟨(zAz (by rfl)), ⟨(zAH (by rfl)), ⟨(zAz (by rfl)), ⟨(zAH (by omega)), trivial⟩⟩⟩⟩⟩⟩⟩ trivial trivial rfl) ?_
    rintro i hG
    replace hG : i ≤ l.length := hG
    have hb := zFT hl (ev := ev) i (by omega)
    have hb1 := hb.out
    have hb2 := hb.anew
    have hb3 := hb.ahead
    have hb4 := hb.many
    refine zAC ?_
    refine zAC ?_
    refine zAA rfl (.run [] [] rfl (zAB rfl) (.run [] [] rfl (zAB rfl) (.run [] [] rfl (zAa rfl rfl Tryd.underlying28) (.run [] [] rfl (zAu rfl rfl rfl) .nil)))) ?_
    refine zAW (t := decide ((i:Int) < ((pvE l).length : Int))) rfl (fun h4 => ?_) (fun h4 => ?_)
    ·
     replace h4 := of_decide_eq_true h4
     refine zAJ ?_
     refine zAC ?_
     refine zAM ?_
     refine zAC ?_
     obtain ⟨e, he⟩ : ∃ e, l[i]? = some e := ⟨_, List.getElem?_eq_getElem (by omega)⟩
     have hen := hl e (List.mem_of_getElem? he)
     have hnn := zC5 hen
     have hx1 := zBB (s := e.value) (by omega)
     have hx0 := zDT (keyT e) 0
     have hx2 := zBB (s := (keyT e).extract 0 (keyT e).size) (by omega)
     have hx3 := zDT (keyT e) (zA0 (blkN l ev i).ahead (keyT e))
     have hx4 := zBB (s := (keyT e).extract (zA0 (blkN l ev i).ahead (keyT e)) (keyT e).size) (by omega)
     have hx5 := zDP (blkN l ev i).ahead (keyT e)
     have hv0 := zAl (n := (0 : Int).toNat) (by decide)
     have hv1 := zAl (n := (((zA0 (blkN l ev i).ahead (keyT e) : Nat) : Int) : Int).toNat) (by omega)
     have hv2 := zAl (n := zA0 (blkN l ev i).ahead (keyT e)) (by omega)
     have hv3 := zAl (n := 0) (by decide)
     refine zAA rfl (.run [] [] rfl (zAB rfl) (.run [] [] rfl (zAB rfl) (.run [] [] rfl (zAm rfl rfl rfl Tryd.underlying28 Tryd.sizeOf48 rfl (by omega) (zBW he)) (.run [] [] rfl (zA3 rfl rfl Tryd.underlying48 rfl Tryd.sizeOf46 (by decide)) (.run [] [] rfl (zBA rfl rfl Tryd.isAgg46 Tryd.sizeOf46 (nle rfl)) (.run [3700] [] rfl (zAG rfl 3700 (X := []) en16 rfl (.val nod) (.cons (.agg (.cons (.bor .v) (.cons (.bor .v) (.cons (.bor .v) .nil)))) .nil) (by decide) all_nil .nil (zDE e (zCE hen)) rfl rfl (nle rfl)) (.run [] [] rfl (zAD rfl) .nil))))))) ?_
     refine zAC ?_
     refine zAA rfl (.run [] [] rfl (zAB rfl) (.run [] [] rfl (zAB rfl) (.run [4000] [] rfl (zAG rfl 4000 (X := []) en32 rfl (.val nod) (.cons (.one (.bor .v)) (.cons (.one (.bor .v)) .nil)) (by decide) all_nil .nil (zG8 ((blkN l ev i).ahead) (keyT e) (by omega) (by omega)) rfl rfl (nle rfl)) (.run [] [] rfl (zAD rfl) .nil)))) ?_
     refine zAC ?_
     refine zAC ?_
     refine zAU (s' := mk [(0, .p none (.sl false 4 (pvE l))), (1, .p none (.v (.int .i64 (ev:Int)))), (6, .p none (.v (.string ((blkN l ev i).out)))), (7, .p none (.v (.string ((blkN l ev i).anew)))), (8, .p none (.v (.int .u32 (((blkN l ev i).many : Nat) : Int)))), (10, .p none (.v (.int .i64 (i:Int)))), (11, .p none (.v (.string (keyT e)))), (12, .p none (.v (.int .i64 ((zA0 ((blkN l ev i).ahead) (keyT e) : Nat) : Int))))] [] []) ?_ ?_
     · exact zAK ⟨rfl, ⟨rfl, ⟨rfl, ⟨rfl, ⟨rfl, ⟨rfl, ⟨rfl, ⟨rfl, trivial⟩⟩⟩⟩⟩⟩⟩⟩ trivial trivial rfl
     refine zAA rfl (.run [] [] rfl (zAB rfl) (.run [] [] rfl (zAB rfl) (.run [] [] rfl (zIn rfl rfl rfl (by omega)) (.run [] [] rfl (zA6 rfl rfl rfl) .nil)))) ?_
     refine zAW (t := decide (((i:Int).tmod (ev:Int)) = 0)) rfl (fun h5 => ?_) (fun h5 => ?_)
     ·
      replace h5 := of_decide_eq_true h5
      refine zAC ?_
      refine zAA rfl (.run [] [] rfl (zAB rfl) (.run [] [] rfl (zAB rfl) (.run [] [] rfl (zAR rfl rfl Tryd.underlying9) (.run [] [] rfl (zAe (k' := .u32) 4294967296 rfl (((blkN l ev i).out).size) rfl rfl rfl Tryd.underlying3 Tryd.underlying57) (.run [4900] [] rfl (zAG rfl 4900 (X := []) en21 rfl (.val nod) (.cons (.one (.bor .v)) .nil) (by decide) all_nil .nil (zBQ ((((blkN l ev i).out).size) % 4294967296)) rfl rfl (nle rfl)) (.run [] [] rfl (zAi rfl rfl rfl (by first | omega | (simp only [zAY, zAQ]; omega))) (.run [] [] rfl (zAD rfl) .nil))))))) ?_
      refine zAC ?_
      refine zAA rfl (.run [] [] rfl (zAB rfl) (.run [] [] rfl (zD7 (k := .u32) 4294967296 rfl ((blkN l ev i).many) 1 rfl rfl rfl rfl) (.run [] [] rfl (zAD rfl) .nil))) ?_
      refine zAA rfl (.run [] [] rfl (zAD rfl) .nil) ?_
      refine zAC ?_
      refine zAU (s' := mk [(0, .p none (.sl false 4 (pvE l))), (1, .p none (.v (.int .i64 (ev:Int)))), (6, .p none (.v (.string ((blkN l ev i).out)))), (7, .p none (.v (.string (((blkN l ev i).anew) ++ (fixV ((((blkN l ev i).out).size) % 4294967296)))))), (8, .p none (.v (.int .u32 (((((blkN l ev i).many) + 1) % 4294967296 : Nat) : Int)))), (10, .p none (.v (.int .i64 (i:Int)))), (11, .p none (.v (.string (keyT e)))), (12, .p none (.v (.int .i64 0)))] [] []) ?_ ?_
      · exact zAK ⟨rfl, ⟨rfl, ⟨rfl, ⟨rfl, ⟨rfl, ⟨rfl, ⟨rfl, ⟨rfl, trivial⟩⟩⟩⟩⟩⟩⟩⟩ trivial trivial rfl
      refine zAf zBj rfl (.run [] [] rfl (zAB rfl) (.run [] [] rfl (zAB rfl) (.run [] [] rfl (zAO (zAe (k' := .u64) 18446744073709551616 rfl 0 rfl rfl rfl Tryd.underlying2 Tryd.underlying43) ((zAH (show ((0 % 18446744073709551616 : Nat) : Int) = ((0 : Nat) : Int) by omega)))) (.run [5600] [] rfl (zAG rfl 5600 (X := []) en14 rfl (.val nod) (.cons (.one (.bor .v)) .nil) (by decide) all_nil .nil (zBT 0 (by omega)) rfl rfl (nle rfl)) (.run [] [] rfl (zAi rfl rfl rfl (by first | omega | (simp only [zAY, zAQ]; omega))) (.run [] [] rfl (zAB rfl) (.run [] [] rfl (zAB rfl) (.run [] [] rfl (zDL rfl rfl Tryd.underlying9 (.at_ rfl (show (0 : Int) = ((0 : Nat) : Int) from rfl)) .no (by omega) (Nat.le_refl _)) (.run [6100] [] rfl (zAG rfl 6100 (X := []) en15 rfl (.val nod) (.cons (.one (.bor .v)) .nil) (by decide) all_nil .nil (zBg ((keyT e).extract 0 ((keyT e).size)) (by omega)) rfl rfl (nle rfl)) (.run [] [] rfl (zAi rfl rfl rfl (by first | omega | (simp only [zAY, zAQ]; omega))) (.run [] [] rfl (zAB rfl) (.run [] [] rfl (zAB rfl) (.run [] [] rfl (zAm rfl rfl rfl Tryd.underlying28 Tryd.sizeOf48 rfl (by omega) (zBW he)) (.run [] [] rfl (zA3 rfl rfl Tryd.underlying48 rfl Tryd.sizeOf9 (by decide)) (.run [] [] rfl (zA2 rfl rfl Tryd.isAgg9 rfl) (.run [6800] [] rfl (zAG rfl 6800 (X := []) en15 rfl (.val nod) (.cons (.one (.bor .v)) .nil) (by decide) all_nil .nil (zBg e.value (by omega)) rfl rfl (nle rfl)) (.run [] [] rfl (zAi rfl rfl rfl (by first | omega | (simp only [zAY, zAQ]; omega))) (.run [] [] rfl (zAD rfl) .nil)))))))))))))))))) (by kernel_rfl) ?_
      refine zAU (s' := mk [(0, .p none (.sl false 4 (pvE l))), (1, .p none (.v (.int .i64 (ev:Int)))), (6, .p none (.v (.string (((((blkN l ev i).out) ++ (putV 0)) ++ (putX ((keyT e).extract 0 ((keyT e).size)))) ++ (putX e.value))))), (7, .p none (.v (.string (((blkN l ev i).anew) ++ (fixV ((((blkN l ev i).out).size) % 4294967296)))))), (8, .p none (.v (.int .u32 (((((blkN l ev i).many) + 1) % 4294967296 : Nat) : Int)))), (10, .p none (.v (.int .i64 (i:Int)))), (11, .p none (.v (.string (keyT e))))] [] []) ?_ ?_
      · exact zAK ⟨rfl, ⟨rfl, ⟨rfl, ⟨rfl, ⟨rfl, ⟨rfl, ⟨rfl, trivial⟩⟩⟩⟩⟩⟩⟩ trivial trivial rfl
      refine zAA rfl (.run [] [] rfl (zAB rfl) (.run [] [] rfl (zAD rfl) .nil)) ?_
      refine zAA rfl (.run [] [] rfl (zAB rfl) (.run [] [] rfl (zAX rfl rfl rfl (by omega)) (.run [] [] rfl (zAD rfl) .nil))) ?_
      refine nxt (Q := fun _ _ => False) (z := i) (i + 1) ?_ ?_ ?_
      ·
       show (i + 1) ≤ l.length
       omega
      ·
       show l.length - (i + 1) < l.length - i
       omega
      · exact zAK ⟨rfl, ⟨rfl, ⟨(zAz (by exact zH3 he h5)), ⟨(zAz (by exact zGs he h5)), ⟨(zAH (by exact congrArg Nat.cast (zGq he h5 (by omega)))), ⟨(zAz (by exact zD1 he)), ⟨(zAH (by omega)), trivial⟩⟩⟩⟩⟩⟩⟩ trivial trivial rfl
     ·
      replace h5 := of_decide_eq_false h5
      refine zAJ ?_
      refine zAC ?_
      refine zAU (s' := mk [(0, .p none (.sl false 4 (pvE l))), (1, .p none (.v (.int .i64 (ev:Int)))), (6, .p none (.v (.string ((blkN l ev i).out)))), (7, .p none (.v (.string ((blkN l ev i).anew)))), (8, .p none (.v (.int .u32 (((blkN l ev i).many : Nat) : Int)))), (10, .p none (.v (.int .i64 (i:Int)))), (11, .p none (.v (.string (keyT e)))), (12, .p none (.v (.int .i64 ((zA0 ((blkN l ev i).ahead) (keyT e) : Nat) : Int))))] [] []) ?_ ?_
      · exact zAK ⟨rfl, ⟨rfl, ⟨rfl, ⟨rfl, ⟨rfl, ⟨rfl, ⟨rfl, ⟨rfl, trivial⟩⟩⟩⟩⟩⟩⟩⟩ trivial trivial rfl
      refine zAf zBj rfl (.run [] [] rfl (zAB rfl) (.run [] [] rfl (zAB rfl) (.run [] [] rfl (zAO (zAe (k' := .u64) 18446744073709551616 rfl (zA0 ((blkN l ev i).ahead) (keyT e)) rfl rfl rfl Tryd.underlying2 Tryd.underlying43) ((zAH (show (((zA0 (blkN l ev i).ahead (keyT e)) % 18446744073709551616 : Nat) : Int) = ((zA0 (blkN l ev i).ahead (keyT e) : Nat) : Int) by omega)))) (.run [5600] [] rfl (zAG rfl 5600 (X := []) en14 rfl (.val nod) (.cons (.one (.bor .v)) .nil) (by decide) all_nil .nil (zBT (zA0 (blkN l ev i).ahead (keyT e)) (by omega)) rfl rfl (nle rfl)) (.run [] [] rfl (zAi rfl rfl rfl (by first | omega | (simp only [zAY, zAQ]; omega))) (.run [] [] rfl (zAB rfl) (.run [] [] rfl (zAB rfl) (.run [] [] rfl (zDL rfl rfl Tryd.underlying9 (.at_ rfl rfl) .no (by omega) (Nat.le_refl _)) (.run [6100] [] rfl (zAG rfl 6100 (X := []) en15 rfl (.val nod) (.cons (.one (.bor .v)) .nil) (by decide) all_nil .nil (zBg ((keyT e).extract (zA0 ((blkN l ev i).ahead) (keyT e)) ((keyT e).size)) (by omega)) rfl rfl (nle rfl)) (.run [] [] rfl (zAi rfl rfl rfl (by first | omega | (simp only [zAY, zAQ]; omega))) (.run [] [] rfl (zAB rfl) (.run [] [] rfl (zAB rfl) (.run [] [] rfl (zAm rfl rfl rfl Tryd.underlying28 Tryd.sizeOf48 rfl (by omega) (zBW he)) (.run [] [] rfl (zA3 rfl rfl Tryd.underlying48 rfl Tryd.sizeOf9 (by decide)) (.run [] [] rfl (zA2 rfl rfl Tryd.isAgg9 rfl) (.run [6800] [] rfl (zAG rfl 6800 (X := []) en15 rfl (.val nod) (.cons (.one (.bor .v)) .nil) (by decide) all_nil .nil (zBg e.value (by omega)) rfl rfl (nle rfl)) (.run [] [] rfl (zAi rfl rfl rfl (by first | omega | (simp only [zAY, zAQ]; omega))) (.run [] [] rfl (zAD rfl) .nil)))))))))))))))))) (by kernel_rfl) ?_
      refine zAU (s' := mk [(0, .p none (.sl false 4 (pvE l))), (1, .p none (.v (.int .i64 (ev:Int)))), (6, .p none (.v (.string (((((blkN l ev i).out) ++ (putV (zA0 (blkN l ev i).ahead (keyT e)))) ++ (putX ((keyT e).extract (zA0 ((blkN l ev i).ahead) (keyT e)) ((keyT e).size)))) ++ (putX e.value))))), (7, .p none (.v (.string ((blkN l ev i).anew)))), (8, .p none (.v (.int .u32 (((blkN l ev i).many : Nat) : Int)))), (10, .p none (.v (.int .i64 (i:Int)))), (11, .p none (.v (.string (keyT e))))] [] []) ?_ ?_
      · exact zAK ⟨rfl, ⟨rfl, ⟨rfl, ⟨rfl, ⟨rfl, ⟨rfl, ⟨rfl, trivial⟩⟩⟩⟩⟩⟩⟩ trivial trivial rfl
      refine zAA rfl (.run [] [] rfl (zAB rfl) (.run [] [] rfl (zAD rfl) .nil)) ?_
      refine zAA rfl (.run [] [] rfl (zAB rfl) (.run [] [] rfl (zAX rfl rfl rfl (by omega)) (.run [] [] rfl (zAD rfl) .nil))) ?_
      refine nxt (Q := fun _ _ => False) (z := i) (i + 1) ?_ ?_ ?_
      ·
       show (i + 1) ≤ l.length
       omega
      ·
       show l.length - (i + 1) < l.length - i
       omega
      · exact zAK ⟨rfl, ⟨rfl, ⟨(zAz (by exact zH2 he h5)), ⟨(zAz (by exact zGr he h5)), ⟨(zAH (by exact congrArg Nat.cast (zGp he h5))), ⟨(zAz (by exact zD1 he)), ⟨(zAH (by omega)), trivial⟩⟩⟩⟩⟩⟩⟩ trivial trivial rfl
    ·
     replace h4 := of_decide_eq_false h4
     refine zAk ?_
     refine zAC ?_
     rw [show i = l.length by omega]
     have hc := zFT hl (ev := ev) l.length (Nat.le_refl _)
     have hc1 := hc.out
     have hc2 := hc.anew
     refine zAA rfl (.run [] [] rfl (zAB rfl) (.run [] [] rfl (zAB rfl) (.run [] [] rfl (zAi rfl rfl rfl (by first | omega | (simp only [zAY, zAQ]; omega))) (.run [] [] rfl (zAB rfl) (.run [7500] [] rfl (zAG rfl 7500 (X := []) en21 rfl (.val nod) (.cons (.one (.bor .v)) .nil) (by decide) all_nil .nil (zBQ ((blkN l ev l.length).many)) rfl rfl (nle rfl)) (.run [] [] rfl (zAi rfl rfl rfl (by first | omega | (simp only [zAY, zAQ]; omega))) (.run [] [] rfl (zAB rfl) (.run [] [] rfl (zAe (k' := .u32) 4294967296 rfl ev rfl rfl rfl Tryd.underlying2 Tryd.underlying57) (.run [7900] [] rfl (zAG rfl 7900 (X := []) en21 rfl (.val nod) (.cons (.one (.bor .v)) .nil) (by decide) all_nil .nil (zBQ (ev % 4294967296)) rfl rfl (nle rfl)) (.run [] [] rfl (zAi rfl rfl rfl (by first | omega | (simp only [zAY, zAQ]; omega))) (.run [] [] rfl (zAD rfl) .nil))))))))))) ?_
     refine zAC ?_
     refine zAC ?_
     refine zAU (s' := mk [(6, .p none (.v (.string (((((blkN l ev l.length).out) ++ ((blkN l ev l.length).anew)) ++ (fixV ((blkN l ev l.length).many))) ++ (fixV (ev % 4294967296))))))] [] []) ?_ ?_
     · exact zAK ⟨rfl, trivial⟩ trivial trivial rfl
     refine zAA rfl (.run [] [] rfl (zAB rfl) (.run [] [] rfl (zAR rfl rfl Tryd.underlying9) (.run [] [] rfl (zBy rfl rfl rfl) .nil))) ?_
     refine zAW (t := decide (60000 < ((((((blkN l ev l.length).out) ++ ((blkN l ev l.length).anew)) ++ (fixV ((blkN l ev l.length).many))) ++ (fixV (ev % 4294967296))).size : Int))) rfl (fun h6 => ?_) (fun h6 => ?_)
     ·
      replace h6 := of_decide_eq_true h6
      exact absurd h6 (by have := hsz; simp only [blkF] at this; omega)
     ·
      replace h6 := of_decide_eq_false h6
      refine zAJ ?_
      refine zAC ?_
      refine zAA rfl (.run [] [] rfl (zAB rfl) (.run [] [] rfl (zAD rfl) (.run [] [] rfl (zAD rfl) .nil))) ?_
      refine zAL ?_
      exact ends [_, _] [] (.cons (.tmp rfl) (.cons (.tmp rfl) .nil)) (.cons (.one .v (.v _)) (.cons (.one .v (.v _)) .nil)) (by decide) trivial
  ·
   have h2' := h2
   replace h2' := of_decide_eq_true h2'
   omega
 ·
  have h1' := h1
  replace h1' : (zBD l) = false := zA4 h1'
  rw [hok] at h1'; cases h1'
end Go.Rl

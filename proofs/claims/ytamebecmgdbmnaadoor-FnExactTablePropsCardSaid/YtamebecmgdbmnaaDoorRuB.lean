/- Promises of functions, proved by walks over their operations; no conditions beyond those that each theorem states. -/
import Derived.Test.YtamebecmgdbmnaaDoorReH
set_option linter.unusedSimpArgs false
set_option linter.unusedVariables false
namespace Go.Rl
open Go.Proofs Go.Proofs.Tryd
set_option maxRecDepth 1000000
set_option maxHeartbeats 2000000
theorem zHj (q : Nat) (s : ByteArray) : zB7 q s 0 = zOQ q := by rw [zB7, List.take_zero, List.foldl_nil]
theorem zIN (q : Nat) (s : ByteArray) (hs : s.size ≤ 9000000000000000000) : Con Tryd.prog 120 [.one (PV.v (.int .u32 (q:Int))), .one (PV.v (.string s))] [] [.one (.v (.int .u64 ((zA2 q s : Nat) : Int)))] := by
 refine zAR func120 rfl rfl rfl rfl ?_
 refine zAB (zAA rfl (.a rfl rfl .nil) ?_)
 refine zAB (zAA rfl (.m rfl rfl (.r rfl (zAe (k' := .u64) 18446744073709551616 rfl q rfl rfl rfl underlying67 underlying53) (.r rfl (zDR (k := .u64) 18446744073709551616 rfl (q % 18446744073709551616) 11400714819323198485 rfl rfl rfl rfl) (.r rfl (zB4 (k := .u64) 18446744073709551616 rfl 14695981039346656037 (((q % 18446744073709551616) * 11400714819323198485) % 18446744073709551616) rfl rfl rfl rfl) (.a rfl rfl .nil))))) ?_)
 refine zAB ?_
 refine zAB (zAA rfl (.m rfl rfl (.r rfl (zAP rfl rfl underlying9) (.m rfl rfl .nil))) ?_)
 refine zAS ?_
 refine zAj (σ := Nat) (fun i => mk [(1, .vs s), (5, .p none (.v (.int .u64 ((zB7 q s i : Nat) : Int)))), (12, .vi (s.size : Int)), (13, .vi (i:Int))] [] []) (fun i => i ≤ s.size) (fun i => s.size - i) 0 (by simp) (zAJ ⟨rfl, (zAE (by rw [zHj, zOQ])), rfl, (zAE (by omega)), trivial⟩ trivial trivial rfl) ?_
 rintro i hG
 replace hG : i ≤ s.size := hG
 refine zAB (zAA rfl (.r rfl (zAt rfl rfl rfl) .nil) ?_)
 refine zAB ?_
 refine zAT (t := decide ((i:Int) < (s.size : Int))) rfl (fun h1 => ?_) (fun h1 => ?_)
 ·
  replace h1 := of_decide_eq_true h1
  refine zAK ?_
  refine zAB ?_
  refine zAS ?_
  refine zAB (zAA rfl (.m rfl rfl (.a rfl rfl .nil)) ?_)
  refine zAB ?_
  obtain ⟨b, hb⟩ : ∃ b : UInt8, s[i]? = some b := ⟨_, getElem?_pos s i (by omega)⟩
  refine zAA rfl (.m rfl rfl (.m rfl rfl (.m rfl rfl (.r rfl (zBX rfl rfl rfl underlying9 (by omega) hb) (.r rfl (zAe (k' := .u64) 18446744073709551616 rfl b.toNat rfl rfl rfl underlying5 underlying53) (.r rfl (zB4 (k := .u64) 18446744073709551616 rfl (zB7 q s i) (b.toNat % 18446744073709551616) rfl rfl rfl rfl) (.a rfl rfl .nil))))))) ?_
  refine zAA rfl (.m rfl rfl (.r rfl (zDR (k := .u64) 18446744073709551616 rfl (((zB7 q s i) ^^^ (b.toNat % 18446744073709551616)) % 18446744073709551616) 1099511628211 rfl rfl rfl rfl) (.a rfl rfl .nil))) ?_
  refine zAA rfl (.r rfl (zAW rfl rfl rfl (by omega)) (.m rfl rfl .nil)) ?_
  refine nxt (Q := fun _ _ => False) (z := i) (i + 1) ?_ ?_ ?_
  ·
   show (i + 1) ≤ s.size
   omega
  ·
   show s.size - (i + 1) < s.size - i
   omega
  · exact zAJ ⟨rfl, (zAE (by rw [zHk (zEp hb), zND])), rfl, (zAE (by omega)), trivial⟩ trivial trivial rfl
 ·
  replace h1 := of_decide_eq_false h1
  refine zAi ?_
  refine zAB ?_
  refine zAO (s' := mk [(5, .p none (.v (.int .u64 ((zB7 q s s.size : Nat) : Int))))] [] []) ?_ ?_
  · exact zAJ ⟨(zAE (by rw [show i = s.size by omega])), trivial⟩ trivial trivial rfl
  refine zAA rfl (.m rfl rfl (.m rfl rfl (.r rfl (zBg (zB7 q s s.size) 30 rfl rfl rfl (by decide)) (.r rfl (zB4 (k := .u64) 18446744073709551616 rfl (zB7 q s s.size) ((zB7 q s s.size) / 2 ^ 30) rfl rfl rfl rfl) (.a rfl rfl .nil))))) ?_
  refine zAB (zAA rfl (.m rfl rfl (.r rfl (zDR (k := .u64) 18446744073709551616 rfl (((zB7 q s s.size) ^^^ ((zB7 q s s.size) / 2 ^ 30)) % 18446744073709551616) 13787848793156543929 rfl rfl rfl rfl) (.a rfl rfl .nil))) ?_)
  refine zAB ?_
  refine zAO (s' := mk [(5, .p none (.v (.int .u64 ((mixA (zB7 q s s.size) : Nat) : Int))))] [] []) ?_ ?_
  · exact zAJ ⟨(zAE (by rw [mixA])), trivial⟩ trivial trivial rfl
  refine zAA rfl (.m rfl rfl (.m rfl rfl (.r rfl (zBg (mixA (zB7 q s s.size)) 27 rfl rfl rfl (by decide)) (.r rfl (zB4 (k := .u64) 18446744073709551616 rfl (mixA (zB7 q s s.size)) ((mixA (zB7 q s s.size)) / 2 ^ 27) rfl rfl rfl rfl) (.a rfl rfl .nil))))) ?_
  refine zAB (zAA rfl (.m rfl rfl (.r rfl (zDR (k := .u64) 18446744073709551616 rfl (((mixA (zB7 q s s.size)) ^^^ ((mixA (zB7 q s s.size)) / 2 ^ 27)) % 18446744073709551616) 10723151780598845931 rfl rfl rfl rfl) (.a rfl rfl .nil))) ?_)
  refine zAB ?_
  refine zAO (s' := mk [(5, .p none (.v (.int .u64 ((mixB (mixA (zB7 q s s.size)) : Nat) : Int))))] [] []) ?_ ?_
  · exact zAJ ⟨(zAE (by rw [mixB])), trivial⟩ trivial trivial rfl
  refine zAA rfl (.m rfl rfl (.m rfl rfl (.r rfl (zBg (mixB (mixA (zB7 q s s.size))) 31 rfl rfl rfl (by decide)) (.r rfl (zB4 (k := .u64) 18446744073709551616 rfl (mixB (mixA (zB7 q s s.size))) ((mixB (mixA (zB7 q s s.size))) / 2 ^ 31) rfl rfl rfl rfl) (.a rfl rfl .nil))))) ?_
  refine zAI ?_
  exact ends [_] [] (.cons (.tmp (zAE (by rw [zA2, mixC]))) .nil) (.cons (.one .v (.v _)) .nil) (by decide) trivial
theorem zGR (q : Nat) (s : ByteArray) (hs : s.size ≤ 9000000000000000000) : Con Tryd.prog 92 [.one (PV.v (.int .u32 (q:Int))), .one (PV.v (.string s))] [] [.one (.v (.int .u64 ((zA2 q s : Nat) : Int)))] := by
 refine zAR func92 rfl rfl rfl rfl ?_
 refine zAB (zAA rfl (.a rfl rfl .nil) ?_)
 refine zAB (zAA rfl (.m rfl rfl (.r rfl (zAe (k' := .u64) 18446744073709551616 rfl q rfl rfl rfl underlying67 underlying53) (.r rfl (zDR (k := .u64) 18446744073709551616 rfl (q % 18446744073709551616) 11400714819323198485 rfl rfl rfl rfl) (.r rfl (zB4 (k := .u64) 18446744073709551616 rfl 14695981039346656037 (((q % 18446744073709551616) * 11400714819323198485) % 18446744073709551616) rfl rfl rfl rfl) (.a rfl rfl .nil))))) ?_)
 refine zAB ?_
 refine zAB (zAA rfl (.a rfl rfl .nil) ?_)
 refine zAS ?_
 refine zAj (σ := Nat) (fun i => mk [(1, .vs s), (5, .p none (.v (.int .u64 ((zB7 q s i : Nat) : Int)))), (6, .vi (i:Int))] [] []) (fun i => i ≤ s.size) (fun i => s.size - i) 0 (by simp) (zAJ ⟨rfl, (zAE (by rw [zHj, zOQ])), (zAE (by omega)), trivial⟩ trivial trivial rfl) ?_
 rintro i hG
 replace hG : i ≤ s.size := hG
 refine zAB ?_
 refine zAB (zAA rfl (.m rfl rfl (.m rfl rfl (.r rfl (zAP rfl rfl underlying9) (.r rfl (zAt rfl rfl rfl) .nil)))) ?_)
 refine zAT (t := decide ((i:Int) < (s.size : Int))) rfl (fun h1 => ?_) (fun h1 => ?_)
 ·
  replace h1 := of_decide_eq_true h1
  refine zAK ?_
  refine zAB ?_
  refine zAS ?_
  obtain ⟨b, hb⟩ : ∃ b : UInt8, s[i]? = some b := ⟨_, getElem?_pos s i (by omega)⟩
  refine zAA rfl (.m rfl rfl (.m rfl rfl (.m rfl rfl (.r rfl (zBX rfl rfl rfl underlying9 (by omega) hb) (.r rfl (zAe (k' := .u64) 18446744073709551616 rfl b.toNat rfl rfl rfl underlying5 underlying53) (.r rfl (zB4 (k := .u64) 18446744073709551616 rfl (zB7 q s i) (b.toNat % 18446744073709551616) rfl rfl rfl rfl) (.r rfl (zDR (k := .u64) 18446744073709551616 rfl (((zB7 q s i) ^^^ (b.toNat % 18446744073709551616)) % 18446744073709551616) 1099511628211 rfl rfl rfl rfl) (.a rfl rfl .nil)))))))) ?_
  refine zAA rfl (.m rfl rfl (.r rfl (zAW rfl rfl rfl (by omega)) (.a rfl rfl .nil))) ?_
  refine nxt (Q := fun _ _ => False) (z := i) (i + 1) ?_ ?_ ?_
  ·
   show (i + 1) ≤ s.size
   omega
  ·
   show s.size - (i + 1) < s.size - i
   omega
  · exact zAJ ⟨rfl, (zAE (by rw [zHk (zEp hb), zND])), (zAE (by omega)), trivial⟩ trivial trivial rfl
 ·
  replace h1 := of_decide_eq_false h1
  refine zAi ?_
  refine zAB ?_
  refine zAO (s' := mk [(5, .p none (.v (.int .u64 ((zB7 q s s.size : Nat) : Int))))] [] []) ?_ ?_
  · exact zAJ ⟨(zAE (by rw [show i = s.size by omega])), trivial⟩ trivial trivial rfl
  refine zAA rfl (.m rfl rfl (.m rfl rfl (.r rfl (zBg (zB7 q s s.size) 30 rfl rfl rfl (by decide)) (.r rfl (zB4 (k := .u64) 18446744073709551616 rfl (zB7 q s s.size) ((zB7 q s s.size) / 2 ^ 30) rfl rfl rfl rfl) (.r rfl (zDR (k := .u64) 18446744073709551616 rfl (((zB7 q s s.size) ^^^ ((zB7 q s s.size) / 2 ^ 30)) % 18446744073709551616) 13787848793156543929 rfl rfl rfl rfl) (.a rfl rfl .nil)))))) ?_
  refine zAB ?_
  refine zAO (s' := mk [(5, .p none (.v (.int .u64 ((mixA (zB7 q s s.size) : Nat) : Int))))] [] []) ?_ ?_
  · exact zAJ ⟨(zAE (by rw [mixA])), trivial⟩ trivial trivial rfl
  refine zAA rfl (.m rfl rfl (.m rfl rfl (.r rfl (zBg (mixA (zB7 q s s.size)) 27 rfl rfl rfl (by decide)) (.r rfl (zB4 (k := .u64) 18446744073709551616 rfl (mixA (zB7 q s s.size)) ((mixA (zB7 q s s.size)) / 2 ^ 27) rfl rfl rfl rfl) (.r rfl (zDR (k := .u64) 18446744073709551616 rfl (((mixA (zB7 q s s.size)) ^^^ ((mixA (zB7 q s s.size)) / 2 ^ 27)) % 18446744073709551616) 10723151780598845931 rfl rfl rfl rfl) (.a rfl rfl .nil)))))) ?_
  refine zAB ?_
  refine zAO (s' := mk [(5, .p none (.v (.int .u64 ((mixB (mixA (zB7 q s s.size)) : Nat) : Int))))] [] []) ?_ ?_
  · exact zAJ ⟨(zAE (by rw [mixB])), trivial⟩ trivial trivial rfl
  refine zAA rfl (.m rfl rfl (.m rfl rfl (.r rfl (zBg (mixB (mixA (zB7 q s s.size))) 31 rfl rfl rfl (by decide)) (.r rfl (zB4 (k := .u64) 18446744073709551616 rfl (mixB (mixA (zB7 q s s.size))) ((mixB (mixA (zB7 q s s.size))) / 2 ^ 31) rfl rfl rfl rfl) (.a rfl rfl .nil))))) ?_
  refine zAI ?_
  exact ends [_] [] (.cons (.tmp (zAE (by rw [zA2, mixC]))) .nil) (.cons (.one .v (.v _)) .nil) (by decide) trivial
end Go.Rl
namespace Go.Rl
theorem LessE.trans {a b c : Ent} (h : LessE a b) (k : LessE b c) : LessE a c := by
 rcases h with h | ⟨hu, h⟩
 ·
  rcases k with k | ⟨ku, _⟩
  · exact .inl (zJF h k)
  · exact .inl (by rw [← ku]; exact h)
 ·
  rcases k with k | ⟨ku, k⟩
  · exact .inl (by rw [hu]; exact k)
  ·
   refine .inr ⟨hu.trans ku, ?_⟩
   rcases h with h | ⟨h1, h2⟩
   ·
    rcases k with k | ⟨k1, k2⟩
    · exact .inl (by omega)
    · exact .inl (by omega)
   ·
    rcases k with k | ⟨k1, k2⟩
    · exact .inl (by omega)
    · exact .inr ⟨by omega, by omega⟩
end Go.Rl
namespace Go.Rl
end Go.Rl
namespace Go.Rl
structure Pr where
 user : ByteArray
 value : ByteArray
 deriving DecidableEq
def Pr.pv (e : Pr) : List PV := [.v (.string e.user), .v (.string e.value)]
def pvP (l : List Pr) : List (List PV) := l.map Pr.pv
def zEM (l : List Ent) (u : ByteArray) (p : Int) : Option Ent := if idxF (asOf u p) l < 0 then none else l[(idxF (asOf u p) l).toNat]?
def zNH (o : Option Ent) : Int := match o with
 | some e => if e.kind = 0 then 2 else 1
 | none => 0
def zNG (o : Option Ent) : ByteArray := match o with
 | some e => if e.kind = 0 then ⟨#[]⟩ else e.value
 | none => ⟨#[]⟩
theorem zGp {l : List Ent} {u : ByteArray} {p : Int} (h : idxF (asOf u p) l < 0) : zEM l u p = none := if_pos h
theorem zM0 {l : List Ent} {u : ByteArray} {p : Int} {e : Ent} (h : ¬ idxF (asOf u p) l < 0) (he : l[(idxF (asOf u p) l).toNat]? = some e) : zEM l u p = some e := (if_neg h).trans he
def Strict (l : List Ent) : Prop := ∀ (i j : Nat) x e, i < j → l[i]? = some x → l[j]? = some e → LessE x e
def IsLook (l : List Ent) (u : ByteArray) (p : Int) (e : Ent) : Prop := e ∈ l ∧ asOf u p e = true ∧ ∀ x ∈ l, asOf u p x = true → x = e ∨ LessE e x
def visOne (l : List Ent) (p : Int) (u : ByteArray) : List Pr := if zNH (zEM l u p) = 1 then [⟨u, zNG (zEM l u p)⟩] else []
def visN (l : List Ent) (p : Int) (us : List ByteArray) : List Pr := us.flatMap (visOne l p)
def visF (l : List Ent) (p : Int) : List Pr := visN l p (zAz l)
theorem zNq {l : List Ent} {u : ByteArray} : u ∈ zAz l ↔ ∃ e ∈ l, e.user = u := by
 rw [zAz, zKS, List.mem_map]
section
variable {l : List Ent} {b : Bool} {zs : List Int}
end
theorem zCZ {l : List Ent} (h : zBJ l = true) {e : Ent} (he : e ∈ l) : zBt e = true := by
 obtain ⟨i, hi⟩ := List.getElem?_of_mem he
 simp only [zBJ, Bool.and_eq_true] at h
 exact zJC (zJn h.2 hi)
theorem zBj {l : List Ent} (h : zBJ l = true) : l.length ≤ 400 := by
 simp only [zBJ, Bool.and_eq_true, decide_eq_true_eq] at h
 exact h.1
end Go.Rl
namespace Go.Rl
theorem zCG {s : ByteArray} {n : Nat} (h : n < s.size) : s[n]? = some (s[n]?.getD 0) := by rw [getElem?_pos s n h]; rfl
def zEq (a b : ByteArray) (n : Nat) : Prop := ∀ j x y, j < n → a.data.toList[j]? = some x → b.data.toList[j]? = some y → x = y
theorem zIs (a b : ByteArray) : zEq a b 0 := fun _ _ _ h => absurd h (Nat.not_lt_zero _)
theorem zIt {a b : ByteArray} {n : Nat} (hG : zEq a b n) (h1 : n < a.size) (h2 : n < b.size) (h : ((a[n]?.getD 0).toNat : Int) = ((b[n]?.getD 0).toNat : Int)) : zEq a b (n + 1) := fun j x y hj hx hy => by
 by_cases e : j = n
 ·
  subst e
  have e1 := zEp (zCG h1)
  have e2 := zEp (zCG h2)
  rw [hx] at e1
  rw [hy] at e2
  cases e1
  cases e2
  exact UInt8.toNat_inj.1 (by omega)
 · exact hG j x y (by omega) hx hy
theorem zEZ {a b : ByteArray} {n : Nat} (hG : zEq a b n) (h1 : n ≤ a.size) (h2 : n ≤ b.size) (h : n = a.size ∨ n = b.size ∨ (n < a.size ∧ n < b.size ∧ ¬ ((a[n]?.getD 0).toNat : Int) = ((b[n]?.getD 0).toNat : Int))) : zBN a b = n := by
 refine zHQ hG (by rw [zFt]; exact h1) (by rw [zFt]; exact h2) ?_
 rcases h with h | h | ⟨h3, h4, h5⟩
 · exact .inl (by rw [zFt]; exact h)
 · exact .inr (.inl (by rw [zFt]; exact h))
 · exact .inr (.inr ⟨_, _, zEp (zCG h3), zEp (zCG h4), fun q => h5 (by rw [q])⟩)
theorem zDp (a b : ByteArray) : zBN a b ≤ a.size ∧ zBN a b ≤ b.size := by
 have := zHP a.data.toList b.data.toList
 rw [zFt, zFt] at this
 exact this
theorem zBT {s : ByteArray} (h : s.size < 18446744073709551616) : (putX s).size ≤ 10 + s.size := by
 have := zA5 h
 rw [putX, zAY]
 omega
theorem zEg {u : ByteArray} {s k : Int} (h : zBp u s k = true) : u.size ≤ 40 ∧ 1 ≤ u.size ∧ 0 ≤ s ∧ s ≤ 1000000000000 ∧ 0 ≤ k ∧ k ≤ 1 := by
 simp only [zBp, zBd, zAl, Bool.and_eq_true, decide_eq_true_eq] at h
 omega
theorem zJG {e : Ent} (h : zBp e.user e.seq e.kind = true) : (keyT e).size ≤ 48 ∧ 9 ≤ (keyT e).size := by
 have := zEg h
 rw [keyT, zAY, zAY, zAU, zAU]
 omega
theorem zDh {e : Ent} (h : zBt e = true) : e.value.size ≤ 200 ∧ (keyT e).size ≤ 48 := by
 refine ⟨?_, (zJG (zCE h)).1⟩
 simp only [zBt, Bool.and_eq_true, decide_eq_true_eq] at h
 omega
theorem zC6 (s : ByteArray) (a : Nat) : (s.extract a s.size).size ≤ s.size := by
 rw [ByteArray.size_extract]; omega
structure BlkB (b : Blk) (i : Nat) : Prop where
 out : b.out.size ≤ 290 * i
 anew : b.anew.size ≤ 4 * i
 ahead : b.ahead.size ≤ 48
 many : b.many ≤ i
theorem zG4 {l : List Ent} {ev : Nat} (hl : ∀ e ∈ l, zBt e = true) : ∀ i, i ≤ l.length → BlkB (blkN l ev i) i
 | 0, _ => ⟨Nat.le_refl _, Nat.le_refl _, Nat.zero_le _, Nat.le_refl _⟩
 | i + 1, h => by
  have ih := zG4 hl (ev := ev) i (by omega)
  obtain ⟨e, he⟩ : ∃ e, l[i]? = some e := ⟨_, List.getElem?_eq_getElem (by omega)⟩
  have hn := zDh (hl e (List.mem_of_getElem? he))
  have h1 := ih.out
  have h2 := ih.anew
  have h3 := ih.many
  have h4 := zA5 (n := 0) (by decide)
  have h5 := zDp (blkN l ev i).ahead (keyT e)
  have h6 := zA5 (n := zBN (blkN l ev i).ahead (keyT e)) (by omega)
  have h7 := zC6 (keyT e) (zBN (blkN l ev i).ahead (keyT e))
  have h8 := zBT (s := keyT e) (by omega)
  have h9 := zBT (s := (keyT e).extract (zBN (blkN l ev i).ahead (keyT e)) (keyT e).size) (by omega)
  have h10 := zBT (s := e.value) (by omega)
  rw [zCF he, blkS]
  split
  · exact ⟨by simp only [zAY]; omega, by simp only [zAY, zAU]; omega, hn.2, by show _ + 1 ≤ i + 1; omega⟩
  · exact ⟨by simp only [zAY]; omega, by show (blkN l ev i).anew.size ≤ 4 * (i + 1); omega, hn.2, by show (blkN l ev i).many ≤ i + 1; omega⟩
theorem zDm {i ev : Nat} : ((i : Int).tmod (ev : Int) = 0) ↔ i % ev = 0 := by
 rw [Int.tmod_eq_emod_of_nonneg (Int.natCast_nonneg i), ← Int.natCast_emod]
 omega
def secF (s : ByteArray) : ByteArray := putX s ++ fixV (crcF s)
section
variable {l : List Ent} {ev i : Nat} {e : Ent}
theorem zFQ (he : l[i]? = some e) : keyT e = (blkN l ev (i + 1)).ahead := by
 rw [zCF he, blkS]
 split <;> rfl
theorem zLP (he : l[i]? = some e) (h : (i : Int).tmod (ev : Int) = 0) : (blkN l ev i).out ++ putV (0 : Int).toNat ++ putX ((keyT e).extract 0 (keyT e).size) ++ putX e.value = (blkN l ev (i + 1)).out := by
 rw [zCF he, blkS, if_pos (zDm.1 h), zPQ]
 rfl
theorem zNe (he : l[i]? = some e) (h : (i : Int).tmod (ev : Int) = 0) : (blkN l ev i).out ++ (putV (0 : Int).toNat ++ putX ((keyT e).extract 0 (keyT e).size) ++ putX e.value) = (blkN l ev (i + 1)).out := by
 rw [← zLP he h, zFu, zFu, zFu]
theorem zJg (he : l[i]? = some e) (h : (i : Int).tmod (ev : Int) = 0) : (blkN l ev i).anew ++ fixV ((blkN l ev i).out.size % 4294967296) = (blkN l ev (i + 1)).anew := by
 rw [zCF he, blkS, if_pos (zDm.1 h)]
theorem zJe (he : l[i]? = some e) (h : (i : Int).tmod (ev : Int) = 0) (hm : (blkN l ev i).many ≤ 1000000) : ((blkN l ev i).many + 1) % 4294967296 = (blkN l ev (i + 1)).many := by
 rw [zCF he, blkS, if_pos (zDm.1 h)]
 show _ = (blkN l ev i).many + 1
 omega
theorem zLO (he : l[i]? = some e) (h : ¬ (i : Int).tmod (ev : Int) = 0) : (blkN l ev i).out ++ putV (zBN (blkN l ev i).ahead (keyT e)) ++ putX ((keyT e).extract (zBN (blkN l ev i).ahead (keyT e)) (keyT e).size) ++ putX e.value = (blkN l ev (i + 1)).out := by
 rw [zCF he, blkS, if_neg (fun q => h (zDm.2 q))]
theorem zNd (he : l[i]? = some e) (h : ¬ (i : Int).tmod (ev : Int) = 0) : (blkN l ev i).out ++ (putV (((zBN (blkN l ev i).ahead (keyT e) : Nat) : Int) : Int).toNat ++ putX ((keyT e).extract (zBN (blkN l ev i).ahead (keyT e)) (keyT e).size) ++ putX e.value) = (blkN l ev (i + 1)).out := by
 rw [← zLO he h, zFu, zFu, zFu]
 rfl
theorem zJf (he : l[i]? = some e) (h : ¬ (i : Int).tmod (ev : Int) = 0) : (blkN l ev i).anew = (blkN l ev (i + 1)).anew := by
 rw [zCF he, blkS, if_neg (fun q => h (zDm.2 q))]
theorem zJd (he : l[i]? = some e) (h : ¬ (i : Int).tmod (ev : Int) = 0) : (blkN l ev i).many = (blkN l ev (i + 1)).many := by
 rw [zCF he, blkS, if_neg (fun q => h (zDm.2 q))]
end
def zBs (l : List Ent) (ev : Nat) : Option ByteArray := if (zBJ l = true ∧ 0 < l.length) ∧ (1 ≤ ev ∧ ev ≤ 16) then (if (blkF l ev).size ≤ 60000 then some (blkF l ev) else none) else none
theorem zDy {l : List Ent} {ev : Nat} (h : zBJ l = false ∨ l.length = 0 ∨ ¬ (1 ≤ ev ∧ ev ≤ 16)) : zBs l ev = none := by
 rw [zBs, if_neg]
 rintro ⟨⟨h1, h2⟩, h3⟩
 rcases h with h | h | h
 · rw [h] at h1; cases h1
 · omega
 · exact h h3
theorem zHo {l : List Ent} {ev : Nat} (h : 60000 < (blkF l ev).size) : zBs l ev = none := by
 rw [zBs]
 split
 · rw [if_neg (by omega)]
 · rfl
theorem zEk {l : List Ent} {ev : Nat} (h1 : zBJ l = true) (h2 : 0 < l.length) (h3 : 1 ≤ ev ∧ ev ≤ 16) (h : (blkF l ev).size ≤ 60000) : zBs l ev = some (blkF l ev) := by
 rw [zBs, if_pos ⟨⟨h1, h2⟩, h3⟩, if_pos h]
end Go.Rl
namespace Go.Rl
open Go.Proofs Go.Proofs.Tryd
set_option maxRecDepth 1000000
set_option maxHeartbeats 2000000
theorem en75 : En Tryd.prog 75 := zAh func75 (by decide) rfl
theorem en33 : En Tryd.prog 33 := zAh func33 (by decide) rfl
theorem en68 : En Tryd.prog 68 := zAh func68 (by decide) rfl
theorem en99 : En Tryd.prog 99 := zAh func99 (by decide) rfl
theorem en27 : En Tryd.prog 27 := zAh func27 (by decide) rfl
theorem en56 : En Tryd.prog 56 := zAh func56 (by decide) rfl
theorem zLh (a b : ByteArray) (ha : a.size ≤ 4000000000000000000) (hb : b.size ≤ 4000000000000000000) : Con Tryd.prog 97 [.one (PV.v (.string a)), .one (PV.v (.string b))] [] [.one (.v (.int .i64 ((zBN a b : Nat) : Int)))] := by
 refine zAR func97 rfl rfl rfl rfl ?_
 refine zAB (zAA rfl (.a rfl rfl .nil) ?_)
 refine zAB (zAA rfl (.a rfl rfl .nil) ?_)
 refine zAB ?_
 refine zAS ?_
 refine zAj (σ := Nat) (fun n => mk [(0, .vs a), (1, .vs b), (5, .vi (n:Int))] [] []) (fun n => (n ≤ a.size ∧ n ≤ b.size) ∧ zEq a b n) (fun n => a.size - n) 0 ⟨⟨Nat.zero_le _, Nat.zero_le _⟩, zIs _ _⟩ (zAJ ⟨rfl, rfl, (zAE (by omega)), trivial⟩ trivial trivial rfl) ?_
 rintro n hG
 replace hG : (n ≤ a.size ∧ n ≤ b.size) ∧ zEq a b n := hG
 obtain ⟨⟨hn1, hn2⟩, hS⟩ := hG
 refine zAB ?_
 refine zAB ?_
 rcases bfc (decide ((n:Int) < (a.size : Int))) with h1 | h1
 ·
  have h1' := h1
  replace h1' := of_decide_eq_false h1'
  refine zAb zBh rfl (.m rfl rfl (.m rfl rfl (.r rfl (zAP rfl rfl underlying9) (.r rfl (zAL (zAt rfl rfl rfl) (zAG h1)) (.m rfl rfl (.not rfl (.not rfl (.not rfl (.not rfl (.r rfl (zAc (t := false) rfl rfl) (.m rfl rfl (.not rfl (.not rfl (.not rfl (.not rfl (.not rfl (.not rfl (.not rfl (.r rfl (zAc (t := false) rfl rfl) .nil))))))))))))))))))) (by kernel_rfl) ?_
  refine zAT (t := false) rfl (fun h => nomatch h) (fun _ => ?_)
  refine zAi ?_
  refine zAB ?_
  refine zAO (s' := mk [(5, .vi (n:Int))] [] []) ?_ ?_
  · exact zAJ ⟨rfl, trivial⟩ trivial trivial rfl
  refine zAA rfl (.m rfl rfl (.a rfl rfl .nil)) ?_
  refine zAI ?_
  exact ends [_] [] (.cons (.tmp (zAE (congrArg Nat.cast (zEZ hS (by omega) (by omega) (.inl (by omega)))).symm)) .nil) (.cons (.one .v (.v _)) .nil) (by decide) trivial
 ·
  have h1' := h1
  replace h1' := of_decide_eq_true h1'
  rcases bfc (decide ((n:Int) < (b.size : Int))) with h2 | h2
  ·
   have h2' := h2
   replace h2' := of_decide_eq_false h2'
   refine zAb zBh rfl (.m rfl rfl (.m rfl rfl (.r rfl (zAP rfl rfl underlying9) (.r rfl (zAL (zAt rfl rfl rfl) (zAG h1)) (.m rfl rfl (.m rfl rfl (.m rfl rfl (.r rfl (zAP rfl rfl underlying9) (.r rfl (zAL (zAt rfl rfl rfl) (zAG h2)) (.r rfl (zAc (t := true) rfl rfl) (.m rfl rfl (.not rfl (.not rfl (.not rfl (.not rfl (.not rfl (.not rfl (.not rfl (.r rfl (zAc (t := false) rfl rfl) .nil))))))))))))))))))) (by kernel_rfl) ?_
   refine zAT (t := false) rfl (fun h => nomatch h) (fun _ => ?_)
   refine zAi ?_
   refine zAB ?_
   refine zAO (s' := mk [(5, .vi (n:Int))] [] []) ?_ ?_
   · exact zAJ ⟨rfl, trivial⟩ trivial trivial rfl
   refine zAA rfl (.m rfl rfl (.a rfl rfl .nil)) ?_
   refine zAI ?_
   exact ends [_] [] (.cons (.tmp (zAE (congrArg Nat.cast (zEZ hS (by omega) (by omega) (.inr (.inl (by omega))))).symm)) .nil) (.cons (.one .v (.v _)) .nil) (by decide) trivial
  ·
   have h2' := h2
   replace h2' := of_decide_eq_true h2'
   refine zAb zBh rfl (.m rfl rfl (.m rfl rfl (.r rfl (zAP rfl rfl underlying9) (.r rfl (zAL (zAt rfl rfl rfl) (zAG h1)) (.m rfl rfl (.m rfl rfl (.m rfl rfl (.r rfl (zAP rfl rfl underlying9) (.r rfl (zAL (zAt rfl rfl rfl) (zAG h2)) (.r rfl (zAc (t := true) rfl rfl) (.m rfl rfl (.m rfl rfl (.m rfl rfl (.r rfl (zBX rfl rfl rfl underlying9 (by omega) (zCG (by omega))) (.m rfl rfl (.m rfl rfl (.r rfl (zBX rfl rfl rfl underlying9 (by omega) (zCG (by omega))) (.r rfl (zBB rfl rfl rfl) (.r rfl (zAc (t := true) rfl rfl) .nil))))))))))))))))))) (by kernel_rfl) ?_
   refine zAT (t := decide (((a[n]?.getD 0).toNat : Int) = ((b[n]?.getD 0).toNat : Int))) rfl (fun h3 => ?_) (fun h3 => ?_)
   ·
    replace h3 := of_decide_eq_true h3
    refine zAK ?_
    refine zAS ?_
    refine zAO (s' := mk [(0, .vs a), (1, .vs b), (5, .vi (n:Int)), (11, .vi (n:Int)), (12, .vs b), (13, .vi (b.size : Int)), (14, .vb true), (17, .vs a), (18, .vi (n:Int)), (19, .p none (.v (.int .u8 ((a[n]?.getD 0).toNat : Int)))), (20, .vs b), (21, .vi (n:Int)), (22, .p none (.v (.int .u8 ((b[n]?.getD 0).toNat : Int)))), (23, .vb (decide (((a[n]?.getD 0).toNat : Int) = ((b[n]?.getD 0).toNat : Int))))] [] []) ?_ ?_
    · exact zAJ ⟨rfl, rfl, rfl, rfl, rfl, rfl, rfl, rfl, rfl, rfl, rfl, rfl, rfl, rfl, trivial⟩ trivial trivial rfl
    refine zAA rfl (.m rfl rfl (.r rfl (zAW rfl rfl rfl (by omega)) (.a rfl rfl .nil))) ?_
    refine nxt (Q := fun _ _ => False) (z := n) (n + 1) ?_ ?_ ?_
    ·
     show ((n + 1) ≤ a.size ∧ (n + 1) ≤ b.size) ∧ zEq a b (n + 1)
     exact ⟨⟨by omega, by omega⟩, zIt hS (by omega) (by omega) (by assumption)⟩
    ·
     show a.size - (n + 1) < a.size - n
     omega
    · exact zAJ ⟨rfl, rfl, (zAE (by omega)), trivial⟩ trivial trivial rfl
   ·
    replace h3 := of_decide_eq_false h3
    refine zAi ?_
    refine zAB ?_
    refine zAO (s' := mk [(5, .vi (n:Int))] [] []) ?_ ?_
    · exact zAJ ⟨rfl, trivial⟩ trivial trivial rfl
    refine zAA rfl (.m rfl rfl (.a rfl rfl .nil)) ?_
    refine zAI ?_
    exact ends [_] [] (.cons (.tmp (zAE (congrArg Nat.cast (zEZ hS (by omega) (by omega) (.inr (.inr ⟨by omega, by omega, by assumption⟩)))).symm)) .nil) (.cons (.one .v (.v _)) .nil) (by decide) trivial
theorem zJ2 (a b : ByteArray) (ha : a.size ≤ 4000000000000000000) (hb : b.size ≤ 4000000000000000000) : Con Tryd.prog 54 [.one (PV.v (.string a)), .one (PV.v (.string b))] [] [.one (.v (.int .i64 ((zBN a b : Nat) : Int)))] := by
 refine zAR func54 rfl rfl rfl rfl ?_
 refine zAB (zAA rfl (.a rfl rfl .nil) ?_)
 refine zAB (zAA rfl (.a rfl rfl .nil) ?_)
 refine zAB ?_
 refine zAS ?_
 refine zAj (σ := Nat) (fun n => mk [(0, .vs a), (1, .vs b), (5, .vi (n:Int))] [] []) (fun n => (n ≤ a.size ∧ n ≤ b.size) ∧ zEq a b n) (fun n => a.size - n) 0 ⟨⟨Nat.zero_le _, Nat.zero_le _⟩, zIs _ _⟩ (zAJ ⟨rfl, rfl, (zAE (by omega)), trivial⟩ trivial trivial rfl) ?_
 rintro n hG
 replace hG : (n ≤ a.size ∧ n ≤ b.size) ∧ zEq a b n := hG
 obtain ⟨⟨hn1, hn2⟩, hS⟩ := hG
 refine zAB ?_
 refine zAB ?_
 rcases bfc (decide ((n:Int) < (a.size : Int))) with h1 | h1
 ·
  have h1' := h1
  replace h1' := of_decide_eq_false h1'
  refine zAb zBh rfl (.m rfl rfl (.m rfl rfl (.r rfl (zAP rfl rfl underlying9) (.r rfl (zAL (zAt rfl rfl rfl) (zAG h1)) (.m rfl rfl (.not rfl (.not rfl (.not rfl (.not rfl (.r rfl (zAc (t := false) rfl rfl) (.m rfl rfl (.not rfl (.not rfl (.not rfl (.not rfl (.not rfl (.not rfl (.not rfl (.r rfl (zAc (t := false) rfl rfl) .nil))))))))))))))))))) (by kernel_rfl) ?_
  refine zAT (t := false) rfl (fun h => nomatch h) (fun _ => ?_)
  refine zAi ?_
  refine zAB ?_
  refine zAO (s' := mk [(5, .vi (n:Int))] [] []) ?_ ?_
  · exact zAJ ⟨rfl, trivial⟩ trivial trivial rfl
  refine zAA rfl (.m rfl rfl (.a rfl rfl .nil)) ?_
  refine zAI ?_
  exact ends [_] [] (.cons (.tmp (zAE (congrArg Nat.cast (zEZ hS (by omega) (by omega) (.inl (by omega)))).symm)) .nil) (.cons (.one .v (.v _)) .nil) (by decide) trivial
 ·
  have h1' := h1
  replace h1' := of_decide_eq_true h1'
  rcases bfc (decide ((n:Int) < (b.size : Int))) with h2 | h2
  ·
   have h2' := h2
   replace h2' := of_decide_eq_false h2'
   refine zAb zBh rfl (.m rfl rfl (.m rfl rfl (.r rfl (zAP rfl rfl underlying9) (.r rfl (zAL (zAt rfl rfl rfl) (zAG h1)) (.m rfl rfl (.m rfl rfl (.m rfl rfl (.r rfl (zAP rfl rfl underlying9) (.r rfl (zAL (zAt rfl rfl rfl) (zAG h2)) (.r rfl (zAc (t := true) rfl rfl) (.m rfl rfl (.not rfl (.not rfl (.not rfl (.not rfl (.not rfl (.not rfl (.not rfl (.r rfl (zAc (t := false) rfl rfl) .nil))))))))))))))))))) (by kernel_rfl) ?_
   refine zAT (t := false) rfl (fun h => nomatch h) (fun _ => ?_)
   refine zAi ?_
   refine zAB ?_
   refine zAO (s' := mk [(5, .vi (n:Int))] [] []) ?_ ?_
   · exact zAJ ⟨rfl, trivial⟩ trivial trivial rfl
   refine zAA rfl (.m rfl rfl (.a rfl rfl .nil)) ?_
   refine zAI ?_
   exact ends [_] [] (.cons (.tmp (zAE (congrArg Nat.cast (zEZ hS (by omega) (by omega) (.inr (.inl (by omega))))).symm)) .nil) (.cons (.one .v (.v _)) .nil) (by decide) trivial
  ·
   have h2' := h2
   replace h2' := of_decide_eq_true h2'
   refine zAb zBh rfl (.m rfl rfl (.m rfl rfl (.r rfl (zAP rfl rfl underlying9) (.r rfl (zAL (zAt rfl rfl rfl) (zAG h1)) (.m rfl rfl (.m rfl rfl (.m rfl rfl (.r rfl (zAP rfl rfl underlying9) (.r rfl (zAL (zAt rfl rfl rfl) (zAG h2)) (.r rfl (zAc (t := true) rfl rfl) (.m rfl rfl (.m rfl rfl (.m rfl rfl (.r rfl (zBX rfl rfl rfl underlying9 (by omega) (zCG (by omega))) (.m rfl rfl (.m rfl rfl (.r rfl (zBX rfl rfl rfl underlying9 (by omega) (zCG (by omega))) (.r rfl (zBB rfl rfl rfl) (.r rfl (zAc (t := true) rfl rfl) .nil))))))))))))))))))) (by kernel_rfl) ?_
   refine zAT (t := decide (((a[n]?.getD 0).toNat : Int) = ((b[n]?.getD 0).toNat : Int))) rfl (fun h3 => ?_) (fun h3 => ?_)
   ·
    replace h3 := of_decide_eq_true h3
    refine zAK ?_
    refine zAS ?_
    refine zAO (s' := mk [(0, .vs a), (1, .vs b), (5, .vi (n:Int)), (11, .vi (n:Int)), (12, .vs b), (13, .vi (b.size : Int)), (14, .vb true), (17, .vs a), (18, .vi (n:Int)), (19, .p none (.v (.int .u8 ((a[n]?.getD 0).toNat : Int)))), (20, .vs b), (21, .vi (n:Int)), (22, .p none (.v (.int .u8 ((b[n]?.getD 0).toNat : Int)))), (23, .vb (decide (((a[n]?.getD 0).toNat : Int) = ((b[n]?.getD 0).toNat : Int))))] [] []) ?_ ?_
    · exact zAJ ⟨rfl, rfl, rfl, rfl, rfl, rfl, rfl, rfl, rfl, rfl, rfl, rfl, rfl, rfl, trivial⟩ trivial trivial rfl
    refine zAA rfl (.m rfl rfl (.r rfl (zAW rfl rfl rfl (by omega)) (.a rfl rfl .nil))) ?_
    refine nxt (Q := fun _ _ => False) (z := n) (n + 1) ?_ ?_ ?_
    ·
     show ((n + 1) ≤ a.size ∧ (n + 1) ≤ b.size) ∧ zEq a b (n + 1)
     exact ⟨⟨by omega, by omega⟩, zIt hS (by omega) (by omega) (by assumption)⟩
    ·
     show a.size - (n + 1) < a.size - n
     omega
    · exact zAJ ⟨rfl, rfl, (zAE (by omega)), trivial⟩ trivial trivial rfl
   ·
    replace h3 := of_decide_eq_false h3
    refine zAi ?_
    refine zAB ?_
    refine zAO (s' := mk [(5, .vi (n:Int))] [] []) ?_ ?_
    · exact zAJ ⟨rfl, trivial⟩ trivial trivial rfl
    refine zAA rfl (.m rfl rfl (.a rfl rfl .nil)) ?_
    refine zAI ?_
    exact ends [_] [] (.cons (.tmp (zAE (congrArg Nat.cast (zEZ hS (by omega) (by omega) (.inr (.inr ⟨by omega, by omega, by assumption⟩)))).symm)) .nil) (.cons (.one .v (.v _)) .nil) (by decide) trivial
theorem zE2 (e : Ent) (hk : zBp e.user e.seq e.kind = true) : Con Tryd.prog 69 [.agg [PV.v (.string e.user), PV.v (.int .i64 e.seq), PV.v (.int .i64 e.kind)]] [] [.one (.v (.string (keyT e)))] := by
 refine zAR func69 rfl rfl rfl rfl ?_
 have hkn := zEg hk
 have hf1 := zAU (keyN e % 4294967296)
 have hf2 := zAU ((keyN e / 2 ^ 32) % 4294967296)
 have hf3 := zAY e.user (fixV (keyN e % 4294967296))
 refine zAB (zAA rfl (.run [] [1] rfl (zB9 rfl 1 rfl rfl (by decide) rfl (by decide)) (.a rfl rfl .nil)) ?_)
 refine zAB (zAA rfl (.r rfl (zAC rfl rfl underlying56 rfl sizeOf2 (by decide)) (.r rfl (zAD rfl rfl rfl isAgg2 rfl) (.r rfl (zCj rfl rfl rfl (by omega)) (.r rfl (zAC rfl rfl underlying56 rfl sizeOf2 (by decide)) (.r rfl (zAD rfl rfl rfl isAgg2 rfl) (.r rfl (zAW rfl rfl rfl (by omega)) (.r rfl (zAL (zD9 rfl rfl underlying2 underlying53) ((show (AV.p none (.v (.int .u64 (IntKind.u64.wrap ((2 * e.seq) + e.kind))))) = AV.p none (.v (.int .u64 ((keyN e : Nat) : Int))) from zAE (by rw [keyN, IntKind.wrap_u64]; omega)))) (.a rfl rfl .nil)))))))) ?_)
 refine zAB ?_
 refine zAO (s' := mk [(1, .ptr 1 0), (3, .p none (.v (.int .u64 ((keyN e : Nat) : Int))))] [(1, [.vs e.user, .vi e.seq, .vi e.kind])] []) ?_ ?_
 · exact zAJ ⟨rfl, rfl, trivial⟩ ⟨rfl, trivial⟩ trivial rfl
 refine zAb zBh rfl (.r rfl (zAC rfl rfl underlying56 rfl sizeOf9 (by decide)) (.r rfl (zAD rfl rfl rfl isAgg9 rfl) (.m rfl rfl (.r rfl (zAe (k' := .u32) 4294967296 rfl (keyN e) rfl rfl rfl underlying53 underlying67) (.run [1500] [] rfl (zAF rfl 1500 (X := []) en75 rfl (.val nod) (.cons (.one (.bor .v)) .nil) (by decide) all_nil .nil (zCJ ((keyN e) % 4294967296)) rfl rfl (nle rfl)) (.r rfl (zAu rfl rfl rfl (by omega)) (.m rfl rfl (.r rfl (zBg (keyN e) 32 rfl rfl rfl (by decide)) (.r rfl (zAe (k' := .u32) 4294967296 rfl ((keyN e) / 2 ^ 32) rfl rfl rfl underlying53 underlying67) (.run [2000] [] rfl (zAF rfl 2000 (X := []) en75 rfl (.val nod) (.cons (.one (.bor .v)) .nil) (by decide) all_nil .nil (zCJ (((keyN e) / 2 ^ 32) % 4294967296)) rfl rfl (nle rfl)) (.r rfl (zAu rfl rfl rfl (by omega)) (.a rfl rfl .nil)))))))))))) (by kernel_rfl) ?_
 refine zAI ?_
 exact ends [_] [] (.cons (.tmp rfl) .nil) (.cons (.one .v (.v _)) .nil) (by decide) trivial
theorem zEJ (e : Ent) (hk : zBp e.user e.seq e.kind = true) : Con Tryd.prog 28 [.agg [PV.v (.string e.user), PV.v (.int .i64 e.seq), PV.v (.int .i64 e.kind)]] [] [.one (.v (.string (keyT e)))] := by
 refine zAR func28 rfl rfl rfl rfl ?_
 have hkn := zEg hk
 have hf1 := zAU (keyN e % 4294967296)
 have hf2 := zAU ((keyN e / 2 ^ 32) % 4294967296)
 have hf3 := zAY e.user (fixV (keyN e % 4294967296))
 refine zAB (zAA rfl (.run [] [1] rfl (zB9 rfl 1 rfl rfl (by decide) rfl (by decide)) (.a rfl rfl .nil)) ?_)
 refine zAB ?_
 refine zAB (zAA rfl (.r rfl (zAZ rfl rfl rfl isAgg56 sizeOf56 (nle rfl)) (.run [500] [] rfl (zAF rfl 500 (X := []) en55 rfl (.val nod) (.cons (.agg (.cons (.bor .v) (.cons (.bor .v) (.cons (.bor .v) .nil)))) .nil) (by decide) all_nil .nil (zBz e) rfl rfl (nle rfl)) (.r rfl (zAa (b := zBp e.user e.seq e.kind) rfl rfl) .nil))) ?_)
 refine zAT (t := (!(zBp e.user e.seq e.kind))) rfl (fun h1 => ?_) (fun h1 => ?_)
 ·
  replace h1 : (zBp e.user e.seq e.kind) = false := zAm h1
  rw [hk] at h1; cases h1
 ·
  replace h1 : (zBp e.user e.seq e.kind) = true := zAn h1
  refine zAK ?_
  refine zAB (zAA rfl (.r rfl (zAC rfl rfl underlying56 rfl sizeOf2 (by decide)) (.r rfl (zAD rfl rfl rfl isAgg2 rfl) (.r rfl (zCj rfl rfl rfl (by omega)) (.r rfl (zAC rfl rfl underlying56 rfl sizeOf2 (by decide)) (.r rfl (zAD rfl rfl rfl isAgg2 rfl) (.r rfl (zAW rfl rfl rfl (by omega)) (.r rfl (zAL (zD9 rfl rfl underlying2 underlying53) ((show (AV.p none (.v (.int .u64 (IntKind.u64.wrap ((2 * e.seq) + e.kind))))) = AV.p none (.v (.int .u64 ((keyN e : Nat) : Int))) from zAE (by rw [keyN, IntKind.wrap_u64]; omega)))) (.a rfl rfl .nil)))))))) ?_)
  refine zAB ?_
  refine zAO (s' := mk [(1, .ptr 1 0), (3, .p none (.v (.int .u64 ((keyN e : Nat) : Int))))] [(1, [.vs e.user, .vi e.seq, .vi e.kind])] []) ?_ ?_
  · exact zAJ ⟨rfl, rfl, trivial⟩ ⟨rfl, trivial⟩ trivial rfl
  refine zAb zBh rfl (.r rfl (zAC rfl rfl underlying56 rfl sizeOf9 (by decide)) (.r rfl (zAD rfl rfl rfl isAgg9 rfl) (.m rfl rfl (.r rfl (zAe (k' := .u32) 4294967296 rfl (keyN e) rfl rfl rfl underlying53 underlying67) (.run [1800] [] rfl (zAF rfl 1800 (X := []) en33 rfl (.val nod) (.cons (.one (.bor .v)) .nil) (by decide) all_nil .nil (zBo ((keyN e) % 4294967296)) rfl rfl (nle rfl)) (.r rfl (zAu rfl rfl rfl (by omega)) (.m rfl rfl (.r rfl (zBg (keyN e) 32 rfl rfl rfl (by decide)) (.r rfl (zAe (k' := .u32) 4294967296 rfl ((keyN e) / 2 ^ 32) rfl rfl rfl underlying53 underlying67) (.run [2300] [] rfl (zAF rfl 2300 (X := []) en33 rfl (.val nod) (.cons (.one (.bor .v)) .nil) (by decide) all_nil .nil (zBo (((keyN e) / 2 ^ 32) % 4294967296)) rfl rfl (nle rfl)) (.r rfl (zAu rfl rfl rfl (by omega)) (.a rfl rfl .nil)))))))))))) (by kernel_rfl) ?_
  refine zAI ?_
  exact ends [_] [] (.cons (.tmp rfl) .nil) (.cons (.one .v (.v _)) .nil) (by decide) trivial
theorem zEv (s : ByteArray) (hs : s.size ≤ 3000000000000000000) : Con Tryd.prog 70 [.one (PV.v (.string s))] [] [.one (.v (.string (secF s)))] := by
 refine zAR func70 rfl rfl rfl rfl ?_
 refine zAB (zAA rfl (.a rfl rfl .nil) ?_)
 refine zAB ?_
 have hx := zBT (s := s) (by omega)
 have hf := zAU (crcF s)
 refine zAA rfl (.m rfl rfl (.run [400] [] rfl (zAF rfl 400 (X := []) en68 rfl (.val nod) (.cons (.one (.bor .v)) .nil) (by decide) all_nil .nil (zCW s (by omega)) rfl rfl (nle rfl)) (.m rfl rfl (.run [600] [] rfl (zAF rfl 600 (X := []) en99 rfl (.val nod) (.cons (.one (.bor .v)) .nil) (by decide) all_nil .nil (zKQ s (by omega)) rfl rfl (nle rfl)) (.run [700] [] rfl (zAF rfl 700 (X := []) en75 rfl (.val nod) (.cons (.one (.bor .v)) .nil) (by decide) all_nil .nil (zCJ (crcF s)) rfl rfl (nle rfl)) (.r rfl (zAu rfl rfl rfl (by omega)) (.a rfl rfl .nil))))))) ?_
 refine zAI ?_
 exact ends [_] [] (.cons (.tmp rfl) .nil) (.cons (.one .v (.v _)) .nil) (by decide) trivial
theorem zCp (s : ByteArray) (hs : s.size ≤ 3000000000000000000) : Con Tryd.prog 29 [.one (PV.v (.string s))] [] [.one (.v (.string (secF s)))] := by
 refine zAR func29 rfl rfl rfl rfl ?_
 refine zAB (zAA rfl (.a rfl rfl .nil) ?_)
 refine zAB ?_
 have hx := zBT (s := s) (by omega)
 have hf := zAU (crcF s)
 refine zAA rfl (.m rfl rfl (.run [400] [] rfl (zAF rfl 400 (X := []) en27 rfl (.val nod) (.cons (.one (.bor .v)) .nil) (by decide) all_nil .nil (zCI s (by omega)) rfl rfl (nle rfl)) (.m rfl rfl (.run [600] [] rfl (zAF rfl 600 (X := []) en56 rfl (.val nod) (.cons (.one (.bor .v)) .nil) (by decide) all_nil .nil (zKm s (by omega)) rfl rfl (nle rfl)) (.run [700] [] rfl (zAF rfl 700 (X := []) en33 rfl (.val nod) (.cons (.one (.bor .v)) .nil) (by decide) all_nil .nil (zBo (crcF s)) rfl rfl (nle rfl)) (.r rfl (zAu rfl rfl rfl (by omega)) (.a rfl rfl .nil))))))) ?_
 refine zAI ?_
 exact ends [_] [] (.cons (.tmp rfl) .nil) (.cons (.one .v (.v _)) .nil) (by decide) trivial
end Go.Rl
namespace Go.Rl
open Go.Proofs Go.Proofs.Tryd
set_option maxRecDepth 1000000
set_option maxHeartbeats 2000000
theorem en69 : En Tryd.prog 69 := zAh func69 (by decide) rfl
theorem en67 : En Tryd.prog 67 := zAh func67 (by decide) rfl
theorem en97 : En Tryd.prog 97 := zAh func97 (by decide) rfl
theorem zJc (l : List Ent) (ev : Nat) (hl : ∀ e ∈ l, zBt e = true) (hn : l.length ≤ 400) (hev : 1 ≤ ev ∧ ev ≤ 16) : Con Tryd.prog 66 [.one (PV.sl false 4 (pvE l)), .one (PV.v (.int .i64 (ev:Int)))] [] [.one (.v (.string (blkF l ev)))] := by
 refine zAR func66 rfl rfl rfl rfl ?_
 have hle := zAf l
 refine zAB (zAA rfl (.a rfl rfl .nil) ?_)
 refine zAB (zAA rfl (.a rfl rfl (.a rfl rfl (.a rfl rfl (.a rfl rfl .nil)))) ?_)
 refine zAB ?_
 refine zAB (zAA rfl (.m rfl rfl (.r rfl (zAp rfl rfl underlying28) (.m rfl rfl .nil))) ?_)
 refine zAS ?_
 refine zAj (σ := Nat) (fun i => mk [(1, .vi (ev:Int)), (5, .vs ((blkN l ev i).out)), (6, .vs ((blkN l ev i).ahead)), (7, .vs ((blkN l ev i).anew)), (8, .p none (.v (.int .u32 (((blkN l ev i).many : Nat) : Int)))), (13, .p none (.sl false 4 (pvE l))), (14, .vi ((pvE l).length : Int)), (15, .vi (i:Int))] [] []) (fun i => i ≤ l.length) (fun i => l.length - i) 0 (by simp) (zAJ ⟨rfl, (zA3 (by rfl)), (zA3 (by rfl)), (zA3 (by rfl)), (zAE (by rfl)), rfl, rfl, (zAE (by omega)), trivial⟩ trivial trivial rfl) ?_
 rintro i hG
 replace hG : i ≤ l.length := hG
 have hb := zG4 hl (ev := ev) i (by omega)
 have hb1 := hb.out
 have hb2 := hb.anew
 have hb3 := hb.ahead
 have hb4 := hb.many
 refine zAB (zAA rfl (.r rfl (zAt rfl rfl rfl) .nil) ?_)
 refine zAB ?_
 refine zAT (t := decide ((i:Int) < ((pvE l).length : Int))) rfl (fun h1 => ?_) (fun h1 => ?_)
 ·
  replace h1 := of_decide_eq_true h1
  refine zAK ?_
  refine zAB ?_
  refine zAS ?_
  refine zAB ?_
  obtain ⟨e, he⟩ : ∃ e, l[i]? = some e := ⟨_, List.getElem?_eq_getElem (by omega)⟩
  have hen := hl e (List.mem_of_getElem? he)
  have hnn := zDh hen
  have hx1 := zBT (s := e.value) (by omega)
  have hx0 := zC6 (keyT e) 0
  have hx2 := zBT (s := (keyT e).extract 0 (keyT e).size) (by omega)
  have hx3 := zC6 (keyT e) (zBN (blkN l ev i).ahead (keyT e))
  have hx4 := zBT (s := (keyT e).extract (zBN (blkN l ev i).ahead (keyT e)) (keyT e).size) (by omega)
  have hx5 := zDp (blkN l ev i).ahead (keyT e)
  have hv0 := zA5 (n := (0 : Int).toNat) (by decide)
  have hv1 := zA5 (n := (((zBN (blkN l ev i).ahead (keyT e) : Nat) : Int) : Int).toNat) (by omega)
  have hv2 := zA5 (n := zBN (blkN l ev i).ahead (keyT e)) (by omega)
  have hv3 := zA5 (n := 0) (by decide)
  refine zAA rfl (.m rfl rfl (.r rfl (zAq rfl rfl rfl underlying28 sizeOf58 rfl (by omega) (zBZ he)) (.r rfl (zBY rfl rfl isAgg58 sizeOf58 (nle rfl)) (.run [] [10] rfl (zBA rfl 10 zEH rfl (by decide) rfl (by decide)) (.a rfl rfl (.r rfl (zAN rfl rfl rfl rfl rfl sizeOf58 rfl (nle rfl)) .nil)))))) ?_
  refine zAB (zAA rfl (.r rfl (zAC rfl rfl underlying58 rfl sizeOf56 (by decide)) (.r rfl (zAZ rfl rfl rfl isAgg56 sizeOf56 (nle rfl)) (.run [2200] [] rfl (zAF rfl 2200 (X := []) en69 rfl (.val nod) (.cons (.agg (.cons (.bor .v) (.cons (.bor .v) (.cons (.bor .v) .nil)))) .nil) (by decide) all_nil .nil (zE2 e (zCE hen)) rfl rfl (nle rfl)) (.a rfl rfl (.a rfl rfl .nil))))) ?_)
  refine zAB ?_
  refine zAB (zAA rfl (.m rfl rfl (.m rfl rfl (.r rfl (zIo rfl rfl rfl (by omega)) (.r rfl (zBB rfl rfl rfl) .nil)))) ?_)
  refine zAT (t := decide (((i:Int).tmod (ev:Int)) = 0)) rfl (fun h2 => ?_) (fun h2 => ?_)
  ·
   replace h2 := of_decide_eq_true h2
   refine zAB ?_
   refine zAO (s' := mk [(1, .vi (ev:Int)), (5, .vs ((blkN l ev i).out)), (7, .vs ((blkN l ev i).anew)), (8, .p none (.v (.int .u32 (((blkN l ev i).many : Nat) : Int)))), (10, .ptr 10 0), (11, .vs (keyT e)), (12, .vi 0), (13, .p none (.sl false 4 (pvE l))), (14, .vi ((pvE l).length : Int)), (15, .vi (i:Int))] [(10, [.vs e.user, .vi e.seq, .vi e.kind, .vs e.value])] []) ?_ ?_
   · exact zAJ ⟨rfl, rfl, rfl, rfl, rfl, rfl, rfl, rfl, rfl, rfl, trivial⟩ ⟨rfl, trivial⟩ trivial rfl
   refine zAA rfl (.m rfl rfl (.m rfl rfl (.r rfl (zAP rfl rfl underlying9) (.r rfl (zAe (k' := .u32) 4294967296 rfl (((blkN l ev i).out).size) rfl rfl rfl underlying3 underlying67) (.run [3100] [] rfl (zAF rfl 3100 (X := []) en75 rfl (.val nod) (.cons (.one (.bor .v)) .nil) (by decide) all_nil .nil (zCJ ((((blkN l ev i).out).size) % 4294967296)) rfl rfl (nle rfl)) (.r rfl (zAu rfl rfl rfl (by first | omega | (simp only [zAY, zAU]; omega))) (.a rfl rfl .nil))))))) ?_
   refine zAA rfl (.m rfl rfl (.r rfl (zFW (k := .u32) 4294967296 rfl ((blkN l ev i).many) 1 rfl rfl rfl rfl) (.a rfl rfl .nil))) ?_
   refine zAB ?_
   refine zAO (s' := mk [(1, .vi (ev:Int)), (5, .vs ((blkN l ev i).out)), (7, .vs (((blkN l ev i).anew) ++ (fixV ((((blkN l ev i).out).size) % 4294967296)))), (8, .p none (.v (.int .u32 (((((blkN l ev i).many) + 1) % 4294967296 : Nat) : Int)))), (10, .ptr 10 0), (11, .vs (keyT e)), (12, .vi 0), (13, .p none (.sl false 4 (pvE l))), (14, .vi ((pvE l).length : Int)), (15, .vi (i:Int))] [(10, [.vs e.user, .vi e.seq, .vi e.kind, .vs e.value])] []) ?_ ?_
   · exact zAJ ⟨rfl, rfl, rfl, rfl, rfl, rfl, rfl, rfl, rfl, rfl, trivial⟩ ⟨rfl, trivial⟩ trivial rfl
   refine zAb zBh rfl (.m rfl rfl (.m rfl rfl (.run [4000] [] rfl (zAF rfl 4000 (X := []) en67 rfl (.val nod) (.cons (.one (.bor .v)) .nil) (by decide) all_nil .nil (zCD 0 (by omega) (by omega)) rfl rfl (nle rfl)) (.m rfl rfl (.m rfl rfl (.r rfl (zA0 rfl rfl underlying9 (.at_ rfl (show (0 : Int) = ((0 : Nat) : Int) from rfl)) .no (by omega) (Nat.le_refl _)) (.run [4400] [] rfl (zAF rfl 4400 (X := []) en68 rfl (.val nod) (.cons (.one (.bor .v)) .nil) (by decide) all_nil .nil (zCW ((keyT e).extract 0 ((keyT e).size)) (by omega)) rfl rfl (nle rfl)) (.r rfl (zAu rfl rfl rfl (by first | omega | (simp only [zAY, zAU]; omega))) (.r rfl (zAC rfl rfl underlying58 rfl sizeOf9 (by decide)) (.r rfl (zAD rfl rfl rfl isAgg9 rfl) (.run [4800] [] rfl (zAF rfl 4800 (X := []) en68 rfl (.val nod) (.cons (.one (.bor .v)) .nil) (by decide) all_nil .nil (zCW e.value (by omega)) rfl rfl (nle rfl)) (.r rfl (zAu rfl rfl rfl (by first | omega | (simp only [zAY, zAU]; omega))) (.r rfl (zAu rfl rfl rfl (by first | omega | (simp only [zAY, zAU]; omega))) (.a rfl rfl .nil)))))))))))))) (by kernel_rfl) ?_
   refine zAA rfl (.m rfl rfl (.a rfl rfl .nil)) ?_
   refine zAO (s' := mk [(1, .vi (ev:Int)), (5, .vs (((blkN l ev i).out) ++ (((putV (0 : Int).toNat) ++ (putX ((keyT e).extract 0 ((keyT e).size)))) ++ (putX e.value)))), (6, .vs (keyT e)), (7, .vs (((blkN l ev i).anew) ++ (fixV ((((blkN l ev i).out).size) % 4294967296)))), (8, .p none (.v (.int .u32 (((((blkN l ev i).many) + 1) % 4294967296 : Nat) : Int)))), (13, .p none (.sl false 4 (pvE l))), (14, .vi ((pvE l).length : Int)), (15, .vi (i:Int))] [] []) ?_ ?_
   · exact zAJ ⟨rfl, rfl, rfl, rfl, rfl, rfl, rfl, rfl, trivial⟩ trivial trivial rfl
   refine zAA rfl (.r rfl (zAW rfl rfl rfl (by omega)) (.m rfl rfl .nil)) ?_
   refine nxt (Q := fun _ _ => False) (z := i) (i + 1) ?_ ?_ ?_
   ·
    show (i + 1) ≤ l.length
    omega
   ·
    show l.length - (i + 1) < l.length - i
    omega
   · exact zAJ ⟨rfl, (zA3 (by exact zNe he h2)), (zA3 (by exact zFQ he)), (zA3 (by exact zJg he h2)), (zAE (by exact congrArg Nat.cast (zJe he h2 (by omega)))), rfl, rfl, (zAE (by omega)), trivial⟩ trivial trivial rfl
  ·
   replace h2 := of_decide_eq_false h2
   refine zAO (s' := mk [(1, .vi (ev:Int)), (5, .vs ((blkN l ev i).out)), (6, .vs ((blkN l ev i).ahead)), (7, .vs ((blkN l ev i).anew)), (8, .p none (.v (.int .u32 (((blkN l ev i).many : Nat) : Int)))), (10, .ptr 10 0), (11, .vs (keyT e)), (13, .p none (.sl false 4 (pvE l))), (14, .vi ((pvE l).length : Int)), (15, .vi (i:Int))] [(10, [.vs e.user, .vi e.seq, .vi e.kind, .vs e.value])] []) ?_ ?_
   · exact zAJ ⟨rfl, rfl, rfl, rfl, rfl, rfl, rfl, rfl, rfl, rfl, trivial⟩ ⟨rfl, trivial⟩ trivial rfl
   refine zAA rfl (.m rfl rfl (.m rfl rfl (.run [3700] [] rfl (zAF rfl 3700 (X := []) en97 rfl (.val nod) (.cons (.one (.bor .v)) (.cons (.one (.bor .v)) .nil)) (by decide) all_nil .nil (zLh ((blkN l ev i).ahead) (keyT e) (by omega) (by omega)) rfl rfl (nle rfl)) (.a rfl rfl .nil)))) ?_
   refine zAB ?_
   refine zAO (s' := mk [(1, .vi (ev:Int)), (5, .vs ((blkN l ev i).out)), (7, .vs ((blkN l ev i).anew)), (8, .p none (.v (.int .u32 (((blkN l ev i).many : Nat) : Int)))), (10, .ptr 10 0), (11, .vs (keyT e)), (12, .vi ((zBN ((blkN l ev i).ahead) (keyT e) : Nat) : Int)), (13, .p none (.sl false 4 (pvE l))), (14, .vi ((pvE l).length : Int)), (15, .vi (i:Int))] [(10, [.vs e.user, .vi e.seq, .vi e.kind, .vs e.value])] []) ?_ ?_
   · exact zAJ ⟨rfl, rfl, rfl, rfl, rfl, rfl, rfl, rfl, rfl, rfl, trivial⟩ ⟨rfl, trivial⟩ trivial rfl
   refine zAb zBh rfl (.m rfl rfl (.m rfl rfl (.run [4000] [] rfl (zAF rfl 4000 (X := []) en67 rfl (.val nod) (.cons (.one (.bor .v)) .nil) (by decide) all_nil .nil (zCD ((zBN ((blkN l ev i).ahead) (keyT e) : Nat) : Int) (by omega) (by omega)) rfl rfl (nle rfl)) (.m rfl rfl (.m rfl rfl (.r rfl (zA0 rfl rfl underlying9 (.at_ rfl rfl) .no (by omega) (Nat.le_refl _)) (.run [4400] [] rfl (zAF rfl 4400 (X := []) en68 rfl (.val nod) (.cons (.one (.bor .v)) .nil) (by decide) all_nil .nil (zCW ((keyT e).extract (zBN ((blkN l ev i).ahead) (keyT e)) ((keyT e).size)) (by omega)) rfl rfl (nle rfl)) (.r rfl (zAu rfl rfl rfl (by first | omega | (simp only [zAY, zAU]; omega))) (.r rfl (zAC rfl rfl underlying58 rfl sizeOf9 (by decide)) (.r rfl (zAD rfl rfl rfl isAgg9 rfl) (.run [4800] [] rfl (zAF rfl 4800 (X := []) en68 rfl (.val nod) (.cons (.one (.bor .v)) .nil) (by decide) all_nil .nil (zCW e.value (by omega)) rfl rfl (nle rfl)) (.r rfl (zAu rfl rfl rfl (by first | omega | (simp only [zAY, zAU]; omega))) (.r rfl (zAu rfl rfl rfl (by first | omega | (simp only [zAY, zAU]; omega))) (.a rfl rfl .nil)))))))))))))) (by kernel_rfl) ?_
   refine zAA rfl (.m rfl rfl (.a rfl rfl .nil)) ?_
   refine zAO (s' := mk [(1, .vi (ev:Int)), (5, .vs (((blkN l ev i).out) ++ (((putV (((zBN ((blkN l ev i).ahead) (keyT e) : Nat) : Int) : Int).toNat) ++ (putX ((keyT e).extract (zBN ((blkN l ev i).ahead) (keyT e)) ((keyT e).size)))) ++ (putX e.value)))), (6, .vs (keyT e)), (7, .vs ((blkN l ev i).anew)), (8, .p none (.v (.int .u32 (((blkN l ev i).many : Nat) : Int)))), (13, .p none (.sl false 4 (pvE l))), (14, .vi ((pvE l).length : Int)), (15, .vi (i:Int))] [] []) ?_ ?_
   · exact zAJ ⟨rfl, rfl, rfl, rfl, rfl, rfl, rfl, rfl, trivial⟩ trivial trivial rfl
   refine zAA rfl (.r rfl (zAW rfl rfl rfl (by omega)) (.m rfl rfl .nil)) ?_
   refine nxt (Q := fun _ _ => False) (z := i) (i + 1) ?_ ?_ ?_
   ·
    show (i + 1) ≤ l.length
    omega
   ·
    show l.length - (i + 1) < l.length - i
    omega
   · exact zAJ ⟨rfl, (zA3 (by exact zNd he h2)), (zA3 (by exact zFQ he)), (zA3 (by exact zJf he h2)), (zAE (by exact congrArg Nat.cast (zJd he h2))), rfl, rfl, (zAE (by omega)), trivial⟩ trivial trivial rfl
 ·
  replace h1 := of_decide_eq_false h1
  refine zAi ?_
  refine zAB ?_
  rw [show i = l.length by omega]
  have hc := zG4 hl (ev := ev) l.length (Nat.le_refl _)
  have hc1 := hc.out
  have hc2 := hc.anew
  refine zAA rfl (.m rfl rfl (.m rfl rfl (.r rfl (zAu rfl rfl rfl (by first | omega | (simp only [zAY, zAU]; omega))) (.m rfl rfl (.run [5700] [] rfl (zAF rfl 5700 (X := []) en75 rfl (.val nod) (.cons (.one (.bor .v)) .nil) (by decide) all_nil .nil (zCJ ((blkN l ev l.length).many)) rfl rfl (nle rfl)) (.r rfl (zAu rfl rfl rfl (by first | omega | (simp only [zAY, zAU]; omega))) (.m rfl rfl (.r rfl (zAe (k' := .u32) 4294967296 rfl ev rfl rfl rfl underlying2 underlying67) (.run [6100] [] rfl (zAF rfl 6100 (X := []) en75 rfl (.val nod) (.cons (.one (.bor .v)) .nil) (by decide) all_nil .nil (zCJ (ev % 4294967296)) rfl rfl (nle rfl)) (.r rfl (zAu rfl rfl rfl (by first | omega | (simp only [zAY, zAU]; omega))) (.a rfl rfl .nil))))))))))) ?_
  refine zAI ?_
  exact ends [_] [] (.cons (.tmp rfl) .nil) (.cons (.one .v (.v _)) .nil) (by decide) trivial
end Go.Rl
namespace Go.Rl
open Go.Proofs Go.Proofs.Tryd
set_option maxRecDepth 1000000
set_option maxHeartbeats 2000000
theorem en23 : En Tryd.prog 23 := zAh func23 (by decide) rfl
theorem en28 : En Tryd.prog 28 := zAh func28 (by decide) rfl
theorem en54 : En Tryd.prog 54 := zAh func54 (by decide) rfl
theorem zGT (l : List Ent) (ev : Nat) (hlb : l.length ≤ 2000000) (hevb : ev < 4294967296) : Con Tryd.prog 25 [.one (PV.sl false 4 (pvE l)), .one (PV.v (.int .i64 (ev:Int)))] [] [.one (.v (.string ((zBs l ev).getD ⟨#[]⟩))), .one (.v (.bool ((zBs l ev).isSome)))] := by
 refine zAR func25 rfl rfl rfl rfl ?_
 have hle := zAf l
 refine zAB (zAA rfl (.a rfl rfl (.a rfl rfl .nil)) ?_)
 refine zAB ?_
 refine zAB ?_
 rcases bfc (!(zBJ l)) with h1 | h1
 ·
  have h1' := h1
  replace h1' : (zBJ l) = true := zAn h1'
  rcases bfc (decide (((pvE l).length : Int) = 0)) with h2 | h2
  ·
   have h2' := h2
   replace h2' := of_decide_eq_false h2'
   refine zAA rfl (.m rfl rfl (.run [1400] [] rfl (zAF rfl 1400 (X := []) en23 rfl (.val nod) (.cons (.one (.bor (.sl nod))) .nil) (by decide) all_nil .nil (zBm l (by omega)) rfl rfl (nle rfl)) (.r rfl (zAL (zAa (b := zBJ l) rfl rfl) (zAG h1)) (.m rfl rfl (.m rfl rfl (.r rfl (zAp rfl rfl underlying28) (.r rfl (zAL (zBB rfl rfl rfl) (zAG h2)) (.r rfl (zAc (t := false) rfl rfl) (.m rfl rfl (.m rfl rfl (.run [2300] [] rfl (zAF rfl 2300 (X := []) en53 rfl (.val nod) (.cons (.one (.bor .v)) (.cons (.one (.bor .v)) (.cons (.one (.bor .v)) .nil))) (by decide) all_nil .nil (zB0 (ev:Int) 1 16) rfl rfl (nle rfl)) (.r rfl (zAa (b := zAl (ev:Int) 1 16) rfl rfl) (.r rfl (zAc (t := false) rfl rfl) .nil))))))))))))) ?_
   refine zAT (t := (!(zAl (ev:Int) 1 16))) rfl (fun h3 => ?_) (fun h3 => ?_)
   ·
    replace h3 : (zAl (ev:Int) 1 16) = false := zAm h3
    refine zAB ?_
    rw [zDy (l := l) (ev := ev) (.inr (.inr (fun q => by rw [show zAl (ev : Int) 1 16 = true by simp only [zAl, Bool.and_eq_true, decide_eq_true_eq]; omega] at h3; cases h3)))]
    refine zAO (s' := mk [] [] []) ?_ ?_
    · exact zAJ trivial trivial trivial rfl
    refine zAA rfl (.a rfl rfl (.a rfl rfl .nil)) ?_
    refine zAI ?_
    exact ends [_, _] [] (.cons (.tmp rfl) (.cons (.tmp rfl) .nil)) (.cons (.one .v (.v _)) (.cons (.one .v (.v _)) .nil)) (by decide) trivial
   ·
    replace h3 : (zAl (ev:Int) 1 16) = true := zAn h3
    refine zAK ?_
    refine zAB ?_
    have hok := h1'
    have hev : 1 ≤ ev ∧ ev ≤ 16 := by have q := h3; simp only [zAl, Bool.and_eq_true, decide_eq_true_eq] at q; omega
    have h0 : 0 < l.length := by omega
    have hl : ∀ e ∈ l, zBt e = true := fun e he => zCZ hok he
    have hn := zBj hok
    refine zAA rfl (.a rfl rfl .nil) ?_
    refine zAB ?_
    refine zAO (s' := mk [(0, .p none (.sl false 4 (pvE l))), (1, .vi (ev:Int)), (6, .vs ⟨#[]⟩)] [] []) ?_ ?_
    · exact zAJ ⟨rfl, rfl, rfl, trivial⟩ trivial trivial rfl
    refine zAA rfl (.a rfl rfl .nil) ?_
    refine zAB (zAA rfl (.a rfl rfl .nil) ?_)
    refine zAB (zAA rfl (.a rfl rfl .nil) ?_)
    refine zAB ?_
    refine zAB (zAA rfl (.a rfl rfl .nil) ?_)
    refine zAS ?_
    refine zAj (σ := Nat) (fun i => mk [(0, .p none (.sl false 4 (pvE l))), (1, .vi (ev:Int)), (6, .vs ((blkN l ev i).out)), (7, .vs ((blkN l ev i).anew)), (8, .p none (.v (.int .u32 (((blkN l ev i).many : Nat) : Int)))), (9, .vs ((blkN l ev i).ahead)), (10, .vi (i:Int))] [] []) (fun i => i ≤ l.length) (fun i => l.length - i) 0 (by simp) (zAJ ⟨rfl, rfl, (zA3 (by rfl)), (zA3 (by rfl)), (zAE (by rfl)), (zA3 (by rfl)), (zAE (by omega)), trivial⟩ trivial trivial rfl) ?_
    rintro i hG
    replace hG : i ≤ l.length := hG
    have hb := zG4 hl (ev := ev) i (by omega)
    have hb1 := hb.out
    have hb2 := hb.anew
    have hb3 := hb.ahead
    have hb4 := hb.many
    refine zAB ?_
    refine zAB (zAA rfl (.m rfl rfl (.m rfl rfl (.r rfl (zAp rfl rfl underlying28) (.r rfl (zAt rfl rfl rfl) .nil)))) ?_)
    refine zAT (t := decide ((i:Int) < ((pvE l).length : Int))) rfl (fun h4 => ?_) (fun h4 => ?_)
    ·
     replace h4 := of_decide_eq_true h4
     refine zAK ?_
     refine zAB ?_
     refine zAS ?_
     refine zAB ?_
     obtain ⟨e, he⟩ : ∃ e, l[i]? = some e := ⟨_, List.getElem?_eq_getElem (by omega)⟩
     have hen := hl e (List.mem_of_getElem? he)
     have hnn := zDh hen
     have hx1 := zBT (s := e.value) (by omega)
     have hx0 := zC6 (keyT e) 0
     have hx2 := zBT (s := (keyT e).extract 0 (keyT e).size) (by omega)
     have hx3 := zC6 (keyT e) (zBN (blkN l ev i).ahead (keyT e))
     have hx4 := zBT (s := (keyT e).extract (zBN (blkN l ev i).ahead (keyT e)) (keyT e).size) (by omega)
     have hx5 := zDp (blkN l ev i).ahead (keyT e)
     have hv0 := zA5 (n := (0 : Int).toNat) (by decide)
     have hv1 := zA5 (n := (((zBN (blkN l ev i).ahead (keyT e) : Nat) : Int) : Int).toNat) (by omega)
     have hv2 := zA5 (n := zBN (blkN l ev i).ahead (keyT e)) (by omega)
     have hv3 := zA5 (n := 0) (by decide)
     refine zAA rfl (.m rfl rfl (.m rfl rfl (.r rfl (zAq rfl rfl rfl underlying28 sizeOf58 rfl (by omega) (zBZ he)) (.r rfl (zAk rfl rfl underlying58 rfl sizeOf56 (by decide)) (.r rfl (zBY rfl rfl isAgg56 sizeOf56 (nle rfl)) (.run [3700] [] rfl (zAF rfl 3700 (X := []) en28 rfl (.val nod) (.cons (.agg (.cons (.bor .v) (.cons (.bor .v) (.cons (.bor .v) .nil)))) .nil) (by decide) all_nil .nil (zEJ e (zCE hen)) rfl rfl (nle rfl)) (.a rfl rfl .nil))))))) ?_
     refine zAB (zAA rfl (.m rfl rfl (.m rfl rfl (.run [4000] [] rfl (zAF rfl 4000 (X := []) en54 rfl (.val nod) (.cons (.one (.bor .v)) (.cons (.one (.bor .v)) .nil)) (by decide) all_nil .nil (zJ2 ((blkN l ev i).ahead) (keyT e) (by omega) (by omega)) rfl rfl (nle rfl)) (.a rfl rfl .nil)))) ?_)
     refine zAB ?_
     refine zAB ?_
     refine zAO (s' := mk [(0, .p none (.sl false 4 (pvE l))), (1, .vi (ev:Int)), (6, .vs ((blkN l ev i).out)), (7, .vs ((blkN l ev i).anew)), (8, .p none (.v (.int .u32 (((blkN l ev i).many : Nat) : Int)))), (10, .vi (i:Int)), (11, .vs (keyT e)), (12, .vi ((zBN ((blkN l ev i).ahead) (keyT e) : Nat) : Int))] [] []) ?_ ?_
     · exact zAJ ⟨rfl, rfl, rfl, rfl, rfl, rfl, rfl, rfl, trivial⟩ trivial trivial rfl
     refine zAA rfl (.m rfl rfl (.m rfl rfl (.r rfl (zIo rfl rfl rfl (by omega)) (.r rfl (zBB rfl rfl rfl) .nil)))) ?_
     refine zAT (t := decide (((i:Int).tmod (ev:Int)) = 0)) rfl (fun h5 => ?_) (fun h5 => ?_)
     ·
      replace h5 := of_decide_eq_true h5
      refine zAB (zAA rfl (.m rfl rfl (.m rfl rfl (.r rfl (zAP rfl rfl underlying9) (.r rfl (zAe (k' := .u32) 4294967296 rfl (((blkN l ev i).out).size) rfl rfl rfl underlying3 underlying67) (.run [4900] [] rfl (zAF rfl 4900 (X := []) en33 rfl (.val nod) (.cons (.one (.bor .v)) .nil) (by decide) all_nil .nil (zBo ((((blkN l ev i).out).size) % 4294967296)) rfl rfl (nle rfl)) (.r rfl (zAu rfl rfl rfl (by first | omega | (simp only [zAY, zAU]; omega))) (.a rfl rfl .nil))))))) ?_)
      refine zAB (zAA rfl (.m rfl rfl (.r rfl (zFW (k := .u32) 4294967296 rfl ((blkN l ev i).many) 1 rfl rfl rfl rfl) (.a rfl rfl .nil))) ?_)
      refine zAA rfl (.a rfl rfl .nil) ?_
      refine zAB ?_
      refine zAO (s' := mk [(0, .p none (.sl false 4 (pvE l))), (1, .vi (ev:Int)), (6, .vs ((blkN l ev i).out)), (7, .vs (((blkN l ev i).anew) ++ (fixV ((((blkN l ev i).out).size) % 4294967296)))), (8, .p none (.v (.int .u32 (((((blkN l ev i).many) + 1) % 4294967296 : Nat) : Int)))), (10, .vi (i:Int)), (11, .vs (keyT e)), (12, .vi 0)] [] []) ?_ ?_
      · exact zAJ ⟨rfl, rfl, rfl, rfl, rfl, rfl, rfl, rfl, trivial⟩ trivial trivial rfl
      refine zAb zBh rfl (.m rfl rfl (.m rfl rfl (.r rfl (zAL (zAe (k' := .u64) 18446744073709551616 rfl 0 rfl rfl rfl underlying2 underlying53) ((zAE (show ((0 % 18446744073709551616 : Nat) : Int) = ((0 : Nat) : Int) by omega)))) (.run [5600] [] rfl (zAF rfl 5600 (X := []) en26 rfl (.val nod) (.cons (.one (.bor .v)) .nil) (by decide) all_nil .nil (zBy 0 (by omega)) rfl rfl (nle rfl)) (.r rfl (zAu rfl rfl rfl (by first | omega | (simp only [zAY, zAU]; omega))) (.m rfl rfl (.m rfl rfl (.r rfl (zA0 rfl rfl underlying9 (.at_ rfl (show (0 : Int) = ((0 : Nat) : Int) from rfl)) .no (by omega) (Nat.le_refl _)) (.run [6100] [] rfl (zAF rfl 6100 (X := []) en27 rfl (.val nod) (.cons (.one (.bor .v)) .nil) (by decide) all_nil .nil (zCI ((keyT e).extract 0 ((keyT e).size)) (by omega)) rfl rfl (nle rfl)) (.r rfl (zAu rfl rfl rfl (by first | omega | (simp only [zAY, zAU]; omega))) (.m rfl rfl (.m rfl rfl (.r rfl (zAq rfl rfl rfl underlying28 sizeOf58 rfl (by omega) (zBZ he)) (.r rfl (zAk rfl rfl underlying58 rfl sizeOf9 (by decide)) (.r rfl (zAx rfl rfl isAgg9 rfl) (.run [6800] [] rfl (zAF rfl 6800 (X := []) en27 rfl (.val nod) (.cons (.one (.bor .v)) .nil) (by decide) all_nil .nil (zCI e.value (by omega)) rfl rfl (nle rfl)) (.r rfl (zAu rfl rfl rfl (by first | omega | (simp only [zAY, zAU]; omega))) (.a rfl rfl .nil)))))))))))))))))) (by kernel_rfl) ?_
      refine zAO (s' := mk [(0, .p none (.sl false 4 (pvE l))), (1, .vi (ev:Int)), (6, .vs (((((blkN l ev i).out) ++ (putV 0)) ++ (putX ((keyT e).extract 0 ((keyT e).size)))) ++ (putX e.value))), (7, .vs (((blkN l ev i).anew) ++ (fixV ((((blkN l ev i).out).size) % 4294967296)))), (8, .p none (.v (.int .u32 (((((blkN l ev i).many) + 1) % 4294967296 : Nat) : Int)))), (10, .vi (i:Int)), (11, .vs (keyT e))] [] []) ?_ ?_
      · exact zAJ ⟨rfl, rfl, rfl, rfl, rfl, rfl, rfl, trivial⟩ trivial trivial rfl
      refine zAA rfl (.m rfl rfl (.a rfl rfl .nil)) ?_
      refine zAA rfl (.m rfl rfl (.r rfl (zAW rfl rfl rfl (by omega)) (.a rfl rfl .nil))) ?_
      refine nxt (Q := fun _ _ => False) (z := i) (i + 1) ?_ ?_ ?_
      ·
       show (i + 1) ≤ l.length
       omega
      ·
       show l.length - (i + 1) < l.length - i
       omega
      · exact zAJ ⟨rfl, rfl, (zA3 (by exact zLP he h5)), (zA3 (by exact zJg he h5)), (zAE (by exact congrArg Nat.cast (zJe he h5 (by omega)))), (zA3 (by exact zFQ he)), (zAE (by omega)), trivial⟩ trivial trivial rfl
     ·
      replace h5 := of_decide_eq_false h5
      refine zAK ?_
      refine zAB ?_
      refine zAO (s' := mk [(0, .p none (.sl false 4 (pvE l))), (1, .vi (ev:Int)), (6, .vs ((blkN l ev i).out)), (7, .vs ((blkN l ev i).anew)), (8, .p none (.v (.int .u32 (((blkN l ev i).many : Nat) : Int)))), (10, .vi (i:Int)), (11, .vs (keyT e)), (12, .vi ((zBN ((blkN l ev i).ahead) (keyT e) : Nat) : Int))] [] []) ?_ ?_
      · exact zAJ ⟨rfl, rfl, rfl, rfl, rfl, rfl, rfl, rfl, trivial⟩ trivial trivial rfl
      refine zAb zBh rfl (.m rfl rfl (.m rfl rfl (.r rfl (zAL (zAe (k' := .u64) 18446744073709551616 rfl (zBN ((blkN l ev i).ahead) (keyT e)) rfl rfl rfl underlying2 underlying53) ((zAE (show (((zBN (blkN l ev i).ahead (keyT e)) % 18446744073709551616 : Nat) : Int) = ((zBN (blkN l ev i).ahead (keyT e) : Nat) : Int) by omega)))) (.run [5600] [] rfl (zAF rfl 5600 (X := []) en26 rfl (.val nod) (.cons (.one (.bor .v)) .nil) (by decide) all_nil .nil (zBy (zBN (blkN l ev i).ahead (keyT e)) (by omega)) rfl rfl (nle rfl)) (.r rfl (zAu rfl rfl rfl (by first | omega | (simp only [zAY, zAU]; omega))) (.m rfl rfl (.m rfl rfl (.r rfl (zA0 rfl rfl underlying9 (.at_ rfl rfl) .no (by omega) (Nat.le_refl _)) (.run [6100] [] rfl (zAF rfl 6100 (X := []) en27 rfl (.val nod) (.cons (.one (.bor .v)) .nil) (by decide) all_nil .nil (zCI ((keyT e).extract (zBN ((blkN l ev i).ahead) (keyT e)) ((keyT e).size)) (by omega)) rfl rfl (nle rfl)) (.r rfl (zAu rfl rfl rfl (by first | omega | (simp only [zAY, zAU]; omega))) (.m rfl rfl (.m rfl rfl (.r rfl (zAq rfl rfl rfl underlying28 sizeOf58 rfl (by omega) (zBZ he)) (.r rfl (zAk rfl rfl underlying58 rfl sizeOf9 (by decide)) (.r rfl (zAx rfl rfl isAgg9 rfl) (.run [6800] [] rfl (zAF rfl 6800 (X := []) en27 rfl (.val nod) (.cons (.one (.bor .v)) .nil) (by decide) all_nil .nil (zCI e.value (by omega)) rfl rfl (nle rfl)) (.r rfl (zAu rfl rfl rfl (by first | omega | (simp only [zAY, zAU]; omega))) (.a rfl rfl .nil)))))))))))))))))) (by kernel_rfl) ?_
      refine zAO (s' := mk [(0, .p none (.sl false 4 (pvE l))), (1, .vi (ev:Int)), (6, .vs (((((blkN l ev i).out) ++ (putV (zBN (blkN l ev i).ahead (keyT e)))) ++ (putX ((keyT e).extract (zBN ((blkN l ev i).ahead) (keyT e)) ((keyT e).size)))) ++ (putX e.value))), (7, .vs ((blkN l ev i).anew)), (8, .p none (.v (.int .u32 (((blkN l ev i).many : Nat) : Int)))), (10, .vi (i:Int)), (11, .vs (keyT e))] [] []) ?_ ?_
      · exact zAJ ⟨rfl, rfl, rfl, rfl, rfl, rfl, rfl, trivial⟩ trivial trivial rfl
      refine zAA rfl (.m rfl rfl (.a rfl rfl .nil)) ?_
      refine zAA rfl (.m rfl rfl (.r rfl (zAW rfl rfl rfl (by omega)) (.a rfl rfl .nil))) ?_
      refine nxt (Q := fun _ _ => False) (z := i) (i + 1) ?_ ?_ ?_
      ·
       show (i + 1) ≤ l.length
       omega
      ·
       show l.length - (i + 1) < l.length - i
       omega
      · exact zAJ ⟨rfl, rfl, (zA3 (by exact zLO he h5)), (zA3 (by exact zJf he h5)), (zAE (by exact congrArg Nat.cast (zJd he h5))), (zA3 (by exact zFQ he)), (zAE (by omega)), trivial⟩ trivial trivial rfl
    ·
     replace h4 := of_decide_eq_false h4
     refine zAi ?_
     refine zAB ?_
     rw [show i = l.length by omega]
     have hc := zG4 hl (ev := ev) l.length (Nat.le_refl _)
     have hc1 := hc.out
     have hc2 := hc.anew
     refine zAA rfl (.m rfl rfl (.m rfl rfl (.r rfl (zAu rfl rfl rfl (by first | omega | (simp only [zAY, zAU]; omega))) (.m rfl rfl (.run [7500] [] rfl (zAF rfl 7500 (X := []) en33 rfl (.val nod) (.cons (.one (.bor .v)) .nil) (by decide) all_nil .nil (zBo ((blkN l ev l.length).many)) rfl rfl (nle rfl)) (.r rfl (zAu rfl rfl rfl (by first | omega | (simp only [zAY, zAU]; omega))) (.m rfl rfl (.r rfl (zAe (k' := .u32) 4294967296 rfl ev rfl rfl rfl underlying2 underlying67) (.run [7900] [] rfl (zAF rfl 7900 (X := []) en33 rfl (.val nod) (.cons (.one (.bor .v)) .nil) (by decide) all_nil .nil (zBo (ev % 4294967296)) rfl rfl (nle rfl)) (.r rfl (zAu rfl rfl rfl (by first | omega | (simp only [zAY, zAU]; omega))) (.a rfl rfl .nil))))))))))) ?_
     refine zAB ?_
     refine zAB ?_
     refine zAO (s' := mk [(6, .vs (blkF l ev))] [] []) ?_ ?_
     · exact zAJ ⟨(zA3 rfl), trivial⟩ trivial trivial rfl
     refine zAA rfl (.m rfl rfl (.r rfl (zAP rfl rfl underlying9) (.r rfl (zBE rfl rfl rfl) .nil))) ?_
     refine zAT (t := decide (60000 < ((blkF l ev).size : Int))) rfl (fun h6 => ?_) (fun h6 => ?_)
     ·
      replace h6 := of_decide_eq_true h6
      refine zAB ?_
      rw [zHo (l := l) (ev := ev) (show 60000 < (blkF l ev).size by omega)]
      refine zAA rfl (.a rfl rfl (.a rfl rfl .nil)) ?_
      refine zAI ?_
      exact ends [_, _] [] (.cons (.tmp rfl) (.cons (.tmp rfl) .nil)) (.cons (.one .v (.v _)) (.cons (.one .v (.v _)) .nil)) (by decide) trivial
     ·
      replace h6 := of_decide_eq_false h6
      refine zAK ?_
      refine zAB ?_
      rw [zEk (l := l) hok h0 hev (show (blkF l ev).size ≤ 60000 by omega)]
      refine zAA rfl (.m rfl rfl (.a rfl rfl (.a rfl rfl .nil))) ?_
      refine zAI ?_
      exact ends [_, _] [] (.cons (.tmp rfl) (.cons (.tmp rfl) .nil)) (.cons (.one .v (.v _)) (.cons (.one .v (.v _)) .nil)) (by decide) trivial
  ·
   have h2' := h2
   replace h2' := of_decide_eq_true h2'
   refine zAA rfl (.m rfl rfl (.run [1400] [] rfl (zAF rfl 1400 (X := []) en23 rfl (.val nod) (.cons (.one (.bor (.sl nod))) .nil) (by decide) all_nil .nil (zBm l (by omega)) rfl rfl (nle rfl)) (.r rfl (zAL (zAa (b := zBJ l) rfl rfl) (zAG h1)) (.m rfl rfl (.m rfl rfl (.r rfl (zAp rfl rfl underlying28) (.r rfl (zAL (zBB rfl rfl rfl) (zAG h2)) (.r rfl (zAc (t := false) rfl rfl) (.m rfl rfl (.not rfl (.not rfl (.not rfl (.r rfl (zAc (t := true) rfl rfl) .nil))))))))))))) ?_
   refine zAT (t := true) rfl (fun _ => ?_) (fun h => nomatch h)
   refine zAB ?_
   rw [zDy (l := l) (ev := ev) (.inr (.inl (by omega)))]
   refine zAO (s' := mk [] [] []) ?_ ?_
   · exact zAJ trivial trivial trivial rfl
   refine zAA rfl (.a rfl rfl (.a rfl rfl .nil)) ?_
   refine zAI ?_
   exact ends [_, _] [] (.cons (.tmp rfl) (.cons (.tmp rfl) .nil)) (.cons (.one .v (.v _)) (.cons (.one .v (.v _)) .nil)) (by decide) trivial
 ·
  have h1' := h1
  replace h1' : (zBJ l) = false := zAm h1'
  refine zAA rfl (.m rfl rfl (.run [1400] [] rfl (zAF rfl 1400 (X := []) en23 rfl (.val nod) (.cons (.one (.bor (.sl nod))) .nil) (by decide) all_nil .nil (zBm l (by omega)) rfl rfl (nle rfl)) (.r rfl (zAL (zAa (b := zBJ l) rfl rfl) (zAG h1)) (.m rfl rfl (.not rfl (.not rfl (.not rfl (.r rfl (zAc (t := true) rfl rfl) (.m rfl rfl (.not rfl (.not rfl (.not rfl (.r rfl (zAc (t := true) rfl rfl) .nil))))))))))))) ?_
  refine zAT (t := true) rfl (fun _ => ?_) (fun h => nomatch h)
  refine zAB ?_
  rw [zDy (l := l) (ev := ev) (.inl h1')]
  refine zAO (s' := mk [] [] []) ?_ ?_
  · exact zAJ trivial trivial trivial rfl
  refine zAA rfl (.a rfl rfl (.a rfl rfl .nil)) ?_
  refine zAI ?_
  exact ends [_, _] [] (.cons (.tmp rfl) (.cons (.tmp rfl) .nil)) (.cons (.one .v (.v _)) (.cons (.one .v (.v _)) .nil)) (by decide) trivial
theorem zIx (l : List Ent) (ev : Nat) (hok : zBJ l = true) (h0 : 0 < l.length) (hev : 1 ≤ ev ∧ ev ≤ 16) (hsz : (blkF l ev).size ≤ 60000) : Con Tryd.prog 25 [.one (PV.sl false 4 (pvE l)), .one (PV.v (.int .i64 (ev:Int)))] [] [.one (.v (.string (blkF l ev))), .one (.v (.bool true))] := by
 have hn := zBj hok
 have := zGT l ev (by omega) (by omega)
 rwa [zEk hok h0 hev hsz] at this
end Go.Rl
namespace Go.Rl
open Go.Proofs Go.Proofs.Tryd
set_option maxRecDepth 1000000
set_option maxHeartbeats 2000000
theorem zGE {l : List Ent} {i : Nat} {e : Ent} (h : l[i]? = some e) : (l.map (·.user))[i]? = some e.user := by simp [h]
theorem zL9 {l : List Ent} {i : Nat} {e : Ent} (he : l[i]? = some e) (h : i = 0) : zAV (l.map (·.user)) (i + 1) = zAV (l.map (·.user)) i ++ [e.user] := by rw [zAV, zGE he]; simp [h]
theorem zNn {l : List Ent} {i : Nat} {x e : Ent} (hx : l[i - 1]? = some x) (he : l[i]? = some e) (h : ¬ x.user = e.user) : zAV (l.map (·.user)) (i + 1) = zAV (l.map (·.user)) i ++ [e.user] := by rw [zAV, zGE he]; simp only []; rw [if_neg (fun q => h (by have := q.2; rw [zGE hx] at this; exact Option.some.inj this))]
theorem zKd {l : List Ent} {i : Nat} {x e : Ent} (h0 : 0 < i) (hx : l[i - 1]? = some x) (he : l[i]? = some e) (h : x.user = e.user) : zAV (l.map (·.user)) (i + 1) = zAV (l.map (·.user)) i := zDB (by omega) (zGE hx) (zGE he) h.symm
theorem zI3 (l : List ByteArray) (x : ByteArray) : pvT l ++ [[PV.v (.string x)]] = pvT (l ++ [x]) := by simp [pvT]
theorem zD0 (us : List ByteArray) (hu : ∀ u ∈ us, zBd u = true) (hn : us.length ≤ 400) : Con Tryd.prog 101 [.one (PV.sl false 1 (pvT us))] [] [.one (.v (.bool true))] := by
 refine zAR func101 rfl rfl rfl rfl ?_
 have hle := zBG us
 refine zAB (zAA rfl (.a rfl rfl .nil) ?_)
 refine zAB ?_
 refine zAB (zAA rfl (.m rfl rfl (.r rfl (zAp rfl rfl underlying59) (.r rfl (zBE rfl rfl rfl) .nil))) ?_)
 refine zAT (t := decide (400 < ((pvT us).length : Int))) rfl (fun h1 => ?_) (fun h1 => ?_)
 ·
  replace h1 := of_decide_eq_true h1
  omega
 ·
  replace h1 := of_decide_eq_false h1
  refine zAK ?_
  refine zAB ?_
  refine zAB (zAA rfl (.m rfl rfl (.r rfl (zAp rfl rfl underlying59) (.m rfl rfl .nil))) ?_)
  refine zAS ?_
  refine zAj (σ := Nat) (fun i => mk [(8, .p none (.sl false 1 (pvT us))), (9, .vi ((pvT us).length : Int)), (10, .vi (i:Int))] [] []) (fun i => i ≤ us.length) (fun i => us.length - i) 0 (by simp) (zAJ ⟨rfl, rfl, (zAE (by omega)), trivial⟩ trivial trivial rfl) ?_
  rintro i hG
  replace hG : i ≤ us.length := hG
  refine zAB (zAA rfl (.r rfl (zAt rfl rfl rfl) .nil) ?_)
  refine zAB ?_
  refine zAT (t := decide ((i:Int) < ((pvT us).length : Int))) rfl (fun h2 => ?_) (fun h2 => ?_)
  ·
   replace h2 := of_decide_eq_true h2
   refine zAK ?_
   refine zAB ?_
   refine zAS ?_
   refine zAB ?_
   obtain ⟨e, he⟩ : ∃ e, us[i]? = some e := ⟨_, List.getElem?_eq_getElem (by (have hL := zBG us; omega))⟩
   have hlte := (List.getElem?_eq_some_iff.1 he).1
   refine zAA rfl (.r rfl (zAq rfl rfl rfl underlying59 sizeOf9 rfl (by omega) (zCk he)) (.r rfl (zAx rfl rfl isAgg9 rfl) (.a rfl rfl .nil))) ?_
   refine zAB (zAA rfl (.m rfl rfl (.run [1500] [] rfl (zAF rfl 1500 (X := []) zNS rfl (.val nod) (.cons (.one (.bor .v)) .nil) (by decide) all_nil .nil (zDt e) rfl rfl (nle rfl)) (.r rfl (zAa (b := zBd e) rfl rfl) .nil))) ?_)
   refine zAT (t := (!(zBd e))) rfl (fun h3 => ?_) (fun h3 => ?_)
   ·
    replace h3 : (zBd e) = false := zAm h3
    rw [hu _ (List.mem_of_getElem? he)] at h3; cases h3
   ·
    replace h3 : (zBd e) = true := zAn h3
    refine zAK ?_
    refine zAA rfl (.r rfl (zAW rfl rfl rfl (by omega)) (.m rfl rfl .nil)) ?_
    refine nxt (Q := fun _ _ => False) (z := i) (i + 1) ?_ ?_ ?_
    ·
     show (i + 1) ≤ us.length
     omega
    ·
     show us.length - (i + 1) < us.length - i
     omega
    · exact zAJ ⟨rfl, rfl, (zAE (by omega)), trivial⟩ trivial trivial rfl
  ·
   replace h2 := of_decide_eq_false h2
   refine zAi ?_
   refine zAB (zAA rfl (.a rfl rfl .nil) ?_)
   refine zAI ?_
   exact ends [_] [] (.cons (.tmp rfl) .nil) (.cons (.one .v (.v _)) .nil) (by decide) trivial
theorem zDe (us : List ByteArray) (hu : ∀ u ∈ us, zBd u = true) (hn : us.length ≤ 400) : Con Tryd.prog 57 [.one (PV.sl false 1 (pvT us))] [] [.one (.v (.bool true))] := by
 refine zAR func57 rfl rfl rfl rfl ?_
 have hle := zBG us
 refine zAB (zAA rfl (.a rfl rfl .nil) ?_)
 refine zAB ?_
 refine zAB (zAA rfl (.m rfl rfl (.r rfl (zAp rfl rfl underlying59) (.r rfl (zBE rfl rfl rfl) .nil))) ?_)
 refine zAT (t := decide (400 < ((pvT us).length : Int))) rfl (fun h1 => ?_) (fun h1 => ?_)
 ·
  replace h1 := of_decide_eq_true h1
  omega
 ·
  replace h1 := of_decide_eq_false h1
  refine zAK ?_
  refine zAB ?_
  refine zAB (zAA rfl (.a rfl rfl .nil) ?_)
  refine zAS ?_
  refine zAj (σ := Nat) (fun i => mk [(0, .p none (.sl false 1 (pvT us))), (3, .vi (i:Int))] [] []) (fun i => i ≤ us.length) (fun i => us.length - i) 0 (by simp) (zAJ ⟨rfl, (zAE (by omega)), trivial⟩ trivial trivial rfl) ?_
  rintro i hG
  replace hG : i ≤ us.length := hG
  refine zAB ?_
  refine zAB (zAA rfl (.m rfl rfl (.m rfl rfl (.r rfl (zAp rfl rfl underlying59) (.r rfl (zAt rfl rfl rfl) .nil)))) ?_)
  refine zAT (t := decide ((i:Int) < ((pvT us).length : Int))) rfl (fun h2 => ?_) (fun h2 => ?_)
  ·
   replace h2 := of_decide_eq_true h2
   refine zAK ?_
   refine zAB ?_
   refine zAS ?_
   refine zAB ?_
   obtain ⟨e, he⟩ : ∃ e, us[i]? = some e := ⟨_, List.getElem?_eq_getElem (by (have hL := zBG us; omega))⟩
   have hlte := (List.getElem?_eq_some_iff.1 he).1
   refine zAA rfl (.m rfl rfl (.m rfl rfl (.r rfl (zAq rfl rfl rfl underlying59 sizeOf9 rfl (by omega) (zCk he)) (.r rfl (zAx rfl rfl isAgg9 rfl) (.run [1700] [] rfl (zAF rfl 1700 (X := []) en89 rfl (.val nod) (.cons (.one (.bor .v)) .nil) (by decide) all_nil .nil (zDs e) rfl rfl (nle rfl)) (.r rfl (zAa (b := zBd e) rfl rfl) .nil)))))) ?_
   refine zAT (t := (!(zBd e))) rfl (fun h3 => ?_) (fun h3 => ?_)
   ·
    replace h3 : (zBd e) = false := zAm h3
    rw [hu _ (List.mem_of_getElem? he)] at h3; cases h3
   ·
    replace h3 : (zBd e) = true := zAn h3
    refine zAK ?_
    refine zAA rfl (.m rfl rfl (.r rfl (zAW rfl rfl rfl (by omega)) (.a rfl rfl .nil))) ?_
    refine nxt (Q := fun _ _ => False) (z := i) (i + 1) ?_ ?_ ?_
    ·
     show (i + 1) ≤ us.length
     omega
    ·
     show us.length - (i + 1) < us.length - i
     omega
    · exact zAJ ⟨rfl, (zAE (by omega)), trivial⟩ trivial trivial rfl
  ·
   replace h2 := of_decide_eq_false h2
   refine zAi ?_
   refine zAB (zAA rfl (.a rfl rfl .nil) ?_)
   refine zAI ?_
   exact ends [_] [] (.cons (.tmp rfl) .nil) (.cons (.one .v (.v _)) .nil) (by decide) trivial
theorem zH2 (l : List Ent) (hok : zBJ l = true) : Con Tryd.prog 30 [.one (PV.sl false 4 (pvE l))] [] [.one (.sl true 1 (pvT (zAz l)))] := by
 refine zAR func30 rfl rfl rfl rfl ?_
 have hle := zAf l
 have hn := zBj hok
 refine zAB (zAA rfl (.a rfl rfl .nil) ?_)
 refine zAB (zAA rfl (.run [500] [] rfl (zAv rfl 500 underlying59 inf9 (nle rfl) (by decide) rfl rfl rfl .nil (by decide) rfl (by decide) rfl (by decide) rfl) (.a rfl rfl .nil)) ?_)
 refine zAB ?_
 refine zAB (zAA rfl (.m rfl rfl (.run [700] [] rfl (zAF rfl 700 (X := []) en23 rfl (.val nod) (.cons (.one (.bor (.sl nod))) .nil) (by decide) all_nil .nil (zBm l (by omega)) rfl rfl (nle rfl)) (.r rfl (zAa (b := zBJ l) rfl rfl) .nil))) ?_)
 refine zAT (t := (!(zBJ l))) rfl (fun h1 => ?_) (fun h1 => ?_)
 ·
  replace h1 : (zBJ l) = false := zAm h1
  rw [hok] at h1; cases h1
 ·
  replace h1 : (zBJ l) = true := zAn h1
  refine zAK ?_
  refine zAB ?_
  refine zAB (zAA rfl (.a rfl rfl .nil) ?_)
  refine zAS ?_
  refine zAO (zCd 500 1 rfl rfl (by decide)) ?_
  refine zAj (σ := Nat) (fun i => mk [(0, .p none (.sl false 4 (pvE l))), (3, .sl 1 0 ((pvT (zAV (l.map (·.user)) i)).length)), (4, .vi (i:Int))] [] [(1, 1, pvT (zAV (l.map (·.user)) i))]) (fun i => i ≤ l.length) (fun i => l.length - i) 0 (by simp) (zAJ ⟨rfl, rfl, (zAE (by omega)), trivial⟩ trivial ⟨(congrArg (fun x => some (1, x)) (by rfl)), trivial⟩ rfl) ?_
  rintro i hG
  replace hG : i ≤ l.length := hG
  have hcn := zEQ (l.map (·.user)) i
  have hcv := zBG (zAV (l.map (·.user)) i)
  refine zAB ?_
  refine zAB (zAA rfl (.m rfl rfl (.m rfl rfl (.r rfl (zAp rfl rfl underlying28) (.r rfl (zAt rfl rfl rfl) .nil)))) ?_)
  refine zAT (t := decide ((i:Int) < ((pvE l).length : Int))) rfl (fun h2 => ?_) (fun h2 => ?_)
  ·
   replace h2 := of_decide_eq_true h2
   refine zAK ?_
   refine zAB ?_
   refine zAS ?_
   refine zAB ?_
   rcases Nat.eq_zero_or_pos i with hz | hz
   ·
    obtain ⟨e, he⟩ : ∃ e, l[i]? = some e := ⟨_, List.getElem?_eq_getElem (by omega)⟩
    refine zAO (s' := mk [(0, .p none (.sl false 4 (pvE l))), (3, .sl 1 0 ((pvT (zAV (l.map (·.user)) i)).length)), (4, .vi (i:Int))] [] [(1, 1, pvT (zAV (l.map (·.user)) i))]) ?_ ?_
    · exact zAJ ⟨rfl, rfl, rfl, trivial⟩ trivial ⟨rfl, trivial⟩ rfl
    rcases bfc (decide ((i:Int) = 0)) with h3 | h3
    ·
     have h3' := h3
     replace h3' := of_decide_eq_false h3'
     omega
    ·
     have h3' := h3
     replace h3' := of_decide_eq_true h3'
     refine zAb zBh rfl (.m rfl rfl (.r rfl (zAL (zBB rfl rfl rfl) (zAG h3)) (.m rfl rfl (.not rfl (.not rfl (.not rfl (.not rfl (.not rfl (.not rfl (.not rfl (.not rfl (.not rfl (.not rfl (.not rfl (.not rfl (.not rfl (.not rfl (.r rfl (zAc (t := true) rfl rfl) .nil)))))))))))))))))) (by kernel_rfl) ?_
     refine zAT (t := true) rfl (fun _ => ?_) (fun h => nomatch h)
     refine zAO (s' := mk [(0, .p none (.sl false 4 (pvE l))), (3, .sl 1 0 ((pvT (zAV (l.map (·.user)) i)).length)), (4, .vi (i:Int))] [] [(1, 1, pvT (zAV (l.map (·.user)) i))]) ?_ ?_
     · exact zAJ ⟨rfl, rfl, rfl, trivial⟩ trivial ⟨rfl, trivial⟩ rfl
     refine zAA rfl (.m rfl rfl (.m rfl rfl (.m rfl rfl (.r rfl (zAq rfl rfl rfl underlying28 sizeOf58 rfl (by omega) (zBZ he)) (.r rfl (zAk rfl rfl underlying58 rfl sizeOf56 (by decide)) (.r rfl (zAk rfl rfl underlying56 rfl sizeOf9 (by decide)) (.r rfl (zAx rfl rfl isAgg9 rfl) (.run [4100] [] rfl (zAv rfl 4100 underlying59 inf9 (nle rfl) (by decide) rfl rfl rfl (.cons .v .nil) (by decide) rfl (by decide) rfl (by decide) rfl) (.run [1] [] rfl (zB6 rfl 1 (ib := 1) (len := ((pvT (zAV (l.map (·.user)) i)) ++ [[PV.v (.string e.user)]]).length) rfl rfl (.row (len := (pvT (zAV (l.map (·.user)) i)).length) (xs := pvT (zAV (l.map (·.user)) i)) rfl rfl (.inl rfl)) (.give (len := 1) (xs := [[PV.v (.string e.user)]]) rfl rfl) underlying59 (sk underlying59 rfl) inf9 rfl (by decide) (by decide) (by decide) List.length_append (by simp only [maxLen, List.length_append, List.length_map, List.length_cons, List.length_nil, zBG]; omega) (by simp only [maxLen, List.length_append, List.length_map, List.length_cons, List.length_nil, zBG]; omega)) (.a rfl rfl .nil)))))))))) ?_
     have hr4 : (pvT (zAV (l.map (·.user)) i)) ++ [[PV.v (.string e.user)]] = pvT (zAV (l.map (·.user)) (i + 1)) := by rw [zL9 he hz]; exact zI3 _ _
     have hp5 : (.sl 1 0 (((pvT (zAV (l.map (·.user)) i)) ++ [[PV.v (.string e.user)]]).length) : AV) = .sl 1 0 ((pvT (zAV (l.map (·.user)) (i + 1))).length) := by simp only [hr4]
     refine zAO (s' := mk [(0, .p none (.sl false 4 (pvE l))), (3, .sl 1 0 ((pvT (zAV (l.map (·.user)) (i + 1))).length)), (4, .vi (i:Int))] [] [(1, 1, pvT (zAV (l.map (·.user)) (i + 1)))]) ?_ ?_
     · exact zAJ ⟨rfl, hp5, rfl, trivial⟩ trivial ⟨(congrArg (fun x => some (1, x)) hr4), trivial⟩ rfl
     refine zAA rfl (.m rfl rfl (.r rfl (zAW rfl rfl rfl (by omega)) (.a rfl rfl .nil))) ?_
     refine nxt (Q := fun _ _ => False) (z := i) (i + 1) ?_ ?_ ?_
     ·
      show (i + 1) ≤ l.length
      omega
     ·
      show l.length - (i + 1) < l.length - i
      omega
     · exact zAJ ⟨rfl, rfl, (zAE (by omega)), trivial⟩ trivial ⟨rfl, trivial⟩ rfl
   ·
    obtain ⟨e, he⟩ : ∃ e, l[i]? = some e := ⟨_, List.getElem?_eq_getElem (by omega)⟩
    obtain ⟨x, hx⟩ : ∃ x, l[i - 1]? = some x := ⟨_, List.getElem?_eq_getElem (by omega)⟩
    refine zAO (s' := mk [(0, .p none (.sl false 4 (pvE l))), (3, .sl 1 0 ((pvT (zAV (l.map (·.user)) i)).length)), (4, .vi (i:Int))] [] [(1, 1, pvT (zAV (l.map (·.user)) i))]) ?_ ?_
    · exact zAJ ⟨rfl, rfl, rfl, trivial⟩ trivial ⟨rfl, trivial⟩ rfl
    rcases bfc (decide ((i:Int) = 0)) with h6 | h6
    ·
     have h6' := h6
     replace h6' := of_decide_eq_false h6'
     refine zAb zBh rfl (.m rfl rfl (.r rfl (zAL (zBB rfl rfl rfl) (zAG h6)) (.m rfl rfl (.m rfl rfl (.m rfl rfl (.r rfl (zAL (zBw rfl rfl rfl (by omega)) (((show (AV.p none (.v (.int .i64 ((i:Int) - 1)))) = AV.p none (.v (.int .i64 ((i - 1 : Nat) : Int))) from zAE (by omega))))) (.r rfl (zAq rfl rfl rfl underlying28 sizeOf58 rfl (by omega) (zBZ hx)) (.r rfl (zAk rfl rfl underlying58 rfl sizeOf56 (by decide)) (.r rfl (zAk rfl rfl underlying56 rfl sizeOf9 (by decide)) (.r rfl (zAx rfl rfl isAgg9 rfl) (.m rfl rfl (.m rfl rfl (.r rfl (zAq rfl rfl rfl underlying28 sizeOf58 rfl (by omega) (zBZ he)) (.r rfl (zAk rfl rfl underlying58 rfl sizeOf56 (by decide)) (.r rfl (zAk rfl rfl underlying56 rfl sizeOf9 (by decide)) (.r rfl (zAx rfl rfl isAgg9 rfl) (.r rfl (zCC rfl rfl rfl) (.r rfl (zAc (t := false) rfl rfl) .nil)))))))))))))))))) (by kernel_rfl) ?_
     refine zAT (t := (!(decide (x.user = e.user)))) rfl (fun h7 => ?_) (fun h7 => ?_)
     ·
      replace h7 : ¬ (x.user = e.user) := of_decide_eq_false (zAm h7)
      refine zAO (s' := mk [(0, .p none (.sl false 4 (pvE l))), (3, .sl 1 0 ((pvT (zAV (l.map (·.user)) i)).length)), (4, .vi (i:Int)), (19, .p none (.sl false 4 (pvE l))), (20, .vi (i:Int)), (21, .vi ((i - 1 : Nat):Int)), (22, .fea none [PV.v (.string x.user), PV.v (.int .i64 x.seq), PV.v (.int .i64 x.kind), PV.v (.string x.value)]), (23, .fea none [PV.v (.string x.user), PV.v (.int .i64 x.seq), PV.v (.int .i64 x.kind), PV.v (.string x.value)]), (24, .fea none [PV.v (.string x.user), PV.v (.int .i64 x.seq), PV.v (.int .i64 x.kind), PV.v (.string x.value)]), (25, .vs x.user), (26, .p none (.sl false 4 (pvE l))), (27, .vi (i:Int)), (28, .fea none [PV.v (.string e.user), PV.v (.int .i64 e.seq), PV.v (.int .i64 e.kind), PV.v (.string e.value)]), (29, .fea none [PV.v (.string e.user), PV.v (.int .i64 e.seq), PV.v (.int .i64 e.kind), PV.v (.string e.value)]), (30, .fea none [PV.v (.string e.user), PV.v (.int .i64 e.seq), PV.v (.int .i64 e.kind), PV.v (.string e.value)]), (31, .vs e.user), (32, .vb (!(decide (x.user = e.user))))] [] [(1, 1, pvT (zAV (l.map (·.user)) i))]) ?_ ?_
      · exact zAJ ⟨rfl, rfl, rfl, rfl, rfl, rfl, rfl, rfl, rfl, rfl, rfl, rfl, rfl, rfl, rfl, rfl, rfl, trivial⟩ trivial ⟨rfl, trivial⟩ rfl
      refine zAA rfl (.m rfl rfl (.m rfl rfl (.m rfl rfl (.r rfl (zAq rfl rfl rfl underlying28 sizeOf58 rfl (by omega) (zBZ he)) (.r rfl (zAk rfl rfl underlying58 rfl sizeOf56 (by decide)) (.r rfl (zAk rfl rfl underlying56 rfl sizeOf9 (by decide)) (.r rfl (zAx rfl rfl isAgg9 rfl) (.run [4100] [] rfl (zAv rfl 4100 underlying59 inf9 (nle rfl) (by decide) rfl rfl rfl (.cons .v .nil) (by decide) rfl (by decide) rfl (by decide) rfl) (.run [1] [] rfl (zB6 rfl 1 (ib := 1) (len := ((pvT (zAV (l.map (·.user)) i)) ++ [[PV.v (.string e.user)]]).length) rfl rfl (.row (len := (pvT (zAV (l.map (·.user)) i)).length) (xs := pvT (zAV (l.map (·.user)) i)) rfl rfl (.inl rfl)) (.give (len := 1) (xs := [[PV.v (.string e.user)]]) rfl rfl) underlying59 (sk underlying59 rfl) inf9 rfl (by decide) (by decide) (by decide) List.length_append (by simp only [maxLen, List.length_append, List.length_map, List.length_cons, List.length_nil, zBG]; omega) (by simp only [maxLen, List.length_append, List.length_map, List.length_cons, List.length_nil, zBG]; omega)) (.a rfl rfl .nil)))))))))) ?_
      have hr8 : (pvT (zAV (l.map (·.user)) i)) ++ [[PV.v (.string e.user)]] = pvT (zAV (l.map (·.user)) (i + 1)) := by rw [zNn hx he h7]; exact zI3 _ _
      have hp9 : (.sl 1 0 (((pvT (zAV (l.map (·.user)) i)) ++ [[PV.v (.string e.user)]]).length) : AV) = .sl 1 0 ((pvT (zAV (l.map (·.user)) (i + 1))).length) := by simp only [hr8]
      refine zAO (s' := mk [(0, .p none (.sl false 4 (pvE l))), (3, .sl 1 0 ((pvT (zAV (l.map (·.user)) (i + 1))).length)), (4, .vi (i:Int)), (19, .p none (.sl false 4 (pvE l))), (20, .vi (i:Int)), (21, .vi ((i - 1 : Nat):Int)), (22, .fea none [PV.v (.string x.user), PV.v (.int .i64 x.seq), PV.v (.int .i64 x.kind), PV.v (.string x.value)]), (23, .fea none [PV.v (.string x.user), PV.v (.int .i64 x.seq), PV.v (.int .i64 x.kind), PV.v (.string x.value)]), (24, .fea none [PV.v (.string x.user), PV.v (.int .i64 x.seq), PV.v (.int .i64 x.kind), PV.v (.string x.value)]), (25, .vs x.user), (26, .p none (.sl false 4 (pvE l))), (27, .vi (i:Int)), (28, .fea none [PV.v (.string e.user), PV.v (.int .i64 e.seq), PV.v (.int .i64 e.kind), PV.v (.string e.value)]), (29, .fea none [PV.v (.string e.user), PV.v (.int .i64 e.seq), PV.v (.int .i64 e.kind), PV.v (.string e.value)]), (30, .fea none [PV.v (.string e.user), PV.v (.int .i64 e.seq), PV.v (.int .i64 e.kind), PV.v (.string e.value)]), (31, .vs e.user), (32, .vb (!(decide (x.user = e.user))))] [] [(1, 1, pvT (zAV (l.map (·.user)) (i + 1)))]) ?_ ?_
      · exact zAJ ⟨rfl, hp9, rfl, rfl, rfl, rfl, rfl, rfl, rfl, rfl, rfl, rfl, rfl, rfl, rfl, rfl, rfl, trivial⟩ trivial ⟨(congrArg (fun x => some (1, x)) hr8), trivial⟩ rfl
      refine zAA rfl (.m rfl rfl (.r rfl (zAW rfl rfl rfl (by omega)) (.a rfl rfl .nil))) ?_
      refine nxt (Q := fun _ _ => False) (z := i) (i + 1) ?_ ?_ ?_
      ·
       show (i + 1) ≤ l.length
       omega
      ·
       show l.length - (i + 1) < l.length - i
       omega
      · exact zAJ ⟨rfl, rfl, (zAE (by omega)), trivial⟩ trivial ⟨rfl, trivial⟩ rfl
     ·
      replace h7 : x.user = e.user := of_decide_eq_true (zAn h7)
      refine zAK ?_
      refine zAO (s' := mk [(0, .p none (.sl false 4 (pvE l))), (3, .sl 1 0 ((pvT (zAV (l.map (·.user)) i)).length)), (4, .vi (i:Int)), (19, .p none (.sl false 4 (pvE l))), (20, .vi (i:Int)), (21, .vi ((i - 1 : Nat):Int)), (22, .fea none [PV.v (.string x.user), PV.v (.int .i64 x.seq), PV.v (.int .i64 x.kind), PV.v (.string x.value)]), (23, .fea none [PV.v (.string x.user), PV.v (.int .i64 x.seq), PV.v (.int .i64 x.kind), PV.v (.string x.value)]), (24, .fea none [PV.v (.string x.user), PV.v (.int .i64 x.seq), PV.v (.int .i64 x.kind), PV.v (.string x.value)]), (25, .vs x.user), (26, .p none (.sl false 4 (pvE l))), (27, .vi (i:Int)), (28, .fea none [PV.v (.string e.user), PV.v (.int .i64 e.seq), PV.v (.int .i64 e.kind), PV.v (.string e.value)]), (29, .fea none [PV.v (.string e.user), PV.v (.int .i64 e.seq), PV.v (.int .i64 e.kind), PV.v (.string e.value)]), (30, .fea none [PV.v (.string e.user), PV.v (.int .i64 e.seq), PV.v (.int .i64 e.kind), PV.v (.string e.value)]), (31, .vs e.user), (32, .vb (!(decide (x.user = e.user))))] [] [(1, 1, pvT (zAV (l.map (·.user)) i))]) ?_ ?_
      · exact zAJ ⟨rfl, rfl, rfl, rfl, rfl, rfl, rfl, rfl, rfl, rfl, rfl, rfl, rfl, rfl, rfl, rfl, rfl, trivial⟩ trivial ⟨rfl, trivial⟩ rfl
      refine zAA rfl (.m rfl rfl (.r rfl (zAW rfl rfl rfl (by omega)) (.a rfl rfl .nil))) ?_
      refine nxt (Q := fun _ _ => False) (z := i) (i + 1) ?_ ?_ ?_
      ·
       show (i + 1) ≤ l.length
       omega
      ·
       show l.length - (i + 1) < l.length - i
       omega
      · exact zAJ ⟨rfl, (congrArg (fun z => AV.sl 1 0 (pvT z).length) (zKd hz hx he h7).symm), (zAE (by omega)), trivial⟩ trivial ⟨(congrArg (fun x => some (1, x)) (by rw [zKd hz hx he h7])), trivial⟩ rfl
    ·
     have h6' := h6
     replace h6' := of_decide_eq_true h6'
     omega
  ·
   replace h2 := of_decide_eq_false h2
   refine zAi ?_
   refine zAB (zAA rfl (.m rfl rfl (.a rfl rfl .nil)) ?_)
   have hr10 : pvT (zAV (l.map (·.user)) i) = pvT (zAz l) := by rw [show i = (l.map (·.user)).length by rw [List.length_map]; omega]; rfl
   have hp11 : (.sl 1 0 ((pvT (zAV (l.map (·.user)) i)).length) : AV) = .sl 1 0 ((pvT (zAz l)).length) := by simp only [hr10]
   refine zAO (s' := mk [(2, .sl 1 0 ((pvT (zAz l)).length))] [] [(1, 1, pvT (zAz l))]) ?_ ?_
   · exact zAJ ⟨hp11, trivial⟩ trivial ⟨(congrArg (fun x => some (1, x)) hr10), trivial⟩ rfl
   refine zAI ?_
   exact ends [_] [1] (.cons (.tmp rfl) .nil) (.cons (.one (.row (len := (pvT (zAz l)).length) (xs := pvT (zAz l)) rfl rfl) (.sl _ _ (FlatP.clean (zED _)))) .nil) (by decide) trivial
end Go.Rl

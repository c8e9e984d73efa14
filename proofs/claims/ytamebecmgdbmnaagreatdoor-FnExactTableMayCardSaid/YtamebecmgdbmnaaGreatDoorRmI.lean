/- Promises of functions, proved by walks over their operations; no conditions beyond those that each theorem states. -/
import Derived.Test.YtamebecmgdbmnaaGreatDoorRlJ
import Derived.RangeFuncNested
import Derived.Test.YtamebecmgdbmnaaGreatDoorReA
import Derived.Test.YtamebecmgdbmnaaGreatDoorRlT
set_option linter.unusedSimpArgs false
set_option linter.unusedVariables false
namespace Go.Rl
@[reducible] def modU : IntKind → Nat
 | .u8 => 256
 | .u16 => 65536
 | .u32 => 4294967296
 | _ => 18446744073709551616
theorem zIK {k : IntKind} (hs : k.signed = false) : modU k = 2 ^ k.bits := by cases k <;> simp_all [IntKind.signed, IntKind.bits]
theorem zNS {k : IntKind} (hs : k.signed = false) (x : Int) : k.wrap x = x % (modU k : Nat) := by
 rw [zIK hs]
 cases k <;> simp_all [IntKind.signed, IntKind.wrap, IntKind.bits]
theorem zCs {k : IntKind} (hs : k.signed = false) (a : Nat) : k.wrap (a : Int) = ((a % modU k : Nat) : Int) := by rw [zNS hs]; omega
theorem zEc (w a : Nat) : BitVec.ofInt w (a : Int) = BitVec.ofNat w a := by simp
theorem zLA {k : IntKind} (hs : k.signed = false) (a b : Nat) : zDv .xor k (a : Int) (b : Int) = (((a ^^^ b) % modU k : Nat) : Int) := by
 simp only [zDv, zEc, BitVec.toNat_xor, BitVec.toNat_ofNat]
 rw [zCs hs, zIK hs, ← Nat.xor_mod_two_pow, Nat.mod_mod]
theorem zOa {k : IntKind} (hs : k.signed = false) (a b : Nat) : zDv .and k (a : Int) (b : Int) = (((a &&& b) % modU k : Nat) : Int) := by
 simp only [zDv, zEc, BitVec.toNat_and, BitVec.toNat_ofNat]
 rw [zCs hs, zIK hs, ← Nat.and_mod_two_pow, Nat.mod_mod]
theorem bits_or {k : IntKind} (hs : k.signed = false) (a b : Nat) : zDv .or k (a : Int) (b : Int) = (((a ||| b) % modU k : Nat) : Int) := by
 simp only [zDv, zEc, BitVec.toNat_or, BitVec.toNat_ofNat]
 rw [zCs hs, zIK hs, ← Nat.or_mod_two_pow, Nat.mod_mod]
section
variable {γ : Gho} {P : Program} {n : Nat} {o : Oper} {M B : List Nat} {s : St} {xt yt : TypeId} {x y : Operand} {d d' : Option Nat} {k k' : IntKind}
theorem zBw (w : Nat) (hw : modU k = w) (a b : Nat) (hs : k.signed = false) (ho : o.op = .binOp .xor xt x y yt) (hx : s.ev x = .p d (.v (.int k (a : Int)))) (hy : s.ev y = .p d' (.v (.int k (b : Int)))) : StepD γ P n o M B s { put := (.p none (.v (.int k (((a ^^^ b) % w : Nat) : Int)))) } := by
 subst hw
 rw [← zLA hs]; exact zGM ho (.inr (.inr (.inl rfl))) hx hy
theorem zFa (w : Nat) (hw : modU k = w) (a b : Nat) (hs : k.signed = false) (ho : o.op = .binOp .and xt x y yt) (hx : s.ev x = .p d (.v (.int k (a : Int)))) (hy : s.ev y = .p d' (.v (.int k (b : Int)))) : StepD γ P n o M B s { put := (.p none (.v (.int k (((a &&& b) % w : Nat) : Int)))) } := by
 subst hw
 rw [← zOa hs]; exact zGM ho (.inl rfl) hx hy
theorem zC2 (w : Nat) (hw : modU k = w) (a b : Nat) (hs : k.signed = false) (ho : o.op = .binOp .or xt x y yt) (hx : s.ev x = .p d (.v (.int k (a : Int)))) (hy : s.ev y = .p d' (.v (.int k (b : Int)))) : StepD γ P n o M B s { put := (.p none (.v (.int k (((a ||| b) % w : Nat) : Int)))) } := by
 subst hw
 rw [← bits_or hs]; exact zGM ho (.inr (.inl rfl)) hx hy
theorem zFb (w : Nat) (hw : modU k = w) (a b : Nat) (hs : k.signed = false) (ho : o.op = .binOp .add xt x y yt) (hx : s.ev x = .p d (.v (.int k (a : Int)))) (hy : s.ev y = .p d' (.v (.int k (b : Int)))) : StepD γ P n o M B s { put := (.p none (.v (.int k (((a + b) % w : Nat) : Int)))) } := by
 subst hw
 have h := zOl (γ := γ) (P := P) (n := n) (M := M) (B := B) ho hx hy
 rw [show ((a : Int) + (b : Int)) = ((a + b : Nat) : Int) from (Int.natCast_add a b).symm, zCs hs] at h
 exact h
theorem zDQ (w : Nat) (hw : modU k = w) (a b : Nat) (hs : k.signed = false) (ho : o.op = .binOp .mul xt x y yt) (hx : s.ev x = .p d (.v (.int k (a : Int)))) (hy : s.ev y = .p d' (.v (.int k (b : Int)))) : StepD γ P n o M B s { put := (.p none (.v (.int k (((a * b) % w : Nat) : Int)))) } := by
 subst hw
 have h := zOk (γ := γ) (P := P) (n := n) (M := M) (B := B) ho hx hy
 rw [← Int.natCast_mul, zCs hs] at h
 exact h
theorem zDP (w : Nat) (hw : modU k = w) (a b : Nat) (hs : k.signed = false) (ho : o.op = .binOp .quo xt x y yt) (hx : s.ev x = .p d (.v (.int k (a : Int)))) (hy : s.ev y = .p d' (.v (.int k (b : Int)))) (hb : 0 < b) : StepD γ P n o M B s { put := (.p none (.v (.int k (((a / b) % w : Nat) : Int)))) } := by
 subst hw
 rw [← zCs hs, Int.natCast_ediv, ← Int.tdiv_eq_ediv_of_nonneg (Int.natCast_nonneg a)]; exact zE8 ho hx hy (by omega)
theorem zB1 (a b : Nat) (ho : o.op = .binOp .rem xt x y yt) (hx : s.ev x = .p d (.v (.int k (a : Int)))) (hy : s.ev y = .p d' (.v (.int k (b : Int)))) (hb : 0 < b) : StepD γ P n o M B s { put := (.p none (.v (.int k ((a % b : Nat) : Int)))) } := by
 have : ((a % b : Nat) : Int) = (a : Int).tmod (b : Int) := by rw [Int.tmod_eq_emod_of_nonneg (Int.natCast_nonneg a)]; exact Int.natCast_emod a b
 rw [this]; exact zKZ ho hx hy (by omega)
theorem zCk (w : Nat) (hw : modU k = w) (a c : Nat) (hs : k.signed = false) (ho : o.op = .binOp .shl xt x y yt) (hx : s.ev x = .p d (.v (.int k (a : Int)))) (hy : s.ev y = .p d' (.v (.int k' (c : Int)))) (hc : c ≤ k.bits) : StepD γ P n o M B s { put := (.p none (.v (.int k (((a * 2 ^ c) % w : Nat) : Int)))) } := by
 subst hw
 have h := zOj (γ := γ) (P := P) (n := n) (M := M) (B := B) ho hx hy (Int.natCast_nonneg c)
 rw [Int.toNat_natCast, Nat.min_eq_left hc, show ((a : Int) * 2 ^ c) = ((a * 2 ^ c : Nat) : Int) by push_cast; rfl, zCs hs] at h
 exact h
theorem zBZ (a c : Nat) (ho : o.op = .binOp .shr xt x y yt) (hx : s.ev x = .p d (.v (.int k (a : Int)))) (hy : s.ev y = .p d' (.v (.int k' (c : Int)))) (hc : c ≤ k.bits) : StepD γ P n o M B s { put := (.p none (.v (.int k ((a / 2 ^ c : Nat) : Int)))) } := by
 have h := st_shr (γ := γ) (P := P) (n := n) (M := M) (B := B) ho hx hy (Int.natCast_nonneg c)
 rw [Int.toNat_natCast, Nat.min_eq_left hc, show ((a : Int).fdiv (2 ^ c)) = ((a / 2 ^ c : Nat) : Int) by rw [Int.fdiv_eq_ediv_of_nonneg _ (by exact Int.le_of_lt (Int.pow_pos (by decide)))]; push_cast; rfl] at h
 exact h
theorem st_comU (w : Nat) (hw : modU k = w) (a : Nat) (hs : k.signed = false) (ho : o.op = .unOp .xor xt x) (hx : s.ev x = .p d (.v (.int k (a : Int)))) : StepD γ P n o M B s { put := (.p none (.v (.int k ((((w - 1) ^^^ a) % w : Nat) : Int)))) } := by
 subst hw
 rw [← zLA hs]
 have h := st_com (γ := γ) (P := P) (n := n) (M := M) (B := B) ho hx
 have hm : ((modU k - 1 : Nat) : Int) = if k.signed then -1 else k.max := by cases k <;> simp_all [IntKind.signed, IntKind.max, IntKind.bits]
 rw [hm]; exact h
theorem zAc (w : Nat) (hw : modU k' = w) (a : Nat) {t u : TypeId} {ds : TypeDesc} (hs : k'.signed = false) (ho : o.op = .convert t u x) (hx : s.ev x = .p d (.v (.int k (a : Int)))) (ht : P.underlying t = some ds) (hu : P.underlying u = some (.int k')) : StepD γ P n o M B s { put := .p none (.v (.int k' ((a % w : Nat) : Int))) } := by
 subst hw
 rw [← zCs hs]; exact zEF ho hx ht hu
end
end Go.Rl
namespace Go.Proofs
open Go.RowKit
def Bw.Reads (Bs : Nat) (zs : List Int) (W : World) : Prop :=
 ((∃ A c, W.cell? ⟨Bs, 0, none⟩ = some (.slice A 0 c)) ∧ zs = []) ∨ ∃ b off cap, W.cell? ⟨Bs, 0, none⟩ = some (.slice (some ⟨b, off, none⟩) zs.length cap) ∧ ∀ (j : Nat) (z : Int), zs[j]? = some z → W.cell? ⟨b, off + j, none⟩ = some (.int .i64 z)
def Bw.enc (zs : List Int) (k : Fin zs.length) : Array Value := #[.int .i64 (k.1 : Int), .int .i64 (zs[k.1]'k.2)]
def Bw.upto (zs : List Int) : Nat → List (Fin zs.length)
 | 0 => []
 | k + 1 => Bw.upto zs k ++ (if h : zs.length - 1 - k < zs.length then [⟨zs.length - 1 - k, h⟩] else [])
def Bw.Contract (P : Program) (gf : Nat) : Prop :=
 ∀ (F : Fence) (n : Nat), F.fn gf → F.round = none → 1 ≤ n → ∀ (l Bs : Nat) (zs : List Int), zs.length ≤ 1000000000 → ∀ (J Jx : List (Fin zs.length) → World → Prop),
  (∀ pre x W, J pre W → pre.length < zs.length → YieldAt F (n - 1) P l (Bw.enc zs x) W fun e W' =>
   (e = .returned (.bool true) ∧ J (pre ++ [x]) W' ∧ (Bw.Reads Bs zs W → Bw.Reads Bs zs W')) ∨ (e = .returned (.bool false) ∧ Jx (pre ++ [x]) W')) →
  ∀ W : World, Bw.Reads Bs zs W → J [] W →
   CallsIn F n P gf #[.func (.yield l) #[] #[], .pointer (some ⟨Bs, 0, none⟩)] W fun e W' => (∃ v, e = .returned v) ∧
    ((∃ ys, ys = Bw.upto zs zs.length ∧ J ys W') ∨ (∃ pre, True ∧ Jx pre W'))
theorem Bw.Reads.below {Bs : Nat} {zs : List Int} {A B : World} {n₀ : Nat} (h : Below n₀ A B) (hn : A.heap.size ≤ n₀) (hr : Bw.Reads Bs zs A) : Bw.Reads Bs zs B := by
 have old : ∀ (k j : Nat) v, A.cell? ⟨k, j, none⟩ = some v → B.cell? ⟨k, j, none⟩ = some v := fun k j v hv => by
  have hk : k < A.heap.size := by
   cases e : A.heap[k]? with
   | none => simp [World.cell?, e] at hv
   | some o => exact (Array.getElem?_eq_some_iff.1 e).1
  exact (h.cell (p := ⟨k, j, none⟩) (Nat.lt_of_lt_of_le hk hn)).trans hv
 rcases hr with ⟨⟨A, c, h1⟩, h2⟩ | ⟨b, off, cap, h1, h2⟩
 · exact .inl ⟨⟨A, c, old _ _ _ h1⟩, h2⟩
 · exact .inr ⟨b, off, cap, old _ _ _ h1, fun j z hz => old _ _ _ (h2 j z hz)⟩
theorem Bw.Contract.stops {P : Program} {gf : Nat} (hC : Bw.Contract P gf) {F : Fence} {n : Nat} (hf : F.fn gf) (hro : F.round = none) (hn : 1 ≤ n) {Bs : Nat} {zs : List Int} (hz : zs.length ≤ 1000000000) {w : World} (hr : Bw.Reads Bs zs w) :
  SeqStopsK F n P gf #[.pointer (some ⟨Bs, 0, none⟩)] (Bw.enc zs) (fun A B => Bw.Reads Bs zs A → Bw.Reads Bs zs B) (fun xs => xs = Bw.upto zs zs.length) (fun _ => True) zs.length w := fun l J Jx W hW _ _ hY h0 =>
 hC F n hf hro hn l Bs zs hz J Jx hY W (hr.below hW (Nat.le_refl _)) h0
end Go.Proofs
namespace Go.Rl
open Go.Proofs
def older (out : List Ent) (e : Ent) : Bool := match out with
 | [] => false
 | o :: _ => decide (o.user = e.user)
def cstep (bot : Bool) (out : List Ent) (e : Ent) : List Ent := if (bot && decide (e.kind = 0) && !older out e) = true then out else e :: out
def cplace (l : List Ent) (bot : Bool) (out : List Ent) (z : Int) : List Ent := match l[z.toNat]? with
 | some e => cstep bot out e
 | none => out
def compP (l : List Ent) (bot : Bool) (zs : List Int) (pre : List (Fin zs.length)) : List Ent := pre.foldl (fun out x => cplace l bot out (zs[x.1]'x.2)) []
def compU (l : List Ent) (bot : Bool) (zs : List Int) (k : Nat) : List Ent := compP l bot zs (Bw.upto zs k)
def compactedF (l : List Ent) (s : List Int) (bot : Bool) : List Ent := if zBJ l = true ∧ zMB s = true then compU l bot (zN7 l (zKE s) l.length) (zN7 l (zKE s) l.length).length else []
def lastU (out : List Ent) : ByteArray := match out with
 | [] => ⟨#[]⟩
 | o :: _ => o.user
def anyE (out : List Ent) : Bool := match out with
 | [] => false
 | _ :: _ => true
def pvE_rev (l : List Ent) : List (List PV) := pvE l.reverse
def Swapped (l m : List Ent) (i : Nat) : Prop := m.length = l.length ∧ ∀ k, k < l.length → m[k]? = if k < i ∨ l.length - i ≤ k then l[l.length - 1 - k]? else l[k]?
end Go.Rl
namespace Go.Rl
def pvRd (x : Value × Nat) : List (List PV) := [[.v x.1, .v (.int .i64 x.2)]]
def zN6 (bs : List Nat) (p : Nat) : Nat := bs.getD p 0
def zMh (bs : List Nat) (p : Nat) : Nat := if p < bs.length then p + 1 else p
def zCr (bs : List Nat) (p n : Nat) : Nat := if n ≤ 1 then 0 else if n ≤ 256 then zN6 bs p % n else (zN6 bs p * 256 + zN6 bs (zMh bs p)) % n
def zBz (bs : List Nat) (p n : Nat) : Nat := if n ≤ 1 then p else if n ≤ 256 then zMh bs p else zMh bs (zMh bs p)
def zNT (x : Int) (v : Nat) : Int := zDv .or .u64 (IntKind.u64.wrap (x * 2 ^ min (8 : Int).toNat IntKind.u64.bits)) (IntKind.u64.wrap (v : Int))
def wordF (bs : List Nat) : Nat → Int → Nat → Int × Nat
 | 0, x, p => (x, p)
 | n + 1, x, p => wordF bs n (zNT x (zN6 bs p)) (zMh bs p)
def wordV (bs : List Nat) (p : Nat) : Int := (wordF bs 8 0 p).1
def wordP (bs : List Nat) (p : Nat) : Nat := (wordF bs 8 0 p).2
def nearV (bs : List Nat) (p : Nat) (low high : Int) : Int :=
 if zCr bs p 8 = 0 then low else if zCr bs p 8 = 1 then high else if high < low then low
 else IntKind.i64.wrap (low + IntKind.i64.wrap (((wordV bs (zBz bs p 8)).fdiv (2 ^ min (1 : Int).toNat IntKind.u64.bits)).tmod (IntKind.u64.wrap (high - low + 1))))
def nearP (bs : List Nat) (p : Nat) (low high : Int) : Nat :=
 if zCr bs p 8 = 0 then zBz bs p 8 else if zCr bs p 8 = 1 then zBz bs p 8 else if high < low then zBz bs p 8 else wordP bs (zBz bs p 8)
def zMg (bs : List Nat) (p n : Nat) : Bool := decide (zCr bs p n = n - 1)
def offL (low high : Int) : List Int := [low - 1, high + 1, -9223372036854775808, 9223372036854775807]
def offV (bs : List Nat) (p : Nat) (low high : Int) : Int :=
 if zMg bs p 24 = true then (offL low high).getD (zCr bs (zBz bs p 24) 4) 0 else nearV bs (zBz bs p 24) low high
def offP (bs : List Nat) (p : Nat) (low high : Int) : Nat :=
 if zMg bs p 24 = true then zBz bs (zBz bs p 24) 4 else nearP bs (zBz bs p 24) low high
theorem getD_some {α : Type} {l : List α} {k : Nat} {d : α} (h : k < l.length) : l[k]? = some (l.getD k d) := by
 rw [List.getD_eq_getElem?_getD, List.getElem?_eq_getElem h]
 rfl
def usersL : List ByteArray := [⟨#[97]⟩, ⟨#[98]⟩, ⟨#[97, 98]⟩, ⟨#[97, 98, 99]⟩, ⟨#[97, 98, 100]⟩, ⟨#[107, 101, 121]⟩, ⟨#[107, 101, 121, 49]⟩, ⟨#[107, 101, 121, 50]⟩, ⟨#[122, 122]⟩, ⟨#[97, 0]⟩]
def userV (bs : List Nat) (p : Nat) : ByteArray := usersL.getD (zCr bs p 10) ⟨#[]⟩
def userP (bs : List Nat) (p : Nat) : Nat := zBz bs p 10
end Go.Rl
namespace Go.Rl
section
variable {X : List (List PV)} {k : Nat} {z : List PV}
abbrev delL (X : List (List PV)) (k : Nat) : Nat := k + (X.length - (k + 1))
end
def cntF {α : Type} (p : α → Bool) (l : List α) : Nat := (l.takeWhile p).length
def MonoP {α : Type} (p : α → Bool) (l : List α) : Prop := ∀ (i j : Nat) x y, i ≤ j → l[i]? = some x → l[j]? = some y → p y = true → p x = true
def Halves {α : Type} (p : α → Bool) (l : List α) (i j : Nat) : Prop := (∀ (k : Nat) x, k < i → l[k]? = some x → p x = true) ∧ ∀ (k : Nat) x, j ≤ k → l[k]? = some x → p x = false
end Go.Rl
namespace Go.Rl
theorem zJx (ns : List Int) : ∀ r : ByteArray, (ns.foldl (fun r n => r.push (UInt8.ofNat n.toNat)) r).size = r.size + ns.length := by
 induction ns with
 | nil => intro r; simp
 | cons n ns ih => intro r; rw [List.foldl_cons, ih, ByteArray.size_push, List.length_cons]; omega
theorem zDN (ns : List Int) : (zB0 ns).size = ns.length := by
 have := zJx ns ByteArray.empty
 simpa [zB0] using this
def pvU (l : List Int) : List (List PV) := l.map fun n => [.v (.int .u8 n)]
def zO3 (bs : List Nat) : Nat → List Int → Nat → List Int × Nat
 | 0, l, p => (l, p)
 | n + 1, l, p => zO3 bs n (l ++ [IntKind.u8.wrap ((zCr bs p 256 : Nat) : Int)]) (zBz bs p 256)
def zO2 (bs : List Nat) (p most : Nat) : List Int × Nat := zO3 bs (zCr bs p (most + 1)) [] (zBz bs p (most + 1))
def bytesV (bs : List Nat) (p most : Nat) : ByteArray := zB0 (zO2 bs p most).1
def bytesP (bs : List Nat) (p most : Nat) : Nat := (zO2 bs p most).2
def valuesL : List ByteArray := [⟨#[]⟩, ⟨#[49]⟩, ⟨#[50]⟩, ⟨#[118, 97, 108, 117, 101]⟩, ⟨#[118, 118]⟩]
def valueV (bs : List Nat) (p : Nat) : ByteArray := valuesL.getD (zCr bs p 5) ⟨#[]⟩
def key0 (bs : List Nat) (p : Nat) : Ent := ⟨userV bs p, nearV bs (userP bs p) 0 12, ((zCr bs (nearP bs (userP bs p) 0 12) 2 : Nat) : Int), ⟨#[]⟩⟩
def zFe (bs : List Nat) (p : Nat) : Nat := zBz bs (nearP bs (userP bs p) 0 12) 2
def keyV (bs : List Nat) (p : Nat) : Ent :=
 if zCr bs (zFe bs p) 24 = 0 then { key0 bs p with seq := offV bs (zBz bs (zFe bs p) 24) 0 1000000000000 }
 else if zCr bs (zFe bs p) 24 = 1 then { key0 bs p with kind := offV bs (zBz bs (zFe bs p) 24) 0 1 }
 else if zCr bs (zFe bs p) 24 = 2 then { key0 bs p with user := bytesV bs (zBz bs (zFe bs p) 24) 45 }
 else key0 bs p
def keyP (bs : List Nat) (p : Nat) : Nat :=
 if zCr bs (zFe bs p) 24 = 0 then offP bs (zBz bs (zFe bs p) 24) 0 1000000000000
 else if zCr bs (zFe bs p) 24 = 1 then offP bs (zBz bs (zFe bs p) 24) 0 1
 else if zCr bs (zFe bs p) 24 = 2 then bytesP bs (zBz bs (zFe bs p) 24) 45
 else zBz bs (zFe bs p) 24
def ent0 (bs : List Nat) (p : Nat) : Ent := { keyV bs p with value := valueV bs (keyP bs p) }
def ent0P (bs : List Nat) (p : Nat) : Nat := zBz bs (keyP bs p) 5
def zOz (bs : List Nat) (p : Nat) : Ent := if (ent0 bs p).kind = 0 then (if zMg bs (ent0P bs p) 12 = true then ent0 bs p else { ent0 bs p with value := ⟨#[]⟩ }) else ent0 bs p
def zO0 (bs : List Nat) (p : Nat) : Nat := if (ent0 bs p).kind = 0 then zBz bs (ent0P bs p) 12 else ent0P bs p
def zJn (out : List Ent) (e : Ent) : Nat := cntF (fun x => decide (kcmp x e < 0)) out
def sameKey (a b : Ent) : Bool := decide (a.user = b.user ∧ a.seq = b.seq ∧ a.kind = b.kind)
def entIns (out : List Ent) (e : Ent) : List Ent :=
 if zBp e = true then (match out[zJn out e]? with
  | some x => if (x.user, x.seq, x.kind) = (e.user, e.seq, e.kind) then out else out.take (zJn out e) ++ [e] ++ out.drop (zJn out e)
  | none => out.take (zJn out e) ++ [e] ++ out.drop (zJn out e)) else out
def zM3 (bs : List Nat) : Nat → List Ent × Nat → List Ent × Nat
 | 0, x => x
 | i + 1, x => zM3 bs i (entIns x.1 (zOz bs x.2), zO0 bs x.2)
def entBase (bs : List Nat) (p most : Nat) : List Ent × Nat := zM3 bs (zCr bs p (most + 1)) ([], zBz bs p (most + 1))
def entsR (bs : List Nat) (p most : Nat) : List Ent × Nat :=
 let x := entBase bs p most
 if zMg bs x.2 24 = true then (x.1 ++ [zOz bs (zBz bs x.2 24)], zO0 bs (zBz bs x.2 24)) else (x.1, zBz bs x.2 24)
abbrev SnSt := List Int × Int × Nat
def snLast (out : List Int) (n : Int) : Bool := match out[out.length - 1]? with
 | some x => decide (x < n)
 | none => true
def snStep (bs : List Nat) (x : SnSt) : SnSt :=
 let n := x.2.1 + ((zCr bs x.2.2 6 : Nat) : Int)
 let q := zBz bs x.2.2 6
 if snLast x.1 n = true then (x.1 ++ [n], n, q)
 else if zMg bs q 12 = true then (x.1 ++ [n], n, zBz bs q 12) else (x.1, n, zBz bs q 12)
def zOo (bs : List Nat) : Nat → SnSt → SnSt
 | 0, x => x
 | i + 1, x => zOo bs i (snStep bs x)
def zOn (bs : List Nat) (p : Nat) : SnSt := zOo bs (zCr bs p 4) ([], 0, zBz bs p 4)
def snapsV (bs : List Nat) (p : Nat) : List Int := (zOn bs p).1
def snapsP (bs : List Nat) (p : Nat) : Nat := (zOn bs p).2.2
end Go.Rl
namespace Go.Rl
def putL (n : Nat) : List Int := if n < 128 then [(n : Int)] else ((n % 128 + 128 : Nat) : Int) :: putL (n / 128)
termination_by n
decreasing_by omega
theorem zIG {n : Nat} (h : n < 128) : putL n = [(n : Int)] := by rw [putL, if_pos h]
theorem zKB {n : Nat} (h : ¬ n < 128) : putL n = ((n % 128 + 128 : Nat) : Int) :: putL (n / 128) := by rw [putL, if_neg h]
def putV (n : Nat) : ByteArray := zB0 (putL n)
set_option maxRecDepth 100000 in
theorem or_128 (m : Nat) : ((m % 256) ||| 128) % 256 = m % 128 + 128 := by
 have key : ∀ r : Fin 256, (r.1 ||| 128) % 256 = r.1 % 128 + 128 := by decide
 have := key ⟨m % 256, Nat.mod_lt _ (by decide)⟩
 simp only at this
 omega
theorem zIH : ∀ (k n : Nat), n < 128 ^ (k + 1) → (putL n).length ≤ k + 1
 | 0, n, h => by rw [zIG (by simpa using h)]; simp
 | k + 1, n, h => by
  by_cases hn : n < 128
  · rw [zIG hn]; simp
  ·
   rw [zKB hn]
   have := zIH k (n / 128) (by rw [Nat.pow_succ] at h; exact Nat.div_lt_of_lt_mul (by rw [Nat.mul_comm]; exact h))
   simp only [List.length_cons]
   omega
theorem zA4 {n : Nat} (h : n < 18446744073709551616) : (putV n).size ≤ 10 := by
 rw [putV, zDN]
 exact zIH 9 n (Nat.lt_of_lt_of_le h (by decide))
def putX (s : ByteArray) : ByteArray := putV s.size ++ s
def fixL (x : Nat) : List Int := [((x % 256 : Nat) : Int), (((x / 2 ^ 8) % 256 : Nat) : Int), (((x / 2 ^ 16) % 256 : Nat) : Int), (((x / 2 ^ 24) % 256 : Nat) : Int)]
def fixV (x : Nat) : ByteArray := zB0 (fixL x)
theorem zAU (x : Nat) : (fixV x).size = 4 := by rw [fixV, zDN]; rfl
def crcB (x : Nat) : Nat := if x % 2 = 1 then ((x / 2) ^^^ 2197175160) % 4294967296 else x / 2
def crcI : Nat → Nat → Nat
 | 0, x => x
 | k + 1, x => crcB (crcI k x)
def crcS (x b : Nat) : Nat := crcI 8 ((x ^^^ (b % 4294967296)) % 4294967296)
theorem crcB_lt {x : Nat} (h : x < 4294967296) : crcB x < 4294967296 := by
 unfold crcB
 split <;> omega
theorem zIb {x : Nat} (h : x < 4294967296) : ∀ k, crcI k x < 4294967296
 | 0 => h
 | k + 1 => crcB_lt (zIb h k)
theorem crcS_lt (x b : Nat) : crcS x b < 4294967296 := zIb (Nat.mod_lt _ (by decide)) 8
theorem zHk {α β : Type} {f : α → β → α} {a : α} {l : List β} {i : Nat} {b : β} (h : l[i]? = some b) : (l.take (i + 1)).foldl f a = f ((l.take i).foldl f a) b := by
 rw [List.take_add_one, h]
 simp [List.foldl_append]
def crcT (s : ByteArray) (i : Nat) : Nat := (s.data.toList.take i).foldl (fun x b => crcS x b.toNat) 4294967295
theorem zGw {s : ByteArray} {i : Nat} {b : UInt8} (h : s.data.toList[i]? = some b) : crcT s (i + 1) = crcS (crcT s i) b.toNat := zHk (f := fun (x : Nat) (b : UInt8) => crcS x b.toNat) h
theorem zKM (s : ByteArray) : ∀ i, crcT s i < 4294967296
 | 0 => by simp [crcT]
 | i + 1 => by
  cases h : s.data.toList[i]? with
  | none =>
   have : crcT s (i + 1) = crcT s i := by unfold crcT; rw [List.take_add_one, h]; simp
   rw [this]; exact zKM s i
  | some b => rw [zGw h]; exact crcS_lt _ _
def crcF (s : ByteArray) : Nat := (crcT s s.size ^^^ 4294967295) % 4294967296
theorem zND (s : ByteArray) : crcF s < 4294967296 := Nat.mod_lt _ (by decide)
abbrev M64 : Nat := 18446744073709551616
def zMu (h b : Nat) : Nat := (((h ^^^ (b % 18446744073709551616)) % 18446744073709551616) * 1099511628211) % 18446744073709551616
def zOD (seed : Nat) : Nat := (14695981039346656037 ^^^ (((seed % 18446744073709551616) * 11400714819323198485) % 18446744073709551616)) % 18446744073709551616
def zB4 (seed : Nat) (s : ByteArray) (i : Nat) : Nat := (s.data.toList.take i).foldl (fun h b => zMu h b.toNat) (zOD seed)
theorem zHh {seed : Nat} {s : ByteArray} {i : Nat} {b : UInt8} (h : s.data.toList[i]? = some b) : zB4 seed s (i + 1) = zMu (zB4 seed s i) b.toNat := zHk (f := fun (x : Nat) (b : UInt8) => zMu x b.toNat) h
def mixA (h : Nat) : Nat := (((h ^^^ (h / 2 ^ 30)) % 18446744073709551616) * 13787848793156543929) % 18446744073709551616
def mixB (h : Nat) : Nat := (((h ^^^ (h / 2 ^ 27)) % 18446744073709551616) * 10723151780598845931) % 18446744073709551616
def mixC (h : Nat) : Nat := (h ^^^ (h / 2 ^ 31)) % 18446744073709551616
def zAj (seed : Nat) (s : ByteArray) : Nat := mixC (mixB (mixA (zB4 seed s s.size)))
theorem zK0 (seed : Nat) (s : ByteArray) : zAj seed s < 18446744073709551616 := Nat.mod_lt _ (by decide)
def zCU : List UInt8 → List UInt8 → Nat
 | a :: l, b :: m => if a = b then zCU l m + 1 else 0
 | _, _ => 0
def zBN (a b : ByteArray) : Nat := zCU a.data.toList b.data.toList
theorem zHK : ∀ l m : List UInt8, zCU l m ≤ l.length ∧ zCU l m ≤ m.length
 | [], m => by simp [zCU]
 | a :: l, [] => by simp [zCU]
 | a :: l, b :: m => by
  have := zHK l m
  unfold zCU
  split <;> simp <;> omega
theorem zHL : ∀ {l m : List UInt8} {n : Nat}, (∀ j x y, j < n → l[j]? = some x → m[j]? = some y → x = y) → n ≤ l.length → n ≤ m.length → (n = l.length ∨ n = m.length ∨ ∃ x y, l[n]? = some x ∧ m[n]? = some y ∧ x ≠ y) → zCU l m = n
 | [], m, n, _, h1, _, _ => by simp at h1; simp [zCU, h1]
 | a :: l, [], n, _, _, h2, _ => by simp at h2; simp [zCU, h2]
 | a :: l, b :: m, 0, _, _, _, h => by
  rcases h with h | h | ⟨x, y, hx, hy, hn⟩
  · simp at h
  · simp at h
  ·
   simp at hx hy
   subst hx hy
   simp [zCU, hn]
 | a :: l, b :: m, n + 1, hG, h1, h2, h => by
  have h0 := hG 0 a b (by omega) rfl rfl
  have := zHL (l := l) (m := m) (n := n) (fun j x y hj hx hy => hG (j + 1) x y (by omega) (by simpa using hx) (by simpa using hy)) (by simpa using h1) (by simpa using h2) (by
   rcases h with h | h | ⟨x, y, hx, hy, hn⟩
   · exact .inl (by simpa using h)
   · exact .inr (.inl (by simpa using h))
   · exact .inr (.inr ⟨x, y, by simpa using hx, by simpa using hy, hn⟩))
  simp [zCU, h0, this]
end Go.Rl
namespace Go.Rl
theorem zF0 (a b c : ByteArray) : a ++ b ++ c = a ++ (b ++ c) := ByteArray.append_assoc
theorem zAZ (a b : ByteArray) : (a ++ b).size = a.size + b.size := ByteArray.size_append
theorem zO8 (s : ByteArray) : s.extract 0 s.size = s := by simp
theorem zEQ {s : ByteArray} {i : Nat} {c : UInt8} (h : s[i]? = some c) : s.data.toList[i]? = some c := by
 have := (getElem?_eq_some_iff.1 h)
 obtain ⟨hi, hc⟩ := this
 rw [List.getElem?_eq_some_iff]
 exact ⟨hi, hc⟩
theorem zFz (s : ByteArray) : s.data.toList.length = s.size := by simp
def keyN (e : Ent) : Nat := (2 * e.seq + e.kind).toNat
def keyT (e : Ent) : ByteArray := e.user ++ fixV (keyN e % 4294967296) ++ fixV ((keyN e / 2 ^ 32) % 4294967296)
structure Blk where
 out : ByteArray
 anew : ByteArray
 ahead : ByteArray
 many : Nat
def blkS (ev i : Nat) (b : Blk) (e : Ent) : Blk :=
 if i % ev = 0 then ⟨b.out ++ putV 0 ++ putX (keyT e) ++ putX e.value, b.anew ++ fixV (b.out.size % 4294967296), keyT e, b.many + 1⟩
 else ⟨b.out ++ putV (zBN b.ahead (keyT e)) ++ putX ((keyT e).extract (zBN b.ahead (keyT e)) (keyT e).size) ++ putX e.value, b.anew, keyT e, b.many⟩
def blkN (l : List Ent) (ev : Nat) : Nat → Blk
 | 0 => ⟨⟨#[]⟩, ⟨#[]⟩, ⟨#[]⟩, 0⟩
 | i + 1 => match l[i]? with
  | some e => blkS ev i (blkN l ev i) e
  | none => blkN l ev i
theorem zCC {l : List Ent} {ev i : Nat} {e : Ent} (h : l[i]? = some e) : blkN l ev (i + 1) = blkS ev i (blkN l ev i) e := by simp [blkN, h]
def blkF (l : List Ent) (ev : Nat) : ByteArray := (blkN l ev l.length).out ++ (blkN l ev l.length).anew ++ fixV (blkN l ev l.length).many ++ fixV (ev % 4294967296)
theorem zJg {l : List Ent} {ev : Nat} : ∀ {i k : Nat}, i ≤ k → blkN (l.take k) ev i = blkN l ev i
 | 0, _, _ => rfl
 | i + 1, k, h => by
  have e1 : (l.take k)[i]? = l[i]? := by rw [List.getElem?_take, if_pos (by omega)]
  simp only [blkN, e1]
  rw [zJg (by omega)]
end Go.Rl
namespace Go.Rl
def zDt (h : Nat) : Nat := ((h / 2 ^ 33) ||| ((h * 2 ^ 31) % 18446744073709551616)) % 18446744073709551616
def bloomP (u : ByteArray) (i m : Nat) : Nat := ((zAj 0 u + (i * zDt (zAj 0 u)) % 18446744073709551616) % 18446744073709551616) % m
def zOX (bits : List Int) (p : Nat) : List Int := match bits[p / 8]? with
 | some b => bits.set (p / 8) ((((b.toNat ||| ((1 * 2 ^ (p % 8)) % 256)) % 256 : Nat) : Int))
 | none => bits
def zO4 (bits : List Int) (u : ByteArray) (m : Nat) : Nat → List Int
 | 0 => bits
 | k + 1 => zOX (zO4 bits u m k) (bloomP u k m)
def zO5 (us : List ByteArray) (m n : Nat) (k : Nat) : Nat → List Int
 | 0 => List.replicate n 0
 | i + 1 => match us[i]? with
  | some u => zO4 (zO5 us m n k i) u m k
  | none => zO5 us m n k i
def zB7 (x : Nat) : Nat → Nat
 | 0 => 0
 | k + 1 => if x % 2 = 0 then zB7 (x / 2) k + 1 else 0
theorem zLo (x : Nat) : ∀ k, zB7 x k ≤ k := by
 intro k
 induction k generalizing x with
 | zero => exact Nat.le_refl 0
 | succ k ih =>
  unfold zB7
  have := ih (x / 2)
  split <;> omega
def zBV (u : ByteArray) : Nat := zB7 (zAj 7 u / 64) 57 + 1
def zC1 (u : ByteArray) : Nat := zAj 7 u % 64
end Go.Rl
namespace Go.Rl
theorem zJo {a b : Nat} (ha : a % 2 = 1) (hb : b % 2 = 1) : (a ^^^ b) % 2 = 0 := by
 have := Nat.xor_mod_two_pow (a := a) (b := b) (n := 1)
 simp only [Nat.pow_one] at this
 rw [this, ha, hb]
 rfl
def zOq (m at_ row sum : Nat) (B S : List Nat) : Option (List Nat × List Nat) :=
 if h : at_ < m then
  if h0 : row = 0 then (if sum = 0 then some (B, S) else none)
  else if h1 : row % 2 = 0 then zOq m (at_ + 1) (row / 2) sum B S
  else if B.getD at_ 0 = 0 then some (B.set at_ row, S.set at_ sum)
  else if h2 : B.getD at_ 0 % 2 = 0 then none
  else zOq m at_ (row ^^^ B.getD at_ 0) (sum ^^^ S.getD at_ 0) B S
 else if row = 0 ∧ sum = 0 then some (B, S) else none
termination_by 2 * (m - at_) + row % 2
decreasing_by
 · omega
 ·
  have := zJo (a := row) (b := B.getD at_ 0) (by omega) (by omega)
  omega
end Go.Rl
namespace Go.Rl
open Go.Proofs Go.Proofs.Tryz
set_option maxRecDepth 1000000
set_option maxHeartbeats 2000000
theorem inf5 : (Tryz.prog.info? 5).map (fun i => (i.zero, i.size, i.bytes)) = some (some (.int .u8 0), 1, 1) := by kernel_rfl
theorem en105 : En Tryz.prog 105 := zAl func105 (by decide) rfl
theorem en32 : En Tryz.prog 32 := zAl func32 (by decide) rfl
theorem zGi (l : List Int) (x : Int) : pvB l ++ [[PV.v (.int .u8 x)]] = pvB (l ++ [x]) := by simp [pvB]
theorem zCR (l : List Int) : (pvB l).length = l.length := by simp [pvB]
theorem zMU {n : Nat} (h : n < 18446744073709551616) : (putL n).length ≤ 10 := zIH 9 n (Nat.lt_of_lt_of_le h (by decide))
theorem zI5 {out : List Int} {m n : Nat} (h : ¬ (m : Int) < 128) (hE : out ++ putL m = putL n) : (out ++ [((m % 128 + 128 : Nat) : Int)]) ++ putL (m / 128) = putL n := by rw [← hE, zKB (n := m) (by omega), List.append_assoc]; rfl
theorem zI6 {out : List Int} {m n : Nat} {x : Nat} (h : ¬ (128 : Int) ≤ (m : Int)) (hE : out ++ putL m = putL n) (hx : x = m) : pvB out ++ [[PV.v (.int .u8 (x : Int))]] = pvB (putL n) := by rw [← hE, zIG (by omega), hx]; exact zGi _ _
theorem zNB {c : Nat} (h : (((c &&& 1) % 4294967296 : Nat) : Int) = 1) : c % 2 = 1 := by rw [Nat.and_one_is_mod] at h; omega
theorem zNC {c : Nat} (h : ¬ (((c &&& 1) % 4294967296 : Nat) : Int) = 1) : ¬ c % 2 = 1 := by rw [Nat.and_one_is_mod] at h; omega
theorem zM9 {c : Nat} (h : ((c % 2 : Nat) : Int) = 1) : c % 2 = 1 := by omega
theorem zNA {c : Nat} (h : ¬ ((c % 2 : Nat) : Int) = 1) : ¬ c % 2 = 1 := by omega
theorem zHW (n : Nat) (hn : n < 18446744073709551616) : Con Tryz.prog 105 [.one (PV.v (.int .u64 (n:Int)))] [] [.one (.v (.string (putV n)))] := by
 refine zAR func105 rfl rfl rfl rfl ?_
 refine zAB (zAA rfl (.a rfl rfl .nil) ?_)
 refine zAB (zAA rfl (.run [400] [] rfl (zAy rfl 400 underlying22 inf5 (nle rfl) (by decide) rfl rfl rfl .nil (by decide) rfl (by decide) rfl (by decide) rfl) (.a rfl rfl .nil)) ?_)
 refine zAB ?_
 refine zAS ?_
 refine zAQ (zCc 400 1 rfl rfl (by decide)) ?_
 refine zAo (σ := Nat × List Int) (fun (m, out) => mk [(0, .p none (.v (.int .u64 (m:Int)))), (3, .sl 1 0 ((pvB out).length))] [] [(1, 1, pvB out)]) (fun (m, out) => m < 18446744073709551616 ∧ out ++ putL m = putL n) (fun (m, out) => m) (n, []) ⟨hn, rfl⟩ (zAJ ⟨rfl, rfl, trivial⟩ trivial ⟨(congrArg (fun x => some (1, x)) (by rfl)), trivial⟩ rfl) ?_
 rintro ⟨m, out⟩ hG
 replace hG : m < 18446744073709551616 ∧ out ++ putL m = putL n := hG
 obtain ⟨hm, hE⟩ := hG
 have hlo := congrArg List.length hE
 rw [List.length_append] at hlo
 have hln := zMU hn
 have hob := zCR out
 refine zAB ?_
 refine zAB (zAA rfl (.m rfl rfl (.r rfl (zDF rfl rfl rfl) .nil)) ?_)
 refine zAT (t := decide (128 ≤ (m:Int))) rfl (fun h1 => ?_) (fun h1 => ?_)
 ·
  replace h1 := of_decide_eq_true h1
  refine zAM ?_
  refine zAB ?_
  refine zAS ?_
  refine zAA rfl (.m rfl rfl (.m rfl rfl (.r rfl (zAc (k' := .u8) 256 rfl m rfl rfl rfl underlying58 underlying5) (.r rfl (zC2 (k := .u8) 256 rfl (m % 256) 128 rfl rfl rfl rfl) (.run [1300] [] rfl (zAy rfl 1300 underlying22 inf5 (nle rfl) (by decide) rfl rfl rfl (.cons .v .nil) (by decide) rfl (by decide) rfl (by decide) rfl) (.run [1] [] rfl (zB2 rfl 1 (ib := 1) (len := ((pvB out) ++ [[PV.v (.int .u8 ((((m % 256) ||| 128) % 256 : Nat) : Int))]]).length) rfl rfl (.row (len := (pvB out).length) (xs := pvB out) rfl rfl (.inl rfl)) (.give (len := 1) (xs := [[PV.v (.int .u8 ((((m % 256) ||| 128) % 256 : Nat) : Int))]]) rfl rfl) underlying22 (sk underlying22 rfl) inf5 rfl (by decide) (by decide) (by decide) List.length_append (by simp only [maxLen, List.length_append, List.length_cons, List.length_nil, zCR]; omega) (by simp only [maxLen, List.length_append, List.length_cons, List.length_nil, zCR]; omega)) (.a rfl rfl .nil))))))) ?_
  have hr2 : (pvB out) ++ [[PV.v (.int .u8 ((((m % 256) ||| 128) % 256 : Nat) : Int))]] = pvB (out ++ [((m % 128 + 128 : Nat) : Int)]) := by rw [or_128]; exact zGi _ _
  have hp3 : (.sl 1 0 (((pvB out) ++ [[PV.v (.int .u8 ((((m % 256) ||| 128) % 256 : Nat) : Int))]]).length) : AV) = .sl 1 0 ((pvB (out ++ [((m % 128 + 128 : Nat) : Int)])).length) := by simp only [hr2]
  refine zAQ (s' := mk [(0, .p none (.v (.int .u64 (m:Int)))), (3, .sl 1 0 ((pvB (out ++ [((m % 128 + 128 : Nat) : Int)])).length))] [] [(1, 1, pvB (out ++ [((m % 128 + 128 : Nat) : Int)]))]) ?_ ?_
  · exact zAJ ⟨rfl, hp3, trivial⟩ trivial ⟨(congrArg (fun x => some (1, x)) hr2), trivial⟩ rfl
  refine zAA rfl (.m rfl rfl (.r rfl (zBZ m 7 rfl rfl rfl (by decide)) (.a rfl rfl .nil))) ?_
  refine nxt (Q := fun _ _ => False) (z := (m, out)) (m / 128, out ++ [((m % 128 + 128 : Nat) : Int)]) ?_ ?_ ?_
  ·
   show (m / 128) < 18446744073709551616 ∧ (out ++ [((m % 128 + 128 : Nat) : Int)]) ++ putL (m / 128) = putL n
   exact ⟨by omega, zI5 (by omega) hE⟩
  ·
   show (m / 128) < m
   omega
  · exact zAJ ⟨rfl, rfl, trivial⟩ trivial ⟨rfl, trivial⟩ rfl
 ·
  replace h1 := of_decide_eq_false h1
  refine zAn ?_
  refine zAB (zAA rfl (.m rfl rfl (.m rfl rfl (.r rfl (zAc (k' := .u8) 256 rfl m rfl rfl rfl underlying58 underlying5) (.run [1800] [] rfl (zAy rfl 1800 underlying22 inf5 (nle rfl) (by decide) rfl rfl rfl (.cons .v .nil) (by decide) rfl (by decide) rfl (by decide) rfl) (.run [1] [] rfl (zB2 rfl 1 (ib := 1) (len := ((pvB out) ++ [[PV.v (.int .u8 ((m % 256 : Nat) : Int))]]).length) rfl rfl (.row (len := (pvB out).length) (xs := pvB out) rfl rfl (.inl rfl)) (.give (len := 1) (xs := [[PV.v (.int .u8 ((m % 256 : Nat) : Int))]]) rfl rfl) underlying22 (sk underlying22 rfl) inf5 rfl (by decide) (by decide) (by decide) List.length_append (by simp only [maxLen, List.length_append, List.length_cons, List.length_nil, zCR]; omega) (by simp only [maxLen, List.length_append, List.length_cons, List.length_nil, zCR]; omega)) (.r rfl (zCj (putL n) rfl rfl (.give (len := ((pvB out) ++ [[PV.v (.int .u8 ((m % 256 : Nat) : Int))]]).length) (xs := (pvB out) ++ [[PV.v (.int .u8 ((m % 256 : Nat) : Int))]]) rfl rfl) rfl (zI6 (by assumption) hE (by omega)) underlying22 underlying9 underlying5) (.a rfl rfl .nil))))))) ?_)
  refine zAK ?_
  exact ends [_] [] (.cons (.tmp rfl) .nil) (.cons (.one .v (.v _)) .nil) (by decide) trivial
theorem zBs (n : Nat) (hn : n < 18446744073709551616) : Con Tryz.prog 32 [.one (PV.v (.int .u64 (n:Int)))] [] [.one (.v (.string (putV n)))] := by
 refine zAR func32 rfl rfl rfl rfl ?_
 refine zAB (zAA rfl (.a rfl rfl .nil) ?_)
 refine zAB (zAA rfl (.run [400] [] rfl (zAy rfl 400 underlying22 inf5 (nle rfl) (by decide) rfl rfl rfl .nil (by decide) rfl (by decide) rfl (by decide) rfl) (.a rfl rfl .nil)) ?_)
 refine zAB ?_
 refine zAS ?_
 refine zAQ (zCc 400 1 rfl rfl (by decide)) ?_
 refine zAo (σ := Nat × List Int) (fun (m, out) => mk [(0, .p none (.v (.int .u64 (m:Int)))), (3, .sl 1 0 ((pvB out).length))] [] [(1, 1, pvB out)]) (fun (m, out) => m < 18446744073709551616 ∧ out ++ putL m = putL n) (fun (m, out) => m) (n, []) ⟨hn, rfl⟩ (zAJ ⟨rfl, rfl, trivial⟩ trivial ⟨(congrArg (fun x => some (1, x)) (by rfl)), trivial⟩ rfl) ?_
 rintro ⟨m, out⟩ hG
 replace hG : m < 18446744073709551616 ∧ out ++ putL m = putL n := hG
 obtain ⟨hm, hE⟩ := hG
 have hlo := congrArg List.length hE
 rw [List.length_append] at hlo
 have hln := zMU hn
 have hob := zCR out
 refine zAB ?_
 refine zAB (zAA rfl (.m rfl rfl (.r rfl (zDF rfl rfl rfl) .nil)) ?_)
 refine zAT (t := decide (128 ≤ (m:Int))) rfl (fun h1 => ?_) (fun h1 => ?_)
 ·
  replace h1 := of_decide_eq_true h1
  refine zAM ?_
  refine zAS ?_
  refine zAB (zAA rfl (.m rfl rfl (.m rfl rfl (.r rfl (zB1 m 128 rfl rfl rfl (by omega)) (.r rfl (zFb (k := .u64) 18446744073709551616 rfl (m % 128) 128 rfl rfl rfl rfl) (.r rfl (zAc (k' := .u8) 256 rfl (((m % 128) + 128) % 18446744073709551616) rfl rfl rfl underlying58 underlying5) (.run [1200] [] rfl (zAy rfl 1200 underlying22 inf5 (nle rfl) (by decide) rfl rfl rfl (.cons .v .nil) (by decide) rfl (by decide) rfl (by decide) rfl) (.run [1] [] rfl (zB2 rfl 1 (ib := 1) (len := ((pvB out) ++ [[PV.v (.int .u8 (((((m % 128) + 128) % 18446744073709551616) % 256 : Nat) : Int))]]).length) rfl rfl (.row (len := (pvB out).length) (xs := pvB out) rfl rfl (.inl rfl)) (.give (len := 1) (xs := [[PV.v (.int .u8 (((((m % 128) + 128) % 18446744073709551616) % 256 : Nat) : Int))]]) rfl rfl) underlying22 (sk underlying22 rfl) inf5 rfl (by decide) (by decide) (by decide) List.length_append (by simp only [maxLen, List.length_append, List.length_cons, List.length_nil, zCR]; omega) (by simp only [maxLen, List.length_append, List.length_cons, List.length_nil, zCR]; omega)) (.a rfl rfl .nil)))))))) ?_)
  have hr2 : (pvB out) ++ [[PV.v (.int .u8 (((((m % 128) + 128) % 18446744073709551616) % 256 : Nat) : Int))]] = pvB (out ++ [((m % 128 + 128 : Nat) : Int)]) := by rw [show ((m % 128 + 128) % 18446744073709551616) % 256 = m % 128 + 128 by omega]; exact zGi _ _
  have hp3 : (.sl 1 0 (((pvB out) ++ [[PV.v (.int .u8 (((((m % 128) + 128) % 18446744073709551616) % 256 : Nat) : Int))]]).length) : AV) = .sl 1 0 ((pvB (out ++ [((m % 128 + 128 : Nat) : Int)])).length) := by simp only [hr2]
  refine zAQ (s' := mk [(0, .p none (.v (.int .u64 (m:Int)))), (3, .sl 1 0 ((pvB (out ++ [((m % 128 + 128 : Nat) : Int)])).length))] [] [(1, 1, pvB (out ++ [((m % 128 + 128 : Nat) : Int)]))]) ?_ ?_
  · exact zAJ ⟨rfl, hp3, trivial⟩ trivial ⟨(congrArg (fun x => some (1, x)) hr2), trivial⟩ rfl
  refine zAA rfl (.m rfl rfl (.r rfl (zDP (k := .u64) 18446744073709551616 rfl m 128 rfl rfl rfl rfl (by omega)) (.a rfl rfl .nil))) ?_
  refine nxt (Q := fun _ _ => False) (z := (m, out)) (m / 128, out ++ [((m % 128 + 128 : Nat) : Int)]) ?_ ?_ ?_
  ·
   show (m / 128) < 18446744073709551616 ∧ (out ++ [((m % 128 + 128 : Nat) : Int)]) ++ putL (m / 128) = putL n
   exact ⟨by omega, zI5 (by omega) hE⟩
  ·
   show (m / 128) < m
   omega
  · exact zAJ ⟨(zAG (by omega)), rfl, trivial⟩ trivial ⟨rfl, trivial⟩ rfl
 ·
  replace h1 := of_decide_eq_false h1
  refine zAn ?_
  refine zAB (zAA rfl (.m rfl rfl (.m rfl rfl (.r rfl (zAc (k' := .u8) 256 rfl m rfl rfl rfl underlying58 underlying5) (.run [1900] [] rfl (zAy rfl 1900 underlying22 inf5 (nle rfl) (by decide) rfl rfl rfl (.cons .v .nil) (by decide) rfl (by decide) rfl (by decide) rfl) (.run [1] [] rfl (zB2 rfl 1 (ib := 1) (len := ((pvB out) ++ [[PV.v (.int .u8 ((m % 256 : Nat) : Int))]]).length) rfl rfl (.row (len := (pvB out).length) (xs := pvB out) rfl rfl (.inl rfl)) (.give (len := 1) (xs := [[PV.v (.int .u8 ((m % 256 : Nat) : Int))]]) rfl rfl) underlying22 (sk underlying22 rfl) inf5 rfl (by decide) (by decide) (by decide) List.length_append (by simp only [maxLen, List.length_append, List.length_cons, List.length_nil, zCR]; omega) (by simp only [maxLen, List.length_append, List.length_cons, List.length_nil, zCR]; omega)) (.r rfl (zCj (putL n) rfl rfl (.give (len := ((pvB out) ++ [[PV.v (.int .u8 ((m % 256 : Nat) : Int))]]).length) (xs := (pvB out) ++ [[PV.v (.int .u8 ((m % 256 : Nat) : Int))]]) rfl rfl) rfl (zI6 (by assumption) hE (by omega)) underlying22 underlying9 underlying5) (.a rfl rfl .nil))))))) ?_)
  refine zAK ?_
  exact ends [_] [] (.cons (.tmp rfl) .nil) (.cons (.one .v (.v _)) .nil) (by decide) trivial
theorem zCH (x : Nat) : Con Tryz.prog 70 [.one (PV.v (.int .u32 (x:Int)))] [] [.one (.v (.string (fixV x)))] := by
 refine zAR func70 rfl rfl rfl rfl ?_
 refine zAB (zAA rfl (.a rfl rfl .nil) ?_)
 refine zAB (zAA rfl (.m rfl rfl (.r rfl (zAc (k' := .u8) 256 rfl x rfl rfl rfl underlying69 underlying5) (.m rfl rfl (.r rfl (zBZ x 8 rfl rfl rfl (by decide)) (.r rfl (zAc (k' := .u8) 256 rfl (x / 2 ^ 8) rfl rfl rfl underlying69 underlying5) (.m rfl rfl (.r rfl (zBZ x 16 rfl rfl rfl (by decide)) (.r rfl (zAc (k' := .u8) 256 rfl (x / 2 ^ 16) rfl rfl rfl underlying69 underlying5) (.m rfl rfl (.r rfl (zBZ x 24 rfl rfl rfl (by decide)) (.r rfl (zAc (k' := .u8) 256 rfl (x / 2 ^ 24) rfl rfl rfl underlying69 underlying5) (.run [1400] [] rfl (zAy rfl 1400 underlying22 inf5 (nle rfl) (by decide) rfl rfl rfl (.cons .v (.cons .v (.cons .v (.cons .v .nil)))) (by decide) rfl (by decide) rfl (by decide) rfl) (.r rfl (zCj (fixL x) rfl rfl (.give (len := 4) (xs := [[PV.v (.int .u8 ((x % 256 : Nat) : Int))], [PV.v (.int .u8 (((x / 2 ^ 8) % 256 : Nat) : Int))], [PV.v (.int .u8 (((x / 2 ^ 16) % 256 : Nat) : Int))], [PV.v (.int .u8 (((x / 2 ^ 24) % 256 : Nat) : Int))]]) rfl rfl) rfl rfl underlying22 underlying9 underlying5) (.a rfl rfl .nil)))))))))))))) ?_)
 refine zAK ?_
 exact ends [_] [] (.cons (.tmp rfl) .nil) (.cons (.one .v (.v _)) .nil) (by decide) trivial
theorem zBk (x : Nat) : Con Tryz.prog 39 [.one (PV.v (.int .u32 (x:Int)))] [] [.one (.v (.string (fixV x)))] := by
 refine zAR func39 rfl rfl rfl rfl ?_
 refine zAB (zAA rfl (.a rfl rfl .nil) ?_)
 refine zAB (zAA rfl (.m rfl rfl (.r rfl (zAc (k' := .u8) 256 rfl x rfl rfl rfl underlying69 underlying5) (.m rfl rfl (.r rfl (zBZ x 8 rfl rfl rfl (by decide)) (.r rfl (zAc (k' := .u8) 256 rfl (x / 2 ^ 8) rfl rfl rfl underlying69 underlying5) (.m rfl rfl (.r rfl (zBZ x 16 rfl rfl rfl (by decide)) (.r rfl (zAc (k' := .u8) 256 rfl (x / 2 ^ 16) rfl rfl rfl underlying69 underlying5) (.m rfl rfl (.r rfl (zBZ x 24 rfl rfl rfl (by decide)) (.r rfl (zAc (k' := .u8) 256 rfl (x / 2 ^ 24) rfl rfl rfl underlying69 underlying5) (.run [1400] [] rfl (zAy rfl 1400 underlying22 inf5 (nle rfl) (by decide) rfl rfl rfl (.cons .v (.cons .v (.cons .v (.cons .v .nil)))) (by decide) rfl (by decide) rfl (by decide) rfl) (.r rfl (zCj (fixL x) rfl rfl (.give (len := 4) (xs := [[PV.v (.int .u8 ((x % 256 : Nat) : Int))], [PV.v (.int .u8 (((x / 2 ^ 8) % 256 : Nat) : Int))], [PV.v (.int .u8 (((x / 2 ^ 16) % 256 : Nat) : Int))], [PV.v (.int .u8 (((x / 2 ^ 24) % 256 : Nat) : Int))]]) rfl rfl) rfl rfl underlying22 underlying9 underlying5) (.a rfl rfl .nil)))))))))))))) ?_)
 refine zAK ?_
 exact ends [_] [] (.cons (.tmp rfl) .nil) (.cons (.one .v (.v _)) .nil) (by decide) trivial
theorem zKL (s : ByteArray) (hs : s.size ≤ 9000000000000000000) : Con Tryz.prog 106 [.one (PV.v (.string s))] [] [.one (.v (.int .u32 ((crcF s : Nat) : Int)))] := by
 refine zAR func106 rfl rfl rfl rfl ?_
 refine zAB (zAA rfl (.a rfl rfl .nil) ?_)
 refine zAB (zAA rfl (.a rfl rfl .nil) ?_)
 refine zAB ?_
 refine zAB (zAA rfl (.m rfl rfl (.r rfl (zAO rfl rfl underlying9) (.m rfl rfl .nil))) ?_)
 refine zAS ?_
 refine zAo (σ := Nat) (fun i => mk [(0, .vs s), (3, .p none (.v (.int .u32 ((crcT s i : Nat) : Int)))), (6, .vi (s.size : Int)), (7, .vi (i:Int))] [] []) (fun i => i ≤ s.size) (fun i => s.size - i) 0 (by simp) (zAJ ⟨rfl, (zAG (by rfl)), rfl, (zAG (by omega)), trivial⟩ trivial trivial rfl) ?_
 rintro i hG
 replace hG : i ≤ s.size := hG
 refine zAB (zAA rfl (.r rfl (zAz rfl rfl rfl) .nil) ?_)
 refine zAB ?_
 refine zAT (t := decide ((i:Int) < (s.size : Int))) rfl (fun h1 => ?_) (fun h1 => ?_)
 ·
  replace h1 := of_decide_eq_true h1
  refine zAM ?_
  refine zAB ?_
  refine zAS ?_
  refine zAB (zAA rfl (.m rfl rfl (.a rfl rfl .nil)) ?_)
  refine zAB ?_
  obtain ⟨b, hb⟩ : ∃ b : UInt8, s[i]? = some b := ⟨_, getElem?_pos s i (by omega)⟩
  have hcl := zKM s i
  refine zAA rfl (.m rfl rfl (.m rfl rfl (.m rfl rfl (.r rfl (zBY rfl rfl rfl underlying9 (by omega) hb) (.r rfl (zAc (k' := .u32) 4294967296 rfl b.toNat rfl rfl rfl underlying5 underlying69) (.r rfl (zBw (k := .u32) 4294967296 rfl (crcT s i) (b.toNat % 4294967296) rfl rfl rfl rfl) (.a rfl rfl .nil))))))) ?_
  refine zAB (zAA rfl (.m rfl rfl .nil) ?_)
  refine zAS ?_
  refine zAo (σ := Nat) (fun k => mk [(0, .vs s), (3, .p none (.v (.int .u32 ((crcI k ((crcT s i ^^^ (b.toNat % 4294967296)) % 4294967296) : Nat) : Int)))), (6, .vi (s.size : Int)), (7, .vi (i:Int)), (16, .vi (k:Int))] [] []) (fun k => k ≤ 8) (fun k => 8 - k) 0 (by simp) (zAJ ⟨rfl, (zAG (by rfl)), rfl, rfl, (zAG (by omega)), trivial⟩ trivial trivial rfl) ?_
  rintro k hG
  replace hG : k ≤ 8 := hG
  have hxl : crcI k ((crcT s i ^^^ (b.toNat % 4294967296)) % 4294967296) < 4294967296 := zIb (Nat.mod_lt _ (by decide)) k
  refine zAB (zAA rfl (.r rfl (zAz rfl rfl rfl) .nil) ?_)
  refine zAB ?_
  refine zAT (t := decide ((k:Int) < 8)) rfl (fun h2 => ?_) (fun h2 => ?_)
  ·
   replace h2 := of_decide_eq_true h2
   refine zAM ?_
   refine zAB ?_
   refine zAS ?_
   refine zAB (zAA rfl (.m rfl rfl (.r rfl (zFa (k := .u32) 4294967296 rfl (crcI k ((crcT s i ^^^ (b.toNat % 4294967296)) % 4294967296)) 1 rfl rfl rfl rfl) (.r rfl (zA9 rfl rfl rfl) .nil))) ?_)
   refine zAT (t := decide (((((crcI k ((crcT s i ^^^ (b.toNat % 4294967296)) % 4294967296)) &&& 1) % 4294967296 : Nat) : Int) = 1)) rfl (fun h3 => ?_) (fun h3 => ?_)
   ·
    replace h3 := of_decide_eq_true h3
    refine zAA rfl (.m rfl rfl (.r rfl (zBZ (crcI k ((crcT s i ^^^ (b.toNat % 4294967296)) % 4294967296)) 1 rfl rfl rfl (by decide)) (.r rfl (zBw (k := .u32) 4294967296 rfl ((crcI k ((crcT s i ^^^ (b.toNat % 4294967296)) % 4294967296)) / 2 ^ 1) 2197175160 rfl rfl rfl rfl) (.a rfl rfl .nil)))) ?_
    refine zAA rfl (.r rfl (zAd rfl rfl rfl (by omega)) (.m rfl rfl .nil)) ?_
    refine nxt (Q := fun _ _ => False) (z := k) (k + 1) ?_ ?_ ?_
    ·
     show (k + 1) ≤ 8
     omega
    ·
     show 8 - (k + 1) < 8 - k
     omega
    · exact zAJ ⟨rfl, (zAG (by rw [show crcI (k + 1) ((crcT s i ^^^ (b.toNat % 4294967296)) % 4294967296) = crcB (crcI k ((crcT s i ^^^ (b.toNat % 4294967296)) % 4294967296)) from rfl, crcB, if_pos (zNB h3)])), rfl, rfl, (zAG (by omega)), trivial⟩ trivial trivial rfl
   ·
    replace h3 := of_decide_eq_false h3
    refine zAA rfl (.m rfl rfl (.r rfl (zBZ (crcI k ((crcT s i ^^^ (b.toNat % 4294967296)) % 4294967296)) 1 rfl rfl rfl (by decide)) (.a rfl rfl .nil))) ?_
    refine zAA rfl (.r rfl (zAd rfl rfl rfl (by omega)) (.m rfl rfl .nil)) ?_
    refine nxt (Q := fun _ _ => False) (z := k) (k + 1) ?_ ?_ ?_
    ·
     show (k + 1) ≤ 8
     omega
    ·
     show 8 - (k + 1) < 8 - k
     omega
    · exact zAJ ⟨rfl, (zAG (by rw [show crcI (k + 1) ((crcT s i ^^^ (b.toNat % 4294967296)) % 4294967296) = crcB (crcI k ((crcT s i ^^^ (b.toNat % 4294967296)) % 4294967296)) from rfl, crcB, if_neg (zNC h3)])), rfl, rfl, (zAG (by omega)), trivial⟩ trivial trivial rfl
  ·
   replace h2 := of_decide_eq_false h2
   refine zAn ?_
   refine zAA rfl (.r rfl (zAd rfl rfl rfl (by omega)) (.m rfl rfl .nil)) ?_
   refine nxt (Q := fun _ _ => False) (z := i) (i + 1) ?_ ?_ ?_
   ·
    show (i + 1) ≤ s.size
    omega
   ·
    show s.size - (i + 1) < s.size - i
    omega
   · exact zAJ ⟨rfl, (zAG (by rw [zGw (zEQ hb), show k = 8 by omega]; rfl)), rfl, (zAG (by omega)), trivial⟩ trivial trivial rfl
 ·
  replace h1 := of_decide_eq_false h1
  refine zAn ?_
  refine zAB ?_
  refine zAQ (s' := mk [(3, .p none (.v (.int .u32 ((crcT s s.size : Nat) : Int))))] [] []) ?_ ?_
  · exact zAJ ⟨(zAG (by rw [show i = s.size by omega])), trivial⟩ trivial trivial rfl
  refine zAA rfl (.m rfl rfl (.r rfl (st_comU (k := .u32) 4294967296 rfl (crcT s s.size) rfl rfl rfl) (.a rfl rfl .nil))) ?_
  refine zAK ?_
  exact ends [_] [] (.cons (.tmp (zAG (by rw [crcF, Nat.xor_comm]))) .nil) (.cons (.one .v (.v _)) .nil) (by decide) trivial
theorem zKd (s : ByteArray) (hs : s.size ≤ 9000000000000000000) : Con Tryz.prog 74 [.one (PV.v (.string s))] [] [.one (.v (.int .u32 ((crcF s : Nat) : Int)))] := by
 refine zAR func74 rfl rfl rfl rfl ?_
 refine zAB (zAA rfl (.a rfl rfl .nil) ?_)
 refine zAB (zAA rfl (.a rfl rfl .nil) ?_)
 refine zAB ?_
 refine zAB (zAA rfl (.a rfl rfl .nil) ?_)
 refine zAS ?_
 refine zAo (σ := Nat) (fun i => mk [(0, .vs s), (3, .p none (.v (.int .u32 ((crcT s i : Nat) : Int)))), (4, .vi (i:Int))] [] []) (fun i => i ≤ s.size) (fun i => s.size - i) 0 (by simp) (zAJ ⟨rfl, (zAG (by rfl)), (zAG (by omega)), trivial⟩ trivial trivial rfl) ?_
 rintro i hG
 replace hG : i ≤ s.size := hG
 refine zAB ?_
 refine zAB (zAA rfl (.m rfl rfl (.m rfl rfl (.r rfl (zAO rfl rfl underlying9) (.r rfl (zAz rfl rfl rfl) .nil)))) ?_)
 refine zAT (t := decide ((i:Int) < (s.size : Int))) rfl (fun h1 => ?_) (fun h1 => ?_)
 ·
  replace h1 := of_decide_eq_true h1
  refine zAM ?_
  refine zAB ?_
  refine zAS ?_
  refine zAB ?_
  obtain ⟨b, hb⟩ : ∃ b : UInt8, s[i]? = some b := ⟨_, getElem?_pos s i (by omega)⟩
  have hcl := zKM s i
  refine zAA rfl (.m rfl rfl (.m rfl rfl (.m rfl rfl (.r rfl (zBY rfl rfl rfl underlying9 (by omega) hb) (.r rfl (zAc (k' := .u32) 4294967296 rfl b.toNat rfl rfl rfl underlying5 underlying69) (.r rfl (zBw (k := .u32) 4294967296 rfl (crcT s i) (b.toNat % 4294967296) rfl rfl rfl rfl) (.a rfl rfl .nil))))))) ?_
  refine zAB (zAA rfl (.a rfl rfl .nil) ?_)
  refine zAS ?_
  refine zAo (σ := Nat) (fun k => mk [(0, .vs s), (3, .p none (.v (.int .u32 ((crcI k ((crcT s i ^^^ (b.toNat % 4294967296)) % 4294967296) : Nat) : Int)))), (4, .vi (i:Int)), (5, .vi (k:Int))] [] []) (fun k => k ≤ 8) (fun k => 8 - k) 0 (by simp) (zAJ ⟨rfl, (zAG (by rfl)), rfl, (zAG (by omega)), trivial⟩ trivial trivial rfl) ?_
  rintro k hG
  replace hG : k ≤ 8 := hG
  have hxl : crcI k ((crcT s i ^^^ (b.toNat % 4294967296)) % 4294967296) < 4294967296 := zIb (Nat.mod_lt _ (by decide)) k
  refine zAB ?_
  refine zAB (zAA rfl (.m rfl rfl (.r rfl (zAz rfl rfl rfl) .nil)) ?_)
  refine zAT (t := decide ((k:Int) < 8)) rfl (fun h2 => ?_) (fun h2 => ?_)
  ·
   replace h2 := of_decide_eq_true h2
   refine zAM ?_
   refine zAB ?_
   refine zAS ?_
   refine zAB (zAA rfl (.m rfl rfl (.r rfl (zB1 (crcI k ((crcT s i ^^^ (b.toNat % 4294967296)) % 4294967296)) 2 rfl rfl rfl (by omega)) (.r rfl (zA9 rfl rfl rfl) .nil))) ?_)
   refine zAT (t := decide ((((crcI k ((crcT s i ^^^ (b.toNat % 4294967296)) % 4294967296)) % 2 : Nat) : Int) = 1)) rfl (fun h3 => ?_) (fun h3 => ?_)
   ·
    replace h3 := of_decide_eq_true h3
    refine zAA rfl (.m rfl rfl (.r rfl (zBZ (crcI k ((crcT s i ^^^ (b.toNat % 4294967296)) % 4294967296)) 1 rfl rfl rfl (by decide)) (.r rfl (zBw (k := .u32) 4294967296 rfl ((crcI k ((crcT s i ^^^ (b.toNat % 4294967296)) % 4294967296)) / 2 ^ 1) 2197175160 rfl rfl rfl rfl) (.a rfl rfl .nil)))) ?_
    refine zAA rfl (.m rfl rfl (.r rfl (zAd rfl rfl rfl (by omega)) (.a rfl rfl .nil))) ?_
    refine nxt (Q := fun _ _ => False) (z := k) (k + 1) ?_ ?_ ?_
    ·
     show (k + 1) ≤ 8
     omega
    ·
     show 8 - (k + 1) < 8 - k
     omega
    · exact zAJ ⟨rfl, (zAG (by rw [show crcI (k + 1) ((crcT s i ^^^ (b.toNat % 4294967296)) % 4294967296) = crcB (crcI k ((crcT s i ^^^ (b.toNat % 4294967296)) % 4294967296)) from rfl, crcB, if_pos (zM9 h3)])), rfl, (zAG (by omega)), trivial⟩ trivial trivial rfl
   ·
    replace h3 := of_decide_eq_false h3
    refine zAA rfl (.m rfl rfl (.r rfl (zBZ (crcI k ((crcT s i ^^^ (b.toNat % 4294967296)) % 4294967296)) 1 rfl rfl rfl (by decide)) (.a rfl rfl .nil))) ?_
    refine zAA rfl (.m rfl rfl (.r rfl (zAd rfl rfl rfl (by omega)) (.a rfl rfl .nil))) ?_
    refine nxt (Q := fun _ _ => False) (z := k) (k + 1) ?_ ?_ ?_
    ·
     show (k + 1) ≤ 8
     omega
    ·
     show 8 - (k + 1) < 8 - k
     omega
    · exact zAJ ⟨rfl, (zAG (by rw [show crcI (k + 1) ((crcT s i ^^^ (b.toNat % 4294967296)) % 4294967296) = crcB (crcI k ((crcT s i ^^^ (b.toNat % 4294967296)) % 4294967296)) from rfl, crcB, if_neg (zNA h3)])), rfl, (zAG (by omega)), trivial⟩ trivial trivial rfl
  ·
   replace h2 := of_decide_eq_false h2
   refine zAn ?_
   refine zAA rfl (.m rfl rfl (.r rfl (zAd rfl rfl rfl (by omega)) (.a rfl rfl .nil))) ?_
   refine nxt (Q := fun _ _ => False) (z := i) (i + 1) ?_ ?_ ?_
   ·
    show (i + 1) ≤ s.size
    omega
   ·
    show s.size - (i + 1) < s.size - i
    omega
   · exact zAJ ⟨rfl, (zAG (by rw [zGw (zEQ hb), show k = 8 by omega]; rfl)), (zAG (by omega)), trivial⟩ trivial trivial rfl
 ·
  replace h1 := of_decide_eq_false h1
  refine zAn ?_
  refine zAB ?_
  refine zAQ (s' := mk [(3, .p none (.v (.int .u32 ((crcT s s.size : Nat) : Int))))] [] []) ?_ ?_
  · exact zAJ ⟨(zAG (by rw [show i = s.size by omega])), trivial⟩ trivial trivial rfl
  refine zAA rfl (.m rfl rfl (.r rfl (zBw (k := .u32) 4294967296 rfl (crcT s s.size) 4294967295 rfl rfl rfl rfl) (.a rfl rfl .nil))) ?_
  refine zAK ?_
  exact ends [_] [] (.cons (.tmp rfl) .nil) (.cons (.one .v (.v _)) .nil) (by decide) trivial
theorem zCW (s : ByteArray) (hs : s.size ≤ 4000000000000000000) : Con Tryz.prog 63 [.one (PV.v (.string s))] [] [.one (.v (.string (putX s)))] := by
 refine zAR func63 rfl rfl rfl rfl ?_
 refine zAB (zAA rfl (.a rfl rfl .nil) ?_)
 refine zAB ?_
 have hps := zA4 (n := s.size) (by omega)
 refine zAA rfl (.m rfl rfl (.r rfl (zAO rfl rfl underlying9) (.r rfl (zAI (zAc (k' := .u64) 18446744073709551616 rfl s.size rfl rfl rfl underlying3 underlying58) ((zAG (show ((s.size % 18446744073709551616 : Nat) : Int) = ((s.size : Nat) : Int) by omega)))) (.run [600] [] rfl (zAF rfl 600 (X := []) en105 rfl (.val nod) (.cons (.one (.bor .v)) .nil) (by decide) all_nil .nil (zHW s.size (by omega)) rfl rfl (nle rfl)) (.m rfl rfl (.r rfl (zAx rfl rfl rfl (by omega)) (.a rfl rfl .nil))))))) ?_
 refine zAK ?_
 exact ends [_] [] (.cons (.tmp rfl) .nil) (.cons (.one .v (.v _)) .nil) (by decide) trivial
theorem zCG (s : ByteArray) (hs : s.size ≤ 4000000000000000000) : Con Tryz.prog 33 [.one (PV.v (.string s))] [] [.one (.v (.string (putX s)))] := by
 refine zAR func33 rfl rfl rfl rfl ?_
 refine zAB (zAA rfl (.a rfl rfl .nil) ?_)
 refine zAB ?_
 have hps := zA4 (n := s.size) (by omega)
 refine zAA rfl (.m rfl rfl (.r rfl (zAO rfl rfl underlying9) (.r rfl (zAI (zAc (k' := .u64) 18446744073709551616 rfl s.size rfl rfl rfl underlying3 underlying58) ((zAG (show ((s.size % 18446744073709551616 : Nat) : Int) = ((s.size : Nat) : Int) by omega)))) (.run [600] [] rfl (zAF rfl 600 (X := []) en32 rfl (.val nod) (.cons (.one (.bor .v)) .nil) (by decide) all_nil .nil (zBs s.size (by omega)) rfl rfl (nle rfl)) (.m rfl rfl (.r rfl (zAx rfl rfl rfl (by omega)) (.a rfl rfl .nil))))))) ?_
 refine zAK ?_
 exact ends [_] [] (.cons (.tmp rfl) .nil) (.cons (.one .v (.v _)) .nil) (by decide) trivial
theorem zCA (n : Int) (h0 : 0 ≤ n) (h1 : n < 9223372036854775808) : Con Tryz.prog 62 [.one (PV.v (.int .i64 n))] [] [.one (.v (.string (putV n.toNat)))] := by
 refine zAR func62 rfl rfl rfl rfl ?_
 refine zAB (zAA rfl (.a rfl rfl .nil) ?_)
 refine zAB (zAA rfl (.m rfl rfl (.r rfl (zAI (zEF rfl rfl underlying2 underlying58) ((show (AV.p none (.v (.int .u64 (IntKind.u64.wrap n)))) = AV.p none (.v (.int .u64 ((n.toNat : Nat) : Int))) from zAG (by rw [IntKind.wrap_u64]; omega)))) (.run [500] [] rfl (zAF rfl 500 (X := []) en105 rfl (.val nod) (.cons (.one (.bor .v)) .nil) (by decide) all_nil .nil (zHW n.toNat (by omega)) rfl rfl (nle rfl)) (.a rfl rfl .nil)))) ?_)
 refine zAK ?_
 exact ends [_] [] (.cons (.tmp rfl) .nil) (.cons (.one .v (.v _)) .nil) (by decide) trivial
end Go.Rl
namespace Go.Rl
open Go.Proofs Go.Proofs.Tryz
set_option maxRecDepth 1000000
set_option maxHeartbeats 2000000
theorem zHg (q : Nat) (s : ByteArray) : zB4 q s 0 = zOD q := by rw [zB4, List.take_zero, List.foldl_nil]
theorem zIP (q : Nat) (s : ByteArray) (hs : s.size ≤ 9000000000000000000) : Con Tryz.prog 133 [.one (PV.v (.int .u32 (q:Int))), .one (PV.v (.string s))] [] [.one (.v (.int .u64 ((zAj q s : Nat) : Int)))] := by
 refine zAR func133 rfl rfl rfl rfl ?_
 refine zAB (zAA rfl (.a rfl rfl .nil) ?_)
 refine zAB (zAA rfl (.m rfl rfl (.r rfl (zAc (k' := .u64) 18446744073709551616 rfl q rfl rfl rfl underlying69 underlying58) (.r rfl (zDQ (k := .u64) 18446744073709551616 rfl (q % 18446744073709551616) 11400714819323198485 rfl rfl rfl rfl) (.r rfl (zBw (k := .u64) 18446744073709551616 rfl 14695981039346656037 (((q % 18446744073709551616) * 11400714819323198485) % 18446744073709551616) rfl rfl rfl rfl) (.a rfl rfl .nil))))) ?_)
 refine zAB ?_
 refine zAB (zAA rfl (.m rfl rfl (.r rfl (zAO rfl rfl underlying9) (.m rfl rfl .nil))) ?_)
 refine zAS ?_
 refine zAo (σ := Nat) (fun i => mk [(1, .vs s), (5, .p none (.v (.int .u64 ((zB4 q s i : Nat) : Int)))), (12, .vi (s.size : Int)), (13, .vi (i:Int))] [] []) (fun i => i ≤ s.size) (fun i => s.size - i) 0 (by simp) (zAJ ⟨rfl, (zAG (by rw [zHg, zOD])), rfl, (zAG (by omega)), trivial⟩ trivial trivial rfl) ?_
 rintro i hG
 replace hG : i ≤ s.size := hG
 refine zAB (zAA rfl (.r rfl (zAz rfl rfl rfl) .nil) ?_)
 refine zAB ?_
 refine zAT (t := decide ((i:Int) < (s.size : Int))) rfl (fun h1 => ?_) (fun h1 => ?_)
 ·
  replace h1 := of_decide_eq_true h1
  refine zAM ?_
  refine zAB ?_
  refine zAS ?_
  refine zAB (zAA rfl (.m rfl rfl (.a rfl rfl .nil)) ?_)
  refine zAB ?_
  obtain ⟨b, hb⟩ : ∃ b : UInt8, s[i]? = some b := ⟨_, getElem?_pos s i (by omega)⟩
  refine zAA rfl (.m rfl rfl (.m rfl rfl (.m rfl rfl (.r rfl (zBY rfl rfl rfl underlying9 (by omega) hb) (.r rfl (zAc (k' := .u64) 18446744073709551616 rfl b.toNat rfl rfl rfl underlying5 underlying58) (.r rfl (zBw (k := .u64) 18446744073709551616 rfl (zB4 q s i) (b.toNat % 18446744073709551616) rfl rfl rfl rfl) (.a rfl rfl .nil))))))) ?_
  refine zAA rfl (.m rfl rfl (.r rfl (zDQ (k := .u64) 18446744073709551616 rfl (((zB4 q s i) ^^^ (b.toNat % 18446744073709551616)) % 18446744073709551616) 1099511628211 rfl rfl rfl rfl) (.a rfl rfl .nil))) ?_
  refine zAA rfl (.r rfl (zAd rfl rfl rfl (by omega)) (.m rfl rfl .nil)) ?_
  refine nxt (Q := fun _ _ => False) (z := i) (i + 1) ?_ ?_ ?_
  ·
   show (i + 1) ≤ s.size
   omega
  ·
   show s.size - (i + 1) < s.size - i
   omega
  · exact zAJ ⟨rfl, (zAG (by rw [zHh (zEQ hb), zMu])), rfl, (zAG (by omega)), trivial⟩ trivial trivial rfl
 ·
  replace h1 := of_decide_eq_false h1
  refine zAn ?_
  refine zAB ?_
  refine zAQ (s' := mk [(5, .p none (.v (.int .u64 ((zB4 q s s.size : Nat) : Int))))] [] []) ?_ ?_
  · exact zAJ ⟨(zAG (by rw [show i = s.size by omega])), trivial⟩ trivial trivial rfl
  refine zAA rfl (.m rfl rfl (.m rfl rfl (.r rfl (zBZ (zB4 q s s.size) 30 rfl rfl rfl (by decide)) (.r rfl (zBw (k := .u64) 18446744073709551616 rfl (zB4 q s s.size) ((zB4 q s s.size) / 2 ^ 30) rfl rfl rfl rfl) (.a rfl rfl .nil))))) ?_
  refine zAB (zAA rfl (.m rfl rfl (.r rfl (zDQ (k := .u64) 18446744073709551616 rfl (((zB4 q s s.size) ^^^ ((zB4 q s s.size) / 2 ^ 30)) % 18446744073709551616) 13787848793156543929 rfl rfl rfl rfl) (.a rfl rfl .nil))) ?_)
  refine zAB ?_
  refine zAQ (s' := mk [(5, .p none (.v (.int .u64 ((mixA (zB4 q s s.size) : Nat) : Int))))] [] []) ?_ ?_
  · exact zAJ ⟨(zAG (by rw [mixA])), trivial⟩ trivial trivial rfl
  refine zAA rfl (.m rfl rfl (.m rfl rfl (.r rfl (zBZ (mixA (zB4 q s s.size)) 27 rfl rfl rfl (by decide)) (.r rfl (zBw (k := .u64) 18446744073709551616 rfl (mixA (zB4 q s s.size)) ((mixA (zB4 q s s.size)) / 2 ^ 27) rfl rfl rfl rfl) (.a rfl rfl .nil))))) ?_
  refine zAB (zAA rfl (.m rfl rfl (.r rfl (zDQ (k := .u64) 18446744073709551616 rfl (((mixA (zB4 q s s.size)) ^^^ ((mixA (zB4 q s s.size)) / 2 ^ 27)) % 18446744073709551616) 10723151780598845931 rfl rfl rfl rfl) (.a rfl rfl .nil))) ?_)
  refine zAB ?_
  refine zAQ (s' := mk [(5, .p none (.v (.int .u64 ((mixB (mixA (zB4 q s s.size)) : Nat) : Int))))] [] []) ?_ ?_
  · exact zAJ ⟨(zAG (by rw [mixB])), trivial⟩ trivial trivial rfl
  refine zAA rfl (.m rfl rfl (.m rfl rfl (.r rfl (zBZ (mixB (mixA (zB4 q s s.size))) 31 rfl rfl rfl (by decide)) (.r rfl (zBw (k := .u64) 18446744073709551616 rfl (mixB (mixA (zB4 q s s.size))) ((mixB (mixA (zB4 q s s.size))) / 2 ^ 31) rfl rfl rfl rfl) (.a rfl rfl .nil))))) ?_
  refine zAK ?_
  exact ends [_] [] (.cons (.tmp (zAG (by rw [zAj, mixC]))) .nil) (.cons (.one .v (.v _)) .nil) (by decide) trivial
theorem zGP (q : Nat) (s : ByteArray) (hs : s.size ≤ 9000000000000000000) : Con Tryz.prog 117 [.one (PV.v (.int .u32 (q:Int))), .one (PV.v (.string s))] [] [.one (.v (.int .u64 ((zAj q s : Nat) : Int)))] := by
 refine zAR func117 rfl rfl rfl rfl ?_
 refine zAB (zAA rfl (.a rfl rfl .nil) ?_)
 refine zAB (zAA rfl (.m rfl rfl (.r rfl (zAc (k' := .u64) 18446744073709551616 rfl q rfl rfl rfl underlying69 underlying58) (.r rfl (zDQ (k := .u64) 18446744073709551616 rfl (q % 18446744073709551616) 11400714819323198485 rfl rfl rfl rfl) (.r rfl (zBw (k := .u64) 18446744073709551616 rfl 14695981039346656037 (((q % 18446744073709551616) * 11400714819323198485) % 18446744073709551616) rfl rfl rfl rfl) (.a rfl rfl .nil))))) ?_)
 refine zAB ?_
 refine zAB (zAA rfl (.a rfl rfl .nil) ?_)
 refine zAS ?_
 refine zAo (σ := Nat) (fun i => mk [(1, .vs s), (5, .p none (.v (.int .u64 ((zB4 q s i : Nat) : Int)))), (6, .vi (i:Int))] [] []) (fun i => i ≤ s.size) (fun i => s.size - i) 0 (by simp) (zAJ ⟨rfl, (zAG (by rw [zHg, zOD])), (zAG (by omega)), trivial⟩ trivial trivial rfl) ?_
 rintro i hG
 replace hG : i ≤ s.size := hG
 refine zAB ?_
 refine zAB (zAA rfl (.m rfl rfl (.m rfl rfl (.r rfl (zAO rfl rfl underlying9) (.r rfl (zAz rfl rfl rfl) .nil)))) ?_)
 refine zAT (t := decide ((i:Int) < (s.size : Int))) rfl (fun h1 => ?_) (fun h1 => ?_)
 ·
  replace h1 := of_decide_eq_true h1
  refine zAM ?_
  refine zAB ?_
  refine zAS ?_
  obtain ⟨b, hb⟩ : ∃ b : UInt8, s[i]? = some b := ⟨_, getElem?_pos s i (by omega)⟩
  refine zAA rfl (.m rfl rfl (.m rfl rfl (.m rfl rfl (.r rfl (zBY rfl rfl rfl underlying9 (by omega) hb) (.r rfl (zAc (k' := .u64) 18446744073709551616 rfl b.toNat rfl rfl rfl underlying5 underlying58) (.r rfl (zBw (k := .u64) 18446744073709551616 rfl (zB4 q s i) (b.toNat % 18446744073709551616) rfl rfl rfl rfl) (.r rfl (zDQ (k := .u64) 18446744073709551616 rfl (((zB4 q s i) ^^^ (b.toNat % 18446744073709551616)) % 18446744073709551616) 1099511628211 rfl rfl rfl rfl) (.a rfl rfl .nil)))))))) ?_
  refine zAA rfl (.m rfl rfl (.r rfl (zAd rfl rfl rfl (by omega)) (.a rfl rfl .nil))) ?_
  refine nxt (Q := fun _ _ => False) (z := i) (i + 1) ?_ ?_ ?_
  ·
   show (i + 1) ≤ s.size
   omega
  ·
   show s.size - (i + 1) < s.size - i
   omega
  · exact zAJ ⟨rfl, (zAG (by rw [zHh (zEQ hb), zMu])), (zAG (by omega)), trivial⟩ trivial trivial rfl
 ·
  replace h1 := of_decide_eq_false h1
  refine zAn ?_
  refine zAB ?_
  refine zAQ (s' := mk [(5, .p none (.v (.int .u64 ((zB4 q s s.size : Nat) : Int))))] [] []) ?_ ?_
  · exact zAJ ⟨(zAG (by rw [show i = s.size by omega])), trivial⟩ trivial trivial rfl
  refine zAA rfl (.m rfl rfl (.m rfl rfl (.r rfl (zBZ (zB4 q s s.size) 30 rfl rfl rfl (by decide)) (.r rfl (zBw (k := .u64) 18446744073709551616 rfl (zB4 q s s.size) ((zB4 q s s.size) / 2 ^ 30) rfl rfl rfl rfl) (.r rfl (zDQ (k := .u64) 18446744073709551616 rfl (((zB4 q s s.size) ^^^ ((zB4 q s s.size) / 2 ^ 30)) % 18446744073709551616) 13787848793156543929 rfl rfl rfl rfl) (.a rfl rfl .nil)))))) ?_
  refine zAB ?_
  refine zAQ (s' := mk [(5, .p none (.v (.int .u64 ((mixA (zB4 q s s.size) : Nat) : Int))))] [] []) ?_ ?_
  · exact zAJ ⟨(zAG (by rw [mixA])), trivial⟩ trivial trivial rfl
  refine zAA rfl (.m rfl rfl (.m rfl rfl (.r rfl (zBZ (mixA (zB4 q s s.size)) 27 rfl rfl rfl (by decide)) (.r rfl (zBw (k := .u64) 18446744073709551616 rfl (mixA (zB4 q s s.size)) ((mixA (zB4 q s s.size)) / 2 ^ 27) rfl rfl rfl rfl) (.r rfl (zDQ (k := .u64) 18446744073709551616 rfl (((mixA (zB4 q s s.size)) ^^^ ((mixA (zB4 q s s.size)) / 2 ^ 27)) % 18446744073709551616) 10723151780598845931 rfl rfl rfl rfl) (.a rfl rfl .nil)))))) ?_
  refine zAB ?_
  refine zAQ (s' := mk [(5, .p none (.v (.int .u64 ((mixB (mixA (zB4 q s s.size)) : Nat) : Int))))] [] []) ?_ ?_
  · exact zAJ ⟨(zAG (by rw [mixB])), trivial⟩ trivial trivial rfl
  refine zAA rfl (.m rfl rfl (.m rfl rfl (.r rfl (zBZ (mixB (mixA (zB4 q s s.size))) 31 rfl rfl rfl (by decide)) (.r rfl (zBw (k := .u64) 18446744073709551616 rfl (mixB (mixA (zB4 q s s.size))) ((mixB (mixA (zB4 q s s.size))) / 2 ^ 31) rfl rfl rfl rfl) (.a rfl rfl .nil))))) ?_
  refine zAK ?_
  exact ends [_] [] (.cons (.tmp (zAG (by rw [zAj, mixC]))) .nil) (.cons (.one .v (.v _)) .nil) (by decide) trivial
end Go.Rl
namespace Go.Rl
theorem LessE.trans {a b c : Ent} (h : LessE a b) (k : LessE b c) : LessE a c := by
 rcases h with h | ⟨hu, h⟩
 ·
  rcases k with k | ⟨ku, _⟩
  · exact .inl (zJG h k)
  · exact .inl (by rw [← ku]; exact h)
 ·
  rcases k with k | ⟨ku, k⟩
  · exact .inl (by rw [hu]; exact k)
  ·
   refine .inr ⟨hu.trans ku, ?_⟩
   rcases h with h | ⟨h1, h2⟩
   ·
    rcases k with k | ⟨k1, k2⟩
    · exact .inl (by omega)
    · exact .inl (by omega)
   ·
    rcases k with k | ⟨k1, k2⟩
    · exact .inl (by omega)
    · exact .inr ⟨by omega, by omega⟩
end Go.Rl
namespace Go.Rl
end Go.Rl
namespace Go.Rl
structure Pr where
 user : ByteArray
 value : ByteArray
 deriving DecidableEq
def Pr.pv (e : Pr) : List PV := [.v (.string e.user), .v (.string e.value)]
def pvP (l : List Pr) : List (List PV) := l.map Pr.pv
def zN9 (l : List Ent) (u : ByteArray) (p : Int) : Option Ent := if idxF (asOf u p) l < 0 then none else l[(idxF (asOf u p) l).toNat]?
def getC1 (o : Option Ent) : Int := match o with
 | some e => if e.kind = 0 then 2 else 1
 | none => 0
def getC2 (o : Option Ent) : ByteArray := match o with
 | some e => if e.kind = 0 then ⟨#[]⟩ else e.value
 | none => ⟨#[]⟩
def Strict (l : List Ent) : Prop := ∀ (i j : Nat) x e, i < j → l[i]? = some x → l[j]? = some e → LessE x e
def IsLook (l : List Ent) (u : ByteArray) (p : Int) (e : Ent) : Prop := e ∈ l ∧ asOf u p e = true ∧ ∀ x ∈ l, asOf u p x = true → x = e ∨ LessE e x
def visOne (l : List Ent) (p : Int) (u : ByteArray) : List Pr := if getC1 (zN9 l u p) = 1 then [⟨u, getC2 (zN9 l u p)⟩] else []
def visN (l : List Ent) (p : Int) (us : List ByteArray) : List Pr := us.flatMap (visOne l p)
def visF (l : List Ent) (p : Int) : List Pr := visN l p (zAm l)
theorem zNX {l : List Ent} {u : ByteArray} : u ∈ zAm l ↔ ∃ e ∈ l, e.user = u := by
 rw [zAm, zKN, List.mem_map]
section
variable {l : List Ent} {b : Bool} {zs : List Int}
end
theorem zCa {l : List Ent} (h : zBJ l = true) {e : Ent} (he : e ∈ l) : zBp e = true := by
 obtain ⟨i, hi⟩ := List.getElem?_of_mem he
 simp only [zBJ, Bool.and_eq_true] at h
 exact zJC (zJm h.2 hi)
theorem zBm {l : List Ent} (h : zBJ l = true) : l.length ≤ 400 := by
 simp only [zBJ, Bool.and_eq_true, decide_eq_true_eq] at h
 exact h.1
end Go.Rl
namespace Go.Rl
theorem zCD {s : ByteArray} {n : Nat} (h : n < s.size) : s[n]? = some (s[n]?.getD 0) := by rw [getElem?_pos s n h]; rfl
def zEo (a b : ByteArray) (n : Nat) : Prop := ∀ j x y, j < n → a.data.toList[j]? = some x → b.data.toList[j]? = some y → x = y
theorem zIt (a b : ByteArray) : zEo a b 0 := fun _ _ _ h => absurd h (Nat.not_lt_zero _)
theorem zIu {a b : ByteArray} {n : Nat} (hG : zEo a b n) (h1 : n < a.size) (h2 : n < b.size) (h : ((a[n]?.getD 0).toNat : Int) = ((b[n]?.getD 0).toNat : Int)) : zEo a b (n + 1) := fun j x y hj hx hy => by
 by_cases e : j = n
 ·
  subst e
  have e1 := zEQ (zCD h1)
  have e2 := zEQ (zCD h2)
  rw [hx] at e1
  rw [hy] at e2
  cases e1
  cases e2
  exact UInt8.toNat_inj.1 (by omega)
 · exact hG j x y (by omega) hx hy
theorem zEW {a b : ByteArray} {n : Nat} (hG : zEo a b n) (h1 : n ≤ a.size) (h2 : n ≤ b.size) (h : n = a.size ∨ n = b.size ∨ (n < a.size ∧ n < b.size ∧ ¬ ((a[n]?.getD 0).toNat : Int) = ((b[n]?.getD 0).toNat : Int))) : zBN a b = n := by
 refine zHL hG (by rw [zFz]; exact h1) (by rw [zFz]; exact h2) ?_
 rcases h with h | h | ⟨h3, h4, h5⟩
 · exact .inl (by rw [zFz]; exact h)
 · exact .inr (.inl (by rw [zFz]; exact h))
 · exact .inr (.inr ⟨_, _, zEQ (zCD h3), zEQ (zCD h4), fun q => h5 (by rw [q])⟩)
theorem zDl (a b : ByteArray) : zBN a b ≤ a.size ∧ zBN a b ≤ b.size := by
 have := zHK a.data.toList b.data.toList
 rw [zFz, zFz] at this
 exact this
theorem zBS {s : ByteArray} (h : s.size < 18446744073709551616) : (putX s).size ≤ 10 + s.size := by
 have := zA4 h
 rw [putX, zAZ]
 omega
theorem zEd {u : ByteArray} {s k : Int} (h : zBl u s k = true) : u.size ≤ 40 ∧ 1 ≤ u.size ∧ 0 ≤ s ∧ s ≤ 1000000000000 ∧ 0 ≤ k ∧ k ≤ 1 := by
 simp only [zBl, zBa, zAi, Bool.and_eq_true, decide_eq_true_eq] at h
 omega
theorem zJI {e : Ent} (h : zBl e.user e.seq e.kind = true) : (keyT e).size ≤ 48 ∧ 9 ≤ (keyT e).size := by
 have := zEd h
 rw [keyT, zAZ, zAZ, zAU, zAU]
 omega
theorem zDg {e : Ent} (h : zBp e = true) : e.value.size ≤ 200 ∧ (keyT e).size ≤ 48 := by
 refine ⟨?_, (zJI (zCB h)).1⟩
 simp only [zBp, Bool.and_eq_true, decide_eq_true_eq] at h
 omega
theorem zC6 (s : ByteArray) (a : Nat) : (s.extract a s.size).size ≤ s.size := by
 rw [ByteArray.size_extract]; omega
structure BlkB (b : Blk) (i : Nat) : Prop where
 out : b.out.size ≤ 290 * i
 anew : b.anew.size ≤ 4 * i
 ahead : b.ahead.size ≤ 48
 many : b.many ≤ i
theorem zG0 {l : List Ent} {ev : Nat} (hl : ∀ e ∈ l, zBp e = true) : ∀ i, i ≤ l.length → BlkB (blkN l ev i) i
 | 0, _ => ⟨Nat.le_refl _, Nat.le_refl _, Nat.zero_le _, Nat.le_refl _⟩
 | i + 1, h => by
  have ih := zG0 hl (ev := ev) i (by omega)
  obtain ⟨e, he⟩ : ∃ e, l[i]? = some e := ⟨_, List.getElem?_eq_getElem (by omega)⟩
  have hn := zDg (hl e (List.mem_of_getElem? he))
  have h1 := ih.out
  have h2 := ih.anew
  have h3 := ih.many
  have h4 := zA4 (n := 0) (by decide)
  have h5 := zDl (blkN l ev i).ahead (keyT e)
  have h6 := zA4 (n := zBN (blkN l ev i).ahead (keyT e)) (by omega)
  have h7 := zC6 (keyT e) (zBN (blkN l ev i).ahead (keyT e))
  have h8 := zBS (s := keyT e) (by omega)
  have h9 := zBS (s := (keyT e).extract (zBN (blkN l ev i).ahead (keyT e)) (keyT e).size) (by omega)
  have h10 := zBS (s := e.value) (by omega)
  rw [zCC he, blkS]
  split
  · exact ⟨by simp only [zAZ]; omega, by simp only [zAZ, zAU]; omega, hn.2, by show _ + 1 ≤ i + 1; omega⟩
  · exact ⟨by simp only [zAZ]; omega, by show (blkN l ev i).anew.size ≤ 4 * (i + 1); omega, hn.2, by show (blkN l ev i).many ≤ i + 1; omega⟩
theorem zDj {i ev : Nat} : ((i : Int).tmod (ev : Int) = 0) ↔ i % ev = 0 := by
 rw [Int.tmod_eq_emod_of_nonneg (Int.natCast_nonneg i), ← Int.natCast_emod]
 omega
def secF (s : ByteArray) : ByteArray := putX s ++ fixV (crcF s)
section
variable {l : List Ent} {ev i : Nat} {e : Ent}
theorem zFS (he : l[i]? = some e) : keyT e = (blkN l ev (i + 1)).ahead := by
 rw [zCC he, blkS]
 split <;> rfl
theorem zK8 (he : l[i]? = some e) (h : (i : Int).tmod (ev : Int) = 0) : (blkN l ev i).out ++ putV (0 : Int).toNat ++ putX ((keyT e).extract 0 (keyT e).size) ++ putX e.value = (blkN l ev (i + 1)).out := by
 rw [zCC he, blkS, if_pos (zDj.1 h), zO8]
 rfl
theorem zNJ (he : l[i]? = some e) (h : (i : Int).tmod (ev : Int) = 0) : (blkN l ev i).out ++ (putV (0 : Int).toNat ++ putX ((keyT e).extract 0 (keyT e).size) ++ putX e.value) = (blkN l ev (i + 1)).out := by
 rw [← zK8 he h, zF0, zF0, zF0]
theorem zJf (he : l[i]? = some e) (h : (i : Int).tmod (ev : Int) = 0) : (blkN l ev i).anew ++ fixV ((blkN l ev i).out.size % 4294967296) = (blkN l ev (i + 1)).anew := by
 rw [zCC he, blkS, if_pos (zDj.1 h)]
theorem zJd (he : l[i]? = some e) (h : (i : Int).tmod (ev : Int) = 0) (hm : (blkN l ev i).many ≤ 1000000) : ((blkN l ev i).many + 1) % 4294967296 = (blkN l ev (i + 1)).many := by
 rw [zCC he, blkS, if_pos (zDj.1 h)]
 show _ = (blkN l ev i).many + 1
 omega
theorem zK7 (he : l[i]? = some e) (h : ¬ (i : Int).tmod (ev : Int) = 0) : (blkN l ev i).out ++ putV (zBN (blkN l ev i).ahead (keyT e)) ++ putX ((keyT e).extract (zBN (blkN l ev i).ahead (keyT e)) (keyT e).size) ++ putX e.value = (blkN l ev (i + 1)).out := by
 rw [zCC he, blkS, if_neg (fun q => h (zDj.2 q))]
theorem zNI (he : l[i]? = some e) (h : ¬ (i : Int).tmod (ev : Int) = 0) : (blkN l ev i).out ++ (putV (((zBN (blkN l ev i).ahead (keyT e) : Nat) : Int) : Int).toNat ++ putX ((keyT e).extract (zBN (blkN l ev i).ahead (keyT e)) (keyT e).size) ++ putX e.value) = (blkN l ev (i + 1)).out := by
 rw [← zK7 he h, zF0, zF0, zF0]
 rfl
theorem zJe (he : l[i]? = some e) (h : ¬ (i : Int).tmod (ev : Int) = 0) : (blkN l ev i).anew = (blkN l ev (i + 1)).anew := by
 rw [zCC he, blkS, if_neg (fun q => h (zDj.2 q))]
theorem zJc (he : l[i]? = some e) (h : ¬ (i : Int).tmod (ev : Int) = 0) : (blkN l ev i).many = (blkN l ev (i + 1)).many := by
 rw [zCC he, blkS, if_neg (fun q => h (zDj.2 q))]
end
def zBn (l : List Ent) (ev : Nat) : Option ByteArray := if (zBJ l = true ∧ 0 < l.length) ∧ (1 ≤ ev ∧ ev ≤ 16) then (if (blkF l ev).size ≤ 60000 then some (blkF l ev) else none) else none
theorem zDu {l : List Ent} {ev : Nat} (h : zBJ l = false ∨ l.length = 0 ∨ ¬ (1 ≤ ev ∧ ev ≤ 16)) : zBn l ev = none := by
 rw [zBn, if_neg]
 rintro ⟨⟨h1, h2⟩, h3⟩
 rcases h with h | h | h
 · rw [h] at h1; cases h1
 · omega
 · exact h h3
theorem zHp {l : List Ent} {ev : Nat} (h : 60000 < (blkF l ev).size) : zBn l ev = none := by
 rw [zBn]
 split
 · rw [if_neg (by omega)]
 · rfl
theorem zEh {l : List Ent} {ev : Nat} (h1 : zBJ l = true) (h2 : 0 < l.length) (h3 : 1 ≤ ev ∧ ev ≤ 16) (h : (blkF l ev).size ≤ 60000) : zBn l ev = some (blkF l ev) := by
 rw [zBn, if_pos ⟨⟨h1, h2⟩, h3⟩, if_pos h]
end Go.Rl

/- Promises of functions, proved by walks over their operations; no conditions beyond those that each theorem states. -/
import Derived.Test.YtecgkdodfemihaaDoorRlP
import Derived.ChangeArms
import Derived.Deep.Slices
import Derived.SizedLaws
import Derived.Carry
import Derived.WideShapes
import Derived.WalkKit
import Derived.ProofKit
import Derived.OpenShut
import Derived.ShutString
import Derived.ChangeOld
import Derived.Shelf.Spec.SlicesInsert
import Derived.Lib.AppendZerosOnto
import Derived.Laws.NewBlocks
import Derived.Laws.CopyRow
import Derived.Lib.ItoaNum
import Derived.Lib.ItoaMem
import Derived.Lib.ItoaLen
import Derived.Lib.LaidTab
import Derived.Shelf.Strconv.Itoa4
import Derived.Test.YtecgkdodfemihaaDoorProg
set_option linter.unusedSimpArgs false
set_option linter.unusedVariables false
namespace Go.Rl
open Go.RowKit

def rn (a b i : Nat) : Nat := match Nat.beq i a with
  | true => b
  | false => i
theorem rn_self (a b : Nat) : rn a b a = b := by simp [rn]
theorem rn_ne {a b i : Nat} (h : i ≠ a) : rn a b i = i := by
  have : Nat.beq i a = false := by
    cases e : Nat.beq i a with
    | false => rfl
    | true => exact absurd (Nat.eq_of_beq_eq_true e) h
  simp only [rn, this]
mutual
def AV.ren (a b : Nat) : AV → AV
  | .p (some d) x => .p (some (rn a b d)) x
  | .sl id lo len => .sl (rn a b id) lo len
  | .ea id i off => .ea (rn a b id) i off
  | .fea (some d) ps => .fea (some (rn a b d)) ps
  | .agg cs => .agg (AV.rens a b cs)
  | .tup cs => .tup (AV.rens a b cs)
  | x => x
def AV.rens (a b : Nat) : List AV → List AV
  | [] => []
  | x :: xs => AV.ren a b x :: AV.rens a b xs
end
def St.ren (s : St) (a b : Nat) : St := ⟨fun i => (s.t i).ren a b, fun i => (s.b i).map (AV.rens a b), fun i => match Nat.beq i b with
  | true => s.r a
  | false => match Nat.beq i a with
    | true => none
    | false => s.r i⟩
def Pl.ren (L : Pl) (a b : Nat) : Pl := { L with ρ := upd L.ρ b (L.ρ a), ν := upd L.ν b (L.ν a), lab := fun k => match L.lab k with
  | some (.row i) => some (.row (rn a b i))
  | x => x }
section
variable {L : Pl} {w : World} {s : St} {a b : Nat}
theorem ren_r (hab : a ≠ b) (hb : s.r b = none) {i : Nat} {y} (h : s.r i = some y) : (s.ren a b).r (rn a b i) = some y ∧ (L.ren a b).ρ (rn a b i) = L.ρ i ∧ (L.ren a b).ν (rn a b i) = L.ν i := by
  by_cases e : i = a
  · subst e
    rw [rn_self]
    refine ⟨?_, by simp [Pl.ren], by simp [Pl.ren]⟩
    simp only [St.ren, Nat.beq_refl]
    exact h
  · have hib : i ≠ b := fun e => by subst e; rw [hb] at h; cases h
    have h1 : Nat.beq i b = false := by
      cases e : Nat.beq i b with
      | false => rfl
      | true => exact absurd (Nat.eq_of_beq_eq_true e) hib
    have h2 : Nat.beq i a = false := by
      cases e' : Nat.beq i a with
      | false => rfl
      | true => exact absurd (Nat.eq_of_beq_eq_true e') e
    rw [rn_ne e]
    exact ⟨by simp only [St.ren, h1, h2]; exact h, upd_ne _ _ hib, upd_ne _ _ hib⟩
theorem ren_zd (hab : a ≠ b) (hb : s.r b = none) {d : Option Nat} (hd : ∀ id, d = some id → (s.r id).isSome) : ∀ k, L.zd d k → (L.ren a b).zd (d.map (rn a b)) k := fun k hk => by
  rcases hk with hk | ⟨id, rfl, hk⟩
  · exact .inl hk
  · obtain ⟨y, hy⟩ := Option.isSome_iff_exists.1 (hd id rfl)
    exact .inr ⟨rn a b id, rfl, by rw [(ren_r hab hb hy).2.2]; exact hk⟩
mutual
theorem AVR.ren (hab : a ≠ b) (hb : s.r b = none) : ∀ (av : AV) (v : Value), AVR L w s av v → AVR (L.ren a b) w (s.ren a b) (av.ren a b) v
  | .undef, v, _ => by simp [AV.ren, AVR]
  | .p none x, v, hv => by
    simp only [AV.ren, AVR] at hv ⊢
    exact ⟨hv.1.mono (fun _ _ => rfl) (fun k hk => ren_zd (d := none) hab hb (fun _ h => by cases h) k hk), fun _ h => by cases h⟩
  | .p (some d) x, v, hv => by
    simp only [AV.ren, AVR] at hv ⊢
    refine ⟨hv.1.mono (fun _ _ => rfl) (fun k hk => ren_zd (d := some d) hab hb hv.2 k hk), fun id hid => ?_⟩
    cases hid
    obtain ⟨y, hy⟩ := Option.isSome_iff_exists.1 (hv.2 d rfl)
    rw [(ren_r (L := L) hab hb hy).1]; rfl
  | .sl id lo len, v, hv => by
    simp only [AV.ren, AVR] at hv ⊢
    obtain ⟨sz, xs, h1, h2, h3⟩ := hv
    obtain ⟨h4, h5, _⟩ := ren_r (L := L) hab hb h1
    exact ⟨sz, xs, h4, h2, by rw [h5]; exact h3⟩
  | .ptr c off, v, hv => by
    simp only [AV.ren, AVR] at hv ⊢
    exact ⟨by simpa [St.ren] using hv.1, hv.2⟩
  | .ea id i off, v, hv => by
    simp only [AV.ren, AVR] at hv ⊢
    obtain ⟨sz, xs, k, n, c, h1, h2, h3, h4⟩ := hv
    obtain ⟨h5, h6, _⟩ := ren_r (L := L) hab hb h1
    exact ⟨sz, xs, k, n, c, h5, h2, by rw [h6]; exact h3, h4⟩
  | .fea none ps, v, hv => by
    simp only [AV.ren, AVR] at hv ⊢
    obtain ⟨⟨k, off, h1, h2, h3⟩, h4⟩ := hv
    have hz := ren_zd (L := L) (d := none) hab hb h4
    exact ⟨⟨k, off, h1, hz k h2, fun j p hp => by obtain ⟨u, hu, hr⟩ := h3 j p hp; exact ⟨u, hu, hr.mono (fun _ _ => rfl) hz⟩⟩, fun _ h => by cases h⟩
  | .fea (some d) ps, v, hv => by
    simp only [AV.ren, AVR] at hv ⊢
    obtain ⟨⟨k, off, h1, h2, h3⟩, h4⟩ := hv
    have hz := ren_zd (L := L) (d := some d) hab hb h4
    refine ⟨⟨k, off, h1, hz k h2, fun j p hp => by obtain ⟨u, hu, hr⟩ := h3 j p hp; exact ⟨u, hu, hr.mono (fun _ _ => rfl) hz⟩⟩, fun id hid => ?_⟩
    cases hid
    obtain ⟨y, hy⟩ := Option.isSome_iff_exists.1 (h4 d rfl)
    rw [(ren_r (L := L) hab hb hy).1]; rfl
  | .nils, v, hv => by simpa only [AV.ren, AVR] using hv
  | .sat A, v, hv => by simpa only [AV.ren, AVR] using hv
  | .clo f bs, v, hv => by
    simp only [AV.ren, AVR] at hv ⊢
    exact ⟨fun x hx => by simpa [St.ren] using hv.1 x hx, hv.2⟩
  | .agg cs, v, hv => by
    simp only [AV.ren, AVR] at hv ⊢
    obtain ⟨us, h1, h2⟩ := hv
    exact ⟨us, h1, AVRs.ren hab hb cs us h2⟩
  | .tup cs, v, hv => by
    simp only [AV.ren, AVR] at hv ⊢
    obtain ⟨us, h1, h2⟩ := hv
    exact ⟨us, h1, AVRs.ren hab hb cs us h2⟩
theorem AVRs.ren (hab : a ≠ b) (hb : s.r b = none) : ∀ (aL : List AV) (us : List Value), AVRs L w s aL us → AVRs (L.ren a b) w (s.ren a b) (AV.rens a b aL) us
  | [], [], _ => by simp [AV.rens, AVRs]
  | [], _ :: _, hv => by simp [AVRs] at hv
  | _ :: _, [], hv => by simp [AVRs] at hv
  | x :: aL, u :: us, hv => by
    simp only [AV.rens, AVRs] at hv ⊢
    exact ⟨AVR.ren hab hb x u hv.1, AVRs.ren hab hb aL us hv.2⟩
end
end
end Go.Rl
namespace Go.Rl
open Go.RowKit

/-- What a cell of data is. -/
inductive Sh where
  | int (k : IntKind)
  | str
  | bool
  | sl (E : List Sh)
/-- The cells of a struct's fields, one behind the other. -/
def shFs (P : Program) (sh : TypeId → Option (List Sh)) : List Field → Nat → Option (List Sh)
  | [], _ => some []
  | f :: fs, o => match Nat.beq f.offset o, sh f.type with
    | true, some E => match Nat.beq (P.cellsOf f.type) E.length, shFs P sh fs (o + E.length) with
      | true, some F => some (E ++ F)
      | _, _ => none
    | _, _ => none
def shOf (P : Program) : Nat → TypeId → Option (List Sh)
  | 0, _ => none
  | n + 1, t => match P.underlying t with
    | some (.int k) => some [.int k]
    | some .string => some [.str]
    | some .bool => some [.bool]
    | some (.slice e) => match shOf P n e with
      | some (x :: E) => match Nat.beq (P.cellsOf e) (x :: E).length with
        | true => some [.sl (x :: E)]
        | false => none
      | _ => none
    | some (.struct fs) => match shFs P (shOf P n) fs.toList 0 with
      | some E => match Nat.beq (P.cellsOf t) E.length with
        | true => some E
        | false => none
      | none => none
    | _ => none
inductive Fit : Sh → PV → Prop
  | int (k : IntKind) (n : Int) (h : (Lit.int k n).wf = true) : Fit (.int k) (.v (.int k n))
  | str (b : ByteArray) (h : b.size ≤ reachBytes) : Fit .str (.v (.string b))
  | bool (b : Bool) : Fit .bool (.v (.bool b))
  | sl (E : List Sh) (xs : List (List PV)) (hl : xs.length ≤ maxLen) (h : ∀ es ∈ xs, es.length = E.length) (h2 : ∀ es ∈ xs, ∀ (j : Nat) s p, E[j]? = some s → es[j]? = some p → Fit s p) : Fit (.sl E) (.sl false E.length xs)
def Fits (E : List Sh) (ps : List PV) : Prop := ps.length = E.length ∧ ∀ (j : Nat) s p, E[j]? = some s → ps[j]? = some p → Fit s p
theorem Fits.app {E F : List Sh} {ps qs : List PV} (h : Fits E ps) (k : Fits F qs) : Fits (E ++ F) (ps ++ qs) := by
  refine ⟨by simp [h.1, k.1], fun j s p hs hp => ?_⟩
  by_cases hj : j < E.length
  · rw [List.getElem?_append_left hj] at hs
    rw [List.getElem?_append_left (by rw [h.1]; exact hj)] at hp
    exact h.2 j s p hs hp
  · rw [List.getElem?_append_right (by omega)] at hs
    rw [List.getElem?_append_right (by rw [h.1]; omega), h.1] at hp
    exact k.2 _ s p hs hp
theorem Fits.one {s : Sh} {p : PV} (h : Fit s p) : Fits [s] [p] := ⟨rfl, fun j s' p' hs hp => by
  cases j with
  | zero => simp at hs hp; subst hs hp; exact h
  | succ j => simp at hs⟩
section
variable {H : Type} {enc : TypeId × Value → H} {P : Program} {w : World} {sp : Nat → Bool} {held : Bool}
def old (w : World) : Nat → Prop := fun k => k < w.heap.size
/-- What the cells of a type's value are, as it is read. -/
def Opens (H : Type) (enc : TypeId × Value → H) (P : Program) (w : World) (sp : Nat → Bool) (held : Bool) (t : TypeId) (E : List Sh) : Prop :=
  ∀ (fuel : Nat) (cs : List Value) (x : DataW H × List MemPlace), DataW.trod enc P w 0 sp held fuel t cs = some x → (∀ n ∈ x.1.weights P t, n ≤ reachBytes) →
    ∃ ps, Fits E ps ∧ cs.length = E.length ∧ ∀ (j : Nat) p v, ps[j]? = some p → cs[j]? = some v → PVR (old w) w p v
end
end Go.Rl
namespace Go.Rl
open Go.RowKit

end Go.Rl
namespace Go.Rl
open Go.RowKit

end Go.Rl
namespace Go.Rl
open Go.RowKit

section
variable {γ : Gho} {P : Program} {n : Nat} {o : Oper} {M B : List Nat} {s : St}
end
mutual
theorem AVR.mono_b {L : Pl} {w : World} {s : St} {b' : Nat → Option (List AV)} : ∀ {av : AV} {v : Value}, AVR L w s av v → (∀ q, (s.b q).isSome → (b' q).isSome) → AVR L w ⟨s.t, b', s.r⟩ av v
  | .undef, v, _, _ => by simp [AVR]
  | .p d x, v, hv, _ => by simpa only [AVR] using hv
  | .sl id lo len, v, hv, _ => by simpa only [AVR] using hv
  | .ptr b off, v, hv, h => by simp only [AVR] at hv ⊢; exact ⟨h b hv.1, hv.2⟩
  | .ea id i off, v, hv, _ => by simpa only [AVR] using hv
  | .fea d ps, v, hv, _ => by simpa only [AVR] using hv
  | .nils, v, hv, _ => by simpa only [AVR] using hv
  | .sat A, v, hv, _ => by simpa only [AVR] using hv
  | .clo f bs, v, hv, h => by simp only [AVR] at hv ⊢; exact ⟨fun q hq => h q (hv.1 q hq), hv.2⟩
  | .agg cs, v, hv, h => by
    simp only [AVR] at hv ⊢
    obtain ⟨us, h1, h2⟩ := hv
    exact ⟨us, h1, AVRs.mono_b h2 h⟩
  | .tup cs, v, hv, h => by
    simp only [AVR] at hv ⊢
    obtain ⟨us, h1, h2⟩ := hv
    exact ⟨us, h1, AVRs.mono_b h2 h⟩
theorem AVRs.mono_b {L : Pl} {w : World} {s : St} {b' : Nat → Option (List AV)} : ∀ {qs : List AV} {us : List Value}, AVRs L w s qs us → (∀ q, (s.b q).isSome → (b' q).isSome) → AVRs L w ⟨s.t, b', s.r⟩ qs us
  | [], [], _, _ => by simp [AVRs]
  | [], _ :: _, hv, _ => by simp [AVRs] at hv
  | _ :: _, [], hv, _ => by simp [AVRs] at hv
  | a :: qs, u :: us, hv, h => by
    simp only [AVRs] at hv ⊢
    exact ⟨AVR.mono_b hv.1 h, AVRs.mono_b hv.2 h⟩
end
/-- cv is a slice of bytes, bs; where it has any, they lie in the block that is known. -/
def CodeAt (γ : Gho) (cv : Value) (bs : List Nat) : Prop :=
  ∃ A c, cv = .slice A bs.length c ∧ (bs = [] ∨ ∃ k off cur ty fz, A = some ⟨k, off, none⟩ ∧ γ = some (k, .cells cur ty fz) ∧ ∀ (i : Nat) (b : Nat), bs[i]? = some b → b < 256 ∧ cur[off + i]? = some (.int .u8 b))
end Go.Rl
namespace Go.Rl
open Go.RowKit
def pvC (bs : List Nat) : List (List PV) := bs.map fun b : Nat => [.v (.int .u8 (b : Int))]
/-- A law whose promise is 'true', with what is known of a block, returns true. -/
theorem law_runG {γ : Gho} {P : Program} {f : FuncId} {args : List PA} {vs : List Value} {w : World} (hc : ConG γ P f args [] [.one (.v (.bool true))]) (hg : Gh γ w []) (ha : PASs (old w) w args vs []) :
    Calls P f ⟨vs⟩ w fun e w' => e = .returned (.bool true) ∧ Below w.heap.size w w' := by
  refine (hc (old w) w vs [] hg ha (fun k hk => ⟨hk, by simp [Leaf.all]⟩) (by simp [Leaf.all]) (by simp [Leaf.all])).mono ?_
  rintro e w' ⟨v, F, rfl, hs, _, hr, _⟩
  have hv : v = .bool true := by
    cases hr with
    | one h =>
      cases h with
      | one h =>
        cases h with
        | nf hn h => cases h; rfl
    | more hl _ => exact absurd rfl hl
  subst hv
  exact ⟨rfl, Same.below hs⟩
end Go.Rl
namespace Go.Proofs
open Go.Shelf
def Tryd.lays173_ren : Go.Shelf.Ren := ⟨fun | 173 => 9 | 246 => 10 | 283 => 11 | 284 => 12 | 285 => 13 | 286 => 14 | 129 => 16 | 317 => 15 | 318 => 17 | 319 => 18 | 320 => 19 | 337 => 20 | 338 => 21 | n => n, fun | 2 => 2 | 3 => 3 | 9 => 9 | 4 => 4 | 171 => 29 | 0 => 0 | 53 => 30 | 37 => 27 | 5 => 5 | 173 => 33 | 212 => 37 | 51 => 38 | 20 => 20 | 213 => 39 | 46 => 41 | 232 => 44 | 233 => 45 | n => n, fun | 17 => 0 | 18 => 1 | 19 => 2 | n => n⟩
theorem Tryd.lays173 : Go.Proofs.LaysM.n173 Tryd.prog Tryd.lays173_ren := {
  mixed := by kernel_rfl
  f129 := Tryd.func16.trans (congrArg some (by kernel_rfl))
  f173 := Tryd.func9.trans (congrArg some (by kernel_rfl))
  f246 := Tryd.func10.trans (congrArg some (by kernel_rfl))
  f283 := Tryd.func11.trans (congrArg some (by kernel_rfl))
  f284 := Tryd.func12.trans (congrArg some (by kernel_rfl))
  f285 := Tryd.func13.trans (congrArg some (by kernel_rfl))
  f286 := Tryd.func14.trans (congrArg some (by kernel_rfl))
  f317 := Tryd.func15.trans (congrArg some (by kernel_rfl))
  f318 := Tryd.func17.trans (congrArg some (by kernel_rfl))
  f319 := Tryd.func18.trans (congrArg some (by kernel_rfl))
  f320 := Tryd.func19.trans (congrArg some (by kernel_rfl))
  f337 := Tryd.func20.trans (congrArg some (by kernel_rfl))
  f338 := Tryd.func21.trans (congrArg some (by kernel_rfl))
  t0 := Tryd.underlying0
  a0 := Tryd.isAgg0
  z0 := Tryd.sizeOf0
  v0 := Tryd.zeroValue0
  t2 := Tryd.underlying2
  a2 := Tryd.isAgg2
  z2 := Tryd.sizeOf2
  v2 := Tryd.zeroValue2
  t3 := Tryd.underlying3
  a3 := Tryd.isAgg3
  z3 := Tryd.sizeOf3
  v3 := Tryd.zeroValue3
  t4 := Tryd.underlying4
  a4 := Tryd.isAgg4
  z4 := Tryd.sizeOf4
  v4 := Tryd.zeroValue4
  t5 := Tryd.underlying5
  a5 := Tryd.isAgg5
  z5 := Tryd.sizeOf5
  v5 := Tryd.zeroValue5
  t9 := Tryd.underlying9
  a9 := Tryd.isAgg9
  z9 := Tryd.sizeOf9
  v9 := Tryd.zeroValue9
  t20 := Tryd.underlying20
  a20 := Tryd.isAgg20
  z20 := Tryd.sizeOf20
  v20 := Tryd.zeroValue20
  t37 := Tryd.underlying27
  a37 := Tryd.isAgg27
  z37 := Tryd.sizeOf27
  v37 := Tryd.zeroValue27
  t46 := Tryd.underlying41
  a46 := Tryd.isAgg41
  z46 := Tryd.sizeOf41
  v46 := Tryd.zeroValue41
  t51 := Tryd.underlying38
  a51 := Tryd.isAgg38
  z51 := Tryd.sizeOf38
  v51 := Tryd.zeroValue38
  t53 := Tryd.underlying30
  a53 := Tryd.isAgg30
  z53 := Tryd.sizeOf30
  v53 := Tryd.zeroValue30
  t171 := Tryd.underlying29
  a171 := Tryd.isAgg29
  z171 := Tryd.sizeOf29
  v171 := Tryd.zeroValue29
  t173 := Tryd.underlying33
  a173 := Tryd.isAgg33
  z173 := Tryd.sizeOf33
  v173 := Tryd.zeroValue33
  t212 := Tryd.underlying37
  a212 := Tryd.isAgg37
  z212 := Tryd.sizeOf37
  v212 := Tryd.zeroValue37
  t213 := Tryd.underlying39
  a213 := Tryd.isAgg39
  z213 := Tryd.sizeOf39
  t232 := Tryd.underlying44
  a232 := Tryd.isAgg44
  z232 := Tryd.sizeOf44
  v232 := Tryd.zeroValue44
  t233 := Tryd.underlying45
  a233 := Tryd.isAgg45
  z233 := Tryd.sizeOf45
  v233 := Tryd.zeroValue45
  g17 := by kernel_rfl
  g18 := by kernel_rfl
  g19 := by kernel_rfl
  i0 := by kernel_rfl
  i2 := by kernel_rfl
  i3 := by kernel_rfl
  i4 := by kernel_rfl
  i5 := by kernel_rfl
  i9 := by kernel_rfl
  i20 := by kernel_rfl
  i37 := by kernel_rfl
  i46 := by kernel_rfl
  i51 := by kernel_rfl
  i53 := by kernel_rfl
  i171 := by kernel_rfl
  i173 := by kernel_rfl
  i212 := by kernel_rfl
  i232 := by kernel_rfl
  i233 := by kernel_rfl
  m17 := by kernel_rfl
  m18 := by kernel_rfl
  m19 := by kernel_rfl }
end Go.Proofs
namespace Go.Rl
open Go.RowKit Go.Proofs
def decT (n : Nat) : ByteArray := ⟨(Lib.decDigits n).toArray⟩
def dgT (n : Nat) : ByteArray := ⟨#[UInt8.ofNat (48 + n)]⟩
theorem dg_strOf {n : Nat} {x : Int} (h : n < 10) (hx : x = IntKind.u8.wrap (48 + (n : Int))) : strOf [x] = dgT n := by
  have : ∀ m, m < 10 → strOf [IntKind.u8.wrap (48 + ((m : Nat) : Int))] = dgT m := by
    intro m hm
    have h1 : IntKind.u8.wrap (48 + ((m : Nat) : Int)) = ((48 + m : Nat) : Int) := by
      rcases m with _ | _ | _ | _ | _ | _ | _ | _ | _ | _ | m <;> first | rfl | omega
    rw [h1]
    rfl
  rw [hx]
  exact this n h
theorem decT_lt {n : Nat} (h : n < 10) : decT n = dgT n := by
  unfold decT dgT
  rw [Lib.decDigits, dif_pos h]
theorem decT_ge {n : Nat} (h : 10 ≤ n) : decT n = decT (n / 10) ++ dgT (n % 10) := by
  unfold decT dgT
  rw [Lib.decDigits, dif_neg (by omega)]
  refine ByteArray.ext ?_
  simp [ByteArray.data_append]
theorem bfc (b : Bool) : b = false ∨ b = true := by cases b <;> simp
theorem emp_size : (⟨#[]⟩ : ByteArray).size = 0 := rfl
theorem bnot_t {b : Bool} (h : (!b) = true) : b = false := by cases b <;> simp_all
theorem bnot_f {b : Bool} (h : (!b) = false) : b = true := by cases b <;> simp_all
theorem app_nil (b : ByteArray) : b ++ ⟨#[]⟩ = b := ByteArray.ext (by simp [ByteArray.data_append])
theorem strOf_one1 (x : Int) : (strOf [x]).size = 1 := rfl
theorem quo_nat10 (n : Nat) (h : n ≤ 1000000) : IntKind.i64.wrap ((n : Int).tdiv 10) = ((n / 10 : Nat) : Int) := by
  rw [IntKind.wrap_i64]
  have : (n : Int).tdiv 10 = ((n / 10 : Nat) : Int) := rfl
  omega
theorem rem_nat (n : Nat) : (n : Int).tmod 10 = ((n % 10 : Nat) : Int) := rfl
theorem decT_size (m : Nat) (h : m ≤ 1000000) : (decT m).size ≤ 21 := by
  have h1 := Lib.itoa_length_le (m : Int) (by omega) (by omega)
  rw [Lib.itoa_nonneg] at h1
  simpa [decT, ByteArray.size] using h1
def withinF (n low high : Int) : Bool := decide (low ≤ n) && decide (n ≤ high)
def nameF (w : ByteArray) (n : Int) : ByteArray := if 1 ≤ w.size ∧ w.size ≤ 20 ∧ withinF n 0 1000000 = true then (w ++ ⟨#[45]⟩) ++ decT n.toNat else ⟨#[]⟩
theorem nameF_out (w : ByteArray) (n : Int) (h : (w.size : Int) < 1 ∨ (20 : Int) < w.size ∨ withinF n 0 1000000 = false) : (⟨#[]⟩ : ByteArray) = nameF w n := by
  unfold nameF
  rw [if_neg]
  rintro ⟨h1, h2, h3⟩
  rcases h with h | h | h
  · omega
  · omega
  · rw [h] at h3; cases h3
theorem within_of {n : Int} (h : withinF n 0 1000000 = true) : 0 ≤ n ∧ n ≤ 1000000 := by
  simpa [withinF] using h
theorem nameF_val (w : ByteArray) (m : Nat) (h1 : ¬ (w.size : Int) < 1) (h2 : ¬ (20 : Int) < w.size) (h3 : withinF (m : Int) 0 1000000 = true) : (w ++ ⟨#[45]⟩) ++ decT m = nameF w (m : Int) := by
  unfold nameF
  rw [if_pos ⟨by omega, by omega, h3⟩, Int.toNat_natCast]
/-- What strconv.FormatInt gives at base 10, in the world w. -/
def FmtAt (w : World) : Prop := ∀ n : Int, -9223372036854775808 ≤ n → n ≤ 9223372036854775807 → Calls Tryd.prog 9 #[.int .i64 n, .int .i64 10] w fun e w' => e = .returned (.string ⟨(Lib.itoa n).toArray⟩) ∧ ∃ k os, w' = Sort.grow (w.drewN k) os
theorem tab_block {P : Program} {nm : String} {g : Nat} {k : IntKind} {zs : List Int} {W : World} (hg : P.globalNamed nm = some g) (h : Lib.TabIs P W nm k zs) : ∃ o, W.heap[g]? = some o ∧ ∀ w : World, w.heap[g]? = some o → Lib.TabIs P w nm k zs := by
  have h0 := h
  unfold Lib.TabIs World.var? at h0
  rw [hg] at h0
  simp only [Option.bind_some] at h0
  obtain ⟨o, ho⟩ : ∃ o, W.heap[g]? = some o := by
    cases e : W.heap[g]? with
    | none => simp [e] at h0
    | some o => exact ⟨o, rfl⟩
  refine ⟨o, ho, fun w hw => ?_⟩
  unfold Lib.TabIs World.var? at h ⊢
  rw [hg] at h ⊢
  simp only [Option.bind_some, ho, hw] at h ⊢
  exact h
/-- What the table's block says: whatever the world, where the block stands FormatInt answers. -/
def TabG (γ : Gho) : Prop := ∃ o, γ = some (0, o) ∧ ∀ w : World, w.heap[0]? = some o → FmtAt w
theorem same_grow (w : World) (k : Nat) (os : Array Obj) : Same [] w (Sort.grow (w.drewN k) os) := by
  refine ⟨rfl, rfl, rfl, ?_, fun j hj _ => ?_⟩
  · show w.heap.size ≤ (w.heap ++ os).size
    rw [Array.size_append]; omega
  · show (w.heap ++ os)[j]? = w.heap[j]?
    rw [Array.getElem?_append_left hj]
theorem fmt_con {γ : Gho} (ht : TabG γ) (n : Nat) (hn : n ≤ 1000000) : ConG γ Tryd.prog 9 [.one (.v (.int .i64 (n : Int))), .one (.v (.int .i64 10))] [] [.one (.v (.string (decT n)))] := by
  intro Z w vs E hG ha _ _ _
  obtain ⟨o, hγ, hT⟩ := ht
  have htab := hT w (hG 0 o hγ).1 (n : Int) (by omega) (by omega)
  obtain ⟨rfl, rfl⟩ : vs = [.int .i64 (n : Int), .int .i64 10] ∧ E = [] := by
    cases ha with
    | cons h1 t1 =>
      cases t1 with
      | cons h2 t2 =>
        cases t2
        cases h1 with
        | one h1 =>
          cases h2 with
          | one h2 =>
            cases h1 with
            | nf _ h1 =>
              cases h2 with
              | nf _ h2 =>
                cases h1
                cases h2
                exact ⟨rfl, rfl⟩
  refine htab.mono ?_
  rintro e w' ⟨rfl, k, os, rfl⟩
  refine ⟨_, [], rfl, same_grow w k os, fun i lf xs' h => by simp at h, ?_, by simp [Leaf.all], fun k hk => by simp [Leaf.all] at hk⟩
  have he : Lib.itoa (n : Int) = Lib.decDigits n := Lib.itoa_nonneg n
  rw [he]
  exact .one (.one (.nf rfl (.v _ rfl)))
end Go.Rl
namespace Go.Rl
open Go.Proofs
theorem inf5 : (Tryd.prog.info? 5).map (fun i => (i.zero, i.size, i.bytes)) = some (some (.int .u8 0), 1, 1) := by kernel_rfl
theorem en6 : ∀ vs w, (callFunc 6 vs).run Tryd.prog w = .ok (.enter 6 vs) w := enters Tryd.func6 (by decide) rfl
theorem en7 : ∀ vs w, (callFunc 7 vs).run Tryd.prog w = .ok (.enter 7 vs) w := enters Tryd.func7 (by decide) rfl
theorem en8 : ∀ vs w, (callFunc 8 vs).run Tryd.prog w = .ok (.enter 8 vs) w := enters Tryd.func8 (by decide) rfl
theorem en9 : ∀ vs w, (callFunc 9 vs).run Tryd.prog w = .ok (.enter 9 vs) w := enters Tryd.func9 (by decide) rfl
theorem en4 : ∀ vs w, (callFunc 4 vs).run Tryd.prog w = .ok (.enter 4 vs) w := enters Tryd.func4 (by decide) rfl
theorem en5 : ∀ vs w, (callFunc 5 vs).run Tryd.prog w = .ok (.enter 5 vs) w := enters Tryd.func5 (by decide) rfl
theorem mixed : Tryd.prog.follows .mixedOrders = true := by kernel_rfl
set_option maxRecDepth 1000000 in
set_option maxHeartbeats 2000000 in
theorem withinF_con (n low high : Int) : Con Tryd.prog 8 [.one (PV.v (.int .i64 n)), .one (PV.v (.int .i64 low)), .one (PV.v (.int .i64 high))] [] [.one (.v (.bool (withinF n low high)))] := by
  refine con_of_tr Tryd.func8 rfl rfl rfl rfl ?_
  refine tr_seq ?_
  refine tr_region rfl (.run [] [] rfl (st_assign rfl) .nil) ?_
  refine tr_seq ?_
  rcases bfc (decide (low ≤ n)) with h1 | h1
  · have h1' := h1
    replace h1' := of_decide_eq_false h1'
    refine tr_region rfl (.run [] [] rfl (st_move rfl) (.run [] [] rfl (st_move rfl) (.run [] [] rfl (st_eq (st_leq rfl rfl rfl) (bool_eq h1)) (.run [] [] rfl (st_move rfl) (.not rfl (.not rfl (.not rfl (.run [] [] rfl (st_pick (t := false) rfl rfl) (.run [] [] rfl (st_assign rfl) .nil))))))))) ?_
    refine tr_ret ?_
    exact ends [_] [] (.cons (.tmp (bool_eq (by simp only [withinF, h1, Bool.false_and, Bool.true_and]))) .nil) (.cons (.one .v (.v _)) .nil) (by decide) trivial
  · have h1' := h1
    replace h1' := of_decide_eq_true h1'
    refine tr_region rfl (.run [] [] rfl (st_move rfl) (.run [] [] rfl (st_move rfl) (.run [] [] rfl (st_eq (st_leq rfl rfl rfl) (bool_eq h1)) (.run [] [] rfl (st_move rfl) (.run [] [] rfl (st_move rfl) (.run [] [] rfl (st_move rfl) (.run [] [] rfl (st_leq rfl rfl rfl) (.run [] [] rfl (st_pick (t := true) rfl rfl) (.run [] [] rfl (st_assign rfl) .nil))))))))) ?_
    refine tr_ret ?_
    exact ends [_] [] (.cons (.tmp (bool_eq (by simp only [withinF, h1, Bool.false_and, Bool.true_and]))) .nil) (.cons (.one .v (.v _)) .nil) (by decide) trivial
set_option maxRecDepth 1000000 in
set_option maxHeartbeats 2000000 in
theorem l1InF_con (n low high : Int) : Con Tryd.prog 6 [.one (PV.v (.int .i64 n)), .one (PV.v (.int .i64 low)), .one (PV.v (.int .i64 high))] [] [.one (.v (.bool (withinF n low high)))] := by
  refine con_of_tr Tryd.func6 rfl rfl rfl rfl ?_
  refine tr_seq ?_
  refine tr_region rfl (.run [] [] rfl (st_assign rfl) .nil) ?_
  refine tr_seq ?_
  rcases bfc (decide (low ≤ n)) with h1 | h1
  · have h1' := h1
    replace h1' := of_decide_eq_false h1'
    refine tr_region rfl (.run [] [] rfl (st_move rfl) (.run [] [] rfl (st_move rfl) (.run [] [] rfl (st_eq (st_geq rfl rfl rfl) (bool_eq h1)) (.run [] [] rfl (st_move rfl) (.not rfl (.not rfl (.not rfl (.run [] [] rfl (st_pick (t := false) rfl rfl) (.run [] [] rfl (st_assign rfl) .nil))))))))) ?_
    refine tr_ret ?_
    exact ends [_] [] (.cons (.tmp (bool_eq (by simp only [withinF, h1, Bool.false_and, Bool.true_and]))) .nil) (.cons (.one .v (.v _)) .nil) (by decide) trivial
  · have h1' := h1
    replace h1' := of_decide_eq_true h1'
    refine tr_region rfl (.run [] [] rfl (st_move rfl) (.run [] [] rfl (st_move rfl) (.run [] [] rfl (st_eq (st_geq rfl rfl rfl) (bool_eq h1)) (.run [] [] rfl (st_move rfl) (.run [] [] rfl (st_move rfl) (.run [] [] rfl (st_move rfl) (.run [] [] rfl (st_leq rfl rfl rfl) (.run [] [] rfl (st_pick (t := true) rfl rfl) (.run [] [] rfl (st_assign rfl) .nil))))))))) ?_
    refine tr_ret ?_
    exact ends [_] [] (.cons (.tmp (bool_eq (by simp only [withinF, h1, Bool.false_and, Bool.true_and]))) .nil) (.cons (.one .v (.v _)) .nil) (by decide) trivial
set_option maxRecDepth 1000000 in
set_option maxHeartbeats 2000000 in
theorem l16Dec_con (n : Nat) (hn : n ≤ 1000000) : Con Tryd.prog 7 [.one (PV.v (.int .i64 (n:Int)))] [] [.one (.v (.string (decT n)))] := by
  refine con_of_tr Tryd.func7 rfl rfl rfl rfl ?_
  refine tr_seq ?_
  refine tr_region rfl (.run [] [] rfl (st_assign rfl) .nil) ?_
  refine tr_seq ?_
  refine tr_region rfl (.run [] [] rfl (st_assign rfl) .nil) ?_
  refine tr_seq ?_
  refine tr_block ?_
  refine tr_loopS (σ := Nat × ByteArray) (fun (m, s) => mk [(0, .p none (.v (.int .i64 (m:Int)))), (3, .p none (.v (.string s)))] [] []) (fun (m, s) => m ≤ n ∧ s.size + m ≤ 1000000 ∧ decT m ++ s = decT n) (fun (m, s) => m) (n, ⟨#[]⟩) ⟨Nat.le_refl _, by rw [emp_size]; omega, app_nil _⟩ (wk_mk ⟨rfl, ⟨rfl, trivial⟩⟩ trivial trivial rfl) ?_
  rintro ⟨m, s⟩ hG
  replace hG : m ≤ n ∧ s.size + m ≤ 1000000 ∧ decT m ++ s = decT n := hG
  obtain ⟨hmn, hsz, hD⟩ := hG
  refine tr_seq ?_
  refine tr_seq ?_
  refine tr_region rfl (.run [] [] rfl (st_move rfl) (.run [] [] rfl (st_geq rfl rfl rfl) .nil)) ?_
  refine tr_if (t := decide (10 ≤ (m:Int))) rfl (fun h1 => ?_) (fun h1 => ?_)
  · skip
    replace h1 := of_decide_eq_true h1
    refine tr_skip ?_
    refine tr_block ?_
    refine tr_seq ?_
    refine tr_region rfl (.run [] [] rfl (st_move rfl) (.run [] [] rfl (st_rem rfl rfl rfl (by decide)) (.run [] [] rfl (st_addn rfl rfl rfl (by have h1 := Int.tmod_lt_of_pos (m : Int) (show (0:Int) < 10 by decide); have h2 := Int.tmod_nonneg 10 (show (0:Int) ≤ (m:Int) by omega); omega)) (.run [] [] rfl (st_conv rfl rfl Tryd.underlying2 Tryd.underlying5) (.run [1000] [] rfl (st_buildSlice rfl 1000 Tryd.underlying27 inf5 (nle rfl) (by decide) rfl rfl rfl (.cons .v .nil) (by decide) rfl (by decide) rfl (by decide) rfl) (.run [] [] rfl (st_strN [IntKind.u8.wrap (48 + (m:Int).tmod 10)] rfl rfl (.give (len := 1) (xs := [[PV.v (.int .u8 (IntKind.u8.wrap (48 + ((m:Int).tmod 10))))]]) rfl rfl) rfl rfl Tryd.underlying27 Tryd.underlying9 Tryd.underlying5) (.run [] [] rfl (st_move rfl) (.run [] [] rfl (st_sadd rfl rfl rfl (by rw [strOf_one1]; omega)) (.run [] [] rfl (st_assign rfl) .nil))))))))) ?_
    refine tr_region rfl (.run [] [] rfl (st_move rfl) (.run [] [] rfl (st_quo rfl rfl rfl (by decide)) (.run [] [] rfl (st_assign rfl) .nil))) ?_
    refine nxt (Q := fun _ _ => False) (z := (m, s)) (m / 10, strOf [IntKind.u8.wrap (48 + (m:Int).tmod 10)] ++ s) ?_ ?_ ?_
    · show (m / 10) ≤ n ∧ (strOf [IntKind.u8.wrap (48 + (m:Int).tmod 10)] ++ s).size + (m / 10) ≤ 1000000 ∧ decT (m / 10) ++ (strOf [IntKind.u8.wrap (48 + (m:Int).tmod 10)] ++ s) = decT n
      exact ⟨by omega, by rw [ByteArray.size_append, strOf_one1]; omega, by rw [dg_strOf (n := m % 10) (by omega) (congrArg (fun z => IntKind.u8.wrap (48 + z)) (rem_nat m)), ← ByteArray.append_assoc, ← decT_ge (by omega)]; exact hD⟩
    · show (m / 10) < m
      omega
    · exact wk_mk ⟨(int_eq (by exact quo_nat10 m (by omega))), ⟨(str_eq (by rfl)), trivial⟩⟩ trivial trivial rfl
  · skip
    replace h1 := of_decide_eq_false h1
    refine tr_exit ?_
    refine tr_seq ?_
    refine tr_region rfl (.run [] [] rfl (st_move rfl) (.run [] [] rfl (st_addn rfl rfl rfl (by omega)) (.run [] [] rfl (st_conv rfl rfl Tryd.underlying2 Tryd.underlying5) (.run [1900] [] rfl (st_buildSlice rfl 1900 Tryd.underlying27 inf5 (nle rfl) (by decide) rfl rfl rfl (.cons .v .nil) (by decide) rfl (by decide) rfl (by decide) rfl) (.run [] [] rfl (st_strN [IntKind.u8.wrap (48 + (m:Int))] rfl rfl (.give (len := 1) (xs := [[PV.v (.int .u8 (IntKind.u8.wrap (48 + (m:Int))))]]) rfl rfl) rfl rfl Tryd.underlying27 Tryd.underlying9 Tryd.underlying5) (.run [] [] rfl (st_move rfl) (.run [] [] rfl (st_sadd rfl rfl rfl (by rw [strOf_one1]; omega)) (.run [] [] rfl (st_assign rfl) .nil)))))))) ?_
    refine tr_ret ?_
    exact ends [_] [] (.cons (.tmp (str_eq (by rw [← hD, decT_lt (by omega), dg_strOf (by omega) rfl]))) .nil) (.cons (.one .v (.v _)) .nil) (by decide) trivial
set_option maxRecDepth 1000000 in
set_option maxHeartbeats 2000000 in
theorem sFileName_con (w : ByteArray) (n : Int) : Con Tryd.prog 4 [.one (PV.v (.string w)), .one (PV.v (.int .i64 n))] [] [.one (.v (.string (nameF w n)))] := by
  refine con_of_tr Tryd.func4 rfl rfl rfl rfl ?_
  refine tr_seq ?_
  refine tr_region rfl (.run [] [] rfl (st_assign rfl) .nil) ?_
  refine tr_seq ?_
  refine tr_seq ?_
  rcases bfc (decide ((w.size : Int) < 1)) with h1 | h1
  · have h1' := h1
    replace h1' := of_decide_eq_false h1'
    rcases bfc (decide (20 < (w.size : Int))) with h2 | h2
    · have h2' := h2
      replace h2' := of_decide_eq_false h2'
      refine tr_region rfl (.run [] [] rfl (st_move rfl) (.run [] [] rfl (st_len_str rfl rfl Tryd.underlying9) (.run [] [] rfl (st_eq (st_lss rfl rfl rfl) (bool_eq h1)) (.run [] [] rfl (st_move rfl) (.run [] [] rfl (st_move rfl) (.run [] [] rfl (st_len_str rfl rfl Tryd.underlying9) (.run [] [] rfl (st_eq (st_gtr rfl rfl rfl) (bool_eq h2)) (.run [] [] rfl (st_pick (t := false) rfl rfl) (.run [] [] rfl (st_move rfl) (.run [] [] rfl (st_move rfl) (.run [1500] [] rfl (st_call rfl 1500 (X := []) en6 rfl (.val nod) (.cons (.one (.bor .v)) (.cons (.one (.bor .v)) (.cons (.one (.bor .v)) .nil))) (by decide) all_nil .nil (l1InF_con n 0 1000000) rfl rfl (nle rfl)) (.run [] [] rfl (st_not (b := withinF n 0 1000000) rfl rfl) (.run [] [] rfl (st_pick (t := false) rfl rfl) .nil))))))))))))) ?_
      refine tr_if (t := (!(withinF n 0 1000000))) rfl (fun h3 => ?_) (fun h3 => ?_)
      · skip
        replace h3 : (withinF n 0 1000000) = false := bnot_t h3
        refine tr_seq ?_
        refine tr_region rfl (.run [] [] rfl (st_assign rfl) .nil) ?_
        refine tr_ret ?_
        exact ends [_] [] (.cons (.tmp (str_eq (nameF_out w n (.inr (.inr h3))))) .nil) (.cons (.one .v (.v _)) .nil) (by decide) trivial
      · skip
        replace h3 : (withinF n 0 1000000) = true := bnot_f h3
        refine tr_skip ?_
        refine tr_seq ?_
        have hn := within_of h3
        obtain ⟨m, rfl⟩ : ∃ m : Nat, n = (m : Int) := ⟨n.toNat, by omega⟩
        refine tr_wk (s' := mk [(0, .p none (.v (.string w))), (1, .p none (.v (.int .i64 (m:Int))))] [] []) ?_ ?_
        · exact wk_mk ⟨rfl, ⟨rfl, trivial⟩⟩ trivial trivial rfl
        refine tr_region rfl (.run [] [] rfl (st_move rfl) (.run [] [] rfl (st_sadd rfl rfl rfl (by have : (⟨#[45]⟩ : ByteArray).size = 1 := rfl; omega)) (.run [] [] rfl (st_move rfl) (.run [2100] [] rfl (st_call rfl 2100 (X := []) en7 rfl (.val nod) (.cons (.one (.bor .v)) .nil) (by decide) all_nil .nil (l16Dec_con m (by omega)) rfl rfl (nle rfl)) (.run [] [] rfl (st_sadd rfl rfl rfl (by have : (⟨#[45]⟩ : ByteArray).size = 1 := rfl; have := decT_size m (by omega); rw [ByteArray.size_append]; omega)) (.run [] [] rfl (st_assign rfl) .nil)))))) ?_
        refine tr_ret ?_
        exact ends [_] [] (.cons (.tmp (str_eq (nameF_val w m h1' h2' h3))) .nil) (.cons (.one .v (.v _)) .nil) (by decide) trivial
    · have h2' := h2
      replace h2' := of_decide_eq_true h2'
      refine tr_region rfl (.run [] [] rfl (st_move rfl) (.run [] [] rfl (st_len_str rfl rfl Tryd.underlying9) (.run [] [] rfl (st_eq (st_lss rfl rfl rfl) (bool_eq h1)) (.run [] [] rfl (st_move rfl) (.run [] [] rfl (st_move rfl) (.run [] [] rfl (st_len_str rfl rfl Tryd.underlying9) (.run [] [] rfl (st_eq (st_gtr rfl rfl rfl) (bool_eq h2)) (.run [] [] rfl (st_pick (t := false) rfl rfl) (.run [] [] rfl (st_move rfl) (.not rfl (.not rfl (.not rfl (.run [] [] rfl (st_pick (t := true) rfl rfl) .nil))))))))))))) ?_
      refine tr_if (t := true) rfl (fun _ => ?_) (fun h => nomatch h)
      refine tr_seq ?_
      refine tr_region rfl (.run [] [] rfl (st_assign rfl) .nil) ?_
      refine tr_ret ?_
      exact ends [_] [] (.cons (.tmp (str_eq (nameF_out w n (.inr (.inl h2'))))) .nil) (.cons (.one .v (.v _)) .nil) (by decide) trivial
  · have h1' := h1
    replace h1' := of_decide_eq_true h1'
    refine tr_region rfl (.run [] [] rfl (st_move rfl) (.run [] [] rfl (st_len_str rfl rfl Tryd.underlying9) (.run [] [] rfl (st_eq (st_lss rfl rfl rfl) (bool_eq h1)) (.run [] [] rfl (st_move rfl) (.not rfl (.not rfl (.not rfl (.run [] [] rfl (st_pick (t := true) rfl rfl) (.run [] [] rfl (st_move rfl) (.not rfl (.not rfl (.not rfl (.run [] [] rfl (st_pick (t := true) rfl rfl) .nil))))))))))))) ?_
    refine tr_if (t := true) rfl (fun _ => ?_) (fun h => nomatch h)
    refine tr_seq ?_
    refine tr_region rfl (.run [] [] rfl (st_assign rfl) .nil) ?_
    refine tr_ret ?_
    exact ends [_] [] (.cons (.tmp (str_eq (nameF_out w n (.inl h1')))) .nil) (.cons (.one .v (.v _)) .nil) (by decide) trivial
set_option maxRecDepth 1000000 in
set_option maxHeartbeats 2000000 in
theorem iFileName_con {γ : Gho} (ht : TabG γ) (w : ByteArray) (n : Int) : ConG γ Tryd.prog 5 [.one (PV.v (.string w)), .one (PV.v (.int .i64 n))] [] [.one (.v (.string (nameF w n)))] := by
  refine con_of_tr Tryd.func5 rfl rfl rfl rfl ?_
  refine tr_seq ?_
  refine tr_region rfl (.run [] [] rfl (st_assign rfl) .nil) ?_
  refine tr_seq ?_
  refine tr_seq ?_
  rcases bfc (decide ((w.size : Int) < 1)) with h1 | h1
  · have h1' := h1
    replace h1' := of_decide_eq_false h1'
    rcases bfc (decide (20 < (w.size : Int))) with h2 | h2
    · have h2' := h2
      replace h2' := of_decide_eq_false h2'
      refine tr_region rfl (.run [] [] rfl (st_move rfl) (.run [] [] rfl (st_len_str rfl rfl Tryd.underlying9) (.run [] [] rfl (st_eq (st_lss rfl rfl rfl) (bool_eq h1)) (.run [] [] rfl (st_move rfl) (.run [] [] rfl (st_move rfl) (.run [] [] rfl (st_len_str rfl rfl Tryd.underlying9) (.run [] [] rfl (st_eq (st_gtr rfl rfl rfl) (bool_eq h2)) (.run [] [] rfl (st_pick (t := false) rfl rfl) (.run [] [] rfl (st_move rfl) (.run [] [] rfl (st_move rfl) (.run [1500] [] rfl (st_call rfl 1500 (X := []) en8 rfl (.val nod) (.cons (.one (.bor .v)) (.cons (.one (.bor .v)) (.cons (.one (.bor .v)) .nil))) (by decide) all_nil .nil (withinF_con n 0 1000000) rfl rfl (nle rfl)) (.run [] [] rfl (st_not (b := withinF n 0 1000000) rfl rfl) (.run [] [] rfl (st_pick (t := false) rfl rfl) .nil))))))))))))) ?_
      refine tr_if (t := (!(withinF n 0 1000000))) rfl (fun h3 => ?_) (fun h3 => ?_)
      · skip
        replace h3 : (withinF n 0 1000000) = false := bnot_t h3
        refine tr_seq ?_
        refine tr_region rfl (.run [] [] rfl (st_assign rfl) .nil) ?_
        refine tr_ret ?_
        exact ends [_] [] (.cons (.tmp (str_eq (nameF_out w n (.inr (.inr h3))))) .nil) (.cons (.one .v (.v _)) .nil) (by decide) trivial
      · skip
        replace h3 : (withinF n 0 1000000) = true := bnot_f h3
        refine tr_skip ?_
        refine tr_seq ?_
        have hn := within_of h3
        obtain ⟨m, rfl⟩ : ∃ m : Nat, n = (m : Int) := ⟨n.toNat, by omega⟩
        refine tr_wk (s' := mk [(0, .p none (.v (.string w))), (1, .p none (.v (.int .i64 (m:Int))))] [] []) ?_ ?_
        · exact wk_mk ⟨rfl, ⟨rfl, trivial⟩⟩ trivial trivial rfl
        refine tr_region rfl (.run [] [] rfl (st_move rfl) (.run [] [] rfl (st_sadd rfl rfl rfl (by have : (⟨#[45]⟩ : ByteArray).size = 1 := rfl; omega)) (.run [] [] rfl (st_move rfl) (.run [2100] [] rfl (st_callG (.inr rfl) rfl 2100 (X := []) en9 rfl (.val nod) (.cons (.one (.bor .v)) (.cons (.one (.bor .v)) .nil)) (by decide) all_nil .nil (fmt_con ht m (by omega)) rfl rfl (nle rfl)) (.run [] [] rfl (st_sadd rfl rfl rfl (by have : (⟨#[45]⟩ : ByteArray).size = 1 := rfl; have := decT_size m (by omega); rw [ByteArray.size_append]; omega)) (.run [] [] rfl (st_assign rfl) .nil)))))) ?_
        refine tr_ret ?_
        exact ends [_] [] (.cons (.tmp (str_eq (nameF_val w m h1' h2' h3))) .nil) (.cons (.one .v (.v _)) .nil) (by decide) trivial
    · have h2' := h2
      replace h2' := of_decide_eq_true h2'
      refine tr_region rfl (.run [] [] rfl (st_move rfl) (.run [] [] rfl (st_len_str rfl rfl Tryd.underlying9) (.run [] [] rfl (st_eq (st_lss rfl rfl rfl) (bool_eq h1)) (.run [] [] rfl (st_move rfl) (.run [] [] rfl (st_move rfl) (.run [] [] rfl (st_len_str rfl rfl Tryd.underlying9) (.run [] [] rfl (st_eq (st_gtr rfl rfl rfl) (bool_eq h2)) (.run [] [] rfl (st_pick (t := false) rfl rfl) (.run [] [] rfl (st_move rfl) (.not rfl (.not rfl (.not rfl (.run [] [] rfl (st_pick (t := true) rfl rfl) .nil))))))))))))) ?_
      refine tr_if (t := true) rfl (fun _ => ?_) (fun h => nomatch h)
      refine tr_seq ?_
      refine tr_region rfl (.run [] [] rfl (st_assign rfl) .nil) ?_
      refine tr_ret ?_
      exact ends [_] [] (.cons (.tmp (str_eq (nameF_out w n (.inr (.inl h2'))))) .nil) (.cons (.one .v (.v _)) .nil) (by decide) trivial
  · have h1' := h1
    replace h1' := of_decide_eq_true h1'
    refine tr_region rfl (.run [] [] rfl (st_move rfl) (.run [] [] rfl (st_len_str rfl rfl Tryd.underlying9) (.run [] [] rfl (st_eq (st_lss rfl rfl rfl) (bool_eq h1)) (.run [] [] rfl (st_move rfl) (.not rfl (.not rfl (.not rfl (.run [] [] rfl (st_pick (t := true) rfl rfl) (.run [] [] rfl (st_move rfl) (.not rfl (.not rfl (.not rfl (.run [] [] rfl (st_pick (t := true) rfl rfl) .nil))))))))))))) ?_
    refine tr_if (t := true) rfl (fun _ => ?_) (fun h => nomatch h)
    refine tr_seq ?_
    refine tr_region rfl (.run [] [] rfl (st_assign rfl) .nil) ?_
    refine tr_ret ?_
    exact ends [_] [] (.cons (.tmp (str_eq (nameF_out w n (.inl h1')))) .nil) (.cons (.one .v (.v _)) .nil) (by decide) trivial
set_option maxRecDepth 1000000 in
set_option maxHeartbeats 2000000 in
theorem law_fileName_con {γ : Gho} (ht : TabG γ) (w : ByteArray) (n : Int) : ConG γ Tryd.prog 3 [.one (PV.v (.string w)), .one (PV.v (.int .i64 n))] [] [.one (.v (.bool true))] := by
  refine con_of_tr Tryd.func3 rfl rfl rfl rfl ?_
  refine tr_seq ?_
  refine tr_region rfl (.run [] [] rfl (st_assign rfl) .nil) ?_
  refine tr_seq ?_
  refine tr_seq ?_
  refine tr_region rfl (.run [] [] rfl (st_move rfl) (.run [] [] rfl (st_len_str rfl rfl Tryd.underlying9) (.run [] [] rfl (st_gtr rfl rfl rfl) .nil))) ?_
  refine tr_if (t := decide (1048576 < (w.size : Int))) rfl (fun h1 => ?_) (fun h1 => ?_)
  · skip
    replace h1 := of_decide_eq_true h1
    refine tr_seq ?_
    refine tr_region rfl (.run [] [] rfl (st_assign rfl) .nil) ?_
    refine tr_ret ?_
    exact ends [_] [] (.cons (.tmp rfl) .nil) (.cons (.one .v (.v _)) .nil) (by decide) trivial
  · skip
    replace h1 := of_decide_eq_false h1
    refine tr_skip ?_
    refine tr_seq ?_
    refine tr_region rfl (.run [] [] rfl (st_move rfl) (.run [] [] rfl (st_move rfl) (.run [1200] [] rfl (st_call rfl 1200 (X := []) en4 rfl (.val nod) (.cons (.one (.bor .v)) (.cons (.one (.bor .v)) .nil)) (by decide) all_nil .nil (sFileName_con w n) rfl rfl (nle rfl)) (.run [] [] rfl (st_assign rfl) .nil)))) ?_
    refine tr_seq ?_
    refine tr_region rfl (.run [] [] rfl (st_move rfl) (.run [] [] rfl (st_move rfl) (.run [1500] [] rfl (st_callG (.inr rfl) rfl 1500 (X := []) en5 rfl (.val nod) (.cons (.one (.bor .v)) (.cons (.one (.bor .v)) .nil)) (by decide) all_nil .nil (iFileName_con ht w n) rfl rfl (nle rfl)) (.run [] [] rfl (st_assign rfl) .nil)))) ?_
    refine tr_seq ?_
    refine tr_seq ?_
    refine tr_region rfl (.run [] [] rfl (st_move rfl) (.run [] [] rfl (st_move rfl) (.run [] [] rfl (st_eq (st_sneq rfl rfl rfl) (bool_eq (congrArg Bool.not (decide_eq_true (by simp))))) .nil))) ?_
    refine tr_if (t := false) rfl (fun h => nomatch h) (fun _ => ?_)
    refine tr_skip ?_
    refine tr_seq ?_
    refine tr_region rfl (.run [] [] rfl (st_assign rfl) .nil) ?_
    refine tr_ret ?_
    exact ends [_] [] (.cons (.tmp rfl) .nil) (.cons (.one .v (.v _)) .nil) (by decide) trivial
end Go.Rl

/- Promises of functions, proved by walks over their operations; no conditions beyond those that each theorem states. -/
import Derived.Test.YtamebecmgdbmnaaGreatDoorRlP
import Derived.Laws.BytesString
import Derived.ChangeArms
import Derived.Deep.Slices
import Derived.SizedLaws
import Derived.Carry
import Derived.WideShapes
import Derived.WalkKit
import Derived.ProofKit
import Derived.OpenShut
import Derived.ShutString
import Derived.ChangeOld
import Derived.Shelf.Spec.SlicesInsert
import Derived.Lib.AppendZerosOnto
import Derived.Laws.NewBlocks
import Derived.Laws.CopyRow
set_option linter.unusedSimpArgs false
set_option linter.unusedVariables false
namespace Go.Rl
open Go.RowKit

def zB0 (ns : List Int) : ByteArray := ns.foldl (fun r n => r.push (UInt8.ofNat n.toNat)) ByteArray.empty
def pvB (ns : List Int) : List (List PV) := ns.map fun n => [.v (.int .u8 n)]
theorem zNx (ns : List Int) : (pvB ns).flatten = ns.map fun n => .v (.int .u8 n) := by
 induction ns with
 | nil => rfl
 | cons n ns ih => simp only [pvB, List.map_cons, List.flatten_cons, List.singleton_append] at ih ⊢; rw [ih]
theorem SrcA.shape {w0 : World} {I : Fr} {n : Nat} {L : Pl} {s : St} {a : Act} {w : World} (_ : Rel w0 I n L s a w) {sz : Nat} {av : AV} {news : List (List PV)} {K : List Nat} (g : SrcA s sz av news K) (hns : ∀ d b, av ≠ .p d (.v (.string b))) {v : Value} (hv : AVR L w s av v) : ∃ A c, v = .slice A news.length c ∧ (A = none → news = []) := by
 cases g with
 | nils => simp only [AVR] at hv; obtain ⟨A, e⟩ := hv; exact ⟨A, 0, e, fun _ => rfl⟩
 | row hr hl hf =>
  rename_i id lo len xs
  simp only [AVR] at hv
  obtain ⟨sz', xs', h2, h3, A, m, c, A', c', e1, rfl, hc, h0, h4⟩ := hv
  have hlen : ((xs.drop lo).take len).length = len := by simp; omega
  refine ⟨A', c', by rw [hlen], fun hA => ?_⟩
  rcases Nat.eq_zero_or_pos len with rfl | hpos
  · rfl
  ·
   obtain ⟨k, _, e⟩ := h4 hpos
   rw [hA] at e; cases e
 | give hr hl =>
  subst hl
  simp only [AVR] at hv
  obtain ⟨sz', xs', h2, h3, A, m, c, A', c', e1, rfl, hc, h0, h4⟩ := hv
  refine ⟨A', c', rfl, fun hA => ?_⟩
  rcases Nat.eq_zero_or_pos news.length with h | hpos
  · exact List.eq_nil_of_length_eq_zero h
  ·
   obtain ⟨k, _, e⟩ := h4 hpos
   rw [hA] at e; cases e
 | fro hf =>
  simp only [AVR] at hv
  have hp := hv.1
  cases hp with
  | emp _ _ A c => exact ⟨A, c, rfl, fun _ => rfl⟩
  | sl _ _ _ k off c => exact ⟨_, c, rfl, fun h => by cases h⟩
 | frn =>
  simp only [AVR] at hv
  have hp := hv.1
  rw [List.length_map]
  cases hp with
  | emp _ _ A c => exact ⟨A, c, rfl, fun _ => rfl⟩
  | sl _ _ _ k off c => exact ⟨_, c, rfl, fun h => by cases h⟩
 | str _ => exact absurd rfl (hns _ _)
section
variable {γ : Gho} {P : Program} {n : Nat} {o : Oper} {M B : List Nat} {s : St}
theorem st_str {t u e : TypeId} {x : Operand} (ho : o.op = .convert t u x) {av : AV} {news : List (List PV)} {K : List Nat} {ns : List Int} (hx : s.ev x = av) (g : SrcA s 1 av news K) (hns : ∀ d b, av ≠ .p d (.v (.string b))) (he : news = pvB ns) (ht : P.underlying t = some (.slice e)) (hu : P.underlying u = some .string) (h8 : P.underlying e = some (.int .u8)) :
  StepD γ P n o M B s { put := .p none (.v (.string (zB0 ns))) } :=
 zA6 fun s' ag w0 I L a w hr => by
  have hev := (ag.ev1 ho (by simp [Op.operands])).trans hx
  have g' : SrcA s' 1 av news K := g.at (fun i hi => ag.r1 ho (by simp [Op.operands]) hx hi)
  have hv := hr.ev x
  rw [hev] at hv
  have hk : zEr P t av := by
   unfold zEr
   split
   · rename_i d b; exact absurd rfl (hns d b)
   · exact ⟨e, ht⟩
  obtain ⟨us, m, hs, hul, hel, hpv, _, _⟩ := g'.ok hr hk hv
  obtain ⟨A, c, hval, hA⟩ := g'.shape hr hns hv
  have husv : us = ns.map (Value.int .u8) := by
   have hfl : news.flatten = ns.map fun n => PV.v (.int .u8 n) := by rw [he, zNx]
   apply List.ext_getElem?
   intro j
   rw [hfl] at hpv hul
   rw [List.length_map] at hul
   rw [List.getElem?_map]
   cases hj : ns[j]? with
   | none =>
    have : ns.length ≤ j := by simpa using hj
    rw [List.getElem?_eq_none (by omega)]
    rfl
   | some x =>
    obtain ⟨u, h1, h2⟩ := hpv j (.v (.int .u8 x)) (by rw [List.getElem?_map, hj]; rfl)
    generalize m j = N at h2
    cases h2
    exact h1
  have hrun : (Conv.bytesToString (a.eval x)).run P w = .ok (.string (zB0 ns)) w := by
   have hc := hs.cells
   rw [hval] at hc ⊢
   cases A with
   | none =>
    have hn := hA rfl
    have hn0 : ns = [] := by
     rw [he] at hn
     simpa [pvB] using hn
    subst hn0
    simp [Conv.bytesToString, zB0]
   | some ad =>
    refine run_bytesToString w ad news.length c ns ?_
    simp only [Builtin.firstCells, Nat.mul_one] at hc
    rw [← husv]
    exact hc
  rw [hval] at hrun
  exact ⟨.string (zB0 ns), by cases A <;> simp [execOp, ho, convert, run_underlying ht, run_underlying hu, run_underlying h8, hval, hrun], zCO L w s' rfl⟩
theorem zNZ {x : Operand} {t e : TypeId} (ho : o.op = .call { callee := .builtin .clear, args := #[x], argTypes := #[t] }) {id lo len sz by' : Nat} {xs : List (List PV)} {z : Value} (hx : s.ev x = .sl id lo len) (hr : s.r id = some (sz, xs)) (hf : FlatP xs)
  (ht : P.underlying t = some (.slice e)) (hi : (P.info? e).map (fun i => (i.zero, i.size, i.bytes)) = some (some z, sz, by')) (hz : z.cells.toList.all (·.oneCell') = true) (hzs : z.cells.size = sz) (hlo : lo + len = xs.length) :
  StepD γ P n o M B s { put := .undef, setR := [(id, sz, xs.take lo ++ List.replicate len (z.cells.toList.map fun v => .v v))] } := by
 intro s' ag hd w0 I L a w hG hrl K Q hK
 have e1 := (ag.ev1 ho (by simp [Op.operands, Call.operands])).trans hx
 have hr' := (ag.r1 ho (by simp [Op.operands, Call.operands]) hx (id := id) (by simp [AV.rows])).trans hr
 have hvx := hrl.ev x
 rw [e1] at hvx
 simp only [AVR] at hvx
 obtain ⟨sz', xs', f1, f2, A, n0, c, A', c', f3, f4, f5, f6, f7⟩ := hvx
 rw [hr'] at f1
 cases f1
 rcases Nat.eq_zero_or_pos len with rfl | hpos
 ·
  have he : (execOp a.eval o).run P w = .ok (.value (.tuple #[])) w := by
   cases A' <;> simp [execOp, ho, resolve, invoke, builtin, f4, Builtin.clear_, run_underlying ht]
  unfold Oper.wp
  rw [he, Oper.upon_value]
  have hxs : xs.take lo ++ List.replicate 0 (z.cells.toList.map fun v => PV.v v) = xs := by
   simp only [List.replicate_zero, List.append_nil]
   exact List.take_of_length_le (by omega)
  rw [hxs] at hK
  have hst : ({ t := s'.t, b := s'.b, r := upd s'.r id (some (sz, xs)) } : St) = s' := St.ext' (fun _ => rfl) (fun _ => rfl) (fun q => by
   by_cases e : q = id
   · subst e; simp [hr']
   · simp only [zBd _ _ e])
  refine hK _ _ _ (Rel.put (s := { t := s'.t, b := s'.b, r := upd s'.r id (some (sz, xs)) }) (by rw [hst]; exact hrl) hd (av := .undef) (by simp only [AVR]))
 ·
  obtain ⟨k, rfl, rfl⟩ := f7 hpos
  obtain ⟨i, i1, i2, i3, i4⟩ := zFf hi
  obtain ⟨q1, q2, q3⟩ := hrl.rw id sz xs hr'
  have hpx : 0 < xs.length := by omega
  have key : ∃ cur ty fz, FzOk fz cur.size sz ∧ n0 = xs.length ∧ w.heap[k]? = some (.cells cur ty fz) ∧ cur.size = c * sz ∧ xs.length ≤ c ∧ (∀ es ∈ xs, es.length = sz) ∧ ∀ (j : Nat) p, xs.flatten[j]? = some p → ∃ u, cur[j]? = some u := by
   rw [f3] at q1
   generalize L.ν id = N at q1
   cases q1 with
   | nil => simp at hpx
   | own _ _ _ _ cur ty hlen hk0 hsz0 hc hm u m hcell hpp hfz => exact ⟨cur, ty, _, hfz, rfl, hk0, hsz0, hc.1, hlen, fun j p hj => ⟨u j, hcell j (List.getElem?_eq_some_iff.1 hj).1⟩⟩
  obtain ⟨cur, ty, fz, hfz, rfl, hk0, hsz0, hc0, hlens, hcu⟩ := key
  have hxl : xs.flatten.length = xs.length * sz := zCg hlens
  have hcl : cur.toList.length = cur.size := Array.length_toList
  have hcs : xs.length * sz ≤ c * sz := Nat.mul_le_mul_right _ hc0
  have hls : lo * sz + len * sz = xs.length * sz := by rw [← Nat.add_mul, hlo]
  have hzl : (Builtin.zeroCells z.cells len).toList.length = len * sz := by rw [Array.length_toList, size_zeroCells, hzs]
  have hzg : ∀ j, j < len * sz → (Builtin.zeroCells z.cells len).toList[j]? = z.cells.toList[j % sz]? := fun j hj => by
   have hpos' : 0 < sz := Nat.pos_of_ne_zero (fun e => by subst e; simp at hj)
   have hm : j % sz < z.cells.size := by rw [hzs]; exact Nat.mod_lt _ hpos'
   simp only [Builtin.zeroCells, Array.getElem?_toList, Array.getElem?_map, hzs]
   rw [Array.getElem?_range, if_pos hj, Array.getElem?_eq_getElem hm]
   simp only [Option.map_some, Option.some.injEq]
   exact getElem!_pos z.cells (j % sz) hm
  have hone : ∀ v ∈ (Builtin.zeroCells z.cells len).toList, v.oneCell' = true := fun v hv => by
   obtain ⟨j, hj⟩ := List.getElem?_of_mem hv
   have hlt := (List.getElem?_eq_some_iff.1 hj).1
   rw [hzg j (by omega)] at hj
   exact (List.all_eq_true.1 hz) _ (List.mem_of_getElem? hj)
  have hst := zCY P k (lo * sz) ty fz (Builtin.zeroCells z.cells len).toList 0 cur w hk0 hfz.free (by rw [hzl]; omega) hone
  simp only [Nat.add_zero] at hst
  have hfit : lo * sz + (Builtin.zeroCells z.cells len).toList.length ≤ cur.toList.length := by rw [hzl]; omega
  have hzl2 : (z.cells.toList.map fun v => PV.v v).length = sz := by simpa using hzs
  have hxs' : (xs.take lo ++ List.replicate len (z.cells.toList.map fun v => PV.v v)).flatten = over xs.flatten (lo * sz) (List.replicate len (z.cells.toList.map fun v => PV.v v)).flatten := by
   have hrl : (List.replicate len (z.cells.toList.map fun v => PV.v v)).flatten.length = len * sz := by simp [hzs]
   simp only [over, List.flatten_append]
   rw [zFN hlens, hrl, List.drop_of_length_le (by omega), List.append_nil]
  have hn := hrl.poke (xs' := xs.take lo ++ List.replicate len (z.cells.toList.map fun v => .v v)) (cur' := ⟨over cur.toList (lo * sz) (Builtin.zeroCells z.cells len).toList⟩) hr' hpx hf.nf (by simp; omega) (fun es hes => by
   rcases List.mem_append.1 hes with hes | hes
   · exact hlens es (List.mem_of_mem_take hes)
   · rw [List.eq_of_mem_replicate hes]; exact hzl2) f3 hk0 (by have := zEa hfit; rw [hcl] at this; simpa using this) (fun j p hj => by
   have hrl2 : (List.replicate len (z.cells.toList.map fun v => PV.v v)).flatten.length = len * sz := by simp [hzs]
   rw [hxs', zDf (by omega), hrl2] at hj
   have hg : (⟨over cur.toList (lo * sz) (Builtin.zeroCells z.cells len).toList⟩ : Array Value)[j]? = (over cur.toList (lo * sz) (Builtin.zeroCells z.cells len).toList)[j]? := by simp
   rw [hg, zDf hfit, hzl]
   by_cases hc : lo * sz ≤ j ∧ j < lo * sz + len * sz
   ·
    rw [if_pos hc] at hj ⊢
    rw [zBc _ _ _ (by rw [hzl2]; omega), hzl2, List.getElem?_map] at hj
    rw [hzg _ (by omega)]
    cases hv : z.cells.toList[(j - lo * sz) % sz]? with
    | none => rw [hv] at hj; cases hj
    | some v =>
     rw [hv] at hj
     cases hj
     exact ⟨v, rfl, .inr (.v v ((List.all_eq_true.1 hz) _ (List.mem_of_getElem? hv)))⟩
   ·
    rw [if_neg hc] at hj ⊢
    obtain ⟨u, hu⟩ := hcu j p hj
    exact ⟨u, by simpa using hu, .inl ⟨hj, hu⟩⟩)
  have he : (execOp a.eval o).run P w = .ok (.value (.tuple #[])) (w.setRow k ⟨over cur.toList (lo * sz) (Builtin.zeroCells z.cells len).toList⟩) := by
   obtain ⟨len', rfl⟩ : ∃ l', len = l' + 1 := ⟨len - 1, by omega⟩
   simp [execOp, ho, resolve, invoke, builtin, f4, Builtin.clear_, run_underlying ht, zFC i1 i2, hst, over]
  unfold Oper.wp
  rw [he, Oper.upon_value]
  exact hK _ _ _ (hn.put hd (av := .undef) (by simp only [AVR]))
end
theorem nod {X : List Nat} : ∀ i, (none : Option Nat) = some i → i ∉ X := fun _ h => by cases h
def AV.noStr : AV → Bool
 | .p _ (.v _) => false
 | _ => true
theorem sk {P : Program} {tx e : TypeId} {av : AV} (h : P.underlying tx = some (.slice e)) (hn : av.noStr = true) : zEr P tx av := by
 unfold zEr
 split
 · cases hn
 · exact ⟨e, h⟩
section
variable {γ : Gho} {P : Program} {n : Nat} {o : Oper} {M B : List Nat} {s : St}
theorem zA0 {t e : TypeId} {x y : Operand} {sz : Nat} {d' : Option Nat} {kk : IntKind} {i : Int} (k : Nat) (ho : o.op = .indexAddr t x y) {id len rz : Nat} {xs : List (List PV)} (hx : s.ev x = .sl id 0 len) (hr : s.r id = some (rz, xs)) (hy : s.ev y = .p d' (.v (.int kk i))) (hu : P.underlying t = some (.slice e)) (hsz : ∀ w, (sizeOf e).run P w = .ok sz w) (hz : rz = sz) (hk : i = k) (h1 : k < len) :
  StepD γ P n o M B s { put := .ea id k 0 } :=
 zAI (zHI ho hx hr hy hu hsz hz (by omega) (by omega)) (by subst hk; simp)
theorem zEq {t e : TypeId} {x : Operand} {lo hi : Option Operand} (ho : o.op = .slice t x lo hi none) {id len l h sz m : Nat} {xs : List (List PV)} (hx : s.ev x = .sl id 0 len) (hr : s.r id = some (sz, xs)) (hu : P.underlying t = some (.slice e)) (hsz : ∀ w, (sizeOf e).run P w = .ok sz w) (hl : BndA s 0 lo l) (hh : BndA s len hi h) (h1 : l ≤ h) (h2 : h ≤ len) (hm : m = h - l) :
  StepD γ P n o M B s { put := .sl id l m } :=
 zAI (zLN ho hx hr hu hsz hl hh h1 h2 hm) (by rw [Nat.zero_add])
end
theorem zCj {γ : Gho} {P : Program} {n : Nat} {o : Oper} {M B : List Nat} {s : St} {t u e : TypeId} {x : Operand} (ns : List Int) (ho : o.op = .convert t u x) {av : AV} {news : List (List PV)} {K : List Nat} (hx : s.ev x = av) (g : SrcA s 1 av news K) (hn : av.noStr = true) (he : news = pvB ns) (ht : P.underlying t = some (.slice e)) (hu : P.underlying u = some .string) (h8 : P.underlying e = some (.int .u8)) :
  StepD γ P n o M B s { put := .p none (.v (.string (zB0 ns))) } :=
 st_str ho hx g (fun d b h => by rw [h] at hn; cases hn) he ht hu h8
theorem FlatP.set {xs : List (List PV)} (h : FlatP xs) {i : Nat} {cs : List PV} (hc : cs.all PV.isV = true) : FlatP (xs.set i cs) := fun es he p hp => by
 rcases List.mem_or_eq_of_mem_set he with he | rfl
 · exact h es he p hp
 · exact (List.all_eq_true.1 hc) p hp
theorem zGk {s : St} {K : List Nat} {id sz : Nat} {xs : List (List PV)} (h1 : s.r id = some (sz, xs)) (h2 : FlatP xs) (h3 : id ∉ K) : OutsOk s K [(id, sz)] [some xs] := ⟨⟨h1, h2, h3⟩, trivial⟩
theorem gv_eq {s : St} {av : AV} {p p' : PV} {K : List Nat} (g : Gv s av p K) (e : p = p') : Gv s av p' K := e ▸ g
end Go.Rl
namespace Go.Rl
theorem zAp {b : Bool} (h : (!b) = true) : b = false := by cases b <;> simp_all
theorem zAq {b : Bool} (h : (!b) = false) : b = true := by cases b <;> simp_all
structure Slot where
 name : ByteArray
 size : Int
 pins : Int
 deriving DecidableEq
def Slot.pv (s : Slot) : List PV := [.v (.string s.name), .v (.int .i64 s.size), .v (.int .i64 s.pins)]
def pvS (l : List Slot) : List (List PV) := l.map Slot.pv
def usedF (l : List Slot) : Int := (l.map (·.size)).sum
def zAi (n low high : Int) : Bool := decide (low ≤ n) && decide (n ≤ high)
def zBa (s : ByteArray) : Bool := decide ((1 : Int) ≤ (s.size : Int)) && decide ((s.size : Int) ≤ 40)
def isSlot (s : ByteArray) (n : Int) : Bool := zBa s && zAi n 1 100000
def idxF {α : Type} (p : α → Bool) (l : List α) : Int := match l.findIdx? p with
 | some i => (i : Int)
 | none => -1
def zSlot : List PV := [.v (.string ⟨#[]⟩), .v (.int .i64 0), .v (.int .i64 0)]
def szF : List Slot → Int → Int
 | [], left => left
 | e :: l, left => if left - (e.name.size : Int) < 0 then -1 else szF l (left - (e.name.size : Int))
def szSlotF (s : Slot) (left : Int) : Int := if left - (s.name.size : Int) < 0 then -1 else left - (s.name.size : Int)
def szSlotsF (l : List Slot) (left : Int) : Int := if left - (l.length : Int) < 0 then -1 else szF l (left - (l.length : Int))
def dig : Nat → Nat → ByteArray → ByteArray
 | 0, _, acc => acc
 | f + 1, n, acc => if n = 0 then acc else dig f (n / 10) (zB0 [IntKind.u8.wrap (48 + (n : Int).tmod 10)] ++ acc)
def markT (k : Nat) : ByteArray := if k = 0 then ⟨#[109, 48]⟩ else ⟨#[109]⟩ ++ dig k k ⟨#[]⟩
def markS (k : Nat) (i : Nat) : Slot := ⟨markT (k + 3 * i), ((k + 3 * i : Nat) : Int) + 1, ((k + 3 * i : Nat) : Int) + 1 + 1⟩
def marks (k n : Nat) : List Slot := (List.range n).map (markS k)
def heldF (k : Nat) (l : List Slot) : Int := if l = marks k l.length then ((k + 3 * l.length : Nat) : Int) else -1
def nameIs (n : ByteArray) (s : Slot) : Bool := decide (s.name = n)
def okSlot (l : List Slot) (j : Nat) (e : Slot) : Bool := isSlot e.name e.size && zAi e.pins 0 100000 && decide (idxF (fun s => decide (s.name = e.name)) l = (j : Int))
def okS (l : List Slot) : Bool := (List.range l.length).all fun j => match l[j]? with
 | some e => okSlot l j e
 | none => true
def okC (m : Int) (l : List Slot) : Bool := zAi m 0 100000 && decide (l.length ≤ 40) && okS l && (decide (usedF l ≤ m) || !l.any fun s => decide (s.pins = 0))
theorem bfc (b : Bool) : b = false ∨ b = true := by cases b <;> simp
def shedL (m : Int) : Nat → List Slot → List Slot
 | 0, l => l
 | i + 1, l => if m < usedF l then match l[i]? with
  | some e => if e.pins = 0 then shedL m i (l.eraseIdx i) else shedL m i l
  | none => shedL m i l
  else l
def lastF (l : List Slot) : Nat → Int
 | 0 => -1
 | q + 1 => match l[q]? with
  | some e => if e.pins = 0 then (q : Int) else lastF l q
  | none => lastF l q
end Go.Rl
namespace Go.Rl
structure Ent where
 user : ByteArray
 seq : Int
 kind : Int
 value : ByteArray
 deriving DecidableEq
def Ent.pv (e : Ent) : List PV := [.v (.string e.user), .v (.int .i64 e.seq), .v (.int .i64 e.kind), .v (.string e.value)]
def pvE (l : List Ent) : List (List PV) := l.map Ent.pv
theorem zA2 (l : List Ent) : (pvE l).length = l.length := by simp [pvE]
theorem zCK {l : List Ent} {i : Nat} {e : Ent} (h : l[i]? = some e) : (pvE l)[i]? = some e.pv := by simp [pvE, h]
theorem zFI (l : List Ent) : FlatP (pvE l) := fun es he p hp => by
 obtain ⟨s, _, rfl⟩ := List.mem_map.1 he
 simp only [Ent.pv, List.mem_cons, List.not_mem_nil, or_false] at hp
 rcases hp with rfl | rfl | rfl | rfl <;> rfl
theorem zO7 : ∀ x : List UInt8, Op.bytesLess x x = false
 | [] => rfl
 | a :: x => by simp [Op.bytesLess, zO7 x]
theorem zK9 : ∀ {x y z : List UInt8}, Op.bytesLess x y = true → Op.bytesLess y z = true → Op.bytesLess x z = true
 | _, [], _, h, _ => by simp [Op.bytesLess] at h
 | _, _ :: _, [], _, h => by simp [Op.bytesLess] at h
 | [], _ :: _, _ :: _, _, _ => rfl
 | a :: x, b :: y, c :: z, h, k => by
  simp only [Op.bytesLess, Bool.or_eq_true, decide_eq_true_eq, Bool.and_eq_true, beq_iff_eq] at h k ⊢
  rcases h with h | ⟨rfl, h⟩
  ·
   rcases k with k | ⟨rfl, k⟩
   · exact .inl (UInt8.lt_trans h k)
   · exact .inl h
  ·
   rcases k with k | ⟨rfl, k⟩
   · exact .inl k
   · exact .inr ⟨rfl, zK9 h k⟩
theorem zO6 : ∀ {x y : List UInt8}, Op.bytesLess x y = false → Op.bytesLess y x = false → x = y
 | [], [], _, _ => rfl
 | [], _ :: _, h, _ => by simp [Op.bytesLess] at h
 | _ :: _, [], _, h => by simp [Op.bytesLess] at h
 | a :: x, b :: y, h, k => by
  simp only [Op.bytesLess, Bool.or_eq_false_iff, decide_eq_false_iff_not, Bool.and_eq_false_iff, beq_eq_false_iff_ne] at h k
  have hab : a = b := UInt8.le_antisymm (UInt8.not_lt.1 k.1) (UInt8.not_lt.1 h.1)
  subst hab
  rw [zO6 (h.2.resolve_left (fun h => h rfl)) (k.2.resolve_left (fun h => h rfl))]
theorem toList_inj {a b : ByteArray} (h : a.toList = b.toList) : a = b := by
 cases a with | mk a => cases b with | mk b =>
 have h1 := beq_toListBytes ⟨a⟩ ⟨b⟩
 rw [h, beq_self_eq_true] at h1
 have h2 : (a == b) = true := h1
 rw [eq_of_beq h2]
theorem zMj (a : ByteArray) : ltB a a = false := zO7 _
theorem zJG {a b c : ByteArray} (h : ltB a b = true) (k : ltB b c = true) : ltB a c = true := zK9 h k
theorem zMi {a b : ByteArray} (h : ltB a b = false) (k : ltB b a = false) : a = b := toList_inj (zO6 h k)
def cmpS (a b : ByteArray) : Int := if ltB a b = true then -1 else if ltB b a = true then 1 else 0
def cmpI (a b : Int) : Int := if a < b then -1 else if b < a then 1 else 0
def cmpK (a b : Ent) : Int := if cmpS a.user b.user ≠ 0 then cmpS a.user b.user else if cmpI b.seq a.seq ≠ 0 then cmpI b.seq a.seq else cmpI b.kind a.kind
theorem zNG {a b : ByteArray} (h : ltB a b = false) : (!(ltB a b || decide (a = b))) = ltB b a := by
 rw [h, Bool.false_or]
 cases hb : ltB b a with
 | true => 
  have : a ≠ b := fun e => by subst e; rw [zMj] at hb; cases hb
  simp [this]
 | false => simp [zMi h hb]
def zBl (u : ByteArray) (s k : Int) : Bool := zBa u && zAi s 0 1000000000000 && zAi k 0 1
def zBp (e : Ent) : Bool := zBl e.user e.seq e.kind && decide ((e.value.size : Int) ≤ 200) && (decide (e.kind = 1) || decide (e.value = ⟨#[]⟩))
def zNO {α : Type} (p : Nat → α → Bool) (l : List α) : Bool := (List.range l.length).all fun j => match l[j]? with
 | some e => p j e
 | none => true
theorem zOf {α : Type} {p : Nat → α → Bool} {l : List α} {i : Nat} {e : α} (h : l[i]? = some e) (hn : p i e = false) : zNO p l = false := by
 apply Bool.eq_false_iff.2
 intro ha
 have := (List.all_eq_true.1 ha) i (List.mem_range.2 (List.getElem?_eq_some_iff.1 h).1)
 rw [h] at this
 simp only at this
 rw [hn] at this
 cases this
theorem zJl {α : Type} {p : Nat → α → Bool} {l : List α} {i : Nat} (hi : l.length ≤ i) (h : ∀ j e, j < i → l[j]? = some e → p j e = true) : zNO p l = true := by
 refine List.all_eq_true.2 (fun j hj => ?_)
 have hlt := List.mem_range.1 hj
 rw [List.getElem?_eq_getElem hlt]
 exact h j _ (by omega) (List.getElem?_eq_getElem hlt)
theorem zJm {α : Type} {p : Nat → α → Bool} {l : List α} {i : Nat} {e : α} (h : zNO p l = true) (he : l[i]? = some e) : p i e = true := by
 have := (List.all_eq_true.1 h) i (List.mem_range.2 (List.getElem?_eq_some_iff.1 he).1)
 rw [he] at this
 exact this
theorem zIN {α : Type} {p : Nat → α → Bool} {l : List α} {i : Nat} {e : α} (h : ∀ j e, j < i → l[j]? = some e → p j e = true) (he : l[i]? = some e) (ho : p i e = true) : ∀ j e, j < i + 1 → l[j]? = some e → p j e = true := fun j e' hj hl => by
 by_cases hji : j = i
 · subst hji; rw [he] at hl; cases hl; exact ho
 · exact h j e' (by omega) hl
def zDW (l : List Ent) (j : Nat) (e : Ent) : Bool := zBp e && (decide (j = 0) || match l[j - 1]? with
 | some x => decide (cmpK x e < 0)
 | none => true)
def zBJ (l : List Ent) : Bool := decide (l.length ≤ 400) && zNO (zDW l) l
def okSnap (s : List Int) (j : Nat) (x : Int) : Bool := zAi x 0 1000000000000 && (decide (j = 0) || match s[j - 1]? with
 | some y => decide (y < x)
 | none => true)
def zMB (s : List Int) : Bool := decide (s.length ≤ 20) && zNO (okSnap s) s
def Ahead (x e : Ent) : Prop := ltB x.user e.user = true ∨ (x.user = e.user ∧ e.seq ≤ x.seq)
theorem Ahead.trans {x y z : Ent} (h : Ahead x y) (k : Ahead y z) : Ahead x z := by
 rcases h with h | ⟨h, h'⟩
 ·
  rcases k with k | ⟨k, _⟩
  · exact .inl (zJG h k)
  · exact .inl (by rw [← k]; exact h)
 ·
  rcases k with k | ⟨k, k'⟩
  · exact .inl (by rw [h]; exact k)
  · exact .inr ⟨h.trans k, by omega⟩
def asOf (u : ByteArray) (s : Int) (e : Ent) : Bool := decide (e.user = u) && decide (e.seq ≤ s)
def needP (l : List Ent) (ps : List Int) (i : Nat) (e : Ent) : Bool := ps.any fun p => decide (e.seq ≤ p) && (decide (i = 0) || match l[i - 1]? with
 | some x => decide (x.user ≠ e.user) || decide (p < x.seq)
 | none => true)
def zAV {α : Type} [DecidableEq α] (l : List α) : Nat → List α
 | 0 => []
 | j + 1 => match l[j]? with
  | some y => if j ≠ 0 ∧ l[j - 1]? = some y then zAV l j else zAV l j ++ [y]
  | none => zAV l j
def zCM {α : Type} [DecidableEq α] (l : List α) : List α := zAV l l.length
theorem zFv {α : Type} [DecidableEq α] {l : List α} {u : α} : ∀ {n : Nat}, u ∈ zAV l n ↔ ∃ j, j < n ∧ l[j]? = some u
 | 0 => by simp [zAV]
 | n + 1 => by
  have ih := zFv (l := l) (u := u) (n := n)
  rw [zAV]
  cases hy : l[n]? with
  | none =>
   simp only [ih]
   constructor
   · rintro ⟨j, hj, h⟩; exact ⟨j, by omega, h⟩
   ·
    rintro ⟨j, hj, h⟩
    by_cases hjn : j = n
    · subst hjn; rw [hy] at h; cases h
    · exact ⟨j, by omega, h⟩
  | some y =>
   simp only []
   by_cases hd : n ≠ 0 ∧ l[n - 1]? = some y
   ·
    rw [if_pos hd, ih]
    constructor
    · rintro ⟨j, hj, h⟩; exact ⟨j, by omega, h⟩
    ·
     rintro ⟨j, hj, h⟩
     by_cases hjn : j = n
     ·
      subst hjn; rw [hy] at h; cases h
      exact ⟨j - 1, by omega, hd.2⟩
     · exact ⟨j, by omega, h⟩
   ·
    rw [if_neg hd, List.mem_append, ih, List.mem_singleton]
    constructor
    ·
     rintro (⟨j, hj, h⟩ | rfl)
     · exact ⟨j, by omega, h⟩
     · exact ⟨n, by omega, hy⟩
    ·
     rintro ⟨j, hj, h⟩
     by_cases hjn : j = n
     · subst hjn; rw [hy] at h; cases h; exact .inr rfl
     · exact .inl ⟨j, by omega, h⟩
theorem zKN {α : Type} [DecidableEq α] {u : α} {l : List α} : u ∈ zCM l ↔ u ∈ l := by
 rw [zCM, zFv]
 constructor
 · rintro ⟨j, _, h⟩; exact List.mem_of_getElem? h
 ·
  intro h
  obtain ⟨j, hj⟩ := List.getElem?_of_mem h
  exact ⟨j, (List.getElem?_eq_some_iff.1 hj).1, hj⟩
theorem zEO {α : Type} [DecidableEq α] (l : List α) : ∀ n, (zAV l n).length ≤ n
 | 0 => Nat.le_refl _
 | n + 1 => by
  have := zEO l n
  rw [zAV]
  split
  ·
   split
   · omega
   · simp only [List.length_append, List.length_cons, List.length_nil]; omega
  · omega
theorem zDB {α : Type} [DecidableEq α] {l : List α} {j : Nat} {x y : α} (h1 : 1 ≤ j) (hx : l[j - 1]? = some x) (hy : l[j]? = some y) (h : y = x) : zAV l (j + 1) = zAV l j := by
 rw [zAV, hy]
 simp only []
 rw [if_pos ⟨by omega, by rw [hx, h]⟩]
theorem zDh {α : Type} [DecidableEq α] {l : List α} {j : Nat} {x y : α} (hx : l[j - 1]? = some x) (hy : l[j]? = some y) (h : ¬ y = x) : zAV l (j + 1) = zAV l j ++ [y] := by
 rw [zAV, hy]
 simp only []
 rw [if_neg (fun hd => h (by rw [hx] at hd; exact (Option.some.inj hd.2).symm))]
def zAm (l : List Ent) : List ByteArray := zCM (l.map (·.user))
def zN7 (l : List Ent) (ps : List Int) : Nat → List Int
 | 0 => []
 | i + 1 => zN7 l ps i ++ match l[i]? with
  | some e => if needP l ps i e = true then [(i : Int)] else []
  | none => []
def zKE (s : List Int) : List Int := s ++ [1000000000000]
def neededF (l : List Ent) (s : List Int) : List Int := if zBJ l = true ∧ zMB s = true then zN7 l (zKE s) l.length else []
end Go.Rl
namespace Go.Rl
section
variable {α : Type} {f : α → List PV} {z : List PV}
def szOne (n : Nat) (x : Int) : Int := if x - (n : Int) < 0 then -1 else x - (n : Int)
def szL (w : α → Nat) : List α → Int → Int
 | [], x => x
 | e :: l, x => if x - (w e : Int) < 0 then -1 else szL w l (x - (w e : Int))
def szS (w : α → Nat) (l : List α) (x : Int) : Int := if x - (l.length : Int) < 0 then -1 else szL w l (x - (l.length : Int))
variable {w : α → Nat}
def marksG (mk : Nat → Nat → α) (k n : Nat) : List α := (List.range n).map (mk k)
variable {mk : Nat → Nat → α} {k : Nat}
def heldG [DecidableEq α] (mk : Nat → Nat → α) (c k : Nat) (l : List α) : Int := if l = marksG mk k l.length then ((k + c * l.length : Nat) : Int) else -1
end
def pvI (l : List Int) : List (List PV) := l.map fun n => [.v (.int .i64 n)]
theorem zDm (l : List Int) : (pvI l).length = l.length := by simp [pvI]
theorem pvI_get {l : List Int} {i : Nat} {e : Int} (h : l[i]? = some e) : (pvI l)[i]? = some [.v (.int .i64 e)] := by simp [pvI, h]
theorem zNw (l : List Int) : FlatP (pvI l) := fun es he p hp => by
 obtain ⟨s, _, rfl⟩ := List.mem_map.1 he
 simp only [List.mem_cons, List.not_mem_nil, or_false] at hp
 rcases hp with rfl; rfl
def pvT (l : List ByteArray) : List (List PV) := l.map fun n => [.v (.string n)]
theorem zBD (l : List ByteArray) : (pvT l).length = l.length := by simp [pvT]
theorem zCl {l : List ByteArray} {i : Nat} {e : ByteArray} (h : l[i]? = some e) : (pvT l)[i]? = some [.v (.string e)] := by simp [pvT, h]
theorem zD5 (l : List ByteArray) : FlatP (pvT l) := fun es he p hp => by
 obtain ⟨s, _, rfl⟩ := List.mem_map.1 he
 simp only [List.mem_cons, List.not_mem_nil, or_false] at hp
 rcases hp with rfl; rfl
def markN (k i : Nat) : Int := ((k + 1 * i : Nat) : Int)
end Go.Rl
namespace Go.Rl
def orF : List Int → Int
 | [] => 0
 | x :: l => if x ≠ 0 then x else orF l
theorem zMb {l : List Int} {i : Nat} {e : Int} (he : l[i]? = some e) : orF (l.drop i) = if e ≠ 0 then e else orF (l.drop (i + 1)) := by
 have hlt := (List.getElem?_eq_some_iff.1 he).1
 have : l.drop i = e :: l.drop (i + 1) := by rw [List.drop_eq_getElem_cons hlt, (List.getElem?_eq_some_iff.1 he).2]
 rw [this, orF]
theorem or_end {l : List Int} {i : Nat} (hi : l.length ≤ i) : orF (l.drop i) = 0 := by rw [List.drop_of_length_le hi]; rfl
theorem zN0 (a b : Ent) : orF [cmpS a.user b.user, cmpI b.seq a.seq, cmpI b.kind a.kind] = cmpK a b := by
 unfold cmpK
 simp only [orF]
 by_cases h1 : cmpS a.user b.user = 0
 ·
  by_cases h2 : cmpI b.seq a.seq = 0
  · by_cases h3 : cmpI b.kind a.kind = 0 <;> simp [h1, h2, h3]
  · simp [h1, h2]
 · simp [h1]
def LessE (a b : Ent) : Prop := ltB a.user b.user = true ∨ (a.user = b.user ∧ (b.seq < a.seq ∨ (a.seq = b.seq ∧ b.kind < a.kind)))
theorem zFQ (a : ByteArray) : cmpS a a = 0 := by simp [cmpS, zMj]
theorem cmpK_eq {a b : Ent} (h1 : a.user = b.user) (h2 : a.seq = b.seq) (h3 : a.kind = b.kind) : cmpK a b = 0 := by
 unfold cmpK
 rw [h1, h2, h3, zFQ]
 simp [cmpI]
theorem zKP {a b : Ent} (h : LessE a b) : cmpK a b = -1 := by
 unfold cmpK
 rcases h with h | ⟨h1, h | ⟨h2, h⟩⟩
 · simp [cmpS, h]
 ·
  rw [h1, zFQ]
  simp [cmpI, h]
 ·
  rw [h1, zFQ, h2]
  simp [cmpI, h]
theorem zKQ {a b : Ent} (h : ¬ LessE a b) (hn : ¬ (a.user = b.user ∧ a.seq = b.seq ∧ a.kind = b.kind)) : cmpK a b = 1 := by
 unfold cmpK
 by_cases h1 : ltB a.user b.user = true
 · exact absurd (.inl h1) h
 ·
  by_cases h2 : ltB b.user a.user = true
  · simp [cmpS, h1, h2]
  ·
   have he : a.user = b.user := zMi (by simpa using h1) (by simpa using h2)
   rw [he, zFQ]
   have h3 : ¬ b.seq < a.seq := fun h3 => h (.inr ⟨he, .inl h3⟩)
   by_cases h4 : a.seq < b.seq
   · simp [cmpI, h3, h4]
   ·
    have h5 : a.seq = b.seq := by omega
    have h6 : ¬ b.kind < a.kind := fun h6 => h (.inr ⟨he, .inr ⟨h5, h6⟩⟩)
    have h7 : a.kind < b.kind := by
     have : a.kind ≠ b.kind := fun h7 => hn ⟨he, h5, h7⟩
     omega
    simp [cmpI, h5, h6, h7]
theorem zIZ {l : List Ent} {i : Nat} {e : Ent} (he : l[i]? = some e) (hn : zDW l i e = false) : zBJ l = false := by simp [zBJ, zOf he hn]
theorem zJR {l : List Ent} (h : 400 < l.length) : zBJ l = false := by
 have : ¬ l.length ≤ 400 := by omega
 simp [zBJ, this]
theorem zK5 {l : List Ent} {i : Nat} (hl : l.length ≤ 400) (hi : l.length ≤ i) (h : ∀ j e, j < i → l[j]? = some e → zDW l j e = true) : zBJ l = true := by simp [zBJ, hl, zJl hi h]
theorem zJD {l : List Ent} {j : Nat} {e : Ent} (h : zBp e = false) : zDW l j e = false := by simp [zDW, h]
theorem zJB {l : List Ent} {j : Nat} {x e : Ent} (hj : 0 < j) (hx : l[j - 1]? = some x) (h : 0 ≤ cmpK x e) : zDW l j e = false := by
 have h1 : ¬ j = 0 := by omega
 have h2 : ¬ cmpK x e < 0 := by omega
 simp [zDW, hx, h1, h2]
theorem zGm {l : List Ent} {j : Nat} {e : Ent} (h : zBp e = true) (hj : ¬ 0 < j) : zDW l j e = true := by
 have h1 : j = 0 := by omega
 simp [zDW, h, h1]
theorem zHb {l : List Ent} {j : Nat} {x e : Ent} (h : zBp e = true) (hx : l[j - 1]? = some x) (hc : ¬ 0 ≤ cmpK x e) : zDW l j e = true := by
 have h2 : cmpK x e < 0 := by omega
 simp [zDW, h, hx, h2]
theorem zJC {l : List Ent} {j : Nat} {e : Ent} (h : zDW l j e = true) : zBp e = true := by
 simp only [zDW, Bool.and_eq_true] at h
 exact h.1
theorem zCB {e : Ent} (h : zBp e = true) : zBl e.user e.seq e.kind = true := by
 simp only [zBp, Bool.and_eq_true] at h
 exact h.1.1
def kcmp (a b : Ent) : Int := if zBl a.user a.seq a.kind = true ∧ zBl b.user b.seq b.kind = true then cmpK a b else 0
theorem zEL {a b : Ent} (h1 : zBl a.user a.seq a.kind = true) (h2 : zBl b.user b.seq b.kind = true) : kcmp a b = cmpK a b := by simp [kcmp, h1, h2]
theorem kc_ok {l : List Ent} {i : Nat} {x e : Ent} (hG : ∀ j e, j < i → l[j]? = some e → zDW l j e = true) (hi : 0 < i) (hx : l[i - 1]? = some x) (he : zBp e = true) : kcmp x e = cmpK x e := zEL (zCB (zJC (hG _ _ (by omega) hx))) (zCB he)
def needC (l : List Ent) (i : Nat) (e : Ent) (p : Int) : Bool := decide (e.seq ≤ p) && (decide (i = 0) || match l[i - 1]? with
 | some x => decide (x.user ≠ e.user) || decide (p < x.seq)
 | none => true)
theorem zIc {α : Type} {l c : List α} {q : Nat} (h : c.length ≤ q) : (c ++ l.drop c.length)[q]? = l[q]? := by
 rw [List.getElem?_append_right h, List.getElem?_drop]
 congr 1
 omega
theorem cpt_set {α : Type} {l c : List α} {y : α} (h : c.length < l.length) : (c ++ l.drop c.length).set c.length y = (c ++ [y]) ++ l.drop (c ++ [y]).length := by
 rw [List.set_append_right _ _ (Nat.le_refl _), Nat.sub_self, List.drop_eq_getElem_cons h, List.set_cons_zero]
 simp
theorem zNE {α : Type} [DecidableEq α] {l : List α} {k : Nat} (h : zAV l k = l.take k) (hk : k ≤ l.length) : zAV l k ++ l.drop (zAV l k).length = l := by
 rw [h, List.length_take, Nat.min_eq_left hk, List.take_append_drop]
theorem zOS {α : Type} [DecidableEq α] {l : List α} {k : Nat} {x y : α} (h : zAV l k = l.take k) (hx : l[k - 1]? = some x) (hy : l[k]? = some y) (hn : ¬ y = x) : zAV l (k + 1) = l.take (k + 1) := by
 rw [zDh hx hy hn, h, List.take_add_one, hy]
 rfl
theorem zEp {γ : Gho} {P : Program} {n : Nat} {o : Oper} {M B : List Nat} {s : St} {t e : TypeId} {x y : Operand} {sz : Nat} {d' : Option Nat} {kk : IntKind} {i : Int} (k : Nat) (ho : o.op = .indexAddr t x y) {id lo len rz : Nat} {xs : List (List PV)} (hx : s.ev x = .sl id lo len) (hr : s.r id = some (rz, xs)) (hy : s.ev y = .p d' (.v (.int kk i))) (hu : P.underlying t = some (.slice e)) (hsz : ∀ w, (sizeOf e).run P w = .ok sz w) (hz : rz = sz) (hk : i = k) (h1 : k < len) :
  StepD γ P n o M B s { put := .ea id (lo + k) 0 } :=
 zAI (zHI ho hx hr hy hu hsz hz (by omega) (by omega)) (by subst hk; simp)
theorem cpt_one {α : Type} [DecidableEq α] {l : List α} (h : 1 ≤ l.length) : zAV l 1 = l.take 1 := by
 cases l with
 | nil => simp at h
 | cons x l => simp [zAV]
theorem zNF {α : Type} [DecidableEq α] {l : List α} (h : l.length ≤ 1) : zCM l = l := by
 cases l with
 | nil => rfl
 | cons x l => cases l with
  | nil => simp [zCM, zAV]
  | cons y l => simp only [List.length_cons] at h; omega
theorem cpt_row {c r : List ByteArray} {n m : Nat} {z : List PV} (h : n = c.length) : ((((pvT (c ++ r)).take n) ++ List.replicate m z).take (n - 0)) = pvT c := by
 subst h
 rw [Nat.sub_zero, List.take_append_of_le_length (by rw [List.length_take, zBD]; simp), List.take_take, Nat.min_self]
 simp [pvT, List.map_append]
theorem zOT {c : List ByteArray} {n m : Nat} : ∀ es ∈ ((pvT c).take n ++ List.replicate m [PV.v (.string ⟨#[]⟩)]), ∀ p ∈ es, (match p with | .v _ => true | _ => false) = true := fun es he p hp => by
 rcases List.mem_append.1 he with he | he
 ·
  obtain ⟨b, _, rfl⟩ := List.mem_map.1 (List.mem_of_mem_take he)
  simp only [List.mem_singleton] at hp
  subst hp; rfl
 ·
  rw [List.eq_of_mem_replicate he] at hp
  simp only [List.mem_singleton] at hp
  subst hp; rfl
end Go.Rl
namespace Go.Rl
open Go.RowKit

def rn (a b i : Nat) : Nat := match Nat.beq i a with
 | true => b
 | false => i
theorem zMJ (a b : Nat) : rn a b a = b := by simp [rn]
theorem rn_ne {a b i : Nat} (h : i ≠ a) : rn a b i = i := by
 have : Nat.beq i a = false := by
  cases e : Nat.beq i a with
  | false => rfl
  | true => exact absurd (Nat.eq_of_beq_eq_true e) h
 simp only [rn, this]
mutual
def AV.ren (a b : Nat) : AV → AV
 | .p (some d) x => .p (some (rn a b d)) x
 | .sl id lo len => .sl (rn a b id) lo len
 | .ea id i off => .ea (rn a b id) i off
 | .fea (some d) ps => .fea (some (rn a b d)) ps
 | .agg cs => .agg (AV.rens a b cs)
 | .tup cs => .tup (AV.rens a b cs)
 | x => x
def AV.rens (a b : Nat) : List AV → List AV
 | [] => []
 | x :: xs => AV.ren a b x :: AV.rens a b xs
end
def St.ren (s : St) (a b : Nat) : St := ⟨fun i => (s.t i).ren a b, fun i => (s.b i).map (AV.rens a b), fun i => match Nat.beq i b with
 | true => s.r a
 | false => match Nat.beq i a with
  | true => none
  | false => s.r i⟩
def Pl.ren (L : Pl) (a b : Nat) : Pl := { L with ρ := upd L.ρ b (L.ρ a), ν := upd L.ν b (L.ν a), lab := fun k => match L.lab k with
 | some (.row i) => some (.row (rn a b i))
 | x => x }
section
variable {L : Pl} {w : World} {s : St} {a b : Nat}
theorem zLU (hab : a ≠ b) (hb : s.r b = none) {i : Nat} {y} (h : s.r i = some y) : (s.ren a b).r (rn a b i) = some y ∧ (L.ren a b).ρ (rn a b i) = L.ρ i ∧ (L.ren a b).ν (rn a b i) = L.ν i := by
 by_cases e : i = a
 ·
  subst e
  rw [zMJ]
  refine ⟨?_, by simp [Pl.ren], by simp [Pl.ren]⟩
  simp only [St.ren, Nat.beq_refl]
  exact h
 ·
  have hib : i ≠ b := fun e => by subst e; rw [hb] at h; cases h
  have h1 : Nat.beq i b = false := by
   cases e : Nat.beq i b with
   | false => rfl
   | true => exact absurd (Nat.eq_of_beq_eq_true e) hib
  have h2 : Nat.beq i a = false := by
   cases e' : Nat.beq i a with
   | false => rfl
   | true => exact absurd (Nat.eq_of_beq_eq_true e') e
  rw [rn_ne e]
  exact ⟨by simp only [St.ren, h1, h2]; exact h, zBd _ _ hib, zBd _ _ hib⟩
theorem zKh (hab : a ≠ b) (hb : s.r b = none) {d : Option Nat} (hd : ∀ id, d = some id → (s.r id).isSome) : ∀ k, L.zd d k → (L.ren a b).zd (d.map (rn a b)) k := fun k hk => by
 rcases hk with hk | ⟨id, rfl, hk⟩
 · exact .inl hk
 ·
  obtain ⟨y, hy⟩ := Option.isSome_iff_exists.1 (hd id rfl)
  exact .inr ⟨rn a b id, rfl, by rw [(zLU hab hb hy).2.2]; exact hk⟩
mutual
theorem AVR.ren (hab : a ≠ b) (hb : s.r b = none) : ∀ (av : AV) (v : Value), AVR L w s av v → AVR (L.ren a b) w (s.ren a b) (av.ren a b) v
 | .undef, v, _ => by simp [AV.ren, AVR]
 | .p none x, v, hv => by
  simp only [AV.ren, AVR] at hv ⊢
  exact ⟨hv.1.mono (fun _ _ => rfl) (fun k hk => zKh (d := none) hab hb (fun _ h => by cases h) k hk), fun _ h => by cases h⟩
 | .p (some d) x, v, hv => by
  simp only [AV.ren, AVR] at hv ⊢
  refine ⟨hv.1.mono (fun _ _ => rfl) (fun k hk => zKh (d := some d) hab hb hv.2 k hk), fun id hid => ?_⟩
  cases hid
  obtain ⟨y, hy⟩ := Option.isSome_iff_exists.1 (hv.2 d rfl)
  rw [(zLU (L := L) hab hb hy).1]; rfl
 | .sl id lo len, v, hv => by
  simp only [AV.ren, AVR] at hv ⊢
  obtain ⟨sz, xs, h1, h2, h3⟩ := hv
  obtain ⟨h4, h5, _⟩ := zLU (L := L) hab hb h1
  exact ⟨sz, xs, h4, h2, by rw [h5]; exact h3⟩
 | .ptr c off, v, hv => by
  simp only [AV.ren, AVR] at hv ⊢
  exact ⟨by simpa [St.ren] using hv.1, hv.2⟩
 | .ea id i off, v, hv => by
  simp only [AV.ren, AVR] at hv ⊢
  obtain ⟨sz, xs, k, n, c, h1, h2, h3, h4⟩ := hv
  obtain ⟨h5, h6, _⟩ := zLU (L := L) hab hb h1
  exact ⟨sz, xs, k, n, c, h5, h2, by rw [h6]; exact h3, h4⟩
 | .fea none ps, v, hv => by
  simp only [AV.ren, AVR] at hv ⊢
  obtain ⟨⟨k, off, h1, h2, h3⟩, h4⟩ := hv
  have hz := zKh (L := L) (d := none) hab hb h4
  exact ⟨⟨k, off, h1, hz k h2, fun j p hp => by obtain ⟨u, hu, hr⟩ := h3 j p hp; exact ⟨u, hu, hr.mono (fun _ _ => rfl) hz⟩⟩, fun _ h => by cases h⟩
 | .fea (some d) ps, v, hv => by
  simp only [AV.ren, AVR] at hv ⊢
  obtain ⟨⟨k, off, h1, h2, h3⟩, h4⟩ := hv
  have hz := zKh (L := L) (d := some d) hab hb h4
  refine ⟨⟨k, off, h1, hz k h2, fun j p hp => by obtain ⟨u, hu, hr⟩ := h3 j p hp; exact ⟨u, hu, hr.mono (fun _ _ => rfl) hz⟩⟩, fun id hid => ?_⟩
  cases hid
  obtain ⟨y, hy⟩ := Option.isSome_iff_exists.1 (h4 d rfl)
  rw [(zLU (L := L) hab hb hy).1]; rfl
 | .nils, v, hv => by simpa only [AV.ren, AVR] using hv
 | .sat A, v, hv => by simpa only [AV.ren, AVR] using hv
 | .clo f bs, v, hv => by
  simp only [AV.ren, AVR] at hv ⊢
  exact ⟨fun x hx => by simpa [St.ren] using hv.1 x hx, hv.2⟩
 | .agg cs, v, hv => by
  simp only [AV.ren, AVR] at hv ⊢
  obtain ⟨us, h1, h2⟩ := hv
  exact ⟨us, h1, AVRs.ren hab hb cs us h2⟩
 | .tup cs, v, hv => by
  simp only [AV.ren, AVR] at hv ⊢
  obtain ⟨us, h1, h2⟩ := hv
  exact ⟨us, h1, AVRs.ren hab hb cs us h2⟩
theorem AVRs.ren (hab : a ≠ b) (hb : s.r b = none) : ∀ (aL : List AV) (us : List Value), AVRs L w s aL us → AVRs (L.ren a b) w (s.ren a b) (AV.rens a b aL) us
 | [], [], _ => by simp [AV.rens, AVRs]
 | [], _ :: _, hv => by simp [AVRs] at hv
 | _ :: _, [], hv => by simp [AVRs] at hv
 | x :: aL, u :: us, hv => by
  simp only [AV.rens, AVRs] at hv ⊢
  exact ⟨AVR.ren hab hb x u hv.1, AVRs.ren hab hb aL us hv.2⟩
end
end
theorem zCc {n : Nat} {s : St} (a b : Nat) (hab : Nat.beq a b = false) (hb : s.r b = none) (hp : b < pinT) : Wk n s (s.ren a b) := by
 intro w0 I L ac w h
 have hne : a ≠ b := fun e => by subst e; simp at hab
 have hlab : ∀ k, (∀ i, L.lab k ≠ some (.row i)) → (L.ren a b).lab k = L.lab k := fun k hk => by
  show (match L.lab k with
   | some (.row i) => some (.row (rn a b i))
   | x => x) = L.lab k
  cases e : L.lab k with
  | none => rfl
  | some l => cases l with
   | box i => rfl
   | row i => exact absurd e (hk i)
 refine ⟨L.ren a b, h.same, fun k hk => ⟨(h.zlt k hk).1, ?_⟩, fun k l hk => ?_, h.sz, h.df, fun i => (h.tm i).ren hne hb _ _, fun i cs hc => ?_, fun i sz xs hx => ?_, fun i hi hx => ?_, fun i hi hx => h.pb i hi (by simpa [St.ren] using hx), h.zi⟩
 ·
  rw [hlab k (fun i => by rw [(h.zlt k hk).2]; simp)]
  exact (h.zlt k hk).2
 ·
  simp only [Pl.ren] at hk
  split at hk
  · rename_i i e; exact h.llt k _ e
  · exact h.llt k l hk
 ·
  simp only [St.ren, Option.map_eq_some_iff] at hc
  obtain ⟨cs0, h0, rfl⟩ := hc
  obtain ⟨h1, us, ty, h2, h3, h4⟩ := h.bx i cs0 h0
  exact ⟨(hlab (L.β i) (fun j => by rw [h1]; simp)).trans h1, us, ty, h2, h3.ren hne hb _ _, h4⟩
 ·
  have key : ∃ j, s.r j = some (sz, xs) ∧ rn a b j = i := by
   simp only [St.ren] at hx
   split at hx
   ·
    rename_i e
    have := Nat.eq_of_beq_eq_true e
    subst this
    exact ⟨a, hx, zMJ _ _⟩
   ·
    split at hx
    · cases hx
    ·
     rename_i e1 e2
     refine ⟨i, hx, rn_ne (fun e => ?_)⟩
     subst e
     simp at e2
  obtain ⟨j, hj, rfl⟩ := key
  obtain ⟨h1, h2, h3⟩ := h.rw j sz xs hj
  obtain ⟨_, h4, h5⟩ := zLU (L := L) hne hb hj
  rw [h4, h5]
  exact ⟨h1, h2, fun k hk => by simp only [Pl.ren, h3 k hk]⟩
 ·
  simp only [St.ren] at hx
  split at hx
  ·
   rename_i e
   have := Nat.eq_of_beq_eq_true e
   omega
  ·
   rename_i e1
   split at hx
   · cases hx
   ·
    have hib : i ≠ b := fun e => by subst e; simp at e1
    simp only [Pl.ren, zBd _ _ hib]
    exact h.pr i hi hx
end Go.Rl
namespace Go.Rl
open Go.RowKit

inductive Sh where
 | int (k : IntKind)
 | str
 | bool
 | sl (E : List Sh)
def shFs (P : Program) (sh : TypeId → Option (List Sh)) : List Field → Nat → Option (List Sh)
 | [], _ => some []
 | f :: fs, o => match Nat.beq f.offset o, sh f.type with
  | true, some E => match Nat.beq (P.cellsOf f.type) E.length, shFs P sh fs (o + E.length) with
   | true, some F => some (E ++ F)
   | _, _ => none
  | _, _ => none
def shOf (P : Program) : Nat → TypeId → Option (List Sh)
 | 0, _ => none
 | n + 1, t => match P.underlying t with
  | some (.int k) => some [.int k]
  | some .string => some [.str]
  | some .bool => some [.bool]
  | some (.slice e) => match shOf P n e with
   | some (x :: E) => match Nat.beq (P.cellsOf e) (x :: E).length with
    | true => some [.sl (x :: E)]
    | false => none
   | _ => none
  | some (.struct fs) => match shFs P (shOf P n) fs.toList 0 with
   | some E => match Nat.beq (P.cellsOf t) E.length with
    | true => some E
    | false => none
   | none => none
  | _ => none
inductive Fit : Sh → PV → Prop
 | int (k : IntKind) (n : Int) (h : (Lit.int k n).wf = true) : Fit (.int k) (.v (.int k n))
 | str (b : ByteArray) (h : b.size ≤ reachBytes) : Fit .str (.v (.string b))
 | bool (b : Bool) : Fit .bool (.v (.bool b))
 | sl (E : List Sh) (xs : List (List PV)) (hl : xs.length ≤ maxLen) (h : ∀ es ∈ xs, es.length = E.length) (h2 : ∀ es ∈ xs, ∀ (j : Nat) s p, E[j]? = some s → es[j]? = some p → Fit s p) : Fit (.sl E) (.sl false E.length xs)
def Fits (E : List Sh) (ps : List PV) : Prop := ps.length = E.length ∧ ∀ (j : Nat) s p, E[j]? = some s → ps[j]? = some p → Fit s p
theorem Fits.app {E F : List Sh} {ps qs : List PV} (h : Fits E ps) (k : Fits F qs) : Fits (E ++ F) (ps ++ qs) := by
 refine ⟨by simp [h.1, k.1], fun j s p hs hp => ?_⟩
 by_cases hj : j < E.length
 ·
  rw [List.getElem?_append_left hj] at hs
  rw [List.getElem?_append_left (by rw [h.1]; exact hj)] at hp
  exact h.2 j s p hs hp
 ·
  rw [List.getElem?_append_right (by omega)] at hs
  rw [List.getElem?_append_right (by rw [h.1]; omega), h.1] at hp
  exact k.2 _ s p hs hp
theorem Fits.one {s : Sh} {p : PV} (h : Fit s p) : Fits [s] [p] := ⟨rfl, fun j s' p' hs hp => by
 cases j with
 | zero => simp at hs hp; subst hs hp; exact h
 | succ j => simp at hs⟩
theorem zOK {ps : List PV} (h : Fits [] ps) : ps = [] := List.eq_nil_of_length_eq_zero h.1
theorem zJO {s : Sh} {E : List Sh} {ps : List PV} (h : Fits (s :: E) ps) : ∃ p qs, ps = p :: qs ∧ Fit s p ∧ Fits E qs := by
 cases ps with
 | nil => have := h.1; simp at this
 | cons p qs => exact ⟨p, qs, rfl, h.2 0 s p rfl rfl, by have := h.1; simpa using this, fun j s' p' hs hp => h.2 (j + 1) s' p' (by simpa using hs) (by simpa using hp)⟩
theorem fit_str {p : PV} (h : Fit .str p) : ∃ b, p = .v (.string b) ∧ b.size ≤ reachBytes := by cases h; exact ⟨_, rfl, ‹_›⟩
theorem fit_nf {s : Sh} {p : PV} (h : Fit s p) : p.nf = true := by cases h <;> rfl

section
variable {H : Type} {enc : TypeId × Value → H} {P : Program} {w : World} {sp : Nat → Bool} {held : Bool}
def old (w : World) : Nat → Prop := fun k => k < w.heap.size
theorem zN5 {w : World} {a : Addr} {v : Value} (h : w.cell? a = some v) : old w a.block ∧ a.spot = none := by
 unfold World.cell? at h
 split at h
 ·
  rename_i c t f e
  refine ⟨(Array.getElem?_eq_some_iff.1 e).1, ?_⟩
  cases hs : a.spot with
  | none => rfl
  | some x => rw [hs] at h; simp at h
 · cases h
theorem zGF {e : TypeId} : ∀ {l : List (DataW H)} {d : DataW H}, d ∈ l → ∀ n ∈ d.weights P e, n ∈ DataW.weightsAll P e l
 | x :: l, d, hd, n, hn => by
  simp only [DataW.weightsAll, List.mem_append]
  rcases List.mem_cons.1 hd with rfl | hd
  · exact .inl hn
  · exact .inr (zGF hd n hn)
def Opens (H : Type) (enc : TypeId × Value → H) (P : Program) (w : World) (sp : Nat → Bool) (held : Bool) (t : TypeId) (E : List Sh) : Prop :=
 ∀ (fuel : Nat) (cs : List Value) (x : DataW H × List MemPlace), DataW.trod enc P w 0 sp held fuel t cs = some x → (∀ n ∈ x.1.weights P t, n ≤ reachBytes) →
  ∃ ps, Fits E ps ∧ cs.length = E.length ∧ ∀ (j : Nat) p v, ps[j]? = some p → cs[j]? = some v → PVR (old w) w p v
theorem zKt {n : Nat} (ih : ∀ t E, shOf P n t = some E → Opens H enc P w sp held t E) : ∀ (fs : List Field) (o : Nat) (E : List Sh), shFs P (shOf P n) fs o = some E →
  ∀ (fuel : Nat) (cs : List Value) (xs : List (DataW H × List MemPlace)), xs.length = fs.length → (∀ (i : Nat) (f : Field), fs[i]? = some f → DataW.trod enc P w 0 sp held fuel f.type ((cs.drop f.offset).take (P.cellsOf f.type)) = xs[i]?) →
   (∀ n ∈ DataW.weightsEach P (fs.map (·.type)) (xs.map (·.1)), n ≤ reachBytes) → ∃ ps, Fits E ps ∧ ∀ (j : Nat) p v, ps[j]? = some p → cs[o + j]? = some v → PVR (old w) w p v
 | [], o, E, hE, fuel, cs, xs, hl, hx, hw => by
  simp only [shFs, Option.some.injEq] at hE
  subst hE
  exact ⟨[], ⟨rfl, by simp⟩, by simp⟩
 | f :: fs, o, E, hE, fuel, cs, xs, hl, hx, hw => by
  simp only [shFs] at hE
  split at hE
  ·
   rename_i E1 ho hs
   split at hE
   ·
    rename_i F hc hF
    simp only [Option.some.injEq] at hE
    subst hE
    have ho' := Nat.eq_of_beq_eq_true ho
    have hc' := Nat.eq_of_beq_eq_true hc
    cases xs with
    | nil => simp at hl
    | cons x xs =>
     have h0 := hx 0 f rfl
     simp only [List.getElem?_cons_zero] at h0
     simp only [List.map_cons, DataW.weightsEach, List.mem_append] at hw
     obtain ⟨ps, f1, f2, f3⟩ := ih f.type E1 hs fuel _ x h0 (fun n hn => hw n (.inl hn))
     obtain ⟨qs, g1, g3⟩ := zKt ih fs (o + E1.length) F hF fuel cs xs (by simpa using hl) (fun i f' hf => by simpa using hx (i + 1) f' (by simpa using hf)) (fun n hn => hw n (.inr hn))
     refine ⟨ps ++ qs, f1.app g1, fun j p v hp hv => ?_⟩
     by_cases hj : j < E1.length
     ·
      rw [List.getElem?_append_left (by rw [f1.1]; exact hj)] at hp
      refine f3 j p v hp ?_
      rw [ho', hc', List.getElem?_take_of_lt hj, List.getElem?_drop]
      exact hv
     ·
      rw [List.getElem?_append_right (by rw [f1.1]; omega), f1.1] at hp
      refine g3 (j - E1.length) p v hp ?_
      rw [show o + E1.length + (j - E1.length) = o + j by omega]
      exact hv
   · cases hE
  · cases hE
theorem opens : ∀ (n : Nat) (t : TypeId) (E : List Sh), shOf P n t = some E → Opens H enc P w sp held t E
 | 0, t, E, hE => by simp [shOf] at hE
 | n + 1, t, E, hE => by
  intro fuel cs x hx hw
  simp only [shOf] at hE
  split at hE
  ·
   rename_i k hu
   cases hE
   obtain ⟨m, rfl, rfl, hm⟩ := DataW.trod_int hu hx
   exact ⟨[.v (.int k m)], Fits.one (.int k m hm), rfl, fun j p v hp hv => by
    cases j with
    | zero => simp at hp hv; subst hp hv; exact .v _ rfl
    | succ j => simp at hp⟩
  ·
   rename_i hu
   cases hE
   obtain ⟨b, rfl, rfl, hm⟩ := DataW.trod_string hu hx
   have hb : b.size ≤ reachBytes := by
    have := hw b.data.toList.length (by simp [DataW.weights])
    simpa using this
   exact ⟨[.v (.string b)], Fits.one (.str b hb), rfl, fun j p v hp hv => by
    cases j with
    | zero => simp at hp hv; subst hp hv; exact .v _ rfl
    | succ j => simp at hp⟩
  ·
   rename_i hu
   cases hE
   obtain ⟨b, rfl, rfl⟩ := DataW.trod_bool hu hx
   exact ⟨[.v (.bool b)], Fits.one (.bool b), rfl, fun j p v hp hv => by
    cases j with
    | zero => simp at hp hv; subst hp hv; exact .v _ rfl
    | succ j => simp at hp⟩
  ·
   rename_i e hu
   split at hE
   ·
    rename_i s0 E0 he
    split at hE
    ·
     rename_i hc
     cases hE
     have hc' := Nat.eq_of_beq_eq_true hc
     rcases DataW.trod_slice hu hx with ⟨rfl, rfl⟩ | ⟨a, len, cap, elems, rest, m, _, rfl, rfl, _, hl, hm, hlen, hel, _, _⟩
     ·
      exact ⟨[.sl false (s0 :: E0).length []], Fits.one (.sl (s0 :: E0) [] (Nat.zero_le _) (fun _ h => by cases h) (fun _ h => by cases h)), rfl, fun j p v hp hv => by
       cases j with
       | zero => simp at hp hv; subst hp hv; exact .emp _ _ _ _
       | succ j => simp at hp⟩
     ·
      have one : ∀ i, i < len → ∃ ps : List PV, Fits (s0 :: E0) ps ∧ ∀ (q : Nat) p, ps[q]? = some p → ∃ v, w.cell? ((a.add (i * (s0 :: E0).length)).add q) = some v ∧ PVR (old w) w p v := fun i hi => by
       have h1 := hel i hi
       rw [List.getElem?_eq_getElem (by omega)] at h1
       obtain ⟨cs', h2, h3⟩ := Option.bind_eq_some_iff.1 h1
       obtain ⟨_, h5, h6⟩ := World.cells?_some h2
       rw [hc'] at h5 h6 h2
       obtain ⟨ps, g1, g2, g3⟩ := opens n e (s0 :: E0) he m cs' elems[i] h3 (fun k hk => hw k (by
        simp only [DataW.weights, hu, List.mem_cons, List.mem_append]
        exact .inr (.inl (zGF (List.mem_map.2 ⟨elems[i], List.getElem_mem _, rfl⟩) k hk))))
       refine ⟨ps, g1, fun q p hp => ?_⟩
       have hq : q < (s0 :: E0).length := by rw [← g1.1]; exact (List.getElem?_eq_some_iff.1 hp).1
       have h7 := h6 q hq
       rw [List.getElem?_eq_getElem (by omega)] at h7
       exact ⟨_, h7, g3 q p _ hp (List.getElem?_eq_getElem (by omega))⟩
      obtain ⟨f, hf⟩ := Deep.choose_lt one
      have hxs : ∀ es ∈ (List.range len).map f, Fits (s0 :: E0) es := fun es he => by
       obtain ⟨i, hi, rfl⟩ := List.mem_map.1 he
       exact (hf i (List.mem_range.1 hi)).1
      have hz : 0 < (s0 :: E0).length := by simp
      refine ⟨[.sl false (s0 :: E0).length ((List.range len).map f)], Fits.one (.sl (s0 :: E0) _ (by simp; omega) (fun es he => (hxs es he).1) (fun es he => (hxs es he).2)), rfl, fun j p v hp hv => ?_⟩
      cases j with
      | succ j => simp at hp
      | zero =>
       simp at hp hv
       subst hp hv
       rcases Nat.eq_zero_or_pos len with rfl | hpos
       · exact .emp _ _ _ _
       ·
        have h0 : ∃ v, w.cell? a = some v := by
         obtain ⟨p0, _, e0, _, _⟩ := zJO (hf 0 hpos).1
         obtain ⟨v, hv, _⟩ := (hf 0 hpos).2 0 p0 (by rw [e0]; rfl)
         exact ⟨v, by simpa [Addr.add] using hv⟩
        obtain ⟨v0, hv0⟩ := h0
        obtain ⟨ho, hs⟩ := zN5 hv0
        obtain ⟨k, off, spot⟩ := a
        simp only at hs ho
        subst hs
        have hll : ((List.range len).map f).length = len := by simp
        have key : ∀ (j : Nat) p, ((List.range len).map f).flatten[j]? = some p → ∃ v, w.cell? ⟨k, off + j, none⟩ = some v ∧ PVR (old w) w p v := fun j p hp => by
         obtain ⟨_, es, h1, h2⟩ := flat_at (sz := (s0 :: E0).length) (fun es he => (hxs es he).1) hp
         have hlt : j / (s0 :: E0).length < len := by have := (List.getElem?_eq_some_iff.1 h1).1; simpa using this
         have he : es = f (j / (s0 :: E0).length) := by
          rw [List.getElem?_map, List.getElem?_range hlt] at h1
          simpa using h1.symm
         subst he
         obtain ⟨v, h3, h4⟩ := (hf _ hlt).2 _ p h2
         refine ⟨v, ?_, h4⟩
         rw [Deep.add_add, Nat.mul_comm, Nat.div_add_mod] at h3
         rw [← h3]
         unfold Addr.add
         by_cases hj : j = 0 <;> simp [hj]
        have res := PVR.sl (Z := old w) (w := w) false (s0 :: E0).length ((List.range len).map f) k off cap (fun es he => (hxs es he).1) (by rw [hll]; exact hl) ho (fun j => (w.cell? ⟨k, off + j, none⟩).getD undef) (fun j hj => by
         obtain ⟨v, h1, _⟩ := key j _ (List.getElem?_eq_getElem hj)
         simp [h1]) (fun j p hp => by
         obtain ⟨v, h1, h2⟩ := key j p hp
         simpa [h1] using h2)
        rwa [hll] at res
    · cases hE
   · cases hE
  ·
   rename_i fs hu
   split at hE
   ·
    rename_i E1 hF
    split at hE
    ·
     rename_i hc
     cases hE
     obtain ⟨xs, m, _, rfl, hl, hxl, hxs⟩ := DataW.trod_struct hu hx
     obtain ⟨ps, g1, g2⟩ := zKt (opens n) fs.toList 0 E hF m cs xs (by simpa using hxl) (fun i f hf => hxs i f (by simpa using hf)) (fun k hk => hw k (by simpa [DataW.weights, hu] using hk))
     exact ⟨ps, g1, hl.trans (Nat.eq_of_beq_eq_true hc), fun j p v hp hv => g2 j p v hp (by simpa using hv)⟩
    · cases hE
   · cases hE
  · cases hE
end
end Go.Rl
namespace Go.Rl
open Go.RowKit

theorem zM1 {E : List Sh} {ps : List PV} (h : Fits E ps) : ∀ p ∈ ps, p.nf = true := fun p hp => by
 obtain ⟨j, hj⟩ := List.getElem?_of_mem hp
 have hlt : j < E.length := by rw [← h.1]; exact (List.getElem?_eq_some_iff.1 hj).1
 exact fit_nf (h.2 j _ p (List.getElem?_eq_getElem hlt) hj)
theorem zMW {Z : Nat → Prop} {w : World} {s : Sh} {p : PV} {u : Value} (hf : Fits [s] [p]) (hv : ∀ (j : Nat) p' v, [p][j]? = some p' → [u][j]? = some v → PVR Z w p' v) : PAS Z w (.one p) u [] :=
 .one (.nf (zM1 hf p (by simp)) ((hv 0 p u rfl rfl).nfO (zM1 hf p (by simp))))
theorem zLp {H : Type} {P : Program} {ts : List TypeId} {ds : List (DataW H)} (h : (DataW.weightsEach P ts ds).all (· ≤ reachBytes) = true) {j : Nat} {t : TypeId} {d : DataW H} (ht : ts[j]? = some t) (hd : ds[j]? = some d) : ∀ n ∈ d.weights P t, n ≤ reachBytes := fun n hn => by
 have := List.all_eq_true.1 h n (DataW.weights_mem_each ht hd n hn)
 simpa using this
end Go.Rl
namespace Go.Rl
open Go.RowKit

end Go.Rl
namespace Go.Rl
open Go.RowKit

section
variable {γ : Gho} {P : Program} {n : Nat} {o : Oper} {M B : List Nat} {s : St}
theorem zCo {ty : TypeId} {x : Operand} (ho : o.op = .box ty x) (id : Nat) {av : AV} {vs : List Value} (hx : s.ev x = av) (hf : av.fits = true) (hv : zDs av.cells = some vs) (hid1 : id < pinT) (hid : s.r id = none) (hM : id ∈ M) :
  StepD γ P n o M B s { put := .ea id 0 0, setR := [(id, vs.length, [vs.map PV.v])] } := by
 intro s' ag hd w0 I L a w hG hr K Q hK
 have h := hr.ev x
 rw [ag.ev1 ho (by simp [Op.operands]), hx] at h
 have hid' : s'.r id = none := (ag.m id hM).trans hid
 obtain ⟨h1, h2⟩ := h.cells hf
 have hus := zIV hv h1
 obtain ⟨N, hfr⟩ := hr.fresh [] id (cur := ⟨vs⟩) ty (sz := vs.length) (c := 1) (xs := [vs.map PV.v]) (fun es hes => by simp only [List.mem_singleton] at hes; subst hes; simp) (by simp) (by simp) (by decide) (fun _ => []) (fun j p hj => by
  simp only [List.flatten_cons, List.flatten_nil, List.append_nil, List.getElem?_map] at hj
  obtain ⟨v, hv', rfl⟩ := Option.map_eq_some_iff.1 hj
  exact ⟨v, by simpa using hv', .v v (h2 v (by rw [hus]; exact List.mem_of_getElem? hv'))⟩) (by rw [zBX]; simp) (by rw [zBX]; simp) hid1 (.inl hid')
 have he : (execOp a.eval o).run P w = .ok (.value (.pointer (some ⟨w.heap.size, 0, none⟩))) (w.alloc (.cells ⟨vs⟩ ty)) := by
  have : (a.eval x).cells = ⟨vs⟩ := by apply Array.ext'; simpa using hus
  simp [execOp, ho, Instr.box, newVar, newRow, this]
 unfold Oper.wp
 rw [he, Oper.upon_value]
 have hfin := hfr.put hd (av := .ea id 0 0) (v := .pointer (some ⟨w.heap.size, 0, none⟩)) (by
  simp only [AVR]
  exact ⟨vs.length, [vs.map PV.v], w.heap.size, 1, 1, by simp, by simp, by simp [Pl.row], by simp⟩)
 exact hK _ _ _ (by rw [Dl.app, zDX]; exact hfin)
theorem zAe {x : Operand} (ho : o.op = .nilCheck x) {id i off : Nat} (hx : s.ev x = .ea id i off) : StepD γ P n o M B s { put := .ea id i off } :=
 zA6 fun s' ag w0 I L a w hrl => by
  have he := (ag.ev1 ho (by simp [Op.operands])).trans hx
  have h := hrl.ev x
  rw [he] at h
  have h' := h
  simp only [AVR] at h
  obtain ⟨_, _, k, _, _, _, _, _, e⟩ := h
  exact ⟨_, by simp only [execOp, ho, e]; rfl, by rw [e] at h'; exact h'⟩
end
mutual
theorem AVR.mono_b {L : Pl} {w : World} {s : St} {b' : Nat → Option (List AV)} : ∀ {av : AV} {v : Value}, AVR L w s av v → (∀ q, (s.b q).isSome → (b' q).isSome) → AVR L w ⟨s.t, b', s.r⟩ av v
 | .undef, v, _, _ => by simp [AVR]
 | .p d x, v, hv, _ => by simpa only [AVR] using hv
 | .sl id lo len, v, hv, _ => by simpa only [AVR] using hv
 | .ptr b off, v, hv, h => by simp only [AVR] at hv ⊢; exact ⟨h b hv.1, hv.2⟩
 | .ea id i off, v, hv, _ => by simpa only [AVR] using hv
 | .fea d ps, v, hv, _ => by simpa only [AVR] using hv
 | .nils, v, hv, _ => by simpa only [AVR] using hv
 | .sat A, v, hv, _ => by simpa only [AVR] using hv
 | .clo f bs, v, hv, h => by simp only [AVR] at hv ⊢; exact ⟨fun q hq => h q (hv.1 q hq), hv.2⟩
 | .agg cs, v, hv, h => by
  simp only [AVR] at hv ⊢
  obtain ⟨us, h1, h2⟩ := hv
  exact ⟨us, h1, AVRs.mono_b h2 h⟩
 | .tup cs, v, hv, h => by
  simp only [AVR] at hv ⊢
  obtain ⟨us, h1, h2⟩ := hv
  exact ⟨us, h1, AVRs.mono_b h2 h⟩
theorem AVRs.mono_b {L : Pl} {w : World} {s : St} {b' : Nat → Option (List AV)} : ∀ {qs : List AV} {us : List Value}, AVRs L w s qs us → (∀ q, (s.b q).isSome → (b' q).isSome) → AVRs L w ⟨s.t, b', s.r⟩ qs us
 | [], [], _, _ => by simp [AVRs]
 | [], _ :: _, hv, _ => by simp [AVRs] at hv
 | _ :: _, [], hv, _ => by simp [AVRs] at hv
 | a :: qs, u :: us, hv, h => by
  simp only [AVRs] at hv ⊢
  exact ⟨AVR.mono_b hv.1 h, AVRs.mono_b hv.2 h⟩
end
theorem AVRs.set_at {L : Pl} {w : World} {s : St} : ∀ {qs : List AV} {us : List Value} {j : Nat} {av : AV} {v : Value}, AVRs L w s qs us → us[j]? = some v → AVR L w s av v → AVRs L w s (qs.set j av) us
 | [], us, _, _, _, h, _, _ => by simpa using h
 | _ :: _, [], _, _, _, h, _, _ => by simp [AVRs] at h
 | a :: qs, u :: us, 0, av, v, h, hv, ha => by
  simp only [AVRs, List.set_cons_zero] at h ⊢
  simp at hv
  subst hv
  exact ⟨ha, h.2⟩
 | a :: qs, u :: us, j + 1, av, v, h, hv, ha => by
  simp only [AVRs, List.set_cons_succ] at h ⊢
  exact ⟨h.1, AVRs.set_at h.2 (by simpa using hv) ha⟩
theorem wk_nil {n : Nat} {s : St} (b j id sz : Nat) {cs : List AV} (hb : s.b b = some cs) (hj : cs[j]? = some .nils) (hid : s.r id = none) (hp : id < pinT) :
  Wk n s ⟨s.t, upd s.b b (some (cs.set j (.sl id 0 0))), upd s.r id (some (sz, []))⟩ := by
 intro w0 I L a w h
 obtain ⟨h1, us, ty, h2, h3, h4⟩ := h.bx b cs hb
 obtain ⟨v, hv, hav⟩ := h3.get j _ hj
 simp only [AVR] at hav
 obtain ⟨A, rfl⟩ := hav
 have hrel := h.adopt (id := id) (sz := sz) (xs := []) (v := .slice A 0 0) (N := []) (.nil sz A) (by simp) (by simp) hid (.inl hp)
 have hsome : ∀ q, (s.b q).isSome → ((upd s.b b (some (cs.set j (.sl id 0 0)))) q).isSome := fun q hq => by
  by_cases e : q = b
  · subst e; simp
  · rw [zBd _ _ e]; exact hq
 refine ⟨L.row id (.slice A 0 0) [], ⟨hrel.same, hrel.zlt, hrel.llt, hrel.sz, hrel.df, fun i => ?_, fun i cs' hc => ?_, hrel.rw, hrel.pr, fun i hi hx => ?_, hrel.zi⟩⟩
 · exact AVR.mono_b (hrel.tm i) hsome
 ·
  by_cases e : i = b
  ·
   subst e
   simp only [upd_self, Option.some.injEq] at hc
   subst hc
   obtain ⟨g1, us', ty', g2, g3, g4⟩ := hrel.bx i cs hb
   have g2' : w.heap[L.β i]? = some (.cells ⟨us'⟩ ty' (0, 0)) := g2
   rw [h2] at g2'
   cases g2'
   refine ⟨g1, us, ty, h2, ?_, g4⟩
   have g3' := AVRs.mono_b g3 hsome
   exact AVRs.set_at g3' hv (by
    simp only [AVR]
    exact ⟨sz, [], by simp, by simp, A, 0, 0, A, 0, by simp [Pl.row], rfl, Nat.le_refl _, fun _ => ⟨rfl, rfl⟩, fun h => absurd h (Nat.lt_irrefl _)⟩)
  ·
   simp only [zBd _ _ e] at hc
   obtain ⟨g1, us', ty', g2, g3, g4⟩ := hrel.bx i cs' hc
   exact ⟨g1, us', ty', g2, AVRs.mono_b g3 hsome, g4⟩
 ·
  refine hrel.pb i hi ?_
  by_cases e : i = b
  · subst e; simp [hb]
  · simpa [zBd _ _ e] using hx
def CodeAt (γ : Gho) (cv : Value) (bs : List Nat) : Prop :=
 ∃ A c, cv = .slice A bs.length c ∧ (bs = [] ∨ ∃ k off cur ty fz, A = some ⟨k, off, none⟩ ∧ γ = some (k, .cells cur ty fz) ∧ ∀ (i : Nat) (b : Nat), bs[i]? = some b → b < 256 ∧ cur[off + i]? = some (.int .u8 b))
end Go.Rl
namespace Go.Rl
open Go.RowKit
def pvC (bs : List Nat) : List (List PV) := bs.map fun b : Nat => [.v (.int .u8 (b : Int))]
theorem zOA {γ : Gho} {P : Program} {f : FuncId} {args : List PA} {vs : List Value} {w : World} (hc : ConG γ P f args [] [.one (.v (.bool true))]) (hg : Gh γ w []) (ha : PASs (old w) w args vs []) :
  Calls P f ⟨vs⟩ w fun e w' => e = .returned (.bool true) ∧ Below w.heap.size w w' := by
 refine (hc (old w) w vs [] hg ha (fun k hk => ⟨hk, by simp [Leaf.all]⟩) (by simp [Leaf.all]) (by simp [Leaf.all])).mono ?_
 rintro e w' ⟨v, F, rfl, hs, _, hr, _⟩
 have hv : v = .bool true := by
  cases hr with
  | one h =>
   cases h with
   | one h =>
    cases h with
    | nf hn h => cases h; rfl
  | more hl _ => exact absurd rfl hl
 subst hv
 exact ⟨rfl, Same.below hs⟩
end Go.Rl

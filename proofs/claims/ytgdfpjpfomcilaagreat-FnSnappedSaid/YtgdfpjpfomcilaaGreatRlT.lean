/- Promises of functions, proved by walks over their operations; no conditions beyond those that each theorem states. -/
import Derived.Test.YtgdfpjpfomcilaaGreatRlP
import Derived.Laws.BytesString
import Derived.ChangeArms
import Derived.Deep.Slices
import Derived.SizedLaws
import Derived.Carry
import Derived.WideShapes
import Derived.WalkKit
import Derived.ProofKit
import Derived.OpenShut
import Derived.ShutString
import Derived.ChangeOld
import Derived.Shelf.Spec.SlicesInsert
import Derived.Lib.AppendZerosOnto
import Derived.Laws.NewBlocks
import Derived.Laws.CopyRow
set_option linter.unusedSimpArgs false
set_option linter.unusedVariables false
namespace Go.Rl
open Go.RowKit

def zKh (ns : List Int) : ByteArray := ns.foldl (fun r n => r.push (UInt8.ofNat n.toNat)) ByteArray.empty
def pvB (ns : List Int) : List (List PV) := ns.map fun n => [.v (.int .u8 n)]
theorem zPp (ns : List Int) : (pvB ns).flatten = ns.map fun n => .v (.int .u8 n) := by
 induction ns with
 | nil => rfl
 | cons n ns ih => simp only [pvB, List.map_cons, List.flatten_cons, List.singleton_append] at ih ⊢; rw [ih]
theorem SrcA.shape {w0 : World} {I : Fr} {n : Nat} {L : Pl} {s : St} {a : Act} {w : World} (_ : Rel w0 I n L s a w) {sz : Nat} {av : AV} {news : List (List PV)} {K : List Nat} (g : SrcA s sz av news K) (hns : ∀ d b, av ≠ .p d (.v (.string b))) {v : Value} (hv : AVR L w s av v) : ∃ A c, v = .slice A news.length c ∧ (A = none → news = []) := by
 cases g with
 | nils => simp only [AVR] at hv; obtain ⟨A, e⟩ := hv; exact ⟨A, 0, e, fun _ => rfl⟩
 | row hr hl hf =>
  rename_i id lo len xs
  simp only [AVR] at hv
  obtain ⟨sz', xs', h2, h3, A, m, c, A', c', e1, rfl, hc, h0, h4⟩ := hv
  have hlen : ((xs.drop lo).take len).length = len := by simp; omega
  refine ⟨A', c', by rw [hlen], fun hA => ?_⟩
  rcases Nat.eq_zero_or_pos len with rfl | hpos
  · rfl
  ·
   obtain ⟨k, _, e⟩ := h4 hpos
   rw [hA] at e; cases e
 | give hr hl =>
  subst hl
  simp only [AVR] at hv
  obtain ⟨sz', xs', h2, h3, A, m, c, A', c', e1, rfl, hc, h0, h4⟩ := hv
  refine ⟨A', c', rfl, fun hA => ?_⟩
  rcases Nat.eq_zero_or_pos news.length with h | hpos
  · exact List.eq_nil_of_length_eq_zero h
  ·
   obtain ⟨k, _, e⟩ := h4 hpos
   rw [hA] at e; cases e
 | fro hf =>
  simp only [AVR] at hv
  have hp := hv.1
  cases hp with
  | emp _ _ A c => exact ⟨A, c, rfl, fun _ => rfl⟩
  | sl _ _ _ k off c => exact ⟨_, c, rfl, fun h => by cases h⟩
 | frn =>
  simp only [AVR] at hv
  have hp := hv.1
  rw [List.length_map]
  cases hp with
  | emp _ _ A c => exact ⟨A, c, rfl, fun _ => rfl⟩
  | sl _ _ _ k off c => exact ⟨_, c, rfl, fun h => by cases h⟩
 | str _ => exact absurd rfl (hns _ _)
section
variable {γ : Gho} {P : Program} {n : Nat} {o : Oper} {M B : List Nat} {s : St}
theorem st_str {t u e : TypeId} {x : Operand} (ho : o.op = .convert t u x) {av : AV} {news : List (List PV)} {K : List Nat} {ns : List Int} (hx : s.ev x = av) (g : SrcA s 1 av news K) (hns : ∀ d b, av ≠ .p d (.v (.string b))) (he : news = pvB ns) (ht : P.underlying t = some (.slice e)) (hu : P.underlying u = some .string) (h8 : P.underlying e = some (.int .u8)) :
  StepD γ P n o M B s { put := .p none (.v (.string (zKh ns))) } :=
 zAw fun s' ag w0 I L a w hr => by
  have hev := (ag.ev1 ho (by simp [Op.operands])).trans hx
  have g' : SrcA s' 1 av news K := g.at (fun i hi => ag.r1 ho (by simp [Op.operands]) hx hi)
  have hv := hr.ev x
  rw [hev] at hv
  have hk : zE2 P t av := by
   unfold zE2
   split
   · rename_i d b; exact absurd rfl (hns d b)
   · exact ⟨e, ht⟩
  obtain ⟨us, m, hs, hul, hel, hpv, _, _⟩ := g'.ok hr hk hv
  obtain ⟨A, c, hval, hA⟩ := g'.shape hr hns hv
  have husv : us = ns.map (Value.int .u8) := by
   have hfl : news.flatten = ns.map fun n => PV.v (.int .u8 n) := by rw [he, zPp]
   apply List.ext_getElem?
   intro j
   rw [hfl] at hpv hul
   rw [List.length_map] at hul
   rw [List.getElem?_map]
   cases hj : ns[j]? with
   | none =>
    have : ns.length ≤ j := by simpa using hj
    rw [List.getElem?_eq_none (by omega)]
    rfl
   | some x =>
    obtain ⟨u, h1, h2⟩ := hpv j (.v (.int .u8 x)) (by rw [List.getElem?_map, hj]; rfl)
    generalize m j = N at h2
    cases h2
    exact h1
  have hrun : (Conv.bytesToString (a.eval x)).run P w = .ok (.string (zKh ns)) w := by
   have hc := hs.cells
   rw [hval] at hc ⊢
   cases A with
   | none =>
    have hn := hA rfl
    have hn0 : ns = [] := by
     rw [he] at hn
     simpa [pvB] using hn
    subst hn0
    simp [Conv.bytesToString, zKh]
   | some ad =>
    refine run_bytesToString w ad news.length c ns ?_
    simp only [Builtin.firstCells, Nat.mul_one] at hc
    rw [← husv]
    exact hc
  rw [hval] at hrun
  exact ⟨.string (zKh ns), by cases A <;> simp [execOp, ho, convert, run_underlying ht, run_underlying hu, run_underlying h8, hval, hrun], zBs L w s' rfl⟩
theorem st_cut3 {t e : TypeId} {x lo hi mx : Operand} (ho : o.op = .slice t x (some lo) (some hi) (some mx)) {id q len l h m : Nat} {d1 d2 d3 : Option Nat} {k1 k2 k3 : IntKind} {il ih im : Int} (hx : s.ev x = .sl id q len) (hlo : s.ev lo = .p d1 (.v (.int k1 il))) (hhi : s.ev hi = .p d2 (.v (.int k2 ih))) (hmx : s.ev mx = .p d3 (.v (.int k3 im)))
  (e1 : il = l) (e2 : ih = h) (e3 : im = m) (hu : P.underlying t = some (.slice e)) {sz : Nat} (hsz : ∀ w, (sizeOf e).run P w = .ok sz w) (h1 : l ≤ h) (h2 : h ≤ m) (h3 : m ≤ len) : StepD γ P n o M B s { put := .undef } :=
 zAw fun s' ag w0 I L a w hr => by
  subst e1 e2 e3
  have he := (ag.ev1 ho (by simp [Op.operands])).trans hx
  have v1 := hr.evv ((ag.ev1 ho (by simp [Op.operands])).trans hlo)
  have v2 := hr.evv ((ag.ev1 ho (by simp [Op.operands])).trans hhi)
  have v3 := hr.evv ((ag.ev1 ho (by simp [Op.operands])).trans hmx)
  have hv := hr.ev x
  rw [he] at hv
  simp only [AVR] at hv
  obtain ⟨_, _, _, _, _, _, _, A', c', _, e, hc, _⟩ := hv
  have b1 : m ≤ c' := by omega
  refine ⟨.slice (if m = l then A' else A'.map (·.add (l * sz))) (h - l) (m - l), ?_, by simp only [AVR]⟩
  simp [execOp, ho, e, v1, v2, v3, Instr.sliceAt, Instr.slice, run_underlying hu, Instr.sliceBounds, Instr.sliceBound, asIntOf, b1, h2, h1, hsz]

theorem zJc {x y : Operand} {t tx e : TypeId} (ho : o.op = .call { callee := .builtin .append, args := #[x, y], argTypes := #[t, tx] }) {id q m sz by' len : Nat} {xs : List (List PV)} {z : Value} (hx : s.ev x = .sl id 0 q) (hy : s.ev y = .sl id m (xs.length - m)) (hr : s.r id = some (sz, xs)) (hf : FlatP xs)
  (ht : P.underlying t = some (.slice e)) (hk : P.underlying tx = some (.slice e)) (hi : (P.info? e).map (fun i => (i.zero, i.size, i.bytes)) = some (some z, sz, by')) (hqm : q ≤ m) (hm : m ≤ xs.length) (hq : 0 < q ∨ q < m) (hlen : len = q + (xs.length - m)) :
  StepD γ P n o M B s { put := .sl id 0 len, setR := [(id, sz, xs.take q ++ xs.drop m ++ xs.drop len)] } := by
 intro s' ag hd w0 I L a w hG hrl K Q hK
 have e1 := (ag.ev1 ho (by simp [Op.operands, Call.operands])).trans hx
 have e2 := (ag.ev1 ho (by simp [Op.operands, Call.operands])).trans hy
 have hr' := (ag.r1 ho (by simp [Op.operands, Call.operands]) hx (id := id) (by simp [AV.rows])).trans hr
 have hvx := hrl.ev x
 rw [e1] at hvx
 have hvy := hrl.ev y
 rw [e2] at hvy
 have gsrc : SrcA s' sz (.sl id m (xs.length - m)) ((xs.drop m).take (xs.length - m)) [] := .row hr' (by omega) hf
 obtain ⟨us, mm, hs, hul, hel, hpv, _, hnil⟩ := gsrc.ok hrl (P := P) (tx := tx) ⟨e, hk⟩ hvy
 have htk : (xs.drop m).take (xs.length - m) = xs.drop m := List.take_of_length_le (by simp)
 rw [htk] at hs hul hel hpv hnil
 have hmm : ∀ j, j < (xs.drop m).flatten.length → mm j = [] := fun j hj => by
  apply List.eq_nil_iff_forall_not_mem.2
  intro k hk
  have := hnil k (List.mem_flatMap.2 ⟨j, List.mem_range.2 hj, hk⟩)
  simp at this
 obtain ⟨i, i1, i2, i3, i4⟩ := zD5 hi
 simp only [AVR] at hvx
 obtain ⟨sz', xs', f1, f2, A, n0, c, A', c', f3, f4, f5, f6, f7⟩ := hvx
 rw [hr'] at f1
 cases f1
 obtain ⟨rfl, rfl⟩ := f6 rfl
 obtain ⟨q1, q2, q3⟩ := hrl.rw id sz xs hr'
 have hpos : 0 < xs.length := by omega
 have key : ∃ k cur ty, A' = some ⟨k, 0, none⟩ ∧ n0 = xs.length ∧ w.heap[k]? = some (.cells cur ty (0, 0)) ∧ cur.size = c' * sz ∧ xs.length ≤ c' ∧ (∀ es ∈ xs, es.length = sz) ∧ ∀ (j : Nat) p, xs.flatten[j]? = some p → ∃ u, cur[j]? = some u := by
  rw [f3] at q1
  generalize L.ν id = N at q1
  cases q1 with
  | nil => simp at hpos
  | own _ _ k _ cur ty hlen hk0 hsz0 hc hm u m hcell hpp => exact ⟨k, cur, ty, rfl, rfl, hk0, hsz0, hc.1, hlen, fun j p hj => ⟨u j, hcell j (List.getElem?_eq_some_iff.1 hj).1⟩⟩
 obtain ⟨k, cur, ty, rfl, rfl, hk0, hsz0, hc0, hlens, hcu⟩ := key
 have hxl : xs.flatten.length = xs.length * sz := zB8 hlens
 have hdl : (xs.drop m).flatten.length = (xs.length - m) * sz := by rw [zB8 (fun es h => hlens es (List.mem_of_mem_drop h)), List.length_drop]
 have hcl : cur.toList.length = cur.size := Array.length_toList
 have hqs : q * sz + (xs.length - m) * sz ≤ xs.length * sz := by rw [← Nat.add_mul]; exact Nat.mul_le_mul_right _ (by omega)
 have hcs : xs.length * sz ≤ c' * sz := Nat.mul_le_mul_right _ hc0
 have hsz' : i.size = sz := i3
 have hrun := zDG (P := P) (w := w) (tx := tx) (ty := o.type) (sLen := q) (sCap := c') ht i1 hk0 (x := a.eval y) (n := (xs.drop m).length) (news := us) (by rw [hsz']; exact hs) (by rw [List.length_drop]; omega) (by rw [hsz', hul, hdl]; omega)
 rw [hsz', List.length_drop] at hrun
 have hfit : q * sz + us.length ≤ cur.toList.length := by rw [hul, hdl]; omega
 have hfl : (xs.take q ++ xs.drop m ++ xs.drop len).flatten = over xs.flatten (q * sz) (xs.drop m).flatten := by
  simp only [over, List.flatten_append]
  rw [zER hlens, zFd hlens len, hdl, hlen, Nat.add_mul]
 have hn := hrl.poke (xs' := xs.take q ++ xs.drop m ++ xs.drop len) (cur' := ⟨over cur.toList (q * sz) us⟩) hr' hpos hf.nf (by simp; omega) (fun es hes => by
  rcases List.mem_append.1 hes with hes | hes
  ·
   rcases List.mem_append.1 hes with hes | hes
   · exact hlens es (List.mem_of_mem_take hes)
   · exact hlens es (List.mem_of_mem_drop hes)
  · exact hlens es (List.mem_of_mem_drop hes)) f3 hk0 (by have := zCY hfit; rw [hcl] at this; simpa using this) (fun j p hj => by
  rw [hfl, zCM (by omega)] at hj
  have hg : (⟨over cur.toList (q * sz) us⟩ : Array Value)[j]? = (over cur.toList (q * sz) us)[j]? := by simp
  rw [hg, zCM hfit, hul]
  by_cases hc : q * sz ≤ j ∧ j < q * sz + (xs.drop m).flatten.length
  ·
   rw [if_pos hc] at hj ⊢
   obtain ⟨u, hu, hpv'⟩ := hpv _ p hj
   rw [hmm _ (List.getElem?_eq_some_iff.1 hj).1] at hpv'
   exact ⟨u, hu, .inr hpv'⟩
  ·
   rw [if_neg hc] at hj ⊢
   obtain ⟨u, hu⟩ := hcu j p hj
   exact ⟨u, by simpa using hu, .inl ⟨hj, hu⟩⟩)
 have he : (execOp a.eval o).run P w = .ok (.value (.slice (some ⟨k, 0, none⟩) (q + (xs.length - m)) c')) (w.setRow k ⟨over cur.toList (q * sz) us⟩) := by
  simp only [execOp, ho, resolve, invoke, builtin, Sem.run_bind, Sem.run_pure, Result.andThen_ok, List.map_toArray, List.map_cons, List.map_nil, f4, hrun]
 unfold Oper.wp
 rw [he, Oper.upon_value]
 refine hK _ _ _ (hn.put hd (av := .sl id 0 len) ?_)
 simp only [AVR]
 refine ⟨sz, _, upd_self _ _ _, by simp; omega, _, _, _, _, _, f3, by rw [hlen], by omega, fun _ => ⟨rfl, rfl⟩, fun _ => ⟨k, rfl, by simp⟩⟩
theorem zIi {x : Operand} {t e : TypeId} (ho : o.op = .call { callee := .builtin .clear, args := #[x], argTypes := #[t] }) {id lo len sz by' : Nat} {xs : List (List PV)} {z : Value} (hx : s.ev x = .sl id lo len) (hr : s.r id = some (sz, xs)) (hf : FlatP xs)
  (ht : P.underlying t = some (.slice e)) (hi : (P.info? e).map (fun i => (i.zero, i.size, i.bytes)) = some (some z, sz, by')) (hz : z.cells.toList.all (·.oneCell') = true) (hzs : z.cells.size = sz) (hlo : lo + len = xs.length) :
  StepD γ P n o M B s { put := .undef, setR := [(id, sz, xs.take lo ++ List.replicate len (z.cells.toList.map fun v => .v v))] } := by
 intro s' ag hd w0 I L a w hG hrl K Q hK
 have e1 := (ag.ev1 ho (by simp [Op.operands, Call.operands])).trans hx
 have hr' := (ag.r1 ho (by simp [Op.operands, Call.operands]) hx (id := id) (by simp [AV.rows])).trans hr
 have hvx := hrl.ev x
 rw [e1] at hvx
 simp only [AVR] at hvx
 obtain ⟨sz', xs', f1, f2, A, n0, c, A', c', f3, f4, f5, f6, f7⟩ := hvx
 rw [hr'] at f1
 cases f1
 rcases Nat.eq_zero_or_pos len with rfl | hpos
 ·
  have he : (execOp a.eval o).run P w = .ok (.value (.tuple #[])) w := by
   cases A' <;> simp [execOp, ho, resolve, invoke, builtin, f4, Builtin.clear_, run_underlying ht]
  unfold Oper.wp
  rw [he, Oper.upon_value]
  have hxs : xs.take lo ++ List.replicate 0 (z.cells.toList.map fun v => PV.v v) = xs := by
   simp only [List.replicate_zero, List.append_nil]
   exact List.take_of_length_le (by omega)
  rw [hxs] at hK
  have hst : ({ t := s'.t, b := s'.b, r := upd s'.r id (some (sz, xs)) } : St) = s' := St.ext' (fun _ => rfl) (fun _ => rfl) (fun q => by
   by_cases e : q = id
   · subst e; simp [hr']
   · simp only [zBZ _ _ e])
  refine hK _ _ _ (Rel.put (s := { t := s'.t, b := s'.b, r := upd s'.r id (some (sz, xs)) }) (by rw [hst]; exact hrl) hd (av := .undef) (by simp only [AVR]))
 ·
  obtain ⟨k, rfl, rfl⟩ := f7 hpos
  obtain ⟨i, i1, i2, i3, i4⟩ := zD5 hi
  obtain ⟨q1, q2, q3⟩ := hrl.rw id sz xs hr'
  have hpx : 0 < xs.length := by omega
  have key : ∃ cur ty, n0 = xs.length ∧ w.heap[k]? = some (.cells cur ty (0, 0)) ∧ cur.size = c * sz ∧ xs.length ≤ c ∧ (∀ es ∈ xs, es.length = sz) ∧ ∀ (j : Nat) p, xs.flatten[j]? = some p → ∃ u, cur[j]? = some u := by
   rw [f3] at q1
   generalize L.ν id = N at q1
   cases q1 with
   | nil => simp at hpx
   | own _ _ _ _ cur ty hlen hk0 hsz0 hc hm u m hcell hpp => exact ⟨cur, ty, rfl, hk0, hsz0, hc.1, hlen, fun j p hj => ⟨u j, hcell j (List.getElem?_eq_some_iff.1 hj).1⟩⟩
  obtain ⟨cur, ty, rfl, hk0, hsz0, hc0, hlens, hcu⟩ := key
  have hxl : xs.flatten.length = xs.length * sz := zB8 hlens
  have hcl : cur.toList.length = cur.size := Array.length_toList
  have hcs : xs.length * sz ≤ c * sz := Nat.mul_le_mul_right _ hc0
  have hls : lo * sz + len * sz = xs.length * sz := by rw [← Nat.add_mul, hlo]
  have hzl : (Builtin.zeroCells z.cells len).toList.length = len * sz := by rw [Array.length_toList, size_zeroCells, hzs]
  have hzg : ∀ j, j < len * sz → (Builtin.zeroCells z.cells len).toList[j]? = z.cells.toList[j % sz]? := fun j hj => by
   have hpos' : 0 < sz := Nat.pos_of_ne_zero (fun e => by subst e; simp at hj)
   have hm : j % sz < z.cells.size := by rw [hzs]; exact Nat.mod_lt _ hpos'
   simp only [Builtin.zeroCells, Array.getElem?_toList, Array.getElem?_map, hzs]
   rw [Array.getElem?_range, if_pos hj, Array.getElem?_eq_getElem hm]
   simp only [Option.map_some, Option.some.injEq]
   exact getElem!_pos z.cells (j % sz) hm
  have hone : ∀ v ∈ (Builtin.zeroCells z.cells len).toList, v.oneCell' = true := fun v hv => by
   obtain ⟨j, hj⟩ := List.getElem?_of_mem hv
   have hlt := (List.getElem?_eq_some_iff.1 hj).1
   rw [hzg j (by omega)] at hj
   exact (List.all_eq_true.1 hz) _ (List.mem_of_getElem? hj)
  have hst := run_storeCells_at P k (lo * sz) ty (Builtin.zeroCells z.cells len).toList 0 cur w hk0 (by rw [hzl]; omega) hone
  simp only [Nat.add_zero] at hst
  have hfit : lo * sz + (Builtin.zeroCells z.cells len).toList.length ≤ cur.toList.length := by rw [hzl]; omega
  have hzl2 : (z.cells.toList.map fun v => PV.v v).length = sz := by simpa using hzs
  have hxs' : (xs.take lo ++ List.replicate len (z.cells.toList.map fun v => PV.v v)).flatten = over xs.flatten (lo * sz) (List.replicate len (z.cells.toList.map fun v => PV.v v)).flatten := by
   have hrl : (List.replicate len (z.cells.toList.map fun v => PV.v v)).flatten.length = len * sz := by simp [hzs]
   simp only [over, List.flatten_append]
   rw [zER hlens, hrl, List.drop_of_length_le (by omega), List.append_nil]
  have hn := hrl.poke (xs' := xs.take lo ++ List.replicate len (z.cells.toList.map fun v => .v v)) (cur' := ⟨over cur.toList (lo * sz) (Builtin.zeroCells z.cells len).toList⟩) hr' hpx hf.nf (by simp; omega) (fun es hes => by
   rcases List.mem_append.1 hes with hes | hes
   · exact hlens es (List.mem_of_mem_take hes)
   · rw [List.eq_of_mem_replicate hes]; exact hzl2) f3 hk0 (by have := zCY hfit; rw [hcl] at this; simpa using this) (fun j p hj => by
   have hrl2 : (List.replicate len (z.cells.toList.map fun v => PV.v v)).flatten.length = len * sz := by simp [hzs]
   rw [hxs', zCM (by omega), hrl2] at hj
   have hg : (⟨over cur.toList (lo * sz) (Builtin.zeroCells z.cells len).toList⟩ : Array Value)[j]? = (over cur.toList (lo * sz) (Builtin.zeroCells z.cells len).toList)[j]? := by simp
   rw [hg, zCM hfit, hzl]
   by_cases hc : lo * sz ≤ j ∧ j < lo * sz + len * sz
   ·
    rw [if_pos hc] at hj ⊢
    rw [zBY _ _ _ (by rw [hzl2]; omega), hzl2, List.getElem?_map] at hj
    rw [hzg _ (by omega)]
    cases hv : z.cells.toList[(j - lo * sz) % sz]? with
    | none => rw [hv] at hj; cases hj
    | some v =>
     rw [hv] at hj
     cases hj
     exact ⟨v, rfl, .inr (.v v ((List.all_eq_true.1 hz) _ (List.mem_of_getElem? hv)))⟩
   ·
    rw [if_neg hc] at hj ⊢
    obtain ⟨u, hu⟩ := hcu j p hj
    exact ⟨u, by simpa using hu, .inl ⟨hj, hu⟩⟩)
  have he : (execOp a.eval o).run P w = .ok (.value (.tuple #[])) (w.setRow k ⟨over cur.toList (lo * sz) (Builtin.zeroCells z.cells len).toList⟩) := by
   obtain ⟨len', rfl⟩ : ∃ l', len = l' + 1 := ⟨len - 1, by omega⟩
   simp [execOp, ho, resolve, invoke, builtin, f4, Builtin.clear_, run_underlying ht, zFT i1 i2, hst, over]
  unfold Oper.wp
  rw [he, Oper.upon_value]
  exact hK _ _ _ (hn.put hd (av := .undef) (by simp only [AVR]))
end
theorem nod {X : List Nat} : ∀ i, (none : Option Nat) = some i → i ∉ X := fun _ h => by cases h
def AV.noStr : AV → Bool
 | .p _ (.v _) => false
 | _ => true
theorem sk {P : Program} {tx e : TypeId} {av : AV} (h : P.underlying tx = some (.slice e)) (hn : av.noStr = true) : zE2 P tx av := by
 unfold zE2
 split
 · cases hn
 · exact ⟨e, h⟩
section
variable {γ : Gho} {P : Program} {n : Nat} {o : Oper} {M B : List Nat} {s : St}
theorem zAe {t e : TypeId} {x y : Operand} {sz : Nat} {d' : Option Nat} {kk : IntKind} {i : Int} (k : Nat) (ho : o.op = .indexAddr t x y) {id len rz : Nat} {xs : List (List PV)} (hx : s.ev x = .sl id 0 len) (hr : s.r id = some (rz, xs)) (hy : s.ev y = .p d' (.v (.int kk i))) (hu : P.underlying t = some (.slice e)) (hsz : ∀ w, (sizeOf e).run P w = .ok sz w) (hz : rz = sz) (hk : i = k) (h1 : k < len) :
  StepD γ P n o M B s { put := .ea id k 0 } :=
 zAW (zHt ho hx hr hy hu hsz hz (by omega) (by omega)) (by subst hk; simp)
theorem zCF {t e : TypeId} {x : Operand} {lo hi : Option Operand} (ho : o.op = .slice t x lo hi none) {id len l h sz m : Nat} {xs : List (List PV)} (hx : s.ev x = .sl id 0 len) (hr : s.r id = some (sz, xs)) (hu : P.underlying t = some (.slice e)) (hsz : ∀ w, (sizeOf e).run P w = .ok sz w) (hl : BndA s 0 lo l) (hh : BndA s len hi h) (h1 : l ≤ h) (h2 : h ≤ len) (hm : m = h - l) :
  StepD γ P n o M B s { put := .sl id l m } :=
 zAW (zMv ho hx hr hu hsz hl hh h1 h2 hm) (by rw [Nat.zero_add])
end
theorem st_strN {γ : Gho} {P : Program} {n : Nat} {o : Oper} {M B : List Nat} {s : St} {t u e : TypeId} {x : Operand} (ns : List Int) (ho : o.op = .convert t u x) {av : AV} {news : List (List PV)} {K : List Nat} (hx : s.ev x = av) (g : SrcA s 1 av news K) (hn : av.noStr = true) (he : news = pvB ns) (ht : P.underlying t = some (.slice e)) (hu : P.underlying u = some .string) (h8 : P.underlying e = some (.int .u8)) :
  StepD γ P n o M B s { put := .p none (.v (.string (zKh ns))) } :=
 st_str ho hx g (fun d b h => by rw [h] at hn; cases hn) he ht hu h8
theorem FlatP.set {xs : List (List PV)} (h : FlatP xs) {i : Nat} {cs : List PV} (hc : cs.all PV.isV = true) : FlatP (xs.set i cs) := fun es he p hp => by
 rcases List.mem_or_eq_of_mem_set he with he | rfl
 · exact h es he p hp
 · exact (List.all_eq_true.1 hc) p hp
theorem zB7 {s : St} {K : List Nat} {id sz : Nat} {xs : List (List PV)} (h1 : s.r id = some (sz, xs)) (h2 : FlatP xs) (h3 : id ∉ K) : OutsOk s K [(id, sz)] [some xs] := ⟨⟨h1, h2, h3⟩, trivial⟩
theorem gv_eq {s : St} {av : AV} {p p' : PV} {K : List Nat} (g : Gv s av p K) (e : p = p') : Gv s av p' K := e ▸ g
theorem zMw {γ : Gho} {P : Program} {n : Nat} {o : Oper} {M B : List Nat} {s : St} {t e : TypeId} {x lo hi : Operand} (ho : o.op = .slice t x (some lo) (some hi) none) {id len l h sz m : Nat} {xs : List (List PV)} {d1 d2 : Option Nat} {k1 k2 : IntKind} {il ih : Int} (hx : s.ev x = .sl id 0 len) (hr : s.r id = some (sz, xs)) (hlo : s.ev lo = .p d1 (.v (.int k1 il))) (hhi : s.ev hi = .p d2 (.v (.int k2 ih)))
  (e1 : il = l) (e2 : ih = h) (hu : P.underlying t = some (.slice e)) (hsz : ∀ w, (sizeOf e).run P w = .ok sz w) (h1 : l ≤ h) (h2 : h ≤ xs.length) (hm : m = h - l) : StepD γ P n o M B s { put := .sl id l m } :=
 zAw fun s' ag w0 I L a w hrl => by
  subst hm e1 e2
  have he := (ag.ev1 ho (by simp [Op.operands])).trans hx
  have hr' := (ag.r1 ho (by simp [Op.operands]) hx (id := id) (by simp [AV.rows])).trans hr
  have v1 := hrl.evv ((ag.ev1 ho (by simp [Op.operands])).trans hlo)
  have v2 := hrl.evv ((ag.ev1 ho (by simp [Op.operands])).trans hhi)
  have hv := hrl.ev x
  rw [he] at hv
  simp only [AVR] at hv
  obtain ⟨sz', xs', f1, f2, A, n0, c, A', c', f3, f4, f5, f6, f7⟩ := hv
  rw [hr'] at f1
  cases f1
  obtain ⟨rfl, rfl⟩ := f6 rfl
  have hp := (hrl.rw id sz xs hr').1
  have key : xs.length ≤ c' ∧ (0 < xs.length → ∃ k, A' = some ⟨k, 0, none⟩) := by
   rw [f3] at hp
   generalize L.ν id = N at hp
   cases hp with
   | nil => simp
   | own _ _ k _ cur ty hlen hk0 hsz0 hc => exact ⟨hc.1, fun _ => ⟨k, rfl⟩⟩
  have b1 : ((some lo).map a.eval = none ∧ l = 0) ∨ ∃ k, (some lo).map a.eval = some (.int k l) := .inr ⟨k1, by simp [v1]⟩
  have b2 : ((some hi).map a.eval = none ∧ h = len) ∨ ∃ k, (some hi).map a.eval = some (.int k h) := .inr ⟨k2, by simp [v2]⟩
  refine ⟨_, by simp only [execOp, ho, f4, Option.map_none, Sem.run_bind, zN5 hu hsz b1 b2 h1 (Nat.le_trans h2 key.1) w]; rfl, ?_⟩
  simp only [AVR]
  refine ⟨sz, xs, hr', by omega, A', n0, c', _, _, f3, rfl, by omega, fun h0 => ?_, fun h0 => ?_⟩
  ·
   subst h0
   refine ⟨?_, by omega⟩
   split
   · rfl
   ·
    cases A' with
    | none => rfl
    | some ad => simp only [Nat.zero_mul, Option.map_some, Option.some.injEq]; unfold Addr.add; split <;> simp_all
  ·
   obtain ⟨k, rfl⟩ := key.2 (by omega)
   refine ⟨k, rfl, ?_⟩
   rw [if_neg (by omega)]
   simp only [Option.map_some, Addr.add0]
   rw [Nat.zero_add]
end Go.Rl
namespace Go.Rl
theorem zBF {b : Bool} (h : (!b) = true) : b = false := by cases b <;> simp_all
theorem zBG {b : Bool} (h : (!b) = false) : b = true := by cases b <;> simp_all
structure Slot where
 name : ByteArray
 size : Int
 pins : Int
 deriving DecidableEq
def Slot.pv (s : Slot) : List PV := [.v (.string s.name), .v (.int .i64 s.size), .v (.int .i64 s.pins)]
def pvS (l : List Slot) : List (List PV) := l.map Slot.pv
def usedF (l : List Slot) : Int := (l.map (·.size)).sum
def zAs (n low high : Int) : Bool := decide (low ≤ n) && decide (n ≤ high)
def zEv (s : ByteArray) : Bool := decide ((1 : Int) ≤ (s.size : Int)) && decide ((s.size : Int) ≤ 40)
def isSlot (s : ByteArray) (n : Int) : Bool := zEv s && zAs n 1 100000
def idxF {α : Type} (p : α → Bool) (l : List α) : Int := match l.findIdx? p with
 | some i => (i : Int)
 | none => -1
theorem zFb {α : Type} {p : α → Bool} {l : List α} {i : Nat} {e : α} (h : ∀ j e, j < i → l[j]? = some e → p e = false) (he : l[i]? = some e) (hp : p e = false) : ∀ j e, j < i + 1 → l[j]? = some e → p e = false := fun j e' hj hl => by
 by_cases hji : j = i
 · subst hji; rw [he] at hl; cases hl; exact hp
 · exact h j e' (by omega) hl
theorem zFD {α : Type} {p : α → Bool} {l : List α} {i : Nat} {e : α} (h : ∀ j e, j < i → l[j]? = some e → p e = false) (he : l[i]? = some e) (hp : p e = true) : idxF p l = (i : Int) := by
 have hlt := (List.getElem?_eq_some_iff.1 he).1
 have : l.findIdx? p = some i := by
  rw [List.findIdx?_eq_some_iff_getElem]
  refine ⟨hlt, ?_, fun j hj => ?_⟩
  · rw [(List.getElem?_eq_some_iff.1 he).2]; exact hp
  ·
   have := h j _ hj (List.getElem?_eq_getElem (by omega))
   simp [this]
 simp [idxF, this]
theorem zEi {α : Type} {p : α → Bool} {l : List α} {i : Nat} (hi : l.length ≤ i) (h : ∀ j e, j < i → l[j]? = some e → p e = false) : idxF p l = -1 := by
 have : l.findIdx? p = none := by
  rw [List.findIdx?_eq_none_iff]
  intro x hx
  obtain ⟨j, hj⟩ := List.getElem?_of_mem hx
  exact h j x (by have := (List.getElem?_eq_some_iff.1 hj).1; omega) hj
 simp [idxF, this]
def zSlot : List PV := [.v (.string ⟨#[]⟩), .v (.int .i64 0), .v (.int .i64 0)]
def szF : List Slot → Int → Int
 | [], left => left
 | e :: l, left => if left - (e.name.size : Int) < 0 then -1 else szF l (left - (e.name.size : Int))
def szSlotF (s : Slot) (left : Int) : Int := if left - (s.name.size : Int) < 0 then -1 else left - (s.name.size : Int)
def szSlotsF (l : List Slot) (left : Int) : Int := if left - (l.length : Int) < 0 then -1 else szF l (left - (l.length : Int))
def dig : Nat → Nat → ByteArray → ByteArray
 | 0, _, acc => acc
 | f + 1, n, acc => if n = 0 then acc else dig f (n / 10) (zKh [IntKind.u8.wrap (48 + (n : Int).tmod 10)] ++ acc)
def markT (k : Nat) : ByteArray := if k = 0 then ⟨#[109, 48]⟩ else ⟨#[109]⟩ ++ dig k k ⟨#[]⟩
def markS (k : Nat) (i : Nat) : Slot := ⟨markT (k + 3 * i), ((k + 3 * i : Nat) : Int) + 1, ((k + 3 * i : Nat) : Int) + 1 + 1⟩
def marks (k n : Nat) : List Slot := (List.range n).map (markS k)
def heldF (k : Nat) (l : List Slot) : Int := if l = marks k l.length then ((k + 3 * l.length : Nat) : Int) else -1
def nameIs (n : ByteArray) (s : Slot) : Bool := decide (s.name = n)
def okSlot (l : List Slot) (j : Nat) (e : Slot) : Bool := isSlot e.name e.size && zAs e.pins 0 100000 && decide (idxF (fun s => decide (s.name = e.name)) l = (j : Int))
def okS (l : List Slot) : Bool := (List.range l.length).all fun j => match l[j]? with
 | some e => okSlot l j e
 | none => true
def okC (m : Int) (l : List Slot) : Bool := zAs m 0 100000 && decide (l.length ≤ 40) && okS l && (decide (usedF l ≤ m) || !l.any fun s => decide (s.pins = 0))
theorem bfc (b : Bool) : b = false ∨ b = true := by cases b <;> simp
def shedL (m : Int) : Nat → List Slot → List Slot
 | 0, l => l
 | i + 1, l => if m < usedF l then match l[i]? with
  | some e => if e.pins = 0 then shedL m i (l.eraseIdx i) else shedL m i l
  | none => shedL m i l
  else l
def lastF (l : List Slot) : Nat → Int
 | 0 => -1
 | q + 1 => match l[q]? with
  | some e => if e.pins = 0 then (q : Int) else lastF l q
  | none => lastF l q
end Go.Rl
namespace Go.Rl
structure Ent where
 user : ByteArray
 seq : Int
 kind : Int
 value : ByteArray
 deriving DecidableEq
def Ent.pv (e : Ent) : List PV := [.v (.string e.user), .v (.int .i64 e.seq), .v (.int .i64 e.kind), .v (.string e.value)]
def pvE (l : List Ent) : List (List PV) := l.map Ent.pv
theorem zAF (l : List Ent) : (pvE l).length = l.length := by simp [pvE]
theorem zA0 {l : List Ent} {i : Nat} {e : Ent} (h : l[i]? = some e) : (pvE l)[i]? = some e.pv := by simp [pvE, h]
theorem zAd (l : List Ent) : FlatP (pvE l) := fun es he p hp => by
 obtain ⟨s, _, rfl⟩ := List.mem_map.1 he
 simp only [Ent.pv, List.mem_cons, List.not_mem_nil, or_false] at hp
 rcases hp with rfl | rfl | rfl | rfl <;> rfl
theorem zQu : ∀ x : List UInt8, Op.bytesLess x x = false
 | [] => rfl
 | a :: x => by simp [Op.bytesLess, zQu x]
theorem zMl : ∀ {x y z : List UInt8}, Op.bytesLess x y = true → Op.bytesLess y z = true → Op.bytesLess x z = true
 | _, [], _, h, _ => by simp [Op.bytesLess] at h
 | _, _ :: _, [], _, h => by simp [Op.bytesLess] at h
 | [], _ :: _, _ :: _, _, _ => rfl
 | a :: x, b :: y, c :: z, h, k => by
  simp only [Op.bytesLess, Bool.or_eq_true, decide_eq_true_eq, Bool.and_eq_true, beq_iff_eq] at h k ⊢
  rcases h with h | ⟨rfl, h⟩
  ·
   rcases k with k | ⟨rfl, k⟩
   · exact .inl (UInt8.lt_trans h k)
   · exact .inl h
  ·
   rcases k with k | ⟨rfl, k⟩
   · exact .inl k
   · exact .inr ⟨rfl, zMl h k⟩
theorem zQt : ∀ {x y : List UInt8}, Op.bytesLess x y = false → Op.bytesLess y x = false → x = y
 | [], [], _, _ => rfl
 | [], _ :: _, h, _ => by simp [Op.bytesLess] at h
 | _ :: _, [], _, h => by simp [Op.bytesLess] at h
 | a :: x, b :: y, h, k => by
  simp only [Op.bytesLess, Bool.or_eq_false_iff, decide_eq_false_iff_not, Bool.and_eq_false_iff, beq_eq_false_iff_ne] at h k
  have hab : a = b := UInt8.le_antisymm (UInt8.not_lt.1 k.1) (UInt8.not_lt.1 h.1)
  subst hab
  rw [zQt (h.2.resolve_left (fun h => h rfl)) (k.2.resolve_left (fun h => h rfl))]
theorem zFu {a b : ByteArray} (h : a.toList = b.toList) : a = b := by
 cases a with | mk a => cases b with | mk b =>
 have h1 := beq_toListBytes ⟨a⟩ ⟨b⟩
 rw [h, beq_self_eq_true] at h1
 have h2 : (a == b) = true := h1
 rw [eq_of_beq h2]
theorem zDL (a : ByteArray) : ltB a a = false := zQu _
theorem zEN {a b c : ByteArray} (h : ltB a b = true) (k : ltB b c = true) : ltB a c = true := zMl h k
theorem zHD {a b : ByteArray} (h : ltB a b = false) (k : ltB b a = false) : a = b := zFu (zQt h k)
theorem zHE {a b : ByteArray} (h : ltB a b = true) : ltB b a = false := by
 cases hb : ltB b a with
 | false => rfl
 | true => have := zEN h hb; rw [zDL] at this; cases this
def cmpS (a b : ByteArray) : Int := if ltB a b = true then -1 else if ltB b a = true then 1 else 0
def cmpI (a b : Int) : Int := if a < b then -1 else if b < a then 1 else 0
def cmpK (a b : Ent) : Int := if cmpS a.user b.user ≠ 0 then cmpS a.user b.user else if cmpI b.seq a.seq ≠ 0 then cmpI b.seq a.seq else cmpI b.kind a.kind
theorem zOz {a b : ByteArray} (h : ltB a b = false) : (!(ltB a b || decide (a = b))) = ltB b a := by
 rw [h, Bool.false_or]
 cases hb : ltB b a with
 | true => 
  have : a ≠ b := fun e => by subst e; rw [zDL] at hb; cases hb
  simp [this]
 | false => simp [zHD h hb]
def zCn (u : ByteArray) (s k : Int) : Bool := zEv u && zAs s 0 1000000000000 && zAs k 0 1
def zBc (e : Ent) : Bool := zCn e.user e.seq e.kind && decide ((e.value.size : Int) ≤ 200) && (decide (e.kind = 1) || decide (e.value = ⟨#[]⟩))
def zPF {α : Type} (p : Nat → α → Bool) (l : List α) : Bool := (List.range l.length).all fun j => match l[j]? with
 | some e => p j e
 | none => true
theorem zMr {α : Type} {p : Nat → α → Bool} {l : List α} {i : Nat} {e : α} (h : l[i]? = some e) (hn : p i e = false) : zPF p l = false := by
 apply Bool.eq_false_iff.2
 intro ha
 have := (List.all_eq_true.1 ha) i (List.mem_range.2 (List.getElem?_eq_some_iff.1 h).1)
 rw [h] at this
 simp only at this
 rw [hn] at this
 cases this
theorem zHd {α : Type} {p : Nat → α → Bool} {l : List α} {i : Nat} (hi : l.length ≤ i) (h : ∀ j e, j < i → l[j]? = some e → p j e = true) : zPF p l = true := by
 refine List.all_eq_true.2 (fun j hj => ?_)
 have hlt := List.mem_range.1 hj
 rw [List.getElem?_eq_getElem hlt]
 exact h j _ (by omega) (List.getElem?_eq_getElem hlt)
theorem zHe {α : Type} {p : Nat → α → Bool} {l : List α} {i : Nat} {e : α} (h : zPF p l = true) (he : l[i]? = some e) : p i e = true := by
 have := (List.all_eq_true.1 h) i (List.mem_range.2 (List.getElem?_eq_some_iff.1 he).1)
 rw [he] at this
 exact this
theorem zEQ {α : Type} {p : Nat → α → Bool} {l : List α} {i : Nat} {e : α} (h : ∀ j e, j < i → l[j]? = some e → p j e = true) (he : l[i]? = some e) (ho : p i e = true) : ∀ j e, j < i + 1 → l[j]? = some e → p j e = true := fun j e' hj hl => by
 by_cases hji : j = i
 · subst hji; rw [he] at hl; cases hl; exact ho
 · exact h j e' (by omega) hl
def zCz (l : List Ent) (j : Nat) (e : Ent) : Bool := zBc e && (decide (j = 0) || match l[j - 1]? with
 | some x => decide (cmpK x e < 0)
 | none => true)
def zAr (l : List Ent) : Bool := decide (l.length ≤ 400) && zPF (zCz l) l
def zCB (s : List Int) (j : Nat) (x : Int) : Bool := zAs x 0 1000000000000 && (decide (j = 0) || match s[j - 1]? with
 | some y => decide (y < x)
 | none => true)
def zBP (s : List Int) : Bool := decide (s.length ≤ 20) && zPF (zCB s) s
def Ahead (x e : Ent) : Prop := ltB x.user e.user = true ∨ (x.user = e.user ∧ e.seq ≤ x.seq)
theorem zQd {x e : Ent} (h : cmpK x e < 0) : Ahead x e := by
 unfold cmpK cmpS cmpI at h
 by_cases h1 : ltB x.user e.user = true
 · exact .inl h1
 ·
  by_cases h2 : ltB e.user x.user = true
  · simp [h1, h2] at h
  ·
   refine .inr ⟨zHD (by simpa using h1) (by simpa using h2), ?_⟩
   by_cases h3 : x.seq < e.seq
   ·
    have h4 : ¬ e.seq < x.seq := by omega
    simp [h1, h2, h3, h4] at h
   · omega
theorem Ahead.trans {x y z : Ent} (h : Ahead x y) (k : Ahead y z) : Ahead x z := by
 rcases h with h | ⟨h, h'⟩
 ·
  rcases k with k | ⟨k, _⟩
  · exact .inl (zEN h k)
  · exact .inl (by rw [← k]; exact h)
 ·
  rcases k with k | ⟨k, k'⟩
  · exact .inl (by rw [h]; exact k)
  · exact .inr ⟨h.trans k, by omega⟩
theorem zEj {l : List Ent} (h : zAr l = true) : ∀ (d i : Nat) (x e : Ent), l[i]? = some x → l[i + d + 1]? = some e → Ahead x e
 | 0, i, x, e, hx, he => by
  simp only [zAr, Bool.and_eq_true] at h
  have := zHe h.2 he
  simp only [zCz, Nat.add_zero, Nat.add_sub_cancel, hx, Bool.and_eq_true, Bool.or_eq_true, decide_eq_true_eq] at this
  exact zQd (this.2.resolve_left (by omega))
 | d + 1, i, x, e, hx, he => by
  obtain ⟨y, hy⟩ : ∃ y, l[i + d + 1]? = some y := ⟨_, List.getElem?_eq_getElem (by have := (List.getElem?_eq_some_iff.1 he).1; omega)⟩
  have h1 := zEj h d i x y hx hy
  have h2 := zEj h 0 (i + d + 1) y e hy (by rw [← he]; congr 1)
  exact h1.trans h2
def asOf (u : ByteArray) (s : Int) (e : Ent) : Bool := decide (e.user = u) && decide (e.seq ≤ s)
def zEo (l : List Ent) (ps : List Int) (i : Nat) (e : Ent) : Bool := ps.any fun p => decide (e.seq ≤ p) && (decide (i = 0) || match l[i - 1]? with
 | some x => decide (x.user ≠ e.user) || decide (p < x.seq)
 | none => true)
theorem zJ5 {α : Type} {p : α → Bool} {l : List α} {k : Nat} : idxF p l = (k : Int) ↔ ∃ e, l[k]? = some e ∧ p e = true ∧ ∀ j e', j < k → l[j]? = some e' → p e' = false := by
 constructor
 ·
  intro h
  unfold idxF at h
  cases hf : l.findIdx? p with
  | none => rw [hf] at h; simp only at h; omega
  | some q =>
   rw [hf] at h
   simp only at h
   have hq : q = k := by omega
   subst hq
   obtain ⟨h1, h2, h3⟩ := List.findIdx?_eq_some_iff_getElem.1 hf
   refine ⟨l[q], List.getElem?_eq_getElem h1, h2, fun j e' hj he' => ?_⟩
   have := h3 j hj
   rw [(List.getElem?_eq_some_iff.1 he').2] at this
   simpa using this
 ·
  rintro ⟨e, he, hp, hn⟩
  exact zFD hn he hp
theorem zGa {l : List Ent} (h : zAr l = true) {u : ByteArray} {s : Int} {k : Nat} {e : Ent} (he : l[k]? = some e) : idxF (asOf u s) l = (k : Int) ↔ e.user = u ∧ (decide (e.seq ≤ s) && (decide (k = 0) || match l[k - 1]? with
  | some x => decide (x.user ≠ e.user) || decide (s < x.seq)
  | none => true)) = true := by
 rw [zJ5]
 constructor
 ·
  rintro ⟨e', he', hp, hn⟩
  rw [he] at he'; cases he'
  simp only [asOf, Bool.and_eq_true, decide_eq_true_eq] at hp
  refine ⟨hp.1, ?_⟩
  by_cases hk : k = 0
  · simp [hp.2, hk]
  ·
   obtain ⟨x, hx⟩ : ∃ x, l[k - 1]? = some x := ⟨_, List.getElem?_eq_getElem (by have := (List.getElem?_eq_some_iff.1 he).1; omega)⟩
   have h1 := hn (k - 1) x (by omega) hx
   simp only [asOf, Bool.and_eq_false_iff, decide_eq_false_iff_not] at h1
   simp only [hx, hp.2, hk, decide_true, decide_false, Bool.true_and, Bool.false_or, Bool.or_eq_true, decide_eq_true_eq]
   rcases h1 with h1 | h1
   · exact .inl (by rw [hp.1]; exact h1)
   · exact .inr (by omega)
 ·
  rintro ⟨rfl, hc⟩
  simp only [Bool.and_eq_true, Bool.or_eq_true, decide_eq_true_eq] at hc
  refine ⟨e, he, by simp [asOf, hc.1], fun j e' hj he' => ?_⟩
  have hlt := (List.getElem?_eq_some_iff.1 he).1
  obtain ⟨x, hx⟩ : ∃ x, l[k - 1]? = some x := ⟨_, List.getElem?_eq_getElem (by omega)⟩
  have h1 := hc.2.resolve_left (by omega)
  rw [hx] at h1
  simp only [Bool.or_eq_true, decide_eq_true_eq] at h1
  have hxe := zEj h 0 (k - 1) x e hx (by rw [← he]; congr 1; omega)
  apply Bool.eq_false_iff.2
  intro ha
  simp only [asOf, Bool.and_eq_true, decide_eq_true_eq] at ha
  by_cases hjk : j = k - 1
  ·
   subst hjk
   rw [hx] at he'; cases he'
   rcases h1 with h1 | h1
   · exact h1 ha.1
   · omega
  ·
   have hex := zEj h (k - 1 - j - 1) j e' x he' (by rw [← hx]; congr 1; omega)
   rcases hex with hex | ⟨hex, hs⟩
   ·
    rcases hxe with hxe | ⟨hxe, _⟩
    ·
     have := zEN hex hxe
     rw [ha.1, zDL] at this; cases this
    · rw [hxe, ha.1, zDL] at hex; cases hex
   ·
    rcases h1 with h1 | h1
    · exact h1 (by rw [← hex]; exact ha.1)
    · omega
def zAn {α : Type} [DecidableEq α] (l : List α) : Nat → List α
 | 0 => []
 | j + 1 => match l[j]? with
  | some y => if j ≠ 0 ∧ l[j - 1]? = some y then zAn l j else zAn l j ++ [y]
  | none => zAn l j
def zB9 {α : Type} [DecidableEq α] (l : List α) : List α := zAn l l.length
theorem zEU {α : Type} [DecidableEq α] {l : List α} {u : α} : ∀ {n : Nat}, u ∈ zAn l n ↔ ∃ j, j < n ∧ l[j]? = some u
 | 0 => by simp [zAn]
 | n + 1 => by
  have ih := zEU (l := l) (u := u) (n := n)
  rw [zAn]
  cases hy : l[n]? with
  | none =>
   simp only [ih]
   constructor
   · rintro ⟨j, hj, h⟩; exact ⟨j, by omega, h⟩
   ·
    rintro ⟨j, hj, h⟩
    by_cases hjn : j = n
    · subst hjn; rw [hy] at h; cases h
    · exact ⟨j, by omega, h⟩
  | some y =>
   simp only []
   by_cases hd : n ≠ 0 ∧ l[n - 1]? = some y
   ·
    rw [if_pos hd, ih]
    constructor
    · rintro ⟨j, hj, h⟩; exact ⟨j, by omega, h⟩
    ·
     rintro ⟨j, hj, h⟩
     by_cases hjn : j = n
     ·
      subst hjn; rw [hy] at h; cases h
      exact ⟨j - 1, by omega, hd.2⟩
     · exact ⟨j, by omega, h⟩
   ·
    rw [if_neg hd, List.mem_append, ih, List.mem_singleton]
    constructor
    ·
     rintro (⟨j, hj, h⟩ | rfl)
     · exact ⟨j, by omega, h⟩
     · exact ⟨n, by omega, hy⟩
    ·
     rintro ⟨j, hj, h⟩
     by_cases hjn : j = n
     · subst hjn; rw [hy] at h; cases h; exact .inr rfl
     · exact .inl ⟨j, by omega, h⟩
theorem zHT {α : Type} [DecidableEq α] {u : α} {l : List α} : u ∈ zB9 l ↔ u ∈ l := by
 rw [zB9, zEU]
 constructor
 · rintro ⟨j, _, h⟩; exact List.mem_of_getElem? h
 ·
  intro h
  obtain ⟨j, hj⟩ := List.getElem?_of_mem h
  exact ⟨j, (List.getElem?_eq_some_iff.1 hj).1, hj⟩
theorem zGI {α : Type} [DecidableEq α] (l : List α) : ∀ n, (zAn l n).length ≤ n
 | 0 => Nat.le_refl _
 | n + 1 => by
  have := zGI l n
  rw [zAn]
  split
  ·
   split
   · omega
   · simp only [List.length_append, List.length_cons, List.length_nil]; omega
  · omega
theorem zDZ {α : Type} [DecidableEq α] {l : List α} {j : Nat} {x y : α} (h1 : 1 ≤ j) (hx : l[j - 1]? = some x) (hy : l[j]? = some y) (h : y = x) : zAn l (j + 1) = zAn l j := by
 rw [zAn, hy]
 simp only []
 rw [if_pos ⟨by omega, by rw [hx, h]⟩]
theorem zDY {α : Type} [DecidableEq α] {l : List α} {j : Nat} {x y : α} (hx : l[j - 1]? = some x) (hy : l[j]? = some y) (h : ¬ y = x) : zAn l (j + 1) = zAn l j ++ [y] := by
 rw [zAn, hy]
 simp only []
 rw [if_neg (fun hd => h (by rw [hx] at hd; exact (Option.some.inj hd.2).symm))]
def zAt (l : List Ent) : List ByteArray := zB9 (l.map (·.user))
theorem zP6 {l : List Ent} {ps : List Int} (h : zAr l = true) {k : Nat} {e : Ent} (he : l[k]? = some e) : ((zAt l).any fun u => ps.any fun s => decide (idxF (asOf u s) l = (k : Int))) = zEo l ps k e := by
 rw [Bool.eq_iff_iff]
 simp only [List.any_eq_true, decide_eq_true_eq, zEo]
 constructor
 ·
  rintro ⟨u, _, s, hs, hi⟩
  exact ⟨s, hs, ((zGa h he).1 hi).2⟩
 ·
  rintro ⟨s, hs, hc⟩
  exact ⟨e.user, zHT.2 (List.mem_map.2 ⟨e, List.mem_of_getElem? he, rfl⟩), s, hs, (zGa h he).2 ⟨rfl, hc⟩⟩
def zBK (l : List Ent) (ps : List Int) : Nat → List Int
 | 0 => []
 | i + 1 => zBK l ps i ++ match l[i]? with
  | some e => if zEo l ps i e = true then [(i : Int)] else []
  | none => []
def zAP (s : List Int) : List Int := s ++ [1000000000000]
def neededF (l : List Ent) (s : List Int) : List Int := if zAr l = true ∧ zBP s = true then zBK l (zAP s) l.length else []
end Go.Rl
namespace Go.Rl
section
variable {α : Type} {f : α → List PV} {z : List PV}
theorem zQH {a b : List α} {i : Nat} {x y : α} (h1 : a[i]? = some x) (h2 : b[i]? = some y) (h : x ≠ y) : a ≠ b := fun e => by
 subst e; rw [h1] at h2; cases h2; exact h rfl
theorem zOb {a b : List α} {i : Nat} (hl : a.length = b.length) (hi : a.length ≤ i) (h : ∀ j, j < i → a[j]? = b[j]?) : a = b := by
 apply List.ext_getElem?
 intro j
 rcases Nat.lt_or_ge j i with h1 | h1
 · exact h j h1
 · rw [List.getElem?_eq_none (by omega), List.getElem?_eq_none (by omega)]
theorem zNN {a b : List α} {i : Nat} {x y : α} (h : ∀ j, j < i → a[j]? = b[j]?) (h1 : a[i]? = some x) (h2 : b[i]? = some y) (e : x = y) : ∀ j, j < i + 1 → a[j]? = b[j]? := fun j hj => by
 by_cases hji : j = i
 · subst hji; rw [h1, h2, e]
 · exact h j (by omega)
def szOne (n : Nat) (x : Int) : Int := if x - (n : Int) < 0 then -1 else x - (n : Int)
def szL (w : α → Nat) : List α → Int → Int
 | [], x => x
 | e :: l, x => if x - (w e : Int) < 0 then -1 else szL w l (x - (w e : Int))
def szS (w : α → Nat) (l : List α) (x : Int) : Int := if x - (l.length : Int) < 0 then -1 else szL w l (x - (l.length : Int))
variable {w : α → Nat}
def marksG (mk : Nat → Nat → α) (k n : Nat) : List α := (List.range n).map (mk k)
variable {mk : Nat → Nat → α} {k : Nat}
def heldG [DecidableEq α] (mk : Nat → Nat → α) (c k : Nat) (l : List α) : Int := if l = marksG mk k l.length then ((k + c * l.length : Nat) : Int) else -1
end
def pvI (l : List Int) : List (List PV) := l.map fun n => [.v (.int .i64 n)]
theorem zAT (l : List Int) : (pvI l).length = l.length := by simp [pvI]
theorem zB0 {l : List Int} {i : Nat} {e : Int} (h : l[i]? = some e) : (pvI l)[i]? = some [.v (.int .i64 e)] := by simp [pvI, h]
theorem zA3 (l : List Int) : FlatP (pvI l) := fun es he p hp => by
 obtain ⟨s, _, rfl⟩ := List.mem_map.1 he
 simp only [List.mem_cons, List.not_mem_nil, or_false] at hp
 rcases hp with rfl; rfl
def pvT (l : List ByteArray) : List (List PV) := l.map fun n => [.v (.string n)]
theorem zBo (l : List ByteArray) : (pvT l).length = l.length := by simp [pvT]
theorem zDc {l : List ByteArray} {i : Nat} {e : ByteArray} (h : l[i]? = some e) : (pvT l)[i]? = some [.v (.string e)] := by simp [pvT, h]
theorem zEc (l : List ByteArray) : FlatP (pvT l) := fun es he p hp => by
 obtain ⟨s, _, rfl⟩ := List.mem_map.1 he
 simp only [List.mem_cons, List.not_mem_nil, or_false] at hp
 rcases hp with rfl; rfl
def markN (k i : Nat) : Int := ((k + 1 * i : Nat) : Int)
end Go.Rl
namespace Go.Rl
def orF : List Int → Int
 | [] => 0
 | x :: l => if x ≠ 0 then x else orF l
theorem zOH {l : List Int} {i : Nat} {e : Int} (he : l[i]? = some e) : orF (l.drop i) = if e ≠ 0 then e else orF (l.drop (i + 1)) := by
 have hlt := (List.getElem?_eq_some_iff.1 he).1
 have : l.drop i = e :: l.drop (i + 1) := by rw [List.drop_eq_getElem_cons hlt, (List.getElem?_eq_some_iff.1 he).2]
 rw [this, orF]
theorem or_end {l : List Int} {i : Nat} (hi : l.length ≤ i) : orF (l.drop i) = 0 := by rw [List.drop_of_length_le hi]; rfl
theorem zPw (a b : Ent) : orF [cmpS a.user b.user, cmpI b.seq a.seq, cmpI b.kind a.kind] = cmpK a b := by
 unfold cmpK
 simp only [orF]
 by_cases h1 : cmpS a.user b.user = 0
 ·
  by_cases h2 : cmpI b.seq a.seq = 0
  · by_cases h3 : cmpI b.kind a.kind = 0 <;> simp [h1, h2, h3]
  · simp [h1, h2]
 · simp [h1]
def LessE (a b : Ent) : Prop := ltB a.user b.user = true ∨ (a.user = b.user ∧ (b.seq < a.seq ∨ (a.seq = b.seq ∧ b.kind < a.kind)))
theorem zFl (a : ByteArray) : cmpS a a = 0 := by simp [cmpS, zDL]
theorem zHW {a b : Ent} (h1 : a.user = b.user) (h2 : a.seq = b.seq) (h3 : a.kind = b.kind) : cmpK a b = 0 := by
 unfold cmpK
 rw [h1, h2, h3, zFl]
 simp [cmpI]
theorem zEC {a b : Ent} (h : LessE a b) : cmpK a b = -1 := by
 unfold cmpK
 rcases h with h | ⟨h1, h | ⟨h2, h⟩⟩
 · simp [cmpS, h]
 ·
  rw [h1, zFl]
  simp [cmpI, h]
 ·
  rw [h1, zFl, h2]
  simp [cmpI, h]
theorem zHV {a b : Ent} (h : ¬ LessE a b) (hn : ¬ (a.user = b.user ∧ a.seq = b.seq ∧ a.kind = b.kind)) : cmpK a b = 1 := by
 unfold cmpK
 by_cases h1 : ltB a.user b.user = true
 · exact absurd (.inl h1) h
 ·
  by_cases h2 : ltB b.user a.user = true
  · simp [cmpS, h1, h2]
  ·
   have he : a.user = b.user := zHD (by simpa using h1) (by simpa using h2)
   rw [he, zFl]
   have h3 : ¬ b.seq < a.seq := fun h3 => h (.inr ⟨he, .inl h3⟩)
   by_cases h4 : a.seq < b.seq
   · simp [cmpI, h3, h4]
   ·
    have h5 : a.seq = b.seq := by omega
    have h6 : ¬ b.kind < a.kind := fun h6 => h (.inr ⟨he, .inr ⟨h5, h6⟩⟩)
    have h7 : a.kind < b.kind := by
     have : a.kind ≠ b.kind := fun h7 => hn ⟨he, h5, h7⟩
     omega
    simp [cmpI, h5, h6, h7]
theorem zJH {l : List Ent} {i : Nat} {e : Ent} (he : l[i]? = some e) (hn : zCz l i e = false) : zAr l = false := by simp [zAr, zMr he hn]
theorem zKA {l : List Ent} (h : 400 < l.length) : zAr l = false := by
 have : ¬ l.length ≤ 400 := by omega
 simp [zAr, this]
theorem zMg {l : List Ent} {i : Nat} (hl : l.length ≤ 400) (hi : l.length ≤ i) (h : ∀ j e, j < i → l[j]? = some e → zCz l j e = true) : zAr l = true := by simp [zAr, hl, zHd hi h]
theorem zJt {l : List Ent} {j : Nat} {e : Ent} (h : zBc e = false) : zCz l j e = false := by simp [zCz, h]
theorem zJr {l : List Ent} {j : Nat} {x e : Ent} (hj : 0 < j) (hx : l[j - 1]? = some x) (h : 0 ≤ cmpK x e) : zCz l j e = false := by
 have h1 : ¬ j = 0 := by omega
 have h2 : ¬ cmpK x e < 0 := by omega
 simp [zCz, hx, h1, h2]
theorem zG4 {l : List Ent} {j : Nat} {e : Ent} (h : zBc e = true) (hj : ¬ 0 < j) : zCz l j e = true := by
 have h1 : j = 0 := by omega
 simp [zCz, h, h1]
theorem zH5 {l : List Ent} {j : Nat} {x e : Ent} (h : zBc e = true) (hx : l[j - 1]? = some x) (hc : ¬ 0 ≤ cmpK x e) : zCz l j e = true := by
 have h2 : cmpK x e < 0 := by omega
 simp [zCz, h, hx, h2]
theorem zJs {l : List Ent} {j : Nat} {e : Ent} (h : zCz l j e = true) : zBc e = true := by
 simp only [zCz, Bool.and_eq_true] at h
 exact h.1
theorem zFe {e : Ent} (h : zBc e = true) : zCn e.user e.seq e.kind = true := by
 simp only [zBc, Bool.and_eq_true] at h
 exact h.1.1
def kcmp (a b : Ent) : Int := if zCn a.user a.seq a.kind = true ∧ zCn b.user b.seq b.kind = true then cmpK a b else 0
theorem zDe {a b : Ent} (h1 : zCn a.user a.seq a.kind = true) (h2 : zCn b.user b.seq b.kind = true) : kcmp a b = cmpK a b := by simp [kcmp, h1, h2]
theorem kc_ok {l : List Ent} {i : Nat} {x e : Ent} (hG : ∀ j e, j < i → l[j]? = some e → zCz l j e = true) (hi : 0 < i) (hx : l[i - 1]? = some x) (he : zBc e = true) : kcmp x e = cmpK x e := zDe (zFe (zJs (hG _ _ (by omega) hx))) (zFe he)
theorem zEZ {s : List Int} {i : Nat} {x : Int} (he : s[i]? = some x) (hn : zCB s i x = false) : zBP s = false := by simp [zBP, zMr he hn]
theorem zM0 {s : List Int} (h : 20 < s.length) : zBP s = false := by
 have : ¬ s.length ≤ 20 := by omega
 simp [zBP, this]
theorem zGq {s : List Int} {i : Nat} (hi : s.length ≤ i) (h : ∀ j x, j < i → s[j]? = some x → zCB s j x = true) : zBP s = decide (s.length ≤ 20) := by simp [zBP, zHd hi h]
theorem zH4 {s : List Int} {j : Nat} {x : Int} (h : zAs x 0 1000000000000 = false) : zCB s j x = false := by simp [zCB, h]
theorem zH3 {s : List Int} {j : Nat} {y x : Int} (hj : 0 < j) (hy : s[j - 1]? = some y) (h : x ≤ y) : zCB s j x = false := by
 have h1 : ¬ j = 0 := by omega
 have h2 : ¬ y < x := by omega
 simp [zCB, hy, h1, h2]
theorem zGD {s : List Int} {j : Nat} {x : Int} (h : zAs x 0 1000000000000 = true) (hj : ¬ 0 < j) : zCB s j x = true := by
 have h1 : j = 0 := by omega
 simp [zCB, h, h1]
theorem zG3 {s : List Int} {j : Nat} {y x : Int} (h : zAs x 0 1000000000000 = true) (hy : s[j - 1]? = some y) (hc : ¬ x ≤ y) : zCB s j x = true := by
 have h2 : y < x := by omega
 simp [zCB, h, hy, h2]
def zEH (l : List Ent) (i : Nat) (e : Ent) (p : Int) : Bool := decide (e.seq ≤ p) && (decide (i = 0) || match l[i - 1]? with
 | some x => decide (x.user ≠ e.user) || decide (p < x.seq)
 | none => true)
theorem zOP (l : List Ent) (ps : List Int) (i : Nat) (e : Ent) : zEo l ps i e = ps.any (zEH l i e) := rfl
theorem zP8 {l : List Ent} {i : Nat} {e : Ent} {p : Int} (h : p < e.seq) : zEH l i e p = false := by
 have h1 : ¬ e.seq ≤ p := by omega
 simp [zEH, h1]
theorem zH7 {l : List Ent} {i : Nat} {e : Ent} {p : Int} (h : ¬ p < e.seq) (hi : (i : Int) = 0) : zEH l i e p = true := by
 have h1 : e.seq ≤ p := by omega
 have h2 : i = 0 := by omega
 simp [zEH, h1, h2]
theorem zH8 {l : List Ent} {i : Nat} {x e : Ent} {p : Int} (h : ¬ p < e.seq) (hx : l[i - 1]? = some x) (hu : ¬ x.user = e.user) : zEH l i e p = true := by
 have h1 : e.seq ≤ p := by omega
 simp [zEH, h1, hx, hu]
theorem zJw {l : List Ent} {i : Nat} {x e : Ent} {p : Int} (h : ¬ p < e.seq) (hi : ¬ (i : Int) = 0) (hx : l[i - 1]? = some x) (hu : x.user = e.user) : zEH l i e p = decide (p < x.seq) := by
 have h1 : e.seq ≤ p := by omega
 have h2 : ¬ i = 0 := by omega
 simp [zEH, h1, h2, hx, hu]
theorem zEE {α : Type} {ps : List α} {k : Nat} {p : α} (f : α → Bool) (hp : ps[k]? = some p) : (ps.take (k + 1)).any f = ((ps.take k).any f || f p) := by simp [List.take_add_one, hp]
theorem zI0 {l : List Ent} {ps : List Int} {i : Nat} {e : Ent} (he : l[i]? = some e) (h : zEo l ps i e = true) : zBK l ps (i + 1) = zBK l ps i ++ [(i : Int)] := by
 rw [zBK, he]
 simp [h]
theorem zI1 {l : List Ent} {ps : List Int} {i : Nat} {e : Ent} (he : l[i]? = some e) (h : zEo l ps i e = false) : zBK l ps (i + 1) = zBK l ps i := by
 rw [zBK, he]
 simp [h]
theorem zDJ (l : List Ent) (ps : List Int) : ∀ i, (zBK l ps i).length ≤ i
 | 0 => Nat.le_refl _
 | i + 1 => by
  have := zDJ l ps i
  rw [zBK, List.length_append]
  split
  ·
   split
   · simp only [List.length_cons, List.length_nil]; omega
   · simp only [List.length_nil]; omega
  · simp only [List.length_nil]; omega
theorem zH1 (s : List Int) : (zAP s).length = s.length + 1 := by simp [zAP]
theorem zF0 (s : List Int) : pvI s ++ [[PV.v (.int .i64 1000000000000)]] = pvI (zAP s) := by simp [pvI, zAP]
theorem zL7 (l : List Int) (n : Int) : pvI l ++ [[PV.v (.int .i64 n)]] = pvI (l ++ [n]) := by simp [pvI]
theorem zJK {α : Type} {l c : List α} {q : Nat} (h : c.length ≤ q) : (c ++ l.drop c.length)[q]? = l[q]? := by
 rw [List.getElem?_append_right h, List.getElem?_drop]
 congr 1
 omega
theorem cpt_set {α : Type} {l c : List α} {y : α} (h : c.length < l.length) : (c ++ l.drop c.length).set c.length y = (c ++ [y]) ++ l.drop (c ++ [y]).length := by
 rw [List.set_append_right _ _ (Nat.le_refl _), Nat.sub_self, List.drop_eq_getElem_cons h, List.set_cons_zero]
 simp
theorem zOt {α : Type} [DecidableEq α] {l : List α} {k : Nat} (h : zAn l k = l.take k) (hk : k ≤ l.length) : zAn l k ++ l.drop (zAn l k).length = l := by
 rw [h, List.length_take, Nat.min_eq_left hk, List.take_append_drop]
theorem zQT {α : Type} [DecidableEq α] {l : List α} {k : Nat} {x y : α} (h : zAn l k = l.take k) (hx : l[k - 1]? = some x) (hy : l[k]? = some y) (hn : ¬ y = x) : zAn l (k + 1) = l.take (k + 1) := by
 rw [zDY hx hy hn, h, List.take_add_one, hy]
 rfl
theorem zE1 {γ : Gho} {P : Program} {n : Nat} {o : Oper} {M B : List Nat} {s : St} {t e : TypeId} {x y : Operand} {sz : Nat} {d' : Option Nat} {kk : IntKind} {i : Int} (k : Nat) (ho : o.op = .indexAddr t x y) {id lo len rz : Nat} {xs : List (List PV)} (hx : s.ev x = .sl id lo len) (hr : s.r id = some (rz, xs)) (hy : s.ev y = .p d' (.v (.int kk i))) (hu : P.underlying t = some (.slice e)) (hsz : ∀ w, (sizeOf e).run P w = .ok sz w) (hz : rz = sz) (hk : i = k) (h1 : k < len) :
  StepD γ P n o M B s { put := .ea id (lo + k) 0 } :=
 zAW (zHt ho hx hr hy hu hsz hz (by omega) (by omega)) (by subst hk; simp)
theorem cpt_one {α : Type} [DecidableEq α] {l : List α} (h : 1 ≤ l.length) : zAn l 1 = l.take 1 := by
 cases l with
 | nil => simp at h
 | cons x l => simp [zAn]
theorem zOu {α : Type} [DecidableEq α] {l : List α} (h : l.length ≤ 1) : zB9 l = l := by
 cases l with
 | nil => rfl
 | cons x l => cases l with
  | nil => simp [zB9, zAn]
  | cons y l => simp only [List.length_cons] at h; omega
theorem cpt_row {c r : List ByteArray} {n m : Nat} {z : List PV} (h : n = c.length) : ((((pvT (c ++ r)).take n) ++ List.replicate m z).take (n - 0)) = pvT c := by
 subst h
 rw [Nat.sub_zero, List.take_append_of_le_length (by rw [List.length_take, zBo]; simp), List.take_take, Nat.min_self]
 simp [pvT, List.map_append]
theorem zQU {c : List ByteArray} {n m : Nat} : ∀ es ∈ ((pvT c).take n ++ List.replicate m [PV.v (.string ⟨#[]⟩)]), ∀ p ∈ es, (match p with | .v _ => true | _ => false) = true := fun es he p hp => by
 rcases List.mem_append.1 he with he | he
 ·
  obtain ⟨b, _, rfl⟩ := List.mem_map.1 (List.mem_of_mem_take he)
  simp only [List.mem_singleton] at hp
  subst hp; rfl
 ·
  rw [List.eq_of_mem_replicate he] at hp
  simp only [List.mem_singleton] at hp
  subst hp; rfl
end Go.Rl
namespace Go.Rl
open Go.RowKit

def rn (a b i : Nat) : Nat := match Nat.beq i a with
 | true => b
 | false => i
theorem zN6 (a b : Nat) : rn a b a = b := by simp [rn]
theorem rn_ne {a b i : Nat} (h : i ≠ a) : rn a b i = i := by
 have : Nat.beq i a = false := by
  cases e : Nat.beq i a with
  | false => rfl
  | true => exact absurd (Nat.eq_of_beq_eq_true e) h
 simp only [rn, this]
mutual
def AV.ren (a b : Nat) : AV → AV
 | .p (some d) x => .p (some (rn a b d)) x
 | .sl id lo len => .sl (rn a b id) lo len
 | .ea id i off => .ea (rn a b id) i off
 | .fea (some d) ps => .fea (some (rn a b d)) ps
 | .agg cs => .agg (AV.rens a b cs)
 | .tup cs => .tup (AV.rens a b cs)
 | x => x
def AV.rens (a b : Nat) : List AV → List AV
 | [] => []
 | x :: xs => AV.ren a b x :: AV.rens a b xs
end
def St.ren (s : St) (a b : Nat) : St := ⟨fun i => (s.t i).ren a b, fun i => (s.b i).map (AV.rens a b), fun i => match Nat.beq i b with
 | true => s.r a
 | false => match Nat.beq i a with
  | true => none
  | false => s.r i⟩
def Pl.ren (L : Pl) (a b : Nat) : Pl := { L with ρ := upd L.ρ b (L.ρ a), ν := upd L.ν b (L.ν a), lab := fun k => match L.lab k with
 | some (.row i) => some (.row (rn a b i))
 | x => x }
section
variable {L : Pl} {w : World} {s : St} {a b : Nat}
theorem zM5 (hab : a ≠ b) (hb : s.r b = none) {i : Nat} {y} (h : s.r i = some y) : (s.ren a b).r (rn a b i) = some y ∧ (L.ren a b).ρ (rn a b i) = L.ρ i ∧ (L.ren a b).ν (rn a b i) = L.ν i := by
 by_cases e : i = a
 ·
  subst e
  rw [zN6]
  refine ⟨?_, by simp [Pl.ren], by simp [Pl.ren]⟩
  simp only [St.ren, Nat.beq_refl]
  exact h
 ·
  have hib : i ≠ b := fun e => by subst e; rw [hb] at h; cases h
  have h1 : Nat.beq i b = false := by
   cases e : Nat.beq i b with
   | false => rfl
   | true => exact absurd (Nat.eq_of_beq_eq_true e) hib
  have h2 : Nat.beq i a = false := by
   cases e' : Nat.beq i a with
   | false => rfl
   | true => exact absurd (Nat.eq_of_beq_eq_true e') e
  rw [rn_ne e]
  exact ⟨by simp only [St.ren, h1, h2]; exact h, zBZ _ _ hib, zBZ _ _ hib⟩
theorem zL4 (hab : a ≠ b) (hb : s.r b = none) {d : Option Nat} (hd : ∀ id, d = some id → (s.r id).isSome) : ∀ k, L.zd d k → (L.ren a b).zd (d.map (rn a b)) k := fun k hk => by
 rcases hk with hk | ⟨id, rfl, hk⟩
 · exact .inl hk
 ·
  obtain ⟨y, hy⟩ := Option.isSome_iff_exists.1 (hd id rfl)
  exact .inr ⟨rn a b id, rfl, by rw [(zM5 hab hb hy).2.2]; exact hk⟩
mutual
theorem AVR.ren (hab : a ≠ b) (hb : s.r b = none) : ∀ (av : AV) (v : Value), AVR L w s av v → AVR (L.ren a b) w (s.ren a b) (av.ren a b) v
 | .undef, v, _ => by simp [AV.ren, AVR]
 | .p none x, v, hv => by
  simp only [AV.ren, AVR] at hv ⊢
  exact ⟨hv.1.mono (fun _ _ => rfl) (fun k hk => zL4 (d := none) hab hb (fun _ h => by cases h) k hk), fun _ h => by cases h⟩
 | .p (some d) x, v, hv => by
  simp only [AV.ren, AVR] at hv ⊢
  refine ⟨hv.1.mono (fun _ _ => rfl) (fun k hk => zL4 (d := some d) hab hb hv.2 k hk), fun id hid => ?_⟩
  cases hid
  obtain ⟨y, hy⟩ := Option.isSome_iff_exists.1 (hv.2 d rfl)
  rw [(zM5 (L := L) hab hb hy).1]; rfl
 | .sl id lo len, v, hv => by
  simp only [AV.ren, AVR] at hv ⊢
  obtain ⟨sz, xs, h1, h2, h3⟩ := hv
  obtain ⟨h4, h5, _⟩ := zM5 (L := L) hab hb h1
  exact ⟨sz, xs, h4, h2, by rw [h5]; exact h3⟩
 | .ptr c off, v, hv => by
  simp only [AV.ren, AVR] at hv ⊢
  exact ⟨by simpa [St.ren] using hv.1, hv.2⟩
 | .ea id i off, v, hv => by
  simp only [AV.ren, AVR] at hv ⊢
  obtain ⟨sz, xs, k, n, c, h1, h2, h3, h4⟩ := hv
  obtain ⟨h5, h6, _⟩ := zM5 (L := L) hab hb h1
  exact ⟨sz, xs, k, n, c, h5, h2, by rw [h6]; exact h3, h4⟩
 | .fea none ps, v, hv => by
  simp only [AV.ren, AVR] at hv ⊢
  obtain ⟨⟨k, off, h1, h2, h3⟩, h4⟩ := hv
  have hz := zL4 (L := L) (d := none) hab hb h4
  exact ⟨⟨k, off, h1, hz k h2, fun j p hp => by obtain ⟨u, hu, hr⟩ := h3 j p hp; exact ⟨u, hu, hr.mono (fun _ _ => rfl) hz⟩⟩, fun _ h => by cases h⟩
 | .fea (some d) ps, v, hv => by
  simp only [AV.ren, AVR] at hv ⊢
  obtain ⟨⟨k, off, h1, h2, h3⟩, h4⟩ := hv
  have hz := zL4 (L := L) (d := some d) hab hb h4
  refine ⟨⟨k, off, h1, hz k h2, fun j p hp => by obtain ⟨u, hu, hr⟩ := h3 j p hp; exact ⟨u, hu, hr.mono (fun _ _ => rfl) hz⟩⟩, fun id hid => ?_⟩
  cases hid
  obtain ⟨y, hy⟩ := Option.isSome_iff_exists.1 (h4 d rfl)
  rw [(zM5 (L := L) hab hb hy).1]; rfl
 | .nils, v, hv => by simpa only [AV.ren, AVR] using hv
 | .sat A, v, hv => by simpa only [AV.ren, AVR] using hv
 | .clo f bs, v, hv => by
  simp only [AV.ren, AVR] at hv ⊢
  exact ⟨fun x hx => by simpa [St.ren] using hv.1 x hx, hv.2⟩
 | .agg cs, v, hv => by
  simp only [AV.ren, AVR] at hv ⊢
  obtain ⟨us, h1, h2⟩ := hv
  exact ⟨us, h1, AVRs.ren hab hb cs us h2⟩
 | .tup cs, v, hv => by
  simp only [AV.ren, AVR] at hv ⊢
  obtain ⟨us, h1, h2⟩ := hv
  exact ⟨us, h1, AVRs.ren hab hb cs us h2⟩
theorem AVRs.ren (hab : a ≠ b) (hb : s.r b = none) : ∀ (aL : List AV) (us : List Value), AVRs L w s aL us → AVRs (L.ren a b) w (s.ren a b) (AV.rens a b aL) us
 | [], [], _ => by simp [AV.rens, AVRs]
 | [], _ :: _, hv => by simp [AVRs] at hv
 | _ :: _, [], hv => by simp [AVRs] at hv
 | x :: aL, u :: us, hv => by
  simp only [AV.rens, AVRs] at hv ⊢
  exact ⟨AVR.ren hab hb x u hv.1, AVRs.ren hab hb aL us hv.2⟩
end
end
theorem zBi {n : Nat} {s : St} (a b : Nat) (hab : Nat.beq a b = false) (hb : s.r b = none) (hp : b < pinT) : Wk n s (s.ren a b) := by
 intro w0 I L ac w h
 have hne : a ≠ b := fun e => by subst e; simp at hab
 have hlab : ∀ k, (∀ i, L.lab k ≠ some (.row i)) → (L.ren a b).lab k = L.lab k := fun k hk => by
  show (match L.lab k with
   | some (.row i) => some (.row (rn a b i))
   | x => x) = L.lab k
  cases e : L.lab k with
  | none => rfl
  | some l => cases l with
   | box i => rfl
   | row i => exact absurd e (hk i)
 refine ⟨L.ren a b, h.same, fun k hk => ⟨(h.zlt k hk).1, ?_⟩, fun k l hk => ?_, h.sz, h.df, fun i => (h.tm i).ren hne hb _ _, fun i cs hc => ?_, fun i sz xs hx => ?_, fun i hi hx => ?_, fun i hi hx => h.pb i hi (by simpa [St.ren] using hx), h.zi⟩
 ·
  rw [hlab k (fun i => by rw [(h.zlt k hk).2]; simp)]
  exact (h.zlt k hk).2
 ·
  simp only [Pl.ren] at hk
  split at hk
  · rename_i i e; exact h.llt k _ e
  · exact h.llt k l hk
 ·
  simp only [St.ren, Option.map_eq_some_iff] at hc
  obtain ⟨cs0, h0, rfl⟩ := hc
  obtain ⟨h1, us, ty, h2, h3, h4⟩ := h.bx i cs0 h0
  exact ⟨(hlab (L.β i) (fun j => by rw [h1]; simp)).trans h1, us, ty, h2, h3.ren hne hb _ _, h4⟩
 ·
  have key : ∃ j, s.r j = some (sz, xs) ∧ rn a b j = i := by
   simp only [St.ren] at hx
   split at hx
   ·
    rename_i e
    have := Nat.eq_of_beq_eq_true e
    subst this
    exact ⟨a, hx, zN6 _ _⟩
   ·
    split at hx
    · cases hx
    ·
     rename_i e1 e2
     refine ⟨i, hx, rn_ne (fun e => ?_)⟩
     subst e
     simp at e2
  obtain ⟨j, hj, rfl⟩ := key
  obtain ⟨h1, h2, h3⟩ := h.rw j sz xs hj
  obtain ⟨_, h4, h5⟩ := zM5 (L := L) hne hb hj
  rw [h4, h5]
  exact ⟨h1, h2, fun k hk => by simp only [Pl.ren, h3 k hk]⟩
 ·
  simp only [St.ren] at hx
  split at hx
  ·
   rename_i e
   have := Nat.eq_of_beq_eq_true e
   omega
  ·
   rename_i e1
   split at hx
   · cases hx
   ·
    have hib : i ≠ b := fun e => by subst e; simp at e1
    simp only [Pl.ren, zBZ _ _ hib]
    exact h.pr i hi hx
end Go.Rl
namespace Go.Rl
open Go.RowKit

inductive Sh where
 | int (k : IntKind)
 | str
 | bool
 | sl (E : List Sh)
def shFs (P : Program) (sh : TypeId → Option (List Sh)) : List Field → Nat → Option (List Sh)
 | [], _ => some []
 | f :: fs, o => match Nat.beq f.offset o, sh f.type with
  | true, some E => match Nat.beq (P.cellsOf f.type) E.length, shFs P sh fs (o + E.length) with
   | true, some F => some (E ++ F)
   | _, _ => none
  | _, _ => none
def shOf (P : Program) : Nat → TypeId → Option (List Sh)
 | 0, _ => none
 | n + 1, t => match P.underlying t with
  | some (.int k) => some [.int k]
  | some .string => some [.str]
  | some .bool => some [.bool]
  | some (.slice e) => match shOf P n e with
   | some (x :: E) => match Nat.beq (P.cellsOf e) (x :: E).length with
    | true => some [.sl (x :: E)]
    | false => none
   | _ => none
  | some (.struct fs) => match shFs P (shOf P n) fs.toList 0 with
   | some E => match Nat.beq (P.cellsOf t) E.length with
    | true => some E
    | false => none
   | none => none
  | _ => none
inductive Fit : Sh → PV → Prop
 | int (k : IntKind) (n : Int) (h : (Lit.int k n).wf = true) : Fit (.int k) (.v (.int k n))
 | str (b : ByteArray) (h : b.size ≤ reachBytes) : Fit .str (.v (.string b))
 | bool (b : Bool) : Fit .bool (.v (.bool b))
 | sl (E : List Sh) (xs : List (List PV)) (hl : xs.length ≤ maxLen) (h : ∀ es ∈ xs, es.length = E.length) (h2 : ∀ es ∈ xs, ∀ (j : Nat) s p, E[j]? = some s → es[j]? = some p → Fit s p) : Fit (.sl E) (.sl false E.length xs)
def Fits (E : List Sh) (ps : List PV) : Prop := ps.length = E.length ∧ ∀ (j : Nat) s p, E[j]? = some s → ps[j]? = some p → Fit s p
theorem Fits.app {E F : List Sh} {ps qs : List PV} (h : Fits E ps) (k : Fits F qs) : Fits (E ++ F) (ps ++ qs) := by
 refine ⟨by simp [h.1, k.1], fun j s p hs hp => ?_⟩
 by_cases hj : j < E.length
 ·
  rw [List.getElem?_append_left hj] at hs
  rw [List.getElem?_append_left (by rw [h.1]; exact hj)] at hp
  exact h.2 j s p hs hp
 ·
  rw [List.getElem?_append_right (by omega)] at hs
  rw [List.getElem?_append_right (by rw [h.1]; omega), h.1] at hp
  exact k.2 _ s p hs hp
theorem Fits.one {s : Sh} {p : PV} (h : Fit s p) : Fits [s] [p] := ⟨rfl, fun j s' p' hs hp => by
 cases j with
 | zero => simp at hs hp; subst hs hp; exact h
 | succ j => simp at hs⟩
theorem zMe {ps : List PV} (h : Fits [] ps) : ps = [] := List.eq_nil_of_length_eq_zero h.1
theorem zHN {s : Sh} {E : List Sh} {ps : List PV} (h : Fits (s :: E) ps) : ∃ p qs, ps = p :: qs ∧ Fit s p ∧ Fits E qs := by
 cases ps with
 | nil => have := h.1; simp at this
 | cons p qs => exact ⟨p, qs, rfl, h.2 0 s p rfl rfl, by have := h.1; simpa using this, fun j s' p' hs hp => h.2 (j + 1) s' p' (by simpa using hs) (by simpa using hp)⟩
theorem fit_int {k : IntKind} {p : PV} (h : Fit (.int k) p) : ∃ n, p = .v (.int k n) ∧ (Lit.int k n).wf = true := by cases h; exact ⟨_, rfl, ‹_›⟩
theorem fit_sl {E : List Sh} {p : PV} (h : Fit (.sl E) p) : ∃ xs, p = .sl false E.length xs ∧ xs.length ≤ maxLen ∧ ∀ es ∈ xs, Fits E es := by
 cases h with
 | sl _ xs hl h1 h2 => exact ⟨xs, rfl, hl, fun es he => ⟨h1 es he, h2 es he⟩⟩
theorem zJ9 {E : List Sh} {α : Type} {f : α → List PV} {B : α → Prop} (hf : ∀ es, Fits E es → ∃ a, es = f a ∧ B a) : ∀ {xs : List (List PV)}, (∀ es ∈ xs, Fits E es) → ∃ l : List α, xs = l.map f ∧ ∀ a ∈ l, B a
 | [], _ => ⟨[], rfl, fun _ h => by cases h⟩
 | x :: xs, h => by
  obtain ⟨a, rfl, ha⟩ := hf x (h x (by simp))
  obtain ⟨l, rfl, hl⟩ := zJ9 hf (xs := xs) (fun es he => h es (by simp [he]))
  exact ⟨a :: l, rfl, fun b hb => by rcases List.mem_cons.1 hb with rfl | hb; exact ha; exact hl b hb⟩
section
variable {H : Type} {enc : TypeId × Value → H} {P : Program} {w : World} {sp : Nat → Bool} {held : Bool}
def old (w : World) : Nat → Prop := fun k => k < w.heap.size
theorem zP0 {w : World} {a : Addr} {v : Value} (h : w.cell? a = some v) : old w a.block ∧ a.spot = none := by
 unfold World.cell? at h
 split at h
 ·
  rename_i c t f e
  refine ⟨(Array.getElem?_eq_some_iff.1 e).1, ?_⟩
  cases hs : a.spot with
  | none => rfl
  | some x => rw [hs] at h; simp at h
 · cases h
theorem zGe {e : TypeId} : ∀ {l : List (DataW H)} {d : DataW H}, d ∈ l → ∀ n ∈ d.weights P e, n ∈ DataW.weightsAll P e l
 | x :: l, d, hd, n, hn => by
  simp only [DataW.weightsAll, List.mem_append]
  rcases List.mem_cons.1 hd with rfl | hd
  · exact .inl hn
  · exact .inr (zGe hd n hn)
def Opens (H : Type) (enc : TypeId × Value → H) (P : Program) (w : World) (sp : Nat → Bool) (held : Bool) (t : TypeId) (E : List Sh) : Prop :=
 ∀ (fuel : Nat) (cs : List Value) (x : DataW H × List MemPlace), DataW.trod enc P w 0 sp held fuel t cs = some x → (∀ n ∈ x.1.weights P t, n ≤ reachBytes) →
  ∃ ps, Fits E ps ∧ cs.length = E.length ∧ ∀ (j : Nat) p v, ps[j]? = some p → cs[j]? = some v → PVR (old w) w p v
theorem zMK {n : Nat} (ih : ∀ t E, shOf P n t = some E → Opens H enc P w sp held t E) : ∀ (fs : List Field) (o : Nat) (E : List Sh), shFs P (shOf P n) fs o = some E →
  ∀ (fuel : Nat) (cs : List Value) (xs : List (DataW H × List MemPlace)), xs.length = fs.length → (∀ (i : Nat) (f : Field), fs[i]? = some f → DataW.trod enc P w 0 sp held fuel f.type ((cs.drop f.offset).take (P.cellsOf f.type)) = xs[i]?) →
   (∀ n ∈ DataW.weightsEach P (fs.map (·.type)) (xs.map (·.1)), n ≤ reachBytes) → ∃ ps, Fits E ps ∧ ∀ (j : Nat) p v, ps[j]? = some p → cs[o + j]? = some v → PVR (old w) w p v
 | [], o, E, hE, fuel, cs, xs, hl, hx, hw => by
  simp only [shFs, Option.some.injEq] at hE
  subst hE
  exact ⟨[], ⟨rfl, by simp⟩, by simp⟩
 | f :: fs, o, E, hE, fuel, cs, xs, hl, hx, hw => by
  simp only [shFs] at hE
  split at hE
  ·
   rename_i E1 ho hs
   split at hE
   ·
    rename_i F hc hF
    simp only [Option.some.injEq] at hE
    subst hE
    have ho' := Nat.eq_of_beq_eq_true ho
    have hc' := Nat.eq_of_beq_eq_true hc
    cases xs with
    | nil => simp at hl
    | cons x xs =>
     have h0 := hx 0 f rfl
     simp only [List.getElem?_cons_zero] at h0
     simp only [List.map_cons, DataW.weightsEach, List.mem_append] at hw
     obtain ⟨ps, f1, f2, f3⟩ := ih f.type E1 hs fuel _ x h0 (fun n hn => hw n (.inl hn))
     obtain ⟨qs, g1, g3⟩ := zMK ih fs (o + E1.length) F hF fuel cs xs (by simpa using hl) (fun i f' hf => by simpa using hx (i + 1) f' (by simpa using hf)) (fun n hn => hw n (.inr hn))
     refine ⟨ps ++ qs, f1.app g1, fun j p v hp hv => ?_⟩
     by_cases hj : j < E1.length
     ·
      rw [List.getElem?_append_left (by rw [f1.1]; exact hj)] at hp
      refine f3 j p v hp ?_
      rw [ho', hc', List.getElem?_take_of_lt hj, List.getElem?_drop]
      exact hv
     ·
      rw [List.getElem?_append_right (by rw [f1.1]; omega), f1.1] at hp
      refine g3 (j - E1.length) p v hp ?_
      rw [show o + E1.length + (j - E1.length) = o + j by omega]
      exact hv
   · cases hE
  · cases hE
theorem opens : ∀ (n : Nat) (t : TypeId) (E : List Sh), shOf P n t = some E → Opens H enc P w sp held t E
 | 0, t, E, hE => by simp [shOf] at hE
 | n + 1, t, E, hE => by
  intro fuel cs x hx hw
  simp only [shOf] at hE
  split at hE
  ·
   rename_i k hu
   cases hE
   obtain ⟨m, rfl, rfl, hm⟩ := DataW.trod_int hu hx
   exact ⟨[.v (.int k m)], Fits.one (.int k m hm), rfl, fun j p v hp hv => by
    cases j with
    | zero => simp at hp hv; subst hp hv; exact .v _ rfl
    | succ j => simp at hp⟩
  ·
   rename_i hu
   cases hE
   obtain ⟨b, rfl, rfl, hm⟩ := DataW.trod_string hu hx
   have hb : b.size ≤ reachBytes := by
    have := hw b.data.toList.length (by simp [DataW.weights])
    simpa using this
   exact ⟨[.v (.string b)], Fits.one (.str b hb), rfl, fun j p v hp hv => by
    cases j with
    | zero => simp at hp hv; subst hp hv; exact .v _ rfl
    | succ j => simp at hp⟩
  ·
   rename_i hu
   cases hE
   obtain ⟨b, rfl, rfl⟩ := DataW.trod_bool hu hx
   exact ⟨[.v (.bool b)], Fits.one (.bool b), rfl, fun j p v hp hv => by
    cases j with
    | zero => simp at hp hv; subst hp hv; exact .v _ rfl
    | succ j => simp at hp⟩
  ·
   rename_i e hu
   split at hE
   ·
    rename_i s0 E0 he
    split at hE
    ·
     rename_i hc
     cases hE
     have hc' := Nat.eq_of_beq_eq_true hc
     rcases DataW.trod_slice hu hx with ⟨rfl, rfl⟩ | ⟨a, len, cap, elems, rest, m, _, rfl, rfl, _, hl, hm, hlen, hel, _, _⟩
     ·
      exact ⟨[.sl false (s0 :: E0).length []], Fits.one (.sl (s0 :: E0) [] (Nat.zero_le _) (fun _ h => by cases h) (fun _ h => by cases h)), rfl, fun j p v hp hv => by
       cases j with
       | zero => simp at hp hv; subst hp hv; exact .emp _ _ _ _
       | succ j => simp at hp⟩
     ·
      have one : ∀ i, i < len → ∃ ps : List PV, Fits (s0 :: E0) ps ∧ ∀ (q : Nat) p, ps[q]? = some p → ∃ v, w.cell? ((a.add (i * (s0 :: E0).length)).add q) = some v ∧ PVR (old w) w p v := fun i hi => by
       have h1 := hel i hi
       rw [List.getElem?_eq_getElem (by omega)] at h1
       obtain ⟨cs', h2, h3⟩ := Option.bind_eq_some_iff.1 h1
       obtain ⟨_, h5, h6⟩ := World.cells?_some h2
       rw [hc'] at h5 h6 h2
       obtain ⟨ps, g1, g2, g3⟩ := opens n e (s0 :: E0) he m cs' elems[i] h3 (fun k hk => hw k (by
        simp only [DataW.weights, hu, List.mem_cons, List.mem_append]
        exact .inr (.inl (zGe (List.mem_map.2 ⟨elems[i], List.getElem_mem _, rfl⟩) k hk))))
       refine ⟨ps, g1, fun q p hp => ?_⟩
       have hq : q < (s0 :: E0).length := by rw [← g1.1]; exact (List.getElem?_eq_some_iff.1 hp).1
       have h7 := h6 q hq
       rw [List.getElem?_eq_getElem (by omega)] at h7
       exact ⟨_, h7, g3 q p _ hp (List.getElem?_eq_getElem (by omega))⟩
      obtain ⟨f, hf⟩ := Deep.choose_lt one
      have hxs : ∀ es ∈ (List.range len).map f, Fits (s0 :: E0) es := fun es he => by
       obtain ⟨i, hi, rfl⟩ := List.mem_map.1 he
       exact (hf i (List.mem_range.1 hi)).1
      have hz : 0 < (s0 :: E0).length := by simp
      refine ⟨[.sl false (s0 :: E0).length ((List.range len).map f)], Fits.one (.sl (s0 :: E0) _ (by simp; omega) (fun es he => (hxs es he).1) (fun es he => (hxs es he).2)), rfl, fun j p v hp hv => ?_⟩
      cases j with
      | succ j => simp at hp
      | zero =>
       simp at hp hv
       subst hp hv
       rcases Nat.eq_zero_or_pos len with rfl | hpos
       · exact .emp _ _ _ _
       ·
        have h0 : ∃ v, w.cell? a = some v := by
         obtain ⟨p0, _, e0, _, _⟩ := zHN (hf 0 hpos).1
         obtain ⟨v, hv, _⟩ := (hf 0 hpos).2 0 p0 (by rw [e0]; rfl)
         exact ⟨v, by simpa [Addr.add] using hv⟩
        obtain ⟨v0, hv0⟩ := h0
        obtain ⟨ho, hs⟩ := zP0 hv0
        obtain ⟨k, off, spot⟩ := a
        simp only at hs ho
        subst hs
        have hll : ((List.range len).map f).length = len := by simp
        have key : ∀ (j : Nat) p, ((List.range len).map f).flatten[j]? = some p → ∃ v, w.cell? ⟨k, off + j, none⟩ = some v ∧ PVR (old w) w p v := fun j p hp => by
         obtain ⟨_, es, h1, h2⟩ := flat_at (sz := (s0 :: E0).length) (fun es he => (hxs es he).1) hp
         have hlt : j / (s0 :: E0).length < len := by have := (List.getElem?_eq_some_iff.1 h1).1; simpa using this
         have he : es = f (j / (s0 :: E0).length) := by
          rw [List.getElem?_map, List.getElem?_range hlt] at h1
          simpa using h1.symm
         subst he
         obtain ⟨v, h3, h4⟩ := (hf _ hlt).2 _ p h2
         refine ⟨v, ?_, h4⟩
         rw [Deep.add_add, Nat.mul_comm, Nat.div_add_mod] at h3
         rw [← h3]
         unfold Addr.add
         by_cases hj : j = 0 <;> simp [hj]
        have res := PVR.sl (Z := old w) (w := w) false (s0 :: E0).length ((List.range len).map f) k off cap (fun es he => (hxs es he).1) (by rw [hll]; exact hl) ho (fun j => (w.cell? ⟨k, off + j, none⟩).getD undef) (fun j hj => by
         obtain ⟨v, h1, _⟩ := key j _ (List.getElem?_eq_getElem hj)
         simp [h1]) (fun j p hp => by
         obtain ⟨v, h1, h2⟩ := key j p hp
         simpa [h1] using h2)
        rwa [hll] at res
    · cases hE
   · cases hE
  ·
   rename_i fs hu
   split at hE
   ·
    rename_i E1 hF
    split at hE
    ·
     rename_i hc
     cases hE
     obtain ⟨xs, m, _, rfl, hl, hxl, hxs⟩ := DataW.trod_struct hu hx
     obtain ⟨ps, g1, g2⟩ := zMK (opens n) fs.toList 0 E hF m cs xs (by simpa using hxl) (fun i f hf => hxs i f (by simpa using hf)) (fun k hk => hw k (by simpa [DataW.weights, hu] using hk))
     exact ⟨ps, g1, hl.trans (Nat.eq_of_beq_eq_true hc), fun j p v hp hv => g2 j p v hp (by simpa using hv)⟩
    · cases hE
   · cases hE
  · cases hE
end
end Go.Rl
namespace Go.Rl
open Go.RowKit

theorem wt_each {H : Type} {P : Program} {ts : List TypeId} {ds : List (DataW H)} (h : (DataW.weightsEach P ts ds).all (· ≤ reachBytes) = true) {j : Nat} {t : TypeId} {d : DataW H} (ht : ts[j]? = some t) (hd : ds[j]? = some d) : ∀ n ∈ d.weights P t, n ≤ reachBytes := fun n hn => by
 have := List.all_eq_true.1 h n (DataW.weights_mem_each ht hd n hn)
 simpa using this
theorem okWide_sl {P : Program} {w : World} {r : Reach} {base : Nat} {t e : TypeId} {v : Value} (hu : P.underlying t = some (.slice e)) (h : Value.okWide P w r base t v) : ∃ A n c, v = .slice A n c := by
 obtain ⟨a, len, cap, rfl⟩ := WideShapes.okWide_slice hu h
 exact ⟨_, _, _, rfl⟩
end Go.Rl
namespace Go.Rl
open Go.RowKit

theorem zEb {P : Program} (w : World) (dT sT ty elem : TypeId) (g o dLen dCap : Nat) (a : Addr) (sLen sCap sz : Nat) (cur : Array Value) (t : TypeId) (cs : List Value)
  (hu : P.underlying dT = some (.slice elem)) (hs : (P.info? elem).map (·.size) = some sz) (hg : w.heap[g]? = some (.cells cur t (0, 0))) (hn : cs.length = Nat.min sLen dLen * sz)
  (hsrc : ∀ j v, cs[j]? = some v → w.cell? (a.add j) = some v) (hfit : o + cs.length ≤ cur.size) (h1 : ∀ v ∈ cs, v.oneCell' = true) :
  (Builtin.copy_ #[dT, sT] ty #[.slice (some ⟨g, o, none⟩) dLen dCap, .slice (some a) sLen sCap]).run P w =
   .ok (goInt (Nat.min sLen dLen)) (w.setRow g (over cur.toList o cs).toArray) := by
 have hl := run_loadCells_list (P := P) w a cs hsrc
 have hst := run_storeCells_at P g o t cs 0 cur w hg (by simpa using hfit) h1
 cases hq : P.info? elem with
 | none => simp [hq] at hs
 | some i =>
  have hi : i.size = sz := by simpa [hq] using hs
  simp [Builtin.copy_, run_underlying hu, Builtin.lenOf, Builtin.firstCells, sizeOf, typeInfo, hq, hi, ← hn, hl, hst, over]
theorem zFn {w : World} {k : Nat} {cur : Array Value} {ty : TypeId} (h : w.heap[k]? = some (.cells cur ty (0, 0))) (j : Nat) : w.cell? ⟨k, j, none⟩ = cur[j]? := by simp [World.cell?, h]
end Go.Rl
namespace Go.Rl
open Go.RowKit

section
variable {γ : Gho} {P : Program} {n : Nat} {o : Oper} {M B : List Nat} {s : St}
theorem zMx {ty : TypeId} {x : Operand} (ho : o.op = .box ty x) (id : Nat) {av : AV} {vs : List Value} (hx : s.ev x = av) (hf : av.fits = true) (hv : zDQ av.cells = some vs) (hid1 : id < pinT) (hid : s.r id = none) (hM : id ∈ M) :
  StepD γ P n o M B s { put := .ea id 0 0, setR := [(id, vs.length, [vs.map PV.v])] } := by
 intro s' ag hd w0 I L a w hG hr K Q hK
 have h := hr.ev x
 rw [ag.ev1 ho (by simp [Op.operands]), hx] at h
 have hid' : s'.r id = none := (ag.m id hM).trans hid
 obtain ⟨h1, h2⟩ := h.cells hf
 have hus := zJE hv h1
 obtain ⟨N, hfr⟩ := hr.fresh [] id (cur := ⟨vs⟩) ty (sz := vs.length) (c := 1) (xs := [vs.map PV.v]) (fun es hes => by simp only [List.mem_singleton] at hes; subst hes; simp) (by simp) (by simp) (by decide) (fun _ => []) (fun j p hj => by
  simp only [List.flatten_cons, List.flatten_nil, List.append_nil, List.getElem?_map] at hj
  obtain ⟨v, hv', rfl⟩ := Option.map_eq_some_iff.1 hj
  exact ⟨v, by simpa using hv', .v v (h2 v (by rw [hus]; exact List.mem_of_getElem? hv'))⟩) (by rw [zBd]; simp) (by rw [zBd]; simp) hid1 (.inl hid')
 have he : (execOp a.eval o).run P w = .ok (.value (.pointer (some ⟨w.heap.size, 0, none⟩))) (w.alloc (.cells ⟨vs⟩ ty)) := by
  have : (a.eval x).cells = ⟨vs⟩ := by apply Array.ext'; simpa using hus
  simp [execOp, ho, Instr.box, newVar, newRow, this]
 unfold Oper.wp
 rw [he, Oper.upon_value]
 have hfin := hfr.put hd (av := .ea id 0 0) (v := .pointer (some ⟨w.heap.size, 0, none⟩)) (by
  simp only [AVR]
  exact ⟨vs.length, [vs.map PV.v], w.heap.size, 1, 1, by simp, by simp, by simp [Pl.row], by simp⟩)
 exact hK _ _ _ (by rw [Dl.app, zDk]; exact hfin)
theorem zCD {x : Operand} (ho : o.op = .nilCheck x) {id i off : Nat} (hx : s.ev x = .ea id i off) : StepD γ P n o M B s { put := .ea id i off } :=
 zAw fun s' ag w0 I L a w hrl => by
  have he := (ag.ev1 ho (by simp [Op.operands])).trans hx
  have h := hrl.ev x
  rw [he] at h
  have h' := h
  simp only [AVR] at h
  obtain ⟨_, _, k, _, _, _, _, _, e⟩ := h
  exact ⟨_, by simp only [execOp, ho, e]; rfl, by rw [e] at h'; exact h'⟩
theorem zLs {t e : TypeId} {x : Operand} (ho : o.op = .call { callee := .builtin .len, args := #[x], argTypes := #[t] }) {d : Option Nat} {A : Option Addr} {m c : Nat} (hx : s.ev x = .p d (.v (.slice A m c))) (hu : P.underlying t = some (.slice e)) : StepD γ P n o M B s { put := .p none (.v (.int .i64 m)) } :=
 zAw fun s' ag w0 I L a w hrl => by
  have h := hrl.evv ((ag.ev1 ho (by simp [Op.operands, Call.operands])).trans hx)
  exact ⟨_, by simp [execOp, ho, resolve, invoke, builtin, Builtin.len_, h, run_underlying hu, goInt], zBs L w s' rfl⟩
theorem zPY {t e : TypeId} {x y : Operand} (ho : o.op = .indexAddr t x y) {d d' : Option Nat} {k off m c : Nat} {kk : IntKind} {i : Int} (hx : s.ev x = .p d (.v (.slice (some ⟨k, off, none⟩) m c))) (hy : s.ev y = .p d' (.v (.int kk i))) (hu : P.underlying t = some (.slice e)) (hsz : ∀ w, (sizeOf e).run P w = .ok 1 w) {j : Nat} (hj : i = j) (h1 : j < m) :
  StepD γ P n o M B s { put := .p none (.v (.pointer (some ⟨k, off + j, none⟩))) } :=
 zAw fun s' ag w0 I L a w hrl => by
  subst hj
  have h := hrl.evv ((ag.ev1 ho (by simp [Op.operands])).trans hx)
  have hi := hrl.evv ((ag.ev1 ho (by simp [Op.operands])).trans hy)
  exact ⟨_, by simp only [execOp, ho, h, hi, Sem.run_bind, zE7 hu hsz _ _ _ _ _ (show (0 : Int) ≤ (j : Int) by omega) (show (j : Int) < (m : Int) by omega)]; rfl, by simp only [Int.toNat_natCast, Nat.mul_one]; exact zBs L w s' rfl⟩
theorem zNr {t : TypeId} {x : Operand} (ho : o.op = .load t x) {d : Option Nat} {k off : Nat} {cur : Array Value} {ty : TypeId} {fz : Nat × Nat} {u : Value} (hγ : γ = some (k, .cells cur ty fz)) (hx : s.ev x = .p d (.v (.pointer (some ⟨k, off, none⟩)))) (hc : cur[off]? = some u) (h1 : u.oneCell' = true) (hag : ∀ w, (isAgg t).run P w = .ok false w) :
  StepD γ P n o M B s { put := .p none (.v u) } := by
 intro s' ag hd w0 I L a w hG hr K Q hK
 have h := hr.evv ((ag.ev1 ho (by simp [Op.operands])).trans hx)
 obtain ⟨g1, g2⟩ := hG k _ hγ
 have hlt := (Array.getElem?_eq_some_iff.1 g1).1
 have hw : w.heap[k]? = some (.cells cur ty fz) := (hr.same.block k hlt g2).trans g1
 have hcell : w.cell? ⟨k, off, none⟩ = some u := by simp [World.cell?, hw, hc]
 have he : (execOp a.eval o).run P w = .ok (.value u) w := by
  simp only [execOp, ho, h, Instr.loadAt, Instr.sureAddr, pure_bind, Sem.run_bind]
  rw [zCG hag hcell]
  rfl
 unfold Oper.wp
 rw [he, Oper.upon_value]
 exact hK L u w (by
  have := hr.put hd (av := .p none (.v u)) (v := u) (by simp only [AVR]; exact ⟨.v u h1, fun _ h => by cases h⟩)
  rw [zLa]
  exact this)
end
mutual
theorem AVR.mono_b {L : Pl} {w : World} {s : St} {b' : Nat → Option (List AV)} : ∀ {av : AV} {v : Value}, AVR L w s av v → (∀ q, (s.b q).isSome → (b' q).isSome) → AVR L w ⟨s.t, b', s.r⟩ av v
 | .undef, v, _, _ => by simp [AVR]
 | .p d x, v, hv, _ => by simpa only [AVR] using hv
 | .sl id lo len, v, hv, _ => by simpa only [AVR] using hv
 | .ptr b off, v, hv, h => by simp only [AVR] at hv ⊢; exact ⟨h b hv.1, hv.2⟩
 | .ea id i off, v, hv, _ => by simpa only [AVR] using hv
 | .fea d ps, v, hv, _ => by simpa only [AVR] using hv
 | .nils, v, hv, _ => by simpa only [AVR] using hv
 | .sat A, v, hv, _ => by simpa only [AVR] using hv
 | .clo f bs, v, hv, h => by simp only [AVR] at hv ⊢; exact ⟨fun q hq => h q (hv.1 q hq), hv.2⟩
 | .agg cs, v, hv, h => by
  simp only [AVR] at hv ⊢
  obtain ⟨us, h1, h2⟩ := hv
  exact ⟨us, h1, AVRs.mono_b h2 h⟩
 | .tup cs, v, hv, h => by
  simp only [AVR] at hv ⊢
  obtain ⟨us, h1, h2⟩ := hv
  exact ⟨us, h1, AVRs.mono_b h2 h⟩
theorem AVRs.mono_b {L : Pl} {w : World} {s : St} {b' : Nat → Option (List AV)} : ∀ {qs : List AV} {us : List Value}, AVRs L w s qs us → (∀ q, (s.b q).isSome → (b' q).isSome) → AVRs L w ⟨s.t, b', s.r⟩ qs us
 | [], [], _, _ => by simp [AVRs]
 | [], _ :: _, hv, _ => by simp [AVRs] at hv
 | _ :: _, [], hv, _ => by simp [AVRs] at hv
 | a :: qs, u :: us, hv, h => by
  simp only [AVRs] at hv ⊢
  exact ⟨AVR.mono_b hv.1 h, AVRs.mono_b hv.2 h⟩
end
theorem AVRs.set_at {L : Pl} {w : World} {s : St} : ∀ {qs : List AV} {us : List Value} {j : Nat} {av : AV} {v : Value}, AVRs L w s qs us → us[j]? = some v → AVR L w s av v → AVRs L w s (qs.set j av) us
 | [], us, _, _, _, h, _, _ => by simpa using h
 | _ :: _, [], _, _, _, h, _, _ => by simp [AVRs] at h
 | a :: qs, u :: us, 0, av, v, h, hv, ha => by
  simp only [AVRs, List.set_cons_zero] at h ⊢
  simp at hv
  subst hv
  exact ⟨ha, h.2⟩
 | a :: qs, u :: us, j + 1, av, v, h, hv, ha => by
  simp only [AVRs, List.set_cons_succ] at h ⊢
  exact ⟨h.1, AVRs.set_at h.2 (by simpa using hv) ha⟩
theorem zLj {n : Nat} {s : St} (b j id sz : Nat) {cs : List AV} (hb : s.b b = some cs) (hj : cs[j]? = some .nils) (hid : s.r id = none) (hp : id < pinT) :
  Wk n s ⟨s.t, upd s.b b (some (cs.set j (.sl id 0 0))), upd s.r id (some (sz, []))⟩ := by
 intro w0 I L a w h
 obtain ⟨h1, us, ty, h2, h3, h4⟩ := h.bx b cs hb
 obtain ⟨v, hv, hav⟩ := h3.get j _ hj
 simp only [AVR] at hav
 obtain ⟨A, rfl⟩ := hav
 have hrel := h.adopt (id := id) (sz := sz) (xs := []) (v := .slice A 0 0) (N := []) (.nil sz A) (by simp) (by simp) hid (.inl hp)
 have hsome : ∀ q, (s.b q).isSome → ((upd s.b b (some (cs.set j (.sl id 0 0)))) q).isSome := fun q hq => by
  by_cases e : q = b
  · subst e; simp
  · rw [zBZ _ _ e]; exact hq
 refine ⟨L.row id (.slice A 0 0) [], ⟨hrel.same, hrel.zlt, hrel.llt, hrel.sz, hrel.df, fun i => ?_, fun i cs' hc => ?_, hrel.rw, hrel.pr, fun i hi hx => ?_, hrel.zi⟩⟩
 · exact AVR.mono_b (hrel.tm i) hsome
 ·
  by_cases e : i = b
  ·
   subst e
   simp only [upd_self, Option.some.injEq] at hc
   subst hc
   obtain ⟨g1, us', ty', g2, g3, g4⟩ := hrel.bx i cs hb
   have g2' : w.heap[L.β i]? = some (.cells ⟨us'⟩ ty' (0, 0)) := g2
   rw [h2] at g2'
   cases g2'
   refine ⟨g1, us, ty, h2, ?_, g4⟩
   have g3' := AVRs.mono_b g3 hsome
   exact AVRs.set_at g3' hv (by
    simp only [AVR]
    exact ⟨sz, [], by simp, by simp, A, 0, 0, A, 0, by simp [Pl.row], rfl, Nat.le_refl _, fun _ => ⟨rfl, rfl⟩, fun h => absurd h (Nat.lt_irrefl _)⟩)
  ·
   simp only [zBZ _ _ e] at hc
   obtain ⟨g1, us', ty', g2, g3, g4⟩ := hrel.bx i cs' hc
   exact ⟨g1, us', ty', g2, AVRs.mono_b g3 hsome, g4⟩
 ·
  refine hrel.pb i hi ?_
  by_cases e : i = b
  · subst e; simp [hb]
  · simpa [zBZ _ _ e] using hx
def zCe (γ : Gho) (cv : Value) (bs : List Nat) : Prop :=
 ∃ A c, cv = .slice A bs.length c ∧ (bs = [] ∨ ∃ k off cur ty fz, A = some ⟨k, off, none⟩ ∧ γ = some (k, .cells cur ty fz) ∧ ∀ (i : Nat) (b : Nat), bs[i]? = some b → b < 256 ∧ cur[off + i]? = some (.int .u8 b))
end Go.Rl
namespace Go.Rl
open Go.RowKit
def pvC (bs : List Nat) : List (List PV) := bs.map fun b : Nat => [.v (.int .u8 (b : Int))]
theorem zOK {es : List PV} (h : Fits [.int .u8] es) : ∃ b : Nat, es = [.v (.int .u8 (b : Int))] ∧ b < 256 := by
 obtain ⟨p0, e0, rfl, f0, h⟩ := zHN h
 obtain rfl := zMe h
 obtain ⟨n, rfl, hn⟩ := fit_int f0
 simp only [Lit.wf, Bool.and_eq_true, decide_eq_true_eq] at hn
 have h1 : IntKind.u8.min = 0 := by decide
 have h2 : IntKind.u8.max = 255 := by decide
 obtain ⟨b, rfl⟩ : ∃ b : Nat, n = (b : Int) := ⟨n.toNat, by omega⟩
 exact ⟨b, rfl, by omega⟩
theorem zOJ {ps : List PV} (h : Fits [.sl [.int .u8]] ps) : ∃ bs : List Nat, ps = [.sl false 1 (pvC bs)] ∧ bs.length ≤ maxLen ∧ ∀ b ∈ bs, b < 256 := by
 obtain ⟨x1, e1, rfl, f1, z1⟩ := zHN h
 obtain rfl := zMe z1
 obtain ⟨xs, rfl, hl, hx⟩ := fit_sl f1
 obtain ⟨l, rfl, hB⟩ := zJ9 (f := fun b : Nat => [PV.v (.int .u8 (b : Int))]) (fun es he => zOK he) hx
 exact ⟨l, rfl, by simpa using hl, hB⟩
theorem code_of {Z : Nat → Prop} {w : World} {v : Value} {bs : List Nat} (h : PVR Z w (.sl false 1 (pvC bs)) v) (hb : ∀ b ∈ bs, b < 256) : ∃ γ, zCe γ v bs ∧ Gh γ w [] := by
 generalize hxs : pvC bs = xs at h
 cases h with
 | emp own sz A c =>
  have : bs = [] := by cases bs with
   | nil => rfl
   | cons b l => simp [pvC] at hxs
  subst this
  exact ⟨none, ⟨A, c, rfl, .inl rfl⟩, zHL _ _⟩
 | sl own sz xs k off c hlen hc hz u hcell hp =>
  have hln : xs.length = bs.length := by rw [← hxs]; simp [pvC]
  have hfl : ∀ (i : Nat), xs.flatten[i]? = (bs[i]?).map fun b : Nat => PV.v (.int .u8 (b : Int)) := fun i => by
   rw [← hxs]
   have : ∀ l : List Nat, (pvC l).flatten = l.map fun b : Nat => PV.v (.int .u8 (b : Int)) := fun l => by
    induction l with
    | nil => rfl
    | cons b l ih => simp only [pvC, List.map_cons, List.flatten_cons, List.singleton_append] at ih ⊢; rw [ih]
   rw [this, List.getElem?_map]
  have hcl : ∀ (i : Nat) (b : Nat), bs[i]? = some b → w.cell? ⟨k, off + i, none⟩ = some (.int .u8 (b : Int)) := fun i b hi => by
   have h1 := hfl i
   rw [hi, Option.map_some] at h1
   have h2 := hp i _ h1
   rw [hcell i (List.getElem?_eq_some_iff.1 h1).1]
   generalize u i = y at h2 ⊢
   cases h2
   rfl
  cases bs with
  | nil =>
   exact ⟨none, ⟨some ⟨k, off, none⟩, c, by rw [hln], .inl rfl⟩, zHL _ _⟩
  | cons b0 bl =>
   have h0 := hcl 0 b0 rfl
   unfold World.cell? at h0
   split at h0
   ·
    rename_i cur ty fz hk
    refine ⟨some (k, .cells cur ty fz), ⟨some ⟨k, off, none⟩, c, by rw [hln], .inr ⟨k, off, cur, ty, fz, rfl, rfl, fun i b hi => ⟨hb b (List.mem_of_getElem? hi), ?_⟩⟩⟩, ?_⟩
    ·
     have h1 := hcl i b hi
     unfold World.cell? at h1
     simp only at hk h1
     rw [hk] at h1
     simpa using h1
    ·
     intro k' o he
     cases he
     exact ⟨hk, by simp⟩
   · cases h0
theorem zQV {γ : Gho} {cv : Value} {bs : List Nat} (h : zCe γ cv bs) : cv.oneCell' = true := by
 obtain ⟨A, c, rfl, _⟩ := h
 rfl
theorem pas_v {Z : Nat → Prop} {w : World} {v : Value} (h : v.oneCell' = true) : PAS Z w (.one (.v v)) v [] := .one (.nf rfl (.v v h))
theorem zQB {γ : Gho} {P : Program} {f : FuncId} {args : List PA} {vs : List Value} {w : World} (hc : ConG γ P f args [] [.one (.v (.bool true))]) (hg : Gh γ w []) (ha : PASs (old w) w args vs []) :
  Calls P f ⟨vs⟩ w fun e w' => e = .returned (.bool true) ∧ Below w.heap.size w w' := by
 refine (hc (old w) w vs [] hg ha (fun k hk => ⟨hk, by simp [Leaf.all]⟩) (by simp [Leaf.all]) (by simp [Leaf.all])).mono ?_
 rintro e w' ⟨v, F, rfl, hs, _, hr, _⟩
 have hv : v = .bool true := by
  cases hr with
  | one h =>
   cases h with
   | one h =>
    cases h with
    | nf hn h => cases h; rfl
  | more hl _ => exact absurd rfl hl
 subst hv
 exact ⟨rfl, Same.below hs⟩
end Go.Rl

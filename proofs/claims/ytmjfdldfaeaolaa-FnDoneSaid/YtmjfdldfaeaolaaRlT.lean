/- Promises of functions, proved by walks over their operations; no conditions beyond those that each theorem states. -/
import Derived.Test.YtmjfdldfaeaolaaRlP
import Derived.Laws.BytesString
namespace Go.Rl
open Go.RowKit

/-- The text of bytes. -/
def strOf (ns : List Int) : ByteArray := ns.foldl (fun r n => r.push (UInt8.ofNat n.toNat)) ByteArray.empty
def pvB (ns : List Int) : List (List PV) := ns.map fun n => [.v (.int .u8 n)]
theorem pvB_flat (ns : List Int) : (pvB ns).flatten = ns.map fun n => .v (.int .u8 n) := by
  induction ns with
  | nil => rfl
  | cons n ns ih => simp only [pvB, List.map_cons, List.flatten_cons, List.singleton_append] at ih ⊢; rw [ih]
theorem SrcA.shape {w0 : World} {I : Fr} {n : Nat} {L : Pl} {s : St} {a : Act} {w : World} (_ : Rel w0 I n L s a w) {sz : Nat} {av : AV} {news : List (List PV)} {K : List Nat} (g : SrcA s sz av news K) (hns : ∀ d b, av ≠ .p d (.v (.string b))) {v : Value} (hv : AVR L w s av v) : ∃ A c, v = .slice A news.length c ∧ (A = none → news = []) := by
  cases g with
  | nils => simp only [AVR] at hv; obtain ⟨A, e⟩ := hv; exact ⟨A, 0, e, fun _ => rfl⟩
  | row hr hl hf =>
    rename_i id lo len xs
    simp only [AVR] at hv
    obtain ⟨sz', xs', h2, h3, A, m, c, A', c', e1, rfl, hc, h0, h4⟩ := hv
    have hlen : ((xs.drop lo).take len).length = len := by simp; omega
    refine ⟨A', c', by rw [hlen], fun hA => ?_⟩
    rcases Nat.eq_zero_or_pos len with rfl | hpos
    · rfl
    · obtain ⟨k, _, e⟩ := h4 hpos
      rw [hA] at e; cases e
  | give hr hl =>
    subst hl
    simp only [AVR] at hv
    obtain ⟨sz', xs', h2, h3, A, m, c, A', c', e1, rfl, hc, h0, h4⟩ := hv
    refine ⟨A', c', rfl, fun hA => ?_⟩
    rcases Nat.eq_zero_or_pos news.length with h | hpos
    · exact List.eq_nil_of_length_eq_zero h
    · obtain ⟨k, _, e⟩ := h4 hpos
      rw [hA] at e; cases e
  | fro hf =>
    simp only [AVR] at hv
    have hp := hv.1
    cases hp with
    | emp _ _ A c => exact ⟨A, c, rfl, fun _ => rfl⟩
    | sl _ _ _ k off c => exact ⟨_, c, rfl, fun h => by cases h⟩
  | str _ => exact absurd rfl (hns _ _)
section
variable {γ : Gho} {P : Program} {n : Nat} {o : Oper} {M B : List Nat} {s : St}
theorem st_str {t u e : TypeId} {x : Operand} (ho : o.op = .convert t u x) {av : AV} {news : List (List PV)} {K : List Nat} {ns : List Int} (hx : s.ev x = av) (g : SrcA s 1 av news K) (hns : ∀ d b, av ≠ .p d (.v (.string b))) (he : news = pvB ns) (ht : P.underlying t = some (.slice e)) (hu : P.underlying u = some .string) (h8 : P.underlying e = some (.int .u8)) :
    StepD γ P n o M B s { put := .p none (.v (.string (strOf ns))) } :=
  stepD_pure fun s' ag w0 I L a w hr => by
    have hev := (ag.ev1 ho (by simp [Op.operands])).trans hx
    have g' : SrcA s' 1 av news K := g.at (fun i hi => ag.r1 ho (by simp [Op.operands]) hx hi)
    have hv := hr.ev x
    rw [hev] at hv
    have hk : srcKind P t av := by
      unfold srcKind
      split
      · rename_i d b; exact absurd rfl (hns d b)
      · exact ⟨e, ht⟩
    obtain ⟨us, m, hs, hul, hel, hpv, _, _⟩ := g'.ok hr hk hv
    obtain ⟨A, c, hval, hA⟩ := g'.shape hr hns hv
    have husv : us = ns.map (Value.int .u8) := by
      have hfl : news.flatten = ns.map fun n => PV.v (.int .u8 n) := by rw [he, pvB_flat]
      apply List.ext_getElem?
      intro j
      rw [hfl] at hpv hul
      rw [List.length_map] at hul
      rw [List.getElem?_map]
      cases hj : ns[j]? with
      | none =>
        have : ns.length ≤ j := by simpa using hj
        rw [List.getElem?_eq_none (by omega)]
        rfl
      | some x =>
        obtain ⟨u, h1, h2⟩ := hpv j (.v (.int .u8 x)) (by rw [List.getElem?_map, hj]; rfl)
        generalize m j = N at h2
        cases h2
        exact h1
    have hrun : (Conv.bytesToString (a.eval x)).run P w = .ok (.string (strOf ns)) w := by
      have hc := hs.cells
      rw [hval] at hc ⊢
      cases A with
      | none =>
        have hn := hA rfl
        have hn0 : ns = [] := by
          rw [he] at hn
          simpa [pvB] using hn
        subst hn0
        simp [Conv.bytesToString, strOf]
      | some ad =>
        refine run_bytesToString w ad news.length c ns ?_
        simp only [Builtin.firstCells, Nat.mul_one] at hc
        rw [← husv]
        exact hc
    rw [hval] at hrun
    exact ⟨.string (strOf ns), by cases A <;> simp [execOp, ho, convert, run_underlying ht, run_underlying hu, run_underlying h8, hval, hrun], avr_flat L w s' rfl⟩
/-- A cut with a third bound that nobody uses. -/
theorem st_cut3 {t e : TypeId} {x lo hi mx : Operand} (ho : o.op = .slice t x (some lo) (some hi) (some mx)) {id q len l h m : Nat} {d1 d2 d3 : Option Nat} {k1 k2 k3 : IntKind} {il ih im : Int} (hx : s.ev x = .sl id q len) (hlo : s.ev lo = .p d1 (.v (.int k1 il))) (hhi : s.ev hi = .p d2 (.v (.int k2 ih))) (hmx : s.ev mx = .p d3 (.v (.int k3 im)))
    (e1 : il = l) (e2 : ih = h) (e3 : im = m) (hu : P.underlying t = some (.slice e)) {sz : Nat} (hsz : ∀ w, (sizeOf e).run P w = .ok sz w) (h1 : l ≤ h) (h2 : h ≤ m) (h3 : m ≤ len) : StepD γ P n o M B s { put := .undef } :=
  stepD_pure fun s' ag w0 I L a w hr => by
    subst e1 e2 e3
    have he := (ag.ev1 ho (by simp [Op.operands])).trans hx
    have v1 := hr.evv ((ag.ev1 ho (by simp [Op.operands])).trans hlo)
    have v2 := hr.evv ((ag.ev1 ho (by simp [Op.operands])).trans hhi)
    have v3 := hr.evv ((ag.ev1 ho (by simp [Op.operands])).trans hmx)
    have hv := hr.ev x
    rw [he] at hv
    simp only [AVR] at hv
    obtain ⟨_, _, _, _, _, _, _, A', c', _, e, hc, _⟩ := hv
    have b1 : m ≤ c' := by omega
    refine ⟨.slice (if m = l then A' else A'.map (·.add (l * sz))) (h - l) (m - l), ?_, by simp only [AVR]⟩
    simp [execOp, ho, e, v1, v2, v3, Instr.sliceAt, Instr.slice, run_underlying hu, Instr.sliceBounds, Instr.sliceBound, asIntOf, b1, h2, h1, hsz]

/-- Elements of a row are laid over elements ahead of them. -/
theorem st_append_in {x y : Operand} {t tx e : TypeId} (ho : o.op = .call { callee := .builtin .append, args := #[x, y], argTypes := #[t, tx] }) {id q m sz by' len : Nat} {xs : List (List PV)} {z : Value} (hx : s.ev x = .sl id 0 q) (hy : s.ev y = .sl id m (xs.length - m)) (hr : s.r id = some (sz, xs)) (hf : FlatP xs)
    (ht : P.underlying t = some (.slice e)) (hk : P.underlying tx = some (.slice e)) (hi : (P.info? e).map (fun i => (i.zero, i.size, i.bytes)) = some (some z, sz, by')) (hqm : q ≤ m) (hm : m ≤ xs.length) (hq : 0 < q ∨ q < m) (hlen : len = q + (xs.length - m)) :
    StepD γ P n o M B s { put := .sl id 0 len, setR := [(id, sz, xs.take q ++ xs.drop m ++ xs.drop len)] } := by
  intro s' ag hd w0 I L a w hG hrl K Q hK
  have e1 := (ag.ev1 ho (by simp [Op.operands, Call.operands])).trans hx
  have e2 := (ag.ev1 ho (by simp [Op.operands, Call.operands])).trans hy
  have hr' := (ag.r1 ho (by simp [Op.operands, Call.operands]) hx (id := id) (by simp [AV.rows])).trans hr
  have hvx := hrl.ev x
  rw [e1] at hvx
  have hvy := hrl.ev y
  rw [e2] at hvy
  have gsrc : SrcA s' sz (.sl id m (xs.length - m)) ((xs.drop m).take (xs.length - m)) [] := .row hr' (by omega) hf
  obtain ⟨us, mm, hs, hul, hel, hpv, _, hnil⟩ := gsrc.ok hrl (P := P) (tx := tx) ⟨e, hk⟩ hvy
  have htk : (xs.drop m).take (xs.length - m) = xs.drop m := List.take_of_length_le (by simp)
  rw [htk] at hs hul hel hpv hnil
  have hmm : ∀ j, j < (xs.drop m).flatten.length → mm j = [] := fun j hj => by
    apply List.eq_nil_iff_forall_not_mem.2
    intro k hk
    have := hnil k (List.mem_flatMap.2 ⟨j, List.mem_range.2 hj, hk⟩)
    simp at this
  obtain ⟨i, i1, i2, i3, i4⟩ := info_of hi
  simp only [AVR] at hvx
  obtain ⟨sz', xs', f1, f2, A, n0, c, A', c', f3, f4, f5, f6, f7⟩ := hvx
  rw [hr'] at f1
  cases f1
  obtain ⟨rfl, rfl⟩ := f6 rfl
  obtain ⟨q1, q2, q3⟩ := hrl.rw id sz xs hr'
  have hpos : 0 < xs.length := by omega
  have key : ∃ k cur ty, A' = some ⟨k, 0, none⟩ ∧ n0 = xs.length ∧ w.heap[k]? = some (.cells cur ty (0, 0)) ∧ cur.size = c' * sz ∧ xs.length ≤ c' ∧ (∀ es ∈ xs, es.length = sz) ∧ ∀ (j : Nat) p, xs.flatten[j]? = some p → ∃ u, cur[j]? = some u := by
    rw [f3] at q1
    generalize L.ν id = N at q1
    cases q1 with
    | nil => simp at hpos
    | own _ _ k _ cur ty hlen hk0 hsz0 hc hm u m hcell hpp => exact ⟨k, cur, ty, rfl, rfl, hk0, hsz0, hc.1, hlen, fun j p hj => ⟨u j, hcell j (List.getElem?_eq_some_iff.1 hj).1⟩⟩
  obtain ⟨k, cur, ty, rfl, rfl, hk0, hsz0, hc0, hlens, hcu⟩ := key
  have hxl : xs.flatten.length = xs.length * sz := flat_len hlens
  have hdl : (xs.drop m).flatten.length = (xs.length - m) * sz := by rw [flat_len (fun es h => hlens es (List.mem_of_mem_drop h)), List.length_drop]
  have hcl : cur.toList.length = cur.size := Array.length_toList
  have hqs : q * sz + (xs.length - m) * sz ≤ xs.length * sz := by rw [← Nat.add_mul]; exact Nat.mul_le_mul_right _ (by omega)
  have hcs : xs.length * sz ≤ c' * sz := Nat.mul_le_mul_right _ hc0
  have hsz' : i.size = sz := i3
  have hrun := run_append_room_row (P := P) (w := w) (tx := tx) (ty := o.type) (sLen := q) (sCap := c') ht i1 hk0 (x := a.eval y) (n := (xs.drop m).length) (news := us) (by rw [hsz']; exact hs) (by rw [List.length_drop]; omega) (by rw [hsz', hul, hdl]; omega)
  rw [hsz', List.length_drop] at hrun
  have hfit : q * sz + us.length ≤ cur.toList.length := by rw [hul, hdl]; omega
  have hfl : (xs.take q ++ xs.drop m ++ xs.drop len).flatten = over xs.flatten (q * sz) (xs.drop m).flatten := by
    simp only [over, List.flatten_append]
    rw [flat_take hlens, flat_drop hlens len, hdl, hlen, Nat.add_mul]
  have hn := hrl.poke (xs' := xs.take q ++ xs.drop m ++ xs.drop len) (cur' := ⟨over cur.toList (q * sz) us⟩) hr' hpos hf.nf (by simp; omega) (fun es hes => by
    rcases List.mem_append.1 hes with hes | hes
    · rcases List.mem_append.1 hes with hes | hes
      · exact hlens es (List.mem_of_mem_take hes)
      · exact hlens es (List.mem_of_mem_drop hes)
    · exact hlens es (List.mem_of_mem_drop hes)) f3 hk0 (by have := over_len hfit; rw [hcl] at this; simpa using this) (fun j p hj => by
    rw [hfl, over_get (by omega)] at hj
    have hg : (⟨over cur.toList (q * sz) us⟩ : Array Value)[j]? = (over cur.toList (q * sz) us)[j]? := by simp
    rw [hg, over_get hfit, hul]
    by_cases hc : q * sz ≤ j ∧ j < q * sz + (xs.drop m).flatten.length
    · rw [if_pos hc] at hj ⊢
      obtain ⟨u, hu, hpv'⟩ := hpv _ p hj
      rw [hmm _ (List.getElem?_eq_some_iff.1 hj).1] at hpv'
      exact ⟨u, hu, .inr hpv'⟩
    · rw [if_neg hc] at hj ⊢
      obtain ⟨u, hu⟩ := hcu j p hj
      exact ⟨u, by simpa using hu, .inl ⟨hj, hu⟩⟩)
  have he : (execOp a.eval o).run P w = .ok (.value (.slice (some ⟨k, 0, none⟩) (q + (xs.length - m)) c')) (w.setRow k ⟨over cur.toList (q * sz) us⟩) := by
    simp only [execOp, ho, resolve, invoke, builtin, Sem.run_bind, Sem.run_pure, Result.andThen_ok, List.map_toArray, List.map_cons, List.map_nil, f4, hrun]
  unfold Oper.wp
  rw [he, Oper.upon_value]
  refine hK _ _ _ (hn.put hd (av := .sl id 0 len) ?_)
  simp only [AVR]
  refine ⟨sz, _, upd_self _ _ _, by simp; omega, _, _, _, _, _, f3, by rw [hlen], by omega, fun _ => ⟨rfl, rfl⟩, fun _ => ⟨k, rfl, by simp⟩⟩
/-- The elements of a row from lo on become zeros. -/
theorem st_clear {x : Operand} {t e : TypeId} (ho : o.op = .call { callee := .builtin .clear, args := #[x], argTypes := #[t] }) {id lo len sz by' : Nat} {xs : List (List PV)} {z : Value} (hx : s.ev x = .sl id lo len) (hr : s.r id = some (sz, xs)) (hf : FlatP xs)
    (ht : P.underlying t = some (.slice e)) (hi : (P.info? e).map (fun i => (i.zero, i.size, i.bytes)) = some (some z, sz, by')) (hz : z.cells.toList.all (·.oneCell') = true) (hzs : z.cells.size = sz) (hlo : lo + len = xs.length) :
    StepD γ P n o M B s { put := .undef, setR := [(id, sz, xs.take lo ++ List.replicate len (z.cells.toList.map fun v => .v v))] } := by
  intro s' ag hd w0 I L a w hG hrl K Q hK
  have e1 := (ag.ev1 ho (by simp [Op.operands, Call.operands])).trans hx
  have hr' := (ag.r1 ho (by simp [Op.operands, Call.operands]) hx (id := id) (by simp [AV.rows])).trans hr
  have hvx := hrl.ev x
  rw [e1] at hvx
  simp only [AVR] at hvx
  obtain ⟨sz', xs', f1, f2, A, n0, c, A', c', f3, f4, f5, f6, f7⟩ := hvx
  rw [hr'] at f1
  cases f1
  rcases Nat.eq_zero_or_pos len with rfl | hpos
  · have he : (execOp a.eval o).run P w = .ok (.value (.tuple #[])) w := by
      cases A' <;> simp [execOp, ho, resolve, invoke, builtin, f4, Builtin.clear_, run_underlying ht]
    unfold Oper.wp
    rw [he, Oper.upon_value]
    have hxs : xs.take lo ++ List.replicate 0 (z.cells.toList.map fun v => PV.v v) = xs := by
      simp only [List.replicate_zero, List.append_nil]
      exact List.take_of_length_le (by omega)
    rw [hxs] at hK
    have hst : ({ t := s'.t, b := s'.b, r := upd s'.r id (some (sz, xs)) } : St) = s' := St.ext' (fun _ => rfl) (fun _ => rfl) (fun q => by
      by_cases e : q = id
      · subst e; simp [hr']
      · simp only [upd_ne _ _ e])
    refine hK _ _ _ (Rel.put (s := { t := s'.t, b := s'.b, r := upd s'.r id (some (sz, xs)) }) (by rw [hst]; exact hrl) hd (av := .undef) (by simp only [AVR]))
  · obtain ⟨k, rfl, rfl⟩ := f7 hpos
    obtain ⟨i, i1, i2, i3, i4⟩ := info_of hi
    obtain ⟨q1, q2, q3⟩ := hrl.rw id sz xs hr'
    have hpx : 0 < xs.length := by omega
    have key : ∃ cur ty, n0 = xs.length ∧ w.heap[k]? = some (.cells cur ty (0, 0)) ∧ cur.size = c * sz ∧ xs.length ≤ c ∧ (∀ es ∈ xs, es.length = sz) ∧ ∀ (j : Nat) p, xs.flatten[j]? = some p → ∃ u, cur[j]? = some u := by
      rw [f3] at q1
      generalize L.ν id = N at q1
      cases q1 with
      | nil => simp at hpx
      | own _ _ _ _ cur ty hlen hk0 hsz0 hc hm u m hcell hpp => exact ⟨cur, ty, rfl, hk0, hsz0, hc.1, hlen, fun j p hj => ⟨u j, hcell j (List.getElem?_eq_some_iff.1 hj).1⟩⟩
    obtain ⟨cur, ty, rfl, hk0, hsz0, hc0, hlens, hcu⟩ := key
    have hxl : xs.flatten.length = xs.length * sz := flat_len hlens
    have hcl : cur.toList.length = cur.size := Array.length_toList
    have hcs : xs.length * sz ≤ c * sz := Nat.mul_le_mul_right _ hc0
    have hls : lo * sz + len * sz = xs.length * sz := by rw [← Nat.add_mul, hlo]
    have hzl : (Builtin.zeroCells z.cells len).toList.length = len * sz := by rw [Array.length_toList, size_zeroCells, hzs]
    have hzg : ∀ j, j < len * sz → (Builtin.zeroCells z.cells len).toList[j]? = z.cells.toList[j % sz]? := fun j hj => by
      have hpos' : 0 < sz := Nat.pos_of_ne_zero (fun e => by subst e; simp at hj)
      have hm : j % sz < z.cells.size := by rw [hzs]; exact Nat.mod_lt _ hpos'
      simp only [Builtin.zeroCells, Array.getElem?_toList, Array.getElem?_map, hzs]
      rw [Array.getElem?_range, if_pos hj, Array.getElem?_eq_getElem hm]
      simp only [Option.map_some, Option.some.injEq]
      exact getElem!_pos z.cells (j % sz) hm
    have hone : ∀ v ∈ (Builtin.zeroCells z.cells len).toList, v.oneCell' = true := fun v hv => by
      obtain ⟨j, hj⟩ := List.getElem?_of_mem hv
      have hlt := (List.getElem?_eq_some_iff.1 hj).1
      rw [hzg j (by omega)] at hj
      exact (List.all_eq_true.1 hz) _ (List.mem_of_getElem? hj)
    have hst := run_storeCells_at P k (lo * sz) ty (Builtin.zeroCells z.cells len).toList 0 cur w hk0 (by rw [hzl]; omega) hone
    simp only [Nat.add_zero] at hst
    have hfit : lo * sz + (Builtin.zeroCells z.cells len).toList.length ≤ cur.toList.length := by rw [hzl]; omega
    have hzl2 : (z.cells.toList.map fun v => PV.v v).length = sz := by simpa using hzs
    have hxs' : (xs.take lo ++ List.replicate len (z.cells.toList.map fun v => PV.v v)).flatten = over xs.flatten (lo * sz) (List.replicate len (z.cells.toList.map fun v => PV.v v)).flatten := by
      have hrl : (List.replicate len (z.cells.toList.map fun v => PV.v v)).flatten.length = len * sz := by simp [hzs]
      simp only [over, List.flatten_append]
      rw [flat_take hlens, hrl, List.drop_of_length_le (by omega), List.append_nil]
    have hn := hrl.poke (xs' := xs.take lo ++ List.replicate len (z.cells.toList.map fun v => .v v)) (cur' := ⟨over cur.toList (lo * sz) (Builtin.zeroCells z.cells len).toList⟩) hr' hpx hf.nf (by simp; omega) (fun es hes => by
      rcases List.mem_append.1 hes with hes | hes
      · exact hlens es (List.mem_of_mem_take hes)
      · rw [List.eq_of_mem_replicate hes]; exact hzl2) f3 hk0 (by have := over_len hfit; rw [hcl] at this; simpa using this) (fun j p hj => by
      have hrl2 : (List.replicate len (z.cells.toList.map fun v => PV.v v)).flatten.length = len * sz := by simp [hzs]
      rw [hxs', over_get (by omega), hrl2] at hj
      have hg : (⟨over cur.toList (lo * sz) (Builtin.zeroCells z.cells len).toList⟩ : Array Value)[j]? = (over cur.toList (lo * sz) (Builtin.zeroCells z.cells len).toList)[j]? := by simp
      rw [hg, over_get hfit, hzl]
      by_cases hc : lo * sz ≤ j ∧ j < lo * sz + len * sz
      · rw [if_pos hc] at hj ⊢
        rw [flatten_replicate_get _ _ _ (by rw [hzl2]; omega), hzl2, List.getElem?_map] at hj
        rw [hzg _ (by omega)]
        cases hv : z.cells.toList[(j - lo * sz) % sz]? with
        | none => rw [hv] at hj; cases hj
        | some v =>
          rw [hv] at hj
          cases hj
          exact ⟨v, rfl, .inr (.v v ((List.all_eq_true.1 hz) _ (List.mem_of_getElem? hv)))⟩
      · rw [if_neg hc] at hj ⊢
        obtain ⟨u, hu⟩ := hcu j p hj
        exact ⟨u, by simpa using hu, .inl ⟨hj, hu⟩⟩)
    have he : (execOp a.eval o).run P w = .ok (.value (.tuple #[])) (w.setRow k ⟨over cur.toList (lo * sz) (Builtin.zeroCells z.cells len).toList⟩) := by
      obtain ⟨len', rfl⟩ : ∃ l', len = l' + 1 := ⟨len - 1, by omega⟩
      simp [execOp, ho, resolve, invoke, builtin, f4, Builtin.clear_, run_underlying ht, run_zeroValue i1 i2, hst, over]
    unfold Oper.wp
    rw [he, Oper.upon_value]
    exact hK _ _ _ (hn.put hd (av := .undef) (by simp only [AVR]))
end
theorem nod {X : List Nat} : ∀ i, (none : Option Nat) = some i → i ∉ X := fun _ h => by cases h
def AV.noStr : AV → Bool
  | .p _ (.v _) => false
  | _ => true
theorem sk {P : Program} {tx e : TypeId} {av : AV} (h : P.underlying tx = some (.slice e)) (hn : av.noStr = true) : srcKind P tx av := by
  unfold srcKind
  split
  · cases hn
  · exact ⟨e, h⟩
section
variable {γ : Gho} {P : Program} {n : Nat} {o : Oper} {M B : List Nat} {s : St}
theorem st_idx_row0 {t e : TypeId} {x y : Operand} {sz : Nat} {d' : Option Nat} {kk : IntKind} {i : Int} (k : Nat) (ho : o.op = .indexAddr t x y) {id len rz : Nat} {xs : List (List PV)} (hx : s.ev x = .sl id 0 len) (hr : s.r id = some (rz, xs)) (hy : s.ev y = .p d' (.v (.int kk i))) (hu : P.underlying t = some (.slice e)) (hsz : ∀ w, (sizeOf e).run P w = .ok sz w) (hz : rz = sz) (hk : i = k) (h1 : k < len) :
    StepD γ P n o M B s { put := .ea id k 0 } :=
  st_eq (st_idx_row ho hx hr hy hu hsz hz (by omega) (by omega)) (by subst hk; simp)
theorem st_cut_row0 {t e : TypeId} {x : Operand} {lo hi : Option Operand} (ho : o.op = .slice t x lo hi none) {id len l h sz m : Nat} {xs : List (List PV)} (hx : s.ev x = .sl id 0 len) (hr : s.r id = some (sz, xs)) (hu : P.underlying t = some (.slice e)) (hsz : ∀ w, (sizeOf e).run P w = .ok sz w) (hl : BndA s 0 lo l) (hh : BndA s len hi h) (h1 : l ≤ h) (h2 : h ≤ len) (hm : m = h - l) :
    StepD γ P n o M B s { put := .sl id l m } :=
  st_eq (st_cut_row ho hx hr hu hsz hl hh h1 h2 hm) (by rw [Nat.zero_add])
end
theorem st_strN {γ : Gho} {P : Program} {n : Nat} {o : Oper} {M B : List Nat} {s : St} {t u e : TypeId} {x : Operand} (ns : List Int) (ho : o.op = .convert t u x) {av : AV} {news : List (List PV)} {K : List Nat} (hx : s.ev x = av) (g : SrcA s 1 av news K) (hn : av.noStr = true) (he : news = pvB ns) (ht : P.underlying t = some (.slice e)) (hu : P.underlying u = some .string) (h8 : P.underlying e = some (.int .u8)) :
    StepD γ P n o M B s { put := .p none (.v (.string (strOf ns))) } :=
  st_str ho hx g (fun d b h => by rw [h] at hn; cases hn) he ht hu h8
theorem FlatP.set {xs : List (List PV)} (h : FlatP xs) {i : Nat} {cs : List PV} (hc : cs.all PV.isV = true) : FlatP (xs.set i cs) := fun es he p hp => by
  rcases List.mem_or_eq_of_mem_set he with he | rfl
  · exact h es he p hp
  · exact (List.all_eq_true.1 hc) p hp
theorem outs1 {s : St} {K : List Nat} {id sz : Nat} {xs : List (List PV)} (h1 : s.r id = some (sz, xs)) (h2 : FlatP xs) (h3 : id ∉ K) : OutsOk s K [(id, sz)] [some xs] := ⟨⟨h1, h2, h3⟩, trivial⟩
theorem gv_eq {s : St} {av : AV} {p p' : PV} {K : List Nat} (g : Gv s av p K) (e : p = p') : Gv s av p' K := e ▸ g
/-- A cut beyond a slice's length, inside its row. -/
theorem st_cut_ext {γ : Gho} {P : Program} {n : Nat} {o : Oper} {M B : List Nat} {s : St} {t e : TypeId} {x lo hi : Operand} (ho : o.op = .slice t x (some lo) (some hi) none) {id len l h sz m : Nat} {xs : List (List PV)} {d1 d2 : Option Nat} {k1 k2 : IntKind} {il ih : Int} (hx : s.ev x = .sl id 0 len) (hr : s.r id = some (sz, xs)) (hlo : s.ev lo = .p d1 (.v (.int k1 il))) (hhi : s.ev hi = .p d2 (.v (.int k2 ih)))
    (e1 : il = l) (e2 : ih = h) (hu : P.underlying t = some (.slice e)) (hsz : ∀ w, (sizeOf e).run P w = .ok sz w) (h1 : l ≤ h) (h2 : h ≤ xs.length) (hm : m = h - l) : StepD γ P n o M B s { put := .sl id l m } :=
  stepD_pure fun s' ag w0 I L a w hrl => by
    subst hm e1 e2
    have he := (ag.ev1 ho (by simp [Op.operands])).trans hx
    have hr' := (ag.r1 ho (by simp [Op.operands]) hx (id := id) (by simp [AV.rows])).trans hr
    have v1 := hrl.evv ((ag.ev1 ho (by simp [Op.operands])).trans hlo)
    have v2 := hrl.evv ((ag.ev1 ho (by simp [Op.operands])).trans hhi)
    have hv := hrl.ev x
    rw [he] at hv
    simp only [AVR] at hv
    obtain ⟨sz', xs', f1, f2, A, n0, c, A', c', f3, f4, f5, f6, f7⟩ := hv
    rw [hr'] at f1
    cases f1
    obtain ⟨rfl, rfl⟩ := f6 rfl
    have hp := (hrl.rw id sz xs hr').1
    have key : xs.length ≤ c' ∧ (0 < xs.length → ∃ k, A' = some ⟨k, 0, none⟩) := by
      rw [f3] at hp
      generalize L.ν id = N at hp
      cases hp with
      | nil => simp
      | own _ _ k _ cur ty hlen hk0 hsz0 hc => exact ⟨hc.1, fun _ => ⟨k, rfl⟩⟩
    have b1 : ((some lo).map a.eval = none ∧ l = 0) ∨ ∃ k, (some lo).map a.eval = some (.int k l) := .inr ⟨k1, by simp [v1]⟩
    have b2 : ((some hi).map a.eval = none ∧ h = len) ∨ ∃ k, (some hi).map a.eval = some (.int k h) := .inr ⟨k2, by simp [v2]⟩
    refine ⟨_, by simp only [execOp, ho, f4, Option.map_none, Sem.run_bind, run_cut hu hsz b1 b2 h1 (Nat.le_trans h2 key.1) w]; rfl, ?_⟩
    simp only [AVR]
    refine ⟨sz, xs, hr', by omega, A', n0, c', _, _, f3, rfl, by omega, fun h0 => ?_, fun h0 => ?_⟩
    · subst h0
      refine ⟨?_, by omega⟩
      split
      · rfl
      · cases A' with
        | none => rfl
        | some ad => simp only [Nat.zero_mul, Option.map_some, Option.some.injEq]; unfold Addr.add; split <;> simp_all
    · obtain ⟨k, rfl⟩ := key.2 (by omega)
      refine ⟨k, rfl, ?_⟩
      rw [if_neg (by omega)]
      simp only [Option.map_some, Addr.add0]
      rw [Nat.zero_add]
end Go.Rl
namespace Go.Rl
theorem bnot_t {b : Bool} (h : (!b) = true) : b = false := by cases b <;> simp_all
theorem bnot_f {b : Bool} (h : (!b) = false) : b = true := by cases b <;> simp_all
structure Slot where
  name : ByteArray
  size : Int
  pins : Int
  deriving DecidableEq
def Slot.pv (s : Slot) : List PV := [.v (.string s.name), .v (.int .i64 s.size), .v (.int .i64 s.pins)]
def pvS (l : List Slot) : List (List PV) := l.map Slot.pv
def usedF (l : List Slot) : Int := (l.map (·.size)).sum
def within (n low high : Int) : Bool := decide (low ≤ n) && decide (n ≤ high)
def isUser (s : ByteArray) : Bool := decide ((1 : Int) ≤ (s.size : Int)) && decide ((s.size : Int) ≤ 40)
def isSlot (s : ByteArray) (n : Int) : Bool := isUser s && within n 1 100000
/-- The first place where p holds, or -1. -/
def idxF {α : Type} (p : α → Bool) (l : List α) : Int := match l.findIdx? p with
  | some i => (i : Int)
  | none => -1
theorem idx_step {α : Type} {p : α → Bool} {l : List α} {i : Nat} {e : α} (h : ∀ j e, j < i → l[j]? = some e → p e = false) (he : l[i]? = some e) (hp : p e = false) : ∀ j e, j < i + 1 → l[j]? = some e → p e = false := fun j e' hj hl => by
  by_cases hji : j = i
  · subst hji; rw [he] at hl; cases hl; exact hp
  · exact h j e' (by omega) hl
theorem idx_hit {α : Type} {p : α → Bool} {l : List α} {i : Nat} {e : α} (h : ∀ j e, j < i → l[j]? = some e → p e = false) (he : l[i]? = some e) (hp : p e = true) : idxF p l = (i : Int) := by
  have hlt := (List.getElem?_eq_some_iff.1 he).1
  have : l.findIdx? p = some i := by
    rw [List.findIdx?_eq_some_iff_getElem]
    refine ⟨hlt, ?_, fun j hj => ?_⟩
    · rw [(List.getElem?_eq_some_iff.1 he).2]; exact hp
    · have := h j _ hj (List.getElem?_eq_getElem (by omega))
      simp [this]
  simp [idxF, this]
theorem idx_none {α : Type} {p : α → Bool} {l : List α} {i : Nat} (hi : l.length ≤ i) (h : ∀ j e, j < i → l[j]? = some e → p e = false) : idxF p l = -1 := by
  have : l.findIdx? p = none := by
    rw [List.findIdx?_eq_none_iff]
    intro x hx
    obtain ⟨j, hj⟩ := List.getElem?_of_mem hx
    exact h j x (by have := (List.getElem?_eq_some_iff.1 hj).1; omega) hj
  simp [idxF, this]
theorem idx_any {α : Type} (p : α → Bool) (l : List α) : decide ((0 : Int) ≤ idxF p l) = l.any p := by
  unfold idxF
  cases h : l.findIdx? p with
  | none =>
    have := List.findIdx?_eq_none_iff.1 h
    have h2 : l.any p = false := by simpa using this
    rw [h2]
    rfl
  | some i =>
    obtain ⟨hlt, hp, _⟩ := List.findIdx?_eq_some_iff_getElem.1 h
    have h2 : l.any p = true := List.any_eq_true.2 ⟨_, List.getElem_mem hlt, hp⟩
    rw [h2]
    simp
def zSlot : List PV := [.v (.string ⟨#[]⟩), .v (.int .i64 0), .v (.int .i64 0)]
/-- How much is left of 'left' behind the names. -/
def szF : List Slot → Int → Int
  | [], left => left
  | e :: l, left => if left - (e.name.size : Int) < 0 then -1 else szF l (left - (e.name.size : Int))
def szSlotF (s : Slot) (left : Int) : Int := if left - (s.name.size : Int) < 0 then -1 else left - (s.name.size : Int)
def szSlotsF (l : List Slot) (left : Int) : Int := if left - (l.length : Int) < 0 then -1 else szF l (left - (l.length : Int))
/-- The digits of n ahead of acc. -/
def dig : Nat → Nat → ByteArray → ByteArray
  | 0, _, acc => acc
  | f + 1, n, acc => if n = 0 then acc else dig f (n / 10) (strOf [IntKind.u8.wrap (48 + (n : Int).tmod 10)] ++ acc)
def markT (k : Nat) : ByteArray := if k = 0 then ⟨#[109, 48]⟩ else ⟨#[109]⟩ ++ dig k k ⟨#[]⟩
def markS (k : Nat) (i : Nat) : Slot := ⟨markT (k + 3 * i), ((k + 3 * i : Nat) : Int) + 1, ((k + 3 * i : Nat) : Int) + 1 + 1⟩
def marks (k n : Nat) : List Slot := (List.range n).map (markS k)
def heldF (k : Nat) (l : List Slot) : Int := if l = marks k l.length then ((k + 3 * l.length : Nat) : Int) else -1
def nameIs (n : ByteArray) (s : Slot) : Bool := decide (s.name = n)
def okSlot (l : List Slot) (j : Nat) (e : Slot) : Bool := isSlot e.name e.size && within e.pins 0 100000 && decide (idxF (fun s => decide (s.name = e.name)) l = (j : Int))
def okS (l : List Slot) : Bool := (List.range l.length).all fun j => match l[j]? with
  | some e => okSlot l j e
  | none => true
def okC (m : Int) (l : List Slot) : Bool := within m 0 100000 && decide (l.length ≤ 40) && okS l && (decide (usedF l ≤ m) || !l.any fun s => decide (s.pins = 0))
theorem bfc (b : Bool) : b = false ∨ b = true := by cases b <;> simp
/-- What is left when, from place n down, what is not pinned goes as long as the use is above m. -/
def shedL (m : Int) : Nat → List Slot → List Slot
  | 0, l => l
  | i + 1, l => if m < usedF l then match l[i]? with
    | some e => if e.pins = 0 then shedL m i (l.eraseIdx i) else shedL m i l
    | none => shedL m i l
    else l
/-- The last place below q whose pins are 0, or -1. -/
def lastF (l : List Slot) : Nat → Int
  | 0 => -1
  | q + 1 => match l[q]? with
    | some e => if e.pins = 0 then (q : Int) else lastF l q
    | none => lastF l q
end Go.Rl
namespace Go.Rl
section
variable {α : Type} {f : α → List PV} {z : List PV}
/-! #### copies -/
/-! #### equality -/
theorem glist_ne {a b : List α} {i : Nat} {x y : α} (h1 : a[i]? = some x) (h2 : b[i]? = some y) (h : x ≠ y) : a ≠ b := fun e => by
  subst e; rw [h1] at h2; cases h2; exact h rfl
theorem glist_all {a b : List α} {i : Nat} (hl : a.length = b.length) (hi : a.length ≤ i) (h : ∀ j, j < i → a[j]? = b[j]?) : a = b := by
  apply List.ext_getElem?
  intro j
  rcases Nat.lt_or_ge j i with h1 | h1
  · exact h j h1
  · rw [List.getElem?_eq_none (by omega), List.getElem?_eq_none (by omega)]
theorem glist_step {a b : List α} {i : Nat} {x y : α} (h : ∀ j, j < i → a[j]? = b[j]?) (h1 : a[i]? = some x) (h2 : b[i]? = some y) (e : x = y) : ∀ j, j < i + 1 → a[j]? = b[j]? := fun j hj => by
  by_cases hji : j = i
  · subst hji; rw [h1, h2, e]
  · exact h j (by omega)
/-! #### weights -/
/-- What is left of x behind a weight n; -1: nothing. -/
def szOne (n : Nat) (x : Int) : Int := if x - (n : Int) < 0 then -1 else x - (n : Int)
def szL (w : α → Nat) : List α → Int → Int
  | [], x => x
  | e :: l, x => if x - (w e : Int) < 0 then -1 else szL w l (x - (w e : Int))
def szS (w : α → Nat) (l : List α) (x : Int) : Int := if x - (l.length : Int) < 0 then -1 else szL w l (x - (l.length : Int))
variable {w : α → Nat}
/-! #### marks -/
def marksG (mk : Nat → Nat → α) (k n : Nat) : List α := (List.range n).map (mk k)
variable {mk : Nat → Nat → α} {k : Nat}
def heldG [DecidableEq α] (mk : Nat → Nat → α) (c k : Nat) (l : List α) : Int := if l = marksG mk k l.length then ((k + c * l.length : Nat) : Int) else -1
end
/-! #### numbers -/
def pvI (l : List Int) : List (List PV) := l.map fun n => [.v (.int .i64 n)]
theorem pvI_length (l : List Int) : (pvI l).length = l.length := by simp [pvI]
theorem pvI_get {l : List Int} {i : Nat} {e : Int} (h : l[i]? = some e) : (pvI l)[i]? = some [.v (.int .i64 e)] := by simp [pvI, h]
def pvT (l : List ByteArray) : List (List PV) := l.map fun n => [.v (.string n)]
theorem pvT_get {l : List ByteArray} {i : Nat} {e : ByteArray} (h : l[i]? = some e) : (pvT l)[i]? = some [.v (.string e)] := by simp [pvT, h]
def markN (k i : Nat) : Int := ((k + 1 * i : Nat) : Int)
end Go.Rl
namespace Go.Rl
structure Ent where
  user : ByteArray
  seq : Int
  kind : Int
  value : ByteArray
  deriving DecidableEq
def Ent.pv (e : Ent) : List PV := [.v (.string e.user), .v (.int .i64 e.seq), .v (.int .i64 e.kind), .v (.string e.value)]
def pvE (l : List Ent) : List (List PV) := l.map Ent.pv
/-! #### the order of bytes -/
theorem bl_irr : ∀ x : List UInt8, Op.bytesLess x x = false
  | [] => rfl
  | a :: x => by simp [Op.bytesLess, bl_irr x]
theorem bl_trans : ∀ {x y z : List UInt8}, Op.bytesLess x y = true → Op.bytesLess y z = true → Op.bytesLess x z = true
  | _, [], _, h, _ => by simp [Op.bytesLess] at h
  | _, _ :: _, [], _, h => by simp [Op.bytesLess] at h
  | [], _ :: _, _ :: _, _, _ => rfl
  | a :: x, b :: y, c :: z, h, k => by
    simp only [Op.bytesLess, Bool.or_eq_true, decide_eq_true_eq, Bool.and_eq_true, beq_iff_eq] at h k ⊢
    rcases h with h | ⟨rfl, h⟩
    · rcases k with k | ⟨rfl, k⟩
      · exact .inl (UInt8.lt_trans h k)
      · exact .inl h
    · rcases k with k | ⟨rfl, k⟩
      · exact .inl k
      · exact .inr ⟨rfl, bl_trans h k⟩
theorem bl_tot : ∀ {x y : List UInt8}, Op.bytesLess x y = false → Op.bytesLess y x = false → x = y
  | [], [], _, _ => rfl
  | [], _ :: _, h, _ => by simp [Op.bytesLess] at h
  | _ :: _, [], _, h => by simp [Op.bytesLess] at h
  | a :: x, b :: y, h, k => by
    simp only [Op.bytesLess, Bool.or_eq_false_iff, decide_eq_false_iff_not, Bool.and_eq_false_iff, beq_eq_false_iff_ne] at h k
    have hab : a = b := UInt8.le_antisymm (UInt8.not_lt.1 k.1) (UInt8.not_lt.1 h.1)
    subst hab
    rw [bl_tot (h.2.resolve_left (fun h => h rfl)) (k.2.resolve_left (fun h => h rfl))]
theorem toList_inj {a b : ByteArray} (h : a.toList = b.toList) : a = b := by
  cases a with | mk a => cases b with | mk b =>
  have h1 := beq_toListBytes ⟨a⟩ ⟨b⟩
  rw [h, beq_self_eq_true] at h1
  have h2 : (a == b) = true := h1
  rw [eq_of_beq h2]
theorem ltB_irr (a : ByteArray) : ltB a a = false := bl_irr _
theorem ltB_trans {a b c : ByteArray} (h : ltB a b = true) (k : ltB b c = true) : ltB a c = true := bl_trans h k
theorem ltB_tot {a b : ByteArray} (h : ltB a b = false) (k : ltB b a = false) : a = b := toList_inj (bl_tot h k)
theorem ltB_asymm {a b : ByteArray} (h : ltB a b = true) : ltB b a = false := by
  cases hb : ltB b a with
  | false => rfl
  | true => have := ltB_trans h hb; rw [ltB_irr] at this; cases this
/-! #### keys -/
def cmpS (a b : ByteArray) : Int := if ltB a b = true then -1 else if ltB b a = true then 1 else 0
def cmpI (a b : Int) : Int := if a < b then -1 else if b < a then 1 else 0
def cmpK (a b : Ent) : Int := if cmpS a.user b.user ≠ 0 then cmpS a.user b.user else if cmpI b.seq a.seq ≠ 0 then cmpI b.seq a.seq else cmpI b.kind a.kind
theorem cmpS_gt {a b : ByteArray} (h : ltB a b = false) : (!(ltB a b || decide (a = b))) = ltB b a := by
  rw [h, Bool.false_or]
  cases hb : ltB b a with
  | true => 
    have : a ≠ b := fun e => by subst e; rw [ltB_irr] at hb; cases hb
    simp [this]
  | false => simp [ltB_tot h hb]
def keyOk (u : ByteArray) (s k : Int) : Bool := isUser u && within s 0 1000000000000 && within k 0 1
def entOk (e : Ent) : Bool := keyOk e.user e.seq e.kind && decide ((e.value.size : Int) ≤ 200) && (decide (e.kind = 1) || decide (e.value = ⟨#[]⟩))
/-- All elements, with their places. -/
def allIx {α : Type} (p : Nat → α → Bool) (l : List α) : Bool := (List.range l.length).all fun j => match l[j]? with
  | some e => p j e
  | none => true
theorem allIx_no {α : Type} {p : Nat → α → Bool} {l : List α} {i : Nat} {e : α} (h : l[i]? = some e) (hn : p i e = false) : allIx p l = false := by
  apply Bool.eq_false_iff.2
  intro ha
  have := (List.all_eq_true.1 ha) i (List.mem_range.2 (List.getElem?_eq_some_iff.1 h).1)
  rw [h] at this
  simp only at this
  rw [hn] at this
  cases this
theorem allIx_yes {α : Type} {p : Nat → α → Bool} {l : List α} {i : Nat} (hi : l.length ≤ i) (h : ∀ j e, j < i → l[j]? = some e → p j e = true) : allIx p l = true := by
  refine List.all_eq_true.2 (fun j hj => ?_)
  have hlt := List.mem_range.1 hj
  rw [List.getElem?_eq_getElem hlt]
  exact h j _ (by omega) (List.getElem?_eq_getElem hlt)
theorem allIx_get {α : Type} {p : Nat → α → Bool} {l : List α} {i : Nat} {e : α} (h : allIx p l = true) (he : l[i]? = some e) : p i e = true := by
  have := (List.all_eq_true.1 h) i (List.mem_range.2 (List.getElem?_eq_some_iff.1 he).1)
  rw [he] at this
  exact this
theorem ix_step {α : Type} {p : Nat → α → Bool} {l : List α} {i : Nat} {e : α} (h : ∀ j e, j < i → l[j]? = some e → p j e = true) (he : l[i]? = some e) (ho : p i e = true) : ∀ j e, j < i + 1 → l[j]? = some e → p j e = true := fun j e' hj hl => by
  by_cases hji : j = i
  · subst hji; rw [he] at hl; cases hl; exact ho
  · exact h j e' (by omega) hl
def okEnt (l : List Ent) (j : Nat) (e : Ent) : Bool := entOk e && (decide (j = 0) || match l[j - 1]? with
  | some x => decide (cmpK x e < 0)
  | none => true)
def entsOk (l : List Ent) : Bool := decide (l.length ≤ 400) && allIx (okEnt l) l
def okSnap (s : List Int) (j : Nat) (x : Int) : Bool := within x 0 1000000000000 && (decide (j = 0) || match s[j - 1]? with
  | some y => decide (y < x)
  | none => true)
def snapsOk (s : List Int) : Bool := decide (s.length ≤ 20) && allIx (okSnap s) s
/-! #### what is needed -/
/-- x stands right ahead of e. -/
def Ahead (x e : Ent) : Prop := ltB x.user e.user = true ∨ (x.user = e.user ∧ e.seq ≤ x.seq)
theorem Ahead.trans {x y z : Ent} (h : Ahead x y) (k : Ahead y z) : Ahead x z := by
  rcases h with h | ⟨h, h'⟩
  · rcases k with k | ⟨k, _⟩
    · exact .inl (ltB_trans h k)
    · exact .inl (by rw [← k]; exact h)
  · rcases k with k | ⟨k, k'⟩
    · exact .inl (by rw [h]; exact k)
    · exact .inr ⟨h.trans k, by omega⟩
def asOf (u : ByteArray) (s : Int) (e : Ent) : Bool := decide (e.user = u) && decide (e.seq ≤ s)
def needP (l : List Ent) (ps : List Int) (i : Nat) (e : Ent) : Bool := ps.any fun p => decide (e.seq ≤ p) && (decide (i = 0) || match l[i - 1]? with
  | some x => decide (x.user ≠ e.user) || decide (p < x.seq)
  | none => true)
/-- Of neighbours that are the same, the first: up to place n. -/
def compactN {α : Type} [DecidableEq α] (l : List α) : Nat → List α
  | 0 => []
  | j + 1 => match l[j]? with
    | some y => if j ≠ 0 ∧ l[j - 1]? = some y then compactN l j else compactN l j ++ [y]
    | none => compactN l j
def compactF {α : Type} [DecidableEq α] (l : List α) : List α := compactN l l.length
def usersF (l : List Ent) : List ByteArray := compactF (l.map (·.user))
/-- The needed places. -/
def needF (l : List Ent) (ps : List Int) : Nat → List Int
  | 0 => []
  | i + 1 => needF l ps i ++ match l[i]? with
    | some e => if needP l ps i e = true then [(i : Int)] else []
    | none => []
def pointsF (s : List Int) : List Int := s ++ [1000000000000]
def neededF (l : List Ent) (s : List Int) : List Int := if entsOk l = true ∧ snapsOk s = true then needF l (pointsF s) l.length else []
end Go.Rl
namespace Go.Rl
structure Fil where
  name : ByteArray
  data : ByteArray
  deriving DecidableEq
def Fil.pv (f : Fil) : List PV := [.v (.string f.name), .v (.string f.data)]
def pvF (l : List Fil) : List (List PV) := l.map Fil.pv
theorem pvF_length (l : List Fil) : (pvF l).length = l.length := by simp [pvF]
theorem pvF_get {l : List Fil} {i : Nat} {e : Fil} (h : l[i]? = some e) : (pvF l)[i]? = some e.pv := by simp [pvF, h]
theorem pvF_flat (l : List Fil) : FlatP (pvF l) := fun es he p hp => by
  obtain ⟨s, _, rfl⟩ := List.mem_map.1 he
  simp only [Fil.pv, List.mem_cons, List.not_mem_nil, or_false] at hp
  rcases hp with rfl | rfl <;> rfl
structure DOp where
  kind : Int
  name : ByteArray
  dest : ByteArray
  data : ByteArray
  deriving DecidableEq
def DOp.pv (f : DOp) : List PV := [.v (.int .i64 f.kind), .v (.string f.name), .v (.string f.dest), .v (.string f.data)]
def pvD (l : List DOp) : List (List PV) := l.map DOp.pv
theorem pvD_length (l : List DOp) : (pvD l).length = l.length := by simp [pvD]
theorem pvD_get {l : List DOp} {i : Nat} {e : DOp} (h : l[i]? = some e) : (pvD l)[i]? = some e.pv := by simp [pvD, h]
theorem pvD_flat (l : List DOp) : FlatP (pvD l) := fun es he p hp => by
  obtain ⟨s, _, rfl⟩ := List.mem_map.1 he
  simp only [DOp.pv, List.mem_cons, List.not_mem_nil, or_false] at hp
  rcases hp with rfl | rfl | rfl | rfl <;> rfl
structure Dsk where
  live : List Fil
  safe : List Fil
  ops : List DOp
  deriving DecidableEq
/-! #### right files -/
def isFileB (s : ByteArray) : Bool := decide ((1 : Int) ≤ (s.size : Int)) && decide ((s.size : Int) ≤ 100)
def totF (l : List Fil) : Nat := (l.map fun f => f.data.size).sum
def fitF (l : List Fil) : Bool := decide (l.length ≤ 60) && decide (totF l ≤ 200000)
def okFil (l : List Fil) (j : Nat) (e : Fil) : Bool := isFileB e.name && (decide (j = 0) || match l[j - 1]? with
  | some x => ltB x.name e.name
  | none => true)
def namesOk (l : List Fil) : Bool := allIx (okFil l) l
def filesOk (l : List Fil) : Bool := namesOk l && fitF l
def formF (op : DOp) : Bool := within op.kind 1 3 && isFileB op.name && (isFileB op.dest == decide (op.kind = 2)) && (decide (op.kind = 2) || decide (op.dest = ⟨#[]⟩)) && (decide (op.kind = 1) || decide (op.data = ⟨#[]⟩))
/-! #### what is done -/
def hasF (l : List Fil) (n : ByteArray) : Bool := l.any fun f => decide (f.name = n)
def datF (l : List Fil) (n : ByteArray) : ByteArray := match l.find? (fun f => decide (f.name = n)) with
  | some f => f.data
  | none => ⟨#[]⟩
def putGo (n d : ByteArray) : Bool → List Fil → List Fil
  | done, [] => if done then [] else [⟨n, d⟩]
  | done, f :: l => (if done = false ∧ ltB f.name n = false then [⟨n, d⟩] else []) ++ (if f.name = n then [] else [f]) ++ putGo n d (done || !ltB f.name n) l
def putF (l : List Fil) (n d : ByteArray) : List Fil := putGo n d false l
def cutF (l : List Fil) (n : ByteArray) : List Fil := l.filter fun f => !decide (f.name = n)
def doneF (l : List Fil) (op : DOp) : List Fil × Bool :=
  if op.kind = 1 then (putF l op.name (datF l op.name ++ op.data), true)
  else if hasF l op.name = false then (l, false)
  else if op.kind = 2 then (putF (cutF l op.name) op.dest (datF l op.name), true)
  else (cutF l op.name, true)
def replayF : List Fil → List DOp → Option (List Fil)
  | l, [] => some l
  | l, op :: ops => if formF op = true ∧ (doneF l op).2 = true ∧ filesOk (doneF l op).1 = true then replayF (doneF l op).1 ops else none
def diskOk (d : Dsk) : Bool := filesOk d.live && filesOk d.safe && decide (d.ops.length ≤ 200) && decide (replayF d.safe d.ops = some d.live)
/-! #### the order of names -/
def NLt (a b : Fil) : Prop := ltB a.name b.name = true
theorem pw_adj {α : Type} {R : α → α → Prop} (tr : ∀ a b c, R a b → R b c → R a c) : ∀ {l : List α}, (∀ (j : Nat) x y, l[j]? = some x → l[j + 1]? = some y → R x y) → l.Pairwise R
  | [], _ => .nil
  | [a], _ => List.pairwise_singleton _ _
  | a :: b :: l, h => by
    have ih := pw_adj tr (l := b :: l) (fun j x y h1 h2 => h (j + 1) x y (by simpa using h1) (by simpa using h2))
    refine List.pairwise_cons.2 ⟨fun c hc => ?_, ih⟩
    have hab := h 0 a b rfl rfl
    rcases List.mem_cons.1 hc with rfl | hc
    · exact hab
    · exact tr _ _ _ hab ((List.pairwise_cons.1 ih).1 c hc)
theorem adj_pw {α : Type} {R : α → α → Prop} {l : List α} (h : l.Pairwise R) {j : Nat} {x y : α} (h1 : l[j]? = some x) (h2 : l[j + 1]? = some y) : R x y := by
  obtain ⟨g1, rfl⟩ := List.getElem?_eq_some_iff.1 h1
  obtain ⟨g2, rfl⟩ := List.getElem?_eq_some_iff.1 h2
  exact (List.pairwise_iff_getElem.1 h) j (j + 1) g1 g2 (Nat.lt_succ_self j)
theorem namesOk_iff {l : List Fil} : namesOk l = true ↔ l.Pairwise NLt ∧ ∀ f ∈ l, isFileB f.name = true := by
  constructor
  · intro h
    refine ⟨pw_adj (R := NLt) (fun a b c (h : ltB a.name b.name = true) (k : ltB b.name c.name = true) => (ltB_trans h k : ltB a.name c.name = true)) (fun j x y h1 h2 => ?_), fun f hf => ?_⟩
    · have := allIx_get h h2
      simp only [okFil, Nat.add_sub_cancel, h1, Bool.and_eq_true, Bool.or_eq_true, decide_eq_true_eq, Nat.add_eq_zero_iff, Nat.succ_ne_zero, and_false, false_or] at this
      exact this.2
    · obtain ⟨j, hj⟩ := List.getElem?_of_mem hf
      have := allIx_get h hj
      simp only [okFil, Bool.and_eq_true] at this
      exact this.1
  · rintro ⟨h1, h2⟩
    refine allIx_yes (Nat.le_refl _) (fun j e _ hj => ?_)
    simp only [okFil, h2 e (List.mem_of_getElem? hj), Bool.true_and, Bool.or_eq_true, decide_eq_true_eq]
    cases j with
    | zero => exact .inl rfl
    | succ j =>
      refine .inr ?_
      have hlt : j < l.length := by have := (List.getElem?_eq_some_iff.1 hj).1; omega
      have hx : l[j]? = some l[j] := List.getElem?_eq_getElem hlt
      simp only [Nat.add_sub_cancel, hx]
      exact adj_pw h1 hx hj
def Srt (l : List Fil) : Prop := l.Pairwise NLt
theorem namesOk_srt {l : List Fil} (h : namesOk l = true) : Srt l := (namesOk_iff.1 h).1
/-- A row in order, cut where a name stands or would stand. -/
theorem srt_cut (n : ByteArray) : ∀ {l : List Fil}, Srt l → ∃ A B, l = A ++ B ∧ (∀ f ∈ A, ltB f.name n = true) ∧ ((∃ f C, B = f :: C ∧ f.name = n ∧ ∀ g ∈ C, ltB n g.name = true) ∨ ∀ g ∈ B, ltB n g.name = true)
  | [], _ => ⟨[], [], rfl, by simp, .inr (by simp)⟩
  | f :: l, h => by
    obtain ⟨h1, h2⟩ := List.pairwise_cons.1 h
    cases hf : ltB f.name n with
    | true =>
      obtain ⟨A, B, rfl, hA, hB⟩ := srt_cut n h2
      exact ⟨f :: A, B, rfl, fun g hg => by rcases List.mem_cons.1 hg with rfl | hg; exact hf; exact hA g hg, hB⟩
    | false =>
      refine ⟨[], f :: l, rfl, by simp, ?_⟩
      cases hn : ltB n f.name with
      | false => exact .inl ⟨f, l, rfl, ltB_tot hf hn, fun g hg => by rw [← ltB_tot hf hn]; exact h1 g hg⟩
      | true => exact .inr (fun g hg => by rcases List.mem_cons.1 hg with rfl | hg; exact hn; exact ltB_trans hn (h1 g hg))
theorem lt_ne {a b : ByteArray} (h : ltB a b = true) : a ≠ b := fun e => by subst e; rw [ltB_irr] at h; cases h
theorem gt_ne {a b : ByteArray} (h : ltB a b = true) : b ≠ a := fun e => lt_ne h e.symm
theorem put_lt {n d : ByteArray} : ∀ {A B : List Fil}, (∀ f ∈ A, ltB f.name n = true) → putGo n d false (A ++ B) = A ++ putGo n d false B
  | [], _, _ => rfl
  | f :: A, B, h => by
    have hf := h f (by simp)
    simp only [List.cons_append, putGo, hf, Bool.true_eq_false, and_false, if_false, if_neg (lt_ne hf), Bool.not_true, Bool.or_self, List.nil_append]
    rw [put_lt (fun g hg => h g (List.mem_cons_of_mem _ hg))]
theorem put_gt {n d : ByteArray} : ∀ {C : List Fil}, (∀ f ∈ C, ltB n f.name = true) → putGo n d true C = C
  | [], _ => rfl
  | f :: C, h => by
    have hf := h f (by simp)
    simp only [putGo, Bool.true_eq_false, false_and, if_false, if_neg (gt_ne hf), Bool.true_or, List.nil_append, List.cons_append]
    rw [put_gt (fun g hg => h g (List.mem_cons_of_mem _ hg))]
theorem put_at {n d : ByteArray} {f : Fil} {C : List Fil} (hf : f.name = n) (h : ∀ f ∈ C, ltB n f.name = true) : putGo n d false (f :: C) = ⟨n, d⟩ :: C := by
  simp only [putGo, hf, ltB_irr, Bool.false_eq_true, and_self, if_true, Bool.not_false, Bool.or_true, put_gt h, List.append_nil, List.singleton_append]
theorem put_new {n d : ByteArray} : ∀ {B : List Fil} (_ : ∀ g ∈ B, ltB n g.name = true), putGo n d false B = ⟨n, d⟩ :: B
  | [], _ => rfl
  | f :: C, h => by
    have hf := h f (by simp)
    have h2 : ∀ g ∈ C, ltB n g.name = true := fun g hg => h g (List.mem_cons_of_mem _ hg)
    simp [putGo, ltB_asymm hf, gt_ne hf, put_gt h2]
theorem any_lt {n : ByteArray} {A : List Fil} (h : ∀ f ∈ A, ltB f.name n = true) : A.any (fun f => decide (f.name = n)) = false := by
  rw [List.any_eq_false]
  intro f hf
  simp [lt_ne (h f hf)]
theorem any_gt {n : ByteArray} {A : List Fil} (h : ∀ f ∈ A, ltB n f.name = true) : A.any (fun f => decide (f.name = n)) = false := by
  rw [List.any_eq_false]
  intro f hf
  simp [gt_ne (h f hf)]
theorem filter_lt {n : ByteArray} {A : List Fil} (h : ∀ f ∈ A, ltB f.name n = true) : A.filter (fun f => !decide (f.name = n)) = A := List.filter_eq_self.2 fun f hf => by simp [lt_ne (h f hf)]
theorem filter_gt {n : ByteArray} {A : List Fil} (h : ∀ f ∈ A, ltB n f.name = true) : A.filter (fun f => !decide (f.name = n)) = A := List.filter_eq_self.2 fun f hf => by simp [gt_ne (h f hf)]
theorem find_lt {n : ByteArray} {A B : List Fil} (h : ∀ f ∈ A, ltB f.name n = true) : (A ++ B).find? (fun f => decide (f.name = n)) = B.find? (fun f => decide (f.name = n)) := by
  rw [List.find?_append, List.find?_eq_none.2 (fun f hf => by simp [lt_ne (h f hf)])]
  rfl
/-- Where a name stands, or would stand. -/
def posF (l : List Fil) (n : ByteArray) : Nat := (l.takeWhile fun f => ltB f.name n).length
theorem posF_app {n : ByteArray} {A B : List Fil} (hA : ∀ f ∈ A, ltB f.name n = true) (hB : ∀ f, B.head? = some f → ltB f.name n = false) : posF (A ++ B) n = A.length := by
  unfold posF
  rw [List.takeWhile_append_of_pos (by simpa using hA)]
  cases B with
  | nil => simp
  | cons f B => simp [hB f rfl]
/-- What stands where. -/
inductive At (l : List Fil) (n : ByteArray) : Prop where
  | yes (A : List Fil) (f : Fil) (C : List Fil) (e : l = A ++ f :: C) (hn : f.name = n) (hA : ∀ g ∈ A, ltB g.name n = true) (hC : ∀ g ∈ C, ltB n g.name = true) (hp : posF l n = A.length) (hh : hasF l n = true) (hd : datF l n = f.data)
  | no (A B : List Fil) (e : l = A ++ B) (hA : ∀ g ∈ A, ltB g.name n = true) (hB : ∀ g ∈ B, ltB n g.name = true) (hp : posF l n = A.length) (hh : hasF l n = false) (hd : datF l n = ⟨#[]⟩)
theorem srt_at {l : List Fil} (h : Srt l) (n : ByteArray) : At l n := by
  obtain ⟨A, B, rfl, hA, hB⟩ := srt_cut n h
  rcases hB with ⟨f, C, rfl, hf, hC⟩ | hB
  · refine .yes A f C rfl hf hA hC (posF_app hA (by simp [hf, ltB_irr])) ?_ ?_
    · simp [hasF, List.any_append, hf]
    · unfold datF
      rw [find_lt hA]
      simp [hf]
  · refine .no A B rfl hA hB (posF_app hA (fun f hf => ltB_asymm (hB f (List.mem_of_mem_head? hf)))) ?_ ?_
    · unfold hasF
      rw [List.any_append, any_lt hA, any_gt hB]
      rfl
    · unfold datF
      rw [find_lt hA, List.find?_eq_none.2 (fun f hf => by simp [gt_ne (hB f hf)])]
theorem put_yes {A C : List Fil} {f : Fil} {n d : ByteArray} (hn : f.name = n) (hA : ∀ g ∈ A, ltB g.name n = true) (hC : ∀ g ∈ C, ltB n g.name = true) : putF (A ++ f :: C) n d = A ++ ⟨n, d⟩ :: C := by rw [putF, put_lt hA, put_at hn hC]
theorem put_no {A B : List Fil} {n d : ByteArray} (hA : ∀ g ∈ A, ltB g.name n = true) (hB : ∀ g ∈ B, ltB n g.name = true) : putF (A ++ B) n d = A ++ ⟨n, d⟩ :: B := by rw [putF, put_lt hA, put_new hB]
theorem cut_yes {A C : List Fil} {f : Fil} {n : ByteArray} (hn : f.name = n) (hA : ∀ g ∈ A, ltB g.name n = true) (hC : ∀ g ∈ C, ltB n g.name = true) : cutF (A ++ f :: C) n = A ++ C := by
  simp only [cutF, List.filter_append, List.filter_cons, hn, decide_true, Bool.not_true, Bool.false_eq_true, if_false]
  rw [filter_lt hA, filter_gt hC]
/-! #### what stays right -/
theorem names_app {A B : List Fil} {n d : ByteArray} (h : ∀ f ∈ A ++ B, isFileB f.name = true) (hs : Srt (A ++ B)) (hn : isFileB n = true) (hA : ∀ g ∈ A, ltB g.name n = true) (hB : ∀ g ∈ B, ltB n g.name = true) : namesOk (A ++ ⟨n, d⟩ :: B) = true := by
  obtain ⟨h1, h2, h3⟩ := List.pairwise_append.1 hs
  refine namesOk_iff.2 ⟨List.pairwise_append.2 ⟨h1, List.pairwise_cons.2 ⟨fun g hg => hB g hg, h2⟩, fun a ha b hb => ?_⟩, fun f hf => ?_⟩
  · rcases List.mem_cons.1 hb with rfl | hb
    · exact hA a ha
    · exact h3 a ha b hb
  · rcases List.mem_append.1 hf with hf | hf
    · exact h f (by simp [hf])
    · rcases List.mem_cons.1 hf with rfl | hf
      · exact hn
      · exact h f (by simp [hf])
theorem srt_rm {A C : List Fil} {f : Fil} (h : Srt (A ++ f :: C)) : Srt (A ++ C) := by
  obtain ⟨h1, h2, h3⟩ := List.pairwise_append.1 h
  exact List.pairwise_append.2 ⟨h1, (List.pairwise_cons.1 h2).2, fun a ha b hb => h3 a ha b (List.mem_cons_of_mem _ hb)⟩
theorem names_put {l : List Fil} {n d : ByteArray} (h : namesOk l = true) (hn : isFileB n = true) : namesOk (putF l n d) = true := by
  obtain ⟨hs, hf⟩ := namesOk_iff.1 h
  cases srt_at hs n with
  | yes A f C e hfn hA hC =>
    subst e
    rw [put_yes hfn hA hC]
    exact names_app (fun g hg => hf g (by simp only [List.mem_append, List.mem_cons] at hg ⊢; exact hg.imp id .inr)) (srt_rm hs) hn hA hC
  | no A B e hA hB =>
    subst e
    rw [put_no hA hB]
    exact names_app hf hs hn hA hB
theorem names_cut {l : List Fil} {n : ByteArray} (h : namesOk l = true) : namesOk (cutF l n) = true := by
  obtain ⟨hs, hf⟩ := namesOk_iff.1 h
  exact namesOk_iff.2 ⟨hs.sublist List.filter_sublist, fun f hm => hf f (List.mem_filter.1 hm).1⟩
theorem form_name {op : DOp} (h : formF op = true) : isFileB op.name = true := by simp only [formF, Bool.and_eq_true] at h; exact h.1.1.1.2
theorem form_dest {op : DOp} (h : formF op = true) (hk : op.kind = 2) : isFileB op.dest = true := by simp only [formF, Bool.and_eq_true, beq_iff_eq] at h; rw [h.1.1.2]; simpa using hk
theorem names_done {l : List Fil} {op : DOp} (h : namesOk l = true) (hf : formF op = true) : namesOk (doneF l op).1 = true := by
  unfold doneF
  split
  · exact names_put h (form_name hf)
  · split
    · exact h
    · split
      · rename_i hk; exact names_put (names_cut h) (form_dest hf hk)
      · exact names_cut h
theorem files_done {l : List Fil} {op : DOp} (h : namesOk l = true) (hf : formF op = true) : filesOk (doneF l op).1 = fitF (doneF l op).1 := by simp [filesOk, names_done h hf]
theorem files_names {l : List Fil} (h : filesOk l = true) : namesOk l = true := by simp only [filesOk, Bool.and_eq_true] at h; exact h.1
theorem files_fit {l : List Fil} (h : filesOk l = true) : l.length ≤ 60 ∧ totF l ≤ 200000 := by simp only [filesOk, fitF, Bool.and_eq_true, decide_eq_true_eq] at h; exact h.2
theorem tot_mem {l : List Fil} {f : Fil} (h : f ∈ l) : f.data.size ≤ totF l := by
  unfold totF
  induction l with
  | nil => cases h
  | cons a l ih =>
    simp only [List.map_cons, List.sum_cons]
    rcases List.mem_cons.1 h with rfl | h
    · omega
    · have := ih h; omega
theorem dat_tot (l : List Fil) (n : ByteArray) : (datF l n).size ≤ totF l := by
  unfold datF
  cases h : l.find? (fun f => decide (f.name = n)) with
  | none => exact Nat.zero_le _
  | some f => exact tot_mem (List.mem_of_find?_eq_some h)
theorem pvF_snoc (l : List Fil) (e : Fil) : pvF l ++ [e.pv] = pvF (l ++ [e]) := by simp [pvF]
theorem pvD_snoc (l : List DOp) (e : DOp) : pvD l ++ [e.pv] = pvD (l ++ [e]) := by simp [pvD]
/-! #### for the walks -/
theorem tot_step {l : List Fil} {i : Nat} {e : Fil} (h : l[i]? = some e) : totF (l.take (i + 1)) = totF (l.take i) + e.data.size := by simp [totF, List.take_add_one, h]
theorem tot_app (a b : List Fil) : totF (a ++ b) = totF a + totF b := by simp [totF]
theorem tot_take (l : List Fil) (i : Nat) : totF (l.take i) ≤ totF l := by
  have := tot_app (l.take i) (l.drop i)
  rw [List.take_append_drop] at this
  omega
theorem tot_all {l : List Fil} {i : Nat} (h : l.length ≤ i) : totF (l.take i) = totF l := by rw [List.take_of_length_le h]
theorem files_long {l : List Fil} (h : 60 < l.length) : filesOk l = false := by
  simp only [filesOk, fitF, Bool.and_eq_false_iff, decide_eq_false_iff_not]
  exact .inr (.inl (by omega))
theorem files_no {l : List Fil} {i : Nat} {e : Fil} (he : l[i]? = some e) (h : okFil l i e = false) : filesOk l = false := by
  have := allIx_no he h
  simp only [filesOk, namesOk, this, Bool.false_and]
theorem files_yes {l : List Fil} {i : Nat} (hi : l.length ≤ i) (h : ∀ j e, j < i → l[j]? = some e → okFil l j e = true) : filesOk l = (decide (l.length ≤ 60) && decide (totF l ≤ 200000)) := by
  have := allIx_yes hi h
  simp only [filesOk, namesOk, this, Bool.true_and, fitF]
theorem okFil_bad {l : List Fil} {j : Nat} {e : Fil} (h : isFileB e.name = false) : okFil l j e = false := by simp [okFil, h]
theorem okFil_off {l : List Fil} {j : Nat} {x e : Fil} (hj : 0 < j) (hx : l[j - 1]? = some x) (h : ltB x.name e.name = false) : okFil l j e = false := by
  simp only [okFil, hx, h, Bool.or_false, Bool.and_eq_false_iff, decide_eq_false_iff_not]
  exact .inr (by omega)
theorem okFil_first {l : List Fil} {j : Nat} {e : Fil} (h : isFileB e.name = true) (hj : ¬ 0 < j) : okFil l j e = true := by
  have : j = 0 := by omega
  simp [okFil, h, this]
theorem okFil_next {l : List Fil} {j : Nat} {x e : Fil} (h : isFileB e.name = true) (hx : l[j - 1]? = some x) (hc : ltB x.name e.name = true) : okFil l j e = true := by simp [okFil, h, hx, hc]
theorem leq_f {a b : ByteArray} (h : (ltB a b || decide (a = b)) = true) : ltB b a = false := by
  simp only [Bool.or_eq_true, decide_eq_true_eq] at h
  rcases h with h | rfl
  · exact ltB_asymm h
  · exact ltB_irr a
theorem leq_t {a b : ByteArray} (h : (ltB a b || decide (a = b)) = false) : ltB b a = true := by
  simp only [Bool.or_eq_false_iff, decide_eq_false_iff_not] at h
  cases hb : ltB b a with
  | true => rfl
  | false => exact absurd (ltB_tot h.1 hb) h.2
theorem put_start {l : List Fil} {n d : ByteArray} : [] ++ putGo n d false (l.drop 0) = putF l n d := rfl
theorem drop_at {α : Type} {l : List α} {i : Nat} {e : α} (he : l[i]? = some e) : l.drop i = e :: l.drop (i + 1) := by
  have hlt := (List.getElem?_eq_some_iff.1 he).1
  rw [List.drop_eq_getElem_cons hlt, (List.getElem?_eq_some_iff.1 he).2]
theorem put_step {l out a b m : List Fil} {i : Nat} {e : Fil} {n d : ByteArray} {q q' : Bool} (he : l[i]? = some e) (h : out ++ putGo n d q (l.drop i) = m) (ha : a = if q = false ∧ ltB e.name n = false then [⟨n, d⟩] else []) (hb : b = if e.name = n then [] else [e]) (hq : q' = (q || !ltB e.name n)) : (out ++ a ++ b) ++ putGo n d q' (l.drop (i + 1)) = m := by
  rw [← h, drop_at he, putGo, ← ha, ← hb, ← hq]
  simp only [List.append_assoc]
theorem put_end {l out m : List Fil} {i : Nat} {n d : ByteArray} {q : Bool} (hi : l.length ≤ i) (h : out ++ putGo n d q (l.drop i) = m) : m = out ++ (if q then [] else [⟨n, d⟩]) := by
  rw [← h, List.drop_of_length_le hi]
  cases q <;> rfl
theorem cut_step {l out b m : List Fil} {i : Nat} {e : Fil} {n : ByteArray} (he : l[i]? = some e) (h : out ++ cutF (l.drop i) n = m) (hb : b = if e.name = n then [] else [e]) : (out ++ b) ++ cutF (l.drop (i + 1)) n = m := by
  subst hb
  rw [← h, drop_at he]
  by_cases hn : e.name = n <;> simp [hn, cutF]
theorem cut_end {l out m : List Fil} {i : Nat} {n : ByteArray} (hi : l.length ≤ i) (h : out ++ cutF (l.drop i) n = m) : m = out := by
  rw [← h, List.drop_of_length_le hi]
  simp [cutF]
theorem bytes_eq {a b : ByteArray} : a.toList = b.toList ↔ a = b := ⟨toList_inj, fun e => by rw [e]⟩
theorem empty_app (b : ByteArray) : (⟨#[]⟩ : ByteArray) ++ b = b := by
  cases b with | mk b =>
  apply congrArg ByteArray.mk
  simp
theorem idx_bnd {α : Type} {p : α → Bool} {l : List α} (h : 0 ≤ idxF p l) : (idxF p l).toNat < l.length := by
  unfold idxF at h ⊢
  cases hf : l.findIdx? p with
  | none => rw [hf] at h; simp at h
  | some q => simp only [Int.toNat_natCast]; exact (List.findIdx?_eq_some_iff_getElem.1 hf).1
def nameP (n : ByteArray) (f : Fil) : Bool := decide (f.name = n)
theorem dat_idx {l : List Fil} {n : ByteArray} {e : Fil} (h : 0 ≤ idxF (nameP n) l) (he : l[(idxF (nameP n) l).toNat]? = some e) : datF l n = e.data := by
  unfold idxF at h he
  cases hf : l.findIdx? (nameP n) with
  | none => rw [hf] at h; simp at h
  | some q =>
    rw [hf] at he
    simp only [Int.toNat_natCast] at he
    obtain ⟨h1, h2, h3⟩ := List.findIdx?_eq_some_iff_getElem.1 hf
    have hq : l.find? (nameP n) = some e := by
      rw [List.find?_eq_some_iff_getElem]
      obtain ⟨_, rfl⟩ := List.getElem?_eq_some_iff.1 he
      exact ⟨h2, q, h1, rfl, fun j hj => by simpa using h3 j hj⟩
    unfold datF
    rw [show l.find? (fun f => decide (f.name = n)) = some e from hq]
theorem has_idx (l : List Fil) (n : ByteArray) : decide ((0 : Int) ≤ idxF (nameP n) l) = hasF l n := idx_any _ _
theorem has_yes {l : List Fil} {n : ByteArray} (h : 0 ≤ idxF (nameP n) l) : hasF l n = true := by rw [← has_idx]; simpa using h
theorem has_no {l : List Fil} {n : ByteArray} (h : ¬ 0 ≤ idxF (nameP n) l) : hasF l n = false := by rw [← has_idx]; simpa using h
theorem dat_no {l : List Fil} {n : ByteArray} (h : hasF l n = false) : datF l n = ⟨#[]⟩ := by
  unfold datF
  rw [List.find?_eq_none.2 (fun f hf => by simpa using (List.any_eq_false.1 h) f hf)]
theorem cut_len (l : List Fil) (n : ByteArray) : (cutF l n).length ≤ l.length := List.length_filter_le _ _
theorem putGo_len (n d : ByteArray) : ∀ (l : List Fil) (q : Bool), (putGo n d q l).length ≤ l.length + (if q then 0 else 1)
  | [], q => by cases q <;> simp [putGo]
  | f :: l, q => by
    have h1 := putGo_len n d l true
    have h2 := putGo_len n d l false
    simp only [putGo, List.length_append, List.length_cons]
    cases q <;> cases ltB f.name n <;> by_cases hn : f.name = n <;> simp [hn] at h1 h2 ⊢ <;> omega
theorem put_len (l : List Fil) (n d : ByteArray) : (putF l n d).length ≤ l.length + 1 := putGo_len n d l false
theorem cut_tot (l : List Fil) (n : ByteArray) : totF (cutF l n) + (datF l n).size ≤ totF l := by
  induction l with
  | nil => exact Nat.le_refl _
  | cons f l ih =>
    by_cases hn : f.name = n
    · simp [cutF, totF, datF, hn] at ih ⊢
      have : ((l.filter fun f => !decide (f.name = n)).map fun f => f.data.size).sum ≤ (l.map fun f => f.data.size).sum := by omega
      omega
    · simp [cutF, totF, datF, hn] at ih ⊢
      omega
theorem putGo_tot (n d : ByteArray) : ∀ (l : List Fil) (q : Bool), totF (putGo n d q l) ≤ totF l + (if q then 0 else d.size)
  | [], q => by cases q <;> simp [putGo, totF]
  | f :: l, q => by
    have h1 := putGo_tot n d l true
    have h2 := putGo_tot n d l false
    simp only [putGo]
    cases q <;> cases ltB f.name n <;> by_cases hn : f.name = n <;> simp [hn, totF] at h1 h2 ⊢ <;> omega
theorem put_tot (l : List Fil) (n d : ByteArray) : totF (putF l n d) ≤ totF l + d.size := putGo_tot n d l false
theorem done_len (l : List Fil) (op : DOp) : (doneF l op).1.length ≤ l.length + 1 := by
  unfold doneF
  split
  · exact put_len _ _ _
  · split
    · exact Nat.le_succ _
    · split
      · have h1 := put_len (cutF l op.name) op.dest (datF l op.name); have h2 := cut_len l op.name; show (putF (cutF l op.name) op.dest (datF l op.name)).length ≤ _; omega
      · have h2 := cut_len l op.name; show (cutF l op.name).length ≤ _; omega
theorem size_app2 (a b : ByteArray) : (a ++ b).size = a.size + b.size := by simp
theorem done_tot (l : List Fil) (op : DOp) : totF (doneF l op).1 ≤ 2 * totF l + op.data.size := by
  have h0 := dat_tot l op.name
  unfold doneF
  split
  · have := put_tot l op.name (datF l op.name ++ op.data)
    rw [size_app2] at this
    show totF (putF l op.name (datF l op.name ++ op.data)) ≤ _
    omega
  · split
    · show totF l ≤ _; omega
    · split
      · have h1 := put_tot (cutF l op.name) op.dest (datF l op.name); have h2 := cut_tot l op.name; show totF (putF (cutF l op.name) op.dest (datF l op.name)) ≤ _; omega
      · have h2 := cut_tot l op.name; show totF (cutF l op.name) ≤ _; omega
/-! #### disks -/
theorem disk_no {d : Dsk} {now : List Fil} {i : Nat} {e : DOp} (hr : replayF now (d.ops.drop i) = replayF d.safe d.ops) (he : d.ops[i]? = some e) (h : ¬ (formF e = true ∧ (doneF now e).2 = true ∧ filesOk (doneF now e).1 = true)) : diskOk d = false := by
  rw [drop_at he, replayF, if_neg h] at hr
  simp [diskOk, ← hr]
theorem disk_next {d : Dsk} {now : List Fil} {i : Nat} {e : DOp} (hr : replayF now (d.ops.drop i) = replayF d.safe d.ops) (he : d.ops[i]? = some e) (h : formF e = true ∧ (doneF now e).2 = true ∧ filesOk (doneF now e).1 = true) : replayF (doneF now e).1 (d.ops.drop (i + 1)) = replayF d.safe d.ops := by
  rw [drop_at he, replayF, if_pos h] at hr
  exact hr
theorem disk_end {d : Dsk} {now : List Fil} {i : Nat} (hi : d.ops.length ≤ i) (hr : replayF now (d.ops.drop i) = replayF d.safe d.ops) (h1 : filesOk d.live = true) (h2 : filesOk d.safe = true) (h3 : d.ops.length ≤ 200) : diskOk d = decide (now = d.live) := by
  rw [List.drop_of_length_le hi, replayF] at hr
  simp [diskOk, h1, h2, h3, ← hr]
def dskZ : Dsk := ⟨[], [], []⟩
def actF (d : Dsk) (op : DOp) : Dsk × Int :=
  if formF op = false then (d, 2) else if (doneF d.live op).2 = false then (d, 3) else if d.ops.length = 200 ∨ filesOk (doneF d.live op).1 = false then (d, 4) else (⟨(doneF d.live op).1, d.safe, d.ops ++ [op]⟩, 0)
def doF (d : Dsk) (op : DOp) : Dsk × Int := if diskOk d = true then actF d op else (dskZ, 1)
def syncF (d : Dsk) : Dsk := if diskOk d = true then ⟨d.live, d.live, []⟩ else dskZ
def newB : ByteArray := ⟨#[46, 110, 101, 119]⟩
def rm0 (d : Dsk) (n : ByteArray) : Dsk × Int := if hasF d.live n = true then actF d ⟨3, n, ⟨#[]⟩, ⟨#[]⟩⟩ else (d, 0)
def go1 (s : Dsk × Int) (op : DOp) : Dsk × Int := if s.2 = 0 then actF s.1 op else s
def replF (d : Dsk) (name data : ByteArray) : Dsk × Int :=
  let s := go1 (go1 (rm0 d (name ++ newB)) ⟨1, name ++ newB, ⟨#[]⟩, data⟩) ⟨2, name ++ newB, name, ⟨#[]⟩⟩
  if s.2 = 0 then (s.1, 0) else (d, s.2)
def replaceF (d : Dsk) (name data : ByteArray) : Dsk × Int := if diskOk d = true then replF d name data else (dskZ, 1)
theorem within_1 : within 1 1 3 = true := rfl
theorem within_2 : within 2 1 3 = true := rfl
theorem isFile_nil : isFileB ⟨#[]⟩ = false := rfl
/-- Bounds of a disk. -/
structure DB (m : Nat) (d : Dsk) : Prop where
  l : d.live.length ≤ m
  s : d.safe.length ≤ m
  o : d.ops.length ≤ m
  tl : totF d.live ≤ m
  ts : totF d.safe ≤ m
theorem DB.up {m k : Nat} {d : Dsk} (h : DB m d) (hk : m ≤ k) : DB k d := ⟨Nat.le_trans h.l hk, Nat.le_trans h.s hk, Nat.le_trans h.o hk, Nat.le_trans h.tl hk, Nat.le_trans h.ts hk⟩
theorem act_db {m : Nat} {d : Dsk} {op : DOp} (h : DB m d) (ho : op.data.size ≤ m) (h1 : 1 ≤ m) : DB (3 * m) (actF d op).1 := by
  have h2 : DB (3 * m) d := h.up (by omega)
  unfold actF
  split
  · exact h2
  · split
    · exact h2
    · split
      · exact h2
      · have g1 := done_len d.live op; have g2 := done_tot d.live op; have g3 := h.l; have g4 := h.tl; have g5 := h.o
        exact ⟨by show (doneF d.live op).1.length ≤ _; omega, h2.s, by simp only [List.length_append, List.length_cons, List.length_nil]; omega, by show totF (doneF d.live op).1 ≤ _; omega, h2.ts⟩
theorem ok_db {d : Dsk} (h : diskOk d = true) : DB 200000 d := by
  simp only [diskOk, Bool.and_eq_true, decide_eq_true_eq] at h
  obtain ⟨g1, g2⟩ := files_fit h.1.1.1; obtain ⟨g3, g4⟩ := files_fit h.1.1.2
  exact ⟨by omega, by omega, by omega, g2, g4⟩
theorem act_1 {d : Dsk} {op : DOp} (h : formF op = false) : actF d op = (d, 2) := by rw [actF, if_pos h]
theorem act_2 {d : Dsk} {op : DOp} (h : formF op = true) (h2 : (doneF d.live op).2 = false) : actF d op = (d, 3) := by rw [actF, if_neg (by simp [h]), if_pos h2]
theorem act_3 {d : Dsk} {op : DOp} (h : formF op = true) (h2 : (doneF d.live op).2 = true) (h3 : d.ops.length = 200 ∨ filesOk (doneF d.live op).1 = false) : actF d op = (d, 4) := by rw [actF, if_neg (by simp [h]), if_neg (by simp [h2]), if_pos h3]
theorem act_4 {d : Dsk} {op : DOp} (h : formF op = true) (h2 : (doneF d.live op).2 = true) (h3 : ¬ d.ops.length = 200) (h4 : filesOk (doneF d.live op).1 = true) : actF d op = (⟨(doneF d.live op).1, d.safe, d.ops ++ [op]⟩, 0) := by rw [actF, if_neg (by simp [h]), if_neg (by simp [h2]), if_neg (by simp [h3, h4])]
theorem done_1 {l : List Fil} {op : DOp} (h : op.kind = 1) : doneF l op = (putF l op.name (datF l op.name ++ op.data), true) := by rw [doneF, if_pos h]
theorem done_2 {l : List Fil} {op : DOp} (h : ¬ op.kind = 1) (h2 : hasF l op.name = false) : doneF l op = (l, false) := by rw [doneF, if_neg h, if_pos h2]
theorem done_3 {l : List Fil} {op : DOp} (h : op.kind = 2) (h2 : hasF l op.name = true) : doneF l op = (putF (cutF l op.name) op.dest (datF l op.name), true) := by rw [doneF, if_neg (by omega), if_neg (by simp [h2]), if_pos h]
theorem done_4 {l : List Fil} {op : DOp} (h : ¬ op.kind = 1) (h' : ¬ op.kind = 2) (h2 : hasF l op.name = true) : doneF l op = (cutF l op.name, true) := by rw [doneF, if_neg h, if_neg (by simp [h2]), if_neg h']
def opRm (n : ByteArray) : DOp := ⟨3, n, ⟨#[]⟩, ⟨#[]⟩⟩
def opAp (n d : ByteArray) : DOp := ⟨1, n, ⟨#[]⟩, d⟩
def opMv (n t : ByteArray) : DOp := ⟨2, n, t, ⟨#[]⟩⟩
theorem repl_run {d : Dsk} {name data : ByteArray} {s0 s1 s2 : Dsk × Int} (h : diskOk d = true) (h0 : rm0 d (name ++ newB) = s0) (h1 : go1 s0 (opAp (name ++ newB) data) = s1) (h2 : go1 s1 (opMv (name ++ newB) name) = s2) : replaceF d name data = if s2.2 = 0 then (s2.1, 0) else (d, s2.2) := by
  subst h0 h1 h2
  rw [replaceF, if_pos h]
  rfl
theorem rm0_yes {d : Dsk} {n : ByteArray} (h : hasF d.live n = true) : rm0 d n = actF d (opRm n) := if_pos h
theorem rm0_no {d : Dsk} {n : ByteArray} (h : hasF d.live n = false) : rm0 d n = (d, 0) := if_neg (by simp [h])
theorem go1_yes {s : Dsk × Int} {op : DOp} (h : s.2 = 0) : go1 s op = actF s.1 op := if_pos h
theorem go1_no {s : Dsk × Int} {op : DOp} (h : ¬ s.2 = 0) : go1 s op = s := if_neg h
end Go.Rl
namespace Go.Rl
open Go.RowKit

def rn (a b i : Nat) : Nat := match Nat.beq i a with
  | true => b
  | false => i
theorem rn_self (a b : Nat) : rn a b a = b := by simp [rn]
theorem rn_ne {a b i : Nat} (h : i ≠ a) : rn a b i = i := by
  have : Nat.beq i a = false := by
    cases e : Nat.beq i a with
    | false => rfl
    | true => exact absurd (Nat.eq_of_beq_eq_true e) h
  simp only [rn, this]
mutual
def AV.ren (a b : Nat) : AV → AV
  | .p (some d) x => .p (some (rn a b d)) x
  | .sl id lo len => .sl (rn a b id) lo len
  | .ea id i off => .ea (rn a b id) i off
  | .fea (some d) ps => .fea (some (rn a b d)) ps
  | .agg cs => .agg (AV.rens a b cs)
  | .tup cs => .tup (AV.rens a b cs)
  | x => x
def AV.rens (a b : Nat) : List AV → List AV
  | [] => []
  | x :: xs => AV.ren a b x :: AV.rens a b xs
end
def St.ren (s : St) (a b : Nat) : St := ⟨fun i => (s.t i).ren a b, fun i => (s.b i).map (AV.rens a b), fun i => match Nat.beq i b with
  | true => s.r a
  | false => match Nat.beq i a with
    | true => none
    | false => s.r i⟩
def Pl.ren (L : Pl) (a b : Nat) : Pl := { L with ρ := upd L.ρ b (L.ρ a), ν := upd L.ν b (L.ν a), lab := fun k => match L.lab k with
  | some (.row i) => some (.row (rn a b i))
  | x => x }
section
variable {L : Pl} {w : World} {s : St} {a b : Nat}
theorem ren_r (hab : a ≠ b) (hb : s.r b = none) {i : Nat} {y} (h : s.r i = some y) : (s.ren a b).r (rn a b i) = some y ∧ (L.ren a b).ρ (rn a b i) = L.ρ i ∧ (L.ren a b).ν (rn a b i) = L.ν i := by
  by_cases e : i = a
  · subst e
    rw [rn_self]
    refine ⟨?_, by simp [Pl.ren], by simp [Pl.ren]⟩
    simp only [St.ren, Nat.beq_refl]
    exact h
  · have hib : i ≠ b := fun e => by subst e; rw [hb] at h; cases h
    have h1 : Nat.beq i b = false := by
      cases e : Nat.beq i b with
      | false => rfl
      | true => exact absurd (Nat.eq_of_beq_eq_true e) hib
    have h2 : Nat.beq i a = false := by
      cases e' : Nat.beq i a with
      | false => rfl
      | true => exact absurd (Nat.eq_of_beq_eq_true e') e
    rw [rn_ne e]
    exact ⟨by simp only [St.ren, h1, h2]; exact h, upd_ne _ _ hib, upd_ne _ _ hib⟩
theorem ren_zd (hab : a ≠ b) (hb : s.r b = none) {d : Option Nat} (hd : ∀ id, d = some id → (s.r id).isSome) : ∀ k, L.zd d k → (L.ren a b).zd (d.map (rn a b)) k := fun k hk => by
  rcases hk with hk | ⟨id, rfl, hk⟩
  · exact .inl hk
  · obtain ⟨y, hy⟩ := Option.isSome_iff_exists.1 (hd id rfl)
    exact .inr ⟨rn a b id, rfl, by rw [(ren_r hab hb hy).2.2]; exact hk⟩
mutual
theorem AVR.ren (hab : a ≠ b) (hb : s.r b = none) : ∀ (av : AV) (v : Value), AVR L w s av v → AVR (L.ren a b) w (s.ren a b) (av.ren a b) v
  | .undef, v, _ => by simp [AV.ren, AVR]
  | .p none x, v, hv => by
    simp only [AV.ren, AVR] at hv ⊢
    exact ⟨hv.1.mono (fun _ _ => rfl) (fun k hk => ren_zd (d := none) hab hb (fun _ h => by cases h) k hk), fun _ h => by cases h⟩
  | .p (some d) x, v, hv => by
    simp only [AV.ren, AVR] at hv ⊢
    refine ⟨hv.1.mono (fun _ _ => rfl) (fun k hk => ren_zd (d := some d) hab hb hv.2 k hk), fun id hid => ?_⟩
    cases hid
    obtain ⟨y, hy⟩ := Option.isSome_iff_exists.1 (hv.2 d rfl)
    rw [(ren_r (L := L) hab hb hy).1]; rfl
  | .sl id lo len, v, hv => by
    simp only [AV.ren, AVR] at hv ⊢
    obtain ⟨sz, xs, h1, h2, h3⟩ := hv
    obtain ⟨h4, h5, _⟩ := ren_r (L := L) hab hb h1
    exact ⟨sz, xs, h4, h2, by rw [h5]; exact h3⟩
  | .ptr c off, v, hv => by
    simp only [AV.ren, AVR] at hv ⊢
    exact ⟨by simpa [St.ren] using hv.1, hv.2⟩
  | .ea id i off, v, hv => by
    simp only [AV.ren, AVR] at hv ⊢
    obtain ⟨sz, xs, k, n, c, h1, h2, h3, h4⟩ := hv
    obtain ⟨h5, h6, _⟩ := ren_r (L := L) hab hb h1
    exact ⟨sz, xs, k, n, c, h5, h2, by rw [h6]; exact h3, h4⟩
  | .fea none ps, v, hv => by
    simp only [AV.ren, AVR] at hv ⊢
    obtain ⟨⟨k, off, h1, h2, h3⟩, h4⟩ := hv
    have hz := ren_zd (L := L) (d := none) hab hb h4
    exact ⟨⟨k, off, h1, hz k h2, fun j p hp => by obtain ⟨u, hu, hr⟩ := h3 j p hp; exact ⟨u, hu, hr.mono (fun _ _ => rfl) hz⟩⟩, fun _ h => by cases h⟩
  | .fea (some d) ps, v, hv => by
    simp only [AV.ren, AVR] at hv ⊢
    obtain ⟨⟨k, off, h1, h2, h3⟩, h4⟩ := hv
    have hz := ren_zd (L := L) (d := some d) hab hb h4
    refine ⟨⟨k, off, h1, hz k h2, fun j p hp => by obtain ⟨u, hu, hr⟩ := h3 j p hp; exact ⟨u, hu, hr.mono (fun _ _ => rfl) hz⟩⟩, fun id hid => ?_⟩
    cases hid
    obtain ⟨y, hy⟩ := Option.isSome_iff_exists.1 (h4 d rfl)
    rw [(ren_r (L := L) hab hb hy).1]; rfl
  | .nils, v, hv => by simpa only [AV.ren, AVR] using hv
  | .sat A, v, hv => by simpa only [AV.ren, AVR] using hv
  | .clo f bs, v, hv => by
    simp only [AV.ren, AVR] at hv ⊢
    exact ⟨fun x hx => by simpa [St.ren] using hv.1 x hx, hv.2⟩
  | .agg cs, v, hv => by
    simp only [AV.ren, AVR] at hv ⊢
    obtain ⟨us, h1, h2⟩ := hv
    exact ⟨us, h1, AVRs.ren hab hb cs us h2⟩
  | .tup cs, v, hv => by
    simp only [AV.ren, AVR] at hv ⊢
    obtain ⟨us, h1, h2⟩ := hv
    exact ⟨us, h1, AVRs.ren hab hb cs us h2⟩
theorem AVRs.ren (hab : a ≠ b) (hb : s.r b = none) : ∀ (as : List AV) (us : List Value), AVRs L w s as us → AVRs (L.ren a b) w (s.ren a b) (AV.rens a b as) us
  | [], [], _ => by simp [AV.rens, AVRs]
  | [], _ :: _, hv => by simp [AVRs] at hv
  | _ :: _, [], hv => by simp [AVRs] at hv
  | x :: as, u :: us, hv => by
    simp only [AV.rens, AVRs] at hv ⊢
    exact ⟨AVR.ren hab hb x u hv.1, AVRs.ren hab hb as us hv.2⟩
end
end
/-- Row a is row b from here on. -/
theorem wk_ren {n : Nat} {s : St} (a b : Nat) (hab : Nat.beq a b = false) (hb : s.r b = none) (hp : b < pinT) : Wk n s (s.ren a b) := by
  intro w0 I L ac w h
  have hne : a ≠ b := fun e => by subst e; simp at hab
  have hlab : ∀ k, (∀ i, L.lab k ≠ some (.row i)) → (L.ren a b).lab k = L.lab k := fun k hk => by
    show (match L.lab k with
      | some (.row i) => some (.row (rn a b i))
      | x => x) = L.lab k
    cases e : L.lab k with
    | none => rfl
    | some l => cases l with
      | box i => rfl
      | row i => exact absurd e (hk i)
  refine ⟨L.ren a b, h.same, fun k hk => ⟨(h.zlt k hk).1, ?_⟩, fun k l hk => ?_, h.sz, h.df, fun i => (h.tm i).ren hne hb _ _, fun i cs hc => ?_, fun i sz xs hx => ?_, fun i hi hx => ?_, fun i hi hx => h.pb i hi (by simpa [St.ren] using hx), h.zi⟩
  · rw [hlab k (fun i => by rw [(h.zlt k hk).2]; simp)]
    exact (h.zlt k hk).2
  · simp only [Pl.ren] at hk
    split at hk
    · rename_i i e; exact h.llt k _ e
    · exact h.llt k l hk
  · simp only [St.ren, Option.map_eq_some_iff] at hc
    obtain ⟨cs0, h0, rfl⟩ := hc
    obtain ⟨h1, us, ty, h2, h3, h4⟩ := h.bx i cs0 h0
    exact ⟨(hlab (L.β i) (fun j => by rw [h1]; simp)).trans h1, us, ty, h2, h3.ren hne hb _ _, h4⟩
  · have key : ∃ j, s.r j = some (sz, xs) ∧ rn a b j = i := by
      simp only [St.ren] at hx
      split at hx
      · rename_i e
        have := Nat.eq_of_beq_eq_true e
        subst this
        exact ⟨a, hx, rn_self _ _⟩
      · split at hx
        · cases hx
        · rename_i e1 e2
          refine ⟨i, hx, rn_ne (fun e => ?_)⟩
          subst e
          simp at e2
    obtain ⟨j, hj, rfl⟩ := key
    obtain ⟨h1, h2, h3⟩ := h.rw j sz xs hj
    obtain ⟨_, h4, h5⟩ := ren_r (L := L) hne hb hj
    rw [h4, h5]
    exact ⟨h1, h2, fun k hk => by simp only [Pl.ren, h3 k hk]⟩
  · simp only [St.ren] at hx
    split at hx
    · rename_i e
      have := Nat.eq_of_beq_eq_true e
      omega
    · rename_i e1
      split at hx
      · cases hx
      · have hib : i ≠ b := fun e => by subst e; simp at e1
        simp only [Pl.ren, upd_ne _ _ hib]
        exact h.pr i hi hx
end Go.Rl

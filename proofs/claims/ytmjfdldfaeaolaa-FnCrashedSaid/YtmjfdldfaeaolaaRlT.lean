/- R, part T: texts of bytes, rows changed within. -/
import Derived.Test.YtmjfdldfaeaolaaRlS
import Derived.Laws.BytesString
namespace Go.Rl
open Go.RowKit

/-- The text of bytes. -/
def strOf (ns : List Int) : ByteArray := ns.foldl (fun r n => r.push (UInt8.ofNat n.toNat)) ByteArray.empty
def pvB (ns : List Int) : List (List PV) := ns.map fun n => [.v (.int .u8 n)]
theorem pvB_flat (ns : List Int) : (pvB ns).flatten = ns.map fun n => .v (.int .u8 n) := by
  induction ns with
  | nil => rfl
  | cons n ns ih => simp only [pvB, List.map_cons, List.flatten_cons, List.singleton_append] at ih ⊢; rw [ih]
theorem SrcA.shape {w0 : World} {I : Fr} {n : Nat} {L : Pl} {s : St} {a : Act} {w : World} (_ : Rel w0 I n L s a w) {sz : Nat} {av : AV} {news : List (List PV)} {K : List Nat} (g : SrcA s sz av news K) (hns : ∀ d b, av ≠ .p d (.v (.string b))) {v : Value} (hv : AVR L w s av v) : ∃ A c, v = .slice A news.length c ∧ (A = none → news = []) := by
  cases g with
  | nils => simp only [AVR] at hv; obtain ⟨A, e⟩ := hv; exact ⟨A, 0, e, fun _ => rfl⟩
  | row hr hl hf =>
    rename_i id lo len xs
    simp only [AVR] at hv
    obtain ⟨sz', xs', h2, h3, A, m, c, A', c', e1, rfl, hc, h0, h4⟩ := hv
    have hlen : ((xs.drop lo).take len).length = len := by simp; omega
    refine ⟨A', c', by rw [hlen], fun hA => ?_⟩
    rcases Nat.eq_zero_or_pos len with rfl | hpos
    · rfl
    · obtain ⟨k, _, e⟩ := h4 hpos
      rw [hA] at e; cases e
  | give hr hl =>
    subst hl
    simp only [AVR] at hv
    obtain ⟨sz', xs', h2, h3, A, m, c, A', c', e1, rfl, hc, h0, h4⟩ := hv
    refine ⟨A', c', rfl, fun hA => ?_⟩
    rcases Nat.eq_zero_or_pos news.length with h | hpos
    · exact List.eq_nil_of_length_eq_zero h
    · obtain ⟨k, _, e⟩ := h4 hpos
      rw [hA] at e; cases e
  | fro hf =>
    simp only [AVR] at hv
    have hp := hv.1
    cases hp with
    | emp _ _ A c => exact ⟨A, c, rfl, fun _ => rfl⟩
    | sl _ _ _ k off c => exact ⟨_, c, rfl, fun h => by cases h⟩
  | str _ => exact absurd rfl (hns _ _)
section
variable {γ : Gho} {P : Program} {n : Nat} {o : Oper} {M B : List Nat} {s : St}
theorem st_str {t u e : TypeId} {x : Operand} (ho : o.op = .convert t u x) {av : AV} {news : List (List PV)} {K : List Nat} {ns : List Int} (hx : s.ev x = av) (g : SrcA s 1 av news K) (hns : ∀ d b, av ≠ .p d (.v (.string b))) (he : news = pvB ns) (ht : P.underlying t = some (.slice e)) (hu : P.underlying u = some .string) (h8 : P.underlying e = some (.int .u8)) :
    StepD γ P n o M B s { put := .p none (.v (.string (strOf ns))) } :=
  stepD_pure fun s' ag w0 I L a w hr => by
    have hev := (ag.ev1 ho (by simp [Op.operands])).trans hx
    have g' : SrcA s' 1 av news K := g.at (fun i hi => ag.r1 ho (by simp [Op.operands]) hx hi)
    have hv := hr.ev x
    rw [hev] at hv
    have hk : srcKind P t av := by
      unfold srcKind
      split
      · rename_i d b; exact absurd rfl (hns d b)
      · exact ⟨e, ht⟩
    obtain ⟨us, m, hs, hul, hel, hpv, _, _⟩ := g'.ok hr hk hv
    obtain ⟨A, c, hval, hA⟩ := g'.shape hr hns hv
    have husv : us = ns.map (Value.int .u8) := by
      have hfl : news.flatten = ns.map fun n => PV.v (.int .u8 n) := by rw [he, pvB_flat]
      apply List.ext_getElem?
      intro j
      rw [hfl] at hpv hul
      rw [List.length_map] at hul
      rw [List.getElem?_map]
      cases hj : ns[j]? with
      | none =>
        have : ns.length ≤ j := by simpa using hj
        rw [List.getElem?_eq_none (by omega)]
        rfl
      | some x =>
        obtain ⟨u, h1, h2⟩ := hpv j (.v (.int .u8 x)) (by rw [List.getElem?_map, hj]; rfl)
        generalize m j = N at h2
        cases h2
        exact h1
    have hrun : (Conv.bytesToString (a.eval x)).run P w = .ok (.string (strOf ns)) w := by
      have hc := hs.cells
      rw [hval] at hc ⊢
      cases A with
      | none =>
        have hn := hA rfl
        have hn0 : ns = [] := by
          rw [he] at hn
          simpa [pvB] using hn
        subst hn0
        simp [Conv.bytesToString, strOf]
      | some ad =>
        refine run_bytesToString w ad news.length c ns ?_
        simp only [Builtin.firstCells, Nat.mul_one] at hc
        rw [← husv]
        exact hc
    rw [hval] at hrun
    exact ⟨.string (strOf ns), by cases A <;> simp [execOp, ho, convert, run_underlying ht, run_underlying hu, run_underlying h8, hval, hrun], avr_flat L w s' rfl⟩
/-- A cut with a third bound that nobody uses. -/
theorem st_cut3 {t e : TypeId} {x lo hi mx : Operand} (ho : o.op = .slice t x (some lo) (some hi) (some mx)) {id q len l h m : Nat} {d1 d2 d3 : Option Nat} {k1 k2 k3 : IntKind} {il ih im : Int} (hx : s.ev x = .sl id q len) (hlo : s.ev lo = .p d1 (.v (.int k1 il))) (hhi : s.ev hi = .p d2 (.v (.int k2 ih))) (hmx : s.ev mx = .p d3 (.v (.int k3 im)))
    (e1 : il = l) (e2 : ih = h) (e3 : im = m) (hu : P.underlying t = some (.slice e)) {sz : Nat} (hsz : ∀ w, (sizeOf e).run P w = .ok sz w) (h1 : l ≤ h) (h2 : h ≤ m) (h3 : m ≤ len) : StepD γ P n o M B s { put := .undef } :=
  stepD_pure fun s' ag w0 I L a w hr => by
    subst e1 e2 e3
    have he := (ag.ev1 ho (by simp [Op.operands])).trans hx
    have v1 := hr.evv ((ag.ev1 ho (by simp [Op.operands])).trans hlo)
    have v2 := hr.evv ((ag.ev1 ho (by simp [Op.operands])).trans hhi)
    have v3 := hr.evv ((ag.ev1 ho (by simp [Op.operands])).trans hmx)
    have hv := hr.ev x
    rw [he] at hv
    simp only [AVR] at hv
    obtain ⟨_, _, _, _, _, _, _, A', c', _, e, hc, _⟩ := hv
    have b1 : m ≤ c' := by omega
    refine ⟨.slice (if m = l then A' else A'.map (·.add (l * sz))) (h - l) (m - l), ?_, by simp only [AVR]⟩
    simp [execOp, ho, e, v1, v2, v3, Instr.sliceAt, Instr.slice, run_underlying hu, Instr.sliceBounds, Instr.sliceBound, asIntOf, b1, h2, h1, hsz]

/-- Elements of a row are laid over elements ahead of them. -/
theorem st_append_in {x y : Operand} {t tx e : TypeId} (ho : o.op = .call { callee := .builtin .append, args := #[x, y], argTypes := #[t, tx] }) {id q m sz by' len : Nat} {xs : List (List PV)} {z : Value} (hx : s.ev x = .sl id 0 q) (hy : s.ev y = .sl id m (xs.length - m)) (hr : s.r id = some (sz, xs)) (hf : FlatP xs)
    (ht : P.underlying t = some (.slice e)) (hk : P.underlying tx = some (.slice e)) (hi : (P.info? e).map (fun i => (i.zero, i.size, i.bytes)) = some (some z, sz, by')) (hqm : q ≤ m) (hm : m ≤ xs.length) (hq : 0 < q ∨ q < m) (hlen : len = q + (xs.length - m)) :
    StepD γ P n o M B s { put := .sl id 0 len, setR := [(id, sz, xs.take q ++ xs.drop m ++ xs.drop len)] } := by
  intro s' ag hd w0 I L a w hG hrl K Q hK
  have e1 := (ag.ev1 ho (by simp [Op.operands, Call.operands])).trans hx
  have e2 := (ag.ev1 ho (by simp [Op.operands, Call.operands])).trans hy
  have hr' := (ag.r1 ho (by simp [Op.operands, Call.operands]) hx (id := id) (by simp [AV.rows])).trans hr
  have hvx := hrl.ev x
  rw [e1] at hvx
  have hvy := hrl.ev y
  rw [e2] at hvy
  have gsrc : SrcA s' sz (.sl id m (xs.length - m)) ((xs.drop m).take (xs.length - m)) [] := .row hr' (by omega) hf
  obtain ⟨us, mm, hs, hul, hel, hpv, _, hnil⟩ := gsrc.ok hrl (P := P) (tx := tx) ⟨e, hk⟩ hvy
  have htk : (xs.drop m).take (xs.length - m) = xs.drop m := List.take_of_length_le (by simp)
  rw [htk] at hs hul hel hpv hnil
  have hmm : ∀ j, j < (xs.drop m).flatten.length → mm j = [] := fun j hj => by
    apply List.eq_nil_iff_forall_not_mem.2
    intro k hk
    have := hnil k (List.mem_flatMap.2 ⟨j, List.mem_range.2 hj, hk⟩)
    simp at this
  obtain ⟨i, i1, i2, i3, i4⟩ := info_of hi
  simp only [AVR] at hvx
  obtain ⟨sz', xs', f1, f2, A, n0, c, A', c', f3, f4, f5, f6, f7⟩ := hvx
  rw [hr'] at f1
  cases f1
  obtain ⟨rfl, rfl⟩ := f6 rfl
  obtain ⟨q1, q2, q3⟩ := hrl.rw id sz xs hr'
  have hpos : 0 < xs.length := by omega
  have key : ∃ k cur ty, A' = some ⟨k, 0, none⟩ ∧ n0 = xs.length ∧ w.heap[k]? = some (.cells cur ty (0, 0)) ∧ cur.size = c' * sz ∧ xs.length ≤ c' ∧ (∀ es ∈ xs, es.length = sz) ∧ ∀ (j : Nat) p, xs.flatten[j]? = some p → ∃ u, cur[j]? = some u := by
    rw [f3] at q1
    generalize L.ν id = N at q1
    cases q1 with
    | nil => simp at hpos
    | own _ _ k _ cur ty hlen hk0 hsz0 hc hm u m hcell hpp => exact ⟨k, cur, ty, rfl, rfl, hk0, hsz0, hc.1, hlen, fun j p hj => ⟨u j, hcell j (List.getElem?_eq_some_iff.1 hj).1⟩⟩
  obtain ⟨k, cur, ty, rfl, rfl, hk0, hsz0, hc0, hlens, hcu⟩ := key
  have hxl : xs.flatten.length = xs.length * sz := flat_len hlens
  have hdl : (xs.drop m).flatten.length = (xs.length - m) * sz := by rw [flat_len (fun es h => hlens es (List.mem_of_mem_drop h)), List.length_drop]
  have hcl : cur.toList.length = cur.size := Array.length_toList
  have hqs : q * sz + (xs.length - m) * sz ≤ xs.length * sz := by rw [← Nat.add_mul]; exact Nat.mul_le_mul_right _ (by omega)
  have hcs : xs.length * sz ≤ c' * sz := Nat.mul_le_mul_right _ hc0
  have hsz' : i.size = sz := i3
  have hrun := run_append_room_row (P := P) (w := w) (tx := tx) (ty := o.type) (sLen := q) (sCap := c') ht i1 hk0 (x := a.eval y) (n := (xs.drop m).length) (news := us) (by rw [hsz']; exact hs) (by rw [List.length_drop]; omega) (by rw [hsz', hul, hdl]; omega)
  rw [hsz', List.length_drop] at hrun
  have hfit : q * sz + us.length ≤ cur.toList.length := by rw [hul, hdl]; omega
  have hfl : (xs.take q ++ xs.drop m ++ xs.drop len).flatten = over xs.flatten (q * sz) (xs.drop m).flatten := by
    simp only [over, List.flatten_append]
    rw [flat_take hlens, flat_drop hlens len, hdl, hlen, Nat.add_mul]
  have hn := hrl.poke (xs' := xs.take q ++ xs.drop m ++ xs.drop len) (cur' := ⟨over cur.toList (q * sz) us⟩) hr' hpos hf.nf (by simp; omega) (fun es hes => by
    rcases List.mem_append.1 hes with hes | hes
    · rcases List.mem_append.1 hes with hes | hes
      · exact hlens es (List.mem_of_mem_take hes)
      · exact hlens es (List.mem_of_mem_drop hes)
    · exact hlens es (List.mem_of_mem_drop hes)) f3 hk0 (by have := over_len hfit; rw [hcl] at this; simpa using this) (fun j p hj => by
    rw [hfl, over_get (by omega)] at hj
    have hg : (⟨over cur.toList (q * sz) us⟩ : Array Value)[j]? = (over cur.toList (q * sz) us)[j]? := by simp
    rw [hg, over_get hfit, hul]
    by_cases hc : q * sz ≤ j ∧ j < q * sz + (xs.drop m).flatten.length
    · rw [if_pos hc] at hj ⊢
      obtain ⟨u, hu, hpv'⟩ := hpv _ p hj
      rw [hmm _ (List.getElem?_eq_some_iff.1 hj).1] at hpv'
      exact ⟨u, hu, .inr hpv'⟩
    · rw [if_neg hc] at hj ⊢
      obtain ⟨u, hu⟩ := hcu j p hj
      exact ⟨u, by simpa using hu, .inl ⟨hj, hu⟩⟩)
  have he : (execOp a.eval o).run P w = .ok (.value (.slice (some ⟨k, 0, none⟩) (q + (xs.length - m)) c')) (w.setRow k ⟨over cur.toList (q * sz) us⟩) := by
    simp only [execOp, ho, resolve, invoke, builtin, Sem.run_bind, Sem.run_pure, Result.andThen_ok, List.map_toArray, List.map_cons, List.map_nil, f4, hrun]
  unfold Oper.wp
  rw [he, Oper.upon_value]
  refine hK _ _ _ (hn.put hd (av := .sl id 0 len) ?_)
  simp only [AVR]
  refine ⟨sz, _, upd_self _ _ _, by simp; omega, _, _, _, _, _, f3, by rw [hlen], by omega, fun _ => ⟨rfl, rfl⟩, fun _ => ⟨k, rfl, by simp⟩⟩
/-- The elements of a row from lo on become zeros. -/
theorem st_clear {x : Operand} {t e : TypeId} (ho : o.op = .call { callee := .builtin .clear, args := #[x], argTypes := #[t] }) {id lo len sz by' : Nat} {xs : List (List PV)} {z : Value} (hx : s.ev x = .sl id lo len) (hr : s.r id = some (sz, xs)) (hf : FlatP xs)
    (ht : P.underlying t = some (.slice e)) (hi : (P.info? e).map (fun i => (i.zero, i.size, i.bytes)) = some (some z, sz, by')) (hz : z.cells.toList.all (·.oneCell') = true) (hzs : z.cells.size = sz) (hlo : lo + len = xs.length) :
    StepD γ P n o M B s { put := .undef, setR := [(id, sz, xs.take lo ++ List.replicate len (z.cells.toList.map fun v => .v v))] } := by
  intro s' ag hd w0 I L a w hG hrl K Q hK
  have e1 := (ag.ev1 ho (by simp [Op.operands, Call.operands])).trans hx
  have hr' := (ag.r1 ho (by simp [Op.operands, Call.operands]) hx (id := id) (by simp [AV.rows])).trans hr
  have hvx := hrl.ev x
  rw [e1] at hvx
  simp only [AVR] at hvx
  obtain ⟨sz', xs', f1, f2, A, n0, c, A', c', f3, f4, f5, f6, f7⟩ := hvx
  rw [hr'] at f1
  cases f1
  rcases Nat.eq_zero_or_pos len with rfl | hpos
  · have he : (execOp a.eval o).run P w = .ok (.value (.tuple #[])) w := by
      cases A' <;> simp [execOp, ho, resolve, invoke, builtin, f4, Builtin.clear_, run_underlying ht]
    unfold Oper.wp
    rw [he, Oper.upon_value]
    have hxs : xs.take lo ++ List.replicate 0 (z.cells.toList.map fun v => PV.v v) = xs := by
      simp only [List.replicate_zero, List.append_nil]
      exact List.take_of_length_le (by omega)
    rw [hxs] at hK
    have hst : ({ t := s'.t, b := s'.b, r := upd s'.r id (some (sz, xs)) } : St) = s' := St.ext' (fun _ => rfl) (fun _ => rfl) (fun q => by
      by_cases e : q = id
      · subst e; simp [hr']
      · simp only [upd_ne _ _ e])
    refine hK _ _ _ (Rel.put (s := { t := s'.t, b := s'.b, r := upd s'.r id (some (sz, xs)) }) (by rw [hst]; exact hrl) hd (av := .undef) (by simp only [AVR]))
  · obtain ⟨k, rfl, rfl⟩ := f7 hpos
    obtain ⟨i, i1, i2, i3, i4⟩ := info_of hi
    obtain ⟨q1, q2, q3⟩ := hrl.rw id sz xs hr'
    have hpx : 0 < xs.length := by omega
    have key : ∃ cur ty, n0 = xs.length ∧ w.heap[k]? = some (.cells cur ty (0, 0)) ∧ cur.size = c * sz ∧ xs.length ≤ c ∧ (∀ es ∈ xs, es.length = sz) ∧ ∀ (j : Nat) p, xs.flatten[j]? = some p → ∃ u, cur[j]? = some u := by
      rw [f3] at q1
      generalize L.ν id = N at q1
      cases q1 with
      | nil => simp at hpx
      | own _ _ _ _ cur ty hlen hk0 hsz0 hc hm u m hcell hpp => exact ⟨cur, ty, rfl, hk0, hsz0, hc.1, hlen, fun j p hj => ⟨u j, hcell j (List.getElem?_eq_some_iff.1 hj).1⟩⟩
    obtain ⟨cur, ty, rfl, hk0, hsz0, hc0, hlens, hcu⟩ := key
    have hxl : xs.flatten.length = xs.length * sz := flat_len hlens
    have hcl : cur.toList.length = cur.size := Array.length_toList
    have hcs : xs.length * sz ≤ c * sz := Nat.mul_le_mul_right _ hc0
    have hls : lo * sz + len * sz = xs.length * sz := by rw [← Nat.add_mul, hlo]
    have hzl : (Builtin.zeroCells z.cells len).toList.length = len * sz := by rw [Array.length_toList, size_zeroCells, hzs]
    have hzg : ∀ j, j < len * sz → (Builtin.zeroCells z.cells len).toList[j]? = z.cells.toList[j % sz]? := fun j hj => by
      have hpos' : 0 < sz := Nat.pos_of_ne_zero (fun e => by subst e; simp at hj)
      have hm : j % sz < z.cells.size := by rw [hzs]; exact Nat.mod_lt _ hpos'
      simp only [Builtin.zeroCells, Array.getElem?_toList, Array.getElem?_map, hzs]
      rw [Array.getElem?_range, if_pos hj, Array.getElem?_eq_getElem hm]
      simp only [Option.map_some, Option.some.injEq]
      exact getElem!_pos z.cells (j % sz) hm
    have hone : ∀ v ∈ (Builtin.zeroCells z.cells len).toList, v.oneCell' = true := fun v hv => by
      obtain ⟨j, hj⟩ := List.getElem?_of_mem hv
      have hlt := (List.getElem?_eq_some_iff.1 hj).1
      rw [hzg j (by omega)] at hj
      exact (List.all_eq_true.1 hz) _ (List.mem_of_getElem? hj)
    have hst := run_storeCells_at P k (lo * sz) ty (Builtin.zeroCells z.cells len).toList 0 cur w hk0 (by rw [hzl]; omega) hone
    simp only [Nat.add_zero] at hst
    have hfit : lo * sz + (Builtin.zeroCells z.cells len).toList.length ≤ cur.toList.length := by rw [hzl]; omega
    have hzl2 : (z.cells.toList.map fun v => PV.v v).length = sz := by simpa using hzs
    have hxs' : (xs.take lo ++ List.replicate len (z.cells.toList.map fun v => PV.v v)).flatten = over xs.flatten (lo * sz) (List.replicate len (z.cells.toList.map fun v => PV.v v)).flatten := by
      have hrl : (List.replicate len (z.cells.toList.map fun v => PV.v v)).flatten.length = len * sz := by simp [hzs]
      simp only [over, List.flatten_append]
      rw [flat_take hlens, hrl, List.drop_of_length_le (by omega), List.append_nil]
    have hn := hrl.poke (xs' := xs.take lo ++ List.replicate len (z.cells.toList.map fun v => .v v)) (cur' := ⟨over cur.toList (lo * sz) (Builtin.zeroCells z.cells len).toList⟩) hr' hpx hf.nf (by simp; omega) (fun es hes => by
      rcases List.mem_append.1 hes with hes | hes
      · exact hlens es (List.mem_of_mem_take hes)
      · rw [List.eq_of_mem_replicate hes]; exact hzl2) f3 hk0 (by have := over_len hfit; rw [hcl] at this; simpa using this) (fun j p hj => by
      have hrl2 : (List.replicate len (z.cells.toList.map fun v => PV.v v)).flatten.length = len * sz := by simp [hzs]
      rw [hxs', over_get (by omega), hrl2] at hj
      have hg : (⟨over cur.toList (lo * sz) (Builtin.zeroCells z.cells len).toList⟩ : Array Value)[j]? = (over cur.toList (lo * sz) (Builtin.zeroCells z.cells len).toList)[j]? := by simp
      rw [hg, over_get hfit, hzl]
      by_cases hc : lo * sz ≤ j ∧ j < lo * sz + len * sz
      · rw [if_pos hc] at hj ⊢
        rw [flatten_replicate_get _ _ _ (by rw [hzl2]; omega), hzl2, List.getElem?_map] at hj
        rw [hzg _ (by omega)]
        cases hv : z.cells.toList[(j - lo * sz) % sz]? with
        | none => rw [hv] at hj; cases hj
        | some v =>
          rw [hv] at hj
          cases hj
          exact ⟨v, rfl, .inr (.v v ((List.all_eq_true.1 hz) _ (List.mem_of_getElem? hv)))⟩
      · rw [if_neg hc] at hj ⊢
        obtain ⟨u, hu⟩ := hcu j p hj
        exact ⟨u, by simpa using hu, .inl ⟨hj, hu⟩⟩)
    have he : (execOp a.eval o).run P w = .ok (.value (.tuple #[])) (w.setRow k ⟨over cur.toList (lo * sz) (Builtin.zeroCells z.cells len).toList⟩) := by
      obtain ⟨len', rfl⟩ : ∃ l', len = l' + 1 := ⟨len - 1, by omega⟩
      simp [execOp, ho, resolve, invoke, builtin, f4, Builtin.clear_, run_underlying ht, run_zeroValue i1 i2, hst, over]
    unfold Oper.wp
    rw [he, Oper.upon_value]
    exact hK _ _ _ (hn.put hd (av := .undef) (by simp only [AVR]))
end
theorem nod {X : List Nat} : ∀ i, (none : Option Nat) = some i → i ∉ X := fun _ h => by cases h
def AV.noStr : AV → Bool
  | .p _ (.v _) => false
  | _ => true
theorem sk {P : Program} {tx e : TypeId} {av : AV} (h : P.underlying tx = some (.slice e)) (hn : av.noStr = true) : srcKind P tx av := by
  unfold srcKind
  split
  · cases hn
  · exact ⟨e, h⟩
section
variable {γ : Gho} {P : Program} {n : Nat} {o : Oper} {M B : List Nat} {s : St}
theorem st_idx_row0 {t e : TypeId} {x y : Operand} {sz : Nat} {d' : Option Nat} {kk : IntKind} {i : Int} (k : Nat) (ho : o.op = .indexAddr t x y) {id len rz : Nat} {xs : List (List PV)} (hx : s.ev x = .sl id 0 len) (hr : s.r id = some (rz, xs)) (hy : s.ev y = .p d' (.v (.int kk i))) (hu : P.underlying t = some (.slice e)) (hsz : ∀ w, (sizeOf e).run P w = .ok sz w) (hz : rz = sz) (hk : i = k) (h1 : k < len) :
    StepD γ P n o M B s { put := .ea id k 0 } :=
  st_eq (st_idx_row ho hx hr hy hu hsz hz (by omega) (by omega)) (by subst hk; simp)
theorem st_cut_row0 {t e : TypeId} {x : Operand} {lo hi : Option Operand} (ho : o.op = .slice t x lo hi none) {id len l h sz m : Nat} {xs : List (List PV)} (hx : s.ev x = .sl id 0 len) (hr : s.r id = some (sz, xs)) (hu : P.underlying t = some (.slice e)) (hsz : ∀ w, (sizeOf e).run P w = .ok sz w) (hl : BndA s 0 lo l) (hh : BndA s len hi h) (h1 : l ≤ h) (h2 : h ≤ len) (hm : m = h - l) :
    StepD γ P n o M B s { put := .sl id l m } :=
  st_eq (st_cut_row ho hx hr hu hsz hl hh h1 h2 hm) (by rw [Nat.zero_add])
end
theorem st_strN {γ : Gho} {P : Program} {n : Nat} {o : Oper} {M B : List Nat} {s : St} {t u e : TypeId} {x : Operand} (ns : List Int) (ho : o.op = .convert t u x) {av : AV} {news : List (List PV)} {K : List Nat} (hx : s.ev x = av) (g : SrcA s 1 av news K) (hn : av.noStr = true) (he : news = pvB ns) (ht : P.underlying t = some (.slice e)) (hu : P.underlying u = some .string) (h8 : P.underlying e = some (.int .u8)) :
    StepD γ P n o M B s { put := .p none (.v (.string (strOf ns))) } :=
  st_str ho hx g (fun d b h => by rw [h] at hn; cases hn) he ht hu h8
theorem FlatP.set {xs : List (List PV)} (h : FlatP xs) {i : Nat} {cs : List PV} (hc : cs.all PV.isV = true) : FlatP (xs.set i cs) := fun es he p hp => by
  rcases List.mem_or_eq_of_mem_set he with he | rfl
  · exact h es he p hp
  · exact (List.all_eq_true.1 hc) p hp
theorem set_self {α : Type} {xs : List α} {i : Nat} {a b : α} (h : xs[i]? = some a) : (xs.set i b)[i]? = some b := List.getElem?_set_self (List.getElem?_eq_some_iff.1 h).1
theorem outs1 {s : St} {K : List Nat} {id sz : Nat} {xs : List (List PV)} (h1 : s.r id = some (sz, xs)) (h2 : FlatP xs) (h3 : id ∉ K) : OutsOk s K [(id, sz)] [some xs] := ⟨⟨h1, h2, h3⟩, trivial⟩
theorem gv_eq {s : St} {av : AV} {p p' : PV} {K : List Nat} (g : Gv s av p K) (e : p = p') : Gv s av p' K := e ▸ g
/-- A cut beyond a slice's length, inside its row. -/
theorem st_cut_ext {γ : Gho} {P : Program} {n : Nat} {o : Oper} {M B : List Nat} {s : St} {t e : TypeId} {x lo hi : Operand} (ho : o.op = .slice t x (some lo) (some hi) none) {id len l h sz m : Nat} {xs : List (List PV)} {d1 d2 : Option Nat} {k1 k2 : IntKind} {il ih : Int} (hx : s.ev x = .sl id 0 len) (hr : s.r id = some (sz, xs)) (hlo : s.ev lo = .p d1 (.v (.int k1 il))) (hhi : s.ev hi = .p d2 (.v (.int k2 ih)))
    (e1 : il = l) (e2 : ih = h) (hu : P.underlying t = some (.slice e)) (hsz : ∀ w, (sizeOf e).run P w = .ok sz w) (h1 : l ≤ h) (h2 : h ≤ xs.length) (hm : m = h - l) : StepD γ P n o M B s { put := .sl id l m } :=
  stepD_pure fun s' ag w0 I L a w hrl => by
    subst hm e1 e2
    have he := (ag.ev1 ho (by simp [Op.operands])).trans hx
    have hr' := (ag.r1 ho (by simp [Op.operands]) hx (id := id) (by simp [AV.rows])).trans hr
    have v1 := hrl.evv ((ag.ev1 ho (by simp [Op.operands])).trans hlo)
    have v2 := hrl.evv ((ag.ev1 ho (by simp [Op.operands])).trans hhi)
    have hv := hrl.ev x
    rw [he] at hv
    simp only [AVR] at hv
    obtain ⟨sz', xs', f1, f2, A, n0, c, A', c', f3, f4, f5, f6, f7⟩ := hv
    rw [hr'] at f1
    cases f1
    obtain ⟨rfl, rfl⟩ := f6 rfl
    have hp := (hrl.rw id sz xs hr').1
    have key : xs.length ≤ c' ∧ (0 < xs.length → ∃ k, A' = some ⟨k, 0, none⟩) := by
      rw [f3] at hp
      generalize L.ν id = N at hp
      cases hp with
      | nil => simp
      | own _ _ k _ cur ty hlen hk0 hsz0 hc => exact ⟨hc.1, fun _ => ⟨k, rfl⟩⟩
    have b1 : ((some lo).map a.eval = none ∧ l = 0) ∨ ∃ k, (some lo).map a.eval = some (.int k l) := .inr ⟨k1, by simp [v1]⟩
    have b2 : ((some hi).map a.eval = none ∧ h = len) ∨ ∃ k, (some hi).map a.eval = some (.int k h) := .inr ⟨k2, by simp [v2]⟩
    refine ⟨_, by simp only [execOp, ho, f4, Option.map_none, Sem.run_bind, run_cut hu hsz b1 b2 h1 (Nat.le_trans h2 key.1) w]; rfl, ?_⟩
    simp only [AVR]
    refine ⟨sz, xs, hr', by omega, A', n0, c', _, _, f3, rfl, by omega, fun h0 => ?_, fun h0 => ?_⟩
    · subst h0
      refine ⟨?_, by omega⟩
      split
      · rfl
      · cases A' with
        | none => rfl
        | some ad => simp only [Nat.zero_mul, Option.map_some, Option.some.injEq]; unfold Addr.add; split <;> simp_all
    · obtain ⟨k, rfl⟩ := key.2 (by omega)
      refine ⟨k, rfl, ?_⟩
      rw [if_neg (by omega)]
      simp only [Option.map_some, Addr.add0]
      rw [Nat.zero_add]
end Go.Rl

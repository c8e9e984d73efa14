/- R, part J: append. -/
import Derived.Test.YtmjfdldfaeaolaaRlI
import Derived.Deep.Upon
namespace Go.Rl
open Go.RowKit

def PV.isV : PV → Bool
  | .v _ => true
  | _ => false
/-- Every cell of it is a value without memory. -/
def FlatP (xs : List (List PV)) : Prop := ∀ es ∈ xs, ∀ p ∈ es, PV.isV p = true
theorem FlatP.get {xs : List (List PV)} (h : FlatP xs) {j : Nat} {p : PV} (hj : xs.flatten[j]? = some p) : ∃ v, p = .v v := by
  obtain ⟨es, h1, h2⟩ := List.mem_flatten.1 (List.mem_of_getElem? hj)
  have := h es h1 p h2
  cases p with
  | v x => exact ⟨x, rfl⟩
  | _ => cases this
/-- What can be appended: its elements, and the rows that go with them. -/
inductive SrcA (s : St) (sz : Nat) : AV → List (List PV) → List Nat → Prop where
  | nils : SrcA s sz .nils [] []
  | row {id lo len : Nat} {xs : List (List PV)} (hr : s.r id = some (sz, xs)) (hl : lo + len ≤ xs.length) (hf : FlatP xs) : SrcA s sz (.sl id lo len) ((xs.drop lo).take len) []
  | give {id len : Nat} {xs : List (List PV)} (hr : s.r id = some (sz, xs)) (hl : len = xs.length) : SrcA s sz (.sl id 0 len) xs [id]
  | fro {d : Option Nat} {o : Bool} {xs : List (List PV)} (hf : FlatP xs) : SrcA s sz (.p d (.sl o sz xs)) xs []
  | str {d : Option Nat} {b : ByteArray} (h1 : sz = 1) : SrcA s sz (.p d (.v (.string b))) (b.data.toList.map fun x => [.v (.int .u8 x.toNat)]) []

theorem src_cells {P : Program} {w : World} {sz : Nat} {tx e' : TypeId} (hk : P.underlying tx = some (.slice e')) {b off c m N : Nat} (hN : N = m * sz) (u : Nat → Value) (hcell : ∀ j, j < N → w.cell? ⟨b, off + j, none⟩ = some (u j)) (h1 : ∀ j, j < N → (u j).oneCell' = true) :
    Src P sz tx (.slice (some ⟨b, off, none⟩) m c) m ((List.range N).map u) w := by
  refine Src.ofSlice w hk _ m c _ (by simpa using hN) (fun j v hv => ?_) (fun v hv => ?_)
  · rw [List.getElem?_map] at hv
    rcases Nat.lt_or_ge j N with hj | hj
    · rw [List.getElem?_range hj] at hv
      cases hv
      rw [Addr.add0]
      exact hcell j hj
    · rw [List.getElem?_eq_none (by simpa using hj)] at hv; cases hv
  · simp only [List.mem_map, List.mem_range] at hv
    obtain ⟨j, hj, rfl⟩ := hv
    exact h1 j hj
theorem src_none {P : Program} {w : World} {sz : Nat} {tx e' : TypeId} (hk : P.underlying tx = some (.slice e')) (A : Option Addr) (c : Nat) : Src P sz tx (.slice A 0 c) 0 [] w := by
  cases A with
  | none => exact Src.ofNil w hk c
  | some a => exact Src.ofSlice w hk a 0 c [] (by simp) (by simp) (by simp)

def srcKind (P : Program) (tx : TypeId) : AV → Prop
  | .p _ (.v (.string _)) => P.underlying tx = some .string
  | _ => ∃ e', P.underlying tx = some (.slice e')

section
variable {w0 : World} {I : Fr} {n : Nat} {L : Pl} {s : St} {a : Act} {w : World}
theorem SrcA.ok {P : Program} {sz : Nat} {tx : TypeId} (h : Rel w0 I n L s a w) {av : AV} {news : List (List PV)} {K : List Nat} (g : SrcA s sz av news K) (hk : srcKind P tx av) {v : Value} (hv : AVR L w s av v) :
    ∃ us m, Src P sz tx v news.length us w ∧ us.length = news.flatten.length ∧ (∀ es ∈ news, es.length = sz) ∧ (∀ j p, news.flatten[j]? = some p → ∃ u, us[j]? = some u ∧ PVO L.Z w p u (m j)) ∧
      ((List.range news.flatten.length).flatMap m).Nodup ∧ ∀ k ∈ (List.range news.flatten.length).flatMap m, k ∈ K.flatMap (fun i => (L.ν i).tail) := by
  cases g with
  | nils =>
    simp only [AVR] at hv
    obtain ⟨A, rfl⟩ := hv
    obtain ⟨e', hk⟩ := hk
    exact ⟨[], fun _ => [], src_none hk A 0, rfl, by simp, by simp, by simp, by simp⟩
  | row hr hl hf =>
    rename_i id lo len xs
    simp only [AVR] at hv
    obtain ⟨e', hk⟩ := hk
    obtain ⟨sz', xs', h2, h3, A, m, c, A', c', e1, rfl, hc, h0, h4⟩ := hv
    rw [hr] at h2
    cases h2
    rcases Nat.eq_zero_or_pos len with rfl | hpos
    · exact ⟨[], fun _ => [], by simpa using src_none hk A' c', by simp, by simp, by simp, by simp, by simp⟩
    · obtain ⟨k, rfl, rfl⟩ := h4 hpos
      rcases h.row hr with ⟨⟨A0, h5⟩, h6⟩ | ⟨k', c2, h5, hlen, u, hcell, hp⟩
      · subst h6; simp at hl; omega
      · rw [h5] at e1
        simp only [Value.slice.injEq, Option.some.injEq, Addr.mk.injEq, and_true] at e1
        obtain ⟨rfl, rfl, rfl⟩ := e1
        have hlen' : ∀ es ∈ xs.drop lo, es.length = sz := fun es h => hlen es (List.mem_of_mem_drop h)
        have hfl : ((xs.drop lo).take len).flatten = (xs.flatten.drop (lo * sz)).take (len * sz) := by rw [flat_take hlen', flat_drop hlen]
        have htot : xs.flatten.length = xs.length * sz := flat_len hlen
        have hle : lo * sz + len * sz ≤ xs.length * sz := by rw [← Nat.add_mul]; exact Nat.mul_le_mul_right _ hl
        have hnl : ((xs.drop lo).take len).length = len := by simp; omega
        have hfll : ((xs.drop lo).take len).flatten.length = len * sz := by rw [hfl, List.length_take, List.length_drop, htot]; omega
        have hv : ∀ j, j < len * sz → ∃ x, xs.flatten[lo * sz + j]? = some (.v x) ∧ u (lo * sz + j) = x ∧ x.oneCell' = true := fun j hj => by
          have hlt : lo * sz + j < xs.flatten.length := by omega
          obtain ⟨x, hx⟩ := hf.get (List.getElem?_eq_getElem hlt)
          have h7 := hp _ _ ((List.getElem?_eq_getElem hlt).trans (congrArg some hx))
          generalize hu : u (lo * sz + j) = y at h7
          cases h7
          exact ⟨x, (List.getElem?_eq_getElem hlt).trans (congrArg some hx), rfl, by assumption⟩
        refine ⟨(List.range (len * sz)).map (fun j => u (lo * sz + j)), fun _ => [], ?_, by simp [hfll], fun es h => hlen' es (List.mem_of_mem_take h), fun j p hj => ?_, by rw [flatMap_no]; simp, by rw [flatMap_no]; simp⟩
        · rw [hnl]
          exact src_cells hk rfl _ (fun j hj => by have := hcell (lo * sz + j) (by omega); simpa using this) (fun j hj => by obtain ⟨x, _, e, h1⟩ := hv j hj; rw [e]; exact h1)
        · have hj' : j < len * sz := by rw [← hfll]; exact (List.getElem?_eq_some_iff.1 hj).1
          rw [hfl, List.getElem?_take, if_pos hj', List.getElem?_drop] at hj
          obtain ⟨x, h1, h2, h3⟩ := hv j hj'
          rw [h1] at hj
          cases hj
          refine ⟨x, ?_, .v x h3⟩
          rw [List.getElem?_map, List.getElem?_range hj', Option.map_some, h2]
  | give hr hl =>
    rename_i id len
    simp only [AVR] at hv
    obtain ⟨e', hk⟩ := hk
    have hpv := Gv.ok h (.row hr hl) (v := v) (by simp only [AVR]; exact hv)
    obtain ⟨h5, h6, h7⟩ := h.rw _ _ _ hr
    simp only [List.flatMap_cons, List.flatMap_nil, List.append_nil] at hpv
    subst hl
    generalize hN : L.ν id = N at hpv h6
    cases hpv with
    | nil _ A => exact ⟨[], fun _ => [], by simpa using src_none hk A 0, by simp, by simp, by simp, by simp, by simp⟩
    | own _ _ k c cur ty hlen hkk hsz hc hm u nn hcell hp =>
      refine ⟨(List.range news.flatten.length).map u, nn, src_cells hk (flat_len hlen) u (fun j hj => ?_) (fun j hj => (hp j _ (List.getElem?_eq_getElem hj)).one), by simp, hlen, fun j p hj => ?_, (List.nodup_cons.1 h6).2, fun x hx => by simpa [hN] using hx⟩
      · simp only [World.cell?, hkk]
        simpa using hcell j hj
      · refine ⟨u j, ?_, hp j p hj⟩
        rw [List.getElem?_map, List.getElem?_range (List.getElem?_eq_some_iff.1 hj).1]
        rfl
  | fro hf =>
    simp only [AVR] at hv
    obtain ⟨e', hk⟩ := hk
    have hpv := hv.1
    cases hpv with
    | emp _ _ A c => exact ⟨[], fun _ => [], by simpa using src_none hk A c, by simp, by simp, by simp, by simp, by simp⟩
    | sl _ _ _ k off c hlen hc hz u hcell hp =>
      have hv : ∀ j p, news.flatten[j]? = some p → ∃ x, p = .v x ∧ u j = x ∧ x.oneCell' = true := fun j p hj => by
        obtain ⟨x, rfl⟩ := hf.get hj
        have h7 := hp j _ hj
        generalize hu : u j = y at h7
        cases h7
        exact ⟨x, rfl, rfl, by assumption⟩
      refine ⟨(List.range news.flatten.length).map u, fun _ => [], src_cells hk (flat_len hlen) u hcell (fun j hj => by obtain ⟨x, _, e, h1⟩ := hv j _ (List.getElem?_eq_getElem hj); rw [e]; exact h1), by simp, hlen, fun j p hj => ?_, by rw [flatMap_no]; simp, by rw [flatMap_no]; simp⟩
      obtain ⟨x, rfl, h2, h3⟩ := hv j p hj
      refine ⟨x, ?_, .v x h3⟩
      rw [List.getElem?_map, List.getElem?_range (List.getElem?_eq_some_iff.1 hj).1, Option.map_some, h2]
  | str h1 =>
    rename_i d b
    subst h1
    simp only [AVR] at hv
    have hpv := hv.1
    cases hpv
    have hfl : ((b.data.toList.map fun x => [PV.v (.int .u8 x.toNat)])).flatten = b.data.toList.map fun x => PV.v (.int .u8 x.toNat) := by
      generalize b.data.toList = l
      induction l with
      | nil => rfl
      | cons x l ih => simp [ih]
    have hsz : (b.data.toList.map fun x => [PV.v (.int .u8 x.toNat)]).length = b.size := by rw [List.length_map, Array.length_toList]; rfl
    refine ⟨byteCells b, fun _ => [], by rw [hsz]; exact Src.ofString w hk b, by rw [hfl]; simp [byteCells], fun es h => ?_, fun j p hj => ?_, by rw [flatMap_no]; simp, by rw [flatMap_no]; simp⟩
    · simp only [List.mem_map] at h
      obtain ⟨_, _, rfl⟩ := h
      rfl
    · rw [hfl, List.getElem?_map] at hj
      cases hb : b.data.toList[j]? with
      | none => rw [hb] at hj; cases hj
      | some x =>
        rw [hb] at hj
        cases hj
        exact ⟨.int .u8 x.toNat, by simp only [byteCells, List.getElem?_map, hb]; rfl, .v _ rfl⟩
end
theorem run_append_room_row {P : Program} {w : World} {t tx ty e : TypeId} {i : TypeInfo} (ht : P.underlying t = some (.slice e)) (hi : P.info? e = some i) {g sLen sCap : Nat} {cur : Array Value} {ety : TypeId} (hg : w.heap[g]? = some (.cells cur ety (0, 0))) {x : Value} {n : Nat} {news : List Value} (hs : Src P i.size tx x n news w)
    (hroom : sLen + n ≤ sCap) (hfit : sLen * i.size + news.length ≤ cur.size) :
    (Builtin.append_ #[t, tx] ty #[.slice (some ⟨g, 0, none⟩) sLen sCap, x]).run P w = .ok (.slice (some ⟨g, 0, none⟩) (sLen + n) sCap) (w.setRow g ⟨over cur.toList (sLen * i.size) news⟩) := by
  have hst := run_storeCells_at P g (sLen * i.size) ety news 0 cur w hg (by simpa using hfit) hs.one
  simp only [Nat.add_zero] at hst
  rcases hs.kind with ⟨e', hk⟩ | hk <;> simp [Builtin.append_, run_underlying ht, run_underlying hk, sizeOf, typeInfo, hi, hs.len, hroom, hs.cells, Addr.add0, hst, over]

/-- What is appended to: a row of one's own, or nothing yet (then its id is told). -/
inductive BaseA (s : St) (id ib sz : Nat) : AV → List (List PV) → List Nat → Prop where
  | row {len : Nat} {xs : List (List PV)} (hr : s.r ib = some (sz, xs)) (hl : len = xs.length) (hid : id = ib ∨ s.r id = none) : BaseA s id ib sz (.sl ib 0 len) xs [ib]
  | nils (hr : s.r id = none) : BaseA s id ib sz .nils [] []
theorem over_end {α : Type} {xs ys : List α} {o : Nat} (_ : o + ys.length ≤ xs.length) : (over xs o ys).take (o + ys.length) = xs.take o ++ ys := by
  simp only [over]
  rw [List.take_append_of_le_length (by simp; omega)]
  exact List.take_of_length_le (by simp; omega)
theorem flatMap_eq {α β : Type} {f g : α → List β} : ∀ {l : List α}, (∀ x ∈ l, f x = g x) → l.flatMap f = l.flatMap g
  | [], _ => rfl
  | x :: l, h => by rw [List.flatMap_cons, List.flatMap_cons, h x (by simp), flatMap_eq (fun y hy => h y (by simp [hy]))]
theorem flatMap_range_add {m m' : Nat → List Nat} (a b : Nat) : (List.range (a + b)).flatMap (fun j => if j < a then m j else m' (j - a)) = (List.range a).flatMap m ++ (List.range b).flatMap m' := by
  rw [List.range_add, List.flatMap_append]
  congr 1
  · exact flatMap_eq (fun j hj => if_pos (List.mem_range.1 hj))
  · rw [List.flatMap_map]
    exact flatMap_eq (fun j _ => by rw [if_neg (by omega)]; congr 1; omega)
section
variable {w0 : World} {I : Fr} {n : Nat} {L : Pl} {s : St} {a : Act} {w : World} {P : Program}
theorem Rel.append (h : Rel w0 I n L s a w) {id ib sz : Nat} {av bv : AV} {xs news : List (List PV)} {Kb K : List Nat} (gb : BaseA s id ib sz av xs Kb) (g : SrcA s sz bv news K) {t tx e : TypeId} {z : Value} {by' : Nat} (ht : P.underlying t = some (.slice e)) (hk : srcKind P tx bv)
    (hi : (P.info? e).map (fun i => (i.zero, i.size, i.bytes)) = some (some z, sz, by')) (hzs : z.cells.size = sz) (hne : ib ∉ K) (hid1 : id < pinT) (hlen' : xs.length + news.length ≤ maxLen) (hby : (xs.length + news.length) * by' ≤ 140737488355328) {v x : Value} (hv : AVR L w s av v) (hx : AVR L w s bv x) (ty : TypeId) :
    ∃ v' w' N, (Builtin.append_ #[t, tx] ty #[v, x]).run P w = .ok v' w' ∧
      Rel w0 I n (L.row id v' N) { t := fun i => (s.t i).kill (Kb ++ K), b := fun j => (s.b j).map (AV.kills (Kb ++ K)), r := upd (s.kill (Kb ++ K)).r id (some (sz, xs ++ news)) } a w' := by
  obtain ⟨us, m, hs, hul, hel, hpv, hnd, hlb⟩ := g.ok h hk hx
  obtain ⟨i, h1, h2, h3, h4⟩ := info_of hi
  have hK : ∀ k ∈ (List.range news.flatten.length).flatMap m, ∃ j ∈ K, L.lab k = some (.row j) ∧ (s.r j).isSome := fun k hk => by
    obtain ⟨j, hj, hkj⟩ := List.mem_flatMap.1 (hlb k hk)
    have hsome : (s.r j).isSome := by
      cases g <;> simp at hj
      subst hj
      simp [*]
    obtain ⟨⟨sz', xs'⟩, hxj⟩ := Option.isSome_iff_exists.1 hsome
    exact ⟨j, hj, (h.rw j sz' xs' hxj).2.2 k (List.mem_of_mem_tail hkj), hsome⟩
  have hnew : ∀ {w1 : World}, w1.heap = w.heap → ∀ j p, news.flatten[j]? = some p → ∃ u, us[j]? = some u ∧ PVO L.Z w1 p u (m j) := fun hw j p hj => by
    obtain ⟨u, hu, hr⟩ := hpv j p hj
    exact ⟨u, hu, hr.mono (fun k _ => by rw [hw]) (fun k _ => by rw [hw]) (fun _ h => h)⟩
  have hnl : news.flatten.length = news.length * sz := flat_len hel
  -- what the base has
  have base : ((∃ A, v = .slice A 0 0) ∧ xs = [] ∧ (s.r id = none ∨ id ∈ Kb)) ∨ ∃ k c cur ety m0, v = .slice (some ⟨k, 0, none⟩) xs.length c ∧ w.heap[k]? = some (.cells cur ety (0, 0)) ∧ cur.size = c * sz ∧ xs.length ≤ c ∧ 0 < c ∧ c ≤ maxLen ∧ (∀ es ∈ xs, es.length = sz) ∧
      (∀ j p, xs.flatten[j]? = some p → ∃ u, cur[j]? = some u ∧ PVO L.Z w p u (m0 j)) ∧ (k :: (List.range xs.flatten.length).flatMap m0).Nodup ∧ (∀ x ∈ k :: (List.range xs.flatten.length).flatMap m0, L.lab x = some (.row ib)) ∧ Kb = [ib] ∧ (id = ib ∨ s.r id = none) := by
    cases gb with
    | nils hr => simp only [AVR] at hv; exact .inl ⟨hv, rfl, .inl hr⟩
    | row hr hl hid =>
      have hp := Gv.ok h (.row hr hl) hv
      simp only [List.flatMap_cons, List.flatMap_nil, List.append_nil] at hp
      obtain ⟨_, h6, h7⟩ := h.rw _ _ _ hr
      generalize hN : L.ν ib = N at hp h6 h7
      cases hp with
      | nil _ A => exact .inl ⟨⟨A, rfl⟩, rfl, hid.symm.imp (fun h => h) (fun h => by simp [h])⟩
      | own _ _ k c cur ety hlen hkk hsz hc hm u nn hcell hp =>
        exact .inr ⟨k, c, cur, ety, nn, rfl, hkk, hsz, hc.1, hc.2, hm, hlen, fun j p hj => ⟨u j, hcell j (List.getElem?_eq_some_iff.1 hj).1, hp j p hj⟩, h6, h7, rfl, hid⟩
  have grown : ∀ (sCap : Nat) (olds : List Value) (m0 : Nat → List Nat), sCap < xs.length + news.length → (Builtin.firstCells i.size xs.length v).run P w.drew = .ok olds.toArray w.drew → (∃ A, v = .slice A xs.length sCap) → olds.length = xs.flatten.length → (∀ es ∈ xs, es.length = sz) →
      (∀ j p, xs.flatten[j]? = some p → ∃ u, olds[j]? = some u ∧ PVO L.Z w p u (m0 j)) → ((List.range xs.flatten.length).flatMap m0).Nodup → (∀ x ∈ (List.range xs.flatten.length).flatMap m0, L.lab x = some (.row ib) ∧ ib ∈ Kb) → (s.r id = none ∨ id ∈ Kb) →
      ∃ v' w' N, (Builtin.append_ #[t, tx] ty #[v, x]).run P w = .ok v' w' ∧
        Rel w0 I n (L.row id v' N) { t := fun i => (s.t i).kill (Kb ++ K), b := fun j => (s.b j).map (AV.kills (Kb ++ K)), r := upd (s.kill (Kb ++ K)).r id (some (sz, xs ++ news)) } a w' := by
    intro sCap olds m0 hg hold hA hol hlen hp hnd0 hl0 hid
    obtain ⟨A, rfl⟩ := hA
    have hrun := run_append_grow_src (P := P) w t tx ty e i z ht h1 h2 A xs.length sCap olds hold x news.length us (by rw [h3]; exact hs) hg (by simp only [maxLen] at hlen'; omega) (growslice_fits hg (by rw [h4]; exact hby))
    have hge := grownCap_ge w (xs.length + news.length) sCap e
    have hcm := grownCap_le_maxLen w (xs.length + news.length) sCap e hlen'
    have hdr : Rel w0 I n L s a w.drew := h.drawn _
    have hfl : (xs ++ news).flatten.length = xs.flatten.length + news.flatten.length := by rw [List.flatten_append, List.length_append]
    have hxl : xs.flatten.length = xs.length * sz := flat_len hlen
    have hmm := flatMap_range_add (m := m0) (m' := m) xs.flatten.length news.flatten.length
    rw [← hfl] at hmm
    obtain ⟨N, hfr⟩ := hdr.fresh (Kb ++ K) id (cur := (olds ++ us).toArray ++ Builtin.zeroCells z.cells (grownCap w (xs.length + news.length) sCap e - (xs.length + news.length))) e (sz := sz) (c := grownCap w (xs.length + news.length) sCap e) (xs := xs ++ news)
      (fun es hes => (List.mem_append.1 hes).elim (hlen es) (hel es)) (by
        simp only [Array.size_append, List.size_toArray, size_zeroCells, hzs, List.length_append, hol, hul, hxl, hnl, ← Nat.add_mul]
        congr 1
        omega) (by simpa using hge) hcm (fun j => if j < xs.flatten.length then m0 j else m (j - xs.flatten.length)) (fun j p hj => by
        rw [List.flatten_append] at hj
        have hj2 : j < (olds ++ us).length := by rw [List.length_append, hol, hul, ← List.length_append]; exact (List.getElem?_eq_some_iff.1 hj).1
        have hget : ((olds ++ us).toArray ++ Builtin.zeroCells z.cells (grownCap w (xs.length + news.length) sCap e - (xs.length + news.length)))[j]? = (olds ++ us)[j]? := by
          rw [Array.getElem?_append_left (by simpa using hj2)]
          simp
        rw [hget]
        split
        · rename_i hlt
          rw [List.getElem?_append_left hlt] at hj
          rw [List.getElem?_append_left (by omega)]
          obtain ⟨u, hu, hr⟩ := hp j p hj
          exact ⟨u, hu, hr.mono (fun k _ => rfl) (fun k _ => rfl) (fun _ h => h)⟩
        · rename_i hge'
          rw [List.getElem?_append_right (by omega)] at hj
          rw [List.getElem?_append_right (by omega), hol]
          exact hnew (w1 := w.drew) rfl _ p hj) (fun k hk => by
        rw [hmm] at hk
        rcases List.mem_append.1 hk with hk | hk
        · exact ⟨ib, List.mem_append_left _ (hl0 k hk).2, (hl0 k hk).1⟩
        · obtain ⟨j, hj, hlj, _⟩ := hK k hk
          exact ⟨j, List.mem_append_right _ hj, hlj⟩) (by
        rw [hmm]
        refine List.nodup_append.2 ⟨hnd0, hnd, fun k hk k' hk' e => ?_⟩
        subst e
        obtain ⟨j, hj, hlj, _⟩ := hK k hk'
        rw [(hl0 k hk).1] at hlj
        simp only [Option.some.injEq, Lab.row.injEq] at hlj
        subst hlj
        exact hne hj) hid1 (hid.imp (fun h => h) (fun h => List.mem_append_left _ h))
    exact ⟨_, _, _, hrun, by rw [List.length_append] at hfr; exact hfr⟩
  have size : i.size = sz := h3
  rcases base with ⟨⟨A, rfl⟩, rfl, hid⟩ | ⟨k, c, cur, ety, m0, rfl, hkk, hcs, hc, hc0, hcm, hlen, hp, hnd0, hl0, rfl, hidb⟩
  · by_cases hz : news.length = 0
    · have hn0 : news = [] := List.eq_nil_of_length_eq_zero hz
      subst hn0
      have hu0 : us = [] := List.eq_nil_of_length_eq_zero (by simpa using hul)
      subst hu0
      have hrun := run_append_nothing (P := P) w t tx ty e i ht h1 A 0 0 (Nat.le_refl 0) x (by rw [size]; exact hs)
      refine ⟨_, _, [], hrun, ?_⟩
      exact h.setrow (Kb ++ K) (J := []) (Same.refl [] w) (by simp) (.nil sz A) (by simp) (by simp) hid1 (hid.imp (fun h => h) (fun h => List.mem_append_left _ h))
    · exact grown 0 [] (fun _ => []) (by simp; omega) (by cases A <;> simp [Builtin.firstCells, loadCells, loadCellsFrom]) ⟨A, rfl⟩ rfl (by simp) (by simp) (by simp) (by simp) hid
  · have hxl : xs.flatten.length = xs.length * sz := flat_len hlen
    have hcl0 : cur.toList.length = cur.size := Array.length_toList
    have hle : xs.length * sz ≤ cur.size := by rw [hcs]; exact Nat.mul_le_mul_right _ hc
    by_cases hroom : xs.length + news.length ≤ c
    · have hfit : xs.length * sz + us.length ≤ cur.toList.length := by rw [hul, hnl, hcl0, hcs, ← Nat.add_mul]; exact Nat.mul_le_mul_right _ hroom
      have hrun := run_append_room_row (P := P) (w := w) (tx := tx) (ty := ty) ht h1 hkk (x := x) (n := news.length) (news := us) (by rw [size]; exact hs) hroom (by rw [size, ← hcl0]; exact hfit)
      rw [size] at hrun
      have hmm := flatMap_range_add (m := m0) (m' := m) xs.flatten.length news.flatten.length
      have hfl : (xs ++ news).flatten.length = xs.flatten.length + news.flatten.length := by rw [List.flatten_append, List.length_append]
      rw [← hfl] at hmm
      have hoff : ∀ {y}, y ≠ k → (w.setRow k ⟨over cur.toList (xs.length * sz) us⟩).heap[y]? = w.heap[y]? := fun hy => setRow_other w k _ _ hy
      have hzk : ∀ y, L.Z y → y ≠ k := fun y hy e => by subst e; have h1 := (h.zlt y hy).2; rw [hl0 y (by simp)] at h1; cases h1
      have hset : PVO L.Z (w.setRow k ⟨over cur.toList (xs.length * sz) us⟩) (.sl true sz (xs ++ news)) (.slice (some ⟨k, 0, none⟩) (xs ++ news).length c) (k :: (List.range (xs ++ news).flatten.length).flatMap (fun j => if j < xs.flatten.length then m0 j else m (j - xs.flatten.length))) := by
        refine pvo_row (fun es hes => (List.mem_append.1 hes).elim (hlen es) (hel es)) (setRow_heap w k _ _ _ _ hkk) (by simp [over]; simp at hfit; omega) (by simpa using hroom) hc0 hcm _ (fun j p hj => ?_)
        rw [List.flatten_append] at hj
        have hg : (⟨over cur.toList (xs.length * sz) us⟩ : Array Value)[j]? = (over cur.toList (xs.length * sz) us)[j]? := by simp
        rw [hg, over_get hfit]
        by_cases hlt : j < xs.flatten.length
        · rw [if_pos hlt]
          rw [List.getElem?_append_left hlt] at hj
          rw [if_neg (by omega)]
          obtain ⟨u, hu, hr⟩ := hp j p hj
          refine ⟨u, by simpa using hu, hr.mono (fun y hy => hoff (hzk y hy)) (fun y hy => hoff (fun e => ?_)) (fun _ h => h)⟩
          subst e
          exact (List.nodup_cons.1 hnd0).1 (List.mem_flatMap.2 ⟨j, by simpa using hlt, hy⟩)
        · rw [if_neg hlt]
          rw [List.getElem?_append_right (by omega)] at hj
          obtain ⟨u, hu, hr⟩ := hpv _ p hj
          have hlt2 := (List.getElem?_eq_some_iff.1 hu).1
          rw [if_pos (by omega)]
          refine ⟨u, by rw [← hxl]; exact hu, hr.mono (fun y hy => hoff (hzk y hy)) (fun y hy => hoff (fun e => ?_)) (fun _ h => h)⟩
          subst e
          obtain ⟨q, hq, hlq, _⟩ := hK y (List.mem_flatMap.2 ⟨_, by rw [← hul]; simpa using hlt2, hy⟩)
          rw [hl0 y (by simp)] at hlq
          simp only [Option.some.injEq, Lab.row.injEq] at hlq
          subst hlq
          exact hne hq
      refine ⟨_, _, k :: (List.range (xs ++ news).flatten.length).flatMap (fun j => if j < xs.flatten.length then m0 j else m (j - xs.flatten.length)), hrun, ?_⟩
      rw [List.length_append] at hset
      refine h.setrow ([ib] ++ K) (J := [k]) ((Same.refl [k] w).setRow (.inr (by simp)) _) (fun y hy => ⟨ib, by simp, hl0 y (by rw [List.mem_singleton.1 hy]; exact List.mem_cons_self)⟩) hset (fun y hy => ?_) ?_ hid1 (hidb.symm.imp (fun h => h) (fun h => by simp [h]))
      · rw [hmm] at hy
        rcases List.mem_cons.1 hy with rfl | hy
        · exact .inl ⟨ib, by simp, hl0 y (by simp)⟩
        · rcases List.mem_append.1 hy with hy | hy
          · exact .inl ⟨ib, by simp, hl0 y (List.mem_cons_of_mem _ hy)⟩
          · obtain ⟨q, hq, hlq, _⟩ := hK y hy
            exact .inl ⟨q, by simp [hq], hlq⟩
      · rw [hmm, ← List.cons_append]
        refine List.nodup_append.2 ⟨hnd0, hnd, fun y hy y' hy' e => ?_⟩
        subst e
        obtain ⟨q, hq, hlq, _⟩ := hK y hy'
        rw [hl0 y hy] at hlq
        simp only [Option.some.injEq, Lab.row.injEq] at hlq
        subst hlq
        exact hne hq
    · have hol : (cur.toList.take xs.flatten.length).length = xs.flatten.length := by rw [List.length_take, hcl0]; omega
      refine grown c (cur.toList.take xs.flatten.length) m0 (by omega) ?_ ⟨_, rfl⟩ hol hlen (fun j p hj => ?_) (List.nodup_cons.1 hnd0).2 (fun y hy => ⟨hl0 y (List.mem_cons_of_mem _ hy), by simp⟩) (hidb.symm.imp (fun h => h) (fun h => by simp [h]))
      · refine run_firstCells_some w.drew i.size xs.length ⟨k, 0, none⟩ xs.length c _ (by rw [hol, hxl, size]) (fun j u hu => ?_)
        rw [Addr.add0, Nat.zero_add]
        simp only [World.cell?, World.drew, hkk]
        rw [List.getElem?_take] at hu
        split at hu
        · simpa using hu
        · cases hu
      · obtain ⟨u, hu, hr⟩ := hp j p hj
        refine ⟨u, ?_, hr⟩
        rw [List.getElem?_take, if_pos (List.getElem?_eq_some_iff.1 hj).1]
        simpa using hu
end
section
variable {γ : Gho} {P : Program} {n : Nat} {o : Oper} {M B : List Nat} {s : St}
theorem BaseA.at {s s' : St} {id ib sz : Nat} {av : AV} {xs : List (List PV)} {K : List Nat} (g : BaseA s id ib sz av xs K) (h : s'.r id = s.r id) (h' : ∀ i ∈ av.rows, s'.r i = s.r i) : BaseA s' id ib sz av xs K := by
  cases g with
  | row hr hl hid => exact .row ((h' _ (by simp [AV.rows])).trans hr) hl (hid.imp (fun h => h) (fun e => h.trans e))
  | nils hr => exact .nils (h.trans hr)
theorem SrcA.at {s s' : St} {sz : Nat} {av : AV} {xs : List (List PV)} {K : List Nat} (g : SrcA s sz av xs K) (h : ∀ id ∈ av.rows, s'.r id = s.r id) : SrcA s' sz av xs K := by
  cases g with
  | nils => exact .nils
  | row hr hl hf => exact .row ((h _ (by simp [AV.rows])).trans hr) hl hf
  | give hr hl => exact .give ((h _ (by simp [AV.rows])).trans hr) hl
  | fro hf => exact .fro hf
  | str h1 => exact .str h1
theorem st_append {x y : Operand} {t tx e : TypeId} (ho : o.op = .call { callee := .builtin .append, args := #[x, y], argTypes := #[t, tx] }) (id : Nat) {ib : Nat} {av bv : AV} {sz by' len : Nat} {xs news : List (List PV)} {Kb K : List Nat} {z : Value} (hx : s.ev x = av) (hy : s.ev y = bv)
    (gb : BaseA s id ib sz av xs Kb) (g : SrcA s sz bv news K) (ht : P.underlying t = some (.slice e)) (hk : srcKind P tx bv) (hi : (P.info? e).map (fun i => (i.zero, i.size, i.bytes)) = some (some z, sz, by')) (hzs : z.cells.size = sz) (hM : id ∈ M) (hne : ib ∉ K) (hid1 : id < pinT) (hlen : len = xs.length + news.length)
    (hm : len ≤ maxLen) (hby : len * by' ≤ 140737488355328) : StepD γ P n o M B s { put := .sl id 0 len, kill := Kb ++ K, setR := [(id, sz, xs ++ news)] } := by
  intro s' ag hd w0 I L a w hG hr KK Q hK
  subst hlen
  have e1 := ag.ev1 ho (x := x) (by simp [Op.operands, Call.operands])
  have e2 := ag.ev1 ho (x := y) (by simp [Op.operands, Call.operands])
  have hv := hr.ev x
  rw [e1, hx] at hv
  have hv2 := hr.ev y
  rw [e2, hy] at hv2
  have gb' : BaseA s' id ib sz av xs Kb := gb.at (ag.m id hM) (fun i hi => ag.r1 ho (by simp [Op.operands, Call.operands]) hx hi)
  have g' : SrcA s' sz bv news K := g.at (fun i hi => ag.r1 ho (by simp [Op.operands, Call.operands]) hy hi)
  obtain ⟨v', w', N, hrun, hrel⟩ := hr.append gb' g' ht hk hi hzs hne hid1 hm hby hv hv2 o.type
  have he : (execOp a.eval o).run P w = .ok (.value v') w' := by
    simp only [execOp, ho, resolve, invoke, builtin, Sem.run_bind, Sem.run_pure, Result.andThen_ok, List.map_toArray, List.map_cons, List.map_nil, hrun]
  unfold Oper.wp
  rw [he, Oper.upon_value]
  have hfin := hrel.put hd (av := .sl id 0 (xs.length + news.length)) (v := v') (avr_row (sz := sz) (xs := xs ++ news) (by simp) (by simp [Pl.row]) (hrel.rw id sz _ (by simp)).1 (by simp))
  exact hK _ _ _ (by rw [Dl.app, killd_rec]; exact hfin)
end
end Go.Rl

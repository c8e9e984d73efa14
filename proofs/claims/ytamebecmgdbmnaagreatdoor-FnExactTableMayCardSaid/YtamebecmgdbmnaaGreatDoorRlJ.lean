/- Promises of functions, proved by walks over their operations; no conditions beyond those that each theorem states. -/
import Derived.Test.YtamebecmgdbmnaaGreatDoorRlF
import Derived.Deep.Upon
import Derived.Great.BuildSlice
set_option linter.unusedSimpArgs false
set_option linter.unusedVariables false
namespace Go.Rl
open Go.RowKit

def PV.isV : PV → Bool
 | .v _ => true
 | _ => false
def FlatP (xs : List (List PV)) : Prop := ∀ es ∈ xs, ∀ p ∈ es, PV.isV p = true
theorem FlatP.get {xs : List (List PV)} (h : FlatP xs) {j : Nat} {p : PV} (hj : xs.flatten[j]? = some p) : ∃ v, p = .v v := by
 obtain ⟨es, h1, h2⟩ := List.mem_flatten.1 (List.mem_of_getElem? hj)
 have := h es h1 p h2
 cases p with
 | v x => exact ⟨x, rfl⟩
 | _ => cases this
def PV.shr : PV → PV
 | .v x => .v x
 | .sl _ sz xs => .sl false sz xs
 | .clo f xs => .clo f xs
theorem PVR.shr {Z : Nat → Prop} {w : World} {p : PV} {u : Value} (h : PVR Z w p u) : PVO Z w p.shr u [] := by
 cases p with
 | v x => cases h; exact .v _ ‹_›
 | sl o sz xs => exact .fro _ _ _ (h.flag false)
 | clo f xs => exact .clo _ _ _ h
inductive SrcA (s : St) (sz : Nat) : AV → List (List PV) → List Nat → Prop where
 | nils : SrcA s sz .nils [] []
 | row {id lo len : Nat} {xs : List (List PV)} (hr : s.r id = some (sz, xs)) (hl : lo + len ≤ xs.length) (hf : FlatP xs) : SrcA s sz (.sl id lo len) ((xs.drop lo).take len) []
 | give {id len : Nat} {xs : List (List PV)} (hr : s.r id = some (sz, xs)) (hl : len = xs.length) : SrcA s sz (.sl id 0 len) xs [id]
 | fro {d : Option Nat} {o : Bool} {xs : List (List PV)} (hf : FlatP xs) : SrcA s sz (.p d (.sl o sz xs)) xs []
 | frn {o : Bool} {xs : List (List PV)} : SrcA s sz (.p none (.sl o sz xs)) (xs.map fun es => es.map PV.shr) []
 | str {d : Option Nat} {b : ByteArray} (h1 : sz = 1) : SrcA s sz (.p d (.v (.string b))) (b.data.toList.map fun x => [.v (.int .u8 x.toNat)]) []

theorem zFA {P : Program} {w : World} {sz : Nat} {tx e' : TypeId} (hk : P.underlying tx = some (.slice e')) {b off c m N : Nat} (hN : N = m * sz) (u : Nat → Value) (hcell : ∀ j, j < N → w.cell? ⟨b, off + j, none⟩ = some (u j)) (h1 : ∀ j, j < N → (u j).oneCell' = true) :
  Src P sz tx (.slice (some ⟨b, off, none⟩) m c) m ((List.range N).map u) w := by
 refine Src.ofSlice w hk _ m c _ (by simpa using hN) (fun j v hv => ?_) (fun v hv => ?_)
 ·
  rw [List.getElem?_map] at hv
  rcases Nat.lt_or_ge j N with hj | hj
  ·
   rw [List.getElem?_range hj] at hv
   cases hv
   rw [Addr.add0]
   exact hcell j hj
  · rw [List.getElem?_eq_none (by simpa using hj)] at hv; cases hv
 ·
  simp only [List.mem_map, List.mem_range] at hv
  obtain ⟨j, hj, rfl⟩ := hv
  exact h1 j hj
theorem zE9 {P : Program} {w : World} {sz : Nat} {tx e' : TypeId} (hk : P.underlying tx = some (.slice e')) (A : Option Addr) (c : Nat) : Src P sz tx (.slice A 0 c) 0 [] w := by
 cases A with
 | none => exact Src.ofNil w hk c
 | some a => exact Src.ofSlice w hk a 0 c [] (by simp) (by simp) (by simp)

def zEr (P : Program) (tx : TypeId) : AV → Prop
 | .p _ (.v (.string _)) => P.underlying tx = some .string
 | _ => ∃ e', P.underlying tx = some (.slice e')

section
variable {w0 : World} {I : Fr} {n : Nat} {L : Pl} {s : St} {a : Act} {w : World}
theorem SrcA.ok {P : Program} {sz : Nat} {tx : TypeId} (h : Rel w0 I n L s a w) {av : AV} {news : List (List PV)} {K : List Nat} (g : SrcA s sz av news K) (hk : zEr P tx av) {v : Value} (hv : AVR L w s av v) :
  ∃ us m, Src P sz tx v news.length us w ∧ us.length = news.flatten.length ∧ (∀ es ∈ news, es.length = sz) ∧ (∀ j p, news.flatten[j]? = some p → ∃ u, us[j]? = some u ∧ PVO L.Z w p u (m j)) ∧
   ((List.range news.flatten.length).flatMap m).Nodup ∧ ∀ k ∈ (List.range news.flatten.length).flatMap m, k ∈ K.flatMap (fun i => (L.ν i).tail) := by
 cases g with
 | nils =>
  simp only [AVR] at hv
  obtain ⟨A, rfl⟩ := hv
  obtain ⟨e', hk⟩ := hk
  exact ⟨[], fun _ => [], zE9 hk A 0, rfl, by simp, by simp, by simp, by simp⟩
 | row hr hl hf =>
  rename_i id lo len xs
  simp only [AVR] at hv
  obtain ⟨e', hk⟩ := hk
  obtain ⟨sz', xs', h2, h3, A, m, c, A', c', e1, rfl, hc, h0, h4⟩ := hv
  rw [hr] at h2
  cases h2
  rcases Nat.eq_zero_or_pos len with rfl | hpos
  · exact ⟨[], fun _ => [], by simpa using zE9 hk A' c', by simp, by simp, by simp, by simp, by simp⟩
  ·
   obtain ⟨k, rfl, rfl⟩ := h4 hpos
   rcases h.row hr with ⟨⟨A0, h5⟩, h6⟩ | ⟨k', c2, h5, hlen, u, hcell, hp⟩
   · subst h6; simp at hl; omega
   ·
    rw [h5] at e1
    simp only [Value.slice.injEq, Option.some.injEq, Addr.mk.injEq, and_true] at e1
    obtain ⟨rfl, rfl, rfl⟩ := e1
    have hlen' : ∀ es ∈ xs.drop lo, es.length = sz := fun es h => hlen es (List.mem_of_mem_drop h)
    have hfl : ((xs.drop lo).take len).flatten = (xs.flatten.drop (lo * sz)).take (len * sz) := by rw [zFN hlen', zGt hlen]
    have htot : xs.flatten.length = xs.length * sz := zCg hlen
    have hle : lo * sz + len * sz ≤ xs.length * sz := by rw [← Nat.add_mul]; exact Nat.mul_le_mul_right _ hl
    have hnl : ((xs.drop lo).take len).length = len := by simp; omega
    have hfll : ((xs.drop lo).take len).flatten.length = len * sz := by rw [hfl, List.length_take, List.length_drop, htot]; omega
    have hv : ∀ j, j < len * sz → ∃ x, xs.flatten[lo * sz + j]? = some (.v x) ∧ u (lo * sz + j) = x ∧ x.oneCell' = true := fun j hj => by
     have hlt : lo * sz + j < xs.flatten.length := by omega
     obtain ⟨x, hx⟩ := hf.get (List.getElem?_eq_getElem hlt)
     have h7 := hp _ _ ((List.getElem?_eq_getElem hlt).trans (congrArg some hx))
     generalize hu : u (lo * sz + j) = y at h7
     cases h7
     exact ⟨x, (List.getElem?_eq_getElem hlt).trans (congrArg some hx), rfl, by assumption⟩
    refine ⟨(List.range (len * sz)).map (fun j => u (lo * sz + j)), fun _ => [], ?_, by simp [hfll], fun es h => hlen' es (List.mem_of_mem_take h), fun j p hj => ?_, by rw [zBX]; simp, by rw [zBX]; simp⟩
    ·
     rw [hnl]
     exact zFA hk rfl _ (fun j hj => by have := hcell (lo * sz + j) (by omega); simpa using this) (fun j hj => by obtain ⟨x, _, e, h1⟩ := hv j hj; rw [e]; exact h1)
    ·
     have hj' : j < len * sz := by rw [← hfll]; exact (List.getElem?_eq_some_iff.1 hj).1
     rw [hfl, List.getElem?_take, if_pos hj', List.getElem?_drop] at hj
     obtain ⟨x, h1, h2, h3⟩ := hv j hj'
     rw [h1] at hj
     cases hj
     refine ⟨x, ?_, .v x h3⟩
     rw [List.getElem?_map, List.getElem?_range hj', Option.map_some, h2]
 | give hr hl =>
  rename_i id len
  simp only [AVR] at hv
  obtain ⟨e', hk⟩ := hk
  have hpv := Gv.ok h (.row hr hl) (v := v) (by simp only [AVR]; exact hv)
  obtain ⟨h5, h6, h7⟩ := h.rw _ _ _ hr
  simp only [List.flatMap_cons, List.flatMap_nil, List.append_nil] at hpv
  subst hl
  generalize hN : L.ν id = N at hpv h6
  cases hpv with
  | nil _ A => exact ⟨[], fun _ => [], by simpa using zE9 hk A 0, by simp, by simp, by simp, by simp, by simp⟩
  | own _ _ k c cur ty hlen hkk hsz hc hm u nn hcell hp =>
   refine ⟨(List.range news.flatten.length).map u, nn, zFA hk (zCg hlen) u (fun j hj => ?_) (fun j hj => (hp j _ (List.getElem?_eq_getElem hj)).one), by simp, hlen, fun j p hj => ?_, (List.nodup_cons.1 h6).2, fun x hx => by simpa [hN] using hx⟩
   ·
    simp only [World.cell?, hkk]
    simpa using hcell j hj
   ·
    refine ⟨u j, ?_, hp j p hj⟩
    rw [List.getElem?_map, List.getElem?_range (List.getElem?_eq_some_iff.1 hj).1]
    rfl
 | fro hf =>
  simp only [AVR] at hv
  obtain ⟨e', hk⟩ := hk
  have hpv := hv.1
  cases hpv with
  | emp _ _ A c => exact ⟨[], fun _ => [], by simpa using zE9 hk A c, by simp, by simp, by simp, by simp, by simp⟩
  | sl _ _ _ k off c hlen hc hz u hcell hp =>
   have hv : ∀ j p, news.flatten[j]? = some p → ∃ x, p = .v x ∧ u j = x ∧ x.oneCell' = true := fun j p hj => by
    obtain ⟨x, rfl⟩ := hf.get hj
    have h7 := hp j _ hj
    generalize hu : u j = y at h7
    cases h7
    exact ⟨x, rfl, rfl, by assumption⟩
   refine ⟨(List.range news.flatten.length).map u, fun _ => [], zFA hk (zCg hlen) u hcell (fun j hj => by obtain ⟨x, _, e, h1⟩ := hv j _ (List.getElem?_eq_getElem hj); rw [e]; exact h1), by simp, hlen, fun j p hj => ?_, by rw [zBX]; simp, by rw [zBX]; simp⟩
   obtain ⟨x, rfl, h2, h3⟩ := hv j p hj
   refine ⟨x, ?_, .v x h3⟩
   rw [List.getElem?_map, List.getElem?_range (List.getElem?_eq_some_iff.1 hj).1, Option.map_some, h2]
 | frn =>
  rename_i o xs
  simp only [AVR] at hv
  obtain ⟨e', hk⟩ := hk
  have hz : ∀ {k}, L.zd none k → L.Z k := fun hk => hk.elim id (fun ⟨_, h, _⟩ => by cases h)
  have hpv := hv.1.mono (fun _ _ => rfl) (fun k hk => hz hk)
  have hfl : (xs.map fun es => es.map PV.shr).flatten = xs.flatten.map PV.shr := by simp [List.map_flatten]
  cases hpv with
  | emp _ _ A c => exact ⟨[], fun _ => [], by simpa using zE9 hk A c, by simp, by simp, by simp, by simp, by simp⟩
  | sl _ _ _ k off c hlen hc hz u hcell hp =>
   have h1 : ∀ j, j < xs.flatten.length → (u j).oneCell' = true := fun j hj => (hp j _ (List.getElem?_eq_getElem hj)).shr.one
   refine ⟨(List.range xs.flatten.length).map u, fun _ => [], by rw [List.length_map]; exact zFA hk (zCg hlen) u hcell h1, by rw [hfl]; simp only [List.length_map, List.length_range], fun es hes => ?_, fun j p hj => ?_, by rw [zBX]; simp, by rw [zBX]; simp⟩
   ·
    obtain ⟨es', hes', rfl⟩ := List.mem_map.1 hes
    rw [List.length_map]; exact hlen es' hes'
   ·
    rw [hfl, List.getElem?_map] at hj
    obtain ⟨q, hq, rfl⟩ := Option.map_eq_some_iff.1 hj
    refine ⟨u j, ?_, (hp j q hq).shr⟩
    rw [List.getElem?_map, List.getElem?_range (List.getElem?_eq_some_iff.1 hq).1]
    rfl
 | str h1 =>
  rename_i d b
  subst h1
  simp only [AVR] at hv
  have hpv := hv.1
  cases hpv
  have hfl : ((b.data.toList.map fun x => [PV.v (.int .u8 x.toNat)])).flatten = b.data.toList.map fun x => PV.v (.int .u8 x.toNat) := by
   generalize b.data.toList = l
   induction l with
   | nil => rfl
   | cons x l ih => simp [ih]
  have hsz : (b.data.toList.map fun x => [PV.v (.int .u8 x.toNat)]).length = b.size := by rw [List.length_map, Array.length_toList]; rfl
  refine ⟨byteCells b, fun _ => [], by rw [hsz]; exact Src.ofString w hk b, by rw [hfl]; simp [byteCells], fun es h => ?_, fun j p hj => ?_, by rw [zBX]; simp, by rw [zBX]; simp⟩
  ·
   simp only [List.mem_map] at h
   obtain ⟨_, _, rfl⟩ := h
   rfl
  ·
   rw [hfl, List.getElem?_map] at hj
   cases hb : b.data.toList[j]? with
   | none => rw [hb] at hj; cases hj
   | some x =>
    rw [hb] at hj
    cases hj
    exact ⟨.int .u8 x.toNat, by simp only [byteCells, List.getElem?_map, hb]; rfl, .v _ rfl⟩
end
theorem zEu {P : Program} {w : World} {t tx ty e : TypeId} {i : TypeInfo} (ht : P.underlying t = some (.slice e)) (hi : P.info? e = some i) {g sLen sCap : Nat} {cur : Array Value} {ety : TypeId} {fz : Nat × Nat} (hg : w.heap[g]? = some (.cells cur ety fz)) (hz : fz = (0, 0) ∨ cur.size ≤ fz.1) {x : Value} {n : Nat} {news : List Value} (hs : Src P i.size tx x n news w)
  (hroom : sLen + n ≤ sCap) (hfit : sLen * i.size + news.length ≤ cur.size) :
  (Builtin.append_ #[t, tx] ty #[.slice (some ⟨g, 0, none⟩) sLen sCap, x]).run P w = .ok (.slice (some ⟨g, 0, none⟩) (sLen + n) sCap) (w.setRow g ⟨over cur.toList (sLen * i.size) news⟩) := by
 have hst := zCY P g (sLen * i.size) ety fz news 0 cur w hg hz (by simpa using hfit) hs.one
 simp only [Nat.add_zero] at hst
 rcases hs.kind with ⟨e', hk⟩ | hk <;> simp [Builtin.append_, run_underlying ht, run_underlying hk, sizeOf, typeInfo, hi, hs.len, hroom, hs.cells, Addr.add0, hst, over]

inductive BaseA (s : St) (id ib sz : Nat) : AV → List (List PV) → List Nat → Prop where
 | row {len : Nat} {xs : List (List PV)} (hr : s.r ib = some (sz, xs)) (hl : len = xs.length) (hid : id = ib ∨ s.r id = none) : BaseA s id ib sz (.sl ib 0 len) xs [ib]
 | nils (hr : s.r id = none) : BaseA s id ib sz .nils [] []
theorem zDr {α β : Type} {f g : α → List β} : ∀ {l : List α}, (∀ x ∈ l, f x = g x) → l.flatMap f = l.flatMap g
 | [], _ => rfl
 | x :: l, h => by rw [List.flatMap_cons, List.flatMap_cons, h x (by simp), zDr (fun y hy => h y (by simp [hy]))]
theorem zDq {m m' : Nat → List Nat} (a b : Nat) : (List.range (a + b)).flatMap (fun j => if j < a then m j else m' (j - a)) = (List.range a).flatMap m ++ (List.range b).flatMap m' := by
 rw [List.range_add, List.flatMap_append]
 congr 1
 · exact zDr (fun j hj => if_pos (List.mem_range.1 hj))
 ·
  rw [List.flatMap_map]
  exact zDr (fun j _ => by rw [if_neg (by omega)]; congr 1; omega)
section
variable {w0 : World} {I : Fr} {n : Nat} {L : Pl} {s : St} {a : Act} {w : World} {P : Program}
theorem Rel.append (h : Rel w0 I n L s a w) {id ib sz : Nat} {av bv : AV} {xs news : List (List PV)} {Kb K : List Nat} (gb : BaseA s id ib sz av xs Kb) (g : SrcA s sz bv news K) {t tx e : TypeId} {z : Value} {by' : Nat} (ht : P.underlying t = some (.slice e)) (hk : zEr P tx bv)
  (hi : (P.info? e).map (fun i => (i.zero, i.size, i.bytes)) = some (some z, sz, by')) (hzs : z.cells.size = sz) (hne : ib ∉ K) (hid1 : id < pinT) (hlen' : xs.length + news.length ≤ maxLen) (hby : (xs.length + news.length) * by' ≤ 140737488355328) {v x : Value} (hv : AVR L w s av v) (hx : AVR L w s bv x) (ty : TypeId) :
  ∃ v' w' N, (Builtin.append_ #[t, tx] ty #[v, x]).run P w = .ok v' w' ∧
   Rel w0 I n (L.row id v' N) { t := fun i => (s.t i).kill (Kb ++ K), b := fun j => (s.b j).map (AV.kills (Kb ++ K)), r := upd (s.kill (Kb ++ K)).r id (some (sz, xs ++ news)) } a w' := by
 obtain ⟨us, m, hs, hul, hel, hpv, hnd, hlb⟩ := g.ok h hk hx
 obtain ⟨i, h1, h2, h3, h4⟩ := zFf hi
 have hK : ∀ k ∈ (List.range news.flatten.length).flatMap m, ∃ j ∈ K, L.lab k = some (.row j) ∧ (s.r j).isSome := fun k hk => by
  obtain ⟨j, hj, hkj⟩ := List.mem_flatMap.1 (hlb k hk)
  have hsome : (s.r j).isSome := by
   cases g <;> simp at hj
   subst hj
   simp [*]
  obtain ⟨⟨sz', xs'⟩, hxj⟩ := Option.isSome_iff_exists.1 hsome
  exact ⟨j, hj, (h.rw j sz' xs' hxj).2.2 k (List.mem_of_mem_tail hkj), hsome⟩
 have hnew : ∀ {w1 : World}, w1.heap = w.heap → ∀ j p, news.flatten[j]? = some p → ∃ u, us[j]? = some u ∧ PVO L.Z w1 p u (m j) := fun hw j p hj => by
  obtain ⟨u, hu, hr⟩ := hpv j p hj
  exact ⟨u, hu, hr.mono (fun k _ => by rw [hw]) (fun k _ => by rw [hw]) (fun _ h => h)⟩
 have hnl : news.flatten.length = news.length * sz := zCg hel
 -- what the base has
 have base : ((∃ A, v = .slice A 0 0) ∧ xs = [] ∧ (s.r id = none ∨ id ∈ Kb)) ∨ ∃ k c cur ety fz m0, FzOk fz cur.size sz ∧ v = .slice (some ⟨k, 0, none⟩) xs.length c ∧ w.heap[k]? = some (.cells cur ety fz) ∧ cur.size = c * sz ∧ xs.length ≤ c ∧ 0 < c ∧ c ≤ maxLen ∧ (∀ es ∈ xs, es.length = sz) ∧
   (∀ j p, xs.flatten[j]? = some p → ∃ u, cur[j]? = some u ∧ PVO L.Z w p u (m0 j)) ∧ (k :: (List.range xs.flatten.length).flatMap m0).Nodup ∧ (∀ x ∈ k :: (List.range xs.flatten.length).flatMap m0, L.lab x = some (.row ib)) ∧ Kb = [ib] ∧ (id = ib ∨ s.r id = none) := by
  cases gb with
  | nils hr => simp only [AVR] at hv; exact .inl ⟨hv, rfl, .inl hr⟩
  | row hr hl hid =>
   have hp := Gv.ok h (.row hr hl) hv
   simp only [List.flatMap_cons, List.flatMap_nil, List.append_nil] at hp
   obtain ⟨_, h6, h7⟩ := h.rw _ _ _ hr
   generalize hN : L.ν ib = N at hp h6 h7
   cases hp with
   | nil _ A => exact .inl ⟨⟨A, rfl⟩, rfl, hid.symm.imp (fun h => h) (fun h => by simp [h])⟩
   | own _ _ k c cur ety hlen hkk hsz hc hm u nn hcell hp hfz =>
    exact .inr ⟨k, c, cur, ety, _, nn, hfz, rfl, hkk, hsz, hc.1, hc.2, hm, hlen, fun j p hj => ⟨u j, hcell j (List.getElem?_eq_some_iff.1 hj).1, hp j p hj⟩, h6, h7, rfl, hid⟩
 have grown : ∀ (sCap : Nat) (olds : List Value) (m0 : Nat → List Nat), sCap < xs.length + news.length → (Builtin.firstCells i.size xs.length v).run P w.drew = .ok olds.toArray w.drew → (∃ A, v = .slice A xs.length sCap) → olds.length = xs.flatten.length → (∀ es ∈ xs, es.length = sz) →
   (∀ j p, xs.flatten[j]? = some p → ∃ u, olds[j]? = some u ∧ PVO L.Z w p u (m0 j)) → ((List.range xs.flatten.length).flatMap m0).Nodup → (∀ x ∈ (List.range xs.flatten.length).flatMap m0, L.lab x = some (.row ib) ∧ ib ∈ Kb) → (s.r id = none ∨ id ∈ Kb) →
   ∃ v' w' N, (Builtin.append_ #[t, tx] ty #[v, x]).run P w = .ok v' w' ∧
    Rel w0 I n (L.row id v' N) { t := fun i => (s.t i).kill (Kb ++ K), b := fun j => (s.b j).map (AV.kills (Kb ++ K)), r := upd (s.kill (Kb ++ K)).r id (some (sz, xs ++ news)) } a w' := by
  intro sCap olds m0 hg hold hA hol hlen hp hnd0 hl0 hid
  obtain ⟨A, rfl⟩ := hA
  have hrun := run_append_grow_src (P := P) w t tx ty e i z ht h1 h2 A xs.length sCap olds hold x news.length us (by rw [h3]; exact hs) hg (by simp only [maxLen] at hlen'; omega) (growslice_fits hg (by rw [h4]; exact hby))
  have hge := grownCap_ge w (xs.length + news.length) sCap e
  have hcm := grownCap_le_maxLen w (xs.length + news.length) sCap e hlen'
  have hdr : Rel w0 I n L s a w.drew := h.drawn _
  have hfl : (xs ++ news).flatten.length = xs.flatten.length + news.flatten.length := by rw [List.flatten_append, List.length_append]
  have hxl : xs.flatten.length = xs.length * sz := zCg hlen
  have hmm := zDq (m := m0) (m' := m) xs.flatten.length news.flatten.length
  rw [← hfl] at hmm
  obtain ⟨N, hfr⟩ := hdr.fresh (Kb ++ K) id (cur := (olds ++ us).toArray ++ Builtin.zeroCells z.cells (grownCap w (xs.length + news.length) sCap e - (xs.length + news.length))) e (sz := sz) (c := grownCap w (xs.length + news.length) sCap e) (xs := xs ++ news)
   (fun es hes => (List.mem_append.1 hes).elim (hlen es) (hel es)) (by
    simp only [Array.size_append, List.size_toArray, size_zeroCells, hzs, List.length_append, hol, hul, hxl, hnl, ← Nat.add_mul]
    congr 1
    omega) (by simpa using hge) hcm (fun j => if j < xs.flatten.length then m0 j else m (j - xs.flatten.length)) (fun j p hj => by
    rw [List.flatten_append] at hj
    have hj2 : j < (olds ++ us).length := by rw [List.length_append, hol, hul, ← List.length_append]; exact (List.getElem?_eq_some_iff.1 hj).1
    have hget : ((olds ++ us).toArray ++ Builtin.zeroCells z.cells (grownCap w (xs.length + news.length) sCap e - (xs.length + news.length)))[j]? = (olds ++ us)[j]? := by
     rw [Array.getElem?_append_left (by simpa using hj2)]
     simp
    rw [hget]
    split
    ·
     rename_i hlt
     rw [List.getElem?_append_left hlt] at hj
     rw [List.getElem?_append_left (by omega)]
     obtain ⟨u, hu, hr⟩ := hp j p hj
     exact ⟨u, hu, hr.mono (fun k _ => rfl) (fun k _ => rfl) (fun _ h => h)⟩
    ·
     rename_i hge'
     rw [List.getElem?_append_right (by omega)] at hj
     rw [List.getElem?_append_right (by omega), hol]
     exact hnew (w1 := w.drew) rfl _ p hj) (fun k hk => by
    rw [hmm] at hk
    rcases List.mem_append.1 hk with hk | hk
    · exact ⟨ib, List.mem_append_left _ (hl0 k hk).2, (hl0 k hk).1⟩
    ·
     obtain ⟨j, hj, hlj, _⟩ := hK k hk
     exact ⟨j, List.mem_append_right _ hj, hlj⟩) (by
    rw [hmm]
    refine List.nodup_append.2 ⟨hnd0, hnd, fun k hk k' hk' e => ?_⟩
    subst e
    obtain ⟨j, hj, hlj, _⟩ := hK k hk'
    rw [(hl0 k hk).1] at hlj
    simp only [Option.some.injEq, Lab.row.injEq] at hlj
    subst hlj
    exact hne hj) hid1 (hid.imp (fun h => h) (fun h => List.mem_append_left _ h))
  exact ⟨_, _, _, hrun, by rw [List.length_append] at hfr; exact hfr⟩
 have size : i.size = sz := h3
 rcases base with ⟨⟨A, rfl⟩, rfl, hid⟩ | ⟨k, c, cur, ety, fz, m0, hfz, rfl, hkk, hcs, hc, hc0, hcm, hlen, hp, hnd0, hl0, rfl, hidb⟩
 ·
  by_cases hz : news.length = 0
  ·
   have hn0 : news = [] := List.eq_nil_of_length_eq_zero hz
   subst hn0
   have hu0 : us = [] := List.eq_nil_of_length_eq_zero (by simpa using hul)
   subst hu0
   have hrun := run_append_nothing (P := P) w t tx ty e i ht h1 A 0 0 (Nat.le_refl 0) x (by rw [size]; exact hs)
   refine ⟨_, _, [], hrun, ?_⟩
   exact h.setrow (Kb ++ K) (J := []) (Same.refl [] w) (by simp) (.nil sz A) (by simp) (by simp) hid1 (hid.imp (fun h => h) (fun h => List.mem_append_left _ h))
  · exact grown 0 [] (fun _ => []) (by simp; omega) (by cases A <;> simp [Builtin.firstCells, loadCells, loadCellsFrom]) ⟨A, rfl⟩ rfl (by simp) (by simp) (by simp) (by simp) hid
 ·
  have hxl : xs.flatten.length = xs.length * sz := zCg hlen
  have hcl0 : cur.toList.length = cur.size := Array.length_toList
  have hle : xs.length * sz ≤ cur.size := by rw [hcs]; exact Nat.mul_le_mul_right _ hc
  by_cases hroom : xs.length + news.length ≤ c
  ·
   have hfit : xs.length * sz + us.length ≤ cur.toList.length := by rw [hul, hnl, hcl0, hcs, ← Nat.add_mul]; exact Nat.mul_le_mul_right _ hroom
   have hrun := zEu (P := P) (w := w) (tx := tx) (ty := ty) ht h1 hkk hfz.free (x := x) (n := news.length) (news := us) (by rw [size]; exact hs) hroom (by rw [size, ← hcl0]; exact hfit)
   rw [size] at hrun
   have hmm := zDq (m := m0) (m' := m) xs.flatten.length news.flatten.length
   have hfl : (xs ++ news).flatten.length = xs.flatten.length + news.flatten.length := by rw [List.flatten_append, List.length_append]
   rw [← hfl] at hmm
   have hoff : ∀ {y}, y ≠ k → (w.setRow k ⟨over cur.toList (xs.length * sz) us⟩).heap[y]? = w.heap[y]? := fun hy => setRow_other w k _ _ hy
   have hzk : ∀ y, L.Z y → y ≠ k := fun y hy e => by subst e; have h1 := (h.zlt y hy).2; rw [hl0 y (by simp)] at h1; cases h1
   have hset : PVO L.Z (w.setRow k ⟨over cur.toList (xs.length * sz) us⟩) (.sl true sz (xs ++ news)) (.slice (some ⟨k, 0, none⟩) (xs ++ news).length c) (k :: (List.range (xs ++ news).flatten.length).flatMap (fun j => if j < xs.flatten.length then m0 j else m (j - xs.flatten.length))) := by
    refine zID (fun es hes => (List.mem_append.1 hes).elim (hlen es) (hel es)) (setRow_heap w k _ _ _ _ hkk) (by simp [over]; simp at hfit; omega) (by simpa using hroom) hc0 hcm _ (fun j p hj => ?_) (by
     have : (⟨over cur.toList (xs.length * sz) us⟩ : Array Value).size = cur.size := by simp [over]; simp at hfit; omega
     rw [this]; exact hfz)
    rw [List.flatten_append] at hj
    have hg : (⟨over cur.toList (xs.length * sz) us⟩ : Array Value)[j]? = (over cur.toList (xs.length * sz) us)[j]? := by simp
    rw [hg, zDf hfit]
    by_cases hlt : j < xs.flatten.length
    ·
     rw [if_pos hlt]
     rw [List.getElem?_append_left hlt] at hj
     rw [if_neg (by omega)]
     obtain ⟨u, hu, hr⟩ := hp j p hj
     refine ⟨u, by simpa using hu, hr.mono (fun y hy => hoff (hzk y hy)) (fun y hy => hoff (fun e => ?_)) (fun _ h => h)⟩
     subst e
     exact (List.nodup_cons.1 hnd0).1 (List.mem_flatMap.2 ⟨j, by simpa using hlt, hy⟩)
    ·
     rw [if_neg hlt]
     rw [List.getElem?_append_right (by omega)] at hj
     obtain ⟨u, hu, hr⟩ := hpv _ p hj
     have hlt2 := (List.getElem?_eq_some_iff.1 hu).1
     rw [if_pos (by omega)]
     refine ⟨u, by rw [← hxl]; exact hu, hr.mono (fun y hy => hoff (hzk y hy)) (fun y hy => hoff (fun e => ?_)) (fun _ h => h)⟩
     subst e
     obtain ⟨q, hq, hlq, _⟩ := hK y (List.mem_flatMap.2 ⟨_, by rw [← hul]; simpa using hlt2, hy⟩)
     rw [hl0 y (by simp)] at hlq
     simp only [Option.some.injEq, Lab.row.injEq] at hlq
     subst hlq
     exact hne hq
   refine ⟨_, _, k :: (List.range (xs ++ news).flatten.length).flatMap (fun j => if j < xs.flatten.length then m0 j else m (j - xs.flatten.length)), hrun, ?_⟩
   rw [List.length_append] at hset
   refine h.setrow ([ib] ++ K) (J := [k]) ((Same.refl [k] w).setRow (.inr (by simp)) _) (fun y hy => ⟨ib, by simp, hl0 y (by rw [List.mem_singleton.1 hy]; exact List.mem_cons_self)⟩) hset (fun y hy => ?_) ?_ hid1 (hidb.symm.imp (fun h => h) (fun h => by simp [h]))
   ·
    rw [hmm] at hy
    rcases List.mem_cons.1 hy with rfl | hy
    · exact .inl ⟨ib, by simp, hl0 y (by simp)⟩
    ·
     rcases List.mem_append.1 hy with hy | hy
     · exact .inl ⟨ib, by simp, hl0 y (List.mem_cons_of_mem _ hy)⟩
     ·
      obtain ⟨q, hq, hlq, _⟩ := hK y hy
      exact .inl ⟨q, by simp [hq], hlq⟩
   ·
    rw [hmm, ← List.cons_append]
    refine List.nodup_append.2 ⟨hnd0, hnd, fun y hy y' hy' e => ?_⟩
    subst e
    obtain ⟨q, hq, hlq, _⟩ := hK y hy'
    rw [hl0 y hy] at hlq
    simp only [Option.some.injEq, Lab.row.injEq] at hlq
    subst hlq
    exact hne hq
  ·
   have hol : (cur.toList.take xs.flatten.length).length = xs.flatten.length := by rw [List.length_take, hcl0]; omega
   refine grown c (cur.toList.take xs.flatten.length) m0 (by omega) ?_ ⟨_, rfl⟩ hol hlen (fun j p hj => ?_) (List.nodup_cons.1 hnd0).2 (fun y hy => ⟨hl0 y (List.mem_cons_of_mem _ hy), by simp⟩) (hidb.symm.imp (fun h => h) (fun h => by simp [h]))
   ·
    refine run_firstCells_some w.drew i.size xs.length ⟨k, 0, none⟩ xs.length c _ (by rw [hol, hxl, size]) (fun j u hu => ?_)
    rw [Addr.add0, Nat.zero_add]
    simp only [World.cell?, World.drew, hkk]
    rw [List.getElem?_take] at hu
    split at hu
    · simpa using hu
    · cases hu
   ·
    obtain ⟨u, hu, hr⟩ := hp j p hj
    refine ⟨u, ?_, hr⟩
    rw [List.getElem?_take, if_pos (List.getElem?_eq_some_iff.1 hj).1]
    simpa using hu
end
section
variable {γ : Gho} {P : Program} {n : Nat} {o : Oper} {M B : List Nat} {s : St}
theorem BaseA.at {s s' : St} {id ib sz : Nat} {av : AV} {xs : List (List PV)} {K : List Nat} (g : BaseA s id ib sz av xs K) (h : s'.r id = s.r id) (h' : ∀ i ∈ av.rows, s'.r i = s.r i) : BaseA s' id ib sz av xs K := by
 cases g with
 | row hr hl hid => exact .row ((h' _ (by simp [AV.rows])).trans hr) hl (hid.imp (fun h => h) (fun e => h.trans e))
 | nils hr => exact .nils (h.trans hr)
theorem SrcA.at {s s' : St} {sz : Nat} {av : AV} {xs : List (List PV)} {K : List Nat} (g : SrcA s sz av xs K) (h : ∀ id ∈ av.rows, s'.r id = s.r id) : SrcA s' sz av xs K := by
 cases g with
 | nils => exact .nils
 | row hr hl hf => exact .row ((h _ (by simp [AV.rows])).trans hr) hl hf
 | give hr hl => exact .give ((h _ (by simp [AV.rows])).trans hr) hl
 | fro hf => exact .fro hf
 | frn => exact .frn
 | str h1 => exact .str h1
theorem zB2 {x y : Operand} {t tx e : TypeId} (ho : o.op = .call { callee := .builtin .append, args := #[x, y], argTypes := #[t, tx] }) (id : Nat) {ib : Nat} {av bv : AV} {sz by' len : Nat} {xs news : List (List PV)} {Kb K : List Nat} {z : Value} (hx : s.ev x = av) (hy : s.ev y = bv)
  (gb : BaseA s id ib sz av xs Kb) (g : SrcA s sz bv news K) (ht : P.underlying t = some (.slice e)) (hk : zEr P tx bv) (hi : (P.info? e).map (fun i => (i.zero, i.size, i.bytes)) = some (some z, sz, by')) (hzs : z.cells.size = sz) (hM : id ∈ M) (hne : ib ∉ K) (hid1 : id < pinT) (hlen : len = xs.length + news.length)
  (hm : len ≤ maxLen) (hby : len * by' ≤ 140737488355328) : StepD γ P n o M B s { put := .sl id 0 len, kill := Kb ++ K, setR := [(id, sz, xs ++ news)] } := by
 intro s' ag hd w0 I L a w hG hr KK Q hK
 subst hlen
 have e1 := ag.ev1 ho (x := x) (by simp [Op.operands, Call.operands])
 have e2 := ag.ev1 ho (x := y) (by simp [Op.operands, Call.operands])
 have hv := hr.ev x
 rw [e1, hx] at hv
 have hv2 := hr.ev y
 rw [e2, hy] at hv2
 have gb' : BaseA s' id ib sz av xs Kb := gb.at (ag.m id hM) (fun i hi => ag.r1 ho (by simp [Op.operands, Call.operands]) hx hi)
 have g' : SrcA s' sz bv news K := g.at (fun i hi => ag.r1 ho (by simp [Op.operands, Call.operands]) hy hi)
 obtain ⟨v', w', N, hrun, hrel⟩ := hr.append gb' g' ht hk hi hzs hne hid1 hm hby hv hv2 o.type
 have he : (execOp a.eval o).run P w = .ok (.value v') w' := by
  simp only [execOp, ho, resolve, invoke, builtin, Sem.run_bind, Sem.run_pure, Result.andThen_ok, List.map_toArray, List.map_cons, List.map_nil, hrun]
 unfold Oper.wp
 rw [he, Oper.upon_value]
 have hfin := hrel.put hd (av := .sl id 0 (xs.length + news.length)) (v := v') (zFm (sz := sz) (xs := xs ++ news) (by simp) (by simp [Pl.row]) (hrel.rw id sz _ (by simp)).1 (by simp))
 exact hK _ _ _ (by rw [Dl.app, zDX]; exact hfin)
end
end Go.Rl
namespace Go.Rl
open Go.RowKit

def zIY (place : Nat → Option (Nat × Nat)) (cs : List AV) : List (Nat × AV) → Option (List AV)
 | [] => some cs
 | (i, av) :: rest => match place i with
  | none => none
  | some (off, size) => match Nat.beq av.cells.length size && Nat.ble (off + size) cs.length && av.fits with
   | true => zIY place (over cs off av.cells) rest
   | false => none
theorem zLf (off : Nat) (l : List Value) (cs : Array Value) (h : off + l.length ≤ cs.size) : (l.toArray.zipIdx.foldl (fun cs (x : Value × Nat) => cs.setIfInBounds (off + x.2) x.1) cs) = (over cs.toList off l).toArray := by
 rw [← Array.foldl_toList, Array.toList_zipIdx]
 obtain ⟨h1, h2⟩ := Great.foldl_set off l 0 cs
 apply Array.ext'
 apply List.ext_getElem?
 intro k
 have hl : off + l.length ≤ cs.toList.length := by simpa using h
 rw [Array.getElem?_toList, h2 k]
 simp only [Nat.add_zero]
 rw [zDf hl]
 by_cases h3 : off ≤ k ∧ k < off + l.length
 · rw [if_pos ⟨h3.1, h3.2, by omega⟩, if_pos h3]
 · rw [if_neg (fun e => h3 ⟨e.1, e.2.1⟩), if_neg h3, Array.getElem?_toList]
theorem zIX {L : Pl} {w : World} {s : St} {place : Nat → Option (Nat × Nat)} : ∀ {ps : List (Nat × AV)} {vs : List (Nat × Value)} {cs cs' : List AV} {us : List Value} (_ : ps.length = vs.length) (_ : ∀ (j : Nat) i av, ps[j]? = some (i, av) → ∃ v, vs[j]? = some (i, v) ∧ AVR L w s av v) (_ : AVRs L w s cs us) (_ : zIY place cs ps = some cs'), ∃ us', Instr.fill place us.toArray vs = some us'.toArray ∧ AVRs L w s cs' us'
 | [], [], cs, cs', us, _, _, hc, hf => by simp only [zIY, Option.some.injEq] at hf; subst hf; exact ⟨us, rfl, hc⟩
 | [], _ :: _, _, _, _, hl, _, _, _ => by simp at hl
 | _ :: _, [], _, _, _, hl, _, _, _ => by simp at hl
 | (i, av) :: ps, (i', v) :: vs, cs, cs', us, hl, hv, hc, hf => by
  obtain ⟨v', h1, h2⟩ := hv 0 i av rfl
  simp only [List.getElem?_cons_zero, Option.some.injEq, Prod.mk.injEq] at h1
  obtain ⟨rfl, rfl⟩ := h1
  simp only [zIY] at hf
  simp only [Instr.fill]
  cases hp : place i' with
  | none => rw [hp] at hf; cases hf
  | some os =>
   obtain ⟨off, size⟩ := os
   rw [hp] at hf
   simp only at hf ⊢
   split at hf
   ·
    rename_i hb
    simp only [Bool.and_eq_true, Nat.beq_eq, Nat.ble_eq] at hb
    obtain ⟨⟨h3, h4⟩, h5⟩ := hb
    obtain ⟨h6, h7⟩ := h2.cells h5
    have hlen := h6.length
    have hcl := hc.length
    have hsz : v.cells.size = size := by rw [← Array.length_toList]; omega
    have e1 : ¬ (v.cells.size ≠ size) := by simp [hsz]
    have e2 : ¬ (off + v.cells.size > us.toArray.size) := by simp [hsz]; omega
    simp only [hsz, ne_eq, not_true_eq_false, decide_false, Bool.false_or]
    rw [if_neg (by simp; omega)]
    have hfo := zLf off v.cells.toList us.toArray (by simp [hsz]; omega)
    simp only [Array.toArray_toList] at hfo
    have := zIX (ps := ps) (vs := vs) (cs := over cs off av.cells) (us := over us off v.cells.toList) (by simpa using hl) (fun j i av h => hv (j + 1) i av h) (hc.over h6 off (by omega)) hf
    rw [← hfo] at this
    exact this
   · cases hf

section
variable {γ : Gho} {P : Program} {n : Nat} {o : Oper} {M B : List Nat} {s : St}
def zFJ (s : St) (parts : List (Nat × Operand)) : List (Nat × AV) := parts.map fun p => (p.1, s.ev p.2)
theorem zJY {t : TypeId} {fs : Array Field} {z : Value} {sz by' : Nat} {pl : List (Nat × Nat)} (hu : P.underlying t = some (.struct fs)) (hi : (P.info? t).map (fun i => (i.zero, i.size, i.bytes)) = some (some z, sz, by')) (hp : fs.toList.mapM (fun f => (P.info? f.type).map fun i => (f.offset, i.size)) = some pl) (vs : List (Nat × Value)) :
  P.built t vs = Instr.fill (pl.toArray[·]?) z.cells vs := by
 obtain ⟨i, h1, h2, h3, h4⟩ := zFf hi
 simp only [Program.built, h1, hu, h2, hp]
theorem zKo {w0 : World} {I : Fr} {L : Pl} {a : Act} {w : World} (hr : Rel w0 I n L s a w) (parts : Array (Nat × Operand)) : (zFJ s parts.toList).length = (parts.map fun (i, x) => (i, a.eval x)).toList.length ∧ ∀ (j : Nat) i av, (zFJ s parts.toList)[j]? = some (i, av) → ∃ v, (parts.map fun (i, x) => (i, a.eval x)).toList[j]? = some (i, v) ∧ AVR L w s av v := by
 refine ⟨by simp [zFJ], fun j i av h => ?_⟩
 simp only [zFJ, List.getElem?_map, Option.map_eq_some_iff, Prod.mk.injEq] at h
 obtain ⟨⟨i', x⟩, h1, rfl, rfl⟩ := h
 refine ⟨a.eval x, ?_, hr.ev x⟩
 rw [Array.toList_map, List.getElem?_map, h1]
 rfl
theorem zKp {s' : St} {t : TypeId} {parts : Array (Nat × Operand)} (ho : o.op = .build t parts ∨ ∃ l, o.op = .buildSlice t l parts) (ag : Ag o M B s s') : zFJ s' parts.toList = zFJ s parts.toList := by
 simp only [zFJ]
 refine List.map_congr_left (fun p hp => ?_)
 have : p.2 ∈ Oper.asked o := by
  unfold Oper.asked
  rcases ho with ho | ⟨l, ho⟩ <;> rw [ho] <;> simp only [Op.operands, List.mem_map] <;> exact ⟨p, hp, rfl⟩
 rw [ag.ev _ this]
theorem zAt {t : TypeId} {parts : Array (Nat × Operand)} (ho : o.op = .build t parts) {fs : Array Field} {z : Value} {sz by' : Nat} {pl : List (Nat × Nat)} {cs : List AV} (hu : P.underlying t = some (.struct fs)) (hi : (P.info? t).map (fun i => (i.zero, i.size, i.bytes)) = some (some z, sz, by'))
  (hp : fs.toList.mapM (fun f => (P.info? f.type).map fun i => (f.offset, i.size)) = some pl) (hz : (cst z).fits = true) (hf : zIY (pl.toArray[·]?) (cst z).cells (zFJ s parts.toList) = some cs) : StepD γ P n o M B s { put := .agg cs } :=
 zA6 fun s' ag w0 I L a w hr => by
  obtain ⟨h1, h2⟩ := zKo hr parts
  rw [zKp (.inl ho) ag] at h1 h2
  obtain ⟨us, h3, h4⟩ := zIX h1 h2 ((zIf L w s' z).cells hz).1 hf
  refine ⟨.agg ⟨us⟩, ?_, by simp only [AVR]; exact ⟨us, rfl, h4⟩⟩
  rw [Array.toArray_toList, ← zJY hu hi hp] at h3
  simp only [execOp, ho, Sem.run_bind, run_build w t _ _ h3, Result.andThen_ok]
  rfl
def zEn {α : Type} (sz : Nat) : Nat → List α → List (List α)
 | 0, _ => []
 | l + 1, xs => xs.take sz :: zEn sz l (xs.drop sz)
theorem zJV {α : Type} (sz : Nat) : ∀ (l : Nat) (xs : List α), xs.length = l * sz → (zEn sz l xs).flatten = xs ∧ (zEn sz l xs).length = l ∧ ∀ es ∈ zEn sz l xs, es.length = sz
 | 0, xs, h => by
  have : xs = [] := List.eq_nil_of_length_eq_zero (by simpa using h)
  subst this
  simp [zEn]
 | l + 1, xs, h => by
  rw [Nat.succ_mul] at h
  obtain ⟨h1, h2, h3⟩ := zJV sz l (xs.drop sz) (by simp; omega)
  refine ⟨by simp [zEn, h1], by simp [zEn, h2], fun es hes => ?_⟩
  rcases List.mem_cons.1 hes with rfl | hes
  · simp; omega
  · exact h3 es hes
theorem Gvs.at {s s' : St} {aL : List AV} {ps : List PV} {K : List Nat} (g : Gvs s aL ps K) (h : ∀ id ∈ AV.rowss aL, s'.r id = s.r id) : Gvs s' aL ps K := by
 induction g with
 | nil => exact .nil
 | cons g _ ih =>
  refine .cons ?_ (ih (fun id hi => h id (by simp only [AV.rowss, List.mem_append]; exact .inr hi)))
  cases g with
  | v => exact .v
  | fro => exact .fro
  | clo => exact .clo
  | nil sz => exact .nil sz
  | row hr hl => exact .row ((h _ (by simp [AV.rowss, AV.rows])).trans hr) hl
  | pre hr hl hn => exact .pre ((h _ (by simp [AV.rowss, AV.rows])).trans hr) hl hn
theorem zAy {t e : TypeId} {len : Nat} {parts : Array (Nat × Operand)} (ho : o.op = .buildSlice t len parts) (id : Nat) {z : Value} {sz by' : Nat} {cs : List AV} {ps : List PV} {K : List Nat} {xs : List (List PV)} (hu : P.underlying t = some (.slice e)) (hi : (P.info? e).map (fun i => (i.zero, i.size, i.bytes)) = some (some z, sz, by'))
  (hsm : len * sz ≤ 16777216) (hpos : 0 < sz) (hzs : z.cells.size = sz) (hz : (cst z).fits = true) (hf : zIY (fun i => some (i * sz, sz)) (List.replicate len (cst z).cells).flatten (zFJ s parts.toList) = some cs) (g : Gvs s cs ps K) (hnd : K.Nodup) (hx : xs = zEn sz len ps) (hid1 : id < pinT) (hid : s.r id = none) (hM : id ∈ M) (hMK' : (AV.rowss cs).all (fun i => M.elem i) = true) :
  StepD γ P n o M B s { put := .sl id 0 len, kill := K, setR := [(id, sz, xs)] } := by
 intro s' ag hd w0 I L a w hG hr KK Q hK
 have hMK : ∀ i ∈ AV.rowss cs, i ∈ M := fun i hi => by simpa using (List.all_eq_true.1 hMK') i hi
 subst hx
 obtain ⟨h1, h2⟩ := zKo hr parts
 rw [zKp (.inr ⟨len, ho⟩) ag] at h1 h2
 have hid' : s'.r id = none := (ag.m id hM).trans hid
 obtain ⟨hz1, hz2⟩ := (zIf L w s' z).cells hz
 have hzl : z.cells.toList.length = sz := by simpa using hzs
 have hrep : ∀ l, AVRs L w s' (List.replicate l (cst z).cells).flatten (List.replicate l z.cells.toList).flatten := fun l => by
  have hl := hz1.length
  refine AVRs.mk (by simp [hl]) (fun j x u hx hu => ?_)
  have hj : j < l * z.cells.toList.length := by have := (List.getElem?_eq_some_iff.1 hu).1; simpa using this
  rw [zBc _ _ _ hj] at hu
  rw [zBc _ _ _ (by rw [hl]; exact hj), hl] at hx
  obtain ⟨u', hu', hr⟩ := hz1.get _ _ hx
  rw [hu] at hu'; cases hu'; exact hr
 obtain ⟨us, h3, h4⟩ := zIX h1 h2 (hrep len) hf
 have g' : Gvs s' cs ps K := g.at (fun i hi => ag.m i (hMK i hi))
 obtain ⟨h5, m, h6, h7⟩ := g'.ok hr h4
 have hzero : ((Array.range (len * sz)).map (z.cells[· % z.cells.size]!)) = (List.replicate len z.cells.toList).flatten.toArray := by
  apply Array.ext'
  apply List.ext_getElem?
  intro j
  rw [Array.getElem?_toList]
  by_cases hj : j < len * sz
  ·
   rw [zBc _ _ _ (by rw [hzl]; exact hj), hzl, Array.getElem?_map, Array.getElem?_range, if_pos hj]
   have hm : j % sz < z.cells.size := by rw [hzs]; exact Nat.mod_lt _ hpos
   simp [hzs]
   rw [getElem!_pos z.cells (j % sz) hm, Array.getElem?_eq_getElem hm]
  ·
   rw [List.getElem?_eq_none (l := (List.replicate len z.cells.toList).flatten) (by simp [hzs]; omega)]
   simp [hj]
 have hflen : ∀ (ps : List (Nat × AV)) (cs cs' : List AV), zIY (fun i => some (i * sz, sz)) cs ps = some cs' → cs'.length = cs.length := by
  intro ps
  induction ps with
  | nil => intro cs cs' h; simp only [zIY, Option.some.injEq] at h; rw [h]
  | cons p ps ih =>
   intro cs cs' h
   simp only [zIY] at h
   split at h
   ·
    rename_i hb
    simp only [Bool.and_eq_true, Nat.beq_eq, Nat.ble_eq] at hb
    rw [ih _ _ h, zEa (by omega)]
   · cases h
 have hul : us.length = len * sz := by
  rw [← h4.length, hflen _ _ _ hf]
  have := hz1.length
  simp [this, hzs]
 have hpl : ps.length = len * sz := by omega
 obtain ⟨c1, c2, c3⟩ := zJV sz len ps hpl
 obtain ⟨i, e1, e2, e3, e4⟩ := zFf hi
 have hrun : (Instr.buildSlice t len (parts.map fun (i, x) => (i, a.eval x))).run P w = .ok (.slice (some ⟨w.heap.size, 0, none⟩) len len) (w.alloc (.cells us.toArray e)) := by
  by_cases h0 : len * sz = 0
  ·
   have hlen0 : len = 0 := by rcases Nat.mul_eq_zero.1 h0 with h | h; exact h; omega
   subst hlen0
   have hu0 : us = [] := List.eq_nil_of_length_eq_zero (by simpa using hul)
   subst hu0
   simp only [Nat.zero_mul, List.replicate_zero, List.flatten_nil] at h3
   simp [Instr.buildSlice, run_underlying hu, sizeOf, typeInfo, e1, e3, Array.range_zero', newRow]
   simp only [Array.toList_map] at h3
   rw [h3]
   simp
  ·
   refine run_buildSlice w t e len _ _ i z hu e1 e2 (by rw [e3]; omega) (by rw [e3]; exact h0) ?_
   rw [e3, hzero]
   exact h3
 have hnk := hr.nodup hnd (fun i hi => g'.rows i hi)
 obtain ⟨N, hfr⟩ := hr.fresh K id (cur := us.toArray) e (sz := sz) (c := len) (xs := zEn sz len ps) c3 (by simpa using hul) (by omega) (by simp only [maxLen]; have : len ≤ len * sz := Nat.le_mul_of_pos_right _ hpos; omega) m (fun j p hj => by
  rw [c1] at hj
  obtain ⟨u, hu, hr⟩ := h7 j p hj
  exact ⟨u, by simpa using hu, hr⟩) (by rw [c1, h6]; exact hnk.2) (by rw [c1, h6]; exact hnk.1) hid1 (.inl hid')
 have he : (execOp a.eval o).run P w = .ok (.value (.slice (some ⟨w.heap.size, 0, none⟩) len len)) (w.alloc (.cells us.toArray e)) := by
  simp only [execOp, ho, Sem.run_bind, hrun, Result.andThen_ok]
  rfl
 unfold Oper.wp
 rw [he, Oper.upon_value]
 have hfin := hfr.put hd (av := .sl id 0 len) (v := .slice (some ⟨w.heap.size, 0, none⟩) len len) (zFm (sz := sz) (xs := zEn sz len ps) (by simp) (by simp [Pl.row, c2]) (hfr.rw id sz _ (by simp)).1 c2.symm)
 exact hK _ _ _ (by rw [Dl.app, zDX]; exact hfin)
end
end Go.Rl
namespace Go.Rl
open Go.RowKit

def PV.nf : PV → Bool
 | .v _ => true
 | .sl o _ _ => !o
 | .clo _ _ => true
def NfP (xs : List (List PV)) : Prop := ∀ es ∈ xs, ∀ p ∈ es, PV.nf p = true
theorem FlatP.nf {xs : List (List PV)} (h : FlatP xs) : NfP xs := fun es he p hp => by
 have := h es he p hp
 cases p <;> first | rfl | cases this
theorem PVO.nfN {Z : Nat → Prop} {w : World} {p : PV} {v : Value} {N : List Nat} (h : PVO Z w p v N) (hn : p.nf = true) : N = [] := by
 cases h <;> first | rfl | (simp [PV.nf] at hn)
theorem zLY {α : Type} {e F ps : List α} {o : Nat} (h : o + ps.length ≤ e.length) : over (e ++ F) o ps = over e o ps ++ F := by
 simp only [over, List.append_assoc]
 rw [List.take_append_of_le_length (by omega), List.drop_append_of_le_length (by omega)]
theorem zLX {α : Type} {e F ps : List α} {o : Nat} : over (e ++ F) (e.length + o) ps = e ++ over F o ps := by
 simp only [over, List.append_assoc]
 rw [List.take_length_add_append, List.append_assoc, Nat.add_assoc, List.drop_length_add_append]
theorem zK2 {sz : Nat} : ∀ {xs : List (List PV)} (_ : ∀ es ∈ xs, es.length = sz) {i : Nat} {es ps : List PV} {o : Nat} (_ : xs[i]? = some es) (_ : o + ps.length ≤ sz), (xs.set i (over es o ps)).flatten = over xs.flatten (i * sz + o) ps
 | [], _, i, _, _, _, hi, _ => by simp at hi
 | e :: xs, hl, 0, es, ps, o, hi, ho => by
  simp at hi
  subst hi
  have he := hl e (by simp)
  simp only [List.set_cons_zero, List.flatten_cons, Nat.zero_mul, Nat.zero_add]
  exact (zLY (by omega)).symm
 | e :: xs, hl, i + 1, es, ps, o, hi, ho => by
  simp at hi
  have he := hl e (by simp)
  simp only [List.set_cons_succ, List.flatten_cons]
  rw [zK2 (fun es h => hl es (by simp [h])) hi ho, ← zLX, he]
  congr 1
  rw [Nat.succ_mul]; omega

section
variable {w0 : World} {I : Fr} {n : Nat} {L : Pl} {s : St} {a : Act} {w : World}
theorem Rel.poke (h : Rel w0 I n L s a w) {id sz : Nat} {xs xs' : List (List PV)} (hr : s.r id = some (sz, xs)) (hpos : 0 < xs.length) (hnf : NfP xs) (hlen : xs'.length = xs.length) (hl' : ∀ es ∈ xs', es.length = sz) {k nn c : Nat} (hρ : L.ρ id = .slice (some ⟨k, 0, none⟩) nn c) {cur cur' : Array Value} {ty : TypeId} {fz : Nat × Nat} (hk : w.heap[k]? = some (.cells cur ty fz)) (hs : cur'.size = cur.size)
  (hp : ∀ (j : Nat) p, xs'.flatten[j]? = some p → ∃ u, cur'[j]? = some u ∧ ((xs.flatten[j]? = some p ∧ cur[j]? = some u) ∨ PVO L.Z w p u [])) :
  Rel w0 I n L { s with r := upd s.r id (some (sz, xs')) } a (w.setRow k cur') := by
 obtain ⟨h1, h2, h3⟩ := h.rw id sz xs hr
 have hN : ∃ m, FzOk fz cur.size sz ∧ L.ν id = k :: m ∧ m = [] ∧ cur.size = c * sz ∧ xs.length ≤ c ∧ 0 < c ∧ c ≤ maxLen ∧ nn = xs.length ∧ ∀ (j : Nat) p, xs.flatten[j]? = some p → ∃ u, cur[j]? = some u ∧ PVO L.Z w p u [] := by
  rw [hρ] at h1
  generalize L.ν id = N at h1
  cases h1 with
  | nil => simp at hpos
  | own _ _ _ _ cur0 ty0 hlen0 hk0 hsz hc hm u m hcell hpp hfz =>
   rw [hk] at hk0
   cases hk0
   have hm0 : ∀ j, j < xs.flatten.length → m j = [] := fun j hj => (hpp j _ (List.getElem?_eq_getElem hj)).nfN (by
    obtain ⟨es, h1, h2⟩ := List.mem_flatten.1 (List.getElem_mem hj)
    exact hnf es h1 _ h2)
   refine ⟨_, hfz, rfl, ?_, hsz, hc.1, hc.2, hm, rfl, fun j p hj => ⟨u j, hcell j (List.getElem?_eq_some_iff.1 hj).1, by have := hpp j p hj; rwa [hm0 j (List.getElem?_eq_some_iff.1 hj).1] at this⟩⟩
   rw [zDr (g := fun _ => []) (fun x hx => hm0 x (List.mem_range.1 hx)), zBX]
 obtain ⟨m, hfz, hν, rfl, hsz, hc, hc0, hm, rfl, hpp⟩ := hN
 have hlk := h3 k (by rw [hν]; simp)
 have off : ∀ y, L.lab y ≠ some (.row id) → (w.setRow k cur').heap[y]? = w.heap[y]? := fun y hy => setRow_other w k y _ (fun e => hy (by rw [e]; exact hlk))
 have hzo : ∀ y, L.Z y → (w.setRow k cur').heap[y]? = w.heap[y]? := fun y hy => off y (by rw [(h.zlt y hy).2]; simp)
 refine h.next (K := []) (h.same.setRow (h.llt _ _ hlk).2 _) (fun y hy => ⟨by simpa using (h.zlt y hy).1, (h.zlt y hy).2⟩) (fun y l hy => ⟨by simpa using (h.llt y l hy).1, (h.llt y l hy).2⟩) ⟨fun y hy => ⟨hy, hzo y hy⟩, fun i y _ hi hy => ⟨.inr hy, ?_⟩, fun b hb => ⟨hb, rfl⟩, fun i sz0 xs0 _ hx => ?_⟩ (fun i => (AV.kill_nil _).symm)
  (fun i ds hd => .inl ⟨ds, hd, (AV.kills_nil _).symm, off _ (by rw [(h.bx i ds hd).1]; simp), rfl⟩) (fun i sz0 xs0 hx => ?_)
 ·
  by_cases e : i = id
  · subst e; rw [hν] at hy; cases hy
  ·
   obtain ⟨⟨sz0, xs0⟩, hx⟩ := Option.isSome_iff_exists.1 hi
   exact off y (by rw [(h.rw i sz0 xs0 hx).2.2 y (List.mem_of_mem_tail hy)]; simp [e])
 ·
  by_cases e : i = id
  ·
   subst e
   rw [hr] at hx
   cases hx
   exact ⟨xs', by simp, hlen, rfl⟩
  · exact ⟨xs0, by simp only [zBd _ _ e]; exact hx, rfl, rfl⟩
 ·
  by_cases e : i = id
  ·
   subst e
   simp only [upd_self, Option.some.injEq, Prod.mk.injEq] at hx
   obtain ⟨rfl, rfl⟩ := hx
   refine .inr ⟨.inr ⟨by rw [hr]; rfl, rfl⟩, ?_, h2, h3⟩
   rw [hρ, hν, ← hlen]
   have := zID (Z := L.Z) (w := w.setRow k cur') (k := k) (c := c) (sz := sz) (xs := xs') hl' (setRow_heap w k _ _ _ _ hk) (hs.trans hsz) (by omega) hc0 hm (fun _ => []) (fun j p hj => by
    obtain ⟨u, hu, hor⟩ := hp j p hj
    refine ⟨u, hu, ?_⟩
    rcases hor with ⟨h5, h6⟩ | h5
    ·
     obtain ⟨u', h7, h8⟩ := hpp j p h5
     rw [h6] at h7
     cases h7
     exact h8.mono hzo (by simp) (fun _ h => h)
    · exact h5.mono hzo (by simp) (fun _ h => h)) (by rw [hs]; exact hfz)
   rwa [zBX] at this
  ·
   simp only [zBd _ _ e] at hx
   exact .inl ⟨hx, rfl, rfl, fun y hy => ⟨off y (by rw [(h.rw i sz0 xs0 hx).2.2 y hy]; simp [e]), rfl⟩⟩
end

section
variable {γ : Gho} {P : Program} {n : Nat} {o : Oper} {M B : List Nat} {s : St}
theorem zJ6 (av : AV) : AV.rowss av.cells = av.rows := by cases av <;> simp [AV.cells, AV.rows, AV.rowss]
theorem zBC {ty : TypeId} {x y : Operand} {sz rz : Nat} (ho : o.op = .store ty x y) {id i off : Nat} {xs : List (List PV)} {es ps : List PV} {av : AV} (hx : s.ev x = .ea id i off) (hr : s.r id = some (rz, xs)) (hnf : NfP xs) (hi : xs[i]? = some es) (hy : s.ev y = av) (hf : av.fits = true) (g : Gvs s av.cells ps []) (hsz : ∀ w, (sizeOf ty).run P w = .ok sz w) (hl : av.cells.length = sz) (hle : off + sz ≤ rz) :
  StepD γ P n o M B s { setR := [(id, rz, xs.set i (over es off ps))] } := by
 intro s' ag hd w0 I L a w hG hrl K Q hK
 have h := hrl.ev y
 rw [ag.ev1 ho (by simp [Op.operands]), hy] at h
 have hr' := (ag.r1 ho (by simp [Op.operands]) hx (id := id) (by simp [AV.rows])).trans hr
 have hp := hrl.ev x
 rw [ag.ev1 ho (by simp [Op.operands]), hx] at hp
 simp only [AVR] at hp
 obtain ⟨sz', xs0, k, nn, c, e1, e2, e3, e4⟩ := hp
 rw [hr'] at e1
 cases e1
 obtain ⟨h1, h2⟩ := h.cells hf
 have hrows : ∀ j ∈ AV.rowss av.cells, s'.r j = s.r j := fun j hj => ag.r1 (x := y) ho (by simp [Op.operands]) hy (by rw [← zJ6]; exact hj)
 obtain ⟨h3, m, h4, h5⟩ := (g.at hrows).ok hrl h1
 have hm0 : ∀ j, j < ps.length → m j = [] := fun j hj => by
  have : (List.range ps.length).flatMap m = [] := by simpa using h4
  rw [List.flatMap_eq_nil_iff] at this
  exact this j (List.mem_range.2 hj)
 obtain ⟨q1, q2, q3⟩ := hrl.rw id _ _ hr'
 have hk : ∃ cur ty0 fz, FzOk fz cur.size rz ∧ w.heap[k]? = some (.cells cur ty0 fz) ∧ (∀ es ∈ xs, es.length = rz) ∧ xs.flatten.length ≤ cur.size ∧ ∀ (j : Nat) p, xs.flatten[j]? = some p → ∃ u, cur[j]? = some u := by
  rw [e3] at q1
  generalize L.ν id = N at q1
  cases q1 with
  | nil => simp at e2
  | own _ _ _ _ cur ty0 hlen hk0 hsz0 hc hm u m hcell hpp hfz =>
   exact ⟨cur, ty0, _, hfz, hk0, hlen, by rw [zCg hlen, hsz0]; exact Nat.mul_le_mul_right _ hc.1, fun j p hj => ⟨u j, hcell j (List.getElem?_eq_some_iff.1 hj).1⟩⟩
 obtain ⟨cur, ty0, fz, hfz, hk, hlen, hle2, hcu⟩ := hk
 have hlt : i < xs.length := (List.getElem?_eq_some_iff.1 hi).1
 have hesl : es.length = rz := hlen es (List.mem_of_getElem? hi)
 have hpl : ps.length = sz := by rw [← h3, ← h1.length]; exact hl
 have hb : i * rz + rz ≤ xs.flatten.length := by
  rw [zCg hlen, ← Nat.succ_mul]
  exact Nat.mul_le_mul_right _ hlt
 have hcl : cur.toList.length = cur.size := Array.length_toList
 have hvl : (a.eval y).cells.toList.length = sz := by rw [h3, hpl]
 have hfit : i * rz + off + (a.eval y).cells.toList.length ≤ cur.toList.length := by omega
 have hfs := zK2 hlen hi (o := off) (ps := ps) (by omega)
 have hn := hrl.poke (xs' := xs.set i (over es off ps)) (cur' := ⟨over cur.toList (i * rz + off) (a.eval y).cells.toList⟩) hr' (by omega) hnf (by simp) (fun es' hes => by
  rcases List.mem_or_eq_of_mem_set hes with h | rfl
  · exact hlen es' h
  · rw [zEa (by omega)]; exact hesl) e3 hk (by have := zEa hfit; rw [hcl] at this; simpa using this) (fun j p hj => by
  rw [hfs, zDf (by omega)] at hj
  have hg : (⟨over cur.toList (i * rz + off) (a.eval y).cells.toList⟩ : Array Value)[j]? = (over cur.toList (i * rz + off) (a.eval y).cells.toList)[j]? := by simp
  rw [hg, zDf hfit, hvl]
  rw [hpl] at hj
  by_cases hc : i * rz + off ≤ j ∧ j < i * rz + off + sz
  ·
   rw [if_pos hc] at hj ⊢
   obtain ⟨u, hu, hpv⟩ := h5 _ p hj
   rw [hm0 _ (List.getElem?_eq_some_iff.1 hj).1] at hpv
   exact ⟨u, hu, .inr hpv⟩
  ·
   rw [if_neg hc] at hj ⊢
   obtain ⟨u, hu⟩ := hcu j p hj
   exact ⟨u, by simpa using hu, .inl ⟨hj, hu⟩⟩)
 have he : (execOp a.eval o).run P w = .ok .skip (w.setRow k ⟨over cur.toList (i * rz + off) (a.eval y).cells.toList⟩) := by
  simp only [execOp, ho, e4, Instr.storeAt, Instr.sureAddr, pure_bind, Sem.run_bind]
  rw [zGS hsz hk (by rw [hcl]; exact hfz.free) (by rw [← Array.length_toList]; exact hvl) (by omega) h2]
  rfl
 unfold Oper.wp
 rw [he]
 exact hK _ _ _ (hn.put hd (av := .undef) (by simp only [AVR]))

inductive BndA (s : St) (dflt : Nat) : Option Operand → Nat → Prop where
 | no : BndA s dflt none dflt
 | at_ {x : Operand} {d : Option Nat} {k : IntKind} {i : Int} {l : Nat} (hx : s.ev x = .p d (.v (.int k i))) (hi : i = l) : BndA s dflt (some x) l
theorem BndA.at {s s' : St} {dflt l : Nat} {x : Option Operand} (g : BndA s dflt x l) (h : ∀ y, x = some y → s'.ev y = s.ev y) : BndA s' dflt x l := by
 cases g with
 | no => exact .no
 | at_ hx hi => exact .at_ ((h _ rfl).trans hx) hi
theorem BndA.ok {w0 : World} {I : Fr} {L : Pl} {a : Act} {w : World} (hr : Rel w0 I n L s a w) {dflt l : Nat} {x : Option Operand} (g : BndA s dflt x l) : (x = none ∧ l = dflt) ∨ ∃ y k, x = some y ∧ a.eval y = .int k l := by
 cases g with
 | no => exact .inl ⟨rfl, rfl⟩
 | at_ hx hi => subst hi; exact .inr ⟨_, _, rfl, hr.evv hx⟩
theorem zHP {isSlice : Bool} {len cap l h : Nat} {lo hi : Option Value} (hlo : (lo = none ∧ l = 0) ∨ ∃ k, lo = some (.int k l)) (hhi : (hi = none ∧ h = len) ∨ ∃ k, hi = some (.int k h)) (h1 : l ≤ h) (h2 : h ≤ cap) (w : World) :
  (Instr.sliceBounds isSlice len cap lo hi none).run P w = .ok (l, h, cap) w := by
 have e1 : ¬ ((cap : Int) < h) := by omega
 have e2 : ¬ ((h : Int) < l) := by omega
 have e3 : ((h : Int) ≤ cap) := by omega
 have e4 : ((l : Int) ≤ h) := by omega
 rcases hlo with ⟨rfl, rfl⟩ | ⟨k, rfl⟩ <;> rcases hhi with ⟨rfl, rfl⟩ | ⟨k', rfl⟩ <;> simp [Instr.sliceBounds, Instr.sliceBound, asIntOf, h1, h2]
theorem zGu {s' : St} {t : TypeId} {x : Operand} {lo hi : Option Operand} (ho : o.op = .slice t x lo hi none) (ag : Ag o M B s s') : (∀ y, lo = some y → s'.ev y = s.ev y) ∧ ∀ y, hi = some y → s'.ev y = s.ev y :=
 ⟨fun y hy => ag.ev1 ho (by subst hy; simp [Op.operands]), fun y hy => ag.ev1 ho (by subst hy; simp [Op.operands])⟩
theorem zD9 {w0 : World} {I : Fr} {L : Pl} {a : Act} {w : World} (hr : Rel w0 I n L s a w) {dflt l : Nat} {x : Option Operand} (g : BndA s dflt x l) : (x.map a.eval = none ∧ l = dflt) ∨ ∃ k, x.map a.eval = some (.int k l) := by
 rcases g.ok hr with ⟨rfl, rfl⟩ | ⟨y, k, rfl, e⟩
 · exact .inl ⟨rfl, rfl⟩
 · exact .inr ⟨k, by simp [e]⟩
theorem zAv {t : TypeId} {x : Operand} {lo hi : Option Operand} (ho : o.op = .slice t x lo hi none) {d : Option Nat} {b : ByteArray} {l h : Nat} (hx : s.ev x = .p d (.v (.string b))) (hu : P.underlying t = some .string) (hl : BndA s 0 lo l) (hh : BndA s b.size hi h) (h1 : l ≤ h) (h2 : h ≤ b.size) :
  StepD γ P n o M B s { put := .p none (.v (.string (b.extract l h))) } :=
 zA6 fun s' ag w0 I L a w hr => by
  have hv := hr.evv ((ag.ev1 ho (by simp [Op.operands])).trans hx)
  have b1 := zD9 hr (hl.at (zGu ho ag).1)
  have b2 := zD9 hr (hh.at (zGu ho ag).2)
  exact ⟨_, by simp [execOp, ho, hv, Instr.sliceAt, Instr.slice, run_underlying hu, zHP b1 b2 h1 h2], zCO L w s' rfl⟩
theorem zJ5 {t e : TypeId} {sz : Nat} (hu : P.underlying t = some (.slice e)) (hsz : ∀ w, (sizeOf e).run P w = .ok sz w) {A : Option Addr} {len cap l h : Nat} {lo hi : Option Value} (hlo : (lo = none ∧ l = 0) ∨ ∃ k, lo = some (.int k l)) (hhi : (hi = none ∧ h = len) ∨ ∃ k, hi = some (.int k h)) (h1 : l ≤ h) (h2 : h ≤ cap) (w : World) :
  (Instr.sliceAt t (.slice A len cap) lo hi none).run P w = .ok (.slice (if cap = l then A else A.map (·.add (l * sz))) (h - l) (cap - l)) w := by
 simp [Instr.sliceAt, Instr.slice, run_underlying hu, zHP hlo hhi h1 h2, hsz]
theorem zLN {t e : TypeId} {x : Operand} {lo hi : Option Operand} (ho : o.op = .slice t x lo hi none) {id q len l h sz m : Nat} {xs : List (List PV)} (hx : s.ev x = .sl id q len) (hr : s.r id = some (sz, xs)) (hu : P.underlying t = some (.slice e)) (hsz : ∀ w, (sizeOf e).run P w = .ok sz w) (hl : BndA s 0 lo l) (hh : BndA s len hi h) (h1 : l ≤ h) (h2 : h ≤ len) (hm : m = h - l) :
  StepD γ P n o M B s { put := .sl id (q + l) m } :=
 zA6 fun s' ag w0 I L a w hrl => by
  subst hm
  have he := (ag.ev1 ho (by simp [Op.operands])).trans hx
  have hr' := (ag.r1 ho (by simp [Op.operands]) hx (id := id) (by simp [AV.rows])).trans hr
  have b1 := zD9 hrl (hl.at (zGu ho ag).1)
  have b2 := zD9 hrl (hh.at (zGu ho ag).2)
  have hv := hrl.ev x
  rw [he] at hv
  simp only [AVR] at hv
  obtain ⟨sz', xs', e1, e2, A, m, c, A', c', e3, e4, e5, e6, e7⟩ := hv
  rw [hr'] at e1
  cases e1
  refine ⟨_, by simp only [execOp, ho, e4, Option.map_none, Sem.run_bind, zJ5 hu hsz b1 b2 h1 (Nat.le_trans h2 e5) w]; rfl, ?_⟩
  simp only [AVR]
  refine ⟨sz, xs, hr', by omega, A, m, c, _, _, e3, rfl, by omega, fun h0 => ?_, fun h0 => ?_⟩
  ·
   obtain ⟨rfl, rfl⟩ := e6 (by omega)
   have : l = 0 := by omega
   subst this
   refine ⟨?_, by omega⟩
   split
   · rfl
   ·
    cases A' with
    | none => rfl
    | some ad => simp only [Nat.zero_mul, Option.map_some, Option.some.injEq]; unfold Addr.add; split <;> simp_all
  ·
   obtain ⟨k, rfl, rfl⟩ := e7 (by omega)
   refine ⟨k, rfl, ?_⟩
   rw [if_neg (by omega)]
   simp only [Option.map_some, Addr.add0]
   rw [Nat.add_mul]
theorem zLO {t e : TypeId} {x : Operand} {lo hi : Option Operand} (ho : o.op = .slice t x lo hi none) {d : Option Nat} {ow : Bool} {l h sz : Nat} {xs : List (List PV)} (hx : s.ev x = .p d (.sl ow sz xs)) (hu : P.underlying t = some (.slice e)) (hsz : ∀ w, (sizeOf e).run P w = .ok sz w) (hl : BndA s 0 lo l) (hh : BndA s xs.length hi h) (h1 : l ≤ h) (h2 : h ≤ xs.length) :
  StepD γ P n o M B s { put := .p d (.sl false sz ((xs.drop l).take (h - l))) } :=
 zA6 fun s' ag w0 I L a w hrl => by
  have he := (ag.ev1 ho (by simp [Op.operands])).trans hx
  have b1 := zD9 hrl (hl.at (zGu ho ag).1)
  have b2 := zD9 hrl (hh.at (zGu ho ag).2)
  have hv := hrl.ev x
  rw [he] at hv
  simp only [AVR] at hv
  obtain ⟨hp, hd⟩ := hv
  have hp0 := hp
  generalize hev : a.eval x = v at hp
  have key : ∃ A c, v = .slice A xs.length c ∧ xs.length ≤ c ∧ (0 < xs.length → ∃ k off, A = some ⟨k, off, none⟩) := by
   cases hp with
   | emp _ _ A c => exact ⟨A, c, rfl, by simp, by simp⟩
   | sl _ _ _ k off c hlen hc hz u hcell hpp => exact ⟨_, c, rfl, hc, fun _ => ⟨k, off, rfl⟩⟩
  obtain ⟨A, c, rfl, hc, hA⟩ := key
  refine ⟨_, by simp only [execOp, ho, hev, Option.map_none, Sem.run_bind, zJ5 hu hsz b1 b2 h1 (Nat.le_trans h2 hc) w]; rfl, ?_⟩
  simp only [AVR]
  refine ⟨(hp.flag false).cut (by omega) _ _ (by omega) (fun hpos => ?_), hd⟩
  obtain ⟨k, off, rfl⟩ := hA (by omega)
  refine ⟨k, off, rfl, ?_⟩
  rw [if_neg (by omega)]
  simp only [Option.map_some, Addr.add0]
end
end Go.Rl
namespace Go.Rl
open Go.RowKit

theorem zG3 (a b : ByteArray) : (a.toList == b.toList) = decide (a = b) := by
 rw [ByteArray.toList_eq, ByteArray.toList_eq]
 by_cases h : a = b
 · subst h; simp
 ·
  rw [decide_eq_false h]
  apply Bool.eq_false_iff.2
  intro e
  apply h
  have := eq_of_beq e
  cases a; cases b
  simp at this
  subst this
  rfl
def ltB (a b : ByteArray) : Bool := Op.bytesLess a.toList b.toList

section
variable {γ : Gho} {P : Program} {n : Nat} {o : Oper} {M B : List Nat} {s : St}
section strs
variable {xt yt : TypeId} {x y : Operand} {d d' : Option Nat} {a b : ByteArray}
theorem zD2 (ho : o.op = .binOp .eql xt x y yt) (hx : s.ev x = .p d (.v (.string a))) (hy : s.ev y = .p d' (.v (.string b))) : StepD γ P n o M B s { put := .p none (.v (.bool (decide (a = b)))) } :=
 zCp ho hx hy rfl (fun _ _ w => zBE _ _ _ _ _ _ (by simp) w) (fun w => by simp [binOp, Op.stringOp, zG3])
theorem zCv (ho : o.op = .binOp .neq xt x y yt) (hx : s.ev x = .p d (.v (.string a))) (hy : s.ev y = .p d' (.v (.string b))) : StepD γ P n o M B s { put := .p none (.v (.bool (!decide (a = b)))) } :=
 zCp ho hx hy rfl (fun _ _ w => zBE _ _ _ _ _ _ (by simp) w) (fun w => by simp [binOp, Op.stringOp, zG3])
theorem zFZ (ho : o.op = .binOp .lss xt x y yt) (hx : s.ev x = .p d (.v (.string a))) (hy : s.ev y = .p d' (.v (.string b))) : StepD γ P n o M B s { put := .p none (.v (.bool (ltB a b))) } :=
 zCp ho hx hy rfl (fun _ _ w => zBE _ _ _ _ _ _ (by simp) w) (fun w => by simp [binOp, Op.stringOp, ltB])
theorem st_sgtr (ho : o.op = .binOp .gtr xt x y yt) (hx : s.ev x = .p d (.v (.string a))) (hy : s.ev y = .p d' (.v (.string b))) : StepD γ P n o M B s { put := .p none (.v (.bool (!(ltB a b || decide (a = b))))) } :=
 zCp ho hx hy rfl (fun _ _ w => zBE _ _ _ _ _ _ (by simp) w) (fun w => by simp [binOp, Op.stringOp, zG3, ltB])
end strs
section bools
variable {xt yt : TypeId} {x y : Operand} {d d' : Option Nat} {a b : Bool}
theorem st_bneq (ho : o.op = .binOp .neq xt x y yt) (hx : s.ev x = .p d (.v (.bool a))) (hy : s.ev y = .p d' (.v (.bool b))) (hu : P.underlying xt = some .bool) : StepD γ P n o M B s { put := .p none (.v (.bool (!(a == b)))) } :=
 zCp ho hx hy rfl (fun _ _ w => zBE _ _ _ _ _ _ (by simp) w) (fun w => by simp only [binOp]; simp [Op.equal, Op.maxDepth, run_equalIn_bool (h := hu)])
end bools
theorem st_un {op : UnOp} {t : TypeId} {x : Operand} (ho : o.op = .unOp op t x) {d : Option Nat} {u v : Value} (hx : s.ev x = .p d (.v u)) (h1 : v.oneCell' = true) (hv : ∀ w, (Op.unary op u).run P w = .ok v w) : StepD γ P n o M B s { put := .p none (.v v) } :=
 zA6 fun s' ag w0 I L a w hr => ⟨v, by simp [execOp, ho, hr.evv ((ag.ev1 ho (by simp [Op.operands])).trans hx), hv], zCO L w s' h1⟩
theorem zAa {t : TypeId} {x : Operand} (ho : o.op = .unOp .not t x) {d : Option Nat} {b : Bool} (hx : s.ev x = .p d (.v (.bool b))) : StepD γ P n o M B s { put := .p none (.v (.bool (!b))) } :=
 st_un ho hx rfl (fun w => by simp [Op.unary])
theorem st_com {t : TypeId} {x : Operand} (ho : o.op = .unOp .xor t x) {d : Option Nat} {k : IntKind} {a : Int} (hx : s.ev x = .p d (.v (.int k a))) : StepD γ P n o M B s { put := .p none (.v (.int k (zDv .xor k (if k.signed then -1 else k.max) a))) } :=
 st_un ho hx rfl (fun w => by simp [Op.unary, Op.intBits, zDv])
theorem zEF {t u : TypeId} {x : Operand} (ho : o.op = .convert t u x) {d : Option Nat} {k k' : IntKind} {ds : TypeDesc} {a : Int} (hx : s.ev x = .p d (.v (.int k a))) (ht : P.underlying t = some ds) (hu : P.underlying u = some (.int k')) : StepD γ P n o M B s { put := .p none (.v (.int k' (k'.wrap a))) } :=
 zA6 fun s' ag w0 I L ac w hr => ⟨.int k' (k'.wrap a), by simp [execOp, ho, hr.evv ((ag.ev1 ho (by simp [Op.operands])).trans hx), convert, run_underlying ht, run_underlying hu, Conv.intToInt], zCO L w s' rfl⟩
theorem zBY {t : TypeId} {x y : Operand} (ho : o.op = .index t x y) {d d' : Option Nat} {b : ByteArray} {k : IntKind} {i : Int} {c : UInt8} (hx : s.ev x = .p d (.v (.string b))) (hy : s.ev y = .p d' (.v (.int k i))) (ht : P.underlying t = some .string) (h0 : 0 ≤ i) (hc : b[i.toNat]? = some c) : StepD γ P n o M B s { put := .p none (.v (.int .u8 c.toNat)) } :=
 zA6 fun s' ag w0 I L a w hr => ⟨.int .u8 c.toNat, by simp [execOp, ho, hr.evv ((ag.ev1 ho (by simp [Op.operands])).trans hx), hr.evv ((ag.ev1 ho (by simp [Op.operands])).trans hy), Instr.index, asIntOf, run_underlying ht, h0, hc], zCO L w s' rfl⟩

def zDs : List AV → Option (List Value)
 | [] => some []
 | .p _ (.v v) :: aL => (zDs aL).map (v :: ·)
 | _ :: _ => none
theorem zIV {L : Pl} {w : World} : ∀ {aL : List AV} {vs us : List Value}, zDs aL = some vs → AVRs L w s aL us → us = vs
 | [], vs, us, h, hv => by
  simp only [zDs, Option.some.injEq] at h
  subst h
  cases us with
  | nil => rfl
  | cons _ _ => simp [AVRs] at hv
 | .p d (.v v) :: aL, vs, us, h, hv => by
  simp only [zDs, Option.map_eq_some_iff] at h
  obtain ⟨vs', h1, rfl⟩ := h
  cases us with
  | nil => simp [AVRs] at hv
  | cons u us =>
   simp only [AVRs, AVR] at hv
   have h3 := hv.1.1
   cases h3
   rw [zIV h1 hv.2]
 | .p d (.sl ..) :: aL, vs, us, h, hv => by simp [zDs] at h
 | .p d (.clo ..) :: aL, vs, us, h, hv => by simp [zDs] at h
 | .undef :: aL, vs, us, h, hv => by simp [zDs] at h
 | .sl .. :: aL, vs, us, h, hv => by simp [zDs] at h
 | .ptr .. :: aL, vs, us, h, hv => by simp [zDs] at h
 | .ea .. :: aL, vs, us, h, hv => by simp [zDs] at h
 | .fea .. :: aL, vs, us, h, hv => by simp [zDs] at h
 | .nils :: aL, vs, us, h, hv => by simp [zDs] at h
 | .sat _ :: aL, vs, us, h, hv => by simp [zDs] at h
 | .clo .. :: aL, vs, us, h, hv => by simp [zDs] at h
 | .agg .. :: aL, vs, us, h, hv => by simp [zDs] at h
 | .tup .. :: aL, vs, us, h, hv => by simp [zDs] at h
theorem zNP {w0 : World} {I : Fr} {L : Pl} {a : Act} {w : World} (hr : Rel w0 I n L s a w) {x : Operand} {cs : List AV} {vs : List Value} (hx : s.ev x = .agg cs) (hf : zDs cs = some vs) : a.eval x = .agg ⟨vs⟩ := by
 have h := hr.ev x
 rw [hx] at h
 simp only [AVR] at h
 obtain ⟨us, h1, h2⟩ := h
 rw [h1, zIV hf h2]
theorem zJy {xt yt : TypeId} {x y : Operand} (ho : o.op = .binOp .eql xt x y yt) {cs ds : List AV} {us vs : List Value} {b : Bool} (hx : s.ev x = .agg cs) (hy : s.ev y = .agg ds) (hf : zDs cs = some us) (hg : zDs ds = some vs) (hm : P.eqGuardType P.depth xt = false)
  (he : ∀ w, (Op.equalIn 10000 xt (.agg ⟨us⟩) (.agg ⟨vs⟩)).run P w = .ok b w) : StepD γ P n o M B s { put := .p none (.v (.bool b)) } :=
 zA6 fun s' ag w0 I L a w hr => ⟨.bool b, by
  simp [execOp, ho, zNP hr ((ag.ev1 ho (by simp [Op.operands])).trans hx) hf, zNP hr ((ag.ev1 ho (by simp [Op.operands])).trans hy) hg, run_eqGuard_agg (hm := hm), run_eql_struct, he], zCO L w s' rfl⟩
end
end Go.Rl
namespace Go.Rl
open Go.RowKit

def Tr (γ : Gho) (P : Program) (n : Nat) (c : Code) (s : St) (Q : Exit → St → Prop) : Prop :=
 ∀ w0 I L a w, Gh γ w0 I.I → Rel w0 I n L s a w → c.wp P (fun e a' w' => ∃ s' L', Q e s' ∧ Rel w0 I n L' s' a' w') a w
def Wk (n : Nat) (s s' : St) : Prop := ∀ w0 I L a w, Rel w0 I n L s a w → ∃ L', Rel w0 I n L' s' a w
theorem Wk.refl (n : Nat) (s : St) : Wk n s s := fun _ _ L _ _ h => ⟨L, h⟩
theorem Wk.trans {n : Nat} {s s' s'' : St} (h : Wk n s s') (k : Wk n s' s'') : Wk n s s'' := fun w0 I L a w hr => by
 obtain ⟨L', h'⟩ := h w0 I L a w hr
 exact k w0 I L' a w h'

section
variable {γ : Gho} {P : Program} {n : Nat} {s : St} {Q : Exit → St → Prop}
theorem tr_mono {c : Code} {Q' : Exit → St → Prop} (h : Tr γ P n c s Q) (hq : ∀ e s, Q e s → Q' e s) : Tr γ P n c s Q' :=
 fun w0 I L a w hG hr => wp_mono (h w0 I L a w hG hr) (fun e _ _ ⟨s', L', h1, h2⟩ => ⟨s', L', hq e s' h1, h2⟩)
theorem zAQ {c : Code} {s' : St} (hw : Wk n s s') (h : Tr γ P n c s' Q) : Tr γ P n c s Q := fun w0 I L a w hG hr => by
 obtain ⟨L', h'⟩ := hw w0 I L a w hr
 exact h w0 I L' a w hG h'
theorem zAM (h : Q .normal s) : Tr γ P n .skip s Q := fun _ _ L _ _ _ hr => wp_skip ⟨s, L, h, hr⟩
theorem zAn {id : Nat} (h : Q (.exit id) s) : Tr γ P n (.exit id) s Q := fun _ _ L _ _ _ hr => wp_exit ⟨s, L, h, hr⟩
theorem zAK (h : Q .ret s) : Tr γ P n .ret s Q := fun _ _ L _ _ _ hr => wp_ret ⟨s, L, h, hr⟩
def thn (next : St → Prop) (Q : Exit → St → Prop) : Exit → St → Prop
 | .normal, s => next s
 | e, s => Q e s
def inb (id : Nat) (Q : Exit → St → Prop) : Exit → St → Prop
 | .exit id', s => match Nat.beq id' id with
  | true => Q .normal s
  | false => Q (.exit id') s
 | e, s => Q e s
theorem zAB {x y : Code} (h : Tr γ P n x s (thn (fun s' => Tr γ P n y s' Q) Q)) : Tr γ P n (.seq x y) s Q := fun w0 I L a w hG hr => by
 refine wp_seq (wp_mono (h w0 I L a w hG hr) (fun e a' w' ⟨s', L', h1, h2⟩ => ?_))
 cases e with
 | normal => exact h1 w0 I L' a' w' hG h2
 | _ => exact ⟨s', L', h1, h2⟩
theorem zAT {c : Operand} {x y : Code} {d : Option Nat} {t : Bool} (hc : s.ev c = .p d (.v (.bool t))) (ht : t = true → Tr γ P n x s Q) (hf : t = false → Tr γ P n y s Q) : Tr γ P n (.cond c x y) s Q := fun w0 I L a w hG hr =>
 wp_cond_split (hr.evv hc) (fun e => ht e w0 I L a w hG hr) (fun e => hf e w0 I L a w hG hr)
theorem zAS {id : Nat} {c : Code} (h : Tr γ P n c s (inb id Q)) : Tr γ P n (.block id c) s Q := fun w0 I L a w hG hr => by
 refine wp_block (wp_mono (h w0 I L a w hG hr) (fun e a' w' ⟨s', L', h1, h2⟩ => ?_))
 cases e with
 | exit id' =>
  simp only [Exit.inBlock]
  by_cases hi : id' = id
  ·
   subst hi
   rw [if_pos rfl]
   simp only [inb, Nat.beq_refl] at h1
   exact ⟨s', L', h1, h2⟩
  ·
   rw [if_neg hi]
   have hb : Nat.beq id' id = false := by
    cases e : Nat.beq id' id with
    | false => rfl
    | true => exact absurd (Nat.eq_of_beq_eq_true e) hi
   simp only [inb, hb] at h1
   exact ⟨s', L', h1, h2⟩
 | _ => exact ⟨s', L', h1, h2⟩
theorem tr_loop {c : Code} (Inv : Nat → St → Prop) (k : Nat) (h0 : Inv k s) (hr : ∀ k s, Inv k s → Tr γ P n c s (thn (fun s' => ∃ k', k' < k ∧ Inv k' s') Q)) : Tr γ P n (.loop c) s Q := by
 intro w0 I L a w hG hrel b fr cs
 have key : ∀ k s L a w, Inv k s → Rel w0 I n L s a w → ∃ e a' w', (∃ s' L', Q e s' ∧ Rel w0 I n L' s' a' w') ∧ Arrives P (lone (b.at a (.code c :: .inLoop c :: fr)) cs w) b fr cs e a' w' := by
  intro k
  induction k using Nat.strongRecOn with
  | _ k ih =>
   intro s L a w hI hrel
   obtain ⟨e, a1, w1, ⟨s1, L1, hq, hrel1⟩, harr⟩ := hr k s hI w0 I L a w hG hrel b (.inLoop c :: fr) cs
   cases e with
   | normal =>
    obtain ⟨k', hlt, hI1⟩ := hq
    obtain ⟨e2, a2, w2, hq2, harr2⟩ := ih k' hlt s1 L1 a1 w1 hI1 hrel1
    exact ⟨e2, a2, w2, hq2, .of_steps (Steps.trans harr (.one step_inLoop)) harr2⟩
   | exit id => exact ⟨_, a1, w1, ⟨s1, L1, hq, hrel1⟩, .pass (x := .inLoop c) rfl (fun _ _ => .inl (by simp)) harr⟩
   | goto l => exact ⟨_, a1, w1, ⟨s1, L1, hq, hrel1⟩, .pass (x := .inLoop c) rfl (fun _ _ => .inl (by simp)) harr⟩
   | ret => exact ⟨_, a1, w1, ⟨s1, L1, hq, hrel1⟩, .pass (x := .inLoop c) rfl (fun _ _ => .inl (by simp)) harr⟩
   | panic ch => exact ⟨_, a1, w1, ⟨s1, L1, hq, hrel1⟩, .pass (x := .inLoop c) rfl (fun _ _ => .inl (by simp)) harr⟩
   | outgrown => exact ⟨_, a1, w1, ⟨s1, L1, hq, hrel1⟩, .pass (x := .inLoop c) rfl (fun _ _ => .inl (by simp)) harr⟩
 obtain ⟨e, a', w', hq, harr⟩ := key k s L a w h0 hrel
 exact ⟨e, a', w', hq, .of_steps (.one step_loop) harr⟩
theorem zAA {id : Nat} {ops : List Oper} {Fs : List Fp} {s' : St} (hd : zLi n ops.toArray = true) (h : Run γ P n ops.toArray Fs ops s s') (hq : Q .normal s') : Tr γ P n (.region id ops.toArray false) s Q := fun w0 I L a w hG hr => by
 refine wp_region ?_
 have := run_wp hG (Qm := fun e a' w' => ∃ s' L', Q e s' ∧ Rel w0 I n L' s' a' w') hd h (fun L' a' w' hr' => ⟨s', L', hq, hr'⟩) 0 (fun j => by simp) hr
 rw [← List.range_eq_range'] at this
 simpa using this
theorem zAf {id : Nat} {ops : List Oper} {Fs : List Fp} {s' : St} (hm : P.follows .mixedOrders = true) (hd : zLi n ops.toArray = true) (h : Run γ P n ops.toArray Fs ops s s') (hl : lexF ops.toArray Fs ops.length 0 (Array.replicate ops.length false) = true) (hq : Q .normal s') : Tr γ P n (.region id ops.toArray true) s Q := fun w0 I L a w hG hr => by
 refine wp_region_any hm ?_
 have := zNe (Fs := Fs) (Q := fun s => Q .normal s) h 0 (Array.replicate ops.length false) (fun k o hk => by
  exfalso
  rw [Array.getD_eq_getD_getElem?, Array.getElem?_replicate] at hk
  split at hk <;> cases hk) (fun j => by simp) (fun j F hj => by simp [hj]) hl hq
 have := zMF hG (Fs := Fs) (w0 := w0) (I := I) (Qm := fun e a' w' => ∃ s' L', Q e s' ∧ Rel w0 I n L' s' a' w') hd (fun s1 hs L' a' w' hr' => ⟨s1, L', hs, hr'⟩) ops.length (Array.replicate ops.length false) s L a { w with drawn := w.drawn + 1 } this (hr.drawn _)
 simpa using this
end

def lkT : List (Nat × AV) → Nat → AV
 | [], _ => .undef
 | x :: l, q => match Nat.beq q x.1 with
  | true => x.2
  | false => lkT l q
def lkO {α : Type} : List (Nat × α) → Nat → Option α
 | [], _ => none
 | x :: l, q => match Nat.beq q x.1 with
  | true => some x.2
  | false => lkO l q
def mk (T : List (Nat × AV)) (B : List (Nat × List AV)) (R : List (Nat × Nat × List (List PV))) : St := ⟨lkT T, lkO B, lkO R⟩
def EqT (s : St) : List (Nat × AV) → Prop
 | [] => True
 | x :: l => s.t x.1 = x.2 ∧ EqT s l
def EqB (s : St) : List (Nat × List AV) → Prop
 | [] => True
 | x :: l => s.b x.1 = some x.2 ∧ EqB s l
def EqR (s : St) : List (Nat × Nat × List (List PV)) → Prop
 | [] => True
 | x :: l => s.r x.1 = some x.2 ∧ EqR s l
theorem eqT {s : St} : ∀ {l : List (Nat × AV)}, EqT s l → ∀ q, lkT l q = .undef ∨ (∃ x ∈ l, x.2 = lkT l q) ∧ lkT l q = s.t q
 | [], _, _ => .inl rfl
 | x :: l, h, q => by
  simp only [lkT]
  cases e : Nat.beq q x.1 with
  | true => have := Nat.eq_of_beq_eq_true e; subst this; exact .inr ⟨⟨x, by simp, rfl⟩, h.1.symm⟩
  | false => exact (eqT h.2 q).imp (fun h => h) (fun ⟨⟨y, hy, e⟩, h⟩ => ⟨⟨y, by simp [hy], e⟩, h⟩)
theorem eqB {s : St} : ∀ {l : List (Nat × List AV)}, EqB s l → ∀ q y, lkO l q = some y → (q, y) ∈ l ∧ s.b q = some y
 | [], _, _, _, h => by simp [lkO] at h
 | x :: l, h, q, y, hy => by
  simp only [lkO] at hy
  cases e : Nat.beq q x.1 with
  | true => have := Nat.eq_of_beq_eq_true e; subst this; rw [e] at hy; cases hy; exact ⟨by simp, h.1⟩
  | false => rw [e] at hy; exact ⟨List.mem_cons_of_mem _ (eqB h.2 q y hy).1, (eqB h.2 q y hy).2⟩
theorem eqR {s : St} : ∀ {l : List (Nat × Nat × List (List PV))}, EqR s l → ∀ q y, lkO l q = some y → (q, y) ∈ l ∧ s.r q = some y
 | [], _, _, _, h => by simp [lkO] at h
 | x :: l, h, q, y, hy => by
  simp only [lkO] at hy
  cases e : Nat.beq q x.1 with
  | true => have := Nat.eq_of_beq_eq_true e; subst this; rw [e] at hy; cases hy; exact ⟨by simp, h.1⟩
  | false => rw [e] at hy; exact ⟨List.mem_cons_of_mem _ (eqR h.2 q y hy).1, (eqR h.2 q y hy).2⟩
theorem zIL {α : Type} : ∀ {l : List (Nat × α)} {q : Nat}, q ∈ l.map (·.1) → (lkO l q).isSome
 | [], _, h => by simp at h
 | x :: l, q, h => by
  simp only [lkO]
  cases e : Nat.beq q x.1 with
  | true => rfl
  | false =>
   refine zIL ?_
   simp only [List.map_cons, List.mem_cons] at h
   rcases h with h | h
   · subst h; simp at e
   · exact h
def zLH (B R : List Nat) (av : AV) : Bool := av.rows.all (fun i => R.contains i) && av.bxs.all (fun i => B.contains i)
mutual
theorem AVR.sub {L : Pl} {w : World} {s s' : St} : ∀ (av : AV) (v : Value), AVR L w s av v → (∀ id ∈ av.rows, s'.r id = s.r id) → (∀ b ∈ av.bxs, (s'.b b).isSome) → AVR L w s' av v
 | .undef, v, _, _, _ => by simp [AVR]
 | .p d x, v, hv, hr, _ => by
  simp only [AVR] at hv ⊢
  exact ⟨hv.1, fun id hid => by subst hid; rw [hr id (by simp [AV.rows])]; exact hv.2 id rfl⟩
 | .sl id lo len, v, hv, hr, _ => by simp only [AVR] at hv ⊢; rw [hr id (by simp [AV.rows])]; exact hv
 | .ptr b off, v, hv, _, hb => by simp only [AVR] at hv ⊢; exact ⟨hb b (by simp [AV.bxs]), hv.2⟩
 | .ea id i off, v, hv, hr, _ => by simp only [AVR] at hv ⊢; rw [hr id (by simp [AV.rows])]; exact hv
 | .fea d ps, v, hv, hr, _ => by
  simp only [AVR] at hv ⊢
  exact ⟨hv.1, fun id hid => by subst hid; rw [hr id (by simp [AV.rows])]; exact hv.2 id rfl⟩
 | .nils, v, hv, _, _ => by simpa only [AVR] using hv
 | .sat A, v, hv, _, _ => by simpa only [AVR] using hv
 | .clo f bs, v, hv, _, hb => by simp only [AVR] at hv ⊢; exact ⟨fun b h => hb b (by simpa [AV.bxs] using h), hv.2⟩
 | .agg cs, v, hv, hr, hb => by
  simp only [AVR] at hv ⊢
  obtain ⟨us, h1, h2⟩ := hv
  exact ⟨us, h1, AVRs.subs cs us h2 (by simpa [AV.rows] using hr) (by simpa [AV.bxs] using hb)⟩
 | .tup cs, v, hv, hr, hb => by
  simp only [AVR] at hv ⊢
  obtain ⟨us, h1, h2⟩ := hv
  exact ⟨us, h1, AVRs.subs cs us h2 (by simpa [AV.rows] using hr) (by simpa [AV.bxs] using hb)⟩
theorem AVRs.subs {L : Pl} {w : World} {s s' : St} : ∀ (aL : List AV) (us : List Value), AVRs L w s aL us → (∀ id ∈ AV.rowss aL, s'.r id = s.r id) → (∀ b ∈ AV.bxss aL, (s'.b b).isSome) → AVRs L w s' aL us
 | [], [], _, _, _ => by simp [AVRs]
 | [], _ :: _, hv, _, _ => by simp [AVRs] at hv
 | _ :: _, [], hv, _, _ => by simp [AVRs] at hv
 | a :: aL, u :: us, hv, hr, hb => by
  simp only [AVRs] at hv ⊢
  simp only [AV.rowss, AV.bxss, List.mem_append] at hr hb
  exact ⟨AVR.sub a u hv.1 (fun i h => hr i (.inl h)) (fun i h => hb i (.inl h)), AVRs.subs aL us hv.2 (fun i h => hr i (.inr h)) (fun i h => hb i (.inr h))⟩
end
def zPB (T : List (Nat × AV)) (B : List (Nat × List AV)) (R : List (Nat × Nat × List (List PV))) : Bool :=
 T.all (fun x => zLH (B.map (·.1)) (R.map (·.1)) x.2) && B.all (fun x => zLH (B.map (·.1)) (R.map (·.1)) (.agg x.2))
theorem zAJ {n : Nat} {s : St} {T : List (Nat × AV)} {B : List (Nat × List AV)} {R : List (Nat × Nat × List (List PV))} (hT : EqT s T) (hB : EqB s B) (hR : EqR s R) (hl : zPB T B R = true) : Wk n s (mk T B R) := by
 intro w0 I L a w h
 simp only [zPB, Bool.and_eq_true, List.all_eq_true] at hl
 have rows : ∀ av, zLH (B.map (·.1)) (R.map (·.1)) av = true → (∀ id ∈ av.rows, (mk T B R).r id = s.r id) ∧ ∀ b ∈ av.bxs, ((mk T B R).b b).isSome := fun av ha => by
  simp only [zLH, Bool.and_eq_true, List.all_eq_true, List.contains_eq_mem, decide_eq_true_eq] at ha
  refine ⟨fun id hid => ?_, fun b hb => zIL (ha.2 b hb)⟩
  obtain ⟨y, hy⟩ := Option.isSome_iff_exists.1 (zIL (ha.1 id hid))
  exact hy.trans (eqR hR id y hy).2.symm
 refine ⟨L, ⟨h.same, h.zlt, h.llt, h.sz, h.df, fun i => ?_, fun i cs hc => ?_, fun i sz xs hx => h.rw i sz xs (eqR hR i _ hx).2, fun i hi hx => ?_, fun i hi hx => ?_, h.zi⟩⟩
 ·
  rcases eqT hT i with e | ⟨⟨x, hx, ex⟩, e⟩
  · simp only [mk, e, AVR]
  ·
   have ha := rows (lkT T i) (by rw [← ex]; exact hl.1 x hx)
   exact AVR.sub (lkT T i) _ (by rw [e]; exact h.tm i) ha.1 ha.2
 ·
  obtain ⟨hm, hb⟩ := eqB hB i cs hc
  obtain ⟨h1, us, ty, h2, h3, h4⟩ := h.bx i cs hb
  have ha := rows (.agg cs) (hl.2 _ hm)
  simp only [AV.rows, AV.bxs] at ha
  exact ⟨h1, us, ty, h2, AVRs.subs cs us h3 ha.1 ha.2, h4⟩
 ·
  obtain ⟨y, hy⟩ := Option.isSome_iff_exists.1 hx
  exact h.pr i hi (by rw [(eqR hR i y hy).2]; rfl)
 ·
  obtain ⟨y, hy⟩ := Option.isSome_iff_exists.1 hx
  exact h.pb i hi (by rw [(eqB hB i y hy).2]; rfl)
end Go.Rl
namespace Go.Rl
open Go.RowKit

inductive PA where
 | one (p : PV)
 | agg (ps : List PV)
 | fbox (ps : List PV)
 | rptr (sz : Nat) (ps : List PV)
structure Leaf where
 v : Value
 N : List Nat
 sz : Nat
abbrev Leaf.all (E : List Leaf) : List Nat := E.flatMap (·.N)
def no : Nat → Prop := fun _ => False

inductive PS (Z : Nat → Prop) (w : World) : PV → Value → List Leaf → Prop where
 | own {sz : Nat} {xs : List (List PV)} {v : Value} {N : List Nat} (h : PVO Z w (.sl true sz xs) v N) : PS Z w (.sl true sz xs) v [⟨v, N, sz⟩]
 | nf {p : PV} {v : Value} (hn : p.nf = true) (h : PVO Z w p v []) : PS Z w p v []
inductive PSs (Z : Nat → Prop) (w : World) : List PV → List Value → List Leaf → Prop where
 | nil : PSs Z w [] [] []
 | cons {p : PV} {v : Value} {E : List Leaf} {ps : List PV} {vs : List Value} {E' : List Leaf} (h : PS Z w p v E) (t : PSs Z w ps vs E') : PSs Z w (p :: ps) (v :: vs) (E ++ E')
inductive PAS (Z : Nat → Prop) (w : World) : PA → Value → List Leaf → Prop where
 | one {p : PV} {v : Value} {E : List Leaf} (h : PS Z w p v E) : PAS Z w (.one p) v E
 | agg {ps : List PV} {us : List Value} {E : List Leaf} (h : PSs Z w ps us E) : PAS Z w (.agg ps) (.agg ⟨us⟩) E
 | fbox {ps : List PV} {k off : Nat} (hz : Z k) (h : ∀ (j : Nat) p, ps[j]? = some p → ∃ u, w.cell? ⟨k, off + j, none⟩ = some u ∧ PVR Z w p u) : PAS Z w (.fbox ps) (.pointer (some ⟨k, off, none⟩)) []
 | rptr {sz : Nat} {ps : List PV} {k c : Nat} {N : List Nat} (h : PVO Z w (.sl true sz [ps]) (.slice (some ⟨k, 0, none⟩) 1 c) N) : PAS Z w (.rptr sz ps) (.pointer (some ⟨k, 0, none⟩)) [⟨.slice (some ⟨k, 0, none⟩) 1 c, N, sz⟩]
inductive PASs (Z : Nat → Prop) (w : World) : List PA → List Value → List Leaf → Prop where
 | nil : PASs Z w [] [] []
 | cons {p : PA} {v : Value} {E : List Leaf} {ps : List PA} {vs : List Value} {E' : List Leaf} (h : PAS Z w p v E) (t : PASs Z w ps vs E') : PASs Z w (p :: ps) (v :: vs) (E ++ E')
inductive RES (Z : Nat → Prop) (w : World) : List PA → Value → List Leaf → Prop where
 | one {p : PA} {v : Value} {E : List Leaf} (h : PAS Z w p v E) : RES Z w [p] v E
 | more {ps : List PA} {vs : List Value} {E : List Leaf} (hl : ps.length ≠ 1) (h : PASs Z w ps vs E) : RES Z w ps (.tuple ⟨vs⟩) E

def ConG (γ : Gho) (P : Program) (f : FuncId) (args : List PA) (outs : List (Option (List (List PV)))) (res : List PA) : Prop :=
 ∀ Z w vs E, Gh γ w (Leaf.all E) → PASs Z w args vs E → (∀ k, Z k → k < w.heap.size ∧ k ∉ Leaf.all E) → (Leaf.all E).Nodup → (∀ k ∈ Leaf.all E, k < w.heap.size) → Calls P f ⟨vs⟩ w fun e w' => ∃ v F, e = .returned v ∧ Same (Leaf.all E) w w' ∧
  (∀ (i : Nat) lf xs', E[i]? = some lf → outs[i]? = some (some xs') → FlatP xs' ∧ ∃ N, PVO no w' (.sl true lf.sz xs') lf.v N) ∧
  RES no w' res v F ∧ (Leaf.all F).Nodup ∧ ∀ k ∈ Leaf.all F, w.heap.size ≤ k ∨ ∃ (i : Nat) (lf : Leaf), E[i]? = some lf ∧ k ∈ lf.N ∧ ∀ xs', outs[i]? = some (some xs') → k ∈ lf.N.tail

theorem gh_none (w : World) (B : List Nat) : Gh none w B := fun _ _ h => by cases h
abbrev Con (P : Program) (f : FuncId) (args : List PA) (outs : List (Option (List (List PV)))) (res : List PA) : Prop := ConG none P f args outs res
mutual
inductive Brw (s : St) (X : List Nat) : AV → PV → Prop where
 | v {d : Option Nat} {x : Value} : Brw s X (.p d (.v x)) (.v x)
 | sl {d : Option Nat} {o : Bool} {sz : Nat} {xs : List (List PV)} (hd : ∀ i, d = some i → i ∉ X) : Brw s X (.p d (.sl o sz xs)) (.sl false sz xs)
 | cl {d : Option Nat} {f : Nat} {xs : List (List PV)} (hd : ∀ i, d = some i → i ∉ X) : Brw s X (.p d (.clo f xs)) (.clo f xs)
 | nil (sz : Nat) : Brw s X .nils (.sl false sz [])
 | row {id lo len sz : Nat} {xs : List (List PV)} (hr : s.r id = some (sz, xs)) (hi : id ∉ X) : Brw s X (.sl id lo len) (.sl false sz ((xs.drop lo).take len))
 | all {id len sz : Nat} {xs : List (List PV)} (hr : s.r id = some (sz, xs)) (hl : len = xs.length) (hi : id ∉ X) : Brw s X (.sl id 0 len) (.sl false sz xs)
 | clo {f : Nat} {bs : List Nat} {pss : List (List PV)} (h : BrwB s X bs pss) : Brw s X (.clo f bs) (.clo f pss)
inductive Brws (s : St) (X : List Nat) : List AV → List PV → Prop where
 | nil : Brws s X [] []
 | cons {a : AV} {p : PV} {aL : List AV} {ps : List PV} (h : Brw s X a p) (t : Brws s X aL ps) : Brws s X (a :: aL) (p :: ps)
inductive BrwB (s : St) (X : List Nat) : List Nat → List (List PV) → Prop where
 | nil : BrwB s X [] []
 | cons {b : Nat} {cs : List AV} {ps : List PV} {bs : List Nat} {pss : List (List PV)} (hb : s.b b = some cs) (h : Brws s X cs ps) (t : BrwB s X bs pss) : BrwB s X (b :: bs) (ps :: pss)
end
theorem PVR.nfO {Z : Nat → Prop} {w : World} {p : PV} {v : Value} (h : PVR Z w p v) (hn : p.nf = true) : PVO Z w p v [] := by
 cases p with
 | v x => cases h; exact .v _ ‹_›
 | sl o sz xs =>
  simp [PV.nf] at hn
  subst hn
  exact .fro _ _ _ h
 | clo f xs => exact .clo _ _ _ h
section
variable {w0 : World} {I : Fr} {n : Nat} {L : Pl} {s : St} {a : Act} {w : World} {X : List Nat}
def rest (L : Pl) (w : World) (X : List Nat) : Nat → Prop := fun k => k < w.heap.size ∧ k ∉ X.flatMap L.ν
theorem zEx (h : Rel w0 I n L s a w) (hX : ∀ i ∈ X, (s.r i).isSome) {d : Option Nat} (hd : ∀ i, d = some i → i ∉ X ∧ (s.r i).isSome) : ∀ k, L.zd d k → rest L w X k := fun k hk => by
 have lab : k ∈ X.flatMap L.ν → ∃ i ∈ X, L.lab k = some (.row i) := fun hx => by
  obtain ⟨i, hi, hki⟩ := List.mem_flatMap.1 hx
  obtain ⟨⟨sz, xs⟩, hr⟩ := Option.isSome_iff_exists.1 (hX i hi)
  exact ⟨i, hi, (h.rw i sz xs hr).2.2 k hki⟩
 rcases hk with hk | ⟨id, rfl, hk⟩
 · exact ⟨(h.zlt k hk).1, fun hx => by obtain ⟨i, _, e⟩ := lab hx; rw [(h.zlt k hk).2] at e; cases e⟩
 ·
  obtain ⟨hn, hs⟩ := hd id rfl
  obtain ⟨⟨sz, xs⟩, hr⟩ := Option.isSome_iff_exists.1 hs
  have h1 := h.rw id sz xs hr
  refine ⟨h1.1.lt k (List.mem_of_mem_tail hk), fun hx => ?_⟩
  obtain ⟨i, hi, e⟩ := lab hx
  rw [h1.2.2 k (List.mem_of_mem_tail hk)] at e
  simp only [Option.some.injEq, Lab.row.injEq] at e
  subst e
  exact hn hi
theorem zKe (h : Rel w0 I n L s a w) (hX : ∀ i ∈ X, (s.r i).isSome) {id sz : Nat} {xs : List (List PV)} (hr : s.r id = some (sz, xs)) (hi : id ∉ X) : PVR (rest L w X) w (.sl true sz xs) (L.ρ id) := by
 obtain ⟨h1, h2, h3⟩ := h.rw id sz xs hr
 refine h1.toR.mono (fun _ _ => rfl) (fun k hk => ?_)
 rcases hk with hk | hk
 · exact zEx h hX (d := none) (fun _ h => by cases h) k (.inl hk)
 ·
  refine ⟨h1.lt k hk, fun hx => ?_⟩
  obtain ⟨i, hi', hki⟩ := List.mem_flatMap.1 hx
  obtain ⟨⟨sz', xs'⟩, hr'⟩ := Option.isSome_iff_exists.1 (hX i hi')
  have e := (h.rw i sz' xs' hr').2.2 k hki
  rw [h3 k hk] at e
  simp only [Option.some.injEq, Lab.row.injEq] at e
  subst e
  exact hi hi'
theorem zFT {v0 v : Value} {sz len : Nat} (h : View v0 sz 0 len v) (hl : ∀ A n c, v0 = .slice A n c → n = len) : v = v0 := by
 obtain ⟨A, n, c, A', c', rfl, rfl, _, h0, _⟩ := h
 obtain ⟨rfl, rfl⟩ := h0 rfl
 rw [hl _ _ _ rfl]
theorem zIC {Z : Nat → Prop} {w : World} {o : Bool} {sz : Nat} {xs : List (List PV)} {v : Value} (h : PVR Z w (.sl o sz xs) v) : ∀ A n c, v = .slice A n c → n = xs.length := fun A n c e => by
 subst e
 cases h <;> rfl
mutual
theorem Brw.ok (h : Rel w0 I n L s a w) (hX : ∀ i ∈ X, (s.r i).isSome) : ∀ {av : AV} {p : PV} (_ : Brw s X av p) {v : Value} (_ : AVR L w s av v), p.nf = true ∧ PVR (rest L w X) w p v
 | _, _, .v, v, hv => by simp only [AVR] at hv; have h1 := hv.1; cases h1; exact ⟨rfl, .v _ ‹_›⟩
 | _, _, .sl hd, v, hv => by simp only [AVR] at hv; exact ⟨rfl, (hv.1.flag false).mono (fun _ _ => rfl) (zEx h hX (fun i e => ⟨hd i e, hv.2 i e⟩))⟩
 | _, _, .cl hd, v, hv => by simp only [AVR] at hv; exact ⟨rfl, hv.1.mono (fun _ _ => rfl) (zEx h hX (fun i e => ⟨hd i e, hv.2 i e⟩))⟩
 | _, _, .nil sz, v, hv => by simp only [AVR] at hv; obtain ⟨A, rfl⟩ := hv; exact ⟨rfl, .emp _ _ _ _⟩
 | _, _, .row (id := id) (lo := lo) (len := len) (sz := sz) (xs := xs) hr hi, v, hv => by
  simp only [AVR] at hv
  obtain ⟨sz', xs', e1, e2, A, m, c, A', c', e3, rfl, e5, e6, e7⟩ := hv
  rw [hr] at e1
  cases e1
  have hp := zKe h hX hr hi
  have hm := zIC hp A m c e3
  rw [e3] at hp
  subst hm
  refine ⟨rfl, (hp.flag false).cut e2 _ _ e5 (fun hpos => ?_)⟩
  obtain ⟨k, rfl, rfl⟩ := e7 hpos
  exact ⟨k, 0, rfl, by rw [Nat.zero_add]⟩
 | _, _, .all hr hl hi, v, hv => by
  simp only [AVR] at hv
  obtain ⟨sz', xs', e1, e2, e3⟩ := hv
  rw [hr] at e1
  cases e1
  have hp := zKe h hX hr hi
  have := zFT e3 (fun A n c e => (zIC hp A n c e).trans hl.symm)
  subst this
  exact ⟨rfl, hp.flag false⟩
 | _, _, .clo (f := f) (bs := bs) (pss := pss) hb, v, hv => by
  simp only [AVR] at hv
  obtain ⟨hl, u, hu⟩ := BrwB.ok h hX hb
  refine ⟨rfl, ?_⟩
  rw [hv.2]
  have : (bs.map fun b => Value.pointer (some ⟨L.β b, 0, none⟩)) = (bs.map L.β).map fun k => Value.pointer (some ⟨k, 0, none⟩) := by simp
  rw [this]
  refine .clo f pss (bs.map L.β) (by simpa using hl) (fun k hk => ?_) u (fun i j es k p h1 h2 h3 => ?_) (fun i j es p h1 h2 => ?_)
  ·
   obtain ⟨b, hb', rfl⟩ := List.mem_map.1 hk
   obtain ⟨cs, hcs⟩ := Option.isSome_iff_exists.1 (hv.1 b hb')
   have hlb := (h.bx b cs hcs).1
   refine ⟨(h.llt _ _ hlb).1, fun hx => ?_⟩
   obtain ⟨i, hi, hki⟩ := List.mem_flatMap.1 hx
   obtain ⟨⟨sz, xs⟩, hr⟩ := Option.isSome_iff_exists.1 (hX i hi)
   have := (h.rw i sz xs hr).2.2 _ hki
   rw [hlb] at this
   cases this
  ·
   rw [List.getElem?_map] at h2
   obtain ⟨b, hb1, hb2⟩ := Option.map_eq_some_iff.1 h2
   subst hb2
   exact (hu i j b es p hb1 h1 h3).1
  ·
   have hlt : i < bs.length := by rw [hl]; exact (List.getElem?_eq_some_iff.1 h1).1
   exact (hu i j bs[i] es p (List.getElem?_eq_getElem hlt) h1 h2).2
theorem Brws.ok (h : Rel w0 I n L s a w) (hX : ∀ i ∈ X, (s.r i).isSome) : ∀ {aL : List AV} {ps : List PV} (_ : Brws s X aL ps) {us : List Value} (_ : AVRs L w s aL us), ps.length = us.length ∧ ∀ (j : Nat) p, ps[j]? = some p → ∃ u, us[j]? = some u ∧ p.nf = true ∧ PVR (rest L w X) w p u
 | _, _, .nil, us, hv => by
  cases us with
  | nil => exact ⟨rfl, by simp⟩
  | cons _ _ => simp [AVRs] at hv
 | _, _, .cons hb ht, us, hv => by
  cases us with
  | nil => simp [AVRs] at hv
  | cons u us =>
   simp only [AVRs] at hv
   obtain ⟨h1, h2⟩ := Brws.ok h hX ht hv.2
   refine ⟨by simp [h1], fun j p hj => ?_⟩
   cases j with
   | zero => simp at hj; subst hj; exact ⟨u, rfl, Brw.ok h hX hb hv.1⟩
   | succ j => simp at hj; simpa using h2 j p hj
theorem BrwB.ok (h : Rel w0 I n L s a w) (hX : ∀ i ∈ X, (s.r i).isSome) : ∀ {bs : List Nat} {pss : List (List PV)} (_ : BrwB s X bs pss), bs.length = pss.length ∧ ∃ u : Nat → Nat → Value, ∀ (i j b : Nat) es p, bs[i]? = some b → pss[i]? = some es → es[j]? = some p → w.cell? ⟨L.β b, j, none⟩ = some (u i j) ∧ PVR (rest L w X) w p (u i j)
 | _, _, .nil => ⟨rfl, fun _ _ => undef, by simp⟩
 | _, _, .cons (b := b) (cs := cs) hb hc ht => by
  obtain ⟨h1, u, hu⟩ := BrwB.ok h hX ht
  obtain ⟨us, h2, h3⟩ := h.box hb
  obtain ⟨h4, h5⟩ := Brws.ok h hX hc h2
  refine ⟨by simp [h1], fun i j => match i with | 0 => us.getD j undef | i + 1 => u i j, fun i j b' es p hb' hes hp => ?_⟩
  cases i with
  | zero =>
   simp at hb' hes
   subst hb' hes
   obtain ⟨x, hx, _, hr⟩ := h5 j p hp
   simp only [List.getD_eq_getElem?_getD, hx, Option.getD_some]
   exact ⟨h3 j x hx, hr⟩
  | succ i =>
   simp at hb' hes
   exact hu i j b' es p hb' hes hp
end
end
end Go.Rl

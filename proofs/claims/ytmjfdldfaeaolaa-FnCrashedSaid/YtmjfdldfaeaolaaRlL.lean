/- R, part L: elements stored, cuts, texts, and the smaller steps. -/
import Derived.Test.YtmjfdldfaeaolaaRlK
namespace Go.Rl
open Go.RowKit

/-- Nothing of one's own lies inside. -/
def PV.nf : PV → Bool
  | .v _ => true
  | .sl o _ _ => !o
  | .clo _ _ => true
def NfP (xs : List (List PV)) : Prop := ∀ es ∈ xs, ∀ p ∈ es, PV.nf p = true
theorem FlatP.nf {xs : List (List PV)} (h : FlatP xs) : NfP xs := fun es he p hp => by
  have := h es he p hp
  cases p <;> first | rfl | cases this
theorem PVO.nfN {Z : Nat → Prop} {w : World} {p : PV} {v : Value} {N : List Nat} (h : PVO Z w p v N) (hn : p.nf = true) : N = [] := by
  cases h <;> first | rfl | (simp [PV.nf] at hn)
theorem over_app_l {α : Type} {e F ps : List α} {o : Nat} (h : o + ps.length ≤ e.length) : over (e ++ F) o ps = over e o ps ++ F := by
  simp only [over, List.append_assoc]
  rw [List.take_append_of_le_length (by omega), List.drop_append_of_le_length (by omega)]
theorem over_app_r {α : Type} {e F ps : List α} {o : Nat} : over (e ++ F) (e.length + o) ps = e ++ over F o ps := by
  simp only [over, List.append_assoc]
  rw [List.take_length_add_append, List.append_assoc, Nat.add_assoc, List.drop_length_add_append]
theorem flat_set {sz : Nat} : ∀ {xs : List (List PV)} (_ : ∀ es ∈ xs, es.length = sz) {i : Nat} {es ps : List PV} {o : Nat} (_ : xs[i]? = some es) (_ : o + ps.length ≤ sz), (xs.set i (over es o ps)).flatten = over xs.flatten (i * sz + o) ps
  | [], _, i, _, _, _, hi, _ => by simp at hi
  | e :: xs, hl, 0, es, ps, o, hi, ho => by
    simp at hi
    subst hi
    have he := hl e (by simp)
    simp only [List.set_cons_zero, List.flatten_cons, Nat.zero_mul, Nat.zero_add]
    exact (over_app_l (by omega)).symm
  | e :: xs, hl, i + 1, es, ps, o, hi, ho => by
    simp at hi
    have he := hl e (by simp)
    simp only [List.set_cons_succ, List.flatten_cons]
    rw [flat_set (fun es h => hl es (by simp [h])) hi ho, ← over_app_r, he]
    congr 1
    rw [Nat.succ_mul]; omega

section
variable {w0 : World} {I : Fr} {n : Nat} {L : Pl} {s : St} {a : Act} {w : World}
/-- A row without rows inside has other elements, as many. -/
theorem Rel.poke (h : Rel w0 I n L s a w) {id sz : Nat} {xs xs' : List (List PV)} (hr : s.r id = some (sz, xs)) (hpos : 0 < xs.length) (hnf : NfP xs) (hlen : xs'.length = xs.length) (hl' : ∀ es ∈ xs', es.length = sz) {k nn c : Nat} (hρ : L.ρ id = .slice (some ⟨k, 0, none⟩) nn c) {cur cur' : Array Value} {ty : TypeId} (hk : w.heap[k]? = some (.cells cur ty (0, 0))) (hs : cur'.size = cur.size)
    (hp : ∀ (j : Nat) p, xs'.flatten[j]? = some p → ∃ u, cur'[j]? = some u ∧ ((xs.flatten[j]? = some p ∧ cur[j]? = some u) ∨ PVO L.Z w p u [])) :
    Rel w0 I n L { s with r := upd s.r id (some (sz, xs')) } a (w.setRow k cur') := by
  obtain ⟨h1, h2, h3⟩ := h.rw id sz xs hr
  have hN : ∃ m, L.ν id = k :: m ∧ m = [] ∧ cur.size = c * sz ∧ xs.length ≤ c ∧ 0 < c ∧ c ≤ maxLen ∧ nn = xs.length ∧ ∀ (j : Nat) p, xs.flatten[j]? = some p → ∃ u, cur[j]? = some u ∧ PVO L.Z w p u [] := by
    rw [hρ] at h1
    generalize L.ν id = N at h1
    cases h1 with
    | nil => simp at hpos
    | own _ _ _ _ cur0 ty0 hlen0 hk0 hsz hc hm u m hcell hpp =>
      rw [hk] at hk0
      cases hk0
      have hm0 : ∀ j, j < xs.flatten.length → m j = [] := fun j hj => (hpp j _ (List.getElem?_eq_getElem hj)).nfN (by
        obtain ⟨es, h1, h2⟩ := List.mem_flatten.1 (List.getElem_mem hj)
        exact hnf es h1 _ h2)
      refine ⟨_, rfl, ?_, hsz, hc.1, hc.2, hm, rfl, fun j p hj => ⟨u j, hcell j (List.getElem?_eq_some_iff.1 hj).1, by have := hpp j p hj; rwa [hm0 j (List.getElem?_eq_some_iff.1 hj).1] at this⟩⟩
      rw [flatMap_eq (g := fun _ => []) (fun x hx => hm0 x (List.mem_range.1 hx)), flatMap_no]
  obtain ⟨m, hν, rfl, hsz, hc, hc0, hm, rfl, hpp⟩ := hN
  have hlk := h3 k (by rw [hν]; simp)
  have off : ∀ y, L.lab y ≠ some (.row id) → (w.setRow k cur').heap[y]? = w.heap[y]? := fun y hy => setRow_other w k y _ (fun e => hy (by rw [e]; exact hlk))
  have hzo : ∀ y, L.Z y → (w.setRow k cur').heap[y]? = w.heap[y]? := fun y hy => off y (by rw [(h.zlt y hy).2]; simp)
  refine h.next (K := []) (h.same.setRow (h.llt _ _ hlk).2 _) (fun y hy => ⟨by simpa using (h.zlt y hy).1, (h.zlt y hy).2⟩) (fun y l hy => ⟨by simpa using (h.llt y l hy).1, (h.llt y l hy).2⟩) ⟨fun y hy => ⟨hy, hzo y hy⟩, fun i y _ hi hy => ⟨.inr hy, ?_⟩, fun b hb => ⟨hb, rfl⟩, fun i sz0 xs0 _ hx => ?_⟩ (fun i => (AV.kill_nil _).symm)
    (fun i ds hd => .inl ⟨ds, hd, (AV.kills_nil _).symm, off _ (by rw [(h.bx i ds hd).1]; simp), rfl⟩) (fun i sz0 xs0 hx => ?_)
  · by_cases e : i = id
    · subst e; rw [hν] at hy; cases hy
    · obtain ⟨⟨sz0, xs0⟩, hx⟩ := Option.isSome_iff_exists.1 hi
      exact off y (by rw [(h.rw i sz0 xs0 hx).2.2 y (List.mem_of_mem_tail hy)]; simp [e])
  · by_cases e : i = id
    · subst e
      rw [hr] at hx
      cases hx
      exact ⟨xs', by simp, hlen, rfl⟩
    · exact ⟨xs0, by simp only [upd_ne _ _ e]; exact hx, rfl, rfl⟩
  · by_cases e : i = id
    · subst e
      simp only [upd_self, Option.some.injEq, Prod.mk.injEq] at hx
      obtain ⟨rfl, rfl⟩ := hx
      refine .inr ⟨.inr ⟨by rw [hr]; rfl, rfl⟩, ?_, h2, h3⟩
      rw [hρ, hν, ← hlen]
      have := pvo_row (Z := L.Z) (w := w.setRow k cur') (k := k) (c := c) (sz := sz) (xs := xs') hl' (setRow_heap w k _ _ _ _ hk) (hs.trans hsz) (by omega) hc0 hm (fun _ => []) (fun j p hj => by
        obtain ⟨u, hu, hor⟩ := hp j p hj
        refine ⟨u, hu, ?_⟩
        rcases hor with ⟨h5, h6⟩ | h5
        · obtain ⟨u', h7, h8⟩ := hpp j p h5
          rw [h6] at h7
          cases h7
          exact h8.mono hzo (by simp) (fun _ h => h)
        · exact h5.mono hzo (by simp) (fun _ h => h))
      rwa [flatMap_no] at this
    · simp only [upd_ne _ _ e] at hx
      exact .inl ⟨hx, rfl, rfl, fun y hy => ⟨off y (by rw [(h.rw i sz0 xs0 hx).2.2 y hy]; simp [e]), rfl⟩⟩
end

section
variable {γ : Gho} {P : Program} {n : Nat} {o : Oper} {M B : List Nat} {s : St}
theorem rowss_cells (av : AV) : AV.rowss av.cells = av.rows := by cases av <;> simp [AV.cells, AV.rows, AV.rowss]
theorem st_store_row {ty : TypeId} {x y : Operand} {sz rz : Nat} (ho : o.op = .store ty x y) {id i off : Nat} {xs : List (List PV)} {es ps : List PV} {av : AV} (hx : s.ev x = .ea id i off) (hr : s.r id = some (rz, xs)) (hnf : NfP xs) (hi : xs[i]? = some es) (hy : s.ev y = av) (hf : av.fits = true) (g : Gvs s av.cells ps []) (hsz : ∀ w, (sizeOf ty).run P w = .ok sz w) (hl : av.cells.length = sz) (hle : off + sz ≤ rz) :
    StepD γ P n o M B s { setR := [(id, rz, xs.set i (over es off ps))] } := by
  intro s' ag hd w0 I L a w hG hrl K Q hK
  have h := hrl.ev y
  rw [ag.ev1 ho (by simp [Op.operands]), hy] at h
  have hr' := (ag.r1 ho (by simp [Op.operands]) hx (id := id) (by simp [AV.rows])).trans hr
  have hp := hrl.ev x
  rw [ag.ev1 ho (by simp [Op.operands]), hx] at hp
  simp only [AVR] at hp
  obtain ⟨sz', xs0, k, nn, c, e1, e2, e3, e4⟩ := hp
  rw [hr'] at e1
  cases e1
  obtain ⟨h1, h2⟩ := h.cells hf
  have hrows : ∀ j ∈ AV.rowss av.cells, s'.r j = s.r j := fun j hj => ag.r1 (x := y) ho (by simp [Op.operands]) hy (by rw [← rowss_cells]; exact hj)
  obtain ⟨h3, m, h4, h5⟩ := (g.at hrows).ok hrl h1
  have hm0 : ∀ j, j < ps.length → m j = [] := fun j hj => by
    have : (List.range ps.length).flatMap m = [] := by simpa using h4
    rw [List.flatMap_eq_nil_iff] at this
    exact this j (List.mem_range.2 hj)
  obtain ⟨q1, q2, q3⟩ := hrl.rw id _ _ hr'
  have hk : ∃ cur ty0, w.heap[k]? = some (.cells cur ty0 (0, 0)) ∧ (∀ es ∈ xs, es.length = rz) ∧ xs.flatten.length ≤ cur.size ∧ ∀ (j : Nat) p, xs.flatten[j]? = some p → ∃ u, cur[j]? = some u := by
    rw [e3] at q1
    generalize L.ν id = N at q1
    cases q1 with
    | nil => simp at e2
    | own _ _ _ _ cur ty0 hlen hk0 hsz0 hc hm u m hcell hpp =>
      exact ⟨cur, ty0, hk0, hlen, by rw [flat_len hlen, hsz0]; exact Nat.mul_le_mul_right _ hc.1, fun j p hj => ⟨u j, hcell j (List.getElem?_eq_some_iff.1 hj).1⟩⟩
  obtain ⟨cur, ty0, hk, hlen, hle2, hcu⟩ := hk
  have hlt : i < xs.length := (List.getElem?_eq_some_iff.1 hi).1
  have hesl : es.length = rz := hlen es (List.mem_of_getElem? hi)
  have hpl : ps.length = sz := by rw [← h3, ← h1.length]; exact hl
  have hb : i * rz + rz ≤ xs.flatten.length := by
    rw [flat_len hlen, ← Nat.succ_mul]
    exact Nat.mul_le_mul_right _ hlt
  have hcl : cur.toList.length = cur.size := Array.length_toList
  have hvl : (a.eval y).cells.toList.length = sz := by rw [h3, hpl]
  have hfit : i * rz + off + (a.eval y).cells.toList.length ≤ cur.toList.length := by omega
  have hfs := flat_set hlen hi (o := off) (ps := ps) (by omega)
  have hn := hrl.poke (xs' := xs.set i (over es off ps)) (cur' := ⟨over cur.toList (i * rz + off) (a.eval y).cells.toList⟩) hr' (by omega) hnf (by simp) (fun es' hes => by
    rcases List.mem_or_eq_of_mem_set hes with h | rfl
    · exact hlen es' h
    · rw [over_len (by omega)]; exact hesl) e3 hk (by have := over_len hfit; rw [hcl] at this; simpa using this) (fun j p hj => by
    rw [hfs, over_get (by omega)] at hj
    have hg : (⟨over cur.toList (i * rz + off) (a.eval y).cells.toList⟩ : Array Value)[j]? = (over cur.toList (i * rz + off) (a.eval y).cells.toList)[j]? := by simp
    rw [hg, over_get hfit, hvl]
    rw [hpl] at hj
    by_cases hc : i * rz + off ≤ j ∧ j < i * rz + off + sz
    · rw [if_pos hc] at hj ⊢
      obtain ⟨u, hu, hpv⟩ := h5 _ p hj
      rw [hm0 _ (List.getElem?_eq_some_iff.1 hj).1] at hpv
      exact ⟨u, hu, .inr hpv⟩
    · rw [if_neg hc] at hj ⊢
      obtain ⟨u, hu⟩ := hcu j p hj
      exact ⟨u, by simpa using hu, .inl ⟨hj, hu⟩⟩)
  have he : (execOp a.eval o).run P w = .ok .skip (w.setRow k ⟨over cur.toList (i * rz + off) (a.eval y).cells.toList⟩) := by
    simp only [execOp, ho, e4, Instr.storeAt, Instr.sureAddr, pure_bind, Sem.run_bind]
    rw [run_storeVar hsz hk (by rw [← Array.length_toList]; exact hvl) (by omega) h2]
    rfl
  unfold Oper.wp
  rw [he]
  exact hK _ _ _ (hn.put hd (av := .undef) (by simp only [AVR]))

/-- A bound of a cut. -/
inductive BndA (s : St) (dflt : Nat) : Option Operand → Nat → Prop where
  | no : BndA s dflt none dflt
  | at_ {x : Operand} {d : Option Nat} {k : IntKind} {i : Int} {l : Nat} (hx : s.ev x = .p d (.v (.int k i))) (hi : i = l) : BndA s dflt (some x) l
theorem BndA.at {s s' : St} {dflt l : Nat} {x : Option Operand} (g : BndA s dflt x l) (h : ∀ y, x = some y → s'.ev y = s.ev y) : BndA s' dflt x l := by
  cases g with
  | no => exact .no
  | at_ hx hi => exact .at_ ((h _ rfl).trans hx) hi
theorem BndA.ok {w0 : World} {I : Fr} {L : Pl} {a : Act} {w : World} (hr : Rel w0 I n L s a w) {dflt l : Nat} {x : Option Operand} (g : BndA s dflt x l) : (x = none ∧ l = dflt) ∨ ∃ y k, x = some y ∧ a.eval y = .int k l := by
  cases g with
  | no => exact .inl ⟨rfl, rfl⟩
  | at_ hx hi => subst hi; exact .inr ⟨_, _, rfl, hr.evv hx⟩
theorem run_bounds {isSlice : Bool} {len cap l h : Nat} {lo hi : Option Value} (hlo : (lo = none ∧ l = 0) ∨ ∃ k, lo = some (.int k l)) (hhi : (hi = none ∧ h = len) ∨ ∃ k, hi = some (.int k h)) (h1 : l ≤ h) (h2 : h ≤ cap) (w : World) :
    (Instr.sliceBounds isSlice len cap lo hi none).run P w = .ok (l, h, cap) w := by
  have e1 : ¬ ((cap : Int) < h) := by omega
  have e2 : ¬ ((h : Int) < l) := by omega
  have e3 : ((h : Int) ≤ cap) := by omega
  have e4 : ((l : Int) ≤ h) := by omega
  rcases hlo with ⟨rfl, rfl⟩ | ⟨k, rfl⟩ <;> rcases hhi with ⟨rfl, rfl⟩ | ⟨k', rfl⟩ <;> simp [Instr.sliceBounds, Instr.sliceBound, asIntOf, h1, h2]
theorem cut_ag {s' : St} {t : TypeId} {x : Operand} {lo hi : Option Operand} (ho : o.op = .slice t x lo hi none) (ag : Ag o M B s s') : (∀ y, lo = some y → s'.ev y = s.ev y) ∧ ∀ y, hi = some y → s'.ev y = s.ev y :=
  ⟨fun y hy => ag.ev1 ho (by subst hy; simp [Op.operands]), fun y hy => ag.ev1 ho (by subst hy; simp [Op.operands])⟩
theorem bnd_vals {w0 : World} {I : Fr} {L : Pl} {a : Act} {w : World} (hr : Rel w0 I n L s a w) {dflt l : Nat} {x : Option Operand} (g : BndA s dflt x l) : (x.map a.eval = none ∧ l = dflt) ∨ ∃ k, x.map a.eval = some (.int k l) := by
  rcases g.ok hr with ⟨rfl, rfl⟩ | ⟨y, k, rfl, e⟩
  · exact .inl ⟨rfl, rfl⟩
  · exact .inr ⟨k, by simp [e]⟩
theorem st_cut_str {t : TypeId} {x : Operand} {lo hi : Option Operand} (ho : o.op = .slice t x lo hi none) {d : Option Nat} {b : ByteArray} {l h : Nat} (hx : s.ev x = .p d (.v (.string b))) (hu : P.underlying t = some .string) (hl : BndA s 0 lo l) (hh : BndA s b.size hi h) (h1 : l ≤ h) (h2 : h ≤ b.size) :
    StepD γ P n o M B s { put := .p none (.v (.string (b.extract l h))) } :=
  stepD_pure fun s' ag w0 I L a w hr => by
    have hv := hr.evv ((ag.ev1 ho (by simp [Op.operands])).trans hx)
    have b1 := bnd_vals hr (hl.at (cut_ag ho ag).1)
    have b2 := bnd_vals hr (hh.at (cut_ag ho ag).2)
    exact ⟨_, by simp [execOp, ho, hv, Instr.sliceAt, Instr.slice, run_underlying hu, run_bounds b1 b2 h1 h2], avr_flat L w s' rfl⟩
theorem run_cut {t e : TypeId} {sz : Nat} (hu : P.underlying t = some (.slice e)) (hsz : ∀ w, (sizeOf e).run P w = .ok sz w) {A : Option Addr} {len cap l h : Nat} {lo hi : Option Value} (hlo : (lo = none ∧ l = 0) ∨ ∃ k, lo = some (.int k l)) (hhi : (hi = none ∧ h = len) ∨ ∃ k, hi = some (.int k h)) (h1 : l ≤ h) (h2 : h ≤ cap) (w : World) :
    (Instr.sliceAt t (.slice A len cap) lo hi none).run P w = .ok (.slice (if cap = l then A else A.map (·.add (l * sz))) (h - l) (cap - l)) w := by
  simp [Instr.sliceAt, Instr.slice, run_underlying hu, run_bounds hlo hhi h1 h2, hsz]
theorem st_cut_row {t e : TypeId} {x : Operand} {lo hi : Option Operand} (ho : o.op = .slice t x lo hi none) {id q len l h sz m : Nat} {xs : List (List PV)} (hx : s.ev x = .sl id q len) (hr : s.r id = some (sz, xs)) (hu : P.underlying t = some (.slice e)) (hsz : ∀ w, (sizeOf e).run P w = .ok sz w) (hl : BndA s 0 lo l) (hh : BndA s len hi h) (h1 : l ≤ h) (h2 : h ≤ len) (hm : m = h - l) :
    StepD γ P n o M B s { put := .sl id (q + l) m } :=
  stepD_pure fun s' ag w0 I L a w hrl => by
    subst hm
    have he := (ag.ev1 ho (by simp [Op.operands])).trans hx
    have hr' := (ag.r1 ho (by simp [Op.operands]) hx (id := id) (by simp [AV.rows])).trans hr
    have b1 := bnd_vals hrl (hl.at (cut_ag ho ag).1)
    have b2 := bnd_vals hrl (hh.at (cut_ag ho ag).2)
    have hv := hrl.ev x
    rw [he] at hv
    simp only [AVR] at hv
    obtain ⟨sz', xs', e1, e2, A, m, c, A', c', e3, e4, e5, e6, e7⟩ := hv
    rw [hr'] at e1
    cases e1
    refine ⟨_, by simp only [execOp, ho, e4, Option.map_none, Sem.run_bind, run_cut hu hsz b1 b2 h1 (Nat.le_trans h2 e5) w]; rfl, ?_⟩
    simp only [AVR]
    refine ⟨sz, xs, hr', by omega, A, m, c, _, _, e3, rfl, by omega, fun h0 => ?_, fun h0 => ?_⟩
    · obtain ⟨rfl, rfl⟩ := e6 (by omega)
      have : l = 0 := by omega
      subst this
      refine ⟨?_, by omega⟩
      split
      · rfl
      · cases A' with
        | none => rfl
        | some ad => simp only [Nat.zero_mul, Option.map_some, Option.some.injEq]; unfold Addr.add; split <;> simp_all
    · obtain ⟨k, rfl, rfl⟩ := e7 (by omega)
      refine ⟨k, rfl, ?_⟩
      rw [if_neg (by omega)]
      simp only [Option.map_some, Addr.add0]
      rw [Nat.add_mul]
theorem st_cut_fro {t e : TypeId} {x : Operand} {lo hi : Option Operand} (ho : o.op = .slice t x lo hi none) {d : Option Nat} {ow : Bool} {l h sz : Nat} {xs : List (List PV)} (hx : s.ev x = .p d (.sl ow sz xs)) (hu : P.underlying t = some (.slice e)) (hsz : ∀ w, (sizeOf e).run P w = .ok sz w) (hl : BndA s 0 lo l) (hh : BndA s xs.length hi h) (h1 : l ≤ h) (h2 : h ≤ xs.length) :
    StepD γ P n o M B s { put := .p d (.sl false sz ((xs.drop l).take (h - l))) } :=
  stepD_pure fun s' ag w0 I L a w hrl => by
    have he := (ag.ev1 ho (by simp [Op.operands])).trans hx
    have b1 := bnd_vals hrl (hl.at (cut_ag ho ag).1)
    have b2 := bnd_vals hrl (hh.at (cut_ag ho ag).2)
    have hv := hrl.ev x
    rw [he] at hv
    simp only [AVR] at hv
    obtain ⟨hp, hd⟩ := hv
    have hp0 := hp
    generalize hev : a.eval x = v at hp
    have key : ∃ A c, v = .slice A xs.length c ∧ xs.length ≤ c ∧ (0 < xs.length → ∃ k off, A = some ⟨k, off, none⟩) := by
      cases hp with
      | emp _ _ A c => exact ⟨A, c, rfl, by simp, by simp⟩
      | sl _ _ _ k off c hlen hc hz u hcell hpp => exact ⟨_, c, rfl, hc, fun _ => ⟨k, off, rfl⟩⟩
    obtain ⟨A, c, rfl, hc, hA⟩ := key
    refine ⟨_, by simp only [execOp, ho, hev, Option.map_none, Sem.run_bind, run_cut hu hsz b1 b2 h1 (Nat.le_trans h2 hc) w]; rfl, ?_⟩
    simp only [AVR]
    refine ⟨(hp.flag false).cut (by omega) _ _ (by omega) (fun hpos => ?_), hd⟩
    obtain ⟨k, off, rfl⟩ := hA (by omega)
    refine ⟨k, off, rfl, ?_⟩
    rw [if_neg (by omega)]
    simp only [Option.map_some, Addr.add0]
theorem st_len_nils {x : Operand} {t e : TypeId} (ho : o.op = .call { callee := .builtin .len, args := #[x], argTypes := #[t] }) (hx : s.ev x = .nils) (hu : P.underlying t = some (.slice e)) : StepD γ P n o M B s { put := .p none (.v (.int .i64 0)) } :=
  stepD_pure fun s' ag w0 I L a w hrl => by
    have he := (ag.ev1 ho (by simp [Op.operands, Call.operands])).trans hx
    have h := hrl.ev x
    rw [he] at h
    simp only [AVR] at h
    obtain ⟨A, h⟩ := h
    exact ⟨_, by simp [execOp, ho, resolve, invoke, builtin, Builtin.len_, h, run_underlying hu, goInt], avr_flat L w s' rfl⟩
end
end Go.Rl

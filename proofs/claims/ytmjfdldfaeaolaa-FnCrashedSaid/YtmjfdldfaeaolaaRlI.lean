/- R, part I: rows made and made longer. -/
import Derived.Test.YtmjfdldfaeaolaaRlH
namespace Go.Rl
open Go.RowKit

theorem pvo_row {Z : Nat → Prop} {w : World} {k c sz : Nat} {cur : Array Value} {ty : TypeId} {xs : List (List PV)} (hlen : ∀ es ∈ xs, es.length = sz) (hk : w.heap[k]? = some (.cells cur ty (0, 0))) (hsz : cur.size = c * sz) (hc : xs.length ≤ c) (hc0 : 0 < c) (hm : c ≤ maxLen) (m : Nat → List Nat)
    (hp : ∀ j p, xs.flatten[j]? = some p → ∃ u, cur[j]? = some u ∧ PVO Z w p u (m j)) : PVO Z w (.sl true sz xs) (.slice (some ⟨k, 0, none⟩) xs.length c) (k :: (List.range xs.flatten.length).flatMap m) := by
  refine .own sz xs k c cur ty hlen hk hsz ⟨hc, hc0⟩ hm (fun j => cur.getD j undef) m (fun j hj => ?_) (fun j p hj => ?_)
  · obtain ⟨u, hu, _⟩ := hp j _ (List.getElem?_eq_getElem hj)
    simp [hu]
  · obtain ⟨u, hu, hr⟩ := hp j p hj
    simpa [hu] using hr
theorem pvo_lt {Z : Nat → Prop} {w : World} {p : PV} {v : Value} {N : List Nat} (h : PVO Z w p v N) (hz : ∀ k, Z k → k < w.heap.size) (o : Obj) : PVO Z (w.alloc o) p v N :=
  h.mono (fun k hk => heap_alloc_old w o (hz k hk)) (fun k hk => heap_alloc_old w o (h.lt k hk)) (fun _ h => h)

section
variable {w0 : World} {I : Fr} {n : Nat} {L : Pl} {s : St} {a : Act} {w : World}
/-- A row in a new block. -/
theorem Rel.fresh (h : Rel w0 I n L s a w) (K : List Nat) (id : Nat) {cur : Array Value} (e : TypeId) {sz c : Nat} {xs : List (List PV)} (hlen : ∀ es ∈ xs, es.length = sz) (hsz : cur.size = c * sz) (hc : xs.length ≤ c) (hm : c ≤ maxLen) (m : Nat → List Nat)
    (hp : ∀ j p, xs.flatten[j]? = some p → ∃ u, cur[j]? = some u ∧ PVO L.Z w p u (m j)) (hK : ∀ k ∈ (List.range xs.flatten.length).flatMap m, ∃ i ∈ K, L.lab k = some (.row i)) (hnd : ((List.range xs.flatten.length).flatMap m).Nodup) (hid1 : id < pinT) (hid : s.r id = none ∨ id ∈ K) :
    ∃ N, Rel w0 I n (L.row id (.slice (some ⟨w.heap.size, 0, none⟩) xs.length c) N) { t := fun i => (s.t i).kill K, b := fun j => (s.b j).map (AV.kills K), r := upd (s.kill K).r id (some (sz, xs)) } a (w.alloc (.cells cur e)) := by
  have hlt : ∀ k ∈ (List.range xs.flatten.length).flatMap m, k < w.heap.size := fun k hk => by obtain ⟨i, _, h2⟩ := hK k hk; exact (h.llt k _ h2).1
  by_cases hc0 : c = 0
  · subst hc0
    have hx : xs = [] := List.eq_nil_of_length_eq_zero (by omega)
    subst hx
    exact ⟨[], h.setrow K (J := []) ((Same.refl [] w).push _) (by simp) (.nil sz _) (by simp) (by simp) hid1 hid⟩
  refine ⟨w.heap.size :: (List.range xs.flatten.length).flatMap m, ?_⟩
  refine h.setrow K (J := []) ((Same.refl [] w).push _) (by simp) (pvo_row hlen (heap_alloc_new w _) hsz hc (by omega) hm m (fun j p hj => ?_)) (fun k hk => ?_) (List.nodup_cons.2 ⟨fun hk => Nat.lt_irrefl _ (hlt _ hk), hnd⟩) hid1 hid
  · obtain ⟨u, hu, hr⟩ := hp j p hj
    exact ⟨u, hu, pvo_lt hr (fun k hk => (h.zlt k hk).1) _⟩
  · rcases List.mem_cons.1 hk with rfl | hk
    · exact .inr (Nat.le_refl _)
    · exact .inl (hK k hk)

/-- A new row's header stands for it. -/
theorem avr_row {L : Pl} {w : World} {s : St} {id sz len : Nat} {xs : List (List PV)} {v : Value} {N : List Nat} {Z : Nat → Prop} (hr : s.r id = some (sz, xs)) (hv : v = L.ρ id) (hp : PVO Z w (.sl true sz xs) (L.ρ id) N) (hl : len = xs.length) : AVR L w s (.sl id 0 len) v := by
  subst hl
  simp only [AVR]
  refine ⟨sz, xs, hr, by omega, ?_⟩
  subst hv
  generalize L.ρ id = v at hp
  cases hp with
  | nil _ A => exact ⟨A, 0, 0, A, 0, rfl, rfl, by simp, fun _ => ⟨rfl, rfl⟩, by simp⟩
  | own _ _ k c _ _ _ _ _ hc => exact ⟨_, _, c, _, c, rfl, rfl, hc.1, fun _ => ⟨rfl, rfl⟩, fun _ => ⟨k, rfl, by simp⟩⟩
end

theorem flatMap_no {α β : Type} : ∀ l : List α, l.flatMap (fun _ => ([] : List β)) = []
  | [] => rfl
  | _ :: l => flatMap_no l
theorem killd_rec (s : St) (K : List Nat) : s.killd K = { t := fun i => (s.t i).kill K, b := fun j => (s.b j).map (AV.kills K), r := (s.kill K).r } := St.killd_eq s K

/-- Zero cells as pure values. -/
def zpv : Value → PV
  | .slice none 0 0 => .sl true 0 []
  | v => .v v
theorem pvo_z (Z : Nat → Prop) (w : World) {v : Value} (h : v.oneCell' = true) : PVO Z w (zpv v) v [] := by
  unfold zpv
  split
  · exact .nil 0 none
  · exact .v _ h

section
variable {γ : Gho} {P : Program} {n : Nat} {o : Oper} {M B : List Nat} {s : St}
theorem info_of {e : TypeId} {z : Value} {sz by' : Nat} (hi : (P.info? e).map (fun i => (i.zero, i.size, i.bytes)) = some (some z, sz, by')) : ∃ i, P.info? e = some i ∧ i.zero = some z ∧ i.size = sz ∧ i.bytes = by' := by
  cases h : P.info? e with
  | none => simp [h] at hi
  | some i => simp [h] at hi; exact ⟨i, rfl, hi.1, hi.2.1, hi.2.2⟩
theorem flatten_replicate_get {α : Type} (zs : List α) : ∀ (l j : Nat), j < l * zs.length → (List.replicate l zs).flatten[j]? = zs[j % zs.length]?
  | 0, j, h => by simp at h
  | l + 1, j, h => by
    rw [List.replicate_succ, List.flatten_cons]
    rcases Nat.lt_or_ge j zs.length with h1 | h1
    · rw [List.getElem?_append_left h1, Nat.mod_eq_of_lt h1]
    · rw [List.getElem?_append_right h1, flatten_replicate_get zs l (j - zs.length) (by rw [Nat.succ_mul] at h; omega), Nat.mod_eq_sub_mod h1]
theorem st_make {t e : TypeId} {x y : Operand} (ho : o.op = .makeSlice t x y) (id : Nat) {d d' : Option Nat} {kl kc : IntKind} {l c : Nat} {z : Value} {sz by' : Nat} (hx : s.ev x = .p d (.v (.int kl l))) (hy : s.ev y = .p d' (.v (.int kc c)))
    (hu : P.underlying t = some (.slice e)) (hi : (P.info? e).map (fun i => (i.zero, i.size, i.bytes)) = some (some z, sz, by')) (hz : z.cells.toList.all (·.oneCell') = true) (hzs : z.cells.size = sz) (hid1 : id < pinT) (hid : s.r id = none) (hM : id ∈ M) (hlc : l ≤ c) (hb : by' * c ≤ 281474976710656) (hm : c ≤ maxLen) :
    StepD γ P n o M B s { put := .sl id 0 l, setR := [(id, sz, List.replicate l (z.cells.toList.map zpv))] } := by
  intro s' ag hd w0 I L a w hG hr K Q hK
  have e1 := hr.evv ((ag.ev1 ho (by simp [Op.operands])).trans hx)
  have e2 := hr.evv ((ag.ev1 ho (by simp [Op.operands])).trans hy)
  have hid' : s'.r id = none := (ag.m id hM).trans hid
  obtain ⟨i, h1, h2, h3, h4⟩ := info_of hi
  have hm' : (c : Int) ≤ 9223372036854775807 := by simp only [maxLen] at hm; omega
  have hb' : (i.bytes : Int) * (c : Int) ≤ 281474976710656 := by
    rw [h4, ← Int.natCast_mul]
    omega
  have hrun := run_make (P := P) w t e i z hu h1 h2 kl kc (l : Int) (c : Int) (by omega) (by omega) hb' hm'
  simp only [Int.toNat_natCast] at hrun
  have hzl : (z.cells.toList.map zpv).length = sz := by simpa using hzs
  have hcur : (madeCells z.cells (c * i.size)).size = c * sz := by rw [size_madeCells, h3]
  obtain ⟨N, hfr⟩ := hr.fresh [] id (cur := madeCells z.cells (c * i.size)) e (sz := sz) (c := c) (xs := List.replicate l (z.cells.toList.map zpv)) (fun es hes => by rw [List.eq_of_mem_replicate hes]; exact hzl) hcur (by simpa using hlc) hm (fun _ => []) (fun j p hj => by
    have hj' : j < l * sz := by have := (List.getElem?_eq_some_iff.1 hj).1; simpa [hzs] using this
    have hj2 : j < c * sz := Nat.lt_of_lt_of_le hj' (Nat.mul_le_mul_right _ hlc)
    rw [flatten_replicate_get _ _ _ (by rw [hzl]; exact hj'), hzl, List.getElem?_map] at hj
    have hpos : 0 < sz := Nat.pos_of_ne_zero (fun e => by subst e; simp at hj')
    have hmod : j % sz < z.cells.toList.length := by rw [Array.length_toList, hzs]; exact Nat.mod_lt _ hpos
    rw [List.getElem?_eq_getElem hmod] at hj
    cases hj
    refine ⟨z.cells.toList[j % sz], ?_, pvo_z _ _ ?_⟩
    · simp only [madeCells, h3]
      rw [Array.getElem?_map, Array.getElem?_range, if_pos hj2]
      have hmod' : j % sz < z.cells.size := by rw [hzs]; exact Nat.mod_lt _ hpos
      simp [hzs, hmod']
      exact getElem!_pos z.cells (j % sz) hmod'
    · exact (List.all_eq_true.1 hz) _ (List.getElem_mem hmod)) (by rw [flatMap_no]; simp) (by rw [flatMap_no]; simp) hid1 (.inl hid')
  have he : (execOp a.eval o).run P w = .ok (.value (.slice (some ⟨w.heap.size, 0, none⟩) l c)) (w.alloc (.cells (madeCells z.cells (c * i.size)) e)) := by
    simp [execOp, ho, e1, e2, hrun]
  unfold Oper.wp
  rw [he, Oper.upon_value]
  have hfin := hfr.put hd (av := .sl id 0 l) (v := .slice (some ⟨w.heap.size, 0, none⟩) l c) (avr_row (sz := sz) (xs := List.replicate l (z.cells.toList.map zpv)) (by simp) (by simp [Pl.row]) (hfr.rw id sz _ (by simp)).1 (by simp))
  exact hK _ _ _ (by rw [Dl.app, killd_rec]; exact hfin)
end
end Go.Rl

/- R, part H: the steps that make or change rows. -/
import Derived.Test.YtmjfdldfaeaolaaRlG
import Derived.Laws.Tables
namespace Go.Rl
open Go.RowKit

section
variable {w0 : World} {I : Fr} {n : Nat} {L : Pl} {s : St} {a : Act} {w : World}
/-- Memory with row id anew. -/
def Pl.row (L : Pl) (id : Nat) (v : Value) (N : List Nat) : Pl := { L with ρ := upd L.ρ id v, ν := upd L.ν id N, lab := fun k => if k ∈ N then some (.row id) else L.lab k }
theorem Rel.setrow (h : Rel w0 I n L s a w) (K : List Nat) {id sz : Nat} {xs : List (List PV)} {v : Value} {N : List Nat} {w' : World} {J : List Nat} (hJ : Same J w w') (hlab : ∀ k ∈ J, ∃ i ∈ K, L.lab k = some (.row i))
    (hp : PVO L.Z w' (.sl true sz xs) v N) (hN : ∀ k ∈ N, (∃ i ∈ K, L.lab k = some (.row i)) ∨ w.heap.size ≤ k) (hnd : N.Nodup) (hid1 : id < pinT) (hid : s.r id = none ∨ id ∈ K) :
    Rel w0 I n (L.row id v N) { t := fun i => (s.t i).kill K, b := fun j => (s.b j).map (AV.kills K), r := upd (s.kill K).r id (some (sz, xs)) } a w' := by
  have hnotJ : ∀ k, k < w.heap.size → (∀ i ∈ K, L.lab k ≠ some (.row i)) → w'.heap[k]? = w.heap[k]? := fun k hk hi => hJ.block k hk (fun hx => by obtain ⟨i, h1, h2⟩ := hlab k hx; exact hi i h1 h2)
  have hnotN : ∀ k, k < w.heap.size → (∀ i ∈ K, L.lab k ≠ some (.row i)) → (L.row id v N).lab k = L.lab k := fun k hk hi => by
    simp only [Pl.row]
    rw [if_neg]
    intro hx
    rcases hN k hx with ⟨i, h1, h2⟩ | h2
    · exact hi i h1 h2
    · omega
  have hidne : ∀ {i}, i ∉ K → (s.r i).isSome → i ≠ id := fun hi hs e => by
    subst e
    rcases hid with h1 | h1
    · rw [h1] at hs; cases hs
    · exact hi h1
  have hrow : ∀ {i sz xs}, s.r i = some (sz, xs) → i ∉ K → ∀ k ∈ L.ν i, k < w.heap.size ∧ ∀ j ∈ K, L.lab k ≠ some (.row j) := fun {i sz xs} hx hi k hk => by
    obtain ⟨h1, h2, h3⟩ := h.rw i sz xs hx
    refine ⟨h1.lt k hk, fun j hj e => ?_⟩
    rw [h3 k hk] at e
    simp only [Option.some.injEq, Lab.row.injEq] at e
    subst e
    exact hi hj
  refine h.next (K := K) (h.same.trans hJ (fun x hx hI hxJ => ?_)) (fun k hk => ?_) (fun k l hk => ?_) ⟨fun k hk => ⟨hk, ?_⟩, fun i k hi hs hk => ?_, fun b hb => ⟨by simpa using hb, rfl⟩, fun i sz xs hi hx => ⟨xs, ?_, rfl, ?_⟩⟩ (fun i => rfl) (fun i cs hc => ?_) (fun i sz' xs' hx => ?_)
  · obtain ⟨i, _, h2⟩ := hlab x hxJ
    rcases (h.llt x _ h2).2 with h3 | h3
    · omega
    · exact hI h3
  · obtain ⟨h1, h2⟩ := h.zlt k hk
    exact ⟨Nat.lt_of_lt_of_le h1 hJ.size, (hnotN k h1 (fun i _ => by rw [h2]; simp)).trans h2⟩
  · simp only [Pl.row] at hk
    split at hk
    · rename_i hx
      refine ⟨hp.lt k hx, ?_⟩
      rcases hN k hx with ⟨i, h1, h2⟩ | h2
      · exact (h.llt k _ h2).2
      · exact .inl (Nat.le_trans h.same.size h2)
    · exact ⟨Nat.lt_of_lt_of_le (h.llt k l hk).1 hJ.size, (h.llt k l hk).2⟩
  · obtain ⟨h1, h2⟩ := h.zlt k hk
    exact hnotJ k h1 (fun i _ => by rw [h2]; simp)
  · obtain ⟨⟨sz, xs⟩, hx⟩ := Option.isSome_iff_exists.1 hs
    obtain ⟨h1, h2⟩ := hrow hx hi k (List.mem_of_mem_tail hk)
    exact ⟨.inr (by simp only [Pl.row, upd_ne _ _ (hidne hi hs)]; exact hk), hnotJ k h1 h2⟩
  · simp only [upd_ne _ _ (hidne hi (by rw [hx]; rfl)), St.kill]
    rw [if_neg hi]
    exact hx
  · exact upd_ne _ _ (hidne hi (by rw [hx]; rfl))
  · simp only [Option.map_eq_some_iff] at hc
    obtain ⟨cs0, h0, rfl⟩ := hc
    have hlb := (h.bx i cs0 h0).1
    exact .inl ⟨cs0, h0, rfl, hnotJ _ (h.llt _ _ hlb).1 (fun j _ => by rw [hlb]; simp), hnotN _ (h.llt _ _ hlb).1 (fun j _ => by rw [hlb]; simp)⟩
  · by_cases e : i = id
    · subst e
      simp only [upd_self, Option.some.injEq, Prod.mk.injEq] at hx
      obtain ⟨rfl, rfl⟩ := hx
      refine .inr ⟨.inl hid1, by simpa [Pl.row] using hp, by simpa [Pl.row] using hnd, fun k hk => ?_⟩
      simp only [Pl.row, upd_self] at hk ⊢
      rw [if_pos hk]
    · simp only [upd_ne _ _ e, St.kill] at hx
      split at hx
      · cases hx
      · rename_i hi
        exact .inl ⟨hx, upd_ne _ _ e, upd_ne _ _ e, fun k hk => ⟨hnotJ k (hrow hx hi k hk).1 (hrow hx hi k hk).2, hnotN k (hrow hx hi k hk).1 (hrow hx hi k hk).2⟩⟩
end

/-- What can be given away: a value, and the rows that go with it. -/
inductive Gv (s : St) : AV → PV → List Nat → Prop where
  | v {d : Option Nat} {x : Value} : Gv s (.p d (.v x)) (.v x) []
  | fro {o : Bool} {sz : Nat} {xs : List (List PV)} : Gv s (.p none (.sl o sz xs)) (.sl false sz xs) []
  | clo {f : Nat} {xs : List (List PV)} : Gv s (.p none (.clo f xs)) (.clo f xs) []
  | nil (sz : Nat) : Gv s .nils (.sl true sz []) []
  | row {id len sz : Nat} {xs : List (List PV)} (hr : s.r id = some (sz, xs)) (hl : len = xs.length) : Gv s (.sl id 0 len) (.sl true sz xs) [id]
  | pre {id len sz : Nat} {xs : List (List PV)} (hr : s.r id = some (sz, xs)) (hl : len ≤ xs.length) (hn : ∀ es ∈ xs, ∀ p ∈ es, (match p with | .v _ => true | _ => false) = true) : Gv s (.sl id 0 len) (.sl true sz (xs.take len)) [id]
inductive Gvs (s : St) : List AV → List PV → List Nat → Prop where
  | nil : Gvs s [] [] []
  | cons {a : AV} {p : PV} {K : List Nat} {as : List AV} {ps : List PV} {K' : List Nat} (h : Gv s a p K) (t : Gvs s as ps K') : Gvs s (a :: as) (p :: ps) (K ++ K')
theorem Gvs.length {s : St} {as : List AV} {ps : List PV} {K : List Nat} (h : Gvs s as ps K) : as.length = ps.length := by
  induction h with
  | nil => rfl
  | cons _ _ ih => simp [ih]
section
variable {w0 : World} {I : Fr} {n : Nat} {L : Pl} {s : St} {a : Act} {w : World}
theorem Gv.ok (h : Rel w0 I n L s a w) {av : AV} {p : PV} {K : List Nat} (g : Gv s av p K) {v : Value} (hv : AVR L w s av v) : PVO L.Z w p v (K.flatMap L.ν) := by
  have hz : ∀ {k}, L.zd none k → L.Z k := fun hk => hk.elim id (fun ⟨_, h, _⟩ => by cases h)
  cases g with
  | v => simp only [AVR] at hv; have h1 := hv.1; cases h1; exact .v _ ‹_›
  | fro => simp only [AVR] at hv; exact .fro _ _ _ ((hv.1.flag false).mono (fun _ _ => rfl) (fun k hk => hz hk))
  | clo => simp only [AVR] at hv; exact .clo _ _ _ (hv.1.mono (fun _ _ => rfl) (fun k hk => hz hk))
  | nil sz => simp only [AVR] at hv; obtain ⟨A, rfl⟩ := hv; exact .nil sz A
  | row hr hl =>
    rename_i id _ _ _
    subst hl
    simp only [AVR] at hv
    obtain ⟨sz', xs', h2, h3, h4⟩ := hv
    rw [hr] at h2
    cases h2
    obtain ⟨h5, h6, h7⟩ := h.rw _ _ _ hr
    have hvv : v = L.ρ id := by
      obtain ⟨A, m, c, A', c', e1, rfl, hc, h0, _⟩ := h4
      obtain ⟨rfl, rfl⟩ := h0 rfl
      rw [e1] at h5 ⊢
      generalize L.ν id = N at h5
      cases h5 <;> rfl
    subst hvv
    simpa using h5
  | pre hr hl hn =>
    rename_i id len sz xs
    simp only [AVR] at hv
    obtain ⟨sz', xs', h2, h3, h4⟩ := hv
    rw [hr] at h2
    cases h2
    obtain ⟨h5, h6, h7⟩ := h.rw _ _ _ hr
    simp only [List.flatMap_cons, List.flatMap_nil, List.append_nil]
    obtain ⟨A, m, c, A', c', e1, rfl, hc, h0, _⟩ := h4
    obtain ⟨rfl, rfl⟩ := h0 rfl
    rw [e1] at h5
    generalize L.ν id = N at h5
    cases h5 with
    | nil =>
      have : len = 0 := by simpa using hl
      subst this
      exact .nil _ _
    | own _ _ k c cur ty hlen hk hsz hc' hm u nn hcell hp =>
      have hnn : ∀ j, j < xs.flatten.length → nn j = [] := fun j hj => by
        have hx := hp j _ (List.getElem?_eq_getElem hj)
        obtain ⟨es, g1, g2⟩ := List.mem_flatten.1 (List.getElem_mem hj)
        have := hn es g1 _ g2
        generalize xs.flatten[j] = p at hx this
        generalize nn j = N at hx
        cases p with
        | v x => cases hx; rfl
        | _ => cases this
      have hfl : (xs.take len).flatten = xs.flatten.take ((xs.take len).flatten.length) := by
        conv => rhs; rw [← List.take_append_drop len xs, List.flatten_append]
        simp
      have hle : (xs.take len).flatten.length ≤ xs.flatten.length := by
        conv => rhs; rw [← List.take_append_drop len xs, List.flatten_append, List.length_append]
        omega
      have e0 : (List.range xs.flatten.length).flatMap nn = [] := List.flatMap_eq_nil_iff.2 (fun j hj => hnn j (List.mem_range.1 hj))
      have e1 : (List.range (xs.take len).flatten.length).flatMap nn = [] := List.flatMap_eq_nil_iff.2 (fun j hj => hnn j (Nat.lt_of_lt_of_le (List.mem_range.1 hj) hle))
      have hl2 : (xs.take len).length = len := by simp; omega
      have := PVO.own (Z := L.Z) (w := w) sz (xs.take len) k _ cur ty (fun es hes => hlen es (List.mem_of_mem_take hes)) hk hsz ⟨by omega, hc'.2⟩ hm u nn (fun j hj => hcell j (by omega)) (fun j p hj => by
        rw [hfl, List.getElem?_take] at hj
        split at hj
        · exact hp j p hj
        · cases hj)
      rw [e1, hl2] at this
      rw [e0]
      exact this
theorem Gvs.ok (h : Rel w0 I n L s a w) {as : List AV} {ps : List PV} {K : List Nat} (g : Gvs s as ps K) : ∀ {us : List Value} (_ : AVRs L w s as us), us.length = ps.length ∧ ∃ m : Nat → List Nat, (List.range ps.length).flatMap m = K.flatMap L.ν ∧ ∀ j p, ps[j]? = some p → ∃ u, us[j]? = some u ∧ PVO L.Z w p u (m j) := by
  induction g with
  | nil =>
    intro us hv
    cases us with
    | nil => exact ⟨rfl, fun _ => [], by simp, by simp⟩
    | cons _ _ => simp [AVRs] at hv
  | cons g t ih =>
    intro us hv
    cases us with
    | nil => simp [AVRs] at hv
    | cons u us =>
      simp only [AVRs] at hv
      obtain ⟨h1, m, h2, h3⟩ := ih hv.2
      rename_i _ _ K0 _ _ _
      refine ⟨by simp [h1], fun j => match j with | 0 => K0.flatMap L.ν | j + 1 => m j, ?_, fun j p hj => ?_⟩
      · rw [List.length_cons, List.range_succ_eq_map, List.flatMap_cons, List.flatMap_map, List.flatMap_append, ← h2]
      · cases j with
        | zero => simp at hj; subst hj; exact ⟨u, rfl, g.ok h hv.1⟩
        | succ j => simp at hj; simpa using h3 j p hj
/-- The blocks of rows that are all different. -/
theorem Rel.nodup (h : Rel w0 I n L s a w) : ∀ {K : List Nat}, K.Nodup → (∀ i ∈ K, (s.r i).isSome) → (K.flatMap L.ν).Nodup ∧ ∀ k ∈ K.flatMap L.ν, ∃ i ∈ K, L.lab k = some (.row i)
  | [], _, _ => by simp
  | i :: K, hn, hs => by
    obtain ⟨⟨sz, xs⟩, hx⟩ := Option.isSome_iff_exists.1 (hs i (by simp))
    obtain ⟨h1, h2, h3⟩ := h.rw i sz xs hx
    obtain ⟨h4, h5⟩ := Rel.nodup h (List.nodup_cons.1 hn).2 (fun j hj => hs j (by simp [hj]))
    rw [List.flatMap_cons]
    refine ⟨List.nodup_append.2 ⟨h2, h4, fun k hk k' hk' e => ?_⟩, fun k hk => ?_⟩
    · subst e
      obtain ⟨j, hj, hl⟩ := h5 k hk'
      rw [h3 k hk] at hl
      simp only [Option.some.injEq, Lab.row.injEq] at hl
      subst hl
      exact (List.nodup_cons.1 hn).1 hj
    · rcases List.mem_append.1 hk with hk | hk
      · exact ⟨i, by simp, h3 k hk⟩
      · obtain ⟨j, hj, hl⟩ := h5 k hk
        exact ⟨j, by simp [hj], hl⟩
theorem Gvs.rows {as : List AV} {ps : List PV} {K : List Nat} (g : Gvs s as ps K) : ∀ i ∈ K, (s.r i).isSome := by
  induction g with
  | nil => simp
  | cons g _ ih =>
    intro i hi
    rcases List.mem_append.1 hi with hi | hi
    · cases g with
      | row hr hl => simp at hi; subst hi; rw [hr]; rfl
      | pre hr hl hn => simp at hi; subst hi; rw [hr]; rfl
      | _ => simp at hi
    · exact ih i hi
end

theorem flat_at {sz : Nat} {xs : List (List PV)} (hl : ∀ es ∈ xs, es.length = sz) {j : Nat} {p : PV} (h : xs.flatten[j]? = some p) : 0 < sz ∧ ∃ es, xs[j / sz]? = some es ∧ es[j % sz]? = some p := by
  have hj := (List.getElem?_eq_some_iff.1 h).1
  rw [flat_len hl] at hj
  have hsz : 0 < sz := Nat.pos_of_ne_zero (fun e => by subst e; simp at hj)
  have hd : j / sz < xs.length := Nat.div_lt_of_lt_mul (by rw [Nat.mul_comm]; exact hj)
  refine ⟨hsz, xs[j / sz], List.getElem?_eq_getElem hd, ?_⟩
  rw [← flat_get hl (List.getElem?_eq_getElem hd) (Nat.mod_lt _ hsz), Nat.mul_comm, Nat.div_add_mod]
  exact h
end Go.Rl

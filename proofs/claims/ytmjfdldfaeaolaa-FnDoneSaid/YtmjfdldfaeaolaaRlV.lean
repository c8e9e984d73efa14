/- Promises of functions, proved by walks over their operations; no conditions beyond those that each theorem states. -/
import Derived.Test.YtmjfdldfaeaolaaRlT
import Derived.ChangeArms
import Derived.Deep.Slices
import Derived.SizedLaws
import Derived.Carry
import Derived.WideShapes
import Derived.WalkKit
import Derived.ProofKit
import Derived.OpenShut
import Derived.ShutString
import Derived.ChangeOld
import Derived.Shelf.Spec.SlicesInsert
import Derived.Lib.AppendZerosOnto
import Derived.Laws.NewBlocks
import Derived.Laws.CopyRow
import Derived.Test.YtmjfdldfaeaolaaProg
namespace Go.Rl
open Go.RowKit

/-- What a cell of data is. -/
inductive Sh where
  | int (k : IntKind)
  | str
  | bool
  | sl (E : List Sh)
/-- The cells of a struct's fields, one behind the other. -/
def shFs (P : Program) (sh : TypeId → Option (List Sh)) : List Field → Nat → Option (List Sh)
  | [], _ => some []
  | f :: fs, o => match Nat.beq f.offset o, sh f.type with
    | true, some E => match Nat.beq (P.cellsOf f.type) E.length, shFs P sh fs (o + E.length) with
      | true, some F => some (E ++ F)
      | _, _ => none
    | _, _ => none
def shOf (P : Program) : Nat → TypeId → Option (List Sh)
  | 0, _ => none
  | n + 1, t => match P.underlying t with
    | some (.int k) => some [.int k]
    | some .string => some [.str]
    | some .bool => some [.bool]
    | some (.slice e) => match shOf P n e with
      | some (x :: E) => match Nat.beq (P.cellsOf e) (x :: E).length with
        | true => some [.sl (x :: E)]
        | false => none
      | _ => none
    | some (.struct fs) => match shFs P (shOf P n) fs.toList 0 with
      | some E => match Nat.beq (P.cellsOf t) E.length with
        | true => some E
        | false => none
      | none => none
    | _ => none
inductive Fit : Sh → PV → Prop
  | int (k : IntKind) (n : Int) (h : (Lit.int k n).wf = true) : Fit (.int k) (.v (.int k n))
  | str (b : ByteArray) (h : b.size ≤ reachBytes) : Fit .str (.v (.string b))
  | bool (b : Bool) : Fit .bool (.v (.bool b))
  | sl (E : List Sh) (xs : List (List PV)) (hl : xs.length ≤ maxLen) (h : ∀ es ∈ xs, es.length = E.length) (h2 : ∀ es ∈ xs, ∀ (j : Nat) s p, E[j]? = some s → es[j]? = some p → Fit s p) : Fit (.sl E) (.sl false E.length xs)
def Fits (E : List Sh) (ps : List PV) : Prop := ps.length = E.length ∧ ∀ (j : Nat) s p, E[j]? = some s → ps[j]? = some p → Fit s p
theorem Fits.app {E F : List Sh} {ps qs : List PV} (h : Fits E ps) (k : Fits F qs) : Fits (E ++ F) (ps ++ qs) := by
  refine ⟨by simp [h.1, k.1], fun j s p hs hp => ?_⟩
  by_cases hj : j < E.length
  · rw [List.getElem?_append_left hj] at hs
    rw [List.getElem?_append_left (by rw [h.1]; exact hj)] at hp
    exact h.2 j s p hs hp
  · rw [List.getElem?_append_right (by omega)] at hs
    rw [List.getElem?_append_right (by rw [h.1]; omega), h.1] at hp
    exact k.2 _ s p hs hp
theorem Fits.one {s : Sh} {p : PV} (h : Fit s p) : Fits [s] [p] := ⟨rfl, fun j s' p' hs hp => by
  cases j with
  | zero => simp at hs hp; subst hs hp; exact h
  | succ j => simp at hs⟩
theorem fits_nil {ps : List PV} (h : Fits [] ps) : ps = [] := List.eq_nil_of_length_eq_zero h.1
theorem fits_cons {s : Sh} {E : List Sh} {ps : List PV} (h : Fits (s :: E) ps) : ∃ p qs, ps = p :: qs ∧ Fit s p ∧ Fits E qs := by
  cases ps with
  | nil => have := h.1; simp at this
  | cons p qs => exact ⟨p, qs, rfl, h.2 0 s p rfl rfl, by have := h.1; simpa using this, fun j s' p' hs hp => h.2 (j + 1) s' p' (by simpa using hs) (by simpa using hp)⟩
theorem fit_int {k : IntKind} {p : PV} (h : Fit (.int k) p) : ∃ n, p = .v (.int k n) ∧ (Lit.int k n).wf = true := by cases h; exact ⟨_, rfl, ‹_›⟩
theorem fit_sl {E : List Sh} {p : PV} (h : Fit (.sl E) p) : ∃ xs, p = .sl false E.length xs ∧ xs.length ≤ maxLen ∧ ∀ es ∈ xs, Fits E es := by
  cases h with
  | sl _ xs hl h1 h2 => exact ⟨xs, rfl, hl, fun es he => ⟨h1 es he, h2 es he⟩⟩
theorem fits_list {E : List Sh} {α : Type} {f : α → List PV} {B : α → Prop} (hf : ∀ es, Fits E es → ∃ a, es = f a ∧ B a) : ∀ {xs : List (List PV)}, (∀ es ∈ xs, Fits E es) → ∃ l : List α, xs = l.map f ∧ ∀ a ∈ l, B a
  | [], _ => ⟨[], rfl, fun _ h => by cases h⟩
  | x :: xs, h => by
    obtain ⟨a, rfl, ha⟩ := hf x (h x (by simp))
    obtain ⟨l, rfl, hl⟩ := fits_list hf (xs := xs) (fun es he => h es (by simp [he]))
    exact ⟨a :: l, rfl, fun b hb => by rcases List.mem_cons.1 hb with rfl | hb; exact ha; exact hl b hb⟩
section
variable {H : Type} {enc : TypeId × Value → H} {P : Program} {w : World} {sp : Nat → Bool} {held : Bool}
def old (w : World) : Nat → Prop := fun k => k < w.heap.size
theorem old_cell {w : World} {a : Addr} {v : Value} (h : w.cell? a = some v) : old w a.block ∧ a.spot = none := by
  unfold World.cell? at h
  split at h
  · rename_i c t f e
    refine ⟨(Array.getElem?_eq_some_iff.1 e).1, ?_⟩
    cases hs : a.spot with
    | none => rfl
    | some x => rw [hs] at h; simp at h
  · cases h
theorem weights_all {e : TypeId} : ∀ {l : List (DataW H)} {d : DataW H}, d ∈ l → ∀ n ∈ d.weights P e, n ∈ DataW.weightsAll P e l
  | x :: l, d, hd, n, hn => by
    simp only [DataW.weightsAll, List.mem_append]
    rcases List.mem_cons.1 hd with rfl | hd
    · exact .inl hn
    · exact .inr (weights_all hd n hn)
/-- What the cells of a type's value are, as it is read. -/
def Opens (H : Type) (enc : TypeId × Value → H) (P : Program) (w : World) (sp : Nat → Bool) (held : Bool) (t : TypeId) (E : List Sh) : Prop :=
  ∀ (fuel : Nat) (cs : List Value) (x : DataW H × List MemPlace), DataW.trod enc P w 0 sp held fuel t cs = some x → (∀ n ∈ x.1.weights P t, n ≤ reachBytes) →
    ∃ ps, Fits E ps ∧ cs.length = E.length ∧ ∀ (j : Nat) p v, ps[j]? = some p → cs[j]? = some v → PVR (old w) w p v
theorem opens_fs {n : Nat} (ih : ∀ t E, shOf P n t = some E → Opens H enc P w sp held t E) : ∀ (fs : List Field) (o : Nat) (E : List Sh), shFs P (shOf P n) fs o = some E →
    ∀ (fuel : Nat) (cs : List Value) (xs : List (DataW H × List MemPlace)), xs.length = fs.length → (∀ (i : Nat) (f : Field), fs[i]? = some f → DataW.trod enc P w 0 sp held fuel f.type ((cs.drop f.offset).take (P.cellsOf f.type)) = xs[i]?) →
      (∀ n ∈ DataW.weightsEach P (fs.map (·.type)) (xs.map (·.1)), n ≤ reachBytes) → ∃ ps, Fits E ps ∧ ∀ (j : Nat) p v, ps[j]? = some p → cs[o + j]? = some v → PVR (old w) w p v
  | [], o, E, hE, fuel, cs, xs, hl, hx, hw => by
    simp only [shFs, Option.some.injEq] at hE
    subst hE
    exact ⟨[], ⟨rfl, by simp⟩, by simp⟩
  | f :: fs, o, E, hE, fuel, cs, xs, hl, hx, hw => by
    simp only [shFs] at hE
    split at hE
    · rename_i E1 ho hs
      split at hE
      · rename_i F hc hF
        simp only [Option.some.injEq] at hE
        subst hE
        have ho' := Nat.eq_of_beq_eq_true ho
        have hc' := Nat.eq_of_beq_eq_true hc
        cases xs with
        | nil => simp at hl
        | cons x xs =>
          have h0 := hx 0 f rfl
          simp only [List.getElem?_cons_zero] at h0
          simp only [List.map_cons, DataW.weightsEach, List.mem_append] at hw
          obtain ⟨ps, f1, f2, f3⟩ := ih f.type E1 hs fuel _ x h0 (fun n hn => hw n (.inl hn))
          obtain ⟨qs, g1, g3⟩ := opens_fs ih fs (o + E1.length) F hF fuel cs xs (by simpa using hl) (fun i f' hf => by simpa using hx (i + 1) f' (by simpa using hf)) (fun n hn => hw n (.inr hn))
          refine ⟨ps ++ qs, f1.app g1, fun j p v hp hv => ?_⟩
          by_cases hj : j < E1.length
          · rw [List.getElem?_append_left (by rw [f1.1]; exact hj)] at hp
            refine f3 j p v hp ?_
            rw [ho', hc', List.getElem?_take_of_lt hj, List.getElem?_drop]
            exact hv
          · rw [List.getElem?_append_right (by rw [f1.1]; omega), f1.1] at hp
            refine g3 (j - E1.length) p v hp ?_
            rw [show o + E1.length + (j - E1.length) = o + j by omega]
            exact hv
      · cases hE
    · cases hE
theorem opens : ∀ (n : Nat) (t : TypeId) (E : List Sh), shOf P n t = some E → Opens H enc P w sp held t E
  | 0, t, E, hE => by simp [shOf] at hE
  | n + 1, t, E, hE => by
    intro fuel cs x hx hw
    simp only [shOf] at hE
    split at hE
    · rename_i k hu
      cases hE
      obtain ⟨m, rfl, rfl, hm⟩ := DataW.trod_int hu hx
      exact ⟨[.v (.int k m)], Fits.one (.int k m hm), rfl, fun j p v hp hv => by
        cases j with
        | zero => simp at hp hv; subst hp hv; exact .v _ rfl
        | succ j => simp at hp⟩
    · rename_i hu
      cases hE
      obtain ⟨b, rfl, rfl, hm⟩ := DataW.trod_string hu hx
      have hb : b.size ≤ reachBytes := by
        have := hw b.data.toList.length (by simp [DataW.weights])
        simpa using this
      exact ⟨[.v (.string b)], Fits.one (.str b hb), rfl, fun j p v hp hv => by
        cases j with
        | zero => simp at hp hv; subst hp hv; exact .v _ rfl
        | succ j => simp at hp⟩
    · rename_i hu
      cases hE
      obtain ⟨b, rfl, rfl⟩ := DataW.trod_bool hu hx
      exact ⟨[.v (.bool b)], Fits.one (.bool b), rfl, fun j p v hp hv => by
        cases j with
        | zero => simp at hp hv; subst hp hv; exact .v _ rfl
        | succ j => simp at hp⟩
    · rename_i e hu
      split at hE
      · rename_i s0 E0 he
        split at hE
        · rename_i hc
          cases hE
          have hc' := Nat.eq_of_beq_eq_true hc
          rcases DataW.trod_slice hu hx with ⟨rfl, rfl⟩ | ⟨a, len, cap, elems, rest, m, _, rfl, rfl, _, hl, hm, hlen, hel, _, _⟩
          · exact ⟨[.sl false (s0 :: E0).length []], Fits.one (.sl (s0 :: E0) [] (Nat.zero_le _) (fun _ h => by cases h) (fun _ h => by cases h)), rfl, fun j p v hp hv => by
              cases j with
              | zero => simp at hp hv; subst hp hv; exact .emp _ _ _ _
              | succ j => simp at hp⟩
          · have one : ∀ i, i < len → ∃ ps : List PV, Fits (s0 :: E0) ps ∧ ∀ (q : Nat) p, ps[q]? = some p → ∃ v, w.cell? ((a.add (i * (s0 :: E0).length)).add q) = some v ∧ PVR (old w) w p v := fun i hi => by
              have h1 := hel i hi
              rw [List.getElem?_eq_getElem (by omega)] at h1
              obtain ⟨cs', h2, h3⟩ := Option.bind_eq_some_iff.1 h1
              obtain ⟨_, h5, h6⟩ := World.cells?_some h2
              rw [hc'] at h5 h6 h2
              obtain ⟨ps, g1, g2, g3⟩ := opens n e (s0 :: E0) he m cs' elems[i] h3 (fun k hk => hw k (by
                simp only [DataW.weights, hu, List.mem_cons, List.mem_append]
                exact .inr (.inl (weights_all (List.mem_map.2 ⟨elems[i], List.getElem_mem _, rfl⟩) k hk))))
              refine ⟨ps, g1, fun q p hp => ?_⟩
              have hq : q < (s0 :: E0).length := by rw [← g1.1]; exact (List.getElem?_eq_some_iff.1 hp).1
              have h7 := h6 q hq
              rw [List.getElem?_eq_getElem (by omega)] at h7
              exact ⟨_, h7, g3 q p _ hp (List.getElem?_eq_getElem (by omega))⟩
            obtain ⟨f, hf⟩ := Deep.choose_lt one
            have hxs : ∀ es ∈ (List.range len).map f, Fits (s0 :: E0) es := fun es he => by
              obtain ⟨i, hi, rfl⟩ := List.mem_map.1 he
              exact (hf i (List.mem_range.1 hi)).1
            have hz : 0 < (s0 :: E0).length := by simp
            refine ⟨[.sl false (s0 :: E0).length ((List.range len).map f)], Fits.one (.sl (s0 :: E0) _ (by simp; omega) (fun es he => (hxs es he).1) (fun es he => (hxs es he).2)), rfl, fun j p v hp hv => ?_⟩
            cases j with
            | succ j => simp at hp
            | zero =>
              simp at hp hv
              subst hp hv
              rcases Nat.eq_zero_or_pos len with rfl | hpos
              · exact .emp _ _ _ _
              · have h0 : ∃ v, w.cell? a = some v := by
                  obtain ⟨p0, _, e0, _, _⟩ := fits_cons (hf 0 hpos).1
                  obtain ⟨v, hv, _⟩ := (hf 0 hpos).2 0 p0 (by rw [e0]; rfl)
                  exact ⟨v, by simpa [Addr.add] using hv⟩
                obtain ⟨v0, hv0⟩ := h0
                obtain ⟨ho, hs⟩ := old_cell hv0
                obtain ⟨k, off, spot⟩ := a
                simp only at hs ho
                subst hs
                have hll : ((List.range len).map f).length = len := by simp
                have key : ∀ (j : Nat) p, ((List.range len).map f).flatten[j]? = some p → ∃ v, w.cell? ⟨k, off + j, none⟩ = some v ∧ PVR (old w) w p v := fun j p hp => by
                  obtain ⟨_, es, h1, h2⟩ := flat_at (sz := (s0 :: E0).length) (fun es he => (hxs es he).1) hp
                  have hlt : j / (s0 :: E0).length < len := by have := (List.getElem?_eq_some_iff.1 h1).1; simpa using this
                  have he : es = f (j / (s0 :: E0).length) := by
                    rw [List.getElem?_map, List.getElem?_range hlt] at h1
                    simpa using h1.symm
                  subst he
                  obtain ⟨v, h3, h4⟩ := (hf _ hlt).2 _ p h2
                  refine ⟨v, ?_, h4⟩
                  rw [Deep.add_add, Nat.mul_comm, Nat.div_add_mod] at h3
                  rw [← h3]
                  unfold Addr.add
                  by_cases hj : j = 0 <;> simp [hj]
                have res := PVR.sl (Z := old w) (w := w) false (s0 :: E0).length ((List.range len).map f) k off cap (fun es he => (hxs es he).1) (by rw [hll]; exact hl) ho (fun j => (w.cell? ⟨k, off + j, none⟩).getD undef) (fun j hj => by
                  obtain ⟨v, h1, _⟩ := key j _ (List.getElem?_eq_getElem hj)
                  simp [h1]) (fun j p hp => by
                  obtain ⟨v, h1, h2⟩ := key j p hp
                  simpa [h1] using h2)
                rwa [hll] at res
        · cases hE
      · cases hE
    · rename_i fs hu
      split at hE
      · rename_i E1 hF
        split at hE
        · rename_i hc
          cases hE
          obtain ⟨xs, m, _, rfl, hl, hxl, hxs⟩ := DataW.trod_struct hu hx
          obtain ⟨ps, g1, g2⟩ := opens_fs (opens n) fs.toList 0 E hF m cs xs (by simpa using hxl) (fun i f hf => hxs i f (by simpa using hf)) (fun k hk => hw k (by simpa [DataW.weights, hu] using hk))
          exact ⟨ps, g1, hl.trans (Nat.eq_of_beq_eq_true hc), fun j p v hp hv => g2 j p v hp (by simpa using hv)⟩
        · cases hE
      · cases hE
    · cases hE
end
end Go.Rl
namespace Go.Rl
open Go.RowKit

theorem wt_each {H : Type} {P : Program} {ts : List TypeId} {ds : List (DataW H)} (h : (DataW.weightsEach P ts ds).all (· ≤ reachBytes) = true) {j : Nat} {t : TypeId} {d : DataW H} (ht : ts[j]? = some t) (hd : ds[j]? = some d) : ∀ n ∈ d.weights P t, n ≤ reachBytes := fun n hn => by
  have := List.all_eq_true.1 h n (DataW.weights_mem_each ht hd n hn)
  simpa using this
theorem okWide_sl {P : Program} {w : World} {r : Reach} {base : Nat} {t e : TypeId} {v : Value} (hu : P.underlying t = some (.slice e)) (h : Value.okWide P w r base t v) : ∃ A n c, v = .slice A n c := by
  obtain ⟨a, len, cap, rfl⟩ := WideShapes.okWide_slice hu h
  exact ⟨_, _, _, rfl⟩
end Go.Rl
namespace Go.Rl
open Go.RowKit

/-- What 'copy' does at elements of any size. -/
theorem run_copy_N {P : Program} (w : World) (dT sT ty elem : TypeId) (g o dLen dCap : Nat) (a : Addr) (sLen sCap sz : Nat) (cur : Array Value) (t : TypeId) (cs : List Value)
    (hu : P.underlying dT = some (.slice elem)) (hs : (P.info? elem).map (·.size) = some sz) (hg : w.heap[g]? = some (.cells cur t (0, 0))) (hn : cs.length = Nat.min sLen dLen * sz)
    (hsrc : ∀ j v, cs[j]? = some v → w.cell? (a.add j) = some v) (hfit : o + cs.length ≤ cur.size) (h1 : ∀ v ∈ cs, v.oneCell' = true) :
    (Builtin.copy_ #[dT, sT] ty #[.slice (some ⟨g, o, none⟩) dLen dCap, .slice (some a) sLen sCap]).run P w =
      .ok (goInt (Nat.min sLen dLen)) (w.setRow g (over cur.toList o cs).toArray) := by
  have hl := run_loadCells_list (P := P) w a cs hsrc
  have hst := run_storeCells_at P g o t cs 0 cur w hg (by simpa using hfit) h1
  cases hq : P.info? elem with
  | none => simp [hq] at hs
  | some i =>
    have hi : i.size = sz := by simpa [hq] using hs
    simp [Builtin.copy_, run_underlying hu, Builtin.lenOf, Builtin.firstCells, sizeOf, typeInfo, hq, hi, ← hn, hl, hst, over]
theorem cell_row {w : World} {k : Nat} {cur : Array Value} {ty : TypeId} (h : w.heap[k]? = some (.cells cur ty (0, 0))) (j : Nat) : w.cell? ⟨k, j, none⟩ = cur[j]? := by simp [World.cell?, h]
theorem flat_vals : ∀ {ps : List PV}, (∀ p ∈ ps, PV.isV p = true) → ∃ C : List Value, ps = C.map PV.v
  | [], _ => ⟨[], rfl⟩
  | p :: ps, h => by
    obtain ⟨C, rfl⟩ := flat_vals (ps := ps) (fun q hq => h q (by simp [hq]))
    have := h p (by simp)
    cases p with
    | v x => exact ⟨x :: C, rfl⟩
    | _ => cases this
theorem pvo_flat {Z : Nat → Prop} {w : World} {k c sz : Nat} {cur : Array Value} {ty : TypeId} {ys : List (List PV)} (C : List Value) (hC : ys.flatten = C.map PV.v) (hlen : ∀ es ∈ ys, es.length = sz) (hk : w.heap[k]? = some (.cells cur ty (0, 0))) (hsz : cur.size = c * sz) (hc : ys.length ≤ c ∧ 0 < c) (hm : c ≤ maxLen)
    (hcur : ∀ (j : Nat) (v : Value), C[j]? = some v → cur[j]? = some v) (h1 : ∀ v ∈ C, v.oneCell' = true) : PVO Z w (.sl true sz ys) (.slice (some ⟨k, 0, none⟩) ys.length c) [k] := by
  have hl : ys.flatten.length = C.length := by rw [hC, List.length_map]
  have key : ∀ (j : Nat) (p : PV), ys.flatten[j]? = some p → ∃ v, C[j]? = some v ∧ p = .v v := fun j p hj => by
    rw [hC, List.getElem?_map] at hj
    obtain ⟨v, hv, e⟩ := Option.map_eq_some_iff.1 hj
    exact ⟨v, hv, e.symm⟩
  have := PVO.own (Z := Z) (w := w) sz ys k c cur ty hlen hk hsz hc hm (fun j => (cur[j]?).getD undef) (fun _ => []) (fun j hj => by
    obtain ⟨v, hv, _⟩ := key j _ (List.getElem?_eq_getElem hj)
    rw [hcur j v hv]; rfl) (fun j p hj => by
    obtain ⟨v, hv, rfl⟩ := key j p hj
    rw [hcur j v hv]
    exact .v v (h1 v (List.mem_of_getElem? hv)))
  rwa [flatMap_no] at this
theorem pvo_flat_inv {Z : Nat → Prop} {w : World} {sz : Nat} {xs : List (List PV)} {v : Value} {N : List Nat} (h : PVO Z w (.sl true sz xs) v N) (hf : FlatP xs) (hne : xs ≠ []) :
    ∃ (k c : Nat) (cur : Array Value) (ty : TypeId) (C : List Value), v = .slice (some ⟨k, 0, none⟩) xs.length c ∧ N = [k] ∧ w.heap[k]? = some (.cells cur ty (0, 0)) ∧ cur.size = c * sz ∧ xs.length ≤ c ∧ c ≤ maxLen ∧ xs.flatten = C.map PV.v ∧ C = cur.toList.take (xs.length * sz) ∧ (∀ v ∈ C, v.oneCell' = true) ∧ ∀ es ∈ xs, es.length = sz := by
  cases h with
  | nil => exact absurd rfl hne
  | own _ _ k c cur ty hlen hk hsz hc hm u n hcell hp =>
    obtain ⟨C, hC⟩ := flat_vals (ps := xs.flatten) (fun p hp' => by
      obtain ⟨es, h1, h2⟩ := List.mem_flatten.1 hp'
      exact hf es h1 p h2)
    have hl : xs.flatten.length = C.length := by rw [hC, List.length_map]
    have hfl : xs.flatten.length = xs.length * sz := flat_len hlen
    have key : ∀ (j : Nat) (v : Value), C[j]? = some v → cur[j]? = some v ∧ v.oneCell' = true ∧ n j = [] := fun j v hj => by
      have hlt := (List.getElem?_eq_some_iff.1 hj).1
      have h1 := hp j (.v v) (by rw [hC, List.getElem?_map, hj]; rfl)
      have h2 := hcell j (by omega)
      generalize n j = M at h1
      generalize u j = x at h1 h2
      cases h1
      exact ⟨h2, ‹_›, rfl⟩
    refine ⟨k, c, cur, ty, C, rfl, ?_, hk, hsz, hc.1, hm, hC, ?_, fun v hv => ?_, hlen⟩
    · rw [flatMap_eq (g := fun _ => []) (fun j hj => ?_), flatMap_no]
      have hj' := List.mem_range.1 hj
      exact (key j _ (List.getElem?_eq_getElem (by omega))).2.2
    · apply List.ext_getElem?
      intro j
      rw [List.getElem?_take]
      split
      · have := (key j _ (List.getElem?_eq_getElem (by omega : j < C.length))).1
        rw [List.getElem?_eq_getElem (by omega)]
        simpa using this.symm
      · rw [List.getElem?_eq_none (by omega)]
    · obtain ⟨j, hj⟩ := List.getElem?_of_mem hv
      exact (key j v hj).2.1
/-- The promise of slices.Insert of one element ahead of another one, out of its two roads. -/
theorem con_insert {P : Program} {f : FuncId} {sz : Nat} {E : TypeId} (hz : 0 < sz)
    (shift : ∀ (k c n i vb vc : Nat) (cur vcur : Array Value) (ty vty : TypeId) (vs : List Value) (w : World), i < n → n + 1 ≤ c → c ≤ 9223372036854775807 → vb ≠ k → w.heap[k]? = some (.cells cur ty (0, 0)) → cur.size = c * sz → w.heap[vb]? = some (.cells vcur vty (0, 0)) → vcur.size ≠ 0 → vs.length = sz →
      (∀ (j : Nat) (v : Value), vs[j]? = some v → vcur[j]? = some v) → (∀ (j : Nat) (v : Value), j < n * sz → cur[j]? = some v → v.oneCell' = true) → (∀ v ∈ vs, v.oneCell' = true) →
      Calls P f #[.slice (some ⟨k, 0, none⟩) n c, .int .i64 i, .slice (some ⟨vb, 0, none⟩) 1 vc] w fun e w' =>
        e = .returned (.slice (some ⟨k, 0, none⟩) (n + 1) c) ∧ w' = w.drew.setRow k (over (over cur.toList ((i + 1) * sz) ((cur.toList.take (n * sz)).drop (i * sz))) (i * sz) vs).toArray)
    (grow : ∀ (k c n i vb vc : Nat) (cur vcur : Array Value) (ty vty : TypeId) (vs : List Value) (w : World), i < n → n ≤ c → c < n + 1 → n ≤ 1000000000 → vb ≠ k → w.heap[k]? = some (.cells cur ty (0, 0)) → cur.size = c * sz → w.heap[vb]? = some (.cells vcur vty (0, 0)) → vs.length = sz →
      (∀ (j : Nat) (v : Value), vs[j]? = some v → vcur[j]? = some v) → (∀ (j : Nat) (v : Value), j < n * sz → cur[j]? = some v → v.oneCell' = true) → (∀ v ∈ vs, v.oneCell' = true) →
      Calls P f #[.slice (some ⟨k, 0, none⟩) n c, .int .i64 i, .slice (some ⟨vb, 0, none⟩) 1 vc] w fun e w' =>
        ∃ (G : Nat) (zs : List Value) (N : Array Value) (W : World), e = .returned (.slice (some ⟨w.heap.size, 0, none⟩) (n + 1) G) ∧ n + 1 ≤ G ∧ G ≤ maxLen ∧ zs.length = (G - n - 1) * sz ∧
          N = (cur.toList.take (i * sz) ++ vs ++ ((cur.toList.take (n * sz)).drop (i * sz)) ++ zs).toArray ∧ w' = W ∧ W.heap[w.heap.size]? = some (.cells N E (0, 0)) ∧ Same [] w W)
    (xs : List (List PV)) (es : List PV) (i : Nat) (hi : i < xs.length) (hl : xs.length ≤ 1000000000) (hx : FlatP xs) (he : FlatP [es]) :
    Con P f [.one (.sl true sz xs), .one (.v (.int .i64 i)), .one (.sl true sz [es])] [none, none] [.one (.sl true sz (xs.take i ++ es :: xs.drop i))] := by
  intro Z w vs E' _ ha hZ hnd hlt
  cases ha with
  | cons h1 t1 => cases t1 with
  | cons h2 t2 => cases t2 with
  | cons h3 t3 =>
  cases t3
  cases h1 with
  | one h1 =>
  cases h2 with
  | one h2 =>
  cases h3 with
  | one h3 =>
  cases h1 with
  | nf hn => simp [PV.nf] at hn
  | own h1 =>
  cases h3 with
  | nf hn => simp [PV.nf] at hn
  | own h3 =>
  cases h2 with
  | nf _ h2 =>
  cases h2
  obtain ⟨k, c, cur, ty, C, rfl, rfl, hk, hcz, hnc, hm, hC, hCt, hC1, hlen⟩ := pvo_flat_inv h1 hx (fun e => by subst e; simp at hi)
  obtain ⟨vb, vc, vcur, vty, D, rfl, rfl, hv, hvz, hvc, hvm, hD, hDt, hD1, hvlen⟩ := pvo_flat_inv h3 he (by simp)
  have hDl : D.length = sz := by
    have := flat_len hvlen
    rw [hD, List.length_map] at this
    simpa using this
  have hCl : C.length = xs.length * sz := by
    have := flat_len hlen
    rwa [hC, List.length_map] at this
  have hml : maxLen ≤ 9223372036854775807 := by decide
  have hvb : vb ≠ k := fun e => by
    subst e
    simp [Leaf.all] at hnd
  have hvz0 : vcur.size ≠ 0 := by
    rw [hvz]
    have h1 : 1 ≤ vc := hvc
    exact Nat.mul_ne_zero (by omega) (by omega)
  have hDg : ∀ (j : Nat) (v : Value), D[j]? = some v → vcur[j]? = some v := fun j v h => by
    rw [hDt, List.getElem?_take] at h
    split at h
    · simpa using h
    · cases h
  have hCg : ∀ (j : Nat) (v : Value), j < xs.length * sz → cur[j]? = some v → v.oneCell' = true := fun j v hj h => by
    refine hC1 v (List.mem_of_getElem? (i := j) ?_)
    rw [hCt, List.getElem?_take, if_pos hj]
    simpa using h
  -- what the new row holds
  have hyl : (xs.take i ++ es :: xs.drop i).length = xs.length + 1 := by simp; omega
  have hylen : ∀ q ∈ xs.take i ++ es :: xs.drop i, q.length = sz := fun q hq => by
    rcases List.mem_append.1 hq with hq | hq
    · exact hlen q (List.mem_of_mem_take hq)
    · rcases List.mem_cons.1 hq with rfl | hq
      · exact hvlen _ (by simp)
      · exact hlen q (List.mem_of_mem_drop hq)
  have hes : es = D.map PV.v := by simpa using hD
  have hye : (xs.take i ++ es :: xs.drop i).flatten = (C.take (i * sz) ++ D ++ C.drop (i * sz)).map PV.v := by
    rw [List.flatten_append, List.flatten_cons, flat_take hlen, flat_drop hlen, hC, hes]
    simp [List.map_take, List.map_drop]
  have hCD1 : ∀ v ∈ C.take (i * sz) ++ D ++ C.drop (i * sz), v.oneCell' = true := fun v hv' => by
    simp only [List.mem_append] at hv'
    rcases hv' with (h | h) | h
    · exact hC1 v (List.mem_of_mem_take h)
    · exact hD1 v h
    · exact hC1 v (List.mem_of_mem_drop h)
  have hin : i * sz ≤ C.length := by rw [hCl]; exact Nat.mul_le_mul_right _ (by omega)
  by_cases hroom : xs.length + 1 ≤ c
  · refine (shift k c xs.length i vb vc cur vcur ty vty D w hi hroom (Nat.le_trans hm hml) hvb hk hcz hv hvz0 hDl hDg hCg hD1).mono ?_
    rintro e w' ⟨rfl, rfl⟩
    have hcl : cur.toList.length = c * sz := by simpa using hcz
    rw [← hCt]
    have hdl : (C.drop (i * sz)).length = (xs.length - i) * sz := by rw [List.length_drop, hCl, Nat.sub_mul]
    have hb1 : (i + 1) * sz + (C.drop (i * sz)).length ≤ cur.toList.length := by
      rw [hdl, hcl, ← Nat.add_mul]
      exact Nat.mul_le_mul_right _ (by omega)
    have hb2 : i * sz + D.length ≤ (over cur.toList ((i + 1) * sz) (C.drop (i * sz))).length := by
      rw [over_len hb1, hDl, hcl, ← Nat.succ_mul]
      exact Nat.mul_le_mul_right _ (by omega)
    obtain ⟨N, hN⟩ : ∃ N, N = (over (over cur.toList ((i + 1) * sz) (C.drop (i * sz))) (i * sz) D).toArray := ⟨_, rfl⟩
    rw [← hN]
    have hNs : N.size = c * sz := by rw [hN, List.size_toArray, over_len hb2, over_len hb1, hcl]
    have hkN := setRow_heap w.drew k cur N ty (0, 0) hk
    have hget : ∀ (j : Nat) (v : Value), (C.take (i * sz) ++ D ++ C.drop (i * sz))[j]? = some v → N[j]? = some v := fun j v hj => by
      rw [hN, List.getElem?_toArray, over_get hb2, over_get hb1]
      have htl : (C.take (i * sz)).length = i * sz := by rw [List.length_take]; omega
      have htd : (C.take (i * sz) ++ D).length = (i + 1) * sz := by rw [List.length_append, htl, hDl, Nat.succ_mul]
      have hs : (i + 1) * sz = i * sz + sz := Nat.succ_mul _ _
      by_cases h1 : j < i * sz
      · rw [if_neg (by omega), if_neg (by omega)]
        rw [List.getElem?_append_left (by omega), List.getElem?_append_left (by omega), List.getElem?_take, if_pos h1, hCt, List.getElem?_take] at hj
        split at hj
        · exact hj
        · cases hj
      · by_cases h2 : j < (i + 1) * sz
        · rw [if_pos (by omega)]
          rw [List.getElem?_append_left (by omega), List.getElem?_append_right (by omega), htl] at hj
          exact hj
        · rw [List.getElem?_append_right (by omega), htd] at hj
          have h3 := (List.getElem?_eq_some_iff.1 hj).1
          rw [if_neg (by omega), if_pos (by omega)]
          exact hj
    refine ⟨_, [⟨.slice (some ⟨k, 0, none⟩) (xs.length + 1) c, [k], sz⟩], rfl, ⟨rfl, rfl, rfl, by rw [setRow_size]; exact Nat.le_refl _, fun q hq hnq => ?_⟩, fun j lf xs' _ h => ?_, .one (.one (.own ?_)), by simp [Leaf.all], fun q hq => ?_⟩
    · refine setRow_other _ _ _ _ (fun e => hnq ?_)
      subst e
      simp [Leaf.all]
    · rcases j with _ | _ | j <;> simp at h
    · have := pvo_flat (Z := no) (w := w.drew.setRow k N) (C.take (i * sz) ++ D ++ C.drop (i * sz)) hye hylen hkN hNs ⟨by omega, by omega⟩ hm hget hCD1
      rwa [hyl] at this
    · simp [Leaf.all] at hq
      subst hq
      exact .inr ⟨0, _, rfl, by simp, fun xs' h => by simp at h⟩
  · refine (grow k c xs.length i vb vc cur vcur ty vty D w hi hnc (by omega) hl hvb hk hcz hv hDl hDg hCg hD1).mono ?_
    rintro e w' ⟨G, zs, N, W, rfl, hG1, hG2, hzs, hN, rfl, hWN, hsame⟩
    rw [← hCt] at hN
    have hct : cur.toList.take (i * sz) = C.take (i * sz) := by rw [hCt, List.take_take]; congr 1; rw [hCl] at hin; omega
    rw [hct] at hN
    have hNs : N.size = G * sz := by
      rw [hN]
      simp only [List.size_toArray, List.length_append, List.length_take, List.length_drop, hzs, hDl, hCl]
      have h1 : (G - xs.length - 1) * sz = G * sz - xs.length * sz - sz := by rw [Nat.sub_mul, Nat.sub_mul, Nat.one_mul]
      have h2 : (xs.length + 1) * sz ≤ G * sz := Nat.mul_le_mul_right _ hG1
      rw [Nat.succ_mul] at h2
      have h3 : i * sz ≤ xs.length * sz := Nat.mul_le_mul_right _ (by omega)
      omega
    refine ⟨_, [⟨.slice (some ⟨w.heap.size, 0, none⟩) (xs.length + 1) G, [w.heap.size], sz⟩], rfl, ⟨hsame.os, hsame.tape, hsame.output, hsame.size, fun q hq _ => hsame.block q hq (by simp)⟩, fun j lf xs' _ h => ?_, .one (.one (.own ?_)), by simp [Leaf.all], fun q hq => ?_⟩
    · rcases j with _ | _ | j <;> simp at h
    · have := pvo_flat (Z := no) (w := w') (C.take (i * sz) ++ D ++ C.drop (i * sz)) hye hylen hWN hNs ⟨by omega, by omega⟩ hG2 (fun j v hj => by
        rw [hN, List.getElem?_toArray, List.getElem?_append_left (List.getElem?_eq_some_iff.1 hj).1]
        exact hj) hCD1
      rwa [hyl] at this
    · simp [Leaf.all] at hq
      subst hq
      exact .inl (Nat.le_refl _)
end Go.Rl
namespace Go.Rl
open Go.RowKit

section
variable {γ : Gho} {P : Program} {n : Nat} {o : Oper} {M B : List Nat} {s : St}
/-- &T{..}: a row of one. -/
theorem st_box_row {ty : TypeId} {x : Operand} (ho : o.op = .box ty x) (id : Nat) {av : AV} {vs : List Value} (hx : s.ev x = av) (hf : av.fits = true) (hv : flatA av.cells = some vs) (hid1 : id < pinT) (hid : s.r id = none) (hM : id ∈ M) :
    StepD γ P n o M B s { put := .ea id 0 0, setR := [(id, vs.length, [vs.map PV.v])] } := by
  intro s' ag hd w0 I L a w hG hr K Q hK
  have h := hr.ev x
  rw [ag.ev1 ho (by simp [Op.operands]), hx] at h
  have hid' : s'.r id = none := (ag.m id hM).trans hid
  obtain ⟨h1, h2⟩ := h.cells hf
  have hus := flatA_ok hv h1
  obtain ⟨N, hfr⟩ := hr.fresh [] id (cur := ⟨vs⟩) ty (sz := vs.length) (c := 1) (xs := [vs.map PV.v]) (fun es hes => by simp only [List.mem_singleton] at hes; subst hes; simp) (by simp) (by simp) (by decide) (fun _ => []) (fun j p hj => by
    simp only [List.flatten_cons, List.flatten_nil, List.append_nil, List.getElem?_map] at hj
    obtain ⟨v, hv', rfl⟩ := Option.map_eq_some_iff.1 hj
    exact ⟨v, by simpa using hv', .v v (h2 v (by rw [hus]; exact List.mem_of_getElem? hv'))⟩) (by rw [flatMap_no]; simp) (by rw [flatMap_no]; simp) hid1 (.inl hid')
  have he : (execOp a.eval o).run P w = .ok (.value (.pointer (some ⟨w.heap.size, 0, none⟩))) (w.alloc (.cells ⟨vs⟩ ty)) := by
    have : (a.eval x).cells = ⟨vs⟩ := by apply Array.ext'; simpa using hus
    simp [execOp, ho, Instr.box, newVar, newRow, this]
  unfold Oper.wp
  rw [he, Oper.upon_value]
  have hfin := hfr.put hd (av := .ea id 0 0) (v := .pointer (some ⟨w.heap.size, 0, none⟩)) (by
    simp only [AVR]
    exact ⟨vs.length, [vs.map PV.v], w.heap.size, 1, 1, by simp, by simp, by simp [Pl.row], by simp⟩)
  exact hK _ _ _ (by rw [Dl.app, killd_rec]; exact hfin)
theorem st_nilcheck_ea {x : Operand} (ho : o.op = .nilCheck x) {id i off : Nat} (hx : s.ev x = .ea id i off) : StepD γ P n o M B s { put := .ea id i off } :=
  stepD_pure fun s' ag w0 I L a w hrl => by
    have he := (ag.ev1 ho (by simp [Op.operands])).trans hx
    have h := hrl.ev x
    rw [he] at h
    have h' := h
    simp only [AVR] at h
    obtain ⟨_, _, k, _, _, _, _, _, e⟩ := h
    exact ⟨_, by simp only [execOp, ho, e]; rfl, by rw [e] at h'; exact h'⟩
/-- The length of a slice that is told as a raw value. -/
theorem st_len_v {t e : TypeId} {x : Operand} (ho : o.op = .call { callee := .builtin .len, args := #[x], argTypes := #[t] }) {d : Option Nat} {A : Option Addr} {m c : Nat} (hx : s.ev x = .p d (.v (.slice A m c))) (hu : P.underlying t = some (.slice e)) : StepD γ P n o M B s { put := .p none (.v (.int .i64 m)) } :=
  stepD_pure fun s' ag w0 I L a w hrl => by
    have h := hrl.evv ((ag.ev1 ho (by simp [Op.operands, Call.operands])).trans hx)
    exact ⟨_, by simp [execOp, ho, resolve, invoke, builtin, Builtin.len_, h, run_underlying hu, goInt], avr_flat L w s' rfl⟩
theorem st_idx_v {t e : TypeId} {x y : Operand} (ho : o.op = .indexAddr t x y) {d d' : Option Nat} {k off m c : Nat} {kk : IntKind} {i : Int} (hx : s.ev x = .p d (.v (.slice (some ⟨k, off, none⟩) m c))) (hy : s.ev y = .p d' (.v (.int kk i))) (hu : P.underlying t = some (.slice e)) (hsz : ∀ w, (sizeOf e).run P w = .ok 1 w) {j : Nat} (hj : i = j) (h1 : j < m) :
    StepD γ P n o M B s { put := .p none (.v (.pointer (some ⟨k, off + j, none⟩))) } :=
  stepD_pure fun s' ag w0 I L a w hrl => by
    subst hj
    have h := hrl.evv ((ag.ev1 ho (by simp [Op.operands])).trans hx)
    have hi := hrl.evv ((ag.ev1 ho (by simp [Op.operands])).trans hy)
    exact ⟨_, by simp only [execOp, ho, h, hi, Sem.run_bind, run_indexAt hu hsz _ _ _ _ _ (show (0 : Int) ≤ (j : Int) by omega) (show (j : Int) < (m : Int) by omega)]; rfl, by simp only [Int.toNat_natCast, Nat.mul_one]; exact avr_flat L w s' rfl⟩
/-- A cell of the block that is known. -/
theorem st_load_v {t : TypeId} {x : Operand} (ho : o.op = .load t x) {d : Option Nat} {k off : Nat} {cur : Array Value} {ty : TypeId} {fz : Nat × Nat} {u : Value} (hγ : γ = some (k, .cells cur ty fz)) (hx : s.ev x = .p d (.v (.pointer (some ⟨k, off, none⟩)))) (hc : cur[off]? = some u) (h1 : u.oneCell' = true) (hag : ∀ w, (isAgg t).run P w = .ok false w) :
    StepD γ P n o M B s { put := .p none (.v u) } := by
  intro s' ag hd w0 I L a w hG hr K Q hK
  have h := hr.evv ((ag.ev1 ho (by simp [Op.operands])).trans hx)
  obtain ⟨g1, g2⟩ := hG k _ hγ
  have hlt := (Array.getElem?_eq_some_iff.1 g1).1
  have hw : w.heap[k]? = some (.cells cur ty fz) := (hr.same.block k hlt g2).trans g1
  have hcell : w.cell? ⟨k, off, none⟩ = some u := by simp [World.cell?, hw, hc]
  have he : (execOp a.eval o).run P w = .ok (.value u) w := by
    simp only [execOp, ho, h, Instr.loadAt, Instr.sureAddr, pure_bind, Sem.run_bind]
    rw [run_loadVar_one hag hcell]
    rfl
  unfold Oper.wp
  rw [he, Oper.upon_value]
  exact hK L u w (by
    have := hr.put hd (av := .p none (.v u)) (v := u) (by simp only [AVR]; exact ⟨.v u h1, fun _ h => by cases h⟩)
    rw [app_put]
    exact this)
end
mutual
theorem AVR.mono_b {L : Pl} {w : World} {s : St} {b' : Nat → Option (List AV)} : ∀ {av : AV} {v : Value}, AVR L w s av v → (∀ q, (s.b q).isSome → (b' q).isSome) → AVR L w ⟨s.t, b', s.r⟩ av v
  | .undef, v, _, _ => by simp [AVR]
  | .p d x, v, hv, _ => by simpa only [AVR] using hv
  | .sl id lo len, v, hv, _ => by simpa only [AVR] using hv
  | .ptr b off, v, hv, h => by simp only [AVR] at hv ⊢; exact ⟨h b hv.1, hv.2⟩
  | .ea id i off, v, hv, _ => by simpa only [AVR] using hv
  | .fea d ps, v, hv, _ => by simpa only [AVR] using hv
  | .nils, v, hv, _ => by simpa only [AVR] using hv
  | .sat A, v, hv, _ => by simpa only [AVR] using hv
  | .clo f bs, v, hv, h => by simp only [AVR] at hv ⊢; exact ⟨fun q hq => h q (hv.1 q hq), hv.2⟩
  | .agg cs, v, hv, h => by
    simp only [AVR] at hv ⊢
    obtain ⟨us, h1, h2⟩ := hv
    exact ⟨us, h1, AVRs.mono_b h2 h⟩
  | .tup cs, v, hv, h => by
    simp only [AVR] at hv ⊢
    obtain ⟨us, h1, h2⟩ := hv
    exact ⟨us, h1, AVRs.mono_b h2 h⟩
theorem AVRs.mono_b {L : Pl} {w : World} {s : St} {b' : Nat → Option (List AV)} : ∀ {qs : List AV} {us : List Value}, AVRs L w s qs us → (∀ q, (s.b q).isSome → (b' q).isSome) → AVRs L w ⟨s.t, b', s.r⟩ qs us
  | [], [], _, _ => by simp [AVRs]
  | [], _ :: _, hv, _ => by simp [AVRs] at hv
  | _ :: _, [], hv, _ => by simp [AVRs] at hv
  | a :: qs, u :: us, hv, h => by
    simp only [AVRs] at hv ⊢
    exact ⟨AVR.mono_b hv.1 h, AVRs.mono_b hv.2 h⟩
end
theorem AVRs.set_at {L : Pl} {w : World} {s : St} : ∀ {qs : List AV} {us : List Value} {j : Nat} {av : AV} {v : Value}, AVRs L w s qs us → us[j]? = some v → AVR L w s av v → AVRs L w s (qs.set j av) us
  | [], us, _, _, _, h, _, _ => by simpa using h
  | _ :: _, [], _, _, _, h, _, _ => by simp [AVRs] at h
  | a :: qs, u :: us, 0, av, v, h, hv, ha => by
    simp only [AVRs, List.set_cons_zero] at h ⊢
    simp at hv
    subst hv
    exact ⟨ha, h.2⟩
  | a :: qs, u :: us, j + 1, av, v, h, hv, ha => by
    simp only [AVRs, List.set_cons_succ] at h ⊢
    exact ⟨h.1, AVRs.set_at h.2 (by simpa using hv) ha⟩
/-- A nil slice in a variable is an empty row. -/
theorem wk_nil {n : Nat} {s : St} (b j id sz : Nat) {cs : List AV} (hb : s.b b = some cs) (hj : cs[j]? = some .nils) (hid : s.r id = none) (hp : id < pinT) :
    Wk n s ⟨s.t, upd s.b b (some (cs.set j (.sl id 0 0))), upd s.r id (some (sz, []))⟩ := by
  intro w0 I L a w h
  obtain ⟨h1, us, ty, h2, h3, h4⟩ := h.bx b cs hb
  obtain ⟨v, hv, hav⟩ := h3.get j _ hj
  simp only [AVR] at hav
  obtain ⟨A, rfl⟩ := hav
  have hrel := h.adopt (id := id) (sz := sz) (xs := []) (v := .slice A 0 0) (N := []) (.nil sz A) (by simp) (by simp) hid (.inl hp)
  have hsome : ∀ q, (s.b q).isSome → ((upd s.b b (some (cs.set j (.sl id 0 0)))) q).isSome := fun q hq => by
    by_cases e : q = b
    · subst e; simp
    · rw [upd_ne _ _ e]; exact hq
  refine ⟨L.row id (.slice A 0 0) [], ⟨hrel.same, hrel.zlt, hrel.llt, hrel.sz, hrel.df, fun i => ?_, fun i cs' hc => ?_, hrel.rw, hrel.pr, fun i hi hx => ?_, hrel.zi⟩⟩
  · exact AVR.mono_b (hrel.tm i) hsome
  · by_cases e : i = b
    · subst e
      simp only [upd_self, Option.some.injEq] at hc
      subst hc
      obtain ⟨g1, us', ty', g2, g3, g4⟩ := hrel.bx i cs hb
      have g2' : w.heap[L.β i]? = some (.cells ⟨us'⟩ ty' (0, 0)) := g2
      rw [h2] at g2'
      cases g2'
      refine ⟨g1, us, ty, h2, ?_, g4⟩
      have g3' := AVRs.mono_b g3 hsome
      exact AVRs.set_at g3' hv (by
        simp only [AVR]
        exact ⟨sz, [], by simp, by simp, A, 0, 0, A, 0, by simp [Pl.row], rfl, Nat.le_refl _, fun _ => ⟨rfl, rfl⟩, fun h => absurd h (Nat.lt_irrefl _)⟩)
    · simp only [upd_ne _ _ e] at hc
      obtain ⟨g1, us', ty', g2, g3, g4⟩ := hrel.bx i cs' hc
      exact ⟨g1, us', ty', g2, AVRs.mono_b g3 hsome, g4⟩
  · refine hrel.pb i hi ?_
    by_cases e : i = b
    · subst e; simp [hb]
    · simpa [upd_ne _ _ e] using hx
/-- cv is a slice of bytes, bs; where it has any, they lie in the block that is known. -/
def CodeAt (γ : Gho) (cv : Value) (bs : List Nat) : Prop :=
  ∃ A c, cv = .slice A bs.length c ∧ (bs = [] ∨ ∃ k off cur ty fz, A = some ⟨k, off, none⟩ ∧ γ = some (k, .cells cur ty fz) ∧ ∀ (i : Nat) (b : Nat), bs[i]? = some b → b < 256 ∧ cur[off + i]? = some (.int .u8 b))
end Go.Rl
namespace Go.Rl
open Go.RowKit
def pvC (bs : List Nat) : List (List PV) := bs.map fun b : Nat => [.v (.int .u8 (b : Int))]
theorem open_byte {es : List PV} (h : Fits [.int .u8] es) : ∃ b : Nat, es = [.v (.int .u8 (b : Int))] ∧ b < 256 := by
  obtain ⟨p0, e0, rfl, f0, h⟩ := fits_cons h
  obtain rfl := fits_nil h
  obtain ⟨n, rfl, hn⟩ := fit_int f0
  simp only [Lit.wf, Bool.and_eq_true, decide_eq_true_eq] at hn
  have h1 : IntKind.u8.min = 0 := by decide
  have h2 : IntKind.u8.max = 255 := by decide
  obtain ⟨b, rfl⟩ : ∃ b : Nat, n = (b : Int) := ⟨n.toNat, by omega⟩
  exact ⟨b, rfl, by omega⟩
theorem open_code {ps : List PV} (h : Fits [.sl [.int .u8]] ps) : ∃ bs : List Nat, ps = [.sl false 1 (pvC bs)] ∧ bs.length ≤ maxLen ∧ ∀ b ∈ bs, b < 256 := by
  obtain ⟨x1, e1, rfl, f1, z1⟩ := fits_cons h
  obtain rfl := fits_nil z1
  obtain ⟨xs, rfl, hl, hx⟩ := fit_sl f1
  obtain ⟨l, rfl, hB⟩ := fits_list (f := fun b : Nat => [PV.v (.int .u8 (b : Int))]) (fun es he => open_byte he) hx
  exact ⟨l, rfl, by simpa using hl, hB⟩
theorem code_of {Z : Nat → Prop} {w : World} {v : Value} {bs : List Nat} (h : PVR Z w (.sl false 1 (pvC bs)) v) (hb : ∀ b ∈ bs, b < 256) : ∃ γ, CodeAt γ v bs ∧ Gh γ w [] := by
  generalize hxs : pvC bs = xs at h
  cases h with
  | emp own sz A c =>
    have : bs = [] := by cases bs with
      | nil => rfl
      | cons b l => simp [pvC] at hxs
    subst this
    exact ⟨none, ⟨A, c, rfl, .inl rfl⟩, gh_none _ _⟩
  | sl own sz xs k off c hlen hc hz u hcell hp =>
    have hln : xs.length = bs.length := by rw [← hxs]; simp [pvC]
    have hfl : ∀ (i : Nat), xs.flatten[i]? = (bs[i]?).map fun b : Nat => PV.v (.int .u8 (b : Int)) := fun i => by
      rw [← hxs]
      have : ∀ l : List Nat, (pvC l).flatten = l.map fun b : Nat => PV.v (.int .u8 (b : Int)) := fun l => by
        induction l with
        | nil => rfl
        | cons b l ih => simp only [pvC, List.map_cons, List.flatten_cons, List.singleton_append] at ih ⊢; rw [ih]
      rw [this, List.getElem?_map]
    have hcl : ∀ (i : Nat) (b : Nat), bs[i]? = some b → w.cell? ⟨k, off + i, none⟩ = some (.int .u8 (b : Int)) := fun i b hi => by
      have h1 := hfl i
      rw [hi, Option.map_some] at h1
      have h2 := hp i _ h1
      rw [hcell i (List.getElem?_eq_some_iff.1 h1).1]
      generalize u i = y at h2 ⊢
      cases h2
      rfl
    cases bs with
    | nil =>
      exact ⟨none, ⟨some ⟨k, off, none⟩, c, by rw [hln], .inl rfl⟩, gh_none _ _⟩
    | cons b0 bl =>
      have h0 := hcl 0 b0 rfl
      unfold World.cell? at h0
      split at h0
      · rename_i cur ty fz hk
        refine ⟨some (k, .cells cur ty fz), ⟨some ⟨k, off, none⟩, c, by rw [hln], .inr ⟨k, off, cur, ty, fz, rfl, rfl, fun i b hi => ⟨hb b (List.mem_of_getElem? hi), ?_⟩⟩⟩, ?_⟩
        · have h1 := hcl i b hi
          unfold World.cell? at h1
          simp only at hk h1
          rw [hk] at h1
          simpa using h1
        · intro k' o he
          cases he
          exact ⟨hk, by simp⟩
      · cases h0
theorem code_one {γ : Gho} {cv : Value} {bs : List Nat} (h : CodeAt γ cv bs) : cv.oneCell' = true := by
  obtain ⟨A, c, rfl, _⟩ := h
  rfl
theorem pas_v {Z : Nat → Prop} {w : World} {v : Value} (h : v.oneCell' = true) : PAS Z w (.one (.v v)) v [] := .one (.nf rfl (.v v h))
/-- A law whose promise is 'true', with what is known of a block, returns true. -/
theorem law_runG {γ : Gho} {P : Program} {f : FuncId} {args : List PA} {vs : List Value} {w : World} (hc : ConG γ P f args [] [.one (.v (.bool true))]) (hg : Gh γ w []) (ha : PASs (old w) w args vs []) :
    Calls P f ⟨vs⟩ w fun e w' => e = .returned (.bool true) ∧ Below w.heap.size w w' := by
  refine (hc (old w) w vs [] hg ha (fun k hk => ⟨hk, by simp [Leaf.all]⟩) (by simp [Leaf.all]) (by simp [Leaf.all])).mono ?_
  rintro e w' ⟨v, F, rfl, hs, _, hr, _⟩
  have hv : v = .bool true := by
    cases hr with
    | one h =>
      cases h with
      | one h =>
        cases h with
        | nf hn h => cases h; rfl
    | more hl _ => exact absurd rfl hl
  subst hv
  exact ⟨rfl, Same.below hs⟩
end Go.Rl
namespace Go.Rl
open Go.RowKit

mutual
def AV.frz (id sz : Nat) (xs : List (List PV)) : AV → AV
  | .p (some d) x => (match Nat.beq d id with
    | true => .p none x
    | false => .p (some d) x)
  | .sl d lo len => (match Nat.beq d id with
    | true => .p none (.sl false sz ((xs.drop lo).take len))
    | false => .sl d lo len)
  | .ea d i off => (match Nat.beq d id with
    | true => .undef
    | false => .ea d i off)
  | .fea (some d) ps => (match Nat.beq d id with
    | true => .fea none ps
    | false => .fea (some d) ps)
  | .agg cs => .agg (AV.frzs id sz xs cs)
  | .tup cs => .tup (AV.frzs id sz xs cs)
  | x => x
def AV.frzs (id sz : Nat) (xs : List (List PV)) : List AV → List AV
  | [] => []
  | a :: l => AV.frz id sz xs a :: AV.frzs id sz xs l
end
def St.frz (s : St) (id sz : Nat) (xs : List (List PV)) : St := ⟨fun i => (s.t i).frz id sz xs, fun i => (s.b i).map (AV.frzs id sz xs), fun i => match Nat.beq i id with
  | true => none
  | false => s.r i⟩
def Pl.frz (L : Pl) (id : Nat) : Pl := { L with Z := fun k => L.Z k ∨ k ∈ L.ν id, lab := fun k => if k ∈ L.ν id then none else L.lab k }
theorem beq_ne {a b : Nat} (h : a ≠ b) : Nat.beq a b = false := by
  cases e : Nat.beq a b with
  | false => rfl
  | true => exact absurd (Nat.eq_of_beq_eq_true e) h

section
variable {w0 : World} {I : Fr} {n : Nat} {L : Pl} {s : St} {a : Act} {w : World} {id sz : Nat} {xs : List (List PV)}
theorem frz_zd {d : Option Nat} (hd : d ≠ some id) : ∀ k, L.zd d k → (L.frz id).zd d k := fun k hk => by
  rcases hk with hk | ⟨i, rfl, hk⟩
  · exact .inl (.inl hk)
  · exact .inr ⟨i, rfl, hk⟩
theorem frz_zn : ∀ k, L.zd (some id) k → (L.frz id).zd none k := fun k hk => by
  rcases hk with hk | ⟨i, e, hk⟩
  · exact .inl (.inl hk)
  · cases e; exact .inl (.inr (List.mem_of_mem_tail hk))
theorem frz_r {i : Nat} (hi : i ≠ id) : (s.frz id sz xs).r i = s.r i := by simp only [St.frz, beq_ne hi]
mutual
theorem AVR.frz (hr : s.r id = some (sz, xs)) (hp : PVO L.Z w (.sl true sz xs) (L.ρ id) (L.ν id)) : ∀ (av : AV) (v : Value), AVR L w s av v → AVR (L.frz id) w (s.frz id sz xs) (av.frz id sz xs) v
  | .undef, v, _ => by simp [AV.frz, AVR]
  | .p none x, v, hv => by
    simp only [AV.frz, AVR] at hv ⊢
    exact ⟨hv.1.mono (fun _ _ => rfl) (frz_zd (by simp)), fun _ h => by cases h⟩
  | .p (some d) x, v, hv => by
    by_cases e : d = id
    · subst e
      simp only [AV.frz, Nat.beq_refl, AVR] at hv ⊢
      exact ⟨hv.1.mono (fun _ _ => rfl) frz_zn, fun _ h => by cases h⟩
    · simp only [AV.frz, beq_ne e, AVR] at hv ⊢
      refine ⟨hv.1.mono (fun _ _ => rfl) (frz_zd (by simpa using e)), fun i hi => ?_⟩
      cases hi
      rw [frz_r e]
      exact hv.2 d rfl
  | .sl d lo len, v, hv => by
    by_cases e : d = id
    · subst e
      simp only [AV.frz, Nat.beq_refl, AVR] at hv ⊢
      obtain ⟨sz', xs', e1, e2, A, m, c, A', c', e3, rfl, e5, e6, e7⟩ := hv
      rw [hr] at e1
      cases e1
      have hq := hp.toR
      have hm := pvr_len hq A m c e3
      rw [e3] at hq
      subst hm
      refine ⟨((hq.flag false).cut e2 _ _ e5 (fun hpos => ?_)).mono (fun _ _ => rfl) (fun k hk => .inl hk), fun _ h => by cases h⟩
      obtain ⟨k, rfl, rfl⟩ := e7 hpos
      exact ⟨k, 0, rfl, by rw [Nat.zero_add]⟩
    · simp only [AV.frz, beq_ne e, AVR] at hv ⊢
      rw [frz_r e]
      exact hv
  | .ptr b off, v, hv => by
    simp only [AV.frz, AVR] at hv ⊢
    exact ⟨by simpa [St.frz] using hv.1, hv.2⟩
  | .ea d i off, v, hv => by
    by_cases e : d = id
    · subst e
      simp only [AV.frz, Nat.beq_refl, AVR]
    · simp only [AV.frz, beq_ne e, AVR] at hv ⊢
      rw [frz_r e]
      exact hv
  | .fea none ps, v, hv => by
    simp only [AV.frz, AVR] at hv ⊢
    obtain ⟨⟨k, off, h1, h2, h3⟩, _⟩ := hv
    exact ⟨⟨k, off, h1, frz_zd (by simp) k h2, fun j p hj => by obtain ⟨u, hu, hq⟩ := h3 j p hj; exact ⟨u, hu, hq.mono (fun _ _ => rfl) (frz_zd (by simp))⟩⟩, fun _ h => by cases h⟩
  | .fea (some d) ps, v, hv => by
    by_cases e : d = id
    · subst e
      simp only [AV.frz, Nat.beq_refl, AVR] at hv ⊢
      obtain ⟨⟨k, off, h1, h2, h3⟩, _⟩ := hv
      exact ⟨⟨k, off, h1, frz_zn k h2, fun j p hj => by obtain ⟨u, hu, hq⟩ := h3 j p hj; exact ⟨u, hu, hq.mono (fun _ _ => rfl) frz_zn⟩⟩, fun _ h => by cases h⟩
    · simp only [AV.frz, beq_ne e, AVR] at hv ⊢
      obtain ⟨⟨k, off, h1, h2, h3⟩, h4⟩ := hv
      refine ⟨⟨k, off, h1, frz_zd (by simpa using e) k h2, fun j p hj => by obtain ⟨u, hu, hq⟩ := h3 j p hj; exact ⟨u, hu, hq.mono (fun _ _ => rfl) (frz_zd (by simpa using e))⟩⟩, fun i hi => ?_⟩
      cases hi
      rw [frz_r e]
      exact h4 d rfl
  | .nils, v, hv => by simpa only [AV.frz, AVR] using hv
  | .sat A, v, hv => by simpa only [AV.frz, AVR] using hv
  | .clo f bs, v, hv => by
    simp only [AV.frz, AVR] at hv ⊢
    exact ⟨fun x hx => by simpa [St.frz] using hv.1 x hx, hv.2⟩
  | .agg cs, v, hv => by
    simp only [AV.frz, AVR] at hv ⊢
    obtain ⟨us, h1, h2⟩ := hv
    exact ⟨us, h1, AVRs.frz hr hp cs us h2⟩
  | .tup cs, v, hv => by
    simp only [AV.frz, AVR] at hv ⊢
    obtain ⟨us, h1, h2⟩ := hv
    exact ⟨us, h1, AVRs.frz hr hp cs us h2⟩
theorem AVRs.frz (hr : s.r id = some (sz, xs)) (hp : PVO L.Z w (.sl true sz xs) (L.ρ id) (L.ν id)) : ∀ (l : List AV) (us : List Value), AVRs L w s l us → AVRs (L.frz id) w (s.frz id sz xs) (AV.frzs id sz xs l) us
  | [], [], _ => by simp [AV.frzs, AVRs]
  | [], _ :: _, hv => by simp [AVRs] at hv
  | _ :: _, [], hv => by simp [AVRs] at hv
  | x :: l, u :: us, hv => by
    simp only [AV.frzs, AVRs] at hv ⊢
    exact ⟨AVR.frz hr hp x u hv.1, AVRs.frz hr hp l us hv.2⟩
end
end
/-- Nobody writes row id any more. -/
theorem wk_frz {n : Nat} {s : St} (id : Nat) {sz : Nat} {xs : List (List PV)} (hr : s.r id = some (sz, xs)) : Wk n s (s.frz id sz xs) := by
  intro w0 I L ac w h
  obtain ⟨hp, hnd, hlab⟩ := h.rw id sz xs hr
  have lab : ∀ {k l}, L.lab k = some l → l ≠ .row id → (L.frz id).lab k = some l := fun {k l} hk hl => by
    simp only [Pl.frz]
    rw [if_neg (fun hx => hl (by rw [hlab k hx] at hk; cases hk; rfl)), hk]
  refine ⟨L.frz id, h.same, fun k hk => ?_, fun k l hk => ?_, h.sz, h.df, fun i => (h.tm i).frz hr hp _ _, fun i cs hc => ?_, fun i sz' xs' hx => ?_, fun i hi hx => ?_, fun i hi hx => h.pb i hi (by simpa [St.frz] using hx), fun k hk => ?_⟩
  · simp only [Pl.frz] at hk ⊢
    rcases hk with hk | hk
    · exact ⟨(h.zlt k hk).1, by split; rfl; exact (h.zlt k hk).2⟩
    · exact ⟨hp.lt k hk, by rw [if_pos hk]⟩
  · simp only [Pl.frz] at hk
    split at hk
    · cases hk
    · exact h.llt k l hk
  · simp only [St.frz, Option.map_eq_some_iff] at hc
    obtain ⟨cs0, h0, rfl⟩ := hc
    obtain ⟨h1, us, ty, h2, h3, h4⟩ := h.bx i cs0 h0
    exact ⟨lab h1 (by simp), us, ty, h2, h3.frz hr hp _ _, h4⟩
  · have hne : i ≠ id := fun e => by subst e; simp [St.frz] at hx
    rw [frz_r hne] at hx
    obtain ⟨h1, h2, h3⟩ := h.rw i sz' xs' hx
    exact ⟨h1.up (fun _ h => .inl h), h2, fun k hk => lab (h3 k hk) (by simpa using hne)⟩
  · have hne : i ≠ id := fun e => by subst e; simp [St.frz] at hx
    rw [frz_r hne] at hx
    exact h.pr i hi hx
  · simp only [Pl.frz] at hk
    rcases hk with hk | hk
    · exact h.zi k hk
    · exact .inr (h.llt k _ (hlab k hk)).2
theorem frz_all {sz : Nat} {xs : List (List PV)} : PV.sl false sz ((xs.drop 0).take xs.length) = .sl false sz xs := by simp

/-! #### a variable that nobody writes any more -/
mutual
/-- What a cell reads as, where it leads to nothing that is anybody's. -/
def AV.pvz : AV → Option PV
  | .p none (.v x) => some (.v x)
  | .p none (.sl _ sz xs) => some (.sl false sz xs)
  | .p none (.clo f xs) => some (.clo f xs)
  | _ => none
def AV.pvzs : List AV → Option (List PV)
  | [] => some []
  | a :: l => match a.pvz, AV.pvzs l with
    | some x, some xs => some (x :: xs)
    | _, _ => none
end
end Go.Rl
namespace Go.Rl
open Go.RowKit

mutual
def AV.frb (b : Nat) (ps : List PV) : AV → AV
  | .ptr c off => (match Nat.beq c b with
    | true => .fea none (ps.drop off)
    | false => .ptr c off)
  | .clo f [c] => (match Nat.beq c b with
    | true => .p none (.clo f [ps])
    | false => .clo f [c])
  | .clo f bs => if b ∈ bs then .undef else .clo f bs
  | .agg cs => .agg (AV.frbs b ps cs)
  | .tup cs => .tup (AV.frbs b ps cs)
  | x => x
def AV.frbs (b : Nat) (ps : List PV) : List AV → List AV
  | [] => []
  | a :: l => AV.frb b ps a :: AV.frbs b ps l
end
def St.frb (s : St) (b : Nat) (ps : List PV) : St := ⟨fun i => (s.t i).frb b ps, fun i => match Nat.beq i b with
  | true => none
  | false => (s.b i).map (AV.frbs b ps), s.r⟩
def Pl.frb (L : Pl) (b : Nat) : Pl := { L with Z := fun k => L.Z k ∨ k = L.β b, lab := fun k => if k = L.β b then none else L.lab k }
section
variable {w0 : World} {I : Fr} {n : Nat} {L : Pl} {s : St} {a : Act} {w : World} {b : Nat} {ps : List PV}
theorem frb_b {i : Nat} (hi : i ≠ b) : (s.frb b ps).b i = (s.b i).map (AV.frbs b ps) := by simp only [St.frb, beq_ne hi]
theorem frb_some {i : Nat} (hi : i ≠ b) (h : (s.b i).isSome) : ((s.frb b ps).b i).isSome := by rw [frb_b hi]; simpa using h
theorem frb_zd {d : Option Nat} : ∀ k, L.zd d k → (L.frb b).zd d k := fun _ hk => hk.imp .inl (fun h => h)
mutual
theorem AVR.frb (hc : ∀ (j : Nat) p, ps[j]? = some p → ∃ u, w.cell? ⟨L.β b, j, none⟩ = some u ∧ PVR L.Z w p u) : ∀ (av : AV) (v : Value), AVR L w s av v → AVR (L.frb b) w (s.frb b ps) (av.frb b ps) v
  | .undef, v, _ => by simp [AV.frb, AVR]
  | .p d x, v, hv => by
    simp only [AV.frb, AVR] at hv ⊢
    exact ⟨hv.1.mono (fun _ _ => rfl) frb_zd, hv.2⟩
  | .sl d lo len, v, hv => by
    simp only [AV.frb, AVR] at hv ⊢
    exact hv
  | .ptr c off, v, hv => by
    by_cases e : c = b
    · subst e
      simp only [AV.frb, Nat.beq_refl, AVR] at hv ⊢
      refine ⟨⟨_, off, hv.2, .inl (.inr rfl), fun j p hj => ?_⟩, fun _ h => by cases h⟩
      rw [List.getElem?_drop] at hj
      obtain ⟨u, hu, hq⟩ := hc _ p hj
      exact ⟨u, hu, hq.mono (fun _ _ => rfl) (fun k hk => .inl (.inl hk))⟩
    · simp only [AV.frb, beq_ne e, AVR] at hv ⊢
      exact ⟨frb_some e hv.1, hv.2⟩
  | .ea d i off, v, hv => by
    simp only [AV.frb, AVR] at hv ⊢
    exact hv
  | .fea d qs, v, hv => by
    simp only [AV.frb, AVR] at hv ⊢
    obtain ⟨⟨k, off, h1, h2, h3⟩, h4⟩ := hv
    exact ⟨⟨k, off, h1, frb_zd k h2, fun j p hj => by obtain ⟨u, hu, hq⟩ := h3 j p hj; exact ⟨u, hu, hq.mono (fun _ _ => rfl) frb_zd⟩⟩, h4⟩
  | .nils, v, hv => by simpa only [AV.frb, AVR] using hv
  | .sat A, v, hv => by simpa only [AV.frb, AVR] using hv
  | .clo f [], v, hv => by
    simp only [AV.frb, AVR] at hv ⊢
    simpa [AVR] using hv.2
  | .clo f [c], v, hv => by
    by_cases e : c = b
    · subst e
      simp only [AV.frb, Nat.beq_refl, AVR] at hv ⊢
      refine ⟨?_, fun _ h => by cases h⟩
      rw [hv.2]
      refine .clo f [ps] [L.β c] rfl (by simp; exact .inl (.inr rfl)) (fun i j => ((w.cell? ⟨L.β c, j, none⟩).getD undef)) (fun i j es k p h1 h2 h3 => ?_) (fun i j es p h1 h2 => ?_)
      · cases i with
        | zero =>
          simp at h1 h2
          subst h1 h2
          obtain ⟨u, hu, _⟩ := hc j p h3
          rw [hu]; rfl
        | succ i => simp at h1
      · cases i with
        | zero =>
          simp at h1
          subst h1
          obtain ⟨u, hu, hq⟩ := hc j p h2
          rw [hu]
          exact hq.mono (fun _ _ => rfl) (fun k hk => .inl (.inl hk))
        | succ i => simp at h1
    · simp only [AV.frb, beq_ne e, AVR] at hv ⊢
      exact ⟨fun x hx => by simp at hx; subst hx; exact frb_some e (hv.1 x (by simp)), hv.2⟩
  | .clo f (c :: c' :: bs), v, hv => by
    simp only [AV.frb]
    split
    · simp [AVR]
    · rename_i hn
      simp only [AVR] at hv ⊢
      exact ⟨fun x hx => frb_some (fun e => hn (e ▸ hx)) (hv.1 x hx), hv.2⟩
  | .agg cs, v, hv => by
    simp only [AV.frb, AVR] at hv ⊢
    obtain ⟨us, h1, h2⟩ := hv
    exact ⟨us, h1, AVRs.frb hc cs us h2⟩
  | .tup cs, v, hv => by
    simp only [AV.frb, AVR] at hv ⊢
    obtain ⟨us, h1, h2⟩ := hv
    exact ⟨us, h1, AVRs.frb hc cs us h2⟩
theorem AVRs.frb (hc : ∀ (j : Nat) p, ps[j]? = some p → ∃ u, w.cell? ⟨L.β b, j, none⟩ = some u ∧ PVR L.Z w p u) : ∀ (l : List AV) (us : List Value), AVRs L w s l us → AVRs (L.frb b) w (s.frb b ps) (AV.frbs b ps l) us
  | [], [], _ => by simp [AV.frbs, AVRs]
  | [], _ :: _, hv => by simp [AVRs] at hv
  | _ :: _, [], hv => by simp [AVRs] at hv
  | x :: l, u :: us, hv => by
    simp only [AV.frbs, AVRs] at hv ⊢
    exact ⟨AVR.frb hc x u hv.1, AVRs.frb hc l us hv.2⟩
end
end
/-! #### promises whose results share memory -/
/-- The promise: f, called with args, gives back res, which may share what nobody writes. -/
def ConS (P : Program) (f : FuncId) (args : List PA) (res : List PA) : Prop :=
  ∀ Z w vs E, PASs Z w args vs E → (∀ k, Z k → k < w.heap.size ∧ k ∉ Leaf.all E) → (Leaf.all E).Nodup → (∀ k ∈ Leaf.all E, k < w.heap.size) → Calls P f ⟨vs⟩ w fun e w' => ∃ v F Z', e = .returned v ∧ Same (Leaf.all E) w w' ∧
    RES Z' w' res v F ∧ (Leaf.all F).Nodup ∧ (∀ k ∈ Leaf.all F, w.heap.size ≤ k ∨ k ∈ Leaf.all E) ∧ (∀ k, Z k → Z' k) ∧ ∀ k, Z' k → k < w'.heap.size ∧ k ∉ Leaf.all F ∧ (Z k ∨ w.heap.size ≤ k ∨ k ∈ Leaf.all E)

/-- What can be given back where it may be shared. -/
inductive GvS (s : St) : AV → PV → List Nat → Prop where
  | of {av : AV} {p : PV} {K : List Nat} (g : Gv s av p K) : GvS s av p K
  | nilf (sz : Nat) : GvS s .nils (.sl false sz []) []
inductive GvSs (s : St) : List AV → List PV → List Nat → Prop where
  | nil : GvSs s [] [] []
  | cons {a : AV} {p : PV} {K : List Nat} {l : List AV} {ps : List PV} {K' : List Nat} (h : GvS s a p K) (t : GvSs s l ps K') : GvSs s (a :: l) (p :: ps) (K ++ K')
inductive GPaS (s : St) : AV → PA → List Nat → Prop where
  | one {av : AV} {p : PV} {K : List Nat} (g : GvS s av p K) : GPaS s av (.one p) K
  | agg {cs : List AV} {ps : List PV} {K : List Nat} (g : GvSs s cs ps K) : GPaS s (.agg cs) (.agg ps) K
inductive GPasS (s : St) : List AV → List PA → List Nat → Prop where
  | nil : GPasS s [] [] []
  | cons {av : AV} {p : PA} {K : List Nat} {avs : List AV} {ps : List PA} {K' : List Nat} (h : GPaS s av p K) (t : GPasS s avs ps K') : GPasS s (av :: avs) (p :: ps) (K ++ K')
def EndsS (P : Program) (rs : List ResultVar) (res : List PA) (s : St) : Prop :=
  ∃ avs K, RvAs P s rs avs ∧ GPasS s avs res K ∧ K.Nodup
def RetS (P : Program) (rs : List ResultVar) (res : List PA) : Exit → St → Prop
  | .normal, s => EndsS P rs res s
  | .ret, s => EndsS P rs res s
  | _, _ => False
section
variable {w0 : World} {I : Fr} {n : Nat} {L : Pl} {s : St} {a : Act} {w : World}
theorem Gv.ps (h : Rel w0 I n L s a w) {av : AV} {p : PV} {K : List Nat} (g : Gv s av p K) {v : Value} (hv : AVR L w s av v) : ∃ F, PS L.Z w p v F ∧ Leaf.all F = K.flatMap L.ν := by
  have := g.ok h hv
  cases p with
  | v x =>
    have hK : K = [] := by cases g; rfl
    subst hK
    exact ⟨[], .nf rfl (by simpa using this), rfl⟩
  | sl o sz xs =>
    cases o with
    | true => exact ⟨_, .own this, by simp [Leaf.all]⟩
    | false =>
      have hK : K = [] := by cases g; rfl
      subst hK
      exact ⟨[], .nf rfl (by simpa using this), rfl⟩
  | clo f xs =>
    have hK : K = [] := by cases g; rfl
    subst hK
    exact ⟨[], .nf rfl (by simpa using this), rfl⟩
theorem GvS.ps (h : Rel w0 I n L s a w) {av : AV} {p : PV} {K : List Nat} (g : GvS s av p K) {v : Value} (hv : AVR L w s av v) : ∃ F, PS L.Z w p v F ∧ Leaf.all F = K.flatMap L.ν := by
  cases g with
  | of g => exact g.ps h hv
  | nilf sz =>
    simp only [AVR] at hv
    obtain ⟨A, rfl⟩ := hv
    exact ⟨[], .nf rfl (.fro _ _ _ (.emp _ _ _ _)), rfl⟩
theorem GPaS.ok (h : Rel w0 I n L s a w) {av : AV} {p : PA} {K : List Nat} (g : GPaS s av p K) {v : Value} (hv : AVR L w s av v) : ∃ F, PAS L.Z w p v F ∧ Leaf.all F = K.flatMap L.ν := by
  cases g with
  | one g =>
    obtain ⟨F, h1, h2⟩ := g.ps h hv
    exact ⟨F, .one h1, h2⟩
  | agg g =>
    rename_i cs ps
    simp only [AVR] at hv
    obtain ⟨us, rfl, hv⟩ := hv
    have : ∀ {cs ps K us}, GvSs s cs ps K → AVRs L w s cs us → ∃ F, PSs L.Z w ps us F ∧ Leaf.all F = K.flatMap L.ν := fun {cs ps K us} g => by
      induction g generalizing us with
      | nil =>
        intro hv
        cases us with
        | nil => exact ⟨[], .nil, rfl⟩
        | cons _ _ => simp [AVRs] at hv
      | cons g _ ih =>
        intro hv
        cases us with
        | nil => simp [AVRs] at hv
        | cons u us =>
          simp only [AVRs] at hv
          obtain ⟨F, h1, h2⟩ := g.ps h hv.1
          obtain ⟨F', h3, h4⟩ := ih hv.2
          exact ⟨F ++ F', .cons h1 h3, by simp only [Leaf.all, List.flatMap_append] at h2 h4 ⊢; rw [h2, h4]⟩
    obtain ⟨F, h1, h2⟩ := this g hv
    exact ⟨F, .agg h1, h2⟩
theorem GPasS.ok (h : Rel w0 I n L s a w) {avs : List AV} {ps : List PA} {K : List Nat} (g : GPasS s avs ps K) : ∀ {us : List Value} (_ : AVRs L w s avs us), ∃ F, PASs L.Z w ps us F ∧ Leaf.all F = K.flatMap L.ν := by
  induction g with
  | nil =>
    intro us hv
    cases us with
    | nil => exact ⟨[], .nil, rfl⟩
    | cons _ _ => simp [AVRs] at hv
  | cons g _ ih =>
    intro us hv
    cases us with
    | nil => simp [AVRs] at hv
    | cons u us =>
      simp only [AVRs] at hv
      obtain ⟨F, h1, h2⟩ := g.ok h hv.1
      obtain ⟨F', h3, h4⟩ := ih hv.2
      exact ⟨F ++ F', .cons h1 h3, by simp only [Leaf.all, List.flatMap_append] at h2 h4 ⊢; rw [h2, h4]⟩
theorem Gv.rows {av : AV} {p : PV} {K : List Nat} (g : Gv s av p K) : ∀ i ∈ K, (s.r i).isSome := by
  intro i hi
  cases g with
  | row hr hl => simp at hi; subst hi; rw [hr]; rfl
  | pre hr hl hn => simp at hi; subst hi; rw [hr]; rfl
  | _ => simp at hi
theorem GvS.rows {av : AV} {p : PV} {K : List Nat} (g : GvS s av p K) : ∀ i ∈ K, (s.r i).isSome := by
  cases g with
  | of g => exact g.rows
  | nilf sz => simp
theorem GvSs.rows {l : List AV} {ps : List PV} {K : List Nat} (g : GvSs s l ps K) : ∀ i ∈ K, (s.r i).isSome := by
  induction g with
  | nil => simp
  | cons g _ ih =>
    intro i hi
    rcases List.mem_append.1 hi with hi | hi
    · exact g.rows i hi
    · exact ih i hi
theorem GPasS.rows {avs : List AV} {ps : List PA} {K : List Nat} (g : GPasS s avs ps K) : ∀ i ∈ K, (s.r i).isSome := by
  induction g with
  | nil => simp
  | cons g _ ih =>
    intro i hi
    rcases List.mem_append.1 hi with hi | hi
    · cases g with
      | one g => exact g.rows i hi
      | agg g => exact g.rows i hi
    · exact ih i hi
end
end Go.Rl
namespace Go.Rl
open Go.RowKit
/-- What the body does is what the function promises. -/
theorem con_of_trS {P : Program} {f : FuncId} {fn : Func} {c : Code} {rs : List ResultVar} {args : List PA} {res : List PA} (hf : P.funcs[f]? = some fn) (hb : fn.body = some c) (hrs : fn.results = rs.toArray) (hn' : Nat.ble args.length fn.ntmps = true) (hsz' : args.all (fun p => Nat.ble p.size pinT) = true)
    (h : Tr none P fn.ntmps c (initS args) (RetS P rs res)) : ConS P f args res := by
  intro Z w vs E hp hZ hnd hlt
  have hn : args.length ≤ fn.ntmps := Nat.le_of_ble_eq_true hn'
  have hsz : ∀ p ∈ args, p.size ≤ pinT := fun p hp => Nat.le_of_ble_eq_true ((List.all_eq_true.1 hsz') p hp)
  refine calls_of_wp hf hb ?_
  have hlen : vs.length = args.length := by
    clear h hn hsz hn' hsz' hZ hnd hlt
    induction hp with
    | nil => rfl
    | cons _ _ ih => simp [ih]
  have hown0 := owns_in (step := fun _ => pinT) args pinT hsz
  have hpins : PinE (mkρ (owns (fun _ => pinT) pinT args) E) (owns (fun _ => pinT) pinT args) E := mkρ_ok hown0.1
  let I : Fr := ⟨Leaf.all E, mkρ (owns (fun _ => pinT) pinT args) E, fun _ => 0, Z⟩
  let a : Act := { tmps := (⟨vs⟩ : Array Value) ++ Array.replicate (fn.ntmps - (⟨vs⟩ : Array Value).size) undef, defers := [] }
  let L0 : Pl := ⟨Z, fun _ => 0, fun _ => undef, fun _ => [], fun _ => none⟩
  have hasz : a.tmps.size = fn.ntmps := by simp [a]; omega
  have h0 : Rel w I fn.ntmps L0 ⟨fun _ => .undef, fun _ => none, fun _ => none⟩ a w :=
    ⟨Same.refl _ w, fun k hk => ⟨(hZ k hk).1, rfl⟩, fun k l hk => by simp [L0] at hk, hasz, rfl, fun i => by simp [AVR], fun i cs hc => by simp at hc, fun i sz xs hx => by simp at hx, fun i _ hx => by simp at hx, fun i _ hx => by simp at hx, fun k hk => .inl hk⟩
  obtain ⟨L1, t1, a1⟩ := takeAs (step := fun _ => pinT) (id := pinT) h0 (vs := vs) (F := E) hp (fun k hk => ⟨rfl, fun hz => (hZ k hz).2 hk, .inr hk⟩) hnd hsz (fun _ _ _ => rfl) (.inr hpins)
  have h1 : Rel w I fn.ntmps L1 (initS args) a w := by
    refine ⟨t1.rel.same, t1.rel.zlt, t1.rel.llt, hasz, rfl, fun i => ?_, fun i cs hc => by simp [initS] at hc, fun i sz xs hx => t1.rel.rw i sz xs hx, t1.rel.pr, t1.rel.pb, t1.rel.zi⟩
    have hmv : Moves [] L1 L1 w w { t := fun _ => .undef, b := fun _ => none, r := setRs (fun _ => none) (pRowss (fun _ => pinT) pinT args) } (initS args) := ⟨fun k hk => ⟨hk, rfl⟩, fun _ k _ _ hk => ⟨.inr hk, rfl⟩, fun b hb => ⟨hb, rfl⟩, fun i sz xs _ hx => ⟨xs, hx, rfl, rfl⟩⟩
    simp only [initS]
    rw [lkL_get]
    cases hi : (pAVs (fun _ => pinT) pinT args)[i]? with
    | none => simp [AVR]
    | some av =>
      obtain ⟨u, hu, hr⟩ := a1.get i av hi
      have hui : a.tmps.getD i undef = u := by
        have hlt := (List.getElem?_eq_some_iff.1 hu).1
        have : a.tmps[i]? = some u := by
          simp only [a]
          rw [Array.getElem?_append_left (by simpa using hlt)]
          simpa using hu
        simp [this]
      rw [hui]
      exact hr.move0 hmv
  refine wp_mono (h w I L1 a w (gh_none _ _) h1) (fun e a' w' ⟨s', L', hq, hr⟩ => ?_)
  have fin : EndsS P rs res s' → a'.defers = [] ∧ ∃ v, (results fn a'.tmps).run P w' = .ok v w' ∧ ∃ v' F Z', Ending.returned v = .returned v' ∧ Same (Leaf.all E) w w' ∧
      RES Z' w' res v' F ∧ (Leaf.all F).Nodup ∧ (∀ k ∈ Leaf.all F, w.heap.size ≤ k ∨ k ∈ Leaf.all E) ∧ (∀ k, Z k → Z' k) ∧ ∀ k, Z' k → k < w'.heap.size ∧ k ∉ Leaf.all F ∧ (Z k ∨ w.heap.size ≤ k ∨ k ∈ Leaf.all E) := by
    rintro ⟨avs, K, hrv, hg, hKn⟩
    obtain ⟨us, hrun, hav⟩ := hrv.ok hr
    obtain ⟨F, hF, hFK⟩ := hg.ok hr hav
    have hrl := hF.length
    have hres := run_results hrs hrun
    have hfk : ∀ k ∈ Leaf.all F, ∃ j ∈ K, L'.lab k = some (.row j) := fun k hk => by
      rw [hFK] at hk
      exact (hr.nodup hKn hg.rows).2 k hk
    refine ⟨hr.df, _, hres, _, F, fun k => Z k ∨ L'.Z k, rfl, hr.same, ?_, by rw [hFK]; exact (hr.nodup hKn hg.rows).1, fun k hk => ?_, fun k hk => .inl hk, fun k hk => ?_⟩
    · refine RES.up (Z := L'.Z) ?_ (fun _ h => .inr h)
      split
      · rename_i h1
        cases hF with
        | nil => simp at h1
        | cons hF1 hF2 =>
          cases hF2 with
          | nil => rw [List.append_nil]; exact .one hF1
          | cons _ _ => simp at h1
      · rename_i h1
        exact .more (by rw [hrl]; exact h1) hF
    · obtain ⟨j, _, hl⟩ := hfk k hk
      exact (hr.llt k _ hl).2
    · rcases hk with hk | hk
      · refine ⟨Nat.lt_of_lt_of_le (hZ k hk).1 hr.same.size, fun hx => ?_, .inl hk⟩
        obtain ⟨j, _, hl⟩ := hfk k hx
        rcases (hr.llt k _ hl).2 with h2 | h2
        · have := (hZ k hk).1; omega
        · exact (hZ k hk).2 h2
      · refine ⟨(hr.zlt k hk).1, fun hx => ?_, hr.zi k hk⟩
        obtain ⟨j, _, hl⟩ := hfk k hx
        rw [(hr.zlt k hk).2] at hl
        cases hl
  cases e with
  | normal => exact fin hq
  | ret => exact fin hq
  | _ => exact hq.elim

inductive CellZ (s : St) : AV → PV → List Nat → Prop where
  | v {d : Option Nat} {x : Value} : CellZ s (.p d (.v x)) (.v x) []
  | sl {o : Bool} {sz : Nat} {xs : List (List PV)} : CellZ s (.p none (.sl o sz xs)) (.sl false sz xs) []
  | cl {f : Nat} {xs : List (List PV)} : CellZ s (.p none (.clo f xs)) (.clo f xs) []
  | nil (sz : Nat) : CellZ s .nils (.sl false sz []) []
  | own {id len sz : Nat} {xs : List (List PV)} (hr : s.r id = some (sz, xs)) (hl : len = xs.length) : CellZ s (.sl id 0 len) (.sl true sz xs) [id]
inductive CellZs (s : St) : List AV → List PV → List Nat → Prop where
  | nil : CellZs s [] [] []
  | cons {av : AV} {p : PV} {K : List Nat} {l : List AV} {ps : List PV} {K' : List Nat} (h : CellZ s av p K) (t : CellZs s l ps K') : CellZs s (av :: l) (p :: ps) (K ++ K')
inductive ArgZ (s : St) : AV → PA → List Nat → Prop where
  | one {av : AV} {p : PV} {K : List Nat} (h : CellZ s av p K) : ArgZ s av (.one p) K
  | agg {cs : List AV} {ps : List PV} {K : List Nat} (h : CellZs s cs ps K) : ArgZ s (.agg cs) (.agg ps) K
  | fea {ps : List PV} : ArgZ s (.fea none ps) (.fbox ps) []
  | rptr {id sz : Nat} {ps : List PV} (hr : s.r id = some (sz, [ps])) : ArgZ s (.ea id 0 0) (.rptr sz ps) [id]
inductive ArgZs (s : St) : List AV → List PA → List Nat → Prop where
  | nil : ArgZs s [] [] []
  | cons {av : AV} {p : PA} {K : List Nat} {l : List AV} {ps : List PA} {K' : List Nat} (h : ArgZ s av p K) (t : ArgZs s l ps K') : ArgZs s (av :: l) (p :: ps) (K ++ K')
theorem CellZ.mono {s s' : St} (h : Less s s') {av : AV} {p : PV} {K : List Nat} (g : CellZ s av p K) : CellZ s' av p K := by
  cases g with
  | v => exact .v
  | sl => exact .sl
  | cl => exact .cl
  | nil sz => exact .nil sz
  | own hr hl => exact .own (h.r _ _ hr) hl
theorem CellZs.mono {s s' : St} (h : Less s s') {l : List AV} {ps : List PV} {K : List Nat} (g : CellZs s l ps K) : CellZs s' l ps K := by
  induction g with
  | nil => exact .nil
  | cons g _ ih => exact .cons (g.mono h) ih
theorem ArgZs.mono {s s' : St} (h : Less s s') {l : List AV} {ps : List PA} {K : List Nat} (g : ArgZs s l ps K) : ArgZs s' l ps K := by
  induction g with
  | nil => exact .nil
  | cons g _ ih =>
    refine .cons ?_ ih
    cases g with
    | one g => exact .one (g.mono h)
    | agg g => exact .agg (g.mono h)
    | fea => exact .fea
    | rptr hr => exact .rptr (h.r _ _ hr)
section
variable {w0 : World} {I : Fr} {n : Nat} {L : Pl} {s : St} {a : Act} {w : World}
theorem zd_none : ∀ k, L.zd none k → L.Z k := fun k hk => hk.elim (fun h => h) (fun ⟨_, h, _⟩ => by cases h)
theorem CellZ.ok (h : Rel w0 I n L s a w) {av : AV} {p : PV} {K : List Nat} (g : CellZ s av p K) {v : Value} (hv : AVR L w s av v) : PS L.Z w p v (K.map (lf L s)) := by
  cases g with
  | v => simp only [AVR] at hv; have h1 := hv.1; cases h1; exact .nf rfl (.v _ ‹_›)
  | sl => simp only [AVR] at hv; exact .nf rfl (((hv.1.flag false).mono (fun _ _ => rfl) zd_none).nfO rfl)
  | cl => simp only [AVR] at hv; exact .nf rfl ((hv.1.mono (fun _ _ => rfl) zd_none).nfO rfl)
  | nil sz => simp only [AVR] at hv; obtain ⟨A, rfl⟩ := hv; exact .nf rfl (.fro _ _ _ (.emp _ _ _ _))
  | own hr hl =>
    rename_i id len sz xs
    simp only [AVR] at hv
    obtain ⟨sz', xs', e1, e2, e3⟩ := hv
    rw [hr] at e1
    cases e1
    have hp := (h.rw _ _ _ hr).1
    have := view_whole e3 (fun A n c e => (pvo_own_len hp A n c e).trans hl.symm)
    subst this
    have hs : lf L s id = ⟨L.ρ id, L.ν id, sz⟩ := by simp [lf, hr]
    simp only [List.map_cons, List.map_nil, hs]
    exact .own hp
theorem CellZs.ok (h : Rel w0 I n L s a w) {l : List AV} {ps : List PV} {K : List Nat} (g : CellZs s l ps K) : ∀ {us : List Value} (_ : AVRs L w s l us), PSs L.Z w ps us (K.map (lf L s)) := by
  induction g with
  | nil =>
    intro us hv
    cases us with
    | nil => exact .nil
    | cons _ _ => simp [AVRs] at hv
  | cons g _ ih =>
    intro us hv
    cases us with
    | nil => simp [AVRs] at hv
    | cons u us =>
      simp only [AVRs] at hv
      rw [List.map_append]
      exact .cons (g.ok h hv.1) (ih hv.2)
theorem ArgZs.ok (h : Rel w0 I n L s a w) {l : List AV} {ps : List PA} {K : List Nat} (g : ArgZs s l ps K) : ∀ {us : List Value} (_ : AVRs L w s l us), PASs L.Z w ps us (K.map (lf L s)) := by
  induction g with
  | nil =>
    intro us hv
    cases us with
    | nil => exact .nil
    | cons _ _ => simp [AVRs] at hv
  | cons g _ ih =>
    intro us hv
    cases us with
    | nil => simp [AVRs] at hv
    | cons u us =>
      simp only [AVRs] at hv
      rw [List.map_append]
      refine .cons ?_ (ih hv.2)
      have h1 := hv.1
      cases g with
      | one g => exact .one (g.ok h h1)
      | agg g =>
        simp only [AVR] at h1
        obtain ⟨us, rfl, h1⟩ := h1
        exact .agg (g.ok h h1)
      | fea =>
        simp only [AVR] at h1
        obtain ⟨⟨k, off, rfl, hk, hc⟩, _⟩ := h1
        exact .fbox (zd_none k hk) (fun j p hj => by obtain ⟨u, hu, hq⟩ := hc j p hj; exact ⟨u, hu, hq.mono (fun _ _ => rfl) zd_none⟩)
      | rptr hr =>
        rename_i id sz ps
        simp only [AVR] at h1
        obtain ⟨sz', xs', k, m, c, e1, e2, e3, rfl⟩ := h1
        rw [hr] at e1
        cases e1
        have hp := (h.rw _ _ _ hr).1
        have hm := pvo_own_len hp _ _ _ e3
        simp only [List.length_cons, List.length_nil] at hm
        subst hm
        have hs : lf L s id = ⟨L.ρ id, L.ν id, sz⟩ := by simp [lf, hr]
        simp only [List.map_cons, List.map_nil, hs, Nat.zero_mul, Nat.add_zero]
        rw [e3] at hp ⊢
        exact .rptr hp
/-- More that nobody writes. -/
theorem Rel.widen (h : Rel w0 I n L s a w) (Z2 : Nat → Prop) (hz : ∀ k, Z2 k → k < w.heap.size ∧ L.lab k = none ∧ (I.Z k ∨ w0.heap.size ≤ k ∨ k ∈ I.I)) : Rel w0 I n { L with Z := fun k => L.Z k ∨ Z2 k } s a w := by
  have hm : Moves [] L { L with Z := fun k => L.Z k ∨ Z2 k } w w s s := ⟨fun k hk => ⟨.inl hk, rfl⟩, fun _ k _ _ hk => ⟨.inr hk, rfl⟩, fun b hb => ⟨hb, rfl⟩, fun i sz xs _ hx => ⟨xs, hx, rfl, rfl⟩⟩
  refine ⟨h.same, fun k hk => hk.elim (h.zlt k) (fun hk => ⟨(hz k hk).1, (hz k hk).2.1⟩), h.llt, h.sz, h.df, fun i => (h.tm i).move0 hm, fun i cs hc => ?_, fun i sz xs hx => ?_, h.pr, h.pb, fun k hk => hk.elim (h.zi k) (fun hk => (hz k hk).2.2)⟩
  · obtain ⟨h1, us, ty, h2, h3, h4⟩ := h.bx i cs hc
    exact ⟨h1, us, ty, h2, h3.move0 hm, h4⟩
  · obtain ⟨h1, h2, h3⟩ := h.rw i sz xs hx
    exact ⟨h1.up (fun _ h => .inl h), h2, h3⟩
end
section
variable {γ : Gho} {P : Program} {n : Nat} {o : Oper} {M B : List Nat} {s : St}
theorem st_callS {x : Operand} {args : List Operand} {ats : Array TypeId} (ho : o.op = .call { callee := .value x, args := args.toArray, argTypes := ats }) (rid : Nat) {f : FuncId} {pas : List PA} {X : List Nat} {res : List PA} {d : Option Nat}
    (hE : ∀ xs w, (callFunc f xs).run P w = .ok (.enter f xs) w) (hx : s.ev x = .p d (.clo f [])) (ha : ArgZs (s.only M B) (args.map s.ev) pas X) (hXn : X.Nodup) (hXM : ∀ i ∈ X, ((s.only M B).r i).isSome = true) (hcon : ConS P f pas res)
    (hf' : freshB s M rid (pSize PA.size res) = true) (hpin : rid + pSize PA.size res ≤ pinT) : StepD γ P n o M B s { put := resAV rid res, kill := X, setR := pRowss PA.size rid res } := by
  intro s' ag hd w0 I L a w hG hr KK Q hK
  have hf := freshN hf'
  have hon := only_ag ag
  rw [← hon] at ha hXM
  have hl := only_less s' M B
  have hX : ∀ i ∈ X, (s'.r i).isSome := fun i hi => by
    obtain ⟨y, hy⟩ := Option.isSome_iff_exists.1 (hXM i hi)
    rw [hl.r i y hy]; rfl
  have hev : args.map s'.ev = args.map s.ev := List.map_congr_left (fun y hy => ag.ev1 ho (by simp [Op.operands, Call.operands, hy]))
  have hxv := hr.ev x
  rw [ag.ev1 ho (by simp [Op.operands, Call.operands]), hx] at hxv
  have e1 : a.eval x = .func (.func f) #[] ⟨[]⟩ := by
    simp only [AVR] at hxv
    generalize a.eval x = u at hxv
    obtain ⟨hq, _⟩ := hxv
    cases hq with
    | clo _ _ ks hl _ _ _ _ =>
      cases ks with
      | nil => rfl
      | cons _ _ => simp at hl
  have e3 := (ha.mono hl).ok hr (by rw [← hev]; exact evs_of hr args)
  have hall : Leaf.all (X.map (lf L s')) = X.flatMap L.ν := by simp [Leaf.all, List.flatMap_map, lf]
  obtain ⟨hnd, hlab⟩ := hr.nodup hXn hX
  unfold Oper.wp
  rw [run_call ho e1 hE, Oper.upon_enter, List.append_nil]
  refine (hcon L.Z w _ _ e3 (fun k hk => ⟨(hr.zlt k hk).1, fun hx => by rw [hall] at hx; obtain ⟨i, _, hl⟩ := hlab k hx; rw [(hr.zlt k hk).2] at hl; cases hl⟩) (by rw [hall]; exact hnd) (fun k hk => by rw [hall] at hk; obtain ⟨i, _, hl⟩ := hlab k hk; exact (hr.llt k _ hl).1)).mono (fun e w' hp => ?_)
  obtain ⟨v, F, Z', rfl, hsame, hres, hFn, hFk, hZZ, hZ'⟩ := hp
  rw [hall] at hsame hFk hZ'
  have hc1 := hr.call1 X [] (fun i hi => hX i (by simpa using hi)) (r' := (s'.kill X).r) (by simpa using hsame) (fun i sz xs' hi => by
    simp only [St.kill] at hi
    split at hi
    · cases hi
    · rename_i hn
      exact .inl ⟨hi, hn, by simp⟩) (fun i sz xs hn hi => ⟨xs, by simp only [St.kill]; rw [if_neg hn]; exact hi⟩)
  have hlabn : ∀ k, (w.heap.size ≤ k ∨ k ∈ X.flatMap L.ν) → (if k ∈ X.flatMap L.ν then none else L.lab k) = none := fun k hk => by
    split
    · rfl
    · rename_i hn
      rcases hk with hk | hk
      · cases e : L.lab k with
        | none => rfl
        | some l => have := (hr.llt k l e).1; omega
      · exact absurd hk hn
  have hIw : ∀ k, (w.heap.size ≤ k ∨ k ∈ X.flatMap L.ν) → w0.heap.size ≤ k ∨ k ∈ I.I := fun k hk => by
    rcases hk with hk | hk
    · exact .inl (Nat.le_trans hr.same.size hk)
    · obtain ⟨i, _, hl⟩ := hlab k hk
      exact (hr.llt k _ hl).2
  have hc2 := hc1.widen Z' (fun k hk => by
    obtain ⟨g1, g2, g3⟩ := hZ' k hk
    rcases g3 with g3 | g3
    · refine ⟨g1, ?_, hr.zi k g3⟩
      have := (hr.zlt k g3).2
      simp only [this, ite_self]
    · exact ⟨g1, hlabn k g3, .inr (hIw k g3)⟩)
  have hfr : ∀ i, rid ≤ i → i < rid + pSize PA.size res → s'.r i = none := fun i h1 h2 => by
    obtain ⟨h3, h4⟩ := hf.get i h1 h2
    exact (ag.m i h3).trans h4
  obtain ⟨L', hrel, hav⟩ := takeR (id := rid) hc2 (hres.up (fun _ h => .inr h)) (fun k hk => by
    refine ⟨hlabn k (hFk k hk), fun hz => ?_, hIw k (hFk k hk)⟩
    rcases hz with hz | hz
    · exact (hZ' k (hZZ k hz)).2.1 hk
    · exact (hZ' k hz).2.1 hk) hFn (fun i h1 h2 => by
    simp only [St.kill]
    split
    · rfl
    · exact hfr i h1 h2) hpin
  have hfin := hrel.put hd hav
  exact hK _ _ _ (by rw [Dl.app, killd_rec]; exact hfin)
end
theorem endsS {P : Program} {s : St} {rs : List ResultVar} {res : List PA} (avs : List AV) (K : List Nat) (h1 : RvAs P s rs avs) (h2 : GPasS s avs res K) (h3 : K.Nodup) : RetS P rs res .ret s := ⟨avs, K, h1, h2, h3⟩
end Go.Rl
namespace Go.Rl
open Go.Proofs
theorem inf5 : (Try.prog.info? 5).map (fun i => (i.zero, i.size, i.bytes)) = some (some (.int .u8 0), 1, 1) := by kernel_rfl
theorem inf69 : (Try.prog.info? 69).map (fun i => (i.zero, i.size, i.bytes)) = some (some (.agg #[.string ⟨#[]⟩, .string ⟨#[]⟩]), 2, 32) := by kernel_rfl
theorem inf36 : (Try.prog.info? 36).map (fun i => (i.zero, i.size, i.bytes)) = some (some (.agg #[.int .i64 0, .string ⟨#[]⟩, .string ⟨#[]⟩, .string ⟨#[]⟩]), 4, 56) := by kernel_rfl
theorem mixed : Try.prog.follows .mixedOrders = true := by kernel_rfl
def wFil (e : Fil) : Nat := e.name.size + e.data.size
def markFil (k i : Nat) : Fil := ⟨markT (k + 2 * i), markT (k + 2 * i + 1)⟩
def wDOp (e : DOp) : Nat := e.name.size + e.dest.size + e.data.size
def markDOp (k i : Nat) : DOp := ⟨((k + 4 * i : Nat) : Int), markT (k + 4 * i + 1), markT (k + 4 * i + 2), markT (k + 4 * i + 3)⟩
end Go.Rl

/- R, part V: arguments that are read as data, opened. -/
import Derived.Test.YtmjfdldfaeaolaaRlU
import Derived.ChangeArms
import Derived.Deep.Slices
import Derived.SizedLaws
import Derived.Carry
import Derived.WideShapes
import Derived.WalkKit
namespace Go.Rl
open Go.RowKit

/-- What a cell of data is. -/
inductive Sh where
  | int (k : IntKind)
  | str
  | bool
  | sl (E : List Sh)
/-- The cells of a struct's fields, one behind the other. -/
def shFs (P : Program) (sh : TypeId → Option (List Sh)) : List Field → Nat → Option (List Sh)
  | [], _ => some []
  | f :: fs, o => match Nat.beq f.offset o, sh f.type with
    | true, some E => match Nat.beq (P.cellsOf f.type) E.length, shFs P sh fs (o + E.length) with
      | true, some F => some (E ++ F)
      | _, _ => none
    | _, _ => none
def shOf (P : Program) : Nat → TypeId → Option (List Sh)
  | 0, _ => none
  | n + 1, t => match P.underlying t with
    | some (.int k) => some [.int k]
    | some .string => some [.str]
    | some .bool => some [.bool]
    | some (.slice e) => match shOf P n e with
      | some (x :: E) => match Nat.beq (P.cellsOf e) (x :: E).length with
        | true => some [.sl (x :: E)]
        | false => none
      | _ => none
    | some (.struct fs) => match shFs P (shOf P n) fs.toList 0 with
      | some E => match Nat.beq (P.cellsOf t) E.length with
        | true => some E
        | false => none
      | none => none
    | _ => none
inductive Fit : Sh → PV → Prop
  | int (k : IntKind) (n : Int) (h : (Lit.int k n).wf = true) : Fit (.int k) (.v (.int k n))
  | str (b : ByteArray) (h : b.size ≤ reachBytes) : Fit .str (.v (.string b))
  | bool (b : Bool) : Fit .bool (.v (.bool b))
  | sl (E : List Sh) (xs : List (List PV)) (hl : xs.length ≤ maxLen) (h : ∀ es ∈ xs, es.length = E.length) (h2 : ∀ es ∈ xs, ∀ (j : Nat) s p, E[j]? = some s → es[j]? = some p → Fit s p) : Fit (.sl E) (.sl false E.length xs)
def Fits (E : List Sh) (ps : List PV) : Prop := ps.length = E.length ∧ ∀ (j : Nat) s p, E[j]? = some s → ps[j]? = some p → Fit s p
theorem Fits.app {E F : List Sh} {ps qs : List PV} (h : Fits E ps) (k : Fits F qs) : Fits (E ++ F) (ps ++ qs) := by
  refine ⟨by simp [h.1, k.1], fun j s p hs hp => ?_⟩
  by_cases hj : j < E.length
  · rw [List.getElem?_append_left hj] at hs
    rw [List.getElem?_append_left (by rw [h.1]; exact hj)] at hp
    exact h.2 j s p hs hp
  · rw [List.getElem?_append_right (by omega)] at hs
    rw [List.getElem?_append_right (by rw [h.1]; omega), h.1] at hp
    exact k.2 _ s p hs hp
theorem Fits.one {s : Sh} {p : PV} (h : Fit s p) : Fits [s] [p] := ⟨rfl, fun j s' p' hs hp => by
  cases j with
  | zero => simp at hs hp; subst hs hp; exact h
  | succ j => simp at hs⟩
theorem fits_nil {ps : List PV} (h : Fits [] ps) : ps = [] := List.eq_nil_of_length_eq_zero h.1
theorem fits_cons {s : Sh} {E : List Sh} {ps : List PV} (h : Fits (s :: E) ps) : ∃ p qs, ps = p :: qs ∧ Fit s p ∧ Fits E qs := by
  cases ps with
  | nil => have := h.1; simp at this
  | cons p qs => exact ⟨p, qs, rfl, h.2 0 s p rfl rfl, by have := h.1; simpa using this, fun j s' p' hs hp => h.2 (j + 1) s' p' (by simpa using hs) (by simpa using hp)⟩
theorem fit_int {k : IntKind} {p : PV} (h : Fit (.int k) p) : ∃ n, p = .v (.int k n) ∧ (Lit.int k n).wf = true := by cases h; exact ⟨_, rfl, ‹_›⟩
theorem fit_str {p : PV} (h : Fit .str p) : ∃ b, p = .v (.string b) ∧ b.size ≤ reachBytes := by cases h; exact ⟨_, rfl, ‹_›⟩
theorem fit_bool {p : PV} (h : Fit .bool p) : ∃ b, p = .v (.bool b) := by cases h; exact ⟨_, rfl⟩
theorem fit_sl {E : List Sh} {p : PV} (h : Fit (.sl E) p) : ∃ xs, p = .sl false E.length xs ∧ xs.length ≤ maxLen ∧ ∀ es ∈ xs, Fits E es := by
  cases h with
  | sl _ xs hl h1 h2 => exact ⟨xs, rfl, hl, fun es he => ⟨h1 es he, h2 es he⟩⟩
theorem fits_list {E : List Sh} {α : Type} {f : α → List PV} {B : α → Prop} (hf : ∀ es, Fits E es → ∃ a, es = f a ∧ B a) : ∀ {xs : List (List PV)}, (∀ es ∈ xs, Fits E es) → ∃ l : List α, xs = l.map f ∧ ∀ a ∈ l, B a
  | [], _ => ⟨[], rfl, fun _ h => by cases h⟩
  | x :: xs, h => by
    obtain ⟨a, rfl, ha⟩ := hf x (h x (by simp))
    obtain ⟨l, rfl, hl⟩ := fits_list hf (xs := xs) (fun es he => h es (by simp [he]))
    exact ⟨a :: l, rfl, fun b hb => by rcases List.mem_cons.1 hb with rfl | hb; exact ha; exact hl b hb⟩
theorem fit_nf {s : Sh} {p : PV} (h : Fit s p) : p.nf = true := by cases h <;> rfl

section
variable {H : Type} {enc : TypeId × Value → H} {P : Program} {w : World} {sp : Nat → Bool} {held : Bool}
def old (w : World) : Nat → Prop := fun k => k < w.heap.size
theorem old_cell {w : World} {a : Addr} {v : Value} (h : w.cell? a = some v) : old w a.block ∧ a.spot = none := by
  unfold World.cell? at h
  split at h
  · rename_i c t f e
    refine ⟨(Array.getElem?_eq_some_iff.1 e).1, ?_⟩
    cases hs : a.spot with
    | none => rfl
    | some x => rw [hs] at h; simp at h
  · cases h
theorem weights_all {e : TypeId} : ∀ {l : List (DataW H)} {d : DataW H}, d ∈ l → ∀ n ∈ d.weights P e, n ∈ DataW.weightsAll P e l
  | x :: l, d, hd, n, hn => by
    simp only [DataW.weightsAll, List.mem_append]
    rcases List.mem_cons.1 hd with rfl | hd
    · exact .inl hn
    · exact .inr (weights_all hd n hn)
/-- What the cells of a type's value are, as it is read. -/
def Opens (H : Type) (enc : TypeId × Value → H) (P : Program) (w : World) (sp : Nat → Bool) (held : Bool) (t : TypeId) (E : List Sh) : Prop :=
  ∀ (fuel : Nat) (cs : List Value) (x : DataW H × List MemPlace), DataW.trod enc P w 0 sp held fuel t cs = some x → (∀ n ∈ x.1.weights P t, n ≤ reachBytes) →
    ∃ ps, Fits E ps ∧ cs.length = E.length ∧ ∀ (j : Nat) p v, ps[j]? = some p → cs[j]? = some v → PVR (old w) w p v
theorem opens_fs {n : Nat} (ih : ∀ t E, shOf P n t = some E → Opens H enc P w sp held t E) : ∀ (fs : List Field) (o : Nat) (E : List Sh), shFs P (shOf P n) fs o = some E →
    ∀ (fuel : Nat) (cs : List Value) (xs : List (DataW H × List MemPlace)), xs.length = fs.length → (∀ (i : Nat) (f : Field), fs[i]? = some f → DataW.trod enc P w 0 sp held fuel f.type ((cs.drop f.offset).take (P.cellsOf f.type)) = xs[i]?) →
      (∀ n ∈ DataW.weightsEach P (fs.map (·.type)) (xs.map (·.1)), n ≤ reachBytes) → ∃ ps, Fits E ps ∧ ∀ (j : Nat) p v, ps[j]? = some p → cs[o + j]? = some v → PVR (old w) w p v
  | [], o, E, hE, fuel, cs, xs, hl, hx, hw => by
    simp only [shFs, Option.some.injEq] at hE
    subst hE
    exact ⟨[], ⟨rfl, by simp⟩, by simp⟩
  | f :: fs, o, E, hE, fuel, cs, xs, hl, hx, hw => by
    simp only [shFs] at hE
    split at hE
    · rename_i E1 ho hs
      split at hE
      · rename_i F hc hF
        simp only [Option.some.injEq] at hE
        subst hE
        have ho' := Nat.eq_of_beq_eq_true ho
        have hc' := Nat.eq_of_beq_eq_true hc
        cases xs with
        | nil => simp at hl
        | cons x xs =>
          have h0 := hx 0 f rfl
          simp only [List.getElem?_cons_zero] at h0
          simp only [List.map_cons, DataW.weightsEach, List.mem_append] at hw
          obtain ⟨ps, f1, f2, f3⟩ := ih f.type E1 hs fuel _ x h0 (fun n hn => hw n (.inl hn))
          obtain ⟨qs, g1, g3⟩ := opens_fs ih fs (o + E1.length) F hF fuel cs xs (by simpa using hl) (fun i f' hf => by simpa using hx (i + 1) f' (by simpa using hf)) (fun n hn => hw n (.inr hn))
          refine ⟨ps ++ qs, f1.app g1, fun j p v hp hv => ?_⟩
          by_cases hj : j < E1.length
          · rw [List.getElem?_append_left (by rw [f1.1]; exact hj)] at hp
            refine f3 j p v hp ?_
            rw [ho', hc', List.getElem?_take_of_lt hj, List.getElem?_drop]
            exact hv
          · rw [List.getElem?_append_right (by rw [f1.1]; omega), f1.1] at hp
            refine g3 (j - E1.length) p v hp ?_
            rw [show o + E1.length + (j - E1.length) = o + j by omega]
            exact hv
      · cases hE
    · cases hE
theorem opens : ∀ (n : Nat) (t : TypeId) (E : List Sh), shOf P n t = some E → Opens H enc P w sp held t E
  | 0, t, E, hE => by simp [shOf] at hE
  | n + 1, t, E, hE => by
    intro fuel cs x hx hw
    simp only [shOf] at hE
    split at hE
    · rename_i k hu
      cases hE
      obtain ⟨m, rfl, rfl, hm⟩ := DataW.trod_int hu hx
      exact ⟨[.v (.int k m)], Fits.one (.int k m hm), rfl, fun j p v hp hv => by
        cases j with
        | zero => simp at hp hv; subst hp hv; exact .v _ rfl
        | succ j => simp at hp⟩
    · rename_i hu
      cases hE
      obtain ⟨b, rfl, rfl, hm⟩ := DataW.trod_string hu hx
      have hb : b.size ≤ reachBytes := by
        have := hw b.data.toList.length (by simp [DataW.weights])
        simpa using this
      exact ⟨[.v (.string b)], Fits.one (.str b hb), rfl, fun j p v hp hv => by
        cases j with
        | zero => simp at hp hv; subst hp hv; exact .v _ rfl
        | succ j => simp at hp⟩
    · rename_i hu
      cases hE
      obtain ⟨b, rfl, rfl⟩ := DataW.trod_bool hu hx
      exact ⟨[.v (.bool b)], Fits.one (.bool b), rfl, fun j p v hp hv => by
        cases j with
        | zero => simp at hp hv; subst hp hv; exact .v _ rfl
        | succ j => simp at hp⟩
    · rename_i e hu
      split at hE
      · rename_i s0 E0 he
        split at hE
        · rename_i hc
          cases hE
          have hc' := Nat.eq_of_beq_eq_true hc
          rcases DataW.trod_slice hu hx with ⟨rfl, rfl⟩ | ⟨a, len, cap, elems, rest, m, _, rfl, rfl, _, hl, hm, hlen, hel, _, _⟩
          · exact ⟨[.sl false (s0 :: E0).length []], Fits.one (.sl (s0 :: E0) [] (Nat.zero_le _) (fun _ h => by cases h) (fun _ h => by cases h)), rfl, fun j p v hp hv => by
              cases j with
              | zero => simp at hp hv; subst hp hv; exact .emp _ _ _ _
              | succ j => simp at hp⟩
          · have one : ∀ i, i < len → ∃ ps : List PV, Fits (s0 :: E0) ps ∧ ∀ (q : Nat) p, ps[q]? = some p → ∃ v, w.cell? ((a.add (i * (s0 :: E0).length)).add q) = some v ∧ PVR (old w) w p v := fun i hi => by
              have h1 := hel i hi
              rw [List.getElem?_eq_getElem (by omega)] at h1
              obtain ⟨cs', h2, h3⟩ := Option.bind_eq_some_iff.1 h1
              obtain ⟨_, h5, h6⟩ := World.cells?_some h2
              rw [hc'] at h5 h6 h2
              obtain ⟨ps, g1, g2, g3⟩ := opens n e (s0 :: E0) he m cs' elems[i] h3 (fun k hk => hw k (by
                simp only [DataW.weights, hu, List.mem_cons, List.mem_append]
                exact .inr (.inl (weights_all (List.mem_map.2 ⟨elems[i], List.getElem_mem _, rfl⟩) k hk))))
              refine ⟨ps, g1, fun q p hp => ?_⟩
              have hq : q < (s0 :: E0).length := by rw [← g1.1]; exact (List.getElem?_eq_some_iff.1 hp).1
              have h7 := h6 q hq
              rw [List.getElem?_eq_getElem (by omega)] at h7
              exact ⟨_, h7, g3 q p _ hp (List.getElem?_eq_getElem (by omega))⟩
            obtain ⟨f, hf⟩ := Deep.choose_lt one
            have hxs : ∀ es ∈ (List.range len).map f, Fits (s0 :: E0) es := fun es he => by
              obtain ⟨i, hi, rfl⟩ := List.mem_map.1 he
              exact (hf i (List.mem_range.1 hi)).1
            have hz : 0 < (s0 :: E0).length := by simp
            refine ⟨[.sl false (s0 :: E0).length ((List.range len).map f)], Fits.one (.sl (s0 :: E0) _ (by simp; omega) (fun es he => (hxs es he).1) (fun es he => (hxs es he).2)), rfl, fun j p v hp hv => ?_⟩
            cases j with
            | succ j => simp at hp
            | zero =>
              simp at hp hv
              subst hp hv
              rcases Nat.eq_zero_or_pos len with rfl | hpos
              · exact .emp _ _ _ _
              · have h0 : ∃ v, w.cell? a = some v := by
                  obtain ⟨p0, _, e0, _, _⟩ := fits_cons (hf 0 hpos).1
                  obtain ⟨v, hv, _⟩ := (hf 0 hpos).2 0 p0 (by rw [e0]; rfl)
                  exact ⟨v, by simpa [Addr.add] using hv⟩
                obtain ⟨v0, hv0⟩ := h0
                obtain ⟨ho, hs⟩ := old_cell hv0
                obtain ⟨k, off, spot⟩ := a
                simp only at hs ho
                subst hs
                have hll : ((List.range len).map f).length = len := by simp
                have key : ∀ (j : Nat) p, ((List.range len).map f).flatten[j]? = some p → ∃ v, w.cell? ⟨k, off + j, none⟩ = some v ∧ PVR (old w) w p v := fun j p hp => by
                  obtain ⟨_, es, h1, h2⟩ := flat_at (sz := (s0 :: E0).length) (fun es he => (hxs es he).1) hp
                  have hlt : j / (s0 :: E0).length < len := by have := (List.getElem?_eq_some_iff.1 h1).1; simpa using this
                  have he : es = f (j / (s0 :: E0).length) := by
                    rw [List.getElem?_map, List.getElem?_range hlt] at h1
                    simpa using h1.symm
                  subst he
                  obtain ⟨v, h3, h4⟩ := (hf _ hlt).2 _ p h2
                  refine ⟨v, ?_, h4⟩
                  rw [Deep.add_add, Nat.mul_comm, Nat.div_add_mod] at h3
                  rw [← h3]
                  unfold Addr.add
                  by_cases hj : j = 0 <;> simp [hj]
                have res := PVR.sl (Z := old w) (w := w) false (s0 :: E0).length ((List.range len).map f) k off cap (fun es he => (hxs es he).1) (by rw [hll]; exact hl) ho (fun j => (w.cell? ⟨k, off + j, none⟩).getD undef) (fun j hj => by
                  obtain ⟨v, h1, _⟩ := key j _ (List.getElem?_eq_getElem hj)
                  simp [h1]) (fun j p hp => by
                  obtain ⟨v, h1, h2⟩ := key j p hp
                  simpa [h1] using h2)
                rwa [hll] at res
        · cases hE
      · cases hE
    · rename_i fs hu
      split at hE
      · rename_i E1 hF
        split at hE
        · rename_i hc
          cases hE
          obtain ⟨xs, m, _, rfl, hl, hxl, hxs⟩ := DataW.trod_struct hu hx
          obtain ⟨ps, g1, g2⟩ := opens_fs (opens n) fs.toList 0 E hF m cs xs (by simpa using hxl) (fun i f hf => hxs i f (by simpa using hf)) (fun k hk => hw k (by simpa [DataW.weights, hu] using hk))
          exact ⟨ps, g1, hl.trans (Nat.eq_of_beq_eq_true hc), fun j p v hp hv => g2 j p v hp (by simpa using hv)⟩
        · cases hE
      · cases hE
    · cases hE
end
end Go.Rl

/- R, part A: pure values, abstract values, and how they stand in the model's memory. -/
import Derived.WalkKit
import Derived.KernelRfl
import Derived.Below
import Derived.Orders
import Derived.Laws.AppendOwn
namespace Go.Rl
open Go.RowKit

/-- A pure value of one cell: a value without memory, a slice as the list of its elements' cells ('own': its row is nobody else's), or a function value with the variables that it has captured. -/
inductive PV where
  | v (x : Value)
  | sl (own : Bool) (sz : Nat) (xs : List (List PV))
  | clo (f : Nat) (xs : List (List PV))
  deriving Inhabited

/-- What lies below a world: the streams, and the blocks but those of I. -/
structure Same (I : List Nat) (w w' : World) : Prop where
  os : w'.os = w.os
  tape : w'.tape = w.tape
  output : w'.output = w.output
  size : w.heap.size ≤ w'.heap.size
  block : ∀ k, k < w.heap.size → k ∉ I → w'.heap[k]? = w.heap[k]?
theorem Same.refl (I : List Nat) (w : World) : Same I w w := ⟨rfl, rfl, rfl, Nat.le_refl _, fun _ _ _ => rfl⟩
theorem Same.trans {I J : List Nat} {a b c : World} (h : Same I a b) (k : Same J b c) (hj : ∀ x, x < a.heap.size → x ∉ I → x ∉ J) : Same I a c :=
  ⟨k.os.trans h.os, k.tape.trans h.tape, k.output.trans h.output, Nat.le_trans h.size k.size,
   fun x hx hI => (k.block x (Nat.lt_of_lt_of_le hx h.size) (hj x hx hI)).trans (h.block x hx hI)⟩
theorem Same.below {w w' : World} (h : Same [] w w') : Below w.heap.size w w' := ⟨h.os, h.tape, h.output, h.size, fun k hk => h.block k hk (by simp)⟩

theorem cell_same {w w' : World} {k o : Nat} (h : w'.heap[k]? = w.heap[k]?) : w'.cell? ⟨k, o, none⟩ = w.cell? ⟨k, o, none⟩ := by
  simp [World.cell?, h]

/-- p is read at v in w; all that it leads to lies in blocks of Z. -/
inductive PVR (Z : Nat → Prop) (w : World) : PV → Value → Prop where
  | v (x : Value) (h : x.oneCell' = true) : PVR Z w (.v x) x
  | emp (own : Bool) (sz : Nat) (A : Option Addr) (c : Nat) : PVR Z w (.sl own sz []) (.slice A 0 c)
  | sl (own : Bool) (sz : Nat) (xs : List (List PV)) (k off c : Nat) (hlen : ∀ es ∈ xs, es.length = sz) (hc : xs.length ≤ c) (hz : Z k) (u : Nat → Value)
      (hcell : ∀ j, j < xs.flatten.length → w.cell? ⟨k, off + j, none⟩ = some (u j)) (hp : ∀ j p, xs.flatten[j]? = some p → PVR Z w p (u j)) :
      PVR Z w (.sl own sz xs) (.slice (some ⟨k, off, none⟩) xs.length c)
  | clo (f : Nat) (xs : List (List PV)) (ks : List Nat) (hl : ks.length = xs.length) (hz : ∀ k ∈ ks, Z k) (u : Nat → Nat → Value)
      (hcell : ∀ i j es k p, xs[i]? = some es → ks[i]? = some k → es[j]? = some p → w.cell? ⟨k, j, none⟩ = some (u i j)) (hp : ∀ i j es p, xs[i]? = some es → es[j]? = some p → PVR Z w p (u i j)) :
      PVR Z w (.clo f xs) (.func (.func f) #[] ⟨ks.map fun k => .pointer (some ⟨k, 0, none⟩)⟩)

theorem PVR.mono {Z Z' : Nat → Prop} {w w' : World} {p : PV} {v : Value} (h : PVR Z w p v) (hw : ∀ k, Z k → w'.heap[k]? = w.heap[k]?) (hz : ∀ k, Z k → Z' k) : PVR Z' w' p v := by
  induction h with
  | v x h => exact .v x h
  | emp own sz A c => exact .emp own sz A c
  | sl own sz xs k off c hlen hc hk u hcell hp ih =>
    exact .sl own sz xs k off c hlen hc (hz k hk) u (fun j hj => (cell_same (hw k hk)).trans (hcell j hj)) ih
  | clo f xs ks hl hks u hcell hp ih =>
    exact .clo f xs ks hl (fun k hk => hz k (hks k hk)) u (fun i j es k p h1 h2 h3 => (cell_same (hw k (hks k (List.mem_of_getElem? h2)))).trans (hcell i j es k p h1 h2 h3)) ih

theorem PVR.one {Z : Nat → Prop} {w : World} {p : PV} {v : Value} (h : PVR Z w p v) : v.oneCell' = true := by
  cases h <;> first | assumption | rfl

/-- p stands at v, its own rows in the blocks N; what it shares lies in Z. -/
inductive PVO (Z : Nat → Prop) (w : World) : PV → Value → List Nat → Prop where
  | v (x : Value) (h : x.oneCell' = true) : PVO Z w (.v x) x []
  | fro (sz : Nat) (xs : List (List PV)) (v : Value) (h : PVR Z w (.sl false sz xs) v) : PVO Z w (.sl false sz xs) v []
  | clo (f : Nat) (xs : List (List PV)) (v : Value) (h : PVR Z w (.clo f xs) v) : PVO Z w (.clo f xs) v []
  | nil (sz : Nat) (A : Option Addr) : PVO Z w (.sl true sz []) (.slice A 0 0) []
  | own (sz : Nat) (xs : List (List PV)) (k c : Nat) (cur : Array Value) (ty : TypeId) (hlen : ∀ es ∈ xs, es.length = sz) (hk : w.heap[k]? = some (.cells cur ty (0, 0)))
      (hsz : cur.size = c * sz) (hc : xs.length ≤ c ∧ 0 < c) (hm : c ≤ maxLen) (u : Nat → Value) (n : Nat → List Nat)
      (hcell : ∀ j, j < xs.flatten.length → cur[j]? = some (u j)) (hp : ∀ j p, xs.flatten[j]? = some p → PVO Z w p (u j) (n j)) :
      PVO Z w (.sl true sz xs) (.slice (some ⟨k, 0, none⟩) xs.length c) (k :: (List.range xs.flatten.length).flatMap n)

theorem PVO.mono {Z Z' : Nat → Prop} {w w' : World} {p : PV} {v : Value} {N : List Nat} (h : PVO Z w p v N) (hw : ∀ k, Z k → w'.heap[k]? = w.heap[k]?) (hn : ∀ k, k ∈ N → w'.heap[k]? = w.heap[k]?) (hz : ∀ k, Z k → Z' k) : PVO Z' w' p v N := by
  induction h with
  | v x h => exact .v x h
  | fro sz xs v h => exact .fro sz xs v (h.mono hw hz)
  | clo f xs v h => exact .clo f xs v (h.mono hw hz)
  | nil sz A => exact .nil sz A
  | own sz xs k c cur ty hlen hk hsz hc hm u n hcell hp ih =>
    refine .own sz xs k c cur ty hlen ((hn k (by simp)).trans hk) hsz hc hm u n hcell (fun j p hj => ih j p hj (fun x hx => hn x ?_))
    have hlt : j < xs.flatten.length := (List.getElem?_eq_some_iff.1 hj).1
    simp only [List.mem_cons, List.mem_flatMap, List.mem_range]
    exact .inr ⟨j, hlt, hx⟩

theorem PVO.toR {Z : Nat → Prop} {w : World} {p : PV} {v : Value} {N : List Nat} (h : PVO Z w p v N) : PVR (fun k => Z k ∨ k ∈ N) w p v := by
  induction h with
  | v x h => exact .v x h
  | fro sz xs v h => exact h.mono (fun _ _ => rfl) (fun _ h => .inl h)
  | clo f xs v h => exact h.mono (fun _ _ => rfl) (fun _ h => .inl h)
  | nil sz A => exact .emp _ _ _ _
  | own sz xs k c cur ty hlen hk hsz hc hm u n hcell hp ih =>
    refine .sl _ sz xs k 0 c hlen hc.1 (.inr (by simp)) u (fun j hj => ?_) (fun j p hj => (ih j p hj).mono (fun _ _ => rfl) (fun x hx => ?_))
    · simp only [World.cell?, hk, Nat.zero_add]
      simpa using hcell j hj
    · have hlt : j < xs.flatten.length := (List.getElem?_eq_some_iff.1 hj).1
      rcases hx with hx | hx
      · exact .inl hx
      · refine .inr ?_
        simp only [List.mem_cons, List.mem_flatMap, List.mem_range]
        exact .inr ⟨j, hlt, hx⟩

theorem PVO.one {Z : Nat → Prop} {w : World} {p : PV} {v : Value} {N : List Nat} (h : PVO Z w p v N) : v.oneCell' = true := h.toR.one

theorem PVO.lt {Z : Nat → Prop} {w : World} {p : PV} {v : Value} {N : List Nat} (h : PVO Z w p v N) : ∀ k ∈ N, k < w.heap.size := by
  induction h with
  | v x h => simp
  | fro sz xs v h => simp
  | clo f xs v h => simp
  | nil sz A => simp
  | own sz xs k c cur ty hlen hk hsz hc hm u n hcell hp ih =>
    intro x hx
    simp only [List.mem_cons, List.mem_flatMap, List.mem_range] at hx
    rcases hx with rfl | ⟨j, hj, hx⟩
    · exact (Array.getElem?_eq_some_iff.1 hk).1
    · exact ih j _ (List.getElem?_eq_getElem hj) x hx

/-- An abstract value: what a temporary or a cell of a variable holds. -/
inductive AV where
  | undef
  | p (d : Option Nat) (x : PV)
  | sl (id lo len : Nat)
  | ptr (b off : Nat)
  | ea (id i off : Nat)
  | fea (d : Option Nat) (ps : List PV)
  | nils
  | sat (A : Value → Prop)
  | clo (f : Nat) (bs : List Nat)
  | agg (cs : List AV)
  | tup (vs : List AV)
  deriving Inhabited

structure St where
  t : Nat → AV
  b : Nat → Option (List AV)
  r : Nat → Option (Nat × List (List PV))

inductive Lab where
  | box (i : Nat)
  | row (i : Nat)
  deriving DecidableEq

/-- How the abstract names lie in memory. -/
structure Pl where
  Z : Nat → Prop
  β : Nat → Nat
  ρ : Nat → Value
  ν : Nat → List Nat
  lab : Nat → Option Lab

/-- Frozen blocks, and (for what is read out of row d) the blocks of the rows inside it. -/
def Pl.zd (L : Pl) (d : Option Nat) : Nat → Prop := fun k => L.Z k ∨ ∃ id, d = some id ∧ k ∈ (L.ν id).tail

/-- v is the view of row header h from element lo on. -/
def View (h : Value) (sz lo len : Nat) (v : Value) : Prop :=
  ∃ A n c A' c', h = .slice A n c ∧ v = .slice A' len c' ∧ len ≤ c' ∧ (lo = 0 → A' = A ∧ c' = c) ∧ (0 < len → ∃ k, A = some ⟨k, 0, none⟩ ∧ A' = some ⟨k, lo * sz, none⟩)

mutual
def AVR (L : Pl) (w : World) (s : St) : AV → Value → Prop
  | .undef, _ => True
  | .p d x, v => PVR (L.zd d) w x v ∧ ∀ id, d = some id → (s.r id).isSome
  | .sl id lo len, v => ∃ sz xs, s.r id = some (sz, xs) ∧ lo + len ≤ xs.length ∧ View (L.ρ id) sz lo len v
  | .ptr b off, v => (s.b b).isSome ∧ v = .pointer (some ⟨L.β b, off, none⟩)
  | .ea id i off, v => ∃ sz xs k n c, s.r id = some (sz, xs) ∧ i < xs.length ∧ L.ρ id = .slice (some ⟨k, 0, none⟩) n c ∧ v = .pointer (some ⟨k, i * sz + off, none⟩)
  | .fea d ps, v => (∃ k off, v = .pointer (some ⟨k, off, none⟩) ∧ L.zd d k ∧ ∀ j p, ps[j]? = some p → ∃ u, w.cell? ⟨k, off + j, none⟩ = some u ∧ PVR (L.zd d) w p u) ∧ ∀ id, d = some id → (s.r id).isSome
  | .nils, v => ∃ A, v = .slice A 0 0
  | .sat A, v => A v
  | .clo f bs, v => (∀ b ∈ bs, (s.b b).isSome) ∧ v = .func (.func f) #[] ⟨bs.map fun b => .pointer (some ⟨L.β b, 0, none⟩)⟩
  | .agg cs, v => ∃ us, v = .agg ⟨us⟩ ∧ AVRs L w s cs us
  | .tup vs, v => ∃ us, v = .tuple ⟨us⟩ ∧ AVRs L w s vs us
def AVRs (L : Pl) (w : World) (s : St) : List AV → List Value → Prop
  | [], [] => True
  | a :: as, u :: us => AVR L w s a u ∧ AVRs L w s as us
  | _, _ => False
end

end Go.Rl

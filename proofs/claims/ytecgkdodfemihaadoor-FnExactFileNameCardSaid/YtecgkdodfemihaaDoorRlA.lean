/- Promises of functions, proved by walks over their operations; no conditions beyond those that each theorem states. -/
import Derived.WalkKit
import Derived.KernelRfl
import Derived.Below
import Derived.Orders
import Derived.Laws.AppendOwn
import Derived.Laws.StructEq
import Derived.Laws.Slices
import Derived.Laws.OwnMore
import Derived.Laws.Tables
set_option linter.unusedSimpArgs false
set_option linter.unusedVariables false
namespace Go.Rl
open Go.RowKit

/-- A pure value of one cell: a value without memory, a slice as the list of its elements' cells ('own': its row is nobody else's), or a function value with the variables that it has captured. -/
inductive PV where
  | v (x : Value)
  | sl (own : Bool) (sz : Nat) (xs : List (List PV))
  | clo (f : Nat) (xs : List (List PV))
  deriving Inhabited

/-- What lies below a world: the streams, and the blocks but those of I. -/
structure Same (I : List Nat) (w w' : World) : Prop where
  os : w'.os = w.os
  tape : w'.tape = w.tape
  output : w'.output = w.output
  size : w.heap.size ≤ w'.heap.size
  block : ∀ k, k < w.heap.size → k ∉ I → w'.heap[k]? = w.heap[k]?
theorem Same.refl (I : List Nat) (w : World) : Same I w w := ⟨rfl, rfl, rfl, Nat.le_refl _, fun _ _ _ => rfl⟩
theorem Same.trans {I J : List Nat} {a b c : World} (h : Same I a b) (k : Same J b c) (hj : ∀ x, x < a.heap.size → x ∉ I → x ∉ J) : Same I a c :=
  ⟨k.os.trans h.os, k.tape.trans h.tape, k.output.trans h.output, Nat.le_trans h.size k.size,
   fun x hx hI => (k.block x (Nat.lt_of_lt_of_le hx h.size) (hj x hx hI)).trans (h.block x hx hI)⟩
theorem Same.below {w w' : World} (h : Same [] w w') : Below w.heap.size w w' := ⟨h.os, h.tape, h.output, h.size, fun k hk => h.block k hk (by simp)⟩

theorem cell_same {w w' : World} {k o : Nat} (h : w'.heap[k]? = w.heap[k]?) : w'.cell? ⟨k, o, none⟩ = w.cell? ⟨k, o, none⟩ := by
  simp [World.cell?, h]

/-- p is read at v in w; all that it leads to lies in blocks of Z. -/
inductive PVR (Z : Nat → Prop) (w : World) : PV → Value → Prop where
  | v (x : Value) (h : x.oneCell' = true) : PVR Z w (.v x) x
  | emp (own : Bool) (sz : Nat) (A : Option Addr) (c : Nat) : PVR Z w (.sl own sz []) (.slice A 0 c)
  | sl (own : Bool) (sz : Nat) (xs : List (List PV)) (k off c : Nat) (hlen : ∀ es ∈ xs, es.length = sz) (hc : xs.length ≤ c) (hz : Z k) (u : Nat → Value)
      (hcell : ∀ j, j < xs.flatten.length → w.cell? ⟨k, off + j, none⟩ = some (u j)) (hp : ∀ j p, xs.flatten[j]? = some p → PVR Z w p (u j)) :
      PVR Z w (.sl own sz xs) (.slice (some ⟨k, off, none⟩) xs.length c)
  | clo (f : Nat) (xs : List (List PV)) (ks : List Nat) (hl : ks.length = xs.length) (hz : ∀ k ∈ ks, Z k) (u : Nat → Nat → Value)
      (hcell : ∀ i j es k p, xs[i]? = some es → ks[i]? = some k → es[j]? = some p → w.cell? ⟨k, j, none⟩ = some (u i j)) (hp : ∀ i j es p, xs[i]? = some es → es[j]? = some p → PVR Z w p (u i j)) :
      PVR Z w (.clo f xs) (.func (.func f) #[] ⟨ks.map fun k => .pointer (some ⟨k, 0, none⟩)⟩)

theorem PVR.mono {Z Z' : Nat → Prop} {w w' : World} {p : PV} {v : Value} (h : PVR Z w p v) (hw : ∀ k, Z k → w'.heap[k]? = w.heap[k]?) (hz : ∀ k, Z k → Z' k) : PVR Z' w' p v := by
  induction h with
  | v x h => exact .v x h
  | emp own sz A c => exact .emp own sz A c
  | sl own sz xs k off c hlen hc hk u hcell hp ih =>
    exact .sl own sz xs k off c hlen hc (hz k hk) u (fun j hj => (cell_same (hw k hk)).trans (hcell j hj)) ih
  | clo f xs ks hl hks u hcell hp ih =>
    exact .clo f xs ks hl (fun k hk => hz k (hks k hk)) u (fun i j es k p h1 h2 h3 => (cell_same (hw k (hks k (List.mem_of_getElem? h2)))).trans (hcell i j es k p h1 h2 h3)) ih

theorem PVR.one {Z : Nat → Prop} {w : World} {p : PV} {v : Value} (h : PVR Z w p v) : v.oneCell' = true := by
  cases h <;> first | assumption | rfl

/-- p stands at v, its own rows in the blocks N; what it shares lies in Z. -/
inductive PVO (Z : Nat → Prop) (w : World) : PV → Value → List Nat → Prop where
  | v (x : Value) (h : x.oneCell' = true) : PVO Z w (.v x) x []
  | fro (sz : Nat) (xs : List (List PV)) (v : Value) (h : PVR Z w (.sl false sz xs) v) : PVO Z w (.sl false sz xs) v []
  | clo (f : Nat) (xs : List (List PV)) (v : Value) (h : PVR Z w (.clo f xs) v) : PVO Z w (.clo f xs) v []
  | nil (sz : Nat) (A : Option Addr) : PVO Z w (.sl true sz []) (.slice A 0 0) []
  | own (sz : Nat) (xs : List (List PV)) (k c : Nat) (cur : Array Value) (ty : TypeId) (hlen : ∀ es ∈ xs, es.length = sz) (hk : w.heap[k]? = some (.cells cur ty (0, 0)))
      (hsz : cur.size = c * sz) (hc : xs.length ≤ c ∧ 0 < c) (hm : c ≤ maxLen) (u : Nat → Value) (n : Nat → List Nat)
      (hcell : ∀ j, j < xs.flatten.length → cur[j]? = some (u j)) (hp : ∀ j p, xs.flatten[j]? = some p → PVO Z w p (u j) (n j)) :
      PVO Z w (.sl true sz xs) (.slice (some ⟨k, 0, none⟩) xs.length c) (k :: (List.range xs.flatten.length).flatMap n)

theorem PVO.mono {Z Z' : Nat → Prop} {w w' : World} {p : PV} {v : Value} {N : List Nat} (h : PVO Z w p v N) (hw : ∀ k, Z k → w'.heap[k]? = w.heap[k]?) (hn : ∀ k, k ∈ N → w'.heap[k]? = w.heap[k]?) (hz : ∀ k, Z k → Z' k) : PVO Z' w' p v N := by
  induction h with
  | v x h => exact .v x h
  | fro sz xs v h => exact .fro sz xs v (h.mono hw hz)
  | clo f xs v h => exact .clo f xs v (h.mono hw hz)
  | nil sz A => exact .nil sz A
  | own sz xs k c cur ty hlen hk hsz hc hm u n hcell hp ih =>
    refine .own sz xs k c cur ty hlen ((hn k (by simp)).trans hk) hsz hc hm u n hcell (fun j p hj => ih j p hj (fun x hx => hn x ?_))
    have hlt : j < xs.flatten.length := (List.getElem?_eq_some_iff.1 hj).1
    simp only [List.mem_cons, List.mem_flatMap, List.mem_range]
    exact .inr ⟨j, hlt, hx⟩

theorem PVO.toR {Z : Nat → Prop} {w : World} {p : PV} {v : Value} {N : List Nat} (h : PVO Z w p v N) : PVR (fun k => Z k ∨ k ∈ N) w p v := by
  induction h with
  | v x h => exact .v x h
  | fro sz xs v h => exact h.mono (fun _ _ => rfl) (fun _ h => .inl h)
  | clo f xs v h => exact h.mono (fun _ _ => rfl) (fun _ h => .inl h)
  | nil sz A => exact .emp _ _ _ _
  | own sz xs k c cur ty hlen hk hsz hc hm u n hcell hp ih =>
    refine .sl _ sz xs k 0 c hlen hc.1 (.inr (by simp)) u (fun j hj => ?_) (fun j p hj => (ih j p hj).mono (fun _ _ => rfl) (fun x hx => ?_))
    · simp only [World.cell?, hk, Nat.zero_add]
      simpa using hcell j hj
    · have hlt : j < xs.flatten.length := (List.getElem?_eq_some_iff.1 hj).1
      rcases hx with hx | hx
      · exact .inl hx
      · refine .inr ?_
        simp only [List.mem_cons, List.mem_flatMap, List.mem_range]
        exact .inr ⟨j, hlt, hx⟩

theorem PVO.one {Z : Nat → Prop} {w : World} {p : PV} {v : Value} {N : List Nat} (h : PVO Z w p v N) : v.oneCell' = true := h.toR.one

theorem PVO.lt {Z : Nat → Prop} {w : World} {p : PV} {v : Value} {N : List Nat} (h : PVO Z w p v N) : ∀ k ∈ N, k < w.heap.size := by
  induction h with
  | v x h => simp
  | fro sz xs v h => simp
  | clo f xs v h => simp
  | nil sz A => simp
  | own sz xs k c cur ty hlen hk hsz hc hm u n hcell hp ih =>
    intro x hx
    simp only [List.mem_cons, List.mem_flatMap, List.mem_range] at hx
    rcases hx with rfl | ⟨j, hj, hx⟩
    · exact (Array.getElem?_eq_some_iff.1 hk).1
    · exact ih j _ (List.getElem?_eq_getElem hj) x hx

/-- An abstract value: what a temporary or a cell of a variable holds. -/
inductive AV where
  | undef
  | p (d : Option Nat) (x : PV)
  | sl (id lo len : Nat)
  | ptr (b off : Nat)
  | ea (id i off : Nat)
  | fea (d : Option Nat) (ps : List PV)
  | nils
  | sat (A : Value → Prop)
  | clo (f : Nat) (bs : List Nat)
  | agg (cs : List AV)
  | tup (vs : List AV)
  deriving Inhabited

structure St where
  t : Nat → AV
  b : Nat → Option (List AV)
  r : Nat → Option (Nat × List (List PV))

inductive Lab where
  | box (i : Nat)
  | row (i : Nat)
  deriving DecidableEq

/-- How the abstract names lie in memory. -/
structure Pl where
  Z : Nat → Prop
  β : Nat → Nat
  ρ : Nat → Value
  ν : Nat → List Nat
  lab : Nat → Option Lab

/-- Frozen blocks, and (for what is read out of row d) the blocks of the rows inside it. -/
def Pl.zd (L : Pl) (d : Option Nat) : Nat → Prop := fun k => L.Z k ∨ ∃ id, d = some id ∧ k ∈ (L.ν id).tail

/-- v is the view of row header h from element lo on. -/
def View (h : Value) (sz lo len : Nat) (v : Value) : Prop :=
  ∃ A n c A' c', h = .slice A n c ∧ v = .slice A' len c' ∧ len ≤ c' ∧ (lo = 0 → A' = A ∧ c' = c) ∧ (0 < len → ∃ k, A = some ⟨k, 0, none⟩ ∧ A' = some ⟨k, lo * sz, none⟩)

mutual
def AVR (L : Pl) (w : World) (s : St) : AV → Value → Prop
  | .undef, _ => True
  | .p d x, v => PVR (L.zd d) w x v ∧ ∀ id, d = some id → (s.r id).isSome
  | .sl id lo len, v => ∃ sz xs, s.r id = some (sz, xs) ∧ lo + len ≤ xs.length ∧ View (L.ρ id) sz lo len v
  | .ptr b off, v => (s.b b).isSome ∧ v = .pointer (some ⟨L.β b, off, none⟩)
  | .ea id i off, v => ∃ sz xs k n c, s.r id = some (sz, xs) ∧ i < xs.length ∧ L.ρ id = .slice (some ⟨k, 0, none⟩) n c ∧ v = .pointer (some ⟨k, i * sz + off, none⟩)
  | .fea d ps, v => (∃ k off, v = .pointer (some ⟨k, off, none⟩) ∧ L.zd d k ∧ ∀ j p, ps[j]? = some p → ∃ u, w.cell? ⟨k, off + j, none⟩ = some u ∧ PVR (L.zd d) w p u) ∧ ∀ id, d = some id → (s.r id).isSome
  | .nils, v => ∃ A, v = .slice A 0 0
  | .sat A, v => A v
  | .clo f bs, v => (∀ b ∈ bs, (s.b b).isSome) ∧ v = .func (.func f) #[] ⟨bs.map fun b => .pointer (some ⟨L.β b, 0, none⟩)⟩
  | .agg cs, v => ∃ us, v = .agg ⟨us⟩ ∧ AVRs L w s cs us
  | .tup vs, v => ∃ us, v = .tuple ⟨us⟩ ∧ AVRs L w s vs us
def AVRs (L : Pl) (w : World) (s : St) : List AV → List Value → Prop
  | [], [] => True
  | a :: aL, u :: us => AVR L w s a u ∧ AVRs L w s aL us
  | _, _ => False
end

end Go.Rl
namespace Go.Rl
open Go.RowKit

mutual
def AV.kill (K : List Nat) : AV → AV
  | .undef => .undef
  | .p none x => .p none x
  | .p (some d) x => if d ∈ K then .undef else .p (some d) x
  | .sl id lo len => if id ∈ K then .undef else .sl id lo len
  | .ptr b off => .ptr b off
  | .ea id j off => if id ∈ K then .undef else .ea id j off
  | .fea none ps => .fea none ps
  | .fea (some d) ps => if d ∈ K then .undef else .fea (some d) ps
  | .nils => .nils
  | .sat A => .sat A
  | .clo f bs => .clo f bs
  | .agg cs => .agg (AV.kills K cs)
  | .tup cs => .tup (AV.kills K cs)
def AV.kills (K : List Nat) : List AV → List AV
  | [] => []
  | a :: aL => AV.kill K a :: AV.kills K aL
end

mutual
theorem AV.kill_nil : ∀ a : AV, AV.kill [] a = a
  | .undef => rfl
  | .p none x => rfl
  | .p (some d) x => by simp [AV.kill]
  | .sl id lo len => by simp [AV.kill]
  | .ptr b off => rfl
  | .ea id j off => by simp [AV.kill]
  | .fea none ps => rfl
  | .fea (some d) ps => by simp [AV.kill]
  | .nils => rfl
  | .sat A => rfl
  | .clo f bs => rfl
  | .agg cs => by rw [AV.kill, AV.kills_nil cs]
  | .tup cs => by rw [AV.kill, AV.kills_nil cs]
theorem AV.kills_nil : ∀ aL : List AV, AV.kills [] aL = aL
  | [] => rfl
  | a :: aL => by rw [AV.kills, AV.kill_nil a, AV.kills_nil aL]
end

/-- What must hold of the places for an abstract value to stay as it is told (but for what leads to row i). -/
structure Moves (K : List Nat) (L L' : Pl) (w w' : World) (s s' : St) : Prop where
  z : ∀ k, L.Z k → L'.Z k ∧ w'.heap[k]? = w.heap[k]?
  n : ∀ id k, id ∉ K → (s.r id).isSome → k ∈ (L.ν id).tail → (L'.Z k ∨ k ∈ (L'.ν id).tail) ∧ w'.heap[k]? = w.heap[k]?
  b : ∀ b, (s.b b).isSome → (s'.b b).isSome ∧ L'.β b = L.β b
  r : ∀ id sz xs, id ∉ K → s.r id = some (sz, xs) → ∃ xs', s'.r id = some (sz, xs') ∧ xs'.length = xs.length ∧ L'.ρ id = L.ρ id

theorem Moves.zd {K : List Nat} {L L' : Pl} {w w' : World} {s s' : St} (h : Moves K L L' w w' s s') {d : Option Nat} (hd : ∀ id, d = some id → (s.r id).isSome) (hi : ∀ id, d = some id → id ∉ K) :
    ∀ k, L.zd d k → L'.zd d k ∧ w'.heap[k]? = w.heap[k]? := by
  intro k hk
  rcases hk with hk | ⟨id, rfl, hk⟩
  · exact ⟨.inl (h.z k hk).1, (h.z k hk).2⟩
  · obtain ⟨h1, h2⟩ := h.n id k (hi id rfl) (hd id rfl) hk
    exact ⟨h1.imp (fun h => h) (fun h => ⟨id, rfl, h⟩), h2⟩

theorem Moves.some {K : List Nat} {L L' : Pl} {w w' : World} {s s' : St} (h : Moves K L L' w w' s s') {id : Nat} (hne : id ∉ K) (hs : (s.r id).isSome) : (s'.r id).isSome := by
  obtain ⟨⟨sz, xs⟩, hx⟩ := Option.isSome_iff_exists.1 hs
  obtain ⟨xs', h', _⟩ := h.r id sz xs hne hx
  rw [h']; rfl

mutual
theorem AVR.move {K : List Nat} {L L' : Pl} {w w' : World} {s s' : St} (h : Moves K L L' w w' s s') : ∀ (av : AV) (v : Value), AVR L w s av v → AVR L' w' s' (av.kill K) v
  | .undef, v, _ => by simp [AV.kill, AVR]
  | .p none x, v, hv => by
    simp only [AV.kill, AVR] at hv ⊢
    refine ⟨hv.1.mono (fun k hk => (h.zd hv.2 (fun _ h => by cases h) k hk).2) (fun k hk => (h.zd hv.2 (fun _ h => by cases h) k hk).1), fun _ h => by cases h⟩
  | .p (some d) x, v, hv => by
    simp only [AV.kill]
    split
    · simp [AVR]
    · rename_i hne
      simp only [AVR] at hv ⊢
      have hd := h.zd hv.2 (fun id hid => by cases hid; exact hne)
      refine ⟨hv.1.mono (fun k hk => (hd k hk).2) (fun k hk => (hd k hk).1), fun id hid => ?_⟩
      cases hid
      exact h.some hne (hv.2 d rfl)
  | .sl id lo len, v, hv => by
    simp only [AV.kill]
    split
    · simp [AVR]
    · rename_i hne
      simp only [AVR] at hv ⊢
      obtain ⟨sz, xs, h1, h2, h3⟩ := hv
      obtain ⟨xs', h4, h5, h6⟩ := h.r id sz xs hne h1
      exact ⟨sz, xs', h4, by omega, by rw [h6]; exact h3⟩
  | .ptr b off, v, hv => by
    simp only [AV.kill, AVR] at hv ⊢
    obtain ⟨h1, h2⟩ := h.b b hv.1
    exact ⟨h1, by rw [h2]; exact hv.2⟩
  | .ea id j off, v, hv => by
    simp only [AV.kill]
    split
    · simp [AVR]
    · rename_i hne
      simp only [AVR] at hv ⊢
      obtain ⟨sz, xs, k, n, c, h1, h2, h3, h4⟩ := hv
      obtain ⟨xs', h5, h6, h7⟩ := h.r id sz xs hne h1
      exact ⟨sz, xs', k, n, c, h5, by omega, by rw [h7]; exact h3, h4⟩
  | .fea none ps, v, hv => by
    simp only [AV.kill, AVR] at hv ⊢
    obtain ⟨⟨k, off, h1, h2, h3⟩, h4⟩ := hv
    have hd := h.zd h4 (fun _ h => by cases h)
    refine ⟨⟨k, off, h1, (hd k h2).1, fun j p hp => ?_⟩, fun _ h => by cases h⟩
    obtain ⟨u, hu, hr⟩ := h3 j p hp
    exact ⟨u, (cell_same (hd k h2).2).trans hu, hr.mono (fun k hk => (hd k hk).2) (fun k hk => (hd k hk).1)⟩
  | .fea (some d) ps, v, hv => by
    simp only [AV.kill]
    split
    · simp [AVR]
    · rename_i hne
      simp only [AVR] at hv ⊢
      obtain ⟨⟨k, off, h1, h2, h3⟩, h4⟩ := hv
      have hd := h.zd h4 (fun id hid => by cases hid; exact hne)
      refine ⟨⟨k, off, h1, (hd k h2).1, fun j p hp => ?_⟩, fun id hid => ?_⟩
      · obtain ⟨u, hu, hr⟩ := h3 j p hp
        exact ⟨u, (cell_same (hd k h2).2).trans hu, hr.mono (fun k hk => (hd k hk).2) (fun k hk => (hd k hk).1)⟩
      · cases hid
        exact h.some hne (h4 d rfl)
  | .nils, v, hv => by simpa only [AV.kill, AVR] using hv
  | .sat A, v, hv => by simpa only [AV.kill, AVR] using hv
  | .clo f bs, v, hv => by
    simp only [AV.kill, AVR] at hv ⊢
    refine ⟨fun x hx => (h.b x (hv.1 x hx)).1, hv.2.trans ?_⟩
    have : (bs.map fun b => Value.pointer (some ⟨L.β b, 0, none⟩)) = bs.map fun b => Value.pointer (some ⟨L'.β b, 0, none⟩) := List.map_congr_left fun x hx => by rw [(h.b x (hv.1 x hx)).2]
    rw [this]
  | .agg cs, v, hv => by
    simp only [AV.kill, AVR] at hv ⊢
    obtain ⟨us, h1, h2⟩ := hv
    exact ⟨us, h1, AVRs.move h cs us h2⟩
  | .tup cs, v, hv => by
    simp only [AV.kill, AVR] at hv ⊢
    obtain ⟨us, h1, h2⟩ := hv
    exact ⟨us, h1, AVRs.move h cs us h2⟩
theorem AVRs.move {K : List Nat} {L L' : Pl} {w w' : World} {s s' : St} (h : Moves K L L' w w' s s') : ∀ (aL : List AV) (us : List Value), AVRs L w s aL us → AVRs L' w' s' (AV.kills K aL) us
  | [], [], _ => by simp [AV.kills, AVRs]
  | [], _ :: _, hv => by simp [AVRs] at hv
  | _ :: _, [], hv => by simp [AVRs] at hv
  | a :: aL, u :: us, hv => by
    simp only [AV.kills, AVRs] at hv ⊢
    exact ⟨AVR.move h a u hv.1, AVRs.move h aL us hv.2⟩
end

theorem AVRs.length {L : Pl} {w : World} {s : St} : ∀ {aL : List AV} {us : List Value}, AVRs L w s aL us → aL.length = us.length
  | [], [], _ => rfl
  | [], _ :: _, hv => by simp [AVRs] at hv
  | _ :: _, [], hv => by simp [AVRs] at hv
  | _ :: _, _ :: _, hv => by simp only [AVRs] at hv; simp [AVRs.length hv.2]
theorem AVRs.get {L : Pl} {w : World} {s : St} : ∀ {aL : List AV} {us : List Value}, AVRs L w s aL us → ∀ (j : Nat) (a : AV), aL[j]? = some a → ∃ u, us[j]? = some u ∧ AVR L w s a u
  | [], _, _, j, a, h => by simp at h
  | _ :: _, [], hv, _, _, _ => by simp [AVRs] at hv
  | x :: aL, u :: us, hv, j, a, h => by
    simp only [AVRs] at hv
    cases j with
    | zero => simp at h; subst h; exact ⟨u, rfl, hv.1⟩
    | succ j => simp at h; simpa using AVRs.get hv.2 j a h
theorem AVRs.mk {L : Pl} {w : World} {s : St} : ∀ {aL : List AV} {us : List Value}, aL.length = us.length → (∀ (j : Nat) a u, aL[j]? = some a → us[j]? = some u → AVR L w s a u) → AVRs L w s aL us
  | [], [], _, _ => by simp [AVRs]
  | [], _ :: _, h, _ => by simp at h
  | _ :: _, [], h, _ => by simp at h
  | a :: aL, u :: us, h, hp => by
    simp only [AVRs]
    exact ⟨hp 0 a u rfl rfl, AVRs.mk (by simpa using h) (fun j a u h1 h2 => hp (j + 1) a u (by simpa using h1) (by simpa using h2))⟩

def upd {α : Type} (f : Nat → α) (i : Nat) (x : α) : Nat → α := fun j => match Nat.beq j i with
  | true => x
  | false => f j
@[simp] theorem upd_self {α : Type} (f : Nat → α) (i : Nat) (x : α) : upd f i x i = x := by simp [upd]
theorem upd_ne {α : Type} (f : Nat → α) {i j : Nat} (x : α) (h : j ≠ i) : upd f i x j = f j := by
  have : Nat.beq j i = false := by
    cases e : Nat.beq j i with
    | false => rfl
    | true => exact absurd (Nat.eq_of_beq_eq_true e) h
  simp only [upd, this]

def St.put (s : St) (d : Option Tmp) (v : AV) : St := match d with
  | some d => { s with t := upd s.t d v }
  | none => s
def St.setB (s : St) (i : Nat) (cs : List AV) : St := { s with b := upd s.b i (some cs) }
def St.setR (s : St) (i sz : Nat) (xs : List (List PV)) : St := { s with r := upd s.r i (some (sz, xs)) }
/-- Whatever leads to the rows K is forgotten, and they. -/
def St.kill (s : St) (K : List Nat) : St := { t := fun j => (s.t j).kill K, b := fun j => (s.b j).map (AV.kills K), r := fun j => if j ∈ K then none else s.r j }

@[simp] theorem St.put_b (s : St) (d v) : (s.put d v).b = s.b := by cases d <;> rfl
@[simp] theorem St.put_r (s : St) (d v) : (s.put d v).r = s.r := by cases d <;> rfl

/-- What a function is handed: blocks of its own, and where the rows and variables with numbers from 'pinT' on lie. -/
structure Fr where
  I : List Nat
  ρ : Nat → Value
  β : Nat → Nat
  Z : Nat → Prop
  df : List Deferred
def pinT : Nat := 100000
/-- A block of cells. -/
def Cl (w : World) (k : Nat) : Prop := ∃ cur ty z, w.heap[k]? = some (.cells cur ty z)
theorem Cl.of {w w' : World} {k : Nat} (h : Cl w k) (e : w'.heap[k]? = w.heap[k]?) : Cl w' k := by
  obtain ⟨c, t, z, h⟩ := h
  exact ⟨c, t, z, e.trans h⟩
theorem PVO.cl {Z : Nat → Prop} {w : World} {p : PV} {v : Value} {N : List Nat} (h : PVO Z w p v N) : ∀ k ∈ N, Cl w k := by
  induction h with
  | v | fro | clo | nil => intro k hk; cases hk
  | own sz xs k c cur ty hlen hk hsz hc hm u n hcell hp ih =>
    intro k' hk'
    rcases List.mem_cons.1 hk' with rfl | hk'
    · exact ⟨_, _, _, hk⟩
    · obtain ⟨j, hj, hm⟩ := List.mem_flatMap.1 hk'
      have hlt := List.mem_range.1 hj
      exact ih j _ (List.getElem?_eq_getElem hlt) k' hm
/-- The relation. -/
structure Rel (w0 : World) (I : Fr) (n : Nat) (L : Pl) (s : St) (a : Act) (w : World) : Prop where
  same : Same I.I w0 w
  zlt : ∀ k, L.Z k → k < w.heap.size ∧ L.lab k = none
  llt : ∀ k l, L.lab k = some l → k < w.heap.size ∧ (w0.heap.size ≤ k ∨ k ∈ I.I)
  sz : a.tmps.size = n
  df : a.defers = I.df
  tm : ∀ i, AVR L w s (s.t i) (a.tmps.getD i undef)
  bx : ∀ i cs, s.b i = some cs → L.lab (L.β i) = some (.box i) ∧ ∃ us ty, w.heap[L.β i]? = some (.cells ⟨us⟩ ty (0, 0)) ∧ AVRs L w s cs us ∧ ∀ u ∈ us, u.oneCell' = true
  rw : ∀ i sz xs, s.r i = some (sz, xs) → PVO L.Z w (.sl true sz xs) (L.ρ i) (L.ν i) ∧ (L.ν i).Nodup ∧ ∀ k ∈ L.ν i, L.lab k = some (.row i)
  pr : ∀ i, pinT ≤ i → (s.r i).isSome → L.ρ i = I.ρ i
  pb : ∀ i, pinT ≤ i → (s.b i).isSome → L.β i = I.β i
  zi : ∀ k, L.Z k → I.Z k ∨ ((w0.heap.size ≤ k ∨ k ∈ I.I) ∧ Cl w k)

theorem moves_put (L : Pl) (w : World) (s : St) (d v) : Moves [] L L w w s (s.put d v) where
  z k hk := ⟨hk, rfl⟩
  n _ k _ _ hk := ⟨.inr hk, rfl⟩
  b b hb := ⟨by simpa using hb, rfl⟩
  r id sz xs _ h := ⟨xs, by simpa using h, rfl, rfl⟩
theorem AVR.move0 {L L' : Pl} {w w' : World} {s s' : St} (h : Moves [] L L' w w' s s') {av : AV} {v : Value} (hv : AVR L w s av v) : AVR L' w' s' av v := by
  have := AVR.move h av v hv
  rwa [AV.kill_nil] at this
theorem AVRs.move0 {L L' : Pl} {w w' : World} {s s' : St} (h : Moves [] L L' w w' s s') {aL : List AV} {us : List Value} (hv : AVRs L w s aL us) : AVRs L' w' s' aL us := by
  have := AVRs.move h aL us hv
  rwa [AV.kills_nil] at this

theorem getD_put {a : Act} {d : Option Tmp} {v : Value} (i : Nat) (hd : ∀ x, d = some x → x < a.tmps.size) : (a.put d v).tmps.getD i undef = if d = some i then v else a.tmps.getD i undef := by
  cases d with
  | none => simp [Act.put]
  | some d =>
    have hlt := hd d rfl
    simp only [Act.put, Option.some.injEq]
    by_cases h : d = i
    · subst h
      simp [hlt]
    · simp [h, Array.getElem?_setIfInBounds_ne h]

theorem Rel.put {w0 : World} {I : Fr} {n : Nat} {L : Pl} {s : St} {a : Act} {w : World} (h : Rel w0 I n L s a w) {d : Option Tmp} (hd : ∀ x, d = some x → x < n) {av : AV} {v : Value} (hv : AVR L w s av v) :
    Rel w0 I n L (s.put d av) (a.put d v) w where
  same := h.same
  zlt := h.zlt
  llt := h.llt
  sz := by cases d <;> simp [Act.put, h.sz]
  df := by cases d <;> simp [Act.put, h.df]
  tm i := by
    rw [getD_put i (fun x hx => by rw [h.sz]; exact hd x hx)]
    by_cases hi : d = some i
    · subst hi
      simp only [if_true, St.put, upd_self]
      exact hv.move0 (moves_put L w s (some i) av)
    · rw [if_neg hi]
      have : (s.put d av).t i = s.t i := by
        cases d with
        | none => rfl
        | some d => exact upd_ne _ _ (fun e => hi (by rw [e]))
      rw [this]
      exact (h.tm i).move0 (moves_put L w s d av)
  bx i cs hc := by
    rw [St.put_b] at hc
    obtain ⟨h1, us, ty, h2, h3, h4⟩ := h.bx i cs hc
    exact ⟨h1, us, ty, h2, h3.move0 (moves_put L w s d av), h4⟩
  rw i sz xs hr := by
    rw [St.put_r] at hr
    exact h.rw i sz xs hr
  pr i hi hs := h.pr i hi (by rwa [St.put_r] at hs)
  pb i hi hs := h.pb i hi (by rwa [St.put_b] at hs)
  zi := h.zi

end Go.Rl
namespace Go.Rl
open Go.RowKit

def cst1 : Value → AV
  | .slice none 0 0 => .nils
  | v => if v.oneCell' then .p none (.v v) else .undef
def cst : Value → AV
  | .agg us => .agg (us.toList.map cst1)
  | v => cst1 v
def St.ev (s : St) : Operand → AV
  | .tmp t => s.t t
  | .const v => cst v
  | .func f => .p none (.clo f [])
  | .global _ => .undef

theorem avr_cst1 (L : Pl) (w : World) (s : St) (v : Value) : AVR L w s (cst1 v) v := by
  unfold cst1
  split
  · simp only [AVR]
    exact ⟨none, rfl⟩
  · split
    · rename_i h
      simp only [AVR]
      exact ⟨.v _ h, fun _ h => by cases h⟩
    · simp [AVR]
theorem avr_cst (L : Pl) (w : World) (s : St) (v : Value) : AVR L w s (cst v) v := by
  unfold cst
  split
  · rename_i us
    simp only [AVR]
    refine ⟨us.toList, rfl, ?_⟩
    generalize us.toList = l
    induction l with
    | nil => simp [AVRs]
    | cons u l ih => simp only [List.map_cons, AVRs]; exact ⟨avr_cst1 L w s u, ih⟩
  · exact avr_cst1 L w s _

section
variable {w0 : World} {I : Fr} {n : Nat} {L : Pl} {s : St} {a : Act} {w : World}
theorem Rel.ev (h : Rel w0 I n L s a w) (x : Operand) : AVR L w s (s.ev x) (a.eval x) := by
  cases x with
  | tmp t => exact h.tm t
  | const v => exact avr_cst L w s v
  | func f => simp only [St.ev, Act.eval, AVR]; exact ⟨.clo f [] [] rfl (by simp) (fun _ _ => undef) (by simp) (by simp), fun _ h => by cases h⟩
  | global g => simp [St.ev, AVR]
theorem Rel.evv (h : Rel w0 I n L s a w) {x : Operand} {d : Option Nat} {v : Value} (hx : s.ev x = .p d (.v v)) : a.eval x = v := by
  have := h.ev x
  rw [hx] at this
  simp only [AVR] at this
  cases this.1
  rfl
end

mutual
/-- The rows that an abstract value leads to. -/
def AV.rows : AV → List Nat
  | .undef => []
  | .p d _ => d.toList
  | .sl id _ _ => [id]
  | .ptr _ _ => []
  | .ea id _ _ => [id]
  | .fea d _ => d.toList
  | .nils => []
  | .sat _ => []
  | .clo _ _ => []
  | .agg cs => AV.rowss cs
  | .tup cs => AV.rowss cs
def AV.rowss : List AV → List Nat
  | [] => []
  | a :: aL => AV.rows a ++ AV.rowss aL
end
mutual
/-- The variables in memory that it leads to. -/
def AV.bxs : AV → List Nat
  | .ptr b _ => [b]
  | .clo _ bs => bs
  | .agg cs => AV.bxss cs
  | .tup cs => AV.bxss cs
  | _ => []
def AV.bxss : List AV → List Nat
  | [] => []
  | a :: aL => AV.bxs a ++ AV.bxss aL
end

/-- What an operation leaves: what it puts into its temporary, rows that are forgotten, rows and variables that are set. -/
structure Dl where
  put : AV := .undef
  kill : List Nat := []
  setR : List (Nat × Nat × List (List PV)) := []
  setB : List (Nat × List AV) := []
def setRs (r : Nat → Option (Nat × List (List PV))) : List (Nat × Nat × List (List PV)) → Nat → Option (Nat × List (List PV))
  | [] => r
  | x :: l => setRs (upd r x.1 (some x.2)) l
def setBs (b : Nat → Option (List AV)) : List (Nat × List AV) → Nat → Option (List AV)
  | [] => b
  | x :: l => setBs (upd b x.1 (some x.2)) l
def St.killd (s : St) : List Nat → St
  | [] => s
  | k :: K => s.kill (k :: K)
theorem St.killd_eq (s : St) (K : List Nat) : s.killd K = s.kill K := by
  cases K with
  | cons k K => rfl
  | nil =>
    simp only [St.killd, St.kill]
    cases s
    simp only [List.not_mem_nil, if_false, St.mk.injEq, and_true]
    refine ⟨funext fun j => (AV.kill_nil _).symm, funext fun j => ?_⟩
    rename_i b _
    cases b j <;> simp [AV.kills_nil]
def Dl.app (δ : Dl) (d : Option Tmp) (s : St) : St :=
  St.put { t := (s.killd δ.kill).t, b := setBs (s.killd δ.kill).b δ.setB, r := setRs (s.killd δ.kill).r δ.setR } d δ.put

/-- The operands that an operation asks, its guard's temporary not among them. -/
def Oper.asked (o : Oper) : List Operand := o.op.operands.toList
/-- Whether it asks for a word alone, and not for what lies behind it. -/
def lightO : Op → Bool
  | .move _ => true
  | .assign _ => true
  | _ => false
/-- What an operation asks stands in s' as in s. M: the rows, B: the variables, that it asks besides. -/
structure Ag (o : Oper) (M B : List Nat) (s s' : St) : Prop where
  ev : ∀ x, x ∈ Oper.asked o → s'.ev x = s.ev x
  r : ∀ x, x ∈ Oper.asked o → lightO o.op = false → ∀ id, id ∈ (s.ev x).rows → s'.r id = s.r id
  b : ∀ x, x ∈ Oper.asked o → lightO o.op = false → ∀ i, i ∈ (s.ev x).bxs → s'.b i = s.b i
  m : ∀ id, id ∈ M → s'.r id = s.r id
  n : ∀ i, i ∈ B → s'.b i = s.b i

/-- What is known of one block of memory that nobody writes. -/
abbrev Gho := Option (Nat × Obj)
def Gh (γ : Gho) (w : World) (B : List Nat) : Prop := ∀ k o, γ = some (k, o) → w.heap[k]? = some o ∧ k ∉ B
/-- One operation: whatever stands as s tells comes to stand as s' tells. -/
def StepOk (γ : Gho) (P : Program) (n : Nat) (o : Oper) (s s' : St) : Prop :=
  (∀ x, o.dst = some x → x < n) → ∀ w0 I L a w, Gh γ w0 I.I → Rel w0 I n L s a w → ∀ (K : Act → World → Prop) (Q : Exit → Act → World → Prop), (∀ L' v w', Rel w0 I n L' s' (a.put o.dst v) w' → K (a.put o.dst v) w') → o.wp P a w K Q
/-- The same wherever what it asks stands so. -/
def StepD (γ : Gho) (P : Program) (n : Nat) (o : Oper) (M B : List Nat) (s : St) (δ : Dl) : Prop := ∀ s', Ag o M B s s' → StepOk γ P n o s' (δ.app o.dst s')

theorem app_put (d : Option Tmp) (s : St) (av : AV) : ({ put := av } : Dl).app d s = s.put d av := rfl

section
variable {γ : Gho} {P : Program} {n : Nat} {o : Oper} {M B : List Nat} {s : St}
theorem stepD_pure {av : AV} (h : ∀ s', Ag o M B s s' → ∀ w0 I L a w, Rel w0 I n L s' a w → ∃ v, (execOp a.eval o).run P w = .ok (.value v) w ∧ AVR L w s' av v) : StepD γ P n o M B s { put := av } := by
  intro s' ag hd w0 I L a w hG hr K Q hK
  obtain ⟨v, hv, ha⟩ := h s' ag w0 I L a w hr
  unfold Oper.wp
  rw [hv, app_put] at *
  exact hK L v w (hr.put hd ha)
theorem Ag.ev1 {s' : St} (ag : Ag o M B s s') {op : Op} (ho : o.op = op) {x : Operand} (hx : x ∈ op.operands.toList) : s'.ev x = s.ev x := ag.ev x (by unfold Oper.asked; rw [ho]; exact hx)
theorem Ag.r1 {s' : St} (ag : Ag o M B s s') {op : Op} (ho : o.op = op) {x : Operand} (hx : x ∈ op.operands.toList) {av : AV} (he : s.ev x = av) {id : Nat} (hid : id ∈ av.rows) (hl : lightO op = false := by rfl) : s'.r id = s.r id := ag.r x (by unfold Oper.asked; rw [ho]; exact hx) (by rw [ho]; exact hl) id (by rw [he]; exact hid)
theorem Ag.b1 {s' : St} (ag : Ag o M B s s') {op : Op} (ho : o.op = op) {x : Operand} (hx : x ∈ op.operands.toList) {av : AV} (he : s.ev x = av) {i : Nat} (hi : i ∈ av.bxs) (hl : lightO op = false := by rfl) : s'.b i = s.b i := ag.b x (by unfold Oper.asked; rw [ho]; exact hx) (by rw [ho]; exact hl) i (by rw [he]; exact hi)

theorem st_move {x : Operand} (ho : o.op = .move x) : StepD γ P n o M B s { put := s.ev x } :=
  stepD_pure fun s' ag w0 I L a w hr => ⟨a.eval x, by simp [execOp, ho], by rw [← ag.ev1 ho (by simp [Op.operands])]; exact hr.ev x⟩
theorem st_assign {x : Operand} (ho : o.op = .assign x) : StepD γ P n o M B s { put := s.ev x } :=
  stepD_pure fun s' ag w0 I L a w hr => ⟨a.eval x, by simp [execOp, ho], by rw [← ag.ev1 ho (by simp [Op.operands])]; exact hr.ev x⟩
theorem st_pick {c x y : Operand} (ho : o.op = .pick c x y) {d : Option Nat} {t : Bool} (hc : s.ev c = .p d (.v (.bool t))) : StepD γ P n o M B s { put := if t then s.ev x else s.ev y } :=
  stepD_pure fun s' ag w0 I L a w hr => by
    have h := hr.evv ((ag.ev1 ho (by simp [Op.operands])).trans hc)
    cases t
    · exact ⟨a.eval y, by simp [execOp, ho, h, asBool], by simp only [Bool.false_eq_true, if_false]; rw [← ag.ev1 ho (by simp [Op.operands])]; exact hr.ev y⟩
    · exact ⟨a.eval x, by simp [execOp, ho, h, asBool], by simp only [if_true]; rw [← ag.ev1 ho (by simp [Op.operands])]; exact hr.ev x⟩
theorem avr_flat (L : Pl) (w : World) (s : St) {v : Value} (h : v.oneCell' = true) : AVR L w s (.p none (.v v)) v := by
  simp only [AVR]
  exact ⟨.v _ h, fun _ h => by cases h⟩
theorem st_bin {op : BinOp} {xt yt : TypeId} {x y : Operand} (ho : o.op = .binOp op xt x y yt) {d d' : Option Nat} {vx vy v : Value} (hx : s.ev x = .p d (.v vx)) (hy : s.ev y = .p d' (.v vy)) (h1 : v.oneCell' = true)
    (hg : ∀ x y w, (eqGuard op xt x y vx vy).run P w = .ok () w) (hv : ∀ w, (binOp op xt vx vy).run P w = .ok v w) : StepD γ P n o M B s { put := .p none (.v v) } :=
  stepD_pure fun s' ag w0 I L a w hr => ⟨v, by simp [execOp, ho, hr.evv ((ag.ev1 ho (by simp [Op.operands])).trans hx), hr.evv ((ag.ev1 ho (by simp [Op.operands])).trans hy), hg, hv], avr_flat L w s' h1⟩
theorem eqGuard_flat (op : BinOp) (t : TypeId) (x y : Operand) (a b : Value) (h : (∀ c, a ≠ .agg c) ∧ a ≠ .nilIface) (w : World) : (eqGuard op t x y a b).run P w = .ok () w := by
  unfold eqGuard
  cases op <;> cases a <;> first | rfl | (exfalso; exact h.1 _ rfl) | (exfalso; exact h.2 rfl)
section ints
variable {xt yt : TypeId} {x y : Operand} {d d' : Option Nat} {k k' : IntKind} {a b : Int}
theorem st_add (ho : o.op = .binOp .add xt x y yt) (hx : s.ev x = .p d (.v (.int k a))) (hy : s.ev y = .p d' (.v (.int k b))) : StepD γ P n o M B s { put := (.p none (.v (.int k (k.wrap (a + b))))) } :=
  st_bin ho hx hy rfl (fun _ _ w => eqGuard_flat _ _ _ _ _ _ (by simp) w) (fun w => by simp [binOp, Op.intArith])
theorem st_quo (ho : o.op = .binOp .quo xt x y yt) (hx : s.ev x = .p d (.v (.int k a))) (hy : s.ev y = .p d' (.v (.int k b))) (hb : b ≠ 0) : StepD γ P n o M B s { put := (.p none (.v (.int k (k.wrap (a.tdiv b))))) } :=
  st_bin ho hx hy rfl (fun _ _ w => eqGuard_flat _ _ _ _ _ _ (by simp) w) (fun w => by simp [binOp, Op.intDiv, hb])
theorem st_rem (ho : o.op = .binOp .rem xt x y yt) (hx : s.ev x = .p d (.v (.int k a))) (hy : s.ev y = .p d' (.v (.int k b))) (hb : b ≠ 0) : StepD γ P n o M B s { put := (.p none (.v (.int k (a.tmod b)))) } :=
  st_bin ho hx hy rfl (fun _ _ w => eqGuard_flat _ _ _ _ _ _ (by simp) w) (fun w => by simp [binOp, Op.intDiv, hb])
def bitsOf (op : BinOp) (k : IntKind) (a b : Int) : Int :=
  let x := BitVec.ofInt k.bits a
  let y := BitVec.ofInt k.bits b
  k.wrap (match op with
    | .and => x &&& y
    | .or => x ||| y
    | .xor => x ^^^ y
    | _ => x &&& ~~~y).toNat
theorem st_lss (ho : o.op = .binOp .lss xt x y yt) (hx : s.ev x = .p d (.v (.int k a))) (hy : s.ev y = .p d' (.v (.int k b))) : StepD γ P n o M B s { put := (.p none (.v (.bool (decide (a < b))))) } :=
  st_bin ho hx hy rfl (fun _ _ w => eqGuard_flat _ _ _ _ _ _ (by simp) w) (fun w => by simp [binOp, Op.intCmp])
theorem st_leq (ho : o.op = .binOp .leq xt x y yt) (hx : s.ev x = .p d (.v (.int k a))) (hy : s.ev y = .p d' (.v (.int k b))) : StepD γ P n o M B s { put := (.p none (.v (.bool (decide (a ≤ b))))) } :=
  st_bin ho hx hy rfl (fun _ _ w => eqGuard_flat _ _ _ _ _ _ (by simp) w) (fun w => by simp [binOp, Op.intCmp])
theorem st_gtr (ho : o.op = .binOp .gtr xt x y yt) (hx : s.ev x = .p d (.v (.int k a))) (hy : s.ev y = .p d' (.v (.int k b))) : StepD γ P n o M B s { put := (.p none (.v (.bool (decide (b < a))))) } :=
  st_bin ho hx hy rfl (fun _ _ w => eqGuard_flat _ _ _ _ _ _ (by simp) w) (fun w => by simp [binOp, Op.intCmp])
theorem st_geq (ho : o.op = .binOp .geq xt x y yt) (hx : s.ev x = .p d (.v (.int k a))) (hy : s.ev y = .p d' (.v (.int k b))) : StepD γ P n o M B s { put := (.p none (.v (.bool (decide (b ≤ a))))) } :=
  st_bin ho hx hy rfl (fun _ _ w => eqGuard_flat _ _ _ _ _ _ (by simp) w) (fun w => by simp [binOp, Op.intCmp])
end ints
section strs
variable {xt yt : TypeId} {x y : Operand} {d d' : Option Nat} {a b : ByteArray}
theorem st_sadd (ho : o.op = .binOp .add xt x y yt) (hx : s.ev x = .p d (.v (.string a))) (hy : s.ev y = .p d' (.v (.string b))) (hb : a.size + b.size ≤ 9223372036854775807) : StepD γ P n o M B s { put := (.p none (.v (.string (a ++ b)))) } :=
  st_bin ho hx hy rfl (fun _ _ w => eqGuard_flat _ _ _ _ _ _ (by simp) w) (fun w => by
    have h : ¬ (IntKind.i64.max < ((a.size + b.size : Nat) : Int)) := by simp only [IntKind.max]; simp [IntKind.signed, IntKind.bits]; omega
    simp [binOp, Op.stringOp]; simpa using h)
end strs
end
end Go.Rl
namespace Go.Rl
open Go.RowKit

theorem cell_blk {w : World} {k o : Nat} {us : List Value} {ty : TypeId} {fr : Nat × Nat} (h : w.heap[k]? = some (.cells ⟨us⟩ ty fr)) : w.cell? ⟨k, o, none⟩ = us[o]? := by
  simp [World.cell?, h]
theorem AVRs.sub {L : Pl} {w : World} {s : St} {aL : List AV} {us : List Value} (h : AVRs L w s aL us) (o sz : Nat) : AVRs L w s ((aL.drop o).take sz) ((us.drop o).take sz) := by
  have hl := h.length
  refine AVRs.mk (by simp [hl]) (fun j a u h1 h2 => ?_)
  rw [List.getElem?_take] at h1 h2
  split at h1
  · rename_i hj
    rw [if_pos hj] at h2
    rw [List.getElem?_drop] at h1 h2
    obtain ⟨u', hu, hr⟩ := h.get _ _ h1
    rw [h2] at hu
    cases hu
    exact hr
  · cases h1
theorem Addr.add0 (k o n : Nat) : Addr.add ⟨k, o, none⟩ n = ⟨k, o + n, none⟩ := Addr.add_lit k o n
theorem run_loadVar_agg {P : Program} {t : TypeId} {sz : Nat} (hag : ∀ w, (isAgg t).run P w = .ok true w) (hsz : ∀ w, (sizeOf t).run P w = .ok sz w) {w : World} {k o : Nat} {us : List Value} (hl : us.length = sz) (h : ∀ (j : Nat) u, us[j]? = some u → w.cell? ⟨k, o + j, none⟩ = some u) :
    (loadVar t ⟨k, o, none⟩).run P w = .ok (.agg ⟨us⟩) w := by
  subst hl
  have h2 := run_loadCells_list (P := P) w ⟨k, o, none⟩ us (fun j v hv => by rw [Addr.add0]; exact h j v hv)
  simp [loadVar, hag, hsz, h2]
theorem run_loadVar_one {P : Program} {t : TypeId} (hag : ∀ w, (isAgg t).run P w = .ok false w) {w : World} {k o : Nat} {u : Value} (h : w.cell? ⟨k, o, none⟩ = some u) : (loadVar t ⟨k, o, none⟩).run P w = .ok u w := by
  simp [loadVar, hag, h]

section
variable {w0 : World} {I : Fr} {n : Nat} {L : Pl} {s : St} {a : Act} {w : World}
theorem Rel.box (h : Rel w0 I n L s a w) {i : Nat} {cs : List AV} (hb : s.b i = some cs) : ∃ us, AVRs L w s cs us ∧ ∀ (j : Nat) u, us[j]? = some u → w.cell? ⟨L.β i, j, none⟩ = some u := by
  obtain ⟨_, us, ty, h2, h3, _⟩ := h.bx i cs hb
  exact ⟨us, h3, fun j u hu => by rw [cell_blk h2]; exact hu⟩
/-- A row's cells. -/
theorem Rel.row (h : Rel w0 I n L s a w) {i sz : Nat} {xs : List (List PV)} (hr : s.r i = some (sz, xs)) : ((∃ A, L.ρ i = .slice A 0 0) ∧ xs = []) ∨
    ∃ k c, L.ρ i = .slice (some ⟨k, 0, none⟩) xs.length c ∧ (∀ es ∈ xs, es.length = sz) ∧ ∃ u : Nat → Value, (∀ j, j < xs.flatten.length → w.cell? ⟨k, j, none⟩ = some (u j)) ∧ ∀ j p, xs.flatten[j]? = some p → PVR (L.zd (some i)) w p (u j) := by
  obtain ⟨h1, h2, h3⟩ := h.rw i sz xs hr
  generalize hv : L.ρ i = v at h1
  generalize hn : L.ν i = N at h1
  cases h1 with
  | nil _ A => exact .inl ⟨⟨A, rfl⟩, rfl⟩
  | own _ _ k c cur ty hlen hk hsz hc hm u m hcell hp =>
    refine .inr ⟨k, c, rfl, hlen, u, fun j hj => ?_, fun j p hj => (hp j p hj).toR.mono (fun _ _ => rfl) (fun x hx => ?_)⟩
    · simp only [World.cell?, hk]
      simpa using hcell j hj
    · rcases hx with hx | hx
      · exact .inl hx
      · refine .inr ⟨i, rfl, ?_⟩
        rw [hn]
        simp only [List.tail_cons, List.mem_flatMap, List.mem_range]
        exact ⟨j, (List.getElem?_eq_some_iff.1 hj).1, hx⟩
end

/-- A cell that is read out of a row (d), or of what is frozen (none). -/
def PV.brw (d : Option Nat) : PV → AV
  | .v u => .p none (.v u)
  | .sl _ sz xs => .p d (.sl false sz xs)
  | .clo f xs => .p d (.clo f xs)
theorem PVR.flag {Z : Nat → Prop} {w : World} {o : Bool} {sz : Nat} {xs : List (List PV)} {v : Value} (h : PVR Z w (.sl o sz xs) v) (o' : Bool) : PVR Z w (.sl o' sz xs) v := by
  cases h with
  | emp _ _ A c => exact .emp _ _ _ _
  | sl _ _ _ k off c hlen hc hz u hcell hp => exact .sl _ _ _ k off c hlen hc hz u hcell hp
section
variable {γ : Gho} {P : Program} {n : Nat} {o : Oper} {M B : List Nat} {s : St}
/-! #### loads -/
theorem flat_get {xs : List (List PV)} {sz : Nat} (hl : ∀ es ∈ xs, es.length = sz) {i j : Nat} {es : List PV} (hi : xs[i]? = some es) (hj : j < sz) : xs.flatten[i * sz + j]? = es[j]? := by
  induction xs generalizing i with
  | nil => simp at hi
  | cons e xs ih =>
    have he := hl e (by simp)
    cases i with
    | zero => simp at hi; subst hi; simp [List.getElem?_append_left (show j < e.length by omega)]
    | succ i =>
      simp at hi
      rw [List.flatten_cons, List.getElem?_append_right (by rw [he, Nat.succ_mul]; omega)]
      rw [show (i + 1) * sz + j - e.length = i * sz + j by rw [he, Nat.succ_mul]; omega]
      exact ih (fun es h => hl es (by simp [h])) hi
theorem flat_len {xs : List (List PV)} {sz : Nat} (hl : ∀ es ∈ xs, es.length = sz) : xs.flatten.length = xs.length * sz := by
  induction xs with
  | nil => simp
  | cons e xs ih => rw [List.flatten_cons, List.length_append, ih (fun es h => hl es (by simp [h])), hl e (by simp), List.length_cons, Nat.succ_mul]; omega
theorem flat_lt {xs : List (List PV)} {sz i j : Nat} (hl : ∀ es ∈ xs, es.length = sz) (hi : i < xs.length) (hj : j < sz) : i * sz + j < xs.flatten.length := by
  rw [flat_len hl]
  have : (i + 1) * sz ≤ xs.length * sz := Nat.mul_le_mul_right _ hi
  rw [Nat.succ_mul] at this
  omega
/-- An element's cells, out of a row. -/
theorem Rel.elem {w0 : World} {I : Fr} {L : Pl} {a : Act} {w : World} (h : Rel w0 I n L s a w) {id sz i : Nat} {xs : List (List PV)} (hr : s.r id = some (sz, xs)) {es : List PV} (hi : xs[i]? = some es) :
    ∃ k c, L.ρ id = .slice (some ⟨k, 0, none⟩) xs.length c ∧ es.length = sz ∧ ∃ u : Nat → Value, (∀ j, j < sz → w.cell? ⟨k, i * sz + j, none⟩ = some (u j)) ∧ ∀ j p, es[j]? = some p → PVR (L.zd (some id)) w p (u j) := by
  rcases h.row hr with ⟨_, rfl⟩ | ⟨k, c, h1, h2, u, h3, h4⟩
  · simp at hi
  · have hil : i < xs.length := (List.getElem?_eq_some_iff.1 hi).1
    have hes : es.length = sz := h2 es (List.mem_of_getElem? hi)
    refine ⟨k, c, h1, hes, fun j => u (i * sz + j), fun j hj => h3 _ (flat_lt h2 hil hj), fun j p hp => h4 _ p ?_⟩
    have hj : j < sz := by rw [← hes]; exact (List.getElem?_eq_some_iff.1 hp).1
    rw [flat_get h2 hi hj]; exact hp
end
end Go.Rl
namespace Go.Rl
open Go.RowKit

/-- A cut's bound. -/
def bnd (s : St) (x : Option Operand) (dflt : Int) : Option Int := match x with
  | none => some dflt
  | some x => match s.ev x with
    | .p _ (.v (.int _ i)) => some i
    | _ => none
theorem flat_drop {sz : Nat} : ∀ {xs : List (List PV)} (_ : ∀ es ∈ xs, es.length = sz) (l : Nat), (xs.drop l).flatten = xs.flatten.drop (l * sz)
  | [], _, l => by simp
  | e :: xs, hl, 0 => by simp
  | e :: xs, hl, l + 1 => by
    have he := hl e (by simp)
    rw [List.drop_succ_cons, flat_drop (fun es h => hl es (by simp [h])) l, List.flatten_cons, Nat.succ_mul, Nat.add_comm, ← List.drop_drop, ← he, List.drop_left]
theorem flat_take {sz : Nat} : ∀ {xs : List (List PV)} (_ : ∀ es ∈ xs, es.length = sz) (l : Nat), (xs.take l).flatten = xs.flatten.take (l * sz)
  | [], _, l => by simp
  | e :: xs, hl, 0 => by simp
  | e :: xs, hl, l + 1 => by
    have he := hl e (by simp)
    have h2 : (e ++ xs.flatten).take (e.length + l * sz) = e ++ xs.flatten.take (l * sz) := by rw [List.take_append, List.take_of_length_le (by omega)]; congr 2; omega
    rw [List.take_succ_cons, List.flatten_cons, flat_take (fun es h => hl es (by simp [h])) l, List.flatten_cons, Nat.succ_mul, Nat.add_comm, ← h2, he]
theorem PVR.cut {Z : Nat → Prop} {w : World} {o : Bool} {sz : Nat} {xs : List (List PV)} {A : Option Addr} {n c : Nat} (h : PVR Z w (.sl o sz xs) (.slice A n c)) {l m : Nat} (hm : l + m ≤ n) (A' : Option Addr) (c' : Nat) (hc : m ≤ c') (hA : 0 < m → ∃ k off, A = some ⟨k, off, none⟩ ∧ A' = some ⟨k, off + l * sz, none⟩) :
    PVR Z w (.sl o sz ((xs.drop l).take m)) (.slice A' m c') := by
  rcases Nat.eq_zero_or_pos m with rfl | hpos
  · rw [List.take_zero]; exact .emp _ _ _ _
  · obtain ⟨k, off, rfl, rfl⟩ := hA hpos
    cases h with
    | emp _ _ _ _ => omega
    | sl _ _ _ _ _ _ hlen hcc hz u hcell hp =>
      have hlen' : ∀ es ∈ xs.drop l, es.length = sz := fun es h => hlen es (List.mem_of_mem_drop h)
      have hfl : ((xs.drop l).take m).flatten = (xs.flatten.drop (l * sz)).take (m * sz) := by rw [flat_take hlen', flat_drop hlen]
      have hsz : ((xs.drop l).take m).length = m := by rw [List.length_take, List.length_drop]; omega
      have := PVR.sl (Z := Z) (w := w) o sz ((xs.drop l).take m) k (off + l * sz) c' (fun es h => hlen' es (List.mem_of_mem_take h)) (by omega) hz (fun j => u (l * sz + j)) (fun j hj => by
        rw [Nat.add_assoc]
        refine hcell _ ?_
        rw [hfl, List.length_take, List.length_drop] at hj
        omega) (fun j p hj => by
        rw [hfl, List.getElem?_take] at hj
        split at hj
        · rw [List.getElem?_drop] at hj; exact hp _ _ hj
        · cases hj)
      rwa [hsz] at this

section
variable {γ : Gho} {P : Program} {n : Nat} {o : Oper} {M B : List Nat} {s : St}
section faddr
variable {t : TypeId} {x : Operand} {f : Nat} {fs : Array Field} {fld : Field} {sz : Nat}
end faddr
section idx
variable {t e : TypeId} {x y : Operand} {sz : Nat} {d' : Option Nat} {k : IntKind} {i : Int}
end idx
section len
variable {x : Operand} {t e : TypeId}
theorem st_len_str (ho : o.op = .call { callee := .builtin .len, args := #[x], argTypes := #[t] }) {d : Option Nat} {b : ByteArray} (hx : s.ev x = .p d (.v (.string b))) (hu : P.underlying t = some .string) : StepD γ P n o M B s { put := .p none (.v (.int .i64 b.size)) } :=
  stepD_pure fun s' ag w0 I L a w hrl => by
    have h := hrl.evv ((ag.ev1 ho (by simp [Op.operands, Call.operands])).trans hx)
    exact ⟨_, by simp [execOp, ho, resolve, invoke, builtin, Builtin.len_, h, run_underlying hu, goInt], avr_flat L w s' rfl⟩
end len
section parts
variable {t : TypeId} {x : Operand} {f : Nat} {fs : Array Field} {fld : Field}
end parts
end
end Go.Rl
namespace Go.Rl
open Go.RowKit

mutual
/-- Nothing in it has been forgotten. -/
def AV.full : AV → Bool
  | .undef => false
  | .agg cs => AV.fulls cs
  | .tup cs => AV.fulls cs
  | _ => true
def AV.fulls : List AV → Bool
  | [] => true
  | a :: aL => AV.full a && AV.fulls aL
end
mutual
theorem AV.kill_full (K : List Nat) : ∀ a : AV, (a.kill K).full = true → a.kill K = a
  | .undef, h => by simp [AV.kill]
  | .p none x, _ => rfl
  | .p (some d) x, h => by simp only [AV.kill] at h ⊢; split <;> simp_all [AV.full]
  | .sl id lo len, h => by simp only [AV.kill] at h ⊢; split <;> simp_all [AV.full]
  | .ptr b off, _ => rfl
  | .ea id j off, h => by simp only [AV.kill] at h ⊢; split <;> simp_all [AV.full]
  | .fea none ps, _ => rfl
  | .fea (some d) ps, h => by simp only [AV.kill] at h ⊢; split <;> simp_all [AV.full]
  | .nils, _ => rfl
  | .sat _, _ => rfl
  | .clo f bs, _ => rfl
  | .agg cs, h => by simp only [AV.kill, AV.full] at h ⊢; rw [AV.kills_full K cs h]
  | .tup cs, h => by simp only [AV.kill, AV.full] at h ⊢; rw [AV.kills_full K cs h]
theorem AV.kills_full (K : List Nat) : ∀ aL : List AV, AV.fulls (AV.kills K aL) = true → AV.kills K aL = aL
  | [], _ => rfl
  | a :: aL, h => by
    simp only [AV.kills, AV.fulls, Bool.and_eq_true] at h ⊢
    rw [AV.kill_full K a h.1, AV.kills_full K aL h.2]
end
mutual
theorem AV.kill_off (K : List Nat) : ∀ a : AV, (∀ id ∈ a.rows, id ∉ K) → a.kill K = a
  | .undef, _ => rfl
  | .p none x, _ => rfl
  | .p (some d) x, h => by simp only [AV.kill]; rw [if_neg (h d (by simp [AV.rows]))]
  | .sl id lo len, h => by simp only [AV.kill]; rw [if_neg (h id (by simp [AV.rows]))]
  | .ptr b off, _ => rfl
  | .ea id j off, h => by simp only [AV.kill]; rw [if_neg (h id (by simp [AV.rows]))]
  | .fea none ps, _ => rfl
  | .fea (some d) ps, h => by simp only [AV.kill]; rw [if_neg (h d (by simp [AV.rows]))]
  | .nils, _ => rfl
  | .sat _, _ => rfl
  | .clo f bs, _ => rfl
  | .agg cs, h => by simp only [AV.kill]; rw [AV.kills_off K cs (by simpa [AV.rows] using h)]
  | .tup cs, h => by simp only [AV.kill]; rw [AV.kills_off K cs (by simpa [AV.rows] using h)]
theorem AV.kills_off (K : List Nat) : ∀ aL : List AV, (∀ id ∈ AV.rowss aL, id ∉ K) → AV.kills K aL = aL
  | [], _ => rfl
  | a :: aL, h => by
    simp only [AV.rowss, List.mem_append] at h
    simp only [AV.kills]
    rw [AV.kill_off K a (fun id hi => h id (.inl hi)), AV.kills_off K aL (fun id hi => h id (.inr hi))]
end
mutual
theorem AV.kill_comm (K K' : List Nat) : ∀ a : AV, (a.kill K).kill K' = (a.kill K').kill K
  | .undef => rfl
  | .p none x => rfl
  | .p (some d) x => by simp only [AV.kill]; by_cases h : d ∈ K <;> by_cases h' : d ∈ K' <;> simp [h, h', AV.kill]
  | .sl id lo len => by simp only [AV.kill]; by_cases h : id ∈ K <;> by_cases h' : id ∈ K' <;> simp [h, h', AV.kill]
  | .ptr b off => rfl
  | .ea id j off => by simp only [AV.kill]; by_cases h : id ∈ K <;> by_cases h' : id ∈ K' <;> simp [h, h', AV.kill]
  | .fea none ps => rfl
  | .fea (some d) ps => by simp only [AV.kill]; by_cases h : d ∈ K <;> by_cases h' : d ∈ K' <;> simp [h, h', AV.kill]
  | .nils => rfl
  | .sat _ => rfl
  | .clo f bs => rfl
  | .agg cs => by simp only [AV.kill]; rw [AV.kills_comm K K' cs]
  | .tup cs => by simp only [AV.kill]; rw [AV.kills_comm K K' cs]
theorem AV.kills_comm (K K' : List Nat) : ∀ aL : List AV, AV.kills K' (AV.kills K aL) = AV.kills K (AV.kills K' aL)
  | [] => rfl
  | a :: aL => by simp only [AV.kills]; rw [AV.kill_comm K K' a, AV.kills_comm K K' aL]
end

theorem setRs_eq : ∀ (l : List (Nat × Nat × List (List PV))) (b : Nat → Option (Nat × List (List PV))) (q : Nat), setRs b l q = match setRs (fun _ => none) l q with
    | some cs => some cs
    | none => b q
  | [], b, q => rfl
  | x :: l, b, q => by
    simp only [setRs]
    rw [setRs_eq l (upd b x.1 (some x.2)), setRs_eq l (upd (fun _ => none) x.1 (some x.2))]
    cases setRs (fun _ => none) l q with
    | some cs => rfl
    | none => by_cases h : q = x.1 <;> simp [h, upd_ne]
theorem setRs_mem : ∀ (l : List (Nat × Nat × List (List PV))) (q : Nat) (y), setRs (fun _ => none) l q = some y → (q, y) ∈ l
  | [], q, cs, h => by simp [setRs] at h
  | x :: l, q, cs, h => by
    simp only [setRs] at h
    rw [setRs_eq] at h
    cases e : setRs (fun _ => none) l q with
    | some c => rw [e] at h; cases h; exact List.mem_cons_of_mem _ (setRs_mem l q _ e)
    | none =>
      rw [e] at h
      by_cases hq : q = x.1
      · subst hq; simp at h; subst h; simp
      · simp [upd_ne _ _ hq] at h

/-- What an operation asks and sets. -/
structure Fp where
  /-- The rows that it knows of, -/
  R : List Nat
  /-- those that it looks into, -/
  C : List Nat
  /-- those that it ends, -/
  W : List Nat
  /-- those that it sets. -/
  S : List Nat
  B : List Nat
  V : List Nat
  full : Bool
  deriving Inhabited
structure Bd (F : Fp) (δ : Dl) : Prop where
  k : ∀ id ∈ δ.kill, id ∈ F.W
  sr : ∀ x ∈ δ.setR, x.1 ∈ F.S
  sb : ∀ x ∈ δ.setB, x.1 ∈ F.V
  sc : ∀ x ∈ δ.setB, ∀ id ∈ AV.rowss x.2, id ∈ F.R
  pt : ∀ id ∈ δ.put.rows, id ∈ F.R
structure Asks (F : Fp) (o : Oper) (M B : List Nat) (s : St) : Prop where
  ar : ∀ x ∈ Oper.asked o, ∀ id ∈ (s.ev x).rows, id ∈ F.R
  ac : ∀ x ∈ Oper.asked o, lightO o.op = false → ∀ id ∈ (s.ev x).rows, id ∈ F.C
  ab : ∀ x ∈ Oper.asked o, lightO o.op = false → ∀ i ∈ (s.ev x).bxs, i ∈ F.B
  m : ∀ id ∈ M, id ∈ F.C
  cr : ∀ id ∈ F.C, id ∈ F.R
  n : ∀ i ∈ B, i ∈ F.B
  bc : ∀ i ∈ F.B, ∀ cs, s.b i = some cs → ∀ id ∈ AV.rowss cs, id ∈ F.R
  fl : F.full = true → (∀ x ∈ Oper.asked o, (s.ev x).full = true) ∧ ∀ i ∈ F.B, ∀ cs, s.b i = some cs → AV.fulls cs = true

def fpA (o : Oper) (l : List Nat) : List Nat := match lightO o.op with
  | true => []
  | false => l
theorem fpA_in {o : Oper} {l : List Nat} {x : Nat} (h : lightO o.op = false) (hx : x ∈ l) : x ∈ fpA o l := by unfold fpA; rw [h]; exact hx
theorem fpA_of {o : Oper} {l : List Nat} {x : Nat} (hx : x ∈ fpA o l) : x ∈ l := by
  unfold fpA at hx
  split at hx
  · cases hx
  · exact hx
def fpB (o : Oper) (B : List Nat) (s : St) : List Nat := fpA o ((Oper.asked o).flatMap (fun x => (s.ev x).bxs)) ++ B
def fpC (s : St) (i : Nat) : List AV := (s.b i).getD []
def fpOf (o : Oper) (M B : List Nat) (s : St) (δ : Dl) : Fp where
  R := (Oper.asked o).flatMap (fun x => (s.ev x).rows) ++ M ++ (fpB o B s).flatMap (fun i => AV.rowss (fpC s i)) ++ δ.put.rows ++ δ.setB.flatMap (fun x => AV.rowss x.2)
  C := fpA o ((Oper.asked o).flatMap (fun x => (s.ev x).rows)) ++ M
  W := δ.kill
  S := δ.setR.map (·.1)
  B := fpB o B s
  V := δ.setB.map (·.1)
  full := (Oper.asked o).all (fun x => (s.ev x).full) && (fpB o B s).all (fun i => AV.fulls (fpC s i))
theorem fp_bd (o : Oper) (M B : List Nat) (s : St) (δ : Dl) : Bd (fpOf o M B s δ) δ where
  k id h := h
  sr x h := List.mem_map.2 ⟨x, h, rfl⟩
  sb x h := by simp only [fpOf, List.mem_map]; exact ⟨x, h, rfl⟩
  sc x h id hi := by simp only [fpOf, List.mem_append, List.mem_flatMap]; exact .inr ⟨x, h, hi⟩
  pt id h := by simp [fpOf, h]
theorem fp_asks (o : Oper) (M B : List Nat) (s : St) (δ : Dl) : Asks (fpOf o M B s δ) o M B s where
  ar x hx id hi := by simp only [fpOf, List.mem_append, List.mem_flatMap]; exact .inl (.inl (.inl (.inl ⟨x, hx, hi⟩)))
  ac x hx hl id hi := by simp only [fpOf, List.mem_append]; exact .inl (fpA_in hl (List.mem_flatMap.2 ⟨x, hx, hi⟩))
  ab x hx hl id hi := by simp only [fpOf, fpB, List.mem_append]; exact .inl (fpA_in hl (List.mem_flatMap.2 ⟨x, hx, hi⟩))
  m id h := by simp [fpOf, h]
  cr id h := by
    simp only [fpOf, List.mem_append] at h ⊢
    rcases h with h | h
    · exact .inl (.inl (.inl (.inl (fpA_of h))))
    · exact .inl (.inl (.inl (.inr h)))
  n id h := by simp [fpOf, fpB, h]
  bc i hi cs hc id hid := by
    simp only [fpOf, List.mem_append, List.mem_flatMap]
    exact .inl (.inl (.inr ⟨i, hi, by simpa [fpC, hc] using hid⟩))
  fl h := by
    simp only [fpOf, Bool.and_eq_true, List.all_eq_true] at h
    exact ⟨h.1, fun i hi cs hc => by have := h.2 i hi; simpa [fpC, hc] using this⟩

def apartF (Fi Fj : Fp) : Bool :=
  (Fi.W.all fun x => !Fj.R.contains x && !Fj.W.contains x && !Fj.S.contains x) && (Fi.S.all fun x => !Fj.C.contains x && !Fj.W.contains x && !Fj.S.contains x) && (Fj.W.all fun x => !Fi.R.contains x) && (Fj.S.all fun x => !Fi.C.contains x) &&
  (Fi.V.all fun x => !Fj.B.contains x && !Fj.V.contains x) && (Fj.V.all fun x => !Fi.B.contains x) && (Fi.W.isEmpty || Fj.full) && (Fj.W.isEmpty || Fi.full)
structure ApartF (Fi Fj : Fp) : Prop where
  a : ∀ x ∈ Fi.W, x ∉ Fj.R
  a2 : ∀ x ∈ Fi.S, x ∉ Fj.C
  b1 : ∀ x ∈ Fi.W, x ∉ Fj.W
  b2 : ∀ x ∈ Fi.W, x ∉ Fj.S
  b3 : ∀ x ∈ Fi.S, x ∉ Fj.W
  b4 : ∀ x ∈ Fi.S, x ∉ Fj.S
  c : ∀ x ∈ Fj.W, x ∉ Fi.R
  c2 : ∀ x ∈ Fj.S, x ∉ Fi.C
  d : ∀ x ∈ Fi.V, x ∉ Fj.B
  e : ∀ x ∈ Fi.V, x ∉ Fj.V
  f : ∀ x ∈ Fj.V, x ∉ Fi.B
  g : Fi.W = [] ∨ Fj.full = true
  h : Fj.W = [] ∨ Fi.full = true
theorem ApartF.symm {Fi Fj : Fp} (h : ApartF Fi Fj) : ApartF Fj Fi :=
  ⟨h.c, h.c2, fun x hx hy => h.b1 x hy hx, fun x hx hy => h.b3 x hy hx, fun x hx hy => h.b2 x hy hx, fun x hx hy => h.b4 x hy hx, h.a, h.a2, h.f, fun x hx hy => h.e x hy hx, h.d, h.h, h.g⟩

/-- What an operation asks is the same in both states. -/
structure Eqs (F : Fp) (o : Oper) (s s' : St) : Prop where
  ev : ∀ x ∈ Oper.asked o, s'.ev x = s.ev x
  r : ∀ id ∈ F.C, s'.r id = s.r id
  b : ∀ i ∈ F.B, s'.b i = s.b i
theorem Eqs.symm {F : Fp} {o : Oper} {s s' : St} (h : Eqs F o s s') : Eqs F o s' s := ⟨fun x hx => (h.ev x hx).symm, fun x hx => (h.r x hx).symm, fun x hx => (h.b x hx).symm⟩
theorem Asks.ag {F : Fp} {o : Oper} {M B : List Nat} {s s' : St} (h : Asks F o M B s) (e : Eqs F o s s') : Ag o M B s s' where
  ev := e.ev
  r x hx hl id hid := e.r id (h.ac x hx hl id hid)
  b x hx hl i hi := e.b i (h.ab x hx hl i hi)
  m id hid := e.r id (h.m id hid)
  n i hi := e.b i (h.n i hi)
theorem Asks.of {F : Fp} {o : Oper} {M B : List Nat} {s s' : St} (h : Asks F o M B s) (e : Eqs F o s s') : Asks F o M B s' where
  ar x hx id hi := h.ar x hx id (by rw [← e.ev x hx]; exact hi)
  ac x hx hl id hi := h.ac x hx hl id (by rw [← e.ev x hx]; exact hi)
  ab x hx hl id hi := h.ab x hx hl id (by rw [← e.ev x hx]; exact hi)
  m := h.m
  cr := h.cr
  n := h.n
  bc i hi cs hc := h.bc i hi cs (by rw [← e.b i hi]; exact hc)
  fl hf := ⟨fun x hx => by rw [e.ev x hx]; exact (h.fl hf).1 x hx, fun i hi cs hc => (h.fl hf).2 i hi cs (by rw [← e.b i hi]; exact hc)⟩
theorem Ag.trans {o : Oper} {M B : List Nat} {s s' s'' : St} (h : Ag o M B s s') (k : Ag o M B s' s'') : Ag o M B s s'' where
  ev x hx := (k.ev x hx).trans (h.ev x hx)
  r x hx hl id hid := (k.r x hx hl id (by rw [h.ev x hx]; exact hid)).trans (h.r x hx hl id hid)
  b x hx hl i hi := (k.b x hx hl i (by rw [h.ev x hx]; exact hi)).trans (h.b x hx hl i hi)
  m id hid := (k.m id hid).trans (h.m id hid)
  n i hi := (k.n i hi).trans (h.n i hi)
theorem StepD.at {γ : Gho} {P : Program} {n : Nat} {o : Oper} {M B : List Nat} {s s' : St} {δ : Dl} (h : StepD γ P n o M B s δ) (ag : Ag o M B s s') : StepD γ P n o M B s' δ :=
  fun s'' ag' => h s'' (ag.trans ag')

section
variable {ops : Array Oper}
theorem St.ext' {s s' : St} (ht : ∀ q, s.t q = s'.t q) (hb : ∀ q, s.b q = s'.b q) (hr : ∀ q, s.r q = s'.r q) : s = s' := by
  cases s; cases s'
  simp only [St.mk.injEq]
  exact ⟨funext ht, funext hb, funext hr⟩
/-- Whether an operation's guard lets it run. -/
def gval (ops : Array Oper) (o : Oper) (s : St) : Option Bool := match o.guard with
  | none => some true
  | some (g, want) => match (ops[g]?).bind (·.dst) with
    | none => none
    | some t => match s.t t with
      | .p none (.v (.bool b)) => some (b == want)
      | .tup [] => some false
      | _ => none
theorem gval_wanted {w0 : World} {I : Fr} {n : Nat} {L : Pl} {s : St} {a : Act} {w : World} (h : Rel w0 I n L s a w) {o : Oper} {b : Bool} (hg : gval ops o s = some b) : Region.wanted o (yielded ops a.tmps) = b := by
  unfold gval at hg
  unfold Region.wanted
  cases hgd : o.guard with
  | none => rw [hgd] at hg; simpa using hg
  | some gw =>
    obtain ⟨g, want⟩ := gw
    rw [hgd] at hg
    simp only at hg ⊢
    unfold yielded
    cases ht : (ops[g]?).bind (·.dst) with
    | none => rw [ht] at hg; cases hg
    | some t =>
      rw [ht] at hg
      simp only at hg
      split at hg
      · rename_i c hc
        have hv := h.tm t
        rw [hc] at hv
        simp only [AVR] at hv
        obtain ⟨hv, _⟩ := hv
        generalize hu : a.tmps.getD t undef = u at hv
        cases hv
        cases hx : a.tmps[t]? with
        | none => simp [hx, undef] at hu
        | some u =>
          simp [hx] at hu
          subst hu
          simp [hx]
          simpa using hg
      · rename_i hc
        have hv := h.tm t
        rw [hc] at hv
        simp only [AVR] at hv
        obtain ⟨us, hv, hus⟩ := hv
        have hb : b = false := by simpa using hg.symm
        subst hb
        cases hx : a.tmps[t]? with
        | none => simp [hx]
        | some u =>
          simp [hx] at hv
          subst hv
          simp [hx]
      · cases hg
/-- One operation of a region, in its text's order. -/
inductive Good (γ : Gho) (P : Program) (n : Nat) (ops : Array Oper) (o : Oper) (s : St) : Fp → Dl → Prop where
  | run (M B : List Nat) {F : Fp} {δ : Dl} (hg : gval ops o s = some true) (h : StepD γ P n o M B s δ) (hb : Bd F δ) (hs : Asks F o M B s) : Good γ P n ops o s F δ
  | not {F : Fp} (hg : gval ops o s = some false) : Good γ P n ops o s F { put := .tup [] }
section
variable {γ : Gho} {P : Program} {n : Nat} {Fs : List Fp} {Q : St → Prop}
/-- Any order, told of the abstract state. -/
def Sany (γ : Gho) (P : Program) (n : Nat) (ops : Array Oper) (Fs : List Fp) (Q : St → Prop) : Nat → Array Bool → St → Prop
  | 0, listed, s => Region.ready .any ops listed = [] ∧ Q s
  | f + 1, listed, s => (Region.ready .any ops listed = [] → Q s) ∧ ∀ i ∈ Region.ready .any ops listed, ∀ o, ops[i]? = some o → ∃ δ, Good γ P n ops o s (Fs.getD i default) δ ∧ Sany γ P n ops Fs Q f (listed.setIfInBounds i true) (δ.app o.dst s)

/-- j comes behind i, by edges. -/
def desc (ops : Array Oper) (i : Nat) : Nat → Nat → Bool
  | 0, _ => false
  | f + 1, j => match ops[j]? with
    | some o => o.after.any fun e => Region.binds .any e && (Nat.beq e.on i || desc ops i f e.on)
    | none => false
def Closed (ops : Array Oper) (listed : Array Bool) : Prop := ∀ k o, listed.getD k false = true → ops[k]? = some o → ∀ e ∈ o.after, Region.binds .any e = true → listed.getD e.on false = true
theorem Closed.desc {listed : Array Bool} (h : Closed ops listed) {i : Nat} : ∀ (f j : Nat) (o : Oper), ops[j]? = some o → (∀ e ∈ o.after, Region.binds .any e = true → listed.getD e.on false = true) → desc ops i f j = true → listed.getD i false = true
  | 0, _, _, _, _, hd => by simp [Rl.desc] at hd
  | f + 1, j, o, ho, hp, hd => by
    simp only [Rl.desc, ho] at hd
    obtain ⟨e, he, hb⟩ := Array.any_eq_true'.1 hd
    simp only [Bool.and_eq_true, Bool.or_eq_true] at hb
    have hl := hp e he hb.1
    rcases hb.2 with h1 | h1
    · rw [← Nat.eq_of_beq_eq_true h1]; exact hl
    · cases hk : ops[e.on]? with
      | none => cases f <;> simp [Rl.desc, hk] at h1
      | some o' => exact Closed.desc h f e.on o' hk (h e.on o' hl hk) h1
theorem Closed.set {listed : Array Bool} (h : Closed ops listed) {j : Nat} (hj : j ∈ Region.ready .any ops listed) : Closed ops (listed.setIfInBounds j true) := fun k o hk ho e he hb => by
  by_cases hkj : j = k
  · subst hkj
    obtain ⟨_, o', ho', hall⟩ := mem_ready.1 hj
    rw [ho] at ho'; cases ho'
    exact getD_set_true (hall e he hb)
  · rw [getD_set_ne false hkj] at hk
    exact getD_set_true (h k o hk ho e he hb)
/-- The bits of the operations that come behind those of m. -/
def maskF : List Oper → Nat → Nat → Nat
  | [], _, m => m
  | o :: l, j, m => match o.after.any (fun e => Region.binds .any e && m.testBit e.on) with
    | true => maskF l (j + 1) (m ||| 2 ^ j)
    | false => maskF l (j + 1) m
def freeM (ops : Array Oper) (Fs : List Fp) (listed : Array Bool) (i : Nat) (oi : Oper) (m : Nat) : Bool :=
  (List.range ops.size).all fun j => Nat.beq j i || listed.getD j true || Nat.testBit m j || match ops[j]? with
      | some oj => oi.apart ops oj && apartF (Fs.getD i default) (Fs.getD j default)
      | none => true
def freeF (ops : Array Oper) (Fs : List Fp) (listed : Array Bool) (i : Nat) : Bool :=
  match ops[i]? with
  | none => false
  | some oi => match maskF ops.toList 0 (2 ^ i) with
    | 0 => freeM ops Fs listed i oi 0
    | m + 1 => freeM ops Fs listed i oi (m + 1)
def lexF (ops : Array Oper) (Fs : List Fp) : Nat → Nat → Array Bool → Bool
  | 0, _, listed => (Region.ready .any ops listed).isEmpty
  | f + 1, k, listed => (Region.ready .any ops listed).contains k && freeF ops Fs listed k && lexF ops Fs f (k + 1) (listed.setIfInBounds k true)

/-- The operations in the text's order. -/
inductive Run (γ : Gho) (P : Program) (n : Nat) (ops : Array Oper) : List Fp → List Oper → St → St → Prop where
  | nil {s : St} : Run γ P n ops [] [] s s
  | run (M B : List Nat) {Fs : List Fp} {o : Oper} {l : List Oper} {s s' : St} {δ : Dl} (hg : gval ops o s = some true) (h : StepD γ P n o M B s δ) (k : Run γ P n ops Fs l (δ.app o.dst s) s') : Run γ P n ops (fpOf o M B s δ :: Fs) (o :: l) s s'
  | not {Fs : List Fp} {o : Oper} {l : List Oper} {s s' : St} (hg : gval ops o s = some false) (k : Run γ P n ops Fs l (s.put o.dst (.tup [])) s') : Run γ P n ops (⟨[], [], [], [], [], [], true⟩ :: Fs) (o :: l) s s'

def dstsB (n : Nat) (ops : Array Oper) : Bool := ops.toList.all fun o => match o.dst with
  | some d => Nat.blt d n
  | none => true
theorem dstsB_spec (h : dstsB n ops = true) {i : Nat} {o : Oper} (hi : ops[i]? = some o) : ∀ x, o.dst = some x → x < n := fun x hx => by
  simp only [dstsB, List.all_eq_true] at h
  have := h o (by rw [Array.mem_toList_iff]; exact Array.mem_of_getElem? hi)
  rw [hx] at this
  simpa [Nat.blt_eq] using this

section
variable {w0 : World} {I : Fr} {Qm : Exit → Act → World → Prop}
theorem good_wp (hG : Gh γ w0 I.I) {o : Oper} {s : St} {F : Fp} {δ : Dl} {i : Nat} (hi : ops[i]? = some o) (hd : ∀ x, o.dst = some x → x < n) (hg : Good γ P n ops o s F δ) {L : Pl} {a : Act} {w : World} (hr : Rel w0 I n L s a w) {K : Act → World → Prop} (hK : ∀ L' a' w', Rel w0 I n L' (δ.app o.dst s) a' w' → K a' w') : wpOp P ops Qm i K a w := by
  unfold wpOp
  simp only [hi]
  cases hg with
  | run M B hg h _ _ =>
    rw [gval_wanted hr hg, if_pos rfl]
    exact .inl (h s ⟨fun _ _ => rfl, fun _ _ _ _ _ => rfl, fun _ _ _ _ _ => rfl, fun _ _ => rfl, fun _ _ => rfl⟩ hd w0 I L a w hG hr K Qm (fun L' v w' hr' => hK L' _ w' hr'))
  | not hg =>
    rw [gval_wanted hr hg, if_neg (by simp)]
    exact hK L _ w (hr.put hd (by simp only [AVR]; exact ⟨[], rfl, by simp [AVRs]⟩))
theorem run_wp (hG : Gh γ w0 I.I) (hdst : dstsB n ops = true) {s' : St} : ∀ {Fs : List Fp} {l : List Oper} {s : St} (_ : Run γ P n ops Fs l s s') (_ : ∀ L a w, Rel w0 I n L s' a w → Qm .normal a w) (k : Nat), (∀ j, l[j]? = ops[k + j]?) → ∀ {L : Pl} {a : Act} {w : World}, Rel w0 I n L s a w → wpOps P ops Qm (List.range' k l.length) a w := by
  intro Fs l s h
  induction h with
  | nil => intro hQ k _ L a w hr; exact hQ _ _ _ hr
  | run M B hg h _ ih =>
    rename_i o l s s' δ hrun
    intro hQ k hl L a w hr
    have h0 : ops[k]? = some o := by simpa using (hl 0).symm
    rw [List.length_cons, List.range'_succ, wpOps_cons]
    exact good_wp hG h0 (dstsB_spec hdst h0) (.run M B hg h (fp_bd ..) (fp_asks ..)) hr (fun L' a' w' hr' => ih hQ (k + 1) (fun j => by have := hl (j + 1); simpa [Nat.add_assoc, Nat.add_comm 1 j] using this) hr')
  | not hg _ ih =>
    rename_i o l s s' hrun
    intro hQ k hl L a w hr
    have h0 : ops[k]? = some o := by simpa using (hl 0).symm
    rw [List.length_cons, List.range'_succ, wpOps_cons]
    exact good_wp (F := default) hG h0 (dstsB_spec hdst h0) (.not hg) hr (fun L' a' w' hr' => ih hQ (k + 1) (fun j => by have := hl (j + 1); simpa [Nat.add_assoc, Nat.add_comm 1 j] using this) hr')
theorem moves_drawn (L : Pl) (s : St) (w : World) (d : Nat) : Moves [] L L w { w with drawn := d } s s :=
  ⟨fun _ hk => ⟨hk, rfl⟩, fun _ _ _ _ hk => ⟨.inr hk, rfl⟩, fun _ hb => ⟨hb, rfl⟩, fun _ _ xs _ hx => ⟨xs, hx, rfl, rfl⟩⟩
theorem Rel.drawn {L : Pl} {s : St} {a : Act} {w : World} (h : Rel w0 I n L s a w) (d : Nat) : Rel w0 I n L s a { w with drawn := d } where
  same := ⟨h.same.os, h.same.tape, h.same.output, h.same.size, h.same.block⟩
  zlt := h.zlt
  llt := h.llt
  sz := h.sz
  df := h.df
  tm i := (h.tm i).move0 (moves_drawn L s w d)
  bx i cs hc := by
    obtain ⟨h1, us, ty, h2, h3, h4⟩ := h.bx i cs hc
    exact ⟨h1, us, ty, h2, h3.move0 (moves_drawn L s w d), h4⟩
  rw i sz xs hx := by
    obtain ⟨h1, h2⟩ := h.rw i sz xs hx
    exact ⟨h1.mono (fun _ _ => rfl) (fun _ _ => rfl) (fun _ h => h), h2⟩
  pr := h.pr
  pb := h.pb
  zi := h.zi
end
end
end
end Go.Rl
namespace Go.Rl
open Go.RowKit

section
variable {w0 : World} {I : Fr} {n : Nat} {L : Pl} {s : St} {a : Act} {w : World}
/-- The relation behind a change, part by part. -/
theorem Rel.next {K : List Nat} {L' : Pl} {s1 : St} {w' : World} (h : Rel w0 I n L s a w) (hs : Same I.I w0 w')
    (hz : ∀ k, L'.Z k → k < w'.heap.size ∧ L'.lab k = none) (hl : ∀ k l, L'.lab k = some l → k < w'.heap.size ∧ (w0.heap.size ≤ k ∨ k ∈ I.I))
    (hm : Moves K L L' w w' s s1) (ht : ∀ i, s1.t i = (s.t i).kill K)
    (hb : ∀ i cs, s1.b i = some cs → (∃ cs0, s.b i = some cs0 ∧ cs = AV.kills K cs0 ∧ w'.heap[L.β i]? = w.heap[L.β i]? ∧ L'.lab (L.β i) = L.lab (L.β i)) ∨
      ((i < pinT ∨ (s.b i).isSome) ∧ L'.lab (L'.β i) = some (.box i) ∧ ∃ us ty, w'.heap[L'.β i]? = some (.cells ⟨us⟩ ty (0, 0)) ∧ AVRs L' w' s1 cs us ∧ ∀ u ∈ us, u.oneCell' = true))
    (hr : ∀ i sz xs, s1.r i = some (sz, xs) → (s.r i = some (sz, xs) ∧ L'.ρ i = L.ρ i ∧ L'.ν i = L.ν i ∧ ∀ k ∈ L.ν i, w'.heap[k]? = w.heap[k]? ∧ L'.lab k = L.lab k) ∨
      ((i < pinT ∨ ((s.r i).isSome ∧ L'.ρ i = L.ρ i)) ∧ PVO L'.Z w' (.sl true sz xs) (L'.ρ i) (L'.ν i) ∧ (L'.ν i).Nodup ∧ ∀ k ∈ L'.ν i, L'.lab k = some (.row i))) (hZ : ∀ k, L'.Z k → L.Z k := by exact fun _ h => h) : Rel w0 I n L' s1 a w' where
  same := hs
  zlt := hz
  llt := hl
  sz := h.sz
  df := h.df
  tm i := by rw [ht]; exact (h.tm i).move hm _ _
  bx i cs hc := by
    rcases hb i cs hc with ⟨cs0, h0, rfl, h2, h3⟩ | h2
    · obtain ⟨h4, us, ty, h5, h6, h7⟩ := h.bx i cs0 h0
      obtain ⟨h8, h9⟩ := hm.b i (by rw [h0]; rfl)
      rw [h9]
      exact ⟨h3.trans h4, us, ty, h2.trans h5, h6.move hm _ _, h7⟩
    · exact h2.2
  rw i sz xs hx := by
    rcases hr i sz xs hx with ⟨h1, h2, h3, h4⟩ | h2
    · obtain ⟨h5, h6, h7⟩ := h.rw i sz xs h1
      rw [h2, h3]
      exact ⟨h5.mono (fun k hk => (hm.z k hk).2) (fun k hk => (h4 k hk).1) (fun k hk => (hm.z k hk).1), h6, fun k hk => (h4 k hk).2.trans (h7 k hk)⟩
    · exact h2.2
  pr i hi hx := by
    obtain ⟨⟨sz, xs⟩, hx⟩ := Option.isSome_iff_exists.1 hx
    rcases hr i sz xs hx with ⟨h1, h2, _⟩ | ⟨h1 | h1, _⟩
    · exact h2.trans (h.pr i hi (by rw [h1]; rfl))
    · omega
    · exact h1.2.trans (h.pr i hi h1.1)
  pb i hi hx := by
    obtain ⟨cs, hx⟩ := Option.isSome_iff_exists.1 hx
    rcases hb i cs hx with ⟨cs0, h1, _⟩ | ⟨h1 | h1, _⟩
    · exact (hm.b i (by rw [h1]; rfl)).2.trans (h.pb i hi (by rw [h1]; rfl))
    · omega
    · exact (hm.b i h1).2.trans (h.pb i hi h1)
  zi k hk := (h.zi k (hZ k hk)).imp id (fun h2 => ⟨h2.1, h2.2.of (hm.z k (hZ k hk)).2⟩)

theorem Same.push {J : List Nat} {w0 w : World} (h : Same J w0 w) (o : Obj) : Same J w0 (w.alloc o) :=
  ⟨h.os, h.tape, h.output, Nat.le_trans h.size (by simp), fun k hk hJ => (heap_alloc_old w o (Nat.lt_of_lt_of_le hk h.size)).trans (h.block k hk hJ)⟩
theorem Same.drew {J : List Nat} {w0 w : World} (h : Same J w0 w) : Same J w0 w.drew := ⟨h.os, h.tape, h.output, h.size, h.block⟩

/-- Memory with one variable more. -/
def Pl.box (L : Pl) (b k : Nat) : Pl := { L with β := upd L.β b k, lab := upd L.lab k (some (.box b)) }
end

def AV.one : AV → Bool
  | .undef => false
  | .sat _ => false
  | .agg _ => false
  | .tup _ => false
  | _ => true
/-- The cells of a value in a variable. -/
def AV.cells : AV → List AV
  | .agg cs => cs
  | av => [av]
def AV.fits (av : AV) : Bool := av.cells.all AV.one
theorem AVR.one {L : Pl} {w : World} {s : St} {av : AV} {v : Value} (h : AVR L w s av v) (ho : av.one = true) : v.oneCell' = true := by
  cases av <;> simp only [AV.one, AVR, Bool.false_eq_true] at h ho
  case p d x => exact h.1.one
  case sl id lo len => obtain ⟨_, _, _, _, _, _, _, _, _, _, rfl, _⟩ := h; rfl
  case ptr b off => rw [h.2]; rfl
  case ea id i off => obtain ⟨_, _, _, _, _, _, _, _, rfl⟩ := h; rfl
  case fea d ps => obtain ⟨⟨_, _, rfl, _⟩, _⟩ := h; rfl
  case nils => obtain ⟨A, rfl⟩ := h; rfl
  case clo f bs => rw [h.2]; rfl
theorem AVRs.ones {L : Pl} {w : World} {s : St} : ∀ {aL : List AV} {us : List Value}, AVRs L w s aL us → aL.all AV.one = true → ∀ u ∈ us, u.oneCell' = true
  | [], [], _, _ => by simp
  | [], _ :: _, hv, _ => by simp [AVRs] at hv
  | _ :: _, [], hv, _ => by simp [AVRs] at hv
  | a :: aL, u :: us, hv, h => by
    simp only [AVRs] at hv
    simp only [List.all_cons, Bool.and_eq_true] at h
    intro x hx
    rcases List.mem_cons.1 hx with rfl | hx
    · exact hv.1.one h.1
    · exact AVRs.ones hv.2 h.2 x hx
theorem cells_one {v : Value} (h : v.oneCell' = true) : v.cells = #[v] := by cases v <;> first | rfl | cases h
theorem AVR.cells {L : Pl} {w : World} {s : St} {av : AV} {v : Value} (h : AVR L w s av v) (hf : av.fits = true) : AVRs L w s av.cells v.cells.toList ∧ ∀ u ∈ v.cells.toList, u.oneCell' = true := by
  cases av
  case agg cs =>
    simp only [AVR] at h
    obtain ⟨us, rfl, h2⟩ := h
    exact ⟨h2, h2.ones hf⟩
  all_goals
    simp only [AV.fits, AV.cells, List.all_cons, List.all_nil, Bool.and_true] at hf
    have h1 := h.one hf
    rw [cells_one h1]
    exact ⟨by simp only [AV.cells, AVRs, and_true]; exact h, by simpa using h1⟩

section
variable {γ : Gho} {P : Program} {n : Nat} {o : Oper} {M B : List Nat} {s : St}
/-- A list with other elements from place o on. -/
def over {α : Type} (xs : List α) (o : Nat) (ys : List α) : List α := xs.take o ++ ys ++ xs.drop (o + ys.length)
theorem over_len {α : Type} {xs : List α} {o : Nat} {ys : List α} (h : o + ys.length ≤ xs.length) : (over xs o ys).length = xs.length := by
  simp [over]; omega
theorem over_get {α : Type} {xs : List α} {o : Nat} {ys : List α} (h : o + ys.length ≤ xs.length) (j : Nat) : (over xs o ys)[j]? = if o ≤ j ∧ j < o + ys.length then ys[j - o]? else xs[j]? := by
  simp only [over, List.append_assoc]
  rcases Nat.lt_or_ge j o with h1 | h1
  · rw [List.getElem?_append_left (by simp; omega), if_neg (by omega), List.getElem?_take, if_pos h1]
  · rw [List.getElem?_append_right (by simp; omega)]
    have hl : (xs.take o).length = o := by simp; omega
    rw [hl]
    rcases Nat.lt_or_ge j (o + ys.length) with h2 | h2
    · rw [List.getElem?_append_left (by omega), if_pos ⟨h1, h2⟩]
    · rw [List.getElem?_append_right (by omega), if_neg (by omega), List.getElem?_drop]
      congr 1
      omega
theorem AVRs.over {L : Pl} {w : World} {s : St} {aL bs : List AV} {us vs : List Value} (h : AVRs L w s aL us) (h2 : AVRs L w s bs vs) (o : Nat) (hl : o + bs.length ≤ aL.length) : AVRs L w s (over aL o bs) (Rl.over us o vs) := by
  have e1 := h.length
  have e2 := h2.length
  refine AVRs.mk (by rw [over_len hl, over_len (by omega), e1]) (fun j x u hx hu => ?_)
  rw [over_get hl] at hx
  rw [over_get (by omega), ← e2] at hu
  split at hx
  · rename_i hc
    rw [if_pos hc] at hu
    obtain ⟨u', hu', hr⟩ := h2.get _ _ hx
    rw [hu] at hu'; cases hu'; exact hr
  · rename_i hc
    rw [if_neg hc] at hu
    obtain ⟨u', hu', hr⟩ := h.get _ _ hx
    rw [hu] at hu'; cases hu'; exact hr
theorem Same.setRow {J : List Nat} {w0 w : World} (h : Same J w0 w) {k : Nat} (hk : w0.heap.size ≤ k ∨ k ∈ J) (cs : Array Value) : Same J w0 (w.setRow k cs) :=
  ⟨h.os, h.tape, h.output, by simpa using h.size, fun x hx hJ => (setRow_other w k x cs (fun e => by subst e; rcases hk with hk | hk; omega; exact hJ hk)).trans (h.block x hx hJ)⟩

end
end Go.Rl
namespace Go.Rl
open Go.RowKit

section
variable {w0 : World} {I : Fr} {n : Nat} {L : Pl} {s : St} {a : Act} {w : World}
/-- Memory with row id anew. -/
def Pl.row (L : Pl) (id : Nat) (v : Value) (N : List Nat) : Pl := { L with ρ := upd L.ρ id v, ν := upd L.ν id N, lab := fun k => if k ∈ N then some (.row id) else L.lab k }
theorem Rel.setrow (h : Rel w0 I n L s a w) (K : List Nat) {id sz : Nat} {xs : List (List PV)} {v : Value} {N : List Nat} {w' : World} {J : List Nat} (hJ : Same J w w') (hlab : ∀ k ∈ J, ∃ i ∈ K, L.lab k = some (.row i))
    (hp : PVO L.Z w' (.sl true sz xs) v N) (hN : ∀ k ∈ N, (∃ i ∈ K, L.lab k = some (.row i)) ∨ w.heap.size ≤ k) (hnd : N.Nodup) (hid1 : id < pinT) (hid : s.r id = none ∨ id ∈ K) :
    Rel w0 I n (L.row id v N) { t := fun i => (s.t i).kill K, b := fun j => (s.b j).map (AV.kills K), r := upd (s.kill K).r id (some (sz, xs)) } a w' := by
  have hnotJ : ∀ k, k < w.heap.size → (∀ i ∈ K, L.lab k ≠ some (.row i)) → w'.heap[k]? = w.heap[k]? := fun k hk hi => hJ.block k hk (fun hx => by obtain ⟨i, h1, h2⟩ := hlab k hx; exact hi i h1 h2)
  have hnotN : ∀ k, k < w.heap.size → (∀ i ∈ K, L.lab k ≠ some (.row i)) → (L.row id v N).lab k = L.lab k := fun k hk hi => by
    simp only [Pl.row]
    rw [if_neg]
    intro hx
    rcases hN k hx with ⟨i, h1, h2⟩ | h2
    · exact hi i h1 h2
    · omega
  have hidne : ∀ {i}, i ∉ K → (s.r i).isSome → i ≠ id := fun hi hs e => by
    subst e
    rcases hid with h1 | h1
    · rw [h1] at hs; cases hs
    · exact hi h1
  have hrow : ∀ {i sz xs}, s.r i = some (sz, xs) → i ∉ K → ∀ k ∈ L.ν i, k < w.heap.size ∧ ∀ j ∈ K, L.lab k ≠ some (.row j) := fun {i sz xs} hx hi k hk => by
    obtain ⟨h1, h2, h3⟩ := h.rw i sz xs hx
    refine ⟨h1.lt k hk, fun j hj e => ?_⟩
    rw [h3 k hk] at e
    simp only [Option.some.injEq, Lab.row.injEq] at e
    subst e
    exact hi hj
  refine h.next (K := K) (h.same.trans hJ (fun x hx hI hxJ => ?_)) (fun k hk => ?_) (fun k l hk => ?_) ⟨fun k hk => ⟨hk, ?_⟩, fun i k hi hs hk => ?_, fun b hb => ⟨by simpa using hb, rfl⟩, fun i sz xs hi hx => ⟨xs, ?_, rfl, ?_⟩⟩ (fun i => rfl) (fun i cs hc => ?_) (fun i sz' xs' hx => ?_)
  · obtain ⟨i, _, h2⟩ := hlab x hxJ
    rcases (h.llt x _ h2).2 with h3 | h3
    · omega
    · exact hI h3
  · obtain ⟨h1, h2⟩ := h.zlt k hk
    exact ⟨Nat.lt_of_lt_of_le h1 hJ.size, (hnotN k h1 (fun i _ => by rw [h2]; simp)).trans h2⟩
  · simp only [Pl.row] at hk
    split at hk
    · rename_i hx
      refine ⟨hp.lt k hx, ?_⟩
      rcases hN k hx with ⟨i, h1, h2⟩ | h2
      · exact (h.llt k _ h2).2
      · exact .inl (Nat.le_trans h.same.size h2)
    · exact ⟨Nat.lt_of_lt_of_le (h.llt k l hk).1 hJ.size, (h.llt k l hk).2⟩
  · obtain ⟨h1, h2⟩ := h.zlt k hk
    exact hnotJ k h1 (fun i _ => by rw [h2]; simp)
  · obtain ⟨⟨sz, xs⟩, hx⟩ := Option.isSome_iff_exists.1 hs
    obtain ⟨h1, h2⟩ := hrow hx hi k (List.mem_of_mem_tail hk)
    exact ⟨.inr (by simp only [Pl.row, upd_ne _ _ (hidne hi hs)]; exact hk), hnotJ k h1 h2⟩
  · simp only [upd_ne _ _ (hidne hi (by rw [hx]; rfl)), St.kill]
    rw [if_neg hi]
    exact hx
  · exact upd_ne _ _ (hidne hi (by rw [hx]; rfl))
  · simp only [Option.map_eq_some_iff] at hc
    obtain ⟨cs0, h0, rfl⟩ := hc
    have hlb := (h.bx i cs0 h0).1
    exact .inl ⟨cs0, h0, rfl, hnotJ _ (h.llt _ _ hlb).1 (fun j _ => by rw [hlb]; simp), hnotN _ (h.llt _ _ hlb).1 (fun j _ => by rw [hlb]; simp)⟩
  · by_cases e : i = id
    · subst e
      simp only [upd_self, Option.some.injEq, Prod.mk.injEq] at hx
      obtain ⟨rfl, rfl⟩ := hx
      refine .inr ⟨.inl hid1, by simpa [Pl.row] using hp, by simpa [Pl.row] using hnd, fun k hk => ?_⟩
      simp only [Pl.row, upd_self] at hk ⊢
      rw [if_pos hk]
    · simp only [upd_ne _ _ e, St.kill] at hx
      split at hx
      · cases hx
      · rename_i hi
        exact .inl ⟨hx, upd_ne _ _ e, upd_ne _ _ e, fun k hk => ⟨hnotJ k (hrow hx hi k hk).1 (hrow hx hi k hk).2, hnotN k (hrow hx hi k hk).1 (hrow hx hi k hk).2⟩⟩
end

/-- What can be given away: a value, and the rows that go with it. -/
inductive Gv (s : St) : AV → PV → List Nat → Prop where
  | v {d : Option Nat} {x : Value} : Gv s (.p d (.v x)) (.v x) []
  | fro {o : Bool} {sz : Nat} {xs : List (List PV)} : Gv s (.p none (.sl o sz xs)) (.sl false sz xs) []
  | clo {f : Nat} {xs : List (List PV)} : Gv s (.p none (.clo f xs)) (.clo f xs) []
  | nil (sz : Nat) : Gv s .nils (.sl true sz []) []
  | row {id len sz : Nat} {xs : List (List PV)} (hr : s.r id = some (sz, xs)) (hl : len = xs.length) : Gv s (.sl id 0 len) (.sl true sz xs) [id]
  | pre {id len sz : Nat} {xs : List (List PV)} (hr : s.r id = some (sz, xs)) (hl : len ≤ xs.length) (hn : ∀ es ∈ xs, ∀ p ∈ es, (match p with | .v _ => true | _ => false) = true) : Gv s (.sl id 0 len) (.sl true sz (xs.take len)) [id]
inductive Gvs (s : St) : List AV → List PV → List Nat → Prop where
  | nil : Gvs s [] [] []
  | cons {a : AV} {p : PV} {K : List Nat} {aL : List AV} {ps : List PV} {K' : List Nat} (h : Gv s a p K) (t : Gvs s aL ps K') : Gvs s (a :: aL) (p :: ps) (K ++ K')
theorem Gvs.length {s : St} {aL : List AV} {ps : List PV} {K : List Nat} (h : Gvs s aL ps K) : aL.length = ps.length := by
  induction h with
  | nil => rfl
  | cons _ _ ih => simp [ih]
section
variable {w0 : World} {I : Fr} {n : Nat} {L : Pl} {s : St} {a : Act} {w : World}
theorem Gv.ok (h : Rel w0 I n L s a w) {av : AV} {p : PV} {K : List Nat} (g : Gv s av p K) {v : Value} (hv : AVR L w s av v) : PVO L.Z w p v (K.flatMap L.ν) := by
  have hz : ∀ {k}, L.zd none k → L.Z k := fun hk => hk.elim id (fun ⟨_, h, _⟩ => by cases h)
  cases g with
  | v => simp only [AVR] at hv; have h1 := hv.1; cases h1; exact .v _ ‹_›
  | fro => simp only [AVR] at hv; exact .fro _ _ _ ((hv.1.flag false).mono (fun _ _ => rfl) (fun k hk => hz hk))
  | clo => simp only [AVR] at hv; exact .clo _ _ _ (hv.1.mono (fun _ _ => rfl) (fun k hk => hz hk))
  | nil sz => simp only [AVR] at hv; obtain ⟨A, rfl⟩ := hv; exact .nil sz A
  | row hr hl =>
    rename_i id _ _ _
    subst hl
    simp only [AVR] at hv
    obtain ⟨sz', xs', h2, h3, h4⟩ := hv
    rw [hr] at h2
    cases h2
    obtain ⟨h5, h6, h7⟩ := h.rw _ _ _ hr
    have hvv : v = L.ρ id := by
      obtain ⟨A, m, c, A', c', e1, rfl, hc, h0, _⟩ := h4
      obtain ⟨rfl, rfl⟩ := h0 rfl
      rw [e1] at h5 ⊢
      generalize L.ν id = N at h5
      cases h5 <;> rfl
    subst hvv
    simpa using h5
  | pre hr hl hn =>
    rename_i id len sz xs
    simp only [AVR] at hv
    obtain ⟨sz', xs', h2, h3, h4⟩ := hv
    rw [hr] at h2
    cases h2
    obtain ⟨h5, h6, h7⟩ := h.rw _ _ _ hr
    simp only [List.flatMap_cons, List.flatMap_nil, List.append_nil]
    obtain ⟨A, m, c, A', c', e1, rfl, hc, h0, _⟩ := h4
    obtain ⟨rfl, rfl⟩ := h0 rfl
    rw [e1] at h5
    generalize L.ν id = N at h5
    cases h5 with
    | nil =>
      have : len = 0 := by simpa using hl
      subst this
      exact .nil _ _
    | own _ _ k c cur ty hlen hk hsz hc' hm u nn hcell hp =>
      have hnn : ∀ j, j < xs.flatten.length → nn j = [] := fun j hj => by
        have hx := hp j _ (List.getElem?_eq_getElem hj)
        obtain ⟨es, g1, g2⟩ := List.mem_flatten.1 (List.getElem_mem hj)
        have := hn es g1 _ g2
        generalize xs.flatten[j] = p at hx this
        generalize nn j = N at hx
        cases p with
        | v x => cases hx; rfl
        | _ => cases this
      have hfl : (xs.take len).flatten = xs.flatten.take ((xs.take len).flatten.length) := by
        conv => rhs; rw [← List.take_append_drop len xs, List.flatten_append]
        simp
      have hle : (xs.take len).flatten.length ≤ xs.flatten.length := by
        conv => rhs; rw [← List.take_append_drop len xs, List.flatten_append, List.length_append]
        omega
      have e0 : (List.range xs.flatten.length).flatMap nn = [] := List.flatMap_eq_nil_iff.2 (fun j hj => hnn j (List.mem_range.1 hj))
      have e1 : (List.range (xs.take len).flatten.length).flatMap nn = [] := List.flatMap_eq_nil_iff.2 (fun j hj => hnn j (Nat.lt_of_lt_of_le (List.mem_range.1 hj) hle))
      have hl2 : (xs.take len).length = len := by simp; omega
      have := PVO.own (Z := L.Z) (w := w) sz (xs.take len) k _ cur ty (fun es hes => hlen es (List.mem_of_mem_take hes)) hk hsz ⟨by omega, hc'.2⟩ hm u nn (fun j hj => hcell j (by omega)) (fun j p hj => by
        rw [hfl, List.getElem?_take] at hj
        split at hj
        · exact hp j p hj
        · cases hj)
      rw [e1, hl2] at this
      rw [e0]
      exact this
theorem Gvs.ok (h : Rel w0 I n L s a w) {aL : List AV} {ps : List PV} {K : List Nat} (g : Gvs s aL ps K) : ∀ {us : List Value} (_ : AVRs L w s aL us), us.length = ps.length ∧ ∃ m : Nat → List Nat, (List.range ps.length).flatMap m = K.flatMap L.ν ∧ ∀ j p, ps[j]? = some p → ∃ u, us[j]? = some u ∧ PVO L.Z w p u (m j) := by
  induction g with
  | nil =>
    intro us hv
    cases us with
    | nil => exact ⟨rfl, fun _ => [], by simp, by simp⟩
    | cons _ _ => simp [AVRs] at hv
  | cons g t ih =>
    intro us hv
    cases us with
    | nil => simp [AVRs] at hv
    | cons u us =>
      simp only [AVRs] at hv
      obtain ⟨h1, m, h2, h3⟩ := ih hv.2
      rename_i _ _ K0 _ _ _
      refine ⟨by simp [h1], fun j => match j with | 0 => K0.flatMap L.ν | j + 1 => m j, ?_, fun j p hj => ?_⟩
      · rw [List.length_cons, List.range_succ_eq_map, List.flatMap_cons, List.flatMap_map, List.flatMap_append, ← h2]
      · cases j with
        | zero => simp at hj; subst hj; exact ⟨u, rfl, g.ok h hv.1⟩
        | succ j => simp at hj; simpa using h3 j p hj
/-- The blocks of rows that are all different. -/
theorem Rel.nodup (h : Rel w0 I n L s a w) : ∀ {K : List Nat}, K.Nodup → (∀ i ∈ K, (s.r i).isSome) → (K.flatMap L.ν).Nodup ∧ ∀ k ∈ K.flatMap L.ν, ∃ i ∈ K, L.lab k = some (.row i)
  | [], _, _ => by simp
  | i :: K, hn, hs => by
    obtain ⟨⟨sz, xs⟩, hx⟩ := Option.isSome_iff_exists.1 (hs i (by simp))
    obtain ⟨h1, h2, h3⟩ := h.rw i sz xs hx
    obtain ⟨h4, h5⟩ := Rel.nodup h (List.nodup_cons.1 hn).2 (fun j hj => hs j (by simp [hj]))
    rw [List.flatMap_cons]
    refine ⟨List.nodup_append.2 ⟨h2, h4, fun k hk k' hk' e => ?_⟩, fun k hk => ?_⟩
    · subst e
      obtain ⟨j, hj, hl⟩ := h5 k hk'
      rw [h3 k hk] at hl
      simp only [Option.some.injEq, Lab.row.injEq] at hl
      subst hl
      exact (List.nodup_cons.1 hn).1 hj
    · rcases List.mem_append.1 hk with hk | hk
      · exact ⟨i, by simp, h3 k hk⟩
      · obtain ⟨j, hj, hl⟩ := h5 k hk
        exact ⟨j, by simp [hj], hl⟩
theorem Gvs.rows {aL : List AV} {ps : List PV} {K : List Nat} (g : Gvs s aL ps K) : ∀ i ∈ K, (s.r i).isSome := by
  induction g with
  | nil => simp
  | cons g _ ih =>
    intro i hi
    rcases List.mem_append.1 hi with hi | hi
    · cases g with
      | row hr hl => simp at hi; subst hi; rw [hr]; rfl
      | pre hr hl hn => simp at hi; subst hi; rw [hr]; rfl
      | _ => simp at hi
    · exact ih i hi
end

end Go.Rl

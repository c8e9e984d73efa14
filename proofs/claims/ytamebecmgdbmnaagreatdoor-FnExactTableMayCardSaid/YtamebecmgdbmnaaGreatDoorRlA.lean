/- Promises of functions, proved by walks over their operations; no conditions beyond those that each theorem states. -/
import Derived.WalkKit
import Derived.KernelRfl
import Derived.Below
import Derived.Orders
import Derived.Laws.AppendOwn
import Derived.Laws.StructEq
import Derived.Laws.Slices
set_option linter.unusedSimpArgs false
set_option linter.unusedVariables false
namespace Go.Rl
open Go.RowKit

inductive PV where
 | v (x : Value)
 | sl (own : Bool) (sz : Nat) (xs : List (List PV))
 | clo (f : Nat) (xs : List (List PV))
 deriving Inhabited

structure Same (I : List Nat) (w w' : World) : Prop where
 os : w'.os = w.os
 tape : w'.tape = w.tape
 output : w'.output = w.output
 size : w.heap.size ≤ w'.heap.size
 block : ∀ k, k < w.heap.size → k ∉ I → w'.heap[k]? = w.heap[k]?
theorem Same.refl (I : List Nat) (w : World) : Same I w w := ⟨rfl, rfl, rfl, Nat.le_refl _, fun _ _ _ => rfl⟩
theorem Same.trans {I J : List Nat} {a b c : World} (h : Same I a b) (k : Same J b c) (hj : ∀ x, x < a.heap.size → x ∉ I → x ∉ J) : Same I a c :=
 ⟨k.os.trans h.os, k.tape.trans h.tape, k.output.trans h.output, Nat.le_trans h.size k.size,
 fun x hx hI => (k.block x (Nat.lt_of_lt_of_le hx h.size) (hj x hx hI)).trans (h.block x hx hI)⟩
theorem Same.below {w w' : World} (h : Same [] w w') : Below w.heap.size w w' := ⟨h.os, h.tape, h.output, h.size, fun k hk => h.block k hk (by simp)⟩

theorem zFR {w w' : World} {k o : Nat} (h : w'.heap[k]? = w.heap[k]?) : w'.cell? ⟨k, o, none⟩ = w.cell? ⟨k, o, none⟩ := by
 simp [World.cell?, h]

inductive PVR (Z : Nat → Prop) (w : World) : PV → Value → Prop where
 | v (x : Value) (h : x.oneCell' = true) : PVR Z w (.v x) x
 | emp (own : Bool) (sz : Nat) (A : Option Addr) (c : Nat) : PVR Z w (.sl own sz []) (.slice A 0 c)
 | sl (own : Bool) (sz : Nat) (xs : List (List PV)) (k off c : Nat) (hlen : ∀ es ∈ xs, es.length = sz) (hc : xs.length ≤ c) (hz : Z k) (u : Nat → Value)
   (hcell : ∀ j, j < xs.flatten.length → w.cell? ⟨k, off + j, none⟩ = some (u j)) (hp : ∀ j p, xs.flatten[j]? = some p → PVR Z w p (u j)) :
   PVR Z w (.sl own sz xs) (.slice (some ⟨k, off, none⟩) xs.length c)
 | clo (f : Nat) (xs : List (List PV)) (ks : List Nat) (hl : ks.length = xs.length) (hz : ∀ k ∈ ks, Z k) (u : Nat → Nat → Value)
   (hcell : ∀ i j es k p, xs[i]? = some es → ks[i]? = some k → es[j]? = some p → w.cell? ⟨k, j, none⟩ = some (u i j)) (hp : ∀ i j es p, xs[i]? = some es → es[j]? = some p → PVR Z w p (u i j)) :
   PVR Z w (.clo f xs) (.func (.func f) #[] ⟨ks.map fun k => .pointer (some ⟨k, 0, none⟩)⟩)

theorem PVR.mono {Z Z' : Nat → Prop} {w w' : World} {p : PV} {v : Value} (h : PVR Z w p v) (hw : ∀ k, Z k → w'.heap[k]? = w.heap[k]?) (hz : ∀ k, Z k → Z' k) : PVR Z' w' p v := by
 induction h with
 | v x h => exact .v x h
 | emp own sz A c => exact .emp own sz A c
 | sl own sz xs k off c hlen hc hk u hcell hp ih =>
  exact .sl own sz xs k off c hlen hc (hz k hk) u (fun j hj => (zFR (hw k hk)).trans (hcell j hj)) ih
 | clo f xs ks hl hks u hcell hp ih =>
  exact .clo f xs ks hl (fun k hk => hz k (hks k hk)) u (fun i j es k p h1 h2 h3 => (zFR (hw k (hks k (List.mem_of_getElem? h2)))).trans (hcell i j es k p h1 h2 h3)) ih

theorem PVR.one {Z : Nat → Prop} {w : World} {p : PV} {v : Value} (h : PVR Z w p v) : v.oneCell' = true := by
 cases h <;> first | assumption | rfl

def FzOk (fz : Nat × Nat) (n sz : Nat) : Prop := fz = (0, 0) ∨ (n ≤ fz.1 ∧ sz = 1)
theorem FzOk.free {fz : Nat × Nat} {n sz : Nat} (h : FzOk fz n sz) : fz = (0, 0) ∨ n ≤ fz.1 := h.imp (fun h => h) (·.1)
theorem FzOk.zero {fz : Nat × Nat} {n sz : Nat} (h : FzOk fz n sz) (h1 : sz ≠ 1) : fz = (0, 0) := h.resolve_right (fun q => h1 q.2)
inductive PVO (Z : Nat → Prop) (w : World) : PV → Value → List Nat → Prop where
 | v (x : Value) (h : x.oneCell' = true) : PVO Z w (.v x) x []
 | fro (sz : Nat) (xs : List (List PV)) (v : Value) (h : PVR Z w (.sl false sz xs) v) : PVO Z w (.sl false sz xs) v []
 | clo (f : Nat) (xs : List (List PV)) (v : Value) (h : PVR Z w (.clo f xs) v) : PVO Z w (.clo f xs) v []
 | nil (sz : Nat) (A : Option Addr) : PVO Z w (.sl true sz []) (.slice A 0 0) []
 | own {fz : Nat × Nat} (sz : Nat) (xs : List (List PV)) (k c : Nat) (cur : Array Value) (ty : TypeId) (hlen : ∀ es ∈ xs, es.length = sz) (hk : w.heap[k]? = some (.cells cur ty fz))
   (hsz : cur.size = c * sz) (hc : xs.length ≤ c ∧ 0 < c) (hm : c ≤ maxLen) (u : Nat → Value) (n : Nat → List Nat)
   (hcell : ∀ j, j < xs.flatten.length → cur[j]? = some (u j)) (hp : ∀ j p, xs.flatten[j]? = some p → PVO Z w p (u j) (n j)) (hfz : FzOk fz cur.size sz) :
   PVO Z w (.sl true sz xs) (.slice (some ⟨k, 0, none⟩) xs.length c) (k :: (List.range xs.flatten.length).flatMap n)

theorem PVO.mono {Z Z' : Nat → Prop} {w w' : World} {p : PV} {v : Value} {N : List Nat} (h : PVO Z w p v N) (hw : ∀ k, Z k → w'.heap[k]? = w.heap[k]?) (hn : ∀ k, k ∈ N → w'.heap[k]? = w.heap[k]?) (hz : ∀ k, Z k → Z' k) : PVO Z' w' p v N := by
 induction h with
 | v x h => exact .v x h
 | fro sz xs v h => exact .fro sz xs v (h.mono hw hz)
 | clo f xs v h => exact .clo f xs v (h.mono hw hz)
 | nil sz A => exact .nil sz A
 | own sz xs k c cur ty hlen hk hsz hc hm u n hcell hp hfz ih =>
  refine .own sz xs k c cur ty hlen ((hn k (by simp)).trans hk) hsz hc hm u n hcell (fun j p hj => ih j p hj (fun x hx => hn x ?_)) hfz
  have hlt : j < xs.flatten.length := (List.getElem?_eq_some_iff.1 hj).1
  simp only [List.mem_cons, List.mem_flatMap, List.mem_range]
  exact .inr ⟨j, hlt, hx⟩

theorem PVO.toR {Z : Nat → Prop} {w : World} {p : PV} {v : Value} {N : List Nat} (h : PVO Z w p v N) : PVR (fun k => Z k ∨ k ∈ N) w p v := by
 induction h with
 | v x h => exact .v x h
 | fro sz xs v h => exact h.mono (fun _ _ => rfl) (fun _ h => .inl h)
 | clo f xs v h => exact h.mono (fun _ _ => rfl) (fun _ h => .inl h)
 | nil sz A => exact .emp _ _ _ _
 | own sz xs k c cur ty hlen hk hsz hc hm u n hcell hp hfz ih =>
  refine .sl _ sz xs k 0 c hlen hc.1 (.inr (by simp)) u (fun j hj => ?_) (fun j p hj => (ih j p hj).mono (fun _ _ => rfl) (fun x hx => ?_))
  ·
   simp only [World.cell?, hk, Nat.zero_add]
   simpa using hcell j hj
  ·
   have hlt : j < xs.flatten.length := (List.getElem?_eq_some_iff.1 hj).1
   rcases hx with hx | hx
   · exact .inl hx
   ·
    refine .inr ?_
    simp only [List.mem_cons, List.mem_flatMap, List.mem_range]
    exact .inr ⟨j, hlt, hx⟩

theorem PVO.one {Z : Nat → Prop} {w : World} {p : PV} {v : Value} {N : List Nat} (h : PVO Z w p v N) : v.oneCell' = true := h.toR.one

theorem PVO.lt {Z : Nat → Prop} {w : World} {p : PV} {v : Value} {N : List Nat} (h : PVO Z w p v N) : ∀ k ∈ N, k < w.heap.size := by
 induction h with
 | v x h => simp
 | fro sz xs v h => simp
 | clo f xs v h => simp
 | nil sz A => simp
 | own sz xs k c cur ty hlen hk hsz hc hm u n hcell hp hfz ih =>
  intro x hx
  simp only [List.mem_cons, List.mem_flatMap, List.mem_range] at hx
  rcases hx with rfl | ⟨j, hj, hx⟩
  · exact (Array.getElem?_eq_some_iff.1 hk).1
  · exact ih j _ (List.getElem?_eq_getElem hj) x hx

inductive AV where
 | undef
 | p (d : Option Nat) (x : PV)
 | sl (id lo len : Nat)
 | ptr (b off : Nat)
 | ea (id i off : Nat)
 | fea (d : Option Nat) (ps : List PV)
 | nils
 | sat (A : Value → Prop)
 | clo (f : Nat) (bs : List Nat)
 | agg (cs : List AV)
 | tup (vs : List AV)
 deriving Inhabited

structure St where
 t : Nat → AV
 b : Nat → Option (List AV)
 r : Nat → Option (Nat × List (List PV))

inductive Lab where
 | box (i : Nat)
 | row (i : Nat)
 deriving DecidableEq

structure Pl where
 Z : Nat → Prop
 β : Nat → Nat
 ρ : Nat → Value
 ν : Nat → List Nat
 lab : Nat → Option Lab

def Pl.zd (L : Pl) (d : Option Nat) : Nat → Prop := fun k => L.Z k ∨ ∃ id, d = some id ∧ k ∈ (L.ν id).tail

def View (h : Value) (sz lo len : Nat) (v : Value) : Prop :=
 ∃ A n c A' c', h = .slice A n c ∧ v = .slice A' len c' ∧ len ≤ c' ∧ (lo = 0 → A' = A ∧ c' = c) ∧ (0 < len → ∃ k, A = some ⟨k, 0, none⟩ ∧ A' = some ⟨k, lo * sz, none⟩)

mutual
def AVR (L : Pl) (w : World) (s : St) : AV → Value → Prop
 | .undef, _ => True
 | .p d x, v => PVR (L.zd d) w x v ∧ ∀ id, d = some id → (s.r id).isSome
 | .sl id lo len, v => ∃ sz xs, s.r id = some (sz, xs) ∧ lo + len ≤ xs.length ∧ View (L.ρ id) sz lo len v
 | .ptr b off, v => (s.b b).isSome ∧ v = .pointer (some ⟨L.β b, off, none⟩)
 | .ea id i off, v => ∃ sz xs k n c, s.r id = some (sz, xs) ∧ i < xs.length ∧ L.ρ id = .slice (some ⟨k, 0, none⟩) n c ∧ v = .pointer (some ⟨k, i * sz + off, none⟩)
 | .fea d ps, v => (∃ k off, v = .pointer (some ⟨k, off, none⟩) ∧ L.zd d k ∧ ∀ j p, ps[j]? = some p → ∃ u, w.cell? ⟨k, off + j, none⟩ = some u ∧ PVR (L.zd d) w p u) ∧ ∀ id, d = some id → (s.r id).isSome
 | .nils, v => ∃ A, v = .slice A 0 0
 | .sat A, v => A v
 | .clo f bs, v => (∀ b ∈ bs, (s.b b).isSome) ∧ v = .func (.func f) #[] ⟨bs.map fun b => .pointer (some ⟨L.β b, 0, none⟩)⟩
 | .agg cs, v => ∃ us, v = .agg ⟨us⟩ ∧ AVRs L w s cs us
 | .tup vs, v => ∃ us, v = .tuple ⟨us⟩ ∧ AVRs L w s vs us
def AVRs (L : Pl) (w : World) (s : St) : List AV → List Value → Prop
 | [], [] => True
 | a :: aL, u :: us => AVR L w s a u ∧ AVRs L w s aL us
 | _, _ => False
end

end Go.Rl
namespace Go.Rl
open Go.RowKit

mutual
def AV.kill (K : List Nat) : AV → AV
 | .undef => .undef
 | .p none x => .p none x
 | .p (some d) x => if d ∈ K then .undef else .p (some d) x
 | .sl id lo len => if id ∈ K then .undef else .sl id lo len
 | .ptr b off => .ptr b off
 | .ea id j off => if id ∈ K then .undef else .ea id j off
 | .fea none ps => .fea none ps
 | .fea (some d) ps => if d ∈ K then .undef else .fea (some d) ps
 | .nils => .nils
 | .sat A => .sat A
 | .clo f bs => .clo f bs
 | .agg cs => .agg (AV.kills K cs)
 | .tup cs => .tup (AV.kills K cs)
def AV.kills (K : List Nat) : List AV → List AV
 | [] => []
 | a :: aL => AV.kill K a :: AV.kills K aL
end

mutual
theorem AV.kill_nil : ∀ a : AV, AV.kill [] a = a
 | .undef => rfl
 | .p none x => rfl
 | .p (some d) x => by simp [AV.kill]
 | .sl id lo len => by simp [AV.kill]
 | .ptr b off => rfl
 | .ea id j off => by simp [AV.kill]
 | .fea none ps => rfl
 | .fea (some d) ps => by simp [AV.kill]
 | .nils => rfl
 | .sat A => rfl
 | .clo f bs => rfl
 | .agg cs => by rw [AV.kill, AV.kills_nil cs]
 | .tup cs => by rw [AV.kill, AV.kills_nil cs]
theorem AV.kills_nil : ∀ aL : List AV, AV.kills [] aL = aL
 | [] => rfl
 | a :: aL => by rw [AV.kills, AV.kill_nil a, AV.kills_nil aL]
end

structure Moves (K : List Nat) (L L' : Pl) (w w' : World) (s s' : St) : Prop where
 z : ∀ k, L.Z k → L'.Z k ∧ w'.heap[k]? = w.heap[k]?
 n : ∀ id k, id ∉ K → (s.r id).isSome → k ∈ (L.ν id).tail → (L'.Z k ∨ k ∈ (L'.ν id).tail) ∧ w'.heap[k]? = w.heap[k]?
 b : ∀ b, (s.b b).isSome → (s'.b b).isSome ∧ L'.β b = L.β b
 r : ∀ id sz xs, id ∉ K → s.r id = some (sz, xs) → ∃ xs', s'.r id = some (sz, xs') ∧ xs'.length = xs.length ∧ L'.ρ id = L.ρ id

theorem Moves.zd {K : List Nat} {L L' : Pl} {w w' : World} {s s' : St} (h : Moves K L L' w w' s s') {d : Option Nat} (hd : ∀ id, d = some id → (s.r id).isSome) (hi : ∀ id, d = some id → id ∉ K) :
  ∀ k, L.zd d k → L'.zd d k ∧ w'.heap[k]? = w.heap[k]? := by
 intro k hk
 rcases hk with hk | ⟨id, rfl, hk⟩
 · exact ⟨.inl (h.z k hk).1, (h.z k hk).2⟩
 ·
  obtain ⟨h1, h2⟩ := h.n id k (hi id rfl) (hd id rfl) hk
  exact ⟨h1.imp (fun h => h) (fun h => ⟨id, rfl, h⟩), h2⟩

theorem Moves.some {K : List Nat} {L L' : Pl} {w w' : World} {s s' : St} (h : Moves K L L' w w' s s') {id : Nat} (hne : id ∉ K) (hs : (s.r id).isSome) : (s'.r id).isSome := by
 obtain ⟨⟨sz, xs⟩, hx⟩ := Option.isSome_iff_exists.1 hs
 obtain ⟨xs', h', _⟩ := h.r id sz xs hne hx
 rw [h']; rfl

mutual
theorem AVR.move {K : List Nat} {L L' : Pl} {w w' : World} {s s' : St} (h : Moves K L L' w w' s s') : ∀ (av : AV) (v : Value), AVR L w s av v → AVR L' w' s' (av.kill K) v
 | .undef, v, _ => by simp [AV.kill, AVR]
 | .p none x, v, hv => by
  simp only [AV.kill, AVR] at hv ⊢
  refine ⟨hv.1.mono (fun k hk => (h.zd hv.2 (fun _ h => by cases h) k hk).2) (fun k hk => (h.zd hv.2 (fun _ h => by cases h) k hk).1), fun _ h => by cases h⟩
 | .p (some d) x, v, hv => by
  simp only [AV.kill]
  split
  · simp [AVR]
  ·
   rename_i hne
   simp only [AVR] at hv ⊢
   have hd := h.zd hv.2 (fun id hid => by cases hid; exact hne)
   refine ⟨hv.1.mono (fun k hk => (hd k hk).2) (fun k hk => (hd k hk).1), fun id hid => ?_⟩
   cases hid
   exact h.some hne (hv.2 d rfl)
 | .sl id lo len, v, hv => by
  simp only [AV.kill]
  split
  · simp [AVR]
  ·
   rename_i hne
   simp only [AVR] at hv ⊢
   obtain ⟨sz, xs, h1, h2, h3⟩ := hv
   obtain ⟨xs', h4, h5, h6⟩ := h.r id sz xs hne h1
   exact ⟨sz, xs', h4, by omega, by rw [h6]; exact h3⟩
 | .ptr b off, v, hv => by
  simp only [AV.kill, AVR] at hv ⊢
  obtain ⟨h1, h2⟩ := h.b b hv.1
  exact ⟨h1, by rw [h2]; exact hv.2⟩
 | .ea id j off, v, hv => by
  simp only [AV.kill]
  split
  · simp [AVR]
  ·
   rename_i hne
   simp only [AVR] at hv ⊢
   obtain ⟨sz, xs, k, n, c, h1, h2, h3, h4⟩ := hv
   obtain ⟨xs', h5, h6, h7⟩ := h.r id sz xs hne h1
   exact ⟨sz, xs', k, n, c, h5, by omega, by rw [h7]; exact h3, h4⟩
 | .fea none ps, v, hv => by
  simp only [AV.kill, AVR] at hv ⊢
  obtain ⟨⟨k, off, h1, h2, h3⟩, h4⟩ := hv
  have hd := h.zd h4 (fun _ h => by cases h)
  refine ⟨⟨k, off, h1, (hd k h2).1, fun j p hp => ?_⟩, fun _ h => by cases h⟩
  obtain ⟨u, hu, hr⟩ := h3 j p hp
  exact ⟨u, (zFR (hd k h2).2).trans hu, hr.mono (fun k hk => (hd k hk).2) (fun k hk => (hd k hk).1)⟩
 | .fea (some d) ps, v, hv => by
  simp only [AV.kill]
  split
  · simp [AVR]
  ·
   rename_i hne
   simp only [AVR] at hv ⊢
   obtain ⟨⟨k, off, h1, h2, h3⟩, h4⟩ := hv
   have hd := h.zd h4 (fun id hid => by cases hid; exact hne)
   refine ⟨⟨k, off, h1, (hd k h2).1, fun j p hp => ?_⟩, fun id hid => ?_⟩
   ·
    obtain ⟨u, hu, hr⟩ := h3 j p hp
    exact ⟨u, (zFR (hd k h2).2).trans hu, hr.mono (fun k hk => (hd k hk).2) (fun k hk => (hd k hk).1)⟩
   ·
    cases hid
    exact h.some hne (h4 d rfl)
 | .nils, v, hv => by simpa only [AV.kill, AVR] using hv
 | .sat A, v, hv => by simpa only [AV.kill, AVR] using hv
 | .clo f bs, v, hv => by
  simp only [AV.kill, AVR] at hv ⊢
  refine ⟨fun x hx => (h.b x (hv.1 x hx)).1, hv.2.trans ?_⟩
  have : (bs.map fun b => Value.pointer (some ⟨L.β b, 0, none⟩)) = bs.map fun b => Value.pointer (some ⟨L'.β b, 0, none⟩) := List.map_congr_left fun x hx => by rw [(h.b x (hv.1 x hx)).2]
  rw [this]
 | .agg cs, v, hv => by
  simp only [AV.kill, AVR] at hv ⊢
  obtain ⟨us, h1, h2⟩ := hv
  exact ⟨us, h1, AVRs.move h cs us h2⟩
 | .tup cs, v, hv => by
  simp only [AV.kill, AVR] at hv ⊢
  obtain ⟨us, h1, h2⟩ := hv
  exact ⟨us, h1, AVRs.move h cs us h2⟩
theorem AVRs.move {K : List Nat} {L L' : Pl} {w w' : World} {s s' : St} (h : Moves K L L' w w' s s') : ∀ (aL : List AV) (us : List Value), AVRs L w s aL us → AVRs L' w' s' (AV.kills K aL) us
 | [], [], _ => by simp [AV.kills, AVRs]
 | [], _ :: _, hv => by simp [AVRs] at hv
 | _ :: _, [], hv => by simp [AVRs] at hv
 | a :: aL, u :: us, hv => by
  simp only [AV.kills, AVRs] at hv ⊢
  exact ⟨AVR.move h a u hv.1, AVRs.move h aL us hv.2⟩
end

theorem AVRs.length {L : Pl} {w : World} {s : St} : ∀ {aL : List AV} {us : List Value}, AVRs L w s aL us → aL.length = us.length
 | [], [], _ => rfl
 | [], _ :: _, hv => by simp [AVRs] at hv
 | _ :: _, [], hv => by simp [AVRs] at hv
 | _ :: _, _ :: _, hv => by simp only [AVRs] at hv; simp [AVRs.length hv.2]
theorem AVRs.get {L : Pl} {w : World} {s : St} : ∀ {aL : List AV} {us : List Value}, AVRs L w s aL us → ∀ (j : Nat) (a : AV), aL[j]? = some a → ∃ u, us[j]? = some u ∧ AVR L w s a u
 | [], _, _, j, a, h => by simp at h
 | _ :: _, [], hv, _, _, _ => by simp [AVRs] at hv
 | x :: aL, u :: us, hv, j, a, h => by
  simp only [AVRs] at hv
  cases j with
  | zero => simp at h; subst h; exact ⟨u, rfl, hv.1⟩
  | succ j => simp at h; simpa using AVRs.get hv.2 j a h
theorem AVRs.mk {L : Pl} {w : World} {s : St} : ∀ {aL : List AV} {us : List Value}, aL.length = us.length → (∀ (j : Nat) a u, aL[j]? = some a → us[j]? = some u → AVR L w s a u) → AVRs L w s aL us
 | [], [], _, _ => by simp [AVRs]
 | [], _ :: _, h, _ => by simp at h
 | _ :: _, [], h, _ => by simp at h
 | a :: aL, u :: us, h, hp => by
  simp only [AVRs]
  exact ⟨hp 0 a u rfl rfl, AVRs.mk (by simpa using h) (fun j a u h1 h2 => hp (j + 1) a u (by simpa using h1) (by simpa using h2))⟩

def upd {α : Type} (f : Nat → α) (i : Nat) (x : α) : Nat → α := fun j => match Nat.beq j i with
 | true => x
 | false => f j
@[simp] theorem upd_self {α : Type} (f : Nat → α) (i : Nat) (x : α) : upd f i x i = x := by simp [upd]
theorem zBd {α : Type} (f : Nat → α) {i j : Nat} (x : α) (h : j ≠ i) : upd f i x j = f j := by
 have : Nat.beq j i = false := by
  cases e : Nat.beq j i with
  | false => rfl
  | true => exact absurd (Nat.eq_of_beq_eq_true e) h
 simp only [upd, this]

def St.put (s : St) (d : Option Tmp) (v : AV) : St := match d with
 | some d => { s with t := upd s.t d v }
 | none => s
def St.setB (s : St) (i : Nat) (cs : List AV) : St := { s with b := upd s.b i (some cs) }
def St.setR (s : St) (i sz : Nat) (xs : List (List PV)) : St := { s with r := upd s.r i (some (sz, xs)) }
def St.kill (s : St) (K : List Nat) : St := { t := fun j => (s.t j).kill K, b := fun j => (s.b j).map (AV.kills K), r := fun j => if j ∈ K then none else s.r j }

@[simp] theorem St.put_b (s : St) (d v) : (s.put d v).b = s.b := by cases d <;> rfl
@[simp] theorem St.put_r (s : St) (d v) : (s.put d v).r = s.r := by cases d <;> rfl

structure Fr where
 I : List Nat
 ρ : Nat → Value
 β : Nat → Nat
 Z : Nat → Prop
 df : List Deferred
def pinT : Nat := 100000
def Cl (w : World) (k : Nat) : Prop := ∃ cur ty z, w.heap[k]? = some (.cells cur ty z)
theorem Cl.of {w w' : World} {k : Nat} (h : Cl w k) (e : w'.heap[k]? = w.heap[k]?) : Cl w' k := by
 obtain ⟨c, t, z, h⟩ := h
 exact ⟨c, t, z, e.trans h⟩
theorem PVO.cl {Z : Nat → Prop} {w : World} {p : PV} {v : Value} {N : List Nat} (h : PVO Z w p v N) : ∀ k ∈ N, Cl w k := by
 induction h with
 | v | fro | clo | nil => intro k hk; cases hk
 | own sz xs k c cur ty hlen hk hsz hc hm u n hcell hp hfz ih =>
  intro k' hk'
  rcases List.mem_cons.1 hk' with rfl | hk'
  · exact ⟨_, _, _, hk⟩
  ·
   obtain ⟨j, hj, hm⟩ := List.mem_flatMap.1 hk'
   have hlt := List.mem_range.1 hj
   exact ih j _ (List.getElem?_eq_getElem hlt) k' hm
structure Rel (w0 : World) (I : Fr) (n : Nat) (L : Pl) (s : St) (a : Act) (w : World) : Prop where
 same : Same I.I w0 w
 zlt : ∀ k, L.Z k → k < w.heap.size ∧ L.lab k = none
 llt : ∀ k l, L.lab k = some l → k < w.heap.size ∧ (w0.heap.size ≤ k ∨ k ∈ I.I)
 sz : a.tmps.size = n
 df : a.defers = I.df
 tm : ∀ i, AVR L w s (s.t i) (a.tmps.getD i undef)
 bx : ∀ i cs, s.b i = some cs → L.lab (L.β i) = some (.box i) ∧ ∃ us ty, w.heap[L.β i]? = some (.cells ⟨us⟩ ty (0, 0)) ∧ AVRs L w s cs us ∧ ∀ u ∈ us, u.oneCell' = true
 rw : ∀ i sz xs, s.r i = some (sz, xs) → PVO L.Z w (.sl true sz xs) (L.ρ i) (L.ν i) ∧ (L.ν i).Nodup ∧ ∀ k ∈ L.ν i, L.lab k = some (.row i)
 pr : ∀ i, pinT ≤ i → (s.r i).isSome → L.ρ i = I.ρ i
 pb : ∀ i, pinT ≤ i → (s.b i).isSome → L.β i = I.β i
 zi : ∀ k, L.Z k → I.Z k ∨ ((w0.heap.size ≤ k ∨ k ∈ I.I) ∧ Cl w k)

theorem zGo (L : Pl) (w : World) (s : St) (d v) : Moves [] L L w w s (s.put d v) where
 z k hk := ⟨hk, rfl⟩
 n _ k _ _ hk := ⟨.inr hk, rfl⟩
 b b hb := ⟨by simpa using hb, rfl⟩
 r id sz xs _ h := ⟨xs, by simpa using h, rfl, rfl⟩
theorem AVR.move0 {L L' : Pl} {w w' : World} {s s' : St} (h : Moves [] L L' w w' s s') {av : AV} {v : Value} (hv : AVR L w s av v) : AVR L' w' s' av v := by
 have := AVR.move h av v hv
 rwa [AV.kill_nil] at this
theorem AVRs.move0 {L L' : Pl} {w w' : World} {s s' : St} (h : Moves [] L L' w w' s s') {aL : List AV} {us : List Value} (hv : AVRs L w s aL us) : AVRs L' w' s' aL us := by
 have := AVRs.move h aL us hv
 rwa [AV.kills_nil] at this

theorem zOE {a : Act} {d : Option Tmp} {v : Value} (i : Nat) (hd : ∀ x, d = some x → x < a.tmps.size) : (a.put d v).tmps.getD i undef = if d = some i then v else a.tmps.getD i undef := by
 cases d with
 | none => simp [Act.put]
 | some d =>
  have hlt := hd d rfl
  simp only [Act.put, Option.some.injEq]
  by_cases h : d = i
  ·
   subst h
   simp [hlt]
  · simp [h, Array.getElem?_setIfInBounds_ne h]

theorem Rel.put {w0 : World} {I : Fr} {n : Nat} {L : Pl} {s : St} {a : Act} {w : World} (h : Rel w0 I n L s a w) {d : Option Tmp} (hd : ∀ x, d = some x → x < n) {av : AV} {v : Value} (hv : AVR L w s av v) :
  Rel w0 I n L (s.put d av) (a.put d v) w where
 same := h.same
 zlt := h.zlt
 llt := h.llt
 sz := by cases d <;> simp [Act.put, h.sz]
 df := by cases d <;> simp [Act.put, h.df]
 tm i := by
  rw [zOE i (fun x hx => by rw [h.sz]; exact hd x hx)]
  by_cases hi : d = some i
  ·
   subst hi
   simp only [if_true, St.put, upd_self]
   exact hv.move0 (zGo L w s (some i) av)
  ·
   rw [if_neg hi]
   have : (s.put d av).t i = s.t i := by
    cases d with
    | none => rfl
    | some d => exact zBd _ _ (fun e => hi (by rw [e]))
   rw [this]
   exact (h.tm i).move0 (zGo L w s d av)
 bx i cs hc := by
  rw [St.put_b] at hc
  obtain ⟨h1, us, ty, h2, h3, h4⟩ := h.bx i cs hc
  exact ⟨h1, us, ty, h2, h3.move0 (zGo L w s d av), h4⟩
 rw i sz xs hr := by
  rw [St.put_r] at hr
  exact h.rw i sz xs hr
 pr i hi hs := h.pr i hi (by rwa [St.put_r] at hs)
 pb i hi hs := h.pb i hi (by rwa [St.put_b] at hs)
 zi := h.zi

end Go.Rl
namespace Go.Rl
open Go.RowKit

def cst1 : Value → AV
 | .slice none 0 0 => .nils
 | v => if v.oneCell' then .p none (.v v) else .undef
def cst : Value → AV
 | .agg us => .agg (us.toList.map cst1)
 | v => cst1 v
def St.ev (s : St) : Operand → AV
 | .tmp t => s.t t
 | .const v => cst v
 | .func f => .p none (.clo f [])
 | .global _ => .undef

theorem zLF (L : Pl) (w : World) (s : St) (v : Value) : AVR L w s (cst1 v) v := by
 unfold cst1
 split
 ·
  simp only [AVR]
  exact ⟨none, rfl⟩
 ·
  split
  ·
   rename_i h
   simp only [AVR]
   exact ⟨.v _ h, fun _ h => by cases h⟩
  · simp [AVR]
theorem zIf (L : Pl) (w : World) (s : St) (v : Value) : AVR L w s (cst v) v := by
 unfold cst
 split
 ·
  rename_i us
  simp only [AVR]
  refine ⟨us.toList, rfl, ?_⟩
  generalize us.toList = l
  induction l with
  | nil => simp [AVRs]
  | cons u l ih => simp only [List.map_cons, AVRs]; exact ⟨zLF L w s u, ih⟩
 · exact zLF L w s _

section
variable {w0 : World} {I : Fr} {n : Nat} {L : Pl} {s : St} {a : Act} {w : World}
theorem Rel.ev (h : Rel w0 I n L s a w) (x : Operand) : AVR L w s (s.ev x) (a.eval x) := by
 cases x with
 | tmp t => exact h.tm t
 | const v => exact zIf L w s v
 | func f => simp only [St.ev, Act.eval, AVR]; exact ⟨.clo f [] [] rfl (by simp) (fun _ _ => undef) (by simp) (by simp), fun _ h => by cases h⟩
 | global g => simp [St.ev, AVR]
theorem Rel.evv (h : Rel w0 I n L s a w) {x : Operand} {d : Option Nat} {v : Value} (hx : s.ev x = .p d (.v v)) : a.eval x = v := by
 have := h.ev x
 rw [hx] at this
 simp only [AVR] at this
 cases this.1
 rfl
end

mutual
def AV.rows : AV → List Nat
 | .undef => []
 | .p d _ => d.toList
 | .sl id _ _ => [id]
 | .ptr _ _ => []
 | .ea id _ _ => [id]
 | .fea d _ => d.toList
 | .nils => []
 | .sat _ => []
 | .clo _ _ => []
 | .agg cs => AV.rowss cs
 | .tup cs => AV.rowss cs
def AV.rowss : List AV → List Nat
 | [] => []
 | a :: aL => AV.rows a ++ AV.rowss aL
end
mutual
def AV.bxs : AV → List Nat
 | .ptr b _ => [b]
 | .clo _ bs => bs
 | .agg cs => AV.bxss cs
 | .tup cs => AV.bxss cs
 | _ => []
def AV.bxss : List AV → List Nat
 | [] => []
 | a :: aL => AV.bxs a ++ AV.bxss aL
end

structure Dl where
 put : AV := .undef
 kill : List Nat := []
 setR : List (Nat × Nat × List (List PV)) := []
 setB : List (Nat × List AV) := []
def zBr (r : Nat → Option (Nat × List (List PV))) : List (Nat × Nat × List (List PV)) → Nat → Option (Nat × List (List PV))
 | [] => r
 | x :: l => zBr (upd r x.1 (some x.2)) l
def zEk (b : Nat → Option (List AV)) : List (Nat × List AV) → Nat → Option (List AV)
 | [] => b
 | x :: l => zEk (upd b x.1 (some x.2)) l
def St.killd (s : St) : List Nat → St
 | [] => s
 | k :: K => s.kill (k :: K)
theorem St.killd_eq (s : St) (K : List Nat) : s.killd K = s.kill K := by
 cases K with
 | cons k K => rfl
 | nil =>
  simp only [St.killd, St.kill]
  cases s
  simp only [List.not_mem_nil, if_false, St.mk.injEq, and_true]
  refine ⟨funext fun j => (AV.kill_nil _).symm, funext fun j => ?_⟩
  rename_i b _
  cases b j <;> simp [AV.kills_nil]
def Dl.app (δ : Dl) (d : Option Tmp) (s : St) : St :=
 St.put { t := (s.killd δ.kill).t, b := zEk (s.killd δ.kill).b δ.setB, r := zBr (s.killd δ.kill).r δ.setR } d δ.put

def Oper.asked (o : Oper) : List Operand := o.op.operands.toList
def zFr : Op → Bool
 | .move _ => true
 | .assign _ => true
 | _ => false
structure Ag (o : Oper) (M B : List Nat) (s s' : St) : Prop where
 ev : ∀ x, x ∈ Oper.asked o → s'.ev x = s.ev x
 r : ∀ x, x ∈ Oper.asked o → zFr o.op = false → ∀ id, id ∈ (s.ev x).rows → s'.r id = s.r id
 b : ∀ x, x ∈ Oper.asked o → zFr o.op = false → ∀ i, i ∈ (s.ev x).bxs → s'.b i = s.b i
 m : ∀ id, id ∈ M → s'.r id = s.r id
 n : ∀ i, i ∈ B → s'.b i = s.b i

abbrev Gho := Option (Nat × Obj)
def Gh (γ : Gho) (w : World) (B : List Nat) : Prop := ∀ k o, γ = some (k, o) → w.heap[k]? = some o ∧ k ∉ B
def StepOk (γ : Gho) (P : Program) (n : Nat) (o : Oper) (s s' : St) : Prop :=
 (∀ x, o.dst = some x → x < n) → ∀ w0 I L a w, Gh γ w0 I.I → Rel w0 I n L s a w → ∀ (K : Act → World → Prop) (Q : Exit → Act → World → Prop), (∀ L' v w', Rel w0 I n L' s' (a.put o.dst v) w' → K (a.put o.dst v) w') → o.wp P a w K Q
def StepD (γ : Gho) (P : Program) (n : Nat) (o : Oper) (M B : List Nat) (s : St) (δ : Dl) : Prop := ∀ s', Ag o M B s s' → StepOk γ P n o s' (δ.app o.dst s')

theorem app_put (d : Option Tmp) (s : St) (av : AV) : ({ put := av } : Dl).app d s = s.put d av := rfl

section
variable {γ : Gho} {P : Program} {n : Nat} {o : Oper} {M B : List Nat} {s : St}
theorem zA6 {av : AV} (h : ∀ s', Ag o M B s s' → ∀ w0 I L a w, Rel w0 I n L s' a w → ∃ v, (execOp a.eval o).run P w = .ok (.value v) w ∧ AVR L w s' av v) : StepD γ P n o M B s { put := av } := by
 intro s' ag hd w0 I L a w hG hr K Q hK
 obtain ⟨v, hv, ha⟩ := h s' ag w0 I L a w hr
 unfold Oper.wp
 rw [hv, app_put] at *
 exact hK L v w (hr.put hd ha)
theorem Ag.ev1 {s' : St} (ag : Ag o M B s s') {op : Op} (ho : o.op = op) {x : Operand} (hx : x ∈ op.operands.toList) : s'.ev x = s.ev x := ag.ev x (by unfold Oper.asked; rw [ho]; exact hx)
theorem Ag.r1 {s' : St} (ag : Ag o M B s s') {op : Op} (ho : o.op = op) {x : Operand} (hx : x ∈ op.operands.toList) {av : AV} (he : s.ev x = av) {id : Nat} (hid : id ∈ av.rows) (hl : zFr op = false := by rfl) : s'.r id = s.r id := ag.r x (by unfold Oper.asked; rw [ho]; exact hx) (by rw [ho]; exact hl) id (by rw [he]; exact hid)
theorem Ag.b1 {s' : St} (ag : Ag o M B s s') {op : Op} (ho : o.op = op) {x : Operand} (hx : x ∈ op.operands.toList) {av : AV} (he : s.ev x = av) {i : Nat} (hi : i ∈ av.bxs) (hl : zFr op = false := by rfl) : s'.b i = s.b i := ag.b x (by unfold Oper.asked; rw [ho]; exact hx) (by rw [ho]; exact hl) i (by rw [he]; exact hi)

theorem zBF {x : Operand} (ho : o.op = .move x) : StepD γ P n o M B s { put := s.ev x } :=
 zA6 fun s' ag w0 I L a w hr => ⟨a.eval x, by simp [execOp, ho], by rw [← ag.ev1 ho (by simp [Op.operands])]; exact hr.ev x⟩
theorem zL7 {x : Operand} (ho : o.op = .assign x) : StepD γ P n o M B s { put := s.ev x } :=
 zA6 fun s' ag w0 I L a w hr => ⟨a.eval x, by simp [execOp, ho], by rw [← ag.ev1 ho (by simp [Op.operands])]; exact hr.ev x⟩
theorem zAb {c x y : Operand} (ho : o.op = .pick c x y) {d : Option Nat} {t : Bool} (hc : s.ev c = .p d (.v (.bool t))) : StepD γ P n o M B s { put := if t then s.ev x else s.ev y } :=
 zA6 fun s' ag w0 I L a w hr => by
  have h := hr.evv ((ag.ev1 ho (by simp [Op.operands])).trans hc)
  cases t
  · exact ⟨a.eval y, by simp [execOp, ho, h, asBool], by simp only [Bool.false_eq_true, if_false]; rw [← ag.ev1 ho (by simp [Op.operands])]; exact hr.ev y⟩
  · exact ⟨a.eval x, by simp [execOp, ho, h, asBool], by simp only [if_true]; rw [← ag.ev1 ho (by simp [Op.operands])]; exact hr.ev x⟩
theorem zCO (L : Pl) (w : World) (s : St) {v : Value} (h : v.oneCell' = true) : AVR L w s (.p none (.v v)) v := by
 simp only [AVR]
 exact ⟨.v _ h, fun _ h => by cases h⟩
theorem zCp {op : BinOp} {xt yt : TypeId} {x y : Operand} (ho : o.op = .binOp op xt x y yt) {d d' : Option Nat} {vx vy v : Value} (hx : s.ev x = .p d (.v vx)) (hy : s.ev y = .p d' (.v vy)) (h1 : v.oneCell' = true)
  (hg : ∀ x y w, (eqGuard op xt x y vx vy).run P w = .ok () w) (hv : ∀ w, (binOp op xt vx vy).run P w = .ok v w) : StepD γ P n o M B s { put := .p none (.v v) } :=
 zA6 fun s' ag w0 I L a w hr => ⟨v, by simp [execOp, ho, hr.evv ((ag.ev1 ho (by simp [Op.operands])).trans hx), hr.evv ((ag.ev1 ho (by simp [Op.operands])).trans hy), hg, hv], zCO L w s' h1⟩
theorem zBE (op : BinOp) (t : TypeId) (x y : Operand) (a b : Value) (h : (∀ c, a ≠ .agg c) ∧ a ≠ .nilIface) (w : World) : (eqGuard op t x y a b).run P w = .ok () w := by
 unfold eqGuard
 cases op <;> cases a <;> first | rfl | (exfalso; exact h.1 _ rfl) | (exfalso; exact h.2 rfl)
section ints
variable {xt yt : TypeId} {x y : Operand} {d d' : Option Nat} {k k' : IntKind} {a b : Int}
theorem zOl (ho : o.op = .binOp .add xt x y yt) (hx : s.ev x = .p d (.v (.int k a))) (hy : s.ev y = .p d' (.v (.int k b))) : StepD γ P n o M B s { put := (.p none (.v (.int k (k.wrap (a + b))))) } :=
 zCp ho hx hy rfl (fun _ _ w => zBE _ _ _ _ _ _ (by simp) w) (fun w => by simp [binOp, Op.intArith])
theorem st_sub (ho : o.op = .binOp .sub xt x y yt) (hx : s.ev x = .p d (.v (.int k a))) (hy : s.ev y = .p d' (.v (.int k b))) : StepD γ P n o M B s { put := (.p none (.v (.int k (k.wrap (a - b))))) } :=
 zCp ho hx hy rfl (fun _ _ w => zBE _ _ _ _ _ _ (by simp) w) (fun w => by simp [binOp, Op.intArith])
theorem zOk (ho : o.op = .binOp .mul xt x y yt) (hx : s.ev x = .p d (.v (.int k a))) (hy : s.ev y = .p d' (.v (.int k b))) : StepD γ P n o M B s { put := (.p none (.v (.int k (k.wrap (a * b))))) } :=
 zCp ho hx hy rfl (fun _ _ w => zBE _ _ _ _ _ _ (by simp) w) (fun w => by simp [binOp, Op.intArith])
theorem zE8 (ho : o.op = .binOp .quo xt x y yt) (hx : s.ev x = .p d (.v (.int k a))) (hy : s.ev y = .p d' (.v (.int k b))) (hb : b ≠ 0) : StepD γ P n o M B s { put := (.p none (.v (.int k (k.wrap (a.tdiv b))))) } :=
 zCp ho hx hy rfl (fun _ _ w => zBE _ _ _ _ _ _ (by simp) w) (fun w => by simp [binOp, Op.intDiv, hb])
theorem zKZ (ho : o.op = .binOp .rem xt x y yt) (hx : s.ev x = .p d (.v (.int k a))) (hy : s.ev y = .p d' (.v (.int k b))) (hb : b ≠ 0) : StepD γ P n o M B s { put := (.p none (.v (.int k (a.tmod b)))) } :=
 zCp ho hx hy rfl (fun _ _ w => zBE _ _ _ _ _ _ (by simp) w) (fun w => by simp [binOp, Op.intDiv, hb])
def zDv (op : BinOp) (k : IntKind) (a b : Int) : Int :=
 let x := BitVec.ofInt k.bits a
 let y := BitVec.ofInt k.bits b
 k.wrap (match op with
  | .and => x &&& y
  | .or => x ||| y
  | .xor => x ^^^ y
  | _ => x &&& ~~~y).toNat
theorem zGM {op : BinOp} (ho : o.op = .binOp op xt x y yt) (hop : op = .and ∨ op = .or ∨ op = .xor ∨ op = .andNot) (hx : s.ev x = .p d (.v (.int k a))) (hy : s.ev y = .p d' (.v (.int k b))) : StepD γ P n o M B s { put := (.p none (.v (.int k (zDv op k a b)))) } :=
 zCp ho hx hy rfl (fun _ _ w => zBE _ _ _ _ _ _ (by simp) w) (fun w => by rcases hop with rfl | rfl | rfl | rfl <;> simp [binOp, Op.intBits, zDv])
theorem zOj (ho : o.op = .binOp .shl xt x y yt) (hx : s.ev x = .p d (.v (.int k a))) (hy : s.ev y = .p d' (.v (.int k' b))) (hb : 0 ≤ b) : StepD γ P n o M B s { put := (.p none (.v (.int k (k.wrap (a * 2 ^ min b.toNat k.bits))))) } :=
 zCp ho hx hy rfl (fun _ _ w => zBE _ _ _ _ _ _ (by simp) w) (fun w => by simp [binOp, Op.shift, Int.not_lt.2 hb])
theorem st_shr (ho : o.op = .binOp .shr xt x y yt) (hx : s.ev x = .p d (.v (.int k a))) (hy : s.ev y = .p d' (.v (.int k' b))) (hb : 0 ≤ b) : StepD γ P n o M B s { put := (.p none (.v (.int k (a.fdiv (2 ^ min b.toNat k.bits))))) } :=
 zCp ho hx hy rfl (fun _ _ w => zBE _ _ _ _ _ _ (by simp) w) (fun w => by simp [binOp, Op.shift, Int.not_lt.2 hb])
theorem zA9 (ho : o.op = .binOp .eql xt x y yt) (hx : s.ev x = .p d (.v (.int k a))) (hy : s.ev y = .p d' (.v (.int k b))) : StepD γ P n o M B s { put := (.p none (.v (.bool (decide (a = b))))) } :=
 zCp ho hx hy rfl (fun _ _ w => zBE _ _ _ _ _ _ (by simp) w) (fun w => by simp [binOp, Op.intCmp]; rfl)
theorem zB8 (ho : o.op = .binOp .neq xt x y yt) (hx : s.ev x = .p d (.v (.int k a))) (hy : s.ev y = .p d' (.v (.int k b))) : StepD γ P n o M B s { put := (.p none (.v (.bool (!decide (a = b))))) } :=
 zCp ho hx hy rfl (fun _ _ w => zBE _ _ _ _ _ _ (by simp) w) (fun w => by simp [binOp, Op.intCmp]; rfl)
theorem zAz (ho : o.op = .binOp .lss xt x y yt) (hx : s.ev x = .p d (.v (.int k a))) (hy : s.ev y = .p d' (.v (.int k b))) : StepD γ P n o M B s { put := (.p none (.v (.bool (decide (a < b))))) } :=
 zCp ho hx hy rfl (fun _ _ w => zBE _ _ _ _ _ _ (by simp) w) (fun w => by simp [binOp, Op.intCmp])
theorem zEA (ho : o.op = .binOp .leq xt x y yt) (hx : s.ev x = .p d (.v (.int k a))) (hy : s.ev y = .p d' (.v (.int k b))) : StepD γ P n o M B s { put := (.p none (.v (.bool (decide (a ≤ b))))) } :=
 zCp ho hx hy rfl (fun _ _ w => zBE _ _ _ _ _ _ (by simp) w) (fun w => by simp [binOp, Op.intCmp])
theorem zBH (ho : o.op = .binOp .gtr xt x y yt) (hx : s.ev x = .p d (.v (.int k a))) (hy : s.ev y = .p d' (.v (.int k b))) : StepD γ P n o M B s { put := (.p none (.v (.bool (decide (b < a))))) } :=
 zCp ho hx hy rfl (fun _ _ w => zBE _ _ _ _ _ _ (by simp) w) (fun w => by simp [binOp, Op.intCmp])
theorem zDF (ho : o.op = .binOp .geq xt x y yt) (hx : s.ev x = .p d (.v (.int k a))) (hy : s.ev y = .p d' (.v (.int k b))) : StepD γ P n o M B s { put := (.p none (.v (.bool (decide (b ≤ a))))) } :=
 zCp ho hx hy rfl (fun _ _ w => zBE _ _ _ _ _ _ (by simp) w) (fun w => by simp [binOp, Op.intCmp])
end ints
section strs
variable {xt yt : TypeId} {x y : Operand} {d d' : Option Nat} {a b : ByteArray}
theorem zAx (ho : o.op = .binOp .add xt x y yt) (hx : s.ev x = .p d (.v (.string a))) (hy : s.ev y = .p d' (.v (.string b))) (hb : a.size + b.size ≤ 9223372036854775807) : StepD γ P n o M B s { put := (.p none (.v (.string (a ++ b)))) } :=
 zCp ho hx hy rfl (fun _ _ w => zBE _ _ _ _ _ _ (by simp) w) (fun w => by
  have h : ¬ (IntKind.i64.max < ((a.size + b.size : Nat) : Int)) := by simp only [IntKind.max]; simp [IntKind.signed, IntKind.bits]; omega
  simp [binOp, Op.stringOp]; simpa using h)
end strs
end
end Go.Rl
namespace Go.Rl
open Go.RowKit

theorem zOV {w : World} {k o : Nat} {us : List Value} {ty : TypeId} {fr : Nat × Nat} (h : w.heap[k]? = some (.cells ⟨us⟩ ty fr)) : w.cell? ⟨k, o, none⟩ = us[o]? := by
 simp [World.cell?, h]
theorem AVRs.sub {L : Pl} {w : World} {s : St} {aL : List AV} {us : List Value} (h : AVRs L w s aL us) (o sz : Nat) : AVRs L w s ((aL.drop o).take sz) ((us.drop o).take sz) := by
 have hl := h.length
 refine AVRs.mk (by simp [hl]) (fun j a u h1 h2 => ?_)
 rw [List.getElem?_take] at h1 h2
 split at h1
 ·
  rename_i hj
  rw [if_pos hj] at h2
  rw [List.getElem?_drop] at h1 h2
  obtain ⟨u', hu, hr⟩ := h.get _ _ h1
  rw [h2] at hu
  cases hu
  exact hr
 · cases h1
theorem Addr.add0 (k o n : Nat) : Addr.add ⟨k, o, none⟩ n = ⟨k, o + n, none⟩ := Addr.add_lit k o n
theorem zCy {P : Program} {t : TypeId} {sz : Nat} (hag : ∀ w, (isAgg t).run P w = .ok true w) (hsz : ∀ w, (sizeOf t).run P w = .ok sz w) {w : World} {k o : Nat} {us : List Value} (hl : us.length = sz) (h : ∀ (j : Nat) u, us[j]? = some u → w.cell? ⟨k, o + j, none⟩ = some u) :
  (loadVar t ⟨k, o, none⟩).run P w = .ok (.agg ⟨us⟩) w := by
 subst hl
 have h2 := run_loadCells_list (P := P) w ⟨k, o, none⟩ us (fun j v hv => by rw [Addr.add0]; exact h j v hv)
 simp [loadVar, hag, hsz, h2]
theorem zCx {P : Program} {t : TypeId} (hag : ∀ w, (isAgg t).run P w = .ok false w) {w : World} {k o : Nat} {u : Value} (h : w.cell? ⟨k, o, none⟩ = some u) : (loadVar t ⟨k, o, none⟩).run P w = .ok u w := by
 simp [loadVar, hag, h]

section
variable {w0 : World} {I : Fr} {n : Nat} {L : Pl} {s : St} {a : Act} {w : World}
theorem Rel.box (h : Rel w0 I n L s a w) {i : Nat} {cs : List AV} (hb : s.b i = some cs) : ∃ us, AVRs L w s cs us ∧ ∀ (j : Nat) u, us[j]? = some u → w.cell? ⟨L.β i, j, none⟩ = some u := by
 obtain ⟨_, us, ty, h2, h3, _⟩ := h.bx i cs hb
 exact ⟨us, h3, fun j u hu => by rw [zOV h2]; exact hu⟩
theorem Rel.row (h : Rel w0 I n L s a w) {i sz : Nat} {xs : List (List PV)} (hr : s.r i = some (sz, xs)) : ((∃ A, L.ρ i = .slice A 0 0) ∧ xs = []) ∨
  ∃ k c, L.ρ i = .slice (some ⟨k, 0, none⟩) xs.length c ∧ (∀ es ∈ xs, es.length = sz) ∧ ∃ u : Nat → Value, (∀ j, j < xs.flatten.length → w.cell? ⟨k, j, none⟩ = some (u j)) ∧ ∀ j p, xs.flatten[j]? = some p → PVR (L.zd (some i)) w p (u j) := by
 obtain ⟨h1, h2, h3⟩ := h.rw i sz xs hr
 generalize hv : L.ρ i = v at h1
 generalize hn : L.ν i = N at h1
 cases h1 with
 | nil _ A => exact .inl ⟨⟨A, rfl⟩, rfl⟩
 | own _ _ k c cur ty hlen hk hsz hc hm u m hcell hp =>
  refine .inr ⟨k, c, rfl, hlen, u, fun j hj => ?_, fun j p hj => (hp j p hj).toR.mono (fun _ _ => rfl) (fun x hx => ?_)⟩
  ·
   simp only [World.cell?, hk]
   simpa using hcell j hj
  ·
   rcases hx with hx | hx
   · exact .inl hx
   ·
    refine .inr ⟨i, rfl, ?_⟩
    rw [hn]
    simp only [List.tail_cons, List.mem_flatMap, List.mem_range]
    exact ⟨j, (List.getElem?_eq_some_iff.1 hj).1, hx⟩
end

def PV.brw (d : Option Nat) : PV → AV
 | .v u => .p none (.v u)
 | .sl _ sz xs => .p d (.sl false sz xs)
 | .clo f xs => .p d (.clo f xs)
theorem PVR.flag {Z : Nat → Prop} {w : World} {o : Bool} {sz : Nat} {xs : List (List PV)} {v : Value} (h : PVR Z w (.sl o sz xs) v) (o' : Bool) : PVR Z w (.sl o' sz xs) v := by
 cases h with
 | emp _ _ A c => exact .emp _ _ _ _
 | sl _ _ _ k off c hlen hc hz u hcell hp => exact .sl _ _ _ k off c hlen hc hz u hcell hp
theorem zKS {L : Pl} {w : World} {s : St} {d : Option Nat} {p : PV} {v : Value} (h : PVR (L.zd d) w p v) (hd : ∀ id, d = some id → (s.r id).isSome) : AVR L w s (p.brw d) v := by
 cases p with
 | v u => cases h; exact zCO _ _ _ (by assumption)
 | sl o sz xs => simp only [PV.brw, AVR]; exact ⟨h.flag false, hd⟩
 | clo f xs => simp only [PV.brw, AVR]; exact ⟨h, hd⟩
theorem zLE {L : Pl} {w : World} {s : St} {d : Option Nat} {ps : List PV} {us : List Value} (hl : ps.length = us.length) (h : ∀ (j : Nat) p u, ps[j]? = some p → us[j]? = some u → PVR (L.zd d) w p u) (hd : ∀ id, d = some id → (s.r id).isSome) : AVRs L w s (ps.map (PV.brw d)) us := by
 refine AVRs.mk (by simpa using hl) (fun j a u h1 h2 => ?_)
 rw [List.getElem?_map] at h1
 cases hp : ps[j]? with
 | none => rw [hp] at h1; cases h1
 | some p => rw [hp] at h1; cases h1; exact zKS (h j p u hp h2) hd

section
variable {γ : Gho} {P : Program} {n : Nat} {o : Oper} {M B : List Nat} {s : St}
theorem zAW {t : TypeId} {x : Operand} (ho : o.op = .load t x) {b off sz : Nat} {cs : List AV} (hx : s.ev x = .ptr b off) (hb : s.b b = some cs) (hag : ∀ w, (isAgg t).run P w = .ok true w) (hsz : ∀ w, (sizeOf t).run P w = .ok sz w) (hl : off + sz ≤ cs.length) :
  StepD γ P n o M B s { put := .agg ((cs.drop off).take sz) } :=
 zA6 fun s' ag w0 I L a w hr => by
  have he := (ag.ev1 ho (by simp [Op.operands])).trans hx
  have hb' := (ag.b1 ho (by simp [Op.operands]) hx (i := b) (by simp [AV.bxs])).trans hb
  have h := hr.ev x
  rw [he] at h
  simp only [AVR] at h
  obtain ⟨us, h1, h2⟩ := hr.box hb'
  have hlen := h1.length
  refine ⟨.agg ⟨(us.drop off).take sz⟩, ?_, ?_⟩
  ·
   simp only [execOp, ho, h.2, Instr.loadAt, Instr.sureAddr, pure_bind, Sem.run_bind]
   rw [zCy hag hsz (us := (us.drop off).take sz) (by simp; omega) (fun j u hu => ?_)]
   · rfl
   ·
    rw [List.getElem?_take] at hu
    split at hu
    · rw [List.getElem?_drop] at hu; exact h2 _ _ hu
    · cases hu
  ·
   simp only [AVR]
   exact ⟨_, rfl, h1.sub off sz⟩
theorem zAD {t : TypeId} {x : Operand} (ho : o.op = .load t x) {b off : Nat} {cs : List AV} {av : AV} (hx : s.ev x = .ptr b off) (hb : s.b b = some cs) (hag : ∀ w, (isAgg t).run P w = .ok false w) (hav : cs[off]? = some av) :
  StepD γ P n o M B s { put := av } :=
 zA6 fun s' ag w0 I L a w hr => by
  have he := (ag.ev1 ho (by simp [Op.operands])).trans hx
  have hb' := (ag.b1 ho (by simp [Op.operands]) hx (i := b) (by simp [AV.bxs])).trans hb
  have h := hr.ev x
  rw [he] at h
  simp only [AVR] at h
  obtain ⟨us, h1, h2⟩ := hr.box hb'
  obtain ⟨u, hu, ha⟩ := h1.get off av hav
  refine ⟨u, ?_, ha⟩
  simp only [execOp, ho, h.2, Instr.loadAt, Instr.sureAddr, pure_bind, Sem.run_bind]
  rw [zCx hag (h2 off u hu)]
  rfl
theorem zIU {xs : List (List PV)} {sz : Nat} (hl : ∀ es ∈ xs, es.length = sz) {i j : Nat} {es : List PV} (hi : xs[i]? = some es) (hj : j < sz) : xs.flatten[i * sz + j]? = es[j]? := by
 induction xs generalizing i with
 | nil => simp at hi
 | cons e xs ih =>
  have he := hl e (by simp)
  cases i with
  | zero => simp at hi; subst hi; simp [List.getElem?_append_left (show j < e.length by omega)]
  | succ i =>
   simp at hi
   rw [List.flatten_cons, List.getElem?_append_right (by rw [he, Nat.succ_mul]; omega)]
   rw [show (i + 1) * sz + j - e.length = i * sz + j by rw [he, Nat.succ_mul]; omega]
   exact ih (fun es h => hl es (by simp [h])) hi
theorem zCg {xs : List (List PV)} {sz : Nat} (hl : ∀ es ∈ xs, es.length = sz) : xs.flatten.length = xs.length * sz := by
 induction xs with
 | nil => simp
 | cons e xs ih => rw [List.flatten_cons, List.length_append, ih (fun es h => hl es (by simp [h])), hl e (by simp), List.length_cons, Nat.succ_mul]; omega
theorem zM0 {xs : List (List PV)} {sz i j : Nat} (hl : ∀ es ∈ xs, es.length = sz) (hi : i < xs.length) (hj : j < sz) : i * sz + j < xs.flatten.length := by
 rw [zCg hl]
 have : (i + 1) * sz ≤ xs.length * sz := Nat.mul_le_mul_right _ hi
 rw [Nat.succ_mul] at this
 omega
theorem Rel.elem {w0 : World} {I : Fr} {L : Pl} {a : Act} {w : World} (h : Rel w0 I n L s a w) {id sz i : Nat} {xs : List (List PV)} (hr : s.r id = some (sz, xs)) {es : List PV} (hi : xs[i]? = some es) :
  ∃ k c, L.ρ id = .slice (some ⟨k, 0, none⟩) xs.length c ∧ es.length = sz ∧ ∃ u : Nat → Value, (∀ j, j < sz → w.cell? ⟨k, i * sz + j, none⟩ = some (u j)) ∧ ∀ j p, es[j]? = some p → PVR (L.zd (some id)) w p (u j) := by
 rcases h.row hr with ⟨_, rfl⟩ | ⟨k, c, h1, h2, u, h3, h4⟩
 · simp at hi
 ·
  have hil : i < xs.length := (List.getElem?_eq_some_iff.1 hi).1
  have hes : es.length = sz := h2 es (List.mem_of_getElem? hi)
  refine ⟨k, c, h1, hes, fun j => u (i * sz + j), fun j hj => h3 _ (zM0 h2 hil hj), fun j p hp => h4 _ p ?_⟩
  have hj : j < sz := by rw [← hes]; exact (List.getElem?_eq_some_iff.1 hp).1
  rw [zIU h2 hi hj]; exact hp
theorem zLM {t : TypeId} {x : Operand} (ho : o.op = .load t x) {id i off sz tz : Nat} {xs : List (List PV)} {es : List PV} (hx : s.ev x = .ea id i off) (hr : s.r id = some (sz, xs)) (hi : xs[i]? = some es) (hag : ∀ w, (isAgg t).run P w = .ok true w) (hsz : ∀ w, (sizeOf t).run P w = .ok tz w) (hl : off + tz ≤ es.length) :
  StepD γ P n o M B s { put := .agg (((es.drop off).take tz).map (PV.brw (some id))) } :=
 zA6 fun s' ag w0 I L a w hrl => by
  have he := (ag.ev1 ho (by simp [Op.operands])).trans hx
  have hr' := (ag.r1 ho (by simp [Op.operands]) hx (id := id) (by simp [AV.rows])).trans hr
  have h := hrl.ev x
  rw [he] at h
  simp only [AVR] at h
  obtain ⟨sz', xs', k, m, c, h1, h2, h3, h4⟩ := h
  rw [hr'] at h1
  cases h1
  obtain ⟨k', c', h5, hes, u, h6, h7⟩ := hrl.elem hr' hi
  rw [h3] at h5
  cases h5
  refine ⟨.agg ⟨(List.range tz).map fun j => u (off + j)⟩, ?_, ?_⟩
  ·
   simp only [execOp, ho, h4, Instr.loadAt, Instr.sureAddr, pure_bind, Sem.run_bind]
   rw [zCy hag hsz (us := (List.range tz).map fun j => u (off + j)) (by simp) (fun j v hv => ?_)]
   · rfl
   ·
    rw [List.getElem?_map] at hv
    by_cases hj : j < tz
    ·
     rw [List.getElem?_range hj] at hv
     cases hv
     rw [Nat.add_assoc]
     exact h6 (off + j) (by omega)
    · rw [List.getElem?_eq_none (by simpa using hj)] at hv; cases hv
  ·
   simp only [AVR]
   refine ⟨_, rfl, zLE (by simp; omega) (fun j p v hp hv => ?_) (fun id' h => by cases h; rw [hr']; rfl)⟩
   rw [List.getElem?_take] at hp
   split at hp
   ·
    rename_i hj
    rw [List.getElem?_map, List.getElem?_range hj] at hv
    cases hv
    rw [List.getElem?_drop] at hp
    exact h7 _ _ hp
   · cases hp
theorem zA3 {t : TypeId} {x : Operand} (ho : o.op = .load t x) {id i off sz : Nat} {xs : List (List PV)} {es : List PV} {p : PV} (hx : s.ev x = .ea id i off) (hr : s.r id = some (sz, xs)) (hi : xs[i]? = some es) (hag : ∀ w, (isAgg t).run P w = .ok false w) (hp : es[off]? = some p) :
  StepD γ P n o M B s { put := p.brw (some id) } :=
 zA6 fun s' ag w0 I L a w hrl => by
  have he := (ag.ev1 ho (by simp [Op.operands])).trans hx
  have hr' := (ag.r1 ho (by simp [Op.operands]) hx (id := id) (by simp [AV.rows])).trans hr
  have h := hrl.ev x
  rw [he] at h
  simp only [AVR] at h
  obtain ⟨sz', xs', k, m, c, h1, h2, h3, h4⟩ := h
  rw [hr'] at h1
  cases h1
  obtain ⟨k', c', h5, hes, u, h6, h7⟩ := hrl.elem hr' hi
  rw [h3] at h5
  cases h5
  have hlt : off < sz := by rw [← hes]; exact (List.getElem?_eq_some_iff.1 hp).1
  refine ⟨u off, ?_, zKS (h7 _ _ hp) (fun id' h => by cases h; rw [hr']; rfl)⟩
  simp only [execOp, ho, h4, Instr.loadAt, Instr.sureAddr, pure_bind, Sem.run_bind]
  rw [zCx hag (h6 off hlt)]
  rfl
theorem zBh {t : TypeId} {x : Operand} (ho : o.op = .load t x) {d : Option Nat} {ps : List PV} {tz : Nat} (hx : s.ev x = .fea d ps) (hag : ∀ w, (isAgg t).run P w = .ok true w) (hsz : ∀ w, (sizeOf t).run P w = .ok tz w) (hl : tz ≤ ps.length) :
  StepD γ P n o M B s { put := .agg ((ps.take tz).map (PV.brw d)) } :=
 zA6 fun s' ag w0 I L a w hrl => by
  have he := (ag.ev1 ho (by simp [Op.operands])).trans hx
  have h := hrl.ev x
  rw [he] at h
  simp only [AVR] at h
  obtain ⟨⟨k, off, h1, h2, h3⟩, h4⟩ := h
  have hex : ∀ j, ∃ u, j < ps.length → w.cell? ⟨k, off + j, none⟩ = some u ∧ ∀ p, ps[j]? = some p → PVR (L.zd d) w p u := by
   intro j
   by_cases hj : j < ps.length
   ·
    obtain ⟨u, hu, hp⟩ := h3 j _ (List.getElem?_eq_getElem hj)
    exact ⟨u, fun _ => ⟨hu, fun p hp' => by rw [List.getElem?_eq_getElem hj] at hp'; cases hp'; exact hp⟩⟩
   · exact ⟨undef, fun h => absurd h hj⟩
  obtain ⟨u, hu⟩ := Classical.axiomOfChoice hex
  refine ⟨.agg ⟨(List.range tz).map u⟩, ?_, ?_⟩
  ·
   simp only [execOp, ho, h1, Instr.loadAt, Instr.sureAddr, pure_bind, Sem.run_bind]
   rw [zCy hag hsz (us := (List.range tz).map u) (by simp) (fun j v hv => ?_)]
   · rfl
   ·
    rw [List.getElem?_map] at hv
    by_cases hj : j < tz
    ·
     rw [List.getElem?_range hj] at hv
     cases hv
     exact (hu j (by omega)).1
    · rw [List.getElem?_eq_none (by simpa using hj)] at hv; cases hv
  ·
   simp only [AVR]
   refine ⟨_, rfl, zLE (by simp; omega) (fun j p v hp hv => ?_) h4⟩
   rw [List.getElem?_take] at hp
   split at hp
   ·
    rename_i hj
    rw [List.getElem?_map, List.getElem?_range hj] at hv
    cases hv
    exact (hu j (by omega)).2 p hp
   · cases hp
theorem zBP {t : TypeId} {x : Operand} (ho : o.op = .load t x) {d : Option Nat} {ps : List PV} {p : PV} (hx : s.ev x = .fea d ps) (hag : ∀ w, (isAgg t).run P w = .ok false w) (hp : ps[0]? = some p) :
  StepD γ P n o M B s { put := p.brw d } :=
 zA6 fun s' ag w0 I L a w hrl => by
  have he := (ag.ev1 ho (by simp [Op.operands])).trans hx
  have h := hrl.ev x
  rw [he] at h
  simp only [AVR] at h
  obtain ⟨⟨k, off, h1, h2, h3⟩, h4⟩ := h
  obtain ⟨u, hu, hpr⟩ := h3 0 p hp
  refine ⟨u, ?_, zKS hpr h4⟩
  simp only [execOp, ho, h1, Instr.loadAt, Instr.sureAddr, pure_bind, Sem.run_bind]
  rw [zCx hag (by simpa using hu)]
  rfl
end
end Go.Rl
namespace Go.Rl
open Go.RowKit

def bnd (s : St) (x : Option Operand) (dflt : Int) : Option Int := match x with
 | none => some dflt
 | some x => match s.ev x with
  | .p _ (.v (.int _ i)) => some i
  | _ => none
theorem zGt {sz : Nat} : ∀ {xs : List (List PV)} (_ : ∀ es ∈ xs, es.length = sz) (l : Nat), (xs.drop l).flatten = xs.flatten.drop (l * sz)
 | [], _, l => by simp
 | e :: xs, hl, 0 => by simp
 | e :: xs, hl, l + 1 => by
  have he := hl e (by simp)
  rw [List.drop_succ_cons, zGt (fun es h => hl es (by simp [h])) l, List.flatten_cons, Nat.succ_mul, Nat.add_comm, ← List.drop_drop, ← he, List.drop_left]
theorem zFN {sz : Nat} : ∀ {xs : List (List PV)} (_ : ∀ es ∈ xs, es.length = sz) (l : Nat), (xs.take l).flatten = xs.flatten.take (l * sz)
 | [], _, l => by simp
 | e :: xs, hl, 0 => by simp
 | e :: xs, hl, l + 1 => by
  have he := hl e (by simp)
  have h2 : (e ++ xs.flatten).take (e.length + l * sz) = e ++ xs.flatten.take (l * sz) := by rw [List.take_append, List.take_of_length_le (by omega)]; congr 2; omega
  rw [List.take_succ_cons, List.flatten_cons, zFN (fun es h => hl es (by simp [h])) l, List.flatten_cons, Nat.succ_mul, Nat.add_comm, ← h2, he]
theorem PVR.cut {Z : Nat → Prop} {w : World} {o : Bool} {sz : Nat} {xs : List (List PV)} {A : Option Addr} {n c : Nat} (h : PVR Z w (.sl o sz xs) (.slice A n c)) {l m : Nat} (hm : l + m ≤ n) (A' : Option Addr) (c' : Nat) (hc : m ≤ c') (hA : 0 < m → ∃ k off, A = some ⟨k, off, none⟩ ∧ A' = some ⟨k, off + l * sz, none⟩) :
  PVR Z w (.sl o sz ((xs.drop l).take m)) (.slice A' m c') := by
 rcases Nat.eq_zero_or_pos m with rfl | hpos
 · rw [List.take_zero]; exact .emp _ _ _ _
 ·
  obtain ⟨k, off, rfl, rfl⟩ := hA hpos
  cases h with
  | emp _ _ _ _ => omega
  | sl _ _ _ _ _ _ hlen hcc hz u hcell hp =>
   have hlen' : ∀ es ∈ xs.drop l, es.length = sz := fun es h => hlen es (List.mem_of_mem_drop h)
   have hfl : ((xs.drop l).take m).flatten = (xs.flatten.drop (l * sz)).take (m * sz) := by rw [zFN hlen', zGt hlen]
   have hsz : ((xs.drop l).take m).length = m := by rw [List.length_take, List.length_drop]; omega
   have := PVR.sl (Z := Z) (w := w) o sz ((xs.drop l).take m) k (off + l * sz) c' (fun es h => hlen' es (List.mem_of_mem_take h)) (by omega) hz (fun j => u (l * sz + j)) (fun j hj => by
    rw [Nat.add_assoc]
    refine hcell _ ?_
    rw [hfl, List.length_take, List.length_drop] at hj
    omega) (fun j p hj => by
    rw [hfl, List.getElem?_take] at hj
    split at hj
    · rw [List.getElem?_drop] at hj; exact hp _ _ hj
    · cases hj)
   rwa [hsz] at this

section
variable {γ : Gho} {P : Program} {n : Nat} {o : Oper} {M B : List Nat} {s : St}
theorem zEt {t : TypeId} {fs : Array Field} {f : Nat} {fld : Field} {sz : Nat} (hu : P.underlying t = some (.struct fs)) (hf : fs[f]? = some fld) (hsz : ∀ w, (sizeOf fld.type).run P w = .ok sz w) (hz : sz ≠ 0) (k off : Nat) (w : World) :
  (Instr.fieldAt t (.pointer (some ⟨k, off, none⟩)) f).run P w = .ok (.pointer (some ⟨k, off + fld.offset, none⟩)) w := by
 simp [Instr.fieldAt, run_underlying hu, hf, Instr.sureAddr, fieldPlace, hsz, hz, Addr.add0]
section faddr
variable {t : TypeId} {x : Operand} {f : Nat} {fs : Array Field} {fld : Field} {sz : Nat}
theorem zAC (ho : o.op = .fieldAddr t x f) {b off : Nat} (hx : s.ev x = .ptr b off) (hu : P.underlying t = some (.struct fs)) (hf : fs[f]? = some fld) (hsz : ∀ w, (sizeOf fld.type).run P w = .ok sz w) (hz : sz ≠ 0) :
  StepD γ P n o M B s { put := .ptr b (off + fld.offset) } :=
 zA6 fun s' ag w0 I L a w hrl => by
  have he := (ag.ev1 ho (by simp [Op.operands])).trans hx
  have h := hrl.ev x
  rw [he] at h
  simp only [AVR] at h
  exact ⟨_, by simp only [execOp, ho, h.2, Sem.run_bind, zEt hu hf hsz hz]; rfl, by simp only [AVR]; exact ⟨h.1, trivial⟩⟩
theorem zA1 (ho : o.op = .fieldAddr t x f) {id i off : Nat} (hx : s.ev x = .ea id i off) (hu : P.underlying t = some (.struct fs)) (hf : fs[f]? = some fld) (hsz : ∀ w, (sizeOf fld.type).run P w = .ok sz w) (hz : sz ≠ 0) :
  StepD γ P n o M B s { put := .ea id i (off + fld.offset) } :=
 zA6 fun s' ag w0 I L a w hrl => by
  have he := (ag.ev1 ho (by simp [Op.operands])).trans hx
  have h := hrl.ev x
  rw [he] at h
  simp only [AVR] at h
  obtain ⟨sz', xs, k, m, c, h1, h2, h3, h4⟩ := h
  exact ⟨_, by simp only [execOp, ho, h4, Sem.run_bind, zEt hu hf hsz hz]; rfl, by simp only [AVR]; exact ⟨sz', xs, k, m, c, h1, h2, h3, by rw [Nat.add_assoc]⟩⟩
theorem zBQ (ho : o.op = .fieldAddr t x f) {d : Option Nat} {ps : List PV} (hx : s.ev x = .fea d ps) (hu : P.underlying t = some (.struct fs)) (hf : fs[f]? = some fld) (hsz : ∀ w, (sizeOf fld.type).run P w = .ok sz w) (hz : sz ≠ 0) :
  StepD γ P n o M B s { put := .fea d (ps.drop fld.offset) } :=
 zA6 fun s' ag w0 I L a w hrl => by
  have he := (ag.ev1 ho (by simp [Op.operands])).trans hx
  have h := hrl.ev x
  rw [he] at h
  simp only [AVR] at h
  obtain ⟨⟨k, off, h1, h2, h3⟩, h4⟩ := h
  refine ⟨_, by simp only [execOp, ho, h1, Sem.run_bind, zEt hu hf hsz hz]; rfl, ?_⟩
  simp only [AVR]
  refine ⟨⟨k, _, rfl, h2, fun j p hp => ?_⟩, h4⟩
  rw [List.getElem?_drop] at hp
  rw [Nat.add_assoc]
  exact h3 _ p hp
end faddr
section idx
variable {t e : TypeId} {x y : Operand} {sz : Nat} {d' : Option Nat} {k : IntKind} {i : Int}
theorem zGT (hu : P.underlying t = some (.slice e)) (hsz : ∀ w, (sizeOf e).run P w = .ok sz w) (b off len c : Nat) (w : World) (h0 : 0 ≤ i) (h1 : i < len) :
  (Instr.indexAt t (.slice (some ⟨b, off, none⟩) len c) (.int k i)).run P w = .ok (.pointer (some ⟨b, off + i.toNat * sz, none⟩)) w := by
 have h2 : (0 ≤ i ∧ i < (len : Int)) := ⟨h0, h1⟩
 simp [Instr.indexAt, asIntOf, run_underlying hu, hsz, h2, Addr.add0]
theorem zHI (ho : o.op = .indexAddr t x y) {id lo len rz : Nat} {xs : List (List PV)} (hx : s.ev x = .sl id lo len) (hr : s.r id = some (rz, xs)) (hy : s.ev y = .p d' (.v (.int k i))) (hu : P.underlying t = some (.slice e)) (hsz : ∀ w, (sizeOf e).run P w = .ok sz w) (hz : rz = sz) (h0 : 0 ≤ i) (h1 : i < len) :
  StepD γ P n o M B s { put := .ea id (lo + i.toNat) 0 } :=
 zA6 fun s' ag w0 I L a w hrl => by
  have he := (ag.ev1 ho (by simp [Op.operands])).trans hx
  have hr' := (ag.r1 ho (by simp [Op.operands]) hx (id := id) (by simp [AV.rows])).trans hr
  have hi := hrl.evv ((ag.ev1 ho (by simp [Op.operands])).trans hy)
  have h := hrl.ev x
  rw [he] at h
  simp only [AVR] at h
  obtain ⟨sz', xs', h2, h3, A, m, c, A', c', h4, h5, h6, h7, h8⟩ := h
  rw [hr'] at h2
  cases h2
  subst hz
  obtain ⟨b, rfl, rfl⟩ := h8 (by omega)
  refine ⟨_, by simp only [execOp, ho, h5, hi, Sem.run_bind, zGT hu hsz _ _ _ _ _ h0 h1]; rfl, ?_⟩
  simp only [AVR]
  exact ⟨rz, xs, b, m, c, hr', by omega, h4, by rw [Nat.add_mul]; rfl⟩
theorem zA8 (ho : o.op = .indexAddr t x y) {d : Option Nat} {ow : Bool} {rz : Nat} {xs : List (List PV)} {es : List PV} (hx : s.ev x = .p d (.sl ow rz xs)) (hy : s.ev y = .p d' (.v (.int k i))) (hu : P.underlying t = some (.slice e)) (hsz : ∀ w, (sizeOf e).run P w = .ok sz w) (hz : rz = sz) (h0 : 0 ≤ i) (he : xs[i.toNat]? = some es) :
  StepD γ P n o M B s { put := .fea d es } :=
 zA6 fun s' ag w0 I L a w hrl => by
  have hev := (ag.ev1 ho (by simp [Op.operands])).trans hx
  have hi := hrl.evv ((ag.ev1 ho (by simp [Op.operands])).trans hy)
  have h := hrl.ev x
  rw [hev] at h
  simp only [AVR] at h
  obtain ⟨h2, h3⟩ := h
  subst hz
  have hlt : i.toNat < xs.length := (List.getElem?_eq_some_iff.1 he).1
  generalize hv : a.eval x = v at h2
  cases h2 with
  | emp _ _ _ _ => simp at he
  | sl _ _ _ b off c hlen hc hzb u hcell hp =>
   refine ⟨_, by simp only [execOp, ho, hv, hi, Sem.run_bind, zGT hu hsz _ _ _ _ _ h0 (show i < (xs.length : Int) by omega)]; rfl, ?_⟩
   simp only [AVR]
   refine ⟨⟨b, _, rfl, hzb, fun j p hj => ?_⟩, h3⟩
   have hes : es.length = rz := hlen es (List.mem_of_getElem? he)
   have hj' : j < rz := by rw [← hes]; exact (List.getElem?_eq_some_iff.1 hj).1
   have hf := zIU hlen he hj'
   exact ⟨u (i.toNat * rz + j), by rw [Nat.add_assoc]; exact hcell _ (zM0 hlen hlt hj'), hp _ p (by rw [hf]; exact hj)⟩
end idx
section len
variable {x : Operand} {t e : TypeId}
theorem zB9 (ho : o.op = .call { callee := .builtin .len, args := #[x], argTypes := #[t] }) {id lo len : Nat} (hx : s.ev x = .sl id lo len) (hu : P.underlying t = some (.slice e)) : StepD γ P n o M B s { put := .p none (.v (.int .i64 len)) } :=
 zA6 fun s' ag w0 I L a w hrl => by
  have he := (ag.ev1 ho (by simp [Op.operands, Call.operands])).trans hx
  have h := hrl.ev x
  rw [he] at h
  simp only [AVR] at h
  obtain ⟨sz', xs', h2, h3, A, m, c, A', c', h4, h5, h6, h7, h8⟩ := h
  exact ⟨_, by simp [execOp, ho, resolve, invoke, builtin, Builtin.len_, h5, run_underlying hu, goInt], zCO L w s' rfl⟩
theorem zAu (ho : o.op = .call { callee := .builtin .len, args := #[x], argTypes := #[t] }) {d : Option Nat} {ow : Bool} {sz : Nat} {xs : List (List PV)} (hx : s.ev x = .p d (.sl ow sz xs)) (hu : P.underlying t = some (.slice e)) : StepD γ P n o M B s { put := .p none (.v (.int .i64 xs.length)) } :=
 zA6 fun s' ag w0 I L a w hrl => by
  have he := (ag.ev1 ho (by simp [Op.operands, Call.operands])).trans hx
  have h := hrl.ev x
  rw [he] at h
  simp only [AVR] at h
  obtain ⟨h2, h3⟩ := h
  generalize hv : a.eval x = v at h2
  cases h2 with
  | emp _ _ _ _ => exact ⟨_, by simp [execOp, ho, resolve, invoke, builtin, Builtin.len_, hv, run_underlying hu, goInt], zCO L w s' rfl⟩
  | sl _ _ _ b off c hlen hc hzb u hcell hp => exact ⟨_, by simp [execOp, ho, resolve, invoke, builtin, Builtin.len_, hv, run_underlying hu, goInt], zCO L w s' rfl⟩
theorem zAO (ho : o.op = .call { callee := .builtin .len, args := #[x], argTypes := #[t] }) {d : Option Nat} {b : ByteArray} (hx : s.ev x = .p d (.v (.string b))) (hu : P.underlying t = some .string) : StepD γ P n o M B s { put := .p none (.v (.int .i64 b.size)) } :=
 zA6 fun s' ag w0 I L a w hrl => by
  have h := hrl.evv ((ag.ev1 ho (by simp [Op.operands, Call.operands])).trans hx)
  exact ⟨_, by simp [execOp, ho, resolve, invoke, builtin, Builtin.len_, h, run_underlying hu, goInt], zCO L w s' rfl⟩
end len
section parts
theorem zAH {x : Operand} {i : Nat} (ho : o.op = .extract x i) {vs : List AV} {av : AV} (hx : s.ev x = .tup vs) (hi : vs[i]? = some av) : StepD γ P n o M B s { put := av } :=
 zA6 fun s' ag w0 I L a w hrl => by
  have he := (ag.ev1 ho (by simp [Op.operands])).trans hx
  have h := hrl.ev x
  rw [he] at h
  simp only [AVR] at h
  obtain ⟨us, h1, h2⟩ := h
  obtain ⟨u, hu, ha⟩ := h2.get i av hi
  exact ⟨u, by simp [execOp, ho, h1, Instr.extract, hu], ha⟩
variable {t : TypeId} {x : Operand} {f : Nat} {fs : Array Field} {fld : Field}
end parts
end
end Go.Rl

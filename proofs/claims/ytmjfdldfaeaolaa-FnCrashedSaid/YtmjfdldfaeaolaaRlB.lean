/- R, part B: the relation between an abstract state and a frame and a world; what moves it. -/
import Derived.Test.YtmjfdldfaeaolaaRlA
namespace Go.Rl
open Go.RowKit

mutual
def AV.kill (K : List Nat) : AV → AV
  | .undef => .undef
  | .p none x => .p none x
  | .p (some d) x => if d ∈ K then .undef else .p (some d) x
  | .sl id lo len => if id ∈ K then .undef else .sl id lo len
  | .ptr b off => .ptr b off
  | .ea id j off => if id ∈ K then .undef else .ea id j off
  | .fea none ps => .fea none ps
  | .fea (some d) ps => if d ∈ K then .undef else .fea (some d) ps
  | .nils => .nils
  | .sat A => .sat A
  | .clo f bs => .clo f bs
  | .agg cs => .agg (AV.kills K cs)
  | .tup cs => .tup (AV.kills K cs)
def AV.kills (K : List Nat) : List AV → List AV
  | [] => []
  | a :: as => AV.kill K a :: AV.kills K as
end

mutual
theorem AV.kill_nil : ∀ a : AV, AV.kill [] a = a
  | .undef => rfl
  | .p none x => rfl
  | .p (some d) x => by simp [AV.kill]
  | .sl id lo len => by simp [AV.kill]
  | .ptr b off => rfl
  | .ea id j off => by simp [AV.kill]
  | .fea none ps => rfl
  | .fea (some d) ps => by simp [AV.kill]
  | .nils => rfl
  | .sat A => rfl
  | .clo f bs => rfl
  | .agg cs => by rw [AV.kill, AV.kills_nil cs]
  | .tup cs => by rw [AV.kill, AV.kills_nil cs]
theorem AV.kills_nil : ∀ as : List AV, AV.kills [] as = as
  | [] => rfl
  | a :: as => by rw [AV.kills, AV.kill_nil a, AV.kills_nil as]
end

/-- What must hold of the places for an abstract value to stay as it is told (but for what leads to row i). -/
structure Moves (K : List Nat) (L L' : Pl) (w w' : World) (s s' : St) : Prop where
  z : ∀ k, L.Z k → L'.Z k ∧ w'.heap[k]? = w.heap[k]?
  n : ∀ id k, id ∉ K → (s.r id).isSome → k ∈ (L.ν id).tail → (L'.Z k ∨ k ∈ (L'.ν id).tail) ∧ w'.heap[k]? = w.heap[k]?
  b : ∀ b, (s.b b).isSome → (s'.b b).isSome ∧ L'.β b = L.β b
  r : ∀ id sz xs, id ∉ K → s.r id = some (sz, xs) → ∃ xs', s'.r id = some (sz, xs') ∧ xs'.length = xs.length ∧ L'.ρ id = L.ρ id

theorem Moves.zd {K : List Nat} {L L' : Pl} {w w' : World} {s s' : St} (h : Moves K L L' w w' s s') {d : Option Nat} (hd : ∀ id, d = some id → (s.r id).isSome) (hi : ∀ id, d = some id → id ∉ K) :
    ∀ k, L.zd d k → L'.zd d k ∧ w'.heap[k]? = w.heap[k]? := by
  intro k hk
  rcases hk with hk | ⟨id, rfl, hk⟩
  · exact ⟨.inl (h.z k hk).1, (h.z k hk).2⟩
  · obtain ⟨h1, h2⟩ := h.n id k (hi id rfl) (hd id rfl) hk
    exact ⟨h1.imp (fun h => h) (fun h => ⟨id, rfl, h⟩), h2⟩

theorem Moves.some {K : List Nat} {L L' : Pl} {w w' : World} {s s' : St} (h : Moves K L L' w w' s s') {id : Nat} (hne : id ∉ K) (hs : (s.r id).isSome) : (s'.r id).isSome := by
  obtain ⟨⟨sz, xs⟩, hx⟩ := Option.isSome_iff_exists.1 hs
  obtain ⟨xs', h', _⟩ := h.r id sz xs hne hx
  rw [h']; rfl

mutual
theorem AVR.move {K : List Nat} {L L' : Pl} {w w' : World} {s s' : St} (h : Moves K L L' w w' s s') : ∀ (av : AV) (v : Value), AVR L w s av v → AVR L' w' s' (av.kill K) v
  | .undef, v, _ => by simp [AV.kill, AVR]
  | .p none x, v, hv => by
    simp only [AV.kill, AVR] at hv ⊢
    refine ⟨hv.1.mono (fun k hk => (h.zd hv.2 (fun _ h => by cases h) k hk).2) (fun k hk => (h.zd hv.2 (fun _ h => by cases h) k hk).1), fun _ h => by cases h⟩
  | .p (some d) x, v, hv => by
    simp only [AV.kill]
    split
    · simp [AVR]
    · rename_i hne
      simp only [AVR] at hv ⊢
      have hd := h.zd hv.2 (fun id hid => by cases hid; exact hne)
      refine ⟨hv.1.mono (fun k hk => (hd k hk).2) (fun k hk => (hd k hk).1), fun id hid => ?_⟩
      cases hid
      exact h.some hne (hv.2 d rfl)
  | .sl id lo len, v, hv => by
    simp only [AV.kill]
    split
    · simp [AVR]
    · rename_i hne
      simp only [AVR] at hv ⊢
      obtain ⟨sz, xs, h1, h2, h3⟩ := hv
      obtain ⟨xs', h4, h5, h6⟩ := h.r id sz xs hne h1
      exact ⟨sz, xs', h4, by omega, by rw [h6]; exact h3⟩
  | .ptr b off, v, hv => by
    simp only [AV.kill, AVR] at hv ⊢
    obtain ⟨h1, h2⟩ := h.b b hv.1
    exact ⟨h1, by rw [h2]; exact hv.2⟩
  | .ea id j off, v, hv => by
    simp only [AV.kill]
    split
    · simp [AVR]
    · rename_i hne
      simp only [AVR] at hv ⊢
      obtain ⟨sz, xs, k, n, c, h1, h2, h3, h4⟩ := hv
      obtain ⟨xs', h5, h6, h7⟩ := h.r id sz xs hne h1
      exact ⟨sz, xs', k, n, c, h5, by omega, by rw [h7]; exact h3, h4⟩
  | .fea none ps, v, hv => by
    simp only [AV.kill, AVR] at hv ⊢
    obtain ⟨⟨k, off, h1, h2, h3⟩, h4⟩ := hv
    have hd := h.zd h4 (fun _ h => by cases h)
    refine ⟨⟨k, off, h1, (hd k h2).1, fun j p hp => ?_⟩, fun _ h => by cases h⟩
    obtain ⟨u, hu, hr⟩ := h3 j p hp
    exact ⟨u, (cell_same (hd k h2).2).trans hu, hr.mono (fun k hk => (hd k hk).2) (fun k hk => (hd k hk).1)⟩
  | .fea (some d) ps, v, hv => by
    simp only [AV.kill]
    split
    · simp [AVR]
    · rename_i hne
      simp only [AVR] at hv ⊢
      obtain ⟨⟨k, off, h1, h2, h3⟩, h4⟩ := hv
      have hd := h.zd h4 (fun id hid => by cases hid; exact hne)
      refine ⟨⟨k, off, h1, (hd k h2).1, fun j p hp => ?_⟩, fun id hid => ?_⟩
      · obtain ⟨u, hu, hr⟩ := h3 j p hp
        exact ⟨u, (cell_same (hd k h2).2).trans hu, hr.mono (fun k hk => (hd k hk).2) (fun k hk => (hd k hk).1)⟩
      · cases hid
        exact h.some hne (h4 d rfl)
  | .nils, v, hv => by simpa only [AV.kill, AVR] using hv
  | .sat A, v, hv => by simpa only [AV.kill, AVR] using hv
  | .clo f bs, v, hv => by
    simp only [AV.kill, AVR] at hv ⊢
    refine ⟨fun x hx => (h.b x (hv.1 x hx)).1, hv.2.trans ?_⟩
    have : (bs.map fun b => Value.pointer (some ⟨L.β b, 0, none⟩)) = bs.map fun b => Value.pointer (some ⟨L'.β b, 0, none⟩) := List.map_congr_left fun x hx => by rw [(h.b x (hv.1 x hx)).2]
    rw [this]
  | .agg cs, v, hv => by
    simp only [AV.kill, AVR] at hv ⊢
    obtain ⟨us, h1, h2⟩ := hv
    exact ⟨us, h1, AVRs.move h cs us h2⟩
  | .tup cs, v, hv => by
    simp only [AV.kill, AVR] at hv ⊢
    obtain ⟨us, h1, h2⟩ := hv
    exact ⟨us, h1, AVRs.move h cs us h2⟩
theorem AVRs.move {K : List Nat} {L L' : Pl} {w w' : World} {s s' : St} (h : Moves K L L' w w' s s') : ∀ (as : List AV) (us : List Value), AVRs L w s as us → AVRs L' w' s' (AV.kills K as) us
  | [], [], _ => by simp [AV.kills, AVRs]
  | [], _ :: _, hv => by simp [AVRs] at hv
  | _ :: _, [], hv => by simp [AVRs] at hv
  | a :: as, u :: us, hv => by
    simp only [AV.kills, AVRs] at hv ⊢
    exact ⟨AVR.move h a u hv.1, AVRs.move h as us hv.2⟩
end

theorem AVRs.length {L : Pl} {w : World} {s : St} : ∀ {as : List AV} {us : List Value}, AVRs L w s as us → as.length = us.length
  | [], [], _ => rfl
  | [], _ :: _, hv => by simp [AVRs] at hv
  | _ :: _, [], hv => by simp [AVRs] at hv
  | _ :: _, _ :: _, hv => by simp only [AVRs] at hv; simp [AVRs.length hv.2]
theorem AVRs.get {L : Pl} {w : World} {s : St} : ∀ {as : List AV} {us : List Value}, AVRs L w s as us → ∀ (j : Nat) (a : AV), as[j]? = some a → ∃ u, us[j]? = some u ∧ AVR L w s a u
  | [], _, _, j, a, h => by simp at h
  | _ :: _, [], hv, _, _, _ => by simp [AVRs] at hv
  | x :: as, u :: us, hv, j, a, h => by
    simp only [AVRs] at hv
    cases j with
    | zero => simp at h; subst h; exact ⟨u, rfl, hv.1⟩
    | succ j => simp at h; simpa using AVRs.get hv.2 j a h
theorem AVRs.mk {L : Pl} {w : World} {s : St} : ∀ {as : List AV} {us : List Value}, as.length = us.length → (∀ (j : Nat) a u, as[j]? = some a → us[j]? = some u → AVR L w s a u) → AVRs L w s as us
  | [], [], _, _ => by simp [AVRs]
  | [], _ :: _, h, _ => by simp at h
  | _ :: _, [], h, _ => by simp at h
  | a :: as, u :: us, h, hp => by
    simp only [AVRs]
    exact ⟨hp 0 a u rfl rfl, AVRs.mk (by simpa using h) (fun j a u h1 h2 => hp (j + 1) a u (by simpa using h1) (by simpa using h2))⟩

def upd {α : Type} (f : Nat → α) (i : Nat) (x : α) : Nat → α := fun j => match Nat.beq j i with
  | true => x
  | false => f j
@[simp] theorem upd_self {α : Type} (f : Nat → α) (i : Nat) (x : α) : upd f i x i = x := by simp [upd]
theorem upd_ne {α : Type} (f : Nat → α) {i j : Nat} (x : α) (h : j ≠ i) : upd f i x j = f j := by
  have : Nat.beq j i = false := by
    cases e : Nat.beq j i with
    | false => rfl
    | true => exact absurd (Nat.eq_of_beq_eq_true e) h
  simp only [upd, this]

def St.put (s : St) (d : Option Tmp) (v : AV) : St := match d with
  | some d => { s with t := upd s.t d v }
  | none => s
def St.setB (s : St) (i : Nat) (cs : List AV) : St := { s with b := upd s.b i (some cs) }
def St.setR (s : St) (i sz : Nat) (xs : List (List PV)) : St := { s with r := upd s.r i (some (sz, xs)) }
/-- Whatever leads to the rows K is forgotten, and they. -/
def St.kill (s : St) (K : List Nat) : St := { t := fun j => (s.t j).kill K, b := fun j => (s.b j).map (AV.kills K), r := fun j => if j ∈ K then none else s.r j }

@[simp] theorem St.put_b (s : St) (d v) : (s.put d v).b = s.b := by cases d <;> rfl
@[simp] theorem St.put_r (s : St) (d v) : (s.put d v).r = s.r := by cases d <;> rfl

/-- What a function is handed: blocks of its own, and where the rows and variables with numbers from 'pinT' on lie. -/
structure Fr where
  I : List Nat
  ρ : Nat → Value
  β : Nat → Nat
  Z : Nat → Prop
def pinT : Nat := 100000
/-- The relation. -/
structure Rel (w0 : World) (I : Fr) (n : Nat) (L : Pl) (s : St) (a : Act) (w : World) : Prop where
  same : Same I.I w0 w
  zlt : ∀ k, L.Z k → k < w.heap.size ∧ L.lab k = none
  llt : ∀ k l, L.lab k = some l → k < w.heap.size ∧ (w0.heap.size ≤ k ∨ k ∈ I.I)
  sz : a.tmps.size = n
  df : a.defers = []
  tm : ∀ i, AVR L w s (s.t i) (a.tmps.getD i undef)
  bx : ∀ i cs, s.b i = some cs → L.lab (L.β i) = some (.box i) ∧ ∃ us ty, w.heap[L.β i]? = some (.cells ⟨us⟩ ty (0, 0)) ∧ AVRs L w s cs us ∧ ∀ u ∈ us, u.oneCell' = true
  rw : ∀ i sz xs, s.r i = some (sz, xs) → PVO L.Z w (.sl true sz xs) (L.ρ i) (L.ν i) ∧ (L.ν i).Nodup ∧ ∀ k ∈ L.ν i, L.lab k = some (.row i)
  pr : ∀ i, pinT ≤ i → (s.r i).isSome → L.ρ i = I.ρ i
  pb : ∀ i, pinT ≤ i → (s.b i).isSome → L.β i = I.β i
  zi : ∀ k, L.Z k → I.Z k ∨ w0.heap.size ≤ k ∨ k ∈ I.I

theorem moves_put (L : Pl) (w : World) (s : St) (d v) : Moves [] L L w w s (s.put d v) where
  z k hk := ⟨hk, rfl⟩
  n _ k _ _ hk := ⟨.inr hk, rfl⟩
  b b hb := ⟨by simpa using hb, rfl⟩
  r id sz xs _ h := ⟨xs, by simpa using h, rfl, rfl⟩
theorem AVR.move0 {L L' : Pl} {w w' : World} {s s' : St} (h : Moves [] L L' w w' s s') {av : AV} {v : Value} (hv : AVR L w s av v) : AVR L' w' s' av v := by
  have := AVR.move h av v hv
  rwa [AV.kill_nil] at this
theorem AVRs.move0 {L L' : Pl} {w w' : World} {s s' : St} (h : Moves [] L L' w w' s s') {as : List AV} {us : List Value} (hv : AVRs L w s as us) : AVRs L' w' s' as us := by
  have := AVRs.move h as us hv
  rwa [AV.kills_nil] at this

theorem getD_put {a : Act} {d : Option Tmp} {v : Value} (i : Nat) (hd : ∀ x, d = some x → x < a.tmps.size) : (a.put d v).tmps.getD i undef = if d = some i then v else a.tmps.getD i undef := by
  cases d with
  | none => simp [Act.put]
  | some d =>
    have hlt := hd d rfl
    simp only [Act.put, Option.some.injEq]
    by_cases h : d = i
    · subst h
      simp [hlt]
    · simp [h, Array.getElem?_setIfInBounds_ne h]

theorem Rel.put {w0 : World} {I : Fr} {n : Nat} {L : Pl} {s : St} {a : Act} {w : World} (h : Rel w0 I n L s a w) {d : Option Tmp} (hd : ∀ x, d = some x → x < n) {av : AV} {v : Value} (hv : AVR L w s av v) :
    Rel w0 I n L (s.put d av) (a.put d v) w where
  same := h.same
  zlt := h.zlt
  llt := h.llt
  sz := by cases d <;> simp [Act.put, h.sz]
  df := by cases d <;> simp [Act.put, h.df]
  tm i := by
    rw [getD_put i (fun x hx => by rw [h.sz]; exact hd x hx)]
    by_cases hi : d = some i
    · subst hi
      simp only [if_true, St.put, upd_self]
      exact hv.move0 (moves_put L w s (some i) av)
    · rw [if_neg hi]
      have : (s.put d av).t i = s.t i := by
        cases d with
        | none => rfl
        | some d => exact upd_ne _ _ (fun e => hi (by rw [e]))
      rw [this]
      exact (h.tm i).move0 (moves_put L w s d av)
  bx i cs hc := by
    rw [St.put_b] at hc
    obtain ⟨h1, us, ty, h2, h3, h4⟩ := h.bx i cs hc
    exact ⟨h1, us, ty, h2, h3.move0 (moves_put L w s d av), h4⟩
  rw i sz xs hr := by
    rw [St.put_r] at hr
    exact h.rw i sz xs hr
  pr i hi hs := h.pr i hi (by rwa [St.put_r] at hs)
  pb i hi hs := h.pb i hi (by rwa [St.put_b] at hs)
  zi := h.zi

end Go.Rl

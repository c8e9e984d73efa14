/- R, part G: the steps that make or change variables in memory. -/
import Derived.Test.YtmjfdldfaeaolaaRlF
import Derived.Laws.OwnMore
namespace Go.Rl
open Go.RowKit

section
variable {w0 : World} {I : Fr} {n : Nat} {L : Pl} {s : St} {a : Act} {w : World}
/-- The relation behind a change, part by part. -/
theorem Rel.next {K : List Nat} {L' : Pl} {s1 : St} {w' : World} (h : Rel w0 I n L s a w) (hs : Same I.I w0 w')
    (hz : ∀ k, L'.Z k → k < w'.heap.size ∧ L'.lab k = none) (hl : ∀ k l, L'.lab k = some l → k < w'.heap.size ∧ (w0.heap.size ≤ k ∨ k ∈ I.I))
    (hm : Moves K L L' w w' s s1) (ht : ∀ i, s1.t i = (s.t i).kill K)
    (hb : ∀ i cs, s1.b i = some cs → (∃ cs0, s.b i = some cs0 ∧ cs = AV.kills K cs0 ∧ w'.heap[L.β i]? = w.heap[L.β i]? ∧ L'.lab (L.β i) = L.lab (L.β i)) ∨
      ((i < pinT ∨ (s.b i).isSome) ∧ L'.lab (L'.β i) = some (.box i) ∧ ∃ us ty, w'.heap[L'.β i]? = some (.cells ⟨us⟩ ty (0, 0)) ∧ AVRs L' w' s1 cs us ∧ ∀ u ∈ us, u.oneCell' = true))
    (hr : ∀ i sz xs, s1.r i = some (sz, xs) → (s.r i = some (sz, xs) ∧ L'.ρ i = L.ρ i ∧ L'.ν i = L.ν i ∧ ∀ k ∈ L.ν i, w'.heap[k]? = w.heap[k]? ∧ L'.lab k = L.lab k) ∨
      ((i < pinT ∨ ((s.r i).isSome ∧ L'.ρ i = L.ρ i)) ∧ PVO L'.Z w' (.sl true sz xs) (L'.ρ i) (L'.ν i) ∧ (L'.ν i).Nodup ∧ ∀ k ∈ L'.ν i, L'.lab k = some (.row i))) (hZ : ∀ k, L'.Z k → L.Z k := by exact fun _ h => h) : Rel w0 I n L' s1 a w' where
  same := hs
  zlt := hz
  llt := hl
  sz := h.sz
  df := h.df
  tm i := by rw [ht]; exact (h.tm i).move hm _ _
  bx i cs hc := by
    rcases hb i cs hc with ⟨cs0, h0, rfl, h2, h3⟩ | h2
    · obtain ⟨h4, us, ty, h5, h6, h7⟩ := h.bx i cs0 h0
      obtain ⟨h8, h9⟩ := hm.b i (by rw [h0]; rfl)
      rw [h9]
      exact ⟨h3.trans h4, us, ty, h2.trans h5, h6.move hm _ _, h7⟩
    · exact h2.2
  rw i sz xs hx := by
    rcases hr i sz xs hx with ⟨h1, h2, h3, h4⟩ | h2
    · obtain ⟨h5, h6, h7⟩ := h.rw i sz xs h1
      rw [h2, h3]
      exact ⟨h5.mono (fun k hk => (hm.z k hk).2) (fun k hk => (h4 k hk).1) (fun k hk => (hm.z k hk).1), h6, fun k hk => (h4 k hk).2.trans (h7 k hk)⟩
    · exact h2.2
  pr i hi hx := by
    obtain ⟨⟨sz, xs⟩, hx⟩ := Option.isSome_iff_exists.1 hx
    rcases hr i sz xs hx with ⟨h1, h2, _⟩ | ⟨h1 | h1, _⟩
    · exact h2.trans (h.pr i hi (by rw [h1]; rfl))
    · omega
    · exact h1.2.trans (h.pr i hi h1.1)
  pb i hi hx := by
    obtain ⟨cs, hx⟩ := Option.isSome_iff_exists.1 hx
    rcases hb i cs hx with ⟨cs0, h1, _⟩ | ⟨h1 | h1, _⟩
    · exact (hm.b i (by rw [h1]; rfl)).2.trans (h.pb i hi (by rw [h1]; rfl))
    · omega
    · exact (hm.b i h1).2.trans (h.pb i hi h1)
  zi k hk := h.zi k (hZ k hk)

theorem Same.push {J : List Nat} {w0 w : World} (h : Same J w0 w) (o : Obj) : Same J w0 (w.alloc o) :=
  ⟨h.os, h.tape, h.output, Nat.le_trans h.size (by simp), fun k hk hJ => (heap_alloc_old w o (Nat.lt_of_lt_of_le hk h.size)).trans (h.block k hk hJ)⟩
theorem Same.drew {J : List Nat} {w0 w : World} (h : Same J w0 w) : Same J w0 w.drew := ⟨h.os, h.tape, h.output, h.size, h.block⟩

/-- Memory with one variable more. -/
def Pl.box (L : Pl) (b k : Nat) : Pl := { L with β := upd L.β b k, lab := upd L.lab k (some (.box b)) }
theorem Rel.newbox (h : Rel w0 I n L s a w) {b : Nat} (hb1 : b < pinT) (hb : s.b b = none) {cs : List AV} {us : List Value} (hc : AVRs L w s cs us) (h1 : ∀ u ∈ us, u.oneCell' = true) (ty : TypeId) :
    Rel w0 I n (L.box b w.heap.size) { s with b := upd s.b b (some cs) } a (w.alloc (.cells ⟨us⟩ ty)) := by
  have hne : ∀ {x}, (s.b x).isSome → x ≠ b := fun hx e => by subst e; rw [hb] at hx; cases hx
  have hm : Moves [] L (L.box b w.heap.size) w (w.alloc (.cells ⟨us⟩ ty)) s { s with b := upd s.b b (some cs) } := by
    refine ⟨fun k hk => ⟨hk, heap_alloc_old w _ (h.zlt k hk).1⟩, fun id k _ hi hk => ⟨.inr hk, ?_⟩, fun x hx => ⟨?_, ?_⟩, fun id sz xs _ hx => ⟨xs, hx, rfl, rfl⟩⟩
    · obtain ⟨⟨sz, xs⟩, hx⟩ := Option.isSome_iff_exists.1 hi
      exact heap_alloc_old w _ ((h.rw id sz xs hx).1.lt k (List.mem_of_mem_tail hk))
    · simpa [upd_ne _ _ (hne hx)] using hx
    · simp [Pl.box, upd_ne _ _ (hne hx)]
  have hlab : ∀ k, k < w.heap.size → (L.box b w.heap.size).lab k = L.lab k := fun k hk => upd_ne _ _ (Nat.ne_of_lt hk)
  refine h.next (K := []) (h.same.push _) (fun k hk => ?_) (fun k l hk => ?_) hm (fun i => (AV.kill_nil _).symm) (fun i ds hd => ?_) (fun i sz xs hx => .inl ⟨hx, rfl, rfl, fun k hk => ?_⟩)
  · have h2 := h.zlt k hk
    exact ⟨Nat.lt_of_lt_of_le h2.1 (by simp), (hlab k h2.1).trans h2.2⟩
  · by_cases e : k = w.heap.size
    · subst e; exact ⟨by simp, .inl h.same.size⟩
    · simp only [Pl.box, upd_ne _ _ e] at hk
      exact ⟨Nat.lt_of_lt_of_le (h.llt k l hk).1 (by simp), (h.llt k l hk).2⟩
  · by_cases e : i = b
    · subst e
      simp only [upd_self, Option.some.injEq] at hd
      subst hd
      refine .inr ⟨.inl hb1, by simp [Pl.box], us, ty, ?_, hc.move0 hm, h1⟩
      simp only [Pl.box, upd_self]
      exact heap_alloc_new w _
    · simp only [upd_ne _ _ e] at hd
      obtain ⟨h2, us', ty', h3, _⟩ := h.bx i ds hd
      exact .inl ⟨ds, hd, (AV.kills_nil _).symm, heap_alloc_old w _ (h.llt _ _ h2).1, hlab _ (h.llt _ _ h2).1⟩
  · have h2 := h.rw i sz xs hx
    have h3 := h2.1.lt k hk
    exact ⟨heap_alloc_old w _ h3, hlab k h3⟩
end

def AV.one : AV → Bool
  | .undef => false
  | .sat _ => false
  | .agg _ => false
  | .tup _ => false
  | _ => true
/-- The cells of a value in a variable. -/
def AV.cells : AV → List AV
  | .agg cs => cs
  | av => [av]
def AV.fits (av : AV) : Bool := av.cells.all AV.one
theorem AVR.one {L : Pl} {w : World} {s : St} {av : AV} {v : Value} (h : AVR L w s av v) (ho : av.one = true) : v.oneCell' = true := by
  cases av <;> simp only [AV.one, AVR, Bool.false_eq_true] at h ho
  case p d x => exact h.1.one
  case sl id lo len => obtain ⟨_, _, _, _, _, _, _, _, _, _, rfl, _⟩ := h; rfl
  case ptr b off => rw [h.2]; rfl
  case ea id i off => obtain ⟨_, _, _, _, _, _, _, _, rfl⟩ := h; rfl
  case fea d ps => obtain ⟨⟨_, _, rfl, _⟩, _⟩ := h; rfl
  case nils => obtain ⟨A, rfl⟩ := h; rfl
  case clo f bs => rw [h.2]; rfl
theorem AVRs.ones {L : Pl} {w : World} {s : St} : ∀ {as : List AV} {us : List Value}, AVRs L w s as us → as.all AV.one = true → ∀ u ∈ us, u.oneCell' = true
  | [], [], _, _ => by simp
  | [], _ :: _, hv, _ => by simp [AVRs] at hv
  | _ :: _, [], hv, _ => by simp [AVRs] at hv
  | a :: as, u :: us, hv, h => by
    simp only [AVRs] at hv
    simp only [List.all_cons, Bool.and_eq_true] at h
    intro x hx
    rcases List.mem_cons.1 hx with rfl | hx
    · exact hv.1.one h.1
    · exact AVRs.ones hv.2 h.2 x hx
theorem cells_one {v : Value} (h : v.oneCell' = true) : v.cells = #[v] := by cases v <;> first | rfl | cases h
theorem AVR.cells {L : Pl} {w : World} {s : St} {av : AV} {v : Value} (h : AVR L w s av v) (hf : av.fits = true) : AVRs L w s av.cells v.cells.toList ∧ ∀ u ∈ v.cells.toList, u.oneCell' = true := by
  cases av
  case agg cs =>
    simp only [AVR] at h
    obtain ⟨us, rfl, h2⟩ := h
    exact ⟨h2, h2.ones hf⟩
  all_goals
    simp only [AV.fits, AV.cells, List.all_cons, List.all_nil, Bool.and_true] at hf
    have h1 := h.one hf
    rw [cells_one h1]
    exact ⟨by simp only [AV.cells, AVRs, and_true]; exact h, by simpa using h1⟩

section
variable {γ : Gho} {P : Program} {n : Nat} {o : Oper} {M B : List Nat} {s : St}
theorem st_box {ty : TypeId} {x : Operand} (ho : o.op = .box ty x) (b : Nat) {av : AV} (hx : s.ev x = av) (hf : av.fits = true) (hb1 : b < pinT) (hb : s.b b = none) (hB : b ∈ B) :
    StepD γ P n o M B s { put := .ptr b 0, setB := [(b, av.cells)] } := by
  intro s' ag hd w0 I L a w hG hr K Q hK
  have h := hr.ev x
  rw [ag.ev1 ho (by simp [Op.operands]), hx] at h
  have hb' : s'.b b = none := (ag.n b hB).trans hb
  obtain ⟨h1, h2⟩ := h.cells hf
  have hn := hr.newbox hb1 hb' h1 h2 ty
  have he : (execOp a.eval o).run P w = .ok (.value (.pointer (some ⟨w.heap.size, 0, none⟩))) (w.alloc (.cells ⟨(a.eval x).cells.toList⟩ ty)) := by
    simp [execOp, ho, Instr.box, newVar, newRow]
  unfold Oper.wp
  rw [he]
  exact hK _ _ _ (hn.put hd (av := .ptr b 0) (by simp only [AVR]; exact ⟨by simp, by simp [Pl.box]⟩))
theorem run_zeroValue {t : TypeId} {i : TypeInfo} {z : Value} (hi : P.info? t = some i) (hz : i.zero = some z) (w : World) : (zeroValue t).run P w = .ok z w := by
  simp [zeroValue, typeInfo, hi, hz]
theorem st_alloc {ty : TypeId} (ho : o.op = .alloc ty) (b : Nat) {i : TypeInfo} {z : Value} (hi : P.info? ty = some i) (hz : i.zero = some z) (hf : (cst z).fits = true) (hb1 : b < pinT) (hb : s.b b = none) (hB : b ∈ B) :
    StepD γ P n o M B s { put := .ptr b 0, setB := [(b, (cst z).cells)] } := by
  intro s' ag hd w0 I L a w hG hr K Q hK
  have hb' : s'.b b = none := (ag.n b hB).trans hb
  obtain ⟨h1, h2⟩ := (avr_cst L w s' z).cells hf
  have hn := hr.newbox hb1 hb' h1 h2 ty
  have he : (execOp a.eval o).run P w = .ok (.value (.pointer (some ⟨w.heap.size, 0, none⟩))) (w.alloc (.cells ⟨z.cells.toList⟩ ty)) := by
    simp [execOp, ho, Instr.alloc, newVar, newRow, run_zeroValue hi hz]
  unfold Oper.wp
  rw [he]
  exact hK _ _ _ (hn.put hd (av := .ptr b 0) (by simp only [AVR]; exact ⟨by simp, by simp [Pl.box]⟩))

/-- A list with other elements from place o on. -/
def over {α : Type} (xs : List α) (o : Nat) (ys : List α) : List α := xs.take o ++ ys ++ xs.drop (o + ys.length)
theorem over_len {α : Type} {xs : List α} {o : Nat} {ys : List α} (h : o + ys.length ≤ xs.length) : (over xs o ys).length = xs.length := by
  simp [over]; omega
theorem over_get {α : Type} {xs : List α} {o : Nat} {ys : List α} (h : o + ys.length ≤ xs.length) (j : Nat) : (over xs o ys)[j]? = if o ≤ j ∧ j < o + ys.length then ys[j - o]? else xs[j]? := by
  simp only [over, List.append_assoc]
  rcases Nat.lt_or_ge j o with h1 | h1
  · rw [List.getElem?_append_left (by simp; omega), if_neg (by omega), List.getElem?_take, if_pos h1]
  · rw [List.getElem?_append_right (by simp; omega)]
    have hl : (xs.take o).length = o := by simp; omega
    rw [hl]
    rcases Nat.lt_or_ge j (o + ys.length) with h2 | h2
    · rw [List.getElem?_append_left (by omega), if_pos ⟨h1, h2⟩]
    · rw [List.getElem?_append_right (by omega), if_neg (by omega), List.getElem?_drop]
      congr 1
      omega
theorem AVRs.over {L : Pl} {w : World} {s : St} {as bs : List AV} {us vs : List Value} (h : AVRs L w s as us) (h2 : AVRs L w s bs vs) (o : Nat) (hl : o + bs.length ≤ as.length) : AVRs L w s (over as o bs) (Rl.over us o vs) := by
  have e1 := h.length
  have e2 := h2.length
  refine AVRs.mk (by rw [over_len hl, over_len (by omega), e1]) (fun j x u hx hu => ?_)
  rw [over_get hl] at hx
  rw [over_get (by omega), ← e2] at hu
  split at hx
  · rename_i hc
    rw [if_pos hc] at hu
    obtain ⟨u', hu', hr⟩ := h2.get _ _ hx
    rw [hu] at hu'; cases hu'; exact hr
  · rename_i hc
    rw [if_neg hc] at hu
    obtain ⟨u', hu', hr⟩ := h.get _ _ hx
    rw [hu] at hu'; cases hu'; exact hr
theorem run_storeVar {ty : TypeId} {sz : Nat} (hsz : ∀ w, (sizeOf ty).run P w = .ok sz w) {w : World} {k o : Nat} {us : List Value} {t : TypeId} {v : Value} (hk : w.heap[k]? = some (.cells ⟨us⟩ t (0, 0))) (hl : v.cells.size = sz) (hf : o + sz ≤ us.length) (h1 : ∀ u ∈ v.cells.toList, u.oneCell' = true) :
    (storeVar ty ⟨k, o, none⟩ v).run P w = .ok () (w.setRow k ⟨Rl.over us o v.cells.toList⟩) := by
  have hst := run_storeCells_at P k o t v.cells.toList 0 ⟨us⟩ w hk (by simp; omega) h1
  simp only [Nat.add_zero] at hst
  simp [storeVar, hsz, hl, hst, over]
theorem Same.setRow {J : List Nat} {w0 w : World} (h : Same J w0 w) {k : Nat} (hk : w0.heap.size ≤ k ∨ k ∈ J) (cs : Array Value) : Same J w0 (w.setRow k cs) :=
  ⟨h.os, h.tape, h.output, by simpa using h.size, fun x hx hJ => (setRow_other w k x cs (fun e => by subst e; rcases hk with hk | hk; omega; exact hJ hk)).trans (h.block x hx hJ)⟩

/-- A variable is set. -/
theorem Rel.setbox {w0 : World} {I : Fr} {L : Pl} {a : Act} {w : World} (h : Rel w0 I n L s a w) {b : Nat} {cs0 cs : List AV} {us0 us : List Value} {ty : TypeId} (hb : s.b b = some cs0) (hk : w.heap[L.β b]? = some (.cells ⟨us0⟩ ty (0, 0))) (hc : AVRs L w s cs us) (h1 : ∀ u ∈ us, u.oneCell' = true) :
    Rel w0 I n L { s with b := upd s.b b (some cs) } a (w.setRow (L.β b) ⟨us⟩) := by
  have hlb := (h.bx b cs0 hb).1
  have off : ∀ k, L.lab k ≠ some (.box b) → (w.setRow (L.β b) ⟨us⟩).heap[k]? = w.heap[k]? := fun k hk => setRow_other w _ k _ (fun e => hk (by rw [e]; exact hlb))
  have hm : Moves [] L L w (w.setRow (L.β b) ⟨us⟩) s { s with b := upd s.b b (some cs) } := by
    refine ⟨fun k hk => ⟨hk, off k (by rw [(h.zlt k hk).2]; simp)⟩, fun id k _ hi hk => ⟨.inr hk, ?_⟩, fun x hx => ⟨?_, rfl⟩, fun id sz xs _ hx => ⟨xs, hx, rfl, rfl⟩⟩
    · obtain ⟨⟨sz, xs⟩, hx⟩ := Option.isSome_iff_exists.1 hi
      exact off k (by rw [(h.rw id sz xs hx).2.2 k (List.mem_of_mem_tail hk)]; simp)
    · by_cases e : x = b
      · subst e; simp
      · simpa [upd_ne _ _ e] using hx
  refine h.next (K := []) (h.same.setRow (h.llt _ _ hlb).2 _) (fun k hk => ⟨by simpa using (h.zlt k hk).1, (h.zlt k hk).2⟩) (fun k l hk => ⟨by simpa using (h.llt k l hk).1, (h.llt k l hk).2⟩) hm (fun i => (AV.kill_nil _).symm) (fun i ds hd => ?_) (fun i sz xs hx => .inl ⟨hx, rfl, rfl, fun k hk => ⟨off k (by rw [(h.rw i sz xs hx).2.2 k hk]; simp), rfl⟩⟩)
  by_cases e : i = b
  · subst e
    simp only [upd_self, Option.some.injEq] at hd
    subst hd
    exact .inr ⟨.inr (by rw [hb]; rfl), hlb, us, ty, setRow_heap w _ _ _ _ _ hk, hc.move0 hm, h1⟩
  · simp only [upd_ne _ _ e] at hd
    exact .inl ⟨ds, hd, (AV.kills_nil _).symm, off _ (by rw [(h.bx i ds hd).1]; simp [e]), rfl⟩
theorem st_store_box {ty : TypeId} {x y : Operand} {sz : Nat} (ho : o.op = .store ty x y) {b off : Nat} {cs : List AV} {av : AV} (hx : s.ev x = .ptr b off) (hb : s.b b = some cs) (hy : s.ev y = av) (hf : av.fits = true) (hsz : ∀ w, (sizeOf ty).run P w = .ok sz w) (hl : av.cells.length = sz) (hle : off + sz ≤ cs.length) :
    StepD γ P n o M B s { setB := [(b, over cs off av.cells)] } := by
  intro s' ag hd w0 I L a w hG hr K Q hK
  have h := hr.ev y
  rw [ag.ev1 ho (by simp [Op.operands]), hy] at h
  have hb' := (ag.b1 ho (by simp [Op.operands]) hx (i := b) (by simp [AV.bxs])).trans hb
  have hp := hr.ev x
  rw [ag.ev1 ho (by simp [Op.operands]), hx] at hp
  simp only [AVR] at hp
  obtain ⟨h1, h2⟩ := h.cells hf
  obtain ⟨hlb, us, t, h3, h4, h5⟩ := hr.bx b cs hb'
  have hlen := h4.length
  have hlen2 := h1.length
  have hn := hr.setbox hb' h3 (h4.over h1 off (by omega)) (fun u hu => by
    simp only [over, List.mem_append] at hu
    rcases hu with (hu | hu) | hu
    · exact h5 u (List.mem_of_mem_take hu)
    · exact h2 u hu
    · exact h5 u (List.mem_of_mem_drop hu))
  have he : (execOp a.eval o).run P w = .ok .skip (w.setRow (L.β b) ⟨over us off (a.eval y).cells.toList⟩) := by
    simp only [execOp, ho, hp.2, Instr.storeAt, Instr.sureAddr, pure_bind, Sem.run_bind]
    rw [run_storeVar hsz h3 (by rw [← Array.length_toList]; omega) (by omega) h2]
    rfl
  unfold Oper.wp
  rw [he]
  exact hK _ _ _ (hn.put hd (av := .undef) (by simp only [AVR]))
end
end Go.Rl

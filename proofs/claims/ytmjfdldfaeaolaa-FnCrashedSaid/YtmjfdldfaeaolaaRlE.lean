/- R, part E: addresses, lengths, cuts, parts. -/
import Derived.Test.YtmjfdldfaeaolaaRlD
namespace Go.Rl
open Go.RowKit

/-- A cut's bound. -/
def bnd (s : St) (x : Option Operand) (dflt : Int) : Option Int := match x with
  | none => some dflt
  | some x => match s.ev x with
    | .p _ (.v (.int _ i)) => some i
    | _ => none
theorem flat_drop {sz : Nat} : ∀ {xs : List (List PV)} (_ : ∀ es ∈ xs, es.length = sz) (l : Nat), (xs.drop l).flatten = xs.flatten.drop (l * sz)
  | [], _, l => by simp
  | e :: xs, hl, 0 => by simp
  | e :: xs, hl, l + 1 => by
    have he := hl e (by simp)
    rw [List.drop_succ_cons, flat_drop (fun es h => hl es (by simp [h])) l, List.flatten_cons, Nat.succ_mul, Nat.add_comm, ← List.drop_drop, ← he, List.drop_left]
theorem flat_take {sz : Nat} : ∀ {xs : List (List PV)} (_ : ∀ es ∈ xs, es.length = sz) (l : Nat), (xs.take l).flatten = xs.flatten.take (l * sz)
  | [], _, l => by simp
  | e :: xs, hl, 0 => by simp
  | e :: xs, hl, l + 1 => by
    have he := hl e (by simp)
    have h2 : (e ++ xs.flatten).take (e.length + l * sz) = e ++ xs.flatten.take (l * sz) := by rw [List.take_append, List.take_of_length_le (by omega)]; congr 2; omega
    rw [List.take_succ_cons, List.flatten_cons, flat_take (fun es h => hl es (by simp [h])) l, List.flatten_cons, Nat.succ_mul, Nat.add_comm, ← h2, he]
theorem PVR.cut {Z : Nat → Prop} {w : World} {o : Bool} {sz : Nat} {xs : List (List PV)} {A : Option Addr} {n c : Nat} (h : PVR Z w (.sl o sz xs) (.slice A n c)) {l m : Nat} (hm : l + m ≤ n) (A' : Option Addr) (c' : Nat) (hc : m ≤ c') (hA : 0 < m → ∃ k off, A = some ⟨k, off, none⟩ ∧ A' = some ⟨k, off + l * sz, none⟩) :
    PVR Z w (.sl o sz ((xs.drop l).take m)) (.slice A' m c') := by
  rcases Nat.eq_zero_or_pos m with rfl | hpos
  · rw [List.take_zero]; exact .emp _ _ _ _
  · obtain ⟨k, off, rfl, rfl⟩ := hA hpos
    cases h with
    | emp _ _ _ _ => omega
    | sl _ _ _ _ _ _ hlen hcc hz u hcell hp =>
      have hlen' : ∀ es ∈ xs.drop l, es.length = sz := fun es h => hlen es (List.mem_of_mem_drop h)
      have hfl : ((xs.drop l).take m).flatten = (xs.flatten.drop (l * sz)).take (m * sz) := by rw [flat_take hlen', flat_drop hlen]
      have hsz : ((xs.drop l).take m).length = m := by rw [List.length_take, List.length_drop]; omega
      have := PVR.sl (Z := Z) (w := w) o sz ((xs.drop l).take m) k (off + l * sz) c' (fun es h => hlen' es (List.mem_of_mem_take h)) (by omega) hz (fun j => u (l * sz + j)) (fun j hj => by
        rw [Nat.add_assoc]
        refine hcell _ ?_
        rw [hfl, List.length_take, List.length_drop] at hj
        omega) (fun j p hj => by
        rw [hfl, List.getElem?_take] at hj
        split at hj
        · rw [List.getElem?_drop] at hj; exact hp _ _ hj
        · cases hj)
      rwa [hsz] at this

section
variable {γ : Gho} {P : Program} {n : Nat} {o : Oper} {M B : List Nat} {s : St}
theorem run_fieldAt {t : TypeId} {fs : Array Field} {f : Nat} {fld : Field} {sz : Nat} (hu : P.underlying t = some (.struct fs)) (hf : fs[f]? = some fld) (hsz : ∀ w, (sizeOf fld.type).run P w = .ok sz w) (hz : sz ≠ 0) (k off : Nat) (w : World) :
    (Instr.fieldAt t (.pointer (some ⟨k, off, none⟩)) f).run P w = .ok (.pointer (some ⟨k, off + fld.offset, none⟩)) w := by
  simp [Instr.fieldAt, run_underlying hu, hf, Instr.sureAddr, fieldPlace, hsz, hz, Addr.add0]
section faddr
variable {t : TypeId} {x : Operand} {f : Nat} {fs : Array Field} {fld : Field} {sz : Nat}
theorem st_faddr_box (ho : o.op = .fieldAddr t x f) {b off : Nat} (hx : s.ev x = .ptr b off) (hu : P.underlying t = some (.struct fs)) (hf : fs[f]? = some fld) (hsz : ∀ w, (sizeOf fld.type).run P w = .ok sz w) (hz : sz ≠ 0) :
    StepD γ P n o M B s { put := .ptr b (off + fld.offset) } :=
  stepD_pure fun s' ag w0 I L a w hrl => by
    have he := (ag.ev1 ho (by simp [Op.operands])).trans hx
    have h := hrl.ev x
    rw [he] at h
    simp only [AVR] at h
    exact ⟨_, by simp only [execOp, ho, h.2, Sem.run_bind, run_fieldAt hu hf hsz hz]; rfl, by simp only [AVR]; exact ⟨h.1, trivial⟩⟩
theorem st_faddr_ea (ho : o.op = .fieldAddr t x f) {id i off : Nat} (hx : s.ev x = .ea id i off) (hu : P.underlying t = some (.struct fs)) (hf : fs[f]? = some fld) (hsz : ∀ w, (sizeOf fld.type).run P w = .ok sz w) (hz : sz ≠ 0) :
    StepD γ P n o M B s { put := .ea id i (off + fld.offset) } :=
  stepD_pure fun s' ag w0 I L a w hrl => by
    have he := (ag.ev1 ho (by simp [Op.operands])).trans hx
    have h := hrl.ev x
    rw [he] at h
    simp only [AVR] at h
    obtain ⟨sz', xs, k, m, c, h1, h2, h3, h4⟩ := h
    exact ⟨_, by simp only [execOp, ho, h4, Sem.run_bind, run_fieldAt hu hf hsz hz]; rfl, by simp only [AVR]; exact ⟨sz', xs, k, m, c, h1, h2, h3, by rw [Nat.add_assoc]⟩⟩
theorem st_faddr_fea (ho : o.op = .fieldAddr t x f) {d : Option Nat} {ps : List PV} (hx : s.ev x = .fea d ps) (hu : P.underlying t = some (.struct fs)) (hf : fs[f]? = some fld) (hsz : ∀ w, (sizeOf fld.type).run P w = .ok sz w) (hz : sz ≠ 0) :
    StepD γ P n o M B s { put := .fea d (ps.drop fld.offset) } :=
  stepD_pure fun s' ag w0 I L a w hrl => by
    have he := (ag.ev1 ho (by simp [Op.operands])).trans hx
    have h := hrl.ev x
    rw [he] at h
    simp only [AVR] at h
    obtain ⟨⟨k, off, h1, h2, h3⟩, h4⟩ := h
    refine ⟨_, by simp only [execOp, ho, h1, Sem.run_bind, run_fieldAt hu hf hsz hz]; rfl, ?_⟩
    simp only [AVR]
    refine ⟨⟨k, _, rfl, h2, fun j p hp => ?_⟩, h4⟩
    rw [List.getElem?_drop] at hp
    rw [Nat.add_assoc]
    exact h3 _ p hp
end faddr
section idx
variable {t e : TypeId} {x y : Operand} {sz : Nat} {d' : Option Nat} {k : IntKind} {i : Int}
theorem run_indexAt (hu : P.underlying t = some (.slice e)) (hsz : ∀ w, (sizeOf e).run P w = .ok sz w) (b off len c : Nat) (w : World) (h0 : 0 ≤ i) (h1 : i < len) :
    (Instr.indexAt t (.slice (some ⟨b, off, none⟩) len c) (.int k i)).run P w = .ok (.pointer (some ⟨b, off + i.toNat * sz, none⟩)) w := by
  have h2 : (0 ≤ i ∧ i < (len : Int)) := ⟨h0, h1⟩
  simp [Instr.indexAt, asIntOf, run_underlying hu, hsz, h2, Addr.add0]
theorem st_idx_row (ho : o.op = .indexAddr t x y) {id lo len rz : Nat} {xs : List (List PV)} (hx : s.ev x = .sl id lo len) (hr : s.r id = some (rz, xs)) (hy : s.ev y = .p d' (.v (.int k i))) (hu : P.underlying t = some (.slice e)) (hsz : ∀ w, (sizeOf e).run P w = .ok sz w) (hz : rz = sz) (h0 : 0 ≤ i) (h1 : i < len) :
    StepD γ P n o M B s { put := .ea id (lo + i.toNat) 0 } :=
  stepD_pure fun s' ag w0 I L a w hrl => by
    have he := (ag.ev1 ho (by simp [Op.operands])).trans hx
    have hr' := (ag.r1 ho (by simp [Op.operands]) hx (id := id) (by simp [AV.rows])).trans hr
    have hi := hrl.evv ((ag.ev1 ho (by simp [Op.operands])).trans hy)
    have h := hrl.ev x
    rw [he] at h
    simp only [AVR] at h
    obtain ⟨sz', xs', h2, h3, A, m, c, A', c', h4, h5, h6, h7, h8⟩ := h
    rw [hr'] at h2
    cases h2
    subst hz
    obtain ⟨b, rfl, rfl⟩ := h8 (by omega)
    refine ⟨_, by simp only [execOp, ho, h5, hi, Sem.run_bind, run_indexAt hu hsz _ _ _ _ _ h0 h1]; rfl, ?_⟩
    simp only [AVR]
    exact ⟨rz, xs, b, m, c, hr', by omega, h4, by rw [Nat.add_mul]; rfl⟩
theorem st_idx_fro (ho : o.op = .indexAddr t x y) {d : Option Nat} {ow : Bool} {rz : Nat} {xs : List (List PV)} {es : List PV} (hx : s.ev x = .p d (.sl ow rz xs)) (hy : s.ev y = .p d' (.v (.int k i))) (hu : P.underlying t = some (.slice e)) (hsz : ∀ w, (sizeOf e).run P w = .ok sz w) (hz : rz = sz) (h0 : 0 ≤ i) (he : xs[i.toNat]? = some es) :
    StepD γ P n o M B s { put := .fea d es } :=
  stepD_pure fun s' ag w0 I L a w hrl => by
    have hev := (ag.ev1 ho (by simp [Op.operands])).trans hx
    have hi := hrl.evv ((ag.ev1 ho (by simp [Op.operands])).trans hy)
    have h := hrl.ev x
    rw [hev] at h
    simp only [AVR] at h
    obtain ⟨h2, h3⟩ := h
    subst hz
    have hlt : i.toNat < xs.length := (List.getElem?_eq_some_iff.1 he).1
    generalize hv : a.eval x = v at h2
    cases h2 with
    | emp _ _ _ _ => simp at he
    | sl _ _ _ b off c hlen hc hzb u hcell hp =>
      refine ⟨_, by simp only [execOp, ho, hv, hi, Sem.run_bind, run_indexAt hu hsz _ _ _ _ _ h0 (show i < (xs.length : Int) by omega)]; rfl, ?_⟩
      simp only [AVR]
      refine ⟨⟨b, _, rfl, hzb, fun j p hj => ?_⟩, h3⟩
      have hes : es.length = rz := hlen es (List.mem_of_getElem? he)
      have hj' : j < rz := by rw [← hes]; exact (List.getElem?_eq_some_iff.1 hj).1
      have hf := flat_get hlen he hj'
      exact ⟨u (i.toNat * rz + j), by rw [Nat.add_assoc]; exact hcell _ (flat_lt hlen hlt hj'), hp _ p (by rw [hf]; exact hj)⟩
end idx
section len
variable {x : Operand} {t e : TypeId}
theorem st_len_row (ho : o.op = .call { callee := .builtin .len, args := #[x], argTypes := #[t] }) {id lo len : Nat} (hx : s.ev x = .sl id lo len) (hu : P.underlying t = some (.slice e)) : StepD γ P n o M B s { put := .p none (.v (.int .i64 len)) } :=
  stepD_pure fun s' ag w0 I L a w hrl => by
    have he := (ag.ev1 ho (by simp [Op.operands, Call.operands])).trans hx
    have h := hrl.ev x
    rw [he] at h
    simp only [AVR] at h
    obtain ⟨sz', xs', h2, h3, A, m, c, A', c', h4, h5, h6, h7, h8⟩ := h
    exact ⟨_, by simp [execOp, ho, resolve, invoke, builtin, Builtin.len_, h5, run_underlying hu, goInt], avr_flat L w s' rfl⟩
theorem st_len_fro (ho : o.op = .call { callee := .builtin .len, args := #[x], argTypes := #[t] }) {d : Option Nat} {ow : Bool} {sz : Nat} {xs : List (List PV)} (hx : s.ev x = .p d (.sl ow sz xs)) (hu : P.underlying t = some (.slice e)) : StepD γ P n o M B s { put := .p none (.v (.int .i64 xs.length)) } :=
  stepD_pure fun s' ag w0 I L a w hrl => by
    have he := (ag.ev1 ho (by simp [Op.operands, Call.operands])).trans hx
    have h := hrl.ev x
    rw [he] at h
    simp only [AVR] at h
    obtain ⟨h2, h3⟩ := h
    generalize hv : a.eval x = v at h2
    cases h2 with
    | emp _ _ _ _ => exact ⟨_, by simp [execOp, ho, resolve, invoke, builtin, Builtin.len_, hv, run_underlying hu, goInt], avr_flat L w s' rfl⟩
    | sl _ _ _ b off c hlen hc hzb u hcell hp => exact ⟨_, by simp [execOp, ho, resolve, invoke, builtin, Builtin.len_, hv, run_underlying hu, goInt], avr_flat L w s' rfl⟩
theorem st_len_str (ho : o.op = .call { callee := .builtin .len, args := #[x], argTypes := #[t] }) {d : Option Nat} {b : ByteArray} (hx : s.ev x = .p d (.v (.string b))) (hu : P.underlying t = some .string) : StepD γ P n o M B s { put := .p none (.v (.int .i64 b.size)) } :=
  stepD_pure fun s' ag w0 I L a w hrl => by
    have h := hrl.evv ((ag.ev1 ho (by simp [Op.operands, Call.operands])).trans hx)
    exact ⟨_, by simp [execOp, ho, resolve, invoke, builtin, Builtin.len_, h, run_underlying hu, goInt], avr_flat L w s' rfl⟩
end len
section parts
theorem st_extract {x : Operand} {i : Nat} (ho : o.op = .extract x i) {vs : List AV} {av : AV} (hx : s.ev x = .tup vs) (hi : vs[i]? = some av) : StepD γ P n o M B s { put := av } :=
  stepD_pure fun s' ag w0 I L a w hrl => by
    have he := (ag.ev1 ho (by simp [Op.operands])).trans hx
    have h := hrl.ev x
    rw [he] at h
    simp only [AVR] at h
    obtain ⟨us, h1, h2⟩ := h
    obtain ⟨u, hu, ha⟩ := h2.get i av hi
    exact ⟨u, by simp [execOp, ho, h1, Instr.extract, hu], ha⟩
variable {t : TypeId} {x : Operand} {f : Nat} {fs : Array Field} {fld : Field}
theorem st_field1 (ho : o.op = .field t x f) {cs : List AV} {av : AV} (hx : s.ev x = .agg cs) (hu : P.underlying t = some (.struct fs)) (hf : fs[f]? = some fld) (hag : ∀ w, (isAgg fld.type).run P w = .ok false w) (hi : cs[fld.offset]? = some av) : StepD γ P n o M B s { put := av } :=
  stepD_pure fun s' ag w0 I L a w hrl => by
    have he := (ag.ev1 ho (by simp [Op.operands])).trans hx
    have h := hrl.ev x
    rw [he] at h
    simp only [AVR] at h
    obtain ⟨us, h1, h2⟩ := h
    obtain ⟨u, hu', ha⟩ := h2.get _ av hi
    exact ⟨u, by simp [execOp, ho, h1, Instr.field, run_underlying hu, hf, asAgg, part, hag, hu'], ha⟩
theorem st_field (ho : o.op = .field t x f) {cs : List AV} {sz : Nat} (hx : s.ev x = .agg cs) (hu : P.underlying t = some (.struct fs)) (hf : fs[f]? = some fld) (hag : ∀ w, (isAgg fld.type).run P w = .ok true w) (hsz : ∀ w, (sizeOf fld.type).run P w = .ok sz w) : StepD γ P n o M B s { put := .agg ((cs.drop fld.offset).take sz) } :=
  stepD_pure fun s' ag w0 I L a w hrl => by
    have he := (ag.ev1 ho (by simp [Op.operands])).trans hx
    have h := hrl.ev x
    rw [he] at h
    simp only [AVR] at h
    obtain ⟨us, h1, h2⟩ := h
    refine ⟨.agg ⟨(us.drop fld.offset).take sz⟩, ?_, ?_⟩
    · simp [execOp, ho, h1, Instr.field, run_underlying hu, hf, asAgg, part, hag, hsz]
    · simp only [AVR]; exact ⟨_, rfl, h2.sub _ _⟩
theorem st_nilcheck {x : Operand} (ho : o.op = .nilCheck x) {b off : Nat} (hx : s.ev x = .ptr b off) : StepD γ P n o M B s { put := .ptr b off } :=
  stepD_pure fun s' ag w0 I L a w hrl => by
    have he := (ag.ev1 ho (by simp [Op.operands])).trans hx
    have h := hrl.ev x
    rw [he] at h
    have h' := h
    simp only [AVR] at h
    exact ⟨.pointer (some ⟨L.β b, off, none⟩), by simp [execOp, ho, h.2], by rw [h.2] at h'; exact h'⟩
end parts
end
end Go.Rl

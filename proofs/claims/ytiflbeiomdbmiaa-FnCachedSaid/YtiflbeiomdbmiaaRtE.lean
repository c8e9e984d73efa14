/- Caches: what is got, put and let go. -/
import Derived.Test.YtiflbeiomdbmiaaRtDom
import Derived.Test.YtiflbeiomdbmiaaRlV
namespace Go.Rl
theorem idx_cases {α : Type} (p : α → Bool) (l : List α) : (idxF p l = -1 ∧ ∀ e ∈ l, p e = false) ∨ ∃ (k : Nat) (e : α), idxF p l = (k : Int) ∧ l[k]? = some e ∧ p e = true ∧ ∀ j e', j < k → l[j]? = some e' → p e' = false := by
  unfold idxF
  cases h : l.findIdx? p with
  | none =>
    have h1 := List.findIdx?_eq_none_iff.1 h
    exact .inl ⟨rfl, h1⟩
  | some i =>
    obtain ⟨hlt, hp, hq⟩ := List.findIdx?_eq_some_iff_getElem.1 h
    refine .inr ⟨i, l[i], rfl, List.getElem?_eq_getElem hlt, hp, fun j e' hj he => ?_⟩
    have h3 := hq j hj
    obtain ⟨h4, h5⟩ := List.getElem?_eq_some_iff.1 he
    rw [h5] at h3
    simpa using h3
abbrev nmP (n : ByteArray) : Slot → Bool := fun s => decide (s.name = n)
/-- What letting go answers. -/
def freeC (m : Int) (l : List Slot) (n : ByteArray) : Int × List Slot × Bool :=
  if okC m l = true then
    if idxF (nmP n) l < 0 then (m, l, false)
    else match l[(idxF (nmP n) l).toNat]? with
      | some e => if e.pins = 0 then (m, l, false) else (m, shedL m l.length (l.set (idxF (nmP n) l).toNat ⟨e.name, e.size, e.pins - 1⟩), true)
      | none => (m, l, false)
  else (0, [], false)
theorem free_bad {m : Int} {l : List Slot} {n : ByteArray} (h : okC m l = false) : freeC m l n = (0, [], false) := by simp [freeC, h]
theorem free_none {m : Int} {l : List Slot} {n : ByteArray} (h : okC m l = true) (hi : idxF (nmP n) l = -1) : freeC m l n = (m, l, false) := by simp [freeC, h, hi]
theorem free_idle {m : Int} {l : List Slot} {n : ByteArray} {k : Nat} {e : Slot} (h : okC m l = true) (hi : idxF (nmP n) l = k) (he : l[k]? = some e) (hp : e.pins = 0) : freeC m l n = (m, l, false) := by
  have h0 : ¬ ((k : Int) < 0) := by omega
  simp [freeC, h, hi, he, hp, h0]
theorem free_go {m : Int} {l : List Slot} {n : ByteArray} {k : Nat} {e : Slot} (h : okC m l = true) (hi : idxF (nmP n) l = k) (he : l[k]? = some e) (hp : e.pins ≠ 0) : freeC m l n = (m, shedL m (l.set k ⟨e.name, e.size, e.pins - 1⟩).length (l.set k ⟨e.name, e.size, e.pins - 1⟩), true) := by
  have h0 : ¬ ((k : Int) < 0) := by omega
  simp [freeC, h, hi, he, hp, h0]
theorem okC_s {m : Int} {l : List Slot} (h : okC m l = true) : okS l = true := by
  simp only [okC, Bool.and_eq_true] at h
  exact h.1.2
theorem okC_len {m : Int} {l : List Slot} (h : okC m l = true) : l.length ≤ 40 := by
  simp only [okC, Bool.and_eq_true, decide_eq_true_eq] at h
  exact h.1.1.2
theorem okC_m {m : Int} {l : List Slot} (h : okC m l = true) : 0 ≤ m ∧ m ≤ 100000 := by
  simp only [okC, within, Bool.and_eq_true, decide_eq_true_eq] at h
  exact h.1.1.1
theorem okS_get {l : List Slot} {k : Nat} {e : Slot} (h : okS l = true) (he : l[k]? = some e) : okSlot l k e = true := by
  have := (List.all_eq_true.1 h) k (List.mem_range.2 (List.getElem?_eq_some_iff.1 he).1)
  rw [he] at this
  exact this
theorem okS_pins {l : List Slot} {k : Nat} {e : Slot} (h : okS l = true) (he : l[k]? = some e) : 0 ≤ e.pins ∧ e.pins ≤ 100000 := by
  have := okS_get h he
  simp only [okSlot, within, Bool.and_eq_true, decide_eq_true_eq] at this
  omega
theorem set_bnd {l : List Slot} {k : Nat} {e : Slot} {p : Int} (h : okS l = true) (he : l[k]? = some e) : ∀ s ∈ l.set k ⟨e.name, e.size, p⟩, 0 ≤ s.size ∧ s.size ≤ 100000 := fun s hs => by
  rcases List.mem_or_eq_of_mem_set hs with h1 | rfl
  · exact okS_bnd h s h1
  · exact okS_bnd h e (List.mem_of_getElem? he)
theorem pvS_set {l : List Slot} {k : Nat} {x : Slot} : (pvS l).set k x.pv = pvS (l.set k x) := by simp [pvS, List.map_set]
theorem shed_len (m : Int) (n : Nat) (l : List Slot) : (shedL m n l).length ≤ l.length := by
  induction n generalizing l with
  | zero => exact Nat.le_refl _
  | succ n ih =>
    rw [shedL]
    split
    · split
      · split
        · exact Nat.le_trans (ih _) (List.length_eraseIdx_le _ _)
        · exact ih _
      · exact ih _
    · exact Nat.le_refl _
theorem free_len (m : Int) (l : List Slot) (n : ByteArray) : (freeC m l n).2.1.length ≤ 40 := by
  unfold freeC
  split
  · rename_i h
    have := okC_len h
    split
    · exact this
    · split
      · split
        · exact this
        · have h2 := shed_len m l.length (l.set (idxF (nmP n) l).toNat ⟨‹Slot›.name, ‹Slot›.size, ‹Slot›.pins - 1⟩)
          rw [List.length_set] at h2
          exact Nat.le_trans h2 this
      · exact this
  · exact Nat.zero_le _
theorem sz_len {l : List Slot} (h : ¬ (if szSlotsF l 1048576 < 0 then -1 else szSlotsF l 1048576) < 0) : l.length ≤ 1048576 := by
  unfold szSlotsF at h
  split at h
  · omega
  · omega
theorem held_self (k n : Nat) : heldF k (marks k n) = ((k + 3 * n : Nat) : Int) := by simp [heldF, marks_len]
theorem i64_bnd {n : Int} (h : (Lit.int .i64 n).wf = true) : -9223372036854775808 ≤ n ∧ n < 9223372036854775808 := by
  simp only [Lit.wf, Bool.and_eq_true, decide_eq_true_eq] at h
  have h1 : IntKind.i64.min = -9223372036854775808 := by decide
  have h2 : IntKind.i64.max = 9223372036854775807 := by decide
  omega
theorem open_slot {es : List PV} (h : Fits [.str, .int .i64, .int .i64] es) : ∃ s : Slot, es = s.pv ∧ s.name.size ≤ reachBytes := by
  obtain ⟨p0, e0, rfl, f0, h⟩ := fits_cons h
  obtain ⟨p1, e1, rfl, f1, h⟩ := fits_cons h
  obtain ⟨p2, e2, rfl, f2, h⟩ := fits_cons h
  obtain rfl := fits_nil h
  obtain ⟨b, rfl, hb⟩ := fit_str f0
  obtain ⟨n, rfl, hn⟩ := fit_int f1
  obtain ⟨k, rfl, hk⟩ := fit_int f2
  exact ⟨⟨b, n, k⟩, rfl, hb⟩
theorem open_cache {ps : List PV} (h : Fits [.int .i64, .sl [.str, .int .i64, .int .i64]] ps) : ∃ (m : Int) (l : List Slot), ps = [.v (.int .i64 m), .sl false 3 (pvS l)] ∧ l.length ≤ maxLen ∧ ∀ s ∈ l, s.name.size ≤ reachBytes := by
  obtain ⟨p0, e0, rfl, f0, h⟩ := fits_cons h
  obtain ⟨p1, e1, rfl, f1, h⟩ := fits_cons h
  obtain rfl := fits_nil h
  obtain ⟨n, rfl, hn⟩ := fit_int f0
  obtain ⟨xs, rfl, hl, hx⟩ := fit_sl f1
  obtain ⟨l, rfl, hB⟩ := fits_list (f := Slot.pv) (fun es he => open_slot he) hx
  exact ⟨n, l, rfl, by simpa using hl, hB⟩
theorem maxLen_le : maxLen ≤ 9223372036854775807 := by decide
theorem reach_le : reachBytes ≤ 9223372036854775807 := by decide
/-- What getting answers. -/
def getC (m : Int) (l : List Slot) (n : ByteArray) : Int × List Slot × Bool :=
  if okC m l = true then
    if idxF (nmP n) l < 0 then (m, l, false)
    else match l[(idxF (nmP n) l).toNat]? with
      | some e => if 100000 ≤ e.pins then (m, l, false) else (m, ⟨e.name, e.size, e.pins + 1⟩ :: l.eraseIdx (idxF (nmP n) l).toNat, true)
      | none => (m, l, false)
  else (0, [], false)
theorem get_bad {m : Int} {l : List Slot} {n : ByteArray} (h : okC m l = false) : getC m l n = (0, [], false) := by simp [getC, h]
theorem get_none {m : Int} {l : List Slot} {n : ByteArray} (h : okC m l = true) (hi : idxF (nmP n) l = -1) : getC m l n = (m, l, false) := by simp [getC, h, hi]
theorem get_full {m : Int} {l : List Slot} {n : ByteArray} {k : Nat} {e : Slot} (h : okC m l = true) (hi : idxF (nmP n) l = k) (he : l[k]? = some e) (hp : 100000 ≤ e.pins) : getC m l n = (m, l, false) := by
  have h0 : ¬ ((k : Int) < 0) := by omega
  simp [getC, h, hi, he, hp, h0]
theorem get_go {m : Int} {l : List Slot} {n : ByteArray} {k : Nat} {e : Slot} (h : okC m l = true) (hi : idxF (nmP n) l = k) (he : l[k]? = some e) (hp : ¬ 100000 ≤ e.pins) : getC m l n = (m, ⟨e.name, e.size, e.pins + 1⟩ :: l.eraseIdx k, true) := by
  have h0 : ¬ ((k : Int) < 0) := by omega
  simp only [getC, h, hi, h0, if_true, if_false, Int.toNat_natCast, he, hp]
theorem get_len (m : Int) (l : List Slot) (n : ByteArray) : (getC m l n).2.1.length ≤ 41 := by
  unfold getC
  split
  · rename_i h
    have := okC_len h
    split
    · simp only; omega
    · split
      · split
        · simp only; omega
        · have := List.length_eraseIdx_le l (idxF (nmP n) l).toNat
          simp only [List.length_cons]
          omega
      · simp only; omega
  · simp
theorem er_at {l : List Slot} {i : Nat} : (l.take (i + 1)).eraseIdx i = (l.take i).eraseIdx i := by
  rw [List.eraseIdx_eq_take_drop_succ, List.eraseIdx_eq_take_drop_succ, List.drop_of_length_le (by simp; omega), List.drop_of_length_le (l := l.take i) (by simp; omega), List.take_take, List.take_take, Nat.min_self, Nat.min_eq_left (Nat.le_succ i)]
theorem er_ne {l : List Slot} {i k : Nat} {x : Slot} (h : l[i]? = some x) (hk : i ≠ k) : (l.take (i + 1)).eraseIdx k = (l.take i).eraseIdx k ++ [x] := by
  have hlt := (List.getElem?_eq_some_iff.1 h).1
  rw [List.take_add_one, h, Option.toList_some]
  rcases Nat.lt_or_ge k i with h1 | h1
  · rw [List.eraseIdx_append_of_lt_length (by simp; omega)]
  · rw [List.eraseIdx_of_length_le (by simp; omega), List.eraseIdx_of_length_le (by simp; omega)]
theorem er_all {l : List Slot} {i k : Nat} (h : l.length ≤ i) : (l.take i).eraseIdx k = l.eraseIdx k := by rw [List.take_of_length_le h]
/-- What putting answers. -/
def putC (m : Int) (l : List Slot) (n : ByteArray) (s : Int) : Int × List Slot × Bool :=
  if okC m l = true then
    if isSlot n s = false ∨ 0 ≤ idxF (nmP n) l then (m, l, false)
    else if 40 < (shedL m (⟨n, s, 1⟩ :: l).length (⟨n, s, 1⟩ :: l)).length then (m, l, false)
    else (m, shedL m (⟨n, s, 1⟩ :: l).length (⟨n, s, 1⟩ :: l), true)
  else (0, [], false)
theorem put_bad {m : Int} {l : List Slot} {n : ByteArray} {s : Int} (h : okC m l = false) : putC m l n s = (0, [], false) := by simp [putC, h]
theorem put_no {m : Int} {l : List Slot} {n : ByteArray} {s : Int} (h : okC m l = true) (hi : isSlot n s = false ∨ 0 ≤ idxF (nmP n) l) : putC m l n s = (m, l, false) := by simp only [putC, h, if_true, if_pos hi]
theorem put_much {m : Int} {l : List Slot} {n : ByteArray} {s : Int} (h : okC m l = true) (hi : isSlot n s = true) (hx : ¬ 0 ≤ idxF (nmP n) l) (hm : 40 < (shedL m (⟨n, s, 1⟩ :: l).length (⟨n, s, 1⟩ :: l)).length) : putC m l n s = (m, l, false) := by
  rw [putC, if_pos h, if_neg (by simp [hi, hx]), if_pos hm]
theorem put_go {m : Int} {l : List Slot} {n : ByteArray} {s : Int} (h : okC m l = true) (hi : isSlot n s = true) (hx : ¬ 0 ≤ idxF (nmP n) l) (hm : ¬ 40 < (shedL m (⟨n, s, 1⟩ :: l).length (⟨n, s, 1⟩ :: l)).length) : putC m l n s = (m, shedL m (⟨n, s, 1⟩ :: l).length (⟨n, s, 1⟩ :: l), true) := by
  rw [putC, if_pos h, if_neg (by simp [hi, hx]), if_neg hm]
theorem put_len (m : Int) (l : List Slot) (n : ByteArray) (s : Int) : (putC m l n s).2.1.length ≤ 40 := by
  unfold putC
  split
  · rename_i h
    have := okC_len h
    split
    · exact this
    · split
      · exact this
      · simp only; omega
  · exact Nat.zero_le _
theorem put_bnd {m : Int} {l : List Slot} {n : ByteArray} {s : Int} (h : okC m l = true) (hs : isSlot n s = true) : ∀ x ∈ (⟨n, s, 1⟩ :: l : List Slot), 0 ≤ x.size ∧ x.size ≤ 100000 := fun x hx => by
  rcases List.mem_cons.1 hx with rfl | hx
  · simp only [isSlot, within, Bool.and_eq_true, decide_eq_true_eq] at hs
    simp only
    omega
  · exact okS_bnd (okC_s h) x hx
end Go.Rl

/- Caches: what is held never goes; a right cache stays right. -/
import Derived.Test.YtiflbeiomdbmiaaRtE
namespace Go.Rl
/-- What stays when, from place t on, what is not pinned goes. -/
def keepF : Nat → List Slot → List Slot
  | _, [] => []
  | 0, x :: l => if x.pins = 0 then keepF 0 l else x :: keepF 0 l
  | t + 1, x :: l => x :: keepF t l
theorem keep_nil (t : Nat) : keepF t [] = [] := by cases t <;> rfl
theorem keep_sub : ∀ (t : Nat) (l : List Slot), (keepF t l).Sublist l
  | t, [] => by rw [keep_nil]; exact List.Sublist.refl _
  | 0, x :: l => by
    rw [keepF]
    split
    · exact (keep_sub 0 l).cons _
    · exact (keep_sub 0 l).cons_cons _
  | t + 1, x :: l => (keep_sub t l).cons_cons _
theorem keep_id : ∀ {t : Nat} {l : List Slot}, (∀ j e, t ≤ j → l[j]? = some e → e.pins ≠ 0) → keepF t l = l
  | t, [], _ => keep_nil t
  | 0, x :: l, h => by
    rw [keepF, if_neg (h 0 x (Nat.le_refl _) rfl), keep_id (fun j e _ he => h (j + 1) e (Nat.zero_le _) he)]
  | t + 1, x :: l, h => by
    rw [keepF, keep_id (fun j e hj he => h (j + 1) e (by omega) he)]
theorem keep_erase : ∀ {t n : Nat} {l : List Slot} {e : Slot}, t ≤ n → l[n]? = some e → e.pins = 0 → keepF t (l.eraseIdx n) = keepF t l
  | _, _, [], _, _, he, _ => by simp at he
  | 0, 0, x :: l, e, _, he, hp => by
    simp only [List.getElem?_cons_zero, Option.some.injEq] at he
    subst he
    rw [List.eraseIdx_cons_zero, keepF, if_pos hp]
  | 0, n + 1, x :: l, e, _, he, hp => by
    rw [List.getElem?_cons_succ] at he
    rw [List.eraseIdx_cons_succ, keepF, keepF, keep_erase (Nat.zero_le n) he hp]
  | t + 1, 0, _ :: _, _, h, _, _ => absurd h (by omega)
  | t + 1, n + 1, x :: l, e, h, he, hp => by
    rw [List.getElem?_cons_succ] at he
    rw [List.eraseIdx_cons_succ, keepF, keepF, keep_erase (by omega : t ≤ n) he hp]
theorem keep0_pins : ∀ {l : List Slot} {x : Slot}, x ∈ keepF 0 l → x.pins ≠ 0
  | [], _, h => by rw [keep_nil] at h; cases h
  | y :: l, x, h => by
    rw [keepF] at h
    split at h
    · exact keep0_pins h
    · rcases List.mem_cons.1 h with rfl | h
      · assumption
      · exact keep0_pins h
theorem shed_keep {m : Int} : ∀ (n : Nat) (l : List Slot), n ≤ l.length → (∀ j e, n ≤ j → l[j]? = some e → e.pins ≠ 0) →
    ∃ t, t ≤ n ∧ shedL m n l = keepF t l ∧ (usedF (keepF t l) ≤ m ∨ t = 0) ∧ (m < usedF l ∨ t = n)
  | 0, l, _, h => ⟨0, Nat.le_refl _, by rw [keep_id h]; rfl, .inr rfl, .inr rfl⟩
  | n + 1, l, hn, h => by
    by_cases hu : m < usedF l
    · obtain ⟨e, he⟩ : ∃ e, l[n]? = some e := ⟨_, List.getElem?_eq_getElem (by omega)⟩
      by_cases hp : e.pins = 0
      · obtain ⟨t, h1, h2, h3, _⟩ := shed_keep (m := m) n (l.eraseIdx n) (by rw [List.length_eraseIdx_of_lt (by omega)]; omega) (fun j e' hj hs => by
          rw [List.getElem?_eraseIdx_of_ge hj] at hs
          exact h (j + 1) e' (by omega) hs)
        rw [keep_erase h1 he hp] at h2 h3
        exact ⟨t, by omega, (shed_go hu he hp).trans h2, h3, .inl hu⟩
      · obtain ⟨t, h1, h2, h3, _⟩ := shed_keep (m := m) n l (by omega) (fun j e' hj hs => by
          by_cases hjn : j = n
          · subst hjn; rw [he] at hs; cases hs; exact hp
          · exact h j e' (by omega) hs)
        exact ⟨t, by omega, (shed_pass hu he hp).trans h2, h3, .inl hu⟩
    · refine ⟨n + 1, Nat.le_refl _, ?_, .inl ?_, .inr rfl⟩
      · rw [shed_done hu, keep_id h]
      · rw [keep_id h]; omega
/-- A right list of slots. -/
structure OkL (l : List Slot) : Prop where
  s : ∀ x ∈ l, isSlot x.name x.size = true ∧ within x.pins 0 100000 = true
  n : (l.map (·.name)).Nodup
theorem okS_iff {l : List Slot} : okS l = true ↔ OkL l := by
  constructor
  · intro h
    refine ⟨fun x hx => ?_, ?_⟩
    · obtain ⟨k, hk⟩ := List.getElem?_of_mem hx
      have := okS_get h hk
      simp only [okSlot, Bool.and_eq_true] at this
      exact ⟨this.1.1, this.1.2⟩
    · rw [List.nodup_iff_pairwise_ne, List.pairwise_iff_getElem] <;> intro i j hi hj hij he
      simp only [List.length_map] at hi hj
      simp only [List.getElem_map] at he
      have := okS_get h (List.getElem?_eq_getElem hj)
      simp only [okSlot, Bool.and_eq_true, decide_eq_true_eq] at this
      exact idx_later hij (List.getElem?_eq_getElem hi) he this.2
  · intro h
    refine okS_yes (Nat.le_refl _) (fun j e hj he => ?_)
    have h1 := h.s e (List.mem_of_getElem? he)
    simp only [okSlot, h1.1, h1.2, Bool.and_true, Bool.true_and, decide_eq_true_eq]
    refine idx_first he (fun i e' hi he' hn => ?_)
    have hnd := h.n
    rw [List.nodup_iff_pairwise_ne, List.pairwise_iff_getElem] at hnd
    refine hnd i j (by simp; omega) (by simpa using hj) hi ?_
    simp only [List.getElem_map]
    rw [(List.getElem?_eq_some_iff.1 he).2, (List.getElem?_eq_some_iff.1 he').2, hn]
theorem okC_iff {m : Int} {l : List Slot} : okC m l = true ↔ (0 ≤ m ∧ m ≤ 100000) ∧ l.length ≤ 40 ∧ OkL l ∧ (usedF l ≤ m ∨ ∀ x ∈ l, x.pins ≠ 0) := by
  simp only [okC, within, Bool.and_eq_true, decide_eq_true_eq, okS_iff, Bool.or_eq_true, Bool.not_eq_true', List.any_eq_false, and_assoc]
theorem OkL.sub {l l' : List Slot} (h : OkL l) (hs : l'.Sublist l) : OkL l' := ⟨fun x hx => h.s x (hs.subset hx), h.n.sublist (hs.map _)⟩
theorem okC_keep {m : Int} {t : Nat} {l : List Slot} (hm : 0 ≤ m ∧ m ≤ 100000) (hl : (keepF t l).length ≤ 40) (ho : OkL l) (hu : usedF (keepF t l) ≤ m ∨ t = 0) : okC m (keepF t l) = true :=
  okC_iff.2 ⟨hm, hl, ho.sub (keep_sub t l), hu.imp id (fun h x hx => by subst h; exact keep0_pins hx)⟩
theorem map_set_same {α β : Type} (f : α → β) {l : List α} {k : Nat} {e x : α} (he : l[k]? = some e) (h : f x = f e) : (l.set k x).map f = l.map f := by
  apply List.ext_getElem?
  intro j
  rw [List.getElem?_map, List.getElem?_map, List.getElem?_set]
  split
  · rename_i hkj
    subst hkj
    rw [if_pos (List.getElem?_eq_some_iff.1 he).1, he]
    simp [h]
  · rfl
theorem OkL.set {l : List Slot} {k : Nat} {e : Slot} {p : Int} (h : OkL l) (he : l[k]? = some e) (hp : within p 0 100000 = true) : OkL (l.set k ⟨e.name, e.size, p⟩) := by
  refine ⟨fun x hx => ?_, ?_⟩
  · rcases List.mem_or_eq_of_mem_set hx with h1 | rfl
    · exact h.s x h1
    · exact ⟨(h.s e (List.mem_of_getElem? he)).1, hp⟩
  · rw [map_set_same (x := ⟨e.name, e.size, p⟩) (fun x : Slot => x.name) he rfl]; exact h.n
/-- What letting go does. -/
theorem free_true {m : Int} {l : List Slot} {n : ByteArray} (h : (freeC m l n).2.2 = true) : ∃ (t : Nat) (l2 : List Slot), okC m l = true ∧ freeC m l n = (m, keepF t l2, true) ∧ okC m (keepF t l2) = true ∧
    l2.length = l.length ∧ (keepF t l2 = l2 ∨ m < usedF l) ∧ OkL l2 ∧ (∀ (i : Nat) (x : Slot), l[i]? = some x → x.name = n → l2[i]? = some ⟨x.name, x.size, x.pins - 1⟩ ∧ 0 < x.pins) ∧ ∀ (i : Nat) (x : Slot), l[i]? = some x → x.name ≠ n → l2[i]? = some x := by
  by_cases ho : okC m l = true
  · obtain ⟨h1, h2, h3, h4⟩ := okC_iff.1 ho
    rcases idx_cases (nmP n) l with ⟨hi, _⟩ | ⟨k, e, hi, he, hn, hfi⟩
    · rw [free_none ho hi] at h; cases h
    · simp only [nmP, decide_eq_true_eq] at hn
      by_cases hp : e.pins = 0
      · rw [free_idle ho hi he hp] at h; cases h
      · have hpb := okS_pins (okC_s ho) he
        obtain ⟨t, ht, hs, hu, hd⟩ := shed_keep (m := m) (l.set k ⟨e.name, e.size, e.pins - 1⟩).length (l.set k ⟨e.name, e.size, e.pins - 1⟩) (Nat.le_refl _) (fun j e' hj hs => by
          rw [List.getElem?_eq_none hj] at hs; cases hs)
        have hu2 : usedF (l.set k ⟨e.name, e.size, e.pins - 1⟩) = usedF l := congrArg List.sum (map_set_same (x := ⟨e.name, e.size, e.pins - 1⟩) (fun x : Slot => x.size) he rfl)
        have hok2 : OkL (l.set k ⟨e.name, e.size, e.pins - 1⟩) := h3.set he (by simp [within]; omega)
        refine ⟨t, l.set k ⟨e.name, e.size, e.pins - 1⟩, ho, ?_, okC_keep h1 ?_ hok2 hu, List.length_set, ?_, hok2, ?_, ?_⟩
        · rw [free_go ho hi he hp, hs]
        · have := (keep_sub t (l.set k ⟨e.name, e.size, e.pins - 1⟩)).length_le
          rw [List.length_set] at this
          omega
        · rcases hd with hd | hd
          · exact .inr (by rw [← hu2]; exact hd)
          · refine .inl (keep_id (fun j e' hj hs => ?_))
            rw [List.getElem?_eq_none (by omega)] at hs; cases hs
        · intro i x hx hxn
          have hik : i = k := by
            rcases Nat.lt_trichotomy i k with h5 | h5 | h5
            · have := hfi i x h5 hx; simp [nmP, hxn] at this
            · exact h5
            · have hnd := h3.n
              rw [List.nodup_iff_pairwise_ne, List.pairwise_iff_getElem] at hnd
              have hil := (List.getElem?_eq_some_iff.1 hx)
              have hkl := (List.getElem?_eq_some_iff.1 he)
              refine absurd ?_ (hnd k i (by simpa using hkl.1) (by simpa using hil.1) h5)
              simp only [List.getElem_map]
              rw [hkl.2, hil.2, hn, hxn]
          subst hik
          rw [he] at hx; cases hx
          rw [List.getElem?_set_self (List.getElem?_eq_some_iff.1 he).1]
          exact ⟨rfl, by omega⟩
        · intro i x hx hxn
          rw [List.getElem?_set_ne (fun hki => hxn (by subst hki; rw [he] at hx; cases hx; exact hn))]
          exact hx
  · rw [free_bad (by simpa using ho)] at h; cases h
/-- One round: the slot is the next that stayed, or it is idle and gone. -/
theorem pin_step {t i n : Nat} {l : List Slot} {s : Slot} (hd : (keepF t l).drop n = keepF (t - i) (l.drop i)) (hs : l[i]? = some s) :
    ((keepF t l)[n]? = some s ∧ (keepF t l).drop (n + 1) = keepF (t - (i + 1)) (l.drop (i + 1))) ∨ ((keepF t l)[n]? ≠ some s ∧ s.pins = 0 ∧ (keepF t l).drop n = keepF (t - (i + 1)) (l.drop (i + 1))) := by
  have hlt := (List.getElem?_eq_some_iff.1 hs)
  have hdr : l.drop i = s :: l.drop (i + 1) := by rw [List.drop_eq_getElem_cons hlt.1, hlt.2]
  rw [hdr] at hd
  have hget : (keepF t l)[n]? = (keepF (t - i) (s :: l.drop (i + 1))).head? := by rw [← hd, List.head?_drop]
  have hdrop : (keepF t l).drop (n + 1) = (keepF (t - i) (s :: l.drop (i + 1))).tail := by rw [← hd, List.tail_drop]
  by_cases h0 : t - i = 0
  · rw [h0, keepF] at hget hdrop
    rw [h0, keepF] at hd
    have h1 : t - (i + 1) = 0 := by omega
    rw [h1]
    by_cases hp : s.pins = 0
    · rw [if_pos hp] at hget hd
      refine .inr ⟨fun h => ?_, hp, hd⟩
      rw [hget] at h
      have hmem : s ∈ keepF 0 (l.drop (i + 1)) := List.mem_of_head? h
      exact keep0_pins hmem hp
    · rw [if_neg hp] at hget hdrop
      exact .inl ⟨hget, hdrop⟩
  · obtain ⟨q, hq⟩ : ∃ q, t - i = q + 1 := ⟨t - i - 1, by omega⟩
    rw [hq, keepF] at hget hdrop
    refine .inl ⟨hget, ?_⟩
    rw [hdrop, show t - (i + 1) = q by omega]
    rfl
theorem pin_end {t n i : Nat} {l : List Slot} (hn : n ≤ (keepF t l).length) (hi : l.length ≤ i) (hd : (keepF t l).drop n = keepF (t - i) (l.drop i)) : n = (keepF t l).length := by
  rw [List.drop_of_length_le hi, keep_nil] at hd
  have := congrArg List.length hd
  simp only [List.length_drop, List.length_nil] at this
  omega
theorem put_false {m : Int} {l : List Slot} {n : ByteArray} {s : Int} (ho : okC m l = true) (h : (putC m l n s).2.2 = false) : putC m l n s = (m, l, false) := by
  unfold putC at h ⊢
  rw [if_pos ho] at h ⊢
  split
  · rfl
  · split
    · rfl
    · rename_i h1 h2
      rw [if_neg h1, if_neg h2] at h
      cases h
theorem OkL.cons {l : List Slot} {x : Slot} (h : OkL l) (hs : isSlot x.name x.size = true) (hp : within x.pins 0 100000 = true) (hn : ∀ y ∈ l, y.name ≠ x.name) : OkL (x :: l) := by
  refine ⟨fun y hy => ?_, ?_⟩
  · rcases List.mem_cons.1 hy with rfl | hy
    · exact ⟨hs, hp⟩
    · exact h.s y hy
  · rw [List.map_cons, List.nodup_cons]
    refine ⟨fun hm => ?_, h.n⟩
    obtain ⟨y, hy, he⟩ := List.mem_map.1 hm
    exact hn y hy he
/-- What putting does, and getting what was put. -/
theorem put_true {m : Int} {l : List Slot} {n : ByteArray} {s : Int} (h : (putC m l n s).2.2 = true) : ∃ rest : List Slot, okC m l = true ∧ putC m l n s = (m, ⟨n, s, 1⟩ :: rest, true) ∧ okC m (⟨n, s, 1⟩ :: rest) = true ∧
    getC m (⟨n, s, 1⟩ :: rest) n = (m, ⟨n, s, 2⟩ :: rest, true) ∧ okC m (⟨n, s, 2⟩ :: rest) = true := by
  by_cases ho : okC m l = true
  · obtain ⟨h1, h2, h3, h4⟩ := okC_iff.1 ho
    by_cases hx : isSlot n s = false ∨ 0 ≤ idxF (nmP n) l
    · rw [put_no ho hx] at h; cases h
    · have hs : isSlot n s = true := by
        cases hb : isSlot n s with
        | true => rfl
        | false => exact absurd (.inl hb) hx
      have hi : ¬ 0 ≤ idxF (nmP n) l := fun h => hx (.inr h)
      by_cases hm : 40 < (shedL m (⟨n, s, 1⟩ :: l).length (⟨n, s, 1⟩ :: l)).length
      · rw [put_much ho hs hi hm] at h; cases h
      · have hno : ∀ y ∈ l, y.name ≠ n := by
          rcases idx_cases (nmP n) l with ⟨_, hno⟩ | ⟨k, e, hk, _⟩
          · intro y hy he
            have := hno y hy
            simp [nmP, he] at this
          · omega
        have hol : OkL (⟨n, s, 1⟩ :: l) := h3.cons hs rfl hno
        obtain ⟨t, ht, hsh, hu, _⟩ := shed_keep (m := m) (⟨n, s, 1⟩ :: l : List Slot).length (⟨n, s, 1⟩ :: l) (Nat.le_refl _) (fun j e' hj hs => by
          rw [List.getElem?_eq_none hj] at hs; cases hs)
        obtain ⟨rest, hr, hsub⟩ : ∃ rest, keepF t (⟨n, s, 1⟩ :: l) = ⟨n, s, 1⟩ :: rest ∧ rest.Sublist l := by
          cases t with
          | zero => exact ⟨keepF 0 l, by rw [keepF, if_neg (show ¬ (1 : Int) = 0 by decide)], keep_sub 0 l⟩
          | succ t => exact ⟨keepF t l, rfl, keep_sub t l⟩
        have hlen : (⟨n, s, 1⟩ :: rest : List Slot).length ≤ 40 := by rw [← hr, ← hsh]; omega
        have hok := okC_keep h1 (by rw [hr]; exact hlen) hol hu
        rw [hr] at hok hu hsh
        obtain ⟨_, _, h5, h6⟩ := okC_iff.1 hok
        refine ⟨rest, ho, by rw [put_go ho hs hi hm, hsh], hok, ?_, okC_iff.2 ⟨h1, hlen, (h3.sub hsub).cons hs rfl (fun y hy => hno y (hsub.subset hy)), ?_⟩⟩
        · have hi0 : idxF (nmP n) (⟨n, s, 1⟩ :: rest) = ((0 : Nat) : Int) := idx_hit (l := ⟨n, s, 1⟩ :: rest) (i := 0) (e := ⟨n, s, 1⟩) (fun j e hj _ => absurd hj (Nat.not_lt_zero _)) rfl (by simp [nmP])
          rw [get_go (k := 0) (e := ⟨n, s, 1⟩) hok hi0 rfl (show ¬ (100000 : Int) ≤ 1 by decide)]
          rfl
        · rcases h6 with h6 | h6
          · exact .inl h6
          · refine .inr (fun x hx => ?_)
            rcases List.mem_cons.1 hx with rfl | hx
            · exact (show (2 : Int) ≠ 0 by decide)
            · exact h6 x (List.mem_cons_of_mem _ hx)
  · rw [put_bad (by simpa using ho)] at h; cases h
end Go.Rl

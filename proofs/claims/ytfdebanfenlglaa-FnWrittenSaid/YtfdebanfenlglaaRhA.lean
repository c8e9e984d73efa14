/- Promises of functions, proved by walks over their operations; no conditions beyond those that each theorem states. -/
import Derived.Test.YtfdebanfenlglaaRnI
import Derived.Test.YtfdebanfenlglaaRgB
set_option linter.unusedSimpArgs false
set_option linter.unusedVariables false
namespace Go.Rl
def KOK (l : List Ent) : Prop := ∀ x ∈ l, keyOk x.user x.seq x.kind = true
theorem KOK.perm {l m : List Ent} (h : KOK l) (p : m.Perm l) : KOK m := fun x hx => h x (p.mem_iff.1 hx)
theorem KOK.left {l m : List Ent} (h : KOK (l ++ m)) : KOK l := fun x hx => h x (List.mem_append_left _ hx)
theorem KOK.right {l m : List Ent} (h : KOK (l ++ m)) : KOK m := fun x hx => h x (List.mem_append_right _ hx)
theorem KOK.tail {l : List Ent} {e : Ent} (h : KOK (e :: l)) : KOK l := fun x hx => h x (by simp [hx])
theorem mid_perm {α : Type} (e : α) (l m : List α) : (l ++ (e :: m)).Perm (e :: l ++ m) := List.perm_middle
theorem puts_srt : ∀ (l out : List Ent), KOK (l ++ out) → Dist cmpK (l ++ out) → Srt cmpK out → Srt cmpK (putsF out l) ∧ (putsF out l).Perm (l ++ out)
  | [], out, _, _, hs => ⟨hs, .refl _⟩
  | e :: l, out, hk, hd, hs => by
    have hd' := List.pairwise_cons.1 hd
    have hne : ∀ y ∈ out, cmpK y e < 0 ∨ cmpK e y < 0 := fun y hy => (hd'.1 y (List.mem_append_right _ hy)).symm
    have hp : putF out e = insC cmpK e out := putF_ins (hk e (by simp)) (fun x hx => hk x (by simp [hx])) hne
    have hpm : (l ++ putF out e).Perm (e :: l ++ out) := by rw [hp]; exact ((ins_perm e out).append_left l).trans (mid_perm e l out)
    have := puts_srt l (putF out e) (hk.perm hpm) (dist_perm hpm hd) (by rw [hp]; exact ins_srt cmpK_ok hs (fun y hy => (hne y hy).symm))
    exact ⟨this.1, this.2.trans hpm⟩
theorem mergeL_srt : ∀ ls : List (List Ent), KOK (entsL ls) → Dist cmpK (entsL ls) → Srt cmpK (mergeL ls) ∧ (mergeL ls).Perm (entsL ls)
  | [], _, _ => ⟨List.Pairwise.nil, .refl _⟩
  | l :: ls, hk, hd => by
    have hk : KOK (l ++ entsL ls) := hk
    have hd : Dist cmpK (l ++ entsL ls) := hd
    obtain ⟨h1, h2⟩ := mergeL_srt ls hk.right (List.pairwise_append.1 hd).2.1
    have hp : (l ++ mergeL ls).Perm (l ++ entsL ls) := h2.append_left l
    have := puts_srt l (mergeL ls) (hk.perm hp) (dist_perm hp hd) h1
    exact ⟨this.1, this.2.trans hp⟩
theorem tot_eq (d : Eng) : entsL (d.mem :: d.runs) = totI d := by rw [totI, ents_tag]; rfl
theorem ent_kok {l : List Ent} (h : ∀ e ∈ l, entOk e = true) : KOK l := fun e he => entOk_key (h e he)
theorem merge_eq {d : Eng} (hk : KOK (totI d)) (hd : Dist cmpK (totI d)) : mergeL (d.mem :: d.runs) = allI d := by
  rw [← tot_eq] at hk hd
  obtain ⟨h1, h2⟩ := mergeL_srt _ hk hd
  rw [allI, ← tot_eq]
  exact srt_isort cmpK_ok h1 h2 hd
theorem all_eq {d : Eng} (h : okB d.seq d.mem (tagT d.runs) d.snaps = true) : mergeL (d.mem :: d.runs) = allI d :=
  merge_eq (ent_kok (fun _ he => base_ent (okb_of h).1 he)) (ok_dist h)
/-! #### nothing is lost by putting: then no two are alike -/
theorem putS_len2 (e : Ent) (r : List Ent × Bool) (x : Ent) : (putS e r x).1.length + (if (putS e r x).2 = true then 0 else 1) + (if kcmp x e = 0 then 1 else 0) ≤ r.1.length + (if r.2 = true then 0 else 1) + 1 := by
  obtain ⟨l, d⟩ := r
  unfold putS
  cases d <;> by_cases h : 0 ≤ kcmp x e <;> by_cases h2 : kcmp x e = 0 <;> simp [h, h2] <;> omega
theorem putN_hit {l : List Ent} {e : Ent} : ∀ i, i ≤ l.length → (∃ x ∈ l.take i, kcmp x e = 0) → (putN l e i).1.length + (if (putN l e i).2 = true then 0 else 1) ≤ i
  | 0, _, h => by obtain ⟨x, hx, _⟩ := h; simp at hx
  | i + 1, hi, h => by
    obtain ⟨y, hy⟩ : ∃ y, l[i]? = some y := ⟨_, List.getElem?_eq_getElem (by omega)⟩
    obtain ⟨x, hx, h0⟩ := h
    rw [List.take_add_one, hy] at hx
    rw [putN_step hy]
    have h1 := putS_len2 e (putN l e i) y
    have h2 := putN_len l e i
    rcases List.mem_append.1 hx with hx | hx
    · have := putN_hit i (by omega) ⟨x, hx, h0⟩
      omega
    · simp at hx
      subst hx
      rw [if_pos h0] at h1
      omega
theorem putF_hit {l : List Ent} {e : Ent} (h : ∃ x ∈ l, kcmp x e = 0) : (putF l e).length ≤ l.length := by
  have := putN_hit (l := l) (e := e) l.length (Nat.le_refl _) (by rw [List.take_length]; exact h)
  unfold putF
  split
  · rename_i h; rw [if_pos h] at this; omega
  · rename_i h; rw [if_neg h] at this; simp; omega
theorem puts_full : ∀ (l out : List Ent), KOK (l ++ out) → Dist cmpK out → Srt cmpK out → (putsF out l).length = l.length + out.length → Dist cmpK (l ++ out)
  | [], _, _, hd, _, _ => hd
  | e :: l, out, hk, hd, hs, hl => by
    have h1 := puts_len l (putF out e)
    have h2 : (putsF out (e :: l)).length = (putsF (putF out e) l).length := rfl
    have h3 := putF_len out e
    simp only [List.length_cons] at hl
    have hne : ∀ y ∈ out, cmpK y e < 0 ∨ cmpK e y < 0 := fun y hy => by
      have h0 : kcmp y e ≠ 0 := fun q => by have := putF_hit ⟨y, hy, q⟩; omega
      rw [kcmp_ok (hk y (by simp [hy])) (hk e (by simp))] at h0
      by_cases h4 : LessE y e
      · exact .inl (by rw [cmpK_lt h4]; decide)
      · refine .inr ?_
        by_cases h5 : LessE e y
        · rw [cmpK_lt h5]; decide
        · exfalso
          refine h0 (cmpK_eq ?_ ?_ ?_)
          all_goals
            unfold LessE at h4 h5
            have hu : y.user = e.user := ltB_tot (by cases q : ltB y.user e.user with | false => rfl | true => exact absurd (.inl q) h4) (by cases q : ltB e.user y.user with | false => rfl | true => exact absurd (.inl q) h5)
            have h6 : ¬ (e.seq < y.seq ∨ (y.seq = e.seq ∧ e.kind < y.kind)) := fun q => h4 (.inr ⟨hu, q⟩)
            have h7 : ¬ (y.seq < e.seq ∨ (e.seq = y.seq ∧ y.kind < e.kind)) := fun q => h5 (.inr ⟨hu.symm, q⟩)
            first | exact hu | omega
    have hp : putF out e = insC cmpK e out := putF_ins (hk e (by simp)) (fun x hx => hk x (by simp [hx])) hne
    have hpe : (putF out e).Perm (e :: out) := by rw [hp]; exact ins_perm e out
    have hpm : (l ++ putF out e).Perm (e :: l ++ out) := (hpe.append_left l).trans (mid_perm e l out)
    have hde : Dist cmpK (putF out e) := dist_perm hpe (List.pairwise_cons.2 ⟨fun y hy => (hne y hy).symm, hd⟩)
    have := puts_full l (putF out e) (hk.perm hpm) hde (by rw [hp]; exact ins_srt cmpK_ok hs (fun y hy => (hne y hy).symm)) (by rw [hpe.length_eq]; simp only [List.length_cons]; omega)
    exact dist_perm hpm.symm this
theorem mergeL_full : ∀ ls : List (List Ent), KOK (entsL ls) → (mergeL ls).length = (entsL ls).length → Dist cmpK (entsL ls)
  | [], _, _ => List.Pairwise.nil
  | l :: ls, hk, hl => by
    have hk : KOK (l ++ entsL ls) := hk
    have h1 := puts_len l (mergeL ls)
    have h2 := mergeL_len ls
    have h3 : (mergeL (l :: ls)).length = (putsF (mergeL ls) l).length := rfl
    have h4 : (entsL (l :: ls)).length = l.length + (entsL ls).length := by simp [entsL]
    have ih := mergeL_full ls hk.right (by omega)
    obtain ⟨h5, h6⟩ := mergeL_srt ls hk.right ih
    have hp : (l ++ mergeL ls).Perm (l ++ entsL ls) := h6.append_left l
    have := puts_full l (mergeL ls) (hk.perm hp) (dist_perm h6 ih) h5 (by omega)
    exact dist_perm hp.symm this
/-! #### the two ways to say right -/
theorem snaps_step {s : List Int} (h : snapsOk s = true) {j : Nat} {y x : Int} (hy : s[j]? = some y) (hx : s[j + 1]? = some x) : y < x := by
  cases hn : okSnap s (j + 1) x with
  | false => rw [snaps_no hx hn] at h; cases h
  | true =>
    simp only [okSnap, Bool.and_eq_true, Nat.add_sub_cancel, hy] at hn
    simpa using hn.2
theorem snaps_lt {s : List Int} (h : snapsOk s = true) {i : Nat} {y : Int} (hy : s[i]? = some y) : ∀ (j : Nat) {x : Int}, i < j → s[j]? = some x → y < x
  | 0, _, hij, _ => absurd hij (Nat.not_lt_zero _)
  | j + 1, x, hij, hx => by
    have hlt := (List.getElem?_eq_some_iff.1 hx).1
    obtain ⟨z, hz⟩ : ∃ z, s[j]? = some z := ⟨_, List.getElem?_eq_getElem (by omega)⟩
    have h1 := snaps_step h hz hx
    by_cases e : i = j
    · subst e; rw [hy] at hz; cases hz; exact h1
    · have := snaps_lt h hy j (by omega) hz
      omega
theorem foldmin_lt {l : List Ent} {z : Int} : ∀ {a : Int}, z < l.foldl (fun a e => min a e.seq) a ↔ z < a ∧ ∀ e ∈ l, z < e.seq := by
  induction l with
  | nil => intro a; simp
  | cons x l ih =>
    intro a
    rw [List.foldl_cons, ih]
    constructor
    · rintro ⟨h1, h2⟩
      refine ⟨by omega, fun e he => ?_⟩
      rcases List.mem_cons.1 he with rfl | he
      · omega
      · exact h2 e he
    · rintro ⟨h1, h2⟩
      have := h2 x (by simp)
      exact ⟨by omega, fun e he => h2 e (by simp [he])⟩
theorem least_gt {l : List Ent} {z : Int} : z < leastN l ↔ z < 1000000000000 ∧ ∀ e ∈ l, z < e.seq := foldmin_lt
theorem below_iff {l m : List Ent} (hl : ∀ e ∈ l, 0 ≤ e.seq) : idxF (belowP1 (belowM m)) l < 0 ↔ ∀ e ∈ l, ∀ x ∈ m, x.seq < e.seq := by
  rw [idx_neg]
  constructor
  · intro h e he x hx
    have := h e he
    simp only [belowP1, decide_eq_false_iff_not] at this
    exact (belowM_lt (hl e he)).1 (by omega) x hx
  · intro h e he
    have := (belowM_lt (l := m) (hl e he)).2 (h e he)
    simp only [belowP1, decide_eq_false_iff_not]
    omega
theorem belowR_iff {z : Int} {rs : RunL} : BelowR z rs rs.length ↔ ∀ x ∈ ents rs, x.seq < z := by
  constructor
  · intro h x hx
    simp only [ents, entsL, List.mem_flatten, rows, List.mem_map] at hx
    obtain ⟨l, ⟨r, hr, rfl⟩, hl⟩ := hx
    obtain ⟨j, hj⟩ := List.getElem?_of_mem hr
    obtain ⟨k, hk⟩ := List.getElem?_of_mem hl
    exact h j r (List.getElem?_eq_some_iff.1 hj).1 hj k x (List.getElem?_eq_some_iff.1 hk).1 hk
  · intro h j r _ hj k x _ hk
    refine h x ?_
    simp only [ents, entsL, List.mem_flatten, rows, List.mem_map]
    exact ⟨r.2, ⟨r, List.mem_of_getElem? hj, rfl⟩, List.mem_of_getElem? hk⟩
theorem upto_iff {sq : Int} {sn : List Int} (h : snapsOk sn = true) : UpTo sq sn sn.length ↔ ∀ z, sn[sn.length - 1]? = some z → z ≤ sq := by
  constructor
  · intro hu z hz
    exact hu _ z (List.getElem?_eq_some_iff.1 hz).1 hz
  · intro hl j x hj hx
    obtain ⟨z, hz⟩ : ∃ z, sn[sn.length - 1]? = some z := ⟨_, List.getElem?_eq_getElem (by omega)⟩
    have h1 := hl z hz
    by_cases e : j = sn.length - 1
    · subst e; rw [hx] at hz; cases hz; exact h1
    · have := snaps_lt h hx (sn.length - 1) (by omega) hz
      omega
structure ER (d : Eng) : Prop where
  lt : ∀ e ∈ ents (tagT d.runs), e.seq < 1000000000000
theorem ok_iff {d : Eng} (hR : ER d) (hb : dbBase d.seq d.mem (tagT d.runs) d.snaps = true) : IOk d.seq d.mem (tagT d.runs) d.snaps ↔ SOk d.seq d.mem (tagT d.runs) d.snaps := by
  have hk : KOK (totI d) := ent_kok (fun _ he => base_ent hb he)
  have h0 : ∀ e ∈ d.mem, 0 ≤ e.seq := fun e he => (ent_seq (base_ent hb (List.mem_append_left _ he))).1
  have hsn : snapsOk d.snaps = true := by simp only [dbBase, Bool.and_eq_true] at hb; exact hb.2.2.2
  have ha : allS d.mem (tagT d.runs) = mergeL (d.mem :: d.runs) := all_tag _ _
  have hlen : (totI d).length = d.mem.length + (ents (tagT d.runs)).length := totI_len d
  constructor
  · intro h
    have hpw := seqs_dist h.seqs
    have hd : Dist cmpK (totI d) := dist_seqs hpw
    have hm := merge_eq hk hd
    have hp : (allI d).Perm (totI d) := isort_perm _
    refine ⟨by have := h.few; rw [List.length_append] at this; exact this, by rw [ha, hm, hp.length_eq]; exact hlen.symm, ?_, (upto_iff hsn).2 h.last, belowR_iff.2 (fun x hx => least_gt.2 ⟨hR.lt x hx, fun e he => (below_iff h0).1 h.mem e he x hx⟩)⟩
    rw [ha, hm]
    exact seqs_of ((hp.pairwise_iff (fun q => q.symm)).2 hpw) (fun e he => seqs_le h.seqs e (hp.mem_iff.1 he))
  · intro h
    have hfull : (mergeL (d.mem :: d.runs)).length = (entsL (d.mem :: d.runs)).length := by rw [tot_eq, hlen, ← ha]; exact h.all.symm
    have hd : Dist cmpK (totI d) := by have := mergeL_full (d.mem :: d.runs) (by rw [tot_eq]; exact hk) hfull; rwa [tot_eq] at this
    have hm := merge_eq hk hd
    have hp : (allI d).Perm (totI d) := isort_perm _
    have hs := h.seqs
    rw [ha, hm] at hs
    have hpw := (hp.pairwise_iff (fun q => q.symm)).1 (seqs_dist hs)
    refine ⟨by have := h.few; rw [List.length_append]; exact this, seqs_of hpw (fun e he => seqs_le hs e (hp.mem_iff.2 he)), (below_iff h0).2 (fun e he x hx => ?_), (upto_iff hsn).1 h.upto⟩
    exact (least_gt.1 (belowR_iff.1 h.below x hx)).2 e he
/-- The two say the same where the runs' numbers are small. -/
theorem ok_same {d : Eng} (hR : ER d) : okB d.seq d.mem (tagT d.runs) d.snaps = dbOkS d.seq d.mem (tagT d.runs) d.snaps := by
  unfold okB dbOkS
  cases hb : dbBase d.seq d.mem (tagT d.runs) d.snaps with
  | false => rfl
  | true => simp only [Bool.true_and, decide_eq_decide]; exact ok_iff hR hb
end Go.Rl
namespace Go.Rl
structure EN (N : Int) (d : Eng) : Prop where
  pos : 0 ≤ N
  seq : d.seq ≤ N
  mem : ∀ e ∈ d.mem, e.seq ≤ N
  runs : ∀ e ∈ entsL d.runs, e.seq ≤ N
theorem EN.mono {N M : Int} {d : Eng} (h : EN N d) (hm : N ≤ M) : EN M d := ⟨by have := h.pos; omega, by have := h.seq; omega, fun e he => by have := h.mem e he; omega, fun e he => by have := h.runs e he; omega⟩
theorem en_nil {N : Int} (h : 0 ≤ N) : EN N Eng.nil := ⟨h, h, fun _ he => (by cases he), fun _ he => (by cases he)⟩
theorem putS_mem {e : Ent} {r : List Ent × Bool} {x y : Ent} (h : y ∈ (putS e r x).1) : y ∈ r.1 ∨ y = e ∨ y = x := by
  obtain ⟨l, d⟩ := r
  unfold putS at h
  cases d <;> by_cases h1 : 0 ≤ kcmp x e <;> by_cases h2 : kcmp x e = 0 <;> simp [h1, h2] at h <;> first | (exact .inl h) | (rcases h with h | h <;> simp [h]) | (rcases h with h | h | h <;> simp [h]) | simp [h]
theorem putN_mem {l : List Ent} {e y : Ent} : ∀ i, i ≤ l.length → y ∈ (putN l e i).1 → y = e ∨ y ∈ l
  | 0, _, h => by simp [putN] at h
  | i + 1, hi, h => by
    obtain ⟨x, hx⟩ : ∃ x, l[i]? = some x := ⟨_, List.getElem?_eq_getElem (by omega)⟩
    rw [putN_step hx] at h
    rcases putS_mem h with h | h | h
    · exact putN_mem i (by omega) h
    · exact .inl h
    · exact .inr (h ▸ List.mem_of_getElem? hx)
theorem putF_mem {l : List Ent} {e y : Ent} (h : y ∈ putF l e) : y = e ∨ y ∈ l := by
  unfold putF at h
  split at h
  · exact putN_mem _ (Nat.le_refl _) h
  · rcases List.mem_append.1 h with h | h
    · exact putN_mem _ (Nat.le_refl _) h
    · exact .inl (by simpa using h)
theorem puts_mem : ∀ {l out : List Ent} {y : Ent}, y ∈ putsF out l → y ∈ l ∨ y ∈ out
  | [], _, _, h => .inr h
  | e :: l, out, y, h => by
    have h : y ∈ putsF (putF out e) l := h
    rcases puts_mem h with h | h
    · exact .inl (by simp [h])
    · rcases putF_mem h with h | h
      · exact .inl (by simp [h])
      · exact .inr h
theorem mergeL_mem : ∀ {ls : List (List Ent)} {y : Ent}, y ∈ mergeL ls → y ∈ entsL ls
  | [], _, h => by cases h
  | l :: ls, y, h => by
    have h : y ∈ putsF (mergeL ls) l := h
    show y ∈ l ++ entsL ls
    rcases puts_mem h with h | h
    · exact List.mem_append_left _ h
    · exact List.mem_append_right _ (mergeL_mem h)
theorem compC_mem {l : List Ent} {s : List Int} {x : Ent} (h : x ∈ compC l s) : x ∈ l := by
  obtain ⟨_, q, _, _, hq⟩ := compU_mem (fun z hz => by
    obtain ⟨k, h1, _, h3⟩ := needF_bnd (n := l.length) hz
    exact ⟨k, h1, h3⟩) (Nat.le_refl _) h
  exact List.mem_of_getElem? hq
theorem flush_en {N : Int} {d : Eng} (h : EN N d) : EN N (flushS d).1 := by
  unfold flushS
  split
  · split
    · exact h
    · split
      · exact h
      · exact ⟨h.pos, h.seq, fun _ he => (by cases he), fun e he => (List.mem_append.1 (show e ∈ d.mem ++ entsL d.runs from he)).elim (h.mem e) (h.runs e)⟩
  · exact en_nil h.pos
theorem snap_en {N : Int} {d : Eng} (h : EN N d) : EN N (snapS d).1 := by
  unfold snapS
  split
  · split
    · exact h
    · split
      · exact h
      · exact ⟨h.pos, h.seq, h.mem, h.runs⟩
  · exact en_nil h.pos
theorem free_en {N a : Int} {d : Eng} (h : EN N d) : EN N (freeS d a).1 := by
  unfold freeS
  split
  · exact ⟨h.pos, h.seq, h.mem, h.runs⟩
  · exact en_nil h.pos
theorem compact_en {N : Int} {d : Eng} (h : EN N d) : EN N (compactS d).1 := by
  unfold compactS
  split
  · split
    · exact h
    · refine ⟨h.pos, h.seq, h.mem, fun e he => h.runs e ?_⟩
      have he : e ∈ entsL (if 0 < (compC (mergeL d.runs) d.snaps).length then [compC (mergeL d.runs) d.snaps] else []) := he
      split at he
      · simp only [entsL, List.flatten_cons, List.flatten_nil, List.append_nil] at he
        exact mergeL_mem (compC_mem he)
      · cases he
  · exact en_nil h.pos
theorem write_en {N : Int} {d : Eng} {ops : List Bop} (h : EN N d) (hn : ops.length ≤ 100) : EN (N + 100) (writeS d ops).1 := by
  have hp := h.pos
  have hs := h.seq
  unfold writeS
  split
  · split
    · exact h.mono (by omega)
    · split
      · exact h.mono (by omega)
      · refine ⟨by omega, by show d.seq + (ops.length : Int) ≤ N + 100; omega, fun e he => ?_, fun e he => by have := h.runs e he; omega⟩
        rcases puts_mem he with he | he
        · have := batch_ge he
          omega
        · have := h.mem e he
          omega
  · exact en_nil (by omega)
theorem dbStep_en {N : Int} {bs : List Nat} {x : Eng × Nat} (h : EN N x.1) : EN (N + 100) (dbStep bs x).1 := by
  have hk : EN (N + 100) x.1 := h.mono (by omega)
  unfold dbStep
  split
  · dsimp only
    split
    · exact (flush_en h).mono (by omega)
    · exact hk
  split
  · dsimp only
    split
    · exact (snap_en h).mono (by omega)
    · exact hk
  split
  · dsimp only
    split
    · exact (compact_en h).mono (by omega)
    · exact hk
  split
  · split
    · dsimp only
      split
      · exact (free_en h).mono (by omega)
      · exact hk
    · exact hk
  · dsimp only
    split
    · exact write_en h (by have := opsV_len bs (belowP bs x.2 7); omega)
    · exact hk
theorem dbLoop_en {bs : List Nat} : ∀ (i : Nat) (x : Eng × Nat) {N : Int}, EN N x.1 → EN (N + 100 * i) (dbLoop bs i x).1
  | 0, _, _, h => h.mono (by omega)
  | i + 1, x, N, h => (dbLoop_en i (dbStep bs x) (dbStep_en h)).mono (by omega)
theorem below_lt9 (bs : List Nat) (p : Nat) : belowV bs p 9 ≤ 9 := by
  unfold belowV
  rw [if_neg (by decide), if_pos (by decide)]
  omega
theorem dbV_er (bs : List Nat) (p : Nat) : ER (dbV bs p) := by
  have h : EN (0 + 100 * (belowV bs p 9 : Nat)) (dbRun bs p).1 := dbLoop_en _ (Eng.nil, belowP bs p 9) (en_nil (Int.le_refl 0))
  have h9 := below_lt9 bs p
  have hr : (dbV bs p).runs = (dbRun bs p).1.runs := by
    unfold dbV dbOff dbAdd
    split <;> split <;> rfl
  refine ⟨fun e he => ?_⟩
  rw [ents_tag, hr] at he
  have := h.runs e he
  omega
end Go.Rl
namespace Go.Rl
variable {d : Eng} {u : ByteArray} {a p : Int} {l : List Ent}
theorem all_strict (h : okB d.seq d.mem (tagT d.runs) d.snaps = true) : Strict (allI d) := strict_of ((isort_srt cmpK_ok (ok_dist h)).imp lessE_of)
theorem vis_sorted (hl : Strict l) : (visF l p).Pairwise (fun x y => ltB x.user y.user = true) := visN_sorted (users_sorted hl)
theorem bound_all {s : List Pr} : boundF ⟨#[]⟩ ⟨#[]⟩ s = s := by
  unfold boundF
  rw [List.filter_eq_self]
  intro x _
  have : ltB x.user ⟨#[]⟩ = false := by
    have he : (⟨#[]⟩ : ByteArray).toList = [] := by rw [ByteArray.toList]; unfold ByteArray.toList.loop; rfl
    unfold ltB
    rw [he]
    cases x.user.toList <;> rfl
  simp [outP, this]
end Go.Rl
namespace Go.Rl
/-! #### one op done on what is visible -/
def opPr (o : Bop) : Pr := ⟨o.user, o.value⟩
def foldS (o : Bop) (r : List Pr × Bool) (x : Pr) : List Pr × Bool :=
  let r1 := if (!r.2 && !ltB x.user o.user) = true then (r.1 ++ [opPr o], true) else r
  if x.user ≠ o.user then (r1.1 ++ [x], r1.2) else r1
def foldN (l : List Pr) (o : Bop) (k : Nat) : List Pr × Bool := (l.take k).foldl (foldS o) ([], decide (o.kind = 0))
def foldO (l : List Pr) (o : Bop) : List Pr := if (foldN l o l.length).2 = true then (foldN l o l.length).1 else (foldN l o l.length).1 ++ [opPr o]
def foldF (l : List Pr) (ops : List Bop) : List Pr := ops.foldl foldO l
theorem foldN_step {l : List Pr} {o : Bop} {x : Pr} {k : Nat} (hx : l[k]? = some x) : foldN l o (k + 1) = foldS o (foldN l o k) x := by
  unfold foldN
  rw [List.take_add_one, hx]
  simp [List.foldl_append]
theorem foldF_step {l : List Pr} {ops : List Bop} {i : Nat} {o : Bop} (h : ops[i]? = some o) : foldF l (ops.take (i + 1)) = foldO (foldF l (ops.take i)) o := by
  unfold foldF
  rw [List.take_add_one, h]
  simp [List.foldl_append]
theorem foldS_len (o : Bop) (r : List Pr × Bool) (x : Pr) : (foldS o r x).1.length + (if (foldS o r x).2 = true then 0 else 1) ≤ r.1.length + (if r.2 = true then 0 else 1) + 1 := by
  obtain ⟨l, d⟩ := r
  unfold foldS
  cases d <;> cases h : ltB x.user o.user <;> by_cases h2 : x.user = o.user <;> simp [h2]
theorem foldN_len (l : List Pr) (o : Bop) : ∀ i, (foldN l o i).1.length + (if (foldN l o i).2 = true then 0 else 1) ≤ i + 1
  | 0 => by unfold foldN; simp; split <;> omega
  | i + 1 => by
    have ih := foldN_len l o i
    cases hx : l[i]? with
    | none =>
      have : foldN l o (i + 1) = foldN l o i := by unfold foldN; rw [List.take_add_one, hx]; simp
      rw [this]; omega
    | some x => rw [foldN_step hx]; have := foldS_len o (foldN l o i) x; omega
theorem foldO_len (l : List Pr) (o : Bop) : (foldO l o).length ≤ l.length + 1 := by
  have := foldN_len l o l.length
  unfold foldO
  split
  · rename_i h; rw [if_pos h] at this; omega
  · rename_i h; rw [if_neg h] at this; simp; omega
theorem foldF_len : ∀ (ops : List Bop) (l : List Pr), (foldF l ops).length ≤ l.length + ops.length
  | [], l => by simp [foldF]
  | o :: ops, l => by
    have := foldF_len ops (foldO l o)
    have h2 := foldO_len l o
    show (foldF (foldO l o) ops).length ≤ _
    simp only [List.length_cons]
    omega
def PSort (l : List Pr) : Prop := l.Pairwise (fun x y => ltB x.user y.user = true)
theorem psort_snoc {l : List Pr} {x : Pr} (h : PSort l) (hx : ∀ y ∈ l, ltB y.user x.user = true) : PSort (l ++ [x]) :=
  List.pairwise_append.2 ⟨h, List.pairwise_singleton _ _, fun y hy z hz => by rw [List.mem_singleton] at hz; subst hz; exact hx y hy⟩
theorem take_mem {α : Type} {l : List α} {k : Nat} {x y : α} (hx : l[k]? = some x) : y ∈ l.take (k + 1) ↔ y ∈ l.take k ∨ y = x := by
  rw [List.take_add_one, hx]
  simp
def FoldA (l : List Pr) (o : Bop) (k : Nat) (r : List Pr × Bool) : Prop := r.2 = false ∧ o.kind ≠ 0 ∧ r.1 = l.take k ∧ ∀ y ∈ l.take k, ltB y.user o.user = true
def FoldB (l : List Pr) (o : Bop) (k : Nat) (r : List Pr × Bool) : Prop := r.2 = true ∧ (∀ x, x ∈ r.1 ↔ (x ∈ l.take k ∧ x.user ≠ o.user) ∨ (o.kind ≠ 0 ∧ x = opPr o)) ∧ PSort r.1 ∧ (o.kind ≠ 0 → ∃ y ∈ l.take k, ltB y.user o.user = false)
theorem foldN_is {l : List Pr} (hl : PSort l) (o : Bop) : ∀ k, k ≤ l.length → FoldA l o k (foldN l o k) ∨ FoldB l o k (foldN l o k)
  | 0, _ => by
    by_cases h : o.kind = 0
    · refine .inr ⟨by simp [foldN, h], fun x => by simp [foldN, h], by simp [foldN, PSort], fun q => absurd h q⟩
    · exact .inl ⟨by simp [foldN, h], h, by simp [foldN], by simp⟩
  | k + 1, hk => by
    obtain ⟨x, hx⟩ : ∃ x, l[k]? = some x := ⟨_, List.getElem?_eq_getElem (by omega)⟩
    have hbef : ∀ y ∈ l.take k, ltB y.user x.user = true := fun y hy => by
      obtain ⟨i, hi⟩ := List.getElem?_of_mem hy
      rw [List.getElem?_take] at hi
      split at hi
      · have := List.pairwise_iff_getElem.1 hl i k (List.getElem?_eq_some_iff.1 hi).1 (List.getElem?_eq_some_iff.1 hx).1 (by assumption)
        rwa [(List.getElem?_eq_some_iff.1 hi).2, (List.getElem?_eq_some_iff.1 hx).2] at this
      · cases hi
    have hst : PSort (l.take k) := hl.sublist (List.take_sublist _ _)
    have ih := foldN_is hl o k (by omega)
    rw [foldN_step hx]
    generalize foldN l o k = r at ih
    obtain ⟨out, dn⟩ := r
    have hox : ltB x.user o.user = false → ¬ x.user = o.user → ltB o.user x.user = true := fun h1 h2 => by
      cases h3 : ltB o.user x.user with
      | true => rfl
      | false => exact absurd (ltB_tot h1 h3) h2
    rcases ih with ⟨h1, h2, h3, h4⟩ | ⟨h1, h2, h3, h4⟩
    · have h1 : dn = false := h1
      have h3 : out = l.take k := h3
      subst h1 h3
      by_cases h : ltB x.user o.user = true
      · have hne : ¬ x.user = o.user := fun e => by rw [e, ltB_irr] at h; cases h
        have e : foldS o (l.take k, false) x = (l.take k ++ [x], false) := by simp [foldS, h, hne]
        rw [e]
        refine .inl ⟨rfl, h2, by rw [List.take_add_one, hx]; rfl, fun y hy => ?_⟩
        rcases (take_mem hx).1 hy with hy | rfl
        · exact h4 y hy
        · exact h
      · have hf : ltB x.user o.user = false := by simpa using h
        by_cases hne : x.user = o.user
        · have e : foldS o (l.take k, false) x = (l.take k ++ [opPr o], true) := by simp [foldS, hne, ltB_irr]
          rw [e]
          refine .inr ⟨rfl, fun z => ?_, psort_snoc hst h4, fun _ => ⟨x, (take_mem hx).2 (.inr rfl), hf⟩⟩
          constructor
          · intro hz
            rcases List.mem_append.1 hz with hz | hz
            · exact .inl ⟨(take_mem hx).2 (.inl hz), fun q => by have := h4 z hz; rw [q, ltB_irr] at this; cases this⟩
            · exact .inr ⟨h2, by simpa using hz⟩
          · rintro (⟨hz, hu⟩ | ⟨_, hz⟩)
            · rcases (take_mem hx).1 hz with hz | rfl
              · exact List.mem_append_left _ hz
              · exact absurd hne hu
            · exact List.mem_append_right _ (by simp [hz])
        · have e : foldS o (l.take k, false) x = (l.take k ++ [opPr o] ++ [x], true) := by simp [foldS, hf, hne]
          rw [e]
          refine .inr ⟨rfl, fun z => ?_, psort_snoc (psort_snoc hst h4) (fun y hy => ?_), fun _ => ⟨x, (take_mem hx).2 (.inr rfl), hf⟩⟩
          · constructor
            · intro hz
              rcases List.mem_append.1 hz with hz | hz
              · rcases List.mem_append.1 hz with hz | hz
                · exact .inl ⟨(take_mem hx).2 (.inl hz), fun q => by have := h4 z hz; rw [q, ltB_irr] at this; cases this⟩
                · exact .inr ⟨h2, by simpa using hz⟩
              · have : z = x := by simpa using hz
                subst this
                exact .inl ⟨(take_mem hx).2 (.inr rfl), hne⟩
            · rintro (⟨hz, _⟩ | ⟨_, hz⟩)
              · rcases (take_mem hx).1 hz with hz | rfl
                · exact List.mem_append_left _ (List.mem_append_left _ hz)
                · exact List.mem_append_right _ (by simp)
              · exact List.mem_append_left _ (List.mem_append_right _ (by simp [hz]))
          · rcases List.mem_append.1 hy with hy | hy
            · exact hbef y hy
            · rw [List.mem_singleton] at hy
              subst hy
              exact hox hf hne
    · have h1 : dn = true := h1
      subst h1
      by_cases hne : x.user = o.user
      · have e : foldS o (out, true) x = (out, true) := by simp [foldS, hne]
        rw [e]
        refine .inr ⟨rfl, fun z => ?_, h3, fun q => ?_⟩
        · rw [h2]
          constructor
          · rintro (⟨hz, hu⟩ | hz)
            · exact .inl ⟨(take_mem hx).2 (.inl hz), hu⟩
            · exact .inr hz
          · rintro (⟨hz, hu⟩ | hz)
            · rcases (take_mem hx).1 hz with hz | rfl
              · exact .inl ⟨hz, hu⟩
              · exact absurd hne hu
            · exact .inr hz
        · obtain ⟨y, hy, hf⟩ := h4 q
          exact ⟨y, (take_mem hx).2 (.inl hy), hf⟩
      · have e : foldS o (out, true) x = (out ++ [x], true) := by simp [foldS, hne]
        rw [e]
        refine .inr ⟨rfl, fun z => ?_, psort_snoc h3 (fun y hy => ?_), fun q => ?_⟩
        · show z ∈ out ++ [x] ↔ _
          rw [List.mem_append, List.mem_singleton]
          have h2z := h2 z
          constructor
          · rintro (hz | rfl)
            · rcases h2z.1 hz with ⟨hz, hu⟩ | hz
              · exact .inl ⟨(take_mem hx).2 (.inl hz), hu⟩
              · exact .inr hz
            · exact .inl ⟨(take_mem hx).2 (.inr rfl), hne⟩
          · rintro (⟨hz, hu⟩ | hz)
            · rcases (take_mem hx).1 hz with hz | rfl
              · exact .inl (h2z.2 (.inl ⟨hz, hu⟩))
              · exact .inr rfl
            · exact .inl (h2z.2 (.inr hz))
        · rcases (h2 y).1 hy with ⟨hz, _⟩ | ⟨q, hz⟩
          · exact hbef y hz
          · subst hz
            obtain ⟨w, hw, hf⟩ := h4 q
            have hwx := hbef w hw
            show ltB o.user x.user = true
            cases h5 : ltB o.user w.user with
            | true => exact ltB_trans h5 hwx
            | false => rw [← ltB_tot hf h5]; exact hwx
        · obtain ⟨y, hy, hf⟩ := h4 q
          exact ⟨y, (take_mem hx).2 (.inl hy), hf⟩
theorem foldO_is {l : List Pr} (hl : PSort l) (o : Bop) : PSort (foldO l o) ∧ ∀ x, x ∈ foldO l o ↔ (x ∈ l ∧ x.user ≠ o.user) ∨ (o.kind ≠ 0 ∧ x = opPr o) := by
  have h := foldN_is hl o l.length (Nat.le_refl _)
  unfold foldO
  generalize foldN l o l.length = r at h
  obtain ⟨out, dn⟩ := r
  rcases h with ⟨h1, h2, h3, h4⟩ | ⟨h1, h2, h3, _⟩
  · have h1 : dn = false := h1
    have h3' : out = l := by rw [List.take_length] at h3; exact h3
    rw [List.take_length] at h4
    rw [h1, h3', if_neg (by simp)]
    refine ⟨psort_snoc hl h4, fun x => ?_⟩
    rw [List.mem_append, List.mem_singleton]
    constructor
    · rintro (hx | hx)
      · exact .inl ⟨hx, fun q => by have := h4 x hx; rw [q, ltB_irr] at this; cases this⟩
      · exact .inr ⟨h2, hx⟩
    · rintro (⟨hx, _⟩ | ⟨_, hx⟩)
      · exact .inl hx
      · exact .inr hx
  · have h1 : dn = true := h1
    rw [List.take_length] at h2
    subst h1
    rw [if_pos rfl]
    exact ⟨h3, h2⟩
theorem psort_ext {l m : List Pr} (hl : PSort l) (hm : PSort m) (h : ∀ x, x ∈ l ↔ x ∈ m) : l = m :=
  sorted_ext (R := fun x y : Pr => ltB x.user y.user = true) (fun _ q => by rw [ltB_irr] at q; cases q) (fun _ _ q r => by rw [ltB_asymm q] at r; cases r) hl hm h
/-! #### one more entry -/
theorem srt_ext {l m : List Ent} (hl : Srt cmpK l) (hm : Srt cmpK m) (h : ∀ x, x ∈ l ↔ x ∈ m) : l = m :=
  sorted_ext (R := fun x y : Ent => cmpK x y < 0) (fun _ q => (lessE_of q).irrefl) (fun _ _ q r => cmpK_ok.asy _ _ q r) hl hm h
theorem strict_srt {l : List Ent} (h : Strict l) : Srt cmpK l := List.pairwise_iff_getElem.2 fun i j hi hj hij => by
  rw [cmpK_lt (h i j _ _ hij (List.getElem?_eq_getElem hi) (List.getElem?_eq_getElem hj))]
  decide
theorem srt_strict {l : List Ent} (h : Srt cmpK l) : Strict l := strict_of (h.imp lessE_of)
theorem look_uniq {l : List Ent} {u : ByteArray} {p : Int} {x y : Ent} (hx : IsLook l u p x) (hy : IsLook l u p y) : x = y := by
  rcases hx.2.2 y hy.1 hy.2.1 with e | h1
  · exact e.symm
  · rcases hy.2.2 x hx.1 hx.2.1 with e | h2
    · exact e
    · exact (h1.trans h2).irrefl.elim
theorem as_of {u : ByteArray} {p : Int} {e : Ent} : asOf u p e = true ↔ e.user = u ∧ e.seq ≤ p := by simp [asOf]
theorem look_more {l l' : List Ent} {b : Ent} {s : Int} (hm : ∀ e, e ∈ l' ↔ e ∈ l ∨ e = b) (hs : ∀ e ∈ l, e.seq ≤ s) (hb : b.seq = s + 1) (u : ByteArray) (e : Ent) :
    IsLook l' u (s + 1) e ↔ (u = b.user ∧ e = b) ∨ (u ≠ b.user ∧ IsLook l u s e) := by
  have hlk : IsLook l' b.user (s + 1) b := by
    refine ⟨(hm b).2 (.inr rfl), as_of.2 ⟨rfl, by omega⟩, fun x hx hp => ?_⟩
    rcases (hm x).1 hx with hx | hx
    · exact .inr (.inr ⟨(as_of.1 hp).1.symm, .inl (by have := hs x hx; omega)⟩)
    · exact .inl hx
  by_cases hu : u = b.user
  · subst hu
    constructor
    · intro h
      exact .inl ⟨rfl, look_uniq h hlk⟩
    · rintro (⟨_, rfl⟩ | ⟨q, _⟩)
      · exact hlk
      · exact absurd rfl q
  · constructor
    · rintro ⟨h1, h2, h3⟩
      have h2' := as_of.1 h2
      have hne : ∀ x, asOf u (s + 1) x = true → x ≠ b := fun x hx q => hu (by rw [← (as_of.1 hx).1, q])
      have he : e ∈ l := ((hm e).1 h1).resolve_right (hne e h2)
      refine .inr ⟨hu, he, as_of.2 ⟨h2'.1, hs e he⟩, fun x hx hp => h3 x ((hm x).2 (.inl hx)) (as_of.2 ⟨(as_of.1 hp).1, by have := (as_of.1 hp).2; omega⟩)⟩
    · rintro (⟨q, _⟩ | ⟨_, h1, h2, h3⟩)
      · exact absurd q hu
      · refine ⟨(hm e).2 (.inl h1), as_of.2 ⟨(as_of.1 h2).1, by have := (as_of.1 h2).2; omega⟩, fun x hx hp => ?_⟩
        rcases (hm x).1 hx with hx | hx
        · exact h3 x hx (as_of.2 ⟨(as_of.1 hp).1, hs x hx⟩)
        · exact absurd (by rw [← (as_of.1 hp).1, hx]) hu
theorem vis_more {l l' : List Ent} {o : Bop} {s : Int} (hl : Strict l) (hl' : Strict l') (hm : ∀ e, e ∈ l' ↔ e ∈ l ∨ e = ⟨o.user, s + 1, o.kind, o.value⟩) (hs : ∀ e ∈ l, e.seq ≤ s) : visF l' (s + 1) = foldO (visF l s) o := by
  have hv : PSort (visF l s) := vis_sorted hl
  obtain ⟨h1, h2⟩ := foldO_is hv o
  refine psort_ext (vis_sorted hl') h1 (fun x => ?_)
  rw [vis_mem hl', h2, vis_mem hl]
  constructor
  · rintro ⟨e, he, hk, hx⟩
    rcases (look_more hm hs rfl x.user e).1 he with ⟨hu, rfl⟩ | ⟨hu, he⟩
    · refine .inr ⟨hk, ?_⟩
      cases x
      simp only [opPr, Pr.mk.injEq]
      exact ⟨hu, hx.symm⟩
    · exact .inl ⟨⟨e, he, hk, hx⟩, hu⟩
  · rintro (⟨⟨e, he, hk, hx⟩, hu⟩ | ⟨hk, rfl⟩)
    · exact ⟨e, (look_more hm hs rfl x.user e).2 (.inr ⟨hu, he⟩), hk, hx⟩
    · exact ⟨_, (look_more hm hs rfl o.user _).2 (.inl ⟨rfl, rfl⟩), hk, rfl⟩
theorem batch_cons (s : Int) (o : Bop) (ops : List Bop) : batchE s (o :: ops) = ⟨o.user, s, o.kind, o.value⟩ :: batchE (s + 1) ops := by
  unfold batchE
  rw [List.mapIdx_cons]
  congr 1
  · simp [bent]
  · refine List.ext_getElem (by simp) (fun i h1 h2 => ?_)
    simp only [List.getElem_mapIdx, bent, Ent.mk.injEq, true_and, and_true]
    omega
theorem fold_vis : ∀ (ops : List Bop) {l l' : List Ent} {s : Int}, Strict l → Strict l' → (∀ e ∈ l, e.seq ≤ s) → (∀ e, e ∈ l' ↔ e ∈ l ∨ e ∈ batchE (s + 1) ops) → visF l' (s + (ops.length : Int)) = foldF (visF l s) ops
  | [], l, l', s, hl, hl', _, hm => by
    have : l' = l := srt_ext (strict_srt hl') (strict_srt hl) (fun e => by rw [hm]; simp [batchE])
    subst this
    simp [foldF]
  | o :: ops, l, l', s, hl, hl', hs, hm => by
    have hd : Dist cmpK ((⟨o.user, s + 1, o.kind, o.value⟩ : Ent) :: l) := List.pairwise_cons.2 ⟨fun y hy => cmpK_seq (by have := hs y hy; show s + 1 ≠ y.seq; omega), (strict_srt hl).imp .inl⟩
    have hp := isort_perm (c := cmpK) ((⟨o.user, s + 1, o.kind, o.value⟩ : Ent) :: l)
    have h1 : Strict (isort cmpK ((⟨o.user, s + 1, o.kind, o.value⟩ : Ent) :: l)) := srt_strict (isort_srt cmpK_ok hd)
    have hm1 : ∀ e, e ∈ isort cmpK ((⟨o.user, s + 1, o.kind, o.value⟩ : Ent) :: l) ↔ e ∈ l ∨ e = ⟨o.user, s + 1, o.kind, o.value⟩ := fun e => by
      rw [hp.mem_iff, List.mem_cons]
      exact Or.comm
    have hv := vis_more hl h1 hm1 hs
    have ih := fold_vis ops (s := s + 1) h1 hl' (fun e he => by
      rcases (hm1 e).1 he with h | h
      · have := hs e h; omega
      · rw [h]; exact Int.le_refl _) (fun e => by
      rw [hm, hm1, batch_cons, List.mem_cons, or_assoc])
    show _ = foldF (foldO (visF l s) o) ops
    rw [← hv, ← ih]
    congr 1
    simp only [List.length_cons]
    omega
end Go.Rl
namespace Go.Rl
variable {d : Eng} {ops : List Bop}
def wrote (d : Eng) (ops : List Bop) : Eng := ⟨d.seq + (ops.length : Int), isort cmpK (d.mem ++ batchE (d.seq + 1) ops), d.runs, d.snaps⟩
theorem batch_ents {s : Int} (h : batchOkF s ops = true) : (1 ≤ ops.length ∧ ops.length ≤ 20) ∧ (1 ≤ s ∧ s ≤ 999999999980) ∧ ∀ e ∈ batchE s ops, entOk e = true := by
  simp only [batchOkF, Bool.and_eq_true, decide_eq_true_eq] at h
  refine ⟨within_len.1 h.1, by simpa [within] using h.2.1, fun e he => ?_⟩
  have := idx_neg.1 h.2.2 e he
  simpa using this
theorem wrote_perm (d : Eng) (ops : List Bop) : (totI (wrote d ops)).Perm (totI d ++ batchE (d.seq + 1) ops) := by
  unfold totI wrote
  refine ((isort_perm _).append_right _).trans ?_
  rw [List.append_assoc, List.append_assoc]
  exact List.perm_append_comm.append_left _
theorem tot_batch (h : okB d.seq d.mem (tagT d.runs) d.snaps = true) : (totI d ++ batchE (d.seq + 1) ops).Pairwise (fun x y => x.seq ≠ y.seq) := by
  have h1 := (okb_of h).2.seqs
  refine List.pairwise_append.2 ⟨seqs_dist h1, batch_pw _ _, fun x hx y hy => ?_⟩
  have := batch_ge hy
  have := seqs_le h1 x hx
  omega
theorem wrote_ok (h : okB d.seq d.mem (tagT d.runs) d.snaps = true) (hb : batchOkF (d.seq + 1) ops = true) (hn : (totI d).length + ops.length ≤ 400) : okB (wrote d ops).seq (wrote d ops).mem (tagT (wrote d ops).runs) (wrote d ops).snaps = true := by
  obtain ⟨hbase, hI⟩ := okb_of h
  obtain ⟨hbl, hbs, hbe⟩ := batch_ents hb
  have hb2 := hbase
  simp only [dbBase, Bool.and_eq_true] at hb2
  obtain ⟨h1, h2, h3, h4⟩ := hb2
  have h1' : 0 ≤ d.seq ∧ d.seq ≤ 1000000000000 := by simpa [within] using h1
  have htl := totI_len d
  have hml : (isort cmpK (d.mem ++ batchE (d.seq + 1) ops)).length = d.mem.length + ops.length := by rw [isort_len, List.length_append, batchE_len]
  have hmem : ∀ e ∈ isort cmpK (d.mem ++ batchE (d.seq + 1) ops), e ∈ d.mem ∨ e ∈ batchE (d.seq + 1) ops := fun e he => List.mem_append.1 ((isort_perm _).mem_iff.1 he)
  have hbase' : dbBase (wrote d ops).seq (wrote d ops).mem (tagT (wrote d ops).runs) (wrote d ops).snaps = true := by
    refine base_of ?_ ?_ h3 h4
    · show within (d.seq + (ops.length : Int)) 0 1000000000000 = true
      simp only [within, Bool.and_eq_true, decide_eq_true_eq]
      omega
    · refine ents_of ((isort_srt cmpK_ok (write_dist h)).imp lessE_of) (by show (isort cmpK (d.mem ++ batchE (d.seq + 1) ops)).length ≤ 400; omega) (fun e he => ?_)
      rcases hmem e he with q | q
      · exact ents_mem h2 q
      · exact hbe e q
  have hp := wrote_perm d ops
  refine (okb_yes hbase' ⟨?_, ?_, ?_, fun z hz => ?_⟩).symm
  · show (totI (wrote d ops)).length ≤ 400
    rw [hp.length_eq, List.length_append, batchE_len]
    exact hn
  · refine seqs_of ((hp.pairwise_iff (fun q => q.symm)).2 (tot_batch h)) (fun e he => ?_)
    show e.seq ≤ d.seq + (ops.length : Int)
    rcases List.mem_append.1 (hp.mem_iff.1 he) with q | q
    · have := seqs_le hI.seqs e q
      omega
    · have := batch_ge q
      omega
  · refine (below_iff (fun e he => (ent_seq (base_ent hbase' (List.mem_append_left _ he))).1)).2 (fun e he x hx => ?_)
    rcases hmem e he with q | q
    · exact (below_iff (fun e he => (ent_seq (base_ent hbase (List.mem_append_left _ he))).1)).1 hI.mem e q x hx
    · have h5 := batch_ge q
      have h6 := seqs_le hI.seqs x (List.mem_append_right _ hx)
      omega
  · have := hI.last z hz
    show z ≤ d.seq + (ops.length : Int)
    omega
theorem wrote_vis (h : okB d.seq d.mem (tagT d.runs) d.snaps = true) (hw : okB (wrote d ops).seq (wrote d ops).mem (tagT (wrote d ops).runs) (wrote d ops).snaps = true) : visF (allI (wrote d ops)) (wrote d ops).seq = foldF (visF (allI d) d.seq) ops := by
  refine fold_vis ops (all_strict h) (all_strict hw) (fun e he => seqs_le (okb_of h).2.seqs e ((isort_perm _).mem_iff.1 he)) (fun e => ?_)
  rw [allI, allI, (isort_perm _).mem_iff, (isort_perm _).mem_iff, (wrote_perm d ops).mem_iff, List.mem_append]
theorem scan_now (h : okB d.seq d.mem (tagT d.runs) d.snaps = true) : scanI d (-1) ⟨#[]⟩ ⟨#[]⟩ = (visF (allI d) d.seq, 0) := by
  rw [scan_y h (by simp [askOk]), bound_all]
  simp [askI]
/-- What the law asks of a batch. -/
theorem written_law (hR : ER d) (ops : List Bop) :
    (∃ a c, writeI d ops = (a, c) ∧ (writeS d ops).2 = c ∧ dbOkS d.seq d.mem (tagT d.runs) d.snaps = false) ∨
    (∃ c, writeI d ops = (d, c) ∧ (writeS d ops).2 = c ∧ c ≠ 0 ∧ dbOkS d.seq d.mem (tagT d.runs) d.snaps = true) ∨
    (∃ a, writeI d ops = (a, 0) ∧ (writeS d ops).2 = 0 ∧ dbOkS d.seq d.mem (tagT d.runs) d.snaps = true ∧ okB a.seq a.mem (tagT a.runs) a.snaps = true ∧ scanI a (-1) ⟨#[]⟩ ⟨#[]⟩ = (foldF (scanI d (-1) ⟨#[]⟩ ⟨#[]⟩).1 ops, 0) ∧ a.seq = d.seq + (ops.length : Int)) := by
  have hs := ok_same hR
  cases ho : dbOkS d.seq d.mem (tagT d.runs) d.snaps with
  | false =>
    rw [ho] at hs
    exact .inl ⟨_, _, writei_w hs, by rw [write_w ho], rfl⟩
  | true =>
    rw [ho] at hs
    refine .inr ?_
    have hml : (mergeL (d.mem :: d.runs)).length = (totI d).length := by rw [all_eq hs, allI, isort_len]
    cases hb : batchOkF (d.seq + 1) ops with
    | false => exact .inl ⟨2, writei_b hs hb, by rw [write_b ho hb], by decide, rfl⟩
    | true =>
      by_cases hn : 400 < (totI d).length + ops.length
      · exact .inl ⟨3, writei_f hs hb hn, by rw [write_f ho hb (by rw [hml]; exact hn)], by decide, rfl⟩
      · have hw := wrote_ok hs hb (by omega)
        refine .inr ⟨wrote d ops, writei_y hs hb hn, by rw [write_y ho hb (by rw [hml]; exact hn)], rfl, hw, ?_, rfl⟩
        rw [scan_now hw, scan_now hs, wrote_vis hs hw]
theorem okB_eb (h : okB d.seq d.mem (tagT d.runs) d.snaps = true) : EB d := (okI_small h).eb
end Go.Rl
namespace Go.Rl
theorem foldN_next {l q : List Pr} {o : Bop} {x : Pr} {dn : Bool} {k : Nat} (hx : l[k]? = some x) (h : (q, dn) = (if (!(foldN l o k).2 && !ltB x.user o.user) = true then ((foldN l o k).1 ++ [opPr o], true) else foldN l o k)) : foldN l o (k + 1) = if x.user ≠ o.user then (q ++ [x], dn) else (q, dn) := by
  rw [foldN_step hx]
  unfold foldS
  simp only []
  rw [← h]
theorem fold_a {r : List Pr × Bool} {o : Bop} {b : Bool} (h : r.2 = true) : (r.1, r.2) = (if (!r.2 && b) = true then (r.1 ++ [opPr o], true) else r) := by rw [if_neg (by simp [h])]
theorem fold_b {r : List Pr × Bool} {o : Bop} {b : Bool} (h : b = false) : (r.1, r.2) = (if (!r.2 && b) = true then (r.1 ++ [opPr o], true) else r) := by rw [if_neg (by simp [h])]
theorem fold_c {r : List Pr × Bool} {o : Bop} {b : Bool} (h1 : r.2 = false) (h : b = true) : (r.1 ++ [opPr o], true) = (if (!r.2 && b) = true then (r.1 ++ [opPr o], true) else r) := by rw [if_pos (by simp [h1, h])]
theorem fold_olen {r : List Pr × Bool} {o : Bop} {b dn : Bool} {q : List Pr} {i : Nat} (h : (q, dn) = (if (!r.2 && b) = true then (r.1 ++ [opPr o], true) else r)) (hr : r.1.length + (if r.2 = true then 0 else 1) ≤ i + 1) : q.length ≤ i + 1 := by
  split at h
  · rename_i hc
    simp only [Prod.mk.injEq] at h
    simp only [Bool.and_eq_true, Bool.not_eq_true'] at hc
    rw [hc.1] at hr
    rw [h.1, List.length_append]
    simp at hr ⊢
    omega
  · have : q = r.1 := by rw [← h]
    rw [this]
    split at hr <;> omega
theorem pvP_snocO (l : List Pr) (o : Bop) : pvP l ++ [[PV.v (.string o.user), PV.v (.string o.value)]] = pvP (l ++ [opPr o]) := pvP_snoc l (opPr o)
end Go.Rl
namespace Go.Rl
open Go.Proofs
set_option maxRecDepth 1000000 in
set_option maxHeartbeats 2000000 in
theorem fold_con (l : List Pr) (ops : List Bop) (hl : l.length ≤ 1000000) (ho : ops.length ≤ 1000000) : ConS Try.prog 67 [.one (PV.sl false 2 (pvP l)), .one (PV.sl false 3 (pvO ops))] [.one (PV.sl false 2 (pvP (foldF l ops)))] := by
  refine con_of_trS Try.func67 rfl rfl rfl rfl ?_
  have hlv := pvP_length l
  have hov := pvO_length ops
  refine tr_seq ?_
  refine tr_region rfl (.run [] [] rfl (st_assign rfl) .nil) ?_
  refine tr_seq ?_
  refine tr_seq ?_
  refine tr_region rfl (.run [] [] rfl (st_assign rfl) .nil) ?_
  refine tr_block ?_
  refine tr_loopS (σ := Nat × List Pr) (fun (i, cur) => mk [(0, .p none (.sl false 2 (pvP cur))), (1, .p none (.sl false 3 (pvO ops))), (5, .p none (.v (.int .i64 (i:Int))))] [] []) (fun (i, cur) => i ≤ ops.length ∧ cur = foldF l (ops.take i)) (fun (i, cur) => ops.length - i) (0, l) ⟨Nat.zero_le _, rfl⟩ (wk_mk ⟨rfl, ⟨rfl, ⟨(int_eq (by omega)), trivial⟩⟩⟩ trivial trivial rfl) ?_
  rintro ⟨i, cur⟩ hG
  replace hG : i ≤ ops.length ∧ cur = foldF l (ops.take i) := hG
  obtain ⟨hi, hcur⟩ := hG
  have hcl := foldF_len (ops.take i) l
  have htl := List.length_take_le i ops
  rw [← hcur] at hcl
  have hcv := pvP_length cur
  refine tr_seq ?_
  refine tr_seq ?_
  refine tr_region rfl (.run [] [] rfl (st_move rfl) (.run [] [] rfl (st_move rfl) (.run [] [] rfl (st_len_fro rfl rfl Try.underlying73) (.run [] [] rfl (st_lss rfl rfl rfl) .nil)))) ?_
  refine tr_if (t := decide ((i:Int) < ((pvO ops).length : Int))) rfl (fun h1 => ?_) (fun h1 => ?_)
  · skip
    replace h1 := of_decide_eq_true h1
    refine tr_skip ?_
    refine tr_seq ?_
    refine tr_block ?_
    refine tr_seq ?_
    obtain ⟨e, he⟩ : ∃ e, ops[i]? = some e := ⟨_, List.getElem?_eq_getElem (by omega)⟩
    refine tr_region rfl (.run [1500] [] rfl (st_buildSlice rfl 1500 Try.underlying47 inf85 (nle rfl) (by decide) rfl rfl rfl .nil (by decide) rfl (by decide) rfl (by decide) rfl) (.run [] [] rfl (st_assign rfl) .nil)) ?_
    refine tr_seq ?_
    refine tr_region rfl (.run [] [] rfl (st_move rfl) (.run [] [] rfl (st_move rfl) (.run [] [] rfl (st_idx_fro rfl rfl rfl Try.underlying73 Try.sizeOf136 rfl (by omega) (pvO_get he)) (.run [] [] rfl (st_faddr_fea rfl rfl Try.underlying136 rfl Try.sizeOf2 (by decide)) (.run [] [] rfl (st_load_fea1 rfl rfl Try.isAgg2 rfl) (.run [] [] rfl (st_eql rfl rfl rfl) (.run [] [] rfl (st_assign rfl) .nil))))))) ?_
    refine tr_seq ?_
    refine tr_seq ?_
    refine tr_region rfl (.run [] [] rfl (st_assign rfl) .nil) ?_
    refine tr_block ?_
    refine tr_wk (wk_ren 1500 1 rfl rfl (by decide)) ?_
    refine tr_loopS (σ := Nat) (fun k => mk [(0, .p none (.sl false 2 (pvP cur))), (1, .p none (.sl false 3 (pvO ops))), (5, .p none (.v (.int .i64 (i:Int)))), (6, .sl 1 0 ((pvP (foldN cur e k).1).length)), (7, .p none (.v (.bool ((foldN cur e k).2)))), (8, .p none (.v (.int .i64 (k:Int))))] [] [(1, 2, pvP (foldN cur e k).1)]) (fun k => k ≤ cur.length) (fun k => cur.length - k) 0 (by simp) (wk_mk ⟨rfl, ⟨rfl, ⟨rfl, ⟨rfl, ⟨(bool_eq (by rfl)), ⟨(int_eq (by omega)), trivial⟩⟩⟩⟩⟩⟩ trivial ⟨(congrArg (fun x => some (2, x)) (by rfl)), trivial⟩ rfl) ?_
    rintro k hG
    replace hG : k ≤ cur.length := hG
    have hpl := foldN_len cur e k
    have hpq : (foldN cur e k).1.length ≤ k + 1 := by omega
    have hpv := pvP_length (foldN cur e k).1
    refine tr_seq ?_
    refine tr_seq ?_
    refine tr_region rfl (.run [] [] rfl (st_move rfl) (.run [] [] rfl (st_move rfl) (.run [] [] rfl (st_len_fro rfl rfl Try.underlying47) (.run [] [] rfl (st_lss rfl rfl rfl) .nil)))) ?_
    refine tr_if (t := decide ((k:Int) < ((pvP cur).length : Int))) rfl (fun h2 => ?_) (fun h2 => ?_)
    · skip
      replace h2 := of_decide_eq_true h2
      refine tr_skip ?_
      refine tr_seq ?_
      refine tr_block ?_
      obtain ⟨x, hx⟩ : ∃ x, cur[k]? = some x := ⟨_, List.getElem?_eq_getElem (by omega)⟩
      refine tr_join (σ := List Pr × Bool) (fun (q, dn) => mk [(0, .p none (.sl false 2 (pvP cur))), (1, .p none (.sl false 3 (pvO ops))), (5, .p none (.v (.int .i64 (i:Int)))), (6, .sl 1 0 ((pvP q).length)), (7, .p none (.v (.bool dn))), (8, .p none (.v (.int .i64 (k:Int))))] [] [(1, 2, pvP q)]) (fun (q, dn) => (q, dn) = (if (!(foldN cur e k).2 && !ltB x.user e.user) = true then ((foldN cur e k).1 ++ [opPr e], true) else (foldN cur e k))) ?_ ?_
      · skip
        refine tr_seq ?_
        refine tr_wk (s' := mk [(0, .p none (.sl false 2 (pvP cur))), (1, .p none (.sl false 3 (pvO ops))), (5, .p none (.v (.int .i64 (i:Int)))), (6, .sl 1 0 ((pvP (foldN cur e k).1).length)), (7, .p none (.v (.bool ((foldN cur e k).2)))), (8, .p none (.v (.int .i64 (k:Int))))] [] [(1, 2, pvP (foldN cur e k).1)]) ?_ ?_
        · exact wk_mk ⟨rfl, ⟨rfl, ⟨rfl, ⟨rfl, ⟨rfl, ⟨rfl, trivial⟩⟩⟩⟩⟩⟩ trivial ⟨rfl, trivial⟩ rfl
        rcases bfc (!((foldN cur e k).2)) with h3 | h3
        · have h3' := h3
          replace h3' : ((foldN cur e k).2) = true := bnot_f h3'
          refine tr_regionD mixed rfl (.run [] [] rfl (st_move rfl) (.run [] [] rfl (st_eq (st_not (b := (foldN cur e k).2) rfl rfl) (bool_eq h3)) (.run [] [] rfl (st_move rfl) (.not rfl (.not rfl (.not rfl (.not rfl (.not rfl (.not rfl (.not rfl (.not rfl (.not rfl (.not rfl (.not rfl (.run [] [] rfl (st_pickF rfl rfl) .nil))))))))))))))) (by kernel_rfl) ?_
          refine tr_if (t := false) rfl (fun h => nomatch h) (fun _ => ?_)
          refine tr_skip ?_
          refine ⟨((foldN cur e k).1, (foldN cur e k).2), ?_, ?_⟩
          · show (((foldN cur e k).1), ((foldN cur e k).2)) = (if (!(foldN cur e k).2 && !ltB x.user e.user) = true then ((foldN cur e k).1 ++ [opPr e], true) else (foldN cur e k))
            first | exact fold_a (by assumption) | exact fold_b (by simp_all) | exact fold_c (by assumption) (by simp_all)
          · exact wk_mk ⟨rfl, ⟨rfl, ⟨rfl, ⟨rfl, ⟨rfl, ⟨rfl, trivial⟩⟩⟩⟩⟩⟩ trivial ⟨rfl, trivial⟩ rfl
        · have h3' := h3
          replace h3' : ((foldN cur e k).2) = false := bnot_t h3'
          refine tr_regionD mixed rfl (.run [] [] rfl (st_move rfl) (.run [] [] rfl (st_eq (st_not (b := (foldN cur e k).2) rfl rfl) (bool_eq h3)) (.run [] [] rfl (st_move rfl) (.run [] [] rfl (st_move rfl) (.run [] [] rfl (st_move rfl) (.run [] [] rfl (st_idx_fro rfl rfl rfl Try.underlying47 Try.sizeOf85 rfl (by omega) (pvP_get hx)) (.run [] [] rfl (st_faddr_fea rfl rfl Try.underlying85 rfl Try.sizeOf9 (by decide)) (.run [] [] rfl (st_load_fea1 rfl rfl Try.isAgg9 rfl) (.run [] [] rfl (st_move rfl) (.run [] [] rfl (st_move rfl) (.run [] [] rfl (st_idx_fro rfl rfl rfl Try.underlying73 Try.sizeOf136 rfl (by omega) (pvO_get he)) (.run [] [] rfl (st_faddr_fea rfl rfl Try.underlying136 rfl Try.sizeOf9 (by decide)) (.run [] [] rfl (st_load_fea1 rfl rfl Try.isAgg9 rfl) (.run [] [] rfl (st_sgeq rfl rfl rfl) (.run [] [] rfl (st_pickT rfl rfl) .nil))))))))))))))) (by kernel_rfl) ?_
          refine tr_if (t := (!(ltB x.user e.user))) rfl (fun h4 => ?_) (fun h4 => ?_)
          · skip
            replace h4 : (ltB x.user e.user) = false := bnot_t h4
            refine tr_seq ?_
            refine tr_wk (s' := mk [(0, .p none (.sl false 2 (pvP cur))), (1, .p none (.sl false 3 (pvO ops))), (5, .p none (.v (.int .i64 (i:Int)))), (6, .sl 1 0 ((pvP (foldN cur e k).1).length)), (8, .p none (.v (.int .i64 (k:Int)))), (31, .p none (.sl false 2 (pvP cur))), (32, .p none (.v (.int .i64 (k:Int)))), (33, .fea none [PV.v (.string x.user), PV.v (.string x.value)]), (34, .fea none [PV.v (.string x.user), PV.v (.string x.value)]), (35, .p none (.v (.string x.user))), (36, .p none (.sl false 3 (pvO ops))), (37, .p none (.v (.int .i64 (i:Int)))), (38, .fea none [PV.v (.int .i64 e.kind), PV.v (.string e.user), PV.v (.string e.value)]), (39, .fea none [PV.v (.string e.user), PV.v (.string e.value)]), (40, .p none (.v (.string e.user))), (41, .p none (.v (.bool (!(ltB x.user e.user)))))] [] [(1, 2, pvP (foldN cur e k).1)]) ?_ ?_
            · exact wk_mk ⟨rfl, ⟨rfl, ⟨rfl, ⟨rfl, ⟨rfl, ⟨rfl, ⟨rfl, ⟨rfl, ⟨rfl, ⟨rfl, ⟨rfl, ⟨rfl, ⟨rfl, ⟨rfl, ⟨rfl, ⟨rfl, trivial⟩⟩⟩⟩⟩⟩⟩⟩⟩⟩⟩⟩⟩⟩⟩⟩ trivial ⟨rfl, trivial⟩ rfl
            refine tr_regionD mixed rfl (.run [] [] rfl (st_move rfl) (.run [] [] rfl (st_move rfl) (.run [] [] rfl (st_move rfl) (.run [] [] rfl (st_idx_fro rfl rfl rfl Try.underlying73 Try.sizeOf136 rfl (by omega) (pvO_get he)) (.run [] [] rfl (st_faddr_fea rfl rfl Try.underlying136 rfl Try.sizeOf9 (by decide)) (.run [] [] rfl (st_load_fea1 rfl rfl Try.isAgg9 rfl) (.run [] [] rfl (st_move rfl) (.run [] [] rfl (st_move rfl) (.run [] [] rfl (st_idx_fro rfl rfl rfl Try.underlying73 Try.sizeOf136 rfl (by omega) (pvO_get he)) (.run [] [] rfl (st_faddr_fea rfl rfl Try.underlying136 rfl Try.sizeOf9 (by decide)) (.run [] [] rfl (st_load_fea1 rfl rfl Try.isAgg9 rfl) (.run [] [] rfl (st_build (pl := [(0, 1), (1, 1)]) rfl Try.underlying85 inf85 (by kernel_rfl) rfl rfl) (.run [5500] [] rfl (st_buildSlice rfl 5500 Try.underlying47 inf85 (nle rfl) (by decide) rfl rfl rfl (.cons .v (.cons .v .nil)) (by decide) rfl (by decide) rfl (by decide) rfl) (.run [1] [] rfl (st_append rfl 1 (ib := 1) (len := ((pvP (foldN cur e k).1) ++ [[PV.v (.string e.user), PV.v (.string e.value)]]).length) rfl rfl (.row (len := (pvP (foldN cur e k).1).length) (xs := pvP (foldN cur e k).1) rfl rfl (.inl rfl)) (.give (len := 1) (xs := [[PV.v (.string e.user), PV.v (.string e.value)]]) rfl rfl) Try.underlying47 (sk Try.underlying47 rfl) inf85 rfl (by decide) (by decide) (by decide) List.length_append (by simp only [maxLen, List.length_append, List.length_map, List.length_cons, List.length_nil, List.length_take, List.length_drop, pvE_length, pvI_length, pvT_length, pvU_length, pvP_length, pvR_length, pvO_length]; omega) (by simp only [maxLen, List.length_append, List.length_map, List.length_cons, List.length_nil, List.length_take, List.length_drop, pvE_length, pvI_length, pvT_length, pvU_length, pvP_length, pvR_length, pvO_length]; omega)) (.run [] [] rfl (st_assign rfl) .nil))))))))))))))) (by kernel_rfl) ?_
            have hr5 : (pvP (foldN cur e k).1) ++ [[PV.v (.string e.user), PV.v (.string e.value)]] = pvP ((foldN cur e k).1 ++ [opPr e]) := by exact pvP_snocO _ _
            have hp6 : (.sl 1 0 (((pvP (foldN cur e k).1) ++ [[PV.v (.string e.user), PV.v (.string e.value)]]).length) : AV) = .sl 1 0 ((pvP ((foldN cur e k).1 ++ [opPr e])).length) := by simp only [hr5]
            refine tr_wk (s' := mk [(0, .p none (.sl false 2 (pvP cur))), (1, .p none (.sl false 3 (pvO ops))), (5, .p none (.v (.int .i64 (i:Int)))), (6, .sl 1 0 ((pvP ((foldN cur e k).1 ++ [opPr e])).length)), (8, .p none (.v (.int .i64 (k:Int)))), (31, .p none (.sl false 2 (pvP cur))), (32, .p none (.v (.int .i64 (k:Int)))), (33, .fea none [PV.v (.string x.user), PV.v (.string x.value)]), (34, .fea none [PV.v (.string x.user), PV.v (.string x.value)]), (35, .p none (.v (.string x.user))), (36, .p none (.sl false 3 (pvO ops))), (37, .p none (.v (.int .i64 (i:Int)))), (38, .fea none [PV.v (.int .i64 e.kind), PV.v (.string e.user), PV.v (.string e.value)]), (39, .fea none [PV.v (.string e.user), PV.v (.string e.value)]), (40, .p none (.v (.string e.user))), (41, .p none (.v (.bool (!(ltB x.user e.user)))))] [] [(1, 2, pvP ((foldN cur e k).1 ++ [opPr e]))]) ?_ ?_
            · exact wk_mk ⟨rfl, ⟨rfl, ⟨rfl, ⟨hp6, ⟨rfl, ⟨rfl, ⟨rfl, ⟨rfl, ⟨rfl, ⟨rfl, ⟨rfl, ⟨rfl, ⟨rfl, ⟨rfl, ⟨rfl, ⟨rfl, trivial⟩⟩⟩⟩⟩⟩⟩⟩⟩⟩⟩⟩⟩⟩⟩⟩ trivial ⟨(congrArg (fun x => some (2, x)) hr5), trivial⟩ rfl
            refine tr_region rfl (.run [] [] rfl (st_assign rfl) .nil) ?_
            refine ⟨((foldN cur e k).1 ++ [opPr e], true), ?_, ?_⟩
            · show (((foldN cur e k).1 ++ [opPr e]), true) = (if (!(foldN cur e k).2 && !ltB x.user e.user) = true then ((foldN cur e k).1 ++ [opPr e], true) else (foldN cur e k))
              first | exact fold_a (by assumption) | exact fold_b (by simp_all) | exact fold_c (by assumption) (by simp_all)
            · exact wk_mk ⟨rfl, ⟨rfl, ⟨rfl, ⟨rfl, ⟨rfl, ⟨rfl, trivial⟩⟩⟩⟩⟩⟩ trivial ⟨rfl, trivial⟩ rfl
          · skip
            replace h4 : (ltB x.user e.user) = true := bnot_f h4
            refine tr_skip ?_
            refine ⟨((foldN cur e k).1, (foldN cur e k).2), ?_, ?_⟩
            · show (((foldN cur e k).1), ((foldN cur e k).2)) = (if (!(foldN cur e k).2 && !ltB x.user e.user) = true then ((foldN cur e k).1 ++ [opPr e], true) else (foldN cur e k))
              first | exact fold_a (by assumption) | exact fold_b (by simp_all) | exact fold_c (by assumption) (by simp_all)
            · exact wk_mk ⟨rfl, ⟨rfl, ⟨rfl, ⟨rfl, ⟨rfl, ⟨rfl, trivial⟩⟩⟩⟩⟩⟩ trivial ⟨rfl, trivial⟩ rfl
      · rintro ⟨q, dn⟩ hG
        replace hG : (q, dn) = (if (!(foldN cur e k).2 && !ltB x.user e.user) = true then ((foldN cur e k).1 ++ [opPr e], true) else (foldN cur e k)) := hG
        have hst := foldN_next hx hG
        have hol := fold_olen hG hpl
        have hov := pvP_length q
        refine tr_seq ?_
        refine tr_regionD mixed rfl (.run [] [] rfl (st_move rfl) (.run [] [] rfl (st_move rfl) (.run [] [] rfl (st_idx_fro rfl rfl rfl Try.underlying47 Try.sizeOf85 rfl (by omega) (pvP_get hx)) (.run [] [] rfl (st_faddr_fea rfl rfl Try.underlying85 rfl Try.sizeOf9 (by decide)) (.run [] [] rfl (st_load_fea1 rfl rfl Try.isAgg9 rfl) (.run [] [] rfl (st_move rfl) (.run [] [] rfl (st_move rfl) (.run [] [] rfl (st_idx_fro rfl rfl rfl Try.underlying73 Try.sizeOf136 rfl (by omega) (pvO_get he)) (.run [] [] rfl (st_faddr_fea rfl rfl Try.underlying136 rfl Try.sizeOf9 (by decide)) (.run [] [] rfl (st_load_fea1 rfl rfl Try.isAgg9 rfl) (.run [] [] rfl (st_sneq rfl rfl rfl) .nil))))))))))) (by kernel_rfl) ?_
        refine tr_if (t := (!(decide (x.user = e.user)))) rfl (fun h7 => ?_) (fun h7 => ?_)
        · skip
          replace h7 : ¬ (x.user = e.user) := of_decide_eq_false (bnot_t h7)
          refine tr_wk (s' := mk [(0, .p none (.sl false 2 (pvP cur))), (1, .p none (.sl false 3 (pvO ops))), (5, .p none (.v (.int .i64 (i:Int)))), (6, .sl 1 0 ((pvP q).length)), (7, .p none (.v (.bool dn))), (8, .p none (.v (.int .i64 (k:Int))))] [] [(1, 2, pvP q)]) ?_ ?_
          · exact wk_mk ⟨rfl, ⟨rfl, ⟨rfl, ⟨rfl, ⟨rfl, ⟨rfl, trivial⟩⟩⟩⟩⟩⟩ trivial ⟨rfl, trivial⟩ rfl
          refine tr_region rfl (.run [] [] rfl (st_move rfl) (.run [] [] rfl (st_move rfl) (.run [] [] rfl (st_move rfl) (.run [] [] rfl (st_idx_fro rfl rfl rfl Try.underlying47 Try.sizeOf85 rfl (by omega) (pvP_get hx)) (.run [] [] rfl (st_load_fea rfl rfl Try.isAgg85 Try.sizeOf85 (nle rfl)) (.run [7300] [] rfl (st_buildSlice rfl 7300 Try.underlying47 inf85 (nle rfl) (by decide) rfl rfl rfl (.cons .v (.cons .v .nil)) (by decide) rfl (by decide) rfl (by decide) rfl) (.run [1] [] rfl (st_append rfl 1 (ib := 1) (len := ((pvP q) ++ [[PV.v (.string x.user), PV.v (.string x.value)]]).length) rfl rfl (.row (len := (pvP q).length) (xs := pvP q) rfl rfl (.inl rfl)) (.give (len := 1) (xs := [[PV.v (.string x.user), PV.v (.string x.value)]]) rfl rfl) Try.underlying47 (sk Try.underlying47 rfl) inf85 rfl (by decide) (by decide) (by decide) List.length_append (by simp only [maxLen, List.length_append, List.length_map, List.length_cons, List.length_nil, List.length_take, List.length_drop, pvE_length, pvI_length, pvT_length, pvU_length, pvP_length, pvR_length, pvO_length]; omega) (by simp only [maxLen, List.length_append, List.length_map, List.length_cons, List.length_nil, List.length_take, List.length_drop, pvE_length, pvI_length, pvT_length, pvU_length, pvP_length, pvR_length, pvO_length]; omega)) (.run [] [] rfl (st_assign rfl) .nil)))))))) ?_
          have hr8 : (pvP q) ++ [[PV.v (.string x.user), PV.v (.string x.value)]] = pvP (q ++ [x]) := by exact pvP_snoc _ _
          have hp9 : (.sl 1 0 (((pvP q) ++ [[PV.v (.string x.user), PV.v (.string x.value)]]).length) : AV) = .sl 1 0 ((pvP (q ++ [x])).length) := by simp only [hr8]
          refine tr_wk (s' := mk [(0, .p none (.sl false 2 (pvP cur))), (1, .p none (.sl false 3 (pvO ops))), (5, .p none (.v (.int .i64 (i:Int)))), (6, .sl 1 0 ((pvP (q ++ [x])).length)), (7, .p none (.v (.bool dn))), (8, .p none (.v (.int .i64 (k:Int))))] [] [(1, 2, pvP (q ++ [x]))]) ?_ ?_
          · exact wk_mk ⟨rfl, ⟨rfl, ⟨rfl, ⟨hp9, ⟨rfl, ⟨rfl, trivial⟩⟩⟩⟩⟩⟩ trivial ⟨(congrArg (fun x => some (2, x)) hr8), trivial⟩ rfl
          refine tr_region rfl (.run [] [] rfl (st_move rfl) (.run [] [] rfl (st_addn rfl rfl rfl (by omega)) (.run [] [] rfl (st_assign rfl) .nil))) ?_
          refine nxt (Q := fun _ _ => False) (z := k) (k + 1) ?_ ?_ ?_
          · show (k + 1) ≤ cur.length
            omega
          · show cur.length - (k + 1) < cur.length - k
            omega
          · exact wk_mk ⟨rfl, ⟨rfl, ⟨rfl, ⟨(congrArg (fun z => AV.sl 1 0 (pvP z).length) (show _ = (foldN cur e (k + 1)).1 by rw [hst, if_pos h7])), ⟨(bool_eq (by rw [hst, if_pos h7])), ⟨(int_eq (by omega)), trivial⟩⟩⟩⟩⟩⟩ trivial ⟨(congrArg (fun x => some (2, x)) (by rw [hst, if_pos h7])), trivial⟩ rfl
        · skip
          replace h7 : x.user = e.user := of_decide_eq_true (bnot_f h7)
          refine tr_skip ?_
          refine tr_region rfl (.run [] [] rfl (st_move rfl) (.run [] [] rfl (st_addn rfl rfl rfl (by omega)) (.run [] [] rfl (st_assign rfl) .nil))) ?_
          refine nxt (Q := fun _ _ => False) (z := k) (k + 1) ?_ ?_ ?_
          · show (k + 1) ≤ cur.length
            omega
          · show cur.length - (k + 1) < cur.length - k
            omega
          · exact wk_mk ⟨rfl, ⟨rfl, ⟨rfl, ⟨(congrArg (fun z => AV.sl 1 0 (pvP z).length) (show _ = (foldN cur e (k + 1)).1 by rw [hst, if_neg (fun hh => hh h7)])), ⟨(bool_eq (by rw [hst, if_neg (fun hh => hh h7)])), ⟨(int_eq (by omega)), trivial⟩⟩⟩⟩⟩⟩ trivial ⟨(congrArg (fun x => some (2, x)) (by rw [hst, if_neg (fun hh => hh h7)])), trivial⟩ rfl
    · skip
      replace h2 := of_decide_eq_false h2
      refine tr_exit ?_
      refine tr_join (σ := Unit) (fun _ => mk [(1, .p none (.sl false 3 (pvO ops))), (5, .p none (.v (.int .i64 (i:Int)))), (6, .sl 1 0 ((pvP (foldO cur e)).length))] [] [(1, 2, pvP (foldO cur e))]) (fun _ => True) ?_ ?_
      · skip
        refine tr_seq ?_
        have hkl : k = cur.length := (by omega)
        refine tr_region rfl (.run [] [] rfl (st_move rfl) (.run [] [] rfl (st_not (b := (foldN cur e k).2) rfl rfl) .nil)) ?_
        refine tr_if (t := (!((foldN cur e k).2))) rfl (fun h10 => ?_) (fun h10 => ?_)
        · skip
          replace h10 : ((foldN cur e k).2) = false := bnot_t h10
          refine tr_wk (s' := mk [(1, .p none (.sl false 3 (pvO ops))), (5, .p none (.v (.int .i64 (i:Int)))), (6, .sl 1 0 ((pvP (foldN cur e k).1).length))] [] [(1, 2, pvP (foldN cur e k).1)]) ?_ ?_
          · exact wk_mk ⟨rfl, ⟨rfl, ⟨rfl, trivial⟩⟩⟩ trivial ⟨rfl, trivial⟩ rfl
          refine tr_regionD mixed rfl (.run [] [] rfl (st_move rfl) (.run [] [] rfl (st_move rfl) (.run [] [] rfl (st_move rfl) (.run [] [] rfl (st_idx_fro rfl rfl rfl Try.underlying73 Try.sizeOf136 rfl (by omega) (pvO_get he)) (.run [] [] rfl (st_faddr_fea rfl rfl Try.underlying136 rfl Try.sizeOf9 (by decide)) (.run [] [] rfl (st_load_fea1 rfl rfl Try.isAgg9 rfl) (.run [] [] rfl (st_move rfl) (.run [] [] rfl (st_move rfl) (.run [] [] rfl (st_idx_fro rfl rfl rfl Try.underlying73 Try.sizeOf136 rfl (by omega) (pvO_get he)) (.run [] [] rfl (st_faddr_fea rfl rfl Try.underlying136 rfl Try.sizeOf9 (by decide)) (.run [] [] rfl (st_load_fea1 rfl rfl Try.isAgg9 rfl) (.run [] [] rfl (st_build (pl := [(0, 1), (1, 1)]) rfl Try.underlying85 inf85 (by kernel_rfl) rfl rfl) (.run [8900] [] rfl (st_buildSlice rfl 8900 Try.underlying47 inf85 (nle rfl) (by decide) rfl rfl rfl (.cons .v (.cons .v .nil)) (by decide) rfl (by decide) rfl (by decide) rfl) (.run [1] [] rfl (st_append rfl 1 (ib := 1) (len := ((pvP (foldN cur e k).1) ++ [[PV.v (.string e.user), PV.v (.string e.value)]]).length) rfl rfl (.row (len := (pvP (foldN cur e k).1).length) (xs := pvP (foldN cur e k).1) rfl rfl (.inl rfl)) (.give (len := 1) (xs := [[PV.v (.string e.user), PV.v (.string e.value)]]) rfl rfl) Try.underlying47 (sk Try.underlying47 rfl) inf85 rfl (by decide) (by decide) (by decide) List.length_append (by simp only [maxLen, List.length_append, List.length_map, List.length_cons, List.length_nil, List.length_take, List.length_drop, pvE_length, pvI_length, pvT_length, pvU_length, pvP_length, pvR_length, pvO_length]; omega) (by simp only [maxLen, List.length_append, List.length_map, List.length_cons, List.length_nil, List.length_take, List.length_drop, pvE_length, pvI_length, pvT_length, pvU_length, pvP_length, pvR_length, pvO_length]; omega)) (.run [] [] rfl (st_assign rfl) .nil))))))))))))))) (by kernel_rfl) ?_
          refine ⟨(), ?_, ?_⟩
          · show True
            trivial
          · exact wk_mk ⟨rfl, ⟨rfl, ⟨(congrArg (fun z => AV.sl 1 0 (List.length z)) ((pvP_snocO _ e).trans (congrArg pvP (show _ = foldO cur e by rw [foldO, ← hkl, if_neg (by simp_all)])))), trivial⟩⟩⟩ trivial ⟨(congrArg (fun x => some (2, x)) (by exact (pvP_snocO _ e).trans (congrArg pvP (show _ = foldO cur e by rw [foldO, ← hkl, if_neg (by simp_all)])))), trivial⟩ rfl
        · skip
          replace h10 : ((foldN cur e k).2) = true := bnot_f h10
          refine tr_skip ?_
          refine ⟨(), ?_, ?_⟩
          · show True
            trivial
          · exact wk_mk ⟨rfl, ⟨rfl, ⟨(congrArg (fun z => AV.sl 1 0 (List.length z)) (congrArg pvP (show _ = foldO cur e by rw [foldO, ← hkl, if_pos (by simp_all)]))), trivial⟩⟩⟩ trivial ⟨(congrArg (fun x => some (2, x)) (by exact congrArg pvP (show _ = foldO cur e by rw [foldO, ← hkl, if_pos (by simp_all)]))), trivial⟩ rfl
      · rintro _ hG
        replace hG : True := hG
        refine tr_region rfl (.run [] [] rfl (st_move rfl) (.run [] [] rfl (st_assign rfl) .nil)) ?_
        refine tr_wk (wk_frz 1 rfl) ?_
        have hp11 : (.p none (.sl false 2 (((pvP (foldO cur e)).drop 0).take ((pvP (foldO cur e)).length))) : AV) = .p none (.sl false 2 (pvP (foldO cur e))) := by simp only [frz_all]
        refine tr_wk (s' := mk [(0, .p none (.sl false 2 (pvP (foldO cur e)))), (1, .p none (.sl false 3 (pvO ops))), (5, .p none (.v (.int .i64 (i:Int))))] [] []) ?_ ?_
        · exact wk_mk ⟨hp11, ⟨rfl, ⟨rfl, trivial⟩⟩⟩ trivial trivial rfl
        refine tr_region rfl (.run [] [] rfl (st_move rfl) (.run [] [] rfl (st_addn rfl rfl rfl (by omega)) (.run [] [] rfl (st_assign rfl) .nil))) ?_
        refine nxt (Q := fun _ _ => False) (z := (i, cur)) (i + 1, foldO cur e) ?_ ?_ ?_
        · show (i + 1) ≤ ops.length ∧ (foldO cur e) = foldF l (ops.take (i + 1))
          exact ⟨by omega, by rw [foldF_step he, hcur]⟩
        · show ops.length - (i + 1) < ops.length - i
          omega
        · exact wk_mk ⟨rfl, ⟨rfl, ⟨(int_eq (by omega)), trivial⟩⟩⟩ trivial trivial rfl
  · skip
    replace h1 := of_decide_eq_false h1
    refine tr_exit ?_
    refine tr_seq ?_
    have hce : foldF l (ops.take i) = foldF l ops := by rw [List.take_of_length_le (by omega)]
    rw [hce] at hcur
    subst hcur
    refine tr_region rfl (.run [] [] rfl (st_move rfl) (.run [] [] rfl (st_assign rfl) .nil)) ?_
    refine tr_ret ?_
    exact endsS [_] [] (.cons (.tmp rfl) .nil) (.cons (.one (.of .fro)) .nil) (by decide)
end Go.Rl

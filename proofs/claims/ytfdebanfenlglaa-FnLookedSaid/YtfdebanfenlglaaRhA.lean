/- Promises of functions, proved by walks over their operations; no conditions beyond those that each theorem states. -/
import Derived.Test.YtfdebanfenlglaaRtDw
import Derived.Test.YtfdebanfenlglaaRgB
set_option linter.unusedSimpArgs false
set_option linter.unusedVariables false
namespace Go.Rl
def KOK (l : List Ent) : Prop := ∀ x ∈ l, keyOk x.user x.seq x.kind = true
theorem KOK.perm {l m : List Ent} (h : KOK l) (p : m.Perm l) : KOK m := fun x hx => h x (p.mem_iff.1 hx)
theorem KOK.left {l m : List Ent} (h : KOK (l ++ m)) : KOK l := fun x hx => h x (List.mem_append_left _ hx)
theorem KOK.right {l m : List Ent} (h : KOK (l ++ m)) : KOK m := fun x hx => h x (List.mem_append_right _ hx)
theorem KOK.tail {l : List Ent} {e : Ent} (h : KOK (e :: l)) : KOK l := fun x hx => h x (by simp [hx])
theorem mid_perm {α : Type} (e : α) (l m : List α) : (l ++ (e :: m)).Perm (e :: l ++ m) := List.perm_middle
theorem puts_srt : ∀ (l out : List Ent), KOK (l ++ out) → Dist cmpK (l ++ out) → Srt cmpK out → Srt cmpK (putsF out l) ∧ (putsF out l).Perm (l ++ out)
  | [], out, _, _, hs => ⟨hs, .refl _⟩
  | e :: l, out, hk, hd, hs => by
    have hd' := List.pairwise_cons.1 hd
    have hne : ∀ y ∈ out, cmpK y e < 0 ∨ cmpK e y < 0 := fun y hy => (hd'.1 y (List.mem_append_right _ hy)).symm
    have hp : putF out e = insC cmpK e out := putF_ins (hk e (by simp)) (fun x hx => hk x (by simp [hx])) hne
    have hpm : (l ++ putF out e).Perm (e :: l ++ out) := by rw [hp]; exact ((ins_perm e out).append_left l).trans (mid_perm e l out)
    have := puts_srt l (putF out e) (hk.perm hpm) (dist_perm hpm hd) (by rw [hp]; exact ins_srt cmpK_ok hs (fun y hy => (hne y hy).symm))
    exact ⟨this.1, this.2.trans hpm⟩
theorem mergeL_srt : ∀ ls : List (List Ent), KOK (entsL ls) → Dist cmpK (entsL ls) → Srt cmpK (mergeL ls) ∧ (mergeL ls).Perm (entsL ls)
  | [], _, _ => ⟨List.Pairwise.nil, .refl _⟩
  | l :: ls, hk, hd => by
    have hk : KOK (l ++ entsL ls) := hk
    have hd : Dist cmpK (l ++ entsL ls) := hd
    obtain ⟨h1, h2⟩ := mergeL_srt ls hk.right (List.pairwise_append.1 hd).2.1
    have hp : (l ++ mergeL ls).Perm (l ++ entsL ls) := h2.append_left l
    have := puts_srt l (mergeL ls) (hk.perm hp) (dist_perm hp hd) h1
    exact ⟨this.1, this.2.trans hp⟩
theorem tot_eq (d : Eng) : entsL (d.mem :: d.runs) = totI d := by rw [totI, ents_tag]; rfl
theorem ent_kok {l : List Ent} (h : ∀ e ∈ l, entOk e = true) : KOK l := fun e he => entOk_key (h e he)
theorem merge_eq {d : Eng} (hk : KOK (totI d)) (hd : Dist cmpK (totI d)) : mergeL (d.mem :: d.runs) = allI d := by
  rw [← tot_eq] at hk hd
  obtain ⟨h1, h2⟩ := mergeL_srt _ hk hd
  rw [allI, ← tot_eq]
  exact srt_isort cmpK_ok h1 h2 hd
theorem all_eq {d : Eng} (h : okB d.seq d.mem (tagT d.runs) d.snaps = true) : mergeL (d.mem :: d.runs) = allI d :=
  merge_eq (ent_kok (fun _ he => base_ent (okb_of h).1 he)) (ok_dist h)
/-! #### nothing is lost by putting: then no two are alike -/
theorem putS_len2 (e : Ent) (r : List Ent × Bool) (x : Ent) : (putS e r x).1.length + (if (putS e r x).2 = true then 0 else 1) + (if kcmp x e = 0 then 1 else 0) ≤ r.1.length + (if r.2 = true then 0 else 1) + 1 := by
  obtain ⟨l, d⟩ := r
  unfold putS
  cases d <;> by_cases h : 0 ≤ kcmp x e <;> by_cases h2 : kcmp x e = 0 <;> simp [h, h2] <;> omega
theorem putN_hit {l : List Ent} {e : Ent} : ∀ i, i ≤ l.length → (∃ x ∈ l.take i, kcmp x e = 0) → (putN l e i).1.length + (if (putN l e i).2 = true then 0 else 1) ≤ i
  | 0, _, h => by obtain ⟨x, hx, _⟩ := h; simp at hx
  | i + 1, hi, h => by
    obtain ⟨y, hy⟩ : ∃ y, l[i]? = some y := ⟨_, List.getElem?_eq_getElem (by omega)⟩
    obtain ⟨x, hx, h0⟩ := h
    rw [List.take_add_one, hy] at hx
    rw [putN_step hy]
    have h1 := putS_len2 e (putN l e i) y
    have h2 := putN_len l e i
    rcases List.mem_append.1 hx with hx | hx
    · have := putN_hit i (by omega) ⟨x, hx, h0⟩
      omega
    · simp at hx
      subst hx
      rw [if_pos h0] at h1
      omega
theorem putF_hit {l : List Ent} {e : Ent} (h : ∃ x ∈ l, kcmp x e = 0) : (putF l e).length ≤ l.length := by
  have := putN_hit (l := l) (e := e) l.length (Nat.le_refl _) (by rw [List.take_length]; exact h)
  unfold putF
  split
  · rename_i h; rw [if_pos h] at this; omega
  · rename_i h; rw [if_neg h] at this; simp; omega
theorem puts_full : ∀ (l out : List Ent), KOK (l ++ out) → Dist cmpK out → Srt cmpK out → (putsF out l).length = l.length + out.length → Dist cmpK (l ++ out)
  | [], _, _, hd, _, _ => hd
  | e :: l, out, hk, hd, hs, hl => by
    have h1 := puts_len l (putF out e)
    have h2 : (putsF out (e :: l)).length = (putsF (putF out e) l).length := rfl
    have h3 := putF_len out e
    simp only [List.length_cons] at hl
    have hne : ∀ y ∈ out, cmpK y e < 0 ∨ cmpK e y < 0 := fun y hy => by
      have h0 : kcmp y e ≠ 0 := fun q => by have := putF_hit ⟨y, hy, q⟩; omega
      rw [kcmp_ok (hk y (by simp [hy])) (hk e (by simp))] at h0
      by_cases h4 : LessE y e
      · exact .inl (by rw [cmpK_lt h4]; decide)
      · refine .inr ?_
        by_cases h5 : LessE e y
        · rw [cmpK_lt h5]; decide
        · exfalso
          refine h0 (cmpK_eq ?_ ?_ ?_)
          all_goals
            unfold LessE at h4 h5
            have hu : y.user = e.user := ltB_tot (by cases q : ltB y.user e.user with | false => rfl | true => exact absurd (.inl q) h4) (by cases q : ltB e.user y.user with | false => rfl | true => exact absurd (.inl q) h5)
            have h6 : ¬ (e.seq < y.seq ∨ (y.seq = e.seq ∧ e.kind < y.kind)) := fun q => h4 (.inr ⟨hu, q⟩)
            have h7 : ¬ (y.seq < e.seq ∨ (e.seq = y.seq ∧ y.kind < e.kind)) := fun q => h5 (.inr ⟨hu.symm, q⟩)
            first | exact hu | omega
    have hp : putF out e = insC cmpK e out := putF_ins (hk e (by simp)) (fun x hx => hk x (by simp [hx])) hne
    have hpe : (putF out e).Perm (e :: out) := by rw [hp]; exact ins_perm e out
    have hpm : (l ++ putF out e).Perm (e :: l ++ out) := (hpe.append_left l).trans (mid_perm e l out)
    have hde : Dist cmpK (putF out e) := dist_perm hpe (List.pairwise_cons.2 ⟨fun y hy => (hne y hy).symm, hd⟩)
    have := puts_full l (putF out e) (hk.perm hpm) hde (by rw [hp]; exact ins_srt cmpK_ok hs (fun y hy => (hne y hy).symm)) (by rw [hpe.length_eq]; simp only [List.length_cons]; omega)
    exact dist_perm hpm.symm this
theorem mergeL_full : ∀ ls : List (List Ent), KOK (entsL ls) → (mergeL ls).length = (entsL ls).length → Dist cmpK (entsL ls)
  | [], _, _ => List.Pairwise.nil
  | l :: ls, hk, hl => by
    have hk : KOK (l ++ entsL ls) := hk
    have h1 := puts_len l (mergeL ls)
    have h2 := mergeL_len ls
    have h3 : (mergeL (l :: ls)).length = (putsF (mergeL ls) l).length := rfl
    have h4 : (entsL (l :: ls)).length = l.length + (entsL ls).length := by simp [entsL]
    have ih := mergeL_full ls hk.right (by omega)
    obtain ⟨h5, h6⟩ := mergeL_srt ls hk.right ih
    have hp : (l ++ mergeL ls).Perm (l ++ entsL ls) := h6.append_left l
    have := puts_full l (mergeL ls) (hk.perm hp) (dist_perm h6 ih) h5 (by omega)
    exact dist_perm hp.symm this
/-! #### the two ways to say right -/
theorem snaps_step {s : List Int} (h : snapsOk s = true) {j : Nat} {y x : Int} (hy : s[j]? = some y) (hx : s[j + 1]? = some x) : y < x := by
  cases hn : okSnap s (j + 1) x with
  | false => rw [snaps_no hx hn] at h; cases h
  | true =>
    simp only [okSnap, Bool.and_eq_true, Nat.add_sub_cancel, hy] at hn
    simpa using hn.2
theorem snaps_lt {s : List Int} (h : snapsOk s = true) {i : Nat} {y : Int} (hy : s[i]? = some y) : ∀ (j : Nat) {x : Int}, i < j → s[j]? = some x → y < x
  | 0, _, hij, _ => absurd hij (Nat.not_lt_zero _)
  | j + 1, x, hij, hx => by
    have hlt := (List.getElem?_eq_some_iff.1 hx).1
    obtain ⟨z, hz⟩ : ∃ z, s[j]? = some z := ⟨_, List.getElem?_eq_getElem (by omega)⟩
    have h1 := snaps_step h hz hx
    by_cases e : i = j
    · subst e; rw [hy] at hz; cases hz; exact h1
    · have := snaps_lt h hy j (by omega) hz
      omega
theorem foldmin_lt {l : List Ent} {z : Int} : ∀ {a : Int}, z < l.foldl (fun a e => min a e.seq) a ↔ z < a ∧ ∀ e ∈ l, z < e.seq := by
  induction l with
  | nil => intro a; simp
  | cons x l ih =>
    intro a
    rw [List.foldl_cons, ih]
    constructor
    · rintro ⟨h1, h2⟩
      refine ⟨by omega, fun e he => ?_⟩
      rcases List.mem_cons.1 he with rfl | he
      · omega
      · exact h2 e he
    · rintro ⟨h1, h2⟩
      have := h2 x (by simp)
      exact ⟨by omega, fun e he => h2 e (by simp [he])⟩
theorem least_gt {l : List Ent} {z : Int} : z < leastN l ↔ z < 1000000000000 ∧ ∀ e ∈ l, z < e.seq := foldmin_lt
theorem below_iff {l m : List Ent} (hl : ∀ e ∈ l, 0 ≤ e.seq) : idxF (belowP1 (belowM m)) l < 0 ↔ ∀ e ∈ l, ∀ x ∈ m, x.seq < e.seq := by
  rw [idx_neg]
  constructor
  · intro h e he x hx
    have := h e he
    simp only [belowP1, decide_eq_false_iff_not] at this
    exact (belowM_lt (hl e he)).1 (by omega) x hx
  · intro h e he
    have := (belowM_lt (l := m) (hl e he)).2 (h e he)
    simp only [belowP1, decide_eq_false_iff_not]
    omega
theorem belowR_iff {z : Int} {rs : RunL} : BelowR z rs rs.length ↔ ∀ x ∈ ents rs, x.seq < z := by
  constructor
  · intro h x hx
    simp only [ents, entsL, List.mem_flatten, rows, List.mem_map] at hx
    obtain ⟨l, ⟨r, hr, rfl⟩, hl⟩ := hx
    obtain ⟨j, hj⟩ := List.getElem?_of_mem hr
    obtain ⟨k, hk⟩ := List.getElem?_of_mem hl
    exact h j r (List.getElem?_eq_some_iff.1 hj).1 hj k x (List.getElem?_eq_some_iff.1 hk).1 hk
  · intro h j r _ hj k x _ hk
    refine h x ?_
    simp only [ents, entsL, List.mem_flatten, rows, List.mem_map]
    exact ⟨r.2, ⟨r, List.mem_of_getElem? hj, rfl⟩, List.mem_of_getElem? hk⟩
theorem upto_iff {sq : Int} {sn : List Int} (h : snapsOk sn = true) : UpTo sq sn sn.length ↔ ∀ z, sn[sn.length - 1]? = some z → z ≤ sq := by
  constructor
  · intro hu z hz
    exact hu _ z (List.getElem?_eq_some_iff.1 hz).1 hz
  · intro hl j x hj hx
    obtain ⟨z, hz⟩ : ∃ z, sn[sn.length - 1]? = some z := ⟨_, List.getElem?_eq_getElem (by omega)⟩
    have h1 := hl z hz
    by_cases e : j = sn.length - 1
    · subst e; rw [hx] at hz; cases hz; exact h1
    · have := snaps_lt h hx (sn.length - 1) (by omega) hz
      omega
structure ER (d : Eng) : Prop where
  lt : ∀ e ∈ ents (tagT d.runs), e.seq < 1000000000000
theorem ok_iff {d : Eng} (hR : ER d) (hb : dbBase d.seq d.mem (tagT d.runs) d.snaps = true) : IOk d.seq d.mem (tagT d.runs) d.snaps ↔ SOk d.seq d.mem (tagT d.runs) d.snaps := by
  have hk : KOK (totI d) := ent_kok (fun _ he => base_ent hb he)
  have h0 : ∀ e ∈ d.mem, 0 ≤ e.seq := fun e he => (ent_seq (base_ent hb (List.mem_append_left _ he))).1
  have hsn : snapsOk d.snaps = true := by simp only [dbBase, Bool.and_eq_true] at hb; exact hb.2.2.2
  have ha : allS d.mem (tagT d.runs) = mergeL (d.mem :: d.runs) := all_tag _ _
  have hlen : (totI d).length = d.mem.length + (ents (tagT d.runs)).length := totI_len d
  constructor
  · intro h
    have hpw := seqs_dist h.seqs
    have hd : Dist cmpK (totI d) := dist_seqs hpw
    have hm := merge_eq hk hd
    have hp : (allI d).Perm (totI d) := isort_perm _
    refine ⟨by have := h.few; rw [List.length_append] at this; exact this, by rw [ha, hm, hp.length_eq]; exact hlen.symm, ?_, (upto_iff hsn).2 h.last, belowR_iff.2 (fun x hx => least_gt.2 ⟨hR.lt x hx, fun e he => (below_iff h0).1 h.mem e he x hx⟩)⟩
    rw [ha, hm]
    exact seqs_of ((hp.pairwise_iff (fun q => q.symm)).2 hpw) (fun e he => seqs_le h.seqs e (hp.mem_iff.1 he))
  · intro h
    have hfull : (mergeL (d.mem :: d.runs)).length = (entsL (d.mem :: d.runs)).length := by rw [tot_eq, hlen, ← ha]; exact h.all.symm
    have hd : Dist cmpK (totI d) := by have := mergeL_full (d.mem :: d.runs) (by rw [tot_eq]; exact hk) hfull; rwa [tot_eq] at this
    have hm := merge_eq hk hd
    have hp : (allI d).Perm (totI d) := isort_perm _
    have hs := h.seqs
    rw [ha, hm] at hs
    have hpw := (hp.pairwise_iff (fun q => q.symm)).1 (seqs_dist hs)
    refine ⟨by have := h.few; rw [List.length_append]; exact this, seqs_of hpw (fun e he => seqs_le hs e (hp.mem_iff.2 he)), (below_iff h0).2 (fun e he x hx => ?_), (upto_iff hsn).1 h.upto⟩
    exact (least_gt.1 (belowR_iff.1 h.below x hx)).2 e he
/-- The two say the same where the runs' numbers are small. -/
theorem ok_same {d : Eng} (hR : ER d) : okB d.seq d.mem (tagT d.runs) d.snaps = dbOkS d.seq d.mem (tagT d.runs) d.snaps := by
  unfold okB dbOkS
  cases hb : dbBase d.seq d.mem (tagT d.runs) d.snaps with
  | false => rfl
  | true => simp only [Bool.true_and, decide_eq_decide]; exact ok_iff hR hb
theorem okI_eq {d : Eng} (hR : ER d) : okI d = okE d := ok_same hR
end Go.Rl
namespace Go.Rl
structure EN (N : Int) (d : Eng) : Prop where
  pos : 0 ≤ N
  seq : d.seq ≤ N
  mem : ∀ e ∈ d.mem, e.seq ≤ N
  runs : ∀ e ∈ entsL d.runs, e.seq ≤ N
theorem EN.mono {N M : Int} {d : Eng} (h : EN N d) (hm : N ≤ M) : EN M d := ⟨by have := h.pos; omega, by have := h.seq; omega, fun e he => by have := h.mem e he; omega, fun e he => by have := h.runs e he; omega⟩
theorem en_nil {N : Int} (h : 0 ≤ N) : EN N Eng.nil := ⟨h, h, fun _ he => (by cases he), fun _ he => (by cases he)⟩
theorem putS_mem {e : Ent} {r : List Ent × Bool} {x y : Ent} (h : y ∈ (putS e r x).1) : y ∈ r.1 ∨ y = e ∨ y = x := by
  obtain ⟨l, d⟩ := r
  unfold putS at h
  cases d <;> by_cases h1 : 0 ≤ kcmp x e <;> by_cases h2 : kcmp x e = 0 <;> simp [h1, h2] at h <;> first | (exact .inl h) | (rcases h with h | h <;> simp [h]) | (rcases h with h | h | h <;> simp [h]) | simp [h]
theorem putN_mem {l : List Ent} {e y : Ent} : ∀ i, i ≤ l.length → y ∈ (putN l e i).1 → y = e ∨ y ∈ l
  | 0, _, h => by simp [putN] at h
  | i + 1, hi, h => by
    obtain ⟨x, hx⟩ : ∃ x, l[i]? = some x := ⟨_, List.getElem?_eq_getElem (by omega)⟩
    rw [putN_step hx] at h
    rcases putS_mem h with h | h | h
    · exact putN_mem i (by omega) h
    · exact .inl h
    · exact .inr (h ▸ List.mem_of_getElem? hx)
theorem putF_mem {l : List Ent} {e y : Ent} (h : y ∈ putF l e) : y = e ∨ y ∈ l := by
  unfold putF at h
  split at h
  · exact putN_mem _ (Nat.le_refl _) h
  · rcases List.mem_append.1 h with h | h
    · exact putN_mem _ (Nat.le_refl _) h
    · exact .inl (by simpa using h)
theorem puts_mem : ∀ {l out : List Ent} {y : Ent}, y ∈ putsF out l → y ∈ l ∨ y ∈ out
  | [], _, _, h => .inr h
  | e :: l, out, y, h => by
    have h : y ∈ putsF (putF out e) l := h
    rcases puts_mem h with h | h
    · exact .inl (by simp [h])
    · rcases putF_mem h with h | h
      · exact .inl (by simp [h])
      · exact .inr h
theorem mergeL_mem : ∀ {ls : List (List Ent)} {y : Ent}, y ∈ mergeL ls → y ∈ entsL ls
  | [], _, h => by cases h
  | l :: ls, y, h => by
    have h : y ∈ putsF (mergeL ls) l := h
    show y ∈ l ++ entsL ls
    rcases puts_mem h with h | h
    · exact List.mem_append_left _ h
    · exact List.mem_append_right _ (mergeL_mem h)
theorem compC_mem {l : List Ent} {s : List Int} {x : Ent} (h : x ∈ compC l s) : x ∈ l := by
  obtain ⟨_, q, _, _, hq⟩ := compU_mem (fun z hz => by
    obtain ⟨k, h1, _, h3⟩ := needF_bnd (n := l.length) hz
    exact ⟨k, h1, h3⟩) (Nat.le_refl _) h
  exact List.mem_of_getElem? hq
theorem flush_en {N : Int} {d : Eng} (h : EN N d) : EN N (flushS d).1 := by
  unfold flushS
  split
  · split
    · exact h
    · split
      · exact h
      · exact ⟨h.pos, h.seq, fun _ he => (by cases he), fun e he => (List.mem_append.1 (show e ∈ d.mem ++ entsL d.runs from he)).elim (h.mem e) (h.runs e)⟩
  · exact en_nil h.pos
theorem snap_en {N : Int} {d : Eng} (h : EN N d) : EN N (snapS d).1 := by
  unfold snapS
  split
  · split
    · exact h
    · split
      · exact h
      · exact ⟨h.pos, h.seq, h.mem, h.runs⟩
  · exact en_nil h.pos
theorem free_en {N a : Int} {d : Eng} (h : EN N d) : EN N (freeS d a).1 := by
  unfold freeS
  split
  · exact ⟨h.pos, h.seq, h.mem, h.runs⟩
  · exact en_nil h.pos
theorem compact_en {N : Int} {d : Eng} (h : EN N d) : EN N (compactS d).1 := by
  unfold compactS
  split
  · split
    · exact h
    · refine ⟨h.pos, h.seq, h.mem, fun e he => h.runs e ?_⟩
      have he : e ∈ entsL (if 0 < (compC (mergeL d.runs) d.snaps).length then [compC (mergeL d.runs) d.snaps] else []) := he
      split at he
      · simp only [entsL, List.flatten_cons, List.flatten_nil, List.append_nil] at he
        exact mergeL_mem (compC_mem he)
      · cases he
  · exact en_nil h.pos
theorem write_en {N : Int} {d : Eng} {ops : List Bop} (h : EN N d) (hn : ops.length ≤ 100) : EN (N + 100) (writeS d ops).1 := by
  have hp := h.pos
  have hs := h.seq
  unfold writeS
  split
  · split
    · exact h.mono (by omega)
    · split
      · exact h.mono (by omega)
      · refine ⟨by omega, by show d.seq + (ops.length : Int) ≤ N + 100; omega, fun e he => ?_, fun e he => by have := h.runs e he; omega⟩
        rcases puts_mem he with he | he
        · have := batch_ge he
          omega
        · have := h.mem e he
          omega
  · exact en_nil (by omega)
theorem dbStep_en {N : Int} {bs : List Nat} {x : Eng × Nat} (h : EN N x.1) : EN (N + 100) (dbStep bs x).1 := by
  have hk : EN (N + 100) x.1 := h.mono (by omega)
  unfold dbStep
  split
  · dsimp only
    split
    · exact (flush_en h).mono (by omega)
    · exact hk
  split
  · dsimp only
    split
    · exact (snap_en h).mono (by omega)
    · exact hk
  split
  · dsimp only
    split
    · exact (compact_en h).mono (by omega)
    · exact hk
  split
  · split
    · dsimp only
      split
      · exact (free_en h).mono (by omega)
      · exact hk
    · exact hk
  · dsimp only
    split
    · exact write_en h (by have := opsV_len bs (belowP bs x.2 7); omega)
    · exact hk
theorem dbLoop_en {bs : List Nat} : ∀ (i : Nat) (x : Eng × Nat) {N : Int}, EN N x.1 → EN (N + 100 * i) (dbLoop bs i x).1
  | 0, _, _, h => h.mono (by omega)
  | i + 1, x, N, h => (dbLoop_en i (dbStep bs x) (dbStep_en h)).mono (by omega)
theorem below_lt9 (bs : List Nat) (p : Nat) : belowV bs p 9 ≤ 9 := by
  unfold belowV
  rw [if_neg (by decide), if_pos (by decide)]
  omega
theorem dbV_er (bs : List Nat) (p : Nat) : ER (dbV bs p) := by
  have h : EN (0 + 100 * (belowV bs p 9 : Nat)) (dbRun bs p).1 := dbLoop_en _ (Eng.nil, belowP bs p 9) (en_nil (Int.le_refl 0))
  have h9 := below_lt9 bs p
  have hr : (dbV bs p).runs = (dbRun bs p).1.runs := by
    unfold dbV dbOff dbAdd
    split <;> split <;> rfl
  refine ⟨fun e he => ?_⟩
  rw [ents_tag, hr] at he
  have := h.runs e he
  omega
end Go.Rl
namespace Go.Rl
variable {d : Eng} {u : ByteArray} {a p : Int} {l : List Ent}
theorem ask_eq (h : askOk d a = true) : askI d a = askSeq d a := by
  unfold askI askSeq
  by_cases h1 : a = -1
  · rw [if_pos h1, if_pos h1]
  · rw [if_neg h1, if_neg h1]
    have : atI d.snaps a = true := by simpa [askOk, h1] using h
    rw [if_pos this]
theorem get_same (hR : ER d) : getI d u a = getS d u a := by
  unfold getI getS
  rw [okI_eq hR]
  split
  · rename_i ho
    split
    · rename_i ha
      have hb : okB d.seq d.mem (tagT d.runs) d.snaps = true := by rw [ok_same hR]; exact ho
      rw [all_eq hb, ask_eq ha]
    · rfl
  · rfl
theorem all_strict (h : okB d.seq d.mem (tagT d.runs) d.snaps = true) : Strict (allI d) := strict_of ((isort_srt cmpK_ok (ok_dist h)).imp lessE_of)
theorem vis_sorted (hl : Strict l) : (visF l p).Pairwise (fun x y => ltB x.user y.user = true) := visN_sorted (users_sorted hl)
theorem vis_got {x : Pr} (hx : x ∈ visF l p) : getC1 (lookE l x.user p) = 1 ∧ getC2 (lookE l x.user p) = x.value := by
  obtain ⟨_, e, ho, hk, hv⟩ := visN_mem.1 hx
  rw [ho]
  exact ⟨by simp [getC1, hk], by simp [getC2, hk, hv]⟩
theorem vis_of (hl : Strict l) (h : getC1 (lookE l u p) = 1) : (⟨u, getC2 (lookE l u p)⟩ : Pr) ∈ visF l p := by
  cases ho : lookE l u p with
  | none => rw [ho] at h; simp [getC1] at h
  | some e =>
    rw [ho] at h
    have hk : ¬ e.kind = 0 := fun q => by simp [getC1, q] at h
    have hi := (lookE_iff hl).1 ho
    refine visN_mem.2 ⟨user_mem.2 ⟨e, hi.1, ?_⟩, e, ho, hk, by simp [getC2, hk]⟩
    have := hi.2.1
    simp only [asOf, Bool.and_eq_true, decide_eq_true_eq] at this
    exact this.1
theorem bound_in {s : List Pr} {x : Pr} : x ∈ boundF u ⟨#[]⟩ s ↔ x ∈ s ∧ ltB x.user u = false := by
  simp [boundF, outP, List.mem_filter]
theorem bound_head {s : List Pr} (hs : s.Pairwise (fun x y => ltB x.user y.user = true)) {v : ByteArray} (hx : (⟨u, v⟩ : Pr) ∈ s) : (boundF u ⟨#[]⟩ s)[0]? = some ⟨u, v⟩ := by
  have h1 : (⟨u, v⟩ : Pr) ∈ boundF u ⟨#[]⟩ s := bound_in.2 ⟨hx, ltB_irr u⟩
  have h2 : (boundF u ⟨#[]⟩ s).Pairwise (fun x y => ltB x.user y.user = true) := hs.filter _
  have h3 : ∀ x ∈ boundF u ⟨#[]⟩ s, ltB x.user u = false := fun x hx => (bound_in.1 hx).2
  generalize boundF u ⟨#[]⟩ s = z at h1 h2 h3
  cases z with
  | nil => cases h1
  | cons y z =>
    rcases List.mem_cons.1 h1 with e | e
    · rw [e]; rfl
    · have h4 := (List.pairwise_cons.1 h2).1 _ e
      have h5 := h3 y (by simp)
      rw [h5] at h4
      cases h4
theorem looked_law (hR : ER d) (u : ByteArray) (a : Int) :
    ((getS d u a).1 = 3 ∧ (scanI d a u ⟨#[]⟩).2 = 1) ∨ ((getS d u a).1 = 3 ∧ (scanI d a u ⟨#[]⟩).2 = 4) ∨
    ((getS d u a).1 = 0 ∧ (scanI d a u ⟨#[]⟩).2 = 0 ∧ (scanI d a u ⟨#[]⟩).1.length = 0) ∨
    ((getS d u a).1 = 0 ∧ (scanI d a u ⟨#[]⟩).2 = 0 ∧ ∃ x, (scanI d a u ⟨#[]⟩).1[0]? = some x ∧ x.user ≠ u) ∨
    ((getS d u a).1 = 1 ∧ (scanI d a u ⟨#[]⟩).2 = 0 ∧ (scanI d a u ⟨#[]⟩).1[0]? = some ⟨u, (getS d u a).2⟩) := by
  rw [← get_same hR]
  unfold getI scanI
  by_cases ho : okI d = true
  · rw [if_pos ho, if_pos ho]
    by_cases ha : askOk d a = true
    · rw [if_pos ha, if_pos ha]
      have hb : okB d.seq d.mem (tagT d.runs) d.snaps = true := ho
      have hst := all_strict hb
      refine .inr (.inr ?_)
      by_cases hg : getC1 (lookE (allI d) u (askI d a)) = 1
      · rw [getE_yes hg]
        exact .inr (.inr ⟨rfl, rfl, bound_head (vis_sorted hst) (vis_of hst hg)⟩)
      · rw [getE_no hg]
        rcases hx : (boundF u ⟨#[]⟩ (visF (allI d) (askI d a)))[0]? with _ | x
        · exact .inl ⟨rfl, rfl, by rw [List.getElem?_eq_none_iff] at hx; exact Nat.le_zero.1 hx⟩
        · refine .inr (.inl ⟨rfl, rfl, x, by first | exact hx | rfl, fun e => hg ?_⟩)
          have := vis_got (bound_in.1 (List.mem_of_getElem? hx)).1
          rw [← e]
          exact this.1
    · rw [if_neg ha, if_neg ha]
      exact .inr (.inl ⟨rfl, rfl⟩)
  · rw [if_neg ho, if_neg ho]
    exact .inl ⟨rfl, rfl⟩
end Go.Rl
namespace Go.Rl
open Go.Proofs
theorem en65 : ∀ vs w, (callFunc 65 vs).run Try.prog w = .ok (.enter 65 vs) w := enters Try.func65 (by decide) rfl
theorem en51 : ∀ vs w, (callFunc 51 vs).run Try.prog w = .ok (.enter 51 vs) w := enters Try.func51 (by decide) rfl
theorem en50 : ∀ vs w, (callFunc 50 vs).run Try.prog w = .ok (.enter 50 vs) w := enters Try.func50 (by decide) rfl
theorem en61 : ∀ vs w, (callFunc 61 vs).run Try.prog w = .ok (.enter 61 vs) w := enters Try.func61 (by decide) rfl
theorem getI_same (d : Eng) (hD : EB d) (hR : ER d) (u : ByteArray) (a : Int) : Con Try.prog 51 [.agg [.v (.int .i64 d.seq), .sl false 4 (pvE d.mem), .sl false 1 (pvR (tagT d.runs)), .sl false 1 (pvI d.snaps)], .one (.v (.string u)), .one (.v (.int .i64 a))] [] [.one (.v (.int .i64 (getS d u a).1)), .one (.v (.string (getS d u a).2))] := by
  have h := getI_con d hD u a
  rw [get_same hR] at h
  exact h
set_option maxRecDepth 1000000 in
set_option maxHeartbeats 2000000 in
theorem law_looked_con {γ : Gho} {cv : Value} {bs : List Nat} (hc : CodeAt γ cv bs) : ConG γ Try.prog 14 [.one (PV.v (cv))] [] [.one (.v (.bool true))] := by
  refine con_of_tr Try.func14 rfl rfl rfl rfl ?_
  refine tr_seq ?_
  refine tr_region rfl (.run [] [] rfl (st_assign rfl) .nil) ?_
  refine tr_seq ?_
  refine tr_seq ?_
  refine tr_region rfl (.run [] [] rfl (st_move rfl) (.run [1400] [] rfl (st_callG (.inr rfl) rfl 1400 (X := []) en27 rfl (.val nod) (.cons (.one (.bor .v)) .nil) (by decide) all_nil .nil (big_con hc) rfl rfl (nle rfl)) .nil)) ?_
  refine tr_if (t := decide (1048576 < (bs.length : Int))) rfl (fun h1 => ?_) (fun h1 => ?_)
  · skip
    replace h1 := of_decide_eq_true h1
    refine tr_seq ?_
    refine tr_region rfl (.run [] [] rfl (st_assign rfl) .nil) ?_
    refine tr_ret ?_
    exact ends [_] [] (.cons (.tmp rfl) .nil) (.cons (.one .v (.v _)) .nil) (by decide) trivial
  · skip
    replace h1 := of_decide_eq_false h1
    refine tr_skip ?_
    refine tr_seq ?_
    refine tr_region rfl (.run [] [] rfl (st_move rfl) (.run [1700, 1701, 1702, 1703, 1704, 1705] [] rfl (st_callG (.inr rfl) rfl 1700 (X := []) en65 rfl (.val nod) (.cons (.one (.bor .v)) .nil) (by decide) all_nil .nil (drawDbGet_con hc (by omega)) rfl rfl (nle rfl)) (.run [] [] rfl (st_move rfl) (.run [] [] rfl (st_extract rfl rfl rfl) (.run [] [] rfl (st_extract rfl rfl rfl) (.run [] [] rfl (st_extract rfl rfl rfl) (.run [] [3] rfl (st_allocZ rfl 3 inf56 rfl (by decide) rfl (by decide)) (.run [] [] rfl (st_store_box rfl rfl rfl rfl rfl Try.sizeOf56 rfl (nle rfl)) (.run [] [] rfl (st_assign rfl) (.run [] [] rfl (st_assign rfl) .nil)))))))))) ?_
    refine tr_seq ?_
    have hD := dbV_eb bs 0
    have hR := dbV_er bs 0
    generalize atV bs (dbV bs 0).snaps (userP bs (dbP bs 0)) = a
    generalize userV bs (dbP bs 0) = u
    generalize dbV bs 0 = d at hD hR ⊢
    have hl1 := pvE_length d.mem
    have hl2 := pvR_length (tagT d.runs)
    have hl3 := pvI_length d.snaps
    refine tr_wk (s' := mk [(3, .ptr 3 0), (4, .p none (.v (.string u))), (5, .p none (.v (.int .i64 a)))] [(3, [.p none (.v (.int .i64 d.seq)), .sl 1701 0 ((pvE (d.mem)).length), .sl 1702 0 ((pvR (tagT d.runs)).length), .sl 1703 0 ((pvI (d.snaps)).length)])] [(1701, 4, pvE (d.mem)), (1702, 1, pvR (tagT d.runs)), (1703, 1, pvI (d.snaps))]) ?_ ?_
    · exact wk_mk ⟨rfl, ⟨rfl, ⟨rfl, trivial⟩⟩⟩ ⟨rfl, trivial⟩ ⟨rfl, ⟨rfl, ⟨rfl, trivial⟩⟩⟩ rfl
    refine tr_region rfl (.run [] [] rfl (st_load_box rfl rfl rfl Try.isAgg56 Try.sizeOf56 (nle rfl)) (.run [] [] rfl (st_move rfl) (.run [] [] rfl (st_move rfl) (.run [1701, 1702, 1703, 2500, 2501] [] rfl (st_call rfl 2500 (X := []) en51 rfl (.val nod) (.cons (.agg (.cons (.bor .v) (.cons (.bor (.all (len := (pvE (d.mem)).length) (xs := pvE (d.mem)) rfl rfl (by decide))) (.cons (.bor (.all (len := (pvR (tagT d.runs)).length) (xs := pvR (tagT d.runs)) rfl rfl (by decide))) (.cons (.bor (.all (len := (pvI (d.snaps)).length) (xs := pvI (d.snaps)) rfl rfl (by decide))) .nil))))) (.cons (.one (.bor .v)) (.cons (.one (.bor .v)) .nil))) (by decide) all_nil .nil (getI_same d hD hR u a) rfl rfl (nle rfl)) (.run [] [] rfl (st_move rfl) (.run [] [] rfl (st_extract rfl rfl rfl) (.run [] [] rfl (st_extract rfl rfl rfl) (.run [] [] rfl (st_assign rfl) (.run [] [] rfl (st_assign rfl) .nil))))))))) ?_
    refine tr_seq ?_
    refine tr_wk (s' := mk [(3, .ptr 3 0), (4, .p none (.v (.string u))), (5, .p none (.v (.int .i64 a))), (6, .p none (.v (.int .i64 ((getS d u a).1)))), (7, .p none (.v (.string ((getS d u a).2))))] [(3, [.p none (.v (.int .i64 d.seq)), .sl 1701 0 ((pvE (d.mem)).length), .sl 1702 0 ((pvR (tagT d.runs)).length), .sl 1703 0 ((pvI (d.snaps)).length)])] [(1701, 4, pvE (d.mem)), (1702, 1, pvR (tagT d.runs)), (1703, 1, pvI (d.snaps))]) ?_ ?_
    · exact wk_mk ⟨rfl, ⟨rfl, ⟨rfl, ⟨rfl, ⟨rfl, trivial⟩⟩⟩⟩⟩ ⟨rfl, trivial⟩ ⟨rfl, ⟨rfl, ⟨rfl, trivial⟩⟩⟩ rfl
    refine tr_region rfl (.run [] [] rfl (st_load_box rfl rfl rfl Try.isAgg56 Try.sizeOf56 (nle rfl)) (.run [] [] rfl (st_move rfl) (.run [] [] rfl (st_move rfl) (.run [1701, 1702, 1703, 3200, 3201] [] rfl (st_call rfl 3200 (X := []) en50 rfl (.val nod) (.cons (.agg (.cons (.bor .v) (.cons (.bor (.all (len := (pvE (d.mem)).length) (xs := pvE (d.mem)) rfl rfl (by decide))) (.cons (.bor (.all (len := (pvR (tagT d.runs)).length) (xs := pvR (tagT d.runs)) rfl rfl (by decide))) (.cons (.bor (.all (len := (pvI (d.snaps)).length) (xs := pvI (d.snaps)) rfl rfl (by decide))) .nil))))) (.cons (.one (.bor .v)) (.cons (.one (.bor .v)) .nil))) (by decide) all_nil .nil (getS_con d hD u a) rfl rfl (nle rfl)) (.run [] [] rfl (st_move rfl) (.run [] [] rfl (st_extract rfl rfl rfl) (.run [] [] rfl (st_extract rfl rfl rfl) (.run [] [] rfl (st_assign rfl) (.run [] [] rfl (st_assign rfl) .nil))))))))) ?_
    refine tr_seq ?_
    refine tr_wk (s' := mk [(3, .ptr 3 0), (4, .p none (.v (.string u))), (5, .p none (.v (.int .i64 a))), (6, .p none (.v (.int .i64 ((getS d u a).1)))), (7, .p none (.v (.string ((getS d u a).2)))), (8, .p none (.v (.int .i64 ((getS d u a).1)))), (9, .p none (.v (.string ((getS d u a).2))))] [(3, [.p none (.v (.int .i64 d.seq)), .sl 1701 0 ((pvE (d.mem)).length), .sl 1702 0 ((pvR (tagT d.runs)).length), .sl 1703 0 ((pvI (d.snaps)).length)])] [(1701, 4, pvE (d.mem)), (1702, 1, pvR (tagT d.runs)), (1703, 1, pvI (d.snaps))]) ?_ ?_
    · exact wk_mk ⟨rfl, ⟨rfl, ⟨rfl, ⟨rfl, ⟨rfl, ⟨rfl, ⟨rfl, trivial⟩⟩⟩⟩⟩⟩⟩ ⟨rfl, trivial⟩ ⟨rfl, ⟨rfl, ⟨rfl, trivial⟩⟩⟩ rfl
    refine tr_region rfl (.run [] [] rfl (st_load_box rfl rfl rfl Try.isAgg56 Try.sizeOf56 (nle rfl)) (.run [] [] rfl (st_move rfl) (.run [] [] rfl (st_move rfl) (.run [1701, 1702, 1703, 3900, 3901] [] rfl (st_call rfl 3900 (X := []) en61 rfl (.val nod) (.cons (.agg (.cons (.bor .v) (.cons (.bor (.all (len := (pvE (d.mem)).length) (xs := pvE (d.mem)) rfl rfl (by decide))) (.cons (.bor (.all (len := (pvR (tagT d.runs)).length) (xs := pvR (tagT d.runs)) rfl rfl (by decide))) (.cons (.bor (.all (len := (pvI (d.snaps)).length) (xs := pvI (d.snaps)) rfl rfl (by decide))) .nil))))) (.cons (.one (.bor .v)) (.cons (.one (.bor .v)) (.cons (.one (.bor .v)) .nil)))) (by decide) all_nil .nil (scanI_con d hD a u ⟨#[]⟩) rfl rfl (nle rfl)) (.run [] [] rfl (st_move rfl) (.run [] [] rfl (st_extract rfl rfl rfl) (.run [] [] rfl (st_extract rfl rfl rfl) (.run [] [] rfl (st_assign rfl) (.run [] [] rfl (st_assign rfl) .nil))))))))) ?_
    refine tr_seq ?_
    refine tr_seq ?_
    rcases looked_law hR u a with ⟨h1, h2⟩ | ⟨h1, h2⟩ | ⟨h1, h2, hz⟩ | ⟨h1, h2, x, hx, hne⟩ | ⟨h1, h2, hx⟩
    · skip
      refine tr_wk (s' := mk [(4, .p none (.v (.string u))), (6, .p none (.v (.int .i64 3))), (7, .p none (.v (.string ((getS d u a).2)))), (8, .p none (.v (.int .i64 3))), (9, .p none (.v (.string ((getS d u a).2)))), (10, .sl 3900 0 ((pvP ((scanI d a u ⟨#[]⟩).1)).length)), (11, .p none (.v (.int .i64 1)))] [] [(3900, 2, pvP ((scanI d a u ⟨#[]⟩).1))]) ?_ ?_
      · exact wk_mk ⟨rfl, ⟨(int_eq h1), ⟨rfl, ⟨(int_eq h1), ⟨rfl, ⟨rfl, ⟨(int_eq h2), trivial⟩⟩⟩⟩⟩⟩⟩ trivial ⟨rfl, trivial⟩ rfl
      refine tr_region rfl (.run [] [] rfl (st_move rfl) (.run [] [] rfl (st_move rfl) (.run [] [] rfl (st_eq (st_neq rfl rfl rfl) (bool_eq (congrArg Bool.not (decide_eq_true (by simp))))) (.run [] [] rfl (st_move rfl) (.run [] [] rfl (st_move rfl) (.run [] [] rfl (st_move rfl) (.run [] [] rfl (st_eq (st_sneq rfl rfl rfl) (bool_eq (congrArg Bool.not (decide_eq_true (by simp))))) (.run [] [] rfl (st_pickF rfl rfl) (.run [] [] rfl (st_move rfl) (.run [] [] rfl (st_move rfl) (.run [] [] rfl (st_eq (st_eql rfl rfl rfl) (bool_eq (decide_eq_true (by simp)))) (.run [] [] rfl (st_move rfl) (.run [] [] rfl (st_eq (st_neq rfl rfl rfl) (bool_eq (congrArg Bool.not (decide_eq_false (by omega))))) (.run [] [] rfl (st_eq (st_bneq rfl rfl rfl Try.underlying4) (bool_eq (show (!(true == true)) = false from by simp))) (.run [] [] rfl (st_pickF rfl rfl) .nil))))))))))))))) ?_
      refine tr_if (t := false) rfl (fun h => nomatch h) (fun _ => ?_)
      refine tr_skip ?_
      refine tr_seq ?_
      refine tr_seq ?_
      refine tr_wk (s' := mk [(4, .p none (.v (.string u))), (6, .p none (.v (.int .i64 3))), (7, .p none (.v (.string ((getS d u a).2)))), (10, .sl 3900 0 ((pvP ((scanI d a u ⟨#[]⟩).1)).length))] [] [(3900, 2, pvP ((scanI d a u ⟨#[]⟩).1))]) ?_ ?_
      · exact wk_mk ⟨rfl, ⟨rfl, ⟨rfl, ⟨rfl, trivial⟩⟩⟩⟩ trivial ⟨rfl, trivial⟩ rfl
      refine tr_region rfl (.run [] [] rfl (st_move rfl) (.run [] [] rfl (st_eq (st_eql rfl rfl rfl) (bool_eq (decide_eq_true (by simp)))) .nil)) ?_
      refine tr_if (t := true) rfl (fun _ => ?_) (fun h => nomatch h)
      refine tr_seq ?_
      refine tr_region rfl (.run [] [] rfl (st_assign rfl) .nil) ?_
      refine tr_ret ?_
      exact ends [_] [] (.cons (.tmp rfl) .nil) (.cons (.one .v (.v _)) .nil) (by decide) trivial
    · skip
      refine tr_wk (s' := mk [(4, .p none (.v (.string u))), (6, .p none (.v (.int .i64 3))), (7, .p none (.v (.string ((getS d u a).2)))), (8, .p none (.v (.int .i64 3))), (9, .p none (.v (.string ((getS d u a).2)))), (10, .sl 3900 0 ((pvP ((scanI d a u ⟨#[]⟩).1)).length)), (11, .p none (.v (.int .i64 4)))] [] [(3900, 2, pvP ((scanI d a u ⟨#[]⟩).1))]) ?_ ?_
      · exact wk_mk ⟨rfl, ⟨(int_eq h1), ⟨rfl, ⟨(int_eq h1), ⟨rfl, ⟨rfl, ⟨(int_eq h2), trivial⟩⟩⟩⟩⟩⟩⟩ trivial ⟨rfl, trivial⟩ rfl
      refine tr_region rfl (.run [] [] rfl (st_move rfl) (.run [] [] rfl (st_move rfl) (.run [] [] rfl (st_eq (st_neq rfl rfl rfl) (bool_eq (congrArg Bool.not (decide_eq_true (by simp))))) (.run [] [] rfl (st_move rfl) (.run [] [] rfl (st_move rfl) (.run [] [] rfl (st_move rfl) (.run [] [] rfl (st_eq (st_sneq rfl rfl rfl) (bool_eq (congrArg Bool.not (decide_eq_true (by simp))))) (.run [] [] rfl (st_pickF rfl rfl) (.run [] [] rfl (st_move rfl) (.run [] [] rfl (st_move rfl) (.run [] [] rfl (st_eq (st_eql rfl rfl rfl) (bool_eq (decide_eq_true (by simp)))) (.run [] [] rfl (st_move rfl) (.run [] [] rfl (st_eq (st_neq rfl rfl rfl) (bool_eq (congrArg Bool.not (decide_eq_false (by omega))))) (.run [] [] rfl (st_eq (st_bneq rfl rfl rfl Try.underlying4) (bool_eq (show (!(true == true)) = false from by simp))) (.run [] [] rfl (st_pickF rfl rfl) .nil))))))))))))))) ?_
      refine tr_if (t := false) rfl (fun h => nomatch h) (fun _ => ?_)
      refine tr_skip ?_
      refine tr_seq ?_
      refine tr_seq ?_
      refine tr_wk (s' := mk [(4, .p none (.v (.string u))), (6, .p none (.v (.int .i64 3))), (7, .p none (.v (.string ((getS d u a).2)))), (10, .sl 3900 0 ((pvP ((scanI d a u ⟨#[]⟩).1)).length))] [] [(3900, 2, pvP ((scanI d a u ⟨#[]⟩).1))]) ?_ ?_
      · exact wk_mk ⟨rfl, ⟨rfl, ⟨rfl, ⟨rfl, trivial⟩⟩⟩⟩ trivial ⟨rfl, trivial⟩ rfl
      refine tr_region rfl (.run [] [] rfl (st_move rfl) (.run [] [] rfl (st_eq (st_eql rfl rfl rfl) (bool_eq (decide_eq_true (by simp)))) .nil)) ?_
      refine tr_if (t := true) rfl (fun _ => ?_) (fun h => nomatch h)
      refine tr_seq ?_
      refine tr_region rfl (.run [] [] rfl (st_assign rfl) .nil) ?_
      refine tr_ret ?_
      exact ends [_] [] (.cons (.tmp rfl) .nil) (.cons (.one .v (.v _)) .nil) (by decide) trivial
    · skip
      have hvl := pvP_length (scanI d a u ⟨#[]⟩).1
      refine tr_wk (s' := mk [(4, .p none (.v (.string u))), (6, .p none (.v (.int .i64 0))), (7, .p none (.v (.string ((getS d u a).2)))), (8, .p none (.v (.int .i64 0))), (9, .p none (.v (.string ((getS d u a).2)))), (10, .sl 3900 0 ((pvP ((scanI d a u ⟨#[]⟩).1)).length)), (11, .p none (.v (.int .i64 0)))] [] [(3900, 2, pvP ((scanI d a u ⟨#[]⟩).1))]) ?_ ?_
      · exact wk_mk ⟨rfl, ⟨(int_eq h1), ⟨rfl, ⟨(int_eq h1), ⟨rfl, ⟨rfl, ⟨(int_eq h2), trivial⟩⟩⟩⟩⟩⟩⟩ trivial ⟨rfl, trivial⟩ rfl
      refine tr_region rfl (.run [] [] rfl (st_move rfl) (.run [] [] rfl (st_move rfl) (.run [] [] rfl (st_eq (st_neq rfl rfl rfl) (bool_eq (congrArg Bool.not (decide_eq_true (by simp))))) (.run [] [] rfl (st_move rfl) (.run [] [] rfl (st_move rfl) (.run [] [] rfl (st_move rfl) (.run [] [] rfl (st_eq (st_sneq rfl rfl rfl) (bool_eq (congrArg Bool.not (decide_eq_true (by simp))))) (.run [] [] rfl (st_pickF rfl rfl) (.run [] [] rfl (st_move rfl) (.run [] [] rfl (st_move rfl) (.run [] [] rfl (st_eq (st_eql rfl rfl rfl) (bool_eq (decide_eq_false (by omega)))) (.run [] [] rfl (st_move rfl) (.run [] [] rfl (st_eq (st_neq rfl rfl rfl) (bool_eq (congrArg Bool.not (decide_eq_true (by simp))))) (.run [] [] rfl (st_eq (st_bneq rfl rfl rfl Try.underlying4) (bool_eq (show (!(false == false)) = false from by simp))) (.run [] [] rfl (st_pickF rfl rfl) .nil))))))))))))))) ?_
      refine tr_if (t := false) rfl (fun h => nomatch h) (fun _ => ?_)
      refine tr_skip ?_
      refine tr_seq ?_
      refine tr_seq ?_
      refine tr_wk (s' := mk [(4, .p none (.v (.string u))), (6, .p none (.v (.int .i64 0))), (7, .p none (.v (.string ((getS d u a).2)))), (10, .sl 3900 0 ((pvP ((scanI d a u ⟨#[]⟩).1)).length))] [] [(3900, 2, pvP ((scanI d a u ⟨#[]⟩).1))]) ?_ ?_
      · exact wk_mk ⟨rfl, ⟨rfl, ⟨rfl, ⟨rfl, trivial⟩⟩⟩⟩ trivial ⟨rfl, trivial⟩ rfl
      refine tr_region rfl (.run [] [] rfl (st_move rfl) (.run [] [] rfl (st_eq (st_eql rfl rfl rfl) (bool_eq (decide_eq_false (by omega)))) .nil)) ?_
      refine tr_if (t := false) rfl (fun h => nomatch h) (fun _ => ?_)
      refine tr_skip ?_
      refine tr_seq ?_
      rcases bfc (decide (0 < ((pvP ((scanI d a u ⟨#[]⟩).1)).length : Int))) with h2 | h2
      · have h2' := h2
        replace h2' := of_decide_eq_false h2'
        refine tr_region rfl (.run [] [] rfl (st_move rfl) (.run [] [] rfl (st_len_row rfl rfl Try.underlying47) (.run [] [] rfl (st_eq (st_gtr rfl rfl rfl) (bool_eq h2)) (.run [] [] rfl (st_move rfl) (.not rfl (.not rfl (.not rfl (.not rfl (.not rfl (.not rfl (.run [] [] rfl (st_pickF rfl rfl) (.run [] [] rfl (st_assign rfl) .nil)))))))))))) ?_
        refine tr_seq ?_
        refine tr_wk (s' := mk [(6, .p none (.v (.int .i64 0))), (7, .p none (.v (.string ((getS d u a).2)))), (10, .sl 3900 0 ((pvP ((scanI d a u ⟨#[]⟩).1)).length)), (12, .p none (.v (.bool false)))] [] [(3900, 2, pvP ((scanI d a u ⟨#[]⟩).1))]) ?_ ?_
        · exact wk_mk ⟨rfl, ⟨rfl, ⟨rfl, ⟨rfl, trivial⟩⟩⟩⟩ trivial ⟨rfl, trivial⟩ rfl
        refine tr_region rfl (.run [] [] rfl (st_move rfl) (.run [] [] rfl (st_move rfl) (.run [] [] rfl (st_eq (st_eql rfl rfl rfl) (bool_eq (decide_eq_false (by omega)))) (.run [] [] rfl (st_eq (st_beql rfl rfl rfl Try.underlying4) (bool_eq (show (false == false) = true from by simp))) (.run [] [] rfl (st_move rfl) (.run [] [] rfl (st_move rfl) (.run [] [] rfl (st_not (b := false) rfl rfl) (.run [] [] rfl (st_move rfl) (.not rfl (.not rfl (.not rfl (.not rfl (.not rfl (.not rfl (.run [] [] rfl (st_pickT rfl rfl) (.run [] [] rfl (st_pickT rfl rfl) (.run [] [] rfl (st_assign rfl) .nil))))))))))))))))) ?_
        refine tr_ret ?_
        exact ends [_] [] (.cons (.tmp rfl) .nil) (.cons (.one .v (.v _)) .nil) (by decide) trivial
      · have h2' := h2
        replace h2' := of_decide_eq_true h2'
        omega
    · skip
      have hvl := pvP_length (scanI d a u ⟨#[]⟩).1
      have hxl := (List.getElem?_eq_some_iff.1 hx).1
      refine tr_wk (s' := mk [(4, .p none (.v (.string u))), (6, .p none (.v (.int .i64 0))), (7, .p none (.v (.string ((getS d u a).2)))), (8, .p none (.v (.int .i64 0))), (9, .p none (.v (.string ((getS d u a).2)))), (10, .sl 3900 0 ((pvP ((scanI d a u ⟨#[]⟩).1)).length)), (11, .p none (.v (.int .i64 0)))] [] [(3900, 2, pvP ((scanI d a u ⟨#[]⟩).1))]) ?_ ?_
      · exact wk_mk ⟨rfl, ⟨(int_eq h1), ⟨rfl, ⟨(int_eq h1), ⟨rfl, ⟨rfl, ⟨(int_eq h2), trivial⟩⟩⟩⟩⟩⟩⟩ trivial ⟨rfl, trivial⟩ rfl
      refine tr_region rfl (.run [] [] rfl (st_move rfl) (.run [] [] rfl (st_move rfl) (.run [] [] rfl (st_eq (st_neq rfl rfl rfl) (bool_eq (congrArg Bool.not (decide_eq_true (by simp))))) (.run [] [] rfl (st_move rfl) (.run [] [] rfl (st_move rfl) (.run [] [] rfl (st_move rfl) (.run [] [] rfl (st_eq (st_sneq rfl rfl rfl) (bool_eq (congrArg Bool.not (decide_eq_true (by simp))))) (.run [] [] rfl (st_pickF rfl rfl) (.run [] [] rfl (st_move rfl) (.run [] [] rfl (st_move rfl) (.run [] [] rfl (st_eq (st_eql rfl rfl rfl) (bool_eq (decide_eq_false (by omega)))) (.run [] [] rfl (st_move rfl) (.run [] [] rfl (st_eq (st_neq rfl rfl rfl) (bool_eq (congrArg Bool.not (decide_eq_true (by simp))))) (.run [] [] rfl (st_eq (st_bneq rfl rfl rfl Try.underlying4) (bool_eq (show (!(false == false)) = false from by simp))) (.run [] [] rfl (st_pickF rfl rfl) .nil))))))))))))))) ?_
      refine tr_if (t := false) rfl (fun h => nomatch h) (fun _ => ?_)
      refine tr_skip ?_
      refine tr_seq ?_
      refine tr_seq ?_
      refine tr_wk (s' := mk [(4, .p none (.v (.string u))), (6, .p none (.v (.int .i64 0))), (7, .p none (.v (.string ((getS d u a).2)))), (10, .sl 3900 0 ((pvP ((scanI d a u ⟨#[]⟩).1)).length))] [] [(3900, 2, pvP ((scanI d a u ⟨#[]⟩).1))]) ?_ ?_
      · exact wk_mk ⟨rfl, ⟨rfl, ⟨rfl, ⟨rfl, trivial⟩⟩⟩⟩ trivial ⟨rfl, trivial⟩ rfl
      refine tr_region rfl (.run [] [] rfl (st_move rfl) (.run [] [] rfl (st_eq (st_eql rfl rfl rfl) (bool_eq (decide_eq_false (by omega)))) .nil)) ?_
      refine tr_if (t := false) rfl (fun h => nomatch h) (fun _ => ?_)
      refine tr_skip ?_
      refine tr_seq ?_
      rcases bfc (decide (0 < ((pvP ((scanI d a u ⟨#[]⟩).1)).length : Int))) with h3 | h3
      · have h3' := h3
        replace h3' := of_decide_eq_false h3'
        omega
      · have h3' := h3
        replace h3' := of_decide_eq_true h3'
        refine tr_region rfl (.run [] [] rfl (st_move rfl) (.run [] [] rfl (st_len_row rfl rfl Try.underlying47) (.run [] [] rfl (st_eq (st_gtr rfl rfl rfl) (bool_eq h3)) (.run [] [] rfl (st_move rfl) (.run [] [] rfl (st_move rfl) (.run [] [] rfl (st_idx_row0 0 rfl rfl rfl rfl Try.underlying47 Try.sizeOf85 rfl rfl (by omega)) (.run [] [] rfl (st_faddr_ea rfl rfl Try.underlying85 rfl Try.sizeOf9 (by decide)) (.run [] [] rfl (st_load_ea1 rfl rfl rfl (pvP_get hx) Try.isAgg9 rfl) (.run [] [] rfl (st_move rfl) (.run [] [] rfl (st_seql rfl rfl rfl) (.run [] [] rfl (st_pickT rfl rfl) (.run [] [] rfl (st_assign rfl) .nil)))))))))))) ?_
        refine tr_seq ?_
        refine id ?_
        · skip
          refine tr_wk (s' := mk [(6, .p none (.v (.int .i64 0))), (7, .p none (.v (.string ((getS d u a).2)))), (10, .sl 3900 0 ((pvP ((scanI d a u ⟨#[]⟩).1)).length)), (12, .p none (.v (.bool false)))] [] [(3900, 2, pvP ((scanI d a u ⟨#[]⟩).1))]) ?_ ?_
          · exact wk_mk ⟨rfl, ⟨rfl, ⟨rfl, ⟨(bool_eq (decide_eq_false hne)), trivial⟩⟩⟩⟩ trivial ⟨rfl, trivial⟩ rfl
          refine tr_region rfl (.run [] [] rfl (st_move rfl) (.run [] [] rfl (st_move rfl) (.run [] [] rfl (st_eq (st_eql rfl rfl rfl) (bool_eq (decide_eq_false (by omega)))) (.run [] [] rfl (st_eq (st_beql rfl rfl rfl Try.underlying4) (bool_eq (show (false == false) = true from by simp))) (.run [] [] rfl (st_move rfl) (.run [] [] rfl (st_move rfl) (.run [] [] rfl (st_not (b := false) rfl rfl) (.run [] [] rfl (st_move rfl) (.not rfl (.not rfl (.not rfl (.not rfl (.not rfl (.not rfl (.run [] [] rfl (st_pickT rfl rfl) (.run [] [] rfl (st_pickT rfl rfl) (.run [] [] rfl (st_assign rfl) .nil))))))))))))))))) ?_
          refine tr_ret ?_
          exact ends [_] [] (.cons (.tmp rfl) .nil) (.cons (.one .v (.v _)) .nil) (by decide) trivial
    · skip
      have hvl := pvP_length (scanI d a u ⟨#[]⟩).1
      have hxl := (List.getElem?_eq_some_iff.1 hx).1
      refine tr_wk (s' := mk [(4, .p none (.v (.string u))), (6, .p none (.v (.int .i64 1))), (7, .p none (.v (.string ((getS d u a).2)))), (8, .p none (.v (.int .i64 1))), (9, .p none (.v (.string ((getS d u a).2)))), (10, .sl 3900 0 ((pvP ((scanI d a u ⟨#[]⟩).1)).length)), (11, .p none (.v (.int .i64 0)))] [] [(3900, 2, pvP ((scanI d a u ⟨#[]⟩).1))]) ?_ ?_
      · exact wk_mk ⟨rfl, ⟨(int_eq h1), ⟨rfl, ⟨(int_eq h1), ⟨rfl, ⟨rfl, ⟨(int_eq h2), trivial⟩⟩⟩⟩⟩⟩⟩ trivial ⟨rfl, trivial⟩ rfl
      refine tr_region rfl (.run [] [] rfl (st_move rfl) (.run [] [] rfl (st_move rfl) (.run [] [] rfl (st_eq (st_neq rfl rfl rfl) (bool_eq (congrArg Bool.not (decide_eq_true (by simp))))) (.run [] [] rfl (st_move rfl) (.run [] [] rfl (st_move rfl) (.run [] [] rfl (st_move rfl) (.run [] [] rfl (st_eq (st_sneq rfl rfl rfl) (bool_eq (congrArg Bool.not (decide_eq_true (by simp))))) (.run [] [] rfl (st_pickF rfl rfl) (.run [] [] rfl (st_move rfl) (.run [] [] rfl (st_move rfl) (.run [] [] rfl (st_eq (st_eql rfl rfl rfl) (bool_eq (decide_eq_false (by omega)))) (.run [] [] rfl (st_move rfl) (.run [] [] rfl (st_eq (st_neq rfl rfl rfl) (bool_eq (congrArg Bool.not (decide_eq_true (by simp))))) (.run [] [] rfl (st_eq (st_bneq rfl rfl rfl Try.underlying4) (bool_eq (show (!(false == false)) = false from by simp))) (.run [] [] rfl (st_pickF rfl rfl) .nil))))))))))))))) ?_
      refine tr_if (t := false) rfl (fun h => nomatch h) (fun _ => ?_)
      refine tr_skip ?_
      refine tr_seq ?_
      refine tr_seq ?_
      refine tr_wk (s' := mk [(4, .p none (.v (.string u))), (6, .p none (.v (.int .i64 1))), (7, .p none (.v (.string ((getS d u a).2)))), (10, .sl 3900 0 ((pvP ((scanI d a u ⟨#[]⟩).1)).length))] [] [(3900, 2, pvP ((scanI d a u ⟨#[]⟩).1))]) ?_ ?_
      · exact wk_mk ⟨rfl, ⟨rfl, ⟨rfl, ⟨rfl, trivial⟩⟩⟩⟩ trivial ⟨rfl, trivial⟩ rfl
      refine tr_region rfl (.run [] [] rfl (st_move rfl) (.run [] [] rfl (st_eq (st_eql rfl rfl rfl) (bool_eq (decide_eq_false (by omega)))) .nil)) ?_
      refine tr_if (t := false) rfl (fun h => nomatch h) (fun _ => ?_)
      refine tr_skip ?_
      refine tr_seq ?_
      rcases bfc (decide (0 < ((pvP ((scanI d a u ⟨#[]⟩).1)).length : Int))) with h4 | h4
      · have h4' := h4
        replace h4' := of_decide_eq_false h4'
        omega
      · have h4' := h4
        replace h4' := of_decide_eq_true h4'
        refine tr_region rfl (.run [] [] rfl (st_move rfl) (.run [] [] rfl (st_len_row rfl rfl Try.underlying47) (.run [] [] rfl (st_eq (st_gtr rfl rfl rfl) (bool_eq h4)) (.run [] [] rfl (st_move rfl) (.run [] [] rfl (st_move rfl) (.run [] [] rfl (st_idx_row0 0 rfl rfl rfl rfl Try.underlying47 Try.sizeOf85 rfl rfl (by omega)) (.run [] [] rfl (st_faddr_ea rfl rfl Try.underlying85 rfl Try.sizeOf9 (by decide)) (.run [] [] rfl (st_load_ea1 rfl rfl rfl (pvP_get hx) Try.isAgg9 rfl) (.run [] [] rfl (st_move rfl) (.run [] [] rfl (st_eq (st_seql rfl rfl rfl) (bool_eq (decide_eq_true (by simp)))) (.run [] [] rfl (st_pickT rfl rfl) (.run [] [] rfl (st_assign rfl) .nil)))))))))))) ?_
        refine tr_seq ?_
        refine tr_wk (s' := mk [(6, .p none (.v (.int .i64 1))), (7, .p none (.v (.string ((getS d u a).2)))), (10, .sl 3900 0 ((pvP ((scanI d a u ⟨#[]⟩).1)).length)), (12, .p none (.v (.bool true)))] [] [(3900, 2, pvP ((scanI d a u ⟨#[]⟩).1))]) ?_ ?_
        · exact wk_mk ⟨rfl, ⟨rfl, ⟨rfl, ⟨rfl, trivial⟩⟩⟩⟩ trivial ⟨rfl, trivial⟩ rfl
        refine tr_region rfl (.run [] [] rfl (st_move rfl) (.run [] [] rfl (st_move rfl) (.run [] [] rfl (st_eq (st_eql rfl rfl rfl) (bool_eq (decide_eq_true (by simp)))) (.run [] [] rfl (st_eq (st_beql rfl rfl rfl Try.underlying4) (bool_eq (show (true == true) = true from by simp))) (.run [] [] rfl (st_move rfl) (.run [] [] rfl (st_move rfl) (.run [] [] rfl (st_not (b := true) rfl rfl) (.run [] [] rfl (st_move rfl) (.run [] [] rfl (st_move rfl) (.run [] [] rfl (st_idx_row0 0 rfl rfl rfl rfl Try.underlying47 Try.sizeOf85 rfl rfl (by omega)) (.run [] [] rfl (st_faddr_ea rfl rfl Try.underlying85 rfl Try.sizeOf9 (by decide)) (.run [] [] rfl (st_load_ea1 rfl rfl rfl (pvP_get hx) Try.isAgg9 rfl) (.run [] [] rfl (st_move rfl) (.run [] [] rfl (st_eq (st_seql rfl rfl rfl) (bool_eq (decide_eq_true (by simp)))) (.run [] [] rfl (st_pickF rfl rfl) (.run [] [] rfl (st_pickT rfl rfl) (.run [] [] rfl (st_assign rfl) .nil))))))))))))))))) ?_
        refine tr_ret ?_
        exact ends [_] [] (.cons (.tmp rfl) .nil) (.cons (.one .v (.v _)) .nil) (by decide) trivial
end Go.Rl

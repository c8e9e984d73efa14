/- Disks: what the program's own way of doing an op comes to. -/
import Derived.Test.YtmjfdldfaeaolaaRtDi
import Derived.Test.YtmjfdldfaeaolaaRtGf
namespace Go.Rl
def foundC {α : Type} (c : α → Int) (l : List α) : Bool := match l[cntF (fun s => decide (c s < 0)) l]? with
  | some e => decide (c e = 0)
  | none => false
def nameC (n : ByteArray) (f : Fil) : Int := cmpS f.name n
theorem cmpS_neg {a b : ByteArray} : decide (cmpS a b < 0) = ltB a b := by
  unfold cmpS
  cases h : ltB a b with
  | true => simp
  | false => cases h2 : ltB b a <;> simp
theorem cmpS_zero {a b : ByteArray} : decide (cmpS a b = 0) = decide (a = b) := by
  unfold cmpS
  cases h : ltB a b with
  | true => simp [lt_ne h]
  | false =>
    cases h2 : ltB b a with
    | true => simp [gt_ne h2]
    | false => simp [ltB_tot h h2]
theorem srt_mono {l : List Fil} (h : Srt l) (n : ByteArray) : MonoP (fun s => decide (nameC n s < 0)) l := fun i j x y hij hx hy hp => by
  have e1 : ∀ s : Fil, decide (nameC n s < 0) = ltB s.name n := fun s => cmpS_neg
  have hp2 : ltB y.name n = true := by rw [← e1]; exact hp
  show decide (nameC n x < 0) = true
  rw [e1]
  rcases Nat.lt_or_ge i j with h1 | h1
  · obtain ⟨g1, rfl⟩ := List.getElem?_eq_some_iff.1 hx
    obtain ⟨g2, rfl⟩ := List.getElem?_eq_some_iff.1 hy
    exact ltB_trans ((List.pairwise_iff_getElem.1 h) i j g1 g2 h1) hp2
  · have : i = j := by omega
    subst this
    rw [hx] at hy
    cases hy
    exact hp2
theorem cnt_pos (l : List Fil) (n : ByteArray) : cntF (fun s => decide (nameC n s < 0)) l = posF l n := by
  unfold cntF posF nameC
  simp only [cmpS_neg]
theorem pos_le (l : List Fil) (n : ByteArray) : posF l n ≤ l.length := by rw [← cnt_pos]; exact cnt_le _ _
theorem found_has {l : List Fil} (h : Srt l) (n : ByteArray) : foundC (nameC n) l = hasF l n := by
  unfold foundC
  rw [cnt_pos]
  cases srt_at h n with
  | yes A f C e hn hA hC hp hh hd =>
    subst e
    rw [hp, hh]
    have e1 : decide (nameC n f = 0) = decide (f.name = n) := cmpS_zero
    simp [e1, hn]
  | no A B e hA hB hp hh hd =>
    subst e
    rw [hp, hh]
    cases B with
    | nil => simp
    | cons f B =>
      have e1 : decide (nameC n f = 0) = decide (f.name = n) := cmpS_zero
      simp [e1, gt_ne (hB f (by simp))]
theorem has_at {l : List Fil} (h : Srt l) {n : ByteArray} (hh : hasF l n = true) : ∃ e, l[posF l n]? = some e ∧ e.name = n ∧ datF l n = e.data := by
  cases srt_at h n with
  | yes A f C e hn hA hC hp hh hd =>
    subst e
    exact ⟨f, by rw [hp]; simp, hn, hd⟩
  | no A B e hA hB hp hh' hd => rw [hh'] at hh; cases hh
theorem ins_put {l : List Fil} (h : Srt l) {n : ByteArray} (d : ByteArray) (hh : hasF l n = false) : l.take (posF l n) ++ ⟨n, d⟩ :: l.drop (posF l n) = putF l n d := by
  cases srt_at h n with
  | yes A f C e hn hA hC hp hh' hd => rw [hh'] at hh; cases hh
  | no A B e hA hB hp hh' hd =>
    subst e
    rw [hp, put_no hA hB]
    simp
theorem set_put {l : List Fil} (h : Srt l) {n : ByteArray} (d : ByteArray) (hh : hasF l n = true) : l.set (posF l n) ⟨n, d⟩ = putF l n d := by
  cases srt_at h n with
  | yes A f C e hn hA hC hp hh' hd =>
    subst e
    rw [hp, put_yes hn hA hC]
    simp
  | no A B e hA hB hp hh' hd => rw [hh'] at hh; cases hh
theorem erase_cut {l : List Fil} (h : Srt l) {n : ByteArray} (hh : hasF l n = true) : l.eraseIdx (posF l n) = cutF l n := by
  cases srt_at h n with
  | yes A f C e hn hA hC hp hh' hd =>
    subst e
    rw [hp, cut_yes hn hA hC]
    simp [List.eraseIdx_append_of_length_le]
  | no A B e hA hB hp hh' hd => rw [hh'] at hh; cases hh
theorem srt_cutF {l : List Fil} (h : Srt l) (n : ByteArray) : Srt (cutF l n) := h.sublist List.filter_sublist
theorem ins_get {l : List Fil} {k : Nat} {x : Fil} (hk : k ≤ l.length) : (l.take k ++ x :: l.drop k)[k]? = some x := by
  rw [List.getElem?_append_right (by simp; omega)]
  simp [Nat.min_eq_left hk]
theorem pvF_set (l : List Fil) (k : Nat) (x : Fil) : (pvF l).set k x.pv = pvF (l.set k x) := by simp [pvF, List.map_set]
theorem ins_set {l : List Fil} {k : Nat} {x y : Fil} (hk : k ≤ l.length) : (l.take k ++ x :: l.drop k).set k y = l.take k ++ y :: l.drop k := by
  rw [List.set_append_right _ _ (by simp; omega)]
  simp [Nat.min_eq_left hk]
/-- The program's ways. -/
theorem way_ins {l : List Fil} {n d : ByteArray} {k : Nat} (h : Srt l) (hk : k = posF l n) (hh : hasF l n = false) : (l.take k ++ ⟨n, ⟨#[]⟩⟩ :: l.drop k).set k ⟨n, ⟨#[]⟩ ++ d⟩ = putF l n (datF l n ++ d) := by
  rw [ins_set (by rw [hk]; exact pos_le l n), hk, ins_put h _ hh, dat_no hh]
theorem way_app {l : List Fil} {n d : ByteArray} {k : Nat} {e : Fil} (h : Srt l) (hk : k = posF l n) (hh : hasF l n = true) (he : l[k]? = some e) : l.set k ⟨e.name, e.data ++ d⟩ = putF l n (datF l n ++ d) := by
  obtain ⟨e', h1, h2, h3⟩ := has_at h hh
  subst hk
  rw [h1] at he
  cases he
  rw [h2, set_put h _ hh, h3]
theorem way_name {l : List Fil} {n : ByteArray} {k : Nat} {e : Fil} (h : Srt l) (hk : k = posF l n) (hh : hasF l n = true) (he : l[k]? = some e) : e.name = n ∧ datF l n = e.data := by
  obtain ⟨e', h1, h2, h3⟩ := has_at h hh
  subst hk
  rw [h1] at he
  cases he
  exact ⟨h2, h3⟩
/-! #### right disks -/
theorem replay_app {l m : List Fil} {a : List DOp} {op : DOp} (h : replayF l a = some m) (hs : formF op = true ∧ (doneF m op).2 = true ∧ filesOk (doneF m op).1 = true) : replayF l (a ++ [op]) = some (doneF m op).1 := by
  induction a generalizing l with
  | nil =>
    cases h
    rw [List.nil_append, replayF, if_pos hs]
    rfl
  | cons x a ih =>
    rw [replayF] at h
    split at h
    · rename_i hc
      rw [List.cons_append, replayF, if_pos hc]
      exact ih h
    · cases h
theorem ok_live {d : Dsk} (h : diskOk d = true) : filesOk d.live = true := by simp only [diskOk, Bool.and_eq_true] at h; exact h.1.1.1
theorem ok_safe {d : Dsk} (h : diskOk d = true) : filesOk d.safe = true := by simp only [diskOk, Bool.and_eq_true] at h; exact h.1.1.2
theorem ok_ops {d : Dsk} (h : diskOk d = true) : d.ops.length ≤ 200 := by simp only [diskOk, Bool.and_eq_true, decide_eq_true_eq] at h; exact h.1.2
theorem ok_rep {d : Dsk} (h : diskOk d = true) : replayF d.safe d.ops = some d.live := by simp only [diskOk, Bool.and_eq_true, decide_eq_true_eq] at h; exact h.2
theorem ok_mk {d : Dsk} (h1 : filesOk d.live = true) (h2 : filesOk d.safe = true) (h3 : d.ops.length ≤ 200) (h4 : replayF d.safe d.ops = some d.live) : diskOk d = true := by simp [diskOk, h1, h2, h3, h4]
theorem act_ok {d : Dsk} {op : DOp} (h : diskOk d = true) (hc : (actF d op).2 = 0) : diskOk (actF d op).1 = true := by
  unfold actF at hc ⊢
  split
  · rename_i h1; rw [if_pos h1] at hc; cases hc
  · rename_i h1
    rw [if_neg h1] at hc
    split
    · rename_i h2; rw [if_pos h2] at hc; cases hc
    · rename_i h2
      rw [if_neg h2] at hc
      split
      · rename_i h3; rw [if_pos h3] at hc; cases hc
      · rename_i h3
        rw [not_or] at h3
        have g := ok_ops h
        have hf : filesOk (doneF d.live op).1 = true := by simpa using h3.2
        have hsf := ok_safe h
        have hrp := replay_app (ok_rep h) ⟨by simpa using h1, by simpa using h2, hf⟩
        exact ok_mk (d := ⟨(doneF d.live op).1, d.safe, d.ops ++ [op]⟩) hf hsf (by simp only [List.length_append, List.length_cons, List.length_nil]; omega) hrp
def foldA : Dsk → List DOp → Dsk × Int
  | d, [] => (d, 0)
  | d, op :: ops => if (actF d op).2 = 0 then foldA (actF d op).1 ops else actF d op
theorem fold_step {now : Dsk} {ops : List DOp} {i : Nat} {e : DOp} {s : Dsk × Int} (h : foldA now (ops.drop i) = s) (he : ops[i]? = some e) (hc : (actF now e).2 = 0) : foldA (actF now e).1 (ops.drop (i + 1)) = s := by
  rw [drop_at he, foldA, if_pos hc] at h
  exact h
theorem fold_stop {now : Dsk} {ops : List DOp} {i : Nat} {e : DOp} {s : Dsk × Int} (h : foldA now (ops.drop i) = s) (he : ops[i]? = some e) (hc : ¬ (actF now e).2 = 0) : s = actF now e := by
  rw [drop_at he, foldA, if_neg hc] at h
  exact h.symm
theorem fold_end {now : Dsk} {ops : List DOp} {i : Nat} {s : Dsk × Int} (h : foldA now (ops.drop i) = s) (hi : ops.length ≤ i) : s = (now, 0) := by
  rw [List.drop_of_length_le hi] at h
  exact h.symm
def replOps (d : Dsk) (name data : ByteArray) : List DOp := (if hasF d.live (name ++ newB) = true then [opRm (name ++ newB)] else []) ++ [opAp (name ++ newB) data, opMv (name ++ newB) name]
theorem fold_go (s : Dsk × Int) (a b : DOp) (h : s.2 = 0) : ∀ t, foldA s.1 [a, b] = t → (if (go1 (go1 s a) b).2 = 0 then ((go1 (go1 s a) b).1, (0:Int)) else (go1 (go1 s a) b)) = t := by
  intro t ht
  subst ht
  rw [go1_yes h, foldA]
  by_cases h1 : (actF s.1 a).2 = 0
  · rw [if_pos h1, go1_yes h1, foldA]
    by_cases h2 : (actF (actF s.1 a).1 b).2 = 0
    · rw [if_pos h2, if_pos h2]; rfl
    · rw [if_neg h2, if_neg h2]
  · rw [if_neg h1, go1_no h1, if_neg h1]
theorem repl_fold {d : Dsk} {name data : ByteArray} {s : Dsk × Int} (h : diskOk d = true) (hs : foldA d (replOps d name data) = s) : replaceF d name data = if s.2 = 0 then (s.1, 0) else (d, s.2) := by
  rw [repl_run (s0 := rm0 d (name ++ newB)) (s1 := go1 (rm0 d (name ++ newB)) (opAp (name ++ newB) data)) (s2 := go1 (go1 (rm0 d (name ++ newB)) (opAp (name ++ newB) data)) (opMv (name ++ newB) name)) h rfl rfl rfl]
  have key : ∀ u : Dsk × Int, (if u.2 = 0 then (u.1, (0:Int)) else u) = s → (if u.2 = 0 then (u.1, 0) else (d, u.2)) = (if s.2 = 0 then (s.1, (0:Int)) else (d, s.2)) := fun u hu => by
    by_cases h0 : u.2 = 0
    · rw [if_pos h0] at hu ⊢
      subst hu
      simp
    · rw [if_neg h0] at hu
      subst hu
      rfl
  apply key
  cases hh : hasF d.live (name ++ newB) with
  | false =>
    rw [rm0_no hh]
    refine fold_go (d, 0) _ _ rfl _ ?_
    rw [← hs, replOps, if_neg (by simp [hh])]
    rfl
  | true =>
    rw [rm0_yes hh]
    rw [replOps, if_pos hh] at hs
    simp only [List.singleton_append] at hs
    rw [foldA] at hs
    by_cases h0 : (actF d (opRm (name ++ newB))).2 = 0
    · rw [if_pos h0] at hs
      exact fold_go _ _ _ h0 _ hs
    · rw [if_neg h0] at hs
      rw [go1_no h0, go1_no h0, if_neg h0]
      exact hs
theorem replOps_size {d : Dsk} {name data : ByteArray} {m : Nat} (h : data.size ≤ m) : ∀ e ∈ replOps d name data, e.data.size ≤ m := fun e he => by
  unfold replOps at he
  rcases List.mem_append.1 he with he | he
  · split at he
    · simp at he; subst he; exact Nat.zero_le _
    · cases he
  · simp at he
    rcases he with rfl | rfl
    · exact h
    · exact Nat.zero_le _
def readF (d : Dsk) (n : ByteArray) : ByteArray × Bool := if diskOk d = true ∧ hasF d.live n = true then (datF d.live n, true) else (⟨#[]⟩, false)
theorem readF_has {d : Dsk} {n : ByteArray} (h : diskOk d = true) : (readF d n).2 = hasF d.live n := by
  cases hh : hasF d.live n <;> simp [readF, h, hh]
end Go.Rl

/- Disks that lose their power. -/
import Derived.Test.YtmjfdldfaeaolaaRtDj
namespace Go.Rl
theorem putGo_tot2 (n d : ByteArray) : ∀ (l : List Fil) (q : Bool), totF (putGo n d q l) = totF (cutF l n) + (if q then 0 else d.size)
  | [], q => by cases q <;> simp [putGo, totF, cutF]
  | f :: l, q => by
    have h1 := putGo_tot2 n d l true
    have h2 := putGo_tot2 n d l false
    simp only [putGo]
    cases q <;> cases ltB f.name n <;> by_cases hn : f.name = n <;> simp [hn, totF, cutF] at h1 h2 ⊢ <;> omega
theorem cut_tot1 (l : List Fil) (n : ByteArray) : totF (cutF l n) ≤ totF l := by have := cut_tot l n; omega
theorem done_tot1 (l : List Fil) (op : DOp) : totF (doneF l op).1 ≤ totF l + op.data.size := by
  have h0 := cut_tot l op.name
  unfold doneF
  split
  · have := putGo_tot2 op.name (datF l op.name ++ op.data) l false
    rw [size_app2] at this
    simp only [Bool.false_eq_true, if_false] at this
    show totF (putGo op.name (datF l op.name ++ op.data) false l) ≤ _
    omega
  · split
    · exact Nat.le_add_right _ _
    · split
      · have h1 := putGo_tot2 op.dest (datF l op.name) (cutF l op.name) false
        have h2 := cut_tot1 (cutF l op.name) op.dest
        simp only [Bool.false_eq_true, if_false] at h1
        show totF (putGo op.dest (datF l op.name) false (cutF l op.name)) ≤ _
        omega
      · show totF (cutF l op.name) ≤ _
        omega
def tornOp (torn : Int) (op : DOp) : DOp := ⟨op.kind, op.name, op.dest, op.data.extract 0 (min torn (op.data.size : Int)).toNat⟩
def opZ : DOp := ⟨0, ⟨#[]⟩, ⟨#[]⟩, ⟨#[]⟩⟩
def opAt (d : Dsk) (k : Int) : DOp := d.ops.getD k.toNat opZ
def keepBad (d : Dsk) (keep : List Int) (i : Nat) (k : Int) : Bool := !(within k 0 ((d.ops.length : Int) - 1)) || (decide (0 < i) && match keep[i - 1]? with
  | some y => decide (k ≤ y)
  | none => false)
def crashOp (d : Dsk) (keep : List Int) (torn : Int) (i : Nat) (k : Int) : DOp := if i + 1 = keep.length then tornOp torn (opAt d k) else opAt d k
def crashRun (d : Dsk) (keep : List Int) (torn : Int) : Nat → List Int → List Fil → Option (List Fil)
  | _, [], f => some f
  | i, k :: ks, f => if keepBad d keep i k = true then none else crashRun d keep torn (i + 1) ks (doneF f (crashOp d keep torn i k)).1
def crashF (d : Dsk) (keep : List Int) (torn : Int) : Dsk × Bool := if torn < 0 then (dskZ, false) else match crashRun d keep torn 0 keep d.safe with
  | none => (dskZ, false)
  | some f => if fitF f = true then (⟨f, f, []⟩, true) else (dskZ, false)
def crashD (d : Dsk) (keep : List Int) (torn : Int) : Dsk × Bool := if diskOk d = true then crashF d keep torn else (dskZ, false)
theorem crash_step {d : Dsk} {keep : List Int} {torn : Int} {i : Nat} {k : Int} {f : List Fil} {r : Option (List Fil)} (h : crashRun d keep torn i (keep.drop i) f = r) (he : keep[i]? = some k) (hb : keepBad d keep i k = false) : crashRun d keep torn (i + 1) (keep.drop (i + 1)) (doneF f (crashOp d keep torn i k)).1 = r := by
  rw [drop_at he, crashRun, if_neg (by simp [hb])] at h
  exact h
theorem crash_bad {d : Dsk} {keep : List Int} {torn : Int} {i : Nat} {k : Int} {f : List Fil} (ht : ¬ torn < 0) (h : crashRun d keep torn i (keep.drop i) f = crashRun d keep torn 0 keep d.safe) (he : keep[i]? = some k) (hb : keepBad d keep i k = true) : crashF d keep torn = (dskZ, false) := by
  rw [drop_at he, crashRun, if_pos hb] at h
  rw [crashF, if_neg ht, ← h]
theorem crash_end {d : Dsk} {keep : List Int} {torn : Int} {i : Nat} {f : List Fil} (ht : ¬ torn < 0) (h : crashRun d keep torn i (keep.drop i) f = crashRun d keep torn 0 keep d.safe) (hi : keep.length ≤ i) : crashF d keep torn = if fitF f = true then (⟨f, f, []⟩, true) else (dskZ, false) := by
  rw [List.drop_of_length_le hi, crashRun] at h
  rw [crashF, if_neg ht, ← h]
theorem replay_form {l m : List Fil} : ∀ {ops : List DOp}, replayF l ops = some m → ∀ op ∈ ops, formF op = true
  | [], _, op, h => by cases h
  | o :: ops, h, op, hm => by
    rw [replayF] at h
    split at h
    · rename_i hc
      rcases List.mem_cons.1 hm with rfl | hm
      · exact hc.1
      · exact replay_form h op hm
    · cases h
theorem ok_form {d : Dsk} (h : diskOk d = true) : ∀ op ∈ d.ops, formF op = true := replay_form (ok_rep h)
theorem opAt_mem {d : Dsk} {k : Int} {e : DOp} (he : d.ops[k.toNat]? = some e) : opAt d k = e := by rw [opAt, List.getD_eq_getElem?_getD, he]; rfl
theorem torn_form {op : DOp} (torn : Int) (h : formF op = true) : formF (tornOp torn op) = true := by
  cases op with | mk k n t dt =>
  unfold formF at h ⊢
  unfold tornOp
  by_cases hk : k = 1
  · subst hk
    simpa using h
  · have hd : dt = ⟨#[]⟩ := by
      simp only [Bool.and_eq_true, Bool.or_eq_true, decide_eq_true_eq] at h
      exact h.2.resolve_left hk
    subst hd
    have he : (⟨#[]⟩ : ByteArray).extract 0 (min torn ((⟨#[]⟩ : ByteArray).size : Int)).toNat = ⟨#[]⟩ := by
      apply ByteArray.ext
      simp
    simp only [he]
    exact h
theorem torn_size {op : DOp} (torn : Int) : (tornOp torn op).data.size ≤ op.data.size := by
  simp only [tornOp, ByteArray.size_extract]
  omega
theorem keep_ok {d : Dsk} {keep : List Int} {i : Nat} {k : Int} (h : keepBad d keep i k = false) : 0 ≤ k ∧ k < d.ops.length := by
  simp only [keepBad, within, Bool.or_eq_false_iff, Bool.not_eq_false', Bool.and_eq_true, decide_eq_true_eq] at h
  omega
theorem keep_win {d : Dsk} {keep : List Int} {i : Nat} {k : Int} (h : within k 0 ((d.ops.length : Int) - 1) = false) : keepBad d keep i k = true := by simp [keepBad, h]
theorem keep_le {d : Dsk} {keep : List Int} {i : Nat} {k y : Int} (hi : 0 < i) (hy : keep[i - 1]? = some y) (h : k ≤ y) : keepBad d keep i k = true := by simp [keepBad, hi, hy, h]
theorem keep_fst {d : Dsk} {keep : List Int} {i : Nat} {k : Int} (h : within k 0 ((d.ops.length : Int) - 1) = true) (hi : ¬ 0 < i) : keepBad d keep i k = false := by simp [keepBad, h, hi]
theorem keep_nxt {d : Dsk} {keep : List Int} {i : Nat} {k y : Int} (h : within k 0 ((d.ops.length : Int) - 1) = true) (hy : keep[i - 1]? = some y) (hc : ¬ k ≤ y) : keepBad d keep i k = false := by simp [keepBad, h, hy, hc]
/-! #### all ops are kept, whole -/
def allK (n : Nat) : List Int := (List.range n).map Int.ofNat
theorem allK_len (n : Nat) : (allK n).length = n := by simp [allK]
theorem allK_get {n i : Nat} (h : i < n) : (allK n)[i]? = some (i : Int) := by simp [allK, h]
theorem allK_succ (n : Nat) : allK (n + 1) = allK n ++ [(n : Int)] := by simp [allK, List.range_succ]
theorem torn_all {op : DOp} {torn : Int} (h : (op.data.size : Int) ≤ torn) : tornOp torn op = op := by
  have : (min torn (op.data.size : Int)).toNat = op.data.size := by omega
  cases op with | mk k n t dt =>
  simp only [tornOp] at this ⊢
  rw [this]
  congr 1
  apply ByteArray.ext
  simp
theorem run_all {d : Dsk} {torn : Int} (hs : ∀ op ∈ d.ops, (op.data.size : Int) ≤ torn) : ∀ (n i : Nat) (f : List Fil), d.ops.length = i + n → ∀ m, replayF f (d.ops.drop i) = some m → crashRun d (allK d.ops.length) torn i ((allK d.ops.length).drop i) f = some m
  | 0, i, f, hn, m, hr => by
    rw [List.drop_of_length_le (by omega), replayF] at hr
    rw [List.drop_of_length_le (by rw [allK_len]; omega), crashRun]
    exact hr
  | n + 1, i, f, hn, m, hr => by
    have hi : i < d.ops.length := by omega
    have he : d.ops[i]? = some d.ops[i] := List.getElem?_eq_getElem hi
    rw [drop_at he, replayF] at hr
    split at hr
    · have hop : crashOp d (allK d.ops.length) torn i (i : Int) = d.ops[i] := by
        have ha : opAt d (i : Int) = d.ops[i] := opAt_mem he
        unfold crashOp
        split
        · rw [ha, torn_all (hs _ (List.getElem_mem hi))]
        · exact ha
      have hb : keepBad d (allK d.ops.length) i (i : Int) = false := by
        have hw : within (i : Int) 0 ((d.ops.length : Int) - 1) = true := by simp [within]; omega
        by_cases h0 : 0 < i
        · exact keep_nxt hw (allK_get (i := i - 1) (by omega)) (by omega)
        · exact keep_fst hw h0
      rw [drop_at (allK_get hi), crashRun, if_neg (by simp [hb]), hop]
      exact run_all hs n (i + 1) _ (by omega) m hr
    · cases hr
theorem crash_all {d : Dsk} {torn : Int} (h : diskOk d = true) (hs : ∀ op ∈ d.ops, (op.data.size : Int) ≤ torn) (ht : 0 ≤ torn) : crashD d (allK d.ops.length) torn = (⟨d.live, d.live, []⟩, true) := by
  have hr := run_all hs d.ops.length 0 d.safe (by omega) d.live (by simpa using ok_rep h)
  rw [List.drop_zero] at hr
  have hf : fitF d.live = true := by have := ok_live h; simp only [filesOk, Bool.and_eq_true] at this; exact this.2
  rw [crashD, if_pos h, crashF, if_neg (by omega), hr]
  simp [hf]
theorem crash_none {d : Dsk} (h : diskOk d = true) : crashD d [] 0 = (⟨d.safe, d.safe, []⟩, true) := by
  have hf : fitF d.safe = true := by have := ok_safe h; simp only [filesOk, Bool.and_eq_true] at this; exact this.2
  rw [crashD, if_pos h, crashF, if_neg (by omega), crashRun]
  simp [hf]
theorem crash_off {d : Dsk} {keep : List Int} {torn : Int} (h : diskOk d = false) : crashD d keep torn = (dskZ, false) := by rw [crashD, if_neg (by simp [h])]
end Go.Rl

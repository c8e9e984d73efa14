/- Disks: files, ops, right disks, and what is done to them. -/
import Derived.Test.YtmjfdldfaeaolaaRtGe
import Derived.Test.YtmjfdldfaeaolaaRtEn
namespace Go.Rl
structure Fil where
  name : ByteArray
  data : ByteArray
  deriving DecidableEq
def Fil.pv (f : Fil) : List PV := [.v (.string f.name), .v (.string f.data)]
def pvF (l : List Fil) : List (List PV) := l.map Fil.pv
theorem pvF_length (l : List Fil) : (pvF l).length = l.length := by simp [pvF]
theorem pvF_get {l : List Fil} {i : Nat} {e : Fil} (h : l[i]? = some e) : (pvF l)[i]? = some e.pv := by simp [pvF, h]
theorem pvF_flat (l : List Fil) : FlatP (pvF l) := fun es he p hp => by
  obtain ⟨s, _, rfl⟩ := List.mem_map.1 he
  simp only [Fil.pv, List.mem_cons, List.not_mem_nil, or_false] at hp
  rcases hp with rfl | rfl <;> rfl
structure DOp where
  kind : Int
  name : ByteArray
  dest : ByteArray
  data : ByteArray
  deriving DecidableEq
def DOp.pv (f : DOp) : List PV := [.v (.int .i64 f.kind), .v (.string f.name), .v (.string f.dest), .v (.string f.data)]
def pvD (l : List DOp) : List (List PV) := l.map DOp.pv
theorem pvD_length (l : List DOp) : (pvD l).length = l.length := by simp [pvD]
theorem pvD_get {l : List DOp} {i : Nat} {e : DOp} (h : l[i]? = some e) : (pvD l)[i]? = some e.pv := by simp [pvD, h]
theorem pvD_flat (l : List DOp) : FlatP (pvD l) := fun es he p hp => by
  obtain ⟨s, _, rfl⟩ := List.mem_map.1 he
  simp only [DOp.pv, List.mem_cons, List.not_mem_nil, or_false] at hp
  rcases hp with rfl | rfl | rfl | rfl <;> rfl
structure Dsk where
  live : List Fil
  safe : List Fil
  ops : List DOp
  deriving DecidableEq
/-! #### right files -/
def isFileB (s : ByteArray) : Bool := decide ((1 : Int) ≤ (s.size : Int)) && decide ((s.size : Int) ≤ 100)
def totF (l : List Fil) : Nat := (l.map fun f => f.data.size).sum
def fitF (l : List Fil) : Bool := decide (l.length ≤ 60) && decide (totF l ≤ 200000)
def okFil (l : List Fil) (j : Nat) (e : Fil) : Bool := isFileB e.name && (decide (j = 0) || match l[j - 1]? with
  | some x => ltB x.name e.name
  | none => true)
def namesOk (l : List Fil) : Bool := allIx (okFil l) l
def filesOk (l : List Fil) : Bool := namesOk l && fitF l
def formF (op : DOp) : Bool := within op.kind 1 3 && isFileB op.name && (isFileB op.dest == decide (op.kind = 2)) && (decide (op.kind = 2) || decide (op.dest = ⟨#[]⟩)) && (decide (op.kind = 1) || decide (op.data = ⟨#[]⟩))
/-! #### what is done -/
def hasF (l : List Fil) (n : ByteArray) : Bool := l.any fun f => decide (f.name = n)
def datF (l : List Fil) (n : ByteArray) : ByteArray := match l.find? (fun f => decide (f.name = n)) with
  | some f => f.data
  | none => ⟨#[]⟩
def putGo (n d : ByteArray) : Bool → List Fil → List Fil
  | done, [] => if done then [] else [⟨n, d⟩]
  | done, f :: l => (if done = false ∧ ltB f.name n = false then [⟨n, d⟩] else []) ++ (if f.name = n then [] else [f]) ++ putGo n d (done || !ltB f.name n) l
def putF (l : List Fil) (n d : ByteArray) : List Fil := putGo n d false l
def cutF (l : List Fil) (n : ByteArray) : List Fil := l.filter fun f => !decide (f.name = n)
def doneF (l : List Fil) (op : DOp) : List Fil × Bool :=
  if op.kind = 1 then (putF l op.name (datF l op.name ++ op.data), true)
  else if hasF l op.name = false then (l, false)
  else if op.kind = 2 then (putF (cutF l op.name) op.dest (datF l op.name), true)
  else (cutF l op.name, true)
def replayF : List Fil → List DOp → Option (List Fil)
  | l, [] => some l
  | l, op :: ops => if formF op = true ∧ (doneF l op).2 = true ∧ filesOk (doneF l op).1 = true then replayF (doneF l op).1 ops else none
def diskOk (d : Dsk) : Bool := filesOk d.live && filesOk d.safe && decide (d.ops.length ≤ 200) && decide (replayF d.safe d.ops = some d.live)
/-! #### the order of names -/
def NLt (a b : Fil) : Prop := ltB a.name b.name = true
theorem pw_adj {α : Type} {R : α → α → Prop} (tr : ∀ a b c, R a b → R b c → R a c) : ∀ {l : List α}, (∀ (j : Nat) x y, l[j]? = some x → l[j + 1]? = some y → R x y) → l.Pairwise R
  | [], _ => .nil
  | [a], _ => List.pairwise_singleton _ _
  | a :: b :: l, h => by
    have ih := pw_adj tr (l := b :: l) (fun j x y h1 h2 => h (j + 1) x y (by simpa using h1) (by simpa using h2))
    refine List.pairwise_cons.2 ⟨fun c hc => ?_, ih⟩
    have hab := h 0 a b rfl rfl
    rcases List.mem_cons.1 hc with rfl | hc
    · exact hab
    · exact tr _ _ _ hab ((List.pairwise_cons.1 ih).1 c hc)
theorem adj_pw {α : Type} {R : α → α → Prop} {l : List α} (h : l.Pairwise R) {j : Nat} {x y : α} (h1 : l[j]? = some x) (h2 : l[j + 1]? = some y) : R x y := by
  obtain ⟨g1, rfl⟩ := List.getElem?_eq_some_iff.1 h1
  obtain ⟨g2, rfl⟩ := List.getElem?_eq_some_iff.1 h2
  exact (List.pairwise_iff_getElem.1 h) j (j + 1) g1 g2 (Nat.lt_succ_self j)
theorem namesOk_iff {l : List Fil} : namesOk l = true ↔ l.Pairwise NLt ∧ ∀ f ∈ l, isFileB f.name = true := by
  constructor
  · intro h
    refine ⟨pw_adj (R := NLt) (fun a b c (h : ltB a.name b.name = true) (k : ltB b.name c.name = true) => (ltB_trans h k : ltB a.name c.name = true)) (fun j x y h1 h2 => ?_), fun f hf => ?_⟩
    · have := allIx_get h h2
      simp only [okFil, Nat.add_sub_cancel, h1, Bool.and_eq_true, Bool.or_eq_true, decide_eq_true_eq, Nat.add_eq_zero_iff, Nat.succ_ne_zero, and_false, false_or] at this
      exact this.2
    · obtain ⟨j, hj⟩ := List.getElem?_of_mem hf
      have := allIx_get h hj
      simp only [okFil, Bool.and_eq_true] at this
      exact this.1
  · rintro ⟨h1, h2⟩
    refine allIx_yes (Nat.le_refl _) (fun j e _ hj => ?_)
    simp only [okFil, h2 e (List.mem_of_getElem? hj), Bool.true_and, Bool.or_eq_true, decide_eq_true_eq]
    cases j with
    | zero => exact .inl rfl
    | succ j =>
      refine .inr ?_
      have hlt : j < l.length := by have := (List.getElem?_eq_some_iff.1 hj).1; omega
      have hx : l[j]? = some l[j] := List.getElem?_eq_getElem hlt
      simp only [Nat.add_sub_cancel, hx]
      exact adj_pw h1 hx hj
def Srt (l : List Fil) : Prop := l.Pairwise NLt
theorem namesOk_srt {l : List Fil} (h : namesOk l = true) : Srt l := (namesOk_iff.1 h).1
theorem srt_nil : Srt [] := .nil
/-- A row in order, cut where a name stands or would stand. -/
theorem srt_cut (n : ByteArray) : ∀ {l : List Fil}, Srt l → ∃ A B, l = A ++ B ∧ (∀ f ∈ A, ltB f.name n = true) ∧ ((∃ f C, B = f :: C ∧ f.name = n ∧ ∀ g ∈ C, ltB n g.name = true) ∨ ∀ g ∈ B, ltB n g.name = true)
  | [], _ => ⟨[], [], rfl, by simp, .inr (by simp)⟩
  | f :: l, h => by
    obtain ⟨h1, h2⟩ := List.pairwise_cons.1 h
    cases hf : ltB f.name n with
    | true =>
      obtain ⟨A, B, rfl, hA, hB⟩ := srt_cut n h2
      exact ⟨f :: A, B, rfl, fun g hg => by rcases List.mem_cons.1 hg with rfl | hg; exact hf; exact hA g hg, hB⟩
    | false =>
      refine ⟨[], f :: l, rfl, by simp, ?_⟩
      cases hn : ltB n f.name with
      | false => exact .inl ⟨f, l, rfl, ltB_tot hf hn, fun g hg => by rw [← ltB_tot hf hn]; exact h1 g hg⟩
      | true => exact .inr (fun g hg => by rcases List.mem_cons.1 hg with rfl | hg; exact hn; exact ltB_trans hn (h1 g hg))
theorem lt_ne {a b : ByteArray} (h : ltB a b = true) : a ≠ b := fun e => by subst e; rw [ltB_irr] at h; cases h
theorem gt_ne {a b : ByteArray} (h : ltB a b = true) : b ≠ a := fun e => lt_ne h e.symm
theorem put_lt {n d : ByteArray} : ∀ {A B : List Fil}, (∀ f ∈ A, ltB f.name n = true) → putGo n d false (A ++ B) = A ++ putGo n d false B
  | [], _, _ => rfl
  | f :: A, B, h => by
    have hf := h f (by simp)
    simp only [List.cons_append, putGo, hf, Bool.true_eq_false, and_false, if_false, if_neg (lt_ne hf), Bool.not_true, Bool.or_self, List.nil_append]
    rw [put_lt (fun g hg => h g (List.mem_cons_of_mem _ hg))]
theorem put_gt {n d : ByteArray} : ∀ {C : List Fil}, (∀ f ∈ C, ltB n f.name = true) → putGo n d true C = C
  | [], _ => rfl
  | f :: C, h => by
    have hf := h f (by simp)
    simp only [putGo, Bool.true_eq_false, false_and, if_false, if_neg (gt_ne hf), Bool.true_or, List.nil_append, List.cons_append]
    rw [put_gt (fun g hg => h g (List.mem_cons_of_mem _ hg))]
theorem put_at {n d : ByteArray} {f : Fil} {C : List Fil} (hf : f.name = n) (h : ∀ f ∈ C, ltB n f.name = true) : putGo n d false (f :: C) = ⟨n, d⟩ :: C := by
  simp only [putGo, hf, ltB_irr, Bool.false_eq_true, and_self, if_true, Bool.not_false, Bool.or_true, put_gt h, List.append_nil, List.singleton_append]
theorem put_new {n d : ByteArray} : ∀ {B : List Fil} (_ : ∀ g ∈ B, ltB n g.name = true), putGo n d false B = ⟨n, d⟩ :: B
  | [], _ => rfl
  | f :: C, h => by
    have hf := h f (by simp)
    have h2 : ∀ g ∈ C, ltB n g.name = true := fun g hg => h g (List.mem_cons_of_mem _ hg)
    simp [putGo, ltB_asymm hf, gt_ne hf, put_gt h2]
theorem any_lt {n : ByteArray} {A : List Fil} (h : ∀ f ∈ A, ltB f.name n = true) : A.any (fun f => decide (f.name = n)) = false := by
  rw [List.any_eq_false]
  intro f hf
  simp [lt_ne (h f hf)]
theorem any_gt {n : ByteArray} {A : List Fil} (h : ∀ f ∈ A, ltB n f.name = true) : A.any (fun f => decide (f.name = n)) = false := by
  rw [List.any_eq_false]
  intro f hf
  simp [gt_ne (h f hf)]
theorem filter_lt {n : ByteArray} {A : List Fil} (h : ∀ f ∈ A, ltB f.name n = true) : A.filter (fun f => !decide (f.name = n)) = A := List.filter_eq_self.2 fun f hf => by simp [lt_ne (h f hf)]
theorem filter_gt {n : ByteArray} {A : List Fil} (h : ∀ f ∈ A, ltB n f.name = true) : A.filter (fun f => !decide (f.name = n)) = A := List.filter_eq_self.2 fun f hf => by simp [gt_ne (h f hf)]
theorem find_lt {n : ByteArray} {A B : List Fil} (h : ∀ f ∈ A, ltB f.name n = true) : (A ++ B).find? (fun f => decide (f.name = n)) = B.find? (fun f => decide (f.name = n)) := by
  rw [List.find?_append, List.find?_eq_none.2 (fun f hf => by simp [lt_ne (h f hf)])]
  rfl
/-- Where a name stands, or would stand. -/
def posF (l : List Fil) (n : ByteArray) : Nat := (l.takeWhile fun f => ltB f.name n).length
theorem posF_app {n : ByteArray} {A B : List Fil} (hA : ∀ f ∈ A, ltB f.name n = true) (hB : ∀ f, B.head? = some f → ltB f.name n = false) : posF (A ++ B) n = A.length := by
  unfold posF
  rw [List.takeWhile_append_of_pos (by simpa using hA)]
  cases B with
  | nil => simp
  | cons f B => simp [hB f rfl]
/-- What stands where. -/
inductive At (l : List Fil) (n : ByteArray) : Prop where
  | yes (A : List Fil) (f : Fil) (C : List Fil) (e : l = A ++ f :: C) (hn : f.name = n) (hA : ∀ g ∈ A, ltB g.name n = true) (hC : ∀ g ∈ C, ltB n g.name = true) (hp : posF l n = A.length) (hh : hasF l n = true) (hd : datF l n = f.data)
  | no (A B : List Fil) (e : l = A ++ B) (hA : ∀ g ∈ A, ltB g.name n = true) (hB : ∀ g ∈ B, ltB n g.name = true) (hp : posF l n = A.length) (hh : hasF l n = false) (hd : datF l n = ⟨#[]⟩)
theorem srt_at {l : List Fil} (h : Srt l) (n : ByteArray) : At l n := by
  obtain ⟨A, B, rfl, hA, hB⟩ := srt_cut n h
  rcases hB with ⟨f, C, rfl, hf, hC⟩ | hB
  · refine .yes A f C rfl hf hA hC (posF_app hA (by simp [hf, ltB_irr])) ?_ ?_
    · simp [hasF, List.any_append, hf]
    · unfold datF
      rw [find_lt hA]
      simp [hf]
  · refine .no A B rfl hA hB (posF_app hA (fun f hf => ltB_asymm (hB f (List.mem_of_mem_head? hf)))) ?_ ?_
    · unfold hasF
      rw [List.any_append, any_lt hA, any_gt hB]
      rfl
    · unfold datF
      rw [find_lt hA, List.find?_eq_none.2 (fun f hf => by simp [gt_ne (hB f hf)])]
theorem put_yes {A C : List Fil} {f : Fil} {n d : ByteArray} (hn : f.name = n) (hA : ∀ g ∈ A, ltB g.name n = true) (hC : ∀ g ∈ C, ltB n g.name = true) : putF (A ++ f :: C) n d = A ++ ⟨n, d⟩ :: C := by rw [putF, put_lt hA, put_at hn hC]
theorem put_no {A B : List Fil} {n d : ByteArray} (hA : ∀ g ∈ A, ltB g.name n = true) (hB : ∀ g ∈ B, ltB n g.name = true) : putF (A ++ B) n d = A ++ ⟨n, d⟩ :: B := by rw [putF, put_lt hA, put_new hB]
theorem cut_yes {A C : List Fil} {f : Fil} {n : ByteArray} (hn : f.name = n) (hA : ∀ g ∈ A, ltB g.name n = true) (hC : ∀ g ∈ C, ltB n g.name = true) : cutF (A ++ f :: C) n = A ++ C := by
  simp only [cutF, List.filter_append, List.filter_cons, hn, decide_true, Bool.not_true, Bool.false_eq_true, if_false]
  rw [filter_lt hA, filter_gt hC]
theorem cut_no {A B : List Fil} {n : ByteArray} (hA : ∀ g ∈ A, ltB g.name n = true) (hB : ∀ g ∈ B, ltB n g.name = true) : cutF (A ++ B) n = A ++ B := by
  simp only [cutF, List.filter_append]
  rw [filter_lt hA, filter_gt hB]
/-! #### what stays right -/
theorem names_app {A B : List Fil} {n d : ByteArray} (h : ∀ f ∈ A ++ B, isFileB f.name = true) (hs : Srt (A ++ B)) (hn : isFileB n = true) (hA : ∀ g ∈ A, ltB g.name n = true) (hB : ∀ g ∈ B, ltB n g.name = true) : namesOk (A ++ ⟨n, d⟩ :: B) = true := by
  obtain ⟨h1, h2, h3⟩ := List.pairwise_append.1 hs
  refine namesOk_iff.2 ⟨List.pairwise_append.2 ⟨h1, List.pairwise_cons.2 ⟨fun g hg => hB g hg, h2⟩, fun a ha b hb => ?_⟩, fun f hf => ?_⟩
  · rcases List.mem_cons.1 hb with rfl | hb
    · exact hA a ha
    · exact h3 a ha b hb
  · rcases List.mem_append.1 hf with hf | hf
    · exact h f (by simp [hf])
    · rcases List.mem_cons.1 hf with rfl | hf
      · exact hn
      · exact h f (by simp [hf])
theorem srt_rm {A C : List Fil} {f : Fil} (h : Srt (A ++ f :: C)) : Srt (A ++ C) := by
  obtain ⟨h1, h2, h3⟩ := List.pairwise_append.1 h
  exact List.pairwise_append.2 ⟨h1, (List.pairwise_cons.1 h2).2, fun a ha b hb => h3 a ha b (List.mem_cons_of_mem _ hb)⟩
theorem names_put {l : List Fil} {n d : ByteArray} (h : namesOk l = true) (hn : isFileB n = true) : namesOk (putF l n d) = true := by
  obtain ⟨hs, hf⟩ := namesOk_iff.1 h
  cases srt_at hs n with
  | yes A f C e hfn hA hC =>
    subst e
    rw [put_yes hfn hA hC]
    exact names_app (fun g hg => hf g (by simp only [List.mem_append, List.mem_cons] at hg ⊢; exact hg.imp id .inr)) (srt_rm hs) hn hA hC
  | no A B e hA hB =>
    subst e
    rw [put_no hA hB]
    exact names_app hf hs hn hA hB
theorem names_cut {l : List Fil} {n : ByteArray} (h : namesOk l = true) : namesOk (cutF l n) = true := by
  obtain ⟨hs, hf⟩ := namesOk_iff.1 h
  exact namesOk_iff.2 ⟨hs.sublist List.filter_sublist, fun f hm => hf f (List.mem_filter.1 hm).1⟩
theorem form_name {op : DOp} (h : formF op = true) : isFileB op.name = true := by simp only [formF, Bool.and_eq_true] at h; exact h.1.1.1.2
theorem form_dest {op : DOp} (h : formF op = true) (hk : op.kind = 2) : isFileB op.dest = true := by simp only [formF, Bool.and_eq_true, beq_iff_eq] at h; rw [h.1.1.2]; simpa using hk
theorem names_done {l : List Fil} {op : DOp} (h : namesOk l = true) (hf : formF op = true) : namesOk (doneF l op).1 = true := by
  unfold doneF
  split
  · exact names_put h (form_name hf)
  · split
    · exact h
    · split
      · rename_i hk; exact names_put (names_cut h) (form_dest hf hk)
      · exact names_cut h
theorem files_done {l : List Fil} {op : DOp} (h : namesOk l = true) (hf : formF op = true) : filesOk (doneF l op).1 = fitF (doneF l op).1 := by simp [filesOk, names_done h hf]
theorem files_names {l : List Fil} (h : filesOk l = true) : namesOk l = true := by simp only [filesOk, Bool.and_eq_true] at h; exact h.1
theorem files_fit {l : List Fil} (h : filesOk l = true) : l.length ≤ 60 ∧ totF l ≤ 200000 := by simp only [filesOk, fitF, Bool.and_eq_true, decide_eq_true_eq] at h; exact h.2
theorem tot_mem {l : List Fil} {f : Fil} (h : f ∈ l) : f.data.size ≤ totF l := by
  unfold totF
  induction l with
  | nil => cases h
  | cons a l ih =>
    simp only [List.map_cons, List.sum_cons]
    rcases List.mem_cons.1 h with rfl | h
    · omega
    · have := ih h; omega
theorem dat_tot (l : List Fil) (n : ByteArray) : (datF l n).size ≤ totF l := by
  unfold datF
  cases h : l.find? (fun f => decide (f.name = n)) with
  | none => exact Nat.zero_le _
  | some f => exact tot_mem (List.mem_of_find?_eq_some h)
theorem replay_nil (l : List Fil) : replayF l [] = some l := rfl
theorem replay_names {l : List Fil} {ops : List DOp} {m : List Fil} (h : filesOk l = true) (hr : replayF l ops = some m) : filesOk m = true := by
  induction ops generalizing l with
  | nil => cases hr; exact h
  | cons op ops ih =>
    simp only [replayF] at hr
    split at hr
    · rename_i hc; exact ih hc.2.2 hr
    · cases hr
theorem pvF_snoc (l : List Fil) (e : Fil) : pvF l ++ [e.pv] = pvF (l ++ [e]) := by simp [pvF]
theorem pvD_snoc (l : List DOp) (e : DOp) : pvD l ++ [e.pv] = pvD (l ++ [e]) := by simp [pvD]
/-! #### for the walks -/
theorem tot_step {l : List Fil} {i : Nat} {e : Fil} (h : l[i]? = some e) : totF (l.take (i + 1)) = totF (l.take i) + e.data.size := by simp [totF, List.take_add_one, h]
theorem tot_app (a b : List Fil) : totF (a ++ b) = totF a + totF b := by simp [totF]
theorem tot_take (l : List Fil) (i : Nat) : totF (l.take i) ≤ totF l := by
  have := tot_app (l.take i) (l.drop i)
  rw [List.take_append_drop] at this
  omega
theorem tot_all {l : List Fil} {i : Nat} (h : l.length ≤ i) : totF (l.take i) = totF l := by rw [List.take_of_length_le h]
theorem files_long {l : List Fil} (h : 60 < l.length) : filesOk l = false := by
  simp only [filesOk, fitF, Bool.and_eq_false_iff, decide_eq_false_iff_not]
  exact .inr (.inl (by omega))
theorem files_no {l : List Fil} {i : Nat} {e : Fil} (he : l[i]? = some e) (h : okFil l i e = false) : filesOk l = false := by
  have := allIx_no he h
  simp only [filesOk, namesOk, this, Bool.false_and]
theorem files_yes {l : List Fil} {i : Nat} (hi : l.length ≤ i) (h : ∀ j e, j < i → l[j]? = some e → okFil l j e = true) : filesOk l = (decide (l.length ≤ 60) && decide (totF l ≤ 200000)) := by
  have := allIx_yes hi h
  simp only [filesOk, namesOk, this, Bool.true_and, fitF]
theorem okFil_bad {l : List Fil} {j : Nat} {e : Fil} (h : isFileB e.name = false) : okFil l j e = false := by simp [okFil, h]
theorem okFil_off {l : List Fil} {j : Nat} {x e : Fil} (hj : 0 < j) (hx : l[j - 1]? = some x) (h : ltB x.name e.name = false) : okFil l j e = false := by
  simp only [okFil, hx, h, Bool.or_false, Bool.and_eq_false_iff, decide_eq_false_iff_not]
  exact .inr (by omega)
theorem okFil_first {l : List Fil} {j : Nat} {e : Fil} (h : isFileB e.name = true) (hj : ¬ 0 < j) : okFil l j e = true := by
  have : j = 0 := by omega
  simp [okFil, h, this]
theorem okFil_next {l : List Fil} {j : Nat} {x e : Fil} (h : isFileB e.name = true) (hx : l[j - 1]? = some x) (hc : ltB x.name e.name = true) : okFil l j e = true := by simp [okFil, h, hx, hc]
theorem leq_f {a b : ByteArray} (h : (ltB a b || decide (a = b)) = true) : ltB b a = false := by
  simp only [Bool.or_eq_true, decide_eq_true_eq] at h
  rcases h with h | rfl
  · exact ltB_asymm h
  · exact ltB_irr a
theorem leq_t {a b : ByteArray} (h : (ltB a b || decide (a = b)) = false) : ltB b a = true := by
  simp only [Bool.or_eq_false_iff, decide_eq_false_iff_not] at h
  cases hb : ltB b a with
  | true => rfl
  | false => exact absurd (ltB_tot h.1 hb) h.2
theorem put_start {l : List Fil} {n d : ByteArray} : [] ++ putGo n d false (l.drop 0) = putF l n d := rfl
theorem drop_at {α : Type} {l : List α} {i : Nat} {e : α} (he : l[i]? = some e) : l.drop i = e :: l.drop (i + 1) := by
  have hlt := (List.getElem?_eq_some_iff.1 he).1
  rw [List.drop_eq_getElem_cons hlt, (List.getElem?_eq_some_iff.1 he).2]
theorem put_step {l out a b m : List Fil} {i : Nat} {e : Fil} {n d : ByteArray} {q q' : Bool} (he : l[i]? = some e) (h : out ++ putGo n d q (l.drop i) = m) (ha : a = if q = false ∧ ltB e.name n = false then [⟨n, d⟩] else []) (hb : b = if e.name = n then [] else [e]) (hq : q' = (q || !ltB e.name n)) : (out ++ a ++ b) ++ putGo n d q' (l.drop (i + 1)) = m := by
  rw [← h, drop_at he, putGo, ← ha, ← hb, ← hq]
  simp only [List.append_assoc]
theorem put_end {l out m : List Fil} {i : Nat} {n d : ByteArray} {q : Bool} (hi : l.length ≤ i) (h : out ++ putGo n d q (l.drop i) = m) : m = out ++ (if q then [] else [⟨n, d⟩]) := by
  rw [← h, List.drop_of_length_le hi]
  cases q <;> rfl
theorem cut_step {l out b m : List Fil} {i : Nat} {e : Fil} {n : ByteArray} (he : l[i]? = some e) (h : out ++ cutF (l.drop i) n = m) (hb : b = if e.name = n then [] else [e]) : (out ++ b) ++ cutF (l.drop (i + 1)) n = m := by
  subst hb
  rw [← h, drop_at he]
  by_cases hn : e.name = n <;> simp [hn, cutF]
theorem cut_end {l out m : List Fil} {i : Nat} {n : ByteArray} (hi : l.length ≤ i) (h : out ++ cutF (l.drop i) n = m) : m = out := by
  rw [← h, List.drop_of_length_le hi]
  simp [cutF]
theorem bytes_eq {a b : ByteArray} : a.toList = b.toList ↔ a = b := ⟨toList_inj, fun e => by rw [e]⟩
theorem empty_app (b : ByteArray) : (⟨#[]⟩ : ByteArray) ++ b = b := by
  cases b with | mk b =>
  apply congrArg ByteArray.mk
  simp
theorem idx_bnd {α : Type} {p : α → Bool} {l : List α} (h : 0 ≤ idxF p l) : (idxF p l).toNat < l.length := by
  unfold idxF at h ⊢
  cases hf : l.findIdx? p with
  | none => rw [hf] at h; simp at h
  | some q => simp only [Int.toNat_natCast]; exact (List.findIdx?_eq_some_iff_getElem.1 hf).1
def nameP (n : ByteArray) (f : Fil) : Bool := decide (f.name = n)
theorem dat_idx {l : List Fil} {n : ByteArray} {e : Fil} (h : 0 ≤ idxF (nameP n) l) (he : l[(idxF (nameP n) l).toNat]? = some e) : datF l n = e.data := by
  unfold idxF at h he
  cases hf : l.findIdx? (nameP n) with
  | none => rw [hf] at h; simp at h
  | some q =>
    rw [hf] at he
    simp only [Int.toNat_natCast] at he
    obtain ⟨h1, h2, h3⟩ := List.findIdx?_eq_some_iff_getElem.1 hf
    have hq : l.find? (nameP n) = some e := by
      rw [List.find?_eq_some_iff_getElem]
      obtain ⟨_, rfl⟩ := List.getElem?_eq_some_iff.1 he
      exact ⟨h2, q, h1, rfl, fun j hj => by simpa using h3 j hj⟩
    unfold datF
    rw [show l.find? (fun f => decide (f.name = n)) = some e from hq]
theorem has_idx (l : List Fil) (n : ByteArray) : decide ((0 : Int) ≤ idxF (nameP n) l) = hasF l n := idx_any _ _
theorem has_yes {l : List Fil} {n : ByteArray} (h : 0 ≤ idxF (nameP n) l) : hasF l n = true := by rw [← has_idx]; simpa using h
theorem has_no {l : List Fil} {n : ByteArray} (h : ¬ 0 ≤ idxF (nameP n) l) : hasF l n = false := by rw [← has_idx]; simpa using h
theorem dat_no {l : List Fil} {n : ByteArray} (h : hasF l n = false) : datF l n = ⟨#[]⟩ := by
  unfold datF
  rw [List.find?_eq_none.2 (fun f hf => by simpa using (List.any_eq_false.1 h) f hf)]
theorem cut_len (l : List Fil) (n : ByteArray) : (cutF l n).length ≤ l.length := List.length_filter_le _ _
theorem putGo_len (n d : ByteArray) : ∀ (l : List Fil) (q : Bool), (putGo n d q l).length ≤ l.length + (if q then 0 else 1)
  | [], q => by cases q <;> simp [putGo]
  | f :: l, q => by
    have h1 := putGo_len n d l true
    have h2 := putGo_len n d l false
    simp only [putGo, List.length_append, List.length_cons]
    cases q <;> cases ltB f.name n <;> by_cases hn : f.name = n <;> simp [hn] at h1 h2 ⊢ <;> omega
theorem put_len (l : List Fil) (n d : ByteArray) : (putF l n d).length ≤ l.length + 1 := putGo_len n d l false
theorem cut_tot (l : List Fil) (n : ByteArray) : totF (cutF l n) + (datF l n).size ≤ totF l := by
  induction l with
  | nil => exact Nat.le_refl _
  | cons f l ih =>
    by_cases hn : f.name = n
    · simp [cutF, totF, datF, hn] at ih ⊢
      have : ((l.filter fun f => !decide (f.name = n)).map fun f => f.data.size).sum ≤ (l.map fun f => f.data.size).sum := by omega
      omega
    · simp [cutF, totF, datF, hn] at ih ⊢
      omega
theorem putGo_tot (n d : ByteArray) : ∀ (l : List Fil) (q : Bool), totF (putGo n d q l) ≤ totF l + (if q then 0 else d.size)
  | [], q => by cases q <;> simp [putGo, totF]
  | f :: l, q => by
    have h1 := putGo_tot n d l true
    have h2 := putGo_tot n d l false
    simp only [putGo]
    cases q <;> cases ltB f.name n <;> by_cases hn : f.name = n <;> simp [hn, totF] at h1 h2 ⊢ <;> omega
theorem put_tot (l : List Fil) (n d : ByteArray) : totF (putF l n d) ≤ totF l + d.size := putGo_tot n d l false
theorem done_len (l : List Fil) (op : DOp) : (doneF l op).1.length ≤ l.length + 1 := by
  unfold doneF
  split
  · exact put_len _ _ _
  · split
    · exact Nat.le_succ _
    · split
      · have h1 := put_len (cutF l op.name) op.dest (datF l op.name); have h2 := cut_len l op.name; show (putF (cutF l op.name) op.dest (datF l op.name)).length ≤ _; omega
      · have h2 := cut_len l op.name; show (cutF l op.name).length ≤ _; omega
theorem size_app2 (a b : ByteArray) : (a ++ b).size = a.size + b.size := by simp
theorem done_tot (l : List Fil) (op : DOp) : totF (doneF l op).1 ≤ 2 * totF l + op.data.size := by
  have h0 := dat_tot l op.name
  unfold doneF
  split
  · have := put_tot l op.name (datF l op.name ++ op.data)
    rw [size_app2] at this
    show totF (putF l op.name (datF l op.name ++ op.data)) ≤ _
    omega
  · split
    · show totF l ≤ _; omega
    · split
      · have h1 := put_tot (cutF l op.name) op.dest (datF l op.name); have h2 := cut_tot l op.name; show totF (putF (cutF l op.name) op.dest (datF l op.name)) ≤ _; omega
      · have h2 := cut_tot l op.name; show totF (cutF l op.name) ≤ _; omega
/-! #### disks -/
theorem disk_no {d : Dsk} {now : List Fil} {i : Nat} {e : DOp} (hr : replayF now (d.ops.drop i) = replayF d.safe d.ops) (he : d.ops[i]? = some e) (h : ¬ (formF e = true ∧ (doneF now e).2 = true ∧ filesOk (doneF now e).1 = true)) : diskOk d = false := by
  rw [drop_at he, replayF, if_neg h] at hr
  simp [diskOk, ← hr]
theorem disk_next {d : Dsk} {now : List Fil} {i : Nat} {e : DOp} (hr : replayF now (d.ops.drop i) = replayF d.safe d.ops) (he : d.ops[i]? = some e) (h : formF e = true ∧ (doneF now e).2 = true ∧ filesOk (doneF now e).1 = true) : replayF (doneF now e).1 (d.ops.drop (i + 1)) = replayF d.safe d.ops := by
  rw [drop_at he, replayF, if_pos h] at hr
  exact hr
theorem disk_end {d : Dsk} {now : List Fil} {i : Nat} (hi : d.ops.length ≤ i) (hr : replayF now (d.ops.drop i) = replayF d.safe d.ops) (h1 : filesOk d.live = true) (h2 : filesOk d.safe = true) (h3 : d.ops.length ≤ 200) : diskOk d = decide (now = d.live) := by
  rw [List.drop_of_length_le hi, replayF] at hr
  simp [diskOk, h1, h2, h3, ← hr]
def dskZ : Dsk := ⟨[], [], []⟩
def actF (d : Dsk) (op : DOp) : Dsk × Int :=
  if formF op = false then (d, 2) else if (doneF d.live op).2 = false then (d, 3) else if d.ops.length = 200 ∨ filesOk (doneF d.live op).1 = false then (d, 4) else (⟨(doneF d.live op).1, d.safe, d.ops ++ [op]⟩, 0)
def doF (d : Dsk) (op : DOp) : Dsk × Int := if diskOk d = true then actF d op else (dskZ, 1)
def syncF (d : Dsk) : Dsk := if diskOk d = true then ⟨d.live, d.live, []⟩ else dskZ
def newB : ByteArray := ⟨#[46, 110, 101, 119]⟩
def rm0 (d : Dsk) (n : ByteArray) : Dsk × Int := if hasF d.live n = true then actF d ⟨3, n, ⟨#[]⟩, ⟨#[]⟩⟩ else (d, 0)
def go1 (s : Dsk × Int) (op : DOp) : Dsk × Int := if s.2 = 0 then actF s.1 op else s
def replF (d : Dsk) (name data : ByteArray) : Dsk × Int :=
  let s := go1 (go1 (rm0 d (name ++ newB)) ⟨1, name ++ newB, ⟨#[]⟩, data⟩) ⟨2, name ++ newB, name, ⟨#[]⟩⟩
  if s.2 = 0 then (s.1, 0) else (d, s.2)
def replaceF (d : Dsk) (name data : ByteArray) : Dsk × Int := if diskOk d = true then replF d name data else (dskZ, 1)
theorem pvF_app (a b : List Fil) : pvF a ++ pvF b = pvF (a ++ b) := by simp [pvF]
theorem pvD_app (a b : List DOp) : pvD a ++ pvD b = pvD (a ++ b) := by simp [pvD]
theorem within_1 : within 1 1 3 = true := rfl
theorem within_2 : within 2 1 3 = true := rfl
theorem isFile_nil : isFileB ⟨#[]⟩ = false := rfl
/-- Bounds of a disk. -/
structure DB (m : Nat) (d : Dsk) : Prop where
  l : d.live.length ≤ m
  s : d.safe.length ≤ m
  o : d.ops.length ≤ m
  tl : totF d.live ≤ m
  ts : totF d.safe ≤ m
theorem DB.up {m k : Nat} {d : Dsk} (h : DB m d) (hk : m ≤ k) : DB k d := ⟨Nat.le_trans h.l hk, Nat.le_trans h.s hk, Nat.le_trans h.o hk, Nat.le_trans h.tl hk, Nat.le_trans h.ts hk⟩
theorem act_db {m : Nat} {d : Dsk} {op : DOp} (h : DB m d) (ho : op.data.size ≤ m) (h1 : 1 ≤ m) : DB (3 * m) (actF d op).1 := by
  have h2 : DB (3 * m) d := h.up (by omega)
  unfold actF
  split
  · exact h2
  · split
    · exact h2
    · split
      · exact h2
      · have g1 := done_len d.live op; have g2 := done_tot d.live op; have g3 := h.l; have g4 := h.tl; have g5 := h.o
        exact ⟨by show (doneF d.live op).1.length ≤ _; omega, h2.s, by simp only [List.length_append, List.length_cons, List.length_nil]; omega, by show totF (doneF d.live op).1 ≤ _; omega, h2.ts⟩
theorem ok_db {d : Dsk} (h : diskOk d = true) : DB 200000 d := by
  simp only [diskOk, Bool.and_eq_true, decide_eq_true_eq] at h
  obtain ⟨g1, g2⟩ := files_fit h.1.1.1; obtain ⟨g3, g4⟩ := files_fit h.1.1.2
  exact ⟨by omega, by omega, by omega, g2, g4⟩
theorem act_1 {d : Dsk} {op : DOp} (h : formF op = false) : actF d op = (d, 2) := by rw [actF, if_pos h]
theorem act_2 {d : Dsk} {op : DOp} (h : formF op = true) (h2 : (doneF d.live op).2 = false) : actF d op = (d, 3) := by rw [actF, if_neg (by simp [h]), if_pos h2]
theorem act_3 {d : Dsk} {op : DOp} (h : formF op = true) (h2 : (doneF d.live op).2 = true) (h3 : d.ops.length = 200 ∨ filesOk (doneF d.live op).1 = false) : actF d op = (d, 4) := by rw [actF, if_neg (by simp [h]), if_neg (by simp [h2]), if_pos h3]
theorem act_4 {d : Dsk} {op : DOp} (h : formF op = true) (h2 : (doneF d.live op).2 = true) (h3 : ¬ d.ops.length = 200) (h4 : filesOk (doneF d.live op).1 = true) : actF d op = (⟨(doneF d.live op).1, d.safe, d.ops ++ [op]⟩, 0) := by rw [actF, if_neg (by simp [h]), if_neg (by simp [h2]), if_neg (by simp [h3, h4])]
theorem done_1 {l : List Fil} {op : DOp} (h : op.kind = 1) : doneF l op = (putF l op.name (datF l op.name ++ op.data), true) := by rw [doneF, if_pos h]
theorem done_2 {l : List Fil} {op : DOp} (h : ¬ op.kind = 1) (h2 : hasF l op.name = false) : doneF l op = (l, false) := by rw [doneF, if_neg h, if_pos h2]
theorem done_3 {l : List Fil} {op : DOp} (h : op.kind = 2) (h2 : hasF l op.name = true) : doneF l op = (putF (cutF l op.name) op.dest (datF l op.name), true) := by rw [doneF, if_neg (by omega), if_neg (by simp [h2]), if_pos h]
theorem done_4 {l : List Fil} {op : DOp} (h : ¬ op.kind = 1) (h' : ¬ op.kind = 2) (h2 : hasF l op.name = true) : doneF l op = (cutF l op.name, true) := by rw [doneF, if_neg h, if_neg (by simp [h2]), if_neg h']
def opRm (n : ByteArray) : DOp := ⟨3, n, ⟨#[]⟩, ⟨#[]⟩⟩
def opAp (n d : ByteArray) : DOp := ⟨1, n, ⟨#[]⟩, d⟩
def opMv (n t : ByteArray) : DOp := ⟨2, n, t, ⟨#[]⟩⟩
theorem repl_run {d : Dsk} {name data : ByteArray} {s0 s1 s2 : Dsk × Int} (h : diskOk d = true) (h0 : rm0 d (name ++ newB) = s0) (h1 : go1 s0 (opAp (name ++ newB) data) = s1) (h2 : go1 s1 (opMv (name ++ newB) name) = s2) : replaceF d name data = if s2.2 = 0 then (s2.1, 0) else (d, s2.2) := by
  subst h0 h1 h2
  rw [replaceF, if_pos h]
  rfl
theorem rm0_yes {d : Dsk} {n : ByteArray} (h : hasF d.live n = true) : rm0 d n = actF d (opRm n) := if_pos h
theorem rm0_no {d : Dsk} {n : ByteArray} (h : hasF d.live n = false) : rm0 d n = (d, 0) := if_neg (by simp [h])
theorem go1_yes {s : Dsk × Int} {op : DOp} (h : s.2 = 0) : go1 s op = actF s.1 op := if_pos h
theorem go1_no {s : Dsk × Int} {op : DOp} (h : ¬ s.2 = 0) : go1 s op = s := if_neg h
end Go.Rl

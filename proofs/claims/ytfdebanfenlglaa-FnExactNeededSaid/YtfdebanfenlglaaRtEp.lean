/- Entries: the program's marks of what is needed. -/
import Derived.Test.YtfdebanfenlglaaRtEo
namespace Go.Rl
def pvBo (l : List Bool) : List (List PV) := l.map fun b => [.v (.bool b)]
theorem pvBo_length (l : List Bool) : (pvBo l).length = l.length := by simp [pvBo]
theorem pvBo_get {l : List Bool} {i : Nat} {e : Bool} (h : l[i]? = some e) : (pvBo l)[i]? = some [.v (.bool e)] := by simp [pvBo, h]
theorem pvBo_flat (l : List Bool) : FlatP (pvBo l) := fun es he p hp => by
  obtain ⟨s, _, rfl⟩ := List.mem_map.1 he
  simp only [List.mem_singleton] at hp
  subst hp; rfl
def setK (n : List Bool) (j : Int) : List Bool := if 0 ≤ j then n.set j.toNat true else n
theorem setK_len (n : List Bool) (j : Int) : (setK n j).length = n.length := by
  unfold setK
  split <;> simp
theorem setK_get {n : List Bool} {j : Int} {k : Nat} : (setK n j)[k]? = (n[k]?).map fun b => b || decide (j = (k : Int)) := by
  unfold setK
  split
  · rw [List.getElem?_set]
    by_cases hk : j.toNat = k
    · have hj : j = (k : Int) := by omega
      rw [if_pos hk]
      by_cases hl : j.toNat < n.length
      · rw [if_pos hl, List.getElem?_eq_getElem (by omega : k < n.length)]
        simp [hj]
      · rw [if_neg hl, List.getElem?_eq_none (by omega)]
        rfl
    · have hj : ¬ j = (k : Int) := by omega
      rw [if_neg hk]
      cases n[k]? <;> simp [hj]
  · have hj : ¬ j = (k : Int) := by omega
    cases n[k]? <;> simp [hj]
def markPs (l : List Ent) (u : ByteArray) (ps : List Int) (n : List Bool) : List Bool := ps.foldl (fun n s => setK n (idxF (asOf u s) l)) n
theorem markPs_len (l : List Ent) (u : ByteArray) : ∀ (ps : List Int) (n : List Bool), (markPs l u ps n).length = n.length
  | [], _ => rfl
  | s :: ps, n => by
    show (markPs l u ps (setK n (idxF (asOf u s) l))).length = n.length
    rw [markPs_len l u ps, setK_len]
theorem markPs_get {l : List Ent} {u : ByteArray} {k : Nat} : ∀ {ps : List Int} {n : List Bool}, (markPs l u ps n)[k]? = (n[k]?).map fun b => b || ps.any fun s => decide (idxF (asOf u s) l = (k : Int))
  | [], n => by simp [markPs]
  | s :: ps, n => by
    show (markPs l u ps (setK n (idxF (asOf u s) l)))[k]? = _
    rw [markPs_get, setK_get]
    cases n[k]? <;> simp [Bool.or_assoc]
theorem markPs_snoc {l : List Ent} {u : ByteArray} {ps : List Int} {n : List Bool} {j : Nat} {s : Int} (h : ps[j]? = some s) : markPs l u (ps.take (j + 1)) n = setK (markPs l u (ps.take j) n) (idxF (asOf u s) l) := by
  simp [markPs, List.take_add_one, h]
def markUs (l : List Ent) (ps : List Int) (us : List ByteArray) (n : List Bool) : List Bool := us.foldl (fun n u => markPs l u ps n) n
theorem markUs_len (l : List Ent) (ps : List Int) : ∀ (us : List ByteArray) (n : List Bool), (markUs l ps us n).length = n.length
  | [], _ => rfl
  | u :: us, n => by
    show (markUs l ps us (markPs l u ps n)).length = n.length
    rw [markUs_len l ps us, markPs_len]
theorem markUs_get {l : List Ent} {ps : List Int} {k : Nat} : ∀ {us : List ByteArray} {n : List Bool}, (markUs l ps us n)[k]? = (n[k]?).map fun b => b || us.any fun u => ps.any fun s => decide (idxF (asOf u s) l = (k : Int))
  | [], n => by simp [markUs]
  | u :: us, n => by
    show (markUs l ps us (markPs l u ps n))[k]? = _
    rw [markUs_get, markPs_get]
    cases n[k]? <;> simp [Bool.or_assoc]
theorem markUs_snoc {l : List Ent} {ps : List Int} {us : List ByteArray} {n : List Bool} {j : Nat} {u : ByteArray} (h : us[j]? = some u) : markUs l ps (us.take (j + 1)) n = markPs l u ps (markUs l ps (us.take j) n) := by
  simp [markUs, List.take_add_one, h]
def marksF (l : List Ent) (ps : List Int) : List Bool := markUs l ps (usersF l) (List.replicate l.length false)
/-- The marks are what is needed. -/
theorem marksF_get {l : List Ent} {ps : List Int} (h : entsOk l = true) {k : Nat} {e : Ent} (he : l[k]? = some e) : (marksF l ps)[k]? = some (needP l ps k e) := by
  have hlt := (List.getElem?_eq_some_iff.1 he).1
  rw [marksF, markUs_get, List.getElem?_replicate, if_pos hlt, need_iff h he]
  simp
end Go.Rl

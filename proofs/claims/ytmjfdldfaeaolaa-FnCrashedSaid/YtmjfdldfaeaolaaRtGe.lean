/- Lists of structs: how the laws' helpers weigh, copy, compare, mark and hold them. -/
import Derived.Test.YtmjfdldfaeaolaaRtDom
namespace Go.Rl
section
variable {α : Type} {f : α → List PV} {z : List PV}
theorem g_get {l : List α} {i : Nat} {e : α} (h : l[i]? = some e) : (l.map f)[i]? = some (f e) := by simp [h]
/-! #### copies -/
theorem gto_zero {l : List α} : List.replicate (l.map f).length z = (l.take 0).map f ++ List.replicate (l.length - 0) z := by simp
theorem gto_get {l : List α} {i : Nat} (h : i < l.length) : ((l.take i).map f ++ List.replicate (l.length - i) z)[i]? = some z := by
  rw [List.getElem?_append_right (by simp; omega)]
  simp [List.getElem?_replicate]
  omega
theorem gto_step {l : List α} {i : Nat} {e : α} (he : l[i]? = some e) (ho : over z 0 (f e) = f e) : ((l.take i).map f ++ List.replicate (l.length - i) z).set i (over z 0 (f e)) = (l.take (i + 1)).map f ++ List.replicate (l.length - (i + 1)) z := by
  have hlt := (List.getElem?_eq_some_iff.1 he).1
  rw [ho]
  have hl : ((l.take i).map f).length = i := by simp; omega
  rw [List.set_append_right _ _ (by omega), hl, Nat.sub_self]
  have : l.length - i = (l.length - (i + 1)) + 1 := by omega
  rw [this, List.replicate_succ, List.set_cons_zero]
  simp [List.take_add_one, he]
theorem gto_all {l : List α} {i : Nat} (h : l.length ≤ i) : (l.take i).map f ++ List.replicate (l.length - i) z = l.map f := by
  rw [List.take_of_length_le h, show l.length - i = 0 by omega]
  simp
theorem gto_flat {l : List α} {n : Nat} (hf : FlatP (l.map f)) (hz : ∀ p ∈ z, PV.isV p = true) : FlatP (l.map f ++ List.replicate n z) := fun es he p hp => by
  rcases List.mem_append.1 he with he | he
  · exact hf es he p hp
  · rw [List.eq_of_mem_replicate he] at hp
    exact hz p hp
/-! #### equality -/
theorem glist_ne {a b : List α} {i : Nat} {x y : α} (h1 : a[i]? = some x) (h2 : b[i]? = some y) (h : x ≠ y) : a ≠ b := fun e => by
  subst e; rw [h1] at h2; cases h2; exact h rfl
theorem glist_all {a b : List α} {i : Nat} (hl : a.length = b.length) (hi : a.length ≤ i) (h : ∀ j, j < i → a[j]? = b[j]?) : a = b := by
  apply List.ext_getElem?
  intro j
  rcases Nat.lt_or_ge j i with h1 | h1
  · exact h j h1
  · rw [List.getElem?_eq_none (by omega), List.getElem?_eq_none (by omega)]
theorem glist_step {a b : List α} {i : Nat} {x y : α} (h : ∀ j, j < i → a[j]? = b[j]?) (h1 : a[i]? = some x) (h2 : b[i]? = some y) (e : x = y) : ∀ j, j < i + 1 → a[j]? = b[j]? := fun j hj => by
  by_cases hji : j = i
  · subst hji; rw [h1, h2, e]
  · exact h j (by omega)
/-! #### weights -/
/-- What is left of x behind a weight n; -1: nothing. -/
def szOne (n : Nat) (x : Int) : Int := if x - (n : Int) < 0 then -1 else x - (n : Int)
def szL (w : α → Nat) : List α → Int → Int
  | [], x => x
  | e :: l, x => if x - (w e : Int) < 0 then -1 else szL w l (x - (w e : Int))
def szS (w : α → Nat) (l : List α) (x : Int) : Int := if x - (l.length : Int) < 0 then -1 else szL w l (x - (l.length : Int))
variable {w : α → Nat}
theorem gsz_cons {l : List α} {i : Nat} {e : α} (he : l[i]? = some e) (x : Int) : szL w (l.drop i) x = if x - (w e : Int) < 0 then -1 else szL w (l.drop (i + 1)) (x - (w e : Int)) := by
  have hlt := (List.getElem?_eq_some_iff.1 he).1
  have : l.drop i = e :: l.drop (i + 1) := by
    rw [List.drop_eq_getElem_cons hlt, (List.getElem?_eq_some_iff.1 he).2]
  rw [this, szL]
theorem gsz_next {l : List α} {i : Nat} {e : α} {x y : Int} (he : l[i]? = some e) (h2 : 0 ≤ x ∧ x ≤ 1048576) (h3 : ¬ szOne (w e) x < 0) (h : y = szL w (l.drop i) x) : (0 ≤ szOne (w e) x ∧ szOne (w e) x ≤ 1048576) ∧ y = szL w (l.drop (i + 1)) (szOne (w e) x) := by
  rw [gsz_cons he] at h
  by_cases hx : x - (w e : Int) < 0
  · simp [szOne, hx] at h3
  · rw [if_neg hx] at h
    simp only [szOne, if_neg hx] at h3 ⊢
    exact ⟨by omega, h⟩
theorem gsz_stop {l : List α} {i : Nat} {e : α} {x y : Int} (he : l[i]? = some e) (h3 : szOne (w e) x < 0) (h2 : 0 ≤ x) (h : y = szL w (l.drop i) x) : y = -1 := by
  rw [h, gsz_cons he, if_pos]
  unfold szOne at h3
  split at h3
  · assumption
  · omega
theorem gsz_end {l : List α} {i : Nat} {x y : Int} (hi : l.length ≤ i) (h : y = szL w (l.drop i) x) : y = x := by rw [h, List.drop_of_length_le hi]; rfl
theorem gsz_len {l : List α} {x : Int} (h : ¬ szS w l x < 0) : (l.length : Int) ≤ x := by
  unfold szS at h
  split at h
  · omega
  · omega
theorem szOne_two {a b : Nat} {x : Int} (h : ¬ szOne a x < 0) : szOne b (szOne a x) = szOne (a + b) x := by
  unfold szOne at h ⊢
  by_cases h1 : x - (a : Int) < 0
  · simp [h1] at h
  · rw [if_neg h1]
    have : x - (a : Int) - (b : Int) = x - ((a + b : Nat) : Int) := by omega
    rw [this]
theorem szOne_neg {a b : Nat} {x : Int} (h : szOne a x < 0) : szOne (a + b) x = -1 := by
  unfold szOne at h ⊢
  split at h
  · rw [if_pos (by omega)]
  · omega
theorem szOne_lt {n : Nat} {x : Int} (h : x - (n : Int) < 0) : -1 = szOne n x := by rw [szOne, if_pos h]
theorem szOne_ge {n : Nat} {x y : Int} (h : 0 ≤ x - (n : Int) ∧ y = x - (n : Int)) : y = szOne n x := by rw [szOne, if_neg (by omega)]; exact h.2
theorem szL_val (w : α → Nat) : ∀ (l : List α) (x : Int), 0 ≤ x → ¬ szL w l x < 0 → szL w l x = x - ((l.map w).sum : Nat)
  | [], x, _, _ => by simp [szL]
  | e :: l, x, hx, h => by
    rw [szL] at h ⊢
    split at h
    · omega
    · rename_i h1
      rw [if_neg h1, szL_val w l _ (by omega) h]
      simp only [List.map_cons, List.sum_cons]
      omega
theorem szS_val {w : α → Nat} {l : List α} {x : Int} (h : ¬ szS w l x < 0) : szS w l x = x - (l.length : Int) - ((l.map w).sum : Nat) := by
  unfold szS at h ⊢
  split at h
  · omega
  · rename_i h1
    rw [if_neg h1]
    exact szL_val w l _ (by omega) h
theorem sum_mem {w : α → Nat} {l : List α} {e : α} (h : e ∈ l) : w e ≤ (l.map w).sum := by
  induction l with
  | nil => cases h
  | cons a l ih =>
    simp only [List.map_cons, List.sum_cons]
    rcases List.mem_cons.1 h with rfl | h
    · omega
    · have := ih h; omega
theorem sum_le {w v : α → Nat} (h : ∀ e, v e ≤ w e) (l : List α) : (l.map v).sum ≤ (l.map w).sum := by
  induction l with
  | nil => exact Nat.le_refl _
  | cons a l ih =>
    simp only [List.map_cons, List.sum_cons]
    have := h a
    omega
/-! #### marks -/
def marksG (mk : Nat → Nat → α) (k n : Nat) : List α := (List.range n).map (mk k)
variable {mk : Nat → Nat → α} {k : Nat}
theorem gm_len (n : Nat) : (marksG mk k n).length = n := by simp [marksG]
theorem gm_get {n i : Nat} (h : i < n) : (marksG mk k n)[i]? = some (mk k i) := by simp [marksG, h]
theorem gmc_get {i : Nat} {l : List α} {e : α} (h : l[i]? = some e) : ((marksG mk k i ++ l.drop i).map f)[i]? = some (f e) := by
  simp [List.getElem?_append_right, gm_len, h]
theorem gmc_step {i : Nat} {l : List α} {e : α} (h : l[i]? = some e) : ((marksG mk k i ++ l.drop i).map f).set i (f (mk k i)) = (marksG mk k (i + 1) ++ l.drop (i + 1)).map f := by
  have hlt := (List.getElem?_eq_some_iff.1 h).1
  have hd : l.drop i = e :: l.drop (i + 1) := by rw [List.drop_eq_getElem_cons hlt, (List.getElem?_eq_some_iff.1 h).2]
  rw [hd]
  simp only [List.map_append, List.map_cons]
  rw [List.set_append_right _ _ (by simp [gm_len]), List.length_map, gm_len, Nat.sub_self, List.set_cons_zero]
  simp [marksG, List.range_succ]
theorem gmc_all {i : Nat} {l : List α} (h : l.length ≤ i) (h2 : i ≤ l.length) : marksG mk k i ++ l.drop i = marksG mk k l.length := by
  have : i = l.length := by omega
  subst this
  simp
theorem gheld_ne {i : Nat} {l : List α} {e : α} (h : l[i]? = some e) (hne : e ≠ mk k i) : l ≠ marksG mk k l.length := fun he => by
  have h2 := gm_get (mk := mk) (k := k) (List.getElem?_eq_some_iff.1 h).1
  rw [← he, h] at h2
  exact hne (Option.some.inj h2)
theorem gheld_all {i : Nat} {l : List α} (h : l.length ≤ i) (h2 : ∀ j e, j < i → l[j]? = some e → e = mk k j) : l = marksG mk k l.length := by
  apply List.ext_getElem?
  intro j
  rcases Nat.lt_or_ge j l.length with h1 | h1
  · rw [gm_get h1, List.getElem?_eq_getElem h1, h2 j _ (by omega) (List.getElem?_eq_getElem h1)]
  · rw [List.getElem?_eq_none h1, List.getElem?_eq_none (by rw [gm_len]; exact h1)]
theorem gheld_step {i : Nat} {l : List α} {e : α} (h2 : ∀ j e, j < i → l[j]? = some e → e = mk k j) (h : l[i]? = some e) (hm : e = mk k i) : ∀ j e, j < i + 1 → l[j]? = some e → e = mk k j := fun j e' hj he => by
  by_cases hji : j = i
  · subst hji
    rw [h] at he
    cases he
    exact hm
  · exact h2 j e' (by omega) he
def heldG [DecidableEq α] (mk : Nat → Nat → α) (c k : Nat) (l : List α) : Int := if l = marksG mk k l.length then ((k + c * l.length : Nat) : Int) else -1
theorem gheld_self [DecidableEq α] (mk : Nat → Nat → α) (c k n : Nat) : heldG mk c k (marksG mk k n) = ((k + c * n : Nat) : Int) := by simp [heldG, gm_len]
end
/-! #### numbers -/
def pvI (l : List Int) : List (List PV) := l.map fun n => [.v (.int .i64 n)]
theorem pvI_length (l : List Int) : (pvI l).length = l.length := by simp [pvI]
theorem pvI_get {l : List Int} {i : Nat} {e : Int} (h : l[i]? = some e) : (pvI l)[i]? = some [.v (.int .i64 e)] := by simp [pvI, h]
theorem pvI_flat (l : List Int) : FlatP (pvI l) := fun es he p hp => by
  obtain ⟨s, _, rfl⟩ := List.mem_map.1 he
  simp only [List.mem_cons, List.not_mem_nil, or_false] at hp
  rcases hp with rfl; rfl
def pvT (l : List ByteArray) : List (List PV) := l.map fun n => [.v (.string n)]
theorem pvT_length (l : List ByteArray) : (pvT l).length = l.length := by simp [pvT]
theorem pvT_get {l : List ByteArray} {i : Nat} {e : ByteArray} (h : l[i]? = some e) : (pvT l)[i]? = some [.v (.string e)] := by simp [pvT, h]
theorem pvT_flat (l : List ByteArray) : FlatP (pvT l) := fun es he p hp => by
  obtain ⟨s, _, rfl⟩ := List.mem_map.1 he
  simp only [List.mem_cons, List.not_mem_nil, or_false] at hp
  rcases hp with rfl; rfl
def markN (k i : Nat) : Int := ((k + 1 * i : Nat) : Int)
end Go.Rl

/- Go's library at lists of structs: Delete, BinarySearchFunc. -/
import Derived.Test.YtmjfdldfaeaolaaRtGe
namespace Go.Rl
section
variable {X : List (List PV)} {k : Nat} {z : List PV}
/-- How long a row is when its k-th element is gone. -/
abbrev delL (X : List (List PV)) (k : Nat) : Nat := k + (X.length - (k + 1))
theorem gdel_len (hk : k < X.length) : (X.take k ++ X.drop (k + 1) ++ X.drop (k + (X.length - (k + 1)))).length = X.length := by
  simp only [List.length_append, List.length_take, List.length_drop]
  omega
theorem gdel_flat {a b c : Nat} (hX : FlatP X) : FlatP (X.take a ++ X.drop b ++ X.drop c) := fun es he p hp => by
  rcases List.mem_append.1 he with he | he
  · rcases List.mem_append.1 he with he | he
    · exact hX es (List.mem_of_mem_take he) p hp
    · exact hX es (List.mem_of_mem_drop he) p hp
  · exact hX es (List.mem_of_mem_drop he) p hp
theorem gdel_flat2 {a b c d n : Nat} (hX : FlatP X) (hz : ∀ p ∈ z, PV.isV p = true) : ∀ es ∈ (X.take a ++ X.drop b ++ X.drop c).take d ++ List.replicate n z, ∀ p ∈ es, (match p with | .v _ => true | _ => false) = true := fun es he p hp => by
  have : PV.isV p = true := by
    rcases List.mem_append.1 he with he | he
    · exact gdel_flat hX es (List.mem_of_mem_take he) p hp
    · rw [List.eq_of_mem_replicate he] at hp
      exact hz p hp
  cases p <;> first | rfl | cases this
theorem gdel_le (hk : k < X.length) : k + (X.length - (k + 1)) ≤ ((X.take k ++ X.drop (k + 1) ++ X.drop (k + (X.length - (k + 1)))).take (k + (X.length - (k + 1))) ++ List.replicate (X.length - (k + (X.length - (k + 1)))) z).length := by
  simp only [List.length_append, List.length_take, List.length_drop, List.length_replicate]
  omega
theorem gdel_eq (hk : k < X.length) : ((X.take k ++ X.drop (k + 1) ++ X.drop (k + (X.length - (k + 1)))).take (k + (X.length - (k + 1))) ++ List.replicate (X.length - (k + (X.length - (k + 1)))) z).take (k + (X.length - (k + 1))) = X.eraseIdx k := by
  have hA : (X.take k ++ X.drop (k + 1)).length = k + (X.length - (k + 1)) := by
    simp only [List.length_append, List.length_take, List.length_drop]; omega
  have hB : ((X.take k ++ X.drop (k + 1) ++ X.drop (k + (X.length - (k + 1)))).take (k + (X.length - (k + 1)))) = X.take k ++ X.drop (k + 1) := by
    rw [← hA, List.take_left]
  rw [hB, List.take_append_of_le_length (by omega), List.take_of_length_le (by omega), List.eraseIdx_eq_take_drop_succ]
end
theorem map_erase {α β : Type} (f : α → β) (l : List α) (k : Nat) : (l.map f).eraseIdx k = (l.eraseIdx k).map f := by
  simp [List.eraseIdx_eq_take_drop_succ, List.map_take, List.map_drop]
/-! #### search -/
/-- How many stand ahead: where p, true of a beginning, turns false. -/
def cntF {α : Type} (p : α → Bool) (l : List α) : Nat := (l.takeWhile p).length
theorem cnt_le {α : Type} (p : α → Bool) (l : List α) : cntF p l ≤ l.length := by
  unfold cntF
  induction l with
  | nil => exact Nat.le_refl _
  | cons a l ih =>
    cases h : p a with
    | true => simp [List.takeWhile_cons, h] at ih ⊢; exact ih
    | false => simp [List.takeWhile_cons, h]
/-- p is true of a beginning alone. -/
def MonoP {α : Type} (p : α → Bool) (l : List α) : Prop := ∀ (i j : Nat) x y, i ≤ j → l[i]? = some x → l[j]? = some y → p y = true → p x = true
theorem cnt_at {α : Type} {p : α → Bool} : ∀ {l : List α} {i : Nat}, i ≤ l.length → (∀ (j : Nat) x, j < i → l[j]? = some x → p x = true) → (∀ x, l[i]? = some x → p x = false) → cntF p l = i
  | [], i, h, _, _ => by simp at h; subst h; rfl
  | a :: l, 0, _, _, h => by
    have := h a rfl
    simp [cntF, List.takeWhile_cons, this]
  | a :: l, i + 1, hi, h1, h2 => by
    have ha := h1 0 a (by omega) rfl
    have ih := cnt_at (p := p) (l := l) (i := i) (by simpa using hi) (fun j x hj hx => h1 (j + 1) x (by omega) (by simpa using hx)) (fun x hx => h2 x (by simpa using hx))
    simp only [cntF, List.takeWhile_cons, ha, if_true, List.length_cons] at ih ⊢
    omega
/-- The two bounds of a search by halves. -/
def Halves {α : Type} (p : α → Bool) (l : List α) (i j : Nat) : Prop := (∀ (k : Nat) x, k < i → l[k]? = some x → p x = true) ∧ ∀ (k : Nat) x, j ≤ k → l[k]? = some x → p x = false
theorem halves_start {α : Type} {p : α → Bool} {l : List α} : Halves p l 0 l.length := ⟨fun _ _ h => absurd h (Nat.not_lt_zero _), fun k x hk hx => by have := (List.getElem?_eq_some_iff.1 hx).1; omega⟩
theorem halves_up {α : Type} {p : α → Bool} {l : List α} {i j m : Nat} {x : α} (hm : MonoP p l) (h : Halves p l i j) (hx : l[m]? = some x) (hp : p x = true) : Halves p l (m + 1) j :=
  ⟨fun k y hk hy => hm k m y x (by omega) hy hx hp, h.2⟩
theorem halves_down {α : Type} {p : α → Bool} {l : List α} {i j m : Nat} {x : α} (hm : MonoP p l) (h : Halves p l i j) (hx : l[m]? = some x) (hp : p x = false) : Halves p l i m :=
  ⟨h.1, fun k y hk hy => by
    cases hy' : p y with
    | false => rfl
    | true => have := hm m k x y hk hx hy hy'; rw [hp] at this; cases this⟩
theorem halves_end {α : Type} {p : α → Bool} {l : List α} {i j : Nat} (hi : i ≤ l.length) (hij : j ≤ i) (h : Halves p l i j) : cntF p l = i := cnt_at hi (fun k x hk hx => h.1 k x hk hx) (fun x hx => h.2 i x hij hx)
theorem shr_one (n : Nat) (h : n ≤ 9000000000000000000) : IntKind.i64.wrap (Int.fdiv (IntKind.u64.wrap (n : Int)) (2 ^ min (1:Int).toNat IntKind.u64.bits)) = ((n / 2 : Nat) : Int) := by
  have h1 : IntKind.u64.wrap (n : Int) = (n : Int) := by
    simp [IntKind.wrap, IntKind.signed, IntKind.bits]
    omega
  rw [h1]
  have h2 : ((2 : Int) ^ min (1:Int).toNat IntKind.u64.bits) = 2 := by decide
  rw [h2]
  have h3 : Int.fdiv (n : Int) 2 = ((n / 2 : Nat) : Int) := by
    rw [Int.fdiv_eq_ediv_of_nonneg _ (by decide)]
    omega
  rw [h3, IntKind.wrap_i64]
  omega
end Go.Rl

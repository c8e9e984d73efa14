/- The reader of a code: what its draws are. -/
import Derived.Test.YtmjfdldfaeaolaaRlY
import Derived.Test.YtmjfdldfaeaolaaRtDom
import Derived.Test.YtmjfdldfaeaolaaRtGe
namespace Go.Rl
def pvRd (x : Value × Nat) : List (List PV) := [[.v x.1, .v (.int .i64 x.2)]]
theorem pvRd_flat (x : Value × Nat) : FlatP (pvRd x) := fun es he p hp => by
  simp only [pvRd, List.mem_singleton] at he
  subst he
  simp only [List.mem_cons, List.not_mem_nil, or_false] at hp
  rcases hp with rfl | rfl <;> rfl
theorem pvRd_length (x : Value × Nat) : (pvRd x).length = 1 := rfl
theorem pvRd_clean {a b : Value} : ∀ p ∈ ([.v a, .v b] : List PV), Clean p := fun p hp => by
  simp only [List.mem_cons, List.not_mem_nil, or_false] at hp
  rcases hp with rfl | rfl <;> exact .v _
/-- The next byte, and the place behind it. -/
def nextV (bs : List Nat) (p : Nat) : Nat := bs.getD p 0
def nextP (bs : List Nat) (p : Nat) : Nat := if p < bs.length then p + 1 else p
theorem next_end {bs : List Nat} {p : Nat} (h : bs.length ≤ p) : nextV bs p = 0 ∧ nextP bs p = p := by
  refine ⟨?_, by rw [nextP, if_neg (by omega)]⟩
  simp [nextV, List.getD_eq_getElem?_getD, List.getElem?_eq_none h]
theorem next_in {bs : List Nat} {p : Nat} {b : Nat} (h : bs[p]? = some b) : nextV bs p = b ∧ nextP bs p = p + 1 := by
  refine ⟨by simp [nextV, List.getD_eq_getElem?_getD, h], by rw [nextP, if_pos (List.getElem?_eq_some_iff.1 h).1]⟩
theorem nextP_le {bs : List Nat} {p : Nat} (h : p ≤ bs.length) : nextP bs p ≤ bs.length := by unfold nextP; split <;> omega
theorem code_bytes {γ : Gho} {cv : Value} {bs : List Nat} (h : CodeAt γ cv bs) : ∀ b ∈ bs, b < 256 := fun b hb => by
  obtain ⟨A, c, _, h⟩ := h
  rcases h with rfl | ⟨k, off, cur, ty, fz, _, _, h⟩
  · cases hb
  · obtain ⟨i, hi⟩ := List.getElem?_of_mem hb
    exact (h i b hi).1
theorem nextV_lt {bs : List Nat} (h : ∀ b ∈ bs, b < 256) (p : Nat) : nextV bs p < 256 := by
  unfold nextV
  rw [List.getD_eq_getElem?_getD]
  cases hp : bs[p]? with
  | none => decide
  | some b => exact h b (List.mem_of_getElem? hp)
def belowV (bs : List Nat) (p n : Nat) : Nat := if n ≤ 1 then 0 else if n ≤ 256 then nextV bs p % n else (nextV bs p * 256 + nextV bs (nextP bs p)) % n
def belowP (bs : List Nat) (p n : Nat) : Nat := if n ≤ 1 then p else if n ≤ 256 then nextP bs p else nextP bs (nextP bs p)
theorem belowP_le {bs : List Nat} {p n : Nat} (h : p ≤ bs.length) : belowP bs p n ≤ bs.length := by
  unfold belowP
  split
  · exact h
  · split
    · exact nextP_le h
    · exact nextP_le (nextP_le h)
theorem belowV_lt {bs : List Nat} {p n : Nat} (h : 0 < n) : belowV bs p n < n := by
  unfold belowV
  split
  · exact h
  · split <;> exact Nat.mod_lt _ h
theorem below_1 {bs : List Nat} {p n : Nat} (h : n ≤ 1) : belowV bs p n = 0 ∧ belowP bs p n = p := by simp [belowV, belowP, h]
theorem below_2 {bs : List Nat} {p n : Nat} (h1 : ¬ n ≤ 1) (h : n ≤ 256) : belowV bs p n = nextV bs p % n ∧ belowP bs p n = nextP bs p := by simp [belowV, belowP, h, h1]
theorem below_3 {bs : List Nat} {p n : Nat} (h1 : ¬ n ≤ 1) (h : ¬ n ≤ 256) : belowV bs p n = (nextV bs p * 256 + nextV bs (nextP bs p)) % n ∧ belowP bs p n = nextP bs (nextP bs p) := by simp [belowV, belowP, h, h1]
/-- A word of eight bytes. -/
def wordStep (x : Int) (v : Nat) : Int := bitsOf .or .u64 (IntKind.u64.wrap (x * 2 ^ min (8 : Int).toNat IntKind.u64.bits)) (IntKind.u64.wrap (v : Int))
def wordF (bs : List Nat) : Nat → Int → Nat → Int × Nat
  | 0, x, p => (x, p)
  | n + 1, x, p => wordF bs n (wordStep x (nextV bs p)) (nextP bs p)
theorem wordF_le {bs : List Nat} : ∀ (n : Nat) (x : Int) (p : Nat), p ≤ bs.length → (wordF bs n x p).2 ≤ bs.length
  | 0, _, _, h => h
  | n + 1, x, p, h => wordF_le n _ _ (nextP_le h)
def wordV (bs : List Nat) (p : Nat) : Int := (wordF bs 8 0 p).1
def wordP (bs : List Nat) (p : Nat) : Nat := (wordF bs 8 0 p).2
theorem wordP_le {bs : List Nat} {p : Nat} (h : p ≤ bs.length) : wordP bs p ≤ bs.length := wordF_le 8 0 p h
def nearV (bs : List Nat) (p : Nat) (low high : Int) : Int :=
  if belowV bs p 8 = 0 then low else if belowV bs p 8 = 1 then high else if high < low then low
  else IntKind.i64.wrap (low + IntKind.i64.wrap (((wordV bs (belowP bs p 8)).fdiv (2 ^ min (1 : Int).toNat IntKind.u64.bits)).tmod (IntKind.u64.wrap (high - low + 1))))
def nearP (bs : List Nat) (p : Nat) (low high : Int) : Nat :=
  if belowV bs p 8 = 0 then belowP bs p 8 else if belowV bs p 8 = 1 then belowP bs p 8 else if high < low then belowP bs p 8 else wordP bs (belowP bs p 8)
theorem near_a {bs : List Nat} {p : Nat} {low high : Int} (h : belowV bs p 8 = 0) : nearV bs p low high = low ∧ nearP bs p low high = belowP bs p 8 := by simp [nearV, nearP, h]
theorem near_b {bs : List Nat} {p : Nat} {low high : Int} (h : belowV bs p 8 = 1) : nearV bs p low high = high ∧ nearP bs p low high = belowP bs p 8 := by simp [nearV, nearP, h]
theorem near_c {bs : List Nat} {p : Nat} {low high : Int} (h0 : belowV bs p 8 ≠ 0) (h1 : belowV bs p 8 ≠ 1) (h : high < low) : nearV bs p low high = low ∧ nearP bs p low high = belowP bs p 8 := by simp [nearV, nearP, h, h0, h1]
theorem near_d {bs : List Nat} {p : Nat} {low high : Int} (h0 : belowV bs p 8 ≠ 0) (h1 : belowV bs p 8 ≠ 1) (h : ¬ high < low) : nearV bs p low high = IntKind.i64.wrap (low + IntKind.i64.wrap (((wordV bs (belowP bs p 8)).fdiv (2 ^ min (1 : Int).toNat IntKind.u64.bits)).tmod (IntKind.u64.wrap (high - low + 1)))) ∧ nearP bs p low high = wordP bs (belowP bs p 8) := by
  simp only [nearV, nearP, if_neg h0, if_neg h1, if_neg h, and_self]
theorem nearP_le {bs : List Nat} {p : Nat} {low high : Int} (h : p ≤ bs.length) : nearP bs p low high ≤ bs.length := by
  have h1 := belowP_le (n := 8) h
  unfold nearP
  split
  · exact h1
  · split
    · exact h1
    · split
      · exact h1
      · exact wordP_le h1
def onceV (bs : List Nat) (p n : Nat) : Bool := decide (belowV bs p n = n - 1)
def offL (low high : Int) : List Int := [low - 1, high + 1, -9223372036854775808, 9223372036854775807]
def offV (bs : List Nat) (p : Nat) (low high : Int) : Int :=
  if onceV bs p 24 = true then (offL low high).getD (belowV bs (belowP bs p 24) 4) 0 else nearV bs (belowP bs p 24) low high
def offP (bs : List Nat) (p : Nat) (low high : Int) : Nat :=
  if onceV bs p 24 = true then belowP bs (belowP bs p 24) 4 else nearP bs (belowP bs p 24) low high
theorem offP_le {bs : List Nat} {p : Nat} {low high : Int} (h : p ≤ bs.length) : offP bs p low high ≤ bs.length := by
  unfold offP
  split
  · exact belowP_le (belowP_le h)
  · exact nearP_le (belowP_le h)
theorem getD_some {α : Type} {l : List α} {k : Nat} {d : α} (h : k < l.length) : l[k]? = some (l.getD k d) := by
  rw [List.getD_eq_getElem?_getD, List.getElem?_eq_getElem h]
  rfl
def usersL : List ByteArray := [⟨#[97]⟩, ⟨#[98]⟩, ⟨#[97, 98]⟩, ⟨#[97, 98, 99]⟩, ⟨#[97, 98, 100]⟩, ⟨#[107, 101, 121]⟩, ⟨#[107, 101, 121, 49]⟩, ⟨#[107, 101, 121, 50]⟩, ⟨#[122, 122]⟩, ⟨#[97, 0]⟩]
def userV (bs : List Nat) (p : Nat) : ByteArray := usersL.getD (belowV bs p 10) ⟨#[]⟩
def userP (bs : List Nat) (p : Nat) : Nat := belowP bs p 10
theorem user_get (bs : List Nat) (p : Nat) : usersL[belowV bs p 10]? = some (userV bs p) := getD_some (belowV_lt (n := 10) (by decide))
theorem off_get (bs : List Nat) (p : Nat) (low high : Int) : (offL low high)[belowV bs p 4]? = some ((offL low high).getD (belowV bs p 4) 0) := getD_some (belowV_lt (n := 4) (by decide))
end Go.Rl

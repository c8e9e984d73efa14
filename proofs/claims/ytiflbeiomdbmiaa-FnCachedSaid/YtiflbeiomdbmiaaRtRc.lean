/- Caches that are drawn. -/
import Derived.Test.YtiflbeiomdbmiaaRtRd
namespace Go.Rl
abbrev CSt := Int × List Slot × Nat
def cstep (bs : List Nat) (x : CSt) : CSt :=
  let n := userV bs x.2.2
  let p := belowP bs (userP bs x.2.2) 3
  if belowV bs (userP bs x.2.2) 3 = 0 then ((getC x.1 x.2.1 n).1, (getC x.1 x.2.1 n).2.1, p)
  else if belowV bs (userP bs x.2.2) 3 = 1 then ((freeC x.1 x.2.1 n).1, (freeC x.1 x.2.1 n).2.1, p)
  else ((putC x.1 x.2.1 n (1 + (belowV bs p 12 : Int))).1, (putC x.1 x.2.1 n (1 + (belowV bs p 12 : Int))).2.1, belowP bs p 12)
def cloop (bs : List Nat) : Nat → CSt → CSt
  | 0, x => x
  | i + 1, x => cloop bs i (cstep bs x)
theorem cloop_go {bs : List Nat} {i : Nat} {x y z : CSt} (h : 0 < i) (hc : cstep bs x = y) (he : cloop bs i x = z) : cloop bs (i - 1) y = z := by
  obtain ⟨j, rfl⟩ : ∃ j, i = j + 1 := ⟨i - 1, by omega⟩
  subst hc
  exact he
theorem cstep_0 {bs : List Nat} {m : Int} {l : List Slot} {q : Nat} (h : belowV bs (userP bs q) 3 = 0) : cstep bs (m, l, q) = ((getC m l (userV bs q)).1, (getC m l (userV bs q)).2.1, belowP bs (userP bs q) 3) := by simp [cstep, h]
theorem cstep_1 {bs : List Nat} {m : Int} {l : List Slot} {q : Nat} (h : belowV bs (userP bs q) 3 = 1) : cstep bs (m, l, q) = ((freeC m l (userV bs q)).1, (freeC m l (userV bs q)).2.1, belowP bs (userP bs q) 3) := by simp [cstep, h]
theorem cstep_2 {bs : List Nat} {m : Int} {l : List Slot} {q : Nat} (h0 : belowV bs (userP bs q) 3 ≠ 0) (h1 : belowV bs (userP bs q) 3 ≠ 1) : cstep bs (m, l, q) = ((putC m l (userV bs q) (1 + (belowV bs (belowP bs (userP bs q) 3) 12 : Int))).1, (putC m l (userV bs q) (1 + (belowV bs (belowP bs (userP bs q) 3) 12 : Int))).2.1, belowP bs (belowP bs (userP bs q) 3) 12) := by simp [cstep, h0, h1]
def cbase (bs : List Nat) (p : Nat) : CSt := cloop bs (belowV bs (belowP bs p 30) 9) ((belowV bs p 30 : Int), [], belowP bs (belowP bs p 30) 9)
/-- One slot more. -/
def cmore (bs : List Nat) (x : CSt) : CSt :=
  let p := belowP bs x.2.2 16
  if onceV bs x.2.2 16 = true then (x.1, x.2.1 ++ [⟨userV bs p, offV bs (userP bs p) 1 9, offV bs (offP bs (userP bs p) 1 9) 0 2⟩], offP bs (offP bs (userP bs p) 1 9) 0 2) else (x.1, x.2.1, p)
def cacheV (bs : List Nat) (p : Nat) : CSt := cmore bs (cbase bs p)
theorem cstep_ok {bs : List Nat} {x : CSt} (h : x.2.2 ≤ bs.length) : (cstep bs x).2.1.length ≤ 41 ∧ (cstep bs x).2.2 ≤ bs.length := by
  have h1 : userP bs x.2.2 ≤ bs.length := belowP_le h
  have h2 : belowP bs (userP bs x.2.2) 3 ≤ bs.length := belowP_le h1
  unfold cstep
  simp only []
  split
  · exact ⟨get_len _ _ _, h2⟩
  · split
    · exact ⟨Nat.le_trans (free_len _ _ _) (by decide), h2⟩
    · exact ⟨Nat.le_trans (put_len _ _ _ _) (by decide), by show belowP bs (belowP bs (userP bs x.2.2) 3) 12 ≤ bs.length; exact belowP_le h2⟩
theorem cloop_ok {bs : List Nat} : ∀ {i : Nat} {x : CSt}, x.2.1.length ≤ 41 → x.2.2 ≤ bs.length → (cloop bs i x).2.1.length ≤ 41 ∧ (cloop bs i x).2.2 ≤ bs.length
  | 0, _, h1, h2 => ⟨h1, h2⟩
  | i + 1, x, _, h2 => cloop_ok (i := i) (cstep_ok h2).1 (cstep_ok h2).2
theorem cbase_ok {bs : List Nat} {p : Nat} (h : p ≤ bs.length) : (cbase bs p).2.1.length ≤ 41 ∧ (cbase bs p).2.2 ≤ bs.length := cloop_ok (x := ((belowV bs p 30 : Int), [], belowP bs (belowP bs p 30) 9)) (Nat.zero_le _) (by show belowP bs (belowP bs p 30) 9 ≤ bs.length; exact belowP_le (belowP_le h))
theorem cacheV_ok {bs : List Nat} {p : Nat} (h : p ≤ bs.length) : (cacheV bs p).2.1.length ≤ 42 ∧ (cacheV bs p).2.2 ≤ bs.length := by
  obtain ⟨h1, h2⟩ := cbase_ok h
  unfold cacheV cmore
  simp only []
  split
  · refine ⟨by simp only [List.length_append, List.length_cons, List.length_nil]; omega, offP_le (offP_le (belowP_le (belowP_le h2)))⟩
  · exact ⟨by show (cbase bs p).2.1.length ≤ 42; omega, by show belowP bs (cbase bs p).2.2 16 ≤ bs.length; exact belowP_le h2⟩
end Go.Rl

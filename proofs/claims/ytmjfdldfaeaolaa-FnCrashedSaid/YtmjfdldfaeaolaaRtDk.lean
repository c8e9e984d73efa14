/- Disks that are drawn. -/
import Derived.Test.YtmjfdldfaeaolaaRtDj
import Derived.Test.YtmjfdldfaeaolaaRtRd
namespace Go.Rl
def textsL : List ByteArray := [⟨#[]⟩, ⟨#[97]⟩, ⟨#[98]⟩, ⟨#[97, 98]⟩, ⟨#[97, 98, 99]⟩, ⟨#[97, 98, 100]⟩, ⟨#[107, 101, 121]⟩, ⟨#[107, 101, 121, 49]⟩, ⟨#[107, 101, 121, 50]⟩, ⟨#[122, 122]⟩, ⟨#[0]⟩, ⟨#[97, 0]⟩]
def textV (bs : List Nat) (p : Nat) : ByteArray := textsL.getD (belowV bs p 12) ⟨#[]⟩
def textP (bs : List Nat) (p : Nat) : Nat := belowP bs p 12
theorem text_get (bs : List Nat) (p : Nat) : textsL[belowV bs p 12]? = some (textV bs p) := getD_some (belowV_lt (n := 12) (by decide))
theorem text_size (bs : List Nat) (p : Nat) : (textV bs p).size ≤ 4 := by
  have h := List.mem_of_getElem? (text_get bs p)
  have : ∀ t ∈ textsL, t.size ≤ 4 := by decide
  exact this _ h
def namesL : List ByteArray := [⟨#[108, 111, 103]⟩, ⟨#[109, 97, 110, 105, 102, 101, 115, 116]⟩, ⟨#[109, 97, 110, 105, 102, 101, 115, 116, 46, 110, 101, 119]⟩, ⟨#[98]⟩]
def destsL : List ByteArray := [⟨#[108, 111, 103]⟩, ⟨#[109, 97, 110, 105, 102, 101, 115, 116]⟩, ⟨#[99]⟩]
theorem name_get (bs : List Nat) (p : Nat) : namesL[belowV bs p 4]? = some (namesL.getD (belowV bs p 4) ⟨#[]⟩) := getD_some (belowV_lt (n := 4) (by decide))
theorem dest_get (bs : List Nat) (p : Nat) : destsL[belowV bs p 3]? = some (destsL.getD (belowV bs p 3) ⟨#[]⟩) := getD_some (belowV_lt (n := 3) (by decide))
def opName (bs : List Nat) (p : Nat) : ByteArray := namesL.getD (belowV bs p 4) ⟨#[]⟩
def opTo (bs : List Nat) (p : Nat) : ByteArray := destsL.getD (belowV bs p 3) ⟨#[]⟩
def dopV (bs : List Nat) (p : Nat) : DOp :=
  if belowV bs (belowP bs p 4) 5 = 0 then ⟨2, opName bs p, opTo bs (belowP bs (belowP bs p 4) 5), ⟨#[]⟩⟩
  else if belowV bs (belowP bs p 4) 5 = 1 then ⟨3, opName bs p, ⟨#[]⟩, ⟨#[]⟩⟩
  else ⟨1, opName bs p, ⟨#[]⟩, textV bs (belowP bs (belowP bs p 4) 5)⟩
def dopP (bs : List Nat) (p : Nat) : Nat :=
  if belowV bs (belowP bs p 4) 5 = 0 then belowP bs (belowP bs (belowP bs p 4) 5) 3
  else if belowV bs (belowP bs p 4) 5 = 1 then belowP bs (belowP bs p 4) 5
  else textP bs (belowP bs (belowP bs p 4) 5)
theorem dop_0 {bs : List Nat} {p : Nat} (h : belowV bs (belowP bs p 4) 5 = 0) : dopV bs p = ⟨2, opName bs p, opTo bs (belowP bs (belowP bs p 4) 5), ⟨#[]⟩⟩ ∧ dopP bs p = belowP bs (belowP bs (belowP bs p 4) 5) 3 := by simp [dopV, dopP, h]
theorem dop_1 {bs : List Nat} {p : Nat} (h : belowV bs (belowP bs p 4) 5 = 1) : dopV bs p = ⟨3, opName bs p, ⟨#[]⟩, ⟨#[]⟩⟩ ∧ dopP bs p = belowP bs (belowP bs p 4) 5 := by simp [dopV, dopP, h]
theorem dop_2 {bs : List Nat} {p : Nat} (h0 : belowV bs (belowP bs p 4) 5 ≠ 0) (h1 : belowV bs (belowP bs p 4) 5 ≠ 1) : dopV bs p = ⟨1, opName bs p, ⟨#[]⟩, textV bs (belowP bs (belowP bs p 4) 5)⟩ ∧ dopP bs p = textP bs (belowP bs (belowP bs p 4) 5) := by simp [dopV, dopP, h0, h1]
theorem dopP_le {bs : List Nat} {p : Nat} (h : p ≤ bs.length) : dopP bs p ≤ bs.length := by
  have h2 := belowP_le (n := 5) (belowP_le (n := 4) h)
  unfold dopP
  split
  · exact belowP_le h2
  · split
    · exact h2
    · exact belowP_le h2
theorem dop_data (bs : List Nat) (p : Nat) : (dopV bs p).data.size ≤ 4 := by
  unfold dopV
  split
  · exact Nat.zero_le _
  · split
    · exact Nat.zero_le _
    · exact text_size _ _
def sizeM (bs : List Nat) (per most : Nat) : Nat := if most < 1 + bs.length / per then most else 1 + bs.length / per
def sizeV (bs : List Nat) (p per most : Nat) : Nat := 1 + belowV bs p (sizeM bs per most)
def sizeP (bs : List Nat) (p per most : Nat) : Nat := belowP bs p (sizeM bs per most)
theorem sizeM_le (bs : List Nat) (per most : Nat) : sizeM bs per most ≤ most := by
  unfold sizeM
  generalize bs.length / per = z
  split <;> omega
theorem sizeM_pos (bs : List Nat) {per most : Nat} (h : 1 ≤ most) : 0 < sizeM bs per most := by
  unfold sizeM
  generalize bs.length / per = z
  split <;> omega
theorem sizeP_le {bs : List Nat} {p per most : Nat} (h : p ≤ bs.length) : sizeP bs p per most ≤ bs.length := belowP_le h
theorem sizeV_le {bs : List Nat} {p per most : Nat} (h : 1 ≤ most) : sizeV bs p per most ≤ most := by
  unfold sizeV
  have h1 := sizeM_le bs per most
  have h2 : 0 < sizeM bs per most := sizeM_pos bs h
  have := belowV_lt (bs := bs) (p := p) h2
  omega
def dkStep (bs : List Nat) (x : Dsk × Nat) : Dsk × Nat :=
  if onceV bs x.2 5 = true then (syncF x.1, belowP bs x.2 5)
  else (if (doF x.1 (dopV bs (belowP bs x.2 5))).2 = 0 then (doF x.1 (dopV bs (belowP bs x.2 5))).1 else x.1, dopP bs (belowP bs x.2 5))
def dkLoop (bs : List Nat) : Nat → Dsk × Nat → Dsk × Nat
  | 0, x => x
  | i + 1, x => dkLoop bs i (dkStep bs x)
theorem dkLoop_go {bs : List Nat} {i : Nat} {x y z : Dsk × Nat} (h : 0 < i) (hc : dkStep bs x = y) (he : dkLoop bs i x = z) : dkLoop bs (i - 1) y = z := by
  obtain ⟨j, rfl⟩ : ∃ j, i = j + 1 := ⟨i - 1, by omega⟩
  subst hc
  exact he
theorem dkStep_0 {bs : List Nat} {d : Dsk} {q : Nat} (h : onceV bs q 5 = true) : dkStep bs (d, q) = (syncF d, belowP bs q 5) := if_pos h
theorem dkStep_1 {bs : List Nat} {d : Dsk} {q : Nat} (h : onceV bs q 5 = false) (h2 : (doF d (dopV bs (belowP bs q 5))).2 = 0) : dkStep bs (d, q) = ((doF d (dopV bs (belowP bs q 5))).1, dopP bs (belowP bs q 5)) := by simp [dkStep, h, h2]
theorem dkStep_2 {bs : List Nat} {d : Dsk} {q : Nat} (h : onceV bs q 5 = false) (h2 : ¬ (doF d (dopV bs (belowP bs q 5))).2 = 0) : dkStep bs (d, q) = (d, dopP bs (belowP bs q 5)) := by simp [dkStep, h, h2]
/-- What holds of a disk that is drawn, ahead of its end. -/
structure DrD (d : Dsk) : Prop where
  ok : diskOk d = true
  op : ∀ op ∈ d.ops, op.data.size ≤ 4
theorem ok_z : diskOk dskZ = true := by decide
theorem drd_z : DrD dskZ := ⟨ok_z, by simp [dskZ]⟩
theorem drd_sync {d : Dsk} (h : DrD d) : DrD (syncF d) := by
  have hl := ok_live h.ok
  rw [syncF, if_pos h.ok]
  exact ⟨ok_mk (d := ⟨d.live, d.live, []⟩) hl hl (Nat.zero_le _) rfl, by simp⟩
theorem act_ops {d : Dsk} {op : DOp} {m : Nat} (h : ∀ o ∈ d.ops, o.data.size ≤ m) (ho : op.data.size ≤ m) : ∀ o ∈ (actF d op).1.ops, o.data.size ≤ m := by
  unfold actF
  split
  · exact h
  · split
    · exact h
    · split
      · exact h
      · intro o hm
        rcases List.mem_append.1 hm with hm | hm
        · exact h o hm
        · simp at hm; subst hm; exact ho
theorem drd_do {d : Dsk} {op : DOp} (h : DrD d) (ho : op.data.size ≤ 4) (hc : (doF d op).2 = 0) : DrD (doF d op).1 := by
  rw [doF, if_pos h.ok] at hc ⊢
  exact ⟨act_ok h.ok hc, act_ops h.op ho⟩
def dkBase (bs : List Nat) (p : Nat) : Dsk × Nat := dkLoop bs (sizeV bs p 3 10) (dskZ, sizeP bs p 3 10)
theorem dkLoop_ok {bs : List Nat} : ∀ {i : Nat} {x : Dsk × Nat}, DrD x.1 → x.2 ≤ bs.length → DrD (dkLoop bs i x).1 ∧ (dkLoop bs i x).2 ≤ bs.length
  | 0, _, h1, h2 => ⟨h1, h2⟩
  | i + 1, x, h1, h2 => by
    have hs : DrD (dkStep bs x).1 ∧ (dkStep bs x).2 ≤ bs.length := by
      unfold dkStep
      split
      · have hq : belowP bs x.2 5 ≤ bs.length := belowP_le h2
        exact ⟨drd_sync h1, hq⟩
      · have hq : dopP bs (belowP bs x.2 5) ≤ bs.length := dopP_le (belowP_le h2)
        refine ⟨?_, hq⟩
        show DrD (if (doF x.1 (dopV bs (belowP bs x.2 5))).2 = 0 then (doF x.1 (dopV bs (belowP bs x.2 5))).1 else x.1)
        split
        · rename_i hc; exact drd_do h1 (dop_data _ _) hc
        · exact h1
    exact dkLoop_ok (i := i) (x := dkStep bs x) hs.1 hs.2
theorem dkBase_ok {bs : List Nat} {p : Nat} (h : p ≤ bs.length) : DrD (dkBase bs p).1 ∧ (dkBase bs p).2 ≤ bs.length := dkLoop_ok (x := (dskZ, sizeP bs p 3 10)) drd_z (sizeP_le h)
def bigB (n : Nat) : ByteArray := strOf (List.replicate n 0)
def dkTail (bs : List Nat) (x : Dsk × Nat) : Dsk × Nat :=
  if belowV bs x.2 40 = 0 then (⟨x.1.live ++ [⟨⟨#[122, 122]⟩, ⟨#[]⟩⟩], x.1.safe, x.1.ops⟩, belowP bs x.2 40)
  else if belowV bs x.2 40 = 1 then (⟨x.1.live, x.1.safe, x.1.ops.drop 1⟩, belowP bs x.2 40)
  else if belowV bs x.2 40 = 2 then (⟨[⟨⟨#[98, 105, 103]⟩, bigB (200000 - belowV bs (belowP bs x.2 40) 9)⟩], [⟨⟨#[98, 105, 103]⟩, bigB (200000 - belowV bs (belowP bs x.2 40) 9)⟩], []⟩, belowP bs (belowP bs x.2 40) 9)
  else (x.1, belowP bs x.2 40)
def diskV (bs : List Nat) (p : Nat) : Dsk × Nat := dkTail bs (dkBase bs p)
theorem strOf_go (ns : List Int) : ∀ r : ByteArray, (ns.foldl (fun r n => r.push (UInt8.ofNat n.toNat)) r).size = r.size + ns.length := by
  induction ns with
  | nil => intro r; rfl
  | cons n ns ih =>
    intro r
    rw [List.foldl_cons, ih, List.length_cons]
    have : (r.push (UInt8.ofNat n.toNat)).size = r.size + 1 := by
      show (r.data.push _).size = r.data.size + 1
      exact Array.size_push _
    omega
theorem strOf_size2 (ns : List Int) : (strOf ns).size = ns.length := by
  unfold strOf
  rw [strOf_go]
  show 0 + ns.length = ns.length
  omega
/-- What holds of a disk that is drawn. -/
structure DrE (d : Dsk) : Prop where
  on : d.ops.length ≤ 200
  db : DB 1000000 d
  op : ∀ op ∈ d.ops, op.data.size ≤ 4
theorem drE_big {n b : ByteArray} (h : b.size ≤ 200000) : DrE ⟨[⟨n, b⟩], [⟨n, b⟩], []⟩ := by
  have ht : totF [(⟨n, b⟩ : Fil)] ≤ 1000000 := by
    show b.size + 0 ≤ 1000000
    omega
  exact ⟨by simp, ⟨by simp, by simp, by simp, ht, ht⟩, by simp⟩
theorem diskV_ok {bs : List Nat} {p : Nat} (h : p ≤ bs.length) : DrE (diskV bs p).1 ∧ (diskV bs p).2 ≤ bs.length := by
  obtain ⟨⟨h1, h2⟩, h3⟩ := dkBase_ok h
  have hb := ok_db h1
  have g1 := hb.l; have g2 := hb.s; have g3 := hb.o; have g4 := hb.tl; have g5 := hb.ts
  have q := belowP_le (n := 40) h3
  have g6 := ok_ops h1
  unfold diskV dkTail
  split
  · exact ⟨⟨g6, ⟨by show ((dkBase bs p).1.live ++ [(⟨⟨#[122, 122]⟩, ⟨#[]⟩⟩ : Fil)]).length ≤ _; simp only [List.length_append, List.length_cons, List.length_nil]; omega, Nat.le_trans g2 (by decide), Nat.le_trans g3 (by decide), by
      show totF ((dkBase bs p).1.live ++ [(⟨⟨#[122, 122]⟩, ⟨#[]⟩⟩ : Fil)]) ≤ _
      rw [tot_app]
      have : totF [(⟨⟨#[122, 122]⟩, ⟨#[]⟩⟩ : Fil)] = 0 := rfl
      omega, Nat.le_trans g5 (by decide)⟩, h2⟩, q⟩
  · split
    · exact ⟨⟨by simp only [List.length_drop]; omega, ⟨Nat.le_trans g1 (by decide), Nat.le_trans g2 (by decide), by simp only [List.length_drop]; omega, Nat.le_trans g4 (by decide), Nat.le_trans g5 (by decide)⟩, fun o ho => h2 o (List.mem_of_mem_drop ho)⟩, q⟩
    · split
      · have hz : (bigB (200000 - belowV bs (belowP bs (dkBase bs p).2 40) 9)).size ≤ 200000 := by rw [bigB, strOf_size2, List.length_replicate]; omega
        have hq : belowP bs (belowP bs (dkBase bs p).2 40) 9 ≤ bs.length := belowP_le q
        exact ⟨drE_big hz, hq⟩
      · exact ⟨⟨g6, hb.up (by decide), h2⟩, q⟩
theorem pvD_drop (l : List DOp) (k : Nat) : ((pvD l).drop k).take ((pvD l).length - k) = pvD (l.drop k) := by
  rw [List.take_of_length_le (by simp)]
  simp [pvD, List.map_drop]
theorem tail_0 {bs : List Nat} {x : Dsk × Nat} (h : belowV bs x.2 40 = 0) : dkTail bs x = (⟨x.1.live ++ [⟨⟨#[122, 122]⟩, ⟨#[]⟩⟩], x.1.safe, x.1.ops⟩, belowP bs x.2 40) := by simp [dkTail, h]
theorem tail_1 {bs : List Nat} {x : Dsk × Nat} (h : belowV bs x.2 40 = 1) : dkTail bs x = (⟨x.1.live, x.1.safe, x.1.ops.drop 1⟩, belowP bs x.2 40) := by simp [dkTail, h]
theorem tail_1e {bs : List Nat} {x : Dsk × Nat} (h : belowV bs x.2 40 = 1) (ho : x.1.ops.length ≤ 0) : dkTail bs x = (x.1, belowP bs x.2 40) := by
  have : x.1.ops = [] := List.eq_nil_of_length_eq_zero (by omega)
  obtain ⟨⟨a, b, c⟩, q⟩ := x
  simp only at this
  subst this
  simp [dkTail, h]
theorem tail_2 {bs : List Nat} {x : Dsk × Nat} (h : belowV bs x.2 40 = 2) : dkTail bs x = (⟨[⟨⟨#[98, 105, 103]⟩, bigB (200000 - belowV bs (belowP bs x.2 40) 9)⟩], [⟨⟨#[98, 105, 103]⟩, bigB (200000 - belowV bs (belowP bs x.2 40) 9)⟩], []⟩, belowP bs (belowP bs x.2 40) 9) := by simp [dkTail, h]
theorem tail_3 {bs : List Nat} {x : Dsk × Nat} (h0 : belowV bs x.2 40 ≠ 0) (h1 : belowV bs x.2 40 ≠ 1) (h2 : belowV bs x.2 40 ≠ 2) : dkTail bs x = (x.1, belowP bs x.2 40) := by simp [dkTail, h0, h1, h2]
theorem quo_nat2 (n k : Nat) (h : n ≤ 9000000000000000000) : IntKind.i64.wrap ((n : Int).tdiv (k : Int)) = ((n / k : Nat) : Int) := by
  have h1 := Nat.div_le_self n k
  rw [← Int.ofNat_tdiv, IntKind.wrap_i64]
  generalize n / k = m at h1 ⊢
  omega
end Go.Rl

/- Promises of functions, proved by walks over their operations; no conditions beyond those that each theorem states. -/
import Derived.Test.YtmjfdldfaeaolaaRdD
import Derived.Test.YtmjfdldfaeaolaaRdH
import Derived.Test.YtmjfdldfaeaolaaRlV
namespace Go.Rl
def textsL : List ByteArray := [⟨#[]⟩, ⟨#[97]⟩, ⟨#[98]⟩, ⟨#[97, 98]⟩, ⟨#[97, 98, 99]⟩, ⟨#[97, 98, 100]⟩, ⟨#[107, 101, 121]⟩, ⟨#[107, 101, 121, 49]⟩, ⟨#[107, 101, 121, 50]⟩, ⟨#[122, 122]⟩, ⟨#[0]⟩, ⟨#[97, 0]⟩]
def textV (bs : List Nat) (p : Nat) : ByteArray := textsL.getD (belowV bs p 12) ⟨#[]⟩
def textP (bs : List Nat) (p : Nat) : Nat := belowP bs p 12
theorem text_get (bs : List Nat) (p : Nat) : textsL[belowV bs p 12]? = some (textV bs p) := getD_some (belowV_lt (n := 12) (by decide))
theorem text_size (bs : List Nat) (p : Nat) : (textV bs p).size ≤ 4 := by
  have h := List.mem_of_getElem? (text_get bs p)
  have : ∀ t ∈ textsL, t.size ≤ 4 := by decide
  exact this _ h
def namesL : List ByteArray := [⟨#[108, 111, 103]⟩, ⟨#[109, 97, 110, 105, 102, 101, 115, 116]⟩, ⟨#[109, 97, 110, 105, 102, 101, 115, 116, 46, 110, 101, 119]⟩, ⟨#[98]⟩]
def destsL : List ByteArray := [⟨#[108, 111, 103]⟩, ⟨#[109, 97, 110, 105, 102, 101, 115, 116]⟩, ⟨#[99]⟩]
theorem name_get (bs : List Nat) (p : Nat) : namesL[belowV bs p 4]? = some (namesL.getD (belowV bs p 4) ⟨#[]⟩) := getD_some (belowV_lt (n := 4) (by decide))
theorem dest_get (bs : List Nat) (p : Nat) : destsL[belowV bs p 3]? = some (destsL.getD (belowV bs p 3) ⟨#[]⟩) := getD_some (belowV_lt (n := 3) (by decide))
def opName (bs : List Nat) (p : Nat) : ByteArray := namesL.getD (belowV bs p 4) ⟨#[]⟩
def opTo (bs : List Nat) (p : Nat) : ByteArray := destsL.getD (belowV bs p 3) ⟨#[]⟩
def dopV (bs : List Nat) (p : Nat) : DOp :=
  if belowV bs (belowP bs p 4) 5 = 0 then ⟨2, opName bs p, opTo bs (belowP bs (belowP bs p 4) 5), ⟨#[]⟩⟩
  else if belowV bs (belowP bs p 4) 5 = 1 then ⟨3, opName bs p, ⟨#[]⟩, ⟨#[]⟩⟩
  else ⟨1, opName bs p, ⟨#[]⟩, textV bs (belowP bs (belowP bs p 4) 5)⟩
def dopP (bs : List Nat) (p : Nat) : Nat :=
  if belowV bs (belowP bs p 4) 5 = 0 then belowP bs (belowP bs (belowP bs p 4) 5) 3
  else if belowV bs (belowP bs p 4) 5 = 1 then belowP bs (belowP bs p 4) 5
  else textP bs (belowP bs (belowP bs p 4) 5)
theorem dop_0 {bs : List Nat} {p : Nat} (h : belowV bs (belowP bs p 4) 5 = 0) : dopV bs p = ⟨2, opName bs p, opTo bs (belowP bs (belowP bs p 4) 5), ⟨#[]⟩⟩ ∧ dopP bs p = belowP bs (belowP bs (belowP bs p 4) 5) 3 := by simp [dopV, dopP, h]
theorem dop_1 {bs : List Nat} {p : Nat} (h : belowV bs (belowP bs p 4) 5 = 1) : dopV bs p = ⟨3, opName bs p, ⟨#[]⟩, ⟨#[]⟩⟩ ∧ dopP bs p = belowP bs (belowP bs p 4) 5 := by simp [dopV, dopP, h]
theorem dop_2 {bs : List Nat} {p : Nat} (h0 : belowV bs (belowP bs p 4) 5 ≠ 0) (h1 : belowV bs (belowP bs p 4) 5 ≠ 1) : dopV bs p = ⟨1, opName bs p, ⟨#[]⟩, textV bs (belowP bs (belowP bs p 4) 5)⟩ ∧ dopP bs p = textP bs (belowP bs (belowP bs p 4) 5) := by simp [dopV, dopP, h0, h1]
theorem dopP_le {bs : List Nat} {p : Nat} (h : p ≤ bs.length) : dopP bs p ≤ bs.length := by
  have h2 := belowP_le (n := 5) (belowP_le (n := 4) h)
  unfold dopP
  split
  · exact belowP_le h2
  · split
    · exact h2
    · exact belowP_le h2
theorem dop_data (bs : List Nat) (p : Nat) : (dopV bs p).data.size ≤ 4 := by
  unfold dopV
  split
  · exact Nat.zero_le _
  · split
    · exact Nat.zero_le _
    · exact text_size _ _
def sizeM (bs : List Nat) (per most : Nat) : Nat := if most < 1 + bs.length / per then most else 1 + bs.length / per
def sizeV (bs : List Nat) (p per most : Nat) : Nat := 1 + belowV bs p (sizeM bs per most)
def sizeP (bs : List Nat) (p per most : Nat) : Nat := belowP bs p (sizeM bs per most)
theorem sizeM_le (bs : List Nat) (per most : Nat) : sizeM bs per most ≤ most := by
  unfold sizeM
  generalize bs.length / per = z
  split <;> omega
theorem sizeM_pos (bs : List Nat) {per most : Nat} (h : 1 ≤ most) : 0 < sizeM bs per most := by
  unfold sizeM
  generalize bs.length / per = z
  split <;> omega
theorem sizeP_le {bs : List Nat} {p per most : Nat} (h : p ≤ bs.length) : sizeP bs p per most ≤ bs.length := belowP_le h
theorem sizeV_le {bs : List Nat} {p per most : Nat} (h : 1 ≤ most) : sizeV bs p per most ≤ most := by
  unfold sizeV
  have h1 := sizeM_le bs per most
  have h2 : 0 < sizeM bs per most := sizeM_pos bs h
  have := belowV_lt (bs := bs) (p := p) h2
  omega
def dkStep (bs : List Nat) (x : Dsk × Nat) : Dsk × Nat :=
  if onceV bs x.2 5 = true then (syncF x.1, belowP bs x.2 5)
  else (if (doF x.1 (dopV bs (belowP bs x.2 5))).2 = 0 then (doF x.1 (dopV bs (belowP bs x.2 5))).1 else x.1, dopP bs (belowP bs x.2 5))
def dkLoop (bs : List Nat) : Nat → Dsk × Nat → Dsk × Nat
  | 0, x => x
  | i + 1, x => dkLoop bs i (dkStep bs x)
theorem dkLoop_go {bs : List Nat} {i : Nat} {x y z : Dsk × Nat} (h : 0 < i) (hc : dkStep bs x = y) (he : dkLoop bs i x = z) : dkLoop bs (i - 1) y = z := by
  obtain ⟨j, rfl⟩ : ∃ j, i = j + 1 := ⟨i - 1, by omega⟩
  subst hc
  exact he
theorem dkStep_0 {bs : List Nat} {d : Dsk} {q : Nat} (h : onceV bs q 5 = true) : dkStep bs (d, q) = (syncF d, belowP bs q 5) := if_pos h
theorem dkStep_1 {bs : List Nat} {d : Dsk} {q : Nat} (h : onceV bs q 5 = false) (h2 : (doF d (dopV bs (belowP bs q 5))).2 = 0) : dkStep bs (d, q) = ((doF d (dopV bs (belowP bs q 5))).1, dopP bs (belowP bs q 5)) := by simp [dkStep, h, h2]
theorem dkStep_2 {bs : List Nat} {d : Dsk} {q : Nat} (h : onceV bs q 5 = false) (h2 : ¬ (doF d (dopV bs (belowP bs q 5))).2 = 0) : dkStep bs (d, q) = (d, dopP bs (belowP bs q 5)) := by simp [dkStep, h, h2]
/-- What holds of a disk that is drawn, ahead of its end. -/
structure DrD (d : Dsk) : Prop where
  ok : diskOk d = true
  op : ∀ op ∈ d.ops, op.data.size ≤ 4
theorem ok_z : diskOk dskZ = true := by decide
theorem drd_z : DrD dskZ := ⟨ok_z, by simp [dskZ]⟩
theorem drd_sync {d : Dsk} (h : DrD d) : DrD (syncF d) := by
  have hl := ok_live h.ok
  rw [syncF, if_pos h.ok]
  exact ⟨ok_mk (d := ⟨d.live, d.live, []⟩) hl hl (Nat.zero_le _) rfl, by simp⟩
theorem act_ops {d : Dsk} {op : DOp} {m : Nat} (h : ∀ o ∈ d.ops, o.data.size ≤ m) (ho : op.data.size ≤ m) : ∀ o ∈ (actF d op).1.ops, o.data.size ≤ m := by
  unfold actF
  split
  · exact h
  · split
    · exact h
    · split
      · exact h
      · intro o hm
        rcases List.mem_append.1 hm with hm | hm
        · exact h o hm
        · simp at hm; subst hm; exact ho
theorem drd_do {d : Dsk} {op : DOp} (h : DrD d) (ho : op.data.size ≤ 4) (hc : (doF d op).2 = 0) : DrD (doF d op).1 := by
  rw [doF, if_pos h.ok] at hc ⊢
  exact ⟨act_ok h.ok hc, act_ops h.op ho⟩
def dkBase (bs : List Nat) (p : Nat) : Dsk × Nat := dkLoop bs (sizeV bs p 3 10) (dskZ, sizeP bs p 3 10)
theorem dkLoop_ok {bs : List Nat} : ∀ {i : Nat} {x : Dsk × Nat}, DrD x.1 → x.2 ≤ bs.length → DrD (dkLoop bs i x).1 ∧ (dkLoop bs i x).2 ≤ bs.length
  | 0, _, h1, h2 => ⟨h1, h2⟩
  | i + 1, x, h1, h2 => by
    have hs : DrD (dkStep bs x).1 ∧ (dkStep bs x).2 ≤ bs.length := by
      unfold dkStep
      split
      · have hq : belowP bs x.2 5 ≤ bs.length := belowP_le h2
        exact ⟨drd_sync h1, hq⟩
      · have hq : dopP bs (belowP bs x.2 5) ≤ bs.length := dopP_le (belowP_le h2)
        refine ⟨?_, hq⟩
        show DrD (if (doF x.1 (dopV bs (belowP bs x.2 5))).2 = 0 then (doF x.1 (dopV bs (belowP bs x.2 5))).1 else x.1)
        split
        · rename_i hc; exact drd_do h1 (dop_data _ _) hc
        · exact h1
    exact dkLoop_ok (i := i) (x := dkStep bs x) hs.1 hs.2
theorem dkBase_ok {bs : List Nat} {p : Nat} (h : p ≤ bs.length) : DrD (dkBase bs p).1 ∧ (dkBase bs p).2 ≤ bs.length := dkLoop_ok (x := (dskZ, sizeP bs p 3 10)) drd_z (sizeP_le h)
def bigB (n : Nat) : ByteArray := strOf (List.replicate n 0)
def dkTail (bs : List Nat) (x : Dsk × Nat) : Dsk × Nat :=
  if belowV bs x.2 40 = 0 then (⟨x.1.live ++ [⟨⟨#[122, 122]⟩, ⟨#[]⟩⟩], x.1.safe, x.1.ops⟩, belowP bs x.2 40)
  else if belowV bs x.2 40 = 1 then (⟨x.1.live, x.1.safe, x.1.ops.drop 1⟩, belowP bs x.2 40)
  else if belowV bs x.2 40 = 2 then (⟨[⟨⟨#[98, 105, 103]⟩, bigB (200000 - belowV bs (belowP bs x.2 40) 9)⟩], [⟨⟨#[98, 105, 103]⟩, bigB (200000 - belowV bs (belowP bs x.2 40) 9)⟩], []⟩, belowP bs (belowP bs x.2 40) 9)
  else (x.1, belowP bs x.2 40)
def diskV (bs : List Nat) (p : Nat) : Dsk × Nat := dkTail bs (dkBase bs p)
theorem strOf_go (ns : List Int) : ∀ r : ByteArray, (ns.foldl (fun r n => r.push (UInt8.ofNat n.toNat)) r).size = r.size + ns.length := by
  induction ns with
  | nil => intro r; rfl
  | cons n ns ih =>
    intro r
    rw [List.foldl_cons, ih, List.length_cons]
    have : (r.push (UInt8.ofNat n.toNat)).size = r.size + 1 := by
      show (r.data.push _).size = r.data.size + 1
      exact Array.size_push _
    omega
theorem strOf_size2 (ns : List Int) : (strOf ns).size = ns.length := by
  unfold strOf
  rw [strOf_go]
  show 0 + ns.length = ns.length
  omega
/-- What holds of a disk that is drawn. -/
structure DrE (d : Dsk) : Prop where
  on : d.ops.length ≤ 200
  db : DB 1000000 d
  op : ∀ op ∈ d.ops, op.data.size ≤ 4
theorem drE_big {n b : ByteArray} (h : b.size ≤ 200000) : DrE ⟨[⟨n, b⟩], [⟨n, b⟩], []⟩ := by
  have ht : totF [(⟨n, b⟩ : Fil)] ≤ 1000000 := by
    show b.size + 0 ≤ 1000000
    omega
  exact ⟨by simp, ⟨by simp, by simp, by simp, ht, ht⟩, by simp⟩
theorem diskV_ok {bs : List Nat} {p : Nat} (h : p ≤ bs.length) : DrE (diskV bs p).1 ∧ (diskV bs p).2 ≤ bs.length := by
  obtain ⟨⟨h1, h2⟩, h3⟩ := dkBase_ok h
  have hb := ok_db h1
  have g1 := hb.l; have g2 := hb.s; have g3 := hb.o; have g4 := hb.tl; have g5 := hb.ts
  have q := belowP_le (n := 40) h3
  have g6 := ok_ops h1
  unfold diskV dkTail
  split
  · exact ⟨⟨g6, ⟨by show ((dkBase bs p).1.live ++ [(⟨⟨#[122, 122]⟩, ⟨#[]⟩⟩ : Fil)]).length ≤ _; simp only [List.length_append, List.length_cons, List.length_nil]; omega, Nat.le_trans g2 (by decide), Nat.le_trans g3 (by decide), by
      show totF ((dkBase bs p).1.live ++ [(⟨⟨#[122, 122]⟩, ⟨#[]⟩⟩ : Fil)]) ≤ _
      rw [tot_app]
      have : totF [(⟨⟨#[122, 122]⟩, ⟨#[]⟩⟩ : Fil)] = 0 := rfl
      omega, Nat.le_trans g5 (by decide)⟩, h2⟩, q⟩
  · split
    · exact ⟨⟨by simp only [List.length_drop]; omega, ⟨Nat.le_trans g1 (by decide), Nat.le_trans g2 (by decide), by simp only [List.length_drop]; omega, Nat.le_trans g4 (by decide), Nat.le_trans g5 (by decide)⟩, fun o ho => h2 o (List.mem_of_mem_drop ho)⟩, q⟩
    · split
      · have hz : (bigB (200000 - belowV bs (belowP bs (dkBase bs p).2 40) 9)).size ≤ 200000 := by rw [bigB, strOf_size2, List.length_replicate]; omega
        have hq : belowP bs (belowP bs (dkBase bs p).2 40) 9 ≤ bs.length := belowP_le q
        exact ⟨drE_big hz, hq⟩
      · exact ⟨⟨g6, hb.up (by decide), h2⟩, q⟩
theorem pvD_drop (l : List DOp) (k : Nat) : ((pvD l).drop k).take ((pvD l).length - k) = pvD (l.drop k) := by
  rw [List.take_of_length_le (by simp)]
  simp [pvD, List.map_drop]
theorem tail_0 {bs : List Nat} {x : Dsk × Nat} (h : belowV bs x.2 40 = 0) : dkTail bs x = (⟨x.1.live ++ [⟨⟨#[122, 122]⟩, ⟨#[]⟩⟩], x.1.safe, x.1.ops⟩, belowP bs x.2 40) := by simp [dkTail, h]
theorem tail_1 {bs : List Nat} {x : Dsk × Nat} (h : belowV bs x.2 40 = 1) : dkTail bs x = (⟨x.1.live, x.1.safe, x.1.ops.drop 1⟩, belowP bs x.2 40) := by simp [dkTail, h]
theorem tail_1e {bs : List Nat} {x : Dsk × Nat} (h : belowV bs x.2 40 = 1) (ho : x.1.ops.length ≤ 0) : dkTail bs x = (x.1, belowP bs x.2 40) := by
  have : x.1.ops = [] := List.eq_nil_of_length_eq_zero (by omega)
  obtain ⟨⟨a, b, c⟩, q⟩ := x
  simp only at this
  subst this
  simp [dkTail, h]
theorem tail_2 {bs : List Nat} {x : Dsk × Nat} (h : belowV bs x.2 40 = 2) : dkTail bs x = (⟨[⟨⟨#[98, 105, 103]⟩, bigB (200000 - belowV bs (belowP bs x.2 40) 9)⟩], [⟨⟨#[98, 105, 103]⟩, bigB (200000 - belowV bs (belowP bs x.2 40) 9)⟩], []⟩, belowP bs (belowP bs x.2 40) 9) := by simp [dkTail, h]
theorem tail_3 {bs : List Nat} {x : Dsk × Nat} (h0 : belowV bs x.2 40 ≠ 0) (h1 : belowV bs x.2 40 ≠ 1) (h2 : belowV bs x.2 40 ≠ 2) : dkTail bs x = (x.1, belowP bs x.2 40) := by simp [dkTail, h0, h1, h2]
theorem quo_nat2 (n k : Nat) (h : n ≤ 9000000000000000000) : IntKind.i64.wrap ((n : Int).tdiv (k : Int)) = ((n / k : Nat) : Int) := by
  have h1 := Nat.div_le_self n k
  rw [← Int.ofNat_tdiv, IntKind.wrap_i64]
  generalize n / k = m at h1 ⊢
  omega
end Go.Rl
namespace Go.Rl
open Go.RowKit
/-- Whether a block lies in what was handed over for good. -/
def InE (E : List Leaf) (outs : List (Option (List (List PV)))) (k : Nat) : Prop := ∃ (i : Nat) (lf : Leaf), E[i]? = some lf ∧ k ∈ lf.N ∧ ∀ xs', outs[i]? = some (some xs') → k ∈ lf.N.tail
/-- The promise: f, called with args, gives back res, which may share what nobody writes; of the rows that it was handed the i-th has outs i. -/
def ConSG (γ : Gho) (P : Program) (f : FuncId) (args : List PA) (outs : List (Option (List (List PV)))) (res : List PA) : Prop :=
  ∀ Z w vs E, Gh γ w (Leaf.all E) → PASs Z w args vs E → (∀ k, Z k → k < w.heap.size ∧ k ∉ Leaf.all E) → (Leaf.all E).Nodup → (∀ k ∈ Leaf.all E, k < w.heap.size) → Calls P f ⟨vs⟩ w fun e w' => ∃ v F Z', e = .returned v ∧ Same (Leaf.all E) w w' ∧
    (∀ (i : Nat) lf xs', E[i]? = some lf → outs[i]? = some (some xs') → FlatP xs' ∧ ∃ N, PVO no w' (.sl true lf.sz xs') lf.v N) ∧
    RES Z' w' res v F ∧ (Leaf.all F).Nodup ∧ (∀ k ∈ Leaf.all F, w.heap.size ≤ k ∨ InE E outs k) ∧ (∀ k, Z k → Z' k) ∧ ∀ k, Z' k → k < w'.heap.size ∧ k ∉ Leaf.all F ∧ (Z k ∨ w.heap.size ≤ k ∨ InE E outs k)
def EndsSG (P : Program) (rs : List ResultVar) (args : List PA) (outs : List (Option (List (List PV)))) (res : List PA) (s : St) : Prop :=
  ∃ avs K, RvAs P s rs avs ∧ GPasS s avs res K ∧ K.Nodup ∧ OutsOk s K (owns (fun _ => pinT) pinT args) outs
def RetSG (P : Program) (rs : List ResultVar) (args : List PA) (outs : List (Option (List (List PV)))) (res : List PA) : Exit → St → Prop
  | .normal, s => EndsSG P rs args outs res s
  | .ret, s => EndsSG P rs args outs res s
  | _, _ => False
/-- What the body does is what the function promises. -/
theorem con_of_trSG {γ : Gho} {P : Program} {f : FuncId} {fn : Func} {c : Code} {rs : List ResultVar} {args : List PA} {outs : List (Option (List (List PV)))} {res : List PA} (hf : P.funcs[f]? = some fn) (hb : fn.body = some c) (hrs : fn.results = rs.toArray) (hn' : Nat.ble args.length fn.ntmps = true) (hsz' : args.all (fun p => Nat.ble p.size pinT) = true)
    (h : Tr γ P fn.ntmps c (initS args) (RetSG P rs args outs res)) : ConSG γ P f args outs res := by
  intro Z w vs E hG hp hZ hnd hlt
  have hn : args.length ≤ fn.ntmps := Nat.le_of_ble_eq_true hn'
  have hsz : ∀ p ∈ args, p.size ≤ pinT := fun p hp => Nat.le_of_ble_eq_true ((List.all_eq_true.1 hsz') p hp)
  refine calls_of_wp hf hb ?_
  have hlen : vs.length = args.length := by
    clear hG h hn hsz hn' hsz' hZ hnd hlt
    induction hp with
    | nil => rfl
    | cons _ _ ih => simp [ih]
  have hown0 := owns_in (step := fun _ => pinT) args pinT hsz
  have hpins : PinE (mkρ (owns (fun _ => pinT) pinT args) E) (owns (fun _ => pinT) pinT args) E := mkρ_ok hown0.1
  let I : Fr := ⟨Leaf.all E, mkρ (owns (fun _ => pinT) pinT args) E, fun _ => 0, Z⟩
  let a : Act := { tmps := (⟨vs⟩ : Array Value) ++ Array.replicate (fn.ntmps - (⟨vs⟩ : Array Value).size) undef, defers := [] }
  let L0 : Pl := ⟨Z, fun _ => 0, fun _ => undef, fun _ => [], fun _ => none⟩
  have hasz : a.tmps.size = fn.ntmps := by simp [a]; omega
  have h0 : Rel w I fn.ntmps L0 ⟨fun _ => .undef, fun _ => none, fun _ => none⟩ a w :=
    ⟨Same.refl _ w, fun k hk => ⟨(hZ k hk).1, rfl⟩, fun k l hk => by simp [L0] at hk, hasz, rfl, fun i => by simp [AVR], fun i cs hc => by simp at hc, fun i sz xs hx => by simp at hx, fun i _ hx => by simp at hx, fun i _ hx => by simp at hx, fun k hk => .inl hk⟩
  obtain ⟨L1, t1, a1⟩ := takeAs (step := fun _ => pinT) (id := pinT) h0 (vs := vs) (F := E) hp (fun k hk => ⟨rfl, fun hz => (hZ k hz).2 hk, .inr hk⟩) hnd hsz (fun _ _ _ => rfl) (.inr hpins)
  have h1 : Rel w I fn.ntmps L1 (initS args) a w := by
    refine ⟨t1.rel.same, t1.rel.zlt, t1.rel.llt, hasz, rfl, fun i => ?_, fun i cs hc => by simp [initS] at hc, fun i sz xs hx => t1.rel.rw i sz xs hx, t1.rel.pr, t1.rel.pb, t1.rel.zi⟩
    have hmv : Moves [] L1 L1 w w { t := fun _ => .undef, b := fun _ => none, r := setRs (fun _ => none) (pRowss (fun _ => pinT) pinT args) } (initS args) := ⟨fun k hk => ⟨hk, rfl⟩, fun _ k _ _ hk => ⟨.inr hk, rfl⟩, fun b hb => ⟨hb, rfl⟩, fun i sz xs _ hx => ⟨xs, hx, rfl, rfl⟩⟩
    simp only [initS]
    rw [lkL_get]
    cases hi : (pAVs (fun _ => pinT) pinT args)[i]? with
    | none => simp [AVR]
    | some av =>
      obtain ⟨u, hu, hr⟩ := a1.get i av hi
      have hui : a.tmps.getD i undef = u := by
        have hlt := (List.getElem?_eq_some_iff.1 hu).1
        have : a.tmps[i]? = some u := by
          simp only [a]
          rw [Array.getElem?_append_left (by simpa using hlt)]
          simpa using hu
        simp [this]
      rw [hui]
      exact hr.move0 hmv
  refine wp_mono (h w I L1 a w hG h1) (fun e a' w' ⟨s', L', hq, hr⟩ => ?_)
  have fin : EndsSG P rs args outs res s' → a'.defers = [] ∧ ∃ v, (results fn a'.tmps).run P w' = .ok v w' ∧ ∃ v' F Z', Ending.returned v = .returned v' ∧ Same (Leaf.all E) w w' ∧
      (∀ (i : Nat) lf xs', E[i]? = some lf → outs[i]? = some (some xs') → FlatP xs' ∧ ∃ N, PVO no w' (.sl true lf.sz xs') lf.v N) ∧
      RES Z' w' res v' F ∧ (Leaf.all F).Nodup ∧ (∀ k ∈ Leaf.all F, w.heap.size ≤ k ∨ InE E outs k) ∧ (∀ k, Z k → Z' k) ∧ ∀ k, Z' k → k < w'.heap.size ∧ k ∉ Leaf.all F ∧ (Z k ∨ w.heap.size ≤ k ∨ InE E outs k) := by
    rintro ⟨avs, K, hrv, hg, hKn, hout⟩
    obtain ⟨us, hrun, hav⟩ := hrv.ok hr
    obtain ⟨F, hF, hFK⟩ := hg.ok hr hav
    obtain ⟨hown1, hown2⟩ := own_ats hp (step := fun _ => pinT) (id := pinT)
    have hrl := hF.length
    have hres := run_results hrs hrun
    have hfk : ∀ k ∈ Leaf.all F, ∃ j ∈ K, L'.lab k = some (.row j) := fun k hk => by
      rw [hFK] at hk
      exact (hr.nodup hKn hg.rows).2 k hk
    have kept : ∀ (i : Nat) lf xs', E[i]? = some lf → outs[i]? = some (some xs') → ∃ id, s'.r id = some (lf.sz, xs') ∧ FlatP xs' ∧ id ∉ K ∧ L'.ρ id = lf.v ∧ ∃ xs, PVO Z w (.sl true lf.sz xs) lf.v lf.N := fun i lf xs' hi ho => by
      obtain ⟨x, e1, e2, e4⟩ := hown2 i lf hi
      have e3 := hpins.get e1 hi
      obtain ⟨g1, g2, g3⟩ := hout.get e1 ho
      have hpx : pinT ≤ x.1 := hown0.2 x (List.mem_of_getElem? e1)
      exact ⟨x.1, by rw [← e2]; exact g1, g2, g3, (hr.pr x.1 hpx (by rw [g1]; rfl)).trans e3, e4⟩
    have inE : ∀ k, k ∈ Leaf.all E → (∀ id, (∀ (i : Nat) (lf : Leaf) xs', E[i]? = some lf → outs[i]? = some (some xs') → k ∈ lf.N → L'.ρ id = lf.v → s'.r id = some (lf.sz, xs') → id ∉ K → k ∉ L'.ν id)) → InE E outs k := fun k hk hne => by
      obtain ⟨lf, hlf, hkl⟩ := List.mem_flatMap.1 hk
      obtain ⟨i, hi⟩ := List.getElem?_of_mem hlf
      refine ⟨i, lf, hi, hkl, fun xs' ho => ?_⟩
      obtain ⟨id, g1, g2, g3, g4, xs, g5⟩ := kept i lf xs' hi ho
      obtain ⟨r1, r2, r3⟩ := hr.rw id _ _ g1
      rw [g4] at r1
      have hne' : k ∉ L'.ν id := hne id i lf xs' hi ho hkl g4 g1 g3
      rcases head_nf g5 r1 g2 with e | ⟨k0, m, e1, e2⟩
      · rw [e] at hkl; exact absurd hkl hne'
      · rw [e1] at hkl ⊢
        rcases List.mem_cons.1 hkl with rfl | h3
        · rw [e2] at hne'; simp at hne'
        · exact h3
    refine ⟨hr.df, _, hres, _, F, fun k => Z k ∨ L'.Z k, rfl, hr.same, fun i lf xs' hi ho => ?_, ?_, by rw [hFK]; exact (hr.nodup hKn hg.rows).1, fun k hk => ?_, fun k hk => .inl hk, fun k hk => ?_⟩
    · obtain ⟨id, g1, g2, g3, g4, _⟩ := kept i lf xs' hi ho
      refine ⟨g2, L'.ν id, ?_⟩
      have := (hr.rw id _ _ g1).1
      rw [g4] at this
      exact this.clean (.sl _ _ g2.clean)
    · refine RES.up (Z := L'.Z) ?_ (fun _ h => .inr h)
      split
      · rename_i h1
        cases hF with
        | nil => simp at h1
        | cons hF1 hF2 =>
          cases hF2 with
          | nil => rw [List.append_nil]; exact .one hF1
          | cons _ _ => simp at h1
      · rename_i h1
        exact .more (by rw [hrl]; exact h1) hF
    · obtain ⟨j, hj, hl⟩ := hfk k hk
      rcases (hr.llt k _ hl).2 with h2 | h2
      · exact .inl h2
      · refine .inr (inE k h2 (fun id i lf xs' _ _ _ _ g1 g3 hx => ?_))
        have := (hr.rw id _ _ g1).2.2 k hx
        rw [hl] at this
        simp only [Option.some.injEq, Lab.row.injEq] at this
        subst this
        exact g3 hj
    · rcases hk with hk | hk
      · refine ⟨Nat.lt_of_lt_of_le (hZ k hk).1 hr.same.size, fun hx => ?_, .inl hk⟩
        obtain ⟨j, _, hl⟩ := hfk k hx
        rcases (hr.llt k _ hl).2 with h2 | h2
        · have := (hZ k hk).1; omega
        · exact (hZ k hk).2 h2
      · refine ⟨(hr.zlt k hk).1, fun hx => ?_, ?_⟩
        · obtain ⟨j, _, hl⟩ := hfk k hx
          rw [(hr.zlt k hk).2] at hl
          cases hl
        · rcases hr.zi k hk with h2 | h2 | h2
          · exact .inl h2
          · exact .inr (.inl h2)
          · refine .inr (.inr (inE k h2 (fun id i lf xs' _ _ _ _ g1 g3 hx => ?_)))
            have := (hr.rw id _ _ g1).2.2 k hx
            rw [(hr.zlt k hk).2] at this
            cases this
  cases e with
  | normal => exact fin hq
  | ret => exact fin hq
  | _ => exact hq.elim
theorem endsSG {P : Program} {s : St} {rs : List ResultVar} {args : List PA} {outs : List (Option (List (List PV)))} {res : List PA} (avs : List AV) (K : List Nat) (h1 : RvAs P s rs avs) (h2 : GPasS s avs res K) (h3 : K.Nodup) (h4 : OutsOk s K (owns (fun _ => pinT) pinT args) outs) : RetSG P rs args outs res .ret s := ⟨avs, K, h1, h2, h3, h4⟩
section
variable {γ : Gho} {P : Program} {n : Nat} {o : Oper} {M B : List Nat} {s : St}
theorem st_callSG {γ' : Gho} (hγ : γ' = none ∨ γ' = γ) {x : Operand} {args : List Operand} {ats : Array TypeId} (ho : o.op = .call { callee := .value x, args := args.toArray, argTypes := ats }) (rid : Nat) {f : FuncId} {pas : List PA} {X : List Nat} {outs : List (Option (List (List PV)))} {kr : List (Nat × Nat × List (List PV))} {K : List Nat} {res : List PA} {dd : Option Nat}
    (hE : ∀ ys w, (callFunc f ys).run P w = .ok (.enter f ys) w) (hx : s.ev x = .p dd (.clo f [])) (ha : ArgZs (s.only M B) (args.map s.ev) pas X) (hXn : X.Nodup) (hXM : ∀ i ∈ X, ((s.only M B).r i).isSome = true) (hk : Kept (s.only M B) X outs kr K) (hcon : ConSG γ' P f pas outs res)
    (hf' : freshB s M rid (pSize PA.size res) = true) (hpin : rid + pSize PA.size res ≤ pinT) : StepD γ P n o M B s { put := resAV rid res, kill := K, setR := kr ++ pRowss PA.size rid res } := by
  intro s' ag hd w0 I L a w hG hr KK Q hK
  have hf := freshN hf'
  have hon := only_ag ag
  rw [← hon] at ha hk hXM
  have hl := only_less s' M B
  have hX : ∀ i ∈ X, (s'.r i).isSome := fun i hi => by
    obtain ⟨y, hy⟩ := Option.isSome_iff_exists.1 (hXM i hi)
    rw [hl.r i y hy]; rfl
  have hev : args.map s'.ev = args.map s.ev := List.map_congr_left (fun y hy => ag.ev1 ho (by simp [Op.operands, Call.operands, hy]))
  have hk' := hk.mono hl
  have hxv := hr.ev x
  rw [ag.ev1 ho (by simp [Op.operands, Call.operands]), hx] at hxv
  have e1 : a.eval x = .func (.func f) #[] ⟨[]⟩ := by
    simp only [AVR] at hxv
    generalize a.eval x = u at hxv
    obtain ⟨hq, _⟩ := hxv
    cases hq with
    | clo _ _ ks hl _ _ _ _ =>
      cases ks with
      | nil => rfl
      | cons _ _ => simp at hl
  have e3 := (ha.mono hl).ok hr (by rw [← hev]; exact evs_of hr args)
  have hall : Leaf.all (X.map (lf L s')) = X.flatMap L.ν := by simp [Leaf.all, List.flatMap_map, lf]
  obtain ⟨hnd, hlab⟩ := hr.nodup hXn hX
  unfold Oper.wp
  rw [run_call ho e1 hE, Oper.upon_enter, List.append_nil]
  have hGw : Gh γ' w (Leaf.all (X.map (lf L s'))) := by
    rcases hγ with rfl | rfl
    · exact gh_none _ _
    · intro k ob e
      obtain ⟨g1, g2⟩ := hG k ob e
      have hlt := (Array.getElem?_eq_some_iff.1 g1).1
      refine ⟨(hr.same.block k hlt g2).trans g1, fun hx => ?_⟩
      rw [hall] at hx
      obtain ⟨i, _, hl⟩ := hlab k hx
      rcases (hr.llt k _ hl).2 with h3 | h3
      · omega
      · exact g2 h3
  refine (hcon L.Z w _ _ hGw e3 (fun k hk => ⟨(hr.zlt k hk).1, fun hx => by rw [hall] at hx; obtain ⟨i, _, hl⟩ := hlab k hx; rw [(hr.zlt k hk).2] at hl; cases hl⟩) (by rw [hall]; exact hnd) (fun k hk => by rw [hall] at hk; obtain ⟨i, _, hl⟩ := hlab k hk; exact (hr.llt k _ hl).1)).mono (fun e w' hp => ?_)
  obtain ⟨v, F, Z', rfl, hsame, hkept, hres, hFn, hFk, hZZ, hZ'⟩ := hp
  rw [hall] at hsame
  obtain ⟨m1, m2, m3, m4⟩ := hk'.mem
  have hKO : ∀ i ∈ K ++ kr.map (·.1), (s'.r i).isSome := fun i hi => hX i ((List.mem_append.1 hi).elim (m2 i) (m3 i))
  have hsub : ∀ k, k ∈ X.flatMap L.ν → k ∈ (K ++ kr.map (·.1)).flatMap L.ν := fun k hk => by
    obtain ⟨i, hi, hki⟩ := List.mem_flatMap.1 hk
    exact List.mem_flatMap.2 ⟨i, List.mem_append.2 (m1 i hi), hki⟩
  have hJ : Same ((K ++ kr.map (·.1)).flatMap L.ν) w w' := ⟨hsame.os, hsame.tape, hsame.output, hsame.size, fun k hk hn => hsame.block k hk (fun hx => hn (hsub k hx))⟩
  have hkr : ∀ {i sz xs'}, (i, sz, xs') ∈ kr → i ∉ K ∧ ∃ xs, s'.r i = some (sz, xs) ∧ NfP xs ∧ PVO no w' (.sl true sz xs') (L.ρ i) (L.ν i) := fun {i sz xs'} h => by
    obtain ⟨h1, xs, h2, h3, q, h4, h5⟩ := hk'.kr hXn h
    obtain ⟨hflat, N', hN'⟩ := hkept q (lf L s' i) xs' (by rw [List.getElem?_map, h4]; rfl) h5
    have hlf : lf L s' i = ⟨L.ρ i, L.ν i, sz⟩ := by simp [lf, h2]
    rw [hlf] at hN'
    obtain ⟨r1, _, _⟩ := hr.rw i sz xs h2
    have hNN : L.ν i = N' := by
      rcases head_nf r1 hN' hflat with e | ⟨k, m, e5, e6⟩
      · exact e
      · have := tail_nf r1 h3
        rw [e5] at this
        simp only [List.tail_cons] at this
        rw [e5, e6, this]
    rw [hNN]
    exact ⟨h1, xs, h2, h3, hN'⟩
  have hc1 := hr.call1 K (kr.map (·.1)) hKO (r' := setRs (s'.kill K).r kr) hJ (fun i sz xs' hi => by
    rw [setRs_eq] at hi
    cases e : setRs (fun _ => none) kr i with
    | some y =>
      rw [e] at hi
      cases hi
      have hm := setRs_mem _ _ _ e
      obtain ⟨g1, xs, g2, g3, g4⟩ := hkr hm
      exact .inr ⟨List.mem_map.2 ⟨_, hm, rfl⟩, g1, xs, g2, g3, g4⟩
    | none =>
      rw [e] at hi
      simp only [St.kill] at hi
      split at hi
      · cases hi
      · rename_i hn
        exact .inl ⟨hi, hn, setRs_none _ _ e⟩) (fun i sz xs hn hi => by
    rw [setRs_eq]
    cases e : setRs (fun _ => none) kr i with
    | some y =>
      have hm := setRs_mem _ _ _ e
      obtain ⟨sz', xs'⟩ := y
      obtain ⟨g1, xs0, g2, g3, g4⟩ := hkr hm
      rw [hi] at g2
      cases g2
      exact ⟨xs', rfl⟩
    | none =>
      refine ⟨xs, ?_⟩
      simp only [St.kill]
      rw [if_neg hn]
      exact hi)
  have hfr : ∀ i, rid ≤ i → i < rid + pSize PA.size res → s'.r i = none := fun i h1 h2 => by
    obtain ⟨h3, h4⟩ := hf.get i h1 h2
    exact (ag.m i h3).trans h4
  have gone : ∀ k, InE (X.map (lf L s')) outs k → k ∈ K.flatMap L.ν ∧ ∃ i, L.lab k = some (.row i) := fun k ⟨q, lf', h1, h2, h3⟩ => by
    rw [List.getElem?_map] at h1
    obtain ⟨i, hi, rfl⟩ := Option.map_eq_some_iff.1 h1
    simp only [lf] at h2 h3
    obtain ⟨⟨sz, xs⟩, hsx⟩ := Option.isSome_iff_exists.1 (hX i (List.mem_of_getElem? hi))
    obtain ⟨r1, r2, r3⟩ := hr.rw i sz xs hsx
    have hgone : i ∈ K := hk'.gone_at hi (fun xs' ho => by
      have ht := h3 xs' ho
      have : ∀ {X outs kr K}, Kept s' X outs kr K → ∀ {q i : Nat} {xs'}, X[q]? = some i → outs[q]? = some (some xs') → ∃ sz xs, s'.r i = some (sz, xs) ∧ NfP xs := fun {X outs kr K} g => by
        induction g with
        | nil => intro q i xs' h; simp at h
        | keep hr hn t ih =>
          intro q i xs' h1 h2
          cases q with
          | zero => simp at h1; subst h1; exact ⟨_, _, hr, hn⟩
          | succ q => exact ih h1 h2
        | gone t ih =>
          intro q i xs' h1 h2
          cases q with
          | zero => simp at h2
          | succ q => exact ih h1 h2
      obtain ⟨sz', xs', g1, g2⟩ := this hk' hi ho
      rw [hsx] at g1
      cases g1
      rw [tail_nf r1 g2] at ht
      cases ht)
    exact ⟨List.mem_flatMap.2 ⟨i, hgone, h2⟩, i, r3 k h2⟩
  have hlabn : ∀ k, (w.heap.size ≤ k ∨ InE (X.map (lf L s')) outs k) → (if k ∈ K.flatMap L.ν then none else L.lab k) = none := fun k hk => by
    split
    · rfl
    · rename_i hn
      rcases hk with hk | hk
      · cases e : L.lab k with
        | none => rfl
        | some l => have := (hr.llt k l e).1; omega
      · exact absurd (gone k hk).1 hn
  have hIw : ∀ k, (w.heap.size ≤ k ∨ InE (X.map (lf L s')) outs k) → w0.heap.size ≤ k ∨ k ∈ I.I := fun k hk => by
    rcases hk with hk | hk
    · exact .inl (Nat.le_trans hr.same.size hk)
    · obtain ⟨_, i, hl⟩ := gone k hk
      exact (hr.llt k _ hl).2
  have hc2 := hc1.widen Z' (fun k hk => by
    obtain ⟨g1, g2, g3⟩ := hZ' k hk
    rcases g3 with g3 | g3
    · refine ⟨g1, ?_, hr.zi k g3⟩
      have := (hr.zlt k g3).2
      simp only [this, ite_self]
    · exact ⟨g1, hlabn k g3, .inr (hIw k g3)⟩)
  obtain ⟨L', hrel, hav⟩ := takeR (id := rid) hc2 (hres.up (fun _ h => .inr h)) (fun k hk => by
    refine ⟨hlabn k (hFk k hk), fun hz => ?_, hIw k (hFk k hk)⟩
    rcases hz with hz | hz
    · exact (hZ' k (hZZ k hz)).2.1 hk
    · exact (hZ' k hz).2.1 hk) hFn (fun i h1 h2 => by
    simp only
    rw [setRs_eq]
    cases e : setRs (fun _ => none) kr i with
    | some y =>
      obtain ⟨sz, xs'⟩ := y
      obtain ⟨_, xs, g2, _⟩ := hkr (setRs_mem _ _ _ e)
      rw [hfr i h1 h2] at g2
      cases g2
    | none =>
      simp only [St.kill]
      split
      · rfl
      · exact hfr i h1 h2) hpin
  have hfin := hrel.put hd hav
  exact hK _ _ _ (by rw [Dl.app, killd_rec]; simp only; rw [setRs_append]; exact hfin)
end
end Go.Rl

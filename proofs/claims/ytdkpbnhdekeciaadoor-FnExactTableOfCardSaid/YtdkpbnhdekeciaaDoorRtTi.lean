/- Promises of functions, proved by walks over their operations; no conditions beyond those that each theorem states. -/
import Derived.Test.YtdkpbnhdekeciaaDoorRuJ
import Derived.Test.YtdkpbnhdekeciaaDoorRuB
import Derived.Test.YtdkpbnhdekeciaaDoorRlT
import Derived.Shelf.Spec.TrailingZeros
import Derived.Lib.LaidTab
set_option linter.unusedSimpArgs false
set_option linter.unusedVariables false
namespace Go.Rl
structure TabS where
 out : ByteArray
 index : ByteArray
 start : Nat
def curT (l : List Ent) (f i : Nat) : List Ent := (l.drop f).take (i - f)
def tabS (l : List Ent) (ev sz i : Nat) (e : Ent) (t : TabS) : TabS :=
 if (blkF (curT l t.start (i + 1)) ev).size < sz ∧ i + 1 < l.length then t
 else ⟨t.out ++ secF (blkF (curT l t.start (i + 1)) ev), t.index ++ (putV t.out.size ++ putX (keyT e)), i + 1⟩
def tabN (l : List Ent) (ev sz : Nat) : Nat → TabS
 | 0 => ⟨⟨#[]⟩, ⟨#[]⟩, 0⟩
 | i + 1 => match l[i]? with
  | some e => tabS l ev sz i e (tabN l ev sz i)
  | none => tabN l ev sz i
section
variable {l : List Ent} {ev sz i : Nat} {e : Ent}
theorem zEQ (he : l[i]? = some e) (h1 : (blkF (curT l (tabN l ev sz i).start (i + 1)) ev).size < sz) (h2 : i + 1 < l.length) : tabN l ev sz (i + 1) = tabN l ev sz i := by
 simp only [tabN, he]
 rw [tabS, if_pos ⟨h1, h2⟩]
theorem zCo (he : l[i]? = some e) (h : ¬ ((blkF (curT l (tabN l ev sz i).start (i + 1)) ev).size < sz ∧ i + 1 < l.length)) :
  tabN l ev sz (i + 1) = ⟨(tabN l ev sz i).out ++ secF (blkF (curT l (tabN l ev sz i).start (i + 1)) ev), (tabN l ev sz i).index ++ (putV (tabN l ev sz i).out.size ++ putX (keyT e)), i + 1⟩ := by
 simp only [tabN, he]
 rw [tabS, if_neg h]
theorem zKV (he : l[i]? = some e) {f : Nat} (hf : f ≤ i) : curT l f i ++ [e] = curT l f (i + 1) := by
 have h : (l.drop f)[i - f]? = some e := by rw [List.getElem?_drop, show f + (i - f) = i by omega]; exact he
 rw [curT, curT, show i + 1 - f = (i - f) + 1 by omega, List.take_add_one, h]
 rfl
theorem zDU (l : List Ent) (i : Nat) : curT l i i = [] := by rw [curT, Nat.sub_self, List.take_zero]
theorem zF1 {f : Nat} (h1 : f ≤ i) (h2 : i ≤ l.length) : (curT l f i).length = i - f := by
 rw [curT, List.length_take, List.length_drop]; omega
theorem cur_mem {f : Nat} {x : Ent} (h : x ∈ curT l f i) : x ∈ l := List.mem_of_mem_drop (List.mem_of_mem_take h)
theorem zJV {f j : Nat} {x : Ent} (h : (curT l f i)[j]? = some x) : l[f + j]? = some x := by
 rw [curT, List.getElem?_take] at h
 split at h
 · rw [List.getElem?_drop] at h; exact h
 · cases h
theorem cur_ok (h : zBD l = true) (f i : Nat) : zBD (curT l f i) = true := by
 have hm := zC3 h
 have hs := (Bool.and_eq_true _ _).mp h
 rw [zBD, Bool.and_eq_true, decide_eq_true_eq]
 refine ⟨?_, zGw (Nat.le_refl _) fun j x _ hx => ?_⟩
 ·
  have : (curT l f i).length ≤ l.length := by rw [curT, List.length_take, List.length_drop]; omega
  omega
 ·
  have hl := zGx hs.2 (zJV hx)
  simp only [zCb, Bool.and_eq_true, Bool.or_eq_true, decide_eq_true_eq] at hl ⊢
  refine ⟨hl.1, ?_⟩
  by_cases h0 : j = 0
  · exact .inl h0
  ·
   refine .inr ?_
   cases hy : (curT l f i)[j - 1]? with
   | none => rfl
   | some y =>
    have hy' := zJV hy
    rcases hl.2 with q | q
    · omega
    ·
     rw [show f + j - 1 = f + (j - 1) by omega, hy'] at q
     exact q
theorem zJh {L : List Ent} {k : Nat} (hl : ∀ e ∈ L, zBV e = true) (hk : k < L.length) : (blkN L ev (k + 1)).out.size ≤ (blkN L ev k).out.size + 290 ∧ (blkN L ev (k + 1)).anew.size ≤ (blkN L ev k).anew.size + 4 := by
 obtain ⟨e, he⟩ : ∃ e, L[k]? = some e := ⟨_, List.getElem?_eq_getElem (by omega)⟩
 have hb := zFT hl (ev := ev) k (by omega)
 have hn := zC5 (hl e (List.mem_of_getElem? he))
 have h3 := hb.ahead
 have h4 := zAl (n := 0) (by decide)
 have h5 := zDP (blkN L ev k).ahead (keyT e)
 have h6 := zAl (n := zA0 (blkN L ev k).ahead (keyT e)) (by omega)
 have h7 := zDT (keyT e) (zA0 (blkN L ev k).ahead (keyT e))
 have h8 := zBB (s := keyT e) (by omega)
 have h9 := zBB (s := (keyT e).extract (zA0 (blkN L ev k).ahead (keyT e)) (keyT e).size) (by omega)
 have h10 := zBB (s := e.value) (by omega)
 rw [zCG he, blkS]
 split
 · exact ⟨by simp only [zAY]; omega, by simp only [zAY, zAQ]; omega⟩
 · exact ⟨by simp only [zAY]; omega, Nat.le_add_right _ _⟩
theorem zGu {L : List Ent} {k : Nat} (hk : k ≤ L.length) : (blkF (L.take k) ev).size = (blkN L ev k).out.size + (blkN L ev k).anew.size + 8 := by
 have hl : (L.take k).length = k := by rw [List.length_take]; omega
 simp only [blkF, zAY, zAQ, hl, zGt (Nat.le_refl k)]
theorem zKb (hl : ∀ e ∈ l, zBV e = true) {f : Nat} (h1 : f ≤ i) (h2 : i < l.length) : (blkF (curT l f (i + 1)) ev).size ≤ (blkF (curT l f i) ev).size + 294 := by
 have hd : ∀ e ∈ l.drop f, zBV e = true := fun e he => hl e (List.mem_of_mem_drop he)
 have hk : i - f < (l.drop f).length := by rw [List.length_drop]; omega
 have := zJh (ev := ev) hd hk
 rw [curT, curT, zGu (by omega), show i + 1 - f = (i - f) + 1 by omega, zGu (by omega)]
 omega
theorem zFY (hl : ∀ e ∈ l, zBV e = true) : ∀ i, i ≤ l.length → (tabN l ev sz i).start ≤ i ∧ (i < l.length → (blkF (curT l (tabN l ev sz i).start i) ev).size ≤ sz + 8)
 | 0, _ => ⟨Nat.le_refl _, fun _ => by
  have : (curT l (tabN l ev sz 0).start 0) = [] := zDU l 0
  rw [this]
  have h : (blkF [] ev).size = 8 := by simp only [blkF, zAY, zAQ]; rfl
  omega⟩
 | i + 1, h => by
  have ih := zFY hl i (by omega)
  obtain ⟨e, he⟩ : ∃ e, l[i]? = some e := ⟨_, List.getElem?_eq_getElem (by omega)⟩
  by_cases q : (blkF (curT l (tabN l ev sz i).start (i + 1)) ev).size < sz ∧ i + 1 < l.length
  ·
   rw [zEQ he q.1 q.2]
   exact ⟨by omega, fun _ => by omega⟩
  ·
   rw [zCo he q]
   refine ⟨Nat.le_refl _, fun _ => ?_⟩
   rw [zDU]
   have h : (blkF [] ev).size = 8 := by simp only [blkF, zAY, zAQ]; rfl
   omega
theorem zG2 (hl : ∀ e ∈ l, zBV e = true) (hi : i < l.length) : (tabN l ev sz i).start ≤ i ∧ (blkF (curT l (tabN l ev sz i).start (i + 1)) ev).size ≤ sz + 302 := by
 have h := zFY hl (ev := ev) (sz := sz) i (by omega)
 have := zKb (ev := ev) hl h.1 hi
 have := h.2 hi
 exact ⟨h.1, by omega⟩
theorem zCy (hl : ∀ e ∈ l, zBV e = true) (hn : l.length ≤ 400) (hs : sz ≤ 4000) : ∀ i, i ≤ l.length → (tabN l ev sz i).out.size ≤ 5000 * i ∧ (tabN l ev sz i).index.size ≤ 68 * i
 | 0, _ => ⟨Nat.le_refl _, Nat.le_refl _⟩
 | i + 1, h => by
  have ih := zCy hl hn hs i (by omega)
  obtain ⟨e, he⟩ : ∃ e, l[i]? = some e := ⟨_, List.getElem?_eq_getElem (by omega)⟩
  have hn := zC5 (hl e (List.mem_of_getElem? he))
  have hb := zG2 (ev := ev) (sz := sz) hl (show i < l.length by omega)
  have h1 := zBB (s := blkF (curT l (tabN l ev sz i).start (i + 1)) ev) (by omega)
  have h2 := zBB (s := keyT e) (by omega)
  have h3 := zAl (n := (tabN l ev sz i).out.size) (by omega)
  by_cases q : (blkF (curT l (tabN l ev sz i).start (i + 1)) ev).size < sz ∧ i + 1 < l.length
  · rw [zEQ he q.1 q.2]; omega
  ·
   rw [zCo he q]
   simp only [secF, zAY, zAQ]
   omega
end
theorem zF7 {l : List Ent} (h : zBD l = true) : ∀ u ∈ zAs l, zBI u = true := fun u hu => by
 obtain ⟨e, he, rfl⟩ := zJr.1 hu
 have := zC2 h he
 simp only [zBV, zBr, Bool.and_eq_true] at this
 exact this.1.1.1.1
theorem zE8 {l : List Ent} (h : zBD l = true) : (zAs l).length ≤ 400 := by
 have h1 := zDI (l.map (·.user)) (l.map (·.user)).length
 have h2 := zC3 h
 rw [zAs, zBi]
 rw [List.length_map] at h1 ⊢
 omega
theorem zIU (us : List ByteArray) : (zCN us).bits.size = zAZ us := by
 show (zCc (ints (bitB us us.length))).size = _
 rw [zCW, zCS]
theorem zHE {us : List ByteArray} {sd : Nat} {f : Flt} (h : zA8 us sd = some f) : f.bits.size = ribM us := by
 rw [zA8] at h
 split at h
 · cases h
 ·
  cases h
  show (zCc (ints (bitK _ (ribM us) (ribM us)))).size = _
  rw [zCW, zCk]
theorem zEh {us : List ByteArray} {f : Flt} : ∀ {n : Nat}, zBv us n = some f → ∃ k, k < n ∧ zA8 us k = some f
 | 0, h => by cases h
 | n + 1, h => by
  rw [zBv] at h
  cases q : zBv us n with
  | none => rw [q] at h; exact ⟨n, Nat.lt_succ_self n, h⟩
  | some g =>
   rw [q] at h
   cases h
   obtain ⟨k, h1, h2⟩ := zEh q
   exact ⟨k, by omega, h2⟩
theorem zEJ {us : List ByteArray} (kd : Int) (h : us.length ≤ 400) : (zAr us kd).bits.size ≤ 600 := by
 have hb := zF4 h
 have hr : ribM us ≤ 520 := by rw [ribM]; omega
 have h1 : (zCN us).bits.size ≤ 600 := by rw [zIU]; omega
 rw [zAr]
 split
 · decide
 ·
  split
  ·
   cases q : zBv us 4 with
   | none => exact h1
   | some f =>
    obtain ⟨k, _, h2⟩ := zEh q
    have := zHE h2
    show f.bits.size ≤ 600
    omega
  · exact h1
def zDX (l : List Ent) (ev sz kd : Nat) : ByteArray := putV l.length ++ hllF (zAs l) ++ putV ev ++ putV sz ++ putV kd
def fixS (s : ByteArray) : ByteArray := fixV (s.size % 4294967296)
def tab1 (l : List Ent) (ev sz : Nat) : ByteArray := (tabN l ev sz l.length).out
def tab2 (l : List Ent) (ev sz : Nat) : ByteArray := tab1 l ev sz ++ secF (tabN l ev sz l.length).index
def tab3 (l : List Ent) (ev sz kd : Nat) : ByteArray := tab2 l ev sz ++ secF (zBs (zAr (zAs l) (kd : Int)))
def tab4 (l : List Ent) (ev sz kd : Nat) : ByteArray := tab3 l ev sz kd ++ secF (zDX l ev sz kd)
def footT (l : List Ent) (ev sz kd : Nat) : ByteArray := fixS (tab1 l ev sz) ++ fixS (tab2 l ev sz) ++ fixS (tab3 l ev sz kd)
def zDB (l : List Ent) (ev sz kd : Nat) : ByteArray := tab4 l ev sz kd ++ footT l ev sz kd ++ fixV 1279478321
def secL (l : List Ent) (ev sz kd : Nat) : List ByteArray := [(tabN l ev sz l.length).index, zBs (zAr (zAs l) (kd : Int)), zDX l ev sz kd]
def tabJ (l : List Ent) (ev sz kd : Nat) : Nat → ByteArray
 | 0 => tab1 l ev sz
 | j + 1 => match (secL l ev sz kd)[j]? with
  | some x => tabJ l ev sz kd j ++ secF x
  | none => tabJ l ev sz kd j
def plJ (l : List Ent) (ev sz kd : Nat) : Nat → ByteArray
 | 0 => ⟨#[]⟩
 | j + 1 => plJ l ev sz kd j ++ fixS (tabJ l ev sz kd j)
theorem zF9 {l : List Ent} {ev sz kd j : Nat} {x : ByteArray} (h : (secL l ev sz kd)[j]? = some x) : tabJ l ev sz kd (j + 1) = tabJ l ev sz kd j ++ secF x := by rw [tabJ, h]
theorem zKU (b : ByteArray) : (⟨#[]⟩ : ByteArray) ++ b = b := ByteArray.ext (by simp [ByteArray.data_append])
theorem plJ_3 (l : List Ent) (ev sz kd : Nat) : plJ l ev sz kd 3 = footT l ev sz kd := by
 show (⟨#[]⟩ ++ fixS (tabJ l ev sz kd 0)) ++ fixS (tabJ l ev sz kd 1) ++ fixS (tabJ l ev sz kd 2) = _
 rw [zKU]
 rfl
section
variable {l : List Ent} {ev sz kd : Nat}
theorem zD9 (hn : l.length ≤ 400) (hev : ev ≤ 16) (hs : sz ≤ 4000) (hkd : kd ≤ 2) : (zDX l ev sz kd).size ≤ 104 := by
 have h1 := zAl (n := l.length) (by omega)
 have h2 := zAl (n := ev) (by omega)
 have h3 := zAl (n := sz) (by omega)
 have h4 := zAl (n := kd) (by omega)
 have h5 : (hllF (zAs l)).size = 64 := zEC (zDo _ _)
 simp only [zDX, zAY]
 omega
theorem zHd (hl : ∀ e ∈ l, zBV e = true) (hn : l.length ≤ 400) (hev : ev ≤ 16) (hs : sz ≤ 4000) (hkd : kd ≤ 2) {j : Nat} {x : ByteArray} (h : (secL l ev sz kd)[j]? = some x) : x.size ≤ 30000 := by
 have h1 := (zCy (ev := ev) hl hn hs l.length (Nat.le_refl _)).2
 have h2 := zDH (zAr (zAs l) (kd : Int))
 have h3 := zD9 hn hev hs hkd
 match j, h with
 | 0, h => cases h; omega
 | 1, h => cases h; omega
 | 2, h => cases h; omega
 | j + 3, h => simp [secL] at h
theorem zGA (hl : ∀ e ∈ l, zBV e = true) (hn : l.length ≤ 400) (hev : ev ≤ 16) (hs : sz ≤ 4000) (hkd : kd ≤ 2) : ∀ j, (tabJ l ev sz kd j).size ≤ 2000000 + 30014 * j
 | 0 => by
  have := (zCy (ev := ev) hl hn hs l.length (Nat.le_refl _)).1
  show (tab1 l ev sz).size ≤ _
  rw [tab1]; omega
 | j + 1 => by
  have ih := zGA hl hn hev hs hkd j
  cases h : (secL l ev sz kd)[j]? with
  | none => rw [tabJ, h]; simp only []; omega
  | some x =>
   have hx := zHd hl hn hev hs hkd h
   have := zBB (s := x) (by omega)
   rw [zF9 h]
   simp only [secF, zAY, zAQ]
   omega
theorem zHk (l : List Ent) (ev sz kd : Nat) : ∀ j, (plJ l ev sz kd j).size = 4 * j
 | 0 => rfl
 | j + 1 => by
  have ih := zHk l ev sz kd j
  simp only [plJ, fixS, zAY, zAQ, ih]
  omega
end
structure Shp where
 every : Int
 size : Int
 kind : Int
 deriving DecidableEq
def zBP (p : Shp) : Bool := zAd p.every 1 16 && (zAd p.size 20 4000 && zAd p.kind 0 2)
theorem zHb {p : Shp} (h : zBP p = true) : (1 ≤ p.every ∧ p.every ≤ 16) ∧ (20 ≤ p.size ∧ p.size ≤ 4000) ∧ 0 ≤ p.kind ∧ p.kind ≤ 2 := by simp only [zBP, zAd, Bool.and_eq_true, decide_eq_true_eq] at h; exact h
def zF8 (l : List Ent) (p : Shp) : ByteArray := zDB l p.every.toNat p.size.toNat p.kind.toNat
def zBu (l : List Ent) (p : Shp) : Option ByteArray := if (zBD l = true ∧ 0 < l.length) ∧ zBP p = true then (if (zF8 l p).size ≤ 60000 then some (zF8 l p) else none) else none
theorem zCn {l : List Ent} {p : Shp} (h : zBD l = false ∨ l.length = 0 ∨ zBP p = false) : zBu l p = none := by
 rw [zBu, if_neg]
 rintro ⟨⟨h1, h2⟩, h3⟩
 rcases h with h | h | h
 · rw [h] at h1; cases h1
 · omega
 · rw [h] at h3; cases h3
theorem zFA {l : List Ent} {p : Shp} (h : 60000 < (zF8 l p).size) : zBu l p = none := by
 rw [zBu]
 split
 · rw [if_neg (by omega)]
 · rfl
theorem zE9 {l : List Ent} {p : Shp} (h1 : zBD l = true) (h2 : 0 < l.length) (h3 : zBP p = true) (h : (zF8 l p).size ≤ 60000) : zBu l p = some (zF8 l p) := by
 rw [zBu, if_pos ⟨⟨h1, h2⟩, h3⟩, if_pos h]
end Go.Rl
namespace Go.Rl
open Go.Proofs
theorem inf30 : (Tryd.prog.info? 30).map (fun i => (i.zero, i.size, i.bytes)) = some (some (.agg #[.int .i64 0, .int .i64 0, .int .i64 0]), 3, 24) := by kernel_rfl
theorem en71 : ∀ vs w, (callFunc 71 vs).run Tryd.prog w = .ok (.enter 71 vs) w := zAn Tryd.func71 (by decide) rfl
theorem en39 : ∀ vs w, (callFunc 39 vs).run Tryd.prog w = .ok (.enter 39 vs) w := zAn Tryd.func39 (by decide) rfl
theorem en70 : ∀ vs w, (callFunc 70 vs).run Tryd.prog w = .ok (.enter 70 vs) w := zAn Tryd.func70 (by decide) rfl
theorem en69 : ∀ vs w, (callFunc 69 vs).run Tryd.prog w = .ok (.enter 69 vs) w := zAn Tryd.func69 (by decide) rfl
theorem en37 : ∀ vs w, (callFunc 37 vs).run Tryd.prog w = .ok (.enter 37 vs) w := zAn Tryd.func37 (by decide) rfl
theorem en36 : ∀ vs w, (callFunc 36 vs).run Tryd.prog w = .ok (.enter 36 vs) w := zAn Tryd.func36 (by decide) rfl
set_option maxRecDepth 100000 in
theorem zIB (a b : Flt) (w : World) : (Op.equalIn 10000 52 (.agg ⟨[.int .i64 a.kind, .int .i64 a.seed, .int .i64 a.probes, .string a.bits]⟩) (.agg ⟨[.int .i64 b.kind, .int .i64 b.seed, .int .i64 b.probes, .string b.bits]⟩)).run Tryd.prog w = .ok (decide (a = b)) w := by
 rw [show (10000 : Nat) = 9999 + 1 from rfl, run_equalIn_agg w 9999 52 _ _ Tryd.underlying52 (by kernel_rfl)]
 rw [show (Tryd.prog.fieldsOf 52).toList = [⟨"Kind", 2, 0, false, "", "", 0⟩, ⟨"Seed", 2, 1, false, "", "", 8⟩, ⟨"Probes", 2, 2, false, "", "", 16⟩, ⟨"Bits", 9, 3, false, "", "", 24⟩] from rfl]
 rw [show (9999 : Nat) = 9998 + 1 from rfl]
 simp [Op.eqFields, part, Tryd.isAgg2, Tryd.sizeOf2, Tryd.isAgg9, Tryd.sizeOf9, run_equalIn_int (h := Tryd.underlying2), run_equalIn_string (h := Tryd.underlying9), zIT]
 cases a; cases b
 simp only [Flt.mk.injEq]
 (repeat' split) <;> simp_all
set_option maxRecDepth 1000000 in
set_option maxHeartbeats 2000000 in
theorem zGc (f : Flt) (hf : f.bits.size ≤ 9000000000000000000) : Con Tryd.prog 71 [.agg [PV.v (.int .i64 f.kind), PV.v (.int .i64 f.seed), PV.v (.int .i64 f.probes), PV.v (.string f.bits)]] [] [.one (.v (.bool (zBC f)))] := by
 refine zAP Tryd.func71 rfl rfl rfl rfl ?_
 refine zAC ?_
 refine zAA rfl (.run [] [1] rfl (zBa rfl 1 rfl rfl (by decide) rfl (by decide)) (.run [] [] rfl (zAD rfl) .nil)) ?_
 refine zAC ?_
 refine zAC ?_
 refine zAA rfl (.run [] [] rfl (zAE rfl rfl Tryd.underlying52 rfl Tryd.sizeOf2 (by decide)) (.run [] [] rfl (zAF rfl rfl rfl Tryd.isAgg2 rfl) .nil)) ?_
 refine zAM ?_
 refine zAC ?_
 refine zAA rfl (.run [] [] rfl (zA6 rfl rfl rfl) (.run [] [] rfl (zAD rfl) .nil)) ?_
 refine zAW (t := decide (f.kind = 0)) rfl (fun h1 => ?_) (fun h1 => ?_)
 ·
  replace h1 := of_decide_eq_true h1
  refine zAC ?_
  refine zAA rfl (.run [] [] rfl (zAV rfl rfl rfl Tryd.isAgg52 Tryd.sizeOf52 (nle rfl)) (.run [] [] rfl (zB0 (pl := [(0, 1), (1, 1), (2, 1), (3, 1)]) rfl Tryd.underlying52 zCd (by kernel_rfl) rfl rfl) (.run [] [] rfl (zG6 rfl rfl rfl rfl rfl Tryd.eqGuardType52 (fun w => zIB f (⟨0, 0, 0, ⟨#[]⟩⟩ : Flt) w)) (.run [] [] rfl (zAD rfl) .nil)))) ?_
  refine zAL ?_
  exact ends [_] [] (.cons (.tmp (zAI (fok_0 h1))) .nil) (.cons (.one .v (.v _)) .nil) (by decide) trivial
 ·
  replace h1 := of_decide_eq_false h1
  refine zAC ?_
  refine zAA rfl (.run [] [] rfl (zA6 rfl rfl rfl) (.run [] [] rfl (zAD rfl) .nil)) ?_
  refine zAW (t := decide (f.kind = 1)) rfl (fun h2 => ?_) (fun h2 => ?_)
  ·
   replace h2 := of_decide_eq_true h2
   refine zAC ?_
   refine zAU (s' := mk [(1, .ptr 1 0)] [(1, [.p none (.v (.int .i64 f.kind)), .p none (.v (.int .i64 f.seed)), .p none (.v (.int .i64 f.probes)), .p none (.v (.string f.bits))])] []) ?_ ?_
   · exact zAK ⟨rfl, trivial⟩ ⟨rfl, trivial⟩ trivial rfl
   rcases bfc (decide (f.seed = 0)) with h3 | h3
   ·
    have h3' := h3
    replace h3' := of_decide_eq_false h3'
    refine zAA rfl (.run [] [] rfl (zAE rfl rfl Tryd.underlying52 rfl Tryd.sizeOf2 (by decide)) (.run [] [] rfl (zAF rfl rfl rfl Tryd.isAgg2 rfl) (.run [] [] rfl (zAO (zA6 rfl rfl rfl) (zAI h3)) (.run [] [] rfl (zAB rfl) (.not rfl (.not rfl (.not rfl (.run [] [] rfl (zBR rfl rfl) (.run [] [] rfl (zAB rfl) (.not rfl (.not rfl (.not rfl (.not rfl (.run [] [] rfl (zBR rfl rfl) (.run [] [] rfl (zAD rfl) .nil))))))))))))))) ?_
    refine zAL ?_
    exact ends [_] [] (.cons (.tmp (zAI (by rw [zHM h2]; simp [h3']))) .nil) (.cons (.one .v (.v _)) .nil) (by decide) trivial
   ·
    have h3' := h3
    replace h3' := of_decide_eq_true h3'
    rcases bfc (zAd f.probes 1 30) with h4 | h4
    ·
     have h4' := h4
     refine zAA rfl (.run [] [] rfl (zAE rfl rfl Tryd.underlying52 rfl Tryd.sizeOf2 (by decide)) (.run [] [] rfl (zAF rfl rfl rfl Tryd.isAgg2 rfl) (.run [] [] rfl (zAO (zA6 rfl rfl rfl) (zAI h3)) (.run [] [] rfl (zAB rfl) (.run [] [] rfl (zAE rfl rfl Tryd.underlying52 rfl Tryd.sizeOf2 (by decide)) (.run [] [] rfl (zAF rfl rfl rfl Tryd.isAgg2 rfl) (.run [1900] [] rfl (zAG rfl 1900 (X := []) en43 rfl (.val nod) (.cons (.one (.bor .v)) (.cons (.one (.bor .v)) (.cons (.one (.bor .v)) .nil))) (by decide) all_nil .nil (zBF f.probes 1 30) rfl rfl (nle rfl)) (.run [] [] rfl (zBZ rfl rfl) (.run [] [] rfl (zAO (zAB rfl) (zAI h4)) (.not rfl (.not rfl (.not rfl (.not rfl (.run [] [] rfl (zBR rfl rfl) (.run [] [] rfl (zAD rfl) .nil))))))))))))))) ?_
     refine zAL ?_
     exact ends [_] [] (.cons (.tmp (zAI (by rw [zHM h2]; simp [h3', h4']))) .nil) (.cons (.one .v (.v _)) .nil) (by decide) trivial
    ·
     have h4' := h4
     refine zAA rfl (.run [] [] rfl (zAE rfl rfl Tryd.underlying52 rfl Tryd.sizeOf2 (by decide)) (.run [] [] rfl (zAF rfl rfl rfl Tryd.isAgg2 rfl) (.run [] [] rfl (zAO (zA6 rfl rfl rfl) (zAI h3)) (.run [] [] rfl (zAB rfl) (.run [] [] rfl (zAE rfl rfl Tryd.underlying52 rfl Tryd.sizeOf2 (by decide)) (.run [] [] rfl (zAF rfl rfl rfl Tryd.isAgg2 rfl) (.run [1900] [] rfl (zAG rfl 1900 (X := []) en43 rfl (.val nod) (.cons (.one (.bor .v)) (.cons (.one (.bor .v)) (.cons (.one (.bor .v)) .nil))) (by decide) all_nil .nil (zBF f.probes 1 30) rfl rfl (nle rfl)) (.run [] [] rfl (zBZ rfl rfl) (.run [] [] rfl (zAO (zAB rfl) (zAI h4)) (.run [] [] rfl (zAE rfl rfl Tryd.underlying52 rfl Tryd.sizeOf9 (by decide)) (.run [] [] rfl (zAF rfl rfl rfl Tryd.isAgg9 rfl) (.run [] [] rfl (zAR rfl rfl Tryd.underlying9) (.run [2500] [] rfl (zAG rfl 2500 (X := []) en43 rfl (.val nod) (.cons (.one (.bor .v)) (.cons (.one (.bor .v)) (.cons (.one (.bor .v)) .nil))) (by decide) all_nil .nil (zBF (f.bits.size : Int) 1 1000) rfl rfl (nle rfl)) (.run [] [] rfl (zBZ rfl rfl) (.run [] [] rfl (zAD rfl) .nil))))))))))))))) ?_
     refine zAL ?_
     exact ends [_] [] (.cons (.tmp (zAI (by rw [zHM h2]; simp [h3', h4']))) .nil) (.cons (.one .v (.v _)) .nil) (by decide) trivial
  ·
   replace h2 := of_decide_eq_false h2
   refine zAC ?_
   refine zAA rfl (.run [] [] rfl (zA6 rfl rfl rfl) (.run [] [] rfl (zAD rfl) .nil)) ?_
   refine zAW (t := decide (f.kind = 2)) rfl (fun h5 => ?_) (fun h5 => ?_)
   ·
    replace h5 := of_decide_eq_true h5
    refine zAC ?_
    refine zAC ?_
    refine zAU (s' := mk [(1, .ptr 1 0)] [(1, [.p none (.v (.int .i64 f.kind)), .p none (.v (.int .i64 f.seed)), .p none (.v (.int .i64 f.probes)), .p none (.v (.string f.bits))])] []) ?_ ?_
    · exact zAK ⟨rfl, trivial⟩ ⟨rfl, trivial⟩ trivial rfl
    rcases bfc (!(decide (f.probes = 0))) with h6 | h6
    ·
     have h6' := h6
     replace h6' : f.probes = 0 := of_decide_eq_true (zA5 h6')
     rcases bfc (!(zAd f.seed 0 3)) with h7 | h7
     ·
      have h7' := h7
      replace h7' : (zAd f.seed 0 3) = true := zA5 h7'
      refine zAA rfl (.run [] [] rfl (zAE rfl rfl Tryd.underlying52 rfl Tryd.sizeOf2 (by decide)) (.run [] [] rfl (zAF rfl rfl rfl Tryd.isAgg2 rfl) (.run [] [] rfl (zAO (zCH rfl rfl rfl) (zAI h6)) (.run [] [] rfl (zAB rfl) (.run [] [] rfl (zAE rfl rfl Tryd.underlying52 rfl Tryd.sizeOf2 (by decide)) (.run [] [] rfl (zAF rfl rfl rfl Tryd.isAgg2 rfl) (.run [3500] [] rfl (zAG rfl 3500 (X := []) en43 rfl (.val nod) (.cons (.one (.bor .v)) (.cons (.one (.bor .v)) (.cons (.one (.bor .v)) .nil))) (by decide) all_nil .nil (zBF f.seed 0 3) rfl rfl (nle rfl)) (.run [] [] rfl (zAO (zA1 (b := zAd f.seed 0 3) rfl rfl) (zAI h7)) (.run [] [] rfl (zBR rfl rfl) (.run [] [] rfl (zAB rfl) (.run [] [] rfl (zAE rfl rfl Tryd.underlying52 rfl Tryd.sizeOf9 (by decide)) (.run [] [] rfl (zAF rfl rfl rfl Tryd.isAgg9 rfl) (.run [] [] rfl (zAR rfl rfl Tryd.underlying9) (.run [4200] [] rfl (zAG rfl 4200 (X := []) en43 rfl (.val nod) (.cons (.one (.bor .v)) (.cons (.one (.bor .v)) (.cons (.one (.bor .v)) .nil))) (by decide) all_nil .nil (zBF (f.bits.size : Int) 20 600) rfl rfl (nle rfl)) (.run [] [] rfl (zA1 (b := zAd (f.bits.size : Int) 20 600) rfl rfl) (.run [] [] rfl (zBR rfl rfl) .nil)))))))))))))))) ?_
      refine zAW (t := (!(zAd (f.bits.size : Int) 20 600))) rfl (fun h8 => ?_) (fun h8 => ?_)
      ·
       replace h8 : (zAd (f.bits.size : Int) 20 600) = false := zA4 h8
       refine zAC ?_
       refine zAU (s' := mk [] [] []) ?_ ?_
       · exact zAK trivial trivial trivial rfl
       refine zAA rfl (.run [] [] rfl (zAD rfl) .nil) ?_
       refine zAL ?_
       exact ends [_] [] (.cons (.tmp (zAI (by rw [zEt h5]; simp [h6', h7', h8]))) .nil) (.cons (.one .v (.v _)) .nil) (by decide) trivial
      ·
       replace h8 : (zAd (f.bits.size : Int) 20 600) = true := zA5 h8
       refine zAJ ?_
       refine zAC ?_
       refine zAC ?_
       refine zAU (s' := mk [(1, .ptr 1 0)] [(1, [.p none (.v (.int .i64 f.kind)), .p none (.v (.int .i64 f.seed)), .p none (.v (.int .i64 f.probes)), .p none (.v (.string f.bits))])] []) ?_ ?_
       · exact zAK ⟨rfl, trivial⟩ ⟨rfl, trivial⟩ trivial rfl
       refine zAA rfl (.run [] [] rfl (zAE rfl rfl Tryd.underlying52 rfl Tryd.sizeOf9 (by decide)) (.run [] [] rfl (zAF rfl rfl rfl Tryd.isAgg9 rfl) (.run [] [] rfl (zAR rfl rfl Tryd.underlying9) (.run [] [] rfl (zAB rfl) .nil)))) ?_
       refine zAM ?_
       refine zAj (σ := Nat) (fun i => mk [(1, .ptr 1 0), (47, .p none (.v (.int .i64 (f.bits.size : Int)))), (48, .p none (.v (.int .i64 (i:Int))))] [(1, [.p none (.v (.int .i64 f.kind)), .p none (.v (.int .i64 f.seed)), .p none (.v (.int .i64 f.probes)), .p none (.v (.string f.bits))])] []) (fun i => i ≤ f.bits.size ∧ zCQ f.bits 127 i) (fun i => f.bits.size - i) 0 ⟨Nat.zero_le _, zDN _ _⟩ (zAK ⟨rfl, ⟨rfl, ⟨(zAH (by omega)), trivial⟩⟩⟩ ⟨rfl, trivial⟩ trivial rfl) ?_
       rintro i hG
       replace hG : i ≤ f.bits.size ∧ zCQ f.bits 127 i := hG
       obtain ⟨hi, hS⟩ := hG
       refine zAC ?_
       refine zAA rfl (.run [] [] rfl (zAu rfl rfl rfl) .nil) ?_
       refine zAC ?_
       refine zAW (t := decide ((i:Int) < (f.bits.size : Int))) rfl (fun h9 => ?_) (fun h9 => ?_)
       ·
        replace h9 := of_decide_eq_true h9
        refine zAJ ?_
        refine zAC ?_
        refine zAM ?_
        refine zAC ?_
        refine zAA rfl (.run [] [] rfl (zAB rfl) (.run [] [] rfl (zAD rfl) .nil)) ?_
        refine zAC ?_
        obtain ⟨b, hb⟩ : ∃ b : UInt8, f.bits[i]? = some b := ⟨_, getElem?_pos f.bits i (by omega)⟩
        refine zAA rfl (.run [] [] rfl (zAE rfl rfl Tryd.underlying52 rfl Tryd.sizeOf9 (by decide)) (.run [] [] rfl (zAF rfl rfl rfl Tryd.isAgg9 rfl) (.run [] [] rfl (zAB rfl) (.run [] [] rfl (zCO rfl rfl rfl Tryd.underlying9 (by omega) hb) (.run [] [] rfl (zBy rfl rfl rfl) .nil))))) ?_
        refine zAW (t := decide (127 < (b.toNat : Int))) rfl (fun h10 => ?_) (fun h10 => ?_)
        ·
         replace h10 := of_decide_eq_true h10
         refine zAC ?_
         refine zAA rfl (.run [] [] rfl (zAD rfl) .nil) ?_
         refine zAL ?_
         exact ends [_] [] (.cons (.tmp (zAI (by rw [zEt h5]; simp [h6', h7', h8, zH9 (m := 127) hb (by omega)]))) .nil) (.cons (.one .v (.v _)) .nil) (by decide) trivial
        ·
         replace h10 := of_decide_eq_false h10
         refine zAJ ?_
         refine zAA rfl (.run [] [] rfl (zAX rfl rfl rfl (by omega)) (.run [] [] rfl (zAB rfl) .nil)) ?_
         refine nxt (Q := fun _ _ => False) (z := i) (i + 1) ?_ ?_ ?_
         ·
          show (i + 1) ≤ f.bits.size ∧ zCQ f.bits 127 (i + 1)
          exact ⟨by omega, zDO hS hb (by omega)⟩
         ·
          show f.bits.size - (i + 1) < f.bits.size - i
          omega
         · exact zAK ⟨rfl, ⟨rfl, ⟨(zAH (by omega)), trivial⟩⟩⟩ ⟨rfl, trivial⟩ trivial rfl
       ·
        replace h9 := of_decide_eq_false h9
        refine zAk ?_
        refine zAC ?_
        refine zAA rfl (.run [] [] rfl (zAD rfl) .nil) ?_
        refine zAL ?_
        exact ends [_] [] (.cons (.tmp (zAI (by rw [zEt h5]; simp [h6', h7', h8, zF6 hS (by omega)]))) .nil) (.cons (.one .v (.v _)) .nil) (by decide) trivial
     ·
      have h7' := h7
      replace h7' : (zAd f.seed 0 3) = false := zA4 h7'
      refine zAA rfl (.run [] [] rfl (zAE rfl rfl Tryd.underlying52 rfl Tryd.sizeOf2 (by decide)) (.run [] [] rfl (zAF rfl rfl rfl Tryd.isAgg2 rfl) (.run [] [] rfl (zAO (zCH rfl rfl rfl) (zAI h6)) (.run [] [] rfl (zAB rfl) (.run [] [] rfl (zAE rfl rfl Tryd.underlying52 rfl Tryd.sizeOf2 (by decide)) (.run [] [] rfl (zAF rfl rfl rfl Tryd.isAgg2 rfl) (.run [3500] [] rfl (zAG rfl 3500 (X := []) en43 rfl (.val nod) (.cons (.one (.bor .v)) (.cons (.one (.bor .v)) (.cons (.one (.bor .v)) .nil))) (by decide) all_nil .nil (zBF f.seed 0 3) rfl rfl (nle rfl)) (.run [] [] rfl (zAO (zA1 (b := zAd f.seed 0 3) rfl rfl) (zAI h7)) (.run [] [] rfl (zBR rfl rfl) (.run [] [] rfl (zAB rfl) (.not rfl (.not rfl (.not rfl (.not rfl (.not rfl (.run [] [] rfl (zBZ rfl rfl) .nil)))))))))))))))) ?_
      refine zAW (t := true) rfl (fun _ => ?_) (fun h => nomatch h)
      refine zAC ?_
      refine zAU (s' := mk [] [] []) ?_ ?_
      · exact zAK trivial trivial trivial rfl
      refine zAA rfl (.run [] [] rfl (zAD rfl) .nil) ?_
      refine zAL ?_
      exact ends [_] [] (.cons (.tmp (zAI (by rw [zEt h5]; simp [h6', h7']))) .nil) (.cons (.one .v (.v _)) .nil) (by decide) trivial
    ·
     have h6' := h6
     replace h6' : ¬ (f.probes = 0) := of_decide_eq_false (zA4 h6')
     refine zAA rfl (.run [] [] rfl (zAE rfl rfl Tryd.underlying52 rfl Tryd.sizeOf2 (by decide)) (.run [] [] rfl (zAF rfl rfl rfl Tryd.isAgg2 rfl) (.run [] [] rfl (zAO (zCH rfl rfl rfl) (zAI h6)) (.run [] [] rfl (zAB rfl) (.not rfl (.not rfl (.not rfl (.not rfl (.run [] [] rfl (zBZ rfl rfl) (.run [] [] rfl (zAB rfl) (.not rfl (.not rfl (.not rfl (.not rfl (.not rfl (.run [] [] rfl (zBZ rfl rfl) .nil)))))))))))))))) ?_
     refine zAW (t := true) rfl (fun _ => ?_) (fun h => nomatch h)
     refine zAC ?_
     refine zAU (s' := mk [] [] []) ?_ ?_
     · exact zAK trivial trivial trivial rfl
     refine zAA rfl (.run [] [] rfl (zAD rfl) .nil) ?_
     refine zAL ?_
     exact ends [_] [] (.cons (.tmp (zAI (by rw [zEt h5]; simp [h6']))) .nil) (.cons (.one .v (.v _)) .nil) (by decide) trivial
   ·
    replace h5 := of_decide_eq_false h5
    refine zAJ ?_
    refine zAC ?_
    refine zAA rfl (.run [] [] rfl (zAD rfl) .nil) ?_
    refine zAL ?_
    exact ends [_] [] (.cons (.tmp (zAI (fok_x h1 h2 h5))) .nil) (.cons (.one .v (.v _)) .nil) (by decide) trivial
set_option maxRecDepth 1000000 in
set_option maxHeartbeats 2000000 in
theorem zFf (f : Flt) (hf : f.bits.size ≤ 9000000000000000000) : Con Tryd.prog 39 [.agg [PV.v (.int .i64 f.kind), PV.v (.int .i64 f.seed), PV.v (.int .i64 f.probes), PV.v (.string f.bits)]] [] [.one (.v (.bool (zBC f)))] := by
 refine zAP Tryd.func39 rfl rfl rfl rfl ?_
 refine zAC ?_
 refine zAA rfl (.run [] [1] rfl (zBa rfl 1 rfl rfl (by decide) rfl (by decide)) (.run [] [] rfl (zAD rfl) .nil)) ?_
 refine zAC ?_
 refine zAC ?_
 refine zAA rfl (.run [] [] rfl (zAE rfl rfl Tryd.underlying52 rfl Tryd.sizeOf2 (by decide)) (.run [] [] rfl (zAF rfl rfl rfl Tryd.isAgg2 rfl) .nil)) ?_
 refine zAM ?_
 refine zAC ?_
 refine zAA rfl (.run [] [] rfl (zA6 rfl rfl rfl) (.run [] [] rfl (zAD rfl) .nil)) ?_
 refine zAW (t := decide (f.kind = 0)) rfl (fun h1 => ?_) (fun h1 => ?_)
 ·
  replace h1 := of_decide_eq_true h1
  refine zAC ?_
  refine zAA rfl (.run [] [] rfl (zAV rfl rfl rfl Tryd.isAgg52 Tryd.sizeOf52 (nle rfl)) (.run [] [] rfl (zB0 (pl := [(0, 1), (1, 1), (2, 1), (3, 1)]) rfl Tryd.underlying52 zCd (by kernel_rfl) rfl rfl) (.run [] [] rfl (zG6 rfl rfl rfl rfl rfl Tryd.eqGuardType52 (fun w => zIB f (⟨0, 0, 0, ⟨#[]⟩⟩ : Flt) w)) (.run [] [] rfl (zAD rfl) .nil)))) ?_
  refine zAL ?_
  exact ends [_] [] (.cons (.tmp (zAI (fok_0 h1))) .nil) (.cons (.one .v (.v _)) .nil) (by decide) trivial
 ·
  replace h1 := of_decide_eq_false h1
  refine zAC ?_
  refine zAA rfl (.run [] [] rfl (zA6 rfl rfl rfl) (.run [] [] rfl (zAD rfl) .nil)) ?_
  refine zAW (t := decide (f.kind = 1)) rfl (fun h2 => ?_) (fun h2 => ?_)
  ·
   replace h2 := of_decide_eq_true h2
   refine zAC ?_
   refine zAU (s' := mk [(1, .ptr 1 0)] [(1, [.p none (.v (.int .i64 f.kind)), .p none (.v (.int .i64 f.seed)), .p none (.v (.int .i64 f.probes)), .p none (.v (.string f.bits))])] []) ?_ ?_
   · exact zAK ⟨rfl, trivial⟩ ⟨rfl, trivial⟩ trivial rfl
   rcases bfc (decide (f.seed = 0)) with h3 | h3
   ·
    have h3' := h3
    replace h3' := of_decide_eq_false h3'
    refine zAA rfl (.run [] [] rfl (zAE rfl rfl Tryd.underlying52 rfl Tryd.sizeOf2 (by decide)) (.run [] [] rfl (zAF rfl rfl rfl Tryd.isAgg2 rfl) (.run [] [] rfl (zAO (zA6 rfl rfl rfl) (zAI h3)) (.run [] [] rfl (zAB rfl) (.not rfl (.not rfl (.not rfl (.run [] [] rfl (zBR rfl rfl) (.run [] [] rfl (zAB rfl) (.not rfl (.not rfl (.not rfl (.not rfl (.run [] [] rfl (zBR rfl rfl) (.run [] [] rfl (zAD rfl) .nil))))))))))))))) ?_
    refine zAL ?_
    exact ends [_] [] (.cons (.tmp (zAI (by rw [zHM h2]; simp [h3']))) .nil) (.cons (.one .v (.v _)) .nil) (by decide) trivial
   ·
    have h3' := h3
    replace h3' := of_decide_eq_true h3'
    rcases bfc (zAd f.probes 1 30) with h4 | h4
    ·
     have h4' := h4
     refine zAA rfl (.run [] [] rfl (zAE rfl rfl Tryd.underlying52 rfl Tryd.sizeOf2 (by decide)) (.run [] [] rfl (zAF rfl rfl rfl Tryd.isAgg2 rfl) (.run [] [] rfl (zAO (zA6 rfl rfl rfl) (zAI h3)) (.run [] [] rfl (zAB rfl) (.run [] [] rfl (zAE rfl rfl Tryd.underlying52 rfl Tryd.sizeOf2 (by decide)) (.run [] [] rfl (zAF rfl rfl rfl Tryd.isAgg2 rfl) (.run [1900] [] rfl (zAG rfl 1900 (X := []) en31 rfl (.val nod) (.cons (.one (.bor .v)) (.cons (.one (.bor .v)) (.cons (.one (.bor .v)) .nil))) (by decide) all_nil .nil (zBU f.probes 1 30) rfl rfl (nle rfl)) (.run [] [] rfl (zBZ rfl rfl) (.run [] [] rfl (zAO (zAB rfl) (zAI h4)) (.not rfl (.not rfl (.not rfl (.not rfl (.run [] [] rfl (zBR rfl rfl) (.run [] [] rfl (zAD rfl) .nil))))))))))))))) ?_
     refine zAL ?_
     exact ends [_] [] (.cons (.tmp (zAI (by rw [zHM h2]; simp [h3', h4']))) .nil) (.cons (.one .v (.v _)) .nil) (by decide) trivial
    ·
     have h4' := h4
     refine zAA rfl (.run [] [] rfl (zAE rfl rfl Tryd.underlying52 rfl Tryd.sizeOf2 (by decide)) (.run [] [] rfl (zAF rfl rfl rfl Tryd.isAgg2 rfl) (.run [] [] rfl (zAO (zA6 rfl rfl rfl) (zAI h3)) (.run [] [] rfl (zAB rfl) (.run [] [] rfl (zAE rfl rfl Tryd.underlying52 rfl Tryd.sizeOf2 (by decide)) (.run [] [] rfl (zAF rfl rfl rfl Tryd.isAgg2 rfl) (.run [1900] [] rfl (zAG rfl 1900 (X := []) en31 rfl (.val nod) (.cons (.one (.bor .v)) (.cons (.one (.bor .v)) (.cons (.one (.bor .v)) .nil))) (by decide) all_nil .nil (zBU f.probes 1 30) rfl rfl (nle rfl)) (.run [] [] rfl (zBZ rfl rfl) (.run [] [] rfl (zAO (zAB rfl) (zAI h4)) (.run [] [] rfl (zAE rfl rfl Tryd.underlying52 rfl Tryd.sizeOf9 (by decide)) (.run [] [] rfl (zAF rfl rfl rfl Tryd.isAgg9 rfl) (.run [] [] rfl (zAR rfl rfl Tryd.underlying9) (.run [2500] [] rfl (zAG rfl 2500 (X := []) en31 rfl (.val nod) (.cons (.one (.bor .v)) (.cons (.one (.bor .v)) (.cons (.one (.bor .v)) .nil))) (by decide) all_nil .nil (zBU (f.bits.size : Int) 1 1000) rfl rfl (nle rfl)) (.run [] [] rfl (zBZ rfl rfl) (.run [] [] rfl (zAD rfl) .nil))))))))))))))) ?_
     refine zAL ?_
     exact ends [_] [] (.cons (.tmp (zAI (by rw [zHM h2]; simp [h3', h4']))) .nil) (.cons (.one .v (.v _)) .nil) (by decide) trivial
  ·
   replace h2 := of_decide_eq_false h2
   refine zAC ?_
   refine zAA rfl (.run [] [] rfl (zA6 rfl rfl rfl) (.run [] [] rfl (zAD rfl) .nil)) ?_
   refine zAW (t := decide (f.kind = 2)) rfl (fun h5 => ?_) (fun h5 => ?_)
   ·
    replace h5 := of_decide_eq_true h5
    refine zAC ?_
    refine zAC ?_
    refine zAU (s' := mk [(1, .ptr 1 0)] [(1, [.p none (.v (.int .i64 f.kind)), .p none (.v (.int .i64 f.seed)), .p none (.v (.int .i64 f.probes)), .p none (.v (.string f.bits))])] []) ?_ ?_
    · exact zAK ⟨rfl, trivial⟩ ⟨rfl, trivial⟩ trivial rfl
    rcases bfc (!(decide (f.probes = 0))) with h6 | h6
    ·
     have h6' := h6
     replace h6' : f.probes = 0 := of_decide_eq_true (zA5 h6')
     rcases bfc (!(zAd f.seed 0 3)) with h7 | h7
     ·
      have h7' := h7
      replace h7' : (zAd f.seed 0 3) = true := zA5 h7'
      refine zAA rfl (.run [] [] rfl (zAE rfl rfl Tryd.underlying52 rfl Tryd.sizeOf2 (by decide)) (.run [] [] rfl (zAF rfl rfl rfl Tryd.isAgg2 rfl) (.run [] [] rfl (zAO (zCH rfl rfl rfl) (zAI h6)) (.run [] [] rfl (zAB rfl) (.run [] [] rfl (zAE rfl rfl Tryd.underlying52 rfl Tryd.sizeOf2 (by decide)) (.run [] [] rfl (zAF rfl rfl rfl Tryd.isAgg2 rfl) (.run [3500] [] rfl (zAG rfl 3500 (X := []) en31 rfl (.val nod) (.cons (.one (.bor .v)) (.cons (.one (.bor .v)) (.cons (.one (.bor .v)) .nil))) (by decide) all_nil .nil (zBU f.seed 0 3) rfl rfl (nle rfl)) (.run [] [] rfl (zAO (zA1 (b := zAd f.seed 0 3) rfl rfl) (zAI h7)) (.run [] [] rfl (zBR rfl rfl) (.run [] [] rfl (zAB rfl) (.run [] [] rfl (zAE rfl rfl Tryd.underlying52 rfl Tryd.sizeOf9 (by decide)) (.run [] [] rfl (zAF rfl rfl rfl Tryd.isAgg9 rfl) (.run [] [] rfl (zAR rfl rfl Tryd.underlying9) (.run [4200] [] rfl (zAG rfl 4200 (X := []) en31 rfl (.val nod) (.cons (.one (.bor .v)) (.cons (.one (.bor .v)) (.cons (.one (.bor .v)) .nil))) (by decide) all_nil .nil (zBU (f.bits.size : Int) 20 600) rfl rfl (nle rfl)) (.run [] [] rfl (zA1 (b := zAd (f.bits.size : Int) 20 600) rfl rfl) (.run [] [] rfl (zBR rfl rfl) .nil)))))))))))))))) ?_
      refine zAW (t := (!(zAd (f.bits.size : Int) 20 600))) rfl (fun h8 => ?_) (fun h8 => ?_)
      ·
       replace h8 : (zAd (f.bits.size : Int) 20 600) = false := zA4 h8
       refine zAC ?_
       refine zAU (s' := mk [] [] []) ?_ ?_
       · exact zAK trivial trivial trivial rfl
       refine zAA rfl (.run [] [] rfl (zAD rfl) .nil) ?_
       refine zAL ?_
       exact ends [_] [] (.cons (.tmp (zAI (by rw [zEt h5]; simp [h6', h7', h8]))) .nil) (.cons (.one .v (.v _)) .nil) (by decide) trivial
      ·
       replace h8 : (zAd (f.bits.size : Int) 20 600) = true := zA5 h8
       refine zAJ ?_
       refine zAC ?_
       refine zAC ?_
       refine zAU (s' := mk [(1, .ptr 1 0)] [(1, [.p none (.v (.int .i64 f.kind)), .p none (.v (.int .i64 f.seed)), .p none (.v (.int .i64 f.probes)), .p none (.v (.string f.bits))])] []) ?_ ?_
       · exact zAK ⟨rfl, trivial⟩ ⟨rfl, trivial⟩ trivial rfl
       refine zAA rfl (.run [] [] rfl (zAD rfl) .nil) ?_
       refine zAM ?_
       refine zAj (σ := Nat) (fun i => mk [(1, .ptr 1 0), (3, .p none (.v (.int .i64 (i:Int))))] [(1, [.p none (.v (.int .i64 f.kind)), .p none (.v (.int .i64 f.seed)), .p none (.v (.int .i64 f.probes)), .p none (.v (.string f.bits))])] []) (fun i => i ≤ f.bits.size ∧ zCQ f.bits 127 i) (fun i => f.bits.size - i) 0 ⟨Nat.zero_le _, zDN _ _⟩ (zAK ⟨rfl, ⟨(zAH (by omega)), trivial⟩⟩ ⟨rfl, trivial⟩ trivial rfl) ?_
       rintro i hG
       replace hG : i ≤ f.bits.size ∧ zCQ f.bits 127 i := hG
       obtain ⟨hi, hS⟩ := hG
       refine zAC ?_
       refine zAC ?_
       refine zAA rfl (.run [] [] rfl (zAB rfl) (.run [] [] rfl (zAE rfl rfl Tryd.underlying52 rfl Tryd.sizeOf9 (by decide)) (.run [] [] rfl (zAF rfl rfl rfl Tryd.isAgg9 rfl) (.run [] [] rfl (zAR rfl rfl Tryd.underlying9) (.run [] [] rfl (zAu rfl rfl rfl) .nil))))) ?_
       refine zAW (t := decide ((i:Int) < (f.bits.size : Int))) rfl (fun h9 => ?_) (fun h9 => ?_)
       ·
        replace h9 := of_decide_eq_true h9
        refine zAJ ?_
        refine zAC ?_
        refine zAM ?_
        refine zAC ?_
        obtain ⟨b, hb⟩ : ∃ b : UInt8, f.bits[i]? = some b := ⟨_, getElem?_pos f.bits i (by omega)⟩
        refine zAA rfl (.run [] [] rfl (zAE rfl rfl Tryd.underlying52 rfl Tryd.sizeOf9 (by decide)) (.run [] [] rfl (zAF rfl rfl rfl Tryd.isAgg9 rfl) (.run [] [] rfl (zAB rfl) (.run [] [] rfl (zCO rfl rfl rfl Tryd.underlying9 (by omega) hb) (.run [] [] rfl (zBy rfl rfl rfl) .nil))))) ?_
        refine zAW (t := decide (127 < (b.toNat : Int))) rfl (fun h10 => ?_) (fun h10 => ?_)
        ·
         replace h10 := of_decide_eq_true h10
         refine zAC ?_
         refine zAA rfl (.run [] [] rfl (zAD rfl) .nil) ?_
         refine zAL ?_
         exact ends [_] [] (.cons (.tmp (zAI (by rw [zEt h5]; simp [h6', h7', h8, zH9 (m := 127) hb (by omega)]))) .nil) (.cons (.one .v (.v _)) .nil) (by decide) trivial
        ·
         replace h10 := of_decide_eq_false h10
         refine zAJ ?_
         refine zAA rfl (.run [] [] rfl (zAB rfl) (.run [] [] rfl (zAX rfl rfl rfl (by omega)) (.run [] [] rfl (zAD rfl) .nil))) ?_
         refine nxt (Q := fun _ _ => False) (z := i) (i + 1) ?_ ?_ ?_
         ·
          show (i + 1) ≤ f.bits.size ∧ zCQ f.bits 127 (i + 1)
          exact ⟨by omega, zDO hS hb (by omega)⟩
         ·
          show f.bits.size - (i + 1) < f.bits.size - i
          omega
         · exact zAK ⟨rfl, ⟨(zAH (by omega)), trivial⟩⟩ ⟨rfl, trivial⟩ trivial rfl
       ·
        replace h9 := of_decide_eq_false h9
        refine zAk ?_
        refine zAC ?_
        refine zAA rfl (.run [] [] rfl (zAD rfl) .nil) ?_
        refine zAL ?_
        exact ends [_] [] (.cons (.tmp (zAI (by rw [zEt h5]; simp [h6', h7', h8, zF6 hS (by omega)]))) .nil) (.cons (.one .v (.v _)) .nil) (by decide) trivial
     ·
      have h7' := h7
      replace h7' : (zAd f.seed 0 3) = false := zA4 h7'
      refine zAA rfl (.run [] [] rfl (zAE rfl rfl Tryd.underlying52 rfl Tryd.sizeOf2 (by decide)) (.run [] [] rfl (zAF rfl rfl rfl Tryd.isAgg2 rfl) (.run [] [] rfl (zAO (zCH rfl rfl rfl) (zAI h6)) (.run [] [] rfl (zAB rfl) (.run [] [] rfl (zAE rfl rfl Tryd.underlying52 rfl Tryd.sizeOf2 (by decide)) (.run [] [] rfl (zAF rfl rfl rfl Tryd.isAgg2 rfl) (.run [3500] [] rfl (zAG rfl 3500 (X := []) en31 rfl (.val nod) (.cons (.one (.bor .v)) (.cons (.one (.bor .v)) (.cons (.one (.bor .v)) .nil))) (by decide) all_nil .nil (zBU f.seed 0 3) rfl rfl (nle rfl)) (.run [] [] rfl (zAO (zA1 (b := zAd f.seed 0 3) rfl rfl) (zAI h7)) (.run [] [] rfl (zBR rfl rfl) (.run [] [] rfl (zAB rfl) (.not rfl (.not rfl (.not rfl (.not rfl (.not rfl (.run [] [] rfl (zBZ rfl rfl) .nil)))))))))))))))) ?_
      refine zAW (t := true) rfl (fun _ => ?_) (fun h => nomatch h)
      refine zAC ?_
      refine zAU (s' := mk [] [] []) ?_ ?_
      · exact zAK trivial trivial trivial rfl
      refine zAA rfl (.run [] [] rfl (zAD rfl) .nil) ?_
      refine zAL ?_
      exact ends [_] [] (.cons (.tmp (zAI (by rw [zEt h5]; simp [h6', h7']))) .nil) (.cons (.one .v (.v _)) .nil) (by decide) trivial
    ·
     have h6' := h6
     replace h6' : ¬ (f.probes = 0) := of_decide_eq_false (zA4 h6')
     refine zAA rfl (.run [] [] rfl (zAE rfl rfl Tryd.underlying52 rfl Tryd.sizeOf2 (by decide)) (.run [] [] rfl (zAF rfl rfl rfl Tryd.isAgg2 rfl) (.run [] [] rfl (zAO (zCH rfl rfl rfl) (zAI h6)) (.run [] [] rfl (zAB rfl) (.not rfl (.not rfl (.not rfl (.not rfl (.run [] [] rfl (zBZ rfl rfl) (.run [] [] rfl (zAB rfl) (.not rfl (.not rfl (.not rfl (.not rfl (.not rfl (.run [] [] rfl (zBZ rfl rfl) .nil)))))))))))))))) ?_
     refine zAW (t := true) rfl (fun _ => ?_) (fun h => nomatch h)
     refine zAC ?_
     refine zAU (s' := mk [] [] []) ?_ ?_
     · exact zAK trivial trivial trivial rfl
     refine zAA rfl (.run [] [] rfl (zAD rfl) .nil) ?_
     refine zAL ?_
     exact ends [_] [] (.cons (.tmp (zAI (by rw [zEt h5]; simp [h6']))) .nil) (.cons (.one .v (.v _)) .nil) (by decide) trivial
   ·
    replace h5 := of_decide_eq_false h5
    refine zAJ ?_
    refine zAC ?_
    refine zAA rfl (.run [] [] rfl (zAD rfl) .nil) ?_
    refine zAL ?_
    exact ends [_] [] (.cons (.tmp (zAI (fok_x h1 h2 h5))) .nil) (.cons (.one .v (.v _)) .nil) (by decide) trivial
set_option maxRecDepth 1000000 in
set_option maxHeartbeats 2000000 in
theorem zE6 (f : Flt) (hf : f.bits.size ≤ 4000000000000000000) : Con Tryd.prog 51 [.agg [PV.v (.int .i64 f.kind), PV.v (.int .i64 f.seed), PV.v (.int .i64 f.probes), PV.v (.string f.bits)]] [] [.one (.v (.string (zBs f)))] := by
 refine zAP Tryd.func51 rfl rfl rfl rfl ?_
 refine zAC ?_
 refine zAA rfl (.run [] [1] rfl (zBa rfl 1 rfl rfl (by decide) rfl (by decide)) (.run [] [] rfl (zAD rfl) .nil)) ?_
 refine zAC ?_
 refine zAC ?_
 refine zAA rfl (.run [] [] rfl (zAV rfl rfl rfl Tryd.isAgg52 Tryd.sizeOf52 (nle rfl)) (.run [400] [] rfl (zAG rfl 400 (X := []) en71 rfl (.val nod) (.cons (.agg (.cons (.bor .v) (.cons (.bor .v) (.cons (.bor .v) (.cons (.bor .v) .nil))))) .nil) (by decide) all_nil .nil (zGc f (by omega)) rfl rfl (nle rfl)) (.run [] [] rfl (zA1 (b := zBC f) rfl rfl) .nil))) ?_
 refine zAW (t := (!(zBC f))) rfl (fun h1 => ?_) (fun h1 => ?_)
 ·
  replace h1 : (zBC f) = false := zA4 h1
  refine zAC ?_
  refine zAA rfl (.run [] [] rfl (zAD rfl) .nil) ?_
  refine zAL ?_
  exact ends [_] [] (.cons (.tmp (zAz (zED h1))) .nil) (.cons (.one .v (.v _)) .nil) (by decide) trivial
 ·
  replace h1 : (zBC f) = true := zA5 h1
  refine zAJ ?_
  refine zAC ?_
  have hn := zFv h1
  have hp0 := zAl (n := f.kind.toNat) (by omega)
  have hp1 := zAl (n := f.seed.toNat) (by omega)
  have hp2 := zAl (n := f.probes.toNat) (by omega)
  have hp3 := zBB (s := f.bits) (by omega)
  refine zAU (s' := mk [(1, .ptr 1 0)] [(1, [.p none (.v (.int .i64 f.kind)), .p none (.v (.int .i64 f.seed)), .p none (.v (.int .i64 f.probes)), .p none (.v (.string f.bits))])] []) ?_ ?_
  · exact zAK ⟨rfl, trivial⟩ ⟨rfl, trivial⟩ trivial rfl
  refine zAf zBj rfl (.run [] [] rfl (zAE rfl rfl Tryd.underlying52 rfl Tryd.sizeOf2 (by decide)) (.run [] [] rfl (zAF rfl rfl rfl Tryd.isAgg2 rfl) (.run [800] [] rfl (zAG rfl 800 (X := []) en45 rfl (.val nod) (.cons (.one (.bor .v)) .nil) (by decide) all_nil .nil (zBf f.kind (by omega) (by omega)) rfl rfl (nle rfl)) (.run [] [] rfl (zAE rfl rfl Tryd.underlying52 rfl Tryd.sizeOf2 (by decide)) (.run [] [] rfl (zAF rfl rfl rfl Tryd.isAgg2 rfl) (.run [1100] [] rfl (zAG rfl 1100 (X := []) en45 rfl (.val nod) (.cons (.one (.bor .v)) .nil) (by decide) all_nil .nil (zBf f.seed (by omega) (by omega)) rfl rfl (nle rfl)) (.run [] [] rfl (zAi rfl rfl rfl (by first | omega | (simp only [zAY, zAQ]; omega))) (.run [] [] rfl (zAE rfl rfl Tryd.underlying52 rfl Tryd.sizeOf2 (by decide)) (.run [] [] rfl (zAF rfl rfl rfl Tryd.isAgg2 rfl) (.run [1500] [] rfl (zAG rfl 1500 (X := []) en45 rfl (.val nod) (.cons (.one (.bor .v)) .nil) (by decide) all_nil .nil (zBf f.probes (by omega) (by omega)) rfl rfl (nle rfl)) (.run [] [] rfl (zAi rfl rfl rfl (by first | omega | (simp only [zAY, zAQ]; omega))) (.run [] [] rfl (zAE rfl rfl Tryd.underlying52 rfl Tryd.sizeOf9 (by decide)) (.run [] [] rfl (zAF rfl rfl rfl Tryd.isAgg9 rfl) (.run [1900] [] rfl (zAG rfl 1900 (X := []) en46 rfl (.val nod) (.cons (.one (.bor .v)) .nil) (by decide) all_nil .nil (zBq f.bits (by omega)) rfl rfl (nle rfl)) (.run [] [] rfl (zAi rfl rfl rfl (by first | omega | (simp only [zAY, zAQ]; omega))) (.run [] [] rfl (zAD rfl) .nil)))))))))))))))) (by kernel_rfl) ?_
  refine zAL ?_
  exact ends [_] [] (.cons (.tmp (zAz (zDp h1))) .nil) (.cons (.one .v (.v _)) .nil) (by decide) trivial
set_option maxRecDepth 1000000 in
set_option maxHeartbeats 2000000 in
theorem zEc (f : Flt) (hf : f.bits.size ≤ 4000000000000000000) : Con Tryd.prog 22 [.agg [PV.v (.int .i64 f.kind), PV.v (.int .i64 f.seed), PV.v (.int .i64 f.probes), PV.v (.string f.bits)]] [] [.one (.v (.string (zBs f)))] := by
 refine zAP Tryd.func22 rfl rfl rfl rfl ?_
 refine zAC ?_
 refine zAA rfl (.run [] [1] rfl (zBa rfl 1 rfl rfl (by decide) rfl (by decide)) (.run [] [] rfl (zAD rfl) .nil)) ?_
 refine zAC ?_
 refine zAC ?_
 refine zAA rfl (.run [] [] rfl (zAV rfl rfl rfl Tryd.isAgg52 Tryd.sizeOf52 (nle rfl)) (.run [400] [] rfl (zAG rfl 400 (X := []) en39 rfl (.val nod) (.cons (.agg (.cons (.bor .v) (.cons (.bor .v) (.cons (.bor .v) (.cons (.bor .v) .nil))))) .nil) (by decide) all_nil .nil (zFf f (by omega)) rfl rfl (nle rfl)) (.run [] [] rfl (zA1 (b := zBC f) rfl rfl) .nil))) ?_
 refine zAW (t := (!(zBC f))) rfl (fun h1 => ?_) (fun h1 => ?_)
 ·
  replace h1 : (zBC f) = false := zA4 h1
  refine zAC ?_
  refine zAA rfl (.run [] [] rfl (zAD rfl) .nil) ?_
  refine zAL ?_
  exact ends [_] [] (.cons (.tmp (zAz (zED h1))) .nil) (.cons (.one .v (.v _)) .nil) (by decide) trivial
 ·
  replace h1 : (zBC f) = true := zA5 h1
  refine zAJ ?_
  refine zAC ?_
  have hn := zFv h1
  have hp0 := zAl (n := f.kind.toNat) (by omega)
  have hp1 := zAl (n := f.seed.toNat) (by omega)
  have hp2 := zAl (n := f.probes.toNat) (by omega)
  have hp3 := zBB (s := f.bits) (by omega)
  refine zAU (s' := mk [(1, .ptr 1 0)] [(1, [.p none (.v (.int .i64 f.kind)), .p none (.v (.int .i64 f.seed)), .p none (.v (.int .i64 f.probes)), .p none (.v (.string f.bits))])] []) ?_ ?_
  · exact zAK ⟨rfl, trivial⟩ ⟨rfl, trivial⟩ trivial rfl
  refine zAf zBj rfl (.run [] [] rfl (zAE rfl rfl Tryd.underlying52 rfl Tryd.sizeOf2 (by decide)) (.run [] [] rfl (zAF rfl rfl rfl Tryd.isAgg2 rfl) (.run [] [] rfl (zAO (zDD rfl rfl Tryd.underlying2 Tryd.underlying43) ((zAH (by rw [IntKind.wrap_u64]; omega)))) (.run [900] [] rfl (zAG rfl 900 (X := []) en14 rfl (.val nod) (.cons (.one (.bor .v)) .nil) (by decide) all_nil .nil (zBT f.kind.toNat (by omega)) rfl rfl (nle rfl)) (.run [] [] rfl (zAE rfl rfl Tryd.underlying52 rfl Tryd.sizeOf2 (by decide)) (.run [] [] rfl (zAF rfl rfl rfl Tryd.isAgg2 rfl) (.run [] [] rfl (zAO (zDD rfl rfl Tryd.underlying2 Tryd.underlying43) ((zAH (by rw [IntKind.wrap_u64]; omega)))) (.run [1300] [] rfl (zAG rfl 1300 (X := []) en14 rfl (.val nod) (.cons (.one (.bor .v)) .nil) (by decide) all_nil .nil (zBT f.seed.toNat (by omega)) rfl rfl (nle rfl)) (.run [] [] rfl (zAi rfl rfl rfl (by first | omega | (simp only [zAY, zAQ]; omega))) (.run [] [] rfl (zAE rfl rfl Tryd.underlying52 rfl Tryd.sizeOf2 (by decide)) (.run [] [] rfl (zAF rfl rfl rfl Tryd.isAgg2 rfl) (.run [] [] rfl (zAO (zDD rfl rfl Tryd.underlying2 Tryd.underlying43) ((zAH (by rw [IntKind.wrap_u64]; omega)))) (.run [1800] [] rfl (zAG rfl 1800 (X := []) en14 rfl (.val nod) (.cons (.one (.bor .v)) .nil) (by decide) all_nil .nil (zBT f.probes.toNat (by omega)) rfl rfl (nle rfl)) (.run [] [] rfl (zAi rfl rfl rfl (by first | omega | (simp only [zAY, zAQ]; omega))) (.run [] [] rfl (zAE rfl rfl Tryd.underlying52 rfl Tryd.sizeOf9 (by decide)) (.run [] [] rfl (zAF rfl rfl rfl Tryd.isAgg9 rfl) (.run [2200] [] rfl (zAG rfl 2200 (X := []) en15 rfl (.val nod) (.cons (.one (.bor .v)) .nil) (by decide) all_nil .nil (zBg f.bits (by omega)) rfl rfl (nle rfl)) (.run [] [] rfl (zAi rfl rfl rfl (by first | omega | (simp only [zAY, zAQ]; omega))) (.run [] [] rfl (zAD rfl) .nil))))))))))))))))))) (by kernel_rfl) ?_
  refine zAL ?_
  exact ends [_] [] (.cons (.tmp (zAz (zDp h1))) .nil) (.cons (.one .v (.v _)) .nil) (by decide) trivial
set_option maxRecDepth 1000000 in
set_option maxHeartbeats 2000000 in
theorem zGd (us : List ByteArray) (kd : Nat) (hkd : kd ≤ 2) (hu : ∀ u ∈ us, zBI u = true) (hn : us.length ≤ 400) : Con Tryd.prog 50 [.one (PV.sl false 1 (pvT us)), .one (PV.v (.int .i64 (kd:Int)))] [] [.agg [.v (.int .i64 (zAr us (kd : Int)).kind), .v (.int .i64 (zAr us (kd : Int)).seed), .v (.int .i64 (zAr us (kd : Int)).probes), .v (.string (zAr us (kd : Int)).bits)], .one (.v (.bool true))] := by
 refine zAP Tryd.func50 rfl rfl rfl rfl ?_
 refine zAC ?_
 refine zAA rfl (.run [] [4] rfl (zA7 rfl 4 zCd rfl (by decide) rfl (by decide)) (.run [] [] rfl (zAD rfl) .nil)) ?_
 refine zAC ?_
 refine zAC ?_
 refine zAA rfl (.run [] [] rfl (zAB rfl) (.run [1000] [] rfl (zAG rfl 1000 (X := []) en68 rfl (.val nod) (.cons (.one (.bor (.sl nod))) .nil) (by decide) all_nil .nil (zCx us (by assumption) (by omega)) rfl rfl (nle rfl)) (.run [] [] rfl (zA1 (b := true) rfl rfl) (.run [] [] rfl (zAB rfl) (.run [] [] rfl (zAB rfl) (.run [1400] [] rfl (zAG rfl 1400 (X := []) en43 rfl (.val nod) (.cons (.one (.bor .v)) (.cons (.one (.bor .v)) (.cons (.one (.bor .v)) .nil))) (by decide) all_nil .nil (zBF (kd:Int) 0 2) rfl rfl (nle rfl)) (.run [] [] rfl (zA1 (b := zAd (kd:Int) 0 2) rfl rfl) (.run [] [] rfl (zBR rfl rfl) .nil)))))))) ?_
 refine zAW (t := (!(zAd (kd:Int) 0 2))) rfl (fun h1 => ?_) (fun h1 => ?_)
 ·
  replace h1 : (zAd (kd:Int) 0 2) = false := zA4 h1
  rw [show zAd (kd : Int) 0 2 = true by simp only [zAd, Bool.and_eq_true, decide_eq_true_eq]; omega] at h1; cases h1
 ·
  replace h1 : (zAd (kd:Int) 0 2) = true := zA5 h1
  refine zAJ ?_
  refine zAC ?_
  refine zAC ?_
  refine zAA rfl (.run [] [] rfl (zAB rfl) (.run [] [] rfl (zA6 rfl rfl rfl) .nil)) ?_
  refine zAW (t := decide ((kd:Int) = 0)) rfl (fun h2 => ?_) (fun h2 => ?_)
  ·
   replace h2 := of_decide_eq_true h2
   refine zAC ?_
   have hZ : zAr us (kd : Int) = (⟨0, 0, 0, ⟨#[]⟩⟩ : Flt) := by rw [zAr, if_pos (by omega)]; rfl
   rw [hZ]
   refine zAA rfl (.run [] [] rfl (zB0 (pl := [(0, 1), (1, 1), (2, 1), (3, 1)]) rfl Tryd.underlying52 zCd (by kernel_rfl) rfl rfl) (.run [] [] rfl (zAS rfl rfl rfl rfl rfl Tryd.sizeOf52 rfl (nle rfl)) (.run [] [] rfl (zAD rfl) .nil))) ?_
   refine zAL ?_
   exact ends [_, _] [] (.cons (.cell rfl rfl Tryd.isAgg52 Tryd.sizeOf52 (nle rfl)) (.cons (.tmp rfl) .nil)) (.cons (.agg (.cons .v (.cons .v (.cons .v (.cons .v .nil)))) (zAb (.v _) (zAb (.v _) (zAb (.v _) (zAb (.v _) zCF))))) (.cons (.one .v (.v _)) .nil)) (by decide) trivial
  ·
   replace h2 := of_decide_eq_false h2
   refine zAJ ?_
   refine zAC ?_
   refine zAC ?_
   refine zAA rfl (.run [] [] rfl (zAD rfl) .nil) ?_
   refine zAM ?_
   refine zAj (σ := Nat) (fun n => mk [(0, .p none (.sl false 1 (pvT us))), (1, .p none (.v (.int .i64 (kd:Int)))), (4, .ptr 4 0), (6, .p none (.v (.int .i64 (n:Int))))] [(4, [.p none (.v (.int .i64 0)), .p none (.v (.int .i64 0)), .p none (.v (.int .i64 0)), .p none (.v (.string ⟨#[]⟩))])] []) (fun n => n ≤ 4 ∧ (kd = 2 → zBv us n = none)) (fun n => 4 - n) 0 ⟨Nat.zero_le _, fun _ => rfl⟩ (zAK ⟨rfl, ⟨rfl, ⟨rfl, ⟨(zAH (by omega)), trivial⟩⟩⟩⟩ ⟨rfl, trivial⟩ trivial rfl) ?_
   rintro n hG
   replace hG : n ≤ 4 ∧ (kd = 2 → zBv us n = none) := hG
   obtain ⟨hn4, hR⟩ := hG
   refine zAC ?_
   refine zAC ?_
   rcases bfc (decide ((kd:Int) = 2)) with h3 | h3
   ·
    have h3' := h3
    replace h3' := of_decide_eq_false h3'
    refine zAA rfl (.run [] [] rfl (zAB rfl) (.run [] [] rfl (zAO (zA6 rfl rfl rfl) (zAI h3)) (.run [] [] rfl (zAB rfl) (.not rfl (.not rfl (.run [] [] rfl (zBR rfl rfl) .nil)))))) ?_
    refine zAW (t := false) rfl (fun h => nomatch h) (fun _ => ?_)
    refine zAk ?_
    refine zAC ?_
    have hZ : zAr us (kd : Int) = zCN us := (zCR (by omega) (fun q => by first | exact absurd q (by omega) | (have h4 := hR (by omega); rwa [show n = 4 by omega] at h4))).symm
    rw [hZ]
    refine zAA rfl (.run [] [] rfl (zAB rfl) (.run [3800, 3801, 3802, 3803, 3804] [] rfl (zAG rfl 3800 (X := []) en70 rfl (.val nod) (.cons (.one (.bor (.sl nod))) (.cons (.one (.bor .v)) .nil)) (by decide) all_nil .nil (zE0 us (by assumption) (by omega)) rfl rfl (nle rfl)) (.run [] [] rfl (zAx rfl rfl rfl) (.run [] [] rfl (zAx rfl rfl rfl) (.run [] [] rfl (zAS rfl rfl rfl rfl rfl Tryd.sizeOf52 rfl (nle rfl)) (.run [] [] rfl (zAD rfl) .nil)))))) ?_
    refine zAL ?_
    exact ends [_, _] [] (.cons (.cell rfl rfl Tryd.isAgg52 Tryd.sizeOf52 (nle rfl)) (.cons (.tmp rfl) .nil)) (.cons (.agg (.cons .v (.cons .v (.cons .v (.cons .v .nil)))) (zAb (.v _) (zAb (.v _) (zAb (.v _) (zAb (.v _) zCF))))) (.cons (.one .v (.v _)) .nil)) (by decide) trivial
   ·
    have h3' := h3
    replace h3' := of_decide_eq_true h3'
    refine zAA rfl (.run [] [] rfl (zAB rfl) (.run [] [] rfl (zAO (zA6 rfl rfl rfl) (zAI h3)) (.run [] [] rfl (zAB rfl) (.run [] [] rfl (zAB rfl) (.run [] [] rfl (zAu rfl rfl rfl) (.run [] [] rfl (zBZ rfl rfl) .nil)))))) ?_
    refine zAW (t := decide ((n:Int) < 4)) rfl (fun h4 => ?_) (fun h4 => ?_)
    ·
     replace h4 := of_decide_eq_true h4
     refine zAJ ?_
     refine zAC ?_
     refine zAM ?_
     refine zAC ?_
     refine zAA rfl (.run [] [] rfl (zAB rfl) (.run [] [] rfl (zAB rfl) (.run [3200, 3201, 3202, 3203, 3204] [] rfl (zAG rfl 3200 (X := []) en69 rfl (.val nod) (.cons (.one (.bor (.sl nod))) (.cons (.one (.bor .v)) .nil)) (by decide) all_nil .nil (zGM us n (by omega) hu hn) rfl rfl (nle rfl)) (.run [] [] rfl (zAB rfl) (.run [] [] rfl (zAx rfl rfl rfl) (.run [] [] rfl (zAx rfl rfl rfl) (.run [] [7] rfl (zA7 rfl 7 zCd rfl (by decide) rfl (by decide)) (.run [] [] rfl (zAS rfl rfl rfl rfl rfl Tryd.sizeOf52 rfl (nle rfl)) (.run [] [] rfl (zAD rfl) .nil))))))))) ?_
     refine zAC ?_
     refine zAA rfl (.run [] [] rfl (zAB rfl) .nil) ?_
     refine zAW (t := (zA8 us n).isSome) rfl (fun h5 => ?_) (fun h5 => ?_)
     ·
      refine zAC ?_
      have hZ : zAr us (kd : Int) = (zA8 us n).getD .zero := by rw [show (kd : Int) = 2 by omega]; exact (zFJ (hR (by omega)) h5 (by omega)).symm
      rw [hZ]
      refine zAU (s' := mk [(4, .ptr 4 0), (7, .ptr 7 0)] [(4, [.p none (.v (.int .i64 0)), .p none (.v (.int .i64 0)), .p none (.v (.int .i64 0)), .p none (.v (.string ⟨#[]⟩))]), (7, [.p none (.v (.int .i64 (((zA8 us n).getD .zero).kind))), .p none (.v (.int .i64 (((zA8 us n).getD .zero).seed))), .p none (.v (.int .i64 (((zA8 us n).getD .zero).probes))), .p none (.v (.string (((zA8 us n).getD .zero).bits)))])] []) ?_ ?_
      · exact zAK ⟨rfl, ⟨rfl, trivial⟩⟩ ⟨rfl, ⟨rfl, trivial⟩⟩ trivial rfl
      refine zAA rfl (.run [] [] rfl (zAV rfl rfl rfl Tryd.isAgg52 Tryd.sizeOf52 (nle rfl)) (.run [] [] rfl (zAS rfl rfl rfl rfl rfl Tryd.sizeOf52 rfl (nle rfl)) (.run [] [] rfl (zAD rfl) .nil))) ?_
      refine zAL ?_
      exact ends [_, _] [] (.cons (.cell rfl rfl Tryd.isAgg52 Tryd.sizeOf52 (nle rfl)) (.cons (.tmp rfl) .nil)) (.cons (.agg (.cons .v (.cons .v (.cons .v (.cons .v .nil)))) (zAb (.v _) (zAb (.v _) (zAb (.v _) (zAb (.v _) zCF))))) (.cons (.one .v (.v _)) .nil)) (by decide) trivial
     ·
      refine zAJ ?_
      refine zAU (s' := mk [(0, .p none (.sl false 1 (pvT us))), (1, .p none (.v (.int .i64 (kd:Int)))), (4, .ptr 4 0), (6, .p none (.v (.int .i64 (n:Int)))), (24, .p none (.v (.int .i64 (n:Int)))), (25, .p none (.v (.bool (decide ((n:Int) < 4)))))] [(4, [.p none (.v (.int .i64 0)), .p none (.v (.int .i64 0)), .p none (.v (.int .i64 0)), .p none (.v (.string ⟨#[]⟩))])] []) ?_ ?_
      · exact zAK ⟨rfl, ⟨rfl, ⟨rfl, ⟨rfl, ⟨rfl, ⟨rfl, trivial⟩⟩⟩⟩⟩⟩ ⟨rfl, trivial⟩ trivial rfl
      refine zAA rfl (.run [] [] rfl (zAB rfl) (.run [] [] rfl (zAX rfl rfl rfl (by omega)) (.run [] [] rfl (zAD rfl) .nil))) ?_
      refine nxt (Q := fun _ _ => False) (z := n) (n + 1) ?_ ?_ ?_
      ·
       show (n + 1) ≤ 4 ∧ (kd = 2 → zBv us (n + 1) = none)
       exact ⟨by omega, fun q => zEg (hR q) h5⟩
      ·
       show 4 - (n + 1) < 4 - n
       omega
      · exact zAK ⟨rfl, ⟨rfl, ⟨rfl, ⟨(zAH (by omega)), trivial⟩⟩⟩⟩ ⟨rfl, trivial⟩ trivial rfl
    ·
     replace h4 := of_decide_eq_false h4
     refine zAk ?_
     refine zAC ?_
     have hZ : zAr us (kd : Int) = zCN us := (zCR (by omega) (fun q => by first | exact absurd q (by omega) | (have h4 := hR (by omega); rwa [show n = 4 by omega] at h4))).symm
     rw [hZ]
     refine zAA rfl (.run [] [] rfl (zAB rfl) (.run [3800, 3801, 3802, 3803, 3804] [] rfl (zAG rfl 3800 (X := []) en70 rfl (.val nod) (.cons (.one (.bor (.sl nod))) (.cons (.one (.bor .v)) .nil)) (by decide) all_nil .nil (zE0 us (by assumption) (by omega)) rfl rfl (nle rfl)) (.run [] [] rfl (zAx rfl rfl rfl) (.run [] [] rfl (zAx rfl rfl rfl) (.run [] [] rfl (zAS rfl rfl rfl rfl rfl Tryd.sizeOf52 rfl (nle rfl)) (.run [] [] rfl (zAD rfl) .nil)))))) ?_
     refine zAL ?_
     exact ends [_, _] [] (.cons (.cell rfl rfl Tryd.isAgg52 Tryd.sizeOf52 (nle rfl)) (.cons (.tmp rfl) .nil)) (.cons (.agg (.cons .v (.cons .v (.cons .v (.cons .v .nil)))) (zAb (.v _) (zAb (.v _) (zAb (.v _) (zAb (.v _) zCF))))) (.cons (.one .v (.v _)) .nil)) (by decide) trivial
set_option maxRecDepth 1000000 in
set_option maxHeartbeats 2000000 in
theorem zFg (us : List ByteArray) (kd : Nat) (hkd : kd ≤ 2) (hu : ∀ u ∈ us, zBI u = true) (hn : us.length ≤ 400) : Con Tryd.prog 19 [.one (PV.sl false 1 (pvT us)), .one (PV.v (.int .i64 (kd:Int)))] [] [.agg [.v (.int .i64 (zAr us (kd : Int)).kind), .v (.int .i64 (zAr us (kd : Int)).seed), .v (.int .i64 (zAr us (kd : Int)).probes), .v (.string (zAr us (kd : Int)).bits)], .one (.v (.bool true))] := by
 refine zAP Tryd.func19 rfl rfl rfl rfl ?_
 refine zAC ?_
 refine zAA rfl (.run [] [4] rfl (zA7 rfl 4 zCd rfl (by decide) rfl (by decide)) (.run [] [] rfl (zAD rfl) .nil)) ?_
 refine zAC ?_
 refine zAC ?_
 refine zAA rfl (.run [] [] rfl (zAB rfl) (.run [1000] [] rfl (zAG rfl 1000 (X := []) en35 rfl (.val nod) (.cons (.one (.bor (.sl nod))) .nil) (by decide) all_nil .nil (zCh us (by assumption) (by omega)) rfl rfl (nle rfl)) (.run [] [] rfl (zA1 (b := true) rfl rfl) (.run [] [] rfl (zAB rfl) (.run [] [] rfl (zAB rfl) (.run [1400] [] rfl (zAG rfl 1400 (X := []) en31 rfl (.val nod) (.cons (.one (.bor .v)) (.cons (.one (.bor .v)) (.cons (.one (.bor .v)) .nil))) (by decide) all_nil .nil (zBU (kd:Int) 0 2) rfl rfl (nle rfl)) (.run [] [] rfl (zA1 (b := zAd (kd:Int) 0 2) rfl rfl) (.run [] [] rfl (zBR rfl rfl) .nil)))))))) ?_
 refine zAW (t := (!(zAd (kd:Int) 0 2))) rfl (fun h1 => ?_) (fun h1 => ?_)
 ·
  replace h1 : (zAd (kd:Int) 0 2) = false := zA4 h1
  rw [show zAd (kd : Int) 0 2 = true by simp only [zAd, Bool.and_eq_true, decide_eq_true_eq]; omega] at h1; cases h1
 ·
  replace h1 : (zAd (kd:Int) 0 2) = true := zA5 h1
  refine zAJ ?_
  refine zAC ?_
  refine zAC ?_
  refine zAA rfl (.run [] [] rfl (zAB rfl) (.run [] [] rfl (zA6 rfl rfl rfl) .nil)) ?_
  refine zAW (t := decide ((kd:Int) = 0)) rfl (fun h2 => ?_) (fun h2 => ?_)
  ·
   replace h2 := of_decide_eq_true h2
   refine zAC ?_
   have hZ : zAr us (kd : Int) = (⟨0, 0, 0, ⟨#[]⟩⟩ : Flt) := by rw [zAr, if_pos (by omega)]; rfl
   rw [hZ]
   refine zAA rfl (.run [] [] rfl (zB0 (pl := [(0, 1), (1, 1), (2, 1), (3, 1)]) rfl Tryd.underlying52 zCd (by kernel_rfl) rfl rfl) (.run [] [] rfl (zAS rfl rfl rfl rfl rfl Tryd.sizeOf52 rfl (nle rfl)) (.run [] [] rfl (zAD rfl) .nil))) ?_
   refine zAL ?_
   exact ends [_, _] [] (.cons (.cell rfl rfl Tryd.isAgg52 Tryd.sizeOf52 (nle rfl)) (.cons (.tmp rfl) .nil)) (.cons (.agg (.cons .v (.cons .v (.cons .v (.cons .v .nil)))) (zAb (.v _) (zAb (.v _) (zAb (.v _) (zAb (.v _) zCF))))) (.cons (.one .v (.v _)) .nil)) (by decide) trivial
  ·
   replace h2 := of_decide_eq_false h2
   refine zAJ ?_
   refine zAC ?_
   refine zAC ?_
   refine zAA rfl (.run [] [] rfl (zAD rfl) .nil) ?_
   refine zAM ?_
   refine zAj (σ := Nat) (fun n => mk [(0, .p none (.sl false 1 (pvT us))), (1, .p none (.v (.int .i64 (kd:Int)))), (4, .ptr 4 0), (6, .p none (.v (.int .i64 (n:Int))))] [(4, [.p none (.v (.int .i64 0)), .p none (.v (.int .i64 0)), .p none (.v (.int .i64 0)), .p none (.v (.string ⟨#[]⟩))])] []) (fun n => n ≤ 4 ∧ (kd = 2 → zBv us n = none)) (fun n => 4 - n) 0 ⟨Nat.zero_le _, fun _ => rfl⟩ (zAK ⟨rfl, ⟨rfl, ⟨rfl, ⟨(zAH (by omega)), trivial⟩⟩⟩⟩ ⟨rfl, trivial⟩ trivial rfl) ?_
   rintro n hG
   replace hG : n ≤ 4 ∧ (kd = 2 → zBv us n = none) := hG
   obtain ⟨hn4, hR⟩ := hG
   refine zAC ?_
   refine zAC ?_
   rcases bfc (decide ((kd:Int) = 2)) with h3 | h3
   ·
    have h3' := h3
    replace h3' := of_decide_eq_false h3'
    refine zAA rfl (.run [] [] rfl (zAB rfl) (.run [] [] rfl (zAO (zA6 rfl rfl rfl) (zAI h3)) (.run [] [] rfl (zAB rfl) (.not rfl (.not rfl (.run [] [] rfl (zBR rfl rfl) .nil)))))) ?_
    refine zAW (t := false) rfl (fun h => nomatch h) (fun _ => ?_)
    refine zAk ?_
    refine zAC ?_
    have hZ : zAr us (kd : Int) = zCN us := (zCR (by omega) (fun q => by first | exact absurd q (by omega) | (have h4 := hR (by omega); rwa [show n = 4 by omega] at h4))).symm
    rw [hZ]
    refine zAA rfl (.run [] [] rfl (zAB rfl) (.run [3800, 3801, 3802, 3803, 3804] [] rfl (zAG rfl 3800 (X := []) en37 rfl (.val nod) (.cons (.one (.bor (.sl nod))) (.cons (.one (.bor .v)) .nil)) (by decide) all_nil .nil (zEH us (by assumption) (by omega)) rfl rfl (nle rfl)) (.run [] [] rfl (zAx rfl rfl rfl) (.run [] [] rfl (zAx rfl rfl rfl) (.run [] [] rfl (zAS rfl rfl rfl rfl rfl Tryd.sizeOf52 rfl (nle rfl)) (.run [] [] rfl (zAD rfl) .nil)))))) ?_
    refine zAL ?_
    exact ends [_, _] [] (.cons (.cell rfl rfl Tryd.isAgg52 Tryd.sizeOf52 (nle rfl)) (.cons (.tmp rfl) .nil)) (.cons (.agg (.cons .v (.cons .v (.cons .v (.cons .v .nil)))) (zAb (.v _) (zAb (.v _) (zAb (.v _) (zAb (.v _) zCF))))) (.cons (.one .v (.v _)) .nil)) (by decide) trivial
   ·
    have h3' := h3
    replace h3' := of_decide_eq_true h3'
    refine zAA rfl (.run [] [] rfl (zAB rfl) (.run [] [] rfl (zAO (zA6 rfl rfl rfl) (zAI h3)) (.run [] [] rfl (zAB rfl) (.run [] [] rfl (zAB rfl) (.run [] [] rfl (zAu rfl rfl rfl) (.run [] [] rfl (zBZ rfl rfl) .nil)))))) ?_
    refine zAW (t := decide ((n:Int) < 4)) rfl (fun h4 => ?_) (fun h4 => ?_)
    ·
     replace h4 := of_decide_eq_true h4
     refine zAJ ?_
     refine zAC ?_
     refine zAM ?_
     refine zAC ?_
     refine zAA rfl (.run [] [] rfl (zAB rfl) (.run [] [] rfl (zAB rfl) (.run [3200, 3201, 3202, 3203, 3204] [] rfl (zAG rfl 3200 (X := []) en36 rfl (.val nod) (.cons (.one (.bor (.sl nod))) (.cons (.one (.bor .v)) .nil)) (by decide) all_nil .nil (zFd us n (by omega) hu hn) rfl rfl (nle rfl)) (.run [] [] rfl (zAB rfl) (.run [] [] rfl (zAx rfl rfl rfl) (.run [] [] rfl (zAx rfl rfl rfl) (.run [] [7] rfl (zA7 rfl 7 zCd rfl (by decide) rfl (by decide)) (.run [] [] rfl (zAS rfl rfl rfl rfl rfl Tryd.sizeOf52 rfl (nle rfl)) (.run [] [] rfl (zAD rfl) .nil))))))))) ?_
     refine zAC ?_
     refine zAA rfl (.run [] [] rfl (zAB rfl) .nil) ?_
     refine zAW (t := (zA8 us n).isSome) rfl (fun h5 => ?_) (fun h5 => ?_)
     ·
      refine zAC ?_
      have hZ : zAr us (kd : Int) = (zA8 us n).getD .zero := by rw [show (kd : Int) = 2 by omega]; exact (zFJ (hR (by omega)) h5 (by omega)).symm
      rw [hZ]
      refine zAU (s' := mk [(4, .ptr 4 0), (7, .ptr 7 0)] [(4, [.p none (.v (.int .i64 0)), .p none (.v (.int .i64 0)), .p none (.v (.int .i64 0)), .p none (.v (.string ⟨#[]⟩))]), (7, [.p none (.v (.int .i64 (((zA8 us n).getD .zero).kind))), .p none (.v (.int .i64 (((zA8 us n).getD .zero).seed))), .p none (.v (.int .i64 (((zA8 us n).getD .zero).probes))), .p none (.v (.string (((zA8 us n).getD .zero).bits)))])] []) ?_ ?_
      · exact zAK ⟨rfl, ⟨rfl, trivial⟩⟩ ⟨rfl, ⟨rfl, trivial⟩⟩ trivial rfl
      refine zAA rfl (.run [] [] rfl (zAV rfl rfl rfl Tryd.isAgg52 Tryd.sizeOf52 (nle rfl)) (.run [] [] rfl (zAS rfl rfl rfl rfl rfl Tryd.sizeOf52 rfl (nle rfl)) (.run [] [] rfl (zAD rfl) .nil))) ?_
      refine zAL ?_
      exact ends [_, _] [] (.cons (.cell rfl rfl Tryd.isAgg52 Tryd.sizeOf52 (nle rfl)) (.cons (.tmp rfl) .nil)) (.cons (.agg (.cons .v (.cons .v (.cons .v (.cons .v .nil)))) (zAb (.v _) (zAb (.v _) (zAb (.v _) (zAb (.v _) zCF))))) (.cons (.one .v (.v _)) .nil)) (by decide) trivial
     ·
      refine zAJ ?_
      refine zAU (s' := mk [(0, .p none (.sl false 1 (pvT us))), (1, .p none (.v (.int .i64 (kd:Int)))), (4, .ptr 4 0), (6, .p none (.v (.int .i64 (n:Int)))), (24, .p none (.v (.int .i64 (n:Int)))), (25, .p none (.v (.bool (decide ((n:Int) < 4)))))] [(4, [.p none (.v (.int .i64 0)), .p none (.v (.int .i64 0)), .p none (.v (.int .i64 0)), .p none (.v (.string ⟨#[]⟩))])] []) ?_ ?_
      · exact zAK ⟨rfl, ⟨rfl, ⟨rfl, ⟨rfl, ⟨rfl, ⟨rfl, trivial⟩⟩⟩⟩⟩⟩ ⟨rfl, trivial⟩ trivial rfl
      refine zAA rfl (.run [] [] rfl (zAB rfl) (.run [] [] rfl (zAX rfl rfl rfl (by omega)) (.run [] [] rfl (zAD rfl) .nil))) ?_
      refine nxt (Q := fun _ _ => False) (z := n) (n + 1) ?_ ?_ ?_
      ·
       show (n + 1) ≤ 4 ∧ (kd = 2 → zBv us (n + 1) = none)
       exact ⟨by omega, fun q => zEg (hR q) h5⟩
      ·
       show 4 - (n + 1) < 4 - n
       omega
      · exact zAK ⟨rfl, ⟨rfl, ⟨rfl, ⟨(zAH (by omega)), trivial⟩⟩⟩⟩ ⟨rfl, trivial⟩ trivial rfl
    ·
     replace h4 := of_decide_eq_false h4
     refine zAk ?_
     refine zAC ?_
     have hZ : zAr us (kd : Int) = zCN us := (zCR (by omega) (fun q => by first | exact absurd q (by omega) | (have h4 := hR (by omega); rwa [show n = 4 by omega] at h4))).symm
     rw [hZ]
     refine zAA rfl (.run [] [] rfl (zAB rfl) (.run [3800, 3801, 3802, 3803, 3804] [] rfl (zAG rfl 3800 (X := []) en37 rfl (.val nod) (.cons (.one (.bor (.sl nod))) (.cons (.one (.bor .v)) .nil)) (by decide) all_nil .nil (zEH us (by assumption) (by omega)) rfl rfl (nle rfl)) (.run [] [] rfl (zAx rfl rfl rfl) (.run [] [] rfl (zAx rfl rfl rfl) (.run [] [] rfl (zAS rfl rfl rfl rfl rfl Tryd.sizeOf52 rfl (nle rfl)) (.run [] [] rfl (zAD rfl) .nil)))))) ?_
     refine zAL ?_
     exact ends [_, _] [] (.cons (.cell rfl rfl Tryd.isAgg52 Tryd.sizeOf52 (nle rfl)) (.cons (.tmp rfl) .nil)) (.cons (.agg (.cons .v (.cons .v (.cons .v (.cons .v .nil)))) (zAb (.v _) (zAb (.v _) (zAb (.v _) (zAb (.v _) zCF))))) (.cons (.one .v (.v _)) .nil)) (by decide) trivial
set_option maxRecDepth 1000000 in
set_option maxHeartbeats 2000000 in
theorem zG7 (p : Shp) : Con Tryd.prog 25 [.agg [PV.v (.int .i64 p.every), PV.v (.int .i64 p.size), PV.v (.int .i64 p.kind)]] [] [.one (.v (.bool (zBP p)))] := by
 refine zAP Tryd.func25 rfl rfl rfl rfl ?_
 refine zAC ?_
 refine zAA rfl (.run [] [1] rfl (zBa rfl 1 rfl rfl (by decide) rfl (by decide)) (.run [] [] rfl (zAD rfl) .nil)) ?_
 refine zAC ?_
 rcases bfc (zAd p.every 1 16) with h1 | h1
 ·
  have h1' := h1
  refine zAA rfl (.run [] [] rfl (zAE rfl rfl Tryd.underlying30 rfl Tryd.sizeOf2 (by decide)) (.run [] [] rfl (zAF rfl rfl rfl Tryd.isAgg2 rfl) (.run [500] [] rfl (zAG rfl 500 (X := []) en43 rfl (.val nod) (.cons (.one (.bor .v)) (.cons (.one (.bor .v)) (.cons (.one (.bor .v)) .nil))) (by decide) all_nil .nil (zBF p.every 1 16) rfl rfl (nle rfl)) (.run [] [] rfl (zAO (zAB rfl) (zAI h1)) (.not rfl (.not rfl (.not rfl (.run [] [] rfl (zBR rfl rfl) (.run [] [] rfl (zAB rfl) (.not rfl (.not rfl (.not rfl (.run [] [] rfl (zBR rfl rfl) (.run [] [] rfl (zAD rfl) .nil)))))))))))))) ?_
  refine zAL ?_
  exact ends [_] [] (.cons (.tmp (zAI (by simp [zBP, h1']))) .nil) (.cons (.one .v (.v _)) .nil) (by decide) trivial
 ·
  have h1' := h1
  rcases bfc (zAd p.size 20 4000) with h2 | h2
  ·
   have h2' := h2
   refine zAA rfl (.run [] [] rfl (zAE rfl rfl Tryd.underlying30 rfl Tryd.sizeOf2 (by decide)) (.run [] [] rfl (zAF rfl rfl rfl Tryd.isAgg2 rfl) (.run [500] [] rfl (zAG rfl 500 (X := []) en43 rfl (.val nod) (.cons (.one (.bor .v)) (.cons (.one (.bor .v)) (.cons (.one (.bor .v)) .nil))) (by decide) all_nil .nil (zBF p.every 1 16) rfl rfl (nle rfl)) (.run [] [] rfl (zAO (zAB rfl) (zAI h1)) (.run [] [] rfl (zAE rfl rfl Tryd.underlying30 rfl Tryd.sizeOf2 (by decide)) (.run [] [] rfl (zAF rfl rfl rfl Tryd.isAgg2 rfl) (.run [900] [] rfl (zAG rfl 900 (X := []) en43 rfl (.val nod) (.cons (.one (.bor .v)) (.cons (.one (.bor .v)) (.cons (.one (.bor .v)) .nil))) (by decide) all_nil .nil (zBF p.size 20 4000) rfl rfl (nle rfl)) (.run [] [] rfl (zBZ rfl rfl) (.run [] [] rfl (zAO (zAB rfl) (zAI h2)) (.not rfl (.not rfl (.not rfl (.run [] [] rfl (zBR rfl rfl) (.run [] [] rfl (zAD rfl) .nil)))))))))))))) ?_
   refine zAL ?_
   exact ends [_] [] (.cons (.tmp (zAI (by simp [zBP, h1', h2']))) .nil) (.cons (.one .v (.v _)) .nil) (by decide) trivial
  ·
   have h2' := h2
   refine zAA rfl (.run [] [] rfl (zAE rfl rfl Tryd.underlying30 rfl Tryd.sizeOf2 (by decide)) (.run [] [] rfl (zAF rfl rfl rfl Tryd.isAgg2 rfl) (.run [500] [] rfl (zAG rfl 500 (X := []) en43 rfl (.val nod) (.cons (.one (.bor .v)) (.cons (.one (.bor .v)) (.cons (.one (.bor .v)) .nil))) (by decide) all_nil .nil (zBF p.every 1 16) rfl rfl (nle rfl)) (.run [] [] rfl (zAO (zAB rfl) (zAI h1)) (.run [] [] rfl (zAE rfl rfl Tryd.underlying30 rfl Tryd.sizeOf2 (by decide)) (.run [] [] rfl (zAF rfl rfl rfl Tryd.isAgg2 rfl) (.run [900] [] rfl (zAG rfl 900 (X := []) en43 rfl (.val nod) (.cons (.one (.bor .v)) (.cons (.one (.bor .v)) (.cons (.one (.bor .v)) .nil))) (by decide) all_nil .nil (zBF p.size 20 4000) rfl rfl (nle rfl)) (.run [] [] rfl (zBZ rfl rfl) (.run [] [] rfl (zAO (zAB rfl) (zAI h2)) (.run [] [] rfl (zAE rfl rfl Tryd.underlying30 rfl Tryd.sizeOf2 (by decide)) (.run [] [] rfl (zAF rfl rfl rfl Tryd.isAgg2 rfl) (.run [1400] [] rfl (zAG rfl 1400 (X := []) en43 rfl (.val nod) (.cons (.one (.bor .v)) (.cons (.one (.bor .v)) (.cons (.one (.bor .v)) .nil))) (by decide) all_nil .nil (zBF p.kind 0 2) rfl rfl (nle rfl)) (.run [] [] rfl (zBZ rfl rfl) (.run [] [] rfl (zAD rfl) .nil)))))))))))))) ?_
   refine zAL ?_
   exact ends [_] [] (.cons (.tmp (zAI (by simp [zBP, h1', h2']))) .nil) (.cons (.one .v (.v _)) .nil) (by decide) trivial
set_option maxRecDepth 1000000 in
set_option maxHeartbeats 2000000 in
theorem zGJ (p : Shp) : Con Tryd.prog 12 [.agg [PV.v (.int .i64 p.every), PV.v (.int .i64 p.size), PV.v (.int .i64 p.kind)]] [] [.one (.v (.bool (zBP p)))] := by
 refine zAP Tryd.func12 rfl rfl rfl rfl ?_
 refine zAC ?_
 refine zAA rfl (.run [] [1] rfl (zBa rfl 1 rfl rfl (by decide) rfl (by decide)) (.run [] [] rfl (zAD rfl) .nil)) ?_
 refine zAC ?_
 rcases bfc (zAd p.every 1 16) with h1 | h1
 ·
  have h1' := h1
  refine zAA rfl (.run [] [] rfl (zAE rfl rfl Tryd.underlying30 rfl Tryd.sizeOf2 (by decide)) (.run [] [] rfl (zAF rfl rfl rfl Tryd.isAgg2 rfl) (.run [500] [] rfl (zAG rfl 500 (X := []) en31 rfl (.val nod) (.cons (.one (.bor .v)) (.cons (.one (.bor .v)) (.cons (.one (.bor .v)) .nil))) (by decide) all_nil .nil (zBU p.every 1 16) rfl rfl (nle rfl)) (.run [] [] rfl (zAO (zAB rfl) (zAI h1)) (.not rfl (.not rfl (.not rfl (.run [] [] rfl (zBR rfl rfl) (.run [] [] rfl (zAB rfl) (.not rfl (.not rfl (.not rfl (.run [] [] rfl (zBR rfl rfl) (.run [] [] rfl (zAD rfl) .nil)))))))))))))) ?_
  refine zAL ?_
  exact ends [_] [] (.cons (.tmp (zAI (by simp [zBP, h1']))) .nil) (.cons (.one .v (.v _)) .nil) (by decide) trivial
 ·
  have h1' := h1
  rcases bfc (zAd p.size 20 4000) with h2 | h2
  ·
   have h2' := h2
   refine zAA rfl (.run [] [] rfl (zAE rfl rfl Tryd.underlying30 rfl Tryd.sizeOf2 (by decide)) (.run [] [] rfl (zAF rfl rfl rfl Tryd.isAgg2 rfl) (.run [500] [] rfl (zAG rfl 500 (X := []) en31 rfl (.val nod) (.cons (.one (.bor .v)) (.cons (.one (.bor .v)) (.cons (.one (.bor .v)) .nil))) (by decide) all_nil .nil (zBU p.every 1 16) rfl rfl (nle rfl)) (.run [] [] rfl (zAO (zAB rfl) (zAI h1)) (.run [] [] rfl (zAE rfl rfl Tryd.underlying30 rfl Tryd.sizeOf2 (by decide)) (.run [] [] rfl (zAF rfl rfl rfl Tryd.isAgg2 rfl) (.run [900] [] rfl (zAG rfl 900 (X := []) en31 rfl (.val nod) (.cons (.one (.bor .v)) (.cons (.one (.bor .v)) (.cons (.one (.bor .v)) .nil))) (by decide) all_nil .nil (zBU p.size 20 4000) rfl rfl (nle rfl)) (.run [] [] rfl (zBZ rfl rfl) (.run [] [] rfl (zAO (zAB rfl) (zAI h2)) (.not rfl (.not rfl (.not rfl (.run [] [] rfl (zBR rfl rfl) (.run [] [] rfl (zAD rfl) .nil)))))))))))))) ?_
   refine zAL ?_
   exact ends [_] [] (.cons (.tmp (zAI (by simp [zBP, h1', h2']))) .nil) (.cons (.one .v (.v _)) .nil) (by decide) trivial
  ·
   have h2' := h2
   refine zAA rfl (.run [] [] rfl (zAE rfl rfl Tryd.underlying30 rfl Tryd.sizeOf2 (by decide)) (.run [] [] rfl (zAF rfl rfl rfl Tryd.isAgg2 rfl) (.run [500] [] rfl (zAG rfl 500 (X := []) en31 rfl (.val nod) (.cons (.one (.bor .v)) (.cons (.one (.bor .v)) (.cons (.one (.bor .v)) .nil))) (by decide) all_nil .nil (zBU p.every 1 16) rfl rfl (nle rfl)) (.run [] [] rfl (zAO (zAB rfl) (zAI h1)) (.run [] [] rfl (zAE rfl rfl Tryd.underlying30 rfl Tryd.sizeOf2 (by decide)) (.run [] [] rfl (zAF rfl rfl rfl Tryd.isAgg2 rfl) (.run [900] [] rfl (zAG rfl 900 (X := []) en31 rfl (.val nod) (.cons (.one (.bor .v)) (.cons (.one (.bor .v)) (.cons (.one (.bor .v)) .nil))) (by decide) all_nil .nil (zBU p.size 20 4000) rfl rfl (nle rfl)) (.run [] [] rfl (zBZ rfl rfl) (.run [] [] rfl (zAO (zAB rfl) (zAI h2)) (.run [] [] rfl (zAE rfl rfl Tryd.underlying30 rfl Tryd.sizeOf2 (by decide)) (.run [] [] rfl (zAF rfl rfl rfl Tryd.isAgg2 rfl) (.run [1400] [] rfl (zAG rfl 1400 (X := []) en31 rfl (.val nod) (.cons (.one (.bor .v)) (.cons (.one (.bor .v)) (.cons (.one (.bor .v)) .nil))) (by decide) all_nil .nil (zBU p.kind 0 2) rfl rfl (nle rfl)) (.run [] [] rfl (zBZ rfl rfl) (.run [] [] rfl (zAD rfl) .nil)))))))))))))) ?_
   refine zAL ?_
   exact ends [_] [] (.cons (.tmp (zAI (by simp [zBP, h1', h2']))) .nil) (.cons (.one .v (.v _)) .nil) (by decide) trivial
set_option maxRecDepth 1000000 in
set_option maxHeartbeats 2000000 in
theorem zEX (a : Shp) : Con Tryd.prog 7 [.agg [PV.v (.int .i64 a.every), PV.v (.int .i64 a.size), PV.v (.int .i64 a.kind)]] [] [.agg [.v (.int .i64 a.every), .v (.int .i64 a.size), .v (.int .i64 a.kind)]] := by
 refine zAP Tryd.func7 rfl rfl rfl rfl ?_
 refine zAC ?_
 refine zAA rfl (.run [] [1] rfl (zBa rfl 1 rfl rfl (by decide) rfl (by decide)) (.run [] [2] rfl (zA7 rfl 2 inf30 rfl (by decide) rfl (by decide)) .nil)) ?_
 refine zAC ?_
 refine zAA rfl (.run [] [3] rfl (zA7 rfl 3 inf30 rfl (by decide) rfl (by decide)) .nil) ?_
 refine zAC ?_
 refine zAA rfl (.run [] [] rfl (zAE rfl rfl Tryd.underlying24 rfl Tryd.sizeOf2 (by decide)) (.run [] [] rfl (zAF rfl rfl rfl Tryd.isAgg2 rfl) (.run [] [] rfl (zAE rfl rfl Tryd.underlying30 rfl Tryd.sizeOf2 (by decide)) (.run [] [] rfl (zAS rfl rfl rfl rfl rfl Tryd.sizeOf2 rfl (nle rfl)) .nil)))) ?_
 refine zAC ?_
 refine zAA rfl (.run [] [] rfl (zAE rfl rfl Tryd.underlying24 rfl Tryd.sizeOf2 (by decide)) (.run [] [] rfl (zAF rfl rfl rfl Tryd.isAgg2 rfl) (.run [] [] rfl (zAE rfl rfl Tryd.underlying30 rfl Tryd.sizeOf2 (by decide)) (.run [] [] rfl (zAS rfl rfl rfl rfl rfl Tryd.sizeOf2 rfl (nle rfl)) .nil)))) ?_
 refine zAC ?_
 refine zAA rfl (.run [] [] rfl (zAE rfl rfl Tryd.underlying24 rfl Tryd.sizeOf2 (by decide)) (.run [] [] rfl (zAF rfl rfl rfl Tryd.isAgg2 rfl) (.run [] [] rfl (zAE rfl rfl Tryd.underlying30 rfl Tryd.sizeOf2 (by decide)) (.run [] [] rfl (zAS rfl rfl rfl rfl rfl Tryd.sizeOf2 rfl (nle rfl)) .nil)))) ?_
 refine zAC ?_
 refine zAU (s' := mk [(2, .ptr 2 0), (3, .ptr 3 0)] [(2, [.p none (.v (.int .i64 0)), .p none (.v (.int .i64 0)), .p none (.v (.int .i64 0))]), (3, [.p none (.v (.int .i64 a.every)), .p none (.v (.int .i64 a.size)), .p none (.v (.int .i64 a.kind))])] []) ?_ ?_
 · exact zAK ⟨rfl, ⟨rfl, trivial⟩⟩ ⟨rfl, ⟨rfl, trivial⟩⟩ trivial rfl
 refine zAA rfl (.run [] [] rfl (zAV rfl rfl rfl Tryd.isAgg30 Tryd.sizeOf30 (nle rfl)) (.run [] [] rfl (zAS rfl rfl rfl rfl rfl Tryd.sizeOf30 rfl (nle rfl)) .nil)) ?_
 refine zAL ?_
 exact ends [_] [] (.cons (.cell rfl rfl Tryd.isAgg30 Tryd.sizeOf30 (nle rfl)) .nil) (.cons (.agg (.cons .v (.cons .v (.cons .v .nil))) (zAb (.v _) (zAb (.v _) (zAb (.v _) zCF)))) .nil) (by decide) trivial
end Go.Rl
namespace Go.Rl
open Go.RowKit
theorem zIg {α : Type} {xs : List (List α)} {h j : Nat} {p : α} (hj : (xs.take h).flatten[j]? = some p) : xs.flatten[j]? = some p := by
 have e : xs.flatten = (xs.take h).flatten ++ (xs.drop h).flatten := by rw [← List.flatten_append, List.take_append_drop]
 rw [e, List.getElem?_append_left (List.getElem?_eq_some_iff.1 hj).1]
 exact hj
theorem zEG {α : Type} (xs : List (List α)) (h : Nat) : (xs.take h).flatten.length ≤ xs.flatten.length := by
 have e : xs.flatten = (xs.take h).flatten ++ (xs.drop h).flatten := by rw [← List.flatten_append, List.take_append_drop]
 rw [e, List.length_append]; omega
theorem zGO {a b : Nat} (h : a ≤ b) (n : Nat → List Nat) : ∃ r, (List.range b).flatMap n = (List.range a).flatMap n ++ r := by
 obtain ⟨d, rfl⟩ : ∃ d, b = a + d := ⟨b - a, by omega⟩
 rw [List.range_add]
 exact ⟨_, List.flatMap_append⟩
theorem zJ3 {Z : Nat → Prop} {w : World} {sz h m c : Nat} {A : Option Addr} {xs : List (List PV)} {N : List Nat} (hp : PVO Z w (.sl true sz xs) (.slice A m c) N) (hh : h ≤ xs.length) :
  ∃ N', PVO Z w (.sl true sz (xs.take h)) (.slice A h c) N' ∧ ∃ r, N = N' ++ r := by
 cases hp with
 | nil _ A =>
  obtain rfl : h = 0 := by simpa using hh
  exact ⟨[], .nil sz A, [], rfl⟩
 | own _ _ k c cur ty hlen hk hsz hc hm u n hcell hpp hfz =>
  obtain ⟨r, hr⟩ := zGO (zEG xs h) n
  have hl : (xs.take h).length = h := by rw [List.length_take]; omega
  have := PVO.own (Z := Z) sz (xs.take h) k c cur ty (fun es he => hlen es (List.mem_of_mem_take he)) hk hsz ⟨by omega, hc.2⟩ hm u n (fun j hj => hcell j (Nat.lt_of_lt_of_le hj (zEG xs h))) (fun j p hj => hpp j p (zIg hj)) hfz
  rw [hl] at this
  exact ⟨_, this, r, by rw [hr]; rfl⟩
section
variable {γ : Gho} {P : Program} {n : Nat} {o : Oper} {M B : List Nat} {s : St}
theorem zFD {t e : TypeId} {x : Operand} {hi : Option Operand} (ho : o.op = .slice t x none hi none) {id len h sz : Nat} {xs : List (List PV)} (hx : s.ev x = .sl id 0 len) (hr : s.r id = some (sz, xs)) (hu : P.underlying t = some (.slice e)) (hsz : ∀ w, (sizeOf e).run P w = .ok sz w) (hh : BndA s len hi h) (h2 : h ≤ len) (hid1 : id < pinT) :
  StepD γ P n o M B s { put := .sl id 0 (xs.take h).length, kill := [id], setR := [(id, sz, xs.take h)] } := by
 intro s' ag hd w0 I L a w hG hrl K Q hK
 have he := (ag.ev1 ho (by simp [Op.operands])).trans hx
 have hr' := (ag.r1 ho (by simp [Op.operands]) hx (id := id) (by simp [AV.rows])).trans hr
 have b2 := zC6 hrl (hh.at (zEw ho ag).2)
 have hv := hrl.ev x
 rw [he] at hv
 simp only [AVR] at hv
 obtain ⟨sz', xs', e1, e2, A, m, c, A', c', e3, e4, e5, e6, e7⟩ := hv
 rw [hr'] at e1
 cases e1
 obtain ⟨rfl, rfl⟩ := e6 rfl
 obtain ⟨q1, q2, q3⟩ := hrl.rw id sz xs hr'
 rw [e3] at q1
 obtain ⟨N', hN, r, hNr⟩ := zJ3 (h := h) q1 (by omega)
 have hsub : ∀ k ∈ N', k ∈ L.ν id := fun k hk => by rw [hNr]; exact List.mem_append_left _ hk
 have hset := hrl.setrow [id] (J := []) (Same.refl [] w) (by simp) hN (fun k hk => .inl ⟨id, by simp, q3 k (hsub k hk)⟩) (by rw [hNr] at q2; exact (List.nodup_append.1 q2).1) hid1 (.inr (by simp))
 have hl : (xs.take h).length = h := by rw [List.length_take]; omega
 have hv' : (if c' = 0 then A' else A'.map (·.add (0 * sz))) = A' := by
  split
  · rfl
  ·
   cases A' with
   | none => rfl
   | some ad => simp only [Nat.zero_mul, Option.map_some, Option.some.injEq]; unfold Addr.add; split <;> simp_all
 have hex : (execOp a.eval o).run P w = .ok (.value (.slice A' h c')) w := by
  simp only [execOp, ho, e4, Option.map_none, Sem.run_bind, zHB (lo := none) hu hsz (.inl ⟨rfl, rfl⟩) b2 (Nat.zero_le _) (Nat.le_trans h2 e5) w]
  rw [hv']
  rfl
 unfold Oper.wp
 rw [hex, Oper.upon_value]
 have hfin := hset.put hd (av := .sl id 0 (xs.take h).length) (v := .slice A' h c') (zEF (sz := sz) (xs := xs.take h) (by simp) (by simp [Pl.row]) (hset.rw id sz _ (by simp)).1 rfl)
 exact hK _ _ _ (by rw [Dl.app, zCs]; exact hfin)
end
end Go.Rl
namespace Go.Rl
theorem zIi {P : Program} {nm : String} {g : Nat} {k : IntKind} {zs : List Int} {W : World} (hg : P.globalNamed nm = some g) (h : Lib.TabIs P W nm k zs) : ∃ o, W.heap[g]? = some o ∧ ∀ w : World, w.heap[g]? = some o → Lib.TabIs P w nm k zs := by
 have h0 := h
 unfold Lib.TabIs World.var? at h0
 rw [hg] at h0
 simp only [Option.bind_some] at h0
 obtain ⟨o, ho⟩ : ∃ o, W.heap[g]? = some o := by
  cases e : W.heap[g]? with
  | none => simp [e] at h0
  | some o => exact ⟨o, rfl⟩
 refine ⟨o, ho, fun w hw => ?_⟩
 unfold Lib.TabIs World.var? at h ⊢
 rw [hg] at h ⊢
 simp only [Option.bind_some, ho, hw] at h ⊢
 exact h
def tz64I : List Int := Lib.deBruijn64tab.map fun n => ((n : Nat) : Int)
theorem zId : ∀ j, j < 64 → tz64I.getD j 0 = ((Lib.deBruijn64tab.getD j 0 : Nat) : Int) := by decide +kernel
end Go.Rl

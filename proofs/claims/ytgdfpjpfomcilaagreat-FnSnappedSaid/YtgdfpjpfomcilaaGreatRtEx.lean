/- Promises of functions, proved by walks over their operations; no conditions beyond those that each theorem states. -/
import Derived.Test.YtgdfpjpfomcilaaGreatReY
import Derived.Test.YtgdfpjpfomcilaaGreatReN
set_option linter.unusedSimpArgs false
set_option linter.unusedVariables false
namespace Go.Rl
structure Eng where
 seq : Int
 mem : List Ent
 runs : List (List Ent)
 snaps : List Int
def Eng.nil : Eng := ⟨0, [], [], []⟩
def tagT (ls : List (List Ent)) : RunL := ls.map fun l => (true, l)
theorem zBU (ls : List (List Ent)) : (tagT ls).length = ls.length := by simp [tagT]
theorem zIn (ls : List (List Ent)) : rows (tagT ls) = ls := by simp [rows, tagT, Function.comp_def]
theorem zCO (ls : List (List Ent)) : ents (tagT ls) = zBt ls := by rw [ents, zIn]
theorem zKy (ls : List (List Ent)) : ownR (tagT ls) = tagT ls := by simp [ownR, tagT, Function.comp_def]
theorem zPX (l : List Ent) (ls : List (List Ent)) : [[PV.sl true 4 (pvE l)]] ++ pvR (tagT ls) = pvR (tagT (l :: ls)) := by simp [pvR, tagT]
noncomputable def okE (d : Eng) : Bool := zBV d.seq d.mem (tagT d.runs) d.snaps
structure EB (d : Eng) : Prop where
 mem : d.mem.length ≤ 2000000
 runs : d.runs.length ≤ 1000000
 each : ∀ l ∈ d.runs, l.length ≤ 2000000
 snaps : d.snaps.length ≤ 1000000
theorem EB.tag {d : Eng} (h : EB d) : (tagT d.runs).length ≤ 1000000 := by rw [zBU]; exact h.runs
theorem EB.b {d : Eng} (h : EB d) : ∀ r ∈ tagT d.runs, r.2.length ≤ 2000000 := fun r hr => by
 obtain ⟨l, hl, rfl⟩ := List.mem_map.1 hr
 exact h.each l hl
structure Small (d : Eng) : Prop where
 mem : d.mem.length ≤ 400
 runs : d.runs.length ≤ 20
 ents : (zBt d.runs).length ≤ 400
 snaps : d.snaps.length ≤ 20
 seq : 0 ≤ d.seq ∧ d.seq ≤ 1000000000000
theorem zCU {d : Eng} (h : zBV d.seq d.mem (tagT d.runs) d.snaps = true) : Small d := by
 have hb := (dbs_of h).1
 simp only [zBe, Bool.and_eq_true, zAs, decide_eq_true_eq] at hb
 obtain ⟨h1, h2, h3, h4⟩ := hb
 have r := zFS h3
 rw [zBU, zCO] at r
 exact ⟨zDq h2, r.1, r.2, zFQ h4, h1⟩
theorem zOT {l : List Ent} {ls : List (List Ent)} (h : l ∈ ls) : l.length ≤ (zBt ls).length := by
 obtain ⟨i, hi⟩ := List.getElem?_of_mem h
 have := zE6 (rs := tagT ls) (i := i) (r := (true, l)) (by simp [tagT, hi])
 rwa [zCO] at this
theorem Small.eb {d : Eng} (h : Small d) : EB d := ⟨by have := h.mem; omega, by have := h.runs; omega, fun l hl => by have := zOT hl; have := h.ents; omega, by have := h.snaps; omega⟩
theorem zGH : EB Eng.nil := ⟨Nat.zero_le _, Nat.zero_le _, fun _ h => (by cases h), Nat.zero_le _⟩
noncomputable def zBm (d : Eng) : Eng × Int := if okE d = true then (if d.mem.length = 0 then (d, 4) else if 19 ≤ d.runs.length then (d, 3) else (⟨d.seq, [], d.mem :: d.runs, d.snaps⟩, 0)) else (Eng.nil, 1)
def zDN (s : List Int) (n : Int) : Prop := s[s.length - 1]? = some n
instance (s : List Int) (n : Int) : Decidable (zDN s n) := inferInstanceAs (Decidable (s[s.length - 1]? = some n))
noncomputable def zCA (d : Eng) : Eng × Int × Int := if okE d = true then (if zDN d.snaps d.seq then (d, d.seq, 0) else if 20 ≤ d.snaps.length then (d, 0, 3) else (⟨d.seq, d.mem, d.runs, d.snaps ++ [d.seq]⟩, d.seq, 0)) else (Eng.nil, 0, 1)
def zBH (s : List Int) (a : Int) : List Int := s.filter fun x => decide (x ≠ a)
noncomputable def zCE (d : Eng) (a : Int) : Eng × Int := if okE d = true then (⟨d.seq, d.mem, d.runs, zBH d.snaps a⟩, if (zBH d.snaps a).length = d.snaps.length then 4 else 0) else (Eng.nil, 1)
def zCX (l : List Ent) (s : List Int) : List Ent := zA2 l true (zBK l (zAP s) l.length) (zBK l (zAP s) l.length).length
noncomputable def zBD (d : Eng) : Eng × Int := if okE d = true then (if d.runs.length = 0 then (d, 4) else (⟨d.seq, d.mem, if 0 < (zCX (zA1 d.runs) d.snaps).length then [zCX (zA1 d.runs) d.snaps] else [], d.snaps⟩, 0)) else (Eng.nil, 1)
noncomputable def zBh (d : Eng) (ops : List Bop) : Eng × Int := if okE d = true then (if zA7 (d.seq + 1) ops = false then (d, 2) else if 400 < (zA1 (d.mem :: d.runs)).length + ops.length then (d, 3) else (⟨d.seq + (ops.length : Int), zBp d.mem (zAq (d.seq + 1) ops), d.runs, d.snaps⟩, 0)) else (Eng.nil, 1)
variable {d : Eng}
theorem zJu (h : zBV d.seq d.mem (tagT d.runs) d.snaps = false) : ¬ okE d = true := fun q => by rw [okE, h] at q; cases q
theorem flush_w (h : zBV d.seq d.mem (tagT d.runs) d.snaps = false) : zBm d = (Eng.nil, 1) := if_neg (zJu h)
theorem flush_e (h : zBV d.seq d.mem (tagT d.runs) d.snaps = true) (h1 : d.mem.length = 0) : zBm d = (d, 4) := by rw [zBm, if_pos (show okE d = true from h), if_pos h1]
theorem flush_f (h : zBV d.seq d.mem (tagT d.runs) d.snaps = true) (h1 : ¬ d.mem.length = 0) (h2 : 19 ≤ d.runs.length) : zBm d = (d, 3) := by rw [zBm, if_pos (show okE d = true from h), if_neg h1, if_pos h2]
theorem flush_y (h : zBV d.seq d.mem (tagT d.runs) d.snaps = true) (h1 : ¬ d.mem.length = 0) (h2 : ¬ 19 ≤ d.runs.length) : zBm d = (⟨d.seq, [], d.mem :: d.runs, d.snaps⟩, 0) := by rw [zBm, if_pos (show okE d = true from h), if_neg h1, if_neg h2]
theorem zQj (h : zBV d.seq d.mem (tagT d.runs) d.snaps = false) : zCA d = (Eng.nil, 0, 1) := if_neg (zJu h)
theorem zQk (h : zBV d.seq d.mem (tagT d.runs) d.snaps = true) (h1 : zDN d.snaps d.seq) : zCA d = (d, d.seq, 0) := by rw [zCA, if_pos (show okE d = true from h), if_pos h1]
theorem zNx (h : zBV d.seq d.mem (tagT d.runs) d.snaps = true) (h1 : ¬ zDN d.snaps d.seq) (h2 : 20 ≤ d.snaps.length) : zCA d = (d, 0, 3) := by rw [zCA, if_pos (show okE d = true from h), if_neg h1, if_pos h2]
theorem zNw (h : zBV d.seq d.mem (tagT d.runs) d.snaps = true) (h1 : ¬ zDN d.snaps d.seq) (h2 : ¬ 20 ≤ d.snaps.length) : zCA d = (⟨d.seq, d.mem, d.runs, d.snaps ++ [d.seq]⟩, d.seq, 0) := by rw [zCA, if_pos (show okE d = true from h), if_neg h1, if_neg h2]
theorem last_no {s : List Int} {n : Int} (h : s.length = 0) : ¬ zDN s n := fun q => by
 have := List.eq_nil_of_length_eq_zero h
 subst this
 cases q
theorem last_ne {s : List Int} {n x : Int} (hx : s[s.length - 1]? = some x) (h : x ≠ n) : ¬ zDN s n := fun q => by rw [zDN, hx] at q; cases q; exact h rfl
theorem free_w {a : Int} (h : zBV d.seq d.mem (tagT d.runs) d.snaps = false) : zCE d a = (Eng.nil, 1) := if_neg (zJu h)
theorem free_y {a : Int} (h : zBV d.seq d.mem (tagT d.runs) d.snaps = true) : zCE d a = (⟨d.seq, d.mem, d.runs, zBH d.snaps a⟩, if (zBH d.snaps a).length = d.snaps.length then 4 else 0) := if_pos h
theorem zKZ {s : List Int} {a x : Int} {i : Nat} (hx : s[i]? = some x) (h : ¬ x = a) : zBH (s.take (i + 1)) a = zBH (s.take i) a ++ [x] := by
 unfold zBH
 rw [List.take_add_one, hx, List.filter_append]
 simp [h]
theorem zHo {s : List Int} {a x : Int} {i : Nat} (hx : s[i]? = some x) (h : x = a) : zBH (s.take (i + 1)) a = zBH (s.take i) a := by
 unfold zBH
 rw [List.take_add_one, hx, List.filter_append]
 simp [h]
theorem zKa (s : List Int) (a : Int) (i : Nat) : (zBH (s.take i) a).length ≤ i := Nat.le_trans (List.length_filter_le _ _) (by rw [List.length_take]; omega)
theorem comp_w (h : zBV d.seq d.mem (tagT d.runs) d.snaps = false) : zBD d = (Eng.nil, 1) := if_neg (zJu h)
theorem comp_e (h : zBV d.seq d.mem (tagT d.runs) d.snaps = true) (h1 : d.runs.length = 0) : zBD d = (d, 4) := by rw [zBD, if_pos (show okE d = true from h), if_pos h1]
theorem comp_y (h : zBV d.seq d.mem (tagT d.runs) d.snaps = true) (h1 : ¬ d.runs.length = 0) : zBD d = (⟨d.seq, d.mem, if 0 < (zCX (zA1 d.runs) d.snaps).length then [zCX (zA1 d.runs) d.snaps] else [], d.snaps⟩, 0) := by rw [zBD, if_pos (show okE d = true from h), if_neg h1]
theorem write_w {ops : List Bop} (h : zBV d.seq d.mem (tagT d.runs) d.snaps = false) : zBh d ops = (Eng.nil, 1) := if_neg (zJu h)
theorem write_b {ops : List Bop} (h : zBV d.seq d.mem (tagT d.runs) d.snaps = true) (h1 : zA7 (d.seq + 1) ops = false) : zBh d ops = (d, 2) := by rw [zBh, if_pos (show okE d = true from h), if_pos h1]
theorem write_f {ops : List Bop} (h : zBV d.seq d.mem (tagT d.runs) d.snaps = true) (h1 : zA7 (d.seq + 1) ops = true) (h2 : 400 < (zA1 (d.mem :: d.runs)).length + ops.length) : zBh d ops = (d, 3) := by rw [zBh, if_pos (show okE d = true from h), if_neg (by rw [h1]; decide), if_pos h2]
theorem write_y {ops : List Bop} (h : zBV d.seq d.mem (tagT d.runs) d.snaps = true) (h1 : zA7 (d.seq + 1) ops = true) (h2 : ¬ 400 < (zA1 (d.mem :: d.runs)).length + ops.length) : zBh d ops = (⟨d.seq + (ops.length : Int), zBp d.mem (zAq (d.seq + 1) ops), d.runs, d.snaps⟩, 0) := by rw [zBh, if_pos (show okE d = true from h), if_neg (by rw [h1]; decide), if_neg h2]
theorem zPE (mem : List Ent) (ls : List (List Ent)) : allS mem (tagT ls) = zA1 (mem :: ls) := by rw [allS, zIn]
end Go.Rl
namespace Go.Rl
open Go.Proofs Go.Proofs.Tryz
set_option maxRecDepth 1000000
set_option maxHeartbeats 2000000
theorem zQG : (Tryz.prog.info? 76).map (fun i => (i.zero, i.size, i.bytes)) = some (some (.agg #[.int .i64 0, .slice none 0 0]), 2, 32) := by kernel_rfl
theorem en8 : En Tryz.prog 8 := zAm func8 (by decide) rfl
theorem en38 : En Tryz.prog 38 := zAm func38 (by decide) rfl
theorem en39 : En Tryz.prog 39 := zAm func39 (by decide) rfl
theorem en86 : En Tryz.prog 86 := zAm func86 (by decide) rfl
theorem zAl (ls : List (List Ent)) : Clean (.sl true 1 (pvR (tagT ls))) := by rw [← zKy]; exact zC4 _
theorem zDf (d : Eng) (h : EB d) : Con Tryz.prog 8 [.agg [.v (.int .i64 d.seq), .sl false 4 (pvE d.mem), .sl false 1 (pvR (tagT d.runs)), .sl false 1 (pvI d.snaps)]] [] [.one (.v (.bool (zBV d.seq d.mem (tagT d.runs) d.snaps)))] := zJe d.seq d.mem (tagT d.runs) d.snaps h.mem h.tag h.b h.snaps
theorem zEO (d : Eng) (h : Small d) : Con Tryz.prog 38 [.agg [.v (.int .i64 d.seq), .sl false 4 (pvE d.mem), .sl false 1 (pvR (tagT d.runs)), .sl false 1 (pvI d.snaps)]] [] [.agg [.v (.int .i64 d.seq), .sl true 4 (pvE d.mem), .sl true 1 (pvR (tagT d.runs)), .sl true 1 (pvI d.snaps)]] := by
 have q := zK9 d.seq d.mem (tagT d.runs) d.snaps (by rw [zCO]; have := h.mem; have := h.ents; omega) h.eb.tag h.eb.snaps
 rwa [zKy] at q
theorem zFU (l : List Int) (x : Int) : pvI l ++ [[PV.v (.int .i64 x)]] = pvI (l ++ [x]) := by simp [pvI]
theorem zNK (d : Eng) (h : Small d) : Con Tryz.prog 40 [.one (PV.sl false 1 (pvR (tagT d.runs)))] [] [.one (.sl true 4 (pvE (zA1 d.runs)))] := by
 have q := zGG (tagT d.runs) (by rw [zCO]; have := h.ents; omega) (by rw [zBU]; have := h.runs; omega)
 rwa [zIn] at q
theorem l14C (l : List Ent) (s : List Int) (hl : l.length ≤ 2000000) (hs : s.length ≤ 2000000) : Con Tryz.prog 39 [.one (PV.sl false 4 (pvE l)), .one (PV.sl false 1 (pvI s)), .one (.v (.bool true))] [] [.one (.sl true 4 (pvE (zCX l s)))] := zGP l s true _ rfl hl hs
theorem zQC (d : Eng) (h : Small d) : Con Tryz.prog 33 [.agg [.v (.int .i64 d.seq), .sl false 4 (pvE d.mem), .sl false 1 (pvR (tagT d.runs)), .sl false 1 (pvI d.snaps)]] [] [.one (.sl true 4 (pvE (zA1 (d.mem :: d.runs))))] := by
 have q := zIF d.seq d.mem (tagT d.runs) d.snaps (by rw [zCO]; have := h.mem; have := h.ents; omega) h.eb.tag
 rwa [zPE] at q
theorem zK4 {d : Eng} (h : Small d) : (zA1 d.runs).length ≤ 400 := Nat.le_trans (zC9 _) h.ents
theorem zJx {d : Eng} (h : Small d) : (zA1 (d.mem :: d.runs)).length ≤ 800 := Nat.le_trans (zC9 _) (by have := h.mem; have := h.ents; simp only [zBt, List.flatten_cons, List.length_append] at this ⊢; omega)
theorem zKT {s : Int} {ops : List Bop} (h : zA7 s ops = true) : zAs s 1 999999999980 = true := by
 simp only [zA7, Bool.and_eq_true] at h
 exact h.2.1
theorem zKU {s : Int} {ops : List Bop} (h : zA7 s ops = true) : 1 ≤ ops.length ∧ ops.length ≤ 20 := by
 simp only [zA7, Bool.and_eq_true] at h
 exact zC7.1 h.1
theorem zNT (d : Eng) (hD : EB d) : Con Tryz.prog 53 [.agg [PV.v (.int .i64 d.seq), PV.sl false 4 (pvE d.mem), PV.sl false 1 (pvR (tagT d.runs)), PV.sl false 1 (pvI d.snaps)]] [] [.agg [.v (.int .i64 ((zBm d).1.seq)), .sl true 4 (pvE ((zBm d).1.mem)), .sl true 1 (pvR (tagT (zBm d).1.runs)), .sl true 1 (pvI ((zBm d).1.snaps))], .one (.v (.int .i64 ((zBm d).2)))] := by
 refine zAQ func53 rfl rfl rfl rfl ?_
 have hl1 := zAF d.mem
 have hl2 := zAi (tagT d.runs)
 have hl3 := zAT d.snaps
 have hl4 := zBU d.runs
 refine zAB (zAA rfl (.run [] [1] rfl (zBO rfl 1 rfl rfl (by decide) rfl (by decide)) (.run [] [2] rfl (zAj rfl 2 zBk rfl (by decide) rfl (by decide)) (.a rfl rfl .nil))) ?_)
 refine zAB ?_
 refine zAB (zAA rfl (.r rfl (zAG rfl rfl rfl isAgg28 sizeOf28 (nle rfl)) (.run [600] [] rfl (zAK rfl 600 (X := []) en8 rfl (.val nod) (.cons (.agg (.cons (.bor .v) (.cons (.bor (.sl nod)) (.cons (.bor (.sl nod)) (.cons (.bor (.sl nod)) .nil))))) .nil) (by decide) all_nil .nil (zDf d hD) rfl rfl (nle rfl)) (.r rfl (zA5 (b := zBV d.seq d.mem (tagT d.runs) d.snaps) rfl rfl) .nil))) ?_)
 refine zAZ (t := (!(zBV d.seq d.mem (tagT d.runs) d.snaps))) rfl (fun h1 => ?_) (fun h1 => ?_)
 ·
  replace h1 : (zBV d.seq d.mem (tagT d.runs) d.snaps) = false := zBF h1
  refine zAB ?_
  have hw : zBV d.seq d.mem (tagT d.runs) d.snaps = false := by simpa using h1
  rw [flush_w hw]
  refine zAA rfl (.r rfl (zBC (pl := [(0, 1), (1, 1), (2, 1), (3, 1)]) rfl underlying28 zBk (by kernel_rfl) rfl rfl) (.r rfl (zAE rfl rfl rfl rfl rfl sizeOf28 rfl (nle rfl)) (.a rfl rfl .nil))) ?_
  refine zAO ?_
  exact ends [_, _] [] (.cons (.cell rfl rfl isAgg28 sizeOf28 (nle rfl)) (.cons (.tmp rfl) .nil)) (.cons (.agg (.cons .v (.cons (.nil _) (.cons (.nil _) (.cons (.nil _) .nil)))) (zAI (.v _) (zAI (.sl _ _ (fun _ h => nomatch h)) (zAI (.sl _ _ (fun _ h => nomatch h)) (zAI (.sl _ _ (fun _ h => nomatch h)) zBE))))) (.cons (.one .v (.v _)) .nil)) (by decide) trivial
 ·
  replace h1 : (zBV d.seq d.mem (tagT d.runs) d.snaps) = true := zBG h1
  refine zAM ?_
  refine zAB ?_
  have hok : zBV d.seq d.mem (tagT d.runs) d.snaps = true := by simpa using h1
  have hsm := zCU hok
  have hm1 := hsm.mem
  have hm2 := hsm.runs
  have hm3 := hsm.snaps
  have hm4 := hsm.seq
  refine zAA rfl (.r rfl (zAG rfl rfl rfl isAgg28 sizeOf28 (nle rfl)) (.run [1000, 1001, 1002, 1003] [] rfl (zAK rfl 1000 (X := []) en38 rfl (.val nod) (.cons (.agg (.cons (.bor .v) (.cons (.bor (.sl nod)) (.cons (.bor (.sl nod)) (.cons (.bor (.sl nod)) .nil))))) .nil) (by decide) all_nil .nil (zEO d hsm) rfl rfl (nle rfl)) (.run [] [4] rfl (zAj rfl 4 zBk rfl (by decide) rfl (by decide)) (.r rfl (zAE rfl rfl rfl rfl rfl sizeOf28 rfl (nle rfl)) .nil)))) ?_
  refine zAB ?_
  refine zAB (zAA rfl (.r rfl (zAC rfl rfl underlying28 rfl sizeOf24 (by decide)) (.r rfl (zAD rfl rfl rfl isAgg24 rfl) (.r rfl (zAX rfl rfl underlying24) (.r rfl (zA8 rfl rfl rfl) .nil)))) ?_)
  refine zAZ (t := decide (((pvE d.mem).length : Int) = 0)) rfl (fun h2 => ?_) (fun h2 => ?_)
  ·
   replace h2 := of_decide_eq_true h2
   refine zAB ?_
   rw [flush_e hok (by omega)]
   refine zAY (s' := mk [(2, .ptr 2 0), (4, .ptr 4 0)] [(2, [.vi 0, .nils, .nils, .nils]), (4, [.vi d.seq, .sl 1001 0 ((pvE d.mem).length), .sl 1002 0 ((pvR (tagT d.runs)).length), .sl 1003 0 ((pvI d.snaps).length)])] [(1001, 4, pvE d.mem), (1002, 1, pvR (tagT d.runs)), (1003, 1, pvI d.snaps)]) ?_ ?_
   · exact zAJ ⟨rfl, rfl, trivial⟩ ⟨rfl, rfl, trivial⟩ ⟨rfl, rfl, rfl, trivial⟩ rfl
   refine zAA rfl (.r rfl (zAG rfl rfl rfl isAgg28 sizeOf28 (nle rfl)) (.r rfl (zAE rfl rfl rfl rfl rfl sizeOf28 rfl (nle rfl)) (.a rfl rfl .nil))) ?_
   refine zAO ?_
   exact ends [_, _] [1001, 1002, 1003] (.cons (.cell rfl rfl isAgg28 sizeOf28 (nle rfl)) (.cons (.tmp rfl) .nil)) (.cons (.agg (.cons .v (.cons (.row (len := (pvE d.mem).length) (xs := pvE d.mem) rfl rfl) (.cons (.row (len := (pvR (tagT d.runs)).length) (xs := pvR (tagT d.runs)) rfl rfl) (.cons (.row (len := (pvI d.snaps).length) (xs := pvI d.snaps) rfl rfl) .nil)))) (zAI (.v _) (zAI (.sl _ _ (FlatP.clean (zAd _))) (zAI (zAl _) (zAI (.sl _ _ (FlatP.clean (zA3 _))) zBE))))) (.cons (.one .v (.v _)) .nil)) (by decide) trivial
  ·
   replace h2 := of_decide_eq_false h2
   refine zAM ?_
   refine zAB ?_
   refine zAB ?_
   refine zAY (s' := mk [(1, .ptr 1 0), (2, .ptr 2 0), (4, .ptr 4 0)] [(1, [.vi d.seq, .p none (.sl false 4 (pvE d.mem)), .p none (.sl false 1 (pvR (tagT d.runs))), .p none (.sl false 1 (pvI d.snaps))]), (2, [.vi 0, .nils, .nils, .nils]), (4, [.vi d.seq, .sl 1001 0 ((pvE d.mem).length), .sl 1002 0 ((pvR (tagT d.runs)).length), .sl 1003 0 ((pvI d.snaps).length)])] [(1001, 4, pvE d.mem), (1002, 1, pvR (tagT d.runs)), (1003, 1, pvI d.snaps)]) ?_ ?_
   · exact zAJ ⟨rfl, rfl, rfl, trivial⟩ ⟨rfl, rfl, rfl, trivial⟩ ⟨rfl, rfl, rfl, trivial⟩ rfl
   refine zAA rfl (.r rfl (zAC rfl rfl underlying28 rfl sizeOf25 (by decide)) (.r rfl (zAD rfl rfl rfl isAgg25 rfl) (.r rfl (zAX rfl rfl underlying25) (.r rfl (zCQ rfl rfl rfl) .nil)))) ?_
   refine zAZ (t := decide (19 ≤ ((pvR (tagT d.runs)).length : Int))) rfl (fun h3 => ?_) (fun h3 => ?_)
   ·
    replace h3 := of_decide_eq_true h3
    refine zAB ?_
    rw [flush_f hok (by omega) (by omega)]
    refine zAA rfl (.r rfl (zAG rfl rfl rfl isAgg28 sizeOf28 (nle rfl)) (.r rfl (zAE rfl rfl rfl rfl rfl sizeOf28 rfl (nle rfl)) (.a rfl rfl .nil))) ?_
    refine zAO ?_
    exact ends [_, _] [1001, 1002, 1003] (.cons (.cell rfl rfl isAgg28 sizeOf28 (nle rfl)) (.cons (.tmp rfl) .nil)) (.cons (.agg (.cons .v (.cons (.row (len := (pvE d.mem).length) (xs := pvE d.mem) rfl rfl) (.cons (.row (len := (pvR (tagT d.runs)).length) (xs := pvR (tagT d.runs)) rfl rfl) (.cons (.row (len := (pvI d.snaps).length) (xs := pvI d.snaps) rfl rfl) .nil)))) (zAI (.v _) (zAI (.sl _ _ (FlatP.clean (zAd _))) (zAI (zAl _) (zAI (.sl _ _ (FlatP.clean (zA3 _))) zBE))))) (.cons (.one .v (.v _)) .nil)) (by decide) trivial
   ·
    replace h3 := of_decide_eq_false h3
    refine zAM ?_
    refine zAB ?_
    rw [flush_y hok (by omega) (by omega)]
    refine zAA rfl (.r rfl (zAC rfl rfl underlying28 rfl sizeOf24 (by decide)) (.r rfl (zAD rfl rfl rfl isAgg24 rfl) (.r rfl (zBC (pl := [(0, 1)]) rfl underlying61 zDP (by kernel_rfl) rfl rfl) (.run [2400, 1001] [] rfl (zAR rfl 2400 underlying25 zDP (nle rfl) (by decide) rfl rfl rfl (.cons (.row rfl rfl) .nil) (by decide) rfl (by decide) rfl (by decide) rfl) (.r rfl (zAC rfl rfl underlying28 rfl sizeOf25 (by decide)) (.r rfl (zAD rfl rfl rfl isAgg25 rfl) (.run [2400] [] rfl (zAu rfl 2400 (ib := 2400) (len := ([[PV.sl true 4 (pvE d.mem)]] ++ (pvR (tagT d.runs))).length) rfl rfl (.row (len := 1) (xs := [[PV.sl true 4 (pvE d.mem)]]) rfl rfl (.inl rfl)) (.give (len := (pvR (tagT d.runs)).length) (xs := pvR (tagT d.runs)) rfl rfl) underlying25 (sk underlying25 rfl) zDP rfl (by decide) (by decide) (by decide) List.length_append (by simp only [maxLen, List.length_append, List.length_cons, List.length_nil, zAF, zAi]; omega) (by simp only [maxLen, List.length_append, List.length_cons, List.length_nil, zAF, zAi]; omega)) (.r rfl (zAC rfl rfl underlying28 rfl sizeOf25 (by decide)) (.r rfl (zAE rfl rfl rfl rfl rfl sizeOf25 rfl (nle rfl)) .nil))))))))) ?_
    have hr4 : [[PV.sl true 4 (pvE d.mem)]] ++ (pvR (tagT d.runs)) = pvR (tagT (d.mem :: d.runs)) := by exact zPX _ _
    have hp5 : (some [.vi d.seq, .undef, .sl 2400 0 (([[PV.sl true 4 (pvE d.mem)]] ++ (pvR (tagT d.runs))).length), .sl 1003 0 ((pvI d.snaps).length)] : Option (List AV)) = some [.vi d.seq, .undef, .sl 2400 0 ((pvR (tagT (d.mem :: d.runs))).length), .sl 1003 0 ((pvI d.snaps).length)] := by simp only [hr4]
    refine zAY (s' := mk [(2, .ptr 2 0), (4, .ptr 4 0)] [(2, [.vi 0, .nils, .nils, .nils]), (4, [.vi d.seq, .undef, .sl 2400 0 ((pvR (tagT (d.mem :: d.runs))).length), .sl 1003 0 ((pvI d.snaps).length)])] [(1003, 1, pvI d.snaps), (2400, 1, pvR (tagT (d.mem :: d.runs)))]) ?_ ?_
    · exact zAJ ⟨rfl, rfl, trivial⟩ ⟨rfl, hp5, trivial⟩ ⟨rfl, (congrArg (fun x => some (1, x)) hr4), trivial⟩ rfl
    refine zAB (zAA rfl (.run [2900] [] rfl (zAR rfl 2900 underlying24 zBb (nle rfl) (by decide) rfl rfl rfl .nil (by decide) rfl (by decide) rfl (by decide) rfl) (.r rfl (zAC rfl rfl underlying28 rfl sizeOf24 (by decide)) (.r rfl (zAE rfl rfl rfl rfl rfl sizeOf24 rfl (nle rfl)) .nil))) ?_)
    have hr6 : [] = pvE [] := by rfl
    have hl7 : 0 = (pvE []).length := by first | (rw [← hr6, List.length_set]; done) | simp [zAF]
    have hp8 : (some [.vi d.seq, .sl 2900 0 0, .sl 2400 0 ((pvR (tagT (d.mem :: d.runs))).length), .sl 1003 0 ((pvI d.snaps).length)] : Option (List AV)) = some [.vi d.seq, .sl 2900 0 ((pvE []).length), .sl 2400 0 ((pvR (tagT (d.mem :: d.runs))).length), .sl 1003 0 ((pvI d.snaps).length)] := by simp only [hr6, hl7]
    refine zAY (s' := mk [(2, .ptr 2 0), (4, .ptr 4 0)] [(2, [.vi 0, .nils, .nils, .nils]), (4, [.vi d.seq, .sl 2900 0 ((pvE []).length), .sl 2400 0 ((pvR (tagT (d.mem :: d.runs))).length), .sl 1003 0 ((pvI d.snaps).length)])] [(1003, 1, pvI d.snaps), (2400, 1, pvR (tagT (d.mem :: d.runs))), (2900, 4, pvE [])]) ?_ ?_
    · exact zAJ ⟨rfl, rfl, trivial⟩ ⟨rfl, hp8, trivial⟩ ⟨rfl, rfl, (congrArg (fun x => some (4, x)) hr6), trivial⟩ rfl
    refine zAB (zAA rfl (.r rfl (zAG rfl rfl rfl isAgg28 sizeOf28 (nle rfl)) (.r rfl (zAE rfl rfl rfl rfl rfl sizeOf28 rfl (nle rfl)) (.a rfl rfl .nil))) ?_)
    refine zAO ?_
    exact ends [_, _] [2900, 2400, 1003] (.cons (.cell rfl rfl isAgg28 sizeOf28 (nle rfl)) (.cons (.tmp rfl) .nil)) (.cons (.agg (.cons .v (.cons (.row (len := (pvE []).length) (xs := pvE []) rfl rfl) (.cons (.row (len := (pvR (tagT (d.mem :: d.runs))).length) (xs := pvR (tagT (d.mem :: d.runs))) rfl rfl) (.cons (.row (len := (pvI d.snaps).length) (xs := pvI d.snaps) rfl rfl) .nil)))) (zAI (.v _) (zAI (.sl _ _ (FlatP.clean (zAd _))) (zAI (zAl _) (zAI (.sl _ _ (FlatP.clean (zA3 _))) zBE))))) (.cons (.one .v (.v _)) .nil)) (by decide) trivial
theorem zFR (d : Eng) (hD : EB d) : Con Tryz.prog 16 [.agg [PV.v (.int .i64 d.seq), PV.sl false 4 (pvE d.mem), PV.sl false 1 (pvR (tagT d.runs)), PV.sl false 1 (pvI d.snaps)]] [] [.agg [.v (.int .i64 ((zCA d).1.seq)), .sl true 4 (pvE ((zCA d).1.mem)), .sl true 1 (pvR (tagT (zCA d).1.runs)), .sl true 1 (pvI ((zCA d).1.snaps))], .one (.v (.int .i64 ((zCA d).2.1))), .one (.v (.int .i64 ((zCA d).2.2)))] := by
 refine zAQ func16 rfl rfl rfl rfl ?_
 have hl1 := zAF d.mem
 have hl2 := zAi (tagT d.runs)
 have hl3 := zAT d.snaps
 have hl4 := zBU d.runs
 refine zAB (zAA rfl (.run [] [1] rfl (zBO rfl 1 rfl rfl (by decide) rfl (by decide)) (.run [] [2] rfl (zAj rfl 2 zBk rfl (by decide) rfl (by decide)) (.a rfl rfl (.a rfl rfl .nil)))) ?_)
 refine zAB ?_
 refine zAB (zAA rfl (.r rfl (zAG rfl rfl rfl isAgg28 sizeOf28 (nle rfl)) (.run [700] [] rfl (zAK rfl 700 (X := []) en8 rfl (.val nod) (.cons (.agg (.cons (.bor .v) (.cons (.bor (.sl nod)) (.cons (.bor (.sl nod)) (.cons (.bor (.sl nod)) .nil))))) .nil) (by decide) all_nil .nil (zDf d hD) rfl rfl (nle rfl)) (.r rfl (zA5 (b := zBV d.seq d.mem (tagT d.runs) d.snaps) rfl rfl) .nil))) ?_)
 refine zAZ (t := (!(zBV d.seq d.mem (tagT d.runs) d.snaps))) rfl (fun h1 => ?_) (fun h1 => ?_)
 ·
  replace h1 : (zBV d.seq d.mem (tagT d.runs) d.snaps) = false := zBF h1
  refine zAB ?_
  have hw : zBV d.seq d.mem (tagT d.runs) d.snaps = false := by simpa using h1
  rw [zQj hw]
  refine zAA rfl (.r rfl (zBC (pl := [(0, 1), (1, 1), (2, 1), (3, 1)]) rfl underlying28 zBk (by kernel_rfl) rfl rfl) (.r rfl (zAE rfl rfl rfl rfl rfl sizeOf28 rfl (nle rfl)) (.a rfl rfl (.a rfl rfl .nil)))) ?_
  refine zAO ?_
  exact ends [_, _, _] [] (.cons (.cell rfl rfl isAgg28 sizeOf28 (nle rfl)) (.cons (.tmp rfl) (.cons (.tmp rfl) .nil))) (.cons (.agg (.cons .v (.cons (.nil _) (.cons (.nil _) (.cons (.nil _) .nil)))) (zAI (.v _) (zAI (.sl _ _ (fun _ h => nomatch h)) (zAI (.sl _ _ (fun _ h => nomatch h)) (zAI (.sl _ _ (fun _ h => nomatch h)) zBE))))) (.cons (.one .v (.v _)) (.cons (.one .v (.v _)) .nil))) (by decide) trivial
 ·
  replace h1 : (zBV d.seq d.mem (tagT d.runs) d.snaps) = true := zBG h1
  refine zAM ?_
  refine zAB ?_
  have hok : zBV d.seq d.mem (tagT d.runs) d.snaps = true := by simpa using h1
  have hsm := zCU hok
  have hm1 := hsm.mem
  have hm2 := hsm.runs
  have hm3 := hsm.snaps
  have hm4 := hsm.seq
  refine zAA rfl (.r rfl (zAG rfl rfl rfl isAgg28 sizeOf28 (nle rfl)) (.run [1100, 1101, 1102, 1103] [] rfl (zAK rfl 1100 (X := []) en38 rfl (.val nod) (.cons (.agg (.cons (.bor .v) (.cons (.bor (.sl nod)) (.cons (.bor (.sl nod)) (.cons (.bor (.sl nod)) .nil))))) .nil) (by decide) all_nil .nil (zEO d hsm) rfl rfl (nle rfl)) (.run [] [5] rfl (zAj rfl 5 zBk rfl (by decide) rfl (by decide)) (.r rfl (zAE rfl rfl rfl rfl rfl sizeOf28 rfl (nle rfl)) .nil)))) ?_
  refine zAB ?_
  refine zAB ?_
  rcases Nat.eq_zero_or_pos d.snaps.length with hz | hz
  ·
   have hnl : ¬ zDN d.snaps d.seq := last_no hz
   refine zAY (s' := mk [(1, .ptr 1 0), (2, .ptr 2 0), (5, .ptr 5 0)] [(1, [.vi d.seq, .p none (.sl false 4 (pvE d.mem)), .p none (.sl false 1 (pvR (tagT d.runs))), .p none (.sl false 1 (pvI d.snaps))]), (2, [.vi 0, .nils, .nils, .nils]), (5, [.vi d.seq, .sl 1101 0 ((pvE d.mem).length), .sl 1102 0 ((pvR (tagT d.runs)).length), .sl 1103 0 ((pvI d.snaps).length)])] [(1101, 4, pvE d.mem), (1102, 1, pvR (tagT d.runs)), (1103, 1, pvI d.snaps)]) ?_ ?_
   · exact zAJ ⟨rfl, rfl, rfl, trivial⟩ ⟨rfl, rfl, rfl, trivial⟩ ⟨rfl, rfl, rfl, trivial⟩ rfl
   rcases bfc (decide (0 < ((pvI d.snaps).length : Int))) with h2 | h2
   ·
    have h2' := h2
    replace h2' := of_decide_eq_false h2'
    refine zAc zBL rfl (.r rfl (zAC rfl rfl underlying28 rfl sizeOf26 (by decide)) (.r rfl (zAD rfl rfl rfl isAgg26 rfl) (.r rfl (zAX rfl rfl underlying26) (.r rfl (zAW (zBN rfl rfl rfl) (zAN h2)) (.m rfl rfl (.not rfl (.not rfl (.not rfl (.not rfl (.not rfl (.not rfl (.not rfl (.not rfl (.not rfl (.not rfl (.not rfl (.r rfl (zBI rfl rfl) .nil))))))))))))))))) (by kernel_rfl) ?_
    refine zAZ (t := false) rfl (fun h => nomatch h) (fun _ => ?_)
    refine zAM ?_
    refine zAB ?_
    refine zAB ?_
    refine zAY (s' := mk [(1, .ptr 1 0), (2, .ptr 2 0), (5, .ptr 5 0)] [(1, [.vi d.seq, .p none (.sl false 4 (pvE d.mem)), .p none (.sl false 1 (pvR (tagT d.runs))), .p none (.sl false 1 (pvI d.snaps))]), (2, [.vi 0, .nils, .nils, .nils]), (5, [.vi d.seq, .sl 1101 0 ((pvE d.mem).length), .sl 1102 0 ((pvR (tagT d.runs)).length), .sl 1103 0 ((pvI d.snaps).length)])] [(1101, 4, pvE d.mem), (1102, 1, pvR (tagT d.runs)), (1103, 1, pvI d.snaps)]) ?_ ?_
    · exact zAJ ⟨rfl, rfl, rfl, trivial⟩ ⟨rfl, rfl, rfl, trivial⟩ ⟨rfl, rfl, rfl, trivial⟩ rfl
    refine zAA rfl (.r rfl (zAC rfl rfl underlying28 rfl sizeOf26 (by decide)) (.r rfl (zAD rfl rfl rfl isAgg26 rfl) (.r rfl (zAX rfl rfl underlying26) (.r rfl (zCQ rfl rfl rfl) .nil)))) ?_
    refine zAZ (t := decide (20 ≤ ((pvI d.snaps).length : Int))) rfl (fun h3 => ?_) (fun h3 => ?_)
    ·
     replace h3 := of_decide_eq_true h3
     refine zAB ?_
     rw [zNx hok hnl (by omega)]
     refine zAA rfl (.r rfl (zAG rfl rfl rfl isAgg28 sizeOf28 (nle rfl)) (.r rfl (zAE rfl rfl rfl rfl rfl sizeOf28 rfl (nle rfl)) (.a rfl rfl (.a rfl rfl .nil)))) ?_
     refine zAO ?_
     exact ends [_, _, _] [1101, 1102, 1103] (.cons (.cell rfl rfl isAgg28 sizeOf28 (nle rfl)) (.cons (.tmp rfl) (.cons (.tmp rfl) .nil))) (.cons (.agg (.cons .v (.cons (.row (len := (pvE d.mem).length) (xs := pvE d.mem) rfl rfl) (.cons (.row (len := (pvR (tagT d.runs)).length) (xs := pvR (tagT d.runs)) rfl rfl) (.cons (.row (len := (pvI d.snaps).length) (xs := pvI d.snaps) rfl rfl) .nil)))) (zAI (.v _) (zAI (.sl _ _ (FlatP.clean (zAd _))) (zAI (zAl _) (zAI (.sl _ _ (FlatP.clean (zA3 _))) zBE))))) (.cons (.one .v (.v _)) (.cons (.one .v (.v _)) .nil))) (by decide) trivial
    ·
     replace h3 := of_decide_eq_false h3
     refine zAM ?_
     refine zAB ?_
     rw [zNw hok hnl (by omega)]
     refine zAA rfl (.r rfl (zAC rfl rfl underlying28 rfl sizeOf26 (by decide)) (.r rfl (zAD rfl rfl rfl isAgg26 rfl) (.r rfl (zAC rfl rfl underlying28 rfl sizeOf2 (by decide)) (.r rfl (zAD rfl rfl rfl isAgg2 rfl) (.run [4100] [] rfl (zAR rfl 4100 underlying26 inf2 (nle rfl) (by decide) rfl rfl rfl (.cons .v .nil) (by decide) rfl (by decide) rfl (by decide) rfl) (.run [1103] [] rfl (zAu rfl 1103 (ib := 1103) (len := ((pvI d.snaps) ++ [[PV.v (.int .i64 d.seq)]]).length) rfl rfl (.row (len := (pvI d.snaps).length) (xs := pvI d.snaps) rfl rfl (.inl rfl)) (.give (len := 1) (xs := [[PV.v (.int .i64 d.seq)]]) rfl rfl) underlying26 (sk underlying26 rfl) inf2 rfl (by decide) (by decide) (by decide) List.length_append (by simp only [maxLen, List.length_append, List.length_cons, List.length_nil, zAT]; omega) (by simp only [maxLen, List.length_append, List.length_cons, List.length_nil, zAT]; omega)) (.r rfl (zAC rfl rfl underlying28 rfl sizeOf26 (by decide)) (.r rfl (zAE rfl rfl rfl rfl rfl sizeOf26 rfl (nle rfl)) .nil)))))))) ?_
     have hr4 : (pvI d.snaps) ++ [[PV.v (.int .i64 d.seq)]] = pvI (d.snaps ++ [d.seq]) := by exact zFU _ _
     have hp5 : (some [.vi d.seq, .sl 1101 0 ((pvE d.mem).length), .sl 1102 0 ((pvR (tagT d.runs)).length), .sl 1103 0 (((pvI d.snaps) ++ [[PV.v (.int .i64 d.seq)]]).length)] : Option (List AV)) = some [.vi d.seq, .sl 1101 0 ((pvE d.mem).length), .sl 1102 0 ((pvR (tagT d.runs)).length), .sl 1103 0 ((pvI (d.snaps ++ [d.seq])).length)] := by simp only [hr4]
     refine zAY (s' := mk [(1, .ptr 1 0), (2, .ptr 2 0), (5, .ptr 5 0)] [(1, [.vi d.seq, .p none (.sl false 4 (pvE d.mem)), .p none (.sl false 1 (pvR (tagT d.runs))), .p none (.sl false 1 (pvI d.snaps))]), (2, [.vi 0, .nils, .nils, .nils]), (5, [.vi d.seq, .sl 1101 0 ((pvE d.mem).length), .sl 1102 0 ((pvR (tagT d.runs)).length), .sl 1103 0 ((pvI (d.snaps ++ [d.seq])).length)])] [(1101, 4, pvE d.mem), (1102, 1, pvR (tagT d.runs)), (1103, 1, pvI (d.snaps ++ [d.seq]))]) ?_ ?_
     · exact zAJ ⟨rfl, rfl, rfl, trivial⟩ ⟨rfl, rfl, hp5, trivial⟩ ⟨rfl, rfl, (congrArg (fun x => some (1, x)) hr4), trivial⟩ rfl
     refine zAB (zAc zBL rfl (.r rfl (zAG rfl rfl rfl isAgg28 sizeOf28 (nle rfl)) (.r rfl (zAC rfl rfl underlying28 rfl sizeOf2 (by decide)) (.r rfl (zAD rfl rfl rfl isAgg2 rfl) (.r rfl (zAE rfl rfl rfl rfl rfl sizeOf28 rfl (nle rfl)) (.a rfl rfl (.a rfl rfl .nil)))))) (by kernel_rfl) ?_)
     refine zAO ?_
     exact ends [_, _, _] [1101, 1102, 1103] (.cons (.cell rfl rfl isAgg28 sizeOf28 (nle rfl)) (.cons (.tmp rfl) (.cons (.tmp rfl) .nil))) (.cons (.agg (.cons .v (.cons (.row (len := (pvE d.mem).length) (xs := pvE d.mem) rfl rfl) (.cons (.row (len := (pvR (tagT d.runs)).length) (xs := pvR (tagT d.runs)) rfl rfl) (.cons (.row (len := (pvI (d.snaps ++ [d.seq])).length) (xs := pvI (d.snaps ++ [d.seq])) rfl rfl) .nil)))) (zAI (.v _) (zAI (.sl _ _ (FlatP.clean (zAd _))) (zAI (zAl _) (zAI (.sl _ _ (FlatP.clean (zA3 _))) zBE))))) (.cons (.one .v (.v _)) (.cons (.one .v (.v _)) .nil))) (by decide) trivial
   ·
    have h2' := h2
    replace h2' := of_decide_eq_true h2'
    omega
  ·
   obtain ⟨x, hx⟩ : ∃ x, d.snaps[d.snaps.length - 1]? = some x := ⟨_, List.getElem?_eq_getElem (by omega)⟩
   refine zAY (s' := mk [(1, .ptr 1 0), (2, .ptr 2 0), (5, .ptr 5 0)] [(1, [.vi d.seq, .p none (.sl false 4 (pvE d.mem)), .p none (.sl false 1 (pvR (tagT d.runs))), .p none (.sl false 1 (pvI d.snaps))]), (2, [.vi 0, .nils, .nils, .nils]), (5, [.vi d.seq, .sl 1101 0 ((pvE d.mem).length), .sl 1102 0 ((pvR (tagT d.runs)).length), .sl 1103 0 ((pvI d.snaps).length)])] [(1101, 4, pvE d.mem), (1102, 1, pvR (tagT d.runs)), (1103, 1, pvI d.snaps)]) ?_ ?_
   · exact zAJ ⟨rfl, rfl, rfl, trivial⟩ ⟨rfl, rfl, rfl, trivial⟩ ⟨rfl, rfl, rfl, trivial⟩ rfl
   rcases bfc (decide (0 < ((pvI d.snaps).length : Int))) with h6 | h6
   ·
    have h6' := h6
    replace h6' := of_decide_eq_false h6'
    omega
   ·
    have h6' := h6
    replace h6' := of_decide_eq_true h6'
    refine zAc zBL rfl (.r rfl (zAC rfl rfl underlying28 rfl sizeOf26 (by decide)) (.r rfl (zAD rfl rfl rfl isAgg26 rfl) (.r rfl (zAX rfl rfl underlying26) (.r rfl (zAW (zBN rfl rfl rfl) (zAN h6)) (.m rfl rfl (.r rfl (zAC rfl rfl underlying28 rfl sizeOf26 (by decide)) (.r rfl (zAD rfl rfl rfl isAgg26 rfl) (.r rfl (zAC rfl rfl underlying28 rfl sizeOf26 (by decide)) (.r rfl (zAD rfl rfl rfl isAgg26 rfl) (.r rfl (zAX rfl rfl underlying26) (.r rfl (zAW (zAv rfl rfl rfl (by omega)) ((show (AV.p none (.v (.int .i64 (((pvI d.snaps).length : Int) - 1)))) = AV.p none (.v (.int .i64 ((d.snaps.length - 1 : Nat) : Int))) from zAL (by omega)))) (.r rfl (zAh rfl rfl rfl underlying26 sizeOf2 rfl (by omega) (zB0 hx)) (.r rfl (zAg rfl rfl isAgg2 rfl) (.r rfl (zAC rfl rfl underlying28 rfl sizeOf2 (by decide)) (.r rfl (zAD rfl rfl rfl isAgg2 rfl) (.r rfl (zA8 rfl rfl rfl) (.r rfl (zBM rfl rfl) .nil))))))))))))))))) (by kernel_rfl) ?_
    refine zAZ (t := decide (x = d.seq)) rfl (fun h7 => ?_) (fun h7 => ?_)
    ·
     replace h7 := of_decide_eq_true h7
     refine zAB ?_
     have hla : zDN d.snaps d.seq := by rw [zDN, hx, h7]
     rw [zQk hok hla]
     refine zAY (s' := mk [(1, .ptr 1 0), (2, .ptr 2 0), (5, .ptr 5 0)] [(1, [.vi d.seq, .p none (.sl false 4 (pvE d.mem)), .p none (.sl false 1 (pvR (tagT d.runs))), .p none (.sl false 1 (pvI d.snaps))]), (2, [.vi 0, .nils, .nils, .nils]), (5, [.vi d.seq, .sl 1101 0 ((pvE d.mem).length), .sl 1102 0 ((pvR (tagT d.runs)).length), .sl 1103 0 ((pvI d.snaps).length)])] [(1101, 4, pvE d.mem), (1102, 1, pvR (tagT d.runs)), (1103, 1, pvI d.snaps)]) ?_ ?_
     · exact zAJ ⟨rfl, rfl, rfl, trivial⟩ ⟨rfl, rfl, rfl, trivial⟩ ⟨rfl, rfl, rfl, trivial⟩ rfl
     refine zAc zBL rfl (.r rfl (zAG rfl rfl rfl isAgg28 sizeOf28 (nle rfl)) (.r rfl (zAC rfl rfl underlying28 rfl sizeOf2 (by decide)) (.r rfl (zAD rfl rfl rfl isAgg2 rfl) (.r rfl (zAE rfl rfl rfl rfl rfl sizeOf28 rfl (nle rfl)) (.a rfl rfl (.a rfl rfl .nil)))))) (by kernel_rfl) ?_
     refine zAO ?_
     exact ends [_, _, _] [1101, 1102, 1103] (.cons (.cell rfl rfl isAgg28 sizeOf28 (nle rfl)) (.cons (.tmp rfl) (.cons (.tmp rfl) .nil))) (.cons (.agg (.cons .v (.cons (.row (len := (pvE d.mem).length) (xs := pvE d.mem) rfl rfl) (.cons (.row (len := (pvR (tagT d.runs)).length) (xs := pvR (tagT d.runs)) rfl rfl) (.cons (.row (len := (pvI d.snaps).length) (xs := pvI d.snaps) rfl rfl) .nil)))) (zAI (.v _) (zAI (.sl _ _ (FlatP.clean (zAd _))) (zAI (zAl _) (zAI (.sl _ _ (FlatP.clean (zA3 _))) zBE))))) (.cons (.one .v (.v _)) (.cons (.one .v (.v _)) .nil))) (by decide) trivial
    ·
     replace h7 := of_decide_eq_false h7
     refine zAM ?_
     refine zAB ?_
     refine zAB ?_
     have hnl : ¬ zDN d.snaps d.seq := last_ne hx h7
     refine zAY (s' := mk [(1, .ptr 1 0), (2, .ptr 2 0), (5, .ptr 5 0)] [(1, [.vi d.seq, .p none (.sl false 4 (pvE d.mem)), .p none (.sl false 1 (pvR (tagT d.runs))), .p none (.sl false 1 (pvI d.snaps))]), (2, [.vi 0, .nils, .nils, .nils]), (5, [.vi d.seq, .sl 1101 0 ((pvE d.mem).length), .sl 1102 0 ((pvR (tagT d.runs)).length), .sl 1103 0 ((pvI d.snaps).length)])] [(1101, 4, pvE d.mem), (1102, 1, pvR (tagT d.runs)), (1103, 1, pvI d.snaps)]) ?_ ?_
     · exact zAJ ⟨rfl, rfl, rfl, trivial⟩ ⟨rfl, rfl, rfl, trivial⟩ ⟨rfl, rfl, rfl, trivial⟩ rfl
     refine zAA rfl (.r rfl (zAC rfl rfl underlying28 rfl sizeOf26 (by decide)) (.r rfl (zAD rfl rfl rfl isAgg26 rfl) (.r rfl (zAX rfl rfl underlying26) (.r rfl (zCQ rfl rfl rfl) .nil)))) ?_
     refine zAZ (t := decide (20 ≤ ((pvI d.snaps).length : Int))) rfl (fun h8 => ?_) (fun h8 => ?_)
     ·
      replace h8 := of_decide_eq_true h8
      refine zAB ?_
      rw [zNx hok hnl (by omega)]
      refine zAA rfl (.r rfl (zAG rfl rfl rfl isAgg28 sizeOf28 (nle rfl)) (.r rfl (zAE rfl rfl rfl rfl rfl sizeOf28 rfl (nle rfl)) (.a rfl rfl (.a rfl rfl .nil)))) ?_
      refine zAO ?_
      exact ends [_, _, _] [1101, 1102, 1103] (.cons (.cell rfl rfl isAgg28 sizeOf28 (nle rfl)) (.cons (.tmp rfl) (.cons (.tmp rfl) .nil))) (.cons (.agg (.cons .v (.cons (.row (len := (pvE d.mem).length) (xs := pvE d.mem) rfl rfl) (.cons (.row (len := (pvR (tagT d.runs)).length) (xs := pvR (tagT d.runs)) rfl rfl) (.cons (.row (len := (pvI d.snaps).length) (xs := pvI d.snaps) rfl rfl) .nil)))) (zAI (.v _) (zAI (.sl _ _ (FlatP.clean (zAd _))) (zAI (zAl _) (zAI (.sl _ _ (FlatP.clean (zA3 _))) zBE))))) (.cons (.one .v (.v _)) (.cons (.one .v (.v _)) .nil))) (by decide) trivial
     ·
      replace h8 := of_decide_eq_false h8
      refine zAM ?_
      refine zAB ?_
      rw [zNw hok hnl (by omega)]
      refine zAA rfl (.r rfl (zAC rfl rfl underlying28 rfl sizeOf26 (by decide)) (.r rfl (zAD rfl rfl rfl isAgg26 rfl) (.r rfl (zAC rfl rfl underlying28 rfl sizeOf2 (by decide)) (.r rfl (zAD rfl rfl rfl isAgg2 rfl) (.run [4100] [] rfl (zAR rfl 4100 underlying26 inf2 (nle rfl) (by decide) rfl rfl rfl (.cons .v .nil) (by decide) rfl (by decide) rfl (by decide) rfl) (.run [1103] [] rfl (zAu rfl 1103 (ib := 1103) (len := ((pvI d.snaps) ++ [[PV.v (.int .i64 d.seq)]]).length) rfl rfl (.row (len := (pvI d.snaps).length) (xs := pvI d.snaps) rfl rfl (.inl rfl)) (.give (len := 1) (xs := [[PV.v (.int .i64 d.seq)]]) rfl rfl) underlying26 (sk underlying26 rfl) inf2 rfl (by decide) (by decide) (by decide) List.length_append (by simp only [maxLen, List.length_append, List.length_cons, List.length_nil, zAT]; omega) (by simp only [maxLen, List.length_append, List.length_cons, List.length_nil, zAT]; omega)) (.r rfl (zAC rfl rfl underlying28 rfl sizeOf26 (by decide)) (.r rfl (zAE rfl rfl rfl rfl rfl sizeOf26 rfl (nle rfl)) .nil)))))))) ?_
      have hr9 : (pvI d.snaps) ++ [[PV.v (.int .i64 d.seq)]] = pvI (d.snaps ++ [d.seq]) := by exact zFU _ _
      have hp10 : (some [.vi d.seq, .sl 1101 0 ((pvE d.mem).length), .sl 1102 0 ((pvR (tagT d.runs)).length), .sl 1103 0 (((pvI d.snaps) ++ [[PV.v (.int .i64 d.seq)]]).length)] : Option (List AV)) = some [.vi d.seq, .sl 1101 0 ((pvE d.mem).length), .sl 1102 0 ((pvR (tagT d.runs)).length), .sl 1103 0 ((pvI (d.snaps ++ [d.seq])).length)] := by simp only [hr9]
      refine zAY (s' := mk [(1, .ptr 1 0), (2, .ptr 2 0), (5, .ptr 5 0)] [(1, [.vi d.seq, .p none (.sl false 4 (pvE d.mem)), .p none (.sl false 1 (pvR (tagT d.runs))), .p none (.sl false 1 (pvI d.snaps))]), (2, [.vi 0, .nils, .nils, .nils]), (5, [.vi d.seq, .sl 1101 0 ((pvE d.mem).length), .sl 1102 0 ((pvR (tagT d.runs)).length), .sl 1103 0 ((pvI (d.snaps ++ [d.seq])).length)])] [(1101, 4, pvE d.mem), (1102, 1, pvR (tagT d.runs)), (1103, 1, pvI (d.snaps ++ [d.seq]))]) ?_ ?_
      · exact zAJ ⟨rfl, rfl, rfl, trivial⟩ ⟨rfl, rfl, hp10, trivial⟩ ⟨rfl, rfl, (congrArg (fun x => some (1, x)) hr9), trivial⟩ rfl
      refine zAB (zAc zBL rfl (.r rfl (zAG rfl rfl rfl isAgg28 sizeOf28 (nle rfl)) (.r rfl (zAC rfl rfl underlying28 rfl sizeOf2 (by decide)) (.r rfl (zAD rfl rfl rfl isAgg2 rfl) (.r rfl (zAE rfl rfl rfl rfl rfl sizeOf28 rfl (nle rfl)) (.a rfl rfl (.a rfl rfl .nil)))))) (by kernel_rfl) ?_)
      refine zAO ?_
      exact ends [_, _, _] [1101, 1102, 1103] (.cons (.cell rfl rfl isAgg28 sizeOf28 (nle rfl)) (.cons (.tmp rfl) (.cons (.tmp rfl) .nil))) (.cons (.agg (.cons .v (.cons (.row (len := (pvE d.mem).length) (xs := pvE d.mem) rfl rfl) (.cons (.row (len := (pvR (tagT d.runs)).length) (xs := pvR (tagT d.runs)) rfl rfl) (.cons (.row (len := (pvI (d.snaps ++ [d.seq])).length) (xs := pvI (d.snaps ++ [d.seq])) rfl rfl) .nil)))) (zAI (.v _) (zAI (.sl _ _ (FlatP.clean (zAd _))) (zAI (zAl _) (zAI (.sl _ _ (FlatP.clean (zA3 _))) zBE))))) (.cons (.one .v (.v _)) (.cons (.one .v (.v _)) .nil))) (by decide) trivial
theorem zOf (d : Eng) (hD : EB d) (a : Int) : Con Tryz.prog 54 [.agg [PV.v (.int .i64 d.seq), PV.sl false 4 (pvE d.mem), PV.sl false 1 (pvR (tagT d.runs)), PV.sl false 1 (pvI d.snaps)], .one (PV.v (.int .i64 a))] [] [.agg [.v (.int .i64 ((zCE d a).1.seq)), .sl true 4 (pvE ((zCE d a).1.mem)), .sl true 1 (pvR (tagT (zCE d a).1.runs)), .sl true 1 (pvI ((zCE d a).1.snaps))], .one (.v (.int .i64 ((zCE d a).2)))] := by
 refine zAQ func54 rfl rfl rfl rfl ?_
 have hl1 := zAF d.mem
 have hl2 := zAi (tagT d.runs)
 have hl3 := zAT d.snaps
 have hl4 := zBU d.runs
 refine zAB (zAA rfl (.run [] [2] rfl (zBO rfl 2 rfl rfl (by decide) rfl (by decide)) (.run [] [4] rfl (zAj rfl 4 zBk rfl (by decide) rfl (by decide)) (.a rfl rfl .nil))) ?_)
 refine zAB ?_
 refine zAB (zAA rfl (.r rfl (zAG rfl rfl rfl isAgg28 sizeOf28 (nle rfl)) (.run [900] [] rfl (zAK rfl 900 (X := []) en8 rfl (.val nod) (.cons (.agg (.cons (.bor .v) (.cons (.bor (.sl nod)) (.cons (.bor (.sl nod)) (.cons (.bor (.sl nod)) .nil))))) .nil) (by decide) all_nil .nil (zDf d hD) rfl rfl (nle rfl)) (.r rfl (zA5 (b := zBV d.seq d.mem (tagT d.runs) d.snaps) rfl rfl) .nil))) ?_)
 refine zAZ (t := (!(zBV d.seq d.mem (tagT d.runs) d.snaps))) rfl (fun h1 => ?_) (fun h1 => ?_)
 ·
  replace h1 : (zBV d.seq d.mem (tagT d.runs) d.snaps) = false := zBF h1
  refine zAB ?_
  have hw : zBV d.seq d.mem (tagT d.runs) d.snaps = false := by simpa using h1
  rw [free_w hw]
  refine zAA rfl (.r rfl (zBC (pl := [(0, 1), (1, 1), (2, 1), (3, 1)]) rfl underlying28 zBk (by kernel_rfl) rfl rfl) (.r rfl (zAE rfl rfl rfl rfl rfl sizeOf28 rfl (nle rfl)) (.a rfl rfl .nil))) ?_
  refine zAO ?_
  exact ends [_, _] [] (.cons (.cell rfl rfl isAgg28 sizeOf28 (nle rfl)) (.cons (.tmp rfl) .nil)) (.cons (.agg (.cons .v (.cons (.nil _) (.cons (.nil _) (.cons (.nil _) .nil)))) (zAI (.v _) (zAI (.sl _ _ (fun _ h => nomatch h)) (zAI (.sl _ _ (fun _ h => nomatch h)) (zAI (.sl _ _ (fun _ h => nomatch h)) zBE))))) (.cons (.one .v (.v _)) .nil)) (by decide) trivial
 ·
  replace h1 : (zBV d.seq d.mem (tagT d.runs) d.snaps) = true := zBG h1
  refine zAM ?_
  refine zAB ?_
  have hok : zBV d.seq d.mem (tagT d.runs) d.snaps = true := by simpa using h1
  have hsm := zCU hok
  have hm1 := hsm.mem
  have hm2 := hsm.runs
  have hm3 := hsm.snaps
  have hm4 := hsm.seq
  refine zAA rfl (.r rfl (zAG rfl rfl rfl isAgg28 sizeOf28 (nle rfl)) (.run [1300, 1301, 1302, 1303] [] rfl (zAK rfl 1300 (X := []) en38 rfl (.val nod) (.cons (.agg (.cons (.bor .v) (.cons (.bor (.sl nod)) (.cons (.bor (.sl nod)) (.cons (.bor (.sl nod)) .nil))))) .nil) (by decide) all_nil .nil (zEO d hsm) rfl rfl (nle rfl)) (.run [] [6] rfl (zAj rfl 6 zBk rfl (by decide) rfl (by decide)) (.r rfl (zAE rfl rfl rfl rfl rfl sizeOf28 rfl (nle rfl)) .nil)))) ?_
  refine zAB (zAA rfl (.run [1400] [] rfl (zAR rfl 1400 underlying26 inf2 (nle rfl) (by decide) rfl rfl rfl .nil (by decide) rfl (by decide) rfl (by decide) rfl) (.r rfl (zAC rfl rfl underlying28 rfl sizeOf26 (by decide)) (.r rfl (zAE rfl rfl rfl rfl rfl sizeOf26 rfl (nle rfl)) .nil))) ?_)
  refine zAB ?_
  refine zAB ?_
  rw [free_y hok]
  refine zAA rfl (.a rfl rfl .nil) ?_
  refine zAS ?_
  refine zAp (σ := Nat) (fun i => mk [(1, .vi a), (2, .ptr 2 0), (4, .ptr 4 0), (6, .ptr 6 0), (7, .vi (i:Int))] [(2, [.vi d.seq, .p none (.sl false 4 (pvE d.mem)), .p none (.sl false 1 (pvR (tagT d.runs))), .p none (.sl false 1 (pvI d.snaps))]), (4, [.vi 0, .nils, .nils, .nils]), (6, [.vi d.seq, .sl 1301 0 ((pvE d.mem).length), .sl 1302 0 ((pvR (tagT d.runs)).length), .sl 1400 0 ((pvI (zBH (d.snaps.take i) a)).length)])] [(1301, 4, pvE d.mem), (1302, 1, pvR (tagT d.runs)), (1400, 1, pvI (zBH (d.snaps.take i) a))]) (fun i => i ≤ d.snaps.length) (fun i => d.snaps.length - i) 0 (by simp) (zAJ ⟨rfl, rfl, rfl, rfl, (zAL (by omega)), trivial⟩ ⟨rfl, rfl, rfl, trivial⟩ ⟨rfl, rfl, (congrArg (fun x => some (1, x)) (by rfl)), trivial⟩ rfl) ?_
  rintro i hG
  replace hG : i ≤ d.snaps.length := hG
  have hwl := zKa d.snaps a i
  have hwv := zAT (zBH (d.snaps.take i) a)
  refine zAB ?_
  refine zAB (zAA rfl (.m rfl rfl (.r rfl (zAC rfl rfl underlying28 rfl sizeOf26 (by decide)) (.r rfl (zAD rfl rfl rfl isAgg26 rfl) (.r rfl (zAX rfl rfl underlying26) (.r rfl (zA4 rfl rfl rfl) .nil))))) ?_)
  refine zAZ (t := decide ((i:Int) < ((pvI d.snaps).length : Int))) rfl (fun h2 => ?_) (fun h2 => ?_)
  ·
   replace h2 := of_decide_eq_true h2
   refine zAM ?_
   refine zAB ?_
   refine zAS ?_
   refine zAB ?_
   obtain ⟨e, he⟩ : ∃ e, d.snaps[i]? = some e := ⟨_, List.getElem?_eq_getElem (by omega)⟩
   refine zAA rfl (.r rfl (zAC rfl rfl underlying28 rfl sizeOf26 (by decide)) (.r rfl (zAD rfl rfl rfl isAgg26 rfl) (.m rfl rfl (.r rfl (zAh rfl rfl rfl underlying26 sizeOf2 rfl (by omega) (zB0 he)) (.r rfl (zAg rfl rfl isAgg2 rfl) (.m rfl rfl (.r rfl (zCg rfl rfl rfl) .nil))))))) ?_
   refine zAZ (t := (!(decide (e = a)))) rfl (fun h3 => ?_) (fun h3 => ?_)
   ·
    replace h3 : ¬ (e = a) := of_decide_eq_false (zBF h3)
    refine zAY (s' := mk [(1, .vi a), (2, .ptr 2 0), (4, .ptr 4 0), (6, .ptr 6 0), (7, .vi (i:Int))] [(2, [.vi d.seq, .p none (.sl false 4 (pvE d.mem)), .p none (.sl false 1 (pvR (tagT d.runs))), .p none (.sl false 1 (pvI d.snaps))]), (4, [.vi 0, .nils, .nils, .nils]), (6, [.vi d.seq, .sl 1301 0 ((pvE d.mem).length), .sl 1302 0 ((pvR (tagT d.runs)).length), .sl 1400 0 ((pvI (zBH (d.snaps.take i) a)).length)])] [(1301, 4, pvE d.mem), (1302, 1, pvR (tagT d.runs)), (1400, 1, pvI (zBH (d.snaps.take i) a))]) ?_ ?_
    · exact zAJ ⟨rfl, rfl, rfl, rfl, rfl, trivial⟩ ⟨rfl, rfl, rfl, trivial⟩ ⟨rfl, rfl, rfl, trivial⟩ rfl
    refine zAc zBL rfl (.r rfl (zAC rfl rfl underlying28 rfl sizeOf26 (by decide)) (.r rfl (zAD rfl rfl rfl isAgg26 rfl) (.r rfl (zAC rfl rfl underlying28 rfl sizeOf26 (by decide)) (.r rfl (zAD rfl rfl rfl isAgg26 rfl) (.m rfl rfl (.r rfl (zAh rfl rfl rfl underlying26 sizeOf2 rfl (by omega) (zB0 he)) (.r rfl (zAg rfl rfl isAgg2 rfl) (.run [3700] [] rfl (zAR rfl 3700 underlying26 inf2 (nle rfl) (by decide) rfl rfl rfl (.cons .v .nil) (by decide) rfl (by decide) rfl (by decide) rfl) (.run [1400] [] rfl (zAu rfl 1400 (ib := 1400) (len := ((pvI (zBH (d.snaps.take i) a)) ++ [[PV.v (.int .i64 e)]]).length) rfl rfl (.row (len := (pvI (zBH (d.snaps.take i) a)).length) (xs := pvI (zBH (d.snaps.take i) a)) rfl rfl (.inl rfl)) (.give (len := 1) (xs := [[PV.v (.int .i64 e)]]) rfl rfl) underlying26 (sk underlying26 rfl) inf2 rfl (by decide) (by decide) (by decide) List.length_append (by simp only [maxLen, List.length_append, List.length_cons, List.length_nil, List.length_take, zAT]; omega) (by simp only [maxLen, List.length_append, List.length_cons, List.length_nil, List.length_take, zAT]; omega)) (.r rfl (zAC rfl rfl underlying28 rfl sizeOf26 (by decide)) (.r rfl (zAE rfl rfl rfl rfl rfl sizeOf26 rfl (nle rfl)) .nil))))))))))) (by kernel_rfl) ?_
    have hr4 : (pvI (zBH (d.snaps.take i) a)) ++ [[PV.v (.int .i64 e)]] = pvI (zBH (d.snaps.take (i + 1)) a) := by rw [zKZ he h3]; exact zFU _ _
    have hp5 : (some [.vi d.seq, .sl 1301 0 ((pvE d.mem).length), .sl 1302 0 ((pvR (tagT d.runs)).length), .sl 1400 0 (((pvI (zBH (d.snaps.take i) a)) ++ [[PV.v (.int .i64 e)]]).length)] : Option (List AV)) = some [.vi d.seq, .sl 1301 0 ((pvE d.mem).length), .sl 1302 0 ((pvR (tagT d.runs)).length), .sl 1400 0 ((pvI (zBH (d.snaps.take (i + 1)) a)).length)] := by simp only [hr4]
    refine zAY (s' := mk [(1, .vi a), (2, .ptr 2 0), (4, .ptr 4 0), (6, .ptr 6 0), (7, .vi (i:Int))] [(2, [.vi d.seq, .p none (.sl false 4 (pvE d.mem)), .p none (.sl false 1 (pvR (tagT d.runs))), .p none (.sl false 1 (pvI d.snaps))]), (4, [.vi 0, .nils, .nils, .nils]), (6, [.vi d.seq, .sl 1301 0 ((pvE d.mem).length), .sl 1302 0 ((pvR (tagT d.runs)).length), .sl 1400 0 ((pvI (zBH (d.snaps.take (i + 1)) a)).length)])] [(1301, 4, pvE d.mem), (1302, 1, pvR (tagT d.runs)), (1400, 1, pvI (zBH (d.snaps.take (i + 1)) a))]) ?_ ?_
    · exact zAJ ⟨rfl, rfl, rfl, rfl, rfl, trivial⟩ ⟨rfl, rfl, hp5, trivial⟩ ⟨rfl, rfl, (congrArg (fun x => some (1, x)) hr4), trivial⟩ rfl
    refine zAA rfl (.m rfl rfl (.r rfl (zAf rfl rfl rfl (by omega)) (.a rfl rfl .nil))) ?_
    refine nxt (Q := fun _ _ => False) (z := i) (i + 1) ?_ ?_ ?_
    ·
     show (i + 1) ≤ d.snaps.length
     omega
    ·
     show d.snaps.length - (i + 1) < d.snaps.length - i
     omega
    · exact zAJ ⟨rfl, rfl, rfl, rfl, (zAL (by omega)), trivial⟩ ⟨rfl, rfl, rfl, trivial⟩ ⟨rfl, rfl, rfl, trivial⟩ rfl
   ·
    replace h3 : e = a := of_decide_eq_true (zBG h3)
    refine zAM ?_
    refine zAA rfl (.m rfl rfl (.r rfl (zAf rfl rfl rfl (by omega)) (.a rfl rfl .nil))) ?_
    refine nxt (Q := fun _ _ => False) (z := i) (i + 1) ?_ ?_ ?_
    ·
     show (i + 1) ≤ d.snaps.length
     omega
    ·
     show d.snaps.length - (i + 1) < d.snaps.length - i
     omega
    · exact zAJ ⟨rfl, rfl, rfl, rfl, (zAL (by omega)), trivial⟩ ⟨rfl, rfl, (by rw [zHo he h3] <;> rfl), trivial⟩ ⟨rfl, rfl, (congrArg (fun x => some (1, x)) (by rw [zHo he h3])), trivial⟩ rfl
  ·
   replace h2 := of_decide_eq_false h2
   refine zAx ?_
   refine zAB ?_
   refine zAB ?_
   have hwo : (zBH (d.snaps.take i) a) = zBH d.snaps a := by rw [List.take_of_length_le (by omega)]
   have hwo2 := congrArg List.length hwo
   refine zAA rfl (.r rfl (zAC rfl rfl underlying28 rfl sizeOf26 (by decide)) (.r rfl (zAD rfl rfl rfl isAgg26 rfl) (.r rfl (zAy rfl rfl underlying26) (.r rfl (zAC rfl rfl underlying28 rfl sizeOf26 (by decide)) (.r rfl (zAD rfl rfl rfl isAgg26 rfl) (.r rfl (zAX rfl rfl underlying26) (.r rfl (zA8 rfl rfl rfl) .nil))))))) ?_
   have hr6 : pvI (zBH (d.snaps.take i) a) = pvI (zBH d.snaps a) := by rw [List.take_of_length_le (by omega)]
   have hp7 : (some [.vi d.seq, .sl 1301 0 ((pvE d.mem).length), .sl 1302 0 ((pvR (tagT d.runs)).length), .sl 1400 0 ((pvI (zBH (d.snaps.take i) a)).length)] : Option (List AV)) = some [.vi d.seq, .sl 1301 0 ((pvE d.mem).length), .sl 1302 0 ((pvR (tagT d.runs)).length), .sl 1400 0 ((pvI (zBH d.snaps a)).length)] := by simp only [hr6]
   refine zAY (s' := mk [(4, .ptr 4 0), (6, .ptr 6 0), (46, .vb (decide (((pvI (zBH (d.snaps.take i) a)).length : Int) = ((pvI d.snaps).length : Int))))] [(4, [.vi 0, .nils, .nils, .nils]), (6, [.vi d.seq, .sl 1301 0 ((pvE d.mem).length), .sl 1302 0 ((pvR (tagT d.runs)).length), .sl 1400 0 ((pvI (zBH d.snaps a)).length)])] [(1301, 4, pvE d.mem), (1302, 1, pvR (tagT d.runs)), (1400, 1, pvI (zBH d.snaps a))]) ?_ ?_
   · exact zAJ ⟨rfl, rfl, rfl, trivial⟩ ⟨rfl, hp7, trivial⟩ ⟨rfl, rfl, (congrArg (fun x => some (1, x)) hr6), trivial⟩ rfl
   refine zAZ (t := decide (((pvI (zBH (d.snaps.take i) a)).length : Int) = ((pvI d.snaps).length : Int))) rfl (fun h8 => ?_) (fun h8 => ?_)
   ·
    replace h8 := of_decide_eq_true h8
    refine zAB (zAA rfl (.r rfl (zAG rfl rfl rfl isAgg28 sizeOf28 (nle rfl)) (.r rfl (zAE rfl rfl rfl rfl rfl sizeOf28 rfl (nle rfl)) (.a rfl rfl .nil))) ?_)
    refine zAO ?_
    exact ends [_, _] [1301, 1302, 1400] (.cons (.cell rfl rfl isAgg28 sizeOf28 (nle rfl)) (.cons (.tmp (zAL (if_pos (by omega)).symm)) .nil)) (.cons (.agg (.cons .v (.cons (.row (len := (pvE d.mem).length) (xs := pvE d.mem) rfl rfl) (.cons (.row (len := (pvR (tagT d.runs)).length) (xs := pvR (tagT d.runs)) rfl rfl) (.cons (.row (len := (pvI (zBH d.snaps a)).length) (xs := pvI (zBH d.snaps a)) rfl rfl) .nil)))) (zAI (.v _) (zAI (.sl _ _ (FlatP.clean (zAd _))) (zAI (zAl _) (zAI (.sl _ _ (FlatP.clean (zA3 _))) zBE))))) (.cons (.one .v (.v _)) .nil)) (by decide) trivial
   ·
    replace h8 := of_decide_eq_false h8
    refine zAM ?_
    refine zAB (zAA rfl (.r rfl (zAG rfl rfl rfl isAgg28 sizeOf28 (nle rfl)) (.r rfl (zAE rfl rfl rfl rfl rfl sizeOf28 rfl (nle rfl)) (.a rfl rfl .nil))) ?_)
    refine zAO ?_
    exact ends [_, _] [1301, 1302, 1400] (.cons (.cell rfl rfl isAgg28 sizeOf28 (nle rfl)) (.cons (.tmp (zAL (if_neg (by omega)).symm)) .nil)) (.cons (.agg (.cons .v (.cons (.row (len := (pvE d.mem).length) (xs := pvE d.mem) rfl rfl) (.cons (.row (len := (pvR (tagT d.runs)).length) (xs := pvR (tagT d.runs)) rfl rfl) (.cons (.row (len := (pvI (zBH d.snaps a)).length) (xs := pvI (zBH d.snaps a)) rfl rfl) .nil)))) (zAI (.v _) (zAI (.sl _ _ (FlatP.clean (zAd _))) (zAI (zAl _) (zAI (.sl _ _ (FlatP.clean (zA3 _))) zBE))))) (.cons (.one .v (.v _)) .nil)) (by decide) trivial
theorem zKH (d : Eng) (hD : EB d) : Con Tryz.prog 11 [.agg [PV.v (.int .i64 d.seq), PV.sl false 4 (pvE d.mem), PV.sl false 1 (pvR (tagT d.runs)), PV.sl false 1 (pvI d.snaps)]] [] [.agg [.v (.int .i64 ((zBD d).1.seq)), .sl true 4 (pvE ((zBD d).1.mem)), .sl true 1 (pvR (tagT (zBD d).1.runs)), .sl true 1 (pvI ((zBD d).1.snaps))], .one (.v (.int .i64 ((zBD d).2)))] := by
 refine zAQ func11 rfl rfl rfl rfl ?_
 have hl1 := zAF d.mem
 have hl2 := zAi (tagT d.runs)
 have hl3 := zAT d.snaps
 have hl4 := zBU d.runs
 refine zAB (zAA rfl (.run [] [1] rfl (zBO rfl 1 rfl rfl (by decide) rfl (by decide)) (.run [] [2] rfl (zAj rfl 2 zBk rfl (by decide) rfl (by decide)) (.a rfl rfl .nil))) ?_)
 refine zAB ?_
 refine zAB (zAA rfl (.r rfl (zAG rfl rfl rfl isAgg28 sizeOf28 (nle rfl)) (.run [700] [] rfl (zAK rfl 700 (X := []) en8 rfl (.val nod) (.cons (.agg (.cons (.bor .v) (.cons (.bor (.sl nod)) (.cons (.bor (.sl nod)) (.cons (.bor (.sl nod)) .nil))))) .nil) (by decide) all_nil .nil (zDf d hD) rfl rfl (nle rfl)) (.r rfl (zA5 (b := zBV d.seq d.mem (tagT d.runs) d.snaps) rfl rfl) .nil))) ?_)
 refine zAZ (t := (!(zBV d.seq d.mem (tagT d.runs) d.snaps))) rfl (fun h1 => ?_) (fun h1 => ?_)
 ·
  replace h1 : (zBV d.seq d.mem (tagT d.runs) d.snaps) = false := zBF h1
  refine zAB ?_
  have hw : zBV d.seq d.mem (tagT d.runs) d.snaps = false := by simpa using h1
  rw [comp_w hw]
  refine zAA rfl (.r rfl (zBC (pl := [(0, 1), (1, 1), (2, 1), (3, 1)]) rfl underlying28 zBk (by kernel_rfl) rfl rfl) (.r rfl (zAE rfl rfl rfl rfl rfl sizeOf28 rfl (nle rfl)) (.a rfl rfl .nil))) ?_
  refine zAO ?_
  exact ends [_, _] [] (.cons (.cell rfl rfl isAgg28 sizeOf28 (nle rfl)) (.cons (.tmp rfl) .nil)) (.cons (.agg (.cons .v (.cons (.nil _) (.cons (.nil _) (.cons (.nil _) .nil)))) (zAI (.v _) (zAI (.sl _ _ (fun _ h => nomatch h)) (zAI (.sl _ _ (fun _ h => nomatch h)) (zAI (.sl _ _ (fun _ h => nomatch h)) zBE))))) (.cons (.one .v (.v _)) .nil)) (by decide) trivial
 ·
  replace h1 : (zBV d.seq d.mem (tagT d.runs) d.snaps) = true := zBG h1
  refine zAM ?_
  refine zAB ?_
  have hok : zBV d.seq d.mem (tagT d.runs) d.snaps = true := by simpa using h1
  have hsm := zCU hok
  have hm1 := hsm.mem
  have hm2 := hsm.runs
  have hm3 := hsm.snaps
  have hm4 := hsm.seq
  refine zAA rfl (.r rfl (zAG rfl rfl rfl isAgg28 sizeOf28 (nle rfl)) (.run [1100, 1101, 1102, 1103] [] rfl (zAK rfl 1100 (X := []) en38 rfl (.val nod) (.cons (.agg (.cons (.bor .v) (.cons (.bor (.sl nod)) (.cons (.bor (.sl nod)) (.cons (.bor (.sl nod)) .nil))))) .nil) (by decide) all_nil .nil (zEO d hsm) rfl rfl (nle rfl)) (.run [] [4] rfl (zAj rfl 4 zBk rfl (by decide) rfl (by decide)) (.r rfl (zAE rfl rfl rfl rfl rfl sizeOf28 rfl (nle rfl)) .nil)))) ?_
  refine zAB ?_
  refine zAB (zAA rfl (.r rfl (zAC rfl rfl underlying28 rfl sizeOf25 (by decide)) (.r rfl (zAD rfl rfl rfl isAgg25 rfl) (.r rfl (zAX rfl rfl underlying25) (.r rfl (zA8 rfl rfl rfl) .nil)))) ?_)
  refine zAZ (t := decide (((pvR (tagT d.runs)).length : Int) = 0)) rfl (fun h2 => ?_) (fun h2 => ?_)
  ·
   replace h2 := of_decide_eq_true h2
   refine zAB ?_
   rw [comp_e hok (by omega)]
   refine zAY (s' := mk [(2, .ptr 2 0), (4, .ptr 4 0)] [(2, [.vi 0, .nils, .nils, .nils]), (4, [.vi d.seq, .sl 1101 0 ((pvE d.mem).length), .sl 1102 0 ((pvR (tagT d.runs)).length), .sl 1103 0 ((pvI d.snaps).length)])] [(1101, 4, pvE d.mem), (1102, 1, pvR (tagT d.runs)), (1103, 1, pvI d.snaps)]) ?_ ?_
   · exact zAJ ⟨rfl, rfl, trivial⟩ ⟨rfl, rfl, trivial⟩ ⟨rfl, rfl, rfl, trivial⟩ rfl
   refine zAA rfl (.r rfl (zAG rfl rfl rfl isAgg28 sizeOf28 (nle rfl)) (.r rfl (zAE rfl rfl rfl rfl rfl sizeOf28 rfl (nle rfl)) (.a rfl rfl .nil))) ?_
   refine zAO ?_
   exact ends [_, _] [1101, 1102, 1103] (.cons (.cell rfl rfl isAgg28 sizeOf28 (nle rfl)) (.cons (.tmp rfl) .nil)) (.cons (.agg (.cons .v (.cons (.row (len := (pvE d.mem).length) (xs := pvE d.mem) rfl rfl) (.cons (.row (len := (pvR (tagT d.runs)).length) (xs := pvR (tagT d.runs)) rfl rfl) (.cons (.row (len := (pvI d.snaps).length) (xs := pvI d.snaps) rfl rfl) .nil)))) (zAI (.v _) (zAI (.sl _ _ (FlatP.clean (zAd _))) (zAI (zAl _) (zAI (.sl _ _ (FlatP.clean (zA3 _))) zBE))))) (.cons (.one .v (.v _)) .nil)) (by decide) trivial
  ·
   replace h2 := of_decide_eq_false h2
   refine zAM ?_
   refine zAB ?_
   refine zAY (s' := mk [(1, .ptr 1 0), (2, .ptr 2 0), (4, .ptr 4 0)] [(1, [.vi d.seq, .p none (.sl false 4 (pvE d.mem)), .p none (.sl false 1 (pvR (tagT d.runs))), .p none (.sl false 1 (pvI d.snaps))]), (2, [.vi 0, .nils, .nils, .nils]), (4, [.vi d.seq, .sl 1101 0 ((pvE d.mem).length), .sl 1102 0 ((pvR (tagT d.runs)).length), .sl 1103 0 ((pvI d.snaps).length)])] [(1101, 4, pvE d.mem), (1102, 1, pvR (tagT d.runs)), (1103, 1, pvI d.snaps)]) ?_ ?_
   · exact zAJ ⟨rfl, rfl, rfl, trivial⟩ ⟨rfl, rfl, rfl, trivial⟩ ⟨rfl, rfl, rfl, trivial⟩ rfl
   refine zAc zBL rfl (.r rfl (zAC rfl rfl underlying28 rfl sizeOf25 (by decide)) (.r rfl (zAD rfl rfl rfl isAgg25 rfl) (.run [1900] [] rfl (zAK rfl 1900 (X := []) en40 rfl (.val nod) (.cons (.one (.bor (.sl nod))) .nil) (by decide) all_nil .nil (zNK d hsm) rfl rfl (nle rfl)) (.r rfl (zAC rfl rfl underlying28 rfl sizeOf26 (by decide)) (.r rfl (zAD rfl rfl rfl isAgg26 rfl) (.run [1900, 2200] [] rfl (zAK rfl 2200 (X := []) en39 rfl (.val nod) (.cons (.one (.bor (.all (len := (pvE (zA1 d.runs)).length) (xs := pvE (zA1 d.runs)) rfl rfl (by decide)))) (.cons (.one (.bor (.sl nod))) (.cons (.one (.bor .v)) .nil))) (by decide) all_nil .nil (l14C (zA1 d.runs) d.snaps (by have := zK4 hsm; omega) (by omega)) rfl rfl (nle rfl)) (.a rfl rfl .nil))))))) (by kernel_rfl) ?_
   refine zAB ?_
   rw [comp_y hok (by omega)]
   have hcl := zAF (zCX (zA1 d.runs) d.snaps)
   refine zAA rfl (.run [2300] [] rfl (zAR rfl 2300 underlying25 zDP (nle rfl) (by decide) rfl rfl rfl .nil (by decide) rfl (by decide) rfl (by decide) rfl) (.r rfl (zAC rfl rfl underlying28 rfl sizeOf25 (by decide)) (.r rfl (zAE rfl rfl rfl rfl rfl sizeOf25 rfl (nle rfl)) .nil))) ?_
   refine zAB ?_
   refine zAB (zAA rfl (.m rfl rfl (.r rfl (zAy rfl rfl underlying24) (.r rfl (zBN rfl rfl rfl) .nil))) ?_)
   refine zAZ (t := decide (0 < ((pvE (zCX (zA1 d.runs) d.snaps)).length : Int))) rfl (fun h3 => ?_) (fun h3 => ?_)
   ·
    replace h3 := of_decide_eq_true h3
    refine zAY (s' := mk [(2, .ptr 2 0), (4, .ptr 4 0), (5, .sl 2200 0 ((pvE (zCX (zA1 d.runs) d.snaps)).length))] [(2, [.vi 0, .nils, .nils, .nils]), (4, [.vi d.seq, .sl 1101 0 ((pvE d.mem).length), .sl 2300 0 0, .sl 1103 0 ((pvI d.snaps).length)])] [(1101, 4, pvE d.mem), (1103, 1, pvI d.snaps), (2200, 4, pvE (zCX (zA1 d.runs) d.snaps)), (2300, 1, [])]) ?_ ?_
    · exact zAJ ⟨rfl, rfl, rfl, trivial⟩ ⟨rfl, rfl, trivial⟩ ⟨rfl, rfl, rfl, rfl, trivial⟩ rfl
    refine zAA rfl (.m rfl rfl (.r rfl (zBC (pl := [(0, 1)]) rfl underlying61 zDP (by kernel_rfl) rfl rfl) (.run [3000, 2200] [] rfl (zAR rfl 3000 underlying25 zDP (nle rfl) (by decide) rfl rfl rfl (.cons (.row rfl rfl) .nil) (by decide) rfl (by decide) rfl (by decide) rfl) (.r rfl (zAC rfl rfl underlying28 rfl sizeOf25 (by decide)) (.r rfl (zAE rfl rfl rfl rfl rfl sizeOf25 rfl (nle rfl)) .nil))))) ?_
    refine zAB ?_
    rw [if_pos (by omega)]
    refine zAA rfl (.r rfl (zAG rfl rfl rfl isAgg28 sizeOf28 (nle rfl)) (.r rfl (zAE rfl rfl rfl rfl rfl sizeOf28 rfl (nle rfl)) (.a rfl rfl .nil))) ?_
    refine zAO ?_
    exact ends [_, _] [1101, 3000, 1103] (.cons (.cell rfl rfl isAgg28 sizeOf28 (nle rfl)) (.cons (.tmp rfl) .nil)) (.cons (.agg (.cons .v (.cons (.row (len := (pvE d.mem).length) (xs := pvE d.mem) rfl rfl) (.cons (.row (len := 1) (xs := [[PV.sl true 4 (pvE (zCX (zA1 d.runs) d.snaps))]]) rfl rfl) (.cons (.row (len := (pvI d.snaps).length) (xs := pvI d.snaps) rfl rfl) .nil)))) (zAI (.v _) (zAI (.sl _ _ (FlatP.clean (zAd _))) (zAI (show Clean (PV.sl true 1 (pvR (tagT [zCX (zA1 d.runs) d.snaps]))) from zAl _) (zAI (.sl _ _ (FlatP.clean (zA3 _))) zBE))))) (.cons (.one .v (.v _)) .nil)) (by decide) trivial
   ·
    replace h3 := of_decide_eq_false h3
    refine zAM ?_
    refine zAB ?_
    rw [if_neg (by omega)]
    refine zAA rfl (.r rfl (zAG rfl rfl rfl isAgg28 sizeOf28 (nle rfl)) (.r rfl (zAE rfl rfl rfl rfl rfl sizeOf28 rfl (nle rfl)) (.a rfl rfl .nil))) ?_
    refine zAO ?_
    exact ends [_, _] [1101, 2300, 1103] (.cons (.cell rfl rfl isAgg28 sizeOf28 (nle rfl)) (.cons (.tmp rfl) .nil)) (.cons (.agg (.cons .v (.cons (.row (len := (pvE d.mem).length) (xs := pvE d.mem) rfl rfl) (.cons (.row (len := 0) (xs := []) rfl rfl) (.cons (.row (len := (pvI d.snaps).length) (xs := pvI d.snaps) rfl rfl) .nil)))) (zAI (.v _) (zAI (.sl _ _ (FlatP.clean (zAd _))) (zAI (.sl _ _ (fun _ h => nomatch h)) (zAI (.sl _ _ (FlatP.clean (zA3 _))) zBE))))) (.cons (.one .v (.v _)) .nil)) (by decide) trivial
theorem zMu (d : Eng) (hD : EB d) (ops : List Bop) (ho : ops.length ≤ 2000000) : Con Tryz.prog 55 [.agg [PV.v (.int .i64 d.seq), PV.sl false 4 (pvE d.mem), PV.sl false 1 (pvR (tagT d.runs)), PV.sl false 1 (pvI d.snaps)], .one (PV.sl false 3 (pvO ops))] [] [.agg [.v (.int .i64 ((zBh d ops).1.seq)), .sl true 4 (pvE ((zBh d ops).1.mem)), .sl true 1 (pvR (tagT (zBh d ops).1.runs)), .sl true 1 (pvI ((zBh d ops).1.snaps))], .one (.v (.int .i64 ((zBh d ops).2)))] := by
 refine zAQ func55 rfl rfl rfl rfl ?_
 have hl1 := zAF d.mem
 have hl2 := zAi (tagT d.runs)
 have hl3 := zAT d.snaps
 have hl4 := zBU d.runs
 have hlo := zBz ops
 refine zAB (zAA rfl (.run [] [2] rfl (zBO rfl 2 rfl rfl (by decide) rfl (by decide)) (.run [] [4] rfl (zAj rfl 4 zBk rfl (by decide) rfl (by decide)) (.a rfl rfl .nil))) ?_)
 refine zAB ?_
 refine zAB (zAA rfl (.r rfl (zAG rfl rfl rfl isAgg28 sizeOf28 (nle rfl)) (.run [1000] [] rfl (zAK rfl 1000 (X := []) en8 rfl (.val nod) (.cons (.agg (.cons (.bor .v) (.cons (.bor (.sl nod)) (.cons (.bor (.sl nod)) (.cons (.bor (.sl nod)) .nil))))) .nil) (by decide) all_nil .nil (zDf d hD) rfl rfl (nle rfl)) (.r rfl (zA5 (b := zBV d.seq d.mem (tagT d.runs) d.snaps) rfl rfl) .nil))) ?_)
 refine zAZ (t := (!(zBV d.seq d.mem (tagT d.runs) d.snaps))) rfl (fun h1 => ?_) (fun h1 => ?_)
 ·
  replace h1 : (zBV d.seq d.mem (tagT d.runs) d.snaps) = false := zBF h1
  refine zAB ?_
  have hw : zBV d.seq d.mem (tagT d.runs) d.snaps = false := by simpa using h1
  rw [write_w hw]
  refine zAA rfl (.r rfl (zBC (pl := [(0, 1), (1, 1), (2, 1), (3, 1)]) rfl underlying28 zBk (by kernel_rfl) rfl rfl) (.r rfl (zAE rfl rfl rfl rfl rfl sizeOf28 rfl (nle rfl)) (.a rfl rfl .nil))) ?_
  refine zAO ?_
  exact ends [_, _] [] (.cons (.cell rfl rfl isAgg28 sizeOf28 (nle rfl)) (.cons (.tmp rfl) .nil)) (.cons (.agg (.cons .v (.cons (.nil _) (.cons (.nil _) (.cons (.nil _) .nil)))) (zAI (.v _) (zAI (.sl _ _ (fun _ h => nomatch h)) (zAI (.sl _ _ (fun _ h => nomatch h)) (zAI (.sl _ _ (fun _ h => nomatch h)) zBE))))) (.cons (.one .v (.v _)) .nil)) (by decide) trivial
 ·
  replace h1 : (zBV d.seq d.mem (tagT d.runs) d.snaps) = true := zBG h1
  refine zAM ?_
  refine zAB ?_
  have hok : zBV d.seq d.mem (tagT d.runs) d.snaps = true := by simpa using h1
  have hsm := zCU hok
  have hm1 := hsm.mem
  have hm2 := hsm.runs
  have hm3 := hsm.snaps
  have hm4 := hsm.seq
  refine zAA rfl (.r rfl (zAG rfl rfl rfl isAgg28 sizeOf28 (nle rfl)) (.run [1400, 1401, 1402, 1403] [] rfl (zAK rfl 1400 (X := []) en38 rfl (.val nod) (.cons (.agg (.cons (.bor .v) (.cons (.bor (.sl nod)) (.cons (.bor (.sl nod)) (.cons (.bor (.sl nod)) .nil))))) .nil) (by decide) all_nil .nil (zEO d hsm) rfl rfl (nle rfl)) (.run [] [6] rfl (zAj rfl 6 zBk rfl (by decide) rfl (by decide)) (.r rfl (zAE rfl rfl rfl rfl rfl sizeOf28 rfl (nle rfl)) .nil)))) ?_
  refine zAB ?_
  refine zAY (s' := mk [(1, .p none (.sl false 3 (pvO ops))), (2, .ptr 2 0), (4, .ptr 4 0), (6, .ptr 6 0)] [(2, [.vi d.seq, .p none (.sl false 4 (pvE d.mem)), .p none (.sl false 1 (pvR (tagT d.runs))), .p none (.sl false 1 (pvI d.snaps))]), (4, [.vi 0, .nils, .nils, .nils]), (6, [.vi d.seq, .sl 1401 0 ((pvE d.mem).length), .sl 1402 0 ((pvR (tagT d.runs)).length), .sl 1403 0 ((pvI d.snaps).length)])] [(1401, 4, pvE d.mem), (1402, 1, pvR (tagT d.runs)), (1403, 1, pvI d.snaps)]) ?_ ?_
  · exact zAJ ⟨rfl, rfl, rfl, rfl, trivial⟩ ⟨rfl, rfl, rfl, trivial⟩ ⟨rfl, rfl, rfl, trivial⟩ rfl
  refine zAA rfl (.r rfl (zAC rfl rfl underlying28 rfl sizeOf2 (by decide)) (.r rfl (zAD rfl rfl rfl isAgg2 rfl) (.r rfl (zAf rfl rfl rfl (by omega)) (.m rfl rfl (.r rfl (zBC (pl := [(0, 1), (1, 1)]) rfl underlying76 zQG (by kernel_rfl) rfl rfl) (.run [] [7] rfl (zAj rfl 7 zQG rfl (by decide) rfl (by decide)) (.r rfl (zAE rfl rfl rfl rfl rfl sizeOf76 rfl (nle rfl)) .nil))))))) ?_
  refine zAB ?_
  refine zAB (zAA rfl (.r rfl (zAG rfl rfl rfl isAgg76 sizeOf76 (nle rfl)) (.run [2100] [] rfl (zAK rfl 2100 (X := []) en86 rfl (.val nod) (.cons (.agg (.cons (.bor .v) (.cons (.bor (.sl nod)) .nil))) .nil) (by decide) all_nil .nil (zGp (d.seq + 1) ops ho) rfl rfl (nle rfl)) (.r rfl (zA5 (b := zA7 (d.seq + 1) ops) rfl rfl) .nil))) ?_)
  refine zAZ (t := (!(zA7 (d.seq + 1) ops))) rfl (fun h2 => ?_) (fun h2 => ?_)
  ·
   replace h2 : (zA7 (d.seq + 1) ops) = false := zBF h2
   refine zAB ?_
   rw [write_b hok (by simpa using h2)]
   refine zAA rfl (.r rfl (zAG rfl rfl rfl isAgg28 sizeOf28 (nle rfl)) (.r rfl (zAE rfl rfl rfl rfl rfl sizeOf28 rfl (nle rfl)) (.a rfl rfl .nil))) ?_
   refine zAO ?_
   exact ends [_, _] [1401, 1402, 1403] (.cons (.cell rfl rfl isAgg28 sizeOf28 (nle rfl)) (.cons (.tmp rfl) .nil)) (.cons (.agg (.cons .v (.cons (.row (len := (pvE d.mem).length) (xs := pvE d.mem) rfl rfl) (.cons (.row (len := (pvR (tagT d.runs)).length) (xs := pvR (tagT d.runs)) rfl rfl) (.cons (.row (len := (pvI d.snaps).length) (xs := pvI d.snaps) rfl rfl) .nil)))) (zAI (.v _) (zAI (.sl _ _ (FlatP.clean (zAd _))) (zAI (zAl _) (zAI (.sl _ _ (FlatP.clean (zA3 _))) zBE))))) (.cons (.one .v (.v _)) .nil)) (by decide) trivial
  ·
   replace h2 : (zA7 (d.seq + 1) ops) = true := zBG h2
   refine zAM ?_
   refine zAB ?_
   refine zAB ?_
   have hbo : zA7 (d.seq + 1) ops = true := by simpa using h2
   have hs := zKT hbo
   have hn20 := zKU hbo
   have hml := zAF (zA1 (d.mem :: d.runs))
   have hm2' := zJx hsm
   refine zAY (s' := mk [(1, .p none (.sl false 3 (pvO ops))), (2, .ptr 2 0), (4, .ptr 4 0), (6, .ptr 6 0), (7, .ptr 7 0)] [(2, [.vi d.seq, .p none (.sl false 4 (pvE d.mem)), .p none (.sl false 1 (pvR (tagT d.runs))), .p none (.sl false 1 (pvI d.snaps))]), (4, [.vi 0, .nils, .nils, .nils]), (6, [.vi d.seq, .sl 1401 0 ((pvE d.mem).length), .sl 1402 0 ((pvR (tagT d.runs)).length), .sl 1403 0 ((pvI d.snaps).length)]), (7, [.vi (d.seq + 1), .p none (.sl false 3 (pvO ops))])] [(1401, 4, pvE d.mem), (1402, 1, pvR (tagT d.runs)), (1403, 1, pvI d.snaps)]) ?_ ?_
   · exact zAJ ⟨rfl, rfl, rfl, rfl, rfl, trivial⟩ ⟨rfl, rfl, rfl, rfl, trivial⟩ ⟨rfl, rfl, rfl, trivial⟩ rfl
   refine zAA rfl (.r rfl (zAG rfl rfl rfl isAgg28 sizeOf28 (nle rfl)) (.run [2500] [] rfl (zAK rfl 2500 (X := []) en33 rfl (.val nod) (.cons (.agg (.cons (.bor .v) (.cons (.bor (.sl nod)) (.cons (.bor (.sl nod)) (.cons (.bor (.sl nod)) .nil))))) .nil) (by decide) all_nil .nil (zQC d hsm) rfl rfl (nle rfl)) (.r rfl (zAy rfl rfl underlying24) (.m rfl rfl (.r rfl (zAX rfl rfl underlying37) (.r rfl (zAf rfl rfl rfl (by omega)) (.r rfl (zBN rfl rfl rfl) .nil))))))) ?_
   refine zAZ (t := decide (400 < (((pvE (zA1 (d.mem :: d.runs))).length : Int) + ((pvO ops).length : Int)))) rfl (fun h3 => ?_) (fun h3 => ?_)
   ·
    replace h3 := of_decide_eq_true h3
    refine zAB ?_
    rw [write_f hok hbo (by omega)]
    refine zAA rfl (.r rfl (zAG rfl rfl rfl isAgg28 sizeOf28 (nle rfl)) (.r rfl (zAE rfl rfl rfl rfl rfl sizeOf28 rfl (nle rfl)) (.a rfl rfl .nil))) ?_
    refine zAO ?_
    exact ends [_, _] [1401, 1402, 1403] (.cons (.cell rfl rfl isAgg28 sizeOf28 (nle rfl)) (.cons (.tmp rfl) .nil)) (.cons (.agg (.cons .v (.cons (.row (len := (pvE d.mem).length) (xs := pvE d.mem) rfl rfl) (.cons (.row (len := (pvR (tagT d.runs)).length) (xs := pvR (tagT d.runs)) rfl rfl) (.cons (.row (len := (pvI d.snaps).length) (xs := pvI d.snaps) rfl rfl) .nil)))) (zAI (.v _) (zAI (.sl _ _ (FlatP.clean (zAd _))) (zAI (zAl _) (zAI (.sl _ _ (FlatP.clean (zA3 _))) zBE))))) (.cons (.one .v (.v _)) .nil)) (by decide) trivial
   ·
    replace h3 := of_decide_eq_false h3
    refine zAM ?_
    refine zAB ?_
    refine zAB ?_
    rw [write_y hok hbo (by omega)]
    have hbl := zB2 (d.seq + 1) ops
    refine zAA rfl (.a rfl rfl .nil) ?_
    refine zAS ?_
    refine zAY (zBi 1401 1 rfl rfl (by decide)) ?_
    refine zAp (σ := Nat) (fun i => mk [(1, .p none (.sl false 3 (pvO ops))), (2, .ptr 2 0), (4, .ptr 4 0), (6, .ptr 6 0), (7, .ptr 7 0), (8, .vi (i:Int))] [(2, [.vi d.seq, .p none (.sl false 4 (pvE d.mem)), .p none (.sl false 1 (pvR (tagT d.runs))), .p none (.sl false 1 (pvI d.snaps))]), (4, [.vi 0, .nils, .nils, .nils]), (6, [.vi d.seq, .sl 1 0 ((pvE (zBp d.mem ((zAq (d.seq + 1) ops).take i))).length), .sl 1402 0 ((pvR (tagT d.runs)).length), .sl 1403 0 ((pvI d.snaps).length)]), (7, [.vi (d.seq + 1), .p none (.sl false 3 (pvO ops))])] [(1, 4, pvE (zBp d.mem ((zAq (d.seq + 1) ops).take i))), (1402, 1, pvR (tagT d.runs)), (1403, 1, pvI d.snaps)]) (fun i => i ≤ ops.length) (fun i => ops.length - i) 0 (by simp) (zAJ ⟨rfl, rfl, rfl, rfl, rfl, (zAL (by omega)), trivial⟩ ⟨rfl, rfl, rfl, rfl, trivial⟩ ⟨(congrArg (fun x => some (4, x)) (by rfl)), rfl, rfl, trivial⟩ rfl) ?_
    rintro i hG
    replace hG : i ≤ ops.length := hG
    have hpl := zDW ((zAq (d.seq + 1) ops).take i) d.mem
    have htl := List.length_take_le i (zAq (d.seq + 1) ops)
    have hpv := zAF (zBp d.mem ((zAq (d.seq + 1) ops).take i))
    refine zAB ?_
    refine zAB (zAA rfl (.m rfl rfl (.m rfl rfl (.r rfl (zAX rfl rfl underlying37) (.r rfl (zA4 rfl rfl rfl) .nil)))) ?_)
    refine zAZ (t := decide ((i:Int) < ((pvO ops).length : Int))) rfl (fun h4 => ?_) (fun h4 => ?_)
    ·
     replace h4 := of_decide_eq_true h4
     refine zAM ?_
     refine zAB ?_
     refine zAS ?_
     obtain ⟨e, he⟩ : ∃ e, ops[i]? = some e := ⟨_, List.getElem?_eq_getElem (by omega)⟩
     refine zAc zBL rfl (.r rfl (zAC rfl rfl underlying28 rfl sizeOf24 (by decide)) (.r rfl (zAD rfl rfl rfl isAgg24 rfl) (.r rfl (zAG rfl rfl rfl isAgg76 sizeOf76 (nle rfl)) (.m rfl rfl (.run [4200, 4201, 4202, 4203] [] rfl (zAK rfl 4200 (X := []) en87 rfl (.val nod) (.cons (.agg (.cons (.bor .v) (.cons (.bor (.sl nod)) .nil))) (.cons (.one (.bor .v)) .nil)) (by decide) all_nil .nil (zHH (d.seq + 1) ops i e he (by omega) hs) rfl rfl (nle rfl)) (.run [1, 4300] [] rfl (zAK rfl 4300 (X := []) en76 rfl (.val nod) (.cons (.one (.bor (.all (len := (pvE (zBp d.mem ((zAq (d.seq + 1) ops).take i))).length) (xs := pvE (zBp d.mem ((zAq (d.seq + 1) ops).take i))) rfl rfl (by decide)))) (.cons (.agg (.cons (.bor .v) (.cons (.bor .v) (.cons (.bor .v) (.cons (.bor .v) .nil))))) .nil)) (by decide) all_nil .nil (zJ1 (zBp d.mem ((zAq (d.seq + 1) ops).take i)) (bent (d.seq + 1) i e) (by omega)) rfl rfl (nle rfl)) (.r rfl (zAC rfl rfl underlying28 rfl sizeOf24 (by decide)) (.r rfl (zAE rfl rfl rfl rfl rfl sizeOf24 rfl (nle rfl)) .nil)))))))) (by kernel_rfl) ?_
     refine zAA rfl (.m rfl rfl (.r rfl (zAf rfl rfl rfl (by omega)) (.a rfl rfl .nil))) ?_
     refine nxt (Q := fun _ _ => False) (z := i) (i + 1) ?_ ?_ ?_
     ·
      show (i + 1) ≤ ops.length
      omega
     ·
      show ops.length - (i + 1) < ops.length - i
      omega
     · exact (show Wk _ _ (mk [(1, .p none (.sl false 3 (pvO ops))), (2, .ptr 2 0), (4, .ptr 4 0), (6, .ptr 6 0), (7, .ptr 7 0), (8, .vi ((i:Int) + 1))] [(2, [.vi d.seq, .p none (.sl false 4 (pvE d.mem)), .p none (.sl false 1 (pvR (tagT d.runs))), .p none (.sl false 1 (pvI d.snaps))]), (4, [.vi 0, .nils, .nils, .nils]), (6, [.vi d.seq, .sl 4300 0 ((pvE (putF (zBp d.mem ((zAq (d.seq + 1) ops).take i)) (bent (d.seq + 1) i e))).length), .sl 1402 0 ((pvR (tagT d.runs)).length), .sl 1403 0 ((pvI d.snaps).length)]), (7, [.vi (d.seq + 1), .p none (.sl false 3 (pvO ops))])] [(1402, 1, pvR (tagT d.runs)), (1403, 1, pvI d.snaps), (4300, 4, pvE (putF (zBp d.mem ((zAq (d.seq + 1) ops).take i)) (bent (d.seq + 1) i e)))]) from zAJ ⟨rfl, rfl, rfl, rfl, rfl, rfl, trivial⟩ ⟨rfl, rfl, rfl, rfl, trivial⟩ ⟨rfl, rfl, rfl, trivial⟩ rfl).trans ((zBi 4300 1 rfl rfl (by decide)).trans (zAJ ⟨rfl, rfl, rfl, rfl, rfl, (zAL (by omega)), trivial⟩ ⟨rfl, rfl, (by rw [zEd (zDv he)] <;> rfl), rfl, trivial⟩ ⟨(congrArg (fun x => some (4, x)) (by rw [zEd (zDv he)])), rfl, rfl, trivial⟩ rfl))
    ·
     replace h4 := of_decide_eq_false h4
     refine zAx ?_
     refine zAB (zAA rfl (.r rfl (zAC rfl rfl underlying28 rfl sizeOf2 (by decide)) (.r rfl (zAD rfl rfl rfl isAgg2 rfl) (.m rfl rfl (.r rfl (zAX rfl rfl underlying37) (.r rfl (zAW (zAf rfl rfl rfl (by omega)) ((show (AV.p none (.v (.int .i64 (d.seq + ((pvO ops).length : Int))))) = AV.p none (.v (.int .i64 (d.seq + (ops.length : Int)))) from zAL (by omega)))) (.r rfl (zAC rfl rfl underlying28 rfl sizeOf2 (by decide)) (.r rfl (zAE rfl rfl rfl rfl rfl sizeOf2 rfl (nle rfl)) .nil))))))) ?_)
     have hr5 : pvE (zBp d.mem ((zAq (d.seq + 1) ops).take i)) = pvE (zBp d.mem (zAq (d.seq + 1) ops)) := by rw [List.take_of_length_le (by omega)]
     have hp6 : (some [.vi (d.seq + (ops.length : Int)), .sl 1 0 ((pvE (zBp d.mem ((zAq (d.seq + 1) ops).take i))).length), .sl 1402 0 ((pvR (tagT d.runs)).length), .sl 1403 0 ((pvI d.snaps).length)] : Option (List AV)) = some [.vi (d.seq + (ops.length : Int)), .sl 1 0 ((pvE (zBp d.mem (zAq (d.seq + 1) ops))).length), .sl 1402 0 ((pvR (tagT d.runs)).length), .sl 1403 0 ((pvI d.snaps).length)] := by simp only [hr5]
     refine zAY (s' := mk [(4, .ptr 4 0), (6, .ptr 6 0)] [(4, [.vi 0, .nils, .nils, .nils]), (6, [.vi (d.seq + (ops.length : Int)), .sl 1 0 ((pvE (zBp d.mem (zAq (d.seq + 1) ops))).length), .sl 1402 0 ((pvR (tagT d.runs)).length), .sl 1403 0 ((pvI d.snaps).length)])] [(1, 4, pvE (zBp d.mem (zAq (d.seq + 1) ops))), (1402, 1, pvR (tagT d.runs)), (1403, 1, pvI d.snaps)]) ?_ ?_
     · exact zAJ ⟨rfl, rfl, trivial⟩ ⟨rfl, hp6, trivial⟩ ⟨(congrArg (fun x => some (4, x)) hr5), rfl, rfl, trivial⟩ rfl
     refine zAB (zAA rfl (.r rfl (zAG rfl rfl rfl isAgg28 sizeOf28 (nle rfl)) (.r rfl (zAE rfl rfl rfl rfl rfl sizeOf28 rfl (nle rfl)) (.a rfl rfl .nil))) ?_)
     refine zAO ?_
     exact ends [_, _] [1, 1402, 1403] (.cons (.cell rfl rfl isAgg28 sizeOf28 (nle rfl)) (.cons (.tmp rfl) .nil)) (.cons (.agg (.cons .v (.cons (.row (len := (pvE (zBp d.mem (zAq (d.seq + 1) ops))).length) (xs := pvE (zBp d.mem (zAq (d.seq + 1) ops))) rfl rfl) (.cons (.row (len := (pvR (tagT d.runs)).length) (xs := pvR (tagT d.runs)) rfl rfl) (.cons (.row (len := (pvI d.snaps).length) (xs := pvI d.snaps) rfl rfl) .nil)))) (zAI (.v _) (zAI (.sl _ _ (FlatP.clean (zAd _))) (zAI (zAl _) (zAI (.sl _ _ (FlatP.clean (zA3 _))) zBE))))) (.cons (.one .v (.v _)) .nil)) (by decide) trivial
end Go.Rl
namespace Go.Rl
def op0 (bs : List Nat) (p : Nat) : Bop := ⟨(((zAk bs p 3 : Nat) : Int)).tmod 2, zKc bs (zAH bs p 3), zJS bs (zBy bs (zAH bs p 3))⟩
def op0P (bs : List Nat) (p : Nat) : Nat := zAH bs (zBy bs (zAH bs p 3)) 5
def op1v (bs : List Nat) (p : Nat) : ByteArray := if (op0 bs p).kind = 0 then ⟨#[]⟩ else (op0 bs p).value
def opQ (bs : List Nat) (p : Nat) : Nat := zAH bs (op0P bs p) 30
def opV (bs : List Nat) (p : Nat) : Bop := if zCl bs (op0P bs p) 30 = true then ⟨offV bs (opQ bs p) 0 1, zIS bs (offP bs (opQ bs p) 0 1) 44, zIS bs (zEy bs (offP bs (opQ bs p) 0 1) 44) 9⟩ else ⟨(op0 bs p).kind, (op0 bs p).user, op1v bs p⟩
def opP (bs : List Nat) (p : Nat) : Nat := if zCl bs (op0P bs p) 30 = true then zEy bs (zEy bs (offP bs (opQ bs p) 0 1) 44) 9 else opQ bs p
theorem op0P_le {bs : List Nat} {p : Nat} (h : p ≤ bs.length) : op0P bs p ≤ bs.length := zAV (zAV (zAV h))
theorem zQo {bs : List Nat} {p : Nat} (h : p ≤ bs.length) : opQ bs p ≤ bs.length := zAV (op0P_le h)
theorem zQp {bs : List Nat} {p : Nat} (h : p ≤ bs.length) : opP bs p ≤ bs.length := by
 unfold opP
 split
 · exact zFo (zFo (zFB (zQo h)))
 · exact zQo h
def zDd (bs : List Nat) : Nat → List Bop × Nat → List Bop × Nat
 | 0, x => x
 | i + 1, x => zDd bs i (x.1 ++ [opV bs x.2], opP bs x.2)
def opsR (bs : List Nat) (p : Nat) : List Bop × Nat := zDd bs (1 + zAk bs p 4) ([], zAH bs p 4)
def opsV (bs : List Nat) (p : Nat) : List Bop := if zCl bs (opsR bs p).2 30 = true then [] else (opsR bs p).1
def opsP (bs : List Nat) (p : Nat) : Nat := zAH bs (opsR bs p).2 30
theorem zNA {bs : List Nat} {i : Nat} {l : List Bop} {q : Nat} {z : List Bop × Nat} (hi : 0 < i) (h : zDd bs i (l, q) = z) : zDd bs (i - 1) (l ++ [opV bs q], opP bs q) = z := by
 obtain ⟨j, rfl⟩ : ∃ j, i = j + 1 := ⟨i - 1, by omega⟩
 exact h
theorem zG1 (bs : List Nat) : ∀ (i : Nat) (x : List Bop × Nat), (zDd bs i x).1.length = x.1.length + i
 | 0, x => rfl
 | i + 1, x => by
  rw [zDd, zG1 bs i]
  simp only [List.length_append, List.length_cons, List.length_nil]
  omega
theorem zH2 {bs : List Nat} : ∀ (i : Nat) (x : List Bop × Nat), x.2 ≤ bs.length → (zDd bs i x).2 ≤ bs.length
 | 0, _, h => h
 | i + 1, _, h => zH2 i _ (zQp h)
theorem zK1 {bs : List Nat} {p : Nat} (h : p ≤ bs.length) : opsP bs p ≤ bs.length := zAV (zH2 _ ([], zAH bs p 4) (show zAH bs p 4 ≤ bs.length from zAV h))
theorem zEe (bs : List Nat) (p : Nat) : (opsV bs p).length ≤ 4 := by
 unfold opsV
 split
 · exact Nat.zero_le _
 ·
  rw [opsR, zG1]
  have := zCC (bs := bs) (p := p) (n := 4) (by decide)
  simp only [List.length_nil]
  omega
end Go.Rl

/- Promises of functions, proved by walks over their operations; no conditions beyond those that each theorem states. -/
import Derived.Test.YtgdfpjpfomcilaaGreatRnJ
import Derived.Test.YtgdfpjpfomcilaaGreatRhJ
import Derived.Test.YtgdfpjpfomcilaaGreatReN
set_option linter.unusedSimpArgs false
set_option linter.unusedVariables false
namespace Go.Rl
open Go.Proofs Go.Proofs.Tryz
set_option maxRecDepth 1000000
set_option maxHeartbeats 2000000
theorem en35 : En Tryz.prog 35 := zAm func35 (by decide) rfl
theorem en51 : En Tryz.prog 51 := zAm func51 (by decide) rfl
theorem en36 : En Tryz.prog 36 := zAm func36 (by decide) rfl
theorem zP9 (d : Eng) (h : okB d.seq d.mem (tagT d.runs) d.snaps = true) : Con Tryz.prog 37 [.one (PV.sl false 4 (pvE (ents (tagT d.runs))))] [] [.one (.sl true 4 (pvE (rowI d)))] := zH9 (ents (tagT d.runs)) (by have := zIe h; have := zFM d; omega) (zJi h)
theorem zLN (d : Eng) (h : okB d.seq d.mem (tagT d.runs) d.snaps = true) : Con Tryz.prog 36 [.one (PV.sl false 4 (pvE (rowI d))), .one (PV.sl false 1 (pvI d.snaps)), .one (.v (.bool true))] [] [.one (.sl true 4 (pvE (zCX (rowI d) d.snaps)))] := zOv (zJL (rowI d) d.snaps true _ rfl (by have := zHy h; omega) (by have := (zBr h).snaps; omega) (zGv h)) (.sl _ _ (FlatP.clean (zAd _)))
theorem zON {l : List Ent} (h : 0 < l.length) : zDI l = [l] := if_pos h
theorem zOO {l : List Ent} (h : ¬ 0 < l.length) : zDI l = [] := if_neg h
theorem idx_nat {s : List Int} {a : Int} (h : ¬ idxF (fun x => decide (a = x)) s < 0) : ∃ k : Nat, idxF (fun x => decide (a = x)) s = (k : Int) ∧ k < s.length ∧ (idxI s a).toNat = k := by
 obtain ⟨k, hk1, hk2, _⟩ := zFc (p := fun x => decide (a = x)) (l := s) (by omega)
 exact ⟨k, hk1, hk2, by unfold idxI; rw [hk1]; rfl⟩
theorem zLL (l : List Int) (k : Nat) (hk : k < l.length) (hl : l.length ≤ 1000000000) : Con Tryz.prog 51 [.one (.sl true 1 (pvI l)), .one (PV.v (.int .i64 (k:Int))), .one (PV.v (.int .i64 ((k:Int) + 1)))] [none] [.one (.sl true 1 (pvI (l.eraseIdx k)))] := by
 refine zAQ func51 rfl rfl rfl rfl ?_
 have hle := zAT l
 refine zAB (zAA rfl (.a rfl rfl .nil) ?_)
 refine zAB (zAA rfl (.m rfl rfl (.m rfl rfl (.m rfl rfl (.m rfl rfl (.r rfl (zAy rfl rfl underlying26) (.r rfl (st_cut3 (l := k) (h := k + 1) (m := (pvI l).length) rfl rfl rfl rfl rfl rfl rfl rfl underlying26 sizeOf2 (by omega) (by omega) (Nat.le_refl _)) .nil)))))) ?_)
 refine zAB ?_
 refine zAB (zAA rfl (.m rfl rfl (.m rfl rfl (.r rfl (zA8 rfl rfl rfl) .nil))) ?_)
 refine zAZ (t := decide ((k:Int) = ((k:Int) + 1))) rfl (fun h1 => ?_) (fun h1 => ?_)
 ·
  replace h1 := of_decide_eq_true h1
  omega
 ·
  replace h1 := of_decide_eq_false h1
  refine zAM ?_
  refine zAB (zAA rfl (.m rfl rfl (.r rfl (zAy rfl rfl underlying26) (.a rfl rfl .nil))) ?_)
  refine zAB ?_
  refine zAY (s' := mk [(0, .sl 100000 0 ((pvI l).length)), (1, .vi (k:Int)), (2, .vi ((k:Int) + 1)), (7, .vi ((pvI l).length : Int))] [] [(100000, 1, pvI l)]) ?_ ?_
  · exact zAJ ⟨rfl, rfl, rfl, rfl, trivial⟩ trivial ⟨rfl, trivial⟩ rfl
  refine zAc zBL rfl (.m rfl rfl (.m rfl rfl (.r rfl (zCF (l := 0) (h := k) rfl rfl rfl underlying26 sizeOf2 .no (.at_ rfl rfl) (Nat.zero_le _) (by omega) rfl) (.m rfl rfl (.m rfl rfl (.r rfl (zCF (l := k + 1) (h := (pvI l).length) rfl rfl rfl underlying26 sizeOf2 (.at_ rfl rfl) .no (by omega) (Nat.le_refl _) rfl) (.r rfl (zJc (q := k) (m := k + 1) (len := (k + ((pvI l).length - (k + 1)))) (xs := pvI l) rfl rfl rfl rfl (zA3 l) underlying26 underlying26 inf2 (by omega) (by omega) (.inr (by omega)) rfl) (.a rfl rfl .nil)))))))) (by kernel_rfl) ?_
  refine zAB (zAA rfl (.m rfl rfl (.m rfl rfl (.r rfl (zAy rfl rfl underlying26) (.m rfl rfl (.r rfl (zMw (l := (k + ((pvI l).length - (k + 1)))) (h := (pvI l).length) rfl rfl rfl rfl rfl rfl rfl underlying26 sizeOf2 (by omega) (by rw [zMZ (by omega)]; omega) rfl) (.r rfl (zIi (lo := (k + ((pvI l).length - (k + 1)))) (len := (pvI l).length - (k + ((pvI l).length - (k + 1)))) rfl rfl rfl (zJ6 (zA3 l)) underlying26 inf2 rfl rfl (by rw [zMZ (by omega)]; omega)) .nil)))))) ?_)
  refine zAB (zAA rfl (.m rfl rfl (.a rfl rfl .nil)) ?_)
  refine zAO ?_
  exact ends [_] [100000] (.cons (.tmp rfl) .nil) (.cons (.one (gv_eq (.pre (len := (k + ((pvI l).length - (k + 1)))) (xs := ((pvI l).take k ++ (pvI l).drop (k + 1) ++ (pvI l).drop (k + ((pvI l).length - (k + 1)))).take (k + ((pvI l).length - (k + 1))) ++ List.replicate ((pvI l).length - (k + ((pvI l).length - (k + 1)))) [PV.v (.int .i64 0)]) rfl (gdel_le (by omega)) (zNO (zA3 l) (by simp [PV.isV]))) (congrArg (PV.sl true 1) ((gdel_eq (by omega)).trans (zOU _ _ _)))) (.sl _ _ (FlatP.clean (zA3 _)))) .nil) (by decide) ⟨trivial, trivial⟩

set_option maxHeartbeats 4000000 in
theorem zNL (k c n i vb vc : Nat) (cur vcur : Array Value) (ty vty : TypeId) (vs : List Value) (w : World) (hi : i < n) (hroom : n + 1 ≤ c) (hc63 : c ≤ 9223372036854775807) (hvb : vb ≠ k)
  (hk : w.heap[k]? = some (.cells cur ty (0, 0))) (hcz : cur.size = c) (hv : w.heap[vb]? = some (.cells vcur vty (0, 0))) (hvz : vcur.size ≠ 0) (hvl : vs.length = 1) (hvs : ∀ (j : Nat) (v : Value), vs[j]? = some v → vcur[j]? = some v)
  (h1c : ∀ (j : Nat) (v : Value), j < n → cur[j]? = some v → v.oneCell' = true) (h1v : ∀ v ∈ vs, v.oneCell' = true) :
  Calls Tryz.prog 35 #[.slice (some ⟨k, 0, none⟩) n c, .int .i64 i, .slice (some ⟨vb, 0, none⟩) 1 vc] w fun e w' =>
   e = .returned (.slice (some ⟨k, 0, none⟩) (n + 1) c) ∧ w' = w.drew.setRow k (over (over cur.toList ((i + 1)) ((cur.toList.take (n)).drop (i))) (i) vs).toArray := by
 have hz1 : ¬ ((1 : Int) = 0) := by omega
 have hz2 : ¬ ((i : Int) = (n : Int)) := by omega
 have hsz : (Tryz.prog.info? 61).map (·.size) = some 1 := by kernel_rfl
 have hov : ∀ lb cb, (callFunc 67 #[.slice (some ⟨vb, 0, none⟩) 1 vc, .slice (some ⟨k, (i + 1), none⟩) lb cb]).run Tryz.prog w = .ok (.value (.bool false)) w := fun lb cb => by
  rw [run_callFunc_extern func67 (by kernel_rfl) (by kernel_rfl) (by kernel_rfl) (e := Extern.SlicesOverlaps.overlaps #[25, 25] #[4]) (by kernel_rfl),
   Lib.run_overlaps_apart w 25 4 61 underlying25 1 sizeOf61 ⟨vb, 0, none⟩ ⟨k, (i + 1), none⟩ 1 vc lb cb hvb vty ty vcur.size cur.size (by simp [World.shape?, hv]) (by simp [World.shape?, hk]) (by omega) (by simp [World.frozen?, hv]) (by simp [World.frozen?, hv])]
  rfl
 have zBL := zBL
 have hcl : cur.toList.length = c := by simpa using hcz
 obtain ⟨cs, hcs⟩ : ∃ cs, cs = (cur.toList.take (n)).drop (i) := ⟨_, rfl⟩
 have hcsl : cs.length = (n - i) := by rw [hcs, List.length_drop, List.length_take, hcl]; omega
 have hcsg : ∀ (j : Nat) (v : Value), cs[j]? = some v → cur[i + j]? = some v := fun j v h => by
  rw [hcs, List.getElem?_drop, List.getElem?_take] at h
  split at h
  · simpa using h
  · cases h
 have hcs1 : ∀ v ∈ cs, v.oneCell' = true := fun v h => by
  obtain ⟨j, hj⟩ := List.getElem?_of_mem h
  have hlt := (List.getElem?_eq_some_iff.1 hj).1
  exact h1c _ v (by omega) (hcsg j v hj)
 have hfit1 : (i + 1) + cs.length ≤ cur.toList.length := by omega
 have hlen1 : (over cur.toList ((i + 1)) cs).length = c := by rw [zCY hfit1, hcl]
 rw [← hcs]
 have hcp1 : ∀ ty' dc sc, (Builtin.copy_ #[25, 25] ty' #[.slice (some ⟨k, (i + 1), none⟩) (n - i) dc, .slice (some ⟨k, i, none⟩) (n + 1 - i) sc]).run Tryz.prog w.drew = .ok (goInt (Nat.min (n + 1 - i) (n - i))) (w.drew.setRow k (over cur.toList ((i + 1)) cs).toArray) := fun ty' dc sc =>
  zEb w.drew _ _ ty' 61 k ((i + 1)) (n - i) dc ⟨k, i, none⟩ (n + 1 - i) sc 1 cur ty cs underlying25 hsz hk (by rw [hcsl]; simp only [Nat.min_def]; split <;> omega)
   (fun j v hj => by rw [Addr.add_lit, zFn (w := w.drew) hk]; exact hcsg j v hj) (by simpa using hfit1) hcs1
 obtain ⟨C1, hC1⟩ : ∃ C1, C1 = (over cur.toList ((i + 1)) cs).toArray := ⟨_, rfl⟩
 have hC1l : C1.size = c := by rw [hC1]; simpa using hlen1
 obtain ⟨W1, hW1⟩ : ∃ W1, W1 = w.drew.setRow k C1 := ⟨_, rfl⟩
 have hk1 : W1.heap[k]? = some (.cells C1 ty (0, 0)) := by rw [hW1]; exact setRow_heap w.drew k cur C1 ty (0, 0) hk
 have hv1 : W1.heap[vb]? = some (.cells vcur vty (0, 0)) := by rw [hW1, setRow_other _ _ _ _ hvb]; exact hv
 have hcp2 : ∀ ty' dc, (Builtin.copy_ #[25, 25] ty' #[.slice (some ⟨k, i, none⟩) (n + 1 - i) dc, .slice (some ⟨vb, 0, none⟩) 1 vc]).run Tryz.prog W1 = .ok (goInt (Nat.min 1 (n + 1 - i))) (W1.setRow k (over C1.toList (i) vs).toArray) := fun ty' dc =>
  zEb W1 _ _ ty' 61 k (i) (n + 1 - i) dc ⟨vb, 0, none⟩ 1 vc 1 C1 ty vs underlying25 hsz hk1 (by rw [hvl]; simp only [Nat.min_def]; split <;> omega)
   (fun j v hj => by rw [Addr.add_lit, zFn hv1, Nat.zero_add]; exact hvs j v hj) (by rw [hvl]; omega) h1v
 have hfin : W1.setRow k (over C1.toList (i) vs).toArray = w.drew.setRow k (over (over cur.toList ((i + 1)) cs) (i) vs).toArray := by
  rw [hW1, setRow_setRow, hC1]
 rw [← hC1, ← hW1] at hcp1
 have hw1 : IntKind.i64.wrap ((i : Int) + 1) = (i : Int) + 1 := by rw [IntKind.wrap_i64]; omega
 have hb1 : (0 : Int) ≤ (i : Int) + 1 := by omega
 have hin : i ≤ n := by omega
 have htn : ((i : Int) + 1).toNat = i + 1 := by omega
 have hb2 : ¬ (c = i + 1) := by omega
 have hb3 : (i : Int) ≤ (n : Int) + 1 := by omega
 have hb4 : ¬ (c = i) := by omega
 clear hcs hcsl hcsg hcs1 hfit1 hlen1 hC1 hC1l hW1 hk1 hv1 hcz hcl hvl
 go_enter func35, Tryz.ntmps35
 go_wp2_with (simp only [hov])
 go_region_law_o (refine step_copy_runI rfl _ _ 25 25 rfl _ _ (by simp [Act.eval, Act.put]) (by simp [Act.eval, Act.put]) (hcp1 _ _ _) ?_)
 go_wp2_with (at_builtin; refine wpList_copy_runI _ rfl _ _ 25 25 rfl _ _ rfl rfl (hcp2 _ _) ?_)
 go_ret
 exact ⟨rfl, rfl⟩

set_option maxHeartbeats 4000000 in
theorem zOY (k c n i vb vc : Nat) (cur vcur : Array Value) (ty vty : TypeId) (vs : List Value) (w : World) (hi : i < n) (hnc : n ≤ c) (hroom : c < n + 1) (hbig : n ≤ 1000000000) (hvb : vb ≠ k)
  (hk : w.heap[k]? = some (.cells cur ty (0, 0))) (hcz : cur.size = c) (hv : w.heap[vb]? = some (.cells vcur vty (0, 0))) (hvl : vs.length = 1) (hvs : ∀ (j : Nat) (v : Value), vs[j]? = some v → vcur[j]? = some v)
  (h1c : ∀ (j : Nat) (v : Value), j < n → cur[j]? = some v → v.oneCell' = true) (h1v : ∀ v ∈ vs, v.oneCell' = true) :
  Calls Tryz.prog 35 #[.slice (some ⟨k, 0, none⟩) n c, .int .i64 i, .slice (some ⟨vb, 0, none⟩) 1 vc] w fun e w' =>
   ∃ (G : Nat) (zs : List Value) (N : Array Value) (W : World), e = .returned (.slice (some ⟨w.heap.size, 0, none⟩) (n + 1) G) ∧ n + 1 ≤ G ∧ G ≤ maxLen ∧ zs.length = (G - n - 1) ∧
    N = (cur.toList.take (i) ++ vs ++ ((cur.toList.take (n)).drop (i)) ++ zs).toArray ∧ w' = W ∧ W.heap[w.heap.size]? = some (.cells N 61 (0, 0)) ∧ Same [] w W := by
 have hz1 : ¬ ((1 : Int) = 0) := by omega
 have hz2 : ¬ ((i : Int) = (n : Int)) := by omega
 have hz3 : (c : Int) < (n : Int) + 1 := by omega
 have zBL := zBL
 have hcn : c = n := by omega
 subst hcn
 have hinf : (Tryz.prog.info? 61).map (fun i => (i.zero, i.size, i.bytes)) = some (some (.agg #[.slice none 0 0] : Value), 1, 24) := by kernel_rfl
 obtain ⟨i0, hi0, hz0, hzs, hzb⟩ := zD5 hinf
 have hsz : (Tryz.prog.info? 61).map (·.size) = some 1 := by rw [hi0]; simp [hzs]
 have hcl : cur.toList.length = c := by simpa using hcz
 have hbw : k < w.heap.size := (Array.getElem?_eq_some_iff.1 hk).1
 have hvw : vb < w.heap.size := (Array.getElem?_eq_some_iff.1 hv).1
 obtain ⟨hd, hhd⟩ : ∃ hd, hd = cur.toList.take (i) := ⟨_, rfl⟩
 have hhl : hd.length = i := by rw [hhd, List.length_take, hcl]; omega
 have hold : (Builtin.firstCells i0.size i (.slice (some ⟨k, 0, none⟩) i c)).run Tryz.prog w.drew = .ok hd.toArray w.drew := by
  rw [hzs]
  exact run_firstCells_some w.drew 1 i ⟨k, 0, none⟩ i c hd (by omega) (fun j v hj => by
   rw [Addr.add_lit, zFn (w := w.drew) hk, Nat.zero_add]
   rw [hhd, List.getElem?_take] at hj
   split at hj
   · simpa using hj
   · cases hj)
 obtain ⟨G, hG⟩ : ∃ G, G = grownCap w (c + 1) c 61 := ⟨_, rfl⟩
 have hik : i + (c + 1 - i) = c + 1 := by omega
 have hkk : (c : Int) + 1 - (i : Int) = ((c + 1 - i : Nat) : Int) := by omega
 obtain ⟨ROW, hROW⟩ : ∃ ROW : Array Value, ROW = hd.toArray ++ Builtin.zeroCells (.agg #[.slice none 0 0] : Value).cells (c + 1 - i) ++ Builtin.zeroCells (.agg #[.slice none 0 0] : Value).cells (G - (c + 1)) := ⟨_, rfl⟩
 have hGn : c + 1 ≤ G := by rw [hG]; exact grownCap_ge w _ _ _
 have hGm : G ≤ maxLen := by rw [hG]; exact grownCap_le_maxLen w (c + 1) c 61 (by unfold maxLen; omega)
 have hrz : ∀ ty', (Builtin.append_ #[25, 3] ty' #[.slice (some ⟨k, 0, none⟩) i c, .int .i64 ((c : Int) + 1 - (i : Int))]).run Tryz.prog w =
   .ok (.slice (some ⟨w.heap.size, 0, none⟩) (c + 1) G) (w.drew.alloc (.cells ROW 61)) := fun ty' => by
  have h := Lib.run_append_grow_zeros w 25 3 ty' 61 i0 _ .i64 .i64 underlying25 underlying3 hi0 hz0 (some ⟨k, 0, none⟩) i c hd hold (c + 1 - i) (by omega) (by omega) (by omega) (by omega) (by rw [hzb]; omega) (by rw [hzb, hik]; exact growslice_fits (by omega) (by omega))
  rw [hik, ← hG] at h
  rw [hkk, hROW]
  exact h
 have hzl : ∀ q, (Builtin.zeroCells (.agg #[.slice none 0 0] : Value).cells q).size = q := fun q => by simp [Builtin.zeroCells, Value.cells]
 have hRl : ROW.size = G := by
  rw [hROW, Array.size_append, Array.size_append, hzl, hzl, List.size_toArray, hhl]
  omega
 obtain ⟨cs, hcs⟩ : ∃ cs, cs = (cur.toList.take (c)).drop (i) := ⟨_, rfl⟩
 have hcsl : cs.length = (c - i) := by rw [hcs, List.length_drop, List.length_take, hcl]; omega
 have hcsg : ∀ (j : Nat) (v : Value), cs[j]? = some v → cur[i + j]? = some v := fun j v h => by
  rw [hcs, List.getElem?_drop, List.getElem?_take] at h
  split at h
  · simpa using h
  · cases h
 have hcs1 : ∀ v ∈ cs, v.oneCell' = true := fun v h => by
  obtain ⟨j, hj⟩ := List.getElem?_of_mem h
  have hlt := (List.getElem?_eq_some_iff.1 hj).1
  exact h1c _ v (by omega) (hcsg j v hj)
 obtain ⟨W1, hW1⟩ : ∃ W1, W1 = w.drew.alloc (.cells ROW 61) := ⟨_, rfl⟩
 rw [← hW1] at hrz
 have hN1 : W1.heap[w.heap.size]? = some (.cells ROW 61 (0, 0)) := by rw [hW1]; show (w.heap.push _)[w.heap.size]? = _; simp
 have hO1 : ∀ q, q < w.heap.size → W1.heap[q]? = w.heap[q]? := fun q hq => by rw [hW1]; show (w.heap.push _)[q]? = _; rw [Array.getElem?_push, if_neg (Nat.ne_of_lt hq)]
 have hcpA : ∀ ty' dc, (Builtin.copy_ #[25, 25] ty' #[.slice (some ⟨w.heap.size, i, none⟩) (c + 1 - i) dc, .slice (some ⟨vb, 0, none⟩) 1 vc]).run Tryz.prog W1 = .ok (goInt (Nat.min 1 (c + 1 - i))) (W1.setRow w.heap.size (over ROW.toList (i) vs).toArray) := fun ty' dc =>
  zEb W1 _ _ ty' 61 w.heap.size (i) (c + 1 - i) dc ⟨vb, 0, none⟩ 1 vc 1 ROW 61 vs underlying25 hsz hN1 (by rw [hvl]; simp only [Nat.min_def]; split <;> omega)
   (fun j v hj => by rw [Addr.add_lit, zFn ((hO1 vb hvw).trans hv), Nat.zero_add]; exact hvs j v hj) (by rw [hvl, hRl]; omega) h1v
 obtain ⟨C1, hC1⟩ : ∃ C1, C1 = (over ROW.toList (i) vs).toArray := ⟨_, rfl⟩
 have hfitA : i + vs.length ≤ ROW.toList.length := by rw [hvl]; simp [hRl]; omega
 have hC1l : C1.size = G := by rw [hC1]; simp [zCY hfitA, hRl]
 obtain ⟨W2, hW2⟩ : ∃ W2, W2 = W1.setRow w.heap.size C1 := ⟨_, rfl⟩
 rw [← hC1, ← hW2] at hcpA
 have hN2 : W2.heap[w.heap.size]? = some (.cells C1 61 (0, 0)) := by rw [hW2]; exact setRow_heap W1 _ ROW C1 61 (0, 0) hN1
 have hO2 : ∀ q, q < w.heap.size → W2.heap[q]? = w.heap[q]? := fun q hq => by rw [hW2, setRow_other _ _ _ _ (Nat.ne_of_lt hq)]; exact hO1 q hq
 have hcpB : ∀ ty' dc sc, (Builtin.copy_ #[25, 25] ty' #[.slice (some ⟨w.heap.size, (i + 1), none⟩) (c - i) dc, .slice (some ⟨k, i, none⟩) (c - i) sc]).run Tryz.prog W2.drew = .ok (goInt (Nat.min (c - i) (c - i))) (W2.drew.setRow w.heap.size (over C1.toList ((i + 1)) cs).toArray) := fun ty' dc sc =>
  zEb W2.drew _ _ ty' 61 w.heap.size ((i + 1)) (c - i) dc ⟨k, i, none⟩ (c - i) sc 1 C1 61 cs underlying25 hsz hN2 (by rw [hcsl]; simp only [Nat.min_def]; split <;> omega)
   (fun j v hj => by rw [Addr.add_lit, zFn (w := W2.drew) ((hO2 k hbw).trans hk)]; exact hcsg j v hj) (by rw [hcsl, hC1l]; omega) hcs1
 have hfin : (over C1.toList ((i + 1)) cs).toArray = (hd ++ vs ++ cs ++ ROW.toList.drop ((c + 1))).toArray := by
  congr 1
  rw [hC1]
  have h1 : ROW.toList.take (i) = hd := by
   rw [hROW]
   simp only [Array.toList_append, List.toList_toArray, List.append_assoc]
   rw [← hhl, List.take_left]
  simp only [over, List.toList_toArray]
  rw [h1, hvl, hcsl]
  have h2 : (hd ++ vs).length = (i + 1) := by rw [List.length_append, hhl, hvl]
  rw [← h2, List.take_left, h2]
  rw [List.drop_append, h2, List.drop_of_length_le (by rw [h2]; omega), List.nil_append, List.drop_drop]
  congr 2
  omega
 have hzsl : (ROW.toList.drop ((c + 1))).length = (G - c - 1) := by rw [List.length_drop, Array.length_toList, hRl]; omega
 have hsame : Same [] w (W2.drew.setRow w.heap.size (over C1.toList ((i + 1)) cs).toArray) := by
  refine ⟨by rw [hW2, hW1]; rfl, by rw [hW2, hW1]; rfl, by rw [hW2, hW1]; rfl, ?_, fun q hq _ => ?_⟩
  · rw [setRow_size]; show w.heap.size ≤ W2.heap.size; rw [hW2, setRow_size, hW1]; show w.heap.size ≤ (w.heap.push _).size; simp
  · rw [setRow_other _ _ _ _ (Nat.ne_of_lt hq)]; exact hO2 q hq
 have hlast : (W2.drew.setRow w.heap.size (over C1.toList ((i + 1)) cs).toArray).heap[w.heap.size]? = some (.cells (hd ++ vs ++ cs ++ ROW.toList.drop ((c + 1))).toArray 61 (0, 0)) := by
  rw [← hfin]
  exact setRow_heap W2.drew _ C1 _ 61 (0, 0) hN2
 rw [← hhd, ← hcs]
 have hw1 : IntKind.i64.wrap ((i : Int) + 1) = (i : Int) + 1 := by rw [IntKind.wrap_i64]; omega
 have hb1 : (0 : Int) ≤ (i : Int) + 1 := by omega
 have hin : i ≤ c := by omega
 have htn : ((i : Int) + 1).toNat = i + 1 := by omega
 have hb3 : (i : Int) ≤ (c : Int) := by omega
 have hGi : ¬ (G = i) := by omega
 have hGim : ¬ (G = i + 1) := by omega
 have hci : ¬ (c = i) := by omega
 have hG63 : G ≤ 9223372036854775807 := by unfold maxLen at hGm; omega
 clear hcl hhl hold hG hik hkk hROW hRl hcsl hcsg hcs1 hW1 hN1 hO1 hC1 hfitA hC1l hW2 hN2 hO2 hfin hzs hzl hcz hvl hhd hcs
 go_enter func35, Tryz.ntmps35
 go_wp2_with (first
  | (at_builtin; refine Lib.wpList_append_run _ rfl _ _ _ _ rfl _ _ rfl rfl _ _ (hrz _) ?_)
  | (at_builtin; refine wpList_copy_runI _ rfl _ _ 25 25 rfl _ _ rfl rfl (hcpA _ _) ?_))
 go_region_law_o (refine step_copy_runI rfl _ _ 25 25 rfl _ _ (by simp [Act.eval, Act.put]) (by simp [Act.eval, Act.put]) (hcpB _ _ _) ?_)
 go_wp2
 go_ret
 exact ⟨G, _, _, _, rfl, hGn, hGm, hzsl, rfl, rfl, hlast, hsame⟩

theorem zLD (l : List Ent) : Con Tryz.prog 35 [.one (.sl true 1 (pvR (tagT []))), .one (PV.v (.int .i64 0)), .one (.sl true 1 (pvR (tagT [l])))] [none, none] [.one (.sl true 1 (pvR (tagT [l])))] := by
 refine zAQ func35 rfl rfl rfl rfl ?_
 refine zAY (s' := mk [(0, .sl 100000 0 ((pvR (tagT [])).length)), (1, .vi 0), (2, .sl 300000 0 ((pvR (tagT [l])).length))] [] [(100000, 1, pvR (tagT [])), (300000, 1, pvR (tagT [l]))]) (zAJ ⟨by kernel_rfl, by kernel_rfl, by kernel_rfl, trivial⟩ trivial ⟨by kernel_rfl, by kernel_rfl, trivial⟩ rfl) ?_
 have hle : (pvR (tagT [])).length = 0 := rfl
 have hle2 : (pvR (tagT [l])).length = 1 := rfl
 have hle3 : (tagT []).length = 0 := rfl
 have hle4 : (tagT [l]).length = 1 := rfl
 refine zAB (zAA rfl (.a rfl rfl .nil) ?_)
 refine zAB (zAA rfl (.m rfl rfl (.m rfl rfl (.r rfl (zCF (l := 0) (h := (pvR (tagT [])).length) rfl rfl rfl underlying25 sizeOf61 (.at_ rfl rfl) .no (Nat.zero_le _) (Nat.le_refl _) rfl) .nil))) ?_)
 refine zAB (zAA rfl (.m rfl rfl (.r rfl (zAy rfl rfl underlying25) (.a rfl rfl .nil))) ?_)
 refine zAB ?_
 refine zAB (zAA rfl (.m rfl rfl (.r rfl (zA8 rfl rfl rfl) .nil)) ?_)
 refine zAZ (t := decide (((pvR (tagT [l])).length : Int) = 0)) rfl (fun h1 => ?_) (fun h1 => ?_)
 ·
  replace h1 := of_decide_eq_true h1
  omega
 ·
  replace h1 := of_decide_eq_false h1
  refine zAM ?_
  refine zAB (zAA rfl (.m rfl rfl (.r rfl (zAy rfl rfl underlying25) (.a rfl rfl .nil))) ?_)
  refine zAB ?_
  refine zAB (zAA rfl (.m rfl rfl (.m rfl rfl (.r rfl (zA8 rfl rfl rfl) .nil))) ?_)
  refine zAZ (t := decide (0 = ((pvR (tagT [])).length : Int))) rfl (fun h2 => ?_) (fun h2 => ?_)
  ·
   replace h2 := of_decide_eq_true h2
   refine zAB ?_
   refine zAY (s' := mk [(0, .sl 100000 0 ((pvR (tagT [])).length)), (2, .sl 300000 0 ((pvR (tagT [l])).length))] [] [(100000, 1, pvR (tagT [])), (300000, 1, pvR (tagT [l]))]) ?_ ?_
   · exact zAJ ⟨rfl, rfl, trivial⟩ trivial ⟨rfl, rfl, trivial⟩ rfl
   refine zAA rfl (.m rfl rfl (.m rfl rfl (.run [2500] [] rfl (zAu rfl 2500 (ib := 100000) (len := ((pvR (tagT [])) ++ (pvR (tagT [l]))).length) rfl rfl (.row (len := (pvR (tagT [])).length) (xs := pvR (tagT [])) rfl rfl (.inr rfl)) (.give (len := (pvR (tagT [l])).length) (xs := pvR (tagT [l])) rfl rfl) underlying25 (sk underlying25 rfl) zDP rfl (by decide) (by decide) (by decide) List.length_append (by simp only [maxLen, List.length_append, List.length_cons, List.length_nil, zAi]; omega) (by simp only [maxLen, List.length_append, List.length_cons, List.length_nil, zAi]; omega)) (.a rfl rfl .nil)))) ?_
   have hr3 : (pvR (tagT [])) ++ (pvR (tagT [l])) = pvR (tagT [l]) := by rfl
   have hp4 : (.sl 2500 0 (((pvR (tagT [])) ++ (pvR (tagT [l]))).length) : AV) = .sl 2500 0 ((pvR (tagT [l])).length) := by simp only [hr3]
   refine zAY (s' := mk [(6, .sl 2500 0 ((pvR (tagT [l])).length))] [] [(2500, 1, pvR (tagT [l]))]) ?_ ?_
   · exact zAJ ⟨hp4, trivial⟩ trivial ⟨(congrArg (fun x => some (1, x)) hr3), trivial⟩ rfl
   refine zAO ?_
   exact ends [_] [2500] (.cons (.tmp rfl) .nil) (.cons (.one (.row (len := (pvR (tagT [l])).length) (xs := pvR (tagT [l])) rfl rfl) (zAl _)) .nil) (by decide) ⟨trivial, trivial, trivial⟩
  ·
   replace h2 := of_decide_eq_false h2
   omega
theorem zQF (ls : List (List Ent)) (l : List Ent) (hl : ls.length ≤ 1000000) : Con Tryz.prog 35 [.one (.sl true 1 (pvR (tagT ls))), .one (.v (.int .i64 0)), .one (.sl true 1 (pvR (tagT [l])))] [none, none] [.one (.sl true 1 (pvR (tagT (l :: ls))))] := by
 rcases Nat.eq_zero_or_pos ls.length with h | h
 ·
  rw [List.length_eq_zero_iff.1 h]
  exact zLD l
 ·
  have hcl : ∀ ls : List (List Ent), ∀ es ∈ pvR (tagT ls), ∀ q ∈ es, Clean q := fun ls es he q hq => by
   have := zAl ls
   cases this with
   | sl _ _ h => exact h es he q hq
  have hlen : (pvR (tagT ls)).length = ls.length := by rw [zAi, zBU]
  exact zLM (P := Tryz.prog) (f := 35) (E := 61) zNL zOY (pvR (tagT ls)) (.sl true 4 (pvE l)) (by rw [hlen]; exact h) (by rw [hlen]; omega) (hcl ls) (.sl _ _ (FlatP.clean (zAd _)))
theorem zIK (d : Eng) (hD : EB d) : Con Tryz.prog 9 [.agg [PV.v (.int .i64 d.seq), PV.sl false 4 (pvE d.mem), PV.sl false 1 (pvR (tagT d.runs)), PV.sl false 1 (pvI d.snaps)]] [] [.agg [.v (.int .i64 ((zCH d).1.seq)), .sl true 4 (pvE ((zCH d).1.mem)), .sl true 1 (pvR (tagT (zCH d).1.runs)), .sl true 1 (pvI ((zCH d).1.snaps))], .one (.v (.int .i64 ((zCH d).2)))] := by
 refine zAQ func9 rfl rfl rfl rfl ?_
 have hl1 := zAF d.mem
 have hl2 := zAi (tagT d.runs)
 have hl3 := zAT d.snaps
 have hl4 := zBU d.runs
 refine zAB (zAA rfl (.run [] [1] rfl (zBO rfl 1 rfl rfl (by decide) rfl (by decide)) (.run [] [2] rfl (zAj rfl 2 zBk rfl (by decide) rfl (by decide)) (.a rfl rfl .nil))) ?_)
 refine zAB ?_
 refine zAB (zAA rfl (.r rfl (zAG rfl rfl rfl isAgg28 sizeOf28 (nle rfl)) (.run [600] [] rfl (zAK rfl 600 (X := []) en7 rfl (.val nod) (.cons (.agg (.cons (.bor .v) (.cons (.bor (.sl nod)) (.cons (.bor (.sl nod)) (.cons (.bor (.sl nod)) .nil))))) .nil) (by decide) all_nil .nil (zCa d hD) rfl rfl (nle rfl)) (.r rfl (zA5 (b := okB d.seq d.mem (tagT d.runs) d.snaps) rfl rfl) .nil))) ?_)
 refine zAZ (t := (!(okB d.seq d.mem (tagT d.runs) d.snaps))) rfl (fun h1 => ?_) (fun h1 => ?_)
 ·
  replace h1 : (okB d.seq d.mem (tagT d.runs) d.snaps) = false := zBF h1
  refine zAB ?_
  have hw : okB d.seq d.mem (tagT d.runs) d.snaps = false := by simpa using h1
  rw [zQM hw]
  refine zAA rfl (.r rfl (zBC (pl := [(0, 1), (1, 1), (2, 1), (3, 1)]) rfl underlying28 zBk (by kernel_rfl) rfl rfl) (.r rfl (zAE rfl rfl rfl rfl rfl sizeOf28 rfl (nle rfl)) (.a rfl rfl .nil))) ?_
  refine zAO ?_
  exact ends [_, _] [] (.cons (.cell rfl rfl isAgg28 sizeOf28 (nle rfl)) (.cons (.tmp rfl) .nil)) (.cons (.agg (.cons .v (.cons (.nil _) (.cons (.nil _) (.cons (.nil _) .nil)))) (zAI (.v _) (zAI (.sl _ _ (fun _ h => nomatch h)) (zAI (.sl _ _ (fun _ h => nomatch h)) (zAI (.sl _ _ (fun _ h => nomatch h)) zBE))))) (.cons (.one .v (.v _)) .nil)) (by decide) trivial
 ·
  replace h1 : (okB d.seq d.mem (tagT d.runs) d.snaps) = true := zBG h1
  refine zAM ?_
  refine zAB ?_
  have hok : okB d.seq d.mem (tagT d.runs) d.snaps = true := by simpa using h1
  have hsm := zBr hok
  have hm1 := hsm.mem
  have hm2 := hsm.runs
  have hm3 := hsm.snaps
  have hm4 := hsm.seq
  have hal := zFF hok
  have hav := zAF (allI d)
  refine zAA rfl (.r rfl (zAG rfl rfl rfl isAgg28 sizeOf28 (nle rfl)) (.run [1000, 1001, 1002, 1003] [] rfl (zAK rfl 1000 (X := []) en34 rfl (.val nod) (.cons (.agg (.cons (.bor .v) (.cons (.bor (.sl nod)) (.cons (.bor (.sl nod)) (.cons (.bor (.sl nod)) .nil))))) .nil) (by decide) all_nil .nil (zFh d hsm) rfl rfl (nle rfl)) (.run [] [4] rfl (zAj rfl 4 zBk rfl (by decide) rfl (by decide)) (.r rfl (zAE rfl rfl rfl rfl rfl sizeOf28 rfl (nle rfl)) .nil)))) ?_
  refine zAB ?_
  refine zAS ?_
  refine zAB (zAA rfl (.r rfl (zAC rfl rfl underlying28 rfl sizeOf24 (by decide)) (.r rfl (zAD rfl rfl rfl isAgg24 rfl) (.r rfl (zAX rfl rfl underlying24) (.r rfl (zA8 rfl rfl rfl) (.a rfl rfl .nil))))) ?_)
  refine zAZ (t := decide (((pvE d.mem).length : Int) = 0)) rfl (fun h2 => ?_) (fun h2 => ?_)
  ·
   replace h2 := of_decide_eq_true h2
   refine zAB ?_
   rw [zMc hok (by omega)]
   refine zAY (s' := mk [(2, .ptr 2 0), (4, .ptr 4 0)] [(2, [.vi 0, .nils, .nils, .nils]), (4, [.vi d.seq, .sl 1001 0 ((pvE d.mem).length), .sl 1002 0 ((pvR (tagT d.runs)).length), .sl 1003 0 ((pvI d.snaps).length)])] [(1001, 4, pvE d.mem), (1002, 1, pvR (tagT d.runs)), (1003, 1, pvI d.snaps)]) ?_ ?_
   · exact zAJ ⟨rfl, rfl, trivial⟩ ⟨rfl, rfl, trivial⟩ ⟨rfl, rfl, rfl, trivial⟩ rfl
   refine zAA rfl (.r rfl (zAG rfl rfl rfl isAgg28 sizeOf28 (nle rfl)) (.r rfl (zAE rfl rfl rfl rfl rfl sizeOf28 rfl (nle rfl)) (.a rfl rfl .nil))) ?_
   refine zAO ?_
   exact ends [_, _] [1001, 1002, 1003] (.cons (.cell rfl rfl isAgg28 sizeOf28 (nle rfl)) (.cons (.tmp rfl) .nil)) (.cons (.agg (.cons .v (.cons (.row (len := (pvE d.mem).length) (xs := pvE d.mem) rfl rfl) (.cons (.row (len := (pvR (tagT d.runs)).length) (xs := pvR (tagT d.runs)) rfl rfl) (.cons (.row (len := (pvI d.snaps).length) (xs := pvI d.snaps) rfl rfl) .nil)))) (zAI (.v _) (zAI (.sl _ _ (FlatP.clean (zAd _))) (zAI (zAl _) (zAI (.sl _ _ (FlatP.clean (zA3 _))) zBE))))) (.cons (.one .v (.v _)) .nil)) (by decide) trivial
  ·
   replace h2 := of_decide_eq_false h2
   refine zAB ?_
   refine zAY (s' := mk [(1, .ptr 1 0), (2, .ptr 2 0), (4, .ptr 4 0)] [(1, [.vi d.seq, .p none (.sl false 4 (pvE d.mem)), .p none (.sl false 1 (pvR (tagT d.runs))), .p none (.sl false 1 (pvI d.snaps))]), (2, [.vi 0, .nils, .nils, .nils]), (4, [.vi d.seq, .sl 1001 0 ((pvE d.mem).length), .sl 1002 0 ((pvR (tagT d.runs)).length), .sl 1003 0 ((pvI d.snaps).length)])] [(1001, 4, pvE d.mem), (1002, 1, pvR (tagT d.runs)), (1003, 1, pvI d.snaps)]) ?_ ?_
   · exact zAJ ⟨rfl, rfl, rfl, trivial⟩ ⟨rfl, rfl, rfl, trivial⟩ ⟨rfl, rfl, rfl, trivial⟩ rfl
   refine zAA rfl (.r rfl (zAC rfl rfl underlying28 rfl sizeOf25 (by decide)) (.r rfl (zAD rfl rfl rfl isAgg25 rfl) (.r rfl (zAX rfl rfl underlying25) (.r rfl (zCQ rfl rfl rfl) (.a rfl rfl .nil))))) ?_
   refine zAZ (t := decide (19 ≤ ((pvR (tagT d.runs)).length : Int))) rfl (fun h3 => ?_) (fun h3 => ?_)
   ·
    replace h3 := of_decide_eq_true h3
    refine zAB ?_
    rw [zMb hok (by omega) (by omega)]
    refine zAA rfl (.r rfl (zAG rfl rfl rfl isAgg28 sizeOf28 (nle rfl)) (.r rfl (zAE rfl rfl rfl rfl rfl sizeOf28 rfl (nle rfl)) (.a rfl rfl .nil))) ?_
    refine zAO ?_
    exact ends [_, _] [1001, 1002, 1003] (.cons (.cell rfl rfl isAgg28 sizeOf28 (nle rfl)) (.cons (.tmp rfl) .nil)) (.cons (.agg (.cons .v (.cons (.row (len := (pvE d.mem).length) (xs := pvE d.mem) rfl rfl) (.cons (.row (len := (pvR (tagT d.runs)).length) (xs := pvR (tagT d.runs)) rfl rfl) (.cons (.row (len := (pvI d.snaps).length) (xs := pvI d.snaps) rfl rfl) .nil)))) (zAI (.v _) (zAI (.sl _ _ (FlatP.clean (zAd _))) (zAI (zAl _) (zAI (.sl _ _ (FlatP.clean (zA3 _))) zBE))))) (.cons (.one .v (.v _)) .nil)) (by decide) trivial
   ·
    replace h3 := of_decide_eq_false h3
    refine zAM ?_
    refine zAB ?_
    rw [zMa hok (by omega) (by omega)]
    refine zAA rfl (.r rfl (zAC rfl rfl underlying28 rfl sizeOf25 (by decide)) (.r rfl (zAD rfl rfl rfl isAgg25 rfl) (.r rfl (zAC rfl rfl underlying28 rfl sizeOf24 (by decide)) (.r rfl (zAD rfl rfl rfl isAgg24 rfl) (.r rfl (zBC (pl := [(0, 1)]) rfl underlying61 zDP (by kernel_rfl) rfl rfl) (.run [2800, 1001] [] rfl (zAR rfl 2800 underlying25 zDP (nle rfl) (by decide) rfl rfl rfl (.cons (.row rfl rfl) .nil) (by decide) rfl (by decide) rfl (by decide) rfl) (.run [1002, 2800, 2900] [] rfl (zAK rfl 2900 (X := [1002, 2800]) en35 rfl (.val nod) (.cons (.one (.own (len := (pvR (tagT d.runs)).length) (xs := pvR (tagT d.runs)) rfl rfl)) (.cons (.one (.bor .v)) (.cons (.one (.own (len := 1) (xs := [[PV.sl true 4 (pvE d.mem)]]) rfl (by first | rfl | omega))) .nil))) (by decide) (all_cons rfl (all_cons rfl all_nil)) (.gone (.gone .nil)) (zQF d.runs d.mem (by omega)) rfl rfl (nle rfl)) (.r rfl (zAC rfl rfl underlying28 rfl sizeOf25 (by decide)) (.r rfl (zAE rfl rfl rfl rfl rfl sizeOf25 rfl (nle rfl)) (.r rfl (zAC rfl rfl underlying28 rfl sizeOf24 (by decide)) (.r rfl (zAE rfl rfl rfl rfl rfl sizeOf24 rfl (nle rfl)) .nil))))))))))) ?_
    refine zAB ?_
    refine zAY (s' := mk [(2, .ptr 2 0), (4, .ptr 4 0)] [(2, [.vi 0, .nils, .nils, .nils]), (4, [.vi d.seq, .nils, .sl 2900 0 ((pvR (tagT (d.mem :: d.runs))).length), .sl 1003 0 ((pvI d.snaps).length)])] [(1003, 1, pvI d.snaps), (2900, 1, pvR (tagT (d.mem :: d.runs)))]) ?_ ?_
    · exact zAJ ⟨rfl, rfl, trivial⟩ ⟨rfl, rfl, trivial⟩ ⟨rfl, rfl, trivial⟩ rfl
    refine zAA rfl (.r rfl (zAG rfl rfl rfl isAgg28 sizeOf28 (nle rfl)) (.r rfl (zAE rfl rfl rfl rfl rfl sizeOf28 rfl (nle rfl)) (.a rfl rfl .nil))) ?_
    refine zAO ?_
    exact ends [_, _] [2900, 1003] (.cons (.cell rfl rfl isAgg28 sizeOf28 (nle rfl)) (.cons (.tmp rfl) .nil)) (.cons (.agg (.cons .v (.cons (.nil _) (.cons (.row (len := (pvR (tagT (d.mem :: d.runs))).length) (xs := pvR (tagT (d.mem :: d.runs))) rfl rfl) (.cons (.row (len := (pvI d.snaps).length) (xs := pvI d.snaps) rfl rfl) .nil)))) (zAI (.v _) (zAI (.sl _ _ (fun _ h => nomatch h)) (zAI (zAl _) (zAI (.sl _ _ (FlatP.clean (zA3 _))) zBE))))) (.cons (.one .v (.v _)) .nil)) (by decide) trivial
theorem zGs (d : Eng) (hD : EB d) : Con Tryz.prog 15 [.agg [PV.v (.int .i64 d.seq), PV.sl false 4 (pvE d.mem), PV.sl false 1 (pvR (tagT d.runs)), PV.sl false 1 (pvI d.snaps)]] [] [.agg [.v (.int .i64 ((zCp d).1.seq)), .sl true 4 (pvE ((zCp d).1.mem)), .sl true 1 (pvR (tagT (zCp d).1.runs)), .sl true 1 (pvI ((zCp d).1.snaps))], .one (.v (.int .i64 ((zCp d).2.1))), .one (.v (.int .i64 ((zCp d).2.2)))] := by
 refine zAQ func15 rfl rfl rfl rfl ?_
 have hl1 := zAF d.mem
 have hl2 := zAi (tagT d.runs)
 have hl3 := zAT d.snaps
 have hl4 := zBU d.runs
 refine zAB (zAA rfl (.run [] [1] rfl (zBO rfl 1 rfl rfl (by decide) rfl (by decide)) (.run [] [2] rfl (zAj rfl 2 zBk rfl (by decide) rfl (by decide)) (.a rfl rfl (.a rfl rfl .nil)))) ?_)
 refine zAB ?_
 refine zAB (zAA rfl (.r rfl (zAG rfl rfl rfl isAgg28 sizeOf28 (nle rfl)) (.run [700] [] rfl (zAK rfl 700 (X := []) en7 rfl (.val nod) (.cons (.agg (.cons (.bor .v) (.cons (.bor (.sl nod)) (.cons (.bor (.sl nod)) (.cons (.bor (.sl nod)) .nil))))) .nil) (by decide) all_nil .nil (zCa d hD) rfl rfl (nle rfl)) (.r rfl (zA5 (b := okB d.seq d.mem (tagT d.runs) d.snaps) rfl rfl) .nil))) ?_)
 refine zAZ (t := (!(okB d.seq d.mem (tagT d.runs) d.snaps))) rfl (fun h1 => ?_) (fun h1 => ?_)
 ·
  replace h1 : (okB d.seq d.mem (tagT d.runs) d.snaps) = false := zBF h1
  refine zAB ?_
  have hw : okB d.seq d.mem (tagT d.runs) d.snaps = false := by simpa using h1
  rw [zKl hw]
  refine zAA rfl (.r rfl (zBC (pl := [(0, 1), (1, 1), (2, 1), (3, 1)]) rfl underlying28 zBk (by kernel_rfl) rfl rfl) (.r rfl (zAE rfl rfl rfl rfl rfl sizeOf28 rfl (nle rfl)) (.a rfl rfl (.a rfl rfl .nil)))) ?_
  refine zAO ?_
  exact ends [_, _, _] [] (.cons (.cell rfl rfl isAgg28 sizeOf28 (nle rfl)) (.cons (.tmp rfl) (.cons (.tmp rfl) .nil))) (.cons (.agg (.cons .v (.cons (.nil _) (.cons (.nil _) (.cons (.nil _) .nil)))) (zAI (.v _) (zAI (.sl _ _ (fun _ h => nomatch h)) (zAI (.sl _ _ (fun _ h => nomatch h)) (zAI (.sl _ _ (fun _ h => nomatch h)) zBE))))) (.cons (.one .v (.v _)) (.cons (.one .v (.v _)) .nil))) (by decide) trivial
 ·
  replace h1 : (okB d.seq d.mem (tagT d.runs) d.snaps) = true := zBG h1
  refine zAM ?_
  refine zAB ?_
  have hok : okB d.seq d.mem (tagT d.runs) d.snaps = true := by simpa using h1
  have hsm := zBr hok
  have hm1 := hsm.mem
  have hm2 := hsm.runs
  have hm3 := hsm.snaps
  have hm4 := hsm.seq
  have hal := zFF hok
  have hav := zAF (allI d)
  refine zAA rfl (.r rfl (zAG rfl rfl rfl isAgg28 sizeOf28 (nle rfl)) (.run [1100, 1101, 1102, 1103] [] rfl (zAK rfl 1100 (X := []) en34 rfl (.val nod) (.cons (.agg (.cons (.bor .v) (.cons (.bor (.sl nod)) (.cons (.bor (.sl nod)) (.cons (.bor (.sl nod)) .nil))))) .nil) (by decide) all_nil .nil (zFh d hsm) rfl rfl (nle rfl)) (.run [] [5] rfl (zAj rfl 5 zBk rfl (by decide) rfl (by decide)) (.r rfl (zAE rfl rfl rfl rfl rfl sizeOf28 rfl (nle rfl)) .nil)))) ?_
  refine zAB ?_
  refine zAB ?_
  refine zAY (s' := mk [(1, .ptr 1 0), (2, .ptr 2 0), (5, .ptr 5 0)] [(1, [.vi d.seq, .p none (.sl false 4 (pvE d.mem)), .p none (.sl false 1 (pvR (tagT d.runs))), .p none (.sl false 1 (pvI d.snaps))]), (2, [.vi 0, .nils, .nils, .nils]), (5, [.vi d.seq, .sl 1101 0 ((pvE d.mem).length), .sl 1102 0 ((pvR (tagT d.runs)).length), .sl 1103 0 ((pvI d.snaps).length)])] [(1101, 4, pvE d.mem), (1102, 1, pvR (tagT d.runs)), (1103, 1, pvI d.snaps)]) ?_ ?_
  · exact zAJ ⟨rfl, rfl, rfl, trivial⟩ ⟨rfl, rfl, rfl, trivial⟩ ⟨rfl, rfl, rfl, trivial⟩ rfl
  refine zAA rfl (.r rfl (zAC rfl rfl underlying28 rfl sizeOf26 (by decide)) (.r rfl (zAD rfl rfl rfl isAgg26 rfl) (.r rfl (zAC rfl rfl underlying28 rfl sizeOf2 (by decide)) (.r rfl (zAD rfl rfl rfl isAgg2 rfl) (.run [1103, 1600] [] rfl (zAK rfl 1600 (X := []) en46 rfl (.val nod) (.cons (.one (.bor (.all (len := (pvI d.snaps).length) (xs := pvI d.snaps) rfl rfl (by decide)))) (.cons (.one (.bor .v)) .nil)) (by decide) all_nil .nil (zFi d.snaps d.seq (by omega)) rfl rfl (nle rfl)) (.r rfl (zA5 (b := decide (0 ≤ idxF (fun x => decide (d.seq = x)) d.snaps)) rfl rfl) .nil)))))) ?_
  refine zAZ (t := (!(decide (0 ≤ idxF (fun x => decide (d.seq = x)) d.snaps)))) rfl (fun h2 => ?_) (fun h2 => ?_)
  ·
   replace h2 : ¬ (0 ≤ idxF (fun x => decide (d.seq = x)) d.snaps) := of_decide_eq_false (zBF h2)
   refine zAB ?_
   refine zAB (zAA rfl (.r rfl (zAC rfl rfl underlying28 rfl sizeOf26 (by decide)) (.r rfl (zAD rfl rfl rfl isAgg26 rfl) (.r rfl (zAy rfl rfl underlying26) (.r rfl (zA8 rfl rfl rfl) .nil)))) ?_)
   refine zAZ (t := decide (((pvI d.snaps).length : Int) = 20)) rfl (fun h3 => ?_) (fun h3 => ?_)
   ·
    replace h3 := of_decide_eq_true h3
    refine zAB ?_
    have hat : atI d.snaps d.seq = false := decide_eq_false h2
    rw [zKn hok hat (by omega)]
    refine zAA rfl (.r rfl (zAG rfl rfl rfl isAgg28 sizeOf28 (nle rfl)) (.r rfl (zAE rfl rfl rfl rfl rfl sizeOf28 rfl (nle rfl)) (.a rfl rfl (.a rfl rfl .nil)))) ?_
    refine zAO ?_
    exact ends [_, _, _] [1101, 1102, 1103] (.cons (.cell rfl rfl isAgg28 sizeOf28 (nle rfl)) (.cons (.tmp rfl) (.cons (.tmp rfl) .nil))) (.cons (.agg (.cons .v (.cons (.row (len := (pvE d.mem).length) (xs := pvE d.mem) rfl rfl) (.cons (.row (len := (pvR (tagT d.runs)).length) (xs := pvR (tagT d.runs)) rfl rfl) (.cons (.row (len := (pvI d.snaps).length) (xs := pvI d.snaps) rfl rfl) .nil)))) (zAI (.v _) (zAI (.sl _ _ (FlatP.clean (zAd _))) (zAI (zAl _) (zAI (.sl _ _ (FlatP.clean (zA3 _))) zBE))))) (.cons (.one .v (.v _)) (.cons (.one .v (.v _)) .nil))) (by decide) trivial
   ·
    replace h3 := of_decide_eq_false h3
    refine zAM ?_
    have hat : atI d.snaps d.seq = false := decide_eq_false h2
    rw [zKk hok hat (by omega)]
    refine zAY (s' := mk [(1, .ptr 1 0), (2, .ptr 2 0), (5, .ptr 5 0)] [(1, [.vi d.seq, .p none (.sl false 4 (pvE d.mem)), .p none (.sl false 1 (pvR (tagT d.runs))), .p none (.sl false 1 (pvI d.snaps))]), (2, [.vi 0, .nils, .nils, .nils]), (5, [.vi d.seq, .sl 1101 0 ((pvE d.mem).length), .sl 1102 0 ((pvR (tagT d.runs)).length), .sl 1103 0 ((pvI d.snaps).length)])] [(1101, 4, pvE d.mem), (1102, 1, pvR (tagT d.runs)), (1103, 1, pvI d.snaps)]) ?_ ?_
    · exact zAJ ⟨rfl, rfl, rfl, trivial⟩ ⟨rfl, rfl, rfl, trivial⟩ ⟨rfl, rfl, rfl, trivial⟩ rfl
    refine zAA rfl (.r rfl (zAC rfl rfl underlying28 rfl sizeOf26 (by decide)) (.r rfl (zAD rfl rfl rfl isAgg26 rfl) (.r rfl (zAC rfl rfl underlying28 rfl sizeOf2 (by decide)) (.r rfl (zAD rfl rfl rfl isAgg2 rfl) (.run [2700] [] rfl (zAR rfl 2700 underlying26 inf2 (nle rfl) (by decide) rfl rfl rfl (.cons .v .nil) (by decide) rfl (by decide) rfl (by decide) rfl) (.run [1103] [] rfl (zAu rfl 1103 (ib := 1103) (len := ((pvI d.snaps) ++ [[PV.v (.int .i64 d.seq)]]).length) rfl rfl (.row (len := (pvI d.snaps).length) (xs := pvI d.snaps) rfl rfl (.inl rfl)) (.give (len := 1) (xs := [[PV.v (.int .i64 d.seq)]]) rfl rfl) underlying26 (sk underlying26 rfl) inf2 rfl (by decide) (by decide) (by decide) List.length_append (by simp only [maxLen, List.length_append, List.length_cons, List.length_nil, zAT]; omega) (by simp only [maxLen, List.length_append, List.length_cons, List.length_nil, zAT]; omega)) (.r rfl (zAC rfl rfl underlying28 rfl sizeOf26 (by decide)) (.r rfl (zAE rfl rfl rfl rfl rfl sizeOf26 rfl (nle rfl)) .nil)))))))) ?_
    have hr4 : (pvI d.snaps) ++ [[PV.v (.int .i64 d.seq)]] = pvI (d.snaps ++ [d.seq]) := by exact zFU _ _
    have hp5 : (some [.vi d.seq, .sl 1101 0 ((pvE d.mem).length), .sl 1102 0 ((pvR (tagT d.runs)).length), .sl 1103 0 (((pvI d.snaps) ++ [[PV.v (.int .i64 d.seq)]]).length)] : Option (List AV)) = some [.vi d.seq, .sl 1101 0 ((pvE d.mem).length), .sl 1102 0 ((pvR (tagT d.runs)).length), .sl 1103 0 ((pvI (d.snaps ++ [d.seq])).length)] := by simp only [hr4]
    refine zAY (s' := mk [(1, .ptr 1 0), (2, .ptr 2 0), (5, .ptr 5 0)] [(1, [.vi d.seq, .p none (.sl false 4 (pvE d.mem)), .p none (.sl false 1 (pvR (tagT d.runs))), .p none (.sl false 1 (pvI d.snaps))]), (2, [.vi 0, .nils, .nils, .nils]), (5, [.vi d.seq, .sl 1101 0 ((pvE d.mem).length), .sl 1102 0 ((pvR (tagT d.runs)).length), .sl 1103 0 ((pvI (d.snaps ++ [d.seq])).length)])] [(1101, 4, pvE d.mem), (1102, 1, pvR (tagT d.runs)), (1103, 1, pvI (d.snaps ++ [d.seq]))]) ?_ ?_
    · exact zAJ ⟨rfl, rfl, rfl, trivial⟩ ⟨rfl, rfl, hp5, trivial⟩ ⟨rfl, rfl, (congrArg (fun x => some (1, x)) hr4), trivial⟩ rfl
    refine zAB (zAc zBL rfl (.r rfl (zAG rfl rfl rfl isAgg28 sizeOf28 (nle rfl)) (.r rfl (zAC rfl rfl underlying28 rfl sizeOf2 (by decide)) (.r rfl (zAD rfl rfl rfl isAgg2 rfl) (.r rfl (zAE rfl rfl rfl rfl rfl sizeOf28 rfl (nle rfl)) (.a rfl rfl (.a rfl rfl .nil)))))) (by kernel_rfl) ?_)
    refine zAO ?_
    exact ends [_, _, _] [1101, 1102, 1103] (.cons (.cell rfl rfl isAgg28 sizeOf28 (nle rfl)) (.cons (.tmp rfl) (.cons (.tmp rfl) .nil))) (.cons (.agg (.cons .v (.cons (.row (len := (pvE d.mem).length) (xs := pvE d.mem) rfl rfl) (.cons (.row (len := (pvR (tagT d.runs)).length) (xs := pvR (tagT d.runs)) rfl rfl) (.cons (.row (len := (pvI (d.snaps ++ [d.seq])).length) (xs := pvI (d.snaps ++ [d.seq])) rfl rfl) .nil)))) (zAI (.v _) (zAI (.sl _ _ (FlatP.clean (zAd _))) (zAI (zAl _) (zAI (.sl _ _ (FlatP.clean (zA3 _))) zBE))))) (.cons (.one .v (.v _)) (.cons (.one .v (.v _)) .nil))) (by decide) trivial
  ·
   replace h2 : 0 ≤ idxF (fun x => decide (d.seq = x)) d.snaps := of_decide_eq_true (zBG h2)
   refine zAM ?_
   refine zAB ?_
   have hat : atI d.snaps d.seq = true := decide_eq_true (by have := h2; omega)
   rw [zKm hok hat]
   refine zAc zBL rfl (.r rfl (zAG rfl rfl rfl isAgg28 sizeOf28 (nle rfl)) (.r rfl (zAC rfl rfl underlying28 rfl sizeOf2 (by decide)) (.r rfl (zAD rfl rfl rfl isAgg2 rfl) (.r rfl (zAE rfl rfl rfl rfl rfl sizeOf28 rfl (nle rfl)) (.a rfl rfl (.a rfl rfl .nil)))))) (by kernel_rfl) ?_
   refine zAO ?_
   exact ends [_, _, _] [1101, 1102, 1103] (.cons (.cell rfl rfl isAgg28 sizeOf28 (nle rfl)) (.cons (.tmp rfl) (.cons (.tmp rfl) .nil))) (.cons (.agg (.cons .v (.cons (.row (len := (pvE d.mem).length) (xs := pvE d.mem) rfl rfl) (.cons (.row (len := (pvR (tagT d.runs)).length) (xs := pvR (tagT d.runs)) rfl rfl) (.cons (.row (len := (pvI d.snaps).length) (xs := pvI d.snaps) rfl rfl) .nil)))) (zAI (.v _) (zAI (.sl _ _ (FlatP.clean (zAd _))) (zAI (zAl _) (zAI (.sl _ _ (FlatP.clean (zA3 _))) zBE))))) (.cons (.one .v (.v _)) (.cons (.one .v (.v _)) .nil))) (by decide) trivial
theorem zJ8 (d : Eng) (hD : EB d) (a : Int) : Con Tryz.prog 18 [.agg [PV.v (.int .i64 d.seq), PV.sl false 4 (pvE d.mem), PV.sl false 1 (pvR (tagT d.runs)), PV.sl false 1 (pvI d.snaps)], .one (PV.v (.int .i64 a))] [] [.agg [.v (.int .i64 ((zGQ d a).1.seq)), .sl true 4 (pvE ((zGQ d a).1.mem)), .sl true 1 (pvR (tagT (zGQ d a).1.runs)), .sl true 1 (pvI ((zGQ d a).1.snaps))], .one (.v (.int .i64 ((zGQ d a).2)))] := by
 refine zAQ func18 rfl rfl rfl rfl ?_
 have hl1 := zAF d.mem
 have hl2 := zAi (tagT d.runs)
 have hl3 := zAT d.snaps
 have hl4 := zBU d.runs
 refine zAB (zAA rfl (.run [] [2] rfl (zBO rfl 2 rfl rfl (by decide) rfl (by decide)) (.run [] [4] rfl (zAj rfl 4 zBk rfl (by decide) rfl (by decide)) (.a rfl rfl .nil))) ?_)
 refine zAB ?_
 refine zAB (zAA rfl (.r rfl (zAG rfl rfl rfl isAgg28 sizeOf28 (nle rfl)) (.run [900] [] rfl (zAK rfl 900 (X := []) en7 rfl (.val nod) (.cons (.agg (.cons (.bor .v) (.cons (.bor (.sl nod)) (.cons (.bor (.sl nod)) (.cons (.bor (.sl nod)) .nil))))) .nil) (by decide) all_nil .nil (zCa d hD) rfl rfl (nle rfl)) (.r rfl (zA5 (b := okB d.seq d.mem (tagT d.runs) d.snaps) rfl rfl) .nil))) ?_)
 refine zAZ (t := (!(okB d.seq d.mem (tagT d.runs) d.snaps))) rfl (fun h1 => ?_) (fun h1 => ?_)
 ·
  replace h1 : (okB d.seq d.mem (tagT d.runs) d.snaps) = false := zBF h1
  refine zAB ?_
  have hw : okB d.seq d.mem (tagT d.runs) d.snaps = false := by simpa using h1
  rw [freei_w hw]
  refine zAA rfl (.r rfl (zBC (pl := [(0, 1), (1, 1), (2, 1), (3, 1)]) rfl underlying28 zBk (by kernel_rfl) rfl rfl) (.r rfl (zAE rfl rfl rfl rfl rfl sizeOf28 rfl (nle rfl)) (.a rfl rfl .nil))) ?_
  refine zAO ?_
  exact ends [_, _] [] (.cons (.cell rfl rfl isAgg28 sizeOf28 (nle rfl)) (.cons (.tmp rfl) .nil)) (.cons (.agg (.cons .v (.cons (.nil _) (.cons (.nil _) (.cons (.nil _) .nil)))) (zAI (.v _) (zAI (.sl _ _ (fun _ h => nomatch h)) (zAI (.sl _ _ (fun _ h => nomatch h)) (zAI (.sl _ _ (fun _ h => nomatch h)) zBE))))) (.cons (.one .v (.v _)) .nil)) (by decide) trivial
 ·
  replace h1 : (okB d.seq d.mem (tagT d.runs) d.snaps) = true := zBG h1
  refine zAM ?_
  refine zAB ?_
  have hok : okB d.seq d.mem (tagT d.runs) d.snaps = true := by simpa using h1
  have hsm := zBr hok
  have hm1 := hsm.mem
  have hm2 := hsm.runs
  have hm3 := hsm.snaps
  have hm4 := hsm.seq
  have hal := zFF hok
  have hav := zAF (allI d)
  refine zAA rfl (.r rfl (zAG rfl rfl rfl isAgg28 sizeOf28 (nle rfl)) (.run [1300, 1301, 1302, 1303] [] rfl (zAK rfl 1300 (X := []) en34 rfl (.val nod) (.cons (.agg (.cons (.bor .v) (.cons (.bor (.sl nod)) (.cons (.bor (.sl nod)) (.cons (.bor (.sl nod)) .nil))))) .nil) (by decide) all_nil .nil (zFh d hsm) rfl rfl (nle rfl)) (.run [] [6] rfl (zAj rfl 6 zBk rfl (by decide) rfl (by decide)) (.r rfl (zAE rfl rfl rfl rfl rfl sizeOf28 rfl (nle rfl)) .nil)))) ?_
  refine zAB (zAA rfl (.r rfl (zAC rfl rfl underlying28 rfl sizeOf26 (by decide)) (.r rfl (zAD rfl rfl rfl isAgg26 rfl) (.m rfl rfl (.run [1303, 1700] [] rfl (zAK rfl 1700 (X := []) en50 rfl (.val nod) (.cons (.one (.bor (.all (len := (pvI d.snaps).length) (xs := pvI d.snaps) rfl rfl (by decide)))) (.cons (.one (.bor .v)) .nil)) (by decide) all_nil .nil (zIG d.snaps a (by omega)) rfl rfl (nle rfl)) (.a rfl rfl .nil))))) ?_)
  refine zAB ?_
  refine zAB ?_
  refine zAY (s' := mk [(4, .ptr 4 0), (6, .ptr 6 0), (7, .vi (idxF (fun x => decide (a = x)) d.snaps))] [(4, [.vi 0, .nils, .nils, .nils]), (6, [.vi d.seq, .sl 1301 0 ((pvE d.mem).length), .sl 1302 0 ((pvR (tagT d.runs)).length), .sl 1303 0 ((pvI d.snaps).length)])] [(1301, 4, pvE d.mem), (1302, 1, pvR (tagT d.runs)), (1303, 1, pvI d.snaps)]) ?_ ?_
  · exact zAJ ⟨rfl, rfl, rfl, trivial⟩ ⟨rfl, rfl, trivial⟩ ⟨rfl, rfl, rfl, trivial⟩ rfl
  refine zAA rfl (.m rfl rfl (.r rfl (zA4 rfl rfl rfl) .nil)) ?_
  refine zAZ (t := decide ((idxF (fun x => decide (a = x)) d.snaps) < 0)) rfl (fun h2 => ?_) (fun h2 => ?_)
  ·
   replace h2 := of_decide_eq_true h2
   refine zAB ?_
   rw [freei_n hok h2]
   refine zAA rfl (.r rfl (zAG rfl rfl rfl isAgg28 sizeOf28 (nle rfl)) (.r rfl (zAE rfl rfl rfl rfl rfl sizeOf28 rfl (nle rfl)) (.a rfl rfl .nil))) ?_
   refine zAO ?_
   exact ends [_, _] [1301, 1302, 1303] (.cons (.cell rfl rfl isAgg28 sizeOf28 (nle rfl)) (.cons (.tmp rfl) .nil)) (.cons (.agg (.cons .v (.cons (.row (len := (pvE d.mem).length) (xs := pvE d.mem) rfl rfl) (.cons (.row (len := (pvR (tagT d.runs)).length) (xs := pvR (tagT d.runs)) rfl rfl) (.cons (.row (len := (pvI d.snaps).length) (xs := pvI d.snaps) rfl rfl) .nil)))) (zAI (.v _) (zAI (.sl _ _ (FlatP.clean (zAd _))) (zAI (zAl _) (zAI (.sl _ _ (FlatP.clean (zA3 _))) zBE))))) (.cons (.one .v (.v _)) .nil)) (by decide) trivial
  ·
   replace h2 := of_decide_eq_false h2
   refine zAM ?_
   refine zAB ?_
   rw [zOe hok h2]
   obtain ⟨k, hk, hkl, hkk⟩ := idx_nat h2
   rw [hkk]
   refine zAY (s' := mk [(4, .ptr 4 0), (6, .ptr 6 0), (7, .vi (k:Int))] [(4, [.vi 0, .nils, .nils, .nils]), (6, [.vi d.seq, .sl 1301 0 ((pvE d.mem).length), .sl 1302 0 ((pvR (tagT d.runs)).length), .sl 1303 0 ((pvI d.snaps).length)])] [(1301, 4, pvE d.mem), (1302, 1, pvR (tagT d.runs)), (1303, 1, pvI d.snaps)]) ?_ ?_
   · exact zAJ ⟨rfl, rfl, (zAL hk), trivial⟩ ⟨rfl, rfl, trivial⟩ ⟨rfl, rfl, rfl, trivial⟩ rfl
   refine zAA rfl (.r rfl (zAC rfl rfl underlying28 rfl sizeOf26 (by decide)) (.r rfl (zAD rfl rfl rfl isAgg26 rfl) (.m rfl rfl (.m rfl rfl (.r rfl (zAf rfl rfl rfl (by omega)) (.run [1303, 2600] [] rfl (zAK rfl 2600 (X := [1303]) en51 rfl (.val nod) (.cons (.one (.own (len := (pvI d.snaps).length) (xs := pvI d.snaps) rfl rfl)) (.cons (.one (.bor .v)) (.cons (.one (.bor .v)) .nil))) (by decide) (all_cons rfl all_nil) (.gone .nil) (zLL d.snaps k (by omega) (by omega)) rfl rfl (nle rfl)) (.r rfl (zAC rfl rfl underlying28 rfl sizeOf26 (by decide)) (.r rfl (zAE rfl rfl rfl rfl rfl sizeOf26 rfl (nle rfl)) .nil)))))))) ?_
   refine zAB (zAA rfl (.r rfl (zAG rfl rfl rfl isAgg28 sizeOf28 (nle rfl)) (.r rfl (zAE rfl rfl rfl rfl rfl sizeOf28 rfl (nle rfl)) (.a rfl rfl .nil))) ?_)
   refine zAO ?_
   exact ends [_, _] [1301, 1302, 2600] (.cons (.cell rfl rfl isAgg28 sizeOf28 (nle rfl)) (.cons (.tmp rfl) .nil)) (.cons (.agg (.cons .v (.cons (.row (len := (pvE d.mem).length) (xs := pvE d.mem) rfl rfl) (.cons (.row (len := (pvR (tagT d.runs)).length) (xs := pvR (tagT d.runs)) rfl rfl) (.cons (.row (len := (pvI (d.snaps.eraseIdx k)).length) (xs := pvI (d.snaps.eraseIdx k)) rfl rfl) .nil)))) (zAI (.v _) (zAI (.sl _ _ (FlatP.clean (zAd _))) (zAI (zAl _) (zAI (.sl _ _ (FlatP.clean (zA3 _))) zBE))))) (.cons (.one .v (.v _)) .nil)) (by decide) trivial
theorem zGJ (d : Eng) (hD : EB d) : Con Tryz.prog 10 [.agg [PV.v (.int .i64 d.seq), PV.sl false 4 (pvE d.mem), PV.sl false 1 (pvR (tagT d.runs)), PV.sl false 1 (pvI d.snaps)]] [] [.agg [.v (.int .i64 ((zBg d).1.seq)), .sl true 4 (pvE ((zBg d).1.mem)), .sl true 1 (pvR (tagT (zBg d).1.runs)), .sl true 1 (pvI ((zBg d).1.snaps))], .one (.v (.int .i64 ((zBg d).2)))] := by
 refine zAQ func10 rfl rfl rfl rfl ?_
 have hl1 := zAF d.mem
 have hl2 := zAi (tagT d.runs)
 have hl3 := zAT d.snaps
 have hl4 := zBU d.runs
 refine zAB (zAA rfl (.run [] [1] rfl (zBO rfl 1 rfl rfl (by decide) rfl (by decide)) (.run [] [2] rfl (zAj rfl 2 zBk rfl (by decide) rfl (by decide)) (.a rfl rfl .nil))) ?_)
 refine zAB ?_
 refine zAB (zAA rfl (.r rfl (zAG rfl rfl rfl isAgg28 sizeOf28 (nle rfl)) (.run [700] [] rfl (zAK rfl 700 (X := []) en7 rfl (.val nod) (.cons (.agg (.cons (.bor .v) (.cons (.bor (.sl nod)) (.cons (.bor (.sl nod)) (.cons (.bor (.sl nod)) .nil))))) .nil) (by decide) all_nil .nil (zCa d hD) rfl rfl (nle rfl)) (.r rfl (zA5 (b := okB d.seq d.mem (tagT d.runs) d.snaps) rfl rfl) .nil))) ?_)
 refine zAZ (t := (!(okB d.seq d.mem (tagT d.runs) d.snaps))) rfl (fun h1 => ?_) (fun h1 => ?_)
 ·
  replace h1 : (okB d.seq d.mem (tagT d.runs) d.snaps) = false := zBF h1
  refine zAB ?_
  have hw : okB d.seq d.mem (tagT d.runs) d.snaps = false := by simpa using h1
  rw [compi_w hw]
  refine zAA rfl (.r rfl (zBC (pl := [(0, 1), (1, 1), (2, 1), (3, 1)]) rfl underlying28 zBk (by kernel_rfl) rfl rfl) (.r rfl (zAE rfl rfl rfl rfl rfl sizeOf28 rfl (nle rfl)) (.a rfl rfl .nil))) ?_
  refine zAO ?_
  exact ends [_, _] [] (.cons (.cell rfl rfl isAgg28 sizeOf28 (nle rfl)) (.cons (.tmp rfl) .nil)) (.cons (.agg (.cons .v (.cons (.nil _) (.cons (.nil _) (.cons (.nil _) .nil)))) (zAI (.v _) (zAI (.sl _ _ (fun _ h => nomatch h)) (zAI (.sl _ _ (fun _ h => nomatch h)) (zAI (.sl _ _ (fun _ h => nomatch h)) zBE))))) (.cons (.one .v (.v _)) .nil)) (by decide) trivial
 ·
  replace h1 : (okB d.seq d.mem (tagT d.runs) d.snaps) = true := zBG h1
  refine zAM ?_
  refine zAB ?_
  have hok : okB d.seq d.mem (tagT d.runs) d.snaps = true := by simpa using h1
  have hsm := zBr hok
  have hm1 := hsm.mem
  have hm2 := hsm.runs
  have hm3 := hsm.snaps
  have hm4 := hsm.seq
  have hal := zFF hok
  have hav := zAF (allI d)
  refine zAA rfl (.r rfl (zAG rfl rfl rfl isAgg28 sizeOf28 (nle rfl)) (.run [1100, 1101, 1102, 1103] [] rfl (zAK rfl 1100 (X := []) en34 rfl (.val nod) (.cons (.agg (.cons (.bor .v) (.cons (.bor (.sl nod)) (.cons (.bor (.sl nod)) (.cons (.bor (.sl nod)) .nil))))) .nil) (by decide) all_nil .nil (zFh d hsm) rfl rfl (nle rfl)) (.run [] [4] rfl (zAj rfl 4 zBk rfl (by decide) rfl (by decide)) (.r rfl (zAE rfl rfl rfl rfl rfl sizeOf28 rfl (nle rfl)) .nil)))) ?_
  refine zAB ?_
  refine zAB (zAA rfl (.r rfl (zAC rfl rfl underlying28 rfl sizeOf25 (by decide)) (.r rfl (zAD rfl rfl rfl isAgg25 rfl) (.r rfl (zAX rfl rfl underlying25) (.r rfl (zA8 rfl rfl rfl) .nil)))) ?_)
  refine zAZ (t := decide (((pvR (tagT d.runs)).length : Int) = 0)) rfl (fun h2 => ?_) (fun h2 => ?_)
  ·
   replace h2 := of_decide_eq_true h2
   refine zAB ?_
   rw [zOx hok (by omega)]
   refine zAY (s' := mk [(2, .ptr 2 0), (4, .ptr 4 0)] [(2, [.vi 0, .nils, .nils, .nils]), (4, [.vi d.seq, .sl 1101 0 ((pvE d.mem).length), .sl 1102 0 ((pvR (tagT d.runs)).length), .sl 1103 0 ((pvI d.snaps).length)])] [(1101, 4, pvE d.mem), (1102, 1, pvR (tagT d.runs)), (1103, 1, pvI d.snaps)]) ?_ ?_
   · exact zAJ ⟨rfl, rfl, trivial⟩ ⟨rfl, rfl, trivial⟩ ⟨rfl, rfl, rfl, trivial⟩ rfl
   refine zAA rfl (.r rfl (zAG rfl rfl rfl isAgg28 sizeOf28 (nle rfl)) (.r rfl (zAE rfl rfl rfl rfl rfl sizeOf28 rfl (nle rfl)) (.a rfl rfl .nil))) ?_
   refine zAO ?_
   exact ends [_, _] [1101, 1102, 1103] (.cons (.cell rfl rfl isAgg28 sizeOf28 (nle rfl)) (.cons (.tmp rfl) .nil)) (.cons (.agg (.cons .v (.cons (.row (len := (pvE d.mem).length) (xs := pvE d.mem) rfl rfl) (.cons (.row (len := (pvR (tagT d.runs)).length) (xs := pvR (tagT d.runs)) rfl rfl) (.cons (.row (len := (pvI d.snaps).length) (xs := pvI d.snaps) rfl rfl) .nil)))) (zAI (.v _) (zAI (.sl _ _ (FlatP.clean (zAd _))) (zAI (zAl _) (zAI (.sl _ _ (FlatP.clean (zA3 _))) zBE))))) (.cons (.one .v (.v _)) .nil)) (by decide) trivial
  ·
   replace h2 := of_decide_eq_false h2
   refine zAM ?_
   refine zAB ?_
   rw [zOw hok (by omega)]
   have hcl := zAF (zCX (rowI d) d.snaps)
   have hej := zAF (ents (tagT d.runs))
   refine zAY (s' := mk [(1, .ptr 1 0), (2, .ptr 2 0), (4, .ptr 4 0)] [(1, [.vi d.seq, .p none (.sl false 4 (pvE d.mem)), .p none (.sl false 1 (pvR (tagT d.runs))), .p none (.sl false 1 (pvI d.snaps))]), (2, [.vi 0, .nils, .nils, .nils]), (4, [.vi d.seq, .sl 1101 0 ((pvE d.mem).length), .sl 1102 0 ((pvR (tagT d.runs)).length), .sl 1103 0 ((pvI d.snaps).length)])] [(1101, 4, pvE d.mem), (1102, 1, pvR (tagT d.runs)), (1103, 1, pvI d.snaps)]) ?_ ?_
   · exact zAJ ⟨rfl, rfl, rfl, trivial⟩ ⟨rfl, rfl, rfl, trivial⟩ ⟨rfl, rfl, rfl, trivial⟩ rfl
   refine zAc zBL rfl (.r rfl (zAC rfl rfl underlying28 rfl sizeOf25 (by decide)) (.r rfl (zAD rfl rfl rfl isAgg25 rfl) (.run [1900] [] rfl (zAK rfl 1900 (X := []) en25 rfl (.val nod) (.cons (.one (.bor (.sl nod))) .nil) (by decide) all_nil .nil (zMW d hsm) rfl rfl (nle rfl)) (.run [1900, 2000] [] rfl (zAK rfl 2000 (X := []) en37 rfl (.val nod) (.cons (.one (.bor (.all (len := (pvE (ents (tagT d.runs))).length) (xs := pvE (ents (tagT d.runs))) rfl rfl (by decide)))) .nil) (by decide) all_nil .nil (zP9 d hok) rfl rfl (nle rfl)) (.r rfl (zAC rfl rfl underlying28 rfl sizeOf26 (by decide)) (.r rfl (zAD rfl rfl rfl isAgg26 rfl) (.run [2000, 2300] [] rfl (zAK rfl 2300 (X := []) en36 rfl (.val nod) (.cons (.one (.bor (.all (len := (pvE (rowI d)).length) (xs := pvE (rowI d)) rfl rfl (by decide)))) (.cons (.one (.bor (.sl nod))) (.cons (.one (.bor .v)) .nil))) (by decide) all_nil .nil (zLN d hok) rfl rfl (nle rfl)) (.a rfl rfl .nil)))))))) (by kernel_rfl) ?_
   refine zAB (zAA rfl (.r rfl (zAC rfl rfl underlying28 rfl sizeOf25 (by decide)) (.r rfl (zAE rfl rfl rfl rfl rfl sizeOf25 rfl (nle rfl)) .nil)) ?_)
   refine zAB ?_
   refine zAB (zAA rfl (.m rfl rfl (.r rfl (zAy rfl rfl underlying24) (.r rfl (zBN rfl rfl rfl) .nil))) ?_)
   refine zAZ (t := decide (0 < ((pvE (zCX (rowI d) d.snaps)).length : Int))) rfl (fun h3 => ?_) (fun h3 => ?_)
   ·
    replace h3 := of_decide_eq_true h3
    rw [zON (by omega)]
    refine zAY (s' := mk [(2, .ptr 2 0), (4, .ptr 4 0), (5, .sl 2300 0 ((pvE (zCX (rowI d) d.snaps)).length))] [(2, [.vi 0, .nils, .nils, .nils]), (4, [.vi d.seq, .sl 1101 0 ((pvE d.mem).length), .nils, .sl 1103 0 ((pvI d.snaps).length)])] [(1101, 4, pvE d.mem), (1103, 1, pvI d.snaps), (2300, 4, pvE (zCX (rowI d) d.snaps))]) ?_ ?_
    · exact zAJ ⟨rfl, rfl, rfl, trivial⟩ ⟨rfl, rfl, trivial⟩ ⟨rfl, rfl, rfl, trivial⟩ rfl
    refine zAA rfl (.m rfl rfl (.r rfl (zBC (pl := [(0, 1)]) rfl underlying61 zDP (by kernel_rfl) rfl rfl) (.run [3000, 2300] [] rfl (zAR rfl 3000 underlying25 zDP (nle rfl) (by decide) rfl rfl rfl (.cons (.row rfl rfl) .nil) (by decide) rfl (by decide) rfl (by decide) rfl) (.r rfl (zAC rfl rfl underlying28 rfl sizeOf25 (by decide)) (.r rfl (zAE rfl rfl rfl rfl rfl sizeOf25 rfl (nle rfl)) .nil))))) ?_
    refine zAB (zAA rfl (.r rfl (zAG rfl rfl rfl isAgg28 sizeOf28 (nle rfl)) (.r rfl (zAE rfl rfl rfl rfl rfl sizeOf28 rfl (nle rfl)) (.a rfl rfl .nil))) ?_)
    refine zAO ?_
    exact ends [_, _] [1101, 3000, 1103] (.cons (.cell rfl rfl isAgg28 sizeOf28 (nle rfl)) (.cons (.tmp rfl) .nil)) (.cons (.agg (.cons .v (.cons (.row (len := (pvE d.mem).length) (xs := pvE d.mem) rfl rfl) (.cons (.row (len := 1) (xs := [[PV.sl true 4 (pvE (zCX (rowI d) d.snaps))]]) rfl rfl) (.cons (.row (len := (pvI d.snaps).length) (xs := pvI d.snaps) rfl rfl) .nil)))) (zAI (.v _) (zAI (.sl _ _ (FlatP.clean (zAd _))) (zAI (show Clean (PV.sl true 1 (pvR (tagT [zCX (rowI d) d.snaps]))) from zAl _) (zAI (.sl _ _ (FlatP.clean (zA3 _))) zBE))))) (.cons (.one .v (.v _)) .nil)) (by decide) trivial
   ·
    replace h3 := of_decide_eq_false h3
    refine zAM ?_
    refine zAB ?_
    rw [zOO (by omega)]
    refine zAA rfl (.r rfl (zAG rfl rfl rfl isAgg28 sizeOf28 (nle rfl)) (.r rfl (zAE rfl rfl rfl rfl rfl sizeOf28 rfl (nle rfl)) (.a rfl rfl .nil))) ?_
    refine zAO ?_
    exact ends [_, _] [1101, 1103] (.cons (.cell rfl rfl isAgg28 sizeOf28 (nle rfl)) (.cons (.tmp rfl) .nil)) (.cons (.agg (.cons .v (.cons (.row (len := (pvE d.mem).length) (xs := pvE d.mem) rfl rfl) (.cons (.nil _) (.cons (.row (len := (pvI d.snaps).length) (xs := pvI d.snaps) rfl rfl) .nil)))) (zAI (.v _) (zAI (.sl _ _ (FlatP.clean (zAd _))) (zAI (.sl _ _ (fun _ h => nomatch h)) (zAI (.sl _ _ (FlatP.clean (zA3 _))) zBE))))) (.cons (.one .v (.v _)) .nil)) (by decide) trivial
end Go.Rl

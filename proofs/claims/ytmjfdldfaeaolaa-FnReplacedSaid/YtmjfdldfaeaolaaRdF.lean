/- Promises of functions, proved by walks over their operations; no conditions beyond those that each theorem states. -/
import Derived.Test.YtmjfdldfaeaolaaRdE
import Derived.Test.YtmjfdldfaeaolaaRlV
namespace Go.Rl
open Go.Proofs Go.RowKit Go.Lib

set_option maxHeartbeats 4000000 in
set_option maxRecDepth 100000 in
theorem insF_shift (k c n i vb vc : Nat) (cur vcur : Array Value) (ty vty : TypeId) (vs : List Value) (w : World) (hi : i < n) (hroom : n + 1 ≤ c) (hc63 : c ≤ 9223372036854775807) (hvb : vb ≠ k)
    (hk : w.heap[k]? = some (.cells cur ty (0, 0))) (hcz : cur.size = c * 2) (hv : w.heap[vb]? = some (.cells vcur vty (0, 0))) (hvz : vcur.size ≠ 0) (hvl : vs.length = 2) (hvs : ∀ (j : Nat) (v : Value), vs[j]? = some v → vcur[j]? = some v)
    (h1c : ∀ (j : Nat) (v : Value), j < n * 2 → cur[j]? = some v → v.oneCell' = true) (h1v : ∀ v ∈ vs, v.oneCell' = true) :
    Calls Try.prog 71 #[.slice (some ⟨k, 0, none⟩) n c, .int .i64 i, .slice (some ⟨vb, 0, none⟩) 1 vc] w fun e w' =>
      e = .returned (.slice (some ⟨k, 0, none⟩) (n + 1) c) ∧ w' = w.drew.setRow k (over (over cur.toList ((i + 1) * 2) ((cur.toList.take (n * 2)).drop (i * 2))) (i * 2) vs).toArray := by
  have hz1 : ¬ ((1 : Int) = 0) := by omega
  have hz2 : ¬ ((i : Int) = (n : Int)) := by omega
  have hsz : (Try.prog.info? 69).map (·.size) = some 2 := by kernel_rfl
  have hov : ∀ lb cb, (callFunc 90 #[.slice (some ⟨vb, 0, none⟩) 1 vc, .slice (some ⟨k, (i + 1) * 2, none⟩) lb cb]).run Try.prog w = .ok (.value (.bool false)) w := fun lb cb => by
    rw [run_callFunc_extern Try.func90 (by kernel_rfl) (by kernel_rfl) (by kernel_rfl) (e := Extern.SlicesOverlaps.overlaps #[24, 24] #[4]) (by kernel_rfl),
      Lib.run_overlaps_apart w 24 4 69 Try.underlying24 2 Try.sizeOf69 ⟨vb, 0, none⟩ ⟨k, (i + 1) * 2, none⟩ 1 vc lb cb hvb vty ty vcur.size cur.size (by simp [World.shape?, hv]) (by simp [World.shape?, hk]) (by omega) (by simp [World.frozen?, hv]) (by simp [World.frozen?, hv])]
    rfl
  have mixed := mixed
  have hcl : cur.toList.length = c * 2 := by simpa using hcz
  obtain ⟨cs, hcs⟩ : ∃ cs, cs = (cur.toList.take (n * 2)).drop (i * 2) := ⟨_, rfl⟩
  have hcsl : cs.length = (n - i) * 2 := by rw [hcs, List.length_drop, List.length_take, hcl]; omega
  have hcsg : ∀ (j : Nat) (v : Value), cs[j]? = some v → cur[i * 2 + j]? = some v := fun j v h => by
    rw [hcs, List.getElem?_drop, List.getElem?_take] at h
    split at h
    · simpa using h
    · cases h
  have hcs1 : ∀ v ∈ cs, v.oneCell' = true := fun v h => by
    obtain ⟨j, hj⟩ := List.getElem?_of_mem h
    have hlt := (List.getElem?_eq_some_iff.1 hj).1
    exact h1c _ v (by omega) (hcsg j v hj)
  have hfit1 : (i + 1) * 2 + cs.length ≤ cur.toList.length := by omega
  have hlen1 : (over cur.toList ((i + 1) * 2) cs).length = c * 2 := by rw [over_len hfit1, hcl]
  rw [← hcs]
  have hcp1 : ∀ ty' dc sc, (Builtin.copy_ #[24, 24] ty' #[.slice (some ⟨k, (i + 1) * 2, none⟩) (n - i) dc, .slice (some ⟨k, i * 2, none⟩) (n + 1 - i) sc]).run Try.prog w.drew = .ok (goInt (Nat.min (n + 1 - i) (n - i))) (w.drew.setRow k (over cur.toList ((i + 1) * 2) cs).toArray) := fun ty' dc sc =>
    run_copy_N w.drew _ _ ty' 69 k ((i + 1) * 2) (n - i) dc ⟨k, i * 2, none⟩ (n + 1 - i) sc 2 cur ty cs Try.underlying24 hsz hk (by rw [hcsl]; simp only [Nat.min_def]; split <;> omega)
      (fun j v hj => by rw [Addr.add_lit, cell_row (w := w.drew) hk]; exact hcsg j v hj) (by simpa using hfit1) hcs1
  obtain ⟨C1, hC1⟩ : ∃ C1, C1 = (over cur.toList ((i + 1) * 2) cs).toArray := ⟨_, rfl⟩
  have hC1l : C1.size = c * 2 := by rw [hC1]; simpa using hlen1
  obtain ⟨W1, hW1⟩ : ∃ W1, W1 = w.drew.setRow k C1 := ⟨_, rfl⟩
  have hk1 : W1.heap[k]? = some (.cells C1 ty (0, 0)) := by rw [hW1]; exact setRow_heap w.drew k cur C1 ty (0, 0) hk
  have hv1 : W1.heap[vb]? = some (.cells vcur vty (0, 0)) := by rw [hW1, setRow_other _ _ _ _ hvb]; exact hv
  have hcp2 : ∀ ty' dc, (Builtin.copy_ #[24, 24] ty' #[.slice (some ⟨k, i * 2, none⟩) (n + 1 - i) dc, .slice (some ⟨vb, 0, none⟩) 1 vc]).run Try.prog W1 = .ok (goInt (Nat.min 1 (n + 1 - i))) (W1.setRow k (over C1.toList (i * 2) vs).toArray) := fun ty' dc =>
    run_copy_N W1 _ _ ty' 69 k (i * 2) (n + 1 - i) dc ⟨vb, 0, none⟩ 1 vc 2 C1 ty vs Try.underlying24 hsz hk1 (by rw [hvl]; simp only [Nat.min_def]; split <;> omega)
      (fun j v hj => by rw [Addr.add_lit, cell_row hv1, Nat.zero_add]; exact hvs j v hj) (by rw [hvl]; omega) h1v
  have hfin : W1.setRow k (over C1.toList (i * 2) vs).toArray = w.drew.setRow k (over (over cur.toList ((i + 1) * 2) cs) (i * 2) vs).toArray := by
    rw [hW1, setRow_setRow, hC1]
  rw [← hC1, ← hW1] at hcp1
  have hw1 : IntKind.i64.wrap ((i : Int) + 1) = (i : Int) + 1 := by rw [IntKind.wrap_i64]; omega
  have hb1 : (0 : Int) ≤ (i : Int) + 1 := by omega
  have hin : i ≤ n := by omega
  have htn : ((i : Int) + 1).toNat = i + 1 := by omega
  have hb2 : ¬ (c = i + 1) := by omega
  have hb3 : (i : Int) ≤ (n : Int) + 1 := by omega
  have hb4 : ¬ (c = i) := by omega
  clear hcs hcsl hcsg hcs1 hfit1 hlen1 hC1 hC1l hW1 hk1 hv1 hcz hcl hvl
  go_enter Try.func71, Try.ntmps71
  go_wp2_with (simp only [hov])
  go_region_law_o (refine step_copy_runI rfl _ _ 24 24 rfl _ _ (by simp [Act.eval, Act.put]) (by simp [Act.eval, Act.put]) (hcp1 _ _ _) ?_)
  go_wp2_with (at_builtin; refine wpList_copy_runI _ rfl _ _ 24 24 rfl _ _ rfl rfl (hcp2 _ _) ?_)
  go_ret
  exact ⟨rfl, rfl⟩

set_option maxHeartbeats 4000000 in
set_option maxRecDepth 100000 in
theorem insF_grow (k c n i vb vc : Nat) (cur vcur : Array Value) (ty vty : TypeId) (vs : List Value) (w : World) (hi : i < n) (hnc : n ≤ c) (hroom : c < n + 1) (hbig : n ≤ 1000000000) (hvb : vb ≠ k)
    (hk : w.heap[k]? = some (.cells cur ty (0, 0))) (hcz : cur.size = c * 2) (hv : w.heap[vb]? = some (.cells vcur vty (0, 0))) (hvl : vs.length = 2) (hvs : ∀ (j : Nat) (v : Value), vs[j]? = some v → vcur[j]? = some v)
    (h1c : ∀ (j : Nat) (v : Value), j < n * 2 → cur[j]? = some v → v.oneCell' = true) (h1v : ∀ v ∈ vs, v.oneCell' = true) :
    Calls Try.prog 71 #[.slice (some ⟨k, 0, none⟩) n c, .int .i64 i, .slice (some ⟨vb, 0, none⟩) 1 vc] w fun e w' =>
      ∃ (G : Nat) (zs : List Value) (N : Array Value) (W : World), e = .returned (.slice (some ⟨w.heap.size, 0, none⟩) (n + 1) G) ∧ n + 1 ≤ G ∧ G ≤ maxLen ∧ zs.length = (G - n - 1) * 2 ∧
        N = (cur.toList.take (i * 2) ++ vs ++ ((cur.toList.take (n * 2)).drop (i * 2)) ++ zs).toArray ∧ w' = W ∧ W.heap[w.heap.size]? = some (.cells N 69 (0, 0)) ∧ Same [] w W := by
  have hz1 : ¬ ((1 : Int) = 0) := by omega
  have hz2 : ¬ ((i : Int) = (n : Int)) := by omega
  have hz3 : (c : Int) < (n : Int) + 1 := by omega
  have mixed := mixed
  have hcn : c = n := by omega
  subst hcn
  have hinf : (Try.prog.info? 69).map (fun i => (i.zero, i.size, i.bytes)) = some (some (.agg #[.string ⟨#[]⟩, .string ⟨#[]⟩] : Value), 2, 32) := by kernel_rfl
  obtain ⟨i0, hi0, hz0, hzs, hzb⟩ := info_of hinf
  have hsz : (Try.prog.info? 69).map (·.size) = some 2 := by rw [hi0]; simp [hzs]
  have hcl : cur.toList.length = c * 2 := by simpa using hcz
  have hbw : k < w.heap.size := (Array.getElem?_eq_some_iff.1 hk).1
  have hvw : vb < w.heap.size := (Array.getElem?_eq_some_iff.1 hv).1
  obtain ⟨hd, hhd⟩ : ∃ hd, hd = cur.toList.take (i * 2) := ⟨_, rfl⟩
  have hhl : hd.length = i * 2 := by rw [hhd, List.length_take, hcl]; omega
  have hold : (Builtin.firstCells i0.size i (.slice (some ⟨k, 0, none⟩) i c)).run Try.prog w.drew = .ok hd.toArray w.drew := by
    rw [hzs]
    exact run_firstCells_some w.drew 2 i ⟨k, 0, none⟩ i c hd (by rw [hhl]) (fun j v hj => by
      rw [Addr.add_lit, cell_row (w := w.drew) hk, Nat.zero_add]
      rw [hhd, List.getElem?_take] at hj
      split at hj
      · simpa using hj
      · cases hj)
  obtain ⟨G, hG⟩ : ∃ G, G = grownCap w (c + 1) c 69 := ⟨_, rfl⟩
  have hik : i + (c + 1 - i) = c + 1 := by omega
  have hkk : (c : Int) + 1 - (i : Int) = ((c + 1 - i : Nat) : Int) := by omega
  obtain ⟨ROW, hROW⟩ : ∃ ROW : Array Value, ROW = hd.toArray ++ Builtin.zeroCells (.agg #[.string ⟨#[]⟩, .string ⟨#[]⟩] : Value).cells (c + 1 - i) ++ Builtin.zeroCells (.agg #[.string ⟨#[]⟩, .string ⟨#[]⟩] : Value).cells (G - (c + 1)) := ⟨_, rfl⟩
  have hGn : c + 1 ≤ G := by rw [hG]; exact grownCap_ge w _ _ _
  have hGm : G ≤ maxLen := by rw [hG]; exact grownCap_le_maxLen w (c + 1) c 69 (by unfold maxLen; omega)
  have hrz : ∀ ty', (Builtin.append_ #[24, 3] ty' #[.slice (some ⟨k, 0, none⟩) i c, .int .i64 ((c : Int) + 1 - (i : Int))]).run Try.prog w =
      .ok (.slice (some ⟨w.heap.size, 0, none⟩) (c + 1) G) (w.drew.alloc (.cells ROW 69)) := fun ty' => by
    have h := Lib.run_append_grow_zeros w 24 3 ty' 69 i0 _ .i64 .i64 Try.underlying24 Try.underlying3 hi0 hz0 (some ⟨k, 0, none⟩) i c hd hold (c + 1 - i) (by omega) (by omega) (by omega) (by omega) (by rw [hzb]; omega) (by rw [hzb, hik]; exact growslice_fits (by omega) (by omega))
    rw [hik, ← hG] at h
    rw [hkk, hROW]
    exact h
  have hzl : ∀ q, (Builtin.zeroCells (.agg #[.string ⟨#[]⟩, .string ⟨#[]⟩] : Value).cells q).size = q * 2 := fun q => by simp [Builtin.zeroCells, Value.cells]
  have hRl : ROW.size = G * 2 := by
    rw [hROW, Array.size_append, Array.size_append, hzl, hzl, List.size_toArray, hhl]
    omega
  obtain ⟨cs, hcs⟩ : ∃ cs, cs = (cur.toList.take (c * 2)).drop (i * 2) := ⟨_, rfl⟩
  have hcsl : cs.length = (c - i) * 2 := by rw [hcs, List.length_drop, List.length_take, hcl]; omega
  have hcsg : ∀ (j : Nat) (v : Value), cs[j]? = some v → cur[i * 2 + j]? = some v := fun j v h => by
    rw [hcs, List.getElem?_drop, List.getElem?_take] at h
    split at h
    · simpa using h
    · cases h
  have hcs1 : ∀ v ∈ cs, v.oneCell' = true := fun v h => by
    obtain ⟨j, hj⟩ := List.getElem?_of_mem h
    have hlt := (List.getElem?_eq_some_iff.1 hj).1
    exact h1c _ v (by omega) (hcsg j v hj)
  obtain ⟨W1, hW1⟩ : ∃ W1, W1 = w.drew.alloc (.cells ROW 69) := ⟨_, rfl⟩
  rw [← hW1] at hrz
  have hN1 : W1.heap[w.heap.size]? = some (.cells ROW 69 (0, 0)) := by rw [hW1]; show (w.heap.push _)[w.heap.size]? = _; simp
  have hO1 : ∀ q, q < w.heap.size → W1.heap[q]? = w.heap[q]? := fun q hq => by rw [hW1]; show (w.heap.push _)[q]? = _; rw [Array.getElem?_push, if_neg (Nat.ne_of_lt hq)]
  have hcpA : ∀ ty' dc, (Builtin.copy_ #[24, 24] ty' #[.slice (some ⟨w.heap.size, i * 2, none⟩) (c + 1 - i) dc, .slice (some ⟨vb, 0, none⟩) 1 vc]).run Try.prog W1 = .ok (goInt (Nat.min 1 (c + 1 - i))) (W1.setRow w.heap.size (over ROW.toList (i * 2) vs).toArray) := fun ty' dc =>
    run_copy_N W1 _ _ ty' 69 w.heap.size (i * 2) (c + 1 - i) dc ⟨vb, 0, none⟩ 1 vc 2 ROW 69 vs Try.underlying24 hsz hN1 (by rw [hvl]; simp only [Nat.min_def]; split <;> omega)
      (fun j v hj => by rw [Addr.add_lit, cell_row ((hO1 vb hvw).trans hv), Nat.zero_add]; exact hvs j v hj) (by rw [hvl, hRl]; omega) h1v
  obtain ⟨C1, hC1⟩ : ∃ C1, C1 = (over ROW.toList (i * 2) vs).toArray := ⟨_, rfl⟩
  have hfitA : i * 2 + vs.length ≤ ROW.toList.length := by rw [hvl]; simp [hRl]; omega
  have hC1l : C1.size = G * 2 := by rw [hC1]; simp [over_len hfitA, hRl]
  obtain ⟨W2, hW2⟩ : ∃ W2, W2 = W1.setRow w.heap.size C1 := ⟨_, rfl⟩
  rw [← hC1, ← hW2] at hcpA
  have hN2 : W2.heap[w.heap.size]? = some (.cells C1 69 (0, 0)) := by rw [hW2]; exact setRow_heap W1 _ ROW C1 69 (0, 0) hN1
  have hO2 : ∀ q, q < w.heap.size → W2.heap[q]? = w.heap[q]? := fun q hq => by rw [hW2, setRow_other _ _ _ _ (Nat.ne_of_lt hq)]; exact hO1 q hq
  have hcpB : ∀ ty' dc sc, (Builtin.copy_ #[24, 24] ty' #[.slice (some ⟨w.heap.size, (i + 1) * 2, none⟩) (c - i) dc, .slice (some ⟨k, i * 2, none⟩) (c - i) sc]).run Try.prog W2.drew = .ok (goInt (Nat.min (c - i) (c - i))) (W2.drew.setRow w.heap.size (over C1.toList ((i + 1) * 2) cs).toArray) := fun ty' dc sc =>
    run_copy_N W2.drew _ _ ty' 69 w.heap.size ((i + 1) * 2) (c - i) dc ⟨k, i * 2, none⟩ (c - i) sc 2 C1 69 cs Try.underlying24 hsz hN2 (by rw [hcsl]; simp only [Nat.min_def]; split <;> omega)
      (fun j v hj => by rw [Addr.add_lit, cell_row (w := W2.drew) ((hO2 k hbw).trans hk)]; exact hcsg j v hj) (by rw [hcsl, hC1l]; omega) hcs1
  have hfin : (over C1.toList ((i + 1) * 2) cs).toArray = (hd ++ vs ++ cs ++ ROW.toList.drop ((c + 1) * 2)).toArray := by
    congr 1
    rw [hC1]
    have h1 : ROW.toList.take (i * 2) = hd := by
      rw [hROW]
      simp only [Array.toList_append, List.toList_toArray, List.append_assoc]
      rw [← hhl, List.take_left]
    simp only [over, List.toList_toArray]
    rw [h1, hvl, hcsl]
    have h2 : (hd ++ vs).length = (i + 1) * 2 := by rw [List.length_append, hhl, hvl]; omega
    rw [← h2, List.take_left, h2]
    rw [List.drop_append, h2, List.drop_of_length_le (by rw [h2]; omega), List.nil_append, List.drop_drop]
    congr 2
    omega
  have hzsl : (ROW.toList.drop ((c + 1) * 2)).length = (G - c - 1) * 2 := by rw [List.length_drop, Array.length_toList, hRl]; omega
  have hsame : Same [] w (W2.drew.setRow w.heap.size (over C1.toList ((i + 1) * 2) cs).toArray) := by
    refine ⟨by rw [hW2, hW1]; rfl, by rw [hW2, hW1]; rfl, by rw [hW2, hW1]; rfl, ?_, fun q hq _ => ?_⟩
    · rw [setRow_size]; show w.heap.size ≤ W2.heap.size; rw [hW2, setRow_size, hW1]; show w.heap.size ≤ (w.heap.push _).size; simp
    · rw [setRow_other _ _ _ _ (Nat.ne_of_lt hq)]; exact hO2 q hq
  have hlast : (W2.drew.setRow w.heap.size (over C1.toList ((i + 1) * 2) cs).toArray).heap[w.heap.size]? = some (.cells (hd ++ vs ++ cs ++ ROW.toList.drop ((c + 1) * 2)).toArray 69 (0, 0)) := by
    rw [← hfin]
    exact setRow_heap W2.drew _ C1 _ 69 (0, 0) hN2
  rw [← hhd, ← hcs]
  have hw1 : IntKind.i64.wrap ((i : Int) + 1) = (i : Int) + 1 := by rw [IntKind.wrap_i64]; omega
  have hb1 : (0 : Int) ≤ (i : Int) + 1 := by omega
  have hin : i ≤ c := by omega
  have htn : ((i : Int) + 1).toNat = i + 1 := by omega
  have hb3 : (i : Int) ≤ (c : Int) := by omega
  have hGi : ¬ (G = i) := by omega
  have hGim : ¬ (G = i + 1) := by omega
  have hci : ¬ (c = i) := by omega
  have hG63 : G ≤ 9223372036854775807 := by unfold maxLen at hGm; omega
  clear hcl hhl hold hG hik hkk hROW hRl hcsl hcsg hcs1 hW1 hN1 hO1 hC1 hfitA hC1l hW2 hN2 hO2 hfin hzs hzl hcz hvl hhd hcs
  go_enter Try.func71, Try.ntmps71
  go_wp2_with (first
    | (at_builtin; refine Lib.wpList_append_run _ rfl _ _ _ _ rfl _ _ rfl rfl _ _ (hrz _) ?_)
    | (at_builtin; refine wpList_copy_runI _ rfl _ _ 24 24 rfl _ _ rfl rfl (hcpA _ _) ?_))
  go_region_law_o (refine step_copy_runI rfl _ _ 24 24 rfl _ _ (by simp [Act.eval, Act.put]) (by simp [Act.eval, Act.put]) (hcpB _ _ _) ?_)
  go_wp2
  go_ret
  exact ⟨G, _, _, _, rfl, hGn, hGm, hzsl, rfl, rfl, hlast, hsame⟩

set_option maxRecDepth 1000000 in
set_option maxHeartbeats 2000000 in
theorem insFEnd_con (l : List Fil) (e : Fil) (hl : l.length ≤ 1000000) : Con Try.prog 71 [.one (.sl true 2 (pvF l)), .one (PV.v (.int .i64 (l.length:Int))), .one (.sl true 2 (pvF [e]))] [none, none] [.one (.sl true 2 (pvF (l ++ [e])))] := by
  refine con_of_tr Try.func71 rfl rfl rfl rfl ?_
  refine tr_wk (s' := mk [(0, .sl 100000 0 ((pvF l).length)), (1, .p none (.v (.int .i64 (l.length:Int)))), (2, .sl 300000 0 ((pvF [e]).length))] [] [(100000, 2, pvF l), (300000, 2, pvF [e])]) (wk_mk ⟨by kernel_rfl, ⟨by kernel_rfl, ⟨by kernel_rfl, trivial⟩⟩⟩ trivial ⟨by kernel_rfl, ⟨by kernel_rfl, trivial⟩⟩ rfl) ?_
  have hle := pvF_length l
  have hle2 := pvF_length [e]
  simp only [List.length_cons, List.length_nil] at hle2
  refine tr_seq ?_
  refine tr_region rfl (.run [] [] rfl (st_assign rfl) .nil) ?_
  refine tr_seq ?_
  refine tr_region rfl (.run [] [] rfl (st_move rfl) (.run [] [] rfl (st_move rfl) (.run [] [] rfl (st_cut_row0 (l := l.length) (h := (pvF l).length) rfl rfl rfl Try.underlying24 Try.sizeOf69 (.at_ rfl rfl) .no (by omega) (Nat.le_refl _) rfl) .nil))) ?_
  refine tr_seq ?_
  refine tr_region rfl (.run [] [] rfl (st_move rfl) (.run [] [] rfl (st_len_row rfl rfl Try.underlying24) (.run [] [] rfl (st_assign rfl) .nil))) ?_
  refine tr_seq ?_
  refine tr_seq ?_
  refine tr_region rfl (.run [] [] rfl (st_move rfl) (.run [] [] rfl (st_eql rfl rfl rfl) .nil)) ?_
  refine tr_if (t := decide (((pvF [e]).length : Int) = 0)) rfl (fun h1 => ?_) (fun h1 => ?_)
  · skip
    replace h1 := of_decide_eq_true h1
    simp [pvF_length] at h1
  · skip
    replace h1 := of_decide_eq_false h1
    refine tr_skip ?_
    refine tr_seq ?_
    refine tr_region rfl (.run [] [] rfl (st_move rfl) (.run [] [] rfl (st_len_row rfl rfl Try.underlying24) (.run [] [] rfl (st_assign rfl) .nil))) ?_
    refine tr_seq ?_
    refine tr_seq ?_
    refine tr_region rfl (.run [] [] rfl (st_move rfl) (.run [] [] rfl (st_move rfl) (.run [] [] rfl (st_eql rfl rfl rfl) .nil))) ?_
    refine tr_if (t := decide ((l.length:Int) = ((pvF l).length : Int))) rfl (fun h2 => ?_) (fun h2 => ?_)
    · skip
      replace h2 := of_decide_eq_true h2
      refine tr_seq ?_
      refine tr_wk (s' := mk [(0, .sl 100000 0 ((pvF l).length)), (2, .sl 300000 0 ((pvF [e]).length))] [] [(100000, 2, pvF l), (300000, 2, pvF [e])]) ?_ ?_
      · exact wk_mk ⟨rfl, ⟨rfl, trivial⟩⟩ trivial ⟨rfl, ⟨rfl, trivial⟩⟩ rfl
      refine tr_region rfl (.run [] [] rfl (st_move rfl) (.run [] [] rfl (st_move rfl) (.run [2500] [] rfl (st_append rfl 2500 (ib := 100000) (len := ((pvF l) ++ (((pvF [e]).drop 0).take ((pvF [e]).length))).length) rfl rfl (.row (len := (pvF l).length) (xs := pvF l) rfl rfl (.inr rfl)) (.row rfl (by omega) (pvF_flat [e])) Try.underlying24 (sk Try.underlying24 rfl) inf69 rfl (by decide) (by decide) (by decide) List.length_append (by simp only [maxLen, List.length_append, List.length_map, List.length_cons, List.length_nil, List.length_take, List.length_drop, pvF_length, pvD_length]; omega) (by simp only [maxLen, List.length_append, List.length_map, List.length_cons, List.length_nil, List.length_take, List.length_drop, pvF_length, pvD_length]; omega)) (.run [] [] rfl (st_assign rfl) .nil)))) ?_
      have hr3 : (pvF l) ++ (((pvF [e]).drop 0).take ((pvF [e]).length)) = pvF (l ++ [e]) := by simp [pvF]
      have hp4 : (.sl 2500 0 (((pvF l) ++ (((pvF [e]).drop 0).take ((pvF [e]).length))).length) : AV) = .sl 2500 0 ((pvF (l ++ [e])).length) := by simp only [hr3]
      refine tr_wk (s' := mk [(6, .sl 2500 0 ((pvF (l ++ [e])).length))] [] [(2500, 2, pvF (l ++ [e])), (300000, 2, pvF [e])]) ?_ ?_
      · exact wk_mk ⟨hp4, trivial⟩ trivial ⟨(congrArg (fun x => some (2, x)) hr3), ⟨rfl, trivial⟩⟩ rfl
      refine tr_ret ?_
      exact ends [_] [2500] (.cons (.tmp rfl) .nil) (.cons (.one (.row (len := (pvF (l ++ [e])).length) (xs := pvF (l ++ [e])) rfl rfl) (.sl _ _ (FlatP.clean (pvF_flat _)))) .nil) (by decide) ⟨trivial, trivial, trivial⟩
    · skip
      replace h2 := of_decide_eq_false h2
      omega

theorem insF_con (l : List Fil) (e : Fil) (i : Nat) (hi : i ≤ l.length) (hl : l.length ≤ 1000000) : Con Try.prog 71 [.one (.sl true 2 (pvF l)), .one (.v (.int .i64 (i:Int))), .one (.sl true 2 (pvF [e]))] [none, none] [.one (.sl true 2 (pvF (l.take i ++ e :: l.drop i)))] := by
  rcases Nat.lt_or_ge i l.length with h | h
  · have := con_insert (P := Try.prog) (f := 71) (sz := 2) (E := 69) (by decide) insF_shift insF_grow (pvF l) e.pv i (by rw [pvF_length]; exact h) (by rw [pvF_length]; omega) (pvF_flat l) (pvF_flat [e])
    have h2 : (pvF l).take i ++ e.pv :: (pvF l).drop i = pvF (l.take i ++ e :: l.drop i) := by simp [pvF, List.map_take, List.map_drop]
    rw [h2] at this
    exact this
  · have hil : i = l.length := by omega
    subst hil
    have := insFEnd_con l e hl
    rwa [List.take_length, List.drop_length]


set_option maxHeartbeats 4000000 in
set_option maxRecDepth 100000 in
theorem insD_shift (k c n i vb vc : Nat) (cur vcur : Array Value) (ty vty : TypeId) (vs : List Value) (w : World) (hi : i < n) (hroom : n + 1 ≤ c) (hc63 : c ≤ 9223372036854775807) (hvb : vb ≠ k)
    (hk : w.heap[k]? = some (.cells cur ty (0, 0))) (hcz : cur.size = c * 4) (hv : w.heap[vb]? = some (.cells vcur vty (0, 0))) (hvz : vcur.size ≠ 0) (hvl : vs.length = 4) (hvs : ∀ (j : Nat) (v : Value), vs[j]? = some v → vcur[j]? = some v)
    (h1c : ∀ (j : Nat) (v : Value), j < n * 4 → cur[j]? = some v → v.oneCell' = true) (h1v : ∀ v ∈ vs, v.oneCell' = true) :
    Calls Try.prog 53 #[.slice (some ⟨k, 0, none⟩) n c, .int .i64 i, .slice (some ⟨vb, 0, none⟩) 1 vc] w fun e w' =>
      e = .returned (.slice (some ⟨k, 0, none⟩) (n + 1) c) ∧ w' = w.drew.setRow k (over (over cur.toList ((i + 1) * 4) ((cur.toList.take (n * 4)).drop (i * 4))) (i * 4) vs).toArray := by
  have hz1 : ¬ ((1 : Int) = 0) := by omega
  have hz2 : ¬ ((i : Int) = (n : Int)) := by omega
  have hsz : (Try.prog.info? 36).map (·.size) = some 4 := by kernel_rfl
  have hov : ∀ lb cb, (callFunc 80 #[.slice (some ⟨vb, 0, none⟩) 1 vc, .slice (some ⟨k, (i + 1) * 4, none⟩) lb cb]).run Try.prog w = .ok (.value (.bool false)) w := fun lb cb => by
    rw [run_callFunc_extern Try.func80 (by kernel_rfl) (by kernel_rfl) (by kernel_rfl) (e := Extern.SlicesOverlaps.overlaps #[25, 25] #[4]) (by kernel_rfl),
      Lib.run_overlaps_apart w 25 4 36 Try.underlying25 4 Try.sizeOf36 ⟨vb, 0, none⟩ ⟨k, (i + 1) * 4, none⟩ 1 vc lb cb hvb vty ty vcur.size cur.size (by simp [World.shape?, hv]) (by simp [World.shape?, hk]) (by omega) (by simp [World.frozen?, hv]) (by simp [World.frozen?, hv])]
    rfl
  have mixed := mixed
  have hcl : cur.toList.length = c * 4 := by simpa using hcz
  obtain ⟨cs, hcs⟩ : ∃ cs, cs = (cur.toList.take (n * 4)).drop (i * 4) := ⟨_, rfl⟩
  have hcsl : cs.length = (n - i) * 4 := by rw [hcs, List.length_drop, List.length_take, hcl]; omega
  have hcsg : ∀ (j : Nat) (v : Value), cs[j]? = some v → cur[i * 4 + j]? = some v := fun j v h => by
    rw [hcs, List.getElem?_drop, List.getElem?_take] at h
    split at h
    · simpa using h
    · cases h
  have hcs1 : ∀ v ∈ cs, v.oneCell' = true := fun v h => by
    obtain ⟨j, hj⟩ := List.getElem?_of_mem h
    have hlt := (List.getElem?_eq_some_iff.1 hj).1
    exact h1c _ v (by omega) (hcsg j v hj)
  have hfit1 : (i + 1) * 4 + cs.length ≤ cur.toList.length := by omega
  have hlen1 : (over cur.toList ((i + 1) * 4) cs).length = c * 4 := by rw [over_len hfit1, hcl]
  rw [← hcs]
  have hcp1 : ∀ ty' dc sc, (Builtin.copy_ #[25, 25] ty' #[.slice (some ⟨k, (i + 1) * 4, none⟩) (n - i) dc, .slice (some ⟨k, i * 4, none⟩) (n + 1 - i) sc]).run Try.prog w.drew = .ok (goInt (Nat.min (n + 1 - i) (n - i))) (w.drew.setRow k (over cur.toList ((i + 1) * 4) cs).toArray) := fun ty' dc sc =>
    run_copy_N w.drew _ _ ty' 36 k ((i + 1) * 4) (n - i) dc ⟨k, i * 4, none⟩ (n + 1 - i) sc 4 cur ty cs Try.underlying25 hsz hk (by rw [hcsl]; simp only [Nat.min_def]; split <;> omega)
      (fun j v hj => by rw [Addr.add_lit, cell_row (w := w.drew) hk]; exact hcsg j v hj) (by simpa using hfit1) hcs1
  obtain ⟨C1, hC1⟩ : ∃ C1, C1 = (over cur.toList ((i + 1) * 4) cs).toArray := ⟨_, rfl⟩
  have hC1l : C1.size = c * 4 := by rw [hC1]; simpa using hlen1
  obtain ⟨W1, hW1⟩ : ∃ W1, W1 = w.drew.setRow k C1 := ⟨_, rfl⟩
  have hk1 : W1.heap[k]? = some (.cells C1 ty (0, 0)) := by rw [hW1]; exact setRow_heap w.drew k cur C1 ty (0, 0) hk
  have hv1 : W1.heap[vb]? = some (.cells vcur vty (0, 0)) := by rw [hW1, setRow_other _ _ _ _ hvb]; exact hv
  have hcp2 : ∀ ty' dc, (Builtin.copy_ #[25, 25] ty' #[.slice (some ⟨k, i * 4, none⟩) (n + 1 - i) dc, .slice (some ⟨vb, 0, none⟩) 1 vc]).run Try.prog W1 = .ok (goInt (Nat.min 1 (n + 1 - i))) (W1.setRow k (over C1.toList (i * 4) vs).toArray) := fun ty' dc =>
    run_copy_N W1 _ _ ty' 36 k (i * 4) (n + 1 - i) dc ⟨vb, 0, none⟩ 1 vc 4 C1 ty vs Try.underlying25 hsz hk1 (by rw [hvl]; simp only [Nat.min_def]; split <;> omega)
      (fun j v hj => by rw [Addr.add_lit, cell_row hv1, Nat.zero_add]; exact hvs j v hj) (by rw [hvl]; omega) h1v
  have hfin : W1.setRow k (over C1.toList (i * 4) vs).toArray = w.drew.setRow k (over (over cur.toList ((i + 1) * 4) cs) (i * 4) vs).toArray := by
    rw [hW1, setRow_setRow, hC1]
  rw [← hC1, ← hW1] at hcp1
  have hw1 : IntKind.i64.wrap ((i : Int) + 1) = (i : Int) + 1 := by rw [IntKind.wrap_i64]; omega
  have hb1 : (0 : Int) ≤ (i : Int) + 1 := by omega
  have hin : i ≤ n := by omega
  have htn : ((i : Int) + 1).toNat = i + 1 := by omega
  have hb2 : ¬ (c = i + 1) := by omega
  have hb3 : (i : Int) ≤ (n : Int) + 1 := by omega
  have hb4 : ¬ (c = i) := by omega
  clear hcs hcsl hcsg hcs1 hfit1 hlen1 hC1 hC1l hW1 hk1 hv1 hcz hcl hvl
  go_enter Try.func53, Try.ntmps53
  go_wp2_with (simp only [hov])
  go_region_law_o (refine step_copy_runI rfl _ _ 25 25 rfl _ _ (by simp [Act.eval, Act.put]) (by simp [Act.eval, Act.put]) (hcp1 _ _ _) ?_)
  go_wp2_with (at_builtin; refine wpList_copy_runI _ rfl _ _ 25 25 rfl _ _ rfl rfl (hcp2 _ _) ?_)
  go_ret
  exact ⟨rfl, rfl⟩

set_option maxHeartbeats 4000000 in
set_option maxRecDepth 100000 in
theorem insD_grow (k c n i vb vc : Nat) (cur vcur : Array Value) (ty vty : TypeId) (vs : List Value) (w : World) (hi : i < n) (hnc : n ≤ c) (hroom : c < n + 1) (hbig : n ≤ 1000000000) (hvb : vb ≠ k)
    (hk : w.heap[k]? = some (.cells cur ty (0, 0))) (hcz : cur.size = c * 4) (hv : w.heap[vb]? = some (.cells vcur vty (0, 0))) (hvl : vs.length = 4) (hvs : ∀ (j : Nat) (v : Value), vs[j]? = some v → vcur[j]? = some v)
    (h1c : ∀ (j : Nat) (v : Value), j < n * 4 → cur[j]? = some v → v.oneCell' = true) (h1v : ∀ v ∈ vs, v.oneCell' = true) :
    Calls Try.prog 53 #[.slice (some ⟨k, 0, none⟩) n c, .int .i64 i, .slice (some ⟨vb, 0, none⟩) 1 vc] w fun e w' =>
      ∃ (G : Nat) (zs : List Value) (N : Array Value) (W : World), e = .returned (.slice (some ⟨w.heap.size, 0, none⟩) (n + 1) G) ∧ n + 1 ≤ G ∧ G ≤ maxLen ∧ zs.length = (G - n - 1) * 4 ∧
        N = (cur.toList.take (i * 4) ++ vs ++ ((cur.toList.take (n * 4)).drop (i * 4)) ++ zs).toArray ∧ w' = W ∧ W.heap[w.heap.size]? = some (.cells N 36 (0, 0)) ∧ Same [] w W := by
  have hz1 : ¬ ((1 : Int) = 0) := by omega
  have hz2 : ¬ ((i : Int) = (n : Int)) := by omega
  have hz3 : (c : Int) < (n : Int) + 1 := by omega
  have mixed := mixed
  have hcn : c = n := by omega
  subst hcn
  have hinf : (Try.prog.info? 36).map (fun i => (i.zero, i.size, i.bytes)) = some (some (.agg #[.int .i64 0, .string ⟨#[]⟩, .string ⟨#[]⟩, .string ⟨#[]⟩] : Value), 4, 56) := by kernel_rfl
  obtain ⟨i0, hi0, hz0, hzs, hzb⟩ := info_of hinf
  have hsz : (Try.prog.info? 36).map (·.size) = some 4 := by rw [hi0]; simp [hzs]
  have hcl : cur.toList.length = c * 4 := by simpa using hcz
  have hbw : k < w.heap.size := (Array.getElem?_eq_some_iff.1 hk).1
  have hvw : vb < w.heap.size := (Array.getElem?_eq_some_iff.1 hv).1
  obtain ⟨hd, hhd⟩ : ∃ hd, hd = cur.toList.take (i * 4) := ⟨_, rfl⟩
  have hhl : hd.length = i * 4 := by rw [hhd, List.length_take, hcl]; omega
  have hold : (Builtin.firstCells i0.size i (.slice (some ⟨k, 0, none⟩) i c)).run Try.prog w.drew = .ok hd.toArray w.drew := by
    rw [hzs]
    exact run_firstCells_some w.drew 4 i ⟨k, 0, none⟩ i c hd (by rw [hhl]) (fun j v hj => by
      rw [Addr.add_lit, cell_row (w := w.drew) hk, Nat.zero_add]
      rw [hhd, List.getElem?_take] at hj
      split at hj
      · simpa using hj
      · cases hj)
  obtain ⟨G, hG⟩ : ∃ G, G = grownCap w (c + 1) c 36 := ⟨_, rfl⟩
  have hik : i + (c + 1 - i) = c + 1 := by omega
  have hkk : (c : Int) + 1 - (i : Int) = ((c + 1 - i : Nat) : Int) := by omega
  obtain ⟨ROW, hROW⟩ : ∃ ROW : Array Value, ROW = hd.toArray ++ Builtin.zeroCells (.agg #[.int .i64 0, .string ⟨#[]⟩, .string ⟨#[]⟩, .string ⟨#[]⟩] : Value).cells (c + 1 - i) ++ Builtin.zeroCells (.agg #[.int .i64 0, .string ⟨#[]⟩, .string ⟨#[]⟩, .string ⟨#[]⟩] : Value).cells (G - (c + 1)) := ⟨_, rfl⟩
  have hGn : c + 1 ≤ G := by rw [hG]; exact grownCap_ge w _ _ _
  have hGm : G ≤ maxLen := by rw [hG]; exact grownCap_le_maxLen w (c + 1) c 36 (by unfold maxLen; omega)
  have hrz : ∀ ty', (Builtin.append_ #[25, 3] ty' #[.slice (some ⟨k, 0, none⟩) i c, .int .i64 ((c : Int) + 1 - (i : Int))]).run Try.prog w =
      .ok (.slice (some ⟨w.heap.size, 0, none⟩) (c + 1) G) (w.drew.alloc (.cells ROW 36)) := fun ty' => by
    have h := Lib.run_append_grow_zeros w 25 3 ty' 36 i0 _ .i64 .i64 Try.underlying25 Try.underlying3 hi0 hz0 (some ⟨k, 0, none⟩) i c hd hold (c + 1 - i) (by omega) (by omega) (by omega) (by omega) (by rw [hzb]; omega) (by rw [hzb, hik]; exact growslice_fits (by omega) (by omega))
    rw [hik, ← hG] at h
    rw [hkk, hROW]
    exact h
  have hzl : ∀ q, (Builtin.zeroCells (.agg #[.int .i64 0, .string ⟨#[]⟩, .string ⟨#[]⟩, .string ⟨#[]⟩] : Value).cells q).size = q * 4 := fun q => by simp [Builtin.zeroCells, Value.cells]
  have hRl : ROW.size = G * 4 := by
    rw [hROW, Array.size_append, Array.size_append, hzl, hzl, List.size_toArray, hhl]
    omega
  obtain ⟨cs, hcs⟩ : ∃ cs, cs = (cur.toList.take (c * 4)).drop (i * 4) := ⟨_, rfl⟩
  have hcsl : cs.length = (c - i) * 4 := by rw [hcs, List.length_drop, List.length_take, hcl]; omega
  have hcsg : ∀ (j : Nat) (v : Value), cs[j]? = some v → cur[i * 4 + j]? = some v := fun j v h => by
    rw [hcs, List.getElem?_drop, List.getElem?_take] at h
    split at h
    · simpa using h
    · cases h
  have hcs1 : ∀ v ∈ cs, v.oneCell' = true := fun v h => by
    obtain ⟨j, hj⟩ := List.getElem?_of_mem h
    have hlt := (List.getElem?_eq_some_iff.1 hj).1
    exact h1c _ v (by omega) (hcsg j v hj)
  obtain ⟨W1, hW1⟩ : ∃ W1, W1 = w.drew.alloc (.cells ROW 36) := ⟨_, rfl⟩
  rw [← hW1] at hrz
  have hN1 : W1.heap[w.heap.size]? = some (.cells ROW 36 (0, 0)) := by rw [hW1]; show (w.heap.push _)[w.heap.size]? = _; simp
  have hO1 : ∀ q, q < w.heap.size → W1.heap[q]? = w.heap[q]? := fun q hq => by rw [hW1]; show (w.heap.push _)[q]? = _; rw [Array.getElem?_push, if_neg (Nat.ne_of_lt hq)]
  have hcpA : ∀ ty' dc, (Builtin.copy_ #[25, 25] ty' #[.slice (some ⟨w.heap.size, i * 4, none⟩) (c + 1 - i) dc, .slice (some ⟨vb, 0, none⟩) 1 vc]).run Try.prog W1 = .ok (goInt (Nat.min 1 (c + 1 - i))) (W1.setRow w.heap.size (over ROW.toList (i * 4) vs).toArray) := fun ty' dc =>
    run_copy_N W1 _ _ ty' 36 w.heap.size (i * 4) (c + 1 - i) dc ⟨vb, 0, none⟩ 1 vc 4 ROW 36 vs Try.underlying25 hsz hN1 (by rw [hvl]; simp only [Nat.min_def]; split <;> omega)
      (fun j v hj => by rw [Addr.add_lit, cell_row ((hO1 vb hvw).trans hv), Nat.zero_add]; exact hvs j v hj) (by rw [hvl, hRl]; omega) h1v
  obtain ⟨C1, hC1⟩ : ∃ C1, C1 = (over ROW.toList (i * 4) vs).toArray := ⟨_, rfl⟩
  have hfitA : i * 4 + vs.length ≤ ROW.toList.length := by rw [hvl]; simp [hRl]; omega
  have hC1l : C1.size = G * 4 := by rw [hC1]; simp [over_len hfitA, hRl]
  obtain ⟨W2, hW2⟩ : ∃ W2, W2 = W1.setRow w.heap.size C1 := ⟨_, rfl⟩
  rw [← hC1, ← hW2] at hcpA
  have hN2 : W2.heap[w.heap.size]? = some (.cells C1 36 (0, 0)) := by rw [hW2]; exact setRow_heap W1 _ ROW C1 36 (0, 0) hN1
  have hO2 : ∀ q, q < w.heap.size → W2.heap[q]? = w.heap[q]? := fun q hq => by rw [hW2, setRow_other _ _ _ _ (Nat.ne_of_lt hq)]; exact hO1 q hq
  have hcpB : ∀ ty' dc sc, (Builtin.copy_ #[25, 25] ty' #[.slice (some ⟨w.heap.size, (i + 1) * 4, none⟩) (c - i) dc, .slice (some ⟨k, i * 4, none⟩) (c - i) sc]).run Try.prog W2.drew = .ok (goInt (Nat.min (c - i) (c - i))) (W2.drew.setRow w.heap.size (over C1.toList ((i + 1) * 4) cs).toArray) := fun ty' dc sc =>
    run_copy_N W2.drew _ _ ty' 36 w.heap.size ((i + 1) * 4) (c - i) dc ⟨k, i * 4, none⟩ (c - i) sc 4 C1 36 cs Try.underlying25 hsz hN2 (by rw [hcsl]; simp only [Nat.min_def]; split <;> omega)
      (fun j v hj => by rw [Addr.add_lit, cell_row (w := W2.drew) ((hO2 k hbw).trans hk)]; exact hcsg j v hj) (by rw [hcsl, hC1l]; omega) hcs1
  have hfin : (over C1.toList ((i + 1) * 4) cs).toArray = (hd ++ vs ++ cs ++ ROW.toList.drop ((c + 1) * 4)).toArray := by
    congr 1
    rw [hC1]
    have h1 : ROW.toList.take (i * 4) = hd := by
      rw [hROW]
      simp only [Array.toList_append, List.toList_toArray, List.append_assoc]
      rw [← hhl, List.take_left]
    simp only [over, List.toList_toArray]
    rw [h1, hvl, hcsl]
    have h2 : (hd ++ vs).length = (i + 1) * 4 := by rw [List.length_append, hhl, hvl]; omega
    rw [← h2, List.take_left, h2]
    rw [List.drop_append, h2, List.drop_of_length_le (by rw [h2]; omega), List.nil_append, List.drop_drop]
    congr 2
    omega
  have hzsl : (ROW.toList.drop ((c + 1) * 4)).length = (G - c - 1) * 4 := by rw [List.length_drop, Array.length_toList, hRl]; omega
  have hsame : Same [] w (W2.drew.setRow w.heap.size (over C1.toList ((i + 1) * 4) cs).toArray) := by
    refine ⟨by rw [hW2, hW1]; rfl, by rw [hW2, hW1]; rfl, by rw [hW2, hW1]; rfl, ?_, fun q hq _ => ?_⟩
    · rw [setRow_size]; show w.heap.size ≤ W2.heap.size; rw [hW2, setRow_size, hW1]; show w.heap.size ≤ (w.heap.push _).size; simp
    · rw [setRow_other _ _ _ _ (Nat.ne_of_lt hq)]; exact hO2 q hq
  have hlast : (W2.drew.setRow w.heap.size (over C1.toList ((i + 1) * 4) cs).toArray).heap[w.heap.size]? = some (.cells (hd ++ vs ++ cs ++ ROW.toList.drop ((c + 1) * 4)).toArray 36 (0, 0)) := by
    rw [← hfin]
    exact setRow_heap W2.drew _ C1 _ 36 (0, 0) hN2
  rw [← hhd, ← hcs]
  have hw1 : IntKind.i64.wrap ((i : Int) + 1) = (i : Int) + 1 := by rw [IntKind.wrap_i64]; omega
  have hb1 : (0 : Int) ≤ (i : Int) + 1 := by omega
  have hin : i ≤ c := by omega
  have htn : ((i : Int) + 1).toNat = i + 1 := by omega
  have hb3 : (i : Int) ≤ (c : Int) := by omega
  have hGi : ¬ (G = i) := by omega
  have hGim : ¬ (G = i + 1) := by omega
  have hci : ¬ (c = i) := by omega
  have hG63 : G ≤ 9223372036854775807 := by unfold maxLen at hGm; omega
  clear hcl hhl hold hG hik hkk hROW hRl hcsl hcsg hcs1 hW1 hN1 hO1 hC1 hfitA hC1l hW2 hN2 hO2 hfin hzs hzl hcz hvl hhd hcs
  go_enter Try.func53, Try.ntmps53
  go_wp2_with (first
    | (at_builtin; refine Lib.wpList_append_run _ rfl _ _ _ _ rfl _ _ rfl rfl _ _ (hrz _) ?_)
    | (at_builtin; refine wpList_copy_runI _ rfl _ _ 25 25 rfl _ _ rfl rfl (hcpA _ _) ?_))
  go_region_law_o (refine step_copy_runI rfl _ _ 25 25 rfl _ _ (by simp [Act.eval, Act.put]) (by simp [Act.eval, Act.put]) (hcpB _ _ _) ?_)
  go_wp2
  go_ret
  exact ⟨G, _, _, _, rfl, hGn, hGm, hzsl, rfl, rfl, hlast, hsame⟩

set_option maxRecDepth 1000000 in
set_option maxHeartbeats 2000000 in
theorem insDEnd_con (l : List DOp) (e : DOp) (hl : l.length ≤ 1000000) : Con Try.prog 53 [.one (.sl true 4 (pvD l)), .one (PV.v (.int .i64 (l.length:Int))), .one (.sl true 4 (pvD [e]))] [none, none] [.one (.sl true 4 (pvD (l ++ [e])))] := by
  refine con_of_tr Try.func53 rfl rfl rfl rfl ?_
  refine tr_wk (s' := mk [(0, .sl 100000 0 ((pvD l).length)), (1, .p none (.v (.int .i64 (l.length:Int)))), (2, .sl 300000 0 ((pvD [e]).length))] [] [(100000, 4, pvD l), (300000, 4, pvD [e])]) (wk_mk ⟨by kernel_rfl, ⟨by kernel_rfl, ⟨by kernel_rfl, trivial⟩⟩⟩ trivial ⟨by kernel_rfl, ⟨by kernel_rfl, trivial⟩⟩ rfl) ?_
  have hle := pvD_length l
  have hle2 := pvD_length [e]
  simp only [List.length_cons, List.length_nil] at hle2
  refine tr_seq ?_
  refine tr_region rfl (.run [] [] rfl (st_assign rfl) .nil) ?_
  refine tr_seq ?_
  refine tr_region rfl (.run [] [] rfl (st_move rfl) (.run [] [] rfl (st_move rfl) (.run [] [] rfl (st_cut_row0 (l := l.length) (h := (pvD l).length) rfl rfl rfl Try.underlying25 Try.sizeOf36 (.at_ rfl rfl) .no (by omega) (Nat.le_refl _) rfl) .nil))) ?_
  refine tr_seq ?_
  refine tr_region rfl (.run [] [] rfl (st_move rfl) (.run [] [] rfl (st_len_row rfl rfl Try.underlying25) (.run [] [] rfl (st_assign rfl) .nil))) ?_
  refine tr_seq ?_
  refine tr_seq ?_
  refine tr_region rfl (.run [] [] rfl (st_move rfl) (.run [] [] rfl (st_eql rfl rfl rfl) .nil)) ?_
  refine tr_if (t := decide (((pvD [e]).length : Int) = 0)) rfl (fun h1 => ?_) (fun h1 => ?_)
  · skip
    replace h1 := of_decide_eq_true h1
    simp [pvD_length] at h1
  · skip
    replace h1 := of_decide_eq_false h1
    refine tr_skip ?_
    refine tr_seq ?_
    refine tr_region rfl (.run [] [] rfl (st_move rfl) (.run [] [] rfl (st_len_row rfl rfl Try.underlying25) (.run [] [] rfl (st_assign rfl) .nil))) ?_
    refine tr_seq ?_
    refine tr_seq ?_
    refine tr_region rfl (.run [] [] rfl (st_move rfl) (.run [] [] rfl (st_move rfl) (.run [] [] rfl (st_eql rfl rfl rfl) .nil))) ?_
    refine tr_if (t := decide ((l.length:Int) = ((pvD l).length : Int))) rfl (fun h2 => ?_) (fun h2 => ?_)
    · skip
      replace h2 := of_decide_eq_true h2
      refine tr_seq ?_
      refine tr_wk (s' := mk [(0, .sl 100000 0 ((pvD l).length)), (2, .sl 300000 0 ((pvD [e]).length))] [] [(100000, 4, pvD l), (300000, 4, pvD [e])]) ?_ ?_
      · exact wk_mk ⟨rfl, ⟨rfl, trivial⟩⟩ trivial ⟨rfl, ⟨rfl, trivial⟩⟩ rfl
      refine tr_region rfl (.run [] [] rfl (st_move rfl) (.run [] [] rfl (st_move rfl) (.run [2500] [] rfl (st_append rfl 2500 (ib := 100000) (len := ((pvD l) ++ (((pvD [e]).drop 0).take ((pvD [e]).length))).length) rfl rfl (.row (len := (pvD l).length) (xs := pvD l) rfl rfl (.inr rfl)) (.row rfl (by omega) (pvD_flat [e])) Try.underlying25 (sk Try.underlying25 rfl) inf36 rfl (by decide) (by decide) (by decide) List.length_append (by simp only [maxLen, List.length_append, List.length_map, List.length_cons, List.length_nil, List.length_take, List.length_drop, pvF_length, pvD_length]; omega) (by simp only [maxLen, List.length_append, List.length_map, List.length_cons, List.length_nil, List.length_take, List.length_drop, pvF_length, pvD_length]; omega)) (.run [] [] rfl (st_assign rfl) .nil)))) ?_
      have hr3 : (pvD l) ++ (((pvD [e]).drop 0).take ((pvD [e]).length)) = pvD (l ++ [e]) := by simp [pvD]
      have hp4 : (.sl 2500 0 (((pvD l) ++ (((pvD [e]).drop 0).take ((pvD [e]).length))).length) : AV) = .sl 2500 0 ((pvD (l ++ [e])).length) := by simp only [hr3]
      refine tr_wk (s' := mk [(6, .sl 2500 0 ((pvD (l ++ [e])).length))] [] [(2500, 4, pvD (l ++ [e])), (300000, 4, pvD [e])]) ?_ ?_
      · exact wk_mk ⟨hp4, trivial⟩ trivial ⟨(congrArg (fun x => some (4, x)) hr3), ⟨rfl, trivial⟩⟩ rfl
      refine tr_ret ?_
      exact ends [_] [2500] (.cons (.tmp rfl) .nil) (.cons (.one (.row (len := (pvD (l ++ [e])).length) (xs := pvD (l ++ [e])) rfl rfl) (.sl _ _ (FlatP.clean (pvD_flat _)))) .nil) (by decide) ⟨trivial, trivial, trivial⟩
    · skip
      replace h2 := of_decide_eq_false h2
      omega

theorem insD_con (l : List DOp) (e : DOp) (i : Nat) (hi : i ≤ l.length) (hl : l.length ≤ 1000000) : Con Try.prog 53 [.one (.sl true 4 (pvD l)), .one (.v (.int .i64 (i:Int))), .one (.sl true 4 (pvD [e]))] [none, none] [.one (.sl true 4 (pvD (l.take i ++ e :: l.drop i)))] := by
  rcases Nat.lt_or_ge i l.length with h | h
  · have := con_insert (P := Try.prog) (f := 53) (sz := 4) (E := 36) (by decide) insD_shift insD_grow (pvD l) e.pv i (by rw [pvD_length]; exact h) (by rw [pvD_length]; omega) (pvD_flat l) (pvD_flat [e])
    have h2 : (pvD l).take i ++ e.pv :: (pvD l).drop i = pvD (l.take i ++ e :: l.drop i) := by simp [pvD, List.map_take, List.map_drop]
    rw [h2] at this
    exact this
  · have hil : i = l.length := by omega
    subst hil
    have := insDEnd_con l e hl
    rwa [List.take_length, List.drop_length]

end Go.Rl
namespace Go.Rl
open Go.Proofs
theorem en69 : ∀ vs w, (callFunc 69 vs).run Try.prog w = .ok (.enter 69 vs) w := enters Try.func69 (by decide) rfl
theorem en70 : ∀ vs w, (callFunc 70 vs).run Try.prog w = .ok (.enter 70 vs) w := enters Try.func70 (by decide) rfl
theorem en71 : ∀ vs w, (callFunc 71 vs).run Try.prog w = .ok (.enter 71 vs) w := enters Try.func71 (by decide) rfl
theorem en72 : ∀ vs w, (callFunc 72 vs).run Try.prog w = .ok (.enter 72 vs) w := enters Try.func72 (by decide) rfl
set_option maxRecDepth 1000000 in
set_option maxHeartbeats 2000000 in
theorem done_con (l : List Fil) (op : DOp) (hs : Srt l) (hl : l.length ≤ 900000) (ht : totF l ≤ 1099511627776) (ho : op.data.size ≤ 1099511627776) : Con Try.prog 35 [.one (PV.sl false 2 (pvF l)), .agg [PV.v (.int .i64 op.kind), PV.v (.string op.name), PV.v (.string op.dest), PV.v (.string op.data)]] [] [.one (.sl true 2 (pvF (doneF l op).1)), .one (.v (.bool (doneF l op).2))] := by
  refine con_of_tr Try.func35 rfl rfl rfl rfl ?_
  have hle := pvF_length l
  refine tr_seq ?_
  refine tr_region rfl (.run [] [3] rfl (st_box rfl 3 rfl rfl (by decide) rfl (by decide)) (.run [] [] rfl (st_assign rfl) (.run [] [] rfl (st_assign rfl) .nil))) ?_
  refine tr_seq ?_
  refine tr_region rfl (.run [] [] rfl (st_move rfl) (.run [1300] [] rfl (st_call rfl 1300 (X := []) en69 rfl (.val nod) (.cons (.one (.bor (.sl nod))) .nil) (by decide) all_nil .nil (cloneF_con l (by omega)) rfl rfl (nle rfl)) (.run [] [] rfl (st_assign rfl) .nil))) ?_
  refine tr_seq ?_
  obtain ⟨k, hk⟩ : ∃ k, k = posF l op.name := ⟨_, rfl⟩
  have hkl : k ≤ l.length := by rw [hk]; exact pos_le l op.name
  refine tr_region rfl (.run [] [] rfl (st_move rfl) (.run [] [] rfl (st_faddr_box rfl rfl Try.underlying36 rfl Try.sizeOf9 (by decide)) (.run [] [] rfl (st_load_box1 rfl rfl rfl Try.isAgg9 rfl) (.run [1300, 1800, 1801] [] rfl (st_call rfl 1800 (X := []) en70 rfl (.val nod) (.cons (.one (.bor (.all (len := (pvF l).length) (xs := pvF l) rfl rfl (by decide)))) (.cons (.one (.bor .v)) .nil)) (by decide) all_nil .nil (find_con l op.name k hk hs (by omega)) rfl rfl (nle rfl)) (.run [] [] rfl (st_move rfl) (.run [] [] rfl (st_extract rfl rfl rfl) (.run [] [] rfl (st_extract rfl rfl rfl) (.run [] [] rfl (st_assign rfl) (.run [] [] rfl (st_assign rfl) .nil))))))))) ?_
  refine tr_seq ?_
  refine tr_seq ?_
  refine tr_wk (s' := mk [(3, .ptr 3 0), (6, .sl 1300 0 ((pvF l).length)), (7, .p none (.v (.int .i64 (k:Int)))), (8, .p none (.v (.bool (hasF l op.name))))] [(3, [.p none (.v (.int .i64 op.kind)), .p none (.v (.string op.name)), .p none (.v (.string op.dest)), .p none (.v (.string op.data))])] [(1300, 2, pvF l)]) ?_ ?_
  · exact wk_mk ⟨rfl, ⟨rfl, ⟨rfl, ⟨rfl, trivial⟩⟩⟩⟩ ⟨rfl, trivial⟩ ⟨rfl, trivial⟩ rfl
  refine tr_region rfl (.run [] [] rfl (st_faddr_box rfl rfl Try.underlying36 rfl Try.sizeOf2 (by decide)) (.run [] [] rfl (st_load_box1 rfl rfl rfl Try.isAgg2 rfl) (.run [] [] rfl (st_eql rfl rfl rfl) .nil))) ?_
  refine tr_if (t := decide (op.kind = 1)) rfl (fun h1 => ?_) (fun h1 => ?_)
  · skip
    replace h1 := of_decide_eq_true h1
    refine tr_seq ?_
    refine tr_seq ?_
    refine tr_region rfl (.run [] [] rfl (st_move rfl) (.run [] [] rfl (st_not (b := hasF l op.name) rfl rfl) .nil)) ?_
    refine tr_if (t := (!(hasF l op.name))) rfl (fun h2 => ?_) (fun h2 => ?_)
    · skip
      replace h2 : (hasF l op.name) = false := bnot_t h2
      refine tr_region rfl (.run [] [] rfl (st_move rfl) (.run [] [] rfl (st_move rfl) (.run [] [] rfl (st_faddr_box rfl rfl Try.underlying36 rfl Try.sizeOf9 (by decide)) (.run [] [] rfl (st_load_box1 rfl rfl rfl Try.isAgg9 rfl) (.run [] [] rfl (st_build (pl := [(0, 1), (1, 1)]) rfl Try.underlying69 inf69 (by kernel_rfl) rfl rfl) (.run [3100] [] rfl (st_buildSlice rfl 3100 Try.underlying24 inf69 (nle rfl) (by decide) rfl rfl rfl (.cons .v (.cons .v .nil)) (by decide) rfl (by decide) rfl (by decide) rfl) (.run [1300, 3100, 3200] [] rfl (st_call rfl 3200 (X := [1300, 3100]) en71 rfl (.val nod) (.cons (.one (.own (len := (pvF l).length) (xs := pvF l) rfl rfl)) (.cons (.one (.bor .v)) (.cons (.one (.own (len := 1) (xs := [[PV.v (.string op.name), PV.v (.string ⟨#[]⟩)]]) rfl rfl)) .nil))) (by decide) (all_cons rfl (all_cons rfl all_nil)) (.gone (.gone .nil)) (insF_con l (⟨op.name, ⟨#[]⟩⟩ : Fil) k (by omega) (by omega)) rfl rfl (nle rfl)) (.run [] [] rfl (st_assign rfl) .nil)))))))) ?_
      refine tr_seq ?_
      have hli : (l.take k ++ (⟨op.name, ⟨#[]⟩⟩ : Fil) :: l.drop k).length = l.length + 1 := by simp; omega
      have hlj := pvF_length (l.take k ++ (⟨op.name, ⟨#[]⟩⟩ : Fil) :: l.drop k)
      refine tr_wk (s' := mk [(3, .ptr 3 0), (6, .sl 3200 0 ((pvF (l.take k ++ (⟨op.name, ⟨#[]⟩⟩ : Fil) :: l.drop k)).length)), (7, .p none (.v (.int .i64 (k:Int))))] [(3, [.p none (.v (.int .i64 op.kind)), .p none (.v (.string op.name)), .p none (.v (.string op.dest)), .p none (.v (.string op.data))])] [(3200, 2, pvF (l.take k ++ (⟨op.name, ⟨#[]⟩⟩ : Fil) :: l.drop k))]) ?_ ?_
      · exact wk_mk ⟨rfl, ⟨rfl, ⟨rfl, trivial⟩⟩⟩ ⟨rfl, trivial⟩ ⟨rfl, trivial⟩ rfl
      refine tr_regionD mixed rfl (.run [] [] rfl (st_move rfl) (.run [] [] rfl (st_move rfl) (.run [] [] rfl (st_idx_row0 k rfl rfl rfl rfl Try.underlying24 Try.sizeOf69 rfl rfl (by omega)) (.run [] [] rfl (st_faddr_ea rfl rfl Try.underlying69 rfl Try.sizeOf9 (by decide)) (.run [] [] rfl (st_load_ea1 rfl rfl rfl (pvF_get (ins_get hkl)) Try.isAgg9 rfl) (.run [] [] rfl (st_faddr_box rfl rfl Try.underlying36 rfl Try.sizeOf9 (by decide)) (.run [] [] rfl (st_load_box1 rfl rfl rfl Try.isAgg9 rfl) (.run [] [] rfl (st_sadd rfl rfl rfl (by first | omega | (show (⟨#[]⟩ : ByteArray).size + op.data.size ≤ _; have hz : (⟨#[]⟩ : ByteArray).size = 0 := rfl; omega))) (.run [] [] rfl (st_idx_row0 k rfl rfl rfl rfl Try.underlying24 Try.sizeOf69 rfl rfl (by omega)) (.run [] [] rfl (st_faddr_ea rfl rfl Try.underlying69 rfl Try.sizeOf9 (by decide)) (.run [] [] rfl (st_store_row rfl rfl rfl (FlatP.nf (pvF_flat (l.take k ++ (⟨op.name, ⟨#[]⟩⟩ : Fil) :: l.drop k))) (pvF_get (ins_get hkl)) rfl rfl (.cons .v .nil) Try.sizeOf9 rfl (nle rfl)) .nil))))))))))) (by kernel_rfl) ?_
      have hr3 : (pvF (l.take k ++ (⟨op.name, ⟨#[]⟩⟩ : Fil) :: l.drop k)).set k [PV.v (.string op.name), PV.v (.string (⟨#[]⟩ ++ op.data))] = pvF (putF l op.name (datF l op.name ++ op.data)) := by exact (pvF_set _ k ⟨op.name, ⟨#[]⟩ ++ op.data⟩).trans (congrArg pvF (way_ins hs hk h2))
      have hl4 : (pvF (l.take k ++ (⟨op.name, ⟨#[]⟩⟩ : Fil) :: l.drop k)).length = (pvF (putF l op.name (datF l op.name ++ op.data))).length := by first | (rw [← hr3, List.length_set]; done) | simp [pvF_length, List.length_set]
      have hp5 : (.sl 3200 0 ((pvF (l.take k ++ (⟨op.name, ⟨#[]⟩⟩ : Fil) :: l.drop k)).length) : AV) = .sl 3200 0 ((pvF (putF l op.name (datF l op.name ++ op.data))).length) := by simp only [hr3, hl4]
      refine tr_wk (s' := mk [(6, .sl 3200 0 ((pvF (putF l op.name (datF l op.name ++ op.data))).length))] [] [(3200, 2, pvF (putF l op.name (datF l op.name ++ op.data)))]) ?_ ?_
      · exact wk_mk ⟨hp5, trivial⟩ trivial ⟨(congrArg (fun x => some (2, x)) hr3), trivial⟩ rfl
      refine tr_seq ?_
      rw [show doneF l op = (putF l op.name (datF l op.name ++ op.data), true) from done_1 h1]
      refine tr_region rfl (.run [] [] rfl (st_move rfl) (.run [] [] rfl (st_assign rfl) (.run [] [] rfl (st_assign rfl) .nil))) ?_
      refine tr_ret ?_
      exact ends [_, _] [3200] (.cons (.tmp rfl) (.cons (.tmp rfl) .nil)) (.cons (.one (.row (len := (pvF (putF l op.name (datF l op.name ++ op.data))).length) (xs := pvF (putF l op.name (datF l op.name ++ op.data))) rfl rfl) (.sl _ _ (FlatP.clean (pvF_flat _)))) (.cons (.one .v (.v _)) .nil)) (by decide) trivial
    · skip
      replace h2 : (hasF l op.name) = true := bnot_f h2
      refine tr_skip ?_
      refine tr_seq ?_
      obtain ⟨e, he0, hen, hed⟩ := has_at hs h2
      have he : l[k]? = some e := by rw [hk]; exact he0
      have hkl2 := (List.getElem?_eq_some_iff.1 he).1
      have hde : e.data.size ≤ totF l := by rw [← hed]; exact dat_tot l op.name
      refine tr_regionD mixed rfl (.run [] [] rfl (st_move rfl) (.run [] [] rfl (st_move rfl) (.run [] [] rfl (st_idx_row0 k rfl rfl rfl rfl Try.underlying24 Try.sizeOf69 rfl rfl (by omega)) (.run [] [] rfl (st_faddr_ea rfl rfl Try.underlying69 rfl Try.sizeOf9 (by decide)) (.run [] [] rfl (st_load_ea1 rfl rfl rfl (pvF_get he) Try.isAgg9 rfl) (.run [] [] rfl (st_faddr_box rfl rfl Try.underlying36 rfl Try.sizeOf9 (by decide)) (.run [] [] rfl (st_load_box1 rfl rfl rfl Try.isAgg9 rfl) (.run [] [] rfl (st_sadd rfl rfl rfl (by first | omega | (show (⟨#[]⟩ : ByteArray).size + op.data.size ≤ _; have hz : (⟨#[]⟩ : ByteArray).size = 0 := rfl; omega))) (.run [] [] rfl (st_idx_row0 k rfl rfl rfl rfl Try.underlying24 Try.sizeOf69 rfl rfl (by omega)) (.run [] [] rfl (st_faddr_ea rfl rfl Try.underlying69 rfl Try.sizeOf9 (by decide)) (.run [] [] rfl (st_store_row rfl rfl rfl (FlatP.nf (pvF_flat l)) (pvF_get he) rfl rfl (.cons .v .nil) Try.sizeOf9 rfl (nle rfl)) .nil))))))))))) (by kernel_rfl) ?_
      have hr6 : (pvF l).set k [PV.v (.string e.name), PV.v (.string (e.data ++ op.data))] = pvF (putF l op.name (datF l op.name ++ op.data)) := by exact (pvF_set _ k ⟨e.name, e.data ++ op.data⟩).trans (congrArg pvF (way_app hs hk h2 he))
      have hl7 : (pvF l).length = (pvF (putF l op.name (datF l op.name ++ op.data))).length := by first | (rw [← hr6, List.length_set]; done) | simp [pvF_length, List.length_set]
      have hp8 : (.sl 1300 0 ((pvF l).length) : AV) = .sl 1300 0 ((pvF (putF l op.name (datF l op.name ++ op.data))).length) := by simp only [hr6, hl7]
      refine tr_wk (s' := mk [(6, .sl 1300 0 ((pvF (putF l op.name (datF l op.name ++ op.data))).length))] [] [(1300, 2, pvF (putF l op.name (datF l op.name ++ op.data)))]) ?_ ?_
      · exact wk_mk ⟨hp8, trivial⟩ trivial ⟨(congrArg (fun x => some (2, x)) hr6), trivial⟩ rfl
      refine tr_seq ?_
      rw [show doneF l op = (putF l op.name (datF l op.name ++ op.data), true) from done_1 h1]
      refine tr_region rfl (.run [] [] rfl (st_move rfl) (.run [] [] rfl (st_assign rfl) (.run [] [] rfl (st_assign rfl) .nil))) ?_
      refine tr_ret ?_
      exact ends [_, _] [1300] (.cons (.tmp rfl) (.cons (.tmp rfl) .nil)) (.cons (.one (.row (len := (pvF (putF l op.name (datF l op.name ++ op.data))).length) (xs := pvF (putF l op.name (datF l op.name ++ op.data))) rfl rfl) (.sl _ _ (FlatP.clean (pvF_flat _)))) (.cons (.one .v (.v _)) .nil)) (by decide) trivial
  · skip
    replace h1 := of_decide_eq_false h1
    refine tr_skip ?_
    refine tr_seq ?_
    refine tr_seq ?_
    refine tr_region rfl (.run [] [] rfl (st_move rfl) (.run [] [] rfl (st_not (b := hasF l op.name) rfl rfl) .nil)) ?_
    refine tr_if (t := (!(hasF l op.name))) rfl (fun h9 => ?_) (fun h9 => ?_)
    · skip
      replace h9 : (hasF l op.name) = false := bnot_t h9
      refine tr_seq ?_
      rw [show doneF l op = (l, false) from done_2 h1 h9]
      refine tr_region rfl (.run [] [] rfl (st_move rfl) (.run [] [] rfl (st_assign rfl) (.run [] [] rfl (st_assign rfl) .nil))) ?_
      refine tr_ret ?_
      exact ends [_, _] [1300] (.cons (.tmp rfl) (.cons (.tmp rfl) .nil)) (.cons (.one (.row (len := (pvF l).length) (xs := pvF l) rfl rfl) (.sl _ _ (FlatP.clean (pvF_flat _)))) (.cons (.one .v (.v _)) .nil)) (by decide) trivial
    · skip
      replace h9 : (hasF l op.name) = true := bnot_f h9
      refine tr_skip ?_
      refine tr_seq ?_
      obtain ⟨e, he0, hen, hed⟩ := has_at hs h9
      have he : l[k]? = some e := by rw [hk]; exact he0
      have hkl2 := (List.getElem?_eq_some_iff.1 he).1
      have hde : e.data.size ≤ totF l := by rw [← hed]; exact dat_tot l op.name
      have hcl := cut_len l op.name
      refine tr_region rfl (.run [] [] rfl (st_move rfl) (.run [] [] rfl (st_move rfl) (.run [] [] rfl (st_idx_row0 k rfl rfl rfl rfl Try.underlying24 Try.sizeOf69 rfl rfl (by omega)) (.run [] [] rfl (st_load_ea rfl rfl rfl (pvF_get he) Try.isAgg69 Try.sizeOf69 (nle rfl)) (.run [] [9] rfl (st_allocZ rfl 9 inf69 rfl (by decide) rfl (by decide)) (.run [] [] rfl (st_store_box rfl rfl rfl rfl rfl Try.sizeOf69 rfl (nle rfl)) .nil)))))) ?_
      refine tr_seq ?_
      refine tr_wk (s' := mk [(3, .ptr 3 0), (6, .sl 1300 0 ((pvF l).length)), (7, .p none (.v (.int .i64 (k:Int)))), (9, .ptr 9 0)] [(3, [.p none (.v (.int .i64 op.kind)), .p none (.v (.string op.name)), .p none (.v (.string op.dest)), .p none (.v (.string op.data))]), (9, [.p none (.v (.string e.name)), .p none (.v (.string e.data))])] [(1300, 2, pvF l)]) ?_ ?_
      · exact wk_mk ⟨rfl, ⟨rfl, ⟨rfl, ⟨rfl, trivial⟩⟩⟩⟩ ⟨rfl, ⟨rfl, trivial⟩⟩ ⟨rfl, trivial⟩ rfl
      refine tr_region rfl (.run [] [] rfl (st_move rfl) (.run [] [] rfl (st_move rfl) (.run [] [] rfl (st_move rfl) (.run [] [] rfl (st_addn rfl rfl rfl (by omega)) (.run [1300, 5500] [] rfl (st_call rfl 5500 (X := [1300]) en72 rfl (.val nod) (.cons (.one (.own (len := (pvF l).length) (xs := pvF l) rfl rfl)) (.cons (.one (.bor .v)) (.cons (.one (.bor .v)) .nil))) (by decide) (all_cons rfl all_nil) (.gone .nil) (deleteF_con l k (by omega) (by omega)) rfl rfl (nle rfl)) (.run [] [] rfl (st_assign rfl) .nil)))))) ?_
      have hr10 : pvF (l.eraseIdx k) = pvF (cutF l op.name) := by rw [hk]; exact congrArg pvF (erase_cut hs h9)
      have hp11 : (.sl 5500 0 ((pvF (l.eraseIdx k)).length) : AV) = .sl 5500 0 ((pvF (cutF l op.name)).length) := by simp only [hr10]
      refine tr_wk (s' := mk [(3, .ptr 3 0), (6, .sl 5500 0 ((pvF (cutF l op.name)).length)), (9, .ptr 9 0)] [(3, [.p none (.v (.int .i64 op.kind)), .p none (.v (.string op.name)), .p none (.v (.string op.dest)), .p none (.v (.string op.data))]), (9, [.p none (.v (.string e.name)), .p none (.v (.string e.data))])] [(5500, 2, pvF (cutF l op.name))]) ?_ ?_
      · exact wk_mk ⟨rfl, ⟨hp11, ⟨rfl, trivial⟩⟩⟩ ⟨rfl, ⟨rfl, trivial⟩⟩ ⟨(congrArg (fun x => some (2, x)) hr10), trivial⟩ rfl
      refine tr_seq ?_
      refine tr_seq ?_
      refine tr_region rfl (.run [] [] rfl (st_faddr_box rfl rfl Try.underlying36 rfl Try.sizeOf2 (by decide)) (.run [] [] rfl (st_load_box1 rfl rfl rfl Try.isAgg2 rfl) (.run [] [] rfl (st_eql rfl rfl rfl) .nil))) ?_
      refine tr_if (t := decide (op.kind = 2)) rfl (fun h12 => ?_) (fun h12 => ?_)
      · skip
        replace h12 := of_decide_eq_true h12
        refine tr_seq ?_
        refine tr_region rfl (.run [] [] rfl (st_faddr_box rfl rfl Try.underlying36 rfl Try.sizeOf9 (by decide)) (.run [] [] rfl (st_load_box1 rfl rfl rfl Try.isAgg9 rfl) (.run [] [] rfl (st_faddr_box rfl rfl Try.underlying69 rfl Try.sizeOf9 (by decide)) (.run [] [] rfl (st_store_box rfl rfl rfl rfl rfl Try.sizeOf9 rfl (nle rfl)) .nil)))) ?_
        refine tr_seq ?_
        obtain ⟨k2, hk2⟩ : ∃ k, k = posF (cutF l op.name) op.dest := ⟨_, rfl⟩
        have hkl3 : k2 ≤ (cutF l op.name).length := by rw [hk2]; exact pos_le _ op.dest
        refine tr_region rfl (.run [] [] rfl (st_move rfl) (.run [] [] rfl (st_faddr_box rfl rfl Try.underlying36 rfl Try.sizeOf9 (by decide)) (.run [] [] rfl (st_load_box1 rfl rfl rfl Try.isAgg9 rfl) (.run [5500, 6600, 6601] [] rfl (st_call rfl 6600 (X := []) en70 rfl (.val nod) (.cons (.one (.bor (.all (len := (pvF (cutF l op.name)).length) (xs := pvF (cutF l op.name)) rfl rfl (by decide)))) (.cons (.one (.bor .v)) .nil)) (by decide) all_nil .nil (find_con (cutF l op.name) op.dest k2 hk2 (srt_cutF hs op.name) (by omega)) rfl rfl (nle rfl)) (.run [] [] rfl (st_move rfl) (.run [] [] rfl (st_extract rfl rfl rfl) (.run [] [] rfl (st_extract rfl rfl rfl) (.run [] [] rfl (st_assign rfl) (.run [] [] rfl (st_assign rfl) .nil))))))))) ?_
        refine tr_seq ?_
        refine tr_wk (s' := mk [(6, .sl 5500 0 ((pvF (cutF l op.name)).length)), (9, .ptr 9 0), (10, .p none (.v (.int .i64 (k2:Int)))), (11, .p none (.v (.bool (hasF (cutF l op.name) op.dest))))] [(9, [.p none (.v (.string op.dest)), .p none (.v (.string e.data))])] [(5500, 2, pvF (cutF l op.name))]) ?_ ?_
        · exact wk_mk ⟨rfl, ⟨rfl, ⟨rfl, ⟨rfl, trivial⟩⟩⟩⟩ ⟨rfl, trivial⟩ ⟨rfl, trivial⟩ rfl
        refine tr_region rfl (.run [] [] rfl (st_move rfl) .nil) ?_
        refine tr_if (t := hasF (cutF l op.name) op.dest) rfl (fun h13 => ?_) (fun h13 => ?_)
        · skip
          obtain ⟨e2, he20, _, _⟩ := has_at (srt_cutF hs op.name) h13
          have he2 : (cutF l op.name)[k2]? = some e2 := by rw [hk2]; exact he20
          have hkl4 := (List.getElem?_eq_some_iff.1 he2).1
          have hlc := pvF_length (cutF l op.name)
          refine tr_region rfl (.run [] [] rfl (st_move rfl) (.run [] [] rfl (st_move rfl) (.run [] [] rfl (st_load_box rfl rfl rfl Try.isAgg69 Try.sizeOf69 (nle rfl)) (.run [] [] rfl (st_idx_row0 k2 rfl rfl rfl rfl Try.underlying24 Try.sizeOf69 rfl rfl (by omega)) (.run [] [] rfl (st_store_row rfl rfl rfl (FlatP.nf (pvF_flat _)) (pvF_get he2) rfl rfl (.cons .v (.cons .v .nil)) Try.sizeOf69 rfl (nle rfl)) .nil))))) ?_
          have hr14 : (pvF (cutF l op.name)).set k2 [PV.v (.string op.dest), PV.v (.string e.data)] = pvF (putF (cutF l op.name) op.dest e.data) := by exact (pvF_set _ k2 ⟨op.dest, e.data⟩).trans (congrArg pvF (by rw [hk2]; exact set_put (srt_cutF hs op.name) _ h13))
          have hl15 : (pvF (cutF l op.name)).length = (pvF (putF (cutF l op.name) op.dest e.data)).length := by first | (rw [← hr14, List.length_set]; done) | simp [pvF_length, List.length_set]
          have hp16 : (.sl 5500 0 ((pvF (cutF l op.name)).length) : AV) = .sl 5500 0 ((pvF (putF (cutF l op.name) op.dest e.data)).length) := by simp only [hr14, hl15]
          refine tr_wk (s' := mk [(6, .sl 5500 0 ((pvF (putF (cutF l op.name) op.dest e.data)).length))] [] [(5500, 2, pvF (putF (cutF l op.name) op.dest e.data))]) ?_ ?_
          · exact wk_mk ⟨hp16, trivial⟩ trivial ⟨(congrArg (fun x => some (2, x)) hr14), trivial⟩ rfl
          refine tr_seq ?_
          have hd : doneF l op = (putF (cutF l op.name) op.dest e.data, true) := by rw [done_3 h12 h9, hed]
          rw [hd]
          refine tr_region rfl (.run [] [] rfl (st_move rfl) (.run [] [] rfl (st_assign rfl) (.run [] [] rfl (st_assign rfl) .nil))) ?_
          refine tr_ret ?_
          exact ends [_, _] [5500] (.cons (.tmp rfl) (.cons (.tmp rfl) .nil)) (.cons (.one (.row (len := (pvF (putF (cutF l op.name) op.dest e.data)).length) (xs := pvF (putF (cutF l op.name) op.dest e.data)) rfl rfl) (.sl _ _ (FlatP.clean (pvF_flat _)))) (.cons (.one .v (.v _)) .nil)) (by decide) trivial
        · skip
          refine tr_region rfl (.run [] [] rfl (st_move rfl) (.run [] [] rfl (st_move rfl) (.run [] [] rfl (st_load_box rfl rfl rfl Try.isAgg69 Try.sizeOf69 (nle rfl)) (.run [7700] [] rfl (st_buildSlice rfl 7700 Try.underlying24 inf69 (nle rfl) (by decide) rfl rfl rfl (.cons .v (.cons .v .nil)) (by decide) rfl (by decide) rfl (by decide) rfl) (.run [5500, 7700, 7800] [] rfl (st_call rfl 7800 (X := [5500, 7700]) en71 rfl (.val nod) (.cons (.one (.own (len := (pvF (cutF l op.name)).length) (xs := pvF (cutF l op.name)) rfl rfl)) (.cons (.one (.bor .v)) (.cons (.one (.own (len := 1) (xs := [[PV.v (.string op.dest), PV.v (.string e.data)]]) rfl rfl)) .nil))) (by decide) (all_cons rfl (all_cons rfl all_nil)) (.gone (.gone .nil)) (insF_con (cutF l op.name) (⟨op.dest, e.data⟩ : Fil) k2 (by omega) (by omega)) rfl rfl (nle rfl)) (.run [] [] rfl (st_assign rfl) .nil)))))) ?_
          have hr17 : pvF ((cutF l op.name).take k2 ++ (⟨op.dest, e.data⟩ : Fil) :: (cutF l op.name).drop k2) = pvF (putF (cutF l op.name) op.dest e.data) := by exact congrArg pvF (by rw [hk2]; exact ins_put (srt_cutF hs op.name) _ h13)
          have hp18 : (.sl 7800 0 ((pvF ((cutF l op.name).take k2 ++ (⟨op.dest, e.data⟩ : Fil) :: (cutF l op.name).drop k2)).length) : AV) = .sl 7800 0 ((pvF (putF (cutF l op.name) op.dest e.data)).length) := by simp only [hr17]
          refine tr_wk (s' := mk [(6, .sl 7800 0 ((pvF (putF (cutF l op.name) op.dest e.data)).length))] [] [(7800, 2, pvF (putF (cutF l op.name) op.dest e.data))]) ?_ ?_
          · exact wk_mk ⟨hp18, trivial⟩ trivial ⟨(congrArg (fun x => some (2, x)) hr17), trivial⟩ rfl
          refine tr_seq ?_
          have hd : doneF l op = (putF (cutF l op.name) op.dest e.data, true) := by rw [done_3 h12 h9, hed]
          rw [hd]
          refine tr_region rfl (.run [] [] rfl (st_move rfl) (.run [] [] rfl (st_assign rfl) (.run [] [] rfl (st_assign rfl) .nil))) ?_
          refine tr_ret ?_
          exact ends [_, _] [7800] (.cons (.tmp rfl) (.cons (.tmp rfl) .nil)) (.cons (.one (.row (len := (pvF (putF (cutF l op.name) op.dest e.data)).length) (xs := pvF (putF (cutF l op.name) op.dest e.data)) rfl rfl) (.sl _ _ (FlatP.clean (pvF_flat _)))) (.cons (.one .v (.v _)) .nil)) (by decide) trivial
      · skip
        replace h12 := of_decide_eq_false h12
        refine tr_skip ?_
        refine tr_seq ?_
        have hd : doneF l op = ((cutF l op.name), true) := done_4 h1 h12 h9
        rw [hd]
        refine tr_region rfl (.run [] [] rfl (st_move rfl) (.run [] [] rfl (st_assign rfl) (.run [] [] rfl (st_assign rfl) .nil))) ?_
        refine tr_ret ?_
        exact ends [_, _] [5500] (.cons (.tmp rfl) (.cons (.tmp rfl) .nil)) (.cons (.one (.row (len := (pvF (cutF l op.name)).length) (xs := pvF (cutF l op.name)) rfl rfl) (.sl _ _ (FlatP.clean (pvF_flat _)))) (.cons (.one .v (.v _)) .nil)) (by decide) trivial
end Go.Rl

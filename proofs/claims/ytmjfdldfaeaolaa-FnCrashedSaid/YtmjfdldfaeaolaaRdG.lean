/- Promises of functions, proved by walks over their operations; no conditions beyond those that each theorem states. -/
import Derived.Test.YtmjfdldfaeaolaaRdF
namespace Go.Rl
open Go.Proofs
theorem en69 : ∀ vs w, (callFunc 69 vs).run Try.prog w = .ok (.enter 69 vs) w := enters Try.func69 (by decide) rfl
theorem en70 : ∀ vs w, (callFunc 70 vs).run Try.prog w = .ok (.enter 70 vs) w := enters Try.func70 (by decide) rfl
theorem en71 : ∀ vs w, (callFunc 71 vs).run Try.prog w = .ok (.enter 71 vs) w := enters Try.func71 (by decide) rfl
theorem en72 : ∀ vs w, (callFunc 72 vs).run Try.prog w = .ok (.enter 72 vs) w := enters Try.func72 (by decide) rfl
set_option maxRecDepth 1000000 in
set_option maxHeartbeats 2000000 in
theorem done_con (l : List Fil) (op : DOp) (hs : Srt l) (hl : l.length ≤ 900000) (ht : totF l ≤ 1099511627776) (ho : op.data.size ≤ 1099511627776) : Con Try.prog 35 [.one (PV.sl false 2 (pvF l)), .agg [PV.v (.int .i64 op.kind), PV.v (.string op.name), PV.v (.string op.dest), PV.v (.string op.data)]] [] [.one (.sl true 2 (pvF (doneF l op).1)), .one (.v (.bool (doneF l op).2))] := by
  refine con_of_tr Try.func35 rfl rfl rfl rfl ?_
  have hle := pvF_length l
  refine tr_seq ?_
  refine tr_region rfl (.run [] [3] rfl (st_box rfl 3 rfl rfl (by decide) rfl (by decide)) (.run [] [] rfl (st_assign rfl) (.run [] [] rfl (st_assign rfl) .nil))) ?_
  refine tr_seq ?_
  refine tr_region rfl (.run [] [] rfl (st_move rfl) (.run [1300] [] rfl (st_call rfl 1300 (X := []) en69 rfl (.val nod) (.cons (.one (.bor (.sl nod))) .nil) (by decide) all_nil .nil (cloneF_con l (by omega)) rfl rfl (nle rfl)) (.run [] [] rfl (st_assign rfl) .nil))) ?_
  refine tr_seq ?_
  obtain ⟨k, hk⟩ : ∃ k, k = posF l op.name := ⟨_, rfl⟩
  have hkl : k ≤ l.length := by rw [hk]; exact pos_le l op.name
  refine tr_region rfl (.run [] [] rfl (st_move rfl) (.run [] [] rfl (st_faddr_box rfl rfl Try.underlying36 rfl Try.sizeOf9 (by decide)) (.run [] [] rfl (st_load_box1 rfl rfl rfl Try.isAgg9 rfl) (.run [1300, 1800, 1801] [] rfl (st_call rfl 1800 (X := []) en70 rfl (.val nod) (.cons (.one (.bor (.all (len := (pvF l).length) (xs := pvF l) rfl rfl (by decide)))) (.cons (.one (.bor .v)) .nil)) (by decide) all_nil .nil (find_con l op.name k hk hs (by omega)) rfl rfl (nle rfl)) (.run [] [] rfl (st_move rfl) (.run [] [] rfl (st_extract rfl rfl rfl) (.run [] [] rfl (st_extract rfl rfl rfl) (.run [] [] rfl (st_assign rfl) (.run [] [] rfl (st_assign rfl) .nil))))))))) ?_
  refine tr_seq ?_
  refine tr_seq ?_
  refine tr_wk (s' := mk [(3, .ptr 3 0), (6, .sl 1300 0 ((pvF l).length)), (7, .p none (.v (.int .i64 (k:Int)))), (8, .p none (.v (.bool (hasF l op.name))))] [(3, [.p none (.v (.int .i64 op.kind)), .p none (.v (.string op.name)), .p none (.v (.string op.dest)), .p none (.v (.string op.data))])] [(1300, 2, pvF l)]) ?_ ?_
  · exact wk_mk ⟨rfl, ⟨rfl, ⟨rfl, ⟨rfl, trivial⟩⟩⟩⟩ ⟨rfl, trivial⟩ ⟨rfl, trivial⟩ rfl
  refine tr_region rfl (.run [] [] rfl (st_faddr_box rfl rfl Try.underlying36 rfl Try.sizeOf2 (by decide)) (.run [] [] rfl (st_load_box1 rfl rfl rfl Try.isAgg2 rfl) (.run [] [] rfl (st_eql rfl rfl rfl) .nil))) ?_
  refine tr_if (t := decide (op.kind = 1)) rfl (fun h1 => ?_) (fun h1 => ?_)
  · skip
    replace h1 := of_decide_eq_true h1
    refine tr_seq ?_
    refine tr_seq ?_
    refine tr_region rfl (.run [] [] rfl (st_move rfl) (.run [] [] rfl (st_not (b := hasF l op.name) rfl rfl) .nil)) ?_
    refine tr_if (t := (!(hasF l op.name))) rfl (fun h2 => ?_) (fun h2 => ?_)
    · skip
      replace h2 : (hasF l op.name) = false := bnot_t h2
      refine tr_region rfl (.run [] [] rfl (st_move rfl) (.run [] [] rfl (st_move rfl) (.run [] [] rfl (st_faddr_box rfl rfl Try.underlying36 rfl Try.sizeOf9 (by decide)) (.run [] [] rfl (st_load_box1 rfl rfl rfl Try.isAgg9 rfl) (.run [] [] rfl (st_build (pl := [(0, 1), (1, 1)]) rfl Try.underlying69 inf69 (by kernel_rfl) rfl rfl) (.run [3100] [] rfl (st_buildSlice rfl 3100 Try.underlying24 inf69 (nle rfl) (by decide) rfl rfl rfl (.cons .v (.cons .v .nil)) (by decide) rfl (by decide) rfl (by decide) rfl) (.run [1300, 3100, 3200] [] rfl (st_call rfl 3200 (X := [1300, 3100]) en71 rfl (.val nod) (.cons (.one (.own (len := (pvF l).length) (xs := pvF l) rfl rfl)) (.cons (.one (.bor .v)) (.cons (.one (.own (len := 1) (xs := [[PV.v (.string op.name), PV.v (.string ⟨#[]⟩)]]) rfl rfl)) .nil))) (by decide) (all_cons rfl (all_cons rfl all_nil)) (.gone (.gone .nil)) (insF_con l (⟨op.name, ⟨#[]⟩⟩ : Fil) k (by omega) (by omega)) rfl rfl (nle rfl)) (.run [] [] rfl (st_assign rfl) .nil)))))))) ?_
      refine tr_seq ?_
      have hli : (l.take k ++ (⟨op.name, ⟨#[]⟩⟩ : Fil) :: l.drop k).length = l.length + 1 := by simp; omega
      have hlj := pvF_length (l.take k ++ (⟨op.name, ⟨#[]⟩⟩ : Fil) :: l.drop k)
      refine tr_wk (s' := mk [(3, .ptr 3 0), (6, .sl 3200 0 ((pvF (l.take k ++ (⟨op.name, ⟨#[]⟩⟩ : Fil) :: l.drop k)).length)), (7, .p none (.v (.int .i64 (k:Int))))] [(3, [.p none (.v (.int .i64 op.kind)), .p none (.v (.string op.name)), .p none (.v (.string op.dest)), .p none (.v (.string op.data))])] [(3200, 2, pvF (l.take k ++ (⟨op.name, ⟨#[]⟩⟩ : Fil) :: l.drop k))]) ?_ ?_
      · exact wk_mk ⟨rfl, ⟨rfl, ⟨rfl, trivial⟩⟩⟩ ⟨rfl, trivial⟩ ⟨rfl, trivial⟩ rfl
      refine tr_regionD mixed rfl (.run [] [] rfl (st_move rfl) (.run [] [] rfl (st_move rfl) (.run [] [] rfl (st_idx_row0 k rfl rfl rfl rfl Try.underlying24 Try.sizeOf69 rfl rfl (by omega)) (.run [] [] rfl (st_faddr_ea rfl rfl Try.underlying69 rfl Try.sizeOf9 (by decide)) (.run [] [] rfl (st_load_ea1 rfl rfl rfl (pvF_get (ins_get hkl)) Try.isAgg9 rfl) (.run [] [] rfl (st_faddr_box rfl rfl Try.underlying36 rfl Try.sizeOf9 (by decide)) (.run [] [] rfl (st_load_box1 rfl rfl rfl Try.isAgg9 rfl) (.run [] [] rfl (st_sadd rfl rfl rfl (by first | omega | (show (⟨#[]⟩ : ByteArray).size + op.data.size ≤ _; have hz : (⟨#[]⟩ : ByteArray).size = 0 := rfl; omega))) (.run [] [] rfl (st_idx_row0 k rfl rfl rfl rfl Try.underlying24 Try.sizeOf69 rfl rfl (by omega)) (.run [] [] rfl (st_faddr_ea rfl rfl Try.underlying69 rfl Try.sizeOf9 (by decide)) (.run [] [] rfl (st_store_row rfl rfl rfl (FlatP.nf (pvF_flat (l.take k ++ (⟨op.name, ⟨#[]⟩⟩ : Fil) :: l.drop k))) (pvF_get (ins_get hkl)) rfl rfl (.cons .v .nil) Try.sizeOf9 rfl (nle rfl)) .nil))))))))))) (by kernel_rfl) ?_
      have hr3 : (pvF (l.take k ++ (⟨op.name, ⟨#[]⟩⟩ : Fil) :: l.drop k)).set k [PV.v (.string op.name), PV.v (.string (⟨#[]⟩ ++ op.data))] = pvF (putF l op.name (datF l op.name ++ op.data)) := by exact (pvF_set _ k ⟨op.name, ⟨#[]⟩ ++ op.data⟩).trans (congrArg pvF (way_ins hs hk h2))
      have hl4 : (pvF (l.take k ++ (⟨op.name, ⟨#[]⟩⟩ : Fil) :: l.drop k)).length = (pvF (putF l op.name (datF l op.name ++ op.data))).length := by first | (rw [← hr3, List.length_set]; done) | simp [pvF_length, List.length_set]
      have hp5 : (.sl 3200 0 ((pvF (l.take k ++ (⟨op.name, ⟨#[]⟩⟩ : Fil) :: l.drop k)).length) : AV) = .sl 3200 0 ((pvF (putF l op.name (datF l op.name ++ op.data))).length) := by simp only [hr3, hl4]
      refine tr_wk (s' := mk [(6, .sl 3200 0 ((pvF (putF l op.name (datF l op.name ++ op.data))).length))] [] [(3200, 2, pvF (putF l op.name (datF l op.name ++ op.data)))]) ?_ ?_
      · exact wk_mk ⟨hp5, trivial⟩ trivial ⟨(congrArg (fun x => some (2, x)) hr3), trivial⟩ rfl
      refine tr_seq ?_
      rw [show doneF l op = (putF l op.name (datF l op.name ++ op.data), true) from done_1 h1]
      refine tr_region rfl (.run [] [] rfl (st_move rfl) (.run [] [] rfl (st_assign rfl) (.run [] [] rfl (st_assign rfl) .nil))) ?_
      refine tr_ret ?_
      exact ends [_, _] [3200] (.cons (.tmp rfl) (.cons (.tmp rfl) .nil)) (.cons (.one (.row (len := (pvF (putF l op.name (datF l op.name ++ op.data))).length) (xs := pvF (putF l op.name (datF l op.name ++ op.data))) rfl rfl) (.sl _ _ (FlatP.clean (pvF_flat _)))) (.cons (.one .v (.v _)) .nil)) (by decide) trivial
    · skip
      replace h2 : (hasF l op.name) = true := bnot_f h2
      refine tr_skip ?_
      refine tr_seq ?_
      obtain ⟨e, he0, hen, hed⟩ := has_at hs h2
      have he : l[k]? = some e := by rw [hk]; exact he0
      have hkl2 := (List.getElem?_eq_some_iff.1 he).1
      have hde : e.data.size ≤ totF l := by rw [← hed]; exact dat_tot l op.name
      refine tr_regionD mixed rfl (.run [] [] rfl (st_move rfl) (.run [] [] rfl (st_move rfl) (.run [] [] rfl (st_idx_row0 k rfl rfl rfl rfl Try.underlying24 Try.sizeOf69 rfl rfl (by omega)) (.run [] [] rfl (st_faddr_ea rfl rfl Try.underlying69 rfl Try.sizeOf9 (by decide)) (.run [] [] rfl (st_load_ea1 rfl rfl rfl (pvF_get he) Try.isAgg9 rfl) (.run [] [] rfl (st_faddr_box rfl rfl Try.underlying36 rfl Try.sizeOf9 (by decide)) (.run [] [] rfl (st_load_box1 rfl rfl rfl Try.isAgg9 rfl) (.run [] [] rfl (st_sadd rfl rfl rfl (by first | omega | (show (⟨#[]⟩ : ByteArray).size + op.data.size ≤ _; have hz : (⟨#[]⟩ : ByteArray).size = 0 := rfl; omega))) (.run [] [] rfl (st_idx_row0 k rfl rfl rfl rfl Try.underlying24 Try.sizeOf69 rfl rfl (by omega)) (.run [] [] rfl (st_faddr_ea rfl rfl Try.underlying69 rfl Try.sizeOf9 (by decide)) (.run [] [] rfl (st_store_row rfl rfl rfl (FlatP.nf (pvF_flat l)) (pvF_get he) rfl rfl (.cons .v .nil) Try.sizeOf9 rfl (nle rfl)) .nil))))))))))) (by kernel_rfl) ?_
      have hr6 : (pvF l).set k [PV.v (.string e.name), PV.v (.string (e.data ++ op.data))] = pvF (putF l op.name (datF l op.name ++ op.data)) := by exact (pvF_set _ k ⟨e.name, e.data ++ op.data⟩).trans (congrArg pvF (way_app hs hk h2 he))
      have hl7 : (pvF l).length = (pvF (putF l op.name (datF l op.name ++ op.data))).length := by first | (rw [← hr6, List.length_set]; done) | simp [pvF_length, List.length_set]
      have hp8 : (.sl 1300 0 ((pvF l).length) : AV) = .sl 1300 0 ((pvF (putF l op.name (datF l op.name ++ op.data))).length) := by simp only [hr6, hl7]
      refine tr_wk (s' := mk [(6, .sl 1300 0 ((pvF (putF l op.name (datF l op.name ++ op.data))).length))] [] [(1300, 2, pvF (putF l op.name (datF l op.name ++ op.data)))]) ?_ ?_
      · exact wk_mk ⟨hp8, trivial⟩ trivial ⟨(congrArg (fun x => some (2, x)) hr6), trivial⟩ rfl
      refine tr_seq ?_
      rw [show doneF l op = (putF l op.name (datF l op.name ++ op.data), true) from done_1 h1]
      refine tr_region rfl (.run [] [] rfl (st_move rfl) (.run [] [] rfl (st_assign rfl) (.run [] [] rfl (st_assign rfl) .nil))) ?_
      refine tr_ret ?_
      exact ends [_, _] [1300] (.cons (.tmp rfl) (.cons (.tmp rfl) .nil)) (.cons (.one (.row (len := (pvF (putF l op.name (datF l op.name ++ op.data))).length) (xs := pvF (putF l op.name (datF l op.name ++ op.data))) rfl rfl) (.sl _ _ (FlatP.clean (pvF_flat _)))) (.cons (.one .v (.v _)) .nil)) (by decide) trivial
  · skip
    replace h1 := of_decide_eq_false h1
    refine tr_skip ?_
    refine tr_seq ?_
    refine tr_seq ?_
    refine tr_region rfl (.run [] [] rfl (st_move rfl) (.run [] [] rfl (st_not (b := hasF l op.name) rfl rfl) .nil)) ?_
    refine tr_if (t := (!(hasF l op.name))) rfl (fun h9 => ?_) (fun h9 => ?_)
    · skip
      replace h9 : (hasF l op.name) = false := bnot_t h9
      refine tr_seq ?_
      rw [show doneF l op = (l, false) from done_2 h1 h9]
      refine tr_region rfl (.run [] [] rfl (st_move rfl) (.run [] [] rfl (st_assign rfl) (.run [] [] rfl (st_assign rfl) .nil))) ?_
      refine tr_ret ?_
      exact ends [_, _] [1300] (.cons (.tmp rfl) (.cons (.tmp rfl) .nil)) (.cons (.one (.row (len := (pvF l).length) (xs := pvF l) rfl rfl) (.sl _ _ (FlatP.clean (pvF_flat _)))) (.cons (.one .v (.v _)) .nil)) (by decide) trivial
    · skip
      replace h9 : (hasF l op.name) = true := bnot_f h9
      refine tr_skip ?_
      refine tr_seq ?_
      obtain ⟨e, he0, hen, hed⟩ := has_at hs h9
      have he : l[k]? = some e := by rw [hk]; exact he0
      have hkl2 := (List.getElem?_eq_some_iff.1 he).1
      have hde : e.data.size ≤ totF l := by rw [← hed]; exact dat_tot l op.name
      have hcl := cut_len l op.name
      refine tr_region rfl (.run [] [] rfl (st_move rfl) (.run [] [] rfl (st_move rfl) (.run [] [] rfl (st_idx_row0 k rfl rfl rfl rfl Try.underlying24 Try.sizeOf69 rfl rfl (by omega)) (.run [] [] rfl (st_load_ea rfl rfl rfl (pvF_get he) Try.isAgg69 Try.sizeOf69 (nle rfl)) (.run [] [9] rfl (st_allocZ rfl 9 inf69 rfl (by decide) rfl (by decide)) (.run [] [] rfl (st_store_box rfl rfl rfl rfl rfl Try.sizeOf69 rfl (nle rfl)) .nil)))))) ?_
      refine tr_seq ?_
      refine tr_wk (s' := mk [(3, .ptr 3 0), (6, .sl 1300 0 ((pvF l).length)), (7, .p none (.v (.int .i64 (k:Int)))), (9, .ptr 9 0)] [(3, [.p none (.v (.int .i64 op.kind)), .p none (.v (.string op.name)), .p none (.v (.string op.dest)), .p none (.v (.string op.data))]), (9, [.p none (.v (.string e.name)), .p none (.v (.string e.data))])] [(1300, 2, pvF l)]) ?_ ?_
      · exact wk_mk ⟨rfl, ⟨rfl, ⟨rfl, ⟨rfl, trivial⟩⟩⟩⟩ ⟨rfl, ⟨rfl, trivial⟩⟩ ⟨rfl, trivial⟩ rfl
      refine tr_region rfl (.run [] [] rfl (st_move rfl) (.run [] [] rfl (st_move rfl) (.run [] [] rfl (st_move rfl) (.run [] [] rfl (st_addn rfl rfl rfl (by omega)) (.run [1300, 5500] [] rfl (st_call rfl 5500 (X := [1300]) en72 rfl (.val nod) (.cons (.one (.own (len := (pvF l).length) (xs := pvF l) rfl rfl)) (.cons (.one (.bor .v)) (.cons (.one (.bor .v)) .nil))) (by decide) (all_cons rfl all_nil) (.gone .nil) (deleteF_con l k (by omega) (by omega)) rfl rfl (nle rfl)) (.run [] [] rfl (st_assign rfl) .nil)))))) ?_
      have hr10 : pvF (l.eraseIdx k) = pvF (cutF l op.name) := by rw [hk]; exact congrArg pvF (erase_cut hs h9)
      have hp11 : (.sl 5500 0 ((pvF (l.eraseIdx k)).length) : AV) = .sl 5500 0 ((pvF (cutF l op.name)).length) := by simp only [hr10]
      refine tr_wk (s' := mk [(3, .ptr 3 0), (6, .sl 5500 0 ((pvF (cutF l op.name)).length)), (9, .ptr 9 0)] [(3, [.p none (.v (.int .i64 op.kind)), .p none (.v (.string op.name)), .p none (.v (.string op.dest)), .p none (.v (.string op.data))]), (9, [.p none (.v (.string e.name)), .p none (.v (.string e.data))])] [(5500, 2, pvF (cutF l op.name))]) ?_ ?_
      · exact wk_mk ⟨rfl, ⟨hp11, ⟨rfl, trivial⟩⟩⟩ ⟨rfl, ⟨rfl, trivial⟩⟩ ⟨(congrArg (fun x => some (2, x)) hr10), trivial⟩ rfl
      refine tr_seq ?_
      refine tr_seq ?_
      refine tr_region rfl (.run [] [] rfl (st_faddr_box rfl rfl Try.underlying36 rfl Try.sizeOf2 (by decide)) (.run [] [] rfl (st_load_box1 rfl rfl rfl Try.isAgg2 rfl) (.run [] [] rfl (st_eql rfl rfl rfl) .nil))) ?_
      refine tr_if (t := decide (op.kind = 2)) rfl (fun h12 => ?_) (fun h12 => ?_)
      · skip
        replace h12 := of_decide_eq_true h12
        refine tr_seq ?_
        refine tr_region rfl (.run [] [] rfl (st_faddr_box rfl rfl Try.underlying36 rfl Try.sizeOf9 (by decide)) (.run [] [] rfl (st_load_box1 rfl rfl rfl Try.isAgg9 rfl) (.run [] [] rfl (st_faddr_box rfl rfl Try.underlying69 rfl Try.sizeOf9 (by decide)) (.run [] [] rfl (st_store_box rfl rfl rfl rfl rfl Try.sizeOf9 rfl (nle rfl)) .nil)))) ?_
        refine tr_seq ?_
        obtain ⟨k2, hk2⟩ : ∃ k, k = posF (cutF l op.name) op.dest := ⟨_, rfl⟩
        have hkl3 : k2 ≤ (cutF l op.name).length := by rw [hk2]; exact pos_le _ op.dest
        refine tr_region rfl (.run [] [] rfl (st_move rfl) (.run [] [] rfl (st_faddr_box rfl rfl Try.underlying36 rfl Try.sizeOf9 (by decide)) (.run [] [] rfl (st_load_box1 rfl rfl rfl Try.isAgg9 rfl) (.run [5500, 6600, 6601] [] rfl (st_call rfl 6600 (X := []) en70 rfl (.val nod) (.cons (.one (.bor (.all (len := (pvF (cutF l op.name)).length) (xs := pvF (cutF l op.name)) rfl rfl (by decide)))) (.cons (.one (.bor .v)) .nil)) (by decide) all_nil .nil (find_con (cutF l op.name) op.dest k2 hk2 (srt_cutF hs op.name) (by omega)) rfl rfl (nle rfl)) (.run [] [] rfl (st_move rfl) (.run [] [] rfl (st_extract rfl rfl rfl) (.run [] [] rfl (st_extract rfl rfl rfl) (.run [] [] rfl (st_assign rfl) (.run [] [] rfl (st_assign rfl) .nil))))))))) ?_
        refine tr_seq ?_
        refine tr_wk (s' := mk [(6, .sl 5500 0 ((pvF (cutF l op.name)).length)), (9, .ptr 9 0), (10, .p none (.v (.int .i64 (k2:Int)))), (11, .p none (.v (.bool (hasF (cutF l op.name) op.dest))))] [(9, [.p none (.v (.string op.dest)), .p none (.v (.string e.data))])] [(5500, 2, pvF (cutF l op.name))]) ?_ ?_
        · exact wk_mk ⟨rfl, ⟨rfl, ⟨rfl, ⟨rfl, trivial⟩⟩⟩⟩ ⟨rfl, trivial⟩ ⟨rfl, trivial⟩ rfl
        refine tr_region rfl (.run [] [] rfl (st_move rfl) .nil) ?_
        refine tr_if (t := hasF (cutF l op.name) op.dest) rfl (fun h13 => ?_) (fun h13 => ?_)
        · skip
          obtain ⟨e2, he20, _, _⟩ := has_at (srt_cutF hs op.name) h13
          have he2 : (cutF l op.name)[k2]? = some e2 := by rw [hk2]; exact he20
          have hkl4 := (List.getElem?_eq_some_iff.1 he2).1
          have hlc := pvF_length (cutF l op.name)
          refine tr_region rfl (.run [] [] rfl (st_move rfl) (.run [] [] rfl (st_move rfl) (.run [] [] rfl (st_load_box rfl rfl rfl Try.isAgg69 Try.sizeOf69 (nle rfl)) (.run [] [] rfl (st_idx_row0 k2 rfl rfl rfl rfl Try.underlying24 Try.sizeOf69 rfl rfl (by omega)) (.run [] [] rfl (st_store_row rfl rfl rfl (FlatP.nf (pvF_flat _)) (pvF_get he2) rfl rfl (.cons .v (.cons .v .nil)) Try.sizeOf69 rfl (nle rfl)) .nil))))) ?_
          have hr14 : (pvF (cutF l op.name)).set k2 [PV.v (.string op.dest), PV.v (.string e.data)] = pvF (putF (cutF l op.name) op.dest e.data) := by exact (pvF_set _ k2 ⟨op.dest, e.data⟩).trans (congrArg pvF (by rw [hk2]; exact set_put (srt_cutF hs op.name) _ h13))
          have hl15 : (pvF (cutF l op.name)).length = (pvF (putF (cutF l op.name) op.dest e.data)).length := by first | (rw [← hr14, List.length_set]; done) | simp [pvF_length, List.length_set]
          have hp16 : (.sl 5500 0 ((pvF (cutF l op.name)).length) : AV) = .sl 5500 0 ((pvF (putF (cutF l op.name) op.dest e.data)).length) := by simp only [hr14, hl15]
          refine tr_wk (s' := mk [(6, .sl 5500 0 ((pvF (putF (cutF l op.name) op.dest e.data)).length))] [] [(5500, 2, pvF (putF (cutF l op.name) op.dest e.data))]) ?_ ?_
          · exact wk_mk ⟨hp16, trivial⟩ trivial ⟨(congrArg (fun x => some (2, x)) hr14), trivial⟩ rfl
          refine tr_seq ?_
          have hd : doneF l op = (putF (cutF l op.name) op.dest e.data, true) := by rw [done_3 h12 h9, hed]
          rw [hd]
          refine tr_region rfl (.run [] [] rfl (st_move rfl) (.run [] [] rfl (st_assign rfl) (.run [] [] rfl (st_assign rfl) .nil))) ?_
          refine tr_ret ?_
          exact ends [_, _] [5500] (.cons (.tmp rfl) (.cons (.tmp rfl) .nil)) (.cons (.one (.row (len := (pvF (putF (cutF l op.name) op.dest e.data)).length) (xs := pvF (putF (cutF l op.name) op.dest e.data)) rfl rfl) (.sl _ _ (FlatP.clean (pvF_flat _)))) (.cons (.one .v (.v _)) .nil)) (by decide) trivial
        · skip
          refine tr_region rfl (.run [] [] rfl (st_move rfl) (.run [] [] rfl (st_move rfl) (.run [] [] rfl (st_load_box rfl rfl rfl Try.isAgg69 Try.sizeOf69 (nle rfl)) (.run [7700] [] rfl (st_buildSlice rfl 7700 Try.underlying24 inf69 (nle rfl) (by decide) rfl rfl rfl (.cons .v (.cons .v .nil)) (by decide) rfl (by decide) rfl (by decide) rfl) (.run [5500, 7700, 7800] [] rfl (st_call rfl 7800 (X := [5500, 7700]) en71 rfl (.val nod) (.cons (.one (.own (len := (pvF (cutF l op.name)).length) (xs := pvF (cutF l op.name)) rfl rfl)) (.cons (.one (.bor .v)) (.cons (.one (.own (len := 1) (xs := [[PV.v (.string op.dest), PV.v (.string e.data)]]) rfl rfl)) .nil))) (by decide) (all_cons rfl (all_cons rfl all_nil)) (.gone (.gone .nil)) (insF_con (cutF l op.name) (⟨op.dest, e.data⟩ : Fil) k2 (by omega) (by omega)) rfl rfl (nle rfl)) (.run [] [] rfl (st_assign rfl) .nil)))))) ?_
          have hr17 : pvF ((cutF l op.name).take k2 ++ (⟨op.dest, e.data⟩ : Fil) :: (cutF l op.name).drop k2) = pvF (putF (cutF l op.name) op.dest e.data) := by exact congrArg pvF (by rw [hk2]; exact ins_put (srt_cutF hs op.name) _ h13)
          have hp18 : (.sl 7800 0 ((pvF ((cutF l op.name).take k2 ++ (⟨op.dest, e.data⟩ : Fil) :: (cutF l op.name).drop k2)).length) : AV) = .sl 7800 0 ((pvF (putF (cutF l op.name) op.dest e.data)).length) := by simp only [hr17]
          refine tr_wk (s' := mk [(6, .sl 7800 0 ((pvF (putF (cutF l op.name) op.dest e.data)).length))] [] [(7800, 2, pvF (putF (cutF l op.name) op.dest e.data))]) ?_ ?_
          · exact wk_mk ⟨hp18, trivial⟩ trivial ⟨(congrArg (fun x => some (2, x)) hr17), trivial⟩ rfl
          refine tr_seq ?_
          have hd : doneF l op = (putF (cutF l op.name) op.dest e.data, true) := by rw [done_3 h12 h9, hed]
          rw [hd]
          refine tr_region rfl (.run [] [] rfl (st_move rfl) (.run [] [] rfl (st_assign rfl) (.run [] [] rfl (st_assign rfl) .nil))) ?_
          refine tr_ret ?_
          exact ends [_, _] [7800] (.cons (.tmp rfl) (.cons (.tmp rfl) .nil)) (.cons (.one (.row (len := (pvF (putF (cutF l op.name) op.dest e.data)).length) (xs := pvF (putF (cutF l op.name) op.dest e.data)) rfl rfl) (.sl _ _ (FlatP.clean (pvF_flat _)))) (.cons (.one .v (.v _)) .nil)) (by decide) trivial
      · skip
        replace h12 := of_decide_eq_false h12
        refine tr_skip ?_
        refine tr_seq ?_
        have hd : doneF l op = ((cutF l op.name), true) := done_4 h1 h12 h9
        rw [hd]
        refine tr_region rfl (.run [] [] rfl (st_move rfl) (.run [] [] rfl (st_assign rfl) (.run [] [] rfl (st_assign rfl) .nil))) ?_
        refine tr_ret ?_
        exact ends [_, _] [5500] (.cons (.tmp rfl) (.cons (.tmp rfl) .nil)) (.cons (.one (.row (len := (pvF (cutF l op.name)).length) (xs := pvF (cutF l op.name)) rfl rfl) (.sl _ _ (FlatP.clean (pvF_flat _)))) (.cons (.one .v (.v _)) .nil)) (by decide) trivial
end Go.Rl

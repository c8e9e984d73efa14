/- Promises of functions, proved by walks over their operations; no conditions beyond those that each theorem states. -/
import Derived.Test.YtfdebanfenlglaaReZ
import Derived.Test.YtfdebanfenlglaaRmC
set_option linter.unusedSimpArgs false
set_option linter.unusedVariables false
namespace Go.Rl
open Go.Proofs
theorem inf132 : (Try.prog.info? 132).map (fun i => (i.zero, i.size, i.bytes)) = some (some (.agg #[.int .i64 0, .slice none 0 0]), 2, 32) := by kernel_rfl
theorem en40 : ∀ vs w, (callFunc 40 vs).run Try.prog w = .ok (.enter 40 vs) w := enters Try.func40 (by decide) rfl
theorem en101 : ∀ vs w, (callFunc 101 vs).run Try.prog w = .ok (.enter 101 vs) w := enters Try.func101 (by decide) rfl
theorem en115 : ∀ vs w, (callFunc 115 vs).run Try.prog w = .ok (.enter 115 vs) w := enters Try.func115 (by decide) rfl
theorem pvR_tag_clean (ls : List (List Ent)) : Clean (.sl true 1 (pvR (tagT ls))) := by rw [← own_tag]; exact pvR_own_clean _
theorem specDbOk_d (d : Eng) (h : EB d) : Con Try.prog 40 [.agg [.v (.int .i64 d.seq), .sl false 4 (pvE d.mem), .sl false 1 (pvR (tagT d.runs)), .sl false 1 (pvI d.snaps)]] [] [.one (.v (.bool (dbOkS d.seq d.mem (tagT d.runs) d.snaps)))] := specDbOk_con d.seq d.mem (tagT d.runs) d.snaps h.mem h.tag h.b h.snaps
theorem l15Copy_d (d : Eng) (h : Small d) : Con Try.prog 101 [.agg [.v (.int .i64 d.seq), .sl false 4 (pvE d.mem), .sl false 1 (pvR (tagT d.runs)), .sl false 1 (pvI d.snaps)]] [] [.agg [.v (.int .i64 d.seq), .sl true 4 (pvE d.mem), .sl true 1 (pvR (tagT d.runs)), .sl true 1 (pvI d.snaps)]] := by
  have q := l15Copy_con d.seq d.mem (tagT d.runs) d.snaps (by rw [ents_tag]; have := h.mem; have := h.ents; omega) h.eb.tag h.eb.snaps
  rwa [own_tag] at q
theorem pvI_snoc1 (l : List Int) (x : Int) : pvI l ++ [[PV.v (.int .i64 x)]] = pvI (l ++ [x]) := by simp [pvI]
theorem l13Merge_d (d : Eng) (h : Small d) : Con Try.prog 131 [.one (PV.sl false 1 (pvR (tagT d.runs)))] [] [.one (.sl true 4 (pvE (mergeL d.runs)))] := by
  have q := l13Merge_con (tagT d.runs) (by rw [ents_tag]; have := h.ents; omega) (by rw [tag_len]; have := h.runs; omega)
  rwa [rows_tag] at q
theorem l14C (l : List Ent) (s : List Int) (hl : l.length ≤ 2000000) (hs : s.length ≤ 2000000) : Con Try.prog 85 [.one (PV.sl false 4 (pvE l)), .one (PV.sl false 1 (pvI s)), .one (.v (.bool true))] [] [.one (.sl true 4 (pvE (compC l s)))] := l14Compacted_con l s true _ rfl hl hs
theorem l15All_d (d : Eng) (h : Small d) : Con Try.prog 92 [.agg [.v (.int .i64 d.seq), .sl false 4 (pvE d.mem), .sl false 1 (pvR (tagT d.runs)), .sl false 1 (pvI d.snaps)]] [] [.one (.sl true 4 (pvE (mergeL (d.mem :: d.runs))))] := by
  have q := l15All_con d.seq d.mem (tagT d.runs) d.snaps (by rw [ents_tag]; have := h.mem; have := h.ents; omega) h.eb.tag
  rwa [all_tag] at q
theorem merge_small {d : Eng} (h : Small d) : (mergeL d.runs).length ≤ 400 := Nat.le_trans (mergeL_len _) h.ents
theorem merge_small2 {d : Eng} (h : Small d) : (mergeL (d.mem :: d.runs)).length ≤ 800 := Nat.le_trans (mergeL_len _) (by have := h.mem; have := h.ents; simp only [entsL, List.flatten_cons, List.length_append] at this ⊢; omega)
theorem batch_seq {s : Int} {ops : List Bop} (h : batchOkF s ops = true) : within s 1 999999999980 = true := by
  simp only [batchOkF, Bool.and_eq_true] at h
  exact h.2.1
theorem batch_len {s : Int} {ops : List Bop} (h : batchOkF s ops = true) : 1 ≤ ops.length ∧ ops.length ≤ 20 := by
  simp only [batchOkF, Bool.and_eq_true] at h
  exact within_len.1 h.1
set_option maxRecDepth 1000000 in
set_option maxHeartbeats 2000000 in
theorem flushS_con (d : Eng) (hD : EB d) : Con Try.prog 52 [.agg [PV.v (.int .i64 d.seq), PV.sl false 4 (pvE d.mem), PV.sl false 1 (pvR (tagT d.runs)), PV.sl false 1 (pvI d.snaps)]] [] [.agg [.v (.int .i64 ((flushS d).1.seq)), .sl true 4 (pvE ((flushS d).1.mem)), .sl true 1 (pvR (tagT (flushS d).1.runs)), .sl true 1 (pvI ((flushS d).1.snaps))], .one (.v (.int .i64 ((flushS d).2)))] := by
  refine con_of_tr Try.func52 rfl rfl rfl rfl ?_
  have hl1 := pvE_length d.mem
  have hl2 := pvR_length (tagT d.runs)
  have hl3 := pvI_length d.snaps
  have hl4 := tag_len d.runs
  refine tr_seq ?_
  refine tr_region rfl (.run [] [1] rfl (st_box rfl 1 rfl rfl (by decide) rfl (by decide)) (.run [] [2] rfl (st_allocZ rfl 2 inf56 rfl (by decide) rfl (by decide)) (.run [] [] rfl (st_assign rfl) .nil))) ?_
  refine tr_seq ?_
  refine tr_seq ?_
  refine tr_region rfl (.run [] [] rfl (st_load_box rfl rfl rfl Try.isAgg56 Try.sizeOf56 (nle rfl)) (.run [600] [] rfl (st_call rfl 600 (X := []) en40 rfl (.val nod) (.cons (.agg (.cons (.bor .v) (.cons (.bor (.sl nod)) (.cons (.bor (.sl nod)) (.cons (.bor (.sl nod)) .nil))))) .nil) (by decide) all_nil .nil (specDbOk_d d hD) rfl rfl (nle rfl)) (.run [] [] rfl (st_not (b := dbOkS d.seq d.mem (tagT d.runs) d.snaps) rfl rfl) .nil))) ?_
  refine tr_if (t := (!(dbOkS d.seq d.mem (tagT d.runs) d.snaps))) rfl (fun h1 => ?_) (fun h1 => ?_)
  · skip
    replace h1 : (dbOkS d.seq d.mem (tagT d.runs) d.snaps) = false := bnot_t h1
    refine tr_seq ?_
    have hw : dbOkS d.seq d.mem (tagT d.runs) d.snaps = false := by simpa using h1
    rw [flush_w hw]
    refine tr_region rfl (.run [] [] rfl (st_build (pl := [(0, 1), (1, 1), (2, 1), (3, 1)]) rfl Try.underlying56 inf56 (by kernel_rfl) rfl rfl) (.run [] [] rfl (st_store_box rfl rfl rfl rfl rfl Try.sizeOf56 rfl (nle rfl)) (.run [] [] rfl (st_assign rfl) .nil))) ?_
    refine tr_ret ?_
    exact ends [_, _] [] (.cons (.cell rfl rfl Try.isAgg56 Try.sizeOf56 (nle rfl)) (.cons (.tmp rfl) .nil)) (.cons (.agg (.cons .v (.cons (.nil _) (.cons (.nil _) (.cons (.nil _) .nil)))) (cl_cons (.v _) (cl_cons (.sl _ _ (fun _ h => nomatch h)) (cl_cons (.sl _ _ (fun _ h => nomatch h)) (cl_cons (.sl _ _ (fun _ h => nomatch h)) cl_nil))))) (.cons (.one .v (.v _)) .nil)) (by decide) trivial
  · skip
    replace h1 : (dbOkS d.seq d.mem (tagT d.runs) d.snaps) = true := bnot_f h1
    refine tr_skip ?_
    refine tr_seq ?_
    have hok : dbOkS d.seq d.mem (tagT d.runs) d.snaps = true := by simpa using h1
    have hsm := okS_small hok
    have hm1 := hsm.mem
    have hm2 := hsm.runs
    have hm3 := hsm.snaps
    have hm4 := hsm.seq
    refine tr_region rfl (.run [] [] rfl (st_load_box rfl rfl rfl Try.isAgg56 Try.sizeOf56 (nle rfl)) (.run [1000, 1001, 1002, 1003] [] rfl (st_call rfl 1000 (X := []) en101 rfl (.val nod) (.cons (.agg (.cons (.bor .v) (.cons (.bor (.sl nod)) (.cons (.bor (.sl nod)) (.cons (.bor (.sl nod)) .nil))))) .nil) (by decide) all_nil .nil (l15Copy_d d hsm) rfl rfl (nle rfl)) (.run [] [4] rfl (st_allocZ rfl 4 inf56 rfl (by decide) rfl (by decide)) (.run [] [] rfl (st_store_box rfl rfl rfl rfl rfl Try.sizeOf56 rfl (nle rfl)) .nil)))) ?_
    refine tr_seq ?_
    refine tr_seq ?_
    refine tr_region rfl (.run [] [] rfl (st_faddr_box rfl rfl Try.underlying56 rfl Try.sizeOf26 (by decide)) (.run [] [] rfl (st_load_box1 rfl rfl rfl Try.isAgg26 rfl) (.run [] [] rfl (st_len_fro rfl rfl Try.underlying26) (.run [] [] rfl (st_eql rfl rfl rfl) .nil)))) ?_
    refine tr_if (t := decide (((pvE d.mem).length : Int) = 0)) rfl (fun h2 => ?_) (fun h2 => ?_)
    · skip
      replace h2 := of_decide_eq_true h2
      refine tr_seq ?_
      rw [flush_e hok (by omega)]
      refine tr_wk (s' := mk [(2, .ptr 2 0), (4, .ptr 4 0)] [(2, [.p none (.v (.int .i64 0)), .nils, .nils, .nils]), (4, [.p none (.v (.int .i64 d.seq)), .sl 1001 0 ((pvE d.mem).length), .sl 1002 0 ((pvR (tagT d.runs)).length), .sl 1003 0 ((pvI d.snaps).length)])] [(1001, 4, pvE d.mem), (1002, 1, pvR (tagT d.runs)), (1003, 1, pvI d.snaps)]) ?_ ?_
      · exact wk_mk ⟨rfl, ⟨rfl, trivial⟩⟩ ⟨rfl, ⟨rfl, trivial⟩⟩ ⟨rfl, ⟨rfl, ⟨rfl, trivial⟩⟩⟩ rfl
      refine tr_region rfl (.run [] [] rfl (st_load_box rfl rfl rfl Try.isAgg56 Try.sizeOf56 (nle rfl)) (.run [] [] rfl (st_store_box rfl rfl rfl rfl rfl Try.sizeOf56 rfl (nle rfl)) (.run [] [] rfl (st_assign rfl) .nil))) ?_
      refine tr_ret ?_
      exact ends [_, _] [1001, 1002, 1003] (.cons (.cell rfl rfl Try.isAgg56 Try.sizeOf56 (nle rfl)) (.cons (.tmp rfl) .nil)) (.cons (.agg (.cons .v (.cons (.row (len := (pvE d.mem).length) (xs := pvE d.mem) rfl rfl) (.cons (.row (len := (pvR (tagT d.runs)).length) (xs := pvR (tagT d.runs)) rfl rfl) (.cons (.row (len := (pvI d.snaps).length) (xs := pvI d.snaps) rfl rfl) .nil)))) (cl_cons (.v _) (cl_cons (.sl _ _ (FlatP.clean (pvE_flat _))) (cl_cons (pvR_tag_clean _) (cl_cons (.sl _ _ (FlatP.clean (pvI_flat _))) cl_nil))))) (.cons (.one .v (.v _)) .nil)) (by decide) trivial
    · skip
      replace h2 := of_decide_eq_false h2
      refine tr_skip ?_
      refine tr_seq ?_
      refine tr_seq ?_
      refine tr_wk (s' := mk [(1, .ptr 1 0), (2, .ptr 2 0), (4, .ptr 4 0)] [(1, [.p none (.v (.int .i64 d.seq)), .p none (.sl false 4 (pvE d.mem)), .p none (.sl false 1 (pvR (tagT d.runs))), .p none (.sl false 1 (pvI d.snaps))]), (2, [.p none (.v (.int .i64 0)), .nils, .nils, .nils]), (4, [.p none (.v (.int .i64 d.seq)), .sl 1001 0 ((pvE d.mem).length), .sl 1002 0 ((pvR (tagT d.runs)).length), .sl 1003 0 ((pvI d.snaps).length)])] [(1001, 4, pvE d.mem), (1002, 1, pvR (tagT d.runs)), (1003, 1, pvI d.snaps)]) ?_ ?_
      · exact wk_mk ⟨rfl, ⟨rfl, ⟨rfl, trivial⟩⟩⟩ ⟨rfl, ⟨rfl, ⟨rfl, trivial⟩⟩⟩ ⟨rfl, ⟨rfl, ⟨rfl, trivial⟩⟩⟩ rfl
      refine tr_region rfl (.run [] [] rfl (st_faddr_box rfl rfl Try.underlying56 rfl Try.sizeOf54 (by decide)) (.run [] [] rfl (st_load_box1 rfl rfl rfl Try.isAgg54 rfl) (.run [] [] rfl (st_len_fro rfl rfl Try.underlying54) (.run [] [] rfl (st_geq rfl rfl rfl) .nil)))) ?_
      refine tr_if (t := decide (19 ≤ ((pvR (tagT d.runs)).length : Int))) rfl (fun h3 => ?_) (fun h3 => ?_)
      · skip
        replace h3 := of_decide_eq_true h3
        refine tr_seq ?_
        rw [flush_f hok (by omega) (by omega)]
        refine tr_region rfl (.run [] [] rfl (st_load_box rfl rfl rfl Try.isAgg56 Try.sizeOf56 (nle rfl)) (.run [] [] rfl (st_store_box rfl rfl rfl rfl rfl Try.sizeOf56 rfl (nle rfl)) (.run [] [] rfl (st_assign rfl) .nil))) ?_
        refine tr_ret ?_
        exact ends [_, _] [1001, 1002, 1003] (.cons (.cell rfl rfl Try.isAgg56 Try.sizeOf56 (nle rfl)) (.cons (.tmp rfl) .nil)) (.cons (.agg (.cons .v (.cons (.row (len := (pvE d.mem).length) (xs := pvE d.mem) rfl rfl) (.cons (.row (len := (pvR (tagT d.runs)).length) (xs := pvR (tagT d.runs)) rfl rfl) (.cons (.row (len := (pvI d.snaps).length) (xs := pvI d.snaps) rfl rfl) .nil)))) (cl_cons (.v _) (cl_cons (.sl _ _ (FlatP.clean (pvE_flat _))) (cl_cons (pvR_tag_clean _) (cl_cons (.sl _ _ (FlatP.clean (pvI_flat _))) cl_nil))))) (.cons (.one .v (.v _)) .nil)) (by decide) trivial
      · skip
        replace h3 := of_decide_eq_false h3
        refine tr_skip ?_
        refine tr_seq ?_
        rw [flush_y hok (by omega) (by omega)]
        refine tr_region rfl (.run [] [] rfl (st_faddr_box rfl rfl Try.underlying56 rfl Try.sizeOf26 (by decide)) (.run [] [] rfl (st_load_box1 rfl rfl rfl Try.isAgg26 rfl) (.run [] [] rfl (st_build (pl := [(0, 1)]) rfl Try.underlying108 inf108 (by kernel_rfl) rfl rfl) (.run [2400, 1001] [] rfl (st_buildSlice rfl 2400 Try.underlying54 inf108 (nle rfl) (by decide) rfl rfl rfl (.cons (.row rfl rfl) .nil) (by decide) rfl (by decide) rfl (by decide) rfl) (.run [] [] rfl (st_faddr_box rfl rfl Try.underlying56 rfl Try.sizeOf54 (by decide)) (.run [] [] rfl (st_load_box1 rfl rfl rfl Try.isAgg54 rfl) (.run [2400] [] rfl (st_append rfl 2400 (ib := 2400) (len := ([[PV.sl true 4 (pvE d.mem)]] ++ (pvR (tagT d.runs))).length) rfl rfl (.row (len := 1) (xs := [[PV.sl true 4 (pvE d.mem)]]) rfl rfl (.inl rfl)) (.give (len := (pvR (tagT d.runs)).length) (xs := pvR (tagT d.runs)) rfl rfl) Try.underlying54 (sk Try.underlying54 rfl) inf108 rfl (by decide) (by decide) (by decide) List.length_append (by simp only [maxLen, List.length_append, List.length_map, List.length_cons, List.length_nil, List.length_take, List.length_drop, pvE_length, pvI_length, pvT_length, pvU_length, pvP_length, pvR_length, pvO_length]; omega) (by simp only [maxLen, List.length_append, List.length_map, List.length_cons, List.length_nil, List.length_take, List.length_drop, pvE_length, pvI_length, pvT_length, pvU_length, pvP_length, pvR_length, pvO_length]; omega)) (.run [] [] rfl (st_faddr_box rfl rfl Try.underlying56 rfl Try.sizeOf54 (by decide)) (.run [] [] rfl (st_store_box rfl rfl rfl rfl rfl Try.sizeOf54 rfl (nle rfl)) .nil))))))))) ?_
        have hr4 : [[PV.sl true 4 (pvE d.mem)]] ++ (pvR (tagT d.runs)) = pvR (tagT (d.mem :: d.runs)) := by exact tag_cons _ _
        have hp5 : (some [.p none (.v (.int .i64 d.seq)), .undef, .sl 2400 0 (([[PV.sl true 4 (pvE d.mem)]] ++ (pvR (tagT d.runs))).length), .sl 1003 0 ((pvI d.snaps).length)] : Option (List AV)) = some [.p none (.v (.int .i64 d.seq)), .undef, .sl 2400 0 ((pvR (tagT (d.mem :: d.runs))).length), .sl 1003 0 ((pvI d.snaps).length)] := by simp only [hr4]
        refine tr_wk (s' := mk [(2, .ptr 2 0), (4, .ptr 4 0)] [(2, [.p none (.v (.int .i64 0)), .nils, .nils, .nils]), (4, [.p none (.v (.int .i64 d.seq)), .undef, .sl 2400 0 ((pvR (tagT (d.mem :: d.runs))).length), .sl 1003 0 ((pvI d.snaps).length)])] [(1003, 1, pvI d.snaps), (2400, 1, pvR (tagT (d.mem :: d.runs)))]) ?_ ?_
        · exact wk_mk ⟨rfl, ⟨rfl, trivial⟩⟩ ⟨rfl, ⟨hp5, trivial⟩⟩ ⟨rfl, ⟨(congrArg (fun x => some (1, x)) hr4), trivial⟩⟩ rfl
        refine tr_seq ?_
        refine tr_region rfl (.run [2900] [] rfl (st_buildSlice rfl 2900 Try.underlying26 inf44 (nle rfl) (by decide) rfl rfl rfl .nil (by decide) rfl (by decide) rfl (by decide) rfl) (.run [] [] rfl (st_faddr_box rfl rfl Try.underlying56 rfl Try.sizeOf26 (by decide)) (.run [] [] rfl (st_store_box rfl rfl rfl rfl rfl Try.sizeOf26 rfl (nle rfl)) .nil))) ?_
        have hr6 : [] = pvE [] := by rfl
        have hl7 : 0 = (pvE []).length := by first | (rw [← hr6, List.length_set]; done) | simp [pvE_length]
        have hp8 : (some [.p none (.v (.int .i64 d.seq)), .sl 2900 0 0, .sl 2400 0 ((pvR (tagT (d.mem :: d.runs))).length), .sl 1003 0 ((pvI d.snaps).length)] : Option (List AV)) = some [.p none (.v (.int .i64 d.seq)), .sl 2900 0 ((pvE []).length), .sl 2400 0 ((pvR (tagT (d.mem :: d.runs))).length), .sl 1003 0 ((pvI d.snaps).length)] := by simp only [hr6, hl7]
        refine tr_wk (s' := mk [(2, .ptr 2 0), (4, .ptr 4 0)] [(2, [.p none (.v (.int .i64 0)), .nils, .nils, .nils]), (4, [.p none (.v (.int .i64 d.seq)), .sl 2900 0 ((pvE []).length), .sl 2400 0 ((pvR (tagT (d.mem :: d.runs))).length), .sl 1003 0 ((pvI d.snaps).length)])] [(1003, 1, pvI d.snaps), (2400, 1, pvR (tagT (d.mem :: d.runs))), (2900, 4, pvE [])]) ?_ ?_
        · exact wk_mk ⟨rfl, ⟨rfl, trivial⟩⟩ ⟨rfl, ⟨hp8, trivial⟩⟩ ⟨rfl, ⟨rfl, ⟨(congrArg (fun x => some (4, x)) hr6), trivial⟩⟩⟩ rfl
        refine tr_seq ?_
        refine tr_region rfl (.run [] [] rfl (st_load_box rfl rfl rfl Try.isAgg56 Try.sizeOf56 (nle rfl)) (.run [] [] rfl (st_store_box rfl rfl rfl rfl rfl Try.sizeOf56 rfl (nle rfl)) (.run [] [] rfl (st_assign rfl) .nil))) ?_
        refine tr_ret ?_
        exact ends [_, _] [2900, 2400, 1003] (.cons (.cell rfl rfl Try.isAgg56 Try.sizeOf56 (nle rfl)) (.cons (.tmp rfl) .nil)) (.cons (.agg (.cons .v (.cons (.row (len := (pvE []).length) (xs := pvE []) rfl rfl) (.cons (.row (len := (pvR (tagT (d.mem :: d.runs))).length) (xs := pvR (tagT (d.mem :: d.runs))) rfl rfl) (.cons (.row (len := (pvI d.snaps).length) (xs := pvI d.snaps) rfl rfl) .nil)))) (cl_cons (.v _) (cl_cons (.sl _ _ (FlatP.clean (pvE_flat _))) (cl_cons (pvR_tag_clean _) (cl_cons (.sl _ _ (FlatP.clean (pvI_flat _))) cl_nil))))) (.cons (.one .v (.v _)) .nil)) (by decide) trivial
set_option maxRecDepth 1000000 in
set_option maxHeartbeats 2000000 in
theorem snapS_con (d : Eng) (hD : EB d) : Con Try.prog 44 [.agg [PV.v (.int .i64 d.seq), PV.sl false 4 (pvE d.mem), PV.sl false 1 (pvR (tagT d.runs)), PV.sl false 1 (pvI d.snaps)]] [] [.agg [.v (.int .i64 ((snapS d).1.seq)), .sl true 4 (pvE ((snapS d).1.mem)), .sl true 1 (pvR (tagT (snapS d).1.runs)), .sl true 1 (pvI ((snapS d).1.snaps))], .one (.v (.int .i64 ((snapS d).2.1))), .one (.v (.int .i64 ((snapS d).2.2)))] := by
  refine con_of_tr Try.func44 rfl rfl rfl rfl ?_
  have hl1 := pvE_length d.mem
  have hl2 := pvR_length (tagT d.runs)
  have hl3 := pvI_length d.snaps
  have hl4 := tag_len d.runs
  refine tr_seq ?_
  refine tr_region rfl (.run [] [1] rfl (st_box rfl 1 rfl rfl (by decide) rfl (by decide)) (.run [] [2] rfl (st_allocZ rfl 2 inf56 rfl (by decide) rfl (by decide)) (.run [] [] rfl (st_assign rfl) (.run [] [] rfl (st_assign rfl) .nil)))) ?_
  refine tr_seq ?_
  refine tr_seq ?_
  refine tr_region rfl (.run [] [] rfl (st_load_box rfl rfl rfl Try.isAgg56 Try.sizeOf56 (nle rfl)) (.run [700] [] rfl (st_call rfl 700 (X := []) en40 rfl (.val nod) (.cons (.agg (.cons (.bor .v) (.cons (.bor (.sl nod)) (.cons (.bor (.sl nod)) (.cons (.bor (.sl nod)) .nil))))) .nil) (by decide) all_nil .nil (specDbOk_d d hD) rfl rfl (nle rfl)) (.run [] [] rfl (st_not (b := dbOkS d.seq d.mem (tagT d.runs) d.snaps) rfl rfl) .nil))) ?_
  refine tr_if (t := (!(dbOkS d.seq d.mem (tagT d.runs) d.snaps))) rfl (fun h1 => ?_) (fun h1 => ?_)
  · skip
    replace h1 : (dbOkS d.seq d.mem (tagT d.runs) d.snaps) = false := bnot_t h1
    refine tr_seq ?_
    have hw : dbOkS d.seq d.mem (tagT d.runs) d.snaps = false := by simpa using h1
    rw [snap_w hw]
    refine tr_region rfl (.run [] [] rfl (st_build (pl := [(0, 1), (1, 1), (2, 1), (3, 1)]) rfl Try.underlying56 inf56 (by kernel_rfl) rfl rfl) (.run [] [] rfl (st_store_box rfl rfl rfl rfl rfl Try.sizeOf56 rfl (nle rfl)) (.run [] [] rfl (st_assign rfl) (.run [] [] rfl (st_assign rfl) .nil)))) ?_
    refine tr_ret ?_
    exact ends [_, _, _] [] (.cons (.cell rfl rfl Try.isAgg56 Try.sizeOf56 (nle rfl)) (.cons (.tmp rfl) (.cons (.tmp rfl) .nil))) (.cons (.agg (.cons .v (.cons (.nil _) (.cons (.nil _) (.cons (.nil _) .nil)))) (cl_cons (.v _) (cl_cons (.sl _ _ (fun _ h => nomatch h)) (cl_cons (.sl _ _ (fun _ h => nomatch h)) (cl_cons (.sl _ _ (fun _ h => nomatch h)) cl_nil))))) (.cons (.one .v (.v _)) (.cons (.one .v (.v _)) .nil))) (by decide) trivial
  · skip
    replace h1 : (dbOkS d.seq d.mem (tagT d.runs) d.snaps) = true := bnot_f h1
    refine tr_skip ?_
    refine tr_seq ?_
    have hok : dbOkS d.seq d.mem (tagT d.runs) d.snaps = true := by simpa using h1
    have hsm := okS_small hok
    have hm1 := hsm.mem
    have hm2 := hsm.runs
    have hm3 := hsm.snaps
    have hm4 := hsm.seq
    refine tr_region rfl (.run [] [] rfl (st_load_box rfl rfl rfl Try.isAgg56 Try.sizeOf56 (nle rfl)) (.run [1100, 1101, 1102, 1103] [] rfl (st_call rfl 1100 (X := []) en101 rfl (.val nod) (.cons (.agg (.cons (.bor .v) (.cons (.bor (.sl nod)) (.cons (.bor (.sl nod)) (.cons (.bor (.sl nod)) .nil))))) .nil) (by decide) all_nil .nil (l15Copy_d d hsm) rfl rfl (nle rfl)) (.run [] [5] rfl (st_allocZ rfl 5 inf56 rfl (by decide) rfl (by decide)) (.run [] [] rfl (st_store_box rfl rfl rfl rfl rfl Try.sizeOf56 rfl (nle rfl)) .nil)))) ?_
    refine tr_seq ?_
    refine tr_seq ?_
    rcases Nat.eq_zero_or_pos d.snaps.length with hz | hz
    · skip
      have hnl : ¬ lastIs d.snaps d.seq := last_no hz
      refine tr_wk (s' := mk [(1, .ptr 1 0), (2, .ptr 2 0), (5, .ptr 5 0)] [(1, [.p none (.v (.int .i64 d.seq)), .p none (.sl false 4 (pvE d.mem)), .p none (.sl false 1 (pvR (tagT d.runs))), .p none (.sl false 1 (pvI d.snaps))]), (2, [.p none (.v (.int .i64 0)), .nils, .nils, .nils]), (5, [.p none (.v (.int .i64 d.seq)), .sl 1101 0 ((pvE d.mem).length), .sl 1102 0 ((pvR (tagT d.runs)).length), .sl 1103 0 ((pvI d.snaps).length)])] [(1101, 4, pvE d.mem), (1102, 1, pvR (tagT d.runs)), (1103, 1, pvI d.snaps)]) ?_ ?_
      · exact wk_mk ⟨rfl, ⟨rfl, ⟨rfl, trivial⟩⟩⟩ ⟨rfl, ⟨rfl, ⟨rfl, trivial⟩⟩⟩ ⟨rfl, ⟨rfl, ⟨rfl, trivial⟩⟩⟩ rfl
      rcases bfc (decide (0 < ((pvI d.snaps).length : Int))) with h2 | h2
      · have h2' := h2
        replace h2' := of_decide_eq_false h2'
        refine tr_regionD mixed rfl (.run [] [] rfl (st_faddr_box rfl rfl Try.underlying56 rfl Try.sizeOf23 (by decide)) (.run [] [] rfl (st_load_box1 rfl rfl rfl Try.isAgg23 rfl) (.run [] [] rfl (st_len_fro rfl rfl Try.underlying23) (.run [] [] rfl (st_eq (st_gtr rfl rfl rfl) (bool_eq h2)) (.run [] [] rfl (st_move rfl) (.not rfl (.not rfl (.not rfl (.not rfl (.not rfl (.not rfl (.not rfl (.not rfl (.not rfl (.not rfl (.not rfl (.run [] [] rfl (st_pickF rfl rfl) .nil))))))))))))))))) (by kernel_rfl) ?_
        refine tr_if (t := false) rfl (fun h => nomatch h) (fun _ => ?_)
        refine tr_skip ?_
        refine tr_seq ?_
        refine tr_seq ?_
        refine tr_wk (s' := mk [(1, .ptr 1 0), (2, .ptr 2 0), (5, .ptr 5 0)] [(1, [.p none (.v (.int .i64 d.seq)), .p none (.sl false 4 (pvE d.mem)), .p none (.sl false 1 (pvR (tagT d.runs))), .p none (.sl false 1 (pvI d.snaps))]), (2, [.p none (.v (.int .i64 0)), .nils, .nils, .nils]), (5, [.p none (.v (.int .i64 d.seq)), .sl 1101 0 ((pvE d.mem).length), .sl 1102 0 ((pvR (tagT d.runs)).length), .sl 1103 0 ((pvI d.snaps).length)])] [(1101, 4, pvE d.mem), (1102, 1, pvR (tagT d.runs)), (1103, 1, pvI d.snaps)]) ?_ ?_
        · exact wk_mk ⟨rfl, ⟨rfl, ⟨rfl, trivial⟩⟩⟩ ⟨rfl, ⟨rfl, ⟨rfl, trivial⟩⟩⟩ ⟨rfl, ⟨rfl, ⟨rfl, trivial⟩⟩⟩ rfl
        refine tr_region rfl (.run [] [] rfl (st_faddr_box rfl rfl Try.underlying56 rfl Try.sizeOf23 (by decide)) (.run [] [] rfl (st_load_box1 rfl rfl rfl Try.isAgg23 rfl) (.run [] [] rfl (st_len_fro rfl rfl Try.underlying23) (.run [] [] rfl (st_geq rfl rfl rfl) .nil)))) ?_
        refine tr_if (t := decide (20 ≤ ((pvI d.snaps).length : Int))) rfl (fun h3 => ?_) (fun h3 => ?_)
        · skip
          replace h3 := of_decide_eq_true h3
          refine tr_seq ?_
          rw [snap_f hok hnl (by omega)]
          refine tr_region rfl (.run [] [] rfl (st_load_box rfl rfl rfl Try.isAgg56 Try.sizeOf56 (nle rfl)) (.run [] [] rfl (st_store_box rfl rfl rfl rfl rfl Try.sizeOf56 rfl (nle rfl)) (.run [] [] rfl (st_assign rfl) (.run [] [] rfl (st_assign rfl) .nil)))) ?_
          refine tr_ret ?_
          exact ends [_, _, _] [1101, 1102, 1103] (.cons (.cell rfl rfl Try.isAgg56 Try.sizeOf56 (nle rfl)) (.cons (.tmp rfl) (.cons (.tmp rfl) .nil))) (.cons (.agg (.cons .v (.cons (.row (len := (pvE d.mem).length) (xs := pvE d.mem) rfl rfl) (.cons (.row (len := (pvR (tagT d.runs)).length) (xs := pvR (tagT d.runs)) rfl rfl) (.cons (.row (len := (pvI d.snaps).length) (xs := pvI d.snaps) rfl rfl) .nil)))) (cl_cons (.v _) (cl_cons (.sl _ _ (FlatP.clean (pvE_flat _))) (cl_cons (pvR_tag_clean _) (cl_cons (.sl _ _ (FlatP.clean (pvI_flat _))) cl_nil))))) (.cons (.one .v (.v _)) (.cons (.one .v (.v _)) .nil))) (by decide) trivial
        · skip
          replace h3 := of_decide_eq_false h3
          refine tr_skip ?_
          refine tr_seq ?_
          rw [snap_y hok hnl (by omega)]
          refine tr_region rfl (.run [] [] rfl (st_faddr_box rfl rfl Try.underlying56 rfl Try.sizeOf23 (by decide)) (.run [] [] rfl (st_load_box1 rfl rfl rfl Try.isAgg23 rfl) (.run [] [] rfl (st_faddr_box rfl rfl Try.underlying56 rfl Try.sizeOf2 (by decide)) (.run [] [] rfl (st_load_box1 rfl rfl rfl Try.isAgg2 rfl) (.run [4100] [] rfl (st_buildSlice rfl 4100 Try.underlying23 inf2 (nle rfl) (by decide) rfl rfl rfl (.cons .v .nil) (by decide) rfl (by decide) rfl (by decide) rfl) (.run [1103] [] rfl (st_append rfl 1103 (ib := 1103) (len := ((pvI d.snaps) ++ [[PV.v (.int .i64 d.seq)]]).length) rfl rfl (.row (len := (pvI d.snaps).length) (xs := pvI d.snaps) rfl rfl (.inl rfl)) (.give (len := 1) (xs := [[PV.v (.int .i64 d.seq)]]) rfl rfl) Try.underlying23 (sk Try.underlying23 rfl) inf2 rfl (by decide) (by decide) (by decide) List.length_append (by simp only [maxLen, List.length_append, List.length_map, List.length_cons, List.length_nil, List.length_take, List.length_drop, pvE_length, pvI_length, pvT_length, pvU_length, pvP_length, pvR_length, pvO_length]; omega) (by simp only [maxLen, List.length_append, List.length_map, List.length_cons, List.length_nil, List.length_take, List.length_drop, pvE_length, pvI_length, pvT_length, pvU_length, pvP_length, pvR_length, pvO_length]; omega)) (.run [] [] rfl (st_faddr_box rfl rfl Try.underlying56 rfl Try.sizeOf23 (by decide)) (.run [] [] rfl (st_store_box rfl rfl rfl rfl rfl Try.sizeOf23 rfl (nle rfl)) .nil)))))))) ?_
          have hr4 : (pvI d.snaps) ++ [[PV.v (.int .i64 d.seq)]] = pvI (d.snaps ++ [d.seq]) := by exact pvI_snoc1 _ _
          have hp5 : (some [.p none (.v (.int .i64 d.seq)), .sl 1101 0 ((pvE d.mem).length), .sl 1102 0 ((pvR (tagT d.runs)).length), .sl 1103 0 (((pvI d.snaps) ++ [[PV.v (.int .i64 d.seq)]]).length)] : Option (List AV)) = some [.p none (.v (.int .i64 d.seq)), .sl 1101 0 ((pvE d.mem).length), .sl 1102 0 ((pvR (tagT d.runs)).length), .sl 1103 0 ((pvI (d.snaps ++ [d.seq])).length)] := by simp only [hr4]
          refine tr_wk (s' := mk [(1, .ptr 1 0), (2, .ptr 2 0), (5, .ptr 5 0)] [(1, [.p none (.v (.int .i64 d.seq)), .p none (.sl false 4 (pvE d.mem)), .p none (.sl false 1 (pvR (tagT d.runs))), .p none (.sl false 1 (pvI d.snaps))]), (2, [.p none (.v (.int .i64 0)), .nils, .nils, .nils]), (5, [.p none (.v (.int .i64 d.seq)), .sl 1101 0 ((pvE d.mem).length), .sl 1102 0 ((pvR (tagT d.runs)).length), .sl 1103 0 ((pvI (d.snaps ++ [d.seq])).length)])] [(1101, 4, pvE d.mem), (1102, 1, pvR (tagT d.runs)), (1103, 1, pvI (d.snaps ++ [d.seq]))]) ?_ ?_
          · exact wk_mk ⟨rfl, ⟨rfl, ⟨rfl, trivial⟩⟩⟩ ⟨rfl, ⟨rfl, ⟨hp5, trivial⟩⟩⟩ ⟨rfl, ⟨rfl, ⟨(congrArg (fun x => some (1, x)) hr4), trivial⟩⟩⟩ rfl
          refine tr_seq ?_
          refine tr_regionD mixed rfl (.run [] [] rfl (st_load_box rfl rfl rfl Try.isAgg56 Try.sizeOf56 (nle rfl)) (.run [] [] rfl (st_faddr_box rfl rfl Try.underlying56 rfl Try.sizeOf2 (by decide)) (.run [] [] rfl (st_load_box1 rfl rfl rfl Try.isAgg2 rfl) (.run [] [] rfl (st_store_box rfl rfl rfl rfl rfl Try.sizeOf56 rfl (nle rfl)) (.run [] [] rfl (st_assign rfl) (.run [] [] rfl (st_assign rfl) .nil)))))) (by kernel_rfl) ?_
          refine tr_ret ?_
          exact ends [_, _, _] [1101, 1102, 1103] (.cons (.cell rfl rfl Try.isAgg56 Try.sizeOf56 (nle rfl)) (.cons (.tmp rfl) (.cons (.tmp rfl) .nil))) (.cons (.agg (.cons .v (.cons (.row (len := (pvE d.mem).length) (xs := pvE d.mem) rfl rfl) (.cons (.row (len := (pvR (tagT d.runs)).length) (xs := pvR (tagT d.runs)) rfl rfl) (.cons (.row (len := (pvI (d.snaps ++ [d.seq])).length) (xs := pvI (d.snaps ++ [d.seq])) rfl rfl) .nil)))) (cl_cons (.v _) (cl_cons (.sl _ _ (FlatP.clean (pvE_flat _))) (cl_cons (pvR_tag_clean _) (cl_cons (.sl _ _ (FlatP.clean (pvI_flat _))) cl_nil))))) (.cons (.one .v (.v _)) (.cons (.one .v (.v _)) .nil))) (by decide) trivial
      · have h2' := h2
        replace h2' := of_decide_eq_true h2'
        omega
    · skip
      obtain ⟨x, hx⟩ : ∃ x, d.snaps[d.snaps.length - 1]? = some x := ⟨_, List.getElem?_eq_getElem (by omega)⟩
      refine tr_wk (s' := mk [(1, .ptr 1 0), (2, .ptr 2 0), (5, .ptr 5 0)] [(1, [.p none (.v (.int .i64 d.seq)), .p none (.sl false 4 (pvE d.mem)), .p none (.sl false 1 (pvR (tagT d.runs))), .p none (.sl false 1 (pvI d.snaps))]), (2, [.p none (.v (.int .i64 0)), .nils, .nils, .nils]), (5, [.p none (.v (.int .i64 d.seq)), .sl 1101 0 ((pvE d.mem).length), .sl 1102 0 ((pvR (tagT d.runs)).length), .sl 1103 0 ((pvI d.snaps).length)])] [(1101, 4, pvE d.mem), (1102, 1, pvR (tagT d.runs)), (1103, 1, pvI d.snaps)]) ?_ ?_
      · exact wk_mk ⟨rfl, ⟨rfl, ⟨rfl, trivial⟩⟩⟩ ⟨rfl, ⟨rfl, ⟨rfl, trivial⟩⟩⟩ ⟨rfl, ⟨rfl, ⟨rfl, trivial⟩⟩⟩ rfl
      rcases bfc (decide (0 < ((pvI d.snaps).length : Int))) with h6 | h6
      · have h6' := h6
        replace h6' := of_decide_eq_false h6'
        omega
      · have h6' := h6
        replace h6' := of_decide_eq_true h6'
        refine tr_regionD mixed rfl (.run [] [] rfl (st_faddr_box rfl rfl Try.underlying56 rfl Try.sizeOf23 (by decide)) (.run [] [] rfl (st_load_box1 rfl rfl rfl Try.isAgg23 rfl) (.run [] [] rfl (st_len_fro rfl rfl Try.underlying23) (.run [] [] rfl (st_eq (st_gtr rfl rfl rfl) (bool_eq h6)) (.run [] [] rfl (st_move rfl) (.run [] [] rfl (st_faddr_box rfl rfl Try.underlying56 rfl Try.sizeOf23 (by decide)) (.run [] [] rfl (st_load_box1 rfl rfl rfl Try.isAgg23 rfl) (.run [] [] rfl (st_faddr_box rfl rfl Try.underlying56 rfl Try.sizeOf23 (by decide)) (.run [] [] rfl (st_load_box1 rfl rfl rfl Try.isAgg23 rfl) (.run [] [] rfl (st_len_fro rfl rfl Try.underlying23) (.run [] [] rfl (st_eq (st_subn rfl rfl rfl (by omega)) ((show (AV.p none (.v (.int .i64 (((pvI d.snaps).length : Int) - 1)))) = AV.p none (.v (.int .i64 ((d.snaps.length - 1 : Nat) : Int))) from int_eq (by omega)))) (.run [] [] rfl (st_idx_fro rfl rfl rfl Try.underlying23 Try.sizeOf2 rfl (by omega) (pvI_get hx)) (.run [] [] rfl (st_load_fea1 rfl rfl Try.isAgg2 rfl) (.run [] [] rfl (st_faddr_box rfl rfl Try.underlying56 rfl Try.sizeOf2 (by decide)) (.run [] [] rfl (st_load_box1 rfl rfl rfl Try.isAgg2 rfl) (.run [] [] rfl (st_eql rfl rfl rfl) (.run [] [] rfl (st_pickT rfl rfl) .nil))))))))))))))))) (by kernel_rfl) ?_
        refine tr_if (t := decide (x = d.seq)) rfl (fun h7 => ?_) (fun h7 => ?_)
        · skip
          replace h7 := of_decide_eq_true h7
          refine tr_seq ?_
          have hla : lastIs d.snaps d.seq := by rw [lastIs, hx, h7]
          rw [snap_l hok hla]
          refine tr_wk (s' := mk [(1, .ptr 1 0), (2, .ptr 2 0), (5, .ptr 5 0)] [(1, [.p none (.v (.int .i64 d.seq)), .p none (.sl false 4 (pvE d.mem)), .p none (.sl false 1 (pvR (tagT d.runs))), .p none (.sl false 1 (pvI d.snaps))]), (2, [.p none (.v (.int .i64 0)), .nils, .nils, .nils]), (5, [.p none (.v (.int .i64 d.seq)), .sl 1101 0 ((pvE d.mem).length), .sl 1102 0 ((pvR (tagT d.runs)).length), .sl 1103 0 ((pvI d.snaps).length)])] [(1101, 4, pvE d.mem), (1102, 1, pvR (tagT d.runs)), (1103, 1, pvI d.snaps)]) ?_ ?_
          · exact wk_mk ⟨rfl, ⟨rfl, ⟨rfl, trivial⟩⟩⟩ ⟨rfl, ⟨rfl, ⟨rfl, trivial⟩⟩⟩ ⟨rfl, ⟨rfl, ⟨rfl, trivial⟩⟩⟩ rfl
          refine tr_regionD mixed rfl (.run [] [] rfl (st_load_box rfl rfl rfl Try.isAgg56 Try.sizeOf56 (nle rfl)) (.run [] [] rfl (st_faddr_box rfl rfl Try.underlying56 rfl Try.sizeOf2 (by decide)) (.run [] [] rfl (st_load_box1 rfl rfl rfl Try.isAgg2 rfl) (.run [] [] rfl (st_store_box rfl rfl rfl rfl rfl Try.sizeOf56 rfl (nle rfl)) (.run [] [] rfl (st_assign rfl) (.run [] [] rfl (st_assign rfl) .nil)))))) (by kernel_rfl) ?_
          refine tr_ret ?_
          exact ends [_, _, _] [1101, 1102, 1103] (.cons (.cell rfl rfl Try.isAgg56 Try.sizeOf56 (nle rfl)) (.cons (.tmp rfl) (.cons (.tmp rfl) .nil))) (.cons (.agg (.cons .v (.cons (.row (len := (pvE d.mem).length) (xs := pvE d.mem) rfl rfl) (.cons (.row (len := (pvR (tagT d.runs)).length) (xs := pvR (tagT d.runs)) rfl rfl) (.cons (.row (len := (pvI d.snaps).length) (xs := pvI d.snaps) rfl rfl) .nil)))) (cl_cons (.v _) (cl_cons (.sl _ _ (FlatP.clean (pvE_flat _))) (cl_cons (pvR_tag_clean _) (cl_cons (.sl _ _ (FlatP.clean (pvI_flat _))) cl_nil))))) (.cons (.one .v (.v _)) (.cons (.one .v (.v _)) .nil))) (by decide) trivial
        · skip
          replace h7 := of_decide_eq_false h7
          refine tr_skip ?_
          refine tr_seq ?_
          refine tr_seq ?_
          have hnl : ¬ lastIs d.snaps d.seq := last_ne hx h7
          refine tr_wk (s' := mk [(1, .ptr 1 0), (2, .ptr 2 0), (5, .ptr 5 0)] [(1, [.p none (.v (.int .i64 d.seq)), .p none (.sl false 4 (pvE d.mem)), .p none (.sl false 1 (pvR (tagT d.runs))), .p none (.sl false 1 (pvI d.snaps))]), (2, [.p none (.v (.int .i64 0)), .nils, .nils, .nils]), (5, [.p none (.v (.int .i64 d.seq)), .sl 1101 0 ((pvE d.mem).length), .sl 1102 0 ((pvR (tagT d.runs)).length), .sl 1103 0 ((pvI d.snaps).length)])] [(1101, 4, pvE d.mem), (1102, 1, pvR (tagT d.runs)), (1103, 1, pvI d.snaps)]) ?_ ?_
          · exact wk_mk ⟨rfl, ⟨rfl, ⟨rfl, trivial⟩⟩⟩ ⟨rfl, ⟨rfl, ⟨rfl, trivial⟩⟩⟩ ⟨rfl, ⟨rfl, ⟨rfl, trivial⟩⟩⟩ rfl
          refine tr_region rfl (.run [] [] rfl (st_faddr_box rfl rfl Try.underlying56 rfl Try.sizeOf23 (by decide)) (.run [] [] rfl (st_load_box1 rfl rfl rfl Try.isAgg23 rfl) (.run [] [] rfl (st_len_fro rfl rfl Try.underlying23) (.run [] [] rfl (st_geq rfl rfl rfl) .nil)))) ?_
          refine tr_if (t := decide (20 ≤ ((pvI d.snaps).length : Int))) rfl (fun h8 => ?_) (fun h8 => ?_)
          · skip
            replace h8 := of_decide_eq_true h8
            refine tr_seq ?_
            rw [snap_f hok hnl (by omega)]
            refine tr_region rfl (.run [] [] rfl (st_load_box rfl rfl rfl Try.isAgg56 Try.sizeOf56 (nle rfl)) (.run [] [] rfl (st_store_box rfl rfl rfl rfl rfl Try.sizeOf56 rfl (nle rfl)) (.run [] [] rfl (st_assign rfl) (.run [] [] rfl (st_assign rfl) .nil)))) ?_
            refine tr_ret ?_
            exact ends [_, _, _] [1101, 1102, 1103] (.cons (.cell rfl rfl Try.isAgg56 Try.sizeOf56 (nle rfl)) (.cons (.tmp rfl) (.cons (.tmp rfl) .nil))) (.cons (.agg (.cons .v (.cons (.row (len := (pvE d.mem).length) (xs := pvE d.mem) rfl rfl) (.cons (.row (len := (pvR (tagT d.runs)).length) (xs := pvR (tagT d.runs)) rfl rfl) (.cons (.row (len := (pvI d.snaps).length) (xs := pvI d.snaps) rfl rfl) .nil)))) (cl_cons (.v _) (cl_cons (.sl _ _ (FlatP.clean (pvE_flat _))) (cl_cons (pvR_tag_clean _) (cl_cons (.sl _ _ (FlatP.clean (pvI_flat _))) cl_nil))))) (.cons (.one .v (.v _)) (.cons (.one .v (.v _)) .nil))) (by decide) trivial
          · skip
            replace h8 := of_decide_eq_false h8
            refine tr_skip ?_
            refine tr_seq ?_
            rw [snap_y hok hnl (by omega)]
            refine tr_region rfl (.run [] [] rfl (st_faddr_box rfl rfl Try.underlying56 rfl Try.sizeOf23 (by decide)) (.run [] [] rfl (st_load_box1 rfl rfl rfl Try.isAgg23 rfl) (.run [] [] rfl (st_faddr_box rfl rfl Try.underlying56 rfl Try.sizeOf2 (by decide)) (.run [] [] rfl (st_load_box1 rfl rfl rfl Try.isAgg2 rfl) (.run [4100] [] rfl (st_buildSlice rfl 4100 Try.underlying23 inf2 (nle rfl) (by decide) rfl rfl rfl (.cons .v .nil) (by decide) rfl (by decide) rfl (by decide) rfl) (.run [1103] [] rfl (st_append rfl 1103 (ib := 1103) (len := ((pvI d.snaps) ++ [[PV.v (.int .i64 d.seq)]]).length) rfl rfl (.row (len := (pvI d.snaps).length) (xs := pvI d.snaps) rfl rfl (.inl rfl)) (.give (len := 1) (xs := [[PV.v (.int .i64 d.seq)]]) rfl rfl) Try.underlying23 (sk Try.underlying23 rfl) inf2 rfl (by decide) (by decide) (by decide) List.length_append (by simp only [maxLen, List.length_append, List.length_map, List.length_cons, List.length_nil, List.length_take, List.length_drop, pvE_length, pvI_length, pvT_length, pvU_length, pvP_length, pvR_length, pvO_length]; omega) (by simp only [maxLen, List.length_append, List.length_map, List.length_cons, List.length_nil, List.length_take, List.length_drop, pvE_length, pvI_length, pvT_length, pvU_length, pvP_length, pvR_length, pvO_length]; omega)) (.run [] [] rfl (st_faddr_box rfl rfl Try.underlying56 rfl Try.sizeOf23 (by decide)) (.run [] [] rfl (st_store_box rfl rfl rfl rfl rfl Try.sizeOf23 rfl (nle rfl)) .nil)))))))) ?_
            have hr9 : (pvI d.snaps) ++ [[PV.v (.int .i64 d.seq)]] = pvI (d.snaps ++ [d.seq]) := by exact pvI_snoc1 _ _
            have hp10 : (some [.p none (.v (.int .i64 d.seq)), .sl 1101 0 ((pvE d.mem).length), .sl 1102 0 ((pvR (tagT d.runs)).length), .sl 1103 0 (((pvI d.snaps) ++ [[PV.v (.int .i64 d.seq)]]).length)] : Option (List AV)) = some [.p none (.v (.int .i64 d.seq)), .sl 1101 0 ((pvE d.mem).length), .sl 1102 0 ((pvR (tagT d.runs)).length), .sl 1103 0 ((pvI (d.snaps ++ [d.seq])).length)] := by simp only [hr9]
            refine tr_wk (s' := mk [(1, .ptr 1 0), (2, .ptr 2 0), (5, .ptr 5 0)] [(1, [.p none (.v (.int .i64 d.seq)), .p none (.sl false 4 (pvE d.mem)), .p none (.sl false 1 (pvR (tagT d.runs))), .p none (.sl false 1 (pvI d.snaps))]), (2, [.p none (.v (.int .i64 0)), .nils, .nils, .nils]), (5, [.p none (.v (.int .i64 d.seq)), .sl 1101 0 ((pvE d.mem).length), .sl 1102 0 ((pvR (tagT d.runs)).length), .sl 1103 0 ((pvI (d.snaps ++ [d.seq])).length)])] [(1101, 4, pvE d.mem), (1102, 1, pvR (tagT d.runs)), (1103, 1, pvI (d.snaps ++ [d.seq]))]) ?_ ?_
            · exact wk_mk ⟨rfl, ⟨rfl, ⟨rfl, trivial⟩⟩⟩ ⟨rfl, ⟨rfl, ⟨hp10, trivial⟩⟩⟩ ⟨rfl, ⟨rfl, ⟨(congrArg (fun x => some (1, x)) hr9), trivial⟩⟩⟩ rfl
            refine tr_seq ?_
            refine tr_regionD mixed rfl (.run [] [] rfl (st_load_box rfl rfl rfl Try.isAgg56 Try.sizeOf56 (nle rfl)) (.run [] [] rfl (st_faddr_box rfl rfl Try.underlying56 rfl Try.sizeOf2 (by decide)) (.run [] [] rfl (st_load_box1 rfl rfl rfl Try.isAgg2 rfl) (.run [] [] rfl (st_store_box rfl rfl rfl rfl rfl Try.sizeOf56 rfl (nle rfl)) (.run [] [] rfl (st_assign rfl) (.run [] [] rfl (st_assign rfl) .nil)))))) (by kernel_rfl) ?_
            refine tr_ret ?_
            exact ends [_, _, _] [1101, 1102, 1103] (.cons (.cell rfl rfl Try.isAgg56 Try.sizeOf56 (nle rfl)) (.cons (.tmp rfl) (.cons (.tmp rfl) .nil))) (.cons (.agg (.cons .v (.cons (.row (len := (pvE d.mem).length) (xs := pvE d.mem) rfl rfl) (.cons (.row (len := (pvR (tagT d.runs)).length) (xs := pvR (tagT d.runs)) rfl rfl) (.cons (.row (len := (pvI (d.snaps ++ [d.seq])).length) (xs := pvI (d.snaps ++ [d.seq])) rfl rfl) .nil)))) (cl_cons (.v _) (cl_cons (.sl _ _ (FlatP.clean (pvE_flat _))) (cl_cons (pvR_tag_clean _) (cl_cons (.sl _ _ (FlatP.clean (pvI_flat _))) cl_nil))))) (.cons (.one .v (.v _)) (.cons (.one .v (.v _)) .nil))) (by decide) trivial
set_option maxRecDepth 1000000 in
set_option maxHeartbeats 2000000 in
theorem freeS_con (d : Eng) (hD : EB d) (a : Int) : Con Try.prog 48 [.agg [PV.v (.int .i64 d.seq), PV.sl false 4 (pvE d.mem), PV.sl false 1 (pvR (tagT d.runs)), PV.sl false 1 (pvI d.snaps)], .one (PV.v (.int .i64 a))] [] [.agg [.v (.int .i64 ((freeS d a).1.seq)), .sl true 4 (pvE ((freeS d a).1.mem)), .sl true 1 (pvR (tagT (freeS d a).1.runs)), .sl true 1 (pvI ((freeS d a).1.snaps))], .one (.v (.int .i64 ((freeS d a).2)))] := by
  refine con_of_tr Try.func48 rfl rfl rfl rfl ?_
  have hl1 := pvE_length d.mem
  have hl2 := pvR_length (tagT d.runs)
  have hl3 := pvI_length d.snaps
  have hl4 := tag_len d.runs
  refine tr_seq ?_
  refine tr_region rfl (.run [] [2] rfl (st_box rfl 2 rfl rfl (by decide) rfl (by decide)) (.run [] [4] rfl (st_allocZ rfl 4 inf56 rfl (by decide) rfl (by decide)) (.run [] [] rfl (st_assign rfl) .nil))) ?_
  refine tr_seq ?_
  refine tr_seq ?_
  refine tr_region rfl (.run [] [] rfl (st_load_box rfl rfl rfl Try.isAgg56 Try.sizeOf56 (nle rfl)) (.run [900] [] rfl (st_call rfl 900 (X := []) en40 rfl (.val nod) (.cons (.agg (.cons (.bor .v) (.cons (.bor (.sl nod)) (.cons (.bor (.sl nod)) (.cons (.bor (.sl nod)) .nil))))) .nil) (by decide) all_nil .nil (specDbOk_d d hD) rfl rfl (nle rfl)) (.run [] [] rfl (st_not (b := dbOkS d.seq d.mem (tagT d.runs) d.snaps) rfl rfl) .nil))) ?_
  refine tr_if (t := (!(dbOkS d.seq d.mem (tagT d.runs) d.snaps))) rfl (fun h1 => ?_) (fun h1 => ?_)
  · skip
    replace h1 : (dbOkS d.seq d.mem (tagT d.runs) d.snaps) = false := bnot_t h1
    refine tr_seq ?_
    have hw : dbOkS d.seq d.mem (tagT d.runs) d.snaps = false := by simpa using h1
    rw [free_w hw]
    refine tr_region rfl (.run [] [] rfl (st_build (pl := [(0, 1), (1, 1), (2, 1), (3, 1)]) rfl Try.underlying56 inf56 (by kernel_rfl) rfl rfl) (.run [] [] rfl (st_store_box rfl rfl rfl rfl rfl Try.sizeOf56 rfl (nle rfl)) (.run [] [] rfl (st_assign rfl) .nil))) ?_
    refine tr_ret ?_
    exact ends [_, _] [] (.cons (.cell rfl rfl Try.isAgg56 Try.sizeOf56 (nle rfl)) (.cons (.tmp rfl) .nil)) (.cons (.agg (.cons .v (.cons (.nil _) (.cons (.nil _) (.cons (.nil _) .nil)))) (cl_cons (.v _) (cl_cons (.sl _ _ (fun _ h => nomatch h)) (cl_cons (.sl _ _ (fun _ h => nomatch h)) (cl_cons (.sl _ _ (fun _ h => nomatch h)) cl_nil))))) (.cons (.one .v (.v _)) .nil)) (by decide) trivial
  · skip
    replace h1 : (dbOkS d.seq d.mem (tagT d.runs) d.snaps) = true := bnot_f h1
    refine tr_skip ?_
    refine tr_seq ?_
    have hok : dbOkS d.seq d.mem (tagT d.runs) d.snaps = true := by simpa using h1
    have hsm := okS_small hok
    have hm1 := hsm.mem
    have hm2 := hsm.runs
    have hm3 := hsm.snaps
    have hm4 := hsm.seq
    refine tr_region rfl (.run [] [] rfl (st_load_box rfl rfl rfl Try.isAgg56 Try.sizeOf56 (nle rfl)) (.run [1300, 1301, 1302, 1303] [] rfl (st_call rfl 1300 (X := []) en101 rfl (.val nod) (.cons (.agg (.cons (.bor .v) (.cons (.bor (.sl nod)) (.cons (.bor (.sl nod)) (.cons (.bor (.sl nod)) .nil))))) .nil) (by decide) all_nil .nil (l15Copy_d d hsm) rfl rfl (nle rfl)) (.run [] [6] rfl (st_allocZ rfl 6 inf56 rfl (by decide) rfl (by decide)) (.run [] [] rfl (st_store_box rfl rfl rfl rfl rfl Try.sizeOf56 rfl (nle rfl)) .nil)))) ?_
    refine tr_seq ?_
    refine tr_region rfl (.run [1400] [] rfl (st_buildSlice rfl 1400 Try.underlying23 inf2 (nle rfl) (by decide) rfl rfl rfl .nil (by decide) rfl (by decide) rfl (by decide) rfl) (.run [] [] rfl (st_faddr_box rfl rfl Try.underlying56 rfl Try.sizeOf23 (by decide)) (.run [] [] rfl (st_store_box rfl rfl rfl rfl rfl Try.sizeOf23 rfl (nle rfl)) .nil))) ?_
    refine tr_seq ?_
    refine tr_seq ?_
    rw [free_y hok]
    refine tr_region rfl (.run [] [] rfl (st_assign rfl) .nil) ?_
    refine tr_block ?_
    refine tr_loopS (σ := Nat) (fun i => mk [(1, .p none (.v (.int .i64 a))), (2, .ptr 2 0), (4, .ptr 4 0), (6, .ptr 6 0), (7, .p none (.v (.int .i64 (i:Int))))] [(2, [.p none (.v (.int .i64 d.seq)), .p none (.sl false 4 (pvE d.mem)), .p none (.sl false 1 (pvR (tagT d.runs))), .p none (.sl false 1 (pvI d.snaps))]), (4, [.p none (.v (.int .i64 0)), .nils, .nils, .nils]), (6, [.p none (.v (.int .i64 d.seq)), .sl 1301 0 ((pvE d.mem).length), .sl 1302 0 ((pvR (tagT d.runs)).length), .sl 1400 0 ((pvI (without (d.snaps.take i) a)).length)])] [(1301, 4, pvE d.mem), (1302, 1, pvR (tagT d.runs)), (1400, 1, pvI (without (d.snaps.take i) a))]) (fun i => i ≤ d.snaps.length) (fun i => d.snaps.length - i) 0 (by simp) (wk_mk ⟨rfl, ⟨rfl, ⟨rfl, ⟨rfl, ⟨(int_eq (by omega)), trivial⟩⟩⟩⟩⟩ ⟨rfl, ⟨rfl, ⟨rfl, trivial⟩⟩⟩ ⟨rfl, ⟨rfl, ⟨(congrArg (fun x => some (1, x)) (by rfl)), trivial⟩⟩⟩ rfl) ?_
    rintro i hG
    replace hG : i ≤ d.snaps.length := hG
    have hwl := without_len d.snaps a i
    have hwv := pvI_length (without (d.snaps.take i) a)
    refine tr_seq ?_
    refine tr_seq ?_
    refine tr_region rfl (.run [] [] rfl (st_move rfl) (.run [] [] rfl (st_faddr_box rfl rfl Try.underlying56 rfl Try.sizeOf23 (by decide)) (.run [] [] rfl (st_load_box1 rfl rfl rfl Try.isAgg23 rfl) (.run [] [] rfl (st_len_fro rfl rfl Try.underlying23) (.run [] [] rfl (st_lss rfl rfl rfl) .nil))))) ?_
    refine tr_if (t := decide ((i:Int) < ((pvI d.snaps).length : Int))) rfl (fun h2 => ?_) (fun h2 => ?_)
    · skip
      replace h2 := of_decide_eq_true h2
      refine tr_skip ?_
      refine tr_seq ?_
      refine tr_block ?_
      refine tr_seq ?_
      obtain ⟨e, he⟩ : ∃ e, d.snaps[i]? = some e := ⟨_, List.getElem?_eq_getElem (by omega)⟩
      refine tr_region rfl (.run [] [] rfl (st_faddr_box rfl rfl Try.underlying56 rfl Try.sizeOf23 (by decide)) (.run [] [] rfl (st_load_box1 rfl rfl rfl Try.isAgg23 rfl) (.run [] [] rfl (st_move rfl) (.run [] [] rfl (st_idx_fro rfl rfl rfl Try.underlying23 Try.sizeOf2 rfl (by omega) (pvI_get he)) (.run [] [] rfl (st_load_fea1 rfl rfl Try.isAgg2 rfl) (.run [] [] rfl (st_move rfl) (.run [] [] rfl (st_neq rfl rfl rfl) .nil))))))) ?_
      refine tr_if (t := (!(decide (e = a)))) rfl (fun h3 => ?_) (fun h3 => ?_)
      · skip
        replace h3 : ¬ (e = a) := of_decide_eq_false (bnot_t h3)
        refine tr_wk (s' := mk [(1, .p none (.v (.int .i64 a))), (2, .ptr 2 0), (4, .ptr 4 0), (6, .ptr 6 0), (7, .p none (.v (.int .i64 (i:Int))))] [(2, [.p none (.v (.int .i64 d.seq)), .p none (.sl false 4 (pvE d.mem)), .p none (.sl false 1 (pvR (tagT d.runs))), .p none (.sl false 1 (pvI d.snaps))]), (4, [.p none (.v (.int .i64 0)), .nils, .nils, .nils]), (6, [.p none (.v (.int .i64 d.seq)), .sl 1301 0 ((pvE d.mem).length), .sl 1302 0 ((pvR (tagT d.runs)).length), .sl 1400 0 ((pvI (without (d.snaps.take i) a)).length)])] [(1301, 4, pvE d.mem), (1302, 1, pvR (tagT d.runs)), (1400, 1, pvI (without (d.snaps.take i) a))]) ?_ ?_
        · exact wk_mk ⟨rfl, ⟨rfl, ⟨rfl, ⟨rfl, ⟨rfl, trivial⟩⟩⟩⟩⟩ ⟨rfl, ⟨rfl, ⟨rfl, trivial⟩⟩⟩ ⟨rfl, ⟨rfl, ⟨rfl, trivial⟩⟩⟩ rfl
        refine tr_regionD mixed rfl (.run [] [] rfl (st_faddr_box rfl rfl Try.underlying56 rfl Try.sizeOf23 (by decide)) (.run [] [] rfl (st_load_box1 rfl rfl rfl Try.isAgg23 rfl) (.run [] [] rfl (st_faddr_box rfl rfl Try.underlying56 rfl Try.sizeOf23 (by decide)) (.run [] [] rfl (st_load_box1 rfl rfl rfl Try.isAgg23 rfl) (.run [] [] rfl (st_move rfl) (.run [] [] rfl (st_idx_fro rfl rfl rfl Try.underlying23 Try.sizeOf2 rfl (by omega) (pvI_get he)) (.run [] [] rfl (st_load_fea1 rfl rfl Try.isAgg2 rfl) (.run [3700] [] rfl (st_buildSlice rfl 3700 Try.underlying23 inf2 (nle rfl) (by decide) rfl rfl rfl (.cons .v .nil) (by decide) rfl (by decide) rfl (by decide) rfl) (.run [1400] [] rfl (st_append rfl 1400 (ib := 1400) (len := ((pvI (without (d.snaps.take i) a)) ++ [[PV.v (.int .i64 e)]]).length) rfl rfl (.row (len := (pvI (without (d.snaps.take i) a)).length) (xs := pvI (without (d.snaps.take i) a)) rfl rfl (.inl rfl)) (.give (len := 1) (xs := [[PV.v (.int .i64 e)]]) rfl rfl) Try.underlying23 (sk Try.underlying23 rfl) inf2 rfl (by decide) (by decide) (by decide) List.length_append (by simp only [maxLen, List.length_append, List.length_map, List.length_cons, List.length_nil, List.length_take, List.length_drop, pvE_length, pvI_length, pvT_length, pvU_length, pvP_length, pvR_length, pvO_length]; omega) (by simp only [maxLen, List.length_append, List.length_map, List.length_cons, List.length_nil, List.length_take, List.length_drop, pvE_length, pvI_length, pvT_length, pvU_length, pvP_length, pvR_length, pvO_length]; omega)) (.run [] [] rfl (st_faddr_box rfl rfl Try.underlying56 rfl Try.sizeOf23 (by decide)) (.run [] [] rfl (st_store_box rfl rfl rfl rfl rfl Try.sizeOf23 rfl (nle rfl)) .nil))))))))))) (by kernel_rfl) ?_
        have hr4 : (pvI (without (d.snaps.take i) a)) ++ [[PV.v (.int .i64 e)]] = pvI (without (d.snaps.take (i + 1)) a) := by rw [without_yes he h3]; exact pvI_snoc1 _ _
        have hp5 : (some [.p none (.v (.int .i64 d.seq)), .sl 1301 0 ((pvE d.mem).length), .sl 1302 0 ((pvR (tagT d.runs)).length), .sl 1400 0 (((pvI (without (d.snaps.take i) a)) ++ [[PV.v (.int .i64 e)]]).length)] : Option (List AV)) = some [.p none (.v (.int .i64 d.seq)), .sl 1301 0 ((pvE d.mem).length), .sl 1302 0 ((pvR (tagT d.runs)).length), .sl 1400 0 ((pvI (without (d.snaps.take (i + 1)) a)).length)] := by simp only [hr4]
        refine tr_wk (s' := mk [(1, .p none (.v (.int .i64 a))), (2, .ptr 2 0), (4, .ptr 4 0), (6, .ptr 6 0), (7, .p none (.v (.int .i64 (i:Int))))] [(2, [.p none (.v (.int .i64 d.seq)), .p none (.sl false 4 (pvE d.mem)), .p none (.sl false 1 (pvR (tagT d.runs))), .p none (.sl false 1 (pvI d.snaps))]), (4, [.p none (.v (.int .i64 0)), .nils, .nils, .nils]), (6, [.p none (.v (.int .i64 d.seq)), .sl 1301 0 ((pvE d.mem).length), .sl 1302 0 ((pvR (tagT d.runs)).length), .sl 1400 0 ((pvI (without (d.snaps.take (i + 1)) a)).length)])] [(1301, 4, pvE d.mem), (1302, 1, pvR (tagT d.runs)), (1400, 1, pvI (without (d.snaps.take (i + 1)) a))]) ?_ ?_
        · exact wk_mk ⟨rfl, ⟨rfl, ⟨rfl, ⟨rfl, ⟨rfl, trivial⟩⟩⟩⟩⟩ ⟨rfl, ⟨rfl, ⟨hp5, trivial⟩⟩⟩ ⟨rfl, ⟨rfl, ⟨(congrArg (fun x => some (1, x)) hr4), trivial⟩⟩⟩ rfl
        refine tr_region rfl (.run [] [] rfl (st_move rfl) (.run [] [] rfl (st_addn rfl rfl rfl (by omega)) (.run [] [] rfl (st_assign rfl) .nil))) ?_
        refine nxt (Q := fun _ _ => False) (z := i) (i + 1) ?_ ?_ ?_
        · show (i + 1) ≤ d.snaps.length
          omega
        · show d.snaps.length - (i + 1) < d.snaps.length - i
          omega
        · exact wk_mk ⟨rfl, ⟨rfl, ⟨rfl, ⟨rfl, ⟨(int_eq (by omega)), trivial⟩⟩⟩⟩⟩ ⟨rfl, ⟨rfl, ⟨rfl, trivial⟩⟩⟩ ⟨rfl, ⟨rfl, ⟨rfl, trivial⟩⟩⟩ rfl
      · skip
        replace h3 : e = a := of_decide_eq_true (bnot_f h3)
        refine tr_skip ?_
        refine tr_region rfl (.run [] [] rfl (st_move rfl) (.run [] [] rfl (st_addn rfl rfl rfl (by omega)) (.run [] [] rfl (st_assign rfl) .nil))) ?_
        refine nxt (Q := fun _ _ => False) (z := i) (i + 1) ?_ ?_ ?_
        · show (i + 1) ≤ d.snaps.length
          omega
        · show d.snaps.length - (i + 1) < d.snaps.length - i
          omega
        · exact wk_mk ⟨rfl, ⟨rfl, ⟨rfl, ⟨rfl, ⟨(int_eq (by omega)), trivial⟩⟩⟩⟩⟩ ⟨rfl, ⟨rfl, ⟨(by rw [without_no he h3] <;> rfl), trivial⟩⟩⟩ ⟨rfl, ⟨rfl, ⟨(congrArg (fun x => some (1, x)) (by rw [without_no he h3])), trivial⟩⟩⟩ rfl
    · skip
      replace h2 := of_decide_eq_false h2
      refine tr_exit ?_
      refine tr_seq ?_
      refine tr_seq ?_
      have hwo : (without (d.snaps.take i) a) = without d.snaps a := by rw [List.take_of_length_le (by omega)]
      have hwo2 := congrArg List.length hwo
      refine tr_region rfl (.run [] [] rfl (st_faddr_box rfl rfl Try.underlying56 rfl Try.sizeOf23 (by decide)) (.run [] [] rfl (st_load_box1 rfl rfl rfl Try.isAgg23 rfl) (.run [] [] rfl (st_len_row rfl rfl Try.underlying23) (.run [] [] rfl (st_faddr_box rfl rfl Try.underlying56 rfl Try.sizeOf23 (by decide)) (.run [] [] rfl (st_load_box1 rfl rfl rfl Try.isAgg23 rfl) (.run [] [] rfl (st_len_fro rfl rfl Try.underlying23) (.run [] [] rfl (st_eql rfl rfl rfl) .nil))))))) ?_
      have hr6 : pvI (without (d.snaps.take i) a) = pvI (without d.snaps a) := by rw [List.take_of_length_le (by omega)]
      have hp7 : (some [.p none (.v (.int .i64 d.seq)), .sl 1301 0 ((pvE d.mem).length), .sl 1302 0 ((pvR (tagT d.runs)).length), .sl 1400 0 ((pvI (without (d.snaps.take i) a)).length)] : Option (List AV)) = some [.p none (.v (.int .i64 d.seq)), .sl 1301 0 ((pvE d.mem).length), .sl 1302 0 ((pvR (tagT d.runs)).length), .sl 1400 0 ((pvI (without d.snaps a)).length)] := by simp only [hr6]
      refine tr_wk (s' := mk [(4, .ptr 4 0), (6, .ptr 6 0), (46, .p none (.v (.bool (decide (((pvI (without (d.snaps.take i) a)).length : Int) = ((pvI d.snaps).length : Int))))))] [(4, [.p none (.v (.int .i64 0)), .nils, .nils, .nils]), (6, [.p none (.v (.int .i64 d.seq)), .sl 1301 0 ((pvE d.mem).length), .sl 1302 0 ((pvR (tagT d.runs)).length), .sl 1400 0 ((pvI (without d.snaps a)).length)])] [(1301, 4, pvE d.mem), (1302, 1, pvR (tagT d.runs)), (1400, 1, pvI (without d.snaps a))]) ?_ ?_
      · exact wk_mk ⟨rfl, ⟨rfl, ⟨rfl, trivial⟩⟩⟩ ⟨rfl, ⟨hp7, trivial⟩⟩ ⟨rfl, ⟨rfl, ⟨(congrArg (fun x => some (1, x)) hr6), trivial⟩⟩⟩ rfl
      refine tr_if (t := decide (((pvI (without (d.snaps.take i) a)).length : Int) = ((pvI d.snaps).length : Int))) rfl (fun h8 => ?_) (fun h8 => ?_)
      · skip
        replace h8 := of_decide_eq_true h8
        refine tr_seq ?_
        refine tr_region rfl (.run [] [] rfl (st_load_box rfl rfl rfl Try.isAgg56 Try.sizeOf56 (nle rfl)) (.run [] [] rfl (st_store_box rfl rfl rfl rfl rfl Try.sizeOf56 rfl (nle rfl)) (.run [] [] rfl (st_assign rfl) .nil))) ?_
        refine tr_ret ?_
        exact ends [_, _] [1301, 1302, 1400] (.cons (.cell rfl rfl Try.isAgg56 Try.sizeOf56 (nle rfl)) (.cons (.tmp (int_eq (if_pos (by omega)).symm)) .nil)) (.cons (.agg (.cons .v (.cons (.row (len := (pvE d.mem).length) (xs := pvE d.mem) rfl rfl) (.cons (.row (len := (pvR (tagT d.runs)).length) (xs := pvR (tagT d.runs)) rfl rfl) (.cons (.row (len := (pvI (without d.snaps a)).length) (xs := pvI (without d.snaps a)) rfl rfl) .nil)))) (cl_cons (.v _) (cl_cons (.sl _ _ (FlatP.clean (pvE_flat _))) (cl_cons (pvR_tag_clean _) (cl_cons (.sl _ _ (FlatP.clean (pvI_flat _))) cl_nil))))) (.cons (.one .v (.v _)) .nil)) (by decide) trivial
      · skip
        replace h8 := of_decide_eq_false h8
        refine tr_skip ?_
        refine tr_seq ?_
        refine tr_region rfl (.run [] [] rfl (st_load_box rfl rfl rfl Try.isAgg56 Try.sizeOf56 (nle rfl)) (.run [] [] rfl (st_store_box rfl rfl rfl rfl rfl Try.sizeOf56 rfl (nle rfl)) (.run [] [] rfl (st_assign rfl) .nil))) ?_
        refine tr_ret ?_
        exact ends [_, _] [1301, 1302, 1400] (.cons (.cell rfl rfl Try.isAgg56 Try.sizeOf56 (nle rfl)) (.cons (.tmp (int_eq (if_neg (by omega)).symm)) .nil)) (.cons (.agg (.cons .v (.cons (.row (len := (pvE d.mem).length) (xs := pvE d.mem) rfl rfl) (.cons (.row (len := (pvR (tagT d.runs)).length) (xs := pvR (tagT d.runs)) rfl rfl) (.cons (.row (len := (pvI (without d.snaps a)).length) (xs := pvI (without d.snaps a)) rfl rfl) .nil)))) (cl_cons (.v _) (cl_cons (.sl _ _ (FlatP.clean (pvE_flat _))) (cl_cons (pvR_tag_clean _) (cl_cons (.sl _ _ (FlatP.clean (pvI_flat _))) cl_nil))))) (.cons (.one .v (.v _)) .nil)) (by decide) trivial
set_option maxRecDepth 1000000 in
set_option maxHeartbeats 2000000 in
theorem compactS_con (d : Eng) (hD : EB d) : Con Try.prog 68 [.agg [PV.v (.int .i64 d.seq), PV.sl false 4 (pvE d.mem), PV.sl false 1 (pvR (tagT d.runs)), PV.sl false 1 (pvI d.snaps)]] [] [.agg [.v (.int .i64 ((compactS d).1.seq)), .sl true 4 (pvE ((compactS d).1.mem)), .sl true 1 (pvR (tagT (compactS d).1.runs)), .sl true 1 (pvI ((compactS d).1.snaps))], .one (.v (.int .i64 ((compactS d).2)))] := by
  refine con_of_tr Try.func68 rfl rfl rfl rfl ?_
  have hl1 := pvE_length d.mem
  have hl2 := pvR_length (tagT d.runs)
  have hl3 := pvI_length d.snaps
  have hl4 := tag_len d.runs
  refine tr_seq ?_
  refine tr_region rfl (.run [] [1] rfl (st_box rfl 1 rfl rfl (by decide) rfl (by decide)) (.run [] [2] rfl (st_allocZ rfl 2 inf56 rfl (by decide) rfl (by decide)) (.run [] [] rfl (st_assign rfl) .nil))) ?_
  refine tr_seq ?_
  refine tr_seq ?_
  refine tr_region rfl (.run [] [] rfl (st_load_box rfl rfl rfl Try.isAgg56 Try.sizeOf56 (nle rfl)) (.run [700] [] rfl (st_call rfl 700 (X := []) en40 rfl (.val nod) (.cons (.agg (.cons (.bor .v) (.cons (.bor (.sl nod)) (.cons (.bor (.sl nod)) (.cons (.bor (.sl nod)) .nil))))) .nil) (by decide) all_nil .nil (specDbOk_d d hD) rfl rfl (nle rfl)) (.run [] [] rfl (st_not (b := dbOkS d.seq d.mem (tagT d.runs) d.snaps) rfl rfl) .nil))) ?_
  refine tr_if (t := (!(dbOkS d.seq d.mem (tagT d.runs) d.snaps))) rfl (fun h1 => ?_) (fun h1 => ?_)
  · skip
    replace h1 : (dbOkS d.seq d.mem (tagT d.runs) d.snaps) = false := bnot_t h1
    refine tr_seq ?_
    have hw : dbOkS d.seq d.mem (tagT d.runs) d.snaps = false := by simpa using h1
    rw [comp_w hw]
    refine tr_region rfl (.run [] [] rfl (st_build (pl := [(0, 1), (1, 1), (2, 1), (3, 1)]) rfl Try.underlying56 inf56 (by kernel_rfl) rfl rfl) (.run [] [] rfl (st_store_box rfl rfl rfl rfl rfl Try.sizeOf56 rfl (nle rfl)) (.run [] [] rfl (st_assign rfl) .nil))) ?_
    refine tr_ret ?_
    exact ends [_, _] [] (.cons (.cell rfl rfl Try.isAgg56 Try.sizeOf56 (nle rfl)) (.cons (.tmp rfl) .nil)) (.cons (.agg (.cons .v (.cons (.nil _) (.cons (.nil _) (.cons (.nil _) .nil)))) (cl_cons (.v _) (cl_cons (.sl _ _ (fun _ h => nomatch h)) (cl_cons (.sl _ _ (fun _ h => nomatch h)) (cl_cons (.sl _ _ (fun _ h => nomatch h)) cl_nil))))) (.cons (.one .v (.v _)) .nil)) (by decide) trivial
  · skip
    replace h1 : (dbOkS d.seq d.mem (tagT d.runs) d.snaps) = true := bnot_f h1
    refine tr_skip ?_
    refine tr_seq ?_
    have hok : dbOkS d.seq d.mem (tagT d.runs) d.snaps = true := by simpa using h1
    have hsm := okS_small hok
    have hm1 := hsm.mem
    have hm2 := hsm.runs
    have hm3 := hsm.snaps
    have hm4 := hsm.seq
    refine tr_region rfl (.run [] [] rfl (st_load_box rfl rfl rfl Try.isAgg56 Try.sizeOf56 (nle rfl)) (.run [1100, 1101, 1102, 1103] [] rfl (st_call rfl 1100 (X := []) en101 rfl (.val nod) (.cons (.agg (.cons (.bor .v) (.cons (.bor (.sl nod)) (.cons (.bor (.sl nod)) (.cons (.bor (.sl nod)) .nil))))) .nil) (by decide) all_nil .nil (l15Copy_d d hsm) rfl rfl (nle rfl)) (.run [] [4] rfl (st_allocZ rfl 4 inf56 rfl (by decide) rfl (by decide)) (.run [] [] rfl (st_store_box rfl rfl rfl rfl rfl Try.sizeOf56 rfl (nle rfl)) .nil)))) ?_
    refine tr_seq ?_
    refine tr_seq ?_
    refine tr_region rfl (.run [] [] rfl (st_faddr_box rfl rfl Try.underlying56 rfl Try.sizeOf54 (by decide)) (.run [] [] rfl (st_load_box1 rfl rfl rfl Try.isAgg54 rfl) (.run [] [] rfl (st_len_fro rfl rfl Try.underlying54) (.run [] [] rfl (st_eql rfl rfl rfl) .nil)))) ?_
    refine tr_if (t := decide (((pvR (tagT d.runs)).length : Int) = 0)) rfl (fun h2 => ?_) (fun h2 => ?_)
    · skip
      replace h2 := of_decide_eq_true h2
      refine tr_seq ?_
      rw [comp_e hok (by omega)]
      refine tr_wk (s' := mk [(2, .ptr 2 0), (4, .ptr 4 0)] [(2, [.p none (.v (.int .i64 0)), .nils, .nils, .nils]), (4, [.p none (.v (.int .i64 d.seq)), .sl 1101 0 ((pvE d.mem).length), .sl 1102 0 ((pvR (tagT d.runs)).length), .sl 1103 0 ((pvI d.snaps).length)])] [(1101, 4, pvE d.mem), (1102, 1, pvR (tagT d.runs)), (1103, 1, pvI d.snaps)]) ?_ ?_
      · exact wk_mk ⟨rfl, ⟨rfl, trivial⟩⟩ ⟨rfl, ⟨rfl, trivial⟩⟩ ⟨rfl, ⟨rfl, ⟨rfl, trivial⟩⟩⟩ rfl
      refine tr_region rfl (.run [] [] rfl (st_load_box rfl rfl rfl Try.isAgg56 Try.sizeOf56 (nle rfl)) (.run [] [] rfl (st_store_box rfl rfl rfl rfl rfl Try.sizeOf56 rfl (nle rfl)) (.run [] [] rfl (st_assign rfl) .nil))) ?_
      refine tr_ret ?_
      exact ends [_, _] [1101, 1102, 1103] (.cons (.cell rfl rfl Try.isAgg56 Try.sizeOf56 (nle rfl)) (.cons (.tmp rfl) .nil)) (.cons (.agg (.cons .v (.cons (.row (len := (pvE d.mem).length) (xs := pvE d.mem) rfl rfl) (.cons (.row (len := (pvR (tagT d.runs)).length) (xs := pvR (tagT d.runs)) rfl rfl) (.cons (.row (len := (pvI d.snaps).length) (xs := pvI d.snaps) rfl rfl) .nil)))) (cl_cons (.v _) (cl_cons (.sl _ _ (FlatP.clean (pvE_flat _))) (cl_cons (pvR_tag_clean _) (cl_cons (.sl _ _ (FlatP.clean (pvI_flat _))) cl_nil))))) (.cons (.one .v (.v _)) .nil)) (by decide) trivial
    · skip
      replace h2 := of_decide_eq_false h2
      refine tr_skip ?_
      refine tr_seq ?_
      refine tr_wk (s' := mk [(1, .ptr 1 0), (2, .ptr 2 0), (4, .ptr 4 0)] [(1, [.p none (.v (.int .i64 d.seq)), .p none (.sl false 4 (pvE d.mem)), .p none (.sl false 1 (pvR (tagT d.runs))), .p none (.sl false 1 (pvI d.snaps))]), (2, [.p none (.v (.int .i64 0)), .nils, .nils, .nils]), (4, [.p none (.v (.int .i64 d.seq)), .sl 1101 0 ((pvE d.mem).length), .sl 1102 0 ((pvR (tagT d.runs)).length), .sl 1103 0 ((pvI d.snaps).length)])] [(1101, 4, pvE d.mem), (1102, 1, pvR (tagT d.runs)), (1103, 1, pvI d.snaps)]) ?_ ?_
      · exact wk_mk ⟨rfl, ⟨rfl, ⟨rfl, trivial⟩⟩⟩ ⟨rfl, ⟨rfl, ⟨rfl, trivial⟩⟩⟩ ⟨rfl, ⟨rfl, ⟨rfl, trivial⟩⟩⟩ rfl
      refine tr_regionD mixed rfl (.run [] [] rfl (st_faddr_box rfl rfl Try.underlying56 rfl Try.sizeOf54 (by decide)) (.run [] [] rfl (st_load_box1 rfl rfl rfl Try.isAgg54 rfl) (.run [1900] [] rfl (st_call rfl 1900 (X := []) en131 rfl (.val nod) (.cons (.one (.bor (.sl nod))) .nil) (by decide) all_nil .nil (l13Merge_d d hsm) rfl rfl (nle rfl)) (.run [] [] rfl (st_faddr_box rfl rfl Try.underlying56 rfl Try.sizeOf23 (by decide)) (.run [] [] rfl (st_load_box1 rfl rfl rfl Try.isAgg23 rfl) (.run [1900, 2200] [] rfl (st_call rfl 2200 (X := []) en85 rfl (.val nod) (.cons (.one (.bor (.all (len := (pvE (mergeL d.runs)).length) (xs := pvE (mergeL d.runs)) rfl rfl (by decide)))) (.cons (.one (.bor (.sl nod))) (.cons (.one (.bor .v)) .nil))) (by decide) all_nil .nil (l14C (mergeL d.runs) d.snaps (by have := merge_small hsm; omega) (by omega)) rfl rfl (nle rfl)) (.run [] [] rfl (st_assign rfl) .nil))))))) (by kernel_rfl) ?_
      refine tr_seq ?_
      rw [comp_y hok (by omega)]
      have hcl := pvE_length (compC (mergeL d.runs) d.snaps)
      refine tr_region rfl (.run [2300] [] rfl (st_buildSlice rfl 2300 Try.underlying54 inf108 (nle rfl) (by decide) rfl rfl rfl .nil (by decide) rfl (by decide) rfl (by decide) rfl) (.run [] [] rfl (st_faddr_box rfl rfl Try.underlying56 rfl Try.sizeOf54 (by decide)) (.run [] [] rfl (st_store_box rfl rfl rfl rfl rfl Try.sizeOf54 rfl (nle rfl)) .nil))) ?_
      refine tr_seq ?_
      refine tr_seq ?_
      refine tr_region rfl (.run [] [] rfl (st_move rfl) (.run [] [] rfl (st_len_row rfl rfl Try.underlying26) (.run [] [] rfl (st_gtr rfl rfl rfl) .nil))) ?_
      refine tr_if (t := decide (0 < ((pvE (compC (mergeL d.runs) d.snaps)).length : Int))) rfl (fun h3 => ?_) (fun h3 => ?_)
      · skip
        replace h3 := of_decide_eq_true h3
        refine tr_wk (s' := mk [(2, .ptr 2 0), (4, .ptr 4 0), (5, .sl 2200 0 ((pvE (compC (mergeL d.runs) d.snaps)).length))] [(2, [.p none (.v (.int .i64 0)), .nils, .nils, .nils]), (4, [.p none (.v (.int .i64 d.seq)), .sl 1101 0 ((pvE d.mem).length), .sl 2300 0 0, .sl 1103 0 ((pvI d.snaps).length)])] [(1101, 4, pvE d.mem), (1103, 1, pvI d.snaps), (2200, 4, pvE (compC (mergeL d.runs) d.snaps)), (2300, 1, [])]) ?_ ?_
        · exact wk_mk ⟨rfl, ⟨rfl, ⟨rfl, trivial⟩⟩⟩ ⟨rfl, ⟨rfl, trivial⟩⟩ ⟨rfl, ⟨rfl, ⟨rfl, ⟨rfl, trivial⟩⟩⟩⟩ rfl
        refine tr_region rfl (.run [] [] rfl (st_move rfl) (.run [] [] rfl (st_build (pl := [(0, 1)]) rfl Try.underlying108 inf108 (by kernel_rfl) rfl rfl) (.run [3000, 2200] [] rfl (st_buildSlice rfl 3000 Try.underlying54 inf108 (nle rfl) (by decide) rfl rfl rfl (.cons (.row rfl rfl) .nil) (by decide) rfl (by decide) rfl (by decide) rfl) (.run [] [] rfl (st_faddr_box rfl rfl Try.underlying56 rfl Try.sizeOf54 (by decide)) (.run [] [] rfl (st_store_box rfl rfl rfl rfl rfl Try.sizeOf54 rfl (nle rfl)) .nil))))) ?_
        refine tr_seq ?_
        rw [if_pos (by omega)]
        refine tr_region rfl (.run [] [] rfl (st_load_box rfl rfl rfl Try.isAgg56 Try.sizeOf56 (nle rfl)) (.run [] [] rfl (st_store_box rfl rfl rfl rfl rfl Try.sizeOf56 rfl (nle rfl)) (.run [] [] rfl (st_assign rfl) .nil))) ?_
        refine tr_ret ?_
        exact ends [_, _] [1101, 3000, 1103] (.cons (.cell rfl rfl Try.isAgg56 Try.sizeOf56 (nle rfl)) (.cons (.tmp rfl) .nil)) (.cons (.agg (.cons .v (.cons (.row (len := (pvE d.mem).length) (xs := pvE d.mem) rfl rfl) (.cons (.row (len := 1) (xs := [[PV.sl true 4 (pvE (compC (mergeL d.runs) d.snaps))]]) rfl rfl) (.cons (.row (len := (pvI d.snaps).length) (xs := pvI d.snaps) rfl rfl) .nil)))) (cl_cons (.v _) (cl_cons (.sl _ _ (FlatP.clean (pvE_flat _))) (cl_cons (show Clean (PV.sl true 1 (pvR (tagT [compC (mergeL d.runs) d.snaps]))) from pvR_tag_clean _) (cl_cons (.sl _ _ (FlatP.clean (pvI_flat _))) cl_nil))))) (.cons (.one .v (.v _)) .nil)) (by decide) trivial
      · skip
        replace h3 := of_decide_eq_false h3
        refine tr_skip ?_
        refine tr_seq ?_
        rw [if_neg (by omega)]
        refine tr_region rfl (.run [] [] rfl (st_load_box rfl rfl rfl Try.isAgg56 Try.sizeOf56 (nle rfl)) (.run [] [] rfl (st_store_box rfl rfl rfl rfl rfl Try.sizeOf56 rfl (nle rfl)) (.run [] [] rfl (st_assign rfl) .nil))) ?_
        refine tr_ret ?_
        exact ends [_, _] [1101, 2300, 1103] (.cons (.cell rfl rfl Try.isAgg56 Try.sizeOf56 (nle rfl)) (.cons (.tmp rfl) .nil)) (.cons (.agg (.cons .v (.cons (.row (len := (pvE d.mem).length) (xs := pvE d.mem) rfl rfl) (.cons (.row (len := 0) (xs := []) rfl rfl) (.cons (.row (len := (pvI d.snaps).length) (xs := pvI d.snaps) rfl rfl) .nil)))) (cl_cons (.v _) (cl_cons (.sl _ _ (FlatP.clean (pvE_flat _))) (cl_cons (.sl _ _ (fun _ h => nomatch h)) (cl_cons (.sl _ _ (FlatP.clean (pvI_flat _))) cl_nil))))) (.cons (.one .v (.v _)) .nil)) (by decide) trivial
set_option maxRecDepth 1000000 in
set_option maxHeartbeats 2000000 in
theorem writeS_con (d : Eng) (hD : EB d) (ops : List Bop) (ho : ops.length ≤ 2000000) : Con Try.prog 55 [.agg [PV.v (.int .i64 d.seq), PV.sl false 4 (pvE d.mem), PV.sl false 1 (pvR (tagT d.runs)), PV.sl false 1 (pvI d.snaps)], .one (PV.sl false 3 (pvO ops))] [] [.agg [.v (.int .i64 ((writeS d ops).1.seq)), .sl true 4 (pvE ((writeS d ops).1.mem)), .sl true 1 (pvR (tagT (writeS d ops).1.runs)), .sl true 1 (pvI ((writeS d ops).1.snaps))], .one (.v (.int .i64 ((writeS d ops).2)))] := by
  refine con_of_tr Try.func55 rfl rfl rfl rfl ?_
  have hl1 := pvE_length d.mem
  have hl2 := pvR_length (tagT d.runs)
  have hl3 := pvI_length d.snaps
  have hl4 := tag_len d.runs
  have hlo := pvO_length ops
  refine tr_seq ?_
  refine tr_region rfl (.run [] [2] rfl (st_box rfl 2 rfl rfl (by decide) rfl (by decide)) (.run [] [4] rfl (st_allocZ rfl 4 inf56 rfl (by decide) rfl (by decide)) (.run [] [] rfl (st_assign rfl) .nil))) ?_
  refine tr_seq ?_
  refine tr_seq ?_
  refine tr_region rfl (.run [] [] rfl (st_load_box rfl rfl rfl Try.isAgg56 Try.sizeOf56 (nle rfl)) (.run [1000] [] rfl (st_call rfl 1000 (X := []) en40 rfl (.val nod) (.cons (.agg (.cons (.bor .v) (.cons (.bor (.sl nod)) (.cons (.bor (.sl nod)) (.cons (.bor (.sl nod)) .nil))))) .nil) (by decide) all_nil .nil (specDbOk_d d hD) rfl rfl (nle rfl)) (.run [] [] rfl (st_not (b := dbOkS d.seq d.mem (tagT d.runs) d.snaps) rfl rfl) .nil))) ?_
  refine tr_if (t := (!(dbOkS d.seq d.mem (tagT d.runs) d.snaps))) rfl (fun h1 => ?_) (fun h1 => ?_)
  · skip
    replace h1 : (dbOkS d.seq d.mem (tagT d.runs) d.snaps) = false := bnot_t h1
    refine tr_seq ?_
    have hw : dbOkS d.seq d.mem (tagT d.runs) d.snaps = false := by simpa using h1
    rw [write_w hw]
    refine tr_region rfl (.run [] [] rfl (st_build (pl := [(0, 1), (1, 1), (2, 1), (3, 1)]) rfl Try.underlying56 inf56 (by kernel_rfl) rfl rfl) (.run [] [] rfl (st_store_box rfl rfl rfl rfl rfl Try.sizeOf56 rfl (nle rfl)) (.run [] [] rfl (st_assign rfl) .nil))) ?_
    refine tr_ret ?_
    exact ends [_, _] [] (.cons (.cell rfl rfl Try.isAgg56 Try.sizeOf56 (nle rfl)) (.cons (.tmp rfl) .nil)) (.cons (.agg (.cons .v (.cons (.nil _) (.cons (.nil _) (.cons (.nil _) .nil)))) (cl_cons (.v _) (cl_cons (.sl _ _ (fun _ h => nomatch h)) (cl_cons (.sl _ _ (fun _ h => nomatch h)) (cl_cons (.sl _ _ (fun _ h => nomatch h)) cl_nil))))) (.cons (.one .v (.v _)) .nil)) (by decide) trivial
  · skip
    replace h1 : (dbOkS d.seq d.mem (tagT d.runs) d.snaps) = true := bnot_f h1
    refine tr_skip ?_
    refine tr_seq ?_
    have hok : dbOkS d.seq d.mem (tagT d.runs) d.snaps = true := by simpa using h1
    have hsm := okS_small hok
    have hm1 := hsm.mem
    have hm2 := hsm.runs
    have hm3 := hsm.snaps
    have hm4 := hsm.seq
    refine tr_region rfl (.run [] [] rfl (st_load_box rfl rfl rfl Try.isAgg56 Try.sizeOf56 (nle rfl)) (.run [1400, 1401, 1402, 1403] [] rfl (st_call rfl 1400 (X := []) en101 rfl (.val nod) (.cons (.agg (.cons (.bor .v) (.cons (.bor (.sl nod)) (.cons (.bor (.sl nod)) (.cons (.bor (.sl nod)) .nil))))) .nil) (by decide) all_nil .nil (l15Copy_d d hsm) rfl rfl (nle rfl)) (.run [] [6] rfl (st_allocZ rfl 6 inf56 rfl (by decide) rfl (by decide)) (.run [] [] rfl (st_store_box rfl rfl rfl rfl rfl Try.sizeOf56 rfl (nle rfl)) .nil)))) ?_
    refine tr_seq ?_
    refine tr_wk (s' := mk [(1, .p none (.sl false 3 (pvO ops))), (2, .ptr 2 0), (4, .ptr 4 0), (6, .ptr 6 0)] [(2, [.p none (.v (.int .i64 d.seq)), .p none (.sl false 4 (pvE d.mem)), .p none (.sl false 1 (pvR (tagT d.runs))), .p none (.sl false 1 (pvI d.snaps))]), (4, [.p none (.v (.int .i64 0)), .nils, .nils, .nils]), (6, [.p none (.v (.int .i64 d.seq)), .sl 1401 0 ((pvE d.mem).length), .sl 1402 0 ((pvR (tagT d.runs)).length), .sl 1403 0 ((pvI d.snaps).length)])] [(1401, 4, pvE d.mem), (1402, 1, pvR (tagT d.runs)), (1403, 1, pvI d.snaps)]) ?_ ?_
    · exact wk_mk ⟨rfl, ⟨rfl, ⟨rfl, ⟨rfl, trivial⟩⟩⟩⟩ ⟨rfl, ⟨rfl, ⟨rfl, trivial⟩⟩⟩ ⟨rfl, ⟨rfl, ⟨rfl, trivial⟩⟩⟩ rfl
    refine tr_region rfl (.run [] [] rfl (st_faddr_box rfl rfl Try.underlying56 rfl Try.sizeOf2 (by decide)) (.run [] [] rfl (st_load_box1 rfl rfl rfl Try.isAgg2 rfl) (.run [] [] rfl (st_addn rfl rfl rfl (by omega)) (.run [] [] rfl (st_move rfl) (.run [] [] rfl (st_build (pl := [(0, 1), (1, 1)]) rfl Try.underlying132 inf132 (by kernel_rfl) rfl rfl) (.run [] [7] rfl (st_allocZ rfl 7 inf132 rfl (by decide) rfl (by decide)) (.run [] [] rfl (st_store_box rfl rfl rfl rfl rfl Try.sizeOf132 rfl (nle rfl)) .nil))))))) ?_
    refine tr_seq ?_
    refine tr_seq ?_
    refine tr_region rfl (.run [] [] rfl (st_load_box rfl rfl rfl Try.isAgg132 Try.sizeOf132 (nle rfl)) (.run [2100] [] rfl (st_call rfl 2100 (X := []) en115 rfl (.val nod) (.cons (.agg (.cons (.bor .v) (.cons (.bor (.sl nod)) .nil))) .nil) (by decide) all_nil .nil (specBatchOk_con (d.seq + 1) ops ho) rfl rfl (nle rfl)) (.run [] [] rfl (st_not (b := batchOkF (d.seq + 1) ops) rfl rfl) .nil))) ?_
    refine tr_if (t := (!(batchOkF (d.seq + 1) ops))) rfl (fun h2 => ?_) (fun h2 => ?_)
    · skip
      replace h2 : (batchOkF (d.seq + 1) ops) = false := bnot_t h2
      refine tr_seq ?_
      rw [write_b hok (by simpa using h2)]
      refine tr_region rfl (.run [] [] rfl (st_load_box rfl rfl rfl Try.isAgg56 Try.sizeOf56 (nle rfl)) (.run [] [] rfl (st_store_box rfl rfl rfl rfl rfl Try.sizeOf56 rfl (nle rfl)) (.run [] [] rfl (st_assign rfl) .nil))) ?_
      refine tr_ret ?_
      exact ends [_, _] [1401, 1402, 1403] (.cons (.cell rfl rfl Try.isAgg56 Try.sizeOf56 (nle rfl)) (.cons (.tmp rfl) .nil)) (.cons (.agg (.cons .v (.cons (.row (len := (pvE d.mem).length) (xs := pvE d.mem) rfl rfl) (.cons (.row (len := (pvR (tagT d.runs)).length) (xs := pvR (tagT d.runs)) rfl rfl) (.cons (.row (len := (pvI d.snaps).length) (xs := pvI d.snaps) rfl rfl) .nil)))) (cl_cons (.v _) (cl_cons (.sl _ _ (FlatP.clean (pvE_flat _))) (cl_cons (pvR_tag_clean _) (cl_cons (.sl _ _ (FlatP.clean (pvI_flat _))) cl_nil))))) (.cons (.one .v (.v _)) .nil)) (by decide) trivial
    · skip
      replace h2 : (batchOkF (d.seq + 1) ops) = true := bnot_f h2
      refine tr_skip ?_
      refine tr_seq ?_
      refine tr_seq ?_
      have hbo : batchOkF (d.seq + 1) ops = true := by simpa using h2
      have hs := batch_seq hbo
      have hn20 := batch_len hbo
      have hml := pvE_length (mergeL (d.mem :: d.runs))
      have hm2' := merge_small2 hsm
      refine tr_wk (s' := mk [(1, .p none (.sl false 3 (pvO ops))), (2, .ptr 2 0), (4, .ptr 4 0), (6, .ptr 6 0), (7, .ptr 7 0)] [(2, [.p none (.v (.int .i64 d.seq)), .p none (.sl false 4 (pvE d.mem)), .p none (.sl false 1 (pvR (tagT d.runs))), .p none (.sl false 1 (pvI d.snaps))]), (4, [.p none (.v (.int .i64 0)), .nils, .nils, .nils]), (6, [.p none (.v (.int .i64 d.seq)), .sl 1401 0 ((pvE d.mem).length), .sl 1402 0 ((pvR (tagT d.runs)).length), .sl 1403 0 ((pvI d.snaps).length)]), (7, [.p none (.v (.int .i64 (d.seq + 1))), .p none (.sl false 3 (pvO ops))])] [(1401, 4, pvE d.mem), (1402, 1, pvR (tagT d.runs)), (1403, 1, pvI d.snaps)]) ?_ ?_
      · exact wk_mk ⟨rfl, ⟨rfl, ⟨rfl, ⟨rfl, ⟨rfl, trivial⟩⟩⟩⟩⟩ ⟨rfl, ⟨rfl, ⟨rfl, ⟨rfl, trivial⟩⟩⟩⟩ ⟨rfl, ⟨rfl, ⟨rfl, trivial⟩⟩⟩ rfl
      refine tr_region rfl (.run [] [] rfl (st_load_box rfl rfl rfl Try.isAgg56 Try.sizeOf56 (nle rfl)) (.run [2500] [] rfl (st_call rfl 2500 (X := []) en92 rfl (.val nod) (.cons (.agg (.cons (.bor .v) (.cons (.bor (.sl nod)) (.cons (.bor (.sl nod)) (.cons (.bor (.sl nod)) .nil))))) .nil) (by decide) all_nil .nil (l15All_d d hsm) rfl rfl (nle rfl)) (.run [] [] rfl (st_len_row rfl rfl Try.underlying26) (.run [] [] rfl (st_move rfl) (.run [] [] rfl (st_len_fro rfl rfl Try.underlying73) (.run [] [] rfl (st_addn rfl rfl rfl (by omega)) (.run [] [] rfl (st_gtr rfl rfl rfl) .nil))))))) ?_
      refine tr_if (t := decide (400 < (((pvE (mergeL (d.mem :: d.runs))).length : Int) + ((pvO ops).length : Int)))) rfl (fun h3 => ?_) (fun h3 => ?_)
      · skip
        replace h3 := of_decide_eq_true h3
        refine tr_seq ?_
        rw [write_f hok hbo (by omega)]
        refine tr_region rfl (.run [] [] rfl (st_load_box rfl rfl rfl Try.isAgg56 Try.sizeOf56 (nle rfl)) (.run [] [] rfl (st_store_box rfl rfl rfl rfl rfl Try.sizeOf56 rfl (nle rfl)) (.run [] [] rfl (st_assign rfl) .nil))) ?_
        refine tr_ret ?_
        exact ends [_, _] [1401, 1402, 1403] (.cons (.cell rfl rfl Try.isAgg56 Try.sizeOf56 (nle rfl)) (.cons (.tmp rfl) .nil)) (.cons (.agg (.cons .v (.cons (.row (len := (pvE d.mem).length) (xs := pvE d.mem) rfl rfl) (.cons (.row (len := (pvR (tagT d.runs)).length) (xs := pvR (tagT d.runs)) rfl rfl) (.cons (.row (len := (pvI d.snaps).length) (xs := pvI d.snaps) rfl rfl) .nil)))) (cl_cons (.v _) (cl_cons (.sl _ _ (FlatP.clean (pvE_flat _))) (cl_cons (pvR_tag_clean _) (cl_cons (.sl _ _ (FlatP.clean (pvI_flat _))) cl_nil))))) (.cons (.one .v (.v _)) .nil)) (by decide) trivial
      · skip
        replace h3 := of_decide_eq_false h3
        refine tr_skip ?_
        refine tr_seq ?_
        refine tr_seq ?_
        rw [write_y hok hbo (by omega)]
        have hbl := batchE_len (d.seq + 1) ops
        refine tr_region rfl (.run [] [] rfl (st_assign rfl) .nil) ?_
        refine tr_block ?_
        refine tr_wk (wk_ren 1401 1 rfl rfl (by decide)) ?_
        refine tr_loopS (σ := Nat) (fun i => mk [(1, .p none (.sl false 3 (pvO ops))), (2, .ptr 2 0), (4, .ptr 4 0), (6, .ptr 6 0), (7, .ptr 7 0), (8, .p none (.v (.int .i64 (i:Int))))] [(2, [.p none (.v (.int .i64 d.seq)), .p none (.sl false 4 (pvE d.mem)), .p none (.sl false 1 (pvR (tagT d.runs))), .p none (.sl false 1 (pvI d.snaps))]), (4, [.p none (.v (.int .i64 0)), .nils, .nils, .nils]), (6, [.p none (.v (.int .i64 d.seq)), .sl 1 0 ((pvE (putsF d.mem ((batchE (d.seq + 1) ops).take i))).length), .sl 1402 0 ((pvR (tagT d.runs)).length), .sl 1403 0 ((pvI d.snaps).length)]), (7, [.p none (.v (.int .i64 (d.seq + 1))), .p none (.sl false 3 (pvO ops))])] [(1, 4, pvE (putsF d.mem ((batchE (d.seq + 1) ops).take i))), (1402, 1, pvR (tagT d.runs)), (1403, 1, pvI d.snaps)]) (fun i => i ≤ ops.length) (fun i => ops.length - i) 0 (by simp) (wk_mk ⟨rfl, ⟨rfl, ⟨rfl, ⟨rfl, ⟨rfl, ⟨(int_eq (by omega)), trivial⟩⟩⟩⟩⟩⟩ ⟨rfl, ⟨rfl, ⟨rfl, ⟨rfl, trivial⟩⟩⟩⟩ ⟨(congrArg (fun x => some (4, x)) (by rfl)), ⟨rfl, ⟨rfl, trivial⟩⟩⟩ rfl) ?_
        rintro i hG
        replace hG : i ≤ ops.length := hG
        have hpl := puts_len ((batchE (d.seq + 1) ops).take i) d.mem
        have htl := List.length_take_le i (batchE (d.seq + 1) ops)
        have hpv := pvE_length (putsF d.mem ((batchE (d.seq + 1) ops).take i))
        refine tr_seq ?_
        refine tr_seq ?_
        refine tr_region rfl (.run [] [] rfl (st_move rfl) (.run [] [] rfl (st_move rfl) (.run [] [] rfl (st_len_fro rfl rfl Try.underlying73) (.run [] [] rfl (st_lss rfl rfl rfl) .nil)))) ?_
        refine tr_if (t := decide ((i:Int) < ((pvO ops).length : Int))) rfl (fun h4 => ?_) (fun h4 => ?_)
        · skip
          replace h4 := of_decide_eq_true h4
          refine tr_skip ?_
          refine tr_seq ?_
          refine tr_block ?_
          obtain ⟨e, he⟩ : ∃ e, ops[i]? = some e := ⟨_, List.getElem?_eq_getElem (by omega)⟩
          refine tr_regionD mixed rfl (.run [] [] rfl (st_faddr_box rfl rfl Try.underlying56 rfl Try.sizeOf26 (by decide)) (.run [] [] rfl (st_load_box1 rfl rfl rfl Try.isAgg26 rfl) (.run [] [] rfl (st_load_box rfl rfl rfl Try.isAgg132 Try.sizeOf132 (nle rfl)) (.run [] [] rfl (st_move rfl) (.run [4200, 4201, 4202, 4203] [] rfl (st_call rfl 4200 (X := []) en117 rfl (.val nod) (.cons (.agg (.cons (.bor .v) (.cons (.bor (.sl nod)) .nil))) (.cons (.one (.bor .v)) .nil)) (by decide) all_nil .nil (l7Entry_con (d.seq + 1) ops i e he (by omega) hs) rfl rfl (nle rfl)) (.run [1, 4300] [] rfl (st_call rfl 4300 (X := []) en116 rfl (.val nod) (.cons (.one (.bor (.all (len := (pvE (putsF d.mem ((batchE (d.seq + 1) ops).take i))).length) (xs := pvE (putsF d.mem ((batchE (d.seq + 1) ops).take i))) rfl rfl (by decide)))) (.cons (.agg (.cons (.bor .v) (.cons (.bor .v) (.cons (.bor .v) (.cons (.bor .v) .nil))))) .nil)) (by decide) all_nil .nil (l8Put_con (putsF d.mem ((batchE (d.seq + 1) ops).take i)) (bent (d.seq + 1) i e) (by omega)) rfl rfl (nle rfl)) (.run [] [] rfl (st_faddr_box rfl rfl Try.underlying56 rfl Try.sizeOf26 (by decide)) (.run [] [] rfl (st_store_box rfl rfl rfl rfl rfl Try.sizeOf26 rfl (nle rfl)) .nil)))))))) (by kernel_rfl) ?_
          refine tr_region rfl (.run [] [] rfl (st_move rfl) (.run [] [] rfl (st_addn rfl rfl rfl (by omega)) (.run [] [] rfl (st_assign rfl) .nil))) ?_
          refine nxt (Q := fun _ _ => False) (z := i) (i + 1) ?_ ?_ ?_
          · show (i + 1) ≤ ops.length
            omega
          · show ops.length - (i + 1) < ops.length - i
            omega
          · exact (show Wk _ _ (mk [(1, .p none (.sl false 3 (pvO ops))), (2, .ptr 2 0), (4, .ptr 4 0), (6, .ptr 6 0), (7, .ptr 7 0), (8, .p none (.v (.int .i64 ((i:Int) + 1))))] [(2, [.p none (.v (.int .i64 d.seq)), .p none (.sl false 4 (pvE d.mem)), .p none (.sl false 1 (pvR (tagT d.runs))), .p none (.sl false 1 (pvI d.snaps))]), (4, [.p none (.v (.int .i64 0)), .nils, .nils, .nils]), (6, [.p none (.v (.int .i64 d.seq)), .sl 4300 0 ((pvE (putF (putsF d.mem ((batchE (d.seq + 1) ops).take i)) (bent (d.seq + 1) i e))).length), .sl 1402 0 ((pvR (tagT d.runs)).length), .sl 1403 0 ((pvI d.snaps).length)]), (7, [.p none (.v (.int .i64 (d.seq + 1))), .p none (.sl false 3 (pvO ops))])] [(1402, 1, pvR (tagT d.runs)), (1403, 1, pvI d.snaps), (4300, 4, pvE (putF (putsF d.mem ((batchE (d.seq + 1) ops).take i)) (bent (d.seq + 1) i e)))]) from wk_mk ⟨rfl, ⟨rfl, ⟨rfl, ⟨rfl, ⟨rfl, ⟨rfl, trivial⟩⟩⟩⟩⟩⟩ ⟨rfl, ⟨rfl, ⟨rfl, ⟨rfl, trivial⟩⟩⟩⟩ ⟨rfl, ⟨rfl, ⟨rfl, trivial⟩⟩⟩ rfl).trans ((wk_ren 4300 1 rfl rfl (by decide)).trans (wk_mk ⟨rfl, ⟨rfl, ⟨rfl, ⟨rfl, ⟨rfl, ⟨(int_eq (by omega)), trivial⟩⟩⟩⟩⟩⟩ ⟨rfl, ⟨rfl, ⟨(by rw [putsF_step (batchE_get he)] <;> rfl), ⟨rfl, trivial⟩⟩⟩⟩ ⟨(congrArg (fun x => some (4, x)) (by rw [putsF_step (batchE_get he)])), ⟨rfl, ⟨rfl, trivial⟩⟩⟩ rfl))
        · skip
          replace h4 := of_decide_eq_false h4
          refine tr_exit ?_
          refine tr_seq ?_
          refine tr_region rfl (.run [] [] rfl (st_faddr_box rfl rfl Try.underlying56 rfl Try.sizeOf2 (by decide)) (.run [] [] rfl (st_load_box1 rfl rfl rfl Try.isAgg2 rfl) (.run [] [] rfl (st_move rfl) (.run [] [] rfl (st_len_fro rfl rfl Try.underlying73) (.run [] [] rfl (st_eq (st_addn rfl rfl rfl (by omega)) ((show (AV.p none (.v (.int .i64 (d.seq + ((pvO ops).length : Int))))) = AV.p none (.v (.int .i64 (d.seq + (ops.length : Int)))) from int_eq (by omega)))) (.run [] [] rfl (st_faddr_box rfl rfl Try.underlying56 rfl Try.sizeOf2 (by decide)) (.run [] [] rfl (st_store_box rfl rfl rfl rfl rfl Try.sizeOf2 rfl (nle rfl)) .nil))))))) ?_
          have hr5 : pvE (putsF d.mem ((batchE (d.seq + 1) ops).take i)) = pvE (putsF d.mem (batchE (d.seq + 1) ops)) := by rw [List.take_of_length_le (by omega)]
          have hp6 : (some [.p none (.v (.int .i64 (d.seq + (ops.length : Int)))), .sl 1 0 ((pvE (putsF d.mem ((batchE (d.seq + 1) ops).take i))).length), .sl 1402 0 ((pvR (tagT d.runs)).length), .sl 1403 0 ((pvI d.snaps).length)] : Option (List AV)) = some [.p none (.v (.int .i64 (d.seq + (ops.length : Int)))), .sl 1 0 ((pvE (putsF d.mem (batchE (d.seq + 1) ops))).length), .sl 1402 0 ((pvR (tagT d.runs)).length), .sl 1403 0 ((pvI d.snaps).length)] := by simp only [hr5]
          refine tr_wk (s' := mk [(4, .ptr 4 0), (6, .ptr 6 0)] [(4, [.p none (.v (.int .i64 0)), .nils, .nils, .nils]), (6, [.p none (.v (.int .i64 (d.seq + (ops.length : Int)))), .sl 1 0 ((pvE (putsF d.mem (batchE (d.seq + 1) ops))).length), .sl 1402 0 ((pvR (tagT d.runs)).length), .sl 1403 0 ((pvI d.snaps).length)])] [(1, 4, pvE (putsF d.mem (batchE (d.seq + 1) ops))), (1402, 1, pvR (tagT d.runs)), (1403, 1, pvI d.snaps)]) ?_ ?_
          · exact wk_mk ⟨rfl, ⟨rfl, trivial⟩⟩ ⟨rfl, ⟨hp6, trivial⟩⟩ ⟨(congrArg (fun x => some (4, x)) hr5), ⟨rfl, ⟨rfl, trivial⟩⟩⟩ rfl
          refine tr_seq ?_
          refine tr_region rfl (.run [] [] rfl (st_load_box rfl rfl rfl Try.isAgg56 Try.sizeOf56 (nle rfl)) (.run [] [] rfl (st_store_box rfl rfl rfl rfl rfl Try.sizeOf56 rfl (nle rfl)) (.run [] [] rfl (st_assign rfl) .nil))) ?_
          refine tr_ret ?_
          exact ends [_, _] [1, 1402, 1403] (.cons (.cell rfl rfl Try.isAgg56 Try.sizeOf56 (nle rfl)) (.cons (.tmp rfl) .nil)) (.cons (.agg (.cons .v (.cons (.row (len := (pvE (putsF d.mem (batchE (d.seq + 1) ops))).length) (xs := pvE (putsF d.mem (batchE (d.seq + 1) ops))) rfl rfl) (.cons (.row (len := (pvR (tagT d.runs)).length) (xs := pvR (tagT d.runs)) rfl rfl) (.cons (.row (len := (pvI d.snaps).length) (xs := pvI d.snaps) rfl rfl) .nil)))) (cl_cons (.v _) (cl_cons (.sl _ _ (FlatP.clean (pvE_flat _))) (cl_cons (pvR_tag_clean _) (cl_cons (.sl _ _ (FlatP.clean (pvI_flat _))) cl_nil))))) (.cons (.one .v (.v _)) .nil)) (by decide) trivial
end Go.Rl
namespace Go.Rl
def op0 (bs : List Nat) (p : Nat) : Bop := ⟨(((belowV bs p 3 : Nat) : Int)).tmod 2, userV bs (belowP bs p 3), valueV bs (userP bs (belowP bs p 3))⟩
def op0P (bs : List Nat) (p : Nat) : Nat := belowP bs (userP bs (belowP bs p 3)) 5
def op1v (bs : List Nat) (p : Nat) : ByteArray := if (op0 bs p).kind = 0 then ⟨#[]⟩ else (op0 bs p).value
def opQ (bs : List Nat) (p : Nat) : Nat := belowP bs (op0P bs p) 30
def opV (bs : List Nat) (p : Nat) : Bop := if onceV bs (op0P bs p) 30 = true then ⟨offV bs (opQ bs p) 0 1, bytesV bs (offP bs (opQ bs p) 0 1) 44, bytesV bs (bytesP bs (offP bs (opQ bs p) 0 1) 44) 9⟩ else ⟨(op0 bs p).kind, (op0 bs p).user, op1v bs p⟩
def opP (bs : List Nat) (p : Nat) : Nat := if onceV bs (op0P bs p) 30 = true then bytesP bs (bytesP bs (offP bs (opQ bs p) 0 1) 44) 9 else opQ bs p
theorem op0P_le {bs : List Nat} {p : Nat} (h : p ≤ bs.length) : op0P bs p ≤ bs.length := belowP_le (belowP_le (belowP_le h))
theorem opQ_le {bs : List Nat} {p : Nat} (h : p ≤ bs.length) : opQ bs p ≤ bs.length := belowP_le (op0P_le h)
theorem opP_le {bs : List Nat} {p : Nat} (h : p ≤ bs.length) : opP bs p ≤ bs.length := by
  unfold opP
  split
  · exact bytesP_le (bytesP_le (offP_le (opQ_le h)))
  · exact opQ_le h
def opsLoop (bs : List Nat) : Nat → List Bop × Nat → List Bop × Nat
  | 0, x => x
  | i + 1, x => opsLoop bs i (x.1 ++ [opV bs x.2], opP bs x.2)
def opsR (bs : List Nat) (p : Nat) : List Bop × Nat := opsLoop bs (1 + belowV bs p 4) ([], belowP bs p 4)
def opsV (bs : List Nat) (p : Nat) : List Bop := if onceV bs (opsR bs p).2 30 = true then [] else (opsR bs p).1
def opsP (bs : List Nat) (p : Nat) : Nat := belowP bs (opsR bs p).2 30
theorem opsLoop_go {bs : List Nat} {i : Nat} {l : List Bop} {q : Nat} {z : List Bop × Nat} (hi : 0 < i) (h : opsLoop bs i (l, q) = z) : opsLoop bs (i - 1) (l ++ [opV bs q], opP bs q) = z := by
  obtain ⟨j, rfl⟩ : ∃ j, i = j + 1 := ⟨i - 1, by omega⟩
  exact h
theorem opsLoop_len (bs : List Nat) : ∀ (i : Nat) (x : List Bop × Nat), (opsLoop bs i x).1.length = x.1.length + i
  | 0, x => rfl
  | i + 1, x => by
    rw [opsLoop, opsLoop_len bs i]
    simp only [List.length_append, List.length_cons, List.length_nil]
    omega
theorem opsLoop_le {bs : List Nat} : ∀ (i : Nat) (x : List Bop × Nat), x.2 ≤ bs.length → (opsLoop bs i x).2 ≤ bs.length
  | 0, _, h => h
  | i + 1, _, h => opsLoop_le i _ (opP_le h)
theorem opsP_le {bs : List Nat} {p : Nat} (h : p ≤ bs.length) : opsP bs p ≤ bs.length := belowP_le (opsLoop_le _ ([], belowP bs p 4) (show belowP bs p 4 ≤ bs.length from belowP_le h))
theorem opsV_len (bs : List Nat) (p : Nat) : (opsV bs p).length ≤ 4 := by
  unfold opsV
  split
  · exact Nat.zero_le _
  · rw [opsR, opsLoop_len]
    have := belowV_lt (bs := bs) (p := p) (n := 4) (by decide)
    simp only [List.length_nil]
    omega
end Go.Rl

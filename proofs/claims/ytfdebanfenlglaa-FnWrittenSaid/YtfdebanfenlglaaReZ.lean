/- Promises of functions, proved by walks over their operations; no conditions beyond those that each theorem states. -/
import Derived.Test.YtfdebanfenlglaaReX
set_option linter.unusedSimpArgs false
set_option linter.unusedVariables false
namespace Go.Rl
open Go.Proofs
theorem en132 : ∀ vs w, (callFunc 132 vs).run Try.prog w = .ok (.enter 132 vs) w := enters Try.func132 (by decide) rfl
theorem en91 : ∀ vs w, (callFunc 91 vs).run Try.prog w = .ok (.enter 91 vs) w := enters Try.func91 (by decide) rfl
theorem en92 : ∀ vs w, (callFunc 92 vs).run Try.prog w = .ok (.enter 92 vs) w := enters Try.func92 (by decide) rfl
set_option maxRecDepth 1000000 in
set_option maxHeartbeats 2000000 in
theorem copied_con (sq : Int) (mem : List Ent) (rs : RunL) (sn : List Int) (hn : mem.length + (ents rs).length ≤ 900000) (hl : rs.length ≤ 1000000) (hsn : sn.length ≤ 1000000) : Con Try.prog 102 [.agg [PV.v (.int .i64 sq), PV.sl false 4 (pvE mem), PV.sl false 1 (pvR rs), PV.sl false 1 (pvI sn)]] [] [.agg [.v (.int .i64 sq), .sl true 4 (pvE mem), .sl true 1 (pvR (ownR rs)), .sl true 1 (pvI sn)]] := by
  refine con_of_tr Try.func102 rfl rfl rfl rfl ?_
  have hle := pvR_length rs
  have hlm := pvE_length mem
  have hls := pvI_length sn
  refine tr_seq ?_
  refine tr_region rfl (.run [] [1] rfl (st_box rfl 1 rfl rfl (by decide) rfl (by decide)) (.run [] [2] rfl (st_allocZ rfl 2 inf56 rfl (by decide) rfl (by decide)) .nil)) ?_
  refine tr_seq ?_
  refine tr_regionD mixed rfl (.run [] [] rfl (st_faddr_box rfl rfl Try.underlying56 rfl Try.sizeOf2 (by decide)) (.run [] [] rfl (st_load_box1 rfl rfl rfl Try.isAgg2 rfl) (.run [] [] rfl (st_faddr_box rfl rfl Try.underlying56 rfl Try.sizeOf26 (by decide)) (.run [] [] rfl (st_load_box1 rfl rfl rfl Try.isAgg26 rfl) (.run [1000] [] rfl (st_call rfl 1000 (X := []) en97 rfl (.val nod) (.cons (.one (.bor (.sl nod))) .nil) (by decide) all_nil .nil (cloneE_con mem (by omega)) rfl rfl (nle rfl)) (.run [] [] rfl (st_faddr_box rfl rfl Try.underlying56 rfl Try.sizeOf23 (by decide)) (.run [] [] rfl (st_load_box1 rfl rfl rfl Try.isAgg23 rfl) (.run [1300] [] rfl (st_call rfl 1300 (X := []) en136 rfl (.val nod) (.cons (.one (.bor (.sl nod))) .nil) (by decide) all_nil .nil (cloneI_con sn (by omega)) rfl rfl (nle rfl)) (.run [] [] rfl (st_build (pl := [(0, 1), (1, 1), (2, 1), (3, 1)]) rfl Try.underlying56 inf56 (by kernel_rfl) rfl rfl) (.run [] [3] rfl (st_allocZ rfl 3 inf56 rfl (by decide) rfl (by decide)) (.run [] [] rfl (st_store_box rfl rfl rfl rfl rfl Try.sizeOf56 rfl (nle rfl)) .nil))))))))))) (by kernel_rfl) ?_
  refine tr_seq ?_
  refine tr_seq ?_
  refine tr_wk (s' := mk [(1, .ptr 1 0), (2, .ptr 2 0), (3, .ptr 3 0)] [(1, [.p none (.v (.int .i64 sq)), .p none (.sl false 4 (pvE mem)), .p none (.sl false 1 (pvR rs)), .p none (.sl false 1 (pvI sn))]), (2, [.p none (.v (.int .i64 0)), .nils, .nils, .nils]), (3, [.p none (.v (.int .i64 sq)), .sl 1000 0 ((pvE mem).length), .nils, .sl 1300 0 ((pvI sn).length)])] [(1000, 4, pvE mem), (1300, 1, pvI sn)]) ?_ ?_
  · exact wk_mk ⟨rfl, ⟨rfl, ⟨rfl, trivial⟩⟩⟩ ⟨rfl, ⟨rfl, ⟨rfl, trivial⟩⟩⟩ ⟨rfl, ⟨rfl, trivial⟩⟩ rfl
  refine tr_region rfl (.run [] [] rfl (st_faddr_box rfl rfl Try.underlying56 rfl Try.sizeOf54 (by decide)) (.run [] [] rfl (st_load_box1 rfl rfl rfl Try.isAgg54 rfl) (.run [] [] rfl (st_len_fro rfl rfl Try.underlying54) (.run [] [] rfl (st_move rfl) .nil)))) ?_
  refine tr_block ?_
  refine tr_wk (wk_nil 3 2 1 1 rfl rfl rfl (by decide)) ?_
  refine tr_loopS (σ := Nat) (fun i => mk [(2, .ptr 2 0), (3, .ptr 3 0), (16, .p none (.sl false 1 (pvR rs))), (17, .p none (.v (.int .i64 ((pvR rs).length : Int)))), (18, .p none (.v (.int .i64 (i:Int))))] [(2, [.p none (.v (.int .i64 0)), .nils, .nils, .nils]), (3, [.p none (.v (.int .i64 sq)), .sl 1000 0 ((pvE mem).length), .sl 1 0 ((pvR (ownR (rs.take i))).length), .sl 1300 0 ((pvI sn).length)])] [(1, 1, pvR (ownR (rs.take i))), (1000, 4, pvE mem), (1300, 1, pvI sn)]) (fun i => i ≤ rs.length) (fun i => rs.length - i) 0 (by simp) (wk_mk ⟨rfl, ⟨rfl, ⟨rfl, ⟨rfl, ⟨(int_eq (by omega)), trivial⟩⟩⟩⟩⟩ ⟨rfl, ⟨rfl, trivial⟩⟩ ⟨(congrArg (fun x => some (1, x)) (by rfl)), ⟨rfl, ⟨rfl, trivial⟩⟩⟩ rfl) ?_
  rintro i hG
  replace hG : i ≤ rs.length := hG
  have hol := ownR_len (rs.take i)
  have hvi := pvR_length (ownR (rs.take i))
  have htl := List.length_take_le i rs
  refine tr_seq ?_
  refine tr_region rfl (.run [] [] rfl (st_lss rfl rfl rfl) .nil) ?_
  refine tr_seq ?_
  refine tr_if (t := decide ((i:Int) < ((pvR rs).length : Int))) rfl (fun h1 => ?_) (fun h1 => ?_)
  · skip
    replace h1 := of_decide_eq_true h1
    refine tr_skip ?_
    refine tr_seq ?_
    refine tr_block ?_
    refine tr_seq ?_
    obtain ⟨e, he⟩ : ∃ e, rs[i]? = some e := ⟨_, List.getElem?_eq_getElem (by (have hL := pvR_length rs; omega))⟩
    have hlte := (List.getElem?_eq_some_iff.1 he).1
    refine tr_region rfl (.run [] [] rfl (st_idx_fro rfl rfl rfl Try.underlying54 Try.sizeOf108 rfl (by omega) (pvR_get he)) (.run [] [] rfl (st_load_fea rfl rfl Try.isAgg108 Try.sizeOf108 (nle rfl)) (.run [] [5] rfl (st_allocZ rfl 5 inf108 rfl (by decide) rfl (by decide)) (.run [] [] rfl (st_store_box rfl rfl rfl rfl rfl Try.sizeOf108 rfl (nle rfl)) .nil)))) ?_
    have hrl := run_len he
    have hrv := pvE_length e.2
    refine tr_regionD mixed rfl (.run [] [] rfl (st_faddr_box rfl rfl Try.underlying56 rfl Try.sizeOf54 (by decide)) (.run [] [] rfl (st_load_box1 rfl rfl rfl Try.isAgg54 rfl) (.run [] [] rfl (st_faddr_box rfl rfl Try.underlying108 rfl Try.sizeOf26 (by decide)) (.run [] [] rfl (st_load_box1 rfl rfl rfl Try.isAgg26 rfl) (.run [2600] [] rfl (st_call rfl 2600 (X := []) en97 rfl (.val nod) (.cons (.one (.bor (.sl nod))) .nil) (by decide) all_nil .nil (cloneE_con e.2 (by omega)) rfl rfl (nle rfl)) (.run [] [] rfl (st_build (pl := [(0, 1)]) rfl Try.underlying108 inf108 (by kernel_rfl) rfl rfl) (.run [2800, 2600] [] rfl (st_buildSlice rfl 2800 Try.underlying54 inf108 (nle rfl) (by decide) rfl rfl rfl (.cons (.row rfl rfl) .nil) (by decide) rfl (by decide) rfl (by decide) rfl) (.run [1] [] rfl (st_append rfl 1 (ib := 1) (len := ((pvR (ownR (rs.take i))) ++ [[PV.sl true 4 (pvE e.2)]]).length) rfl rfl (.row (len := (pvR (ownR (rs.take i))).length) (xs := pvR (ownR (rs.take i))) rfl rfl (.inl rfl)) (.give (len := 1) (xs := [[PV.sl true 4 (pvE e.2)]]) rfl rfl) Try.underlying54 (sk Try.underlying54 rfl) inf108 rfl (by decide) (by decide) (by decide) List.length_append (by simp only [maxLen, List.length_append, List.length_map, List.length_cons, List.length_nil, List.length_take, List.length_drop, pvE_length, pvI_length, pvT_length, pvU_length, pvP_length, pvR_length, pvO_length]; omega) (by simp only [maxLen, List.length_append, List.length_map, List.length_cons, List.length_nil, List.length_take, List.length_drop, pvE_length, pvI_length, pvT_length, pvU_length, pvP_length, pvR_length, pvO_length]; omega)) (.run [] [] rfl (st_faddr_box rfl rfl Try.underlying56 rfl Try.sizeOf54 (by decide)) (.run [] [] rfl (st_store_box rfl rfl rfl rfl rfl Try.sizeOf54 rfl (nle rfl)) .nil)))))))))) (by kernel_rfl) ?_
    have hr2 : (pvR (ownR (rs.take i))) ++ [[PV.sl true 4 (pvE e.2)]] = pvR (ownR (rs.take (i + 1))) := by exact ownR_step he
    have hp3 : (some [.p none (.v (.int .i64 sq)), .sl 1000 0 ((pvE mem).length), .sl 1 0 (((pvR (ownR (rs.take i))) ++ [[PV.sl true 4 (pvE e.2)]]).length), .sl 1300 0 ((pvI sn).length)] : Option (List AV)) = some [.p none (.v (.int .i64 sq)), .sl 1000 0 ((pvE mem).length), .sl 1 0 ((pvR (ownR (rs.take (i + 1)))).length), .sl 1300 0 ((pvI sn).length)] := by simp only [hr2]
    refine tr_wk (s' := mk [(2, .ptr 2 0), (3, .ptr 3 0), (16, .p none (.sl false 1 (pvR rs))), (17, .p none (.v (.int .i64 ((pvR rs).length : Int)))), (18, .p none (.v (.int .i64 (i:Int))))] [(2, [.p none (.v (.int .i64 0)), .nils, .nils, .nils]), (3, [.p none (.v (.int .i64 sq)), .sl 1000 0 ((pvE mem).length), .sl 1 0 ((pvR (ownR (rs.take (i + 1)))).length), .sl 1300 0 ((pvI sn).length)])] [(1, 1, pvR (ownR (rs.take (i + 1)))), (1000, 4, pvE mem), (1300, 1, pvI sn)]) ?_ ?_
    · exact wk_mk ⟨rfl, ⟨rfl, ⟨rfl, ⟨rfl, ⟨rfl, trivial⟩⟩⟩⟩⟩ ⟨rfl, ⟨hp3, trivial⟩⟩ ⟨(congrArg (fun x => some (1, x)) hr2), ⟨rfl, ⟨rfl, trivial⟩⟩⟩ rfl
    refine tr_region rfl (.run [] [] rfl (st_addn rfl rfl rfl (by omega)) (.run [] [] rfl (st_move rfl) .nil)) ?_
    refine nxt (Q := fun _ _ => False) (z := i) (i + 1) ?_ ?_ ?_
    · show (i + 1) ≤ rs.length
      omega
    · show rs.length - (i + 1) < rs.length - i
      omega
    · exact wk_mk ⟨rfl, ⟨rfl, ⟨rfl, ⟨rfl, ⟨(int_eq (by omega)), trivial⟩⟩⟩⟩⟩ ⟨rfl, ⟨rfl, trivial⟩⟩ ⟨rfl, ⟨rfl, ⟨rfl, trivial⟩⟩⟩ rfl
  · skip
    replace h1 := of_decide_eq_false h1
    refine tr_exit ?_
    refine tr_seq ?_
    refine tr_region rfl (.run [] [] rfl (st_load_box rfl rfl rfl Try.isAgg56 Try.sizeOf56 (nle rfl)) (.run [] [] rfl (st_store_box rfl rfl rfl rfl rfl Try.sizeOf56 rfl (nle rfl)) .nil)) ?_
    have hr4 : pvR (ownR (rs.take i)) = pvR (ownR rs) := by rw [List.take_of_length_le (by omega)]
    have hp5 : (some [.p none (.v (.int .i64 sq)), .sl 1000 0 ((pvE mem).length), .sl 1 0 ((pvR (ownR (rs.take i))).length), .sl 1300 0 ((pvI sn).length)] : Option (List AV)) = some [.p none (.v (.int .i64 sq)), .sl 1000 0 ((pvE mem).length), .sl 1 0 ((pvR (ownR rs)).length), .sl 1300 0 ((pvI sn).length)] := by simp only [hr4]
    refine tr_wk (s' := mk [(2, .ptr 2 0)] [(2, [.p none (.v (.int .i64 sq)), .sl 1000 0 ((pvE mem).length), .sl 1 0 ((pvR (ownR rs)).length), .sl 1300 0 ((pvI sn).length)])] [(1, 1, pvR (ownR rs)), (1000, 4, pvE mem), (1300, 1, pvI sn)]) ?_ ?_
    · exact wk_mk ⟨rfl, trivial⟩ ⟨hp5, trivial⟩ ⟨(congrArg (fun x => some (1, x)) hr4), ⟨rfl, ⟨rfl, trivial⟩⟩⟩ rfl
    refine tr_ret ?_
    exact ends [_] [1000, 1, 1300] (.cons (.cell rfl rfl Try.isAgg56 Try.sizeOf56 (nle rfl)) .nil) (.cons (.agg (.cons .v (.cons (.row (len := (pvE mem).length) (xs := pvE mem) rfl rfl) (.cons (.row (len := (pvR (ownR rs)).length) (xs := pvR (ownR rs)) rfl rfl) (.cons (.row (len := (pvI sn).length) (xs := pvI sn) rfl rfl) .nil)))) (cl_cons (.v _) (cl_cons (.sl _ _ (FlatP.clean (pvE_flat _))) (cl_cons (pvR_own_clean _) (cl_cons (.sl _ _ (FlatP.clean (pvI_flat _))) cl_nil))))) .nil) (by decide) trivial
theorem merged_app (a b : List Ent) (hl : (a ++ b).length ≤ 2000000) (hd : Dist cmpK (a ++ b)) : Con Try.prog 132 [.one (PV.sl false 4 (pvE a ++ pvE b))] [] [.one (.sl true 4 (pvE (isort cmpK (a ++ b))))] := by
  rw [pvE_app]
  exact merged_con (a ++ b) hl hd
set_option maxRecDepth 1000000 in
set_option maxHeartbeats 2000000 in
theorem dbAll_con (sq : Int) (mem : List Ent) (rs : RunL) (sn : List Int) (hn : mem.length + (ents rs).length ≤ 900000) (hl : rs.length ≤ 1000000) (hsn : sn.length ≤ 1000000) (hd : Dist cmpK (mem ++ ents rs)) : Con Try.prog 112 [.agg [PV.v (.int .i64 sq), PV.sl false 4 (pvE mem), PV.sl false 1 (pvR rs), PV.sl false 1 (pvI sn)]] [] [.one (.sl true 4 (pvE (isort cmpK (mem ++ ents rs))))] := by
  refine con_of_tr Try.func112 rfl rfl rfl rfl ?_
  have hle := pvR_length rs
  have hlm := pvE_length mem
  have hls := pvI_length sn
  have hle2 := pvE_length (ents rs)
  refine tr_seq ?_
  refine tr_region rfl (.run [] [1] rfl (st_box rfl 1 rfl rfl (by decide) rfl (by decide)) (.run [] [] rfl (st_assign rfl) .nil)) ?_
  refine tr_seq ?_
  refine tr_regionD mixed rfl (.run [] [] rfl (st_faddr_box rfl rfl Try.underlying56 rfl Try.sizeOf26 (by decide)) (.run [] [] rfl (st_load_box1 rfl rfl rfl Try.isAgg26 rfl) (.run [500] [] rfl (st_call rfl 500 (X := []) en97 rfl (.val nod) (.cons (.one (.bor (.sl nod))) .nil) (by decide) all_nil .nil (cloneE_con mem (by omega)) rfl rfl (nle rfl)) (.run [] [] rfl (st_faddr_box rfl rfl Try.underlying56 rfl Try.sizeOf54 (by decide)) (.run [] [] rfl (st_load_box1 rfl rfl rfl Try.isAgg54 rfl) (.run [800] [] rfl (st_call rfl 800 (X := []) en96 rfl (.val nod) (.cons (.one (.bor (.sl nod))) .nil) (by decide) all_nil .nil (joined_con rs (by omega) (by omega)) rfl rfl (nle rfl)) (.run [500] [] rfl (st_append rfl 500 (ib := 500) (len := ((pvE mem) ++ (pvE (ents rs))).length) rfl rfl (.row (len := (pvE mem).length) (xs := pvE mem) rfl rfl (.inl rfl)) (.give (len := (pvE (ents rs)).length) (xs := pvE (ents rs)) rfl rfl) Try.underlying26 (sk Try.underlying26 rfl) inf44 rfl (by decide) (by decide) (by decide) List.length_append (by simp only [maxLen, List.length_append, List.length_map, List.length_cons, List.length_nil, List.length_take, List.length_drop, pvE_length, pvI_length, pvT_length, pvU_length, pvP_length, pvR_length, pvO_length]; omega) (by simp only [maxLen, List.length_append, List.length_map, List.length_cons, List.length_nil, List.length_take, List.length_drop, pvE_length, pvI_length, pvT_length, pvU_length, pvP_length, pvR_length, pvO_length]; omega)) (.run [500, 1000] [] rfl (st_call rfl 1000 (X := []) en132 rfl (.val nod) (.cons (.one (.bor (.all (len := ((pvE mem) ++ (pvE (ents rs))).length) (xs := (pvE mem) ++ (pvE (ents rs))) rfl rfl (by decide)))) .nil) (by decide) all_nil .nil (merged_app mem (ents rs) (by rw [List.length_append]; omega) hd) rfl rfl (nle rfl)) (.run [] [] rfl (st_assign rfl) .nil))))))))) (by kernel_rfl) ?_
  refine tr_ret ?_
  exact ends [_] [1000] (.cons (.tmp rfl) .nil) (.cons (.one (.row (len := (pvE (isort cmpK (mem ++ ents rs))).length) (xs := pvE (isort cmpK (mem ++ ents rs))) rfl rfl) (.sl _ _ (FlatP.clean (pvE_flat _)))) .nil) (by decide) trivial
set_option maxRecDepth 1000000 in
set_option maxHeartbeats 2000000 in
theorem specDbOk_con (sq : Int) (mem : List Ent) (rs : RunL) (sn : List Int) (hm : mem.length ≤ 2000000) (hl : rs.length ≤ 1000000) (hb : ∀ r ∈ rs, r.2.length ≤ 2000000) (hsn : sn.length ≤ 1000000) : Con Try.prog 40 [.agg [PV.v (.int .i64 sq), PV.sl false 4 (pvE mem), PV.sl false 1 (pvR rs), PV.sl false 1 (pvI sn)]] [] [.one (.v (.bool (dbOkS sq mem rs sn)))] := by
  refine con_of_tr Try.func40 rfl rfl rfl rfl ?_
  have hle := pvR_length rs
  have hlm := pvE_length mem
  have hls := pvI_length sn
  refine tr_seq ?_
  refine tr_region rfl (.run [] [1] rfl (st_box rfl 1 rfl rfl (by decide) rfl (by decide)) (.run [] [] rfl (st_assign rfl) .nil)) ?_
  refine tr_seq ?_
  refine tr_seq ?_
  refine tr_wk (s' := mk [(1, .ptr 1 0)] [(1, [.p none (.v (.int .i64 sq)), .p none (.sl false 4 (pvE mem)), .p none (.sl false 1 (pvR rs)), .p none (.sl false 1 (pvI sn))])] []) ?_ ?_
  · exact wk_mk ⟨rfl, trivial⟩ ⟨rfl, trivial⟩ trivial rfl
  rcases bfc (!(within sq 0 1000000000000)) with h1 | h1
  · have h1' := h1
    replace h1' : (within sq 0 1000000000000) = true := bnot_f h1'
    rcases bfc (!(entsOk mem)) with h2 | h2
    · have h2' := h2
      replace h2' : (entsOk mem) = true := bnot_f h2'
      rcases bfc (!(runsOkF rs)) with h3 | h3
      · have h3' := h3
        replace h3' : (runsOkF rs) = true := bnot_f h3'
        refine tr_region rfl (.run [] [] rfl (st_faddr_box rfl rfl Try.underlying56 rfl Try.sizeOf2 (by decide)) (.run [] [] rfl (st_load_box1 rfl rfl rfl Try.isAgg2 rfl) (.run [1500] [] rfl (st_call rfl 1500 (X := []) en84 rfl (.val nod) (.cons (.one (.bor .v)) (.cons (.one (.bor .v)) (.cons (.one (.bor .v)) .nil))) (by decide) all_nil .nil (l1In_con sq 0 1000000000000) rfl rfl (nle rfl)) (.run [] [] rfl (st_eq (st_not (b := within sq 0 1000000000000) rfl rfl) (bool_eq h1)) (.run [] [] rfl (st_move rfl) (.run [] [] rfl (st_faddr_box rfl rfl Try.underlying56 rfl Try.sizeOf26 (by decide)) (.run [] [] rfl (st_load_box1 rfl rfl rfl Try.isAgg26 rfl) (.run [2000] [] rfl (st_call rfl 2000 (X := []) en31 rfl (.val nod) (.cons (.one (.bor (.sl nod))) .nil) (by decide) all_nil .nil (specEntriesOk_con mem (by omega)) rfl rfl (nle rfl)) (.run [] [] rfl (st_eq (st_not (b := entsOk mem) rfl rfl) (bool_eq h2)) (.run [] [] rfl (st_pickF rfl rfl) (.run [] [] rfl (st_move rfl) (.run [] [] rfl (st_faddr_box rfl rfl Try.underlying56 rfl Try.sizeOf54 (by decide)) (.run [] [] rfl (st_load_box1 rfl rfl rfl Try.isAgg54 rfl) (.run [2600] [] rfl (st_call rfl 2600 (X := []) en91 rfl (.val nod) (.cons (.one (.bor (.sl nod))) .nil) (by decide) all_nil .nil (specRunsOk_con rs (by omega) hb) rfl rfl (nle rfl)) (.run [] [] rfl (st_eq (st_not (b := runsOkF rs) rfl rfl) (bool_eq h3)) (.run [] [] rfl (st_pickF rfl rfl) (.run [] [] rfl (st_move rfl) (.run [] [] rfl (st_faddr_box rfl rfl Try.underlying56 rfl Try.sizeOf23 (by decide)) (.run [] [] rfl (st_load_box1 rfl rfl rfl Try.isAgg23 rfl) (.run [3200] [] rfl (st_call rfl 3200 (X := []) en32 rfl (.val nod) (.cons (.one (.bor (.sl nod))) .nil) (by decide) all_nil .nil (specSnapsOk_con sn (by omega)) rfl rfl (nle rfl)) (.run [] [] rfl (st_not (b := snapsOk sn) rfl rfl) (.run [] [] rfl (st_pickF rfl rfl) .nil)))))))))))))))))))))) ?_
        refine tr_if (t := (!(snapsOk sn))) rfl (fun h4 => ?_) (fun h4 => ?_)
        · skip
          replace h4 : (snapsOk sn) = false := bnot_t h4
          refine tr_seq ?_
          refine tr_wk (s' := mk [] [] []) ?_ ?_
          · exact wk_mk trivial trivial trivial rfl
          refine tr_region rfl (.run [] [] rfl (st_assign rfl) .nil) ?_
          refine tr_ret ?_
          exact ends [_] [] (.cons (.tmp (bool_eq (dbs_base (base_n4 (by simpa using h4))))) .nil) (.cons (.one .v (.v _)) .nil) (by decide) trivial
        · skip
          replace h4 : (snapsOk sn) = true := bnot_f h4
          refine tr_skip ?_
          refine tr_seq ?_
          have hbase : dbBase sq mem rs sn = true := by simp_all [dbBase]
          have hbm := entsOk_len (l := mem) (by assumption)
          have hbr := runs_len (rs := rs) (by assumption)
          have hbs := snaps_len (sn := sn) (by assumption)
          refine tr_wk (s' := mk [(1, .ptr 1 0)] [(1, [.p none (.v (.int .i64 sq)), .p none (.sl false 4 (pvE mem)), .p none (.sl false 1 (pvR rs)), .p none (.sl false 1 (pvI sn))])] []) ?_ ?_
          · exact wk_mk ⟨rfl, trivial⟩ ⟨rfl, trivial⟩ trivial rfl
          refine tr_region rfl (.run [] [] rfl (st_faddr_box rfl rfl Try.underlying56 rfl Try.sizeOf26 (by decide)) (.run [] [] rfl (st_load_box1 rfl rfl rfl Try.isAgg26 rfl) (.run [] [] rfl (st_len_fro rfl rfl Try.underlying26) (.run [] [] rfl (st_assign rfl) .nil)))) ?_
          refine tr_seq ?_
          refine tr_seq ?_
          refine tr_region rfl (.run [] [] rfl (st_assign rfl) .nil) ?_
          refine tr_block ?_
          refine tr_loopS (σ := Nat) (fun i => mk [(1, .ptr 1 0), (3, .p none (.v (.int .i64 ((mem.length + (ents (rs.take i)).length : Nat) : Int)))), (4, .p none (.v (.int .i64 (i:Int))))] [(1, [.p none (.v (.int .i64 sq)), .p none (.sl false 4 (pvE mem)), .p none (.sl false 1 (pvR rs)), .p none (.sl false 1 (pvI sn))])] []) (fun i => i ≤ rs.length) (fun i => rs.length - i) 0 (by simp) (wk_mk ⟨rfl, ⟨(int_eq (by rw [pvE_length]; rfl)), ⟨(int_eq (by omega)), trivial⟩⟩⟩ ⟨rfl, trivial⟩ trivial rfl) ?_
          rintro i hG
          replace hG : i ≤ rs.length := hG
          have hti := ents_take_len rs i
          refine tr_seq ?_
          refine tr_seq ?_
          refine tr_region rfl (.run [] [] rfl (st_move rfl) (.run [] [] rfl (st_faddr_box rfl rfl Try.underlying56 rfl Try.sizeOf54 (by decide)) (.run [] [] rfl (st_load_box1 rfl rfl rfl Try.isAgg54 rfl) (.run [] [] rfl (st_len_fro rfl rfl Try.underlying54) (.run [] [] rfl (st_lss rfl rfl rfl) .nil))))) ?_
          refine tr_if (t := decide ((i:Int) < ((pvR rs).length : Int))) rfl (fun h5 => ?_) (fun h5 => ?_)
          · skip
            replace h5 := of_decide_eq_true h5
            refine tr_skip ?_
            refine tr_seq ?_
            refine tr_block ?_
            obtain ⟨e, he⟩ : ∃ e, rs[i]? = some e := ⟨_, List.getElem?_eq_getElem (by omega)⟩
            have hrl := run_len he
            have hrv := pvE_length e.2
            refine tr_region rfl (.run [] [] rfl (st_move rfl) (.run [] [] rfl (st_faddr_box rfl rfl Try.underlying56 rfl Try.sizeOf54 (by decide)) (.run [] [] rfl (st_load_box1 rfl rfl rfl Try.isAgg54 rfl) (.run [] [] rfl (st_move rfl) (.run [] [] rfl (st_idx_fro rfl rfl rfl Try.underlying54 Try.sizeOf108 rfl (by omega) (pvR_get he)) (.run [] [] rfl (st_faddr_fea rfl rfl Try.underlying108 rfl Try.sizeOf26 (by decide)) (.run [] [] rfl (st_load_fea1 rfl rfl Try.isAgg26 rfl) (.run [] [] rfl (st_len_fro rfl rfl Try.underlying26) (.run [] [] rfl (st_addn rfl rfl rfl (by omega)) (.run [] [] rfl (st_assign rfl) .nil)))))))))) ?_
            refine tr_wk (s' := mk [(1, .ptr 1 0), (3, .p none (.v (.int .i64 (((mem.length + (ents (rs.take i)).length : Nat) : Int) + ((pvE e.2).length : Int))))), (4, .p none (.v (.int .i64 (i:Int))))] [(1, [.p none (.v (.int .i64 sq)), .p none (.sl false 4 (pvE mem)), .p none (.sl false 1 (pvR rs)), .p none (.sl false 1 (pvI sn))])] []) ?_ ?_
            · exact wk_mk ⟨rfl, ⟨rfl, ⟨rfl, trivial⟩⟩⟩ ⟨rfl, trivial⟩ trivial rfl
            refine tr_region rfl (.run [] [] rfl (st_move rfl) (.run [] [] rfl (st_addn rfl rfl rfl (by omega)) (.run [] [] rfl (st_assign rfl) .nil))) ?_
            refine nxt (Q := fun _ _ => False) (z := i) (i + 1) ?_ ?_ ?_
            · show (i + 1) ≤ rs.length
              omega
            · show rs.length - (i + 1) < rs.length - i
              omega
            · exact wk_mk ⟨rfl, ⟨(int_eq (by rw [ents_step he, List.length_append, pvE_length]; omega)), ⟨(int_eq (by omega)), trivial⟩⟩⟩ ⟨rfl, trivial⟩ trivial rfl
          · skip
            replace h5 := of_decide_eq_false h5
            refine tr_exit ?_
            refine tr_seq ?_
            have hall : ents (rs.take i) = ents rs := by rw [List.take_of_length_le (by omega)]
            have hal := congrArg List.length hall
            have hva := pvE_length (allS mem rs)
            refine tr_region rfl (.run [] [] rfl (st_load_box rfl rfl rfl Try.isAgg56 Try.sizeOf56 (nle rfl)) (.run [5500] [] rfl (st_call rfl 5500 (X := []) en92 rfl (.val nod) (.cons (.agg (.cons (.bor .v) (.cons (.bor (.sl nod)) (.cons (.bor (.sl nod)) (.cons (.bor (.sl nod)) .nil))))) .nil) (by decide) all_nil .nil (l15All_con sq mem rs sn (by omega) hl) rfl rfl (nle rfl)) (.run [] [] rfl (st_assign rfl) .nil))) ?_
            refine tr_seq ?_
            refine tr_seq ?_
            rcases bfc (decide (400 < ((mem.length + (ents (rs.take i)).length : Nat) : Int))) with h6 | h6
            · have h6' := h6
              replace h6' := of_decide_eq_false h6'
              refine tr_region rfl (.run [] [] rfl (st_move rfl) (.run [] [] rfl (st_eq (st_gtr rfl rfl rfl) (bool_eq h6)) (.run [] [] rfl (st_move rfl) (.run [] [] rfl (st_move rfl) (.run [] [] rfl (st_move rfl) (.run [] [] rfl (st_len_row rfl rfl Try.underlying26) (.run [] [] rfl (st_neq rfl rfl rfl) (.run [] [] rfl (st_pickF rfl rfl) .nil)))))))) ?_
              refine tr_if (t := (!(decide (((mem.length + (ents (rs.take i)).length : Nat) : Int) = ((pvE (allS mem rs)).length : Int))))) rfl (fun h7 => ?_) (fun h7 => ?_)
              · skip
                replace h7 : ¬ (((mem.length + (ents (rs.take i)).length : Nat) : Int) = ((pvE (allS mem rs)).length : Int)) := of_decide_eq_false (bnot_t h7)
                refine tr_seq ?_
                refine tr_wk (s' := mk [] [] []) ?_ ?_
                · exact wk_mk trivial trivial trivial rfl
                refine tr_region rfl (.run [] [] rfl (st_assign rfl) .nil) ?_
                refine tr_ret ?_
                exact ends [_] [] (.cons (.tmp (bool_eq (dbs_no (fun q => by have := q.all; omega)))) .nil) (.cons (.one .v (.v _)) .nil) (by decide) trivial
              · skip
                replace h7 : ((mem.length + (ents (rs.take i)).length : Nat) : Int) = ((pvE (allS mem rs)).length : Int) := of_decide_eq_true (bnot_f h7)
                refine tr_skip ?_
                refine tr_seq ?_
                refine tr_seq ?_
                refine tr_wk (s' := mk [(1, .ptr 1 0), (5, .sl 5500 0 ((pvE (allS mem rs)).length))] [(1, [.p none (.v (.int .i64 sq)), .p none (.sl false 4 (pvE mem)), .p none (.sl false 1 (pvR rs)), .p none (.sl false 1 (pvI sn))])] [(5500, 4, pvE (allS mem rs))]) ?_ ?_
                · exact wk_mk ⟨rfl, ⟨rfl, trivial⟩⟩ ⟨rfl, trivial⟩ ⟨rfl, trivial⟩ rfl
                refine tr_region rfl (.run [] [] rfl (st_assign rfl) .nil) ?_
                refine tr_block ?_
                refine tr_loopS (σ := Nat) (fun i1 => mk [(1, .ptr 1 0), (5, .sl 5500 0 ((pvE (allS mem rs)).length)), (6, .p none (.v (.int .i64 (i1:Int))))] [(1, [.p none (.v (.int .i64 sq)), .p none (.sl false 4 (pvE mem)), .p none (.sl false 1 (pvR rs)), .p none (.sl false 1 (pvI sn))])] [(5500, 4, pvE (allS mem rs))]) (fun i1 => i1 ≤ (allS mem rs).length ∧ Seqs sq (allS mem rs) i1) (fun i1 => (allS mem rs).length - i1) 0 ⟨Nat.zero_le _, seqs_zero _ _⟩ (wk_mk ⟨rfl, ⟨rfl, ⟨(int_eq (by omega)), trivial⟩⟩⟩ ⟨rfl, trivial⟩ ⟨rfl, trivial⟩ rfl) ?_
                rintro i1 hG
                replace hG : i1 ≤ (allS mem rs).length ∧ Seqs sq (allS mem rs) i1 := hG
                obtain ⟨hi1, hS⟩ := hG
                refine tr_seq ?_
                refine tr_seq ?_
                refine tr_region rfl (.run [] [] rfl (st_move rfl) (.run [] [] rfl (st_move rfl) (.run [] [] rfl (st_len_row rfl rfl Try.underlying26) (.run [] [] rfl (st_lss rfl rfl rfl) .nil)))) ?_
                refine tr_if (t := decide ((i1:Int) < ((pvE (allS mem rs)).length : Int))) rfl (fun h8 => ?_) (fun h8 => ?_)
                · skip
                  replace h8 := of_decide_eq_true h8
                  refine tr_skip ?_
                  refine tr_seq ?_
                  refine tr_block ?_
                  refine tr_seq ?_
                  refine tr_seq ?_
                  obtain ⟨x, hx⟩ : ∃ x, (allS mem rs)[i1]? = some x := ⟨_, List.getElem?_eq_getElem (by omega)⟩
                  refine tr_regionD mixed rfl (.run [] [] rfl (st_move rfl) (.run [] [] rfl (st_move rfl) (.run [] [] rfl (st_idx_row0 i1 rfl rfl rfl rfl Try.underlying26 Try.sizeOf44 rfl rfl (by omega)) (.run [] [] rfl (st_faddr_ea rfl rfl Try.underlying44 rfl Try.sizeOf42 (by decide)) (.run [] [] rfl (st_faddr_ea rfl rfl Try.underlying42 rfl Try.sizeOf2 (by decide)) (.run [] [] rfl (st_load_ea1 rfl rfl rfl (pvE_get hx) Try.isAgg2 rfl) (.run [] [] rfl (st_faddr_box rfl rfl Try.underlying56 rfl Try.sizeOf2 (by decide)) (.run [] [] rfl (st_load_box1 rfl rfl rfl Try.isAgg2 rfl) (.run [] [] rfl (st_gtr rfl rfl rfl) .nil))))))))) (by kernel_rfl) ?_
                  refine tr_if (t := decide (sq < x.seq)) rfl (fun h9 => ?_) (fun h9 => ?_)
                  · skip
                    replace h9 := of_decide_eq_true h9
                    refine tr_seq ?_
                    refine tr_region rfl (.run [] [] rfl (st_assign rfl) .nil) ?_
                    refine tr_ret ?_
                    exact ends [_] [] (.cons (.tmp (bool_eq (dbs_no (no_seq hx h9)))) .nil) (.cons (.one .v (.v _)) .nil) (by decide) trivial
                  · skip
                    replace h9 := of_decide_eq_false h9
                    refine tr_skip ?_
                    refine tr_seq ?_
                    refine tr_region rfl (.run [] [] rfl (st_assign rfl) .nil) ?_
                    refine tr_block ?_
                    refine tr_loopS (σ := Nat) (fun k => mk [(1, .ptr 1 0), (5, .sl 5500 0 ((pvE (allS mem rs)).length)), (6, .p none (.v (.int .i64 (i1:Int)))), (7, .p none (.v (.int .i64 (k:Int))))] [(1, [.p none (.v (.int .i64 sq)), .p none (.sl false 4 (pvE mem)), .p none (.sl false 1 (pvR rs)), .p none (.sl false 1 (pvI sn))])] [(5500, 4, pvE (allS mem rs))]) (fun k => k ≤ i1 ∧ Unlike (allS mem rs) x k) (fun k => i1 - k) 0 ⟨Nat.zero_le _, unlike_zero _ _⟩ (wk_mk ⟨rfl, ⟨rfl, ⟨rfl, ⟨(int_eq (by omega)), trivial⟩⟩⟩⟩ ⟨rfl, trivial⟩ ⟨rfl, trivial⟩ rfl) ?_
                    rintro k hG
                    replace hG : k ≤ i1 ∧ Unlike (allS mem rs) x k := hG
                    obtain ⟨hk, hUn⟩ := hG
                    refine tr_seq ?_
                    refine tr_seq ?_
                    refine tr_region rfl (.run [] [] rfl (st_move rfl) (.run [] [] rfl (st_move rfl) (.run [] [] rfl (st_lss rfl rfl rfl) .nil))) ?_
                    refine tr_if (t := decide ((k:Int) < (i1:Int))) rfl (fun h10 => ?_) (fun h10 => ?_)
                    · skip
                      replace h10 := of_decide_eq_true h10
                      refine tr_skip ?_
                      refine tr_seq ?_
                      refine tr_block ?_
                      refine tr_seq ?_
                      obtain ⟨y, hy⟩ : ∃ y, (allS mem rs)[k]? = some y := ⟨_, List.getElem?_eq_getElem (by omega)⟩
                      refine tr_regionD mixed rfl (.run [] [] rfl (st_move rfl) (.run [] [] rfl (st_move rfl) (.run [] [] rfl (st_idx_row0 k rfl rfl rfl rfl Try.underlying26 Try.sizeOf44 rfl rfl (by omega)) (.run [] [] rfl (st_faddr_ea rfl rfl Try.underlying44 rfl Try.sizeOf42 (by decide)) (.run [] [] rfl (st_faddr_ea rfl rfl Try.underlying42 rfl Try.sizeOf2 (by decide)) (.run [] [] rfl (st_load_ea1 rfl rfl rfl (pvE_get hy) Try.isAgg2 rfl) (.run [] [] rfl (st_move rfl) (.run [] [] rfl (st_move rfl) (.run [] [] rfl (st_idx_row0 i1 rfl rfl rfl rfl Try.underlying26 Try.sizeOf44 rfl rfl (by omega)) (.run [] [] rfl (st_faddr_ea rfl rfl Try.underlying44 rfl Try.sizeOf42 (by decide)) (.run [] [] rfl (st_faddr_ea rfl rfl Try.underlying42 rfl Try.sizeOf2 (by decide)) (.run [] [] rfl (st_load_ea1 rfl rfl rfl (pvE_get hx) Try.isAgg2 rfl) (.run [] [] rfl (st_eql rfl rfl rfl) .nil))))))))))))) (by kernel_rfl) ?_
                      refine tr_if (t := decide (y.seq = x.seq)) rfl (fun h11 => ?_) (fun h11 => ?_)
                      · skip
                        replace h11 := of_decide_eq_true h11
                        refine tr_seq ?_
                        refine tr_wk (s' := mk [] [] []) ?_ ?_
                        · exact wk_mk trivial trivial trivial rfl
                        refine tr_region rfl (.run [] [] rfl (st_assign rfl) .nil) ?_
                        refine tr_ret ?_
                        exact ends [_] [] (.cons (.tmp (bool_eq (dbs_no (no_like hx hy (by omega) h11)))) .nil) (.cons (.one .v (.v _)) .nil) (by decide) trivial
                      · skip
                        replace h11 := of_decide_eq_false h11
                        refine tr_skip ?_
                        refine tr_wk (s' := mk [(1, .ptr 1 0), (5, .sl 5500 0 ((pvE (allS mem rs)).length)), (6, .p none (.v (.int .i64 (i1:Int)))), (7, .p none (.v (.int .i64 (k:Int))))] [(1, [.p none (.v (.int .i64 sq)), .p none (.sl false 4 (pvE mem)), .p none (.sl false 1 (pvR rs)), .p none (.sl false 1 (pvI sn))])] [(5500, 4, pvE (allS mem rs))]) ?_ ?_
                        · exact wk_mk ⟨rfl, ⟨rfl, ⟨rfl, ⟨rfl, trivial⟩⟩⟩⟩ ⟨rfl, trivial⟩ ⟨rfl, trivial⟩ rfl
                        refine tr_region rfl (.run [] [] rfl (st_move rfl) (.run [] [] rfl (st_addn rfl rfl rfl (by omega)) (.run [] [] rfl (st_assign rfl) .nil))) ?_
                        refine nxt (Q := fun _ _ => False) (z := k) (k + 1) ?_ ?_ ?_
                        · show (k + 1) ≤ i1 ∧ Unlike (allS mem rs) x (k + 1)
                          exact ⟨by omega, unlike_step hUn hy h11⟩
                        · show i1 - (k + 1) < i1 - k
                          omega
                        · exact wk_mk ⟨rfl, ⟨rfl, ⟨rfl, ⟨(int_eq (by omega)), trivial⟩⟩⟩⟩ ⟨rfl, trivial⟩ ⟨rfl, trivial⟩ rfl
                    · skip
                      replace h10 := of_decide_eq_false h10
                      refine tr_exit ?_
                      refine tr_region rfl (.run [] [] rfl (st_move rfl) (.run [] [] rfl (st_addn rfl rfl rfl (by omega)) (.run [] [] rfl (st_assign rfl) .nil))) ?_
                      refine nxt (Q := fun _ _ => False) (z := i1) (i1 + 1) ?_ ?_ ?_
                      · show (i1 + 1) ≤ (allS mem rs).length ∧ Seqs sq (allS mem rs) (i1 + 1)
                        exact ⟨by omega, seqs_step hS hx h9 (fun k2 y hk2 hy2 => hUn k2 y (by omega) hy2)⟩
                      · show (allS mem rs).length - (i1 + 1) < (allS mem rs).length - i1
                        omega
                      · exact wk_mk ⟨rfl, ⟨rfl, ⟨(int_eq (by omega)), trivial⟩⟩⟩ ⟨rfl, trivial⟩ ⟨rfl, trivial⟩ rfl
                · skip
                  replace h8 := of_decide_eq_false h8
                  refine tr_exit ?_
                  refine tr_seq ?_
                  refine tr_seq ?_
                  refine tr_region rfl (.run [] [] rfl (st_assign rfl) .nil) ?_
                  refine tr_block ?_
                  refine tr_loopS (σ := Nat) (fun i3 => mk [(1, .ptr 1 0), (8, .p none (.v (.int .i64 (i3:Int))))] [(1, [.p none (.v (.int .i64 sq)), .p none (.sl false 4 (pvE mem)), .p none (.sl false 1 (pvR rs)), .p none (.sl false 1 (pvI sn))])] []) (fun i3 => i3 ≤ sn.length ∧ UpTo sq sn i3) (fun i3 => sn.length - i3) 0 ⟨Nat.zero_le _, upto_zero _ _⟩ (wk_mk ⟨rfl, ⟨(int_eq (by omega)), trivial⟩⟩ ⟨rfl, trivial⟩ trivial rfl) ?_
                  rintro i3 hG
                  replace hG : i3 ≤ sn.length ∧ UpTo sq sn i3 := hG
                  obtain ⟨hi3, hU⟩ := hG
                  refine tr_seq ?_
                  refine tr_seq ?_
                  refine tr_region rfl (.run [] [] rfl (st_move rfl) (.run [] [] rfl (st_faddr_box rfl rfl Try.underlying56 rfl Try.sizeOf23 (by decide)) (.run [] [] rfl (st_load_box1 rfl rfl rfl Try.isAgg23 rfl) (.run [] [] rfl (st_len_fro rfl rfl Try.underlying23) (.run [] [] rfl (st_lss rfl rfl rfl) .nil))))) ?_
                  refine tr_if (t := decide ((i3:Int) < ((pvI sn).length : Int))) rfl (fun h12 => ?_) (fun h12 => ?_)
                  · skip
                    replace h12 := of_decide_eq_true h12
                    refine tr_skip ?_
                    refine tr_seq ?_
                    refine tr_block ?_
                    refine tr_seq ?_
                    obtain ⟨e, he⟩ : ∃ e, sn[i3]? = some e := ⟨_, List.getElem?_eq_getElem (by omega)⟩
                    refine tr_regionD mixed rfl (.run [] [] rfl (st_faddr_box rfl rfl Try.underlying56 rfl Try.sizeOf23 (by decide)) (.run [] [] rfl (st_load_box1 rfl rfl rfl Try.isAgg23 rfl) (.run [] [] rfl (st_move rfl) (.run [] [] rfl (st_idx_fro rfl rfl rfl Try.underlying23 Try.sizeOf2 rfl (by omega) (pvI_get he)) (.run [] [] rfl (st_load_fea1 rfl rfl Try.isAgg2 rfl) (.run [] [] rfl (st_faddr_box rfl rfl Try.underlying56 rfl Try.sizeOf2 (by decide)) (.run [] [] rfl (st_load_box1 rfl rfl rfl Try.isAgg2 rfl) (.run [] [] rfl (st_gtr rfl rfl rfl) .nil)))))))) (by kernel_rfl) ?_
                    refine tr_if (t := decide (sq < e)) rfl (fun h13 => ?_) (fun h13 => ?_)
                    · skip
                      replace h13 := of_decide_eq_true h13
                      refine tr_seq ?_
                      refine tr_region rfl (.run [] [] rfl (st_assign rfl) .nil) ?_
                      refine tr_ret ?_
                      exact ends [_] [] (.cons (.tmp (bool_eq (dbs_no (no_snap he h13)))) .nil) (.cons (.one .v (.v _)) .nil) (by decide) trivial
                    · skip
                      replace h13 := of_decide_eq_false h13
                      refine tr_skip ?_
                      refine tr_region rfl (.run [] [] rfl (st_move rfl) (.run [] [] rfl (st_addn rfl rfl rfl (by omega)) (.run [] [] rfl (st_assign rfl) .nil))) ?_
                      refine nxt (Q := fun _ _ => False) (z := i3) (i3 + 1) ?_ ?_ ?_
                      · show (i3 + 1) ≤ sn.length ∧ UpTo sq sn (i3 + 1)
                        exact ⟨by omega, upto_step hU he h13⟩
                      · show sn.length - (i3 + 1) < sn.length - i3
                        omega
                      · exact wk_mk ⟨rfl, ⟨(int_eq (by omega)), trivial⟩⟩ ⟨rfl, trivial⟩ trivial rfl
                  · skip
                    replace h12 := of_decide_eq_false h12
                    refine tr_exit ?_
                    refine tr_seq ?_
                    refine tr_region rfl (.run [] [] rfl (st_assign rfl) .nil) ?_
                    refine tr_seq ?_
                    refine tr_seq ?_
                    refine tr_region rfl (.run [] [] rfl (st_assign rfl) .nil) ?_
                    refine tr_block ?_
                    refine tr_loopS (σ := Nat) (fun i4 => mk [(1, .ptr 1 0), (9, .p none (.v (.int .i64 (leastN (mem.take i4))))), (10, .p none (.v (.int .i64 (i4:Int))))] [(1, [.p none (.v (.int .i64 sq)), .p none (.sl false 4 (pvE mem)), .p none (.sl false 1 (pvR rs)), .p none (.sl false 1 (pvI sn))])] []) (fun i4 => i4 ≤ mem.length) (fun i4 => mem.length - i4) 0 (by simp) (wk_mk ⟨rfl, ⟨(int_eq (by rfl)), ⟨(int_eq (by omega)), trivial⟩⟩⟩ ⟨rfl, trivial⟩ trivial rfl) ?_
                    rintro i4 hG
                    replace hG : i4 ≤ mem.length := hG
                    refine tr_seq ?_
                    refine tr_seq ?_
                    refine tr_region rfl (.run [] [] rfl (st_move rfl) (.run [] [] rfl (st_faddr_box rfl rfl Try.underlying56 rfl Try.sizeOf26 (by decide)) (.run [] [] rfl (st_load_box1 rfl rfl rfl Try.isAgg26 rfl) (.run [] [] rfl (st_len_fro rfl rfl Try.underlying26) (.run [] [] rfl (st_lss rfl rfl rfl) .nil))))) ?_
                    refine tr_if (t := decide ((i4:Int) < ((pvE mem).length : Int))) rfl (fun h14 => ?_) (fun h14 => ?_)
                    · skip
                      replace h14 := of_decide_eq_true h14
                      refine tr_skip ?_
                      refine tr_seq ?_
                      refine tr_block ?_
                      obtain ⟨e, he⟩ : ∃ e, mem[i4]? = some e := ⟨_, List.getElem?_eq_getElem (by omega)⟩
                      refine tr_region rfl (.run [] [] rfl (st_move rfl) (.run [] [] rfl (st_faddr_box rfl rfl Try.underlying56 rfl Try.sizeOf26 (by decide)) (.run [] [] rfl (st_load_box1 rfl rfl rfl Try.isAgg26 rfl) (.run [] [] rfl (st_move rfl) (.run [] [] rfl (st_idx_fro rfl rfl rfl Try.underlying26 Try.sizeOf44 rfl (by omega) (pvE_get he)) (.run [] [] rfl (st_faddr_fea rfl rfl Try.underlying44 rfl Try.sizeOf42 (by decide)) (.run [] [] rfl (st_faddr_fea rfl rfl Try.underlying42 rfl Try.sizeOf2 (by decide)) (.run [] [] rfl (st_load_fea1 rfl rfl Try.isAgg2 rfl) (.run [] [] rfl (st_min rfl rfl rfl) (.run [] [] rfl (st_assign rfl) .nil)))))))))) ?_
                      refine tr_wk (s' := mk [(1, .ptr 1 0), (9, .p none (.v (.int .i64 (min (leastN (mem.take i4)) e.seq)))), (10, .p none (.v (.int .i64 (i4:Int))))] [(1, [.p none (.v (.int .i64 sq)), .p none (.sl false 4 (pvE mem)), .p none (.sl false 1 (pvR rs)), .p none (.sl false 1 (pvI sn))])] []) ?_ ?_
                      · exact wk_mk ⟨rfl, ⟨rfl, ⟨rfl, trivial⟩⟩⟩ ⟨rfl, trivial⟩ trivial rfl
                      refine tr_region rfl (.run [] [] rfl (st_move rfl) (.run [] [] rfl (st_addn rfl rfl rfl (by omega)) (.run [] [] rfl (st_assign rfl) .nil))) ?_
                      refine nxt (Q := fun _ _ => False) (z := i4) (i4 + 1) ?_ ?_ ?_
                      · show (i4 + 1) ≤ mem.length
                        omega
                      · show mem.length - (i4 + 1) < mem.length - i4
                        omega
                      · exact wk_mk ⟨rfl, ⟨(int_eq (by rw [least_step he])), ⟨(int_eq (by omega)), trivial⟩⟩⟩ ⟨rfl, trivial⟩ trivial rfl
                    · skip
                      replace h14 := of_decide_eq_false h14
                      refine tr_exit ?_
                      refine tr_seq ?_
                      refine tr_seq ?_
                      have hlst : leastN (mem.take i4) = leastN mem := by rw [List.take_of_length_le (by omega)]
                      refine tr_region rfl (.run [] [] rfl (st_assign rfl) .nil) ?_
                      refine tr_block ?_
                      refine tr_loopS (σ := Nat) (fun i5 => mk [(1, .ptr 1 0), (9, .p none (.v (.int .i64 (leastN (mem.take i4))))), (11, .p none (.v (.int .i64 (i5:Int))))] [(1, [.p none (.v (.int .i64 sq)), .p none (.sl false 4 (pvE mem)), .p none (.sl false 1 (pvR rs)), .p none (.sl false 1 (pvI sn))])] []) (fun i5 => i5 ≤ rs.length ∧ BelowR (leastN mem) rs i5) (fun i5 => rs.length - i5) 0 ⟨Nat.zero_le _, belowR_zero _ _⟩ (wk_mk ⟨rfl, ⟨rfl, ⟨(int_eq (by omega)), trivial⟩⟩⟩ ⟨rfl, trivial⟩ trivial rfl) ?_
                      rintro i5 hG
                      replace hG : i5 ≤ rs.length ∧ BelowR (leastN mem) rs i5 := hG
                      obtain ⟨hi5, hB⟩ := hG
                      refine tr_seq ?_
                      refine tr_seq ?_
                      refine tr_region rfl (.run [] [] rfl (st_move rfl) (.run [] [] rfl (st_faddr_box rfl rfl Try.underlying56 rfl Try.sizeOf54 (by decide)) (.run [] [] rfl (st_load_box1 rfl rfl rfl Try.isAgg54 rfl) (.run [] [] rfl (st_len_fro rfl rfl Try.underlying54) (.run [] [] rfl (st_lss rfl rfl rfl) .nil))))) ?_
                      refine tr_if (t := decide ((i5:Int) < ((pvR rs).length : Int))) rfl (fun h15 => ?_) (fun h15 => ?_)
                      · skip
                        replace h15 := of_decide_eq_true h15
                        refine tr_skip ?_
                        refine tr_seq ?_
                        refine tr_block ?_
                        refine tr_seq ?_
                        obtain ⟨r, hr⟩ : ∃ r, rs[i5]? = some r := ⟨_, List.getElem?_eq_getElem (by omega)⟩
                        have hrv := pvE_length r.2
                        have hrl := run_len hr
                        refine tr_region rfl (.run [] [] rfl (st_assign rfl) .nil) ?_
                        refine tr_block ?_
                        refine tr_loopS (σ := Nat) (fun k6 => mk [(1, .ptr 1 0), (9, .p none (.v (.int .i64 (leastN (mem.take i4))))), (11, .p none (.v (.int .i64 (i5:Int)))), (12, .p none (.v (.int .i64 (k6:Int))))] [(1, [.p none (.v (.int .i64 sq)), .p none (.sl false 4 (pvE mem)), .p none (.sl false 1 (pvR rs)), .p none (.sl false 1 (pvI sn))])] []) (fun k6 => k6 ≤ r.2.length ∧ Below1 (leastN mem) r.2 k6) (fun k6 => r.2.length - k6) 0 ⟨Nat.zero_le _, below1_zero _ _⟩ (wk_mk ⟨rfl, ⟨rfl, ⟨rfl, ⟨(int_eq (by omega)), trivial⟩⟩⟩⟩ ⟨rfl, trivial⟩ trivial rfl) ?_
                        rintro k6 hG
                        replace hG : k6 ≤ r.2.length ∧ Below1 (leastN mem) r.2 k6 := hG
                        obtain ⟨hk6, hB1⟩ := hG
                        refine tr_seq ?_
                        refine tr_seq ?_
                        refine tr_region rfl (.run [] [] rfl (st_move rfl) (.run [] [] rfl (st_faddr_box rfl rfl Try.underlying56 rfl Try.sizeOf54 (by decide)) (.run [] [] rfl (st_load_box1 rfl rfl rfl Try.isAgg54 rfl) (.run [] [] rfl (st_move rfl) (.run [] [] rfl (st_idx_fro rfl rfl rfl Try.underlying54 Try.sizeOf108 rfl (by omega) (pvR_get hr)) (.run [] [] rfl (st_faddr_fea rfl rfl Try.underlying108 rfl Try.sizeOf26 (by decide)) (.run [] [] rfl (st_load_fea1 rfl rfl Try.isAgg26 rfl) (.run [] [] rfl (st_len_fro rfl rfl Try.underlying26) (.run [] [] rfl (st_lss rfl rfl rfl) .nil))))))))) ?_
                        refine tr_if (t := decide ((k6:Int) < ((pvE r.2).length : Int))) rfl (fun h16 => ?_) (fun h16 => ?_)
                        · skip
                          replace h16 := of_decide_eq_true h16
                          refine tr_skip ?_
                          refine tr_seq ?_
                          refine tr_block ?_
                          refine tr_seq ?_
                          obtain ⟨x, hx⟩ : ∃ x, r.2[k6]? = some x := ⟨_, List.getElem?_eq_getElem (by omega)⟩
                          refine tr_wk (s' := mk [(1, .ptr 1 0), (9, .p none (.v (.int .i64 (leastN (mem.take i4))))), (11, .p none (.v (.int .i64 (i5:Int)))), (12, .p none (.v (.int .i64 (k6:Int))))] [(1, [.p none (.v (.int .i64 sq)), .p none (.sl false 4 (pvE mem)), .p none (.sl false 1 (pvR rs)), .p none (.sl false 1 (pvI sn))])] []) ?_ ?_
                          · exact wk_mk ⟨rfl, ⟨rfl, ⟨rfl, ⟨rfl, trivial⟩⟩⟩⟩ ⟨rfl, trivial⟩ trivial rfl
                          refine tr_region rfl (.run [] [] rfl (st_faddr_box rfl rfl Try.underlying56 rfl Try.sizeOf54 (by decide)) (.run [] [] rfl (st_load_box1 rfl rfl rfl Try.isAgg54 rfl) (.run [] [] rfl (st_move rfl) (.run [] [] rfl (st_idx_fro rfl rfl rfl Try.underlying54 Try.sizeOf108 rfl (by omega) (pvR_get hr)) (.run [] [] rfl (st_faddr_fea rfl rfl Try.underlying108 rfl Try.sizeOf26 (by decide)) (.run [] [] rfl (st_load_fea1 rfl rfl Try.isAgg26 rfl) (.run [] [] rfl (st_move rfl) (.run [] [] rfl (st_idx_fro rfl rfl rfl Try.underlying26 Try.sizeOf44 rfl (by omega) (pvE_get hx)) (.run [] [] rfl (st_faddr_fea rfl rfl Try.underlying44 rfl Try.sizeOf42 (by decide)) (.run [] [] rfl (st_faddr_fea rfl rfl Try.underlying42 rfl Try.sizeOf2 (by decide)) (.run [] [] rfl (st_load_fea1 rfl rfl Try.isAgg2 rfl) (.run [] [] rfl (st_move rfl) (.run [] [] rfl (st_geq rfl rfl rfl) .nil))))))))))))) ?_
                          refine tr_if (t := decide ((leastN (mem.take i4)) ≤ x.seq)) rfl (fun h17 => ?_) (fun h17 => ?_)
                          · skip
                            replace h17 := of_decide_eq_true h17
                            refine tr_seq ?_
                            refine tr_region rfl (.run [] [] rfl (st_assign rfl) .nil) ?_
                            refine tr_ret ?_
                            exact ends [_] [] (.cons (.tmp (bool_eq (dbs_no (no_below hr hx (by rw [← hlst]; exact h17))))) .nil) (.cons (.one .v (.v _)) .nil) (by decide) trivial
                          · skip
                            replace h17 := of_decide_eq_false h17
                            refine tr_skip ?_
                            refine tr_region rfl (.run [] [] rfl (st_move rfl) (.run [] [] rfl (st_addn rfl rfl rfl (by omega)) (.run [] [] rfl (st_assign rfl) .nil))) ?_
                            refine nxt (Q := fun _ _ => False) (z := k6) (k6 + 1) ?_ ?_ ?_
                            · show (k6 + 1) ≤ r.2.length ∧ Below1 (leastN mem) r.2 (k6 + 1)
                              exact ⟨by omega, below1_step hB1 hx (by rw [← hlst]; exact h17)⟩
                            · show r.2.length - (k6 + 1) < r.2.length - k6
                              omega
                            · exact wk_mk ⟨rfl, ⟨rfl, ⟨rfl, ⟨(int_eq (by omega)), trivial⟩⟩⟩⟩ ⟨rfl, trivial⟩ trivial rfl
                        · skip
                          replace h16 := of_decide_eq_false h16
                          refine tr_exit ?_
                          refine tr_region rfl (.run [] [] rfl (st_move rfl) (.run [] [] rfl (st_addn rfl rfl rfl (by omega)) (.run [] [] rfl (st_assign rfl) .nil))) ?_
                          refine nxt (Q := fun _ _ => False) (z := i5) (i5 + 1) ?_ ?_ ?_
                          · show (i5 + 1) ≤ rs.length ∧ BelowR (leastN mem) rs (i5 + 1)
                            exact ⟨by omega, belowR_step hB hr hB1 (by omega)⟩
                          · show rs.length - (i5 + 1) < rs.length - i5
                            omega
                          · exact wk_mk ⟨rfl, ⟨rfl, ⟨(int_eq (by omega)), trivial⟩⟩⟩ ⟨rfl, trivial⟩ trivial rfl
                      · skip
                        replace h15 := of_decide_eq_false h15
                        refine tr_exit ?_
                        refine tr_seq ?_
                        refine tr_region rfl (.run [] [] rfl (st_assign rfl) .nil) ?_
                        refine tr_ret ?_
                        exact ends [_] [] (.cons (.tmp (bool_eq (dbs_yes hbase ⟨by omega, by omega, fun j x hj hx => hS j x (by omega) hx, fun j x hj hx => hU j x (by omega) hx, fun j r hj hr => hB j r (by omega) hr⟩))) .nil) (.cons (.one .v (.v _)) .nil) (by decide) trivial
            · have h6' := h6
              replace h6' := of_decide_eq_true h6'
              refine tr_region rfl (.run [] [] rfl (st_move rfl) (.run [] [] rfl (st_eq (st_gtr rfl rfl rfl) (bool_eq h6)) (.run [] [] rfl (st_move rfl) (.not rfl (.not rfl (.not rfl (.not rfl (.run [] [] rfl (st_pickT rfl rfl) .nil)))))))) ?_
              refine tr_if (t := true) rfl (fun _ => ?_) (fun h => nomatch h)
              refine tr_seq ?_
              refine tr_wk (s' := mk [] [] []) ?_ ?_
              · exact wk_mk trivial trivial trivial rfl
              refine tr_region rfl (.run [] [] rfl (st_assign rfl) .nil) ?_
              refine tr_ret ?_
              exact ends [_] [] (.cons (.tmp (bool_eq (dbs_no (fun q => by have := q.few; omega)))) .nil) (.cons (.one .v (.v _)) .nil) (by decide) trivial
      · have h3' := h3
        replace h3' : (runsOkF rs) = false := bnot_t h3'
        refine tr_region rfl (.run [] [] rfl (st_faddr_box rfl rfl Try.underlying56 rfl Try.sizeOf2 (by decide)) (.run [] [] rfl (st_load_box1 rfl rfl rfl Try.isAgg2 rfl) (.run [1500] [] rfl (st_call rfl 1500 (X := []) en84 rfl (.val nod) (.cons (.one (.bor .v)) (.cons (.one (.bor .v)) (.cons (.one (.bor .v)) .nil))) (by decide) all_nil .nil (l1In_con sq 0 1000000000000) rfl rfl (nle rfl)) (.run [] [] rfl (st_eq (st_not (b := within sq 0 1000000000000) rfl rfl) (bool_eq h1)) (.run [] [] rfl (st_move rfl) (.run [] [] rfl (st_faddr_box rfl rfl Try.underlying56 rfl Try.sizeOf26 (by decide)) (.run [] [] rfl (st_load_box1 rfl rfl rfl Try.isAgg26 rfl) (.run [2000] [] rfl (st_call rfl 2000 (X := []) en31 rfl (.val nod) (.cons (.one (.bor (.sl nod))) .nil) (by decide) all_nil .nil (specEntriesOk_con mem (by omega)) rfl rfl (nle rfl)) (.run [] [] rfl (st_eq (st_not (b := entsOk mem) rfl rfl) (bool_eq h2)) (.run [] [] rfl (st_pickF rfl rfl) (.run [] [] rfl (st_move rfl) (.run [] [] rfl (st_faddr_box rfl rfl Try.underlying56 rfl Try.sizeOf54 (by decide)) (.run [] [] rfl (st_load_box1 rfl rfl rfl Try.isAgg54 rfl) (.run [2600] [] rfl (st_call rfl 2600 (X := []) en91 rfl (.val nod) (.cons (.one (.bor (.sl nod))) .nil) (by decide) all_nil .nil (specRunsOk_con rs (by omega) hb) rfl rfl (nle rfl)) (.run [] [] rfl (st_eq (st_not (b := runsOkF rs) rfl rfl) (bool_eq h3)) (.run [] [] rfl (st_pickF rfl rfl) (.run [] [] rfl (st_move rfl) (.not rfl (.not rfl (.not rfl (.not rfl (.run [] [] rfl (st_pickT rfl rfl) .nil)))))))))))))))))))))) ?_
        refine tr_if (t := true) rfl (fun _ => ?_) (fun h => nomatch h)
        refine tr_seq ?_
        refine tr_wk (s' := mk [] [] []) ?_ ?_
        · exact wk_mk trivial trivial trivial rfl
        refine tr_region rfl (.run [] [] rfl (st_assign rfl) .nil) ?_
        refine tr_ret ?_
        exact ends [_] [] (.cons (.tmp (bool_eq (dbs_base (base_n3 (by simpa using h3))))) .nil) (.cons (.one .v (.v _)) .nil) (by decide) trivial
    · have h2' := h2
      replace h2' : (entsOk mem) = false := bnot_t h2'
      refine tr_region rfl (.run [] [] rfl (st_faddr_box rfl rfl Try.underlying56 rfl Try.sizeOf2 (by decide)) (.run [] [] rfl (st_load_box1 rfl rfl rfl Try.isAgg2 rfl) (.run [1500] [] rfl (st_call rfl 1500 (X := []) en84 rfl (.val nod) (.cons (.one (.bor .v)) (.cons (.one (.bor .v)) (.cons (.one (.bor .v)) .nil))) (by decide) all_nil .nil (l1In_con sq 0 1000000000000) rfl rfl (nle rfl)) (.run [] [] rfl (st_eq (st_not (b := within sq 0 1000000000000) rfl rfl) (bool_eq h1)) (.run [] [] rfl (st_move rfl) (.run [] [] rfl (st_faddr_box rfl rfl Try.underlying56 rfl Try.sizeOf26 (by decide)) (.run [] [] rfl (st_load_box1 rfl rfl rfl Try.isAgg26 rfl) (.run [2000] [] rfl (st_call rfl 2000 (X := []) en31 rfl (.val nod) (.cons (.one (.bor (.sl nod))) .nil) (by decide) all_nil .nil (specEntriesOk_con mem (by omega)) rfl rfl (nle rfl)) (.run [] [] rfl (st_eq (st_not (b := entsOk mem) rfl rfl) (bool_eq h2)) (.run [] [] rfl (st_pickF rfl rfl) (.run [] [] rfl (st_move rfl) (.not rfl (.not rfl (.not rfl (.not rfl (.run [] [] rfl (st_pickT rfl rfl) (.run [] [] rfl (st_move rfl) (.not rfl (.not rfl (.not rfl (.not rfl (.run [] [] rfl (st_pickT rfl rfl) .nil)))))))))))))))))))))) ?_
      refine tr_if (t := true) rfl (fun _ => ?_) (fun h => nomatch h)
      refine tr_seq ?_
      refine tr_wk (s' := mk [] [] []) ?_ ?_
      · exact wk_mk trivial trivial trivial rfl
      refine tr_region rfl (.run [] [] rfl (st_assign rfl) .nil) ?_
      refine tr_ret ?_
      exact ends [_] [] (.cons (.tmp (bool_eq (dbs_base (base_n2 (by simpa using h2))))) .nil) (.cons (.one .v (.v _)) .nil) (by decide) trivial
  · have h1' := h1
    replace h1' : (within sq 0 1000000000000) = false := bnot_t h1'
    refine tr_region rfl (.run [] [] rfl (st_faddr_box rfl rfl Try.underlying56 rfl Try.sizeOf2 (by decide)) (.run [] [] rfl (st_load_box1 rfl rfl rfl Try.isAgg2 rfl) (.run [1500] [] rfl (st_call rfl 1500 (X := []) en84 rfl (.val nod) (.cons (.one (.bor .v)) (.cons (.one (.bor .v)) (.cons (.one (.bor .v)) .nil))) (by decide) all_nil .nil (l1In_con sq 0 1000000000000) rfl rfl (nle rfl)) (.run [] [] rfl (st_eq (st_not (b := within sq 0 1000000000000) rfl rfl) (bool_eq h1)) (.run [] [] rfl (st_move rfl) (.not rfl (.not rfl (.not rfl (.not rfl (.run [] [] rfl (st_pickT rfl rfl) (.run [] [] rfl (st_move rfl) (.not rfl (.not rfl (.not rfl (.not rfl (.run [] [] rfl (st_pickT rfl rfl) (.run [] [] rfl (st_move rfl) (.not rfl (.not rfl (.not rfl (.not rfl (.run [] [] rfl (st_pickT rfl rfl) .nil)))))))))))))))))))))) ?_
    refine tr_if (t := true) rfl (fun _ => ?_) (fun h => nomatch h)
    refine tr_seq ?_
    refine tr_wk (s' := mk [] [] []) ?_ ?_
    · exact wk_mk trivial trivial trivial rfl
    refine tr_region rfl (.run [] [] rfl (st_assign rfl) .nil) ?_
    refine tr_ret ?_
    exact ends [_] [] (.cons (.tmp (bool_eq (dbs_base (base_n1 (by simpa using h1))))) .nil) (.cons (.one .v (.v _)) .nil) (by decide) trivial
end Go.Rl
namespace Go.Rl
structure Eng where
  seq : Int
  mem : List Ent
  runs : List (List Ent)
  snaps : List Int
def Eng.nil : Eng := ⟨0, [], [], []⟩
def tagT (ls : List (List Ent)) : RunL := ls.map fun l => (true, l)
theorem tag_len (ls : List (List Ent)) : (tagT ls).length = ls.length := by simp [tagT]
theorem rows_tag (ls : List (List Ent)) : rows (tagT ls) = ls := by simp [rows, tagT, Function.comp_def]
theorem ents_tag (ls : List (List Ent)) : ents (tagT ls) = entsL ls := by rw [ents, rows_tag]
theorem own_tag (ls : List (List Ent)) : ownR (tagT ls) = tagT ls := by simp [ownR, tagT, Function.comp_def]
theorem tag_cons (l : List Ent) (ls : List (List Ent)) : [[PV.sl true 4 (pvE l)]] ++ pvR (tagT ls) = pvR (tagT (l :: ls)) := by simp [pvR, tagT]
noncomputable def okE (d : Eng) : Bool := dbOkS d.seq d.mem (tagT d.runs) d.snaps
structure EB (d : Eng) : Prop where
  mem : d.mem.length ≤ 2000000
  runs : d.runs.length ≤ 1000000
  each : ∀ l ∈ d.runs, l.length ≤ 2000000
  snaps : d.snaps.length ≤ 1000000
theorem EB.tag {d : Eng} (h : EB d) : (tagT d.runs).length ≤ 1000000 := by rw [tag_len]; exact h.runs
theorem EB.b {d : Eng} (h : EB d) : ∀ r ∈ tagT d.runs, r.2.length ≤ 2000000 := fun r hr => by
  obtain ⟨l, hl, rfl⟩ := List.mem_map.1 hr
  exact h.each l hl
structure Small (d : Eng) : Prop where
  mem : d.mem.length ≤ 400
  runs : d.runs.length ≤ 20
  ents : (entsL d.runs).length ≤ 400
  snaps : d.snaps.length ≤ 20
  seq : 0 ≤ d.seq ∧ d.seq ≤ 1000000000000
theorem okS_small {d : Eng} (h : dbOkS d.seq d.mem (tagT d.runs) d.snaps = true) : Small d := by
  have hb := (dbs_of h).1
  simp only [dbBase, Bool.and_eq_true, within, decide_eq_true_eq] at hb
  obtain ⟨h1, h2, h3, h4⟩ := hb
  have r := runs_len h3
  rw [tag_len, ents_tag] at r
  exact ⟨entsOk_len h2, r.1, r.2, snaps_len h4, h1⟩
theorem mem_entsL {l : List Ent} {ls : List (List Ent)} (h : l ∈ ls) : l.length ≤ (entsL ls).length := by
  obtain ⟨i, hi⟩ := List.getElem?_of_mem h
  have := run_len (rs := tagT ls) (i := i) (r := (true, l)) (by simp [tagT, hi])
  rwa [ents_tag] at this
theorem Small.eb {d : Eng} (h : Small d) : EB d := ⟨by have := h.mem; omega, by have := h.runs; omega, fun l hl => by have := mem_entsL hl; have := h.ents; omega, by have := h.snaps; omega⟩
theorem eb_nil : EB Eng.nil := ⟨Nat.zero_le _, Nat.zero_le _, fun _ h => (by cases h), Nat.zero_le _⟩
noncomputable def flushS (d : Eng) : Eng × Int := if okE d = true then (if d.mem.length = 0 then (d, 4) else if 19 ≤ d.runs.length then (d, 3) else (⟨d.seq, [], d.mem :: d.runs, d.snaps⟩, 0)) else (Eng.nil, 1)
def lastIs (s : List Int) (n : Int) : Prop := s[s.length - 1]? = some n
instance (s : List Int) (n : Int) : Decidable (lastIs s n) := inferInstanceAs (Decidable (s[s.length - 1]? = some n))
noncomputable def snapS (d : Eng) : Eng × Int × Int := if okE d = true then (if lastIs d.snaps d.seq then (d, d.seq, 0) else if 20 ≤ d.snaps.length then (d, 0, 3) else (⟨d.seq, d.mem, d.runs, d.snaps ++ [d.seq]⟩, d.seq, 0)) else (Eng.nil, 0, 1)
def without (s : List Int) (a : Int) : List Int := s.filter fun x => decide (x ≠ a)
noncomputable def freeS (d : Eng) (a : Int) : Eng × Int := if okE d = true then (⟨d.seq, d.mem, d.runs, without d.snaps a⟩, if (without d.snaps a).length = d.snaps.length then 4 else 0) else (Eng.nil, 1)
def compC (l : List Ent) (s : List Int) : List Ent := compU l true (needF l (pointsF s) l.length) (needF l (pointsF s) l.length).length
noncomputable def compactS (d : Eng) : Eng × Int := if okE d = true then (if d.runs.length = 0 then (d, 4) else (⟨d.seq, d.mem, if 0 < (compC (mergeL d.runs) d.snaps).length then [compC (mergeL d.runs) d.snaps] else [], d.snaps⟩, 0)) else (Eng.nil, 1)
noncomputable def writeS (d : Eng) (ops : List Bop) : Eng × Int := if okE d = true then (if batchOkF (d.seq + 1) ops = false then (d, 2) else if 400 < (mergeL (d.mem :: d.runs)).length + ops.length then (d, 3) else (⟨d.seq + (ops.length : Int), putsF d.mem (batchE (d.seq + 1) ops), d.runs, d.snaps⟩, 0)) else (Eng.nil, 1)
variable {d : Eng}
theorem not_ok (h : dbOkS d.seq d.mem (tagT d.runs) d.snaps = false) : ¬ okE d = true := fun q => by rw [okE, h] at q; cases q
theorem flush_w (h : dbOkS d.seq d.mem (tagT d.runs) d.snaps = false) : flushS d = (Eng.nil, 1) := if_neg (not_ok h)
theorem flush_e (h : dbOkS d.seq d.mem (tagT d.runs) d.snaps = true) (h1 : d.mem.length = 0) : flushS d = (d, 4) := by rw [flushS, if_pos (show okE d = true from h), if_pos h1]
theorem flush_f (h : dbOkS d.seq d.mem (tagT d.runs) d.snaps = true) (h1 : ¬ d.mem.length = 0) (h2 : 19 ≤ d.runs.length) : flushS d = (d, 3) := by rw [flushS, if_pos (show okE d = true from h), if_neg h1, if_pos h2]
theorem flush_y (h : dbOkS d.seq d.mem (tagT d.runs) d.snaps = true) (h1 : ¬ d.mem.length = 0) (h2 : ¬ 19 ≤ d.runs.length) : flushS d = (⟨d.seq, [], d.mem :: d.runs, d.snaps⟩, 0) := by rw [flushS, if_pos (show okE d = true from h), if_neg h1, if_neg h2]
theorem snap_w (h : dbOkS d.seq d.mem (tagT d.runs) d.snaps = false) : snapS d = (Eng.nil, 0, 1) := if_neg (not_ok h)
theorem snap_l (h : dbOkS d.seq d.mem (tagT d.runs) d.snaps = true) (h1 : lastIs d.snaps d.seq) : snapS d = (d, d.seq, 0) := by rw [snapS, if_pos (show okE d = true from h), if_pos h1]
theorem snap_f (h : dbOkS d.seq d.mem (tagT d.runs) d.snaps = true) (h1 : ¬ lastIs d.snaps d.seq) (h2 : 20 ≤ d.snaps.length) : snapS d = (d, 0, 3) := by rw [snapS, if_pos (show okE d = true from h), if_neg h1, if_pos h2]
theorem snap_y (h : dbOkS d.seq d.mem (tagT d.runs) d.snaps = true) (h1 : ¬ lastIs d.snaps d.seq) (h2 : ¬ 20 ≤ d.snaps.length) : snapS d = (⟨d.seq, d.mem, d.runs, d.snaps ++ [d.seq]⟩, d.seq, 0) := by rw [snapS, if_pos (show okE d = true from h), if_neg h1, if_neg h2]
theorem last_no {s : List Int} {n : Int} (h : s.length = 0) : ¬ lastIs s n := fun q => by
  have := List.eq_nil_of_length_eq_zero h
  subst this
  cases q
theorem last_ne {s : List Int} {n x : Int} (hx : s[s.length - 1]? = some x) (h : x ≠ n) : ¬ lastIs s n := fun q => by rw [lastIs, hx] at q; cases q; exact h rfl
theorem free_w {a : Int} (h : dbOkS d.seq d.mem (tagT d.runs) d.snaps = false) : freeS d a = (Eng.nil, 1) := if_neg (not_ok h)
theorem free_y {a : Int} (h : dbOkS d.seq d.mem (tagT d.runs) d.snaps = true) : freeS d a = (⟨d.seq, d.mem, d.runs, without d.snaps a⟩, if (without d.snaps a).length = d.snaps.length then 4 else 0) := if_pos h
theorem without_yes {s : List Int} {a x : Int} {i : Nat} (hx : s[i]? = some x) (h : ¬ x = a) : without (s.take (i + 1)) a = without (s.take i) a ++ [x] := by
  unfold without
  rw [List.take_add_one, hx, List.filter_append]
  simp [h]
theorem without_no {s : List Int} {a x : Int} {i : Nat} (hx : s[i]? = some x) (h : x = a) : without (s.take (i + 1)) a = without (s.take i) a := by
  unfold without
  rw [List.take_add_one, hx, List.filter_append]
  simp [h]
theorem without_len (s : List Int) (a : Int) (i : Nat) : (without (s.take i) a).length ≤ i := Nat.le_trans (List.length_filter_le _ _) (by rw [List.length_take]; omega)
theorem comp_w (h : dbOkS d.seq d.mem (tagT d.runs) d.snaps = false) : compactS d = (Eng.nil, 1) := if_neg (not_ok h)
theorem comp_e (h : dbOkS d.seq d.mem (tagT d.runs) d.snaps = true) (h1 : d.runs.length = 0) : compactS d = (d, 4) := by rw [compactS, if_pos (show okE d = true from h), if_pos h1]
theorem comp_y (h : dbOkS d.seq d.mem (tagT d.runs) d.snaps = true) (h1 : ¬ d.runs.length = 0) : compactS d = (⟨d.seq, d.mem, if 0 < (compC (mergeL d.runs) d.snaps).length then [compC (mergeL d.runs) d.snaps] else [], d.snaps⟩, 0) := by rw [compactS, if_pos (show okE d = true from h), if_neg h1]
theorem write_w {ops : List Bop} (h : dbOkS d.seq d.mem (tagT d.runs) d.snaps = false) : writeS d ops = (Eng.nil, 1) := if_neg (not_ok h)
theorem write_b {ops : List Bop} (h : dbOkS d.seq d.mem (tagT d.runs) d.snaps = true) (h1 : batchOkF (d.seq + 1) ops = false) : writeS d ops = (d, 2) := by rw [writeS, if_pos (show okE d = true from h), if_pos h1]
theorem write_f {ops : List Bop} (h : dbOkS d.seq d.mem (tagT d.runs) d.snaps = true) (h1 : batchOkF (d.seq + 1) ops = true) (h2 : 400 < (mergeL (d.mem :: d.runs)).length + ops.length) : writeS d ops = (d, 3) := by rw [writeS, if_pos (show okE d = true from h), if_neg (by rw [h1]; decide), if_pos h2]
theorem write_y {ops : List Bop} (h : dbOkS d.seq d.mem (tagT d.runs) d.snaps = true) (h1 : batchOkF (d.seq + 1) ops = true) (h2 : ¬ 400 < (mergeL (d.mem :: d.runs)).length + ops.length) : writeS d ops = (⟨d.seq + (ops.length : Int), putsF d.mem (batchE (d.seq + 1) ops), d.runs, d.snaps⟩, 0) := by rw [writeS, if_pos (show okE d = true from h), if_neg (by rw [h1]; decide), if_neg h2]
theorem all_tag (mem : List Ent) (ls : List (List Ent)) : allS mem (tagT ls) = mergeL (mem :: ls) := by rw [allS, rows_tag]
end Go.Rl

/- Promises of functions, proved by walks over their operations; no conditions beyond those that each theorem states. -/
import Derived.Test.YtmjfdldfaeaolaaRdC
import Derived.Test.YtmjfdldfaeaolaaRlT
namespace Go.Rl
open Go.Proofs
theorem en55 : ∀ vs w, (callFunc 55 vs).run Try.prog w = .ok (.enter 55 vs) w := enters Try.func55 (by decide) rfl
theorem en12 : ∀ vs w, (callFunc 12 vs).run Try.prog w = .ok (.enter 12 vs) w := enters Try.func12 (by decide) rfl
theorem en49 : ∀ vs w, (callFunc 49 vs).run Try.prog w = .ok (.enter 49 vs) w := enters Try.func49 (by decide) rfl
theorem act_named {f : Nat} {A : List PA} {s : Dsk × Int} {d : Dsk} {op : DOp} (h : s = actF d op) (hc : Con Try.prog f A [] [.agg [.sl true 2 (pvF (actF d op).1.live), .sl true 2 (pvF (actF d op).1.safe), .sl true 4 (pvD (actF d op).1.ops)], .one (.v (.int .i64 (actF d op).2))]) : Con Try.prog f A [] [.agg [.sl true 2 (pvF s.1.live), .sl true 2 (pvF s.1.safe), .sl true 4 (pvD s.1.ops)], .one (.v (.int .i64 s.2))] := by
  subst h
  exact hc
set_option maxRecDepth 1000000 in
set_option maxHeartbeats 2000000 in
theorem l6Act_con (d : Dsk) (op : DOp) (hd : DB 900000000 d) (ho : op.data.size ≤ 900000000) : Con Try.prog 49 [.agg [PV.sl false 2 (pvF d.live), PV.sl false 2 (pvF d.safe), PV.sl false 4 (pvD d.ops)], .agg [PV.v (.int .i64 op.kind), PV.v (.string op.name), PV.v (.string op.dest), PV.v (.string op.data)]] [] [.agg [.sl true 2 (pvF (actF d op).1.live), .sl true 2 (pvF (actF d op).1.safe), .sl true 4 (pvD (actF d op).1.ops)], .one (.v (.int .i64 (actF d op).2))] := by
  refine con_of_tr Try.func49 rfl rfl rfl rfl ?_
  have hld := pvF_length d.live
  have hsd := pvF_length d.safe
  have hod := pvD_length d.ops
  obtain ⟨hb1, hb2, hb3, hb4, hb5⟩ := id hd
  refine tr_seq ?_
  refine tr_region rfl (.run [] [2] rfl (st_box rfl 2 rfl rfl (by decide) rfl (by decide)) (.run [] [3] rfl (st_box rfl 3 rfl rfl (by decide) rfl (by decide)) (.run [] [4] rfl (st_allocZ rfl 4 inf27 rfl (by decide) rfl (by decide)) (.run [] [] rfl (st_assign rfl) .nil)))) ?_
  refine tr_seq ?_
  refine tr_seq ?_
  refine tr_region rfl (.run [] [] rfl (st_load_box rfl rfl rfl Try.isAgg36 Try.sizeOf36 (nle rfl)) (.run [1000] [] rfl (st_call rfl 1000 (X := []) en40 rfl (.val nod) (.cons (.agg (.cons (.bor .v) (.cons (.bor .v) (.cons (.bor .v) (.cons (.bor .v) .nil))))) .nil) (by decide) all_nil .nil (l6Form_con op) rfl rfl (nle rfl)) (.run [] [] rfl (st_not (b := formF op) rfl rfl) .nil))) ?_
  refine tr_if (t := (!(formF op))) rfl (fun h1 => ?_) (fun h1 => ?_)
  · skip
    replace h1 : (formF op) = false := bnot_t h1
    refine tr_seq ?_
    rw [show actF d op = (d, 2) from act_1 h1]
    refine tr_region rfl (.run [] [] rfl (st_load_box rfl rfl rfl Try.isAgg27 Try.sizeOf27 (nle rfl)) (.run [1300, 1301, 1302] [] rfl (st_call rfl 1300 (X := []) en55 rfl (.val nod) (.cons (.agg (.cons (.bor (.sl nod)) (.cons (.bor (.sl nod)) (.cons (.bor (.sl nod)) .nil)))) .nil) (by decide) all_nil .nil (l6Copy_con d (by assumption)) rfl rfl (nle rfl)) (.run [] [] rfl (st_store_box rfl rfl rfl rfl rfl Try.sizeOf27 rfl (nle rfl)) (.run [] [] rfl (st_assign rfl) .nil)))) ?_
    refine tr_ret ?_
    exact ends [_, _] [1300, 1301, 1302] (.cons (.cell rfl rfl Try.isAgg27 Try.sizeOf27 (nle rfl)) (.cons (.tmp rfl) .nil)) (.cons (.agg (.cons (.row (len := (pvF d.live).length) (xs := pvF d.live) rfl rfl) (.cons (.row (len := (pvF d.safe).length) (xs := pvF d.safe) rfl rfl) (.cons (.row (len := (pvD d.ops).length) (xs := pvD d.ops) rfl rfl) .nil))) (cl_cons (.sl _ _ (FlatP.clean (pvF_flat _))) (cl_cons (.sl _ _ (FlatP.clean (pvF_flat _))) (cl_cons (.sl _ _ (FlatP.clean (pvD_flat _))) cl_nil)))) (.cons (.one .v (.v _)) .nil)) (by decide) trivial
  · skip
    replace h1 : (formF op) = true := bnot_f h1
    refine tr_skip ?_
    refine tr_seq ?_
    refine tr_region rfl (.run [] [] rfl (st_faddr_box rfl rfl Try.underlying27 rfl Try.sizeOf24 (by decide)) (.run [] [] rfl (st_load_box1 rfl rfl rfl Try.isAgg24 rfl) (.run [] [] rfl (st_load_box rfl rfl rfl Try.isAgg36 Try.sizeOf36 (nle rfl)) (.run [1800, 1801] [] rfl (st_call rfl 1800 (X := []) en39 rfl (.val nod) (.cons (.one (.bor (.sl nod))) (.cons (.agg (.cons (.bor .v) (.cons (.bor .v) (.cons (.bor .v) (.cons (.bor .v) .nil))))) .nil)) (by decide) all_nil .nil (l6Do_con d.live op (by omega) (by omega) (by omega)) rfl rfl (nle rfl)) (.run [] [] rfl (st_move rfl) (.run [] [] rfl (st_extract rfl rfl rfl) (.run [] [] rfl (st_extract rfl rfl rfl) (.run [] [] rfl (st_assign rfl) (.run [] [] rfl (st_assign rfl) .nil))))))))) ?_
    refine tr_seq ?_
    refine tr_seq ?_
    refine tr_wk (s' := mk [(2, .ptr 2 0), (3, .ptr 3 0), (4, .ptr 4 0), (6, .sl 1800 0 ((pvF ((doneF d.live op).1)).length)), (7, .p none (.v (.bool ((doneF d.live op).2))))] [(2, [.p none (.sl false 2 (pvF d.live)), .p none (.sl false 2 (pvF d.safe)), .p none (.sl false 4 (pvD d.ops))]), (3, [.p none (.v (.int .i64 op.kind)), .p none (.v (.string op.name)), .p none (.v (.string op.dest)), .p none (.v (.string op.data))]), (4, [.nils, .nils, .nils])] [(1800, 2, pvF ((doneF d.live op).1))]) ?_ ?_
    · exact wk_mk ⟨rfl, ⟨rfl, ⟨rfl, ⟨rfl, ⟨rfl, trivial⟩⟩⟩⟩⟩ ⟨rfl, ⟨rfl, ⟨rfl, trivial⟩⟩⟩ ⟨rfl, trivial⟩ rfl
    refine tr_region rfl (.run [] [] rfl (st_move rfl) (.run [] [] rfl (st_not (b := (doneF d.live op).2) rfl rfl) .nil)) ?_
    refine tr_if (t := (!((doneF d.live op).2))) rfl (fun h2 => ?_) (fun h2 => ?_)
    · skip
      replace h2 : ((doneF d.live op).2) = false := bnot_t h2
      refine tr_seq ?_
      rw [show actF d op = (d, 3) from act_2 h1 h2]
      refine tr_region rfl (.run [] [] rfl (st_load_box rfl rfl rfl Try.isAgg27 Try.sizeOf27 (nle rfl)) (.run [2400, 2401, 2402] [] rfl (st_call rfl 2400 (X := []) en55 rfl (.val nod) (.cons (.agg (.cons (.bor (.sl nod)) (.cons (.bor (.sl nod)) (.cons (.bor (.sl nod)) .nil)))) .nil) (by decide) all_nil .nil (l6Copy_con d (by assumption)) rfl rfl (nle rfl)) (.run [] [] rfl (st_store_box rfl rfl rfl rfl rfl Try.sizeOf27 rfl (nle rfl)) (.run [] [] rfl (st_assign rfl) .nil)))) ?_
      refine tr_ret ?_
      exact ends [_, _] [2400, 2401, 2402] (.cons (.cell rfl rfl Try.isAgg27 Try.sizeOf27 (nle rfl)) (.cons (.tmp rfl) .nil)) (.cons (.agg (.cons (.row (len := (pvF d.live).length) (xs := pvF d.live) rfl rfl) (.cons (.row (len := (pvF d.safe).length) (xs := pvF d.safe) rfl rfl) (.cons (.row (len := (pvD d.ops).length) (xs := pvD d.ops) rfl rfl) .nil))) (cl_cons (.sl _ _ (FlatP.clean (pvF_flat _))) (cl_cons (.sl _ _ (FlatP.clean (pvF_flat _))) (cl_cons (.sl _ _ (FlatP.clean (pvD_flat _))) cl_nil)))) (.cons (.one .v (.v _)) .nil)) (by decide) trivial
    · skip
      replace h2 : ((doneF d.live op).2) = true := bnot_f h2
      refine tr_skip ?_
      refine tr_seq ?_
      refine tr_seq ?_
      have hdl := done_len d.live op
      have hdt := done_tot d.live op
      have hln := pvF_length (doneF d.live op).1
      rcases bfc (decide (((pvD d.ops).length : Int) = 200)) with h3 | h3
      · have h3' := h3
        replace h3' := of_decide_eq_false h3'
        refine tr_region rfl (.run [] [] rfl (st_faddr_box rfl rfl Try.underlying27 rfl Try.sizeOf25 (by decide)) (.run [] [] rfl (st_load_box1 rfl rfl rfl Try.isAgg25 rfl) (.run [] [] rfl (st_len_fro rfl rfl Try.underlying25) (.run [] [] rfl (st_eq (st_eql rfl rfl rfl) (by exact congrArg (fun b => AV.p none (.v (.bool b))) h3)) (.run [] [] rfl (st_move rfl) (.run [] [] rfl (st_move rfl) (.run [1800, 3100] [] rfl (st_call rfl 3100 (X := []) en38 rfl (.val nod) (.cons (.one (.bor (.all (len := (pvF ((doneF d.live op).1)).length) (xs := pvF ((doneF d.live op).1)) rfl rfl (by decide)))) .nil) (by decide) all_nil .nil (l6Files_con ((doneF d.live op).1) (by omega) (by omega)) rfl rfl (nle rfl)) (.run [] [] rfl (st_not (b := filesOk ((doneF d.live op).1)) rfl rfl) (.run [] [] rfl (st_pick (t := false) rfl rfl) .nil))))))))) ?_
        refine tr_if (t := (!(filesOk ((doneF d.live op).1)))) rfl (fun h4 => ?_) (fun h4 => ?_)
        · skip
          replace h4 : (filesOk ((doneF d.live op).1)) = false := bnot_t h4
          refine tr_seq ?_
          rw [show actF d op = (d, 4) from act_3 h1 h2 (.inr h4)]
          refine tr_region rfl (.run [] [] rfl (st_load_box rfl rfl rfl Try.isAgg27 Try.sizeOf27 (nle rfl)) (.run [3500, 3501, 3502] [] rfl (st_call rfl 3500 (X := []) en55 rfl (.val nod) (.cons (.agg (.cons (.bor (.sl nod)) (.cons (.bor (.sl nod)) (.cons (.bor (.sl nod)) .nil)))) .nil) (by decide) all_nil .nil (l6Copy_con d (by assumption)) rfl rfl (nle rfl)) (.run [] [] rfl (st_store_box rfl rfl rfl rfl rfl Try.sizeOf27 rfl (nle rfl)) (.run [] [] rfl (st_assign rfl) .nil)))) ?_
          refine tr_ret ?_
          exact ends [_, _] [3500, 3501, 3502] (.cons (.cell rfl rfl Try.isAgg27 Try.sizeOf27 (nle rfl)) (.cons (.tmp rfl) .nil)) (.cons (.agg (.cons (.row (len := (pvF d.live).length) (xs := pvF d.live) rfl rfl) (.cons (.row (len := (pvF d.safe).length) (xs := pvF d.safe) rfl rfl) (.cons (.row (len := (pvD d.ops).length) (xs := pvD d.ops) rfl rfl) .nil))) (cl_cons (.sl _ _ (FlatP.clean (pvF_flat _))) (cl_cons (.sl _ _ (FlatP.clean (pvF_flat _))) (cl_cons (.sl _ _ (FlatP.clean (pvD_flat _))) cl_nil)))) (.cons (.one .v (.v _)) .nil)) (by decide) trivial
        · skip
          replace h4 : (filesOk ((doneF d.live op).1)) = true := bnot_f h4
          refine tr_skip ?_
          refine tr_seq ?_
          rw [show actF d op = (⟨(doneF d.live op).1, d.safe, d.ops ++ [op]⟩, 0) from act_4 h1 h2 (by omega) h4]
          refine tr_region rfl (.run [] [] rfl (st_load_box rfl rfl rfl Try.isAgg27 Try.sizeOf27 (nle rfl)) (.run [3700, 3701, 3702] [] rfl (st_call rfl 3700 (X := []) en55 rfl (.val nod) (.cons (.agg (.cons (.bor (.sl nod)) (.cons (.bor (.sl nod)) (.cons (.bor (.sl nod)) .nil)))) .nil) (by decide) all_nil .nil (l6Copy_con d (by assumption)) rfl rfl (nle rfl)) (.run [] [8] rfl (st_allocZ rfl 8 inf27 rfl (by decide) rfl (by decide)) (.run [] [] rfl (st_store_box rfl rfl rfl rfl rfl Try.sizeOf27 rfl (nle rfl)) .nil)))) ?_
          refine tr_seq ?_
          refine tr_wk (s' := mk [(3, .ptr 3 0), (4, .ptr 4 0), (6, .sl 1800 0 ((pvF ((doneF d.live op).1)).length)), (8, .ptr 8 0)] [(3, [.p none (.v (.int .i64 op.kind)), .p none (.v (.string op.name)), .p none (.v (.string op.dest)), .p none (.v (.string op.data))]), (4, [.nils, .nils, .nils]), (8, [.sl 3700 0 ((pvF d.live).length), .sl 3701 0 ((pvF d.safe).length), .sl 3702 0 ((pvD d.ops).length)])] [(1800, 2, pvF ((doneF d.live op).1)), (3700, 2, pvF d.live), (3701, 2, pvF d.safe), (3702, 4, pvD d.ops)]) ?_ ?_
          · exact wk_mk ⟨rfl, ⟨rfl, ⟨rfl, ⟨rfl, trivial⟩⟩⟩⟩ ⟨rfl, ⟨rfl, ⟨rfl, trivial⟩⟩⟩ ⟨rfl, ⟨rfl, ⟨rfl, ⟨rfl, trivial⟩⟩⟩⟩ rfl
          refine tr_region rfl (.run [] [] rfl (st_move rfl) (.run [] [] rfl (st_faddr_box rfl rfl Try.underlying27 rfl Try.sizeOf24 (by decide)) (.run [] [] rfl (st_store_box rfl rfl rfl rfl rfl Try.sizeOf24 rfl (nle rfl)) .nil))) ?_
          refine tr_seq ?_
          refine tr_region rfl (.run [] [] rfl (st_faddr_box rfl rfl Try.underlying27 rfl Try.sizeOf25 (by decide)) (.run [] [] rfl (st_load_box1 rfl rfl rfl Try.isAgg25 rfl) (.run [] [] rfl (st_load_box rfl rfl rfl Try.isAgg36 Try.sizeOf36 (nle rfl)) (.run [4300] [] rfl (st_buildSlice rfl 4300 Try.underlying25 inf36 (nle rfl) (by decide) rfl rfl rfl (.cons .v (.cons .v (.cons .v (.cons .v .nil)))) (by decide) rfl (by decide) rfl (by decide) rfl) (.run [3702] [] rfl (st_append rfl 3702 (ib := 3702) (len := ((pvD d.ops) ++ [[PV.v (.int .i64 op.kind), PV.v (.string op.name), PV.v (.string op.dest), PV.v (.string op.data)]]).length) rfl rfl (.row (len := (pvD d.ops).length) (xs := pvD d.ops) rfl rfl (.inl rfl)) (.give (len := 1) (xs := [[PV.v (.int .i64 op.kind), PV.v (.string op.name), PV.v (.string op.dest), PV.v (.string op.data)]]) rfl rfl) Try.underlying25 (sk Try.underlying25 rfl) inf36 rfl (by decide) (by decide) (by decide) List.length_append (by simp only [maxLen, List.length_append, List.length_map, List.length_cons, List.length_nil, List.length_take, List.length_drop, pvF_length, pvD_length]; omega) (by simp only [maxLen, List.length_append, List.length_map, List.length_cons, List.length_nil, List.length_take, List.length_drop, pvF_length, pvD_length]; omega)) (.run [] [] rfl (st_faddr_box rfl rfl Try.underlying27 rfl Try.sizeOf25 (by decide)) (.run [] [] rfl (st_store_box rfl rfl rfl rfl rfl Try.sizeOf25 rfl (nle rfl)) .nil))))))) ?_
          have hr5 : (pvD d.ops) ++ [[PV.v (.int .i64 op.kind), PV.v (.string op.name), PV.v (.string op.dest), PV.v (.string op.data)]] = pvD (d.ops ++ [op]) := by exact pvD_snoc d.ops op
          have hp6 : (some [.sl 1800 0 ((pvF ((doneF d.live op).1)).length), .sl 3701 0 ((pvF d.safe).length), .sl 3702 0 (((pvD d.ops) ++ [[PV.v (.int .i64 op.kind), PV.v (.string op.name), PV.v (.string op.dest), PV.v (.string op.data)]]).length)] : Option (List AV)) = some [.sl 1800 0 ((pvF ((doneF d.live op).1)).length), .sl 3701 0 ((pvF d.safe).length), .sl 3702 0 ((pvD (d.ops ++ [op])).length)] := by simp only [hr5]
          refine tr_wk (s' := mk [(4, .ptr 4 0), (8, .ptr 8 0)] [(4, [.nils, .nils, .nils]), (8, [.sl 1800 0 ((pvF ((doneF d.live op).1)).length), .sl 3701 0 ((pvF d.safe).length), .sl 3702 0 ((pvD (d.ops ++ [op])).length)])] [(1800, 2, pvF ((doneF d.live op).1)), (3701, 2, pvF d.safe), (3702, 4, pvD (d.ops ++ [op]))]) ?_ ?_
          · exact wk_mk ⟨rfl, ⟨rfl, trivial⟩⟩ ⟨rfl, ⟨hp6, trivial⟩⟩ ⟨rfl, ⟨rfl, ⟨(congrArg (fun x => some (4, x)) hr5), trivial⟩⟩⟩ rfl
          refine tr_seq ?_
          refine tr_region rfl (.run [] [] rfl (st_load_box rfl rfl rfl Try.isAgg27 Try.sizeOf27 (nle rfl)) (.run [] [] rfl (st_store_box rfl rfl rfl rfl rfl Try.sizeOf27 rfl (nle rfl)) (.run [] [] rfl (st_assign rfl) .nil))) ?_
          refine tr_ret ?_
          exact ends [_, _] [1800, 3701, 3702] (.cons (.cell rfl rfl Try.isAgg27 Try.sizeOf27 (nle rfl)) (.cons (.tmp rfl) .nil)) (.cons (.agg (.cons (.row (len := (pvF ((doneF d.live op).1)).length) (xs := pvF ((doneF d.live op).1)) rfl rfl) (.cons (.row (len := (pvF d.safe).length) (xs := pvF d.safe) rfl rfl) (.cons (.row (len := (pvD (d.ops ++ [op])).length) (xs := pvD (d.ops ++ [op])) rfl rfl) .nil))) (cl_cons (.sl _ _ (FlatP.clean (pvF_flat _))) (cl_cons (.sl _ _ (FlatP.clean (pvF_flat _))) (cl_cons (.sl _ _ (FlatP.clean (pvD_flat _))) cl_nil)))) (.cons (.one .v (.v _)) .nil)) (by decide) trivial
      · have h3' := h3
        replace h3' := of_decide_eq_true h3'
        refine tr_region rfl (.run [] [] rfl (st_faddr_box rfl rfl Try.underlying27 rfl Try.sizeOf25 (by decide)) (.run [] [] rfl (st_load_box1 rfl rfl rfl Try.isAgg25 rfl) (.run [] [] rfl (st_len_fro rfl rfl Try.underlying25) (.run [] [] rfl (st_eq (st_eql rfl rfl rfl) (by exact congrArg (fun b => AV.p none (.v (.bool b))) h3)) (.run [] [] rfl (st_move rfl) (.not rfl (.not rfl (.not rfl (.run [] [] rfl (st_pick (t := true) rfl rfl) .nil))))))))) ?_
        refine tr_if (t := true) rfl (fun _ => ?_) (fun h => nomatch h)
        refine tr_seq ?_
        rw [show actF d op = (d, 4) from act_3 h1 h2 (.inl (by omega))]
        refine tr_region rfl (.run [] [] rfl (st_load_box rfl rfl rfl Try.isAgg27 Try.sizeOf27 (nle rfl)) (.run [3500, 3501, 3502] [] rfl (st_call rfl 3500 (X := []) en55 rfl (.val nod) (.cons (.agg (.cons (.bor (.sl nod)) (.cons (.bor (.sl nod)) (.cons (.bor (.sl nod)) .nil)))) .nil) (by decide) all_nil .nil (l6Copy_con d (by assumption)) rfl rfl (nle rfl)) (.run [] [] rfl (st_store_box rfl rfl rfl rfl rfl Try.sizeOf27 rfl (nle rfl)) (.run [] [] rfl (st_assign rfl) .nil)))) ?_
        refine tr_ret ?_
        exact ends [_, _] [3500, 3501, 3502] (.cons (.cell rfl rfl Try.isAgg27 Try.sizeOf27 (nle rfl)) (.cons (.tmp rfl) .nil)) (.cons (.agg (.cons (.row (len := (pvF d.live).length) (xs := pvF d.live) rfl rfl) (.cons (.row (len := (pvF d.safe).length) (xs := pvF d.safe) rfl rfl) (.cons (.row (len := (pvD d.ops).length) (xs := pvD d.ops) rfl rfl) .nil))) (cl_cons (.sl _ _ (FlatP.clean (pvF_flat _))) (cl_cons (.sl _ _ (FlatP.clean (pvF_flat _))) (cl_cons (.sl _ _ (FlatP.clean (pvD_flat _))) cl_nil)))) (.cons (.one .v (.v _)) .nil)) (by decide) trivial
set_option maxRecDepth 1000000 in
set_option maxHeartbeats 2000000 in
theorem specDo_con (d : Dsk) (op : DOp) (hd : DB 900000000 d) (hop : ∀ op ∈ d.ops, op.data.size ≤ 900000000) (ho : op.data.size ≤ 900000000) : Con Try.prog 18 [.agg [PV.sl false 2 (pvF d.live), PV.sl false 2 (pvF d.safe), PV.sl false 4 (pvD d.ops)], .agg [PV.v (.int .i64 op.kind), PV.v (.string op.name), PV.v (.string op.dest), PV.v (.string op.data)]] [] [.agg [.sl true 2 (pvF (doF d op).1.live), .sl true 2 (pvF (doF d op).1.safe), .sl true 4 (pvD (doF d op).1.ops)], .one (.v (.int .i64 (doF d op).2))] := by
  refine con_of_tr Try.func18 rfl rfl rfl rfl ?_
  have hld := pvF_length d.live
  have hsd := pvF_length d.safe
  have hod := pvD_length d.ops
  refine tr_seq ?_
  refine tr_region rfl (.run [] [2] rfl (st_box rfl 2 rfl rfl (by decide) rfl (by decide)) (.run [] [3] rfl (st_box rfl 3 rfl rfl (by decide) rfl (by decide)) (.run [] [4] rfl (st_allocZ rfl 4 inf27 rfl (by decide) rfl (by decide)) (.run [] [] rfl (st_assign rfl) .nil)))) ?_
  refine tr_seq ?_
  refine tr_seq ?_
  refine tr_region rfl (.run [] [] rfl (st_load_box rfl rfl rfl Try.isAgg27 Try.sizeOf27 (nle rfl)) (.run [700] [] rfl (st_call rfl 700 (X := []) en12 rfl (.val nod) (.cons (.agg (.cons (.bor (.sl nod)) (.cons (.bor (.sl nod)) (.cons (.bor (.sl nod)) .nil)))) .nil) (by decide) all_nil .nil (specDiskOk_con d (by assumption) (by assumption)) rfl rfl (nle rfl)) (.run [] [] rfl (st_not (b := diskOk d) rfl rfl) .nil))) ?_
  refine tr_if (t := (!(diskOk d))) rfl (fun h1 => ?_) (fun h1 => ?_)
  · skip
    replace h1 : (diskOk d) = false := bnot_t h1
    refine tr_seq ?_
    rw [show doF d op = (dskZ, 1) by simp [doF, h1]]
    refine tr_region rfl (.run [] [] rfl (st_build (pl := [(0, 1), (1, 1), (2, 1)]) rfl Try.underlying27 inf27 (by kernel_rfl) rfl rfl) (.run [] [] rfl (st_store_box rfl rfl rfl rfl rfl Try.sizeOf27 rfl (nle rfl)) (.run [] [] rfl (st_assign rfl) .nil))) ?_
    refine tr_ret ?_
    exact ends [_, _] [] (.cons (.cell rfl rfl Try.isAgg27 Try.sizeOf27 (nle rfl)) (.cons (.tmp rfl) .nil)) (.cons (.agg (.cons (.nil _) (.cons (.nil _) (.cons (.nil _) .nil))) (cl_cons (.sl _ _ (fun _ h => nomatch h)) (cl_cons (.sl _ _ (fun _ h => nomatch h)) (cl_cons (.sl _ _ (fun _ h => nomatch h)) cl_nil)))) (.cons (.one .v (.v _)) .nil)) (by decide) trivial
  · skip
    replace h1 : (diskOk d) = true := bnot_f h1
    refine tr_skip ?_
    refine tr_seq ?_
    rw [show doF d op = actF d op by rw [doF, if_pos h1]]
    refine tr_region rfl (.run [] [] rfl (st_load_box rfl rfl rfl Try.isAgg27 Try.sizeOf27 (nle rfl)) (.run [] [] rfl (st_load_box rfl rfl rfl Try.isAgg36 Try.sizeOf36 (nle rfl)) (.run [1200, 1201, 1202, 1203] [] rfl (st_call rfl 1200 (X := []) en49 rfl (.val nod) (.cons (.agg (.cons (.bor (.sl nod)) (.cons (.bor (.sl nod)) (.cons (.bor (.sl nod)) .nil)))) (.cons (.agg (.cons (.bor .v) (.cons (.bor .v) (.cons (.bor .v) (.cons (.bor .v) .nil))))) .nil)) (by decide) all_nil .nil (l6Act_con d op (by assumption) (by first | assumption | (show (0:Nat) ≤ _; omega))) rfl rfl (nle rfl)) (.run [] [] rfl (st_extract rfl rfl rfl) (.run [] [] rfl (st_extract rfl rfl rfl) (.run [] [] rfl (st_store_box rfl rfl rfl rfl rfl Try.sizeOf27 rfl (nle rfl)) (.run [] [] rfl (st_assign rfl) .nil))))))) ?_
    refine tr_ret ?_
    exact ends [_, _] [1200, 1201, 1202] (.cons (.cell rfl rfl Try.isAgg27 Try.sizeOf27 (nle rfl)) (.cons (.tmp rfl) .nil)) (.cons (.agg (.cons (.row (len := (pvF ((actF d op).1.live)).length) (xs := pvF ((actF d op).1.live)) rfl rfl) (.cons (.row (len := (pvF ((actF d op).1.safe)).length) (xs := pvF ((actF d op).1.safe)) rfl rfl) (.cons (.row (len := (pvD ((actF d op).1.ops)).length) (xs := pvD ((actF d op).1.ops)) rfl rfl) .nil))) (cl_cons (.sl _ _ (FlatP.clean (pvF_flat _))) (cl_cons (.sl _ _ (FlatP.clean (pvF_flat _))) (cl_cons (.sl _ _ (FlatP.clean (pvD_flat _))) cl_nil)))) (.cons (.one .v (.v _)) .nil)) (by decide) trivial
set_option maxRecDepth 1000000 in
set_option maxHeartbeats 2000000 in
theorem specSync_con (d : Dsk) (hd : DB 900000000 d) (hop : ∀ op ∈ d.ops, op.data.size ≤ 900000000) : Con Try.prog 24 [.agg [PV.sl false 2 (pvF d.live), PV.sl false 2 (pvF d.safe), PV.sl false 4 (pvD d.ops)]] [] [.agg [.sl true 2 (pvF (syncF d).live), .sl true 2 (pvF (syncF d).safe), .sl true 4 (pvD (syncF d).ops)]] := by
  refine con_of_tr Try.func24 rfl rfl rfl rfl ?_
  have hld := pvF_length d.live
  have hsd := pvF_length d.safe
  have hod := pvD_length d.ops
  obtain ⟨hb1, hb2, hb3, hb4, hb5⟩ := id hd
  refine tr_seq ?_
  refine tr_region rfl (.run [] [1] rfl (st_box rfl 1 rfl rfl (by decide) rfl (by decide)) (.run [] [2] rfl (st_allocZ rfl 2 inf27 rfl (by decide) rfl (by decide)) .nil)) ?_
  refine tr_seq ?_
  refine tr_seq ?_
  refine tr_region rfl (.run [] [] rfl (st_load_box rfl rfl rfl Try.isAgg27 Try.sizeOf27 (nle rfl)) (.run [400] [] rfl (st_call rfl 400 (X := []) en12 rfl (.val nod) (.cons (.agg (.cons (.bor (.sl nod)) (.cons (.bor (.sl nod)) (.cons (.bor (.sl nod)) .nil)))) .nil) (by decide) all_nil .nil (specDiskOk_con d (by assumption) (by assumption)) rfl rfl (nle rfl)) (.run [] [] rfl (st_not (b := diskOk d) rfl rfl) .nil))) ?_
  refine tr_if (t := (!(diskOk d))) rfl (fun h1 => ?_) (fun h1 => ?_)
  · skip
    replace h1 : (diskOk d) = false := bnot_t h1
    refine tr_seq ?_
    rw [show syncF d = dskZ by simp [syncF, h1]]
    refine tr_region rfl (.run [] [] rfl (st_build (pl := [(0, 1), (1, 1), (2, 1)]) rfl Try.underlying27 inf27 (by kernel_rfl) rfl rfl) (.run [] [] rfl (st_store_box rfl rfl rfl rfl rfl Try.sizeOf27 rfl (nle rfl)) .nil)) ?_
    refine tr_ret ?_
    exact ends [_] [] (.cons (.cell rfl rfl Try.isAgg27 Try.sizeOf27 (nle rfl)) .nil) (.cons (.agg (.cons (.nil _) (.cons (.nil _) (.cons (.nil _) .nil))) (cl_cons (.sl _ _ (fun _ h => nomatch h)) (cl_cons (.sl _ _ (fun _ h => nomatch h)) (cl_cons (.sl _ _ (fun _ h => nomatch h)) cl_nil)))) .nil) (by decide) trivial
  · skip
    replace h1 : (diskOk d) = true := bnot_f h1
    refine tr_skip ?_
    refine tr_seq ?_
    rw [show syncF d = ⟨d.live, d.live, []⟩ by rw [syncF, if_pos h1]]
    refine tr_regionD mixed rfl (.run [700] [] rfl (st_buildSlice rfl 700 Try.underlying24 inf69 (nle rfl) (by decide) rfl rfl rfl .nil (by decide) rfl (by decide) rfl (by decide) rfl) (.run [] [] rfl (st_faddr_box rfl rfl Try.underlying27 rfl Try.sizeOf24 (by decide)) (.run [] [] rfl (st_load_box1 rfl rfl rfl Try.isAgg24 rfl) (.run [700] [] rfl (st_append rfl 700 (ib := 700) (len := ([] ++ (pvF d.live)).length) rfl rfl (.row (len := 0) (xs := []) rfl rfl (.inl rfl)) (.fro (pvF_flat _)) Try.underlying24 (sk Try.underlying24 rfl) inf69 rfl (by decide) (by decide) (by decide) List.length_append (by simp only [maxLen, List.length_append, List.length_map, List.length_cons, List.length_nil, List.length_take, List.length_drop, pvF_length, pvD_length]; omega) (by simp only [maxLen, List.length_append, List.length_map, List.length_cons, List.length_nil, List.length_take, List.length_drop, pvF_length, pvD_length]; omega)) (.run [1100] [] rfl (st_buildSlice rfl 1100 Try.underlying24 inf69 (nle rfl) (by decide) rfl rfl rfl .nil (by decide) rfl (by decide) rfl (by decide) rfl) (.run [] [] rfl (st_faddr_box rfl rfl Try.underlying27 rfl Try.sizeOf24 (by decide)) (.run [] [] rfl (st_load_box1 rfl rfl rfl Try.isAgg24 rfl) (.run [1100] [] rfl (st_append rfl 1100 (ib := 1100) (len := ([] ++ (pvF d.live)).length) rfl rfl (.row (len := 0) (xs := []) rfl rfl (.inl rfl)) (.fro (pvF_flat _)) Try.underlying24 (sk Try.underlying24 rfl) inf69 rfl (by decide) (by decide) (by decide) List.length_append (by simp only [maxLen, List.length_append, List.length_map, List.length_cons, List.length_nil, List.length_take, List.length_drop, pvF_length, pvD_length]; omega) (by simp only [maxLen, List.length_append, List.length_map, List.length_cons, List.length_nil, List.length_take, List.length_drop, pvF_length, pvD_length]; omega)) (.run [] [] rfl (st_build (pl := [(0, 1), (1, 1), (2, 1)]) rfl Try.underlying27 inf27 (by kernel_rfl) rfl rfl) (.run [] [] rfl (st_store_box rfl rfl rfl rfl rfl Try.sizeOf27 rfl (nle rfl)) .nil)))))))))) (by kernel_rfl) ?_
    have hr2 : [] ++ (pvF d.live) = pvF d.live := by exact List.nil_append _
    have hp3 : (some [.sl 700 0 (([] ++ (pvF d.live)).length), .sl 1100 0 (([] ++ (pvF d.live)).length), .nils] : Option (List AV)) = some [.sl 700 0 ((pvF d.live).length), .sl 1100 0 (([] ++ (pvF d.live)).length), .nils] := by simp only [hr2]
    refine tr_wk (s' := mk [(2, .ptr 2 0)] [(2, [.sl 700 0 ((pvF d.live).length), .sl 1100 0 (([] ++ (pvF d.live)).length), .nils])] [(700, 2, pvF d.live), (1100, 2, [] ++ (pvF d.live))]) ?_ ?_
    · exact wk_mk ⟨rfl, trivial⟩ ⟨hp3, trivial⟩ ⟨(congrArg (fun x => some (2, x)) hr2), ⟨rfl, trivial⟩⟩ rfl
    have hr4 : [] ++ (pvF d.live) = pvF d.live := by exact List.nil_append _
    have hp5 : (some [.sl 700 0 ((pvF d.live).length), .sl 1100 0 (([] ++ (pvF d.live)).length), .nils] : Option (List AV)) = some [.sl 700 0 ((pvF d.live).length), .sl 1100 0 ((pvF d.live).length), .nils] := by simp only [hr4]
    refine tr_wk (s' := mk [(2, .ptr 2 0)] [(2, [.sl 700 0 ((pvF d.live).length), .sl 1100 0 ((pvF d.live).length), .nils])] [(700, 2, pvF d.live), (1100, 2, pvF d.live)]) ?_ ?_
    · exact wk_mk ⟨rfl, trivial⟩ ⟨hp5, trivial⟩ ⟨rfl, ⟨(congrArg (fun x => some (2, x)) hr4), trivial⟩⟩ rfl
    refine tr_ret ?_
    exact ends [_] [700, 1100] (.cons (.cell rfl rfl Try.isAgg27 Try.sizeOf27 (nle rfl)) .nil) (.cons (.agg (.cons (.row (len := (pvF d.live).length) (xs := pvF d.live) rfl rfl) (.cons (.row (len := (pvF d.live).length) (xs := pvF d.live) rfl rfl) (.cons (.nil _) .nil))) (cl_cons (.sl _ _ (FlatP.clean (pvF_flat _))) (cl_cons (.sl _ _ (FlatP.clean (pvF_flat _))) (cl_cons (.sl _ _ (fun _ h => nomatch h)) cl_nil)))) .nil) (by decide) trivial
set_option maxRecDepth 1000000 in
set_option maxHeartbeats 2000000 in
theorem specReplace_con (d : Dsk) (name data : ByteArray) (hd : DB 900000000 d) (hop : ∀ op ∈ d.ops, op.data.size ≤ 900000000) (hnm : name.size ≤ 1048576) (hda : data.size ≤ 1048576) : Con Try.prog 22 [.agg [PV.sl false 2 (pvF d.live), PV.sl false 2 (pvF d.safe), PV.sl false 4 (pvD d.ops)], .one (PV.v (.string name)), .one (PV.v (.string data))] [] [.agg [.sl true 2 (pvF (replaceF d name data).1.live), .sl true 2 (pvF (replaceF d name data).1.safe), .sl true 4 (pvD (replaceF d name data).1.ops)], .one (.v (.int .i64 (replaceF d name data).2))] := by
  refine con_of_tr Try.func22 rfl rfl rfl rfl ?_
  have hld := pvF_length d.live
  have hsd := pvF_length d.safe
  have hod := pvD_length d.ops
  obtain ⟨hb1, hb2, hb3, hb4, hb5⟩ := id hd
  refine tr_seq ?_
  refine tr_region rfl (.run [] [3] rfl (st_box rfl 3 rfl rfl (by decide) rfl (by decide)) (.run [] [6] rfl (st_allocZ rfl 6 inf27 rfl (by decide) rfl (by decide)) (.run [] [] rfl (st_assign rfl) .nil))) ?_
  refine tr_seq ?_
  refine tr_seq ?_
  refine tr_region rfl (.run [] [] rfl (st_load_box rfl rfl rfl Try.isAgg27 Try.sizeOf27 (nle rfl)) (.run [1200] [] rfl (st_call rfl 1200 (X := []) en12 rfl (.val nod) (.cons (.agg (.cons (.bor (.sl nod)) (.cons (.bor (.sl nod)) (.cons (.bor (.sl nod)) .nil)))) .nil) (by decide) all_nil .nil (specDiskOk_con d (by assumption) (by assumption)) rfl rfl (nle rfl)) (.run [] [] rfl (st_not (b := diskOk d) rfl rfl) .nil))) ?_
  refine tr_if (t := (!(diskOk d))) rfl (fun h1 => ?_) (fun h1 => ?_)
  · skip
    replace h1 : (diskOk d) = false := bnot_t h1
    refine tr_seq ?_
    rw [show replaceF d name data = (dskZ, 1) by simp [replaceF, h1]]
    refine tr_region rfl (.run [] [] rfl (st_build (pl := [(0, 1), (1, 1), (2, 1)]) rfl Try.underlying27 inf27 (by kernel_rfl) rfl rfl) (.run [] [] rfl (st_store_box rfl rfl rfl rfl rfl Try.sizeOf27 rfl (nle rfl)) (.run [] [] rfl (st_assign rfl) .nil))) ?_
    refine tr_ret ?_
    exact ends [_, _] [] (.cons (.cell rfl rfl Try.isAgg27 Try.sizeOf27 (nle rfl)) (.cons (.tmp rfl) .nil)) (.cons (.agg (.cons (.nil _) (.cons (.nil _) (.cons (.nil _) .nil))) (cl_cons (.sl _ _ (fun _ h => nomatch h)) (cl_cons (.sl _ _ (fun _ h => nomatch h)) (cl_cons (.sl _ _ (fun _ h => nomatch h)) cl_nil)))) (.cons (.one .v (.v _)) .nil)) (by decide) trivial
  · skip
    replace h1 : (diskOk d) = true := bnot_f h1
    refine tr_skip ?_
    refine tr_seq ?_
    have hm0 : DB 1048576 d := (ok_db h1).up (by decide)
    have hxx : (opAp (name ++ newB) data).data.size ≤ 900000000 := Nat.le_trans hda (by decide)
    refine tr_region rfl (.run [] [] rfl (st_load_box rfl rfl rfl Try.isAgg27 Try.sizeOf27 (nle rfl)) (.run [] [8] rfl (st_allocZ rfl 8 inf27 rfl (by decide) rfl (by decide)) (.run [] [] rfl (st_store_box rfl rfl rfl rfl rfl Try.sizeOf27 rfl (nle rfl)) .nil))) ?_
    refine tr_seq ?_
    refine tr_region rfl (.run [] [] rfl (st_assign rfl) .nil) ?_
    refine tr_seq ?_
    refine tr_region rfl (.run [] [] rfl (st_move rfl) (.run [] [] rfl (st_eq (st_sadd rfl rfl rfl (by have hz : (⟨#[46, 110, 101, 119]⟩ : ByteArray).size = 4 := rfl; omega)) (rfl)) (.run [] [] rfl (st_assign rfl) .nil))) ?_
    refine tr_seq ?_
    refine tr_seq ?_
    refine tr_wk (s' := mk [(1, .p none (.v (.string name))), (2, .p none (.v (.string data))), (3, .ptr 3 0), (6, .ptr 6 0), (8, .ptr 8 0), (9, .p none (.v (.int .i64 0))), (10, .p none (.v (.string (name ++ newB))))] [(3, [.p none (.sl false 2 (pvF d.live)), .p none (.sl false 2 (pvF d.safe)), .p none (.sl false 4 (pvD d.ops))]), (6, [.nils, .nils, .nils]), (8, [.p none (.sl false 2 (pvF d.live)), .p none (.sl false 2 (pvF d.safe)), .p none (.sl false 4 (pvD d.ops))])] []) ?_ ?_
    · exact wk_mk ⟨rfl, ⟨rfl, ⟨rfl, ⟨rfl, ⟨rfl, ⟨rfl, ⟨rfl, trivial⟩⟩⟩⟩⟩⟩⟩ ⟨rfl, ⟨rfl, ⟨rfl, trivial⟩⟩⟩ trivial rfl
    refine tr_region rfl (.run [] [] rfl (st_faddr_box rfl rfl Try.underlying27 rfl Try.sizeOf24 (by decide)) (.run [] [] rfl (st_load_box1 rfl rfl rfl Try.isAgg24 rfl) (.run [] [] rfl (st_move rfl) (.run [2100] [] rfl (st_call rfl 2100 (X := []) en54 rfl (.val nod) (.cons (.one (.bor (.sl nod))) (.cons (.one (.bor .v)) .nil)) (by decide) all_nil .nil (l6At_con d.live (name ++ newB) (by omega)) rfl rfl (nle rfl)) (.run [] [] rfl (st_geq rfl rfl rfl) .nil))))) ?_
    refine tr_if (t := decide (0 ≤ (idxF (nameP (name ++ newB)) d.live))) rfl (fun h2 => ?_) (fun h2 => ?_)
    · skip
      replace h2 := of_decide_eq_true h2
      obtain ⟨s0, hs0⟩ : ∃ s, s = actF d (opRm (name ++ newB)) := ⟨_, rfl⟩
      have hms0 : DB 3145728 s0.1 := by rw [hs0]; exact act_db (m := 1048576) (by assumption) (by show (0:Nat) ≤ _; omega) (by decide)
      have hds0 : DB 900000000 s0.1 := hms0.up (by decide)
      have hls0 := pvF_length s0.1.live
      have hls02 := pvF_length s0.1.safe
      have hls03 := pvD_length s0.1.ops
      refine tr_region rfl (.run [] [] rfl (st_load_box rfl rfl rfl Try.isAgg27 Try.sizeOf27 (nle rfl)) (.run [] [] rfl (st_move rfl) (.run [] [] rfl (st_build (pl := [(0, 1), (1, 1), (2, 1), (3, 1)]) rfl Try.underlying36 inf36 (by kernel_rfl) rfl rfl) (.run [2700, 2701, 2702, 2703] [] rfl (st_call rfl 2700 (X := []) en49 rfl (.val nod) (.cons (.agg (.cons (.bor (.sl nod)) (.cons (.bor (.sl nod)) (.cons (.bor (.sl nod)) .nil)))) (.cons (.agg (.cons (.bor .v) (.cons (.bor .v) (.cons (.bor .v) (.cons (.bor .v) .nil))))) .nil)) (by decide) all_nil .nil ((act_named hs0 (l6Act_con d (opRm (name ++ newB)) (by assumption) (by first | assumption | (show (0:Nat) ≤ _; omega))))) rfl rfl (nle rfl)) (.run [] [] rfl (st_move rfl) (.run [] [] rfl (st_extract rfl rfl rfl) (.run [] [] rfl (st_extract rfl rfl rfl) (.run [] [] rfl (st_store_box rfl rfl rfl rfl rfl Try.sizeOf27 rfl (nle rfl)) (.run [] [] rfl (st_assign rfl) .nil))))))))) ?_
      refine tr_seq ?_
      refine tr_seq ?_
      refine tr_region rfl (.run [] [] rfl (st_move rfl) (.run [] [] rfl (st_eql rfl rfl rfl) .nil)) ?_
      refine tr_if (t := decide (s0.2 = 0)) rfl (fun h3 => ?_) (fun h3 => ?_)
      · skip
        replace h3 := of_decide_eq_true h3
        obtain ⟨s1, hs1⟩ : ∃ s, s = actF s0.1 (opAp (name ++ newB) data) := ⟨_, rfl⟩
        have hms1 : DB 9437184 s1.1 := by rw [hs1]; exact act_db (m := 3145728) (by assumption) (by show data.size ≤ _; omega) (by decide)
        have hds1 : DB 900000000 s1.1 := hms1.up (by decide)
        have hls1 := pvF_length s1.1.live
        have hls12 := pvF_length s1.1.safe
        have hls13 := pvD_length s1.1.ops
        refine tr_wk (s' := mk [(1, .p none (.v (.string name))), (2, .p none (.v (.string data))), (3, .ptr 3 0), (6, .ptr 6 0), (8, .ptr 8 0), (10, .p none (.v (.string (name ++ newB))))] [(3, [.p none (.sl false 2 (pvF d.live)), .p none (.sl false 2 (pvF d.safe)), .p none (.sl false 4 (pvD d.ops))]), (6, [.nils, .nils, .nils]), (8, [.sl 2700 0 ((pvF s0.1.live).length), .sl 2701 0 ((pvF s0.1.safe).length), .sl 2702 0 ((pvD s0.1.ops).length)])] [(2700, 2, pvF s0.1.live), (2701, 2, pvF s0.1.safe), (2702, 4, pvD s0.1.ops)]) ?_ ?_
        · exact wk_mk ⟨rfl, ⟨rfl, ⟨rfl, ⟨rfl, ⟨rfl, ⟨rfl, trivial⟩⟩⟩⟩⟩⟩ ⟨rfl, ⟨rfl, ⟨rfl, trivial⟩⟩⟩ ⟨rfl, ⟨rfl, ⟨rfl, trivial⟩⟩⟩ rfl
        refine tr_region rfl (.run [] [] rfl (st_load_box rfl rfl rfl Try.isAgg27 Try.sizeOf27 (nle rfl)) (.run [] [] rfl (st_move rfl) (.run [] [] rfl (st_move rfl) (.run [] [] rfl (st_build (pl := [(0, 1), (1, 1), (2, 1), (3, 1)]) rfl Try.underlying36 inf36 (by kernel_rfl) rfl rfl) (.run [2700, 2701, 2702, 3700, 3701, 3702, 3703] [] rfl (st_call rfl 3700 (X := []) en49 rfl (.val nod) (.cons (.agg (.cons (.bor (.all (len := (pvF s0.1.live).length) (xs := pvF s0.1.live) rfl rfl (by decide))) (.cons (.bor (.all (len := (pvF s0.1.safe).length) (xs := pvF s0.1.safe) rfl rfl (by decide))) (.cons (.bor (.all (len := (pvD s0.1.ops).length) (xs := pvD s0.1.ops) rfl rfl (by decide))) .nil)))) (.cons (.agg (.cons (.bor .v) (.cons (.bor .v) (.cons (.bor .v) (.cons (.bor .v) .nil))))) .nil)) (by decide) all_nil .nil ((act_named hs1 (l6Act_con s0.1 (opAp (name ++ newB) data) (by assumption) (by first | assumption | (show (0:Nat) ≤ _; omega))))) rfl rfl (nle rfl)) (.run [] [] rfl (st_move rfl) (.run [] [] rfl (st_extract rfl rfl rfl) (.run [] [] rfl (st_extract rfl rfl rfl) (.run [] [] rfl (st_store_box rfl rfl rfl rfl rfl Try.sizeOf27 rfl (nle rfl)) (.run [] [] rfl (st_assign rfl) .nil)))))))))) ?_
        refine tr_seq ?_
        refine tr_seq ?_
        refine tr_region rfl (.run [] [] rfl (st_move rfl) (.run [] [] rfl (st_eql rfl rfl rfl) .nil)) ?_
        refine tr_if (t := decide (s1.2 = 0)) rfl (fun h4 => ?_) (fun h4 => ?_)
        · skip
          replace h4 := of_decide_eq_true h4
          obtain ⟨s2, hs2⟩ : ∃ s, s = actF s1.1 (opMv (name ++ newB) name) := ⟨_, rfl⟩
          have hms2 : DB 28311552 s2.1 := by rw [hs2]; exact act_db (m := 9437184) (by assumption) (by show (0:Nat) ≤ _; omega) (by decide)
          have hds2 : DB 900000000 s2.1 := hms2.up (by decide)
          have hls2 := pvF_length s2.1.live
          have hls22 := pvF_length s2.1.safe
          have hls23 := pvD_length s2.1.ops
          refine tr_wk (s' := mk [(1, .p none (.v (.string name))), (3, .ptr 3 0), (6, .ptr 6 0), (8, .ptr 8 0), (10, .p none (.v (.string (name ++ newB))))] [(3, [.p none (.sl false 2 (pvF d.live)), .p none (.sl false 2 (pvF d.safe)), .p none (.sl false 4 (pvD d.ops))]), (6, [.nils, .nils, .nils]), (8, [.sl 3700 0 ((pvF s1.1.live).length), .sl 3701 0 ((pvF s1.1.safe).length), .sl 3702 0 ((pvD s1.1.ops).length)])] [(3700, 2, pvF s1.1.live), (3701, 2, pvF s1.1.safe), (3702, 4, pvD s1.1.ops)]) ?_ ?_
          · exact wk_mk ⟨rfl, ⟨rfl, ⟨rfl, ⟨rfl, ⟨rfl, trivial⟩⟩⟩⟩⟩ ⟨rfl, ⟨rfl, ⟨rfl, trivial⟩⟩⟩ ⟨rfl, ⟨rfl, ⟨rfl, trivial⟩⟩⟩ rfl
          refine tr_region rfl (.run [] [] rfl (st_load_box rfl rfl rfl Try.isAgg27 Try.sizeOf27 (nle rfl)) (.run [] [] rfl (st_move rfl) (.run [] [] rfl (st_move rfl) (.run [] [] rfl (st_build (pl := [(0, 1), (1, 1), (2, 1), (3, 1)]) rfl Try.underlying36 inf36 (by kernel_rfl) rfl rfl) (.run [3700, 3701, 3702, 4700, 4701, 4702, 4703] [] rfl (st_call rfl 4700 (X := []) en49 rfl (.val nod) (.cons (.agg (.cons (.bor (.all (len := (pvF s1.1.live).length) (xs := pvF s1.1.live) rfl rfl (by decide))) (.cons (.bor (.all (len := (pvF s1.1.safe).length) (xs := pvF s1.1.safe) rfl rfl (by decide))) (.cons (.bor (.all (len := (pvD s1.1.ops).length) (xs := pvD s1.1.ops) rfl rfl (by decide))) .nil)))) (.cons (.agg (.cons (.bor .v) (.cons (.bor .v) (.cons (.bor .v) (.cons (.bor .v) .nil))))) .nil)) (by decide) all_nil .nil ((act_named hs2 (l6Act_con s1.1 (opMv (name ++ newB) name) (by assumption) (by first | assumption | (show (0:Nat) ≤ _; omega))))) rfl rfl (nle rfl)) (.run [] [] rfl (st_move rfl) (.run [] [] rfl (st_extract rfl rfl rfl) (.run [] [] rfl (st_extract rfl rfl rfl) (.run [] [] rfl (st_store_box rfl rfl rfl rfl rfl Try.sizeOf27 rfl (nle rfl)) (.run [] [] rfl (st_assign rfl) .nil)))))))))) ?_
          refine tr_seq ?_
          refine tr_seq ?_
          refine tr_region rfl (.run [] [] rfl (st_move rfl) (.run [] [] rfl (st_neq rfl rfl rfl) .nil)) ?_
          refine tr_if (t := (!(decide (s2.2 = 0)))) rfl (fun h5 => ?_) (fun h5 => ?_)
          · skip
            replace h5 : ¬ (s2.2 = 0) := of_decide_eq_false (bnot_t h5)
            refine tr_seq ?_
            have hrun := repl_run (data := data) (s0 := s0) (s1 := s1) (s2 := s2) h1 ((rm0_yes (has_yes h2)).trans hs0.symm) ((go1_yes h3).trans hs1.symm) ((go1_yes h4).trans hs2.symm)
            rw [if_neg h5] at hrun
            rw [hrun]
            refine tr_wk (s' := mk [(3, .ptr 3 0), (6, .ptr 6 0), (9, .p none (.v (.int .i64 s2.2)))] [(3, [.p none (.sl false 2 (pvF d.live)), .p none (.sl false 2 (pvF d.safe)), .p none (.sl false 4 (pvD d.ops))]), (6, [.nils, .nils, .nils])] []) ?_ ?_
            · exact wk_mk ⟨rfl, ⟨rfl, ⟨rfl, trivial⟩⟩⟩ ⟨rfl, ⟨rfl, trivial⟩⟩ trivial rfl
            refine tr_region rfl (.run [] [] rfl (st_load_box rfl rfl rfl Try.isAgg27 Try.sizeOf27 (nle rfl)) (.run [5300, 5301, 5302] [] rfl (st_call rfl 5300 (X := []) en55 rfl (.val nod) (.cons (.agg (.cons (.bor (.sl nod)) (.cons (.bor (.sl nod)) (.cons (.bor (.sl nod)) .nil)))) .nil) (by decide) all_nil .nil (l6Copy_con d (by assumption)) rfl rfl (nle rfl)) (.run [] [] rfl (st_move rfl) (.run [] [] rfl (st_store_box rfl rfl rfl rfl rfl Try.sizeOf27 rfl (nle rfl)) (.run [] [] rfl (st_assign rfl) .nil))))) ?_
            refine tr_ret ?_
            exact ends [_, _] [5300, 5301, 5302] (.cons (.cell rfl rfl Try.isAgg27 Try.sizeOf27 (nle rfl)) (.cons (.tmp rfl) .nil)) (.cons (.agg (.cons (.row (len := (pvF d.live).length) (xs := pvF d.live) rfl rfl) (.cons (.row (len := (pvF d.safe).length) (xs := pvF d.safe) rfl rfl) (.cons (.row (len := (pvD d.ops).length) (xs := pvD d.ops) rfl rfl) .nil))) (cl_cons (.sl _ _ (FlatP.clean (pvF_flat _))) (cl_cons (.sl _ _ (FlatP.clean (pvF_flat _))) (cl_cons (.sl _ _ (FlatP.clean (pvD_flat _))) cl_nil)))) (.cons (.one .v (.v _)) .nil)) (by decide) trivial
          · skip
            replace h5 : s2.2 = 0 := of_decide_eq_true (bnot_f h5)
            refine tr_skip ?_
            refine tr_seq ?_
            have hrun := repl_run (data := data) (s0 := s0) (s1 := s1) (s2 := s2) h1 ((rm0_yes (has_yes h2)).trans hs0.symm) ((go1_yes h3).trans hs1.symm) ((go1_yes h4).trans hs2.symm)
            rw [if_pos h5] at hrun
            rw [hrun]
            refine tr_region rfl (.run [] [] rfl (st_load_box rfl rfl rfl Try.isAgg27 Try.sizeOf27 (nle rfl)) (.run [4700, 4701, 4702, 5600, 5601, 5602] [] rfl (st_call rfl 5600 (X := []) en55 rfl (.val nod) (.cons (.agg (.cons (.bor (.all (len := (pvF s2.1.live).length) (xs := pvF s2.1.live) rfl rfl (by decide))) (.cons (.bor (.all (len := (pvF s2.1.safe).length) (xs := pvF s2.1.safe) rfl rfl (by decide))) (.cons (.bor (.all (len := (pvD s2.1.ops).length) (xs := pvD s2.1.ops) rfl rfl (by decide))) .nil)))) .nil) (by decide) all_nil .nil (l6Copy_con s2.1 (by assumption)) rfl rfl (nle rfl)) (.run [] [] rfl (st_store_box rfl rfl rfl rfl rfl Try.sizeOf27 rfl (nle rfl)) (.run [] [] rfl (st_assign rfl) .nil)))) ?_
            refine tr_ret ?_
            exact ends [_, _] [5600, 5601, 5602] (.cons (.cell rfl rfl Try.isAgg27 Try.sizeOf27 (nle rfl)) (.cons (.tmp rfl) .nil)) (.cons (.agg (.cons (.row (len := (pvF s2.1.live).length) (xs := pvF s2.1.live) rfl rfl) (.cons (.row (len := (pvF s2.1.safe).length) (xs := pvF s2.1.safe) rfl rfl) (.cons (.row (len := (pvD s2.1.ops).length) (xs := pvD s2.1.ops) rfl rfl) .nil))) (cl_cons (.sl _ _ (FlatP.clean (pvF_flat _))) (cl_cons (.sl _ _ (FlatP.clean (pvF_flat _))) (cl_cons (.sl _ _ (FlatP.clean (pvD_flat _))) cl_nil)))) (.cons (.one .v (.v _)) .nil)) (by decide) trivial
        · skip
          replace h4 := of_decide_eq_false h4
          refine tr_skip ?_
          refine tr_seq ?_
          refine tr_seq ?_
          refine tr_region rfl (.run [] [] rfl (st_move rfl) (.run [] [] rfl (st_neq rfl rfl rfl) .nil)) ?_
          refine tr_if (t := (!(decide (s1.2 = 0)))) rfl (fun h6 => ?_) (fun h6 => ?_)
          · skip
            replace h6 : ¬ (s1.2 = 0) := of_decide_eq_false (bnot_t h6)
            refine tr_seq ?_
            have hrun := repl_run (data := data) (s0 := s0) (s1 := s1) (s2 := s1) h1 ((rm0_yes (has_yes h2)).trans hs0.symm) ((go1_yes h3).trans hs1.symm) (go1_no h6)
            rw [if_neg h6] at hrun
            rw [hrun]
            refine tr_wk (s' := mk [(3, .ptr 3 0), (6, .ptr 6 0), (9, .p none (.v (.int .i64 s1.2)))] [(3, [.p none (.sl false 2 (pvF d.live)), .p none (.sl false 2 (pvF d.safe)), .p none (.sl false 4 (pvD d.ops))]), (6, [.nils, .nils, .nils])] []) ?_ ?_
            · exact wk_mk ⟨rfl, ⟨rfl, ⟨rfl, trivial⟩⟩⟩ ⟨rfl, ⟨rfl, trivial⟩⟩ trivial rfl
            refine tr_region rfl (.run [] [] rfl (st_load_box rfl rfl rfl Try.isAgg27 Try.sizeOf27 (nle rfl)) (.run [5300, 5301, 5302] [] rfl (st_call rfl 5300 (X := []) en55 rfl (.val nod) (.cons (.agg (.cons (.bor (.sl nod)) (.cons (.bor (.sl nod)) (.cons (.bor (.sl nod)) .nil)))) .nil) (by decide) all_nil .nil (l6Copy_con d (by assumption)) rfl rfl (nle rfl)) (.run [] [] rfl (st_move rfl) (.run [] [] rfl (st_store_box rfl rfl rfl rfl rfl Try.sizeOf27 rfl (nle rfl)) (.run [] [] rfl (st_assign rfl) .nil))))) ?_
            refine tr_ret ?_
            exact ends [_, _] [5300, 5301, 5302] (.cons (.cell rfl rfl Try.isAgg27 Try.sizeOf27 (nle rfl)) (.cons (.tmp rfl) .nil)) (.cons (.agg (.cons (.row (len := (pvF d.live).length) (xs := pvF d.live) rfl rfl) (.cons (.row (len := (pvF d.safe).length) (xs := pvF d.safe) rfl rfl) (.cons (.row (len := (pvD d.ops).length) (xs := pvD d.ops) rfl rfl) .nil))) (cl_cons (.sl _ _ (FlatP.clean (pvF_flat _))) (cl_cons (.sl _ _ (FlatP.clean (pvF_flat _))) (cl_cons (.sl _ _ (FlatP.clean (pvD_flat _))) cl_nil)))) (.cons (.one .v (.v _)) .nil)) (by decide) trivial
          · skip
            replace h6 : s1.2 = 0 := of_decide_eq_true (bnot_f h6)
            exact absurd h6 h4
      · skip
        replace h3 := of_decide_eq_false h3
        refine tr_skip ?_
        refine tr_seq ?_
        refine tr_seq ?_
        refine tr_wk (s' := mk [(1, .p none (.v (.string name))), (3, .ptr 3 0), (6, .ptr 6 0), (8, .ptr 8 0), (9, .p none (.v (.int .i64 s0.2))), (10, .p none (.v (.string (name ++ newB))))] [(3, [.p none (.sl false 2 (pvF d.live)), .p none (.sl false 2 (pvF d.safe)), .p none (.sl false 4 (pvD d.ops))]), (6, [.nils, .nils, .nils]), (8, [.sl 2700 0 ((pvF s0.1.live).length), .sl 2701 0 ((pvF s0.1.safe).length), .sl 2702 0 ((pvD s0.1.ops).length)])] [(2700, 2, pvF s0.1.live), (2701, 2, pvF s0.1.safe), (2702, 4, pvD s0.1.ops)]) ?_ ?_
        · exact wk_mk ⟨rfl, ⟨rfl, ⟨rfl, ⟨rfl, ⟨rfl, ⟨rfl, trivial⟩⟩⟩⟩⟩⟩ ⟨rfl, ⟨rfl, ⟨rfl, trivial⟩⟩⟩ ⟨rfl, ⟨rfl, ⟨rfl, trivial⟩⟩⟩ rfl
        refine tr_region rfl (.run [] [] rfl (st_move rfl) (.run [] [] rfl (st_eql rfl rfl rfl) .nil)) ?_
        refine tr_if (t := decide (s0.2 = 0)) rfl (fun h7 => ?_) (fun h7 => ?_)
        · skip
          replace h7 := of_decide_eq_true h7
          exact absurd h7 h3
        · skip
          replace h7 := of_decide_eq_false h7
          refine tr_skip ?_
          refine tr_seq ?_
          refine tr_seq ?_
          refine tr_region rfl (.run [] [] rfl (st_move rfl) (.run [] [] rfl (st_neq rfl rfl rfl) .nil)) ?_
          refine tr_if (t := (!(decide (s0.2 = 0)))) rfl (fun h8 => ?_) (fun h8 => ?_)
          · skip
            replace h8 : ¬ (s0.2 = 0) := of_decide_eq_false (bnot_t h8)
            refine tr_seq ?_
            have hrun := repl_run (data := data) (s0 := s0) (s1 := s0) (s2 := s0) h1 ((rm0_yes (has_yes h2)).trans hs0.symm) (go1_no h8) (go1_no h8)
            rw [if_neg h8] at hrun
            rw [hrun]
            refine tr_region rfl (.run [] [] rfl (st_load_box rfl rfl rfl Try.isAgg27 Try.sizeOf27 (nle rfl)) (.run [5300, 5301, 5302] [] rfl (st_call rfl 5300 (X := []) en55 rfl (.val nod) (.cons (.agg (.cons (.bor (.sl nod)) (.cons (.bor (.sl nod)) (.cons (.bor (.sl nod)) .nil)))) .nil) (by decide) all_nil .nil (l6Copy_con d (by assumption)) rfl rfl (nle rfl)) (.run [] [] rfl (st_move rfl) (.run [] [] rfl (st_store_box rfl rfl rfl rfl rfl Try.sizeOf27 rfl (nle rfl)) (.run [] [] rfl (st_assign rfl) .nil))))) ?_
            refine tr_ret ?_
            exact ends [_, _] [5300, 5301, 5302] (.cons (.cell rfl rfl Try.isAgg27 Try.sizeOf27 (nle rfl)) (.cons (.tmp rfl) .nil)) (.cons (.agg (.cons (.row (len := (pvF d.live).length) (xs := pvF d.live) rfl rfl) (.cons (.row (len := (pvF d.safe).length) (xs := pvF d.safe) rfl rfl) (.cons (.row (len := (pvD d.ops).length) (xs := pvD d.ops) rfl rfl) .nil))) (cl_cons (.sl _ _ (FlatP.clean (pvF_flat _))) (cl_cons (.sl _ _ (FlatP.clean (pvF_flat _))) (cl_cons (.sl _ _ (FlatP.clean (pvD_flat _))) cl_nil)))) (.cons (.one .v (.v _)) .nil)) (by decide) trivial
          · skip
            replace h8 : s0.2 = 0 := of_decide_eq_true (bnot_f h8)
            exact absurd h8 h3
    · skip
      replace h2 := of_decide_eq_false h2
      refine tr_skip ?_
      refine tr_seq ?_
      refine tr_seq ?_
      refine tr_region rfl (.run [] [] rfl (st_move rfl) (.run [] [] rfl (st_eq (st_eql rfl rfl rfl) (bool_eq (decide_eq_true (by simp)))) .nil)) ?_
      refine tr_if (t := true) rfl (fun _ => ?_) (fun h => nomatch h)
      obtain ⟨s1, hs1⟩ : ∃ s, s = actF d (opAp (name ++ newB) data) := ⟨_, rfl⟩
      have hms1 : DB 3145728 s1.1 := by rw [hs1]; exact act_db (m := 1048576) (by assumption) (by show data.size ≤ _; omega) (by decide)
      have hds1 : DB 900000000 s1.1 := hms1.up (by decide)
      have hls1 := pvF_length s1.1.live
      have hls12 := pvF_length s1.1.safe
      have hls13 := pvD_length s1.1.ops
      refine tr_wk (s' := mk [(1, .p none (.v (.string name))), (2, .p none (.v (.string data))), (3, .ptr 3 0), (6, .ptr 6 0), (8, .ptr 8 0), (10, .p none (.v (.string (name ++ newB))))] [(3, [.p none (.sl false 2 (pvF d.live)), .p none (.sl false 2 (pvF d.safe)), .p none (.sl false 4 (pvD d.ops))]), (6, [.nils, .nils, .nils]), (8, [.p none (.sl false 2 (pvF d.live)), .p none (.sl false 2 (pvF d.safe)), .p none (.sl false 4 (pvD d.ops))])] []) ?_ ?_
      · exact wk_mk ⟨rfl, ⟨rfl, ⟨rfl, ⟨rfl, ⟨rfl, ⟨rfl, trivial⟩⟩⟩⟩⟩⟩ ⟨rfl, ⟨rfl, ⟨rfl, trivial⟩⟩⟩ trivial rfl
      refine tr_region rfl (.run [] [] rfl (st_load_box rfl rfl rfl Try.isAgg27 Try.sizeOf27 (nle rfl)) (.run [] [] rfl (st_move rfl) (.run [] [] rfl (st_move rfl) (.run [] [] rfl (st_build (pl := [(0, 1), (1, 1), (2, 1), (3, 1)]) rfl Try.underlying36 inf36 (by kernel_rfl) rfl rfl) (.run [3700, 3701, 3702, 3703] [] rfl (st_call rfl 3700 (X := []) en49 rfl (.val nod) (.cons (.agg (.cons (.bor (.sl nod)) (.cons (.bor (.sl nod)) (.cons (.bor (.sl nod)) .nil)))) (.cons (.agg (.cons (.bor .v) (.cons (.bor .v) (.cons (.bor .v) (.cons (.bor .v) .nil))))) .nil)) (by decide) all_nil .nil ((act_named hs1 (l6Act_con d (opAp (name ++ newB) data) (by assumption) (by first | assumption | (show (0:Nat) ≤ _; omega))))) rfl rfl (nle rfl)) (.run [] [] rfl (st_move rfl) (.run [] [] rfl (st_extract rfl rfl rfl) (.run [] [] rfl (st_extract rfl rfl rfl) (.run [] [] rfl (st_store_box rfl rfl rfl rfl rfl Try.sizeOf27 rfl (nle rfl)) (.run [] [] rfl (st_assign rfl) .nil)))))))))) ?_
      refine tr_seq ?_
      refine tr_seq ?_
      refine tr_region rfl (.run [] [] rfl (st_move rfl) (.run [] [] rfl (st_eql rfl rfl rfl) .nil)) ?_
      refine tr_if (t := decide (s1.2 = 0)) rfl (fun h9 => ?_) (fun h9 => ?_)
      · skip
        replace h9 := of_decide_eq_true h9
        obtain ⟨s2, hs2⟩ : ∃ s, s = actF s1.1 (opMv (name ++ newB) name) := ⟨_, rfl⟩
        have hms2 : DB 9437184 s2.1 := by rw [hs2]; exact act_db (m := 3145728) (by assumption) (by show (0:Nat) ≤ _; omega) (by decide)
        have hds2 : DB 900000000 s2.1 := hms2.up (by decide)
        have hls2 := pvF_length s2.1.live
        have hls22 := pvF_length s2.1.safe
        have hls23 := pvD_length s2.1.ops
        refine tr_wk (s' := mk [(1, .p none (.v (.string name))), (3, .ptr 3 0), (6, .ptr 6 0), (8, .ptr 8 0), (10, .p none (.v (.string (name ++ newB))))] [(3, [.p none (.sl false 2 (pvF d.live)), .p none (.sl false 2 (pvF d.safe)), .p none (.sl false 4 (pvD d.ops))]), (6, [.nils, .nils, .nils]), (8, [.sl 3700 0 ((pvF s1.1.live).length), .sl 3701 0 ((pvF s1.1.safe).length), .sl 3702 0 ((pvD s1.1.ops).length)])] [(3700, 2, pvF s1.1.live), (3701, 2, pvF s1.1.safe), (3702, 4, pvD s1.1.ops)]) ?_ ?_
        · exact wk_mk ⟨rfl, ⟨rfl, ⟨rfl, ⟨rfl, ⟨rfl, trivial⟩⟩⟩⟩⟩ ⟨rfl, ⟨rfl, ⟨rfl, trivial⟩⟩⟩ ⟨rfl, ⟨rfl, ⟨rfl, trivial⟩⟩⟩ rfl
        refine tr_region rfl (.run [] [] rfl (st_load_box rfl rfl rfl Try.isAgg27 Try.sizeOf27 (nle rfl)) (.run [] [] rfl (st_move rfl) (.run [] [] rfl (st_move rfl) (.run [] [] rfl (st_build (pl := [(0, 1), (1, 1), (2, 1), (3, 1)]) rfl Try.underlying36 inf36 (by kernel_rfl) rfl rfl) (.run [3700, 3701, 3702, 4700, 4701, 4702, 4703] [] rfl (st_call rfl 4700 (X := []) en49 rfl (.val nod) (.cons (.agg (.cons (.bor (.all (len := (pvF s1.1.live).length) (xs := pvF s1.1.live) rfl rfl (by decide))) (.cons (.bor (.all (len := (pvF s1.1.safe).length) (xs := pvF s1.1.safe) rfl rfl (by decide))) (.cons (.bor (.all (len := (pvD s1.1.ops).length) (xs := pvD s1.1.ops) rfl rfl (by decide))) .nil)))) (.cons (.agg (.cons (.bor .v) (.cons (.bor .v) (.cons (.bor .v) (.cons (.bor .v) .nil))))) .nil)) (by decide) all_nil .nil ((act_named hs2 (l6Act_con s1.1 (opMv (name ++ newB) name) (by assumption) (by first | assumption | (show (0:Nat) ≤ _; omega))))) rfl rfl (nle rfl)) (.run [] [] rfl (st_move rfl) (.run [] [] rfl (st_extract rfl rfl rfl) (.run [] [] rfl (st_extract rfl rfl rfl) (.run [] [] rfl (st_store_box rfl rfl rfl rfl rfl Try.sizeOf27 rfl (nle rfl)) (.run [] [] rfl (st_assign rfl) .nil)))))))))) ?_
        refine tr_seq ?_
        refine tr_seq ?_
        refine tr_region rfl (.run [] [] rfl (st_move rfl) (.run [] [] rfl (st_neq rfl rfl rfl) .nil)) ?_
        refine tr_if (t := (!(decide (s2.2 = 0)))) rfl (fun h10 => ?_) (fun h10 => ?_)
        · skip
          replace h10 : ¬ (s2.2 = 0) := of_decide_eq_false (bnot_t h10)
          refine tr_seq ?_
          have hrun := repl_run (data := data) (s0 := (d, 0)) (s1 := s1) (s2 := s2) h1 (rm0_no (has_no h2)) ((go1_yes rfl).trans hs1.symm) ((go1_yes h9).trans hs2.symm)
          rw [if_neg h10] at hrun
          rw [hrun]
          refine tr_wk (s' := mk [(3, .ptr 3 0), (6, .ptr 6 0), (9, .p none (.v (.int .i64 s2.2)))] [(3, [.p none (.sl false 2 (pvF d.live)), .p none (.sl false 2 (pvF d.safe)), .p none (.sl false 4 (pvD d.ops))]), (6, [.nils, .nils, .nils])] []) ?_ ?_
          · exact wk_mk ⟨rfl, ⟨rfl, ⟨rfl, trivial⟩⟩⟩ ⟨rfl, ⟨rfl, trivial⟩⟩ trivial rfl
          refine tr_region rfl (.run [] [] rfl (st_load_box rfl rfl rfl Try.isAgg27 Try.sizeOf27 (nle rfl)) (.run [5300, 5301, 5302] [] rfl (st_call rfl 5300 (X := []) en55 rfl (.val nod) (.cons (.agg (.cons (.bor (.sl nod)) (.cons (.bor (.sl nod)) (.cons (.bor (.sl nod)) .nil)))) .nil) (by decide) all_nil .nil (l6Copy_con d (by assumption)) rfl rfl (nle rfl)) (.run [] [] rfl (st_move rfl) (.run [] [] rfl (st_store_box rfl rfl rfl rfl rfl Try.sizeOf27 rfl (nle rfl)) (.run [] [] rfl (st_assign rfl) .nil))))) ?_
          refine tr_ret ?_
          exact ends [_, _] [5300, 5301, 5302] (.cons (.cell rfl rfl Try.isAgg27 Try.sizeOf27 (nle rfl)) (.cons (.tmp rfl) .nil)) (.cons (.agg (.cons (.row (len := (pvF d.live).length) (xs := pvF d.live) rfl rfl) (.cons (.row (len := (pvF d.safe).length) (xs := pvF d.safe) rfl rfl) (.cons (.row (len := (pvD d.ops).length) (xs := pvD d.ops) rfl rfl) .nil))) (cl_cons (.sl _ _ (FlatP.clean (pvF_flat _))) (cl_cons (.sl _ _ (FlatP.clean (pvF_flat _))) (cl_cons (.sl _ _ (FlatP.clean (pvD_flat _))) cl_nil)))) (.cons (.one .v (.v _)) .nil)) (by decide) trivial
        · skip
          replace h10 : s2.2 = 0 := of_decide_eq_true (bnot_f h10)
          refine tr_skip ?_
          refine tr_seq ?_
          have hrun := repl_run (data := data) (s0 := (d, 0)) (s1 := s1) (s2 := s2) h1 (rm0_no (has_no h2)) ((go1_yes rfl).trans hs1.symm) ((go1_yes h9).trans hs2.symm)
          rw [if_pos h10] at hrun
          rw [hrun]
          refine tr_region rfl (.run [] [] rfl (st_load_box rfl rfl rfl Try.isAgg27 Try.sizeOf27 (nle rfl)) (.run [4700, 4701, 4702, 5600, 5601, 5602] [] rfl (st_call rfl 5600 (X := []) en55 rfl (.val nod) (.cons (.agg (.cons (.bor (.all (len := (pvF s2.1.live).length) (xs := pvF s2.1.live) rfl rfl (by decide))) (.cons (.bor (.all (len := (pvF s2.1.safe).length) (xs := pvF s2.1.safe) rfl rfl (by decide))) (.cons (.bor (.all (len := (pvD s2.1.ops).length) (xs := pvD s2.1.ops) rfl rfl (by decide))) .nil)))) .nil) (by decide) all_nil .nil (l6Copy_con s2.1 (by assumption)) rfl rfl (nle rfl)) (.run [] [] rfl (st_store_box rfl rfl rfl rfl rfl Try.sizeOf27 rfl (nle rfl)) (.run [] [] rfl (st_assign rfl) .nil)))) ?_
          refine tr_ret ?_
          exact ends [_, _] [5600, 5601, 5602] (.cons (.cell rfl rfl Try.isAgg27 Try.sizeOf27 (nle rfl)) (.cons (.tmp rfl) .nil)) (.cons (.agg (.cons (.row (len := (pvF s2.1.live).length) (xs := pvF s2.1.live) rfl rfl) (.cons (.row (len := (pvF s2.1.safe).length) (xs := pvF s2.1.safe) rfl rfl) (.cons (.row (len := (pvD s2.1.ops).length) (xs := pvD s2.1.ops) rfl rfl) .nil))) (cl_cons (.sl _ _ (FlatP.clean (pvF_flat _))) (cl_cons (.sl _ _ (FlatP.clean (pvF_flat _))) (cl_cons (.sl _ _ (FlatP.clean (pvD_flat _))) cl_nil)))) (.cons (.one .v (.v _)) .nil)) (by decide) trivial
      · skip
        replace h9 := of_decide_eq_false h9
        refine tr_skip ?_
        refine tr_seq ?_
        refine tr_seq ?_
        refine tr_region rfl (.run [] [] rfl (st_move rfl) (.run [] [] rfl (st_neq rfl rfl rfl) .nil)) ?_
        refine tr_if (t := (!(decide (s1.2 = 0)))) rfl (fun h11 => ?_) (fun h11 => ?_)
        · skip
          replace h11 : ¬ (s1.2 = 0) := of_decide_eq_false (bnot_t h11)
          refine tr_seq ?_
          have hrun := repl_run (data := data) (s0 := (d, 0)) (s1 := s1) (s2 := s1) h1 (rm0_no (has_no h2)) ((go1_yes rfl).trans hs1.symm) (go1_no h11)
          rw [if_neg h11] at hrun
          rw [hrun]
          refine tr_wk (s' := mk [(3, .ptr 3 0), (6, .ptr 6 0), (9, .p none (.v (.int .i64 s1.2)))] [(3, [.p none (.sl false 2 (pvF d.live)), .p none (.sl false 2 (pvF d.safe)), .p none (.sl false 4 (pvD d.ops))]), (6, [.nils, .nils, .nils])] []) ?_ ?_
          · exact wk_mk ⟨rfl, ⟨rfl, ⟨rfl, trivial⟩⟩⟩ ⟨rfl, ⟨rfl, trivial⟩⟩ trivial rfl
          refine tr_region rfl (.run [] [] rfl (st_load_box rfl rfl rfl Try.isAgg27 Try.sizeOf27 (nle rfl)) (.run [5300, 5301, 5302] [] rfl (st_call rfl 5300 (X := []) en55 rfl (.val nod) (.cons (.agg (.cons (.bor (.sl nod)) (.cons (.bor (.sl nod)) (.cons (.bor (.sl nod)) .nil)))) .nil) (by decide) all_nil .nil (l6Copy_con d (by assumption)) rfl rfl (nle rfl)) (.run [] [] rfl (st_move rfl) (.run [] [] rfl (st_store_box rfl rfl rfl rfl rfl Try.sizeOf27 rfl (nle rfl)) (.run [] [] rfl (st_assign rfl) .nil))))) ?_
          refine tr_ret ?_
          exact ends [_, _] [5300, 5301, 5302] (.cons (.cell rfl rfl Try.isAgg27 Try.sizeOf27 (nle rfl)) (.cons (.tmp rfl) .nil)) (.cons (.agg (.cons (.row (len := (pvF d.live).length) (xs := pvF d.live) rfl rfl) (.cons (.row (len := (pvF d.safe).length) (xs := pvF d.safe) rfl rfl) (.cons (.row (len := (pvD d.ops).length) (xs := pvD d.ops) rfl rfl) .nil))) (cl_cons (.sl _ _ (FlatP.clean (pvF_flat _))) (cl_cons (.sl _ _ (FlatP.clean (pvF_flat _))) (cl_cons (.sl _ _ (FlatP.clean (pvD_flat _))) cl_nil)))) (.cons (.one .v (.v _)) .nil)) (by decide) trivial
        · skip
          replace h11 : s1.2 = 0 := of_decide_eq_true (bnot_f h11)
          exact absurd h11 h9
end Go.Rl
namespace Go.Rl
section
variable {X : List (List PV)} {k : Nat} {z : List PV}
/-- How long a row is when its k-th element is gone. -/
abbrev delL (X : List (List PV)) (k : Nat) : Nat := k + (X.length - (k + 1))
theorem gdel_len (hk : k < X.length) : (X.take k ++ X.drop (k + 1) ++ X.drop (k + (X.length - (k + 1)))).length = X.length := by
  simp only [List.length_append, List.length_take, List.length_drop]
  omega
theorem gdel_flat {a b c : Nat} (hX : FlatP X) : FlatP (X.take a ++ X.drop b ++ X.drop c) := fun es he p hp => by
  rcases List.mem_append.1 he with he | he
  · rcases List.mem_append.1 he with he | he
    · exact hX es (List.mem_of_mem_take he) p hp
    · exact hX es (List.mem_of_mem_drop he) p hp
  · exact hX es (List.mem_of_mem_drop he) p hp
theorem gdel_flat2 {a b c d n : Nat} (hX : FlatP X) (hz : ∀ p ∈ z, PV.isV p = true) : ∀ es ∈ (X.take a ++ X.drop b ++ X.drop c).take d ++ List.replicate n z, ∀ p ∈ es, (match p with | .v _ => true | _ => false) = true := fun es he p hp => by
  have : PV.isV p = true := by
    rcases List.mem_append.1 he with he | he
    · exact gdel_flat hX es (List.mem_of_mem_take he) p hp
    · rw [List.eq_of_mem_replicate he] at hp
      exact hz p hp
  cases p <;> first | rfl | cases this
theorem gdel_le (hk : k < X.length) : k + (X.length - (k + 1)) ≤ ((X.take k ++ X.drop (k + 1) ++ X.drop (k + (X.length - (k + 1)))).take (k + (X.length - (k + 1))) ++ List.replicate (X.length - (k + (X.length - (k + 1)))) z).length := by
  simp only [List.length_append, List.length_take, List.length_drop, List.length_replicate]
  omega
theorem gdel_eq (hk : k < X.length) : ((X.take k ++ X.drop (k + 1) ++ X.drop (k + (X.length - (k + 1)))).take (k + (X.length - (k + 1))) ++ List.replicate (X.length - (k + (X.length - (k + 1)))) z).take (k + (X.length - (k + 1))) = X.eraseIdx k := by
  have hA : (X.take k ++ X.drop (k + 1)).length = k + (X.length - (k + 1)) := by
    simp only [List.length_append, List.length_take, List.length_drop]; omega
  have hB : ((X.take k ++ X.drop (k + 1) ++ X.drop (k + (X.length - (k + 1)))).take (k + (X.length - (k + 1)))) = X.take k ++ X.drop (k + 1) := by
    rw [← hA, List.take_left]
  rw [hB, List.take_append_of_le_length (by omega), List.take_of_length_le (by omega), List.eraseIdx_eq_take_drop_succ]
end
theorem map_erase {α β : Type} (f : α → β) (l : List α) (k : Nat) : (l.map f).eraseIdx k = (l.eraseIdx k).map f := by
  simp [List.eraseIdx_eq_take_drop_succ, List.map_take, List.map_drop]
/-! #### search -/
/-- How many stand ahead: where p, true of a beginning, turns false. -/
def cntF {α : Type} (p : α → Bool) (l : List α) : Nat := (l.takeWhile p).length
theorem cnt_le {α : Type} (p : α → Bool) (l : List α) : cntF p l ≤ l.length := by
  unfold cntF
  induction l with
  | nil => exact Nat.le_refl _
  | cons a l ih =>
    cases h : p a with
    | true => simp [List.takeWhile_cons, h] at ih ⊢; exact ih
    | false => simp [List.takeWhile_cons, h]
/-- p is true of a beginning alone. -/
def MonoP {α : Type} (p : α → Bool) (l : List α) : Prop := ∀ (i j : Nat) x y, i ≤ j → l[i]? = some x → l[j]? = some y → p y = true → p x = true
theorem cnt_at {α : Type} {p : α → Bool} : ∀ {l : List α} {i : Nat}, i ≤ l.length → (∀ (j : Nat) x, j < i → l[j]? = some x → p x = true) → (∀ x, l[i]? = some x → p x = false) → cntF p l = i
  | [], i, h, _, _ => by simp at h; subst h; rfl
  | a :: l, 0, _, _, h => by
    have := h a rfl
    simp [cntF, List.takeWhile_cons, this]
  | a :: l, i + 1, hi, h1, h2 => by
    have ha := h1 0 a (by omega) rfl
    have ih := cnt_at (p := p) (l := l) (i := i) (by simpa using hi) (fun j x hj hx => h1 (j + 1) x (by omega) (by simpa using hx)) (fun x hx => h2 x (by simpa using hx))
    simp only [cntF, List.takeWhile_cons, ha, if_true, List.length_cons] at ih ⊢
    omega
/-- The two bounds of a search by halves. -/
def Halves {α : Type} (p : α → Bool) (l : List α) (i j : Nat) : Prop := (∀ (k : Nat) x, k < i → l[k]? = some x → p x = true) ∧ ∀ (k : Nat) x, j ≤ k → l[k]? = some x → p x = false
theorem halves_start {α : Type} {p : α → Bool} {l : List α} : Halves p l 0 l.length := ⟨fun _ _ h => absurd h (Nat.not_lt_zero _), fun k x hk hx => by have := (List.getElem?_eq_some_iff.1 hx).1; omega⟩
theorem halves_up {α : Type} {p : α → Bool} {l : List α} {i j m : Nat} {x : α} (hm : MonoP p l) (h : Halves p l i j) (hx : l[m]? = some x) (hp : p x = true) : Halves p l (m + 1) j :=
  ⟨fun k y hk hy => hm k m y x (by omega) hy hx hp, h.2⟩
theorem halves_down {α : Type} {p : α → Bool} {l : List α} {i j m : Nat} {x : α} (hm : MonoP p l) (h : Halves p l i j) (hx : l[m]? = some x) (hp : p x = false) : Halves p l i m :=
  ⟨h.1, fun k y hk hy => by
    cases hy' : p y with
    | false => rfl
    | true => have := hm m k x y hk hx hy hy'; rw [hp] at this; cases this⟩
theorem halves_end {α : Type} {p : α → Bool} {l : List α} {i j : Nat} (hi : i ≤ l.length) (hij : j ≤ i) (h : Halves p l i j) : cntF p l = i := cnt_at hi (fun k x hk hx => h.1 k x hk hx) (fun x hx => h.2 i x hij hx)
theorem shr_one (n : Nat) (h : n ≤ 9000000000000000000) : IntKind.i64.wrap (Int.fdiv (IntKind.u64.wrap (n : Int)) (2 ^ min (1:Int).toNat IntKind.u64.bits)) = ((n / 2 : Nat) : Int) := by
  have h1 : IntKind.u64.wrap (n : Int) = (n : Int) := by
    simp [IntKind.wrap, IntKind.signed, IntKind.bits]
    omega
  rw [h1]
  have h2 : ((2 : Int) ^ min (1:Int).toNat IntKind.u64.bits) = 2 := by decide
  rw [h2]
  have h3 : Int.fdiv (n : Int) 2 = ((n / 2 : Nat) : Int) := by
    rw [Int.fdiv_eq_ediv_of_nonneg _ (by decide)]
    omega
  rw [h3, IntKind.wrap_i64]
  omega
end Go.Rl
namespace Go.Rl
def foundC {α : Type} (c : α → Int) (l : List α) : Bool := match l[cntF (fun s => decide (c s < 0)) l]? with
  | some e => decide (c e = 0)
  | none => false
def nameC (n : ByteArray) (f : Fil) : Int := cmpS f.name n
theorem cmpS_neg {a b : ByteArray} : decide (cmpS a b < 0) = ltB a b := by
  unfold cmpS
  cases h : ltB a b with
  | true => simp
  | false => cases h2 : ltB b a <;> simp
theorem cmpS_zero {a b : ByteArray} : decide (cmpS a b = 0) = decide (a = b) := by
  unfold cmpS
  cases h : ltB a b with
  | true => simp [lt_ne h]
  | false =>
    cases h2 : ltB b a with
    | true => simp [gt_ne h2]
    | false => simp [ltB_tot h h2]
theorem srt_mono {l : List Fil} (h : Srt l) (n : ByteArray) : MonoP (fun s => decide (nameC n s < 0)) l := fun i j x y hij hx hy hp => by
  have e1 : ∀ s : Fil, decide (nameC n s < 0) = ltB s.name n := fun s => cmpS_neg
  have hp2 : ltB y.name n = true := by rw [← e1]; exact hp
  show decide (nameC n x < 0) = true
  rw [e1]
  rcases Nat.lt_or_ge i j with h1 | h1
  · obtain ⟨g1, rfl⟩ := List.getElem?_eq_some_iff.1 hx
    obtain ⟨g2, rfl⟩ := List.getElem?_eq_some_iff.1 hy
    exact ltB_trans ((List.pairwise_iff_getElem.1 h) i j g1 g2 h1) hp2
  · have : i = j := by omega
    subst this
    rw [hx] at hy
    cases hy
    exact hp2
theorem cnt_pos (l : List Fil) (n : ByteArray) : cntF (fun s => decide (nameC n s < 0)) l = posF l n := by
  unfold cntF posF nameC
  simp only [cmpS_neg]
theorem pos_le (l : List Fil) (n : ByteArray) : posF l n ≤ l.length := by rw [← cnt_pos]; exact cnt_le _ _
theorem found_has {l : List Fil} (h : Srt l) (n : ByteArray) : foundC (nameC n) l = hasF l n := by
  unfold foundC
  rw [cnt_pos]
  cases srt_at h n with
  | yes A f C e hn hA hC hp hh hd =>
    subst e
    rw [hp, hh]
    have e1 : decide (nameC n f = 0) = decide (f.name = n) := cmpS_zero
    simp [e1, hn]
  | no A B e hA hB hp hh hd =>
    subst e
    rw [hp, hh]
    cases B with
    | nil => simp
    | cons f B =>
      have e1 : decide (nameC n f = 0) = decide (f.name = n) := cmpS_zero
      simp [e1, gt_ne (hB f (by simp))]
theorem has_at {l : List Fil} (h : Srt l) {n : ByteArray} (hh : hasF l n = true) : ∃ e, l[posF l n]? = some e ∧ e.name = n ∧ datF l n = e.data := by
  cases srt_at h n with
  | yes A f C e hn hA hC hp hh hd =>
    subst e
    exact ⟨f, by rw [hp]; simp, hn, hd⟩
  | no A B e hA hB hp hh' hd => rw [hh'] at hh; cases hh
theorem ins_put {l : List Fil} (h : Srt l) {n : ByteArray} (d : ByteArray) (hh : hasF l n = false) : l.take (posF l n) ++ ⟨n, d⟩ :: l.drop (posF l n) = putF l n d := by
  cases srt_at h n with
  | yes A f C e hn hA hC hp hh' hd => rw [hh'] at hh; cases hh
  | no A B e hA hB hp hh' hd =>
    subst e
    rw [hp, put_no hA hB]
    simp
theorem set_put {l : List Fil} (h : Srt l) {n : ByteArray} (d : ByteArray) (hh : hasF l n = true) : l.set (posF l n) ⟨n, d⟩ = putF l n d := by
  cases srt_at h n with
  | yes A f C e hn hA hC hp hh' hd =>
    subst e
    rw [hp, put_yes hn hA hC]
    simp
  | no A B e hA hB hp hh' hd => rw [hh'] at hh; cases hh
theorem erase_cut {l : List Fil} (h : Srt l) {n : ByteArray} (hh : hasF l n = true) : l.eraseIdx (posF l n) = cutF l n := by
  cases srt_at h n with
  | yes A f C e hn hA hC hp hh' hd =>
    subst e
    rw [hp, cut_yes hn hA hC]
    simp [List.eraseIdx_append_of_length_le]
  | no A B e hA hB hp hh' hd => rw [hh'] at hh; cases hh
theorem srt_cutF {l : List Fil} (h : Srt l) (n : ByteArray) : Srt (cutF l n) := h.sublist List.filter_sublist
theorem ins_get {l : List Fil} {k : Nat} {x : Fil} (hk : k ≤ l.length) : (l.take k ++ x :: l.drop k)[k]? = some x := by
  rw [List.getElem?_append_right (by simp; omega)]
  simp [Nat.min_eq_left hk]
theorem pvF_set (l : List Fil) (k : Nat) (x : Fil) : (pvF l).set k x.pv = pvF (l.set k x) := by simp [pvF, List.map_set]
theorem ins_set {l : List Fil} {k : Nat} {x y : Fil} (hk : k ≤ l.length) : (l.take k ++ x :: l.drop k).set k y = l.take k ++ y :: l.drop k := by
  rw [List.set_append_right _ _ (by simp; omega)]
  simp [Nat.min_eq_left hk]
/-- The program's ways. -/
theorem way_ins {l : List Fil} {n d : ByteArray} {k : Nat} (h : Srt l) (hk : k = posF l n) (hh : hasF l n = false) : (l.take k ++ ⟨n, ⟨#[]⟩⟩ :: l.drop k).set k ⟨n, ⟨#[]⟩ ++ d⟩ = putF l n (datF l n ++ d) := by
  rw [ins_set (by rw [hk]; exact pos_le l n), hk, ins_put h _ hh, dat_no hh]
theorem way_app {l : List Fil} {n d : ByteArray} {k : Nat} {e : Fil} (h : Srt l) (hk : k = posF l n) (hh : hasF l n = true) (he : l[k]? = some e) : l.set k ⟨e.name, e.data ++ d⟩ = putF l n (datF l n ++ d) := by
  obtain ⟨e', h1, h2, h3⟩ := has_at h hh
  subst hk
  rw [h1] at he
  cases he
  rw [h2, set_put h _ hh, h3]
/-! #### right disks -/
theorem replay_app {l m : List Fil} {a : List DOp} {op : DOp} (h : replayF l a = some m) (hs : formF op = true ∧ (doneF m op).2 = true ∧ filesOk (doneF m op).1 = true) : replayF l (a ++ [op]) = some (doneF m op).1 := by
  induction a generalizing l with
  | nil =>
    cases h
    rw [List.nil_append, replayF, if_pos hs]
    rfl
  | cons x a ih =>
    rw [replayF] at h
    split at h
    · rename_i hc
      rw [List.cons_append, replayF, if_pos hc]
      exact ih h
    · cases h
theorem ok_live {d : Dsk} (h : diskOk d = true) : filesOk d.live = true := by simp only [diskOk, Bool.and_eq_true] at h; exact h.1.1.1
theorem ok_safe {d : Dsk} (h : diskOk d = true) : filesOk d.safe = true := by simp only [diskOk, Bool.and_eq_true] at h; exact h.1.1.2
theorem ok_ops {d : Dsk} (h : diskOk d = true) : d.ops.length ≤ 200 := by simp only [diskOk, Bool.and_eq_true, decide_eq_true_eq] at h; exact h.1.2
theorem ok_rep {d : Dsk} (h : diskOk d = true) : replayF d.safe d.ops = some d.live := by simp only [diskOk, Bool.and_eq_true, decide_eq_true_eq] at h; exact h.2
theorem ok_mk {d : Dsk} (h1 : filesOk d.live = true) (h2 : filesOk d.safe = true) (h3 : d.ops.length ≤ 200) (h4 : replayF d.safe d.ops = some d.live) : diskOk d = true := by simp [diskOk, h1, h2, h3, h4]
theorem act_ok {d : Dsk} {op : DOp} (h : diskOk d = true) (hc : (actF d op).2 = 0) : diskOk (actF d op).1 = true := by
  unfold actF at hc ⊢
  split
  · rename_i h1; rw [if_pos h1] at hc; cases hc
  · rename_i h1
    rw [if_neg h1] at hc
    split
    · rename_i h2; rw [if_pos h2] at hc; cases hc
    · rename_i h2
      rw [if_neg h2] at hc
      split
      · rename_i h3; rw [if_pos h3] at hc; cases hc
      · rename_i h3
        rw [not_or] at h3
        have g := ok_ops h
        have hf : filesOk (doneF d.live op).1 = true := by simpa using h3.2
        have hsf := ok_safe h
        have hrp := replay_app (ok_rep h) ⟨by simpa using h1, by simpa using h2, hf⟩
        exact ok_mk (d := ⟨(doneF d.live op).1, d.safe, d.ops ++ [op]⟩) hf hsf (by simp only [List.length_append, List.length_cons, List.length_nil]; omega) hrp
def foldA : Dsk → List DOp → Dsk × Int
  | d, [] => (d, 0)
  | d, op :: ops => if (actF d op).2 = 0 then foldA (actF d op).1 ops else actF d op
theorem fold_step {now : Dsk} {ops : List DOp} {i : Nat} {e : DOp} {s : Dsk × Int} (h : foldA now (ops.drop i) = s) (he : ops[i]? = some e) (hc : (actF now e).2 = 0) : foldA (actF now e).1 (ops.drop (i + 1)) = s := by
  rw [drop_at he, foldA, if_pos hc] at h
  exact h
theorem fold_stop {now : Dsk} {ops : List DOp} {i : Nat} {e : DOp} {s : Dsk × Int} (h : foldA now (ops.drop i) = s) (he : ops[i]? = some e) (hc : ¬ (actF now e).2 = 0) : s = actF now e := by
  rw [drop_at he, foldA, if_neg hc] at h
  exact h.symm
theorem fold_end {now : Dsk} {ops : List DOp} {i : Nat} {s : Dsk × Int} (h : foldA now (ops.drop i) = s) (hi : ops.length ≤ i) : s = (now, 0) := by
  rw [List.drop_of_length_le hi] at h
  exact h.symm
def replOps (d : Dsk) (name data : ByteArray) : List DOp := (if hasF d.live (name ++ newB) = true then [opRm (name ++ newB)] else []) ++ [opAp (name ++ newB) data, opMv (name ++ newB) name]
theorem fold_go (s : Dsk × Int) (a b : DOp) (h : s.2 = 0) : ∀ t, foldA s.1 [a, b] = t → (if (go1 (go1 s a) b).2 = 0 then ((go1 (go1 s a) b).1, (0:Int)) else (go1 (go1 s a) b)) = t := by
  intro t ht
  subst ht
  rw [go1_yes h, foldA]
  by_cases h1 : (actF s.1 a).2 = 0
  · rw [if_pos h1, go1_yes h1, foldA]
    by_cases h2 : (actF (actF s.1 a).1 b).2 = 0
    · rw [if_pos h2, if_pos h2]; rfl
    · rw [if_neg h2, if_neg h2]
  · rw [if_neg h1, go1_no h1, if_neg h1]
theorem repl_fold {d : Dsk} {name data : ByteArray} {s : Dsk × Int} (h : diskOk d = true) (hs : foldA d (replOps d name data) = s) : replaceF d name data = if s.2 = 0 then (s.1, 0) else (d, s.2) := by
  rw [repl_run (s0 := rm0 d (name ++ newB)) (s1 := go1 (rm0 d (name ++ newB)) (opAp (name ++ newB) data)) (s2 := go1 (go1 (rm0 d (name ++ newB)) (opAp (name ++ newB) data)) (opMv (name ++ newB) name)) h rfl rfl rfl]
  have key : ∀ u : Dsk × Int, (if u.2 = 0 then (u.1, (0:Int)) else u) = s → (if u.2 = 0 then (u.1, 0) else (d, u.2)) = (if s.2 = 0 then (s.1, (0:Int)) else (d, s.2)) := fun u hu => by
    by_cases h0 : u.2 = 0
    · rw [if_pos h0] at hu ⊢
      subst hu
      simp
    · rw [if_neg h0] at hu
      subst hu
      rfl
  apply key
  cases hh : hasF d.live (name ++ newB) with
  | false =>
    rw [rm0_no hh]
    refine fold_go (d, 0) _ _ rfl _ ?_
    rw [← hs, replOps, if_neg (by simp [hh])]
    rfl
  | true =>
    rw [rm0_yes hh]
    rw [replOps, if_pos hh] at hs
    simp only [List.singleton_append] at hs
    rw [foldA] at hs
    by_cases h0 : (actF d (opRm (name ++ newB))).2 = 0
    · rw [if_pos h0] at hs
      exact fold_go _ _ _ h0 _ hs
    · rw [if_neg h0] at hs
      rw [go1_no h0, go1_no h0, if_neg h0]
      exact hs
theorem replOps_size {d : Dsk} {name data : ByteArray} {m : Nat} (h : data.size ≤ m) : ∀ e ∈ replOps d name data, e.data.size ≤ m := fun e he => by
  unfold replOps at he
  rcases List.mem_append.1 he with he | he
  · split at he
    · simp at he; subst he; exact Nat.zero_le _
    · cases he
  · simp at he
    rcases he with rfl | rfl
    · exact h
    · exact Nat.zero_le _
def readF (d : Dsk) (n : ByteArray) : ByteArray × Bool := if diskOk d = true ∧ hasF d.live n = true then (datF d.live n, true) else (⟨#[]⟩, false)
theorem readF_has {d : Dsk} {n : ByteArray} (h : diskOk d = true) : (readF d n).2 = hasF d.live n := by
  cases hh : hasF d.live n <;> simp [readF, h, hh]
end Go.Rl

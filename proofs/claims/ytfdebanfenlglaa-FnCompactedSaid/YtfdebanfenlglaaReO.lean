/- Promises of functions, proved by walks over their operations; no conditions beyond those that each theorem states. -/
import Derived.Test.YtfdebanfenlglaaRnF
import Derived.Test.YtfdebanfenlglaaRlT
import Derived.Test.YtfdebanfenlglaaReD
set_option linter.unusedSimpArgs false
set_option linter.unusedVariables false
namespace Go.Rl
open Go.Proofs
theorem inf26 : (Try.prog.info? 26).map (fun i => (i.zero, i.size, i.bytes)) = some (some (.slice none 0 0), 1, 24) := by kernel_rfl
theorem en171 : ∀ vs w, (callFunc 171 vs).run Try.prog w = .ok (.enter 171 vs) w := enters Try.func171 (by decide) rfl
theorem en141 : ∀ vs w, (callFunc 141 vs).run Try.prog w = .ok (.enter 141 vs) w := enters Try.func141 (by decide) rfl
theorem en142 : ∀ vs w, (callFunc 142 vs).run Try.prog w = .ok (.enter 142 vs) w := enters Try.func142 (by decide) rfl
theorem en85 : ∀ vs w, (callFunc 85 vs).run Try.prog w = .ok (.enter 85 vs) w := enters Try.func85 (by decide) rfl
theorem en81 : ∀ vs w, (callFunc 81 vs).run Try.prog w = .ok (.enter 81 vs) w := enters Try.func81 (by decide) rfl
set_option maxRecDepth 1000000 in
set_option maxHeartbeats 2000000 in
theorem backward_con (zs : List Int) : ConS Try.prog 141 [.one (PV.sl false 1 (pvI zs))] [.one (.clo 171 [[PV.sl false 1 (pvI zs)]])] := by
  refine con_of_trS Try.func141 rfl rfl rfl rfl ?_
  refine tr_seq ?_
  refine tr_region rfl (.run [] [1] rfl (st_box rfl 1 rfl rfl (by decide) rfl (by decide)) (.run [] [] rfl (st_assign rfl) .nil)) ?_
  refine tr_seq ?_
  refine tr_region rfl (.run [] [] rfl (st_func (bs := [1]) rfl rfl) (.run [] [] rfl (st_assign rfl) .nil)) ?_
  refine tr_wk (wk_frb 1 rfl rfl) ?_
  refine tr_wk (s' := mk [(2, .p none (.clo 171 [[PV.sl false 1 (pvI zs)]]))] [] []) ?_ ?_
  · exact wk_mk ⟨rfl, trivial⟩ trivial trivial rfl
  refine tr_ret ?_
  exact endsS [_] [] (.cons (.tmp rfl) .nil) (.cons (.one (.of .clo)) .nil) (by decide)
set_option maxRecDepth 1000000 in
set_option maxHeartbeats 2000000 in
theorem compacted_con (l : List Ent) (s : List Int) (b : Bool) (zs : List Int) (hzs : zs = needF l (pointsF s) l.length) (hl : l.length ≤ 2000000) (hs : s.length ≤ 2000000) (hok : entsOk l = true) : ConSG none Try.prog 81 [.one (PV.sl false 4 (pvE l)), .one (PV.sl false 1 (pvI s)), .one (.v (.bool b))] [] [.one (.sl true 4 (pvE (compU l b zs zs.length)))] := by
  have hle := pvE_length l
  have hls := pvI_length s
  have hlz := pvI_length zs
  have hzl : zs.length ≤ l.length := by rw [hzs]; exact needF_len _ _ _
  refine con_of_trR Try.func81 rfl rfl rfl rfl ?_
  refine trR_seq ?_
  refine tr_region rfl (.run [] [3] rfl (st_box rfl 3 rfl rfl (by decide) rfl (by decide)) (.run [] [5] rfl (st_box rfl 5 rfl rfl (by decide) rfl (by decide)) (.run [] [] rfl (st_assign rfl) .nil))) ?_
  refine trR_seq ?_
  refine tr_region rfl (.run [1400] [] rfl (st_buildSlice rfl 1400 Try.underlying26 inf44 (nle rfl) (by decide) rfl rfl rfl .nil (by decide) rfl (by decide) rfl (by decide) rfl) (.run [] [7] rfl (st_allocZ rfl 7 inf26 rfl (by decide) rfl (by decide)) (.run [] [8] rfl (st_allocZ rfl 8 inf9 rfl (by decide) rfl (by decide)) (.run [] [9] rfl (st_allocZ rfl 9 inf4 rfl (by decide) rfl (by decide)) (.run [] [] rfl (st_store_box rfl rfl rfl rfl rfl Try.sizeOf26 rfl (nle rfl)) (.run [] [] rfl (st_store_box rfl rfl rfl rfl rfl Try.sizeOf9 rfl (nle rfl)) (.run [] [] rfl (st_store_box rfl rfl rfl rfl rfl Try.sizeOf4 rfl (nle rfl)) .nil))))))) ?_
  refine trR_backward' Bw.try en171 (zs := zs) (o := false) (by omega) (fun pre => mk [(3, .ptr 3 0), (5, .ptr 5 0), (7, .ptr 7 0), (8, .ptr 8 0), (9, .ptr 9 0), (18, .p none (.clo 171 [[PV.sl false 1 (pvI zs)]]))] [(3, [.p none (.sl false 4 (pvE l))]), (5, [.p none (.v (.bool b))]), (7, [.sl 1400 0 ((pvE (compP l b zs pre).reverse).length)]), (8, [.p none (.v (.string (lastU (compP l b zs pre))))]), (9, [.p none (.v (.bool (anyE (compP l b zs pre))))])] [(1400, 4, pvE (compP l b zs pre).reverse)]) (fun pre x => St.bw (mk [(3, .ptr 3 0), (5, .ptr 5 0), (7, .ptr 7 0), (8, .ptr 8 0), (9, .ptr 9 0), (18, .p none (.clo 171 [[PV.sl false 1 (pvI zs)]]))] [(3, [.p none (.sl false 4 (pvE l))]), (5, [.p none (.v (.bool b))]), (7, [.sl 1400 0 ((pvE (compP l b zs pre).reverse).length)]), (8, [.p none (.v (.string (lastU (compP l b zs pre))))]), (9, [.p none (.v (.bool (anyE (compP l b zs pre))))])] [(1400, 4, pvE (compP l b zs pre).reverse)]) 19 20 11 zs x) (fun j => Nat.ble j 9 || Nat.beq j 18) (asgT 20 11) (fun pre => rfl) (fun l nn a0 W K hK => wpIn_asgT rfl rfl rfl a0 W K hK) (fun pre x w0 I L a W hd h => rel_bw hd h (Nat.le_of_ble_eq_true rfl) (Nat.le_of_ble_eq_true rfl) (Nat.le_of_ble_eq_true rfl)) (fun a x => keeps_bw rfl rfl rfl) ?_ ?_ ?_
  · intro l0 nn pre x hpl
    show TrI _ _ _ _ _ _ _ (St.bw (mk [(3, .ptr 3 0), (5, .ptr 5 0), (7, .ptr 7 0), (8, .ptr 8 0), (9, .ptr 9 0), (18, .p none (.clo 171 [[PV.sl false 1 (pvI zs)]]))] [(3, [.p none (.sl false 4 (pvE l))]), (5, [.p none (.v (.bool b))]), (7, [.sl 1400 0 ((pvE (compP l b zs pre).reverse).length)]), (8, [.p none (.v (.string (lastU (compP l b zs pre))))]), (9, [.p none (.v (.bool (anyE (compP l b zs pre))))])] [(1400, 4, pvE (compP l b zs pre).reverse)]) 19 20 11 zs x) (fun e s' => e = .normal ∧ Wk _ (s'.keepT _) (mk [(3, .ptr 3 0), (5, .ptr 5 0), (7, .ptr 7 0), (8, .ptr 8 0), (9, .ptr 9 0), (18, .p none (.clo 171 [[PV.sl false 1 (pvI zs)]]))] [(3, [.p none (.sl false 4 (pvE l))]), (5, [.p none (.v (.bool b))]), (7, [.sl 1400 0 ((pvE (compP l b zs (pre ++ [x])).reverse).length)]), (8, [.p none (.v (.string (lastU (compP l b zs (pre ++ [x])))))]), (9, [.p none (.v (.bool (anyE (compP l b zs (pre ++ [x])))))])] [(1400, 4, pvE (compP l b zs (pre ++ [x])).reverse)]))
    have hx0 : zs[x.1]? = some (zs[x.1]'x.2) := List.getElem?_eq_getElem x.2
    obtain ⟨q, hq, hql⟩ : ∃ q : Nat, zs[x.1]'x.2 = (q : Int) ∧ q < l.length := by have hm : zs[x.1]'x.2 ∈ needF l (pointsF s) l.length := (by rw [← hzs]; exact List.mem_of_getElem? hx0); obtain ⟨k, h1, _, h3⟩ := needF_bnd (n := l.length) hm; exact ⟨k, h1, h3⟩
    obtain ⟨e, he⟩ : ∃ e, l[q]? = some e := ⟨_, List.getElem?_eq_getElem hql⟩
    have hc0 : compP l b zs (pre ++ [x]) = cstep b (compP l b zs pre) e := compP_snoc l b zs pre x (by rw [hq]; exact he)
    rw [hc0]
    have hol := compP_len l b zs pre
    generalize compP l b zs pre = out at hol ⊢
    have hle5 := pvE_length out.reverse
    have hle6 : out.reverse.length = out.length := List.length_reverse
    refine tri_wk (s' := mk [(3, .ptr 3 0), (5, .ptr 5 0), (7, .ptr 7 0), (8, .ptr 8 0), (9, .ptr 9 0), (11, .p none (.v (.int .i64 (q:Int)))), (18, .p none (.clo 171 [[PV.sl false 1 (pvI zs)]]))] [(3, [.p none (.sl false 4 (pvE l))]), (5, [.p none (.v (.bool b))]), (7, [.sl 1400 0 ((pvE out.reverse).length)]), (8, [.p none (.v (.string (lastU out)))]), (9, [.p none (.v (.bool (anyE out)))])] [(1400, 4, pvE out.reverse)]) (wk_mk ⟨rfl, ⟨rfl, ⟨rfl, ⟨rfl, ⟨rfl, ⟨(int_eq hq), ⟨rfl, trivial⟩⟩⟩⟩⟩⟩⟩ ⟨rfl, ⟨rfl, ⟨rfl, ⟨rfl, ⟨rfl, trivial⟩⟩⟩⟩⟩ ⟨rfl, trivial⟩ rfl) ?_
    refine tri_block ?_
    refine tri_seq ?_
    refine tri_region rfl rfl (.run [] [] rfl (st_load_box1 rfl rfl rfl Try.isAgg26 rfl) (.run [] [] rfl (st_move rfl) (.run [] [] rfl (st_idx_fro rfl rfl rfl Try.underlying26 Try.sizeOf44 rfl (by omega) (pvE_get he)) (.run [] [] rfl (st_load_fea rfl rfl Try.isAgg44 Try.sizeOf44 (nle rfl)) (.run [] [12] rfl (st_allocZ rfl 12 inf44 rfl (by decide) rfl (by decide)) (.run [] [] rfl (st_store_box rfl rfl rfl rfl rfl Try.sizeOf44 rfl (nle rfl)) .nil)))))) ?_
    refine tri_seq ?_
    rcases bfc (anyE out) with h1 | h1
    · have h1' := h1
      refine tri_region rfl rfl (.run [] [] rfl (st_eq (st_load_box1 rfl rfl rfl Try.isAgg4 rfl) (by exact congrArg (fun b => AV.p none (.v (.bool b))) h1)) (.run [] [] rfl (st_move rfl) (.not rfl (.not rfl (.not rfl (.not rfl (.not rfl (.run [] [] rfl (st_pick (t := false) rfl rfl) (.run [] [] rfl (st_assign rfl) .nil))))))))) ?_
      refine tri_seq ?_
      refine tri_seq ?_
      refine tri_wk (s' := mk [(3, .ptr 3 0), (5, .ptr 5 0), (7, .ptr 7 0), (8, .ptr 8 0), (9, .ptr 9 0), (12, .ptr 12 0), (13, .p none (.v (.bool false))), (18, .p none (.clo 171 [[PV.sl false 1 (pvI zs)]]))] [(3, [.p none (.sl false 4 (pvE l))]), (5, [.p none (.v (.bool b))]), (7, [.sl 1400 0 ((pvE out.reverse).length)]), (8, [.p none (.v (.string (lastU out)))]), (9, [.p none (.v (.bool (anyE out)))]), (12, [.p none (.v (.string e.user)), .p none (.v (.int .i64 e.seq)), .p none (.v (.int .i64 e.kind)), .p none (.v (.string e.value))])] [(1400, 4, pvE out.reverse)]) ?_ ?_
      · exact wk_mk ⟨rfl, ⟨rfl, ⟨rfl, ⟨rfl, ⟨rfl, ⟨rfl, ⟨rfl, ⟨rfl, trivial⟩⟩⟩⟩⟩⟩⟩⟩ ⟨rfl, ⟨rfl, ⟨rfl, ⟨rfl, ⟨rfl, ⟨rfl, trivial⟩⟩⟩⟩⟩⟩ ⟨rfl, trivial⟩ rfl
      rcases bfc b with h2 | h2
      · have h2' := h2
        refine tri_region rfl rfl (.run [] [] rfl (st_eq (st_load_box1 rfl rfl rfl Try.isAgg4 rfl) (by exact congrArg (fun b => AV.p none (.v (.bool b))) h2)) (.run [] [] rfl (st_move rfl) (.not rfl (.not rfl (.not rfl (.not rfl (.run [] [] rfl (st_pick (t := false) rfl rfl) (.run [] [] rfl (st_move rfl) (.not rfl (.not rfl (.run [] [] rfl (st_pick (t := false) rfl rfl) .nil))))))))))) ?_
        refine tri_if (t := false) rfl (fun h => nomatch h) (fun _ => ?_)
        refine tri_skip ?_
        refine tri_wk (s' := mk [(3, .ptr 3 0), (5, .ptr 5 0), (7, .ptr 7 0), (8, .ptr 8 0), (9, .ptr 9 0), (12, .ptr 12 0), (18, .p none (.clo 171 [[PV.sl false 1 (pvI zs)]]))] [(3, [.p none (.sl false 4 (pvE l))]), (5, [.p none (.v (.bool b))]), (7, [.sl 1400 0 ((pvE out.reverse).length)]), (8, [.p none (.v (.string (lastU out)))]), (9, [.p none (.v (.bool (anyE out)))]), (12, [.p none (.v (.string e.user)), .p none (.v (.int .i64 e.seq)), .p none (.v (.int .i64 e.kind)), .p none (.v (.string e.value))])] [(1400, 4, pvE out.reverse)]) ?_ ?_
        · exact wk_mk ⟨rfl, ⟨rfl, ⟨rfl, ⟨rfl, ⟨rfl, ⟨rfl, ⟨rfl, trivial⟩⟩⟩⟩⟩⟩⟩ ⟨rfl, ⟨rfl, ⟨rfl, ⟨rfl, ⟨rfl, ⟨rfl, trivial⟩⟩⟩⟩⟩⟩ ⟨rfl, trivial⟩ rfl
        refine tri_regionD rfl mixed rfl (.run [] [] rfl (st_load_box1 rfl rfl rfl Try.isAgg26 rfl) (.run [] [] rfl (st_load_box rfl rfl rfl Try.isAgg44 Try.sizeOf44 (nle rfl)) (.run [4600] [] rfl (st_buildSlice rfl 4600 Try.underlying26 inf44 (nle rfl) (by decide) rfl rfl rfl (.cons .v (.cons .v (.cons .v (.cons .v .nil)))) (by decide) rfl (by decide) rfl (by decide) rfl) (.run [1400] [] rfl (st_append rfl 1400 (ib := 1400) (len := ((pvE out.reverse) ++ [[PV.v (.string e.user), PV.v (.int .i64 e.seq), PV.v (.int .i64 e.kind), PV.v (.string e.value)]]).length) rfl rfl (.row (len := (pvE out.reverse).length) (xs := pvE out.reverse) rfl rfl (.inl rfl)) (.give (len := 1) (xs := [[PV.v (.string e.user), PV.v (.int .i64 e.seq), PV.v (.int .i64 e.kind), PV.v (.string e.value)]]) rfl rfl) Try.underlying26 (sk Try.underlying26 rfl) inf44 rfl (by decide) (by decide) (by decide) List.length_append (by simp only [maxLen, List.length_append, List.length_map, List.length_cons, List.length_nil, List.length_take, List.length_drop, pvE_length, pvI_length, pvT_length]; omega) (by simp only [maxLen, List.length_append, List.length_map, List.length_cons, List.length_nil, List.length_take, List.length_drop, pvE_length, pvI_length, pvT_length]; omega)) (.run [] [] rfl (st_faddr_box rfl rfl Try.underlying44 rfl Try.sizeOf42 (by decide)) (.run [] [] rfl (st_faddr_box rfl rfl Try.underlying42 rfl Try.sizeOf9 (by decide)) (.run [] [] rfl (st_load_box1 rfl rfl rfl Try.isAgg9 rfl) (.run [] [] rfl (st_store_box rfl rfl rfl rfl rfl Try.sizeOf26 rfl (nle rfl)) (.run [] [] rfl (st_store_box rfl rfl rfl rfl rfl Try.sizeOf9 rfl (nle rfl)) (.run [] [] rfl (st_store_box rfl rfl rfl rfl rfl Try.sizeOf4 rfl (nle rfl)) .nil)))))))))) (by kernel_rfl) ?_
        refine ⟨rfl, ?_⟩
        rw [cstep_keep (fun hc => by rw [h2'] at hc; cases hc.1)]
        exact wk_mk ⟨rfl, ⟨rfl, ⟨rfl, ⟨rfl, ⟨rfl, ⟨rfl, trivial⟩⟩⟩⟩⟩⟩ ⟨rfl, ⟨rfl, ⟨(congrArg (fun x : List (List PV) => some [AV.sl 1400 0 x.length]) (pvE_consr out e)), ⟨rfl, ⟨rfl, trivial⟩⟩⟩⟩⟩ ⟨(congrArg (fun x => some (4, x)) (pvE_consr out e)), trivial⟩ rfl
      · have h2' := h2
        rcases bfc (decide (e.kind = 0)) with h3 | h3
        · have h3' := h3
          replace h3' := of_decide_eq_false h3'
          refine tri_region rfl rfl (.run [] [] rfl (st_eq (st_load_box1 rfl rfl rfl Try.isAgg4 rfl) (by exact congrArg (fun b => AV.p none (.v (.bool b))) h2)) (.run [] [] rfl (st_move rfl) (.run [] [] rfl (st_faddr_box rfl rfl Try.underlying44 rfl Try.sizeOf42 (by decide)) (.run [] [] rfl (st_faddr_box rfl rfl Try.underlying42 rfl Try.sizeOf2 (by decide)) (.run [] [] rfl (st_load_box1 rfl rfl rfl Try.isAgg2 rfl) (.run [] [] rfl (st_eq (st_eql rfl rfl rfl) (by exact congrArg (fun b => AV.p none (.v (.bool b))) h3)) (.run [] [] rfl (st_pick (t := true) rfl rfl) (.run [] [] rfl (st_move rfl) (.not rfl (.not rfl (.run [] [] rfl (st_pick (t := false) rfl rfl) .nil))))))))))) ?_
          refine tri_if (t := false) rfl (fun h => nomatch h) (fun _ => ?_)
          refine tri_skip ?_
          refine tri_wk (s' := mk [(3, .ptr 3 0), (5, .ptr 5 0), (7, .ptr 7 0), (8, .ptr 8 0), (9, .ptr 9 0), (12, .ptr 12 0), (18, .p none (.clo 171 [[PV.sl false 1 (pvI zs)]]))] [(3, [.p none (.sl false 4 (pvE l))]), (5, [.p none (.v (.bool b))]), (7, [.sl 1400 0 ((pvE out.reverse).length)]), (8, [.p none (.v (.string (lastU out)))]), (9, [.p none (.v (.bool (anyE out)))]), (12, [.p none (.v (.string e.user)), .p none (.v (.int .i64 e.seq)), .p none (.v (.int .i64 e.kind)), .p none (.v (.string e.value))])] [(1400, 4, pvE out.reverse)]) ?_ ?_
          · exact wk_mk ⟨rfl, ⟨rfl, ⟨rfl, ⟨rfl, ⟨rfl, ⟨rfl, ⟨rfl, trivial⟩⟩⟩⟩⟩⟩⟩ ⟨rfl, ⟨rfl, ⟨rfl, ⟨rfl, ⟨rfl, ⟨rfl, trivial⟩⟩⟩⟩⟩⟩ ⟨rfl, trivial⟩ rfl
          refine tri_regionD rfl mixed rfl (.run [] [] rfl (st_load_box1 rfl rfl rfl Try.isAgg26 rfl) (.run [] [] rfl (st_load_box rfl rfl rfl Try.isAgg44 Try.sizeOf44 (nle rfl)) (.run [4600] [] rfl (st_buildSlice rfl 4600 Try.underlying26 inf44 (nle rfl) (by decide) rfl rfl rfl (.cons .v (.cons .v (.cons .v (.cons .v .nil)))) (by decide) rfl (by decide) rfl (by decide) rfl) (.run [1400] [] rfl (st_append rfl 1400 (ib := 1400) (len := ((pvE out.reverse) ++ [[PV.v (.string e.user), PV.v (.int .i64 e.seq), PV.v (.int .i64 e.kind), PV.v (.string e.value)]]).length) rfl rfl (.row (len := (pvE out.reverse).length) (xs := pvE out.reverse) rfl rfl (.inl rfl)) (.give (len := 1) (xs := [[PV.v (.string e.user), PV.v (.int .i64 e.seq), PV.v (.int .i64 e.kind), PV.v (.string e.value)]]) rfl rfl) Try.underlying26 (sk Try.underlying26 rfl) inf44 rfl (by decide) (by decide) (by decide) List.length_append (by simp only [maxLen, List.length_append, List.length_map, List.length_cons, List.length_nil, List.length_take, List.length_drop, pvE_length, pvI_length, pvT_length]; omega) (by simp only [maxLen, List.length_append, List.length_map, List.length_cons, List.length_nil, List.length_take, List.length_drop, pvE_length, pvI_length, pvT_length]; omega)) (.run [] [] rfl (st_faddr_box rfl rfl Try.underlying44 rfl Try.sizeOf42 (by decide)) (.run [] [] rfl (st_faddr_box rfl rfl Try.underlying42 rfl Try.sizeOf9 (by decide)) (.run [] [] rfl (st_load_box1 rfl rfl rfl Try.isAgg9 rfl) (.run [] [] rfl (st_store_box rfl rfl rfl rfl rfl Try.sizeOf26 rfl (nle rfl)) (.run [] [] rfl (st_store_box rfl rfl rfl rfl rfl Try.sizeOf9 rfl (nle rfl)) (.run [] [] rfl (st_store_box rfl rfl rfl rfl rfl Try.sizeOf4 rfl (nle rfl)) .nil)))))))))) (by kernel_rfl) ?_
          refine ⟨rfl, ?_⟩
          rw [cstep_keep (fun hc => h3' hc.2.1)]
          exact wk_mk ⟨rfl, ⟨rfl, ⟨rfl, ⟨rfl, ⟨rfl, ⟨rfl, trivial⟩⟩⟩⟩⟩⟩ ⟨rfl, ⟨rfl, ⟨(congrArg (fun x : List (List PV) => some [AV.sl 1400 0 x.length]) (pvE_consr out e)), ⟨rfl, ⟨rfl, trivial⟩⟩⟩⟩⟩ ⟨(congrArg (fun x => some (4, x)) (pvE_consr out e)), trivial⟩ rfl
        · have h3' := h3
          replace h3' := of_decide_eq_true h3'
          refine tri_region rfl rfl (.run [] [] rfl (st_eq (st_load_box1 rfl rfl rfl Try.isAgg4 rfl) (by exact congrArg (fun b => AV.p none (.v (.bool b))) h2)) (.run [] [] rfl (st_move rfl) (.run [] [] rfl (st_faddr_box rfl rfl Try.underlying44 rfl Try.sizeOf42 (by decide)) (.run [] [] rfl (st_faddr_box rfl rfl Try.underlying42 rfl Try.sizeOf2 (by decide)) (.run [] [] rfl (st_load_box1 rfl rfl rfl Try.isAgg2 rfl) (.run [] [] rfl (st_eq (st_eql rfl rfl rfl) (by exact congrArg (fun b => AV.p none (.v (.bool b))) h3)) (.run [] [] rfl (st_pick (t := true) rfl rfl) (.run [] [] rfl (st_move rfl) (.run [] [] rfl (st_move rfl) (.run [] [] rfl (st_not (b := false) rfl rfl) (.run [] [] rfl (st_pick (t := true) rfl rfl) .nil))))))))))) ?_
          refine tri_if (t := true) rfl (fun _ => ?_) (fun h => nomatch h)
          refine tri_exit ?_
          refine ⟨rfl, ?_⟩
          rw [cstep_drop h2' h3' (older_no h1')]
          exact wk_mk ⟨rfl, ⟨rfl, ⟨rfl, ⟨rfl, ⟨rfl, ⟨rfl, trivial⟩⟩⟩⟩⟩⟩ ⟨rfl, ⟨rfl, ⟨rfl, ⟨rfl, ⟨rfl, trivial⟩⟩⟩⟩⟩ ⟨rfl, trivial⟩ rfl
    · have h1' := h1
      refine tri_region rfl rfl (.run [] [] rfl (st_eq (st_load_box1 rfl rfl rfl Try.isAgg4 rfl) (by exact congrArg (fun b => AV.p none (.v (.bool b))) h1)) (.run [] [] rfl (st_move rfl) (.run [] [] rfl (st_faddr_box rfl rfl Try.underlying44 rfl Try.sizeOf42 (by decide)) (.run [] [] rfl (st_faddr_box rfl rfl Try.underlying42 rfl Try.sizeOf9 (by decide)) (.run [] [] rfl (st_load_box1 rfl rfl rfl Try.isAgg9 rfl) (.run [] [] rfl (st_load_box1 rfl rfl rfl Try.isAgg9 rfl) (.run [] [] rfl (st_seql rfl rfl rfl) (.run [] [] rfl (st_pick (t := true) rfl rfl) (.run [] [] rfl (st_assign rfl) .nil))))))))) ?_
      refine tri_seq ?_
      refine tri_seq ?_
      refine tri_wk (s' := mk [(3, .ptr 3 0), (5, .ptr 5 0), (7, .ptr 7 0), (8, .ptr 8 0), (9, .ptr 9 0), (12, .ptr 12 0), (13, .p none (.v (.bool (decide (e.user = (lastU out)))))), (18, .p none (.clo 171 [[PV.sl false 1 (pvI zs)]]))] [(3, [.p none (.sl false 4 (pvE l))]), (5, [.p none (.v (.bool b))]), (7, [.sl 1400 0 ((pvE out.reverse).length)]), (8, [.p none (.v (.string (lastU out)))]), (9, [.p none (.v (.bool (anyE out)))]), (12, [.p none (.v (.string e.user)), .p none (.v (.int .i64 e.seq)), .p none (.v (.int .i64 e.kind)), .p none (.v (.string e.value))])] [(1400, 4, pvE out.reverse)]) ?_ ?_
      · exact wk_mk ⟨rfl, ⟨rfl, ⟨rfl, ⟨rfl, ⟨rfl, ⟨rfl, ⟨rfl, ⟨rfl, trivial⟩⟩⟩⟩⟩⟩⟩⟩ ⟨rfl, ⟨rfl, ⟨rfl, ⟨rfl, ⟨rfl, ⟨rfl, trivial⟩⟩⟩⟩⟩⟩ ⟨rfl, trivial⟩ rfl
      rcases bfc b with h4 | h4
      · have h4' := h4
        refine tri_region rfl rfl (.run [] [] rfl (st_eq (st_load_box1 rfl rfl rfl Try.isAgg4 rfl) (by exact congrArg (fun b => AV.p none (.v (.bool b))) h4)) (.run [] [] rfl (st_move rfl) (.not rfl (.not rfl (.not rfl (.not rfl (.run [] [] rfl (st_pick (t := false) rfl rfl) (.run [] [] rfl (st_move rfl) (.not rfl (.not rfl (.run [] [] rfl (st_pick (t := false) rfl rfl) .nil))))))))))) ?_
        refine tri_if (t := false) rfl (fun h => nomatch h) (fun _ => ?_)
        refine tri_skip ?_
        refine tri_wk (s' := mk [(3, .ptr 3 0), (5, .ptr 5 0), (7, .ptr 7 0), (8, .ptr 8 0), (9, .ptr 9 0), (12, .ptr 12 0), (18, .p none (.clo 171 [[PV.sl false 1 (pvI zs)]]))] [(3, [.p none (.sl false 4 (pvE l))]), (5, [.p none (.v (.bool b))]), (7, [.sl 1400 0 ((pvE out.reverse).length)]), (8, [.p none (.v (.string (lastU out)))]), (9, [.p none (.v (.bool (anyE out)))]), (12, [.p none (.v (.string e.user)), .p none (.v (.int .i64 e.seq)), .p none (.v (.int .i64 e.kind)), .p none (.v (.string e.value))])] [(1400, 4, pvE out.reverse)]) ?_ ?_
        · exact wk_mk ⟨rfl, ⟨rfl, ⟨rfl, ⟨rfl, ⟨rfl, ⟨rfl, ⟨rfl, trivial⟩⟩⟩⟩⟩⟩⟩ ⟨rfl, ⟨rfl, ⟨rfl, ⟨rfl, ⟨rfl, ⟨rfl, trivial⟩⟩⟩⟩⟩⟩ ⟨rfl, trivial⟩ rfl
        refine tri_regionD rfl mixed rfl (.run [] [] rfl (st_load_box1 rfl rfl rfl Try.isAgg26 rfl) (.run [] [] rfl (st_load_box rfl rfl rfl Try.isAgg44 Try.sizeOf44 (nle rfl)) (.run [4600] [] rfl (st_buildSlice rfl 4600 Try.underlying26 inf44 (nle rfl) (by decide) rfl rfl rfl (.cons .v (.cons .v (.cons .v (.cons .v .nil)))) (by decide) rfl (by decide) rfl (by decide) rfl) (.run [1400] [] rfl (st_append rfl 1400 (ib := 1400) (len := ((pvE out.reverse) ++ [[PV.v (.string e.user), PV.v (.int .i64 e.seq), PV.v (.int .i64 e.kind), PV.v (.string e.value)]]).length) rfl rfl (.row (len := (pvE out.reverse).length) (xs := pvE out.reverse) rfl rfl (.inl rfl)) (.give (len := 1) (xs := [[PV.v (.string e.user), PV.v (.int .i64 e.seq), PV.v (.int .i64 e.kind), PV.v (.string e.value)]]) rfl rfl) Try.underlying26 (sk Try.underlying26 rfl) inf44 rfl (by decide) (by decide) (by decide) List.length_append (by simp only [maxLen, List.length_append, List.length_map, List.length_cons, List.length_nil, List.length_take, List.length_drop, pvE_length, pvI_length, pvT_length]; omega) (by simp only [maxLen, List.length_append, List.length_map, List.length_cons, List.length_nil, List.length_take, List.length_drop, pvE_length, pvI_length, pvT_length]; omega)) (.run [] [] rfl (st_faddr_box rfl rfl Try.underlying44 rfl Try.sizeOf42 (by decide)) (.run [] [] rfl (st_faddr_box rfl rfl Try.underlying42 rfl Try.sizeOf9 (by decide)) (.run [] [] rfl (st_load_box1 rfl rfl rfl Try.isAgg9 rfl) (.run [] [] rfl (st_store_box rfl rfl rfl rfl rfl Try.sizeOf26 rfl (nle rfl)) (.run [] [] rfl (st_store_box rfl rfl rfl rfl rfl Try.sizeOf9 rfl (nle rfl)) (.run [] [] rfl (st_store_box rfl rfl rfl rfl rfl Try.sizeOf4 rfl (nle rfl)) .nil)))))))))) (by kernel_rfl) ?_
        refine ⟨rfl, ?_⟩
        rw [cstep_keep (fun hc => by rw [h4'] at hc; cases hc.1)]
        exact wk_mk ⟨rfl, ⟨rfl, ⟨rfl, ⟨rfl, ⟨rfl, ⟨rfl, trivial⟩⟩⟩⟩⟩⟩ ⟨rfl, ⟨rfl, ⟨(congrArg (fun x : List (List PV) => some [AV.sl 1400 0 x.length]) (pvE_consr out e)), ⟨rfl, ⟨rfl, trivial⟩⟩⟩⟩⟩ ⟨(congrArg (fun x => some (4, x)) (pvE_consr out e)), trivial⟩ rfl
      · have h4' := h4
        rcases bfc (decide (e.kind = 0)) with h5 | h5
        · have h5' := h5
          replace h5' := of_decide_eq_false h5'
          refine tri_region rfl rfl (.run [] [] rfl (st_eq (st_load_box1 rfl rfl rfl Try.isAgg4 rfl) (by exact congrArg (fun b => AV.p none (.v (.bool b))) h4)) (.run [] [] rfl (st_move rfl) (.run [] [] rfl (st_faddr_box rfl rfl Try.underlying44 rfl Try.sizeOf42 (by decide)) (.run [] [] rfl (st_faddr_box rfl rfl Try.underlying42 rfl Try.sizeOf2 (by decide)) (.run [] [] rfl (st_load_box1 rfl rfl rfl Try.isAgg2 rfl) (.run [] [] rfl (st_eq (st_eql rfl rfl rfl) (by exact congrArg (fun b => AV.p none (.v (.bool b))) h5)) (.run [] [] rfl (st_pick (t := true) rfl rfl) (.run [] [] rfl (st_move rfl) (.not rfl (.not rfl (.run [] [] rfl (st_pick (t := false) rfl rfl) .nil))))))))))) ?_
          refine tri_if (t := false) rfl (fun h => nomatch h) (fun _ => ?_)
          refine tri_skip ?_
          refine tri_wk (s' := mk [(3, .ptr 3 0), (5, .ptr 5 0), (7, .ptr 7 0), (8, .ptr 8 0), (9, .ptr 9 0), (12, .ptr 12 0), (18, .p none (.clo 171 [[PV.sl false 1 (pvI zs)]]))] [(3, [.p none (.sl false 4 (pvE l))]), (5, [.p none (.v (.bool b))]), (7, [.sl 1400 0 ((pvE out.reverse).length)]), (8, [.p none (.v (.string (lastU out)))]), (9, [.p none (.v (.bool (anyE out)))]), (12, [.p none (.v (.string e.user)), .p none (.v (.int .i64 e.seq)), .p none (.v (.int .i64 e.kind)), .p none (.v (.string e.value))])] [(1400, 4, pvE out.reverse)]) ?_ ?_
          · exact wk_mk ⟨rfl, ⟨rfl, ⟨rfl, ⟨rfl, ⟨rfl, ⟨rfl, ⟨rfl, trivial⟩⟩⟩⟩⟩⟩⟩ ⟨rfl, ⟨rfl, ⟨rfl, ⟨rfl, ⟨rfl, ⟨rfl, trivial⟩⟩⟩⟩⟩⟩ ⟨rfl, trivial⟩ rfl
          refine tri_regionD rfl mixed rfl (.run [] [] rfl (st_load_box1 rfl rfl rfl Try.isAgg26 rfl) (.run [] [] rfl (st_load_box rfl rfl rfl Try.isAgg44 Try.sizeOf44 (nle rfl)) (.run [4600] [] rfl (st_buildSlice rfl 4600 Try.underlying26 inf44 (nle rfl) (by decide) rfl rfl rfl (.cons .v (.cons .v (.cons .v (.cons .v .nil)))) (by decide) rfl (by decide) rfl (by decide) rfl) (.run [1400] [] rfl (st_append rfl 1400 (ib := 1400) (len := ((pvE out.reverse) ++ [[PV.v (.string e.user), PV.v (.int .i64 e.seq), PV.v (.int .i64 e.kind), PV.v (.string e.value)]]).length) rfl rfl (.row (len := (pvE out.reverse).length) (xs := pvE out.reverse) rfl rfl (.inl rfl)) (.give (len := 1) (xs := [[PV.v (.string e.user), PV.v (.int .i64 e.seq), PV.v (.int .i64 e.kind), PV.v (.string e.value)]]) rfl rfl) Try.underlying26 (sk Try.underlying26 rfl) inf44 rfl (by decide) (by decide) (by decide) List.length_append (by simp only [maxLen, List.length_append, List.length_map, List.length_cons, List.length_nil, List.length_take, List.length_drop, pvE_length, pvI_length, pvT_length]; omega) (by simp only [maxLen, List.length_append, List.length_map, List.length_cons, List.length_nil, List.length_take, List.length_drop, pvE_length, pvI_length, pvT_length]; omega)) (.run [] [] rfl (st_faddr_box rfl rfl Try.underlying44 rfl Try.sizeOf42 (by decide)) (.run [] [] rfl (st_faddr_box rfl rfl Try.underlying42 rfl Try.sizeOf9 (by decide)) (.run [] [] rfl (st_load_box1 rfl rfl rfl Try.isAgg9 rfl) (.run [] [] rfl (st_store_box rfl rfl rfl rfl rfl Try.sizeOf26 rfl (nle rfl)) (.run [] [] rfl (st_store_box rfl rfl rfl rfl rfl Try.sizeOf9 rfl (nle rfl)) (.run [] [] rfl (st_store_box rfl rfl rfl rfl rfl Try.sizeOf4 rfl (nle rfl)) .nil)))))))))) (by kernel_rfl) ?_
          refine ⟨rfl, ?_⟩
          rw [cstep_keep (fun hc => h5' hc.2.1)]
          exact wk_mk ⟨rfl, ⟨rfl, ⟨rfl, ⟨rfl, ⟨rfl, ⟨rfl, trivial⟩⟩⟩⟩⟩⟩ ⟨rfl, ⟨rfl, ⟨(congrArg (fun x : List (List PV) => some [AV.sl 1400 0 x.length]) (pvE_consr out e)), ⟨rfl, ⟨rfl, trivial⟩⟩⟩⟩⟩ ⟨(congrArg (fun x => some (4, x)) (pvE_consr out e)), trivial⟩ rfl
        · have h5' := h5
          replace h5' := of_decide_eq_true h5'
          refine tri_region rfl rfl (.run [] [] rfl (st_eq (st_load_box1 rfl rfl rfl Try.isAgg4 rfl) (by exact congrArg (fun b => AV.p none (.v (.bool b))) h4)) (.run [] [] rfl (st_move rfl) (.run [] [] rfl (st_faddr_box rfl rfl Try.underlying44 rfl Try.sizeOf42 (by decide)) (.run [] [] rfl (st_faddr_box rfl rfl Try.underlying42 rfl Try.sizeOf2 (by decide)) (.run [] [] rfl (st_load_box1 rfl rfl rfl Try.isAgg2 rfl) (.run [] [] rfl (st_eq (st_eql rfl rfl rfl) (by exact congrArg (fun b => AV.p none (.v (.bool b))) h5)) (.run [] [] rfl (st_pick (t := true) rfl rfl) (.run [] [] rfl (st_move rfl) (.run [] [] rfl (st_move rfl) (.run [] [] rfl (st_not (b := decide (e.user = (lastU out))) rfl rfl) (.run [] [] rfl (st_pick (t := true) rfl rfl) .nil))))))))))) ?_
          refine tri_if (t := (!(decide (e.user = (lastU out))))) rfl (fun h6 => ?_) (fun h6 => ?_)
          · skip
            replace h6 : ¬ (e.user = (lastU out)) := of_decide_eq_false (bnot_t h6)
            refine tri_exit ?_
            refine ⟨rfl, ?_⟩
            rw [cstep_drop h4' h5' ((older_is h1').trans (decide_eq_false h6))]
            exact wk_mk ⟨rfl, ⟨rfl, ⟨rfl, ⟨rfl, ⟨rfl, ⟨rfl, trivial⟩⟩⟩⟩⟩⟩ ⟨rfl, ⟨rfl, ⟨rfl, ⟨rfl, ⟨rfl, trivial⟩⟩⟩⟩⟩ ⟨rfl, trivial⟩ rfl
          · skip
            replace h6 : e.user = (lastU out) := of_decide_eq_true (bnot_f h6)
            refine tri_skip ?_
            refine tri_wk (s' := mk [(3, .ptr 3 0), (5, .ptr 5 0), (7, .ptr 7 0), (8, .ptr 8 0), (9, .ptr 9 0), (12, .ptr 12 0), (18, .p none (.clo 171 [[PV.sl false 1 (pvI zs)]]))] [(3, [.p none (.sl false 4 (pvE l))]), (5, [.p none (.v (.bool b))]), (7, [.sl 1400 0 ((pvE out.reverse).length)]), (8, [.p none (.v (.string (lastU out)))]), (9, [.p none (.v (.bool (anyE out)))]), (12, [.p none (.v (.string e.user)), .p none (.v (.int .i64 e.seq)), .p none (.v (.int .i64 e.kind)), .p none (.v (.string e.value))])] [(1400, 4, pvE out.reverse)]) ?_ ?_
            · exact wk_mk ⟨rfl, ⟨rfl, ⟨rfl, ⟨rfl, ⟨rfl, ⟨rfl, ⟨rfl, trivial⟩⟩⟩⟩⟩⟩⟩ ⟨rfl, ⟨rfl, ⟨rfl, ⟨rfl, ⟨rfl, ⟨rfl, trivial⟩⟩⟩⟩⟩⟩ ⟨rfl, trivial⟩ rfl
            refine tri_regionD rfl mixed rfl (.run [] [] rfl (st_load_box1 rfl rfl rfl Try.isAgg26 rfl) (.run [] [] rfl (st_load_box rfl rfl rfl Try.isAgg44 Try.sizeOf44 (nle rfl)) (.run [4600] [] rfl (st_buildSlice rfl 4600 Try.underlying26 inf44 (nle rfl) (by decide) rfl rfl rfl (.cons .v (.cons .v (.cons .v (.cons .v .nil)))) (by decide) rfl (by decide) rfl (by decide) rfl) (.run [1400] [] rfl (st_append rfl 1400 (ib := 1400) (len := ((pvE out.reverse) ++ [[PV.v (.string e.user), PV.v (.int .i64 e.seq), PV.v (.int .i64 e.kind), PV.v (.string e.value)]]).length) rfl rfl (.row (len := (pvE out.reverse).length) (xs := pvE out.reverse) rfl rfl (.inl rfl)) (.give (len := 1) (xs := [[PV.v (.string e.user), PV.v (.int .i64 e.seq), PV.v (.int .i64 e.kind), PV.v (.string e.value)]]) rfl rfl) Try.underlying26 (sk Try.underlying26 rfl) inf44 rfl (by decide) (by decide) (by decide) List.length_append (by simp only [maxLen, List.length_append, List.length_map, List.length_cons, List.length_nil, List.length_take, List.length_drop, pvE_length, pvI_length, pvT_length]; omega) (by simp only [maxLen, List.length_append, List.length_map, List.length_cons, List.length_nil, List.length_take, List.length_drop, pvE_length, pvI_length, pvT_length]; omega)) (.run [] [] rfl (st_faddr_box rfl rfl Try.underlying44 rfl Try.sizeOf42 (by decide)) (.run [] [] rfl (st_faddr_box rfl rfl Try.underlying42 rfl Try.sizeOf9 (by decide)) (.run [] [] rfl (st_load_box1 rfl rfl rfl Try.isAgg9 rfl) (.run [] [] rfl (st_store_box rfl rfl rfl rfl rfl Try.sizeOf26 rfl (nle rfl)) (.run [] [] rfl (st_store_box rfl rfl rfl rfl rfl Try.sizeOf9 rfl (nle rfl)) (.run [] [] rfl (st_store_box rfl rfl rfl rfl rfl Try.sizeOf4 rfl (nle rfl)) .nil)))))))))) (by kernel_rfl) ?_
            refine ⟨rfl, ?_⟩
            rw [cstep_keep (fun hc => by rw [((older_is h1').trans (decide_eq_true h6))] at hc; cases hc.2.2)]
            exact wk_mk ⟨rfl, ⟨rfl, ⟨rfl, ⟨rfl, ⟨rfl, ⟨rfl, trivial⟩⟩⟩⟩⟩⟩ ⟨rfl, ⟨rfl, ⟨(congrArg (fun x : List (List PV) => some [AV.sl 1400 0 x.length]) (pvE_consr out e)), ⟨rfl, ⟨rfl, trivial⟩⟩⟩⟩⟩ ⟨(congrArg (fun x => some (4, x)) (pvE_consr out e)), trivial⟩ rfl
  · skip
    refine tr_region rfl (.run [] [] rfl (st_load_box1 rfl rfl rfl Try.isAgg26 rfl) (.run [] [] rfl (st_move rfl) (.run [1700] [] rfl (st_callS rfl 1700 (X := []) en74 rfl (.cons (.one .sl) (.cons (.one .sl) .nil)) (by decide) all_nil (con_frz (by have h := needed_con l s (by omega) (by omega) hok; rw [← hzs] at h; exact h)) rfl (nle rfl)) (.run [1800] [] rfl (st_callS rfl 1800 (X := []) en141 rfl (.cons (.one .sl) .nil) (by decide) all_nil (backward_con zs) rfl (nle rfl)) .nil)))) ?_
    exact wk_mk ⟨rfl, ⟨rfl, ⟨rfl, ⟨rfl, ⟨rfl, ⟨rfl, trivial⟩⟩⟩⟩⟩⟩ ⟨rfl, ⟨rfl, ⟨rfl, ⟨rfl, ⟨rfl, trivial⟩⟩⟩⟩⟩ ⟨rfl, trivial⟩ rfl
  · show Tr _ _ _ _ (mk [(3, .ptr 3 0), (5, .ptr 5 0), (7, .ptr 7 0), (8, .ptr 8 0), (9, .ptr 9 0), (18, .p none (.clo 171 [[PV.sl false 1 (pvI zs)]]))] [(3, [.p none (.sl false 4 (pvE l))]), (5, [.p none (.v (.bool b))]), (7, [.sl 1400 0 ((pvE (compU l b zs zs.length).reverse).length)]), (8, [.p none (.v (.string (lastU (compU l b zs zs.length))))]), (9, [.p none (.v (.bool (anyE (compU l b zs zs.length))))])] [(1400, 4, pvE (compU l b zs zs.length).reverse)]) _
    have hcl := compU_len l b zs (k := zs.length) (Nat.le_refl _)
    have hle5 := pvE_length (compU l b zs zs.length).reverse
    have hle6 : (compU l b zs zs.length).reverse.length = (compU l b zs zs.length).length := List.length_reverse
    refine tr_seq ?_
    refine tr_region rfl (.run [] [] rfl (st_load_box1 rfl rfl rfl Try.isAgg26 rfl) (.run [1400] [] rfl (st_call rfl 5200 (X := [1400]) en142 rfl (.val nod) (.cons (.one (.own (len := (pvE (compU l b zs zs.length).reverse).length) (xs := pvE (compU l b zs zs.length).reverse) rfl rfl)) .nil) (by decide) (all_cons rfl all_nil) (.keep (xs := pvE (compU l b zs zs.length).reverse) rfl (FlatP.nf (pvE_flat _)) .nil) (reverseE_con ((compU l b zs zs.length).reverse) (by omega)) rfl rfl (nle rfl)) .nil)) ?_
    refine tr_seq ?_
    refine tr_region rfl (.run [] [] rfl (st_load_box1 rfl rfl rfl Try.isAgg26 rfl) (.run [] [] rfl (st_assign rfl) .nil)) ?_
    refine tr_ret ?_
    exact endsSG [_] [1400] (.cons (.tmp rfl) .nil) (.cons (.one (.of (.row (len := (pvE (compU l b zs zs.length).reverse).length) (xs := pvE (compU l b zs zs.length)) (congrArg (fun x => some (4, pvE x)) (List.reverse_reverse _)) (by rw [hle5, hle6, pvE_length])))) .nil) (by decide) trivial
set_option maxRecDepth 1000000 in
set_option maxHeartbeats 2000000 in
theorem specCompacted_con (l : List Ent) (s : List Int) (b : Bool) (hl : l.length ≤ 2000000) (hs : s.length ≤ 2000000) : Con Try.prog 33 [.one (PV.sl false 4 (pvE l)), .one (PV.sl false 1 (pvI s)), .one (PV.v (.bool b))] [] [.one (.sl true 4 (pvE (compactedF l s b)))] := by
  refine con_of_tr Try.func33 rfl rfl rfl rfl ?_
  have hle := pvE_length l
  have hls := pvI_length s
  refine tr_seq ?_
  refine tr_region rfl (.run [] [] rfl (st_assign rfl) .nil) ?_
  refine tr_seq ?_
  refine tr_seq ?_
  rcases bfc (!(entsOk l)) with h1 | h1
  · have h1' := h1
    replace h1' : (entsOk l) = true := bnot_f h1'
    refine tr_region rfl (.run [] [] rfl (st_move rfl) (.run [800] [] rfl (st_call rfl 800 (X := []) en31 rfl (.val nod) (.cons (.one (.bor (.sl nod))) .nil) (by decide) all_nil .nil (specEntriesOk_con l (by omega)) rfl rfl (nle rfl)) (.run [] [] rfl (st_eq (st_not (b := entsOk l) rfl rfl) (by exact congrArg (fun b => AV.p none (.v (.bool b))) h1)) (.run [] [] rfl (st_move rfl) (.run [] [] rfl (st_move rfl) (.run [1200] [] rfl (st_call rfl 1200 (X := []) en32 rfl (.val nod) (.cons (.one (.bor (.sl nod))) .nil) (by decide) all_nil .nil (specSnapsOk_con s (by omega)) rfl rfl (nle rfl)) (.run [] [] rfl (st_not (b := snapsOk s) rfl rfl) (.run [] [] rfl (st_pick (t := false) rfl rfl) .nil)))))))) ?_
    refine tr_if (t := (!(snapsOk s))) rfl (fun h2 => ?_) (fun h2 => ?_)
    · skip
      replace h2 : (snapsOk s) = false := bnot_t h2
      refine tr_seq ?_
      have hne : compactedF l s b = [] := by rw [compactedF, if_neg (by simp [h1', h2])]
      rw [hne, show pvE ([] : List Ent) = [] from rfl]
      refine tr_region rfl (.run [] [] rfl (st_assign rfl) .nil) ?_
      refine tr_ret ?_
      exact ends [_] [] (.cons (.tmp rfl) .nil) (.cons (.one (.nil _) (.sl _ _ (fun _ h => nomatch h))) .nil) (by decide) trivial
    · skip
      replace h2 : (snapsOk s) = true := bnot_f h2
      refine tr_skip ?_
      refine tr_seq ?_
      have hne : compactedF l s b = compU l b (needF l (pointsF s) l.length) (needF l (pointsF s) l.length).length := by rw [compactedF, if_pos (by simp [h1', h2])]
      rw [hne]
      refine tr_region rfl (.run [] [] rfl (st_move rfl) (.run [] [] rfl (st_move rfl) (.run [] [] rfl (st_move rfl) (.run [1800] [] rfl (st_call rfl 1800 (X := []) en85 rfl (.val nod) (.cons (.one (.bor (.sl nod))) (.cons (.one (.bor (.sl nod))) (.cons (.one (.bor .v)) .nil))) (by decide) all_nil .nil (l14Compacted_con l s b _ rfl (by omega) (by omega)) rfl rfl (nle rfl)) (.run [] [] rfl (st_assign rfl) .nil))))) ?_
      refine tr_ret ?_
      exact ends [_] [1800] (.cons (.tmp rfl) .nil) (.cons (.one (.row (len := (pvE (compU l b (needF l (pointsF s) l.length) (needF l (pointsF s) l.length).length)).length) (xs := pvE (compU l b (needF l (pointsF s) l.length) (needF l (pointsF s) l.length).length)) rfl rfl) (.sl _ _ (FlatP.clean (pvE_flat _)))) .nil) (by decide) trivial
  · have h1' := h1
    replace h1' : (entsOk l) = false := bnot_t h1'
    refine tr_region rfl (.run [] [] rfl (st_move rfl) (.run [800] [] rfl (st_call rfl 800 (X := []) en31 rfl (.val nod) (.cons (.one (.bor (.sl nod))) .nil) (by decide) all_nil .nil (specEntriesOk_con l (by omega)) rfl rfl (nle rfl)) (.run [] [] rfl (st_eq (st_not (b := entsOk l) rfl rfl) (by exact congrArg (fun b => AV.p none (.v (.bool b))) h1)) (.run [] [] rfl (st_move rfl) (.not rfl (.not rfl (.not rfl (.run [] [] rfl (st_pick (t := true) rfl rfl) .nil)))))))) ?_
    refine tr_if (t := true) rfl (fun _ => ?_) (fun h => nomatch h)
    refine tr_seq ?_
    have hne : compactedF l s b = [] := by rw [compactedF, if_neg (by simp [h1'])]
    rw [hne, show pvE ([] : List Ent) = [] from rfl]
    refine tr_region rfl (.run [] [] rfl (st_assign rfl) .nil) ?_
    refine tr_ret ?_
    exact ends [_] [] (.cons (.tmp rfl) .nil) (.cons (.one (.nil _) (.sl _ _ (fun _ h => nomatch h))) .nil) (by decide) trivial
set_option maxRecDepth 1000000 in
set_option maxHeartbeats 2000000 in
theorem progCompacted_con (l : List Ent) (s : List Int) (b : Bool) (hl : l.length ≤ 2000000) (hs : s.length ≤ 2000000) : ConSG none Try.prog 29 [.one (PV.sl false 4 (pvE l)), .one (PV.sl false 1 (pvI s)), .one (PV.v (.bool b))] [] [.one (.sl true 4 (pvE (compactedF l s b)))] := by
  refine con_of_trSG Try.func29 rfl rfl rfl rfl ?_
  have hle := pvE_length l
  have hls := pvI_length s
  refine tr_seq ?_
  refine tr_region rfl (.run [] [] rfl (st_assign rfl) .nil) ?_
  refine tr_seq ?_
  refine tr_seq ?_
  rcases bfc (!(entsOk l)) with h1 | h1
  · have h1' := h1
    replace h1' : (entsOk l) = true := bnot_f h1'
    refine tr_region rfl (.run [] [] rfl (st_move rfl) (.run [800] [] rfl (st_call rfl 800 (X := []) en38 rfl (.val nod) (.cons (.one (.bor (.sl nod))) .nil) (by decide) all_nil .nil (entriesOk_con l (by omega)) rfl rfl (nle rfl)) (.run [] [] rfl (st_eq (st_not (b := entsOk l) rfl rfl) (by exact congrArg (fun b => AV.p none (.v (.bool b))) h1)) (.run [] [] rfl (st_move rfl) (.run [] [] rfl (st_move rfl) (.run [1200] [] rfl (st_call rfl 1200 (X := []) en73 rfl (.val nod) (.cons (.one (.bor (.sl nod))) .nil) (by decide) all_nil .nil (snapsOk_con s (by omega)) rfl rfl (nle rfl)) (.run [] [] rfl (st_not (b := snapsOk s) rfl rfl) (.run [] [] rfl (st_pick (t := false) rfl rfl) .nil)))))))) ?_
    refine tr_if (t := (!(snapsOk s))) rfl (fun h2 => ?_) (fun h2 => ?_)
    · skip
      replace h2 : (snapsOk s) = false := bnot_t h2
      refine tr_seq ?_
      have hne : compactedF l s b = [] := by rw [compactedF, if_neg (by simp [h1', h2])]
      rw [hne, show pvE ([] : List Ent) = [] from rfl]
      refine tr_region rfl (.run [] [] rfl (st_assign rfl) .nil) ?_
      refine tr_ret ?_
      exact endsSG [_] [] (.cons (.tmp rfl) .nil) (.cons (.one (.of (.nil _))) .nil) (by decide) trivial
    · skip
      replace h2 : (snapsOk s) = true := bnot_f h2
      refine tr_skip ?_
      refine tr_seq ?_
      have hne : compactedF l s b = compU l b (needF l (pointsF s) l.length) (needF l (pointsF s) l.length).length := by rw [compactedF, if_pos (by simp [h1', h2])]
      rw [hne]
      refine tr_region rfl (.run [] [] rfl (st_move rfl) (.run [] [] rfl (st_move rfl) (.run [] [] rfl (st_move rfl) (.run [1800] [] rfl (st_callSG (.inr rfl) rfl 1800 (X := []) en81 rfl (.cons (.one .sl) (.cons (.one .sl) (.cons (.one .v) .nil))) (by decide) all_nil .nil (compacted_con l s b _ rfl (by omega) (by omega) (by assumption)) rfl (nle rfl)) (.run [] [] rfl (st_assign rfl) .nil))))) ?_
      refine tr_ret ?_
      exact endsSG [_] [1800] (.cons (.tmp rfl) .nil) (.cons (.one (.of (.row (len := (pvE (compU l b (needF l (pointsF s) l.length) (needF l (pointsF s) l.length).length)).length) (xs := pvE (compU l b (needF l (pointsF s) l.length) (needF l (pointsF s) l.length).length)) rfl rfl))) .nil) (by decide) trivial
  · have h1' := h1
    replace h1' : (entsOk l) = false := bnot_t h1'
    refine tr_region rfl (.run [] [] rfl (st_move rfl) (.run [800] [] rfl (st_call rfl 800 (X := []) en38 rfl (.val nod) (.cons (.one (.bor (.sl nod))) .nil) (by decide) all_nil .nil (entriesOk_con l (by omega)) rfl rfl (nle rfl)) (.run [] [] rfl (st_eq (st_not (b := entsOk l) rfl rfl) (by exact congrArg (fun b => AV.p none (.v (.bool b))) h1)) (.run [] [] rfl (st_move rfl) (.not rfl (.not rfl (.not rfl (.run [] [] rfl (st_pick (t := true) rfl rfl) .nil)))))))) ?_
    refine tr_if (t := true) rfl (fun _ => ?_) (fun h => nomatch h)
    refine tr_seq ?_
    have hne : compactedF l s b = [] := by rw [compactedF, if_neg (by simp [h1'])]
    rw [hne, show pvE ([] : List Ent) = [] from rfl]
    refine tr_region rfl (.run [] [] rfl (st_assign rfl) .nil) ?_
    refine tr_ret ?_
    exact endsSG [_] [] (.cons (.tmp rfl) .nil) (.cons (.one (.of (.nil _))) .nil) (by decide) trivial
theorem progCompacted_con2 (l : List Ent) (s : List Int) (b : Bool) (hl : l.length ≤ 2000000) (hs : s.length ≤ 2000000) : Con Try.prog 29 [.one (PV.sl false 4 (pvE l)), .one (PV.sl false 1 (pvI s)), .one (.v (.bool b))] [] [.one (.sl true 4 (pvE (compactedF l s b)))] := con_of_SG (progCompacted_con l s b hl hs) (.sl _ _ (FlatP.clean (pvE_flat _)))
end Go.Rl
namespace Go.Rl
open Go.Proofs
theorem en33 : ∀ vs w, (callFunc 33 vs).run Try.prog w = .ok (.enter 33 vs) w := enters Try.func33 (by decide) rfl
theorem en29 : ∀ vs w, (callFunc 29 vs).run Try.prog w = .ok (.enter 29 vs) w := enters Try.func29 (by decide) rfl
end Go.Rl
namespace Go.Rl
def pvRd (x : Value × Nat) : List (List PV) := [[.v x.1, .v (.int .i64 x.2)]]
theorem pvRd_flat (x : Value × Nat) : FlatP (pvRd x) := fun es he p hp => by
  simp only [pvRd, List.mem_singleton] at he
  subst he
  simp only [List.mem_cons, List.not_mem_nil, or_false] at hp
  rcases hp with rfl | rfl <;> rfl
theorem pvRd_clean {a b : Value} : ∀ p ∈ ([.v a, .v b] : List PV), Clean p := fun p hp => by
  simp only [List.mem_cons, List.not_mem_nil, or_false] at hp
  rcases hp with rfl | rfl <;> exact .v _
/-- The next byte, and the place behind it. -/
def nextV (bs : List Nat) (p : Nat) : Nat := bs.getD p 0
def nextP (bs : List Nat) (p : Nat) : Nat := if p < bs.length then p + 1 else p
theorem next_end {bs : List Nat} {p : Nat} (h : bs.length ≤ p) : nextV bs p = 0 ∧ nextP bs p = p := by
  refine ⟨?_, by rw [nextP, if_neg (by omega)]⟩
  simp [nextV, List.getD_eq_getElem?_getD, List.getElem?_eq_none h]
theorem next_in {bs : List Nat} {p : Nat} {b : Nat} (h : bs[p]? = some b) : nextV bs p = b ∧ nextP bs p = p + 1 := by
  refine ⟨by simp [nextV, List.getD_eq_getElem?_getD, h], by rw [nextP, if_pos (List.getElem?_eq_some_iff.1 h).1]⟩
theorem nextP_le {bs : List Nat} {p : Nat} (h : p ≤ bs.length) : nextP bs p ≤ bs.length := by unfold nextP; split <;> omega
theorem code_bytes {γ : Gho} {cv : Value} {bs : List Nat} (h : CodeAt γ cv bs) : ∀ b ∈ bs, b < 256 := fun b hb => by
  obtain ⟨A, c, _, h⟩ := h
  rcases h with rfl | ⟨k, off, cur, ty, fz, _, _, h⟩
  · cases hb
  · obtain ⟨i, hi⟩ := List.getElem?_of_mem hb
    exact (h i b hi).1
theorem nextV_lt {bs : List Nat} (h : ∀ b ∈ bs, b < 256) (p : Nat) : nextV bs p < 256 := by
  unfold nextV
  rw [List.getD_eq_getElem?_getD]
  cases hp : bs[p]? with
  | none => decide
  | some b => exact h b (List.mem_of_getElem? hp)
def belowV (bs : List Nat) (p n : Nat) : Nat := if n ≤ 1 then 0 else if n ≤ 256 then nextV bs p % n else (nextV bs p * 256 + nextV bs (nextP bs p)) % n
def belowP (bs : List Nat) (p n : Nat) : Nat := if n ≤ 1 then p else if n ≤ 256 then nextP bs p else nextP bs (nextP bs p)
theorem belowP_le {bs : List Nat} {p n : Nat} (h : p ≤ bs.length) : belowP bs p n ≤ bs.length := by
  unfold belowP
  split
  · exact h
  · split
    · exact nextP_le h
    · exact nextP_le (nextP_le h)
theorem belowV_lt {bs : List Nat} {p n : Nat} (h : 0 < n) : belowV bs p n < n := by
  unfold belowV
  split
  · exact h
  · split <;> exact Nat.mod_lt _ h
theorem below_1 {bs : List Nat} {p n : Nat} (h : n ≤ 1) : belowV bs p n = 0 ∧ belowP bs p n = p := by simp [belowV, belowP, h]
theorem below_2 {bs : List Nat} {p n : Nat} (h1 : ¬ n ≤ 1) (h : n ≤ 256) : belowV bs p n = nextV bs p % n ∧ belowP bs p n = nextP bs p := by simp [belowV, belowP, h, h1]
theorem below_3 {bs : List Nat} {p n : Nat} (h1 : ¬ n ≤ 1) (h : ¬ n ≤ 256) : belowV bs p n = (nextV bs p * 256 + nextV bs (nextP bs p)) % n ∧ belowP bs p n = nextP bs (nextP bs p) := by simp [belowV, belowP, h, h1]
/-- A word of eight bytes. -/
def wordStep (x : Int) (v : Nat) : Int := bitsOf .or .u64 (IntKind.u64.wrap (x * 2 ^ min (8 : Int).toNat IntKind.u64.bits)) (IntKind.u64.wrap (v : Int))
def wordF (bs : List Nat) : Nat → Int → Nat → Int × Nat
  | 0, x, p => (x, p)
  | n + 1, x, p => wordF bs n (wordStep x (nextV bs p)) (nextP bs p)
theorem wordF_le {bs : List Nat} : ∀ (n : Nat) (x : Int) (p : Nat), p ≤ bs.length → (wordF bs n x p).2 ≤ bs.length
  | 0, _, _, h => h
  | n + 1, x, p, h => wordF_le n _ _ (nextP_le h)
def wordV (bs : List Nat) (p : Nat) : Int := (wordF bs 8 0 p).1
def wordP (bs : List Nat) (p : Nat) : Nat := (wordF bs 8 0 p).2
theorem wordP_le {bs : List Nat} {p : Nat} (h : p ≤ bs.length) : wordP bs p ≤ bs.length := wordF_le 8 0 p h
def nearV (bs : List Nat) (p : Nat) (low high : Int) : Int :=
  if belowV bs p 8 = 0 then low else if belowV bs p 8 = 1 then high else if high < low then low
  else IntKind.i64.wrap (low + IntKind.i64.wrap (((wordV bs (belowP bs p 8)).fdiv (2 ^ min (1 : Int).toNat IntKind.u64.bits)).tmod (IntKind.u64.wrap (high - low + 1))))
def nearP (bs : List Nat) (p : Nat) (low high : Int) : Nat :=
  if belowV bs p 8 = 0 then belowP bs p 8 else if belowV bs p 8 = 1 then belowP bs p 8 else if high < low then belowP bs p 8 else wordP bs (belowP bs p 8)
theorem near_a {bs : List Nat} {p : Nat} {low high : Int} (h : belowV bs p 8 = 0) : nearV bs p low high = low ∧ nearP bs p low high = belowP bs p 8 := by simp [nearV, nearP, h]
theorem near_b {bs : List Nat} {p : Nat} {low high : Int} (h : belowV bs p 8 = 1) : nearV bs p low high = high ∧ nearP bs p low high = belowP bs p 8 := by simp [nearV, nearP, h]
theorem near_c {bs : List Nat} {p : Nat} {low high : Int} (h0 : belowV bs p 8 ≠ 0) (h1 : belowV bs p 8 ≠ 1) (h : high < low) : nearV bs p low high = low ∧ nearP bs p low high = belowP bs p 8 := by simp [nearV, nearP, h, h0, h1]
theorem near_d {bs : List Nat} {p : Nat} {low high : Int} (h0 : belowV bs p 8 ≠ 0) (h1 : belowV bs p 8 ≠ 1) (h : ¬ high < low) : nearV bs p low high = IntKind.i64.wrap (low + IntKind.i64.wrap (((wordV bs (belowP bs p 8)).fdiv (2 ^ min (1 : Int).toNat IntKind.u64.bits)).tmod (IntKind.u64.wrap (high - low + 1)))) ∧ nearP bs p low high = wordP bs (belowP bs p 8) := by
  simp only [nearV, nearP, if_neg h0, if_neg h1, if_neg h, and_self]
theorem nearP_le {bs : List Nat} {p : Nat} {low high : Int} (h : p ≤ bs.length) : nearP bs p low high ≤ bs.length := by
  have h1 := belowP_le (n := 8) h
  unfold nearP
  split
  · exact h1
  · split
    · exact h1
    · split
      · exact h1
      · exact wordP_le h1
def onceV (bs : List Nat) (p n : Nat) : Bool := decide (belowV bs p n = n - 1)
def offL (low high : Int) : List Int := [low - 1, high + 1, -9223372036854775808, 9223372036854775807]
def offV (bs : List Nat) (p : Nat) (low high : Int) : Int :=
  if onceV bs p 24 = true then (offL low high).getD (belowV bs (belowP bs p 24) 4) 0 else nearV bs (belowP bs p 24) low high
def offP (bs : List Nat) (p : Nat) (low high : Int) : Nat :=
  if onceV bs p 24 = true then belowP bs (belowP bs p 24) 4 else nearP bs (belowP bs p 24) low high
theorem offP_le {bs : List Nat} {p : Nat} {low high : Int} (h : p ≤ bs.length) : offP bs p low high ≤ bs.length := by
  unfold offP
  split
  · exact belowP_le (belowP_le h)
  · exact nearP_le (belowP_le h)
theorem getD_some {α : Type} {l : List α} {k : Nat} {d : α} (h : k < l.length) : l[k]? = some (l.getD k d) := by
  rw [List.getD_eq_getElem?_getD, List.getElem?_eq_getElem h]
  rfl
def usersL : List ByteArray := [⟨#[97]⟩, ⟨#[98]⟩, ⟨#[97, 98]⟩, ⟨#[97, 98, 99]⟩, ⟨#[97, 98, 100]⟩, ⟨#[107, 101, 121]⟩, ⟨#[107, 101, 121, 49]⟩, ⟨#[107, 101, 121, 50]⟩, ⟨#[122, 122]⟩, ⟨#[97, 0]⟩]
def userV (bs : List Nat) (p : Nat) : ByteArray := usersL.getD (belowV bs p 10) ⟨#[]⟩
def userP (bs : List Nat) (p : Nat) : Nat := belowP bs p 10
theorem user_get (bs : List Nat) (p : Nat) : usersL[belowV bs p 10]? = some (userV bs p) := getD_some (belowV_lt (n := 10) (by decide))
theorem off_get (bs : List Nat) (p : Nat) (low high : Int) : (offL low high)[belowV bs p 4]? = some ((offL low high).getD (belowV bs p 4) 0) := getD_some (belowV_lt (n := 4) (by decide))
end Go.Rl
namespace Go.Rl
section
variable {X : List (List PV)} {k : Nat} {z : List PV}
/-- How long a row is when its k-th element is gone. -/
abbrev delL (X : List (List PV)) (k : Nat) : Nat := k + (X.length - (k + 1))
end
/-! #### search -/
/-- How many stand ahead: where p, true of a beginning, turns false. -/
def cntF {α : Type} (p : α → Bool) (l : List α) : Nat := (l.takeWhile p).length
/-- p is true of a beginning alone. -/
def MonoP {α : Type} (p : α → Bool) (l : List α) : Prop := ∀ (i j : Nat) x y, i ≤ j → l[i]? = some x → l[j]? = some y → p y = true → p x = true
theorem cnt_at {α : Type} {p : α → Bool} : ∀ {l : List α} {i : Nat}, i ≤ l.length → (∀ (j : Nat) x, j < i → l[j]? = some x → p x = true) → (∀ x, l[i]? = some x → p x = false) → cntF p l = i
  | [], i, h, _, _ => by simp at h; subst h; rfl
  | a :: l, 0, _, _, h => by
    have := h a rfl
    simp [cntF, List.takeWhile_cons, this]
  | a :: l, i + 1, hi, h1, h2 => by
    have ha := h1 0 a (by omega) rfl
    have ih := cnt_at (p := p) (l := l) (i := i) (by simpa using hi) (fun j x hj hx => h1 (j + 1) x (by omega) (by simpa using hx)) (fun x hx => h2 x (by simpa using hx))
    simp only [cntF, List.takeWhile_cons, ha, if_true, List.length_cons] at ih ⊢
    omega
/-- The two bounds of a search by halves. -/
def Halves {α : Type} (p : α → Bool) (l : List α) (i j : Nat) : Prop := (∀ (k : Nat) x, k < i → l[k]? = some x → p x = true) ∧ ∀ (k : Nat) x, j ≤ k → l[k]? = some x → p x = false
end Go.Rl
namespace Go.Rl
def pvU (l : List Int) : List (List PV) := l.map fun n => [.v (.int .u8 n)]
theorem pvU_length (l : List Int) : (pvU l).length = l.length := by simp [pvU]
def bytesL (bs : List Nat) : Nat → List Int → Nat → List Int × Nat
  | 0, l, p => (l, p)
  | n + 1, l, p => bytesL bs n (l ++ [IntKind.u8.wrap ((belowV bs p 256 : Nat) : Int)]) (belowP bs p 256)
theorem bytesL_le {bs : List Nat} : ∀ (n : Nat) (l : List Int) (p : Nat), p ≤ bs.length → (bytesL bs n l p).2 ≤ bs.length
  | 0, _, _, h => h
  | n + 1, _, _, h => bytesL_le n _ _ (belowP_le h)
theorem bytesL_go {bs : List Nat} {n : Nat} {l : List Int} {p : Nat} {z : List Int × Nat} (h : 0 < n) (he : bytesL bs n l p = z) : bytesL bs (n - 1) (l ++ [IntKind.u8.wrap ((belowV bs p 256 : Nat) : Int)]) (belowP bs p 256) = z := by
  obtain ⟨j, rfl⟩ : ∃ j, n = j + 1 := ⟨n - 1, by omega⟩
  exact he
def bytesR (bs : List Nat) (p most : Nat) : List Int × Nat := bytesL bs (belowV bs p (most + 1)) [] (belowP bs p (most + 1))
def bytesV (bs : List Nat) (p most : Nat) : ByteArray := strOf (bytesR bs p most).1
def bytesP (bs : List Nat) (p most : Nat) : Nat := (bytesR bs p most).2
theorem bytesP_le {bs : List Nat} {p most : Nat} (h : p ≤ bs.length) : bytesP bs p most ≤ bs.length := bytesL_le _ _ _ (belowP_le h)
def valuesL : List ByteArray := [⟨#[]⟩, ⟨#[49]⟩, ⟨#[50]⟩, ⟨#[118, 97, 108, 117, 101]⟩, ⟨#[118, 118]⟩]
def valueV (bs : List Nat) (p : Nat) : ByteArray := valuesL.getD (belowV bs p 5) ⟨#[]⟩
theorem value_get (bs : List Nat) (p : Nat) : valuesL[belowV bs p 5]? = some (valueV bs p) := getD_some (belowV_lt (n := 5) (by decide))
/-! #### keys -/
def key0 (bs : List Nat) (p : Nat) : Ent := ⟨userV bs p, nearV bs (userP bs p) 0 12, ((belowV bs (nearP bs (userP bs p) 0 12) 2 : Nat) : Int), ⟨#[]⟩⟩
def key0P (bs : List Nat) (p : Nat) : Nat := belowP bs (nearP bs (userP bs p) 0 12) 2
def keyV (bs : List Nat) (p : Nat) : Ent :=
  if belowV bs (key0P bs p) 24 = 0 then { key0 bs p with seq := offV bs (belowP bs (key0P bs p) 24) 0 1000000000000 }
  else if belowV bs (key0P bs p) 24 = 1 then { key0 bs p with kind := offV bs (belowP bs (key0P bs p) 24) 0 1 }
  else if belowV bs (key0P bs p) 24 = 2 then { key0 bs p with user := bytesV bs (belowP bs (key0P bs p) 24) 45 }
  else key0 bs p
def keyP (bs : List Nat) (p : Nat) : Nat :=
  if belowV bs (key0P bs p) 24 = 0 then offP bs (belowP bs (key0P bs p) 24) 0 1000000000000
  else if belowV bs (key0P bs p) 24 = 1 then offP bs (belowP bs (key0P bs p) 24) 0 1
  else if belowV bs (key0P bs p) 24 = 2 then bytesP bs (belowP bs (key0P bs p) 24) 45
  else belowP bs (key0P bs p) 24
theorem key0P_le {bs : List Nat} {p : Nat} (h : p ≤ bs.length) : key0P bs p ≤ bs.length := belowP_le (nearP_le (belowP_le h))
theorem keyP_le {bs : List Nat} {p : Nat} (h : p ≤ bs.length) : keyP bs p ≤ bs.length := by
  have h2 := belowP_le (n := 24) (key0P_le h)
  unfold keyP
  split
  · exact offP_le h2
  · split
    · exact offP_le h2
    · split
      · exact bytesP_le h2
      · exact h2
theorem key_0 {bs : List Nat} {p : Nat} (h : belowV bs (key0P bs p) 24 = 0) : keyV bs p = { key0 bs p with seq := offV bs (belowP bs (key0P bs p) 24) 0 1000000000000 } ∧ keyP bs p = offP bs (belowP bs (key0P bs p) 24) 0 1000000000000 := by simp [keyV, keyP, h]
theorem key_1 {bs : List Nat} {p : Nat} (h0 : ¬ belowV bs (key0P bs p) 24 = 0) (h : belowV bs (key0P bs p) 24 = 1) : keyV bs p = { key0 bs p with kind := offV bs (belowP bs (key0P bs p) 24) 0 1 } ∧ keyP bs p = offP bs (belowP bs (key0P bs p) 24) 0 1 := by simp [keyV, keyP, h]
theorem key_2 {bs : List Nat} {p : Nat} (h0 : ¬ belowV bs (key0P bs p) 24 = 0) (h1 : ¬ belowV bs (key0P bs p) 24 = 1) (h : belowV bs (key0P bs p) 24 = 2) : keyV bs p = { key0 bs p with user := bytesV bs (belowP bs (key0P bs p) 24) 45 } ∧ keyP bs p = bytesP bs (belowP bs (key0P bs p) 24) 45 := by simp [keyV, keyP, h]
theorem key_3 {bs : List Nat} {p : Nat} (h0 : ¬ belowV bs (key0P bs p) 24 = 0) (h1 : ¬ belowV bs (key0P bs p) 24 = 1) (h2 : ¬ belowV bs (key0P bs p) 24 = 2) : keyV bs p = key0 bs p ∧ keyP bs p = belowP bs (key0P bs p) 24 := by simp [keyV, keyP, h0, h1, h2]
/-! #### entries -/
def ent0 (bs : List Nat) (p : Nat) : Ent := { keyV bs p with value := valueV bs (keyP bs p) }
def ent0P (bs : List Nat) (p : Nat) : Nat := belowP bs (keyP bs p) 5
def entryV (bs : List Nat) (p : Nat) : Ent := if (ent0 bs p).kind = 0 then (if onceV bs (ent0P bs p) 12 = true then ent0 bs p else { ent0 bs p with value := ⟨#[]⟩ }) else ent0 bs p
def entryP (bs : List Nat) (p : Nat) : Nat := if (ent0 bs p).kind = 0 then belowP bs (ent0P bs p) 12 else ent0P bs p
theorem ent0P_le {bs : List Nat} {p : Nat} (h : p ≤ bs.length) : ent0P bs p ≤ bs.length := belowP_le (keyP_le h)
theorem entryP_le {bs : List Nat} {p : Nat} (h : p ≤ bs.length) : entryP bs p ≤ bs.length := by
  unfold entryP
  split
  · exact belowP_le (ent0P_le h)
  · exact ent0P_le h
theorem ent_0 {bs : List Nat} {p : Nat} (h : (ent0 bs p).kind = 0) (h2 : onceV bs (ent0P bs p) 12 = true) : entryV bs p = ent0 bs p ∧ entryP bs p = belowP bs (ent0P bs p) 12 := by simp [entryV, entryP, h, h2]
theorem ent_1 {bs : List Nat} {p : Nat} (h : (ent0 bs p).kind = 0) (h2 : onceV bs (ent0P bs p) 12 = false) : entryV bs p = { ent0 bs p with value := ⟨#[]⟩ } ∧ entryP bs p = belowP bs (ent0P bs p) 12 := by simp [entryV, entryP, h, h2]
theorem ent_2 {bs : List Nat} {p : Nat} (h : ¬ (ent0 bs p).kind = 0) : entryV bs p = ent0 bs p ∧ entryP bs p = ent0P bs p := by simp [entryV, entryP, h]
/-! #### rows -/
/-- How many stand ahead of e. -/
def aheadN (out : List Ent) (e : Ent) : Nat := cntF (fun x => decide (kcmp x e < 0)) out
theorem ahead_at {out : List Ent} {e : Ent} {i : Nat} (hi : i ≤ out.length) (h : ∀ (j : Nat) x, j < i → out[j]? = some x → kcmp x e < 0) (h2 : ∀ x, out[i]? = some x → ¬ kcmp x e < 0) : aheadN out e = i :=
  cnt_at hi (fun j x hj hx => decide_eq_true (h j x hj hx)) (fun x hx => decide_eq_false (h2 x hx))
def sameKey (a b : Ent) : Bool := decide (a.user = b.user ∧ a.seq = b.seq ∧ a.kind = b.kind)
def entIns (out : List Ent) (e : Ent) : List Ent :=
  if entOk e = true then (match out[aheadN out e]? with
    | some x => if (x.user, x.seq, x.kind) = (e.user, e.seq, e.kind) then out else out.take (aheadN out e) ++ [e] ++ out.drop (aheadN out e)
    | none => out.take (aheadN out e) ++ [e] ++ out.drop (aheadN out e)) else out
theorem ins_no {out : List Ent} {e : Ent} (h : entOk e = false) : entIns out e = out := by simp [entIns, h]
theorem ins_same {out : List Ent} {e x : Ent} (h : entOk e = true) (hx : out[aheadN out e]? = some x) (hs : (x.user, x.seq, x.kind) = (e.user, e.seq, e.kind)) : entIns out e = out := by
  rw [entIns, if_pos h, hx]
  simp only []
  rw [if_pos hs]
theorem ins_new {out : List Ent} {e : Ent} (h : entOk e = true) (hx : ∀ x, out[aheadN out e]? = some x → ¬ (x.user, x.seq, x.kind) = (e.user, e.seq, e.kind)) : entIns out e = out.take (aheadN out e) ++ [e] ++ out.drop (aheadN out e) := by
  rw [entIns, if_pos h]
  split
  · rename_i x hx'
    rw [if_neg (hx x hx')]
  · rfl
theorem pvE_ins (out : List Ent) (e : Ent) (k : Nat) : pvE (out.take k ++ [e]) ++ ((pvE out).drop k).take ((pvE out).length - k) = pvE (out.take k ++ [e] ++ out.drop k) := by
  have h : ((pvE out).drop k).take ((pvE out).length - k) = (pvE out).drop k := List.take_of_length_le (by rw [List.length_drop]; omega)
  rw [h]
  simp [pvE, List.map_drop]
theorem ins_len (out : List Ent) (e : Ent) : (entIns out e).length ≤ out.length + 1 := by
  have h : (out.take (aheadN out e) ++ [e] ++ out.drop (aheadN out e)).length ≤ out.length + 1 := by
    simp only [List.length_append, List.length_take, List.length_drop, List.length_cons, List.length_nil]; omega
  unfold entIns
  split
  · split
    · split
      · omega
      · exact h
    · exact h
  · omega
def entLoop (bs : List Nat) : Nat → List Ent × Nat → List Ent × Nat
  | 0, x => x
  | i + 1, x => entLoop bs i (entIns x.1 (entryV bs x.2), entryP bs x.2)
theorem entLoop_go {bs : List Nat} {i : Nat} {out out' : List Ent} {q : Nat} {z : List Ent × Nat} (h : 0 < i) (he : entLoop bs i (out, q) = z) (ho : entIns out (entryV bs q) = out') : entLoop bs (i - 1) (out', entryP bs q) = z := by
  obtain ⟨j, rfl⟩ : ∃ j, i = j + 1 := ⟨i - 1, by omega⟩
  subst ho
  exact he
def entBase (bs : List Nat) (p most : Nat) : List Ent × Nat := entLoop bs (belowV bs p (most + 1)) ([], belowP bs p (most + 1))
def entsR (bs : List Nat) (p most : Nat) : List Ent × Nat :=
  let x := entBase bs p most
  if onceV bs x.2 24 = true then (x.1 ++ [entryV bs (belowP bs x.2 24)], entryP bs (belowP bs x.2 24)) else (x.1, belowP bs x.2 24)
theorem entLoop_ok {bs : List Nat} : ∀ {i : Nat} {x : List Ent × Nat}, x.2 ≤ bs.length → (entLoop bs i x).1.length ≤ x.1.length + i ∧ (entLoop bs i x).2 ≤ bs.length
  | 0, _, h => ⟨Nat.le_refl _, h⟩
  | i + 1, x, h => by
    have h1 := entLoop_ok (bs := bs) (i := i) (x := (entIns x.1 (entryV bs x.2), entryP bs x.2)) (entryP_le h)
    have h2 := ins_len x.1 (entryV bs x.2)
    refine ⟨?_, h1.2⟩
    have h3 := h1.1
    simp only [entLoop] at h3 ⊢
    omega
theorem entBase_ok {bs : List Nat} {p most : Nat} (h : p ≤ bs.length) : (entBase bs p most).1.length ≤ most ∧ (entBase bs p most).2 ≤ bs.length := by
  have h1 := entLoop_ok (bs := bs) (i := belowV bs p (most + 1)) (x := ([], belowP bs p (most + 1))) (belowP_le h)
  have h2 := belowV_lt (bs := bs) (p := p) (n := most + 1) (by omega)
  refine ⟨?_, h1.2⟩
  have h3 := h1.1
  simp only [List.length_nil] at h3
  unfold entBase
  omega
theorem entsR_ok {bs : List Nat} {p most : Nat} (h : p ≤ bs.length) : (entsR bs p most).1.length ≤ most + 1 ∧ (entsR bs p most).2 ≤ bs.length := by
  obtain ⟨h1, h2⟩ := entBase_ok (most := most) h
  unfold entsR
  simp only []
  split
  · exact ⟨by simp only [List.length_append, List.length_cons, List.length_nil]; omega, entryP_le (belowP_le h2)⟩
  · exact ⟨Nat.le_succ_of_le h1, by show belowP bs (entBase bs p most).2 24 ≤ bs.length; exact belowP_le h2⟩
theorem ents_1 {bs : List Nat} {p most : Nat} {out : List Ent} {q : Nat} (h : (out, q) = entBase bs p most) (h2 : onceV bs q 24 = true) : entsR bs p most = (out ++ [entryV bs (belowP bs q 24)], entryP bs (belowP bs q 24)) := by
  simp [entsR, ← h, h2]
theorem ents_0 {bs : List Nat} {p most : Nat} {out : List Ent} {q : Nat} (h : (out, q) = entBase bs p most) (h2 : onceV bs q 24 = false) : entsR bs p most = (out, belowP bs q 24) := by
  simp [entsR, ← h, h2]
/-! #### snapshots -/
abbrev SnSt := List Int × Int × Nat
def snLast (out : List Int) (n : Int) : Bool := match out[out.length - 1]? with
  | some x => decide (x < n)
  | none => true
def snStep (bs : List Nat) (x : SnSt) : SnSt :=
  let n := x.2.1 + ((belowV bs x.2.2 6 : Nat) : Int)
  let q := belowP bs x.2.2 6
  if snLast x.1 n = true then (x.1 ++ [n], n, q)
  else if onceV bs q 12 = true then (x.1 ++ [n], n, belowP bs q 12) else (x.1, n, belowP bs q 12)
def snLoop (bs : List Nat) : Nat → SnSt → SnSt
  | 0, x => x
  | i + 1, x => snLoop bs i (snStep bs x)
theorem snLoop_go {bs : List Nat} {i : Nat} {x y z : SnSt} (h : 0 < i) (hc : snStep bs x = y) (he : snLoop bs i x = z) : snLoop bs (i - 1) y = z := by
  obtain ⟨j, rfl⟩ : ∃ j, i = j + 1 := ⟨i - 1, by omega⟩
  subst hc
  exact he
theorem sn_0 {bs : List Nat} {out : List Int} {n : Int} {q : Nat} (h : snLast out (n + ((belowV bs q 6 : Nat) : Int)) = true) : snStep bs (out, n, q) = (out ++ [n + ((belowV bs q 6 : Nat) : Int)], n + ((belowV bs q 6 : Nat) : Int), belowP bs q 6) := by simp [snStep, h]
theorem sn_1 {bs : List Nat} {out : List Int} {n : Int} {q : Nat} (h : snLast out (n + ((belowV bs q 6 : Nat) : Int)) = false) (h2 : onceV bs (belowP bs q 6) 12 = true) : snStep bs (out, n, q) = (out ++ [n + ((belowV bs q 6 : Nat) : Int)], n + ((belowV bs q 6 : Nat) : Int), belowP bs (belowP bs q 6) 12) := by simp [snStep, h, h2]
theorem sn_2 {bs : List Nat} {out : List Int} {n : Int} {q : Nat} (h : snLast out (n + ((belowV bs q 6 : Nat) : Int)) = false) (h2 : onceV bs (belowP bs q 6) 12 = false) : snStep bs (out, n, q) = (out, n + ((belowV bs q 6 : Nat) : Int), belowP bs (belowP bs q 6) 12) := by simp [snStep, h, h2]
theorem snl_nil {out : List Int} {n : Int} (h : out.length = 0) : snLast out n = true := by
  rw [List.length_eq_zero_iff] at h
  subst h
  rfl
theorem snl_some {out : List Int} {n x : Int} (h : out[out.length - 1]? = some x) : snLast out n = decide (x < n) := by simp [snLast, h]
def snapsR (bs : List Nat) (p : Nat) : SnSt := snLoop bs (belowV bs p 4) ([], 0, belowP bs p 4)
def snapsV (bs : List Nat) (p : Nat) : List Int := (snapsR bs p).1
def snapsP (bs : List Nat) (p : Nat) : Nat := (snapsR bs p).2.2
theorem snLoop_ok {bs : List Nat} : ∀ {i : Nat} {x : SnSt}, x.2.2 ≤ bs.length → (snLoop bs i x).1.length ≤ x.1.length + i ∧ (snLoop bs i x).2.2 ≤ bs.length
  | 0, _, h => ⟨Nat.le_refl _, h⟩
  | i + 1, x, h => by
    have hs : (snStep bs x).1.length ≤ x.1.length + 1 ∧ (snStep bs x).2.2 ≤ bs.length := by
      unfold snStep
      simp only []
      split
      · exact ⟨by simp, by show belowP bs x.2.2 6 ≤ bs.length; exact belowP_le h⟩
      · split
        · exact ⟨by simp, by show belowP bs (belowP bs x.2.2 6) 12 ≤ bs.length; exact belowP_le (belowP_le h)⟩
        · exact ⟨by simp, by show belowP bs (belowP bs x.2.2 6) 12 ≤ bs.length; exact belowP_le (belowP_le h)⟩
    have h1 := snLoop_ok (i := i) hs.2
    refine ⟨?_, h1.2⟩
    have h3 := h1.1
    have h4 := hs.1
    simp only [snLoop] at h3 ⊢
    omega
theorem snapsR_ok {bs : List Nat} {p : Nat} (h : p ≤ bs.length) : (snapsV bs p).length ≤ 4 ∧ snapsP bs p ≤ bs.length := by
  have h1 := snLoop_ok (bs := bs) (i := belowV bs p 4) (x := ([], 0, belowP bs p 4)) (by show belowP bs p 4 ≤ bs.length; exact belowP_le h)
  have h2 := belowV_lt (bs := bs) (p := p) (n := 4) (by decide)
  refine ⟨?_, h1.2⟩
  have h3 := h1.1
  simp only [List.length_nil] at h3
  unfold snapsV snapsR
  omega
end Go.Rl

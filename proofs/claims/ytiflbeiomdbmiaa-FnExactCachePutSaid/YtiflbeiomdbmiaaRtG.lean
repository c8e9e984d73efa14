/- Promises of functions, proved by walks over their operations; no conditions beyond those that each theorem states. -/
import Derived.Test.YtiflbeiomdbmiaaRtF
import Derived.Test.YtiflbeiomdbmiaaRtD
namespace Go.Rl
open Go.Proofs
theorem en20 : ∀ vs w, (callFunc 20 vs).run Try.prog w = .ok (.enter 20 vs) w := enters Try.func20 (by decide) rfl
theorem en21 : ∀ vs w, (callFunc 21 vs).run Try.prog w = .ok (.enter 21 vs) w := enters Try.func21 (by decide) rfl
theorem en22 : ∀ vs w, (callFunc 22 vs).run Try.prog w = .ok (.enter 22 vs) w := enters Try.func22 (by decide) rfl
theorem en23 : ∀ vs w, (callFunc 23 vs).run Try.prog w = .ok (.enter 23 vs) w := enters Try.func23 (by decide) rfl
theorem law_get_con (m : Int) (l : List Slot) (name : ByteArray) (hl : l.length ≤ 9223372036854775807) (hn : ∀ s ∈ l, s.name.size ≤ 9223372036854775807) : Con Try.prog 5 [.agg [PV.v (.int .i64 m), PV.sl false 3 (pvS l)], .one (PV.v (.string name))] [] [.one (.v (.bool true))] := by
  refine con_of_tr Try.func5 rfl rfl rfl rfl ?_
  have hle := pvS_length l
  refine tr_seq ?_
  refine tr_region rfl (.run [] [2] rfl (st_box rfl 2 rfl rfl (by decide) rfl (by decide)) (.run [] [] rfl (st_assign rfl) .nil)) ?_
  refine tr_seq ?_
  refine tr_seq ?_
  refine tr_region rfl (.run [] [] rfl (st_move rfl) (.run [] [] rfl (st_len_str rfl rfl Try.underlying9) (.run [] [] rfl (st_gtr rfl rfl rfl) .nil))) ?_
  refine tr_if (t := decide (1048576 < (name.size : Int))) rfl (fun h1 => ?_) (fun h1 => ?_)
  · skip
    replace h1 := of_decide_eq_true h1
    refine tr_seq ?_
    refine tr_region rfl (.run [] [] rfl (st_assign rfl) .nil) ?_
    refine tr_ret ?_
    exact ends [_] [] (.cons (.tmp rfl) .nil) (.cons (.one .v (.v _)) .nil) (by decide) trivial
  · skip
    replace h1 := of_decide_eq_false h1
    refine tr_skip ?_
    refine tr_seq ?_
    refine tr_region rfl (.run [] [] rfl (st_assign rfl) .nil) ?_
    refine tr_seq ?_
    refine tr_region rfl (.run [] [] rfl (st_load_box rfl rfl rfl Try.isAgg38 Try.sizeOf38 (nle rfl)) (.run [] [] rfl (st_move rfl) (.run [2100] [] rfl (st_call rfl 2100 (X := []) en15 rfl (.val nod) (.cons (.agg (.cons (.bor .v) (.cons (.bor (.sl nod)) .nil))) (.cons (.one (.bor .v)) .nil)) (by decide) all_nil .nil (szCache_con m l 1048576 (by omega) hl hn) rfl rfl (nle rfl)) (.run [] [] rfl (st_assign rfl) .nil)))) ?_
    refine tr_seq ?_
    refine tr_seq ?_
    refine tr_region rfl (.run [] [] rfl (st_move rfl) (.run [] [] rfl (st_lss rfl rfl rfl) .nil)) ?_
    refine tr_if (t := decide ((if szSlotsF l 1048576 < 0 then -1 else szSlotsF l 1048576) < 0)) rfl (fun h2 => ?_) (fun h2 => ?_)
    · skip
      replace h2 := of_decide_eq_true h2
      refine tr_seq ?_
      refine tr_region rfl (.run [] [] rfl (st_assign rfl) .nil) ?_
      refine tr_ret ?_
      exact ends [_] [] (.cons (.tmp rfl) .nil) (.cons (.one .v (.v _)) .nil) (by decide) trivial
    · skip
      replace h2 := of_decide_eq_false h2
      refine tr_skip ?_
      refine tr_seq ?_
      have hl2 := sz_len h2
      have hfl := get_len m l name
      refine tr_wk (s' := mk [(1, .p none (.v (.string name))), (2, .ptr 2 0)] [(2, [.p none (.v (.int .i64 m)), .p none (.sl false 3 (pvS l))])] []) ?_ ?_
      · exact wk_mk ⟨rfl, ⟨rfl, trivial⟩⟩ ⟨rfl, trivial⟩ trivial rfl
      refine tr_region rfl (.run [] [] rfl (st_load_box rfl rfl rfl Try.isAgg38 Try.sizeOf38 (nle rfl)) (.run [2600, 2601] [] rfl (st_call rfl 2600 (X := []) en16 rfl (.val nod) (.cons (.agg (.cons (.bor .v) (.cons (.bor (.sl nod)) .nil))) .nil) (by decide) all_nil .nil (toCache_con m l hl2) rfl rfl (nle rfl)) (.run [] [] rfl (st_move rfl) (.run [2601, 2800, 2801, 2802] [] rfl (st_call rfl 2800 (X := []) en20 rfl (.val nod) (.cons (.agg (.cons (.bor .v) (.cons (.bor (.all (len := (pvS l).length) (xs := pvS l) rfl rfl (by decide))) .nil))) (.cons (.one (.bor .v)) .nil)) (by decide) all_nil .nil (specCacheGet_con m l name (by omega)) rfl rfl (nle rfl)) (.run [] [] rfl (st_move rfl) (.run [] [] rfl (st_extract rfl rfl rfl) (.run [] [] rfl (st_extract rfl rfl rfl) (.run [] [6] rfl (st_allocZ rfl 6 inf26 rfl (by decide) rfl (by decide)) (.run [] [] rfl (st_store_box rfl rfl rfl rfl rfl Try.sizeOf26 rfl (nle rfl)) (.run [] [] rfl (st_assign rfl) .nil)))))))))) ?_
      refine tr_seq ?_
      refine tr_region rfl (.run [] [] rfl (st_load_box rfl rfl rfl Try.isAgg38 Try.sizeOf38 (nle rfl)) (.run [3200, 3201] [] rfl (st_call rfl 3200 (X := []) en16 rfl (.val nod) (.cons (.agg (.cons (.bor .v) (.cons (.bor (.sl nod)) .nil))) .nil) (by decide) all_nil .nil (toCache_con m l hl2) rfl rfl (nle rfl)) (.run [] [8] rfl (st_allocZ rfl 8 inf26 rfl (by decide) rfl (by decide)) (.run [] [] rfl (st_store_box rfl rfl rfl rfl rfl Try.sizeOf26 rfl (nle rfl)) .nil)))) ?_
      refine tr_seq ?_
      refine tr_wk (s' := mk [(1, .p none (.v (.string name))), (2, .ptr 2 0), (6, .ptr 6 0), (7, .p none (.v (.bool ((getC m l name).2.2)))), (8, .ptr 8 0)] [(2, [.p none (.v (.int .i64 m)), .p none (.sl false 3 (pvS l))]), (6, [.p none (.v (.int .i64 ((getC m l name).1))), .sl 2801 0 ((pvS ((getC m l name).2.1)).length)]), (8, [.p none (.v (.int .i64 m)), .sl 3201 0 ((pvS l).length)])] [(2801, 3, pvS ((getC m l name).2.1)), (3201, 3, pvS l)]) ?_ ?_
      · exact wk_mk ⟨rfl, ⟨rfl, ⟨rfl, ⟨rfl, ⟨rfl, trivial⟩⟩⟩⟩⟩ ⟨rfl, ⟨rfl, ⟨rfl, trivial⟩⟩⟩ ⟨rfl, ⟨rfl, trivial⟩⟩ rfl
      refine tr_region rfl (.run [] [] rfl (st_load_box rfl rfl rfl Try.isAgg26 Try.sizeOf26 (nle rfl)) (.run [] [] rfl (st_move rfl) (.run [3201, 3600, 3601, 3602] [] rfl (st_call rfl 3600 (X := []) en21 rfl (.val nod) (.cons (.agg (.cons (.bor .v) (.cons (.bor (.all (len := (pvS l).length) (xs := pvS l) rfl rfl (by decide))) .nil))) (.cons (.one (.bor .v)) .nil)) (by decide) all_nil .nil (cacheGet_con m l name (by omega)) rfl rfl (nle rfl)) (.run [] [] rfl (st_move rfl) (.run [] [] rfl (st_extract rfl rfl rfl) (.run [] [] rfl (st_extract rfl rfl rfl) (.run [] [9] rfl (st_allocZ rfl 9 inf26 rfl (by decide) rfl (by decide)) (.run [] [] rfl (st_store_box rfl rfl rfl rfl rfl Try.sizeOf26 rfl (nle rfl)) (.run [] [] rfl (st_assign rfl) .nil))))))))) ?_
      refine tr_seq ?_
      refine tr_seq ?_
      refine tr_wk (s' := mk [(1, .p none (.v (.string name))), (2, .ptr 2 0), (6, .ptr 6 0), (7, .p none (.v (.bool ((getC m l name).2.2)))), (8, .ptr 8 0), (9, .ptr 9 0), (10, .p none (.v (.bool ((getC m l name).2.2))))] [(2, [.p none (.v (.int .i64 m)), .p none (.sl false 3 (pvS l))]), (6, [.p none (.v (.int .i64 ((getC m l name).1))), .sl 2801 0 ((pvS ((getC m l name).2.1)).length)]), (8, [.p none (.v (.int .i64 m)), .sl 3201 0 ((pvS l).length)]), (9, [.p none (.v (.int .i64 ((getC m l name).1))), .sl 3601 0 ((pvS ((getC m l name).2.1)).length)])] [(2801, 3, pvS ((getC m l name).2.1)), (3201, 3, pvS l), (3601, 3, pvS ((getC m l name).2.1))]) ?_ ?_
      · exact wk_mk ⟨rfl, ⟨rfl, ⟨rfl, ⟨rfl, ⟨rfl, ⟨rfl, ⟨rfl, trivial⟩⟩⟩⟩⟩⟩⟩ ⟨rfl, ⟨rfl, ⟨rfl, ⟨rfl, trivial⟩⟩⟩⟩ ⟨rfl, ⟨rfl, ⟨rfl, trivial⟩⟩⟩ rfl
      refine tr_region rfl (.run [] [] rfl (st_load_box rfl rfl rfl Try.isAgg26 Try.sizeOf26 (nle rfl)) (.run [] [] rfl (st_load_box rfl rfl rfl Try.isAgg26 Try.sizeOf26 (nle rfl)) (.run [2801, 3601, 4100] [] rfl (st_call rfl 4100 (X := []) en17 rfl (.val nod) (.cons (.agg (.cons (.bor .v) (.cons (.bor (.all (len := (pvS ((getC m l name).2.1)).length) (xs := pvS ((getC m l name).2.1)) rfl rfl (by decide))) .nil))) (.cons (.agg (.cons (.bor .v) (.cons (.bor (.all (len := (pvS ((getC m l name).2.1)).length) (xs := pvS ((getC m l name).2.1)) rfl rfl (by decide))) .nil))) .nil)) (by decide) all_nil .nil (eqCache_same ((getC m l name).1) ((getC m l name).2.1) (by omega)) rfl rfl (nle rfl)) (.run [] [] rfl (st_not (b := true) rfl rfl) (.run [] [] rfl (st_move rfl) (.run [] [] rfl (st_move rfl) (.run [] [] rfl (st_move rfl) (.run [] [] rfl (st_eq (st_bneq rfl rfl rfl Try.underlying4) (bool_eq (show (!(((getC m l name).2.2) == ((getC m l name).2.2))) = false from by simp))) (.run [] [] rfl (st_pick (t := false) rfl rfl) .nil))))))))) ?_
      refine tr_if (t := false) rfl (fun h => nomatch h) (fun _ => ?_)
      refine tr_skip ?_
      refine tr_seq ?_
      refine tr_seq ?_
      refine tr_regionD mixed rfl (.run [] [] rfl (st_load_box rfl rfl rfl Try.isAgg26 Try.sizeOf26 (nle rfl)) (.run [] [] rfl (st_load_box rfl rfl rfl Try.isAgg38 Try.sizeOf38 (nle rfl)) (.run [5000, 5001] [] rfl (st_call rfl 5000 (X := []) en16 rfl (.val nod) (.cons (.agg (.cons (.bor .v) (.cons (.bor (.sl nod)) .nil))) .nil) (by decide) all_nil .nil (toCache_con m l hl2) rfl rfl (nle rfl)) (.run [3201, 5001, 5100] [] rfl (st_call rfl 5100 (X := []) en17 rfl (.val nod) (.cons (.agg (.cons (.bor .v) (.cons (.bor (.all (len := (pvS l).length) (xs := pvS l) rfl rfl (by decide))) .nil))) (.cons (.agg (.cons (.bor .v) (.cons (.bor (.all (len := (pvS l).length) (xs := pvS l) rfl rfl (by decide))) .nil))) .nil)) (by decide) all_nil .nil (eqCache_same m l (by omega)) rfl rfl (nle rfl)) (.run [] [] rfl (st_not (b := true) rfl rfl) .nil))))) (by kernel_rfl) ?_
      refine tr_if (t := false) rfl (fun h => nomatch h) (fun _ => ?_)
      refine tr_skip ?_
      refine tr_seq ?_
      refine tr_region rfl (.run [] [] rfl (st_assign rfl) .nil) ?_
      refine tr_seq ?_
      refine tr_wk (s' := mk [(1, .p none (.v (.string name))), (2, .ptr 2 0), (6, .ptr 6 0), (7, .p none (.v (.bool ((getC m l name).2.2)))), (8, .ptr 8 0), (9, .ptr 9 0), (10, .p none (.v (.bool ((getC m l name).2.2)))), (11, .p none (.v (.int .i64 1)))] [(2, [.p none (.v (.int .i64 m)), .p none (.sl false 3 (pvS l))]), (6, [.p none (.v (.int .i64 ((getC m l name).1))), .sl 2801 0 ((pvS ((getC m l name).2.1)).length)]), (8, [.p none (.v (.int .i64 m)), .sl 3201 0 ((pvS l).length)]), (9, [.p none (.v (.int .i64 ((getC m l name).1))), .sl 3601 0 ((pvS ((getC m l name).2.1)).length)])] [(2801, 3, pvS ((getC m l name).2.1)), (3201, 3, pvS l), (3601, 3, pvS ((getC m l name).2.1))]) ?_ ?_
      · exact wk_mk ⟨rfl, ⟨rfl, ⟨rfl, ⟨rfl, ⟨rfl, ⟨rfl, ⟨rfl, ⟨rfl, trivial⟩⟩⟩⟩⟩⟩⟩⟩ ⟨rfl, ⟨rfl, ⟨rfl, ⟨rfl, trivial⟩⟩⟩⟩ ⟨rfl, ⟨rfl, ⟨rfl, trivial⟩⟩⟩ rfl
      refine tr_region rfl (.run [] [] rfl (st_load_box rfl rfl rfl Try.isAgg26 Try.sizeOf26 (nle rfl)) (.run [] [] rfl (st_move rfl) (.run [3201, 5500] [] rfl (st_call rfl 5500 (X := [3201]) en18 rfl (.val nod) (.cons (.agg (.cons (.bor .v) (.cons (.own (len := (pvS l).length) (xs := pvS l) rfl rfl) .nil))) (.cons (.one (.bor .v)) .nil)) (by decide) (all_cons rfl all_nil) (.keep (xs := pvS l) rfl (FlatP.nf (pvS_flat _)) .nil) (markCache_con m l 1 (by omega)) rfl rfl (nle rfl)) (.run [] [] rfl (st_assign rfl) .nil)))) ?_
      refine tr_seq ?_
      refine tr_seq ?_
      refine tr_wk (s' := mk [(1, .p none (.v (.string name))), (2, .ptr 2 0), (6, .ptr 6 0), (7, .p none (.v (.bool ((getC m l name).2.2)))), (9, .ptr 9 0), (10, .p none (.v (.bool ((getC m l name).2.2)))), (11, .p none (.v (.int .i64 ((1 + 3 * l.length : Nat) : Int))))] [(2, [.p none (.v (.int .i64 m)), .p none (.sl false 3 (pvS l))]), (6, [.p none (.v (.int .i64 ((getC m l name).1))), .sl 2801 0 ((pvS ((getC m l name).2.1)).length)]), (9, [.p none (.v (.int .i64 ((getC m l name).1))), .sl 3601 0 ((pvS ((getC m l name).2.1)).length)])] [(2801, 3, pvS ((getC m l name).2.1)), (3601, 3, pvS ((getC m l name).2.1))]) ?_ ?_
      · exact wk_mk ⟨rfl, ⟨rfl, ⟨rfl, ⟨rfl, ⟨rfl, ⟨rfl, ⟨rfl, trivial⟩⟩⟩⟩⟩⟩⟩ ⟨rfl, ⟨rfl, ⟨rfl, trivial⟩⟩⟩ ⟨rfl, ⟨rfl, trivial⟩⟩ rfl
      refine tr_region rfl (.run [] [] rfl (st_move rfl) (.run [] [] rfl (st_eq (st_lss rfl rfl rfl) (bool_eq (decide_eq_false (by omega)))) (.run [] [] rfl (st_move rfl) (.run [] [] rfl (st_load_box rfl rfl rfl Try.isAgg26 Try.sizeOf26 (nle rfl)) (.run [] [] rfl (st_load_box rfl rfl rfl Try.isAgg26 Try.sizeOf26 (nle rfl)) (.run [2801, 3601, 6100] [] rfl (st_call rfl 6100 (X := []) en17 rfl (.val nod) (.cons (.agg (.cons (.bor .v) (.cons (.bor (.all (len := (pvS ((getC m l name).2.1)).length) (xs := pvS ((getC m l name).2.1)) rfl rfl (by decide))) .nil))) (.cons (.agg (.cons (.bor .v) (.cons (.bor (.all (len := (pvS ((getC m l name).2.1)).length) (xs := pvS ((getC m l name).2.1)) rfl rfl (by decide))) .nil))) .nil)) (by decide) all_nil .nil (eqCache_same ((getC m l name).1) ((getC m l name).2.1) (by omega)) rfl rfl (nle rfl)) (.run [] [] rfl (st_not (b := true) rfl rfl) (.run [] [] rfl (st_pick (t := false) rfl rfl) (.run [] [] rfl (st_move rfl) (.run [] [] rfl (st_move rfl) (.run [] [] rfl (st_move rfl) (.run [] [] rfl (st_eq (st_bneq rfl rfl rfl Try.underlying4) (bool_eq (show (!(((getC m l name).2.2) == ((getC m l name).2.2))) = false from by simp))) (.run [] [] rfl (st_pick (t := false) rfl rfl) .nil))))))))))))) ?_
      refine tr_if (t := false) rfl (fun h => nomatch h) (fun _ => ?_)
      refine tr_skip ?_
      refine tr_seq ?_
      refine tr_region rfl (.run [] [] rfl (st_assign rfl) .nil) ?_
      refine tr_seq ?_
      refine tr_wk (s' := mk [(1, .p none (.v (.string name))), (2, .ptr 2 0), (6, .ptr 6 0), (7, .p none (.v (.bool ((getC m l name).2.2)))), (9, .ptr 9 0), (12, .p none (.v (.int .i64 1)))] [(2, [.p none (.v (.int .i64 m)), .p none (.sl false 3 (pvS l))]), (6, [.p none (.v (.int .i64 ((getC m l name).1))), .sl 2801 0 ((pvS ((getC m l name).2.1)).length)]), (9, [.p none (.v (.int .i64 ((getC m l name).1))), .sl 3601 0 ((pvS ((getC m l name).2.1)).length)])] [(2801, 3, pvS ((getC m l name).2.1)), (3601, 3, pvS ((getC m l name).2.1))]) ?_ ?_
      · exact wk_mk ⟨rfl, ⟨rfl, ⟨rfl, ⟨rfl, ⟨rfl, ⟨rfl, trivial⟩⟩⟩⟩⟩⟩ ⟨rfl, ⟨rfl, ⟨rfl, trivial⟩⟩⟩ ⟨rfl, ⟨rfl, trivial⟩⟩ rfl
      refine tr_region rfl (.run [] [] rfl (st_load_box rfl rfl rfl Try.isAgg26 Try.sizeOf26 (nle rfl)) (.run [] [] rfl (st_move rfl) (.run [3601, 7100] [] rfl (st_call rfl 7100 (X := [3601]) en18 rfl (.val nod) (.cons (.agg (.cons (.bor .v) (.cons (.own (len := (pvS ((getC m l name).2.1)).length) (xs := pvS ((getC m l name).2.1)) rfl rfl) .nil))) (.cons (.one (.bor .v)) .nil)) (by decide) (all_cons rfl all_nil) (.keep (xs := pvS ((getC m l name).2.1)) rfl (FlatP.nf (pvS_flat _)) .nil) (markCache_con ((getC m l name).1) ((getC m l name).2.1) 1 (by omega)) rfl rfl (nle rfl)) (.run [] [] rfl (st_assign rfl) .nil)))) ?_
      have hr3 : pvS (marks 1 ((getC m l name).2.1).length) = pvS (marks 1 ((getC m l name).2.1).length) := by rfl
      have hl4 : (pvS ((getC m l name).2.1)).length = (pvS (marks 1 ((getC m l name).2.1).length)).length := by simp [pvS_length, marks_len]
      have hp5 : (some [.p none (.v (.int .i64 ((getC m l name).1))), .sl 3601 0 ((pvS ((getC m l name).2.1)).length)] : Option (List AV)) = some [.p none (.v (.int .i64 ((getC m l name).1))), .sl 3601 0 ((pvS (marks 1 ((getC m l name).2.1).length)).length)] := by simp only [hr3, hl4]
      refine tr_wk (s' := mk [(1, .p none (.v (.string name))), (2, .ptr 2 0), (6, .ptr 6 0), (7, .p none (.v (.bool ((getC m l name).2.2)))), (9, .ptr 9 0), (12, .p none (.v (.int .i64 ((1 + 3 * ((getC m l name).2.1).length : Nat) : Int))))] [(2, [.p none (.v (.int .i64 m)), .p none (.sl false 3 (pvS l))]), (6, [.p none (.v (.int .i64 ((getC m l name).1))), .sl 2801 0 ((pvS ((getC m l name).2.1)).length)]), (9, [.p none (.v (.int .i64 ((getC m l name).1))), .sl 3601 0 ((pvS (marks 1 ((getC m l name).2.1).length)).length)])] [(2801, 3, pvS ((getC m l name).2.1)), (3601, 3, pvS (marks 1 ((getC m l name).2.1).length))]) ?_ ?_
      · exact wk_mk ⟨rfl, ⟨rfl, ⟨rfl, ⟨rfl, ⟨rfl, ⟨rfl, trivial⟩⟩⟩⟩⟩⟩ ⟨rfl, ⟨rfl, ⟨hp5, trivial⟩⟩⟩ ⟨rfl, ⟨(congrArg (fun x => some (3, x)) hr3), trivial⟩⟩ rfl
      refine tr_seq ?_
      refine tr_region rfl (.run [] [] rfl (st_assign rfl) .nil) ?_
      refine tr_seq ?_
      refine tr_region rfl (.run [] [] rfl (st_load_box rfl rfl rfl Try.isAgg26 Try.sizeOf26 (nle rfl)) (.run [] [] rfl (st_move rfl) (.run [3601, 7400] [] rfl (st_call rfl 7400 (X := []) en19 rfl (.val nod) (.cons (.agg (.cons (.bor .v) (.cons (.bor (.all (len := (pvS (marks 1 ((getC m l name).2.1).length)).length) (xs := pvS (marks 1 ((getC m l name).2.1).length)) rfl rfl (by decide))) .nil))) (.cons (.one (.bor .v)) .nil)) (by decide) all_nil .nil (heldCache_self ((getC m l name).1) 1 ((getC m l name).2.1).length (by omega)) rfl rfl (nle rfl)) (.run [] [] rfl (st_assign rfl) .nil)))) ?_
      refine tr_seq ?_
      refine tr_seq ?_
      refine tr_region rfl (.run [] [] rfl (st_move rfl) (.run [] [] rfl (st_eq (st_lss rfl rfl rfl) (bool_eq (decide_eq_false (by omega)))) .nil)) ?_
      refine tr_if (t := false) rfl (fun h => nomatch h) (fun _ => ?_)
      refine tr_skip ?_
      refine tr_seq ?_
      refine tr_seq ?_
      refine tr_region rfl (.run [] [] rfl (st_move rfl) (.run [] [] rfl (st_move rfl) (.run [] [] rfl (st_eq (st_neq rfl rfl rfl) (bool_eq (congrArg Bool.not (decide_eq_true (by simp))))) .nil))) ?_
      refine tr_if (t := false) rfl (fun h => nomatch h) (fun _ => ?_)
      refine tr_skip ?_
      refine tr_seq ?_
      refine tr_wk (s' := mk [(1, .p none (.v (.string name))), (2, .ptr 2 0), (6, .ptr 6 0), (7, .p none (.v (.bool ((getC m l name).2.2)))), (9, .ptr 9 0), (12, .p none (.v (.int .i64 ((1 + 3 * ((getC m l name).2.1).length : Nat) : Int))))] [(2, [.p none (.v (.int .i64 m)), .p none (.sl false 3 (pvS l))]), (6, [.p none (.v (.int .i64 ((getC m l name).1))), .sl 2801 0 ((pvS ((getC m l name).2.1)).length)]), (9, [.p none (.v (.int .i64 ((getC m l name).1))), .sl 3601 0 ((pvS (marks 1 ((getC m l name).2.1).length)).length)])] [(2801, 3, pvS ((getC m l name).2.1)), (3601, 3, pvS (marks 1 ((getC m l name).2.1).length))]) ?_ ?_
      · exact wk_mk ⟨rfl, ⟨rfl, ⟨rfl, ⟨rfl, ⟨rfl, ⟨rfl, trivial⟩⟩⟩⟩⟩⟩ ⟨rfl, ⟨rfl, ⟨rfl, trivial⟩⟩⟩ ⟨rfl, ⟨rfl, trivial⟩⟩ rfl
      refine tr_region rfl (.run [] [] rfl (st_load_box rfl rfl rfl Try.isAgg38 Try.sizeOf38 (nle rfl)) (.run [8200, 8201] [] rfl (st_call rfl 8200 (X := []) en16 rfl (.val nod) (.cons (.agg (.cons (.bor .v) (.cons (.bor (.sl nod)) .nil))) .nil) (by decide) all_nil .nil (toCache_con m l hl2) rfl rfl (nle rfl)) (.run [] [] rfl (st_move rfl) (.run [8201, 8400, 8401, 8402] [] rfl (st_call rfl 8400 (X := []) en21 rfl (.val nod) (.cons (.agg (.cons (.bor .v) (.cons (.bor (.all (len := (pvS l).length) (xs := pvS l) rfl rfl (by decide))) .nil))) (.cons (.one (.bor .v)) .nil)) (by decide) all_nil .nil (cacheGet_con m l name (by omega)) rfl rfl (nle rfl)) (.run [] [] rfl (st_move rfl) (.run [] [] rfl (st_extract rfl rfl rfl) (.run [] [] rfl (st_extract rfl rfl rfl) (.run [] [14] rfl (st_allocZ rfl 14 inf26 rfl (by decide) rfl (by decide)) (.run [] [] rfl (st_store_box rfl rfl rfl rfl rfl Try.sizeOf26 rfl (nle rfl)) (.run [] [] rfl (st_assign rfl) .nil)))))))))) ?_
      refine tr_seq ?_
      refine tr_seq ?_
      refine tr_wk (s' := mk [(6, .ptr 6 0), (7, .p none (.v (.bool ((getC m l name).2.2)))), (9, .ptr 9 0), (12, .p none (.v (.int .i64 ((1 + 3 * ((getC m l name).2.1).length : Nat) : Int)))), (14, .ptr 14 0), (15, .p none (.v (.bool ((getC m l name).2.2))))] [(6, [.p none (.v (.int .i64 ((getC m l name).1))), .sl 2801 0 ((pvS ((getC m l name).2.1)).length)]), (9, [.p none (.v (.int .i64 ((getC m l name).1))), .sl 3601 0 ((pvS (marks 1 ((getC m l name).2.1).length)).length)]), (14, [.p none (.v (.int .i64 ((getC m l name).1))), .sl 8401 0 ((pvS ((getC m l name).2.1)).length)])] [(2801, 3, pvS ((getC m l name).2.1)), (3601, 3, pvS (marks 1 ((getC m l name).2.1).length)), (8401, 3, pvS ((getC m l name).2.1))]) ?_ ?_
      · exact wk_mk ⟨rfl, ⟨rfl, ⟨rfl, ⟨rfl, ⟨rfl, ⟨rfl, trivial⟩⟩⟩⟩⟩⟩ ⟨rfl, ⟨rfl, ⟨rfl, trivial⟩⟩⟩ ⟨rfl, ⟨rfl, ⟨rfl, trivial⟩⟩⟩ rfl
      refine tr_region rfl (.run [] [] rfl (st_load_box rfl rfl rfl Try.isAgg26 Try.sizeOf26 (nle rfl)) (.run [] [] rfl (st_load_box rfl rfl rfl Try.isAgg26 Try.sizeOf26 (nle rfl)) (.run [2801, 8401, 8900] [] rfl (st_call rfl 8900 (X := []) en17 rfl (.val nod) (.cons (.agg (.cons (.bor .v) (.cons (.bor (.all (len := (pvS ((getC m l name).2.1)).length) (xs := pvS ((getC m l name).2.1)) rfl rfl (by decide))) .nil))) (.cons (.agg (.cons (.bor .v) (.cons (.bor (.all (len := (pvS ((getC m l name).2.1)).length) (xs := pvS ((getC m l name).2.1)) rfl rfl (by decide))) .nil))) .nil)) (by decide) all_nil .nil (eqCache_same ((getC m l name).1) ((getC m l name).2.1) (by omega)) rfl rfl (nle rfl)) (.run [] [] rfl (st_not (b := true) rfl rfl) (.run [] [] rfl (st_move rfl) (.run [] [] rfl (st_move rfl) (.run [] [] rfl (st_move rfl) (.run [] [] rfl (st_eq (st_bneq rfl rfl rfl Try.underlying4) (bool_eq (show (!(((getC m l name).2.2) == ((getC m l name).2.2))) = false from by simp))) (.run [] [] rfl (st_pick (t := false) rfl rfl) .nil))))))))) ?_
      refine tr_if (t := false) rfl (fun h => nomatch h) (fun _ => ?_)
      refine tr_skip ?_
      refine tr_seq ?_
      refine tr_region rfl (.run [] [] rfl (st_assign rfl) .nil) ?_
      refine tr_seq ?_
      refine tr_region rfl (.run [] [] rfl (st_load_box rfl rfl rfl Try.isAgg26 Try.sizeOf26 (nle rfl)) (.run [] [] rfl (st_move rfl) (.run [3601, 9800] [] rfl (st_call rfl 9800 (X := []) en19 rfl (.val nod) (.cons (.agg (.cons (.bor .v) (.cons (.bor (.all (len := (pvS (marks 1 ((getC m l name).2.1).length)).length) (xs := pvS (marks 1 ((getC m l name).2.1).length)) rfl rfl (by decide))) .nil))) (.cons (.one (.bor .v)) .nil)) (by decide) all_nil .nil (heldCache_self ((getC m l name).1) 1 ((getC m l name).2.1).length (by omega)) rfl rfl (nle rfl)) (.run [] [] rfl (st_assign rfl) .nil)))) ?_
      refine tr_seq ?_
      refine tr_seq ?_
      refine tr_region rfl (.run [] [] rfl (st_move rfl) (.run [] [] rfl (st_eq (st_lss rfl rfl rfl) (bool_eq (decide_eq_false (by omega)))) .nil)) ?_
      refine tr_if (t := false) rfl (fun h => nomatch h) (fun _ => ?_)
      refine tr_skip ?_
      refine tr_seq ?_
      refine tr_seq ?_
      refine tr_wk (s' := mk [(12, .p none (.v (.int .i64 ((1 + 3 * ((getC m l name).2.1).length : Nat) : Int)))), (13, .p none (.v (.int .i64 ((1 + 3 * ((getC m l name).2.1).length : Nat) : Int))))] [] []) ?_ ?_
      · exact wk_mk ⟨rfl, ⟨rfl, trivial⟩⟩ trivial trivial rfl
      refine tr_region rfl (.run [] [] rfl (st_move rfl) (.run [] [] rfl (st_move rfl) (.run [] [] rfl (st_eq (st_neq rfl rfl rfl) (bool_eq (congrArg Bool.not (decide_eq_true (by simp))))) .nil))) ?_
      refine tr_if (t := false) rfl (fun h => nomatch h) (fun _ => ?_)
      refine tr_skip ?_
      refine tr_seq ?_
      refine tr_region rfl (.run [] [] rfl (st_assign rfl) .nil) ?_
      refine tr_ret ?_
      exact ends [_] [] (.cons (.tmp rfl) .nil) (.cons (.one .v (.v _)) .nil) (by decide) trivial
theorem law_put_con (m : Int) (l : List Slot) (name : ByteArray) (size : Int) (hl : l.length ≤ 9223372036854775807) (hn : ∀ s ∈ l, s.name.size ≤ 9223372036854775807) : Con Try.prog 6 [.agg [PV.v (.int .i64 m), PV.sl false 3 (pvS l)], .one (PV.v (.string name)), .one (PV.v (.int .i64 size))] [] [.one (.v (.bool true))] := by
  refine con_of_tr Try.func6 rfl rfl rfl rfl ?_
  have hle := pvS_length l
  refine tr_seq ?_
  refine tr_region rfl (.run [] [3] rfl (st_box rfl 3 rfl rfl (by decide) rfl (by decide)) (.run [] [] rfl (st_assign rfl) .nil)) ?_
  refine tr_seq ?_
  refine tr_seq ?_
  refine tr_region rfl (.run [] [] rfl (st_move rfl) (.run [] [] rfl (st_len_str rfl rfl Try.underlying9) (.run [] [] rfl (st_gtr rfl rfl rfl) .nil))) ?_
  refine tr_if (t := decide (1048576 < (name.size : Int))) rfl (fun h1 => ?_) (fun h1 => ?_)
  · skip
    replace h1 := of_decide_eq_true h1
    refine tr_seq ?_
    refine tr_region rfl (.run [] [] rfl (st_assign rfl) .nil) ?_
    refine tr_ret ?_
    exact ends [_] [] (.cons (.tmp rfl) .nil) (.cons (.one .v (.v _)) .nil) (by decide) trivial
  · skip
    replace h1 := of_decide_eq_false h1
    refine tr_skip ?_
    refine tr_seq ?_
    refine tr_region rfl (.run [] [] rfl (st_assign rfl) .nil) ?_
    refine tr_seq ?_
    refine tr_region rfl (.run [] [] rfl (st_load_box rfl rfl rfl Try.isAgg38 Try.sizeOf38 (nle rfl)) (.run [] [] rfl (st_move rfl) (.run [2300] [] rfl (st_call rfl 2300 (X := []) en15 rfl (.val nod) (.cons (.agg (.cons (.bor .v) (.cons (.bor (.sl nod)) .nil))) (.cons (.one (.bor .v)) .nil)) (by decide) all_nil .nil (szCache_con m l 1048576 (by omega) hl hn) rfl rfl (nle rfl)) (.run [] [] rfl (st_assign rfl) .nil)))) ?_
    refine tr_seq ?_
    refine tr_seq ?_
    refine tr_region rfl (.run [] [] rfl (st_move rfl) (.run [] [] rfl (st_lss rfl rfl rfl) .nil)) ?_
    refine tr_if (t := decide ((if szSlotsF l 1048576 < 0 then -1 else szSlotsF l 1048576) < 0)) rfl (fun h2 => ?_) (fun h2 => ?_)
    · skip
      replace h2 := of_decide_eq_true h2
      refine tr_seq ?_
      refine tr_region rfl (.run [] [] rfl (st_assign rfl) .nil) ?_
      refine tr_ret ?_
      exact ends [_] [] (.cons (.tmp rfl) .nil) (.cons (.one .v (.v _)) .nil) (by decide) trivial
    · skip
      replace h2 := of_decide_eq_false h2
      refine tr_skip ?_
      refine tr_seq ?_
      have hl2 := sz_len h2
      have hfl := put_len m l name size
      refine tr_wk (s' := mk [(1, .p none (.v (.string name))), (2, .p none (.v (.int .i64 size))), (3, .ptr 3 0)] [(3, [.p none (.v (.int .i64 m)), .p none (.sl false 3 (pvS l))])] []) ?_ ?_
      · exact wk_mk ⟨rfl, ⟨rfl, ⟨rfl, trivial⟩⟩⟩ ⟨rfl, trivial⟩ trivial rfl
      refine tr_region rfl (.run [] [] rfl (st_load_box rfl rfl rfl Try.isAgg38 Try.sizeOf38 (nle rfl)) (.run [2800, 2801] [] rfl (st_call rfl 2800 (X := []) en16 rfl (.val nod) (.cons (.agg (.cons (.bor .v) (.cons (.bor (.sl nod)) .nil))) .nil) (by decide) all_nil .nil (toCache_con m l hl2) rfl rfl (nle rfl)) (.run [] [] rfl (st_move rfl) (.run [] [] rfl (st_move rfl) (.run [2801, 3100, 3101, 3102] [] rfl (st_call rfl 3100 (X := []) en22 rfl (.val nod) (.cons (.agg (.cons (.bor .v) (.cons (.bor (.all (len := (pvS l).length) (xs := pvS l) rfl rfl (by decide))) .nil))) (.cons (.one (.bor .v)) (.cons (.one (.bor .v)) .nil))) (by decide) all_nil .nil (specCachePut_con m l name size (by omega)) rfl rfl (nle rfl)) (.run [] [] rfl (st_move rfl) (.run [] [] rfl (st_extract rfl rfl rfl) (.run [] [] rfl (st_extract rfl rfl rfl) (.run [] [8] rfl (st_allocZ rfl 8 inf26 rfl (by decide) rfl (by decide)) (.run [] [] rfl (st_store_box rfl rfl rfl rfl rfl Try.sizeOf26 rfl (nle rfl)) (.run [] [] rfl (st_assign rfl) .nil))))))))))) ?_
      refine tr_seq ?_
      refine tr_region rfl (.run [] [] rfl (st_load_box rfl rfl rfl Try.isAgg38 Try.sizeOf38 (nle rfl)) (.run [3500, 3501] [] rfl (st_call rfl 3500 (X := []) en16 rfl (.val nod) (.cons (.agg (.cons (.bor .v) (.cons (.bor (.sl nod)) .nil))) .nil) (by decide) all_nil .nil (toCache_con m l hl2) rfl rfl (nle rfl)) (.run [] [10] rfl (st_allocZ rfl 10 inf26 rfl (by decide) rfl (by decide)) (.run [] [] rfl (st_store_box rfl rfl rfl rfl rfl Try.sizeOf26 rfl (nle rfl)) .nil)))) ?_
      refine tr_seq ?_
      refine tr_wk (s' := mk [(1, .p none (.v (.string name))), (2, .p none (.v (.int .i64 size))), (3, .ptr 3 0), (8, .ptr 8 0), (9, .p none (.v (.bool ((putC m l name size).2.2)))), (10, .ptr 10 0)] [(3, [.p none (.v (.int .i64 m)), .p none (.sl false 3 (pvS l))]), (8, [.p none (.v (.int .i64 ((putC m l name size).1))), .sl 3101 0 ((pvS ((putC m l name size).2.1)).length)]), (10, [.p none (.v (.int .i64 m)), .sl 3501 0 ((pvS l).length)])] [(3101, 3, pvS ((putC m l name size).2.1)), (3501, 3, pvS l)]) ?_ ?_
      · exact wk_mk ⟨rfl, ⟨rfl, ⟨rfl, ⟨rfl, ⟨rfl, ⟨rfl, trivial⟩⟩⟩⟩⟩⟩ ⟨rfl, ⟨rfl, ⟨rfl, trivial⟩⟩⟩ ⟨rfl, ⟨rfl, trivial⟩⟩ rfl
      refine tr_region rfl (.run [] [] rfl (st_load_box rfl rfl rfl Try.isAgg26 Try.sizeOf26 (nle rfl)) (.run [] [] rfl (st_move rfl) (.run [] [] rfl (st_move rfl) (.run [3501, 4000, 4001, 4002] [] rfl (st_call rfl 4000 (X := []) en23 rfl (.val nod) (.cons (.agg (.cons (.bor .v) (.cons (.bor (.all (len := (pvS l).length) (xs := pvS l) rfl rfl (by decide))) .nil))) (.cons (.one (.bor .v)) (.cons (.one (.bor .v)) .nil))) (by decide) all_nil .nil (cachePut_con m l name size (by omega)) rfl rfl (nle rfl)) (.run [] [] rfl (st_move rfl) (.run [] [] rfl (st_extract rfl rfl rfl) (.run [] [] rfl (st_extract rfl rfl rfl) (.run [] [11] rfl (st_allocZ rfl 11 inf26 rfl (by decide) rfl (by decide)) (.run [] [] rfl (st_store_box rfl rfl rfl rfl rfl Try.sizeOf26 rfl (nle rfl)) (.run [] [] rfl (st_assign rfl) .nil)))))))))) ?_
      refine tr_seq ?_
      refine tr_seq ?_
      refine tr_wk (s' := mk [(1, .p none (.v (.string name))), (2, .p none (.v (.int .i64 size))), (3, .ptr 3 0), (8, .ptr 8 0), (9, .p none (.v (.bool ((putC m l name size).2.2)))), (10, .ptr 10 0), (11, .ptr 11 0), (12, .p none (.v (.bool ((putC m l name size).2.2))))] [(3, [.p none (.v (.int .i64 m)), .p none (.sl false 3 (pvS l))]), (8, [.p none (.v (.int .i64 ((putC m l name size).1))), .sl 3101 0 ((pvS ((putC m l name size).2.1)).length)]), (10, [.p none (.v (.int .i64 m)), .sl 3501 0 ((pvS l).length)]), (11, [.p none (.v (.int .i64 ((putC m l name size).1))), .sl 4001 0 ((pvS ((putC m l name size).2.1)).length)])] [(3101, 3, pvS ((putC m l name size).2.1)), (3501, 3, pvS l), (4001, 3, pvS ((putC m l name size).2.1))]) ?_ ?_
      · exact wk_mk ⟨rfl, ⟨rfl, ⟨rfl, ⟨rfl, ⟨rfl, ⟨rfl, ⟨rfl, ⟨rfl, trivial⟩⟩⟩⟩⟩⟩⟩⟩ ⟨rfl, ⟨rfl, ⟨rfl, ⟨rfl, trivial⟩⟩⟩⟩ ⟨rfl, ⟨rfl, ⟨rfl, trivial⟩⟩⟩ rfl
      refine tr_region rfl (.run [] [] rfl (st_load_box rfl rfl rfl Try.isAgg26 Try.sizeOf26 (nle rfl)) (.run [] [] rfl (st_load_box rfl rfl rfl Try.isAgg26 Try.sizeOf26 (nle rfl)) (.run [3101, 4001, 4500] [] rfl (st_call rfl 4500 (X := []) en17 rfl (.val nod) (.cons (.agg (.cons (.bor .v) (.cons (.bor (.all (len := (pvS ((putC m l name size).2.1)).length) (xs := pvS ((putC m l name size).2.1)) rfl rfl (by decide))) .nil))) (.cons (.agg (.cons (.bor .v) (.cons (.bor (.all (len := (pvS ((putC m l name size).2.1)).length) (xs := pvS ((putC m l name size).2.1)) rfl rfl (by decide))) .nil))) .nil)) (by decide) all_nil .nil (eqCache_same ((putC m l name size).1) ((putC m l name size).2.1) (by omega)) rfl rfl (nle rfl)) (.run [] [] rfl (st_not (b := true) rfl rfl) (.run [] [] rfl (st_move rfl) (.run [] [] rfl (st_move rfl) (.run [] [] rfl (st_move rfl) (.run [] [] rfl (st_eq (st_bneq rfl rfl rfl Try.underlying4) (bool_eq (show (!(((putC m l name size).2.2) == ((putC m l name size).2.2))) = false from by simp))) (.run [] [] rfl (st_pick (t := false) rfl rfl) .nil))))))))) ?_
      refine tr_if (t := false) rfl (fun h => nomatch h) (fun _ => ?_)
      refine tr_skip ?_
      refine tr_seq ?_
      refine tr_seq ?_
      refine tr_regionD mixed rfl (.run [] [] rfl (st_load_box rfl rfl rfl Try.isAgg26 Try.sizeOf26 (nle rfl)) (.run [] [] rfl (st_load_box rfl rfl rfl Try.isAgg38 Try.sizeOf38 (nle rfl)) (.run [5400, 5401] [] rfl (st_call rfl 5400 (X := []) en16 rfl (.val nod) (.cons (.agg (.cons (.bor .v) (.cons (.bor (.sl nod)) .nil))) .nil) (by decide) all_nil .nil (toCache_con m l hl2) rfl rfl (nle rfl)) (.run [3501, 5401, 5500] [] rfl (st_call rfl 5500 (X := []) en17 rfl (.val nod) (.cons (.agg (.cons (.bor .v) (.cons (.bor (.all (len := (pvS l).length) (xs := pvS l) rfl rfl (by decide))) .nil))) (.cons (.agg (.cons (.bor .v) (.cons (.bor (.all (len := (pvS l).length) (xs := pvS l) rfl rfl (by decide))) .nil))) .nil)) (by decide) all_nil .nil (eqCache_same m l (by omega)) rfl rfl (nle rfl)) (.run [] [] rfl (st_not (b := true) rfl rfl) .nil))))) (by kernel_rfl) ?_
      refine tr_if (t := false) rfl (fun h => nomatch h) (fun _ => ?_)
      refine tr_skip ?_
      refine tr_seq ?_
      refine tr_region rfl (.run [] [] rfl (st_assign rfl) .nil) ?_
      refine tr_seq ?_
      refine tr_wk (s' := mk [(1, .p none (.v (.string name))), (2, .p none (.v (.int .i64 size))), (3, .ptr 3 0), (8, .ptr 8 0), (9, .p none (.v (.bool ((putC m l name size).2.2)))), (10, .ptr 10 0), (11, .ptr 11 0), (12, .p none (.v (.bool ((putC m l name size).2.2)))), (13, .p none (.v (.int .i64 1)))] [(3, [.p none (.v (.int .i64 m)), .p none (.sl false 3 (pvS l))]), (8, [.p none (.v (.int .i64 ((putC m l name size).1))), .sl 3101 0 ((pvS ((putC m l name size).2.1)).length)]), (10, [.p none (.v (.int .i64 m)), .sl 3501 0 ((pvS l).length)]), (11, [.p none (.v (.int .i64 ((putC m l name size).1))), .sl 4001 0 ((pvS ((putC m l name size).2.1)).length)])] [(3101, 3, pvS ((putC m l name size).2.1)), (3501, 3, pvS l), (4001, 3, pvS ((putC m l name size).2.1))]) ?_ ?_
      · exact wk_mk ⟨rfl, ⟨rfl, ⟨rfl, ⟨rfl, ⟨rfl, ⟨rfl, ⟨rfl, ⟨rfl, ⟨rfl, trivial⟩⟩⟩⟩⟩⟩⟩⟩⟩ ⟨rfl, ⟨rfl, ⟨rfl, ⟨rfl, trivial⟩⟩⟩⟩ ⟨rfl, ⟨rfl, ⟨rfl, trivial⟩⟩⟩ rfl
      refine tr_region rfl (.run [] [] rfl (st_load_box rfl rfl rfl Try.isAgg26 Try.sizeOf26 (nle rfl)) (.run [] [] rfl (st_move rfl) (.run [3501, 5900] [] rfl (st_call rfl 5900 (X := [3501]) en18 rfl (.val nod) (.cons (.agg (.cons (.bor .v) (.cons (.own (len := (pvS l).length) (xs := pvS l) rfl rfl) .nil))) (.cons (.one (.bor .v)) .nil)) (by decide) (all_cons rfl all_nil) (.keep (xs := pvS l) rfl (FlatP.nf (pvS_flat _)) .nil) (markCache_con m l 1 (by omega)) rfl rfl (nle rfl)) (.run [] [] rfl (st_assign rfl) .nil)))) ?_
      refine tr_seq ?_
      refine tr_seq ?_
      refine tr_wk (s' := mk [(1, .p none (.v (.string name))), (2, .p none (.v (.int .i64 size))), (3, .ptr 3 0), (8, .ptr 8 0), (9, .p none (.v (.bool ((putC m l name size).2.2)))), (11, .ptr 11 0), (12, .p none (.v (.bool ((putC m l name size).2.2)))), (13, .p none (.v (.int .i64 ((1 + 3 * l.length : Nat) : Int))))] [(3, [.p none (.v (.int .i64 m)), .p none (.sl false 3 (pvS l))]), (8, [.p none (.v (.int .i64 ((putC m l name size).1))), .sl 3101 0 ((pvS ((putC m l name size).2.1)).length)]), (11, [.p none (.v (.int .i64 ((putC m l name size).1))), .sl 4001 0 ((pvS ((putC m l name size).2.1)).length)])] [(3101, 3, pvS ((putC m l name size).2.1)), (4001, 3, pvS ((putC m l name size).2.1))]) ?_ ?_
      · exact wk_mk ⟨rfl, ⟨rfl, ⟨rfl, ⟨rfl, ⟨rfl, ⟨rfl, ⟨rfl, ⟨rfl, trivial⟩⟩⟩⟩⟩⟩⟩⟩ ⟨rfl, ⟨rfl, ⟨rfl, trivial⟩⟩⟩ ⟨rfl, ⟨rfl, trivial⟩⟩ rfl
      refine tr_region rfl (.run [] [] rfl (st_move rfl) (.run [] [] rfl (st_eq (st_lss rfl rfl rfl) (bool_eq (decide_eq_false (by omega)))) (.run [] [] rfl (st_move rfl) (.run [] [] rfl (st_load_box rfl rfl rfl Try.isAgg26 Try.sizeOf26 (nle rfl)) (.run [] [] rfl (st_load_box rfl rfl rfl Try.isAgg26 Try.sizeOf26 (nle rfl)) (.run [3101, 4001, 6500] [] rfl (st_call rfl 6500 (X := []) en17 rfl (.val nod) (.cons (.agg (.cons (.bor .v) (.cons (.bor (.all (len := (pvS ((putC m l name size).2.1)).length) (xs := pvS ((putC m l name size).2.1)) rfl rfl (by decide))) .nil))) (.cons (.agg (.cons (.bor .v) (.cons (.bor (.all (len := (pvS ((putC m l name size).2.1)).length) (xs := pvS ((putC m l name size).2.1)) rfl rfl (by decide))) .nil))) .nil)) (by decide) all_nil .nil (eqCache_same ((putC m l name size).1) ((putC m l name size).2.1) (by omega)) rfl rfl (nle rfl)) (.run [] [] rfl (st_not (b := true) rfl rfl) (.run [] [] rfl (st_pick (t := false) rfl rfl) (.run [] [] rfl (st_move rfl) (.run [] [] rfl (st_move rfl) (.run [] [] rfl (st_move rfl) (.run [] [] rfl (st_eq (st_bneq rfl rfl rfl Try.underlying4) (bool_eq (show (!(((putC m l name size).2.2) == ((putC m l name size).2.2))) = false from by simp))) (.run [] [] rfl (st_pick (t := false) rfl rfl) .nil))))))))))))) ?_
      refine tr_if (t := false) rfl (fun h => nomatch h) (fun _ => ?_)
      refine tr_skip ?_
      refine tr_seq ?_
      refine tr_region rfl (.run [] [] rfl (st_assign rfl) .nil) ?_
      refine tr_seq ?_
      refine tr_wk (s' := mk [(1, .p none (.v (.string name))), (2, .p none (.v (.int .i64 size))), (3, .ptr 3 0), (8, .ptr 8 0), (9, .p none (.v (.bool ((putC m l name size).2.2)))), (11, .ptr 11 0), (14, .p none (.v (.int .i64 1)))] [(3, [.p none (.v (.int .i64 m)), .p none (.sl false 3 (pvS l))]), (8, [.p none (.v (.int .i64 ((putC m l name size).1))), .sl 3101 0 ((pvS ((putC m l name size).2.1)).length)]), (11, [.p none (.v (.int .i64 ((putC m l name size).1))), .sl 4001 0 ((pvS ((putC m l name size).2.1)).length)])] [(3101, 3, pvS ((putC m l name size).2.1)), (4001, 3, pvS ((putC m l name size).2.1))]) ?_ ?_
      · exact wk_mk ⟨rfl, ⟨rfl, ⟨rfl, ⟨rfl, ⟨rfl, ⟨rfl, ⟨rfl, trivial⟩⟩⟩⟩⟩⟩⟩ ⟨rfl, ⟨rfl, ⟨rfl, trivial⟩⟩⟩ ⟨rfl, ⟨rfl, trivial⟩⟩ rfl
      refine tr_region rfl (.run [] [] rfl (st_load_box rfl rfl rfl Try.isAgg26 Try.sizeOf26 (nle rfl)) (.run [] [] rfl (st_move rfl) (.run [4001, 7500] [] rfl (st_call rfl 7500 (X := [4001]) en18 rfl (.val nod) (.cons (.agg (.cons (.bor .v) (.cons (.own (len := (pvS ((putC m l name size).2.1)).length) (xs := pvS ((putC m l name size).2.1)) rfl rfl) .nil))) (.cons (.one (.bor .v)) .nil)) (by decide) (all_cons rfl all_nil) (.keep (xs := pvS ((putC m l name size).2.1)) rfl (FlatP.nf (pvS_flat _)) .nil) (markCache_con ((putC m l name size).1) ((putC m l name size).2.1) 1 (by omega)) rfl rfl (nle rfl)) (.run [] [] rfl (st_assign rfl) .nil)))) ?_
      have hr3 : pvS (marks 1 ((putC m l name size).2.1).length) = pvS (marks 1 ((putC m l name size).2.1).length) := by rfl
      have hl4 : (pvS ((putC m l name size).2.1)).length = (pvS (marks 1 ((putC m l name size).2.1).length)).length := by simp [pvS_length, marks_len]
      have hp5 : (some [.p none (.v (.int .i64 ((putC m l name size).1))), .sl 4001 0 ((pvS ((putC m l name size).2.1)).length)] : Option (List AV)) = some [.p none (.v (.int .i64 ((putC m l name size).1))), .sl 4001 0 ((pvS (marks 1 ((putC m l name size).2.1).length)).length)] := by simp only [hr3, hl4]
      refine tr_wk (s' := mk [(1, .p none (.v (.string name))), (2, .p none (.v (.int .i64 size))), (3, .ptr 3 0), (8, .ptr 8 0), (9, .p none (.v (.bool ((putC m l name size).2.2)))), (11, .ptr 11 0), (14, .p none (.v (.int .i64 ((1 + 3 * ((putC m l name size).2.1).length : Nat) : Int))))] [(3, [.p none (.v (.int .i64 m)), .p none (.sl false 3 (pvS l))]), (8, [.p none (.v (.int .i64 ((putC m l name size).1))), .sl 3101 0 ((pvS ((putC m l name size).2.1)).length)]), (11, [.p none (.v (.int .i64 ((putC m l name size).1))), .sl 4001 0 ((pvS (marks 1 ((putC m l name size).2.1).length)).length)])] [(3101, 3, pvS ((putC m l name size).2.1)), (4001, 3, pvS (marks 1 ((putC m l name size).2.1).length))]) ?_ ?_
      · exact wk_mk ⟨rfl, ⟨rfl, ⟨rfl, ⟨rfl, ⟨rfl, ⟨rfl, ⟨rfl, trivial⟩⟩⟩⟩⟩⟩⟩ ⟨rfl, ⟨rfl, ⟨hp5, trivial⟩⟩⟩ ⟨rfl, ⟨(congrArg (fun x => some (3, x)) hr3), trivial⟩⟩ rfl
      refine tr_seq ?_
      refine tr_region rfl (.run [] [] rfl (st_assign rfl) .nil) ?_
      refine tr_seq ?_
      refine tr_region rfl (.run [] [] rfl (st_load_box rfl rfl rfl Try.isAgg26 Try.sizeOf26 (nle rfl)) (.run [] [] rfl (st_move rfl) (.run [4001, 7800] [] rfl (st_call rfl 7800 (X := []) en19 rfl (.val nod) (.cons (.agg (.cons (.bor .v) (.cons (.bor (.all (len := (pvS (marks 1 ((putC m l name size).2.1).length)).length) (xs := pvS (marks 1 ((putC m l name size).2.1).length)) rfl rfl (by decide))) .nil))) (.cons (.one (.bor .v)) .nil)) (by decide) all_nil .nil (heldCache_self ((putC m l name size).1) 1 ((putC m l name size).2.1).length (by omega)) rfl rfl (nle rfl)) (.run [] [] rfl (st_assign rfl) .nil)))) ?_
      refine tr_seq ?_
      refine tr_seq ?_
      refine tr_region rfl (.run [] [] rfl (st_move rfl) (.run [] [] rfl (st_eq (st_lss rfl rfl rfl) (bool_eq (decide_eq_false (by omega)))) .nil)) ?_
      refine tr_if (t := false) rfl (fun h => nomatch h) (fun _ => ?_)
      refine tr_skip ?_
      refine tr_seq ?_
      refine tr_seq ?_
      refine tr_region rfl (.run [] [] rfl (st_move rfl) (.run [] [] rfl (st_move rfl) (.run [] [] rfl (st_eq (st_neq rfl rfl rfl) (bool_eq (congrArg Bool.not (decide_eq_true (by simp))))) .nil))) ?_
      refine tr_if (t := false) rfl (fun h => nomatch h) (fun _ => ?_)
      refine tr_skip ?_
      refine tr_seq ?_
      refine tr_wk (s' := mk [(1, .p none (.v (.string name))), (2, .p none (.v (.int .i64 size))), (3, .ptr 3 0), (8, .ptr 8 0), (9, .p none (.v (.bool ((putC m l name size).2.2)))), (11, .ptr 11 0), (14, .p none (.v (.int .i64 ((1 + 3 * ((putC m l name size).2.1).length : Nat) : Int))))] [(3, [.p none (.v (.int .i64 m)), .p none (.sl false 3 (pvS l))]), (8, [.p none (.v (.int .i64 ((putC m l name size).1))), .sl 3101 0 ((pvS ((putC m l name size).2.1)).length)]), (11, [.p none (.v (.int .i64 ((putC m l name size).1))), .sl 4001 0 ((pvS (marks 1 ((putC m l name size).2.1).length)).length)])] [(3101, 3, pvS ((putC m l name size).2.1)), (4001, 3, pvS (marks 1 ((putC m l name size).2.1).length))]) ?_ ?_
      · exact wk_mk ⟨rfl, ⟨rfl, ⟨rfl, ⟨rfl, ⟨rfl, ⟨rfl, ⟨rfl, trivial⟩⟩⟩⟩⟩⟩⟩ ⟨rfl, ⟨rfl, ⟨rfl, trivial⟩⟩⟩ ⟨rfl, ⟨rfl, trivial⟩⟩ rfl
      refine tr_region rfl (.run [] [] rfl (st_load_box rfl rfl rfl Try.isAgg38 Try.sizeOf38 (nle rfl)) (.run [8600, 8601] [] rfl (st_call rfl 8600 (X := []) en16 rfl (.val nod) (.cons (.agg (.cons (.bor .v) (.cons (.bor (.sl nod)) .nil))) .nil) (by decide) all_nil .nil (toCache_con m l hl2) rfl rfl (nle rfl)) (.run [] [] rfl (st_move rfl) (.run [] [] rfl (st_move rfl) (.run [8601, 8900, 8901, 8902] [] rfl (st_call rfl 8900 (X := []) en23 rfl (.val nod) (.cons (.agg (.cons (.bor .v) (.cons (.bor (.all (len := (pvS l).length) (xs := pvS l) rfl rfl (by decide))) .nil))) (.cons (.one (.bor .v)) (.cons (.one (.bor .v)) .nil))) (by decide) all_nil .nil (cachePut_con m l name size (by omega)) rfl rfl (nle rfl)) (.run [] [] rfl (st_move rfl) (.run [] [] rfl (st_extract rfl rfl rfl) (.run [] [] rfl (st_extract rfl rfl rfl) (.run [] [16] rfl (st_allocZ rfl 16 inf26 rfl (by decide) rfl (by decide)) (.run [] [] rfl (st_store_box rfl rfl rfl rfl rfl Try.sizeOf26 rfl (nle rfl)) (.run [] [] rfl (st_assign rfl) .nil))))))))))) ?_
      refine tr_seq ?_
      refine tr_seq ?_
      refine tr_wk (s' := mk [(8, .ptr 8 0), (9, .p none (.v (.bool ((putC m l name size).2.2)))), (11, .ptr 11 0), (14, .p none (.v (.int .i64 ((1 + 3 * ((putC m l name size).2.1).length : Nat) : Int)))), (16, .ptr 16 0), (17, .p none (.v (.bool ((putC m l name size).2.2))))] [(8, [.p none (.v (.int .i64 ((putC m l name size).1))), .sl 3101 0 ((pvS ((putC m l name size).2.1)).length)]), (11, [.p none (.v (.int .i64 ((putC m l name size).1))), .sl 4001 0 ((pvS (marks 1 ((putC m l name size).2.1).length)).length)]), (16, [.p none (.v (.int .i64 ((putC m l name size).1))), .sl 8901 0 ((pvS ((putC m l name size).2.1)).length)])] [(3101, 3, pvS ((putC m l name size).2.1)), (4001, 3, pvS (marks 1 ((putC m l name size).2.1).length)), (8901, 3, pvS ((putC m l name size).2.1))]) ?_ ?_
      · exact wk_mk ⟨rfl, ⟨rfl, ⟨rfl, ⟨rfl, ⟨rfl, ⟨rfl, trivial⟩⟩⟩⟩⟩⟩ ⟨rfl, ⟨rfl, ⟨rfl, trivial⟩⟩⟩ ⟨rfl, ⟨rfl, ⟨rfl, trivial⟩⟩⟩ rfl
      refine tr_region rfl (.run [] [] rfl (st_load_box rfl rfl rfl Try.isAgg26 Try.sizeOf26 (nle rfl)) (.run [] [] rfl (st_load_box rfl rfl rfl Try.isAgg26 Try.sizeOf26 (nle rfl)) (.run [3101, 8901, 9400] [] rfl (st_call rfl 9400 (X := []) en17 rfl (.val nod) (.cons (.agg (.cons (.bor .v) (.cons (.bor (.all (len := (pvS ((putC m l name size).2.1)).length) (xs := pvS ((putC m l name size).2.1)) rfl rfl (by decide))) .nil))) (.cons (.agg (.cons (.bor .v) (.cons (.bor (.all (len := (pvS ((putC m l name size).2.1)).length) (xs := pvS ((putC m l name size).2.1)) rfl rfl (by decide))) .nil))) .nil)) (by decide) all_nil .nil (eqCache_same ((putC m l name size).1) ((putC m l name size).2.1) (by omega)) rfl rfl (nle rfl)) (.run [] [] rfl (st_not (b := true) rfl rfl) (.run [] [] rfl (st_move rfl) (.run [] [] rfl (st_move rfl) (.run [] [] rfl (st_move rfl) (.run [] [] rfl (st_eq (st_bneq rfl rfl rfl Try.underlying4) (bool_eq (show (!(((putC m l name size).2.2) == ((putC m l name size).2.2))) = false from by simp))) (.run [] [] rfl (st_pick (t := false) rfl rfl) .nil))))))))) ?_
      refine tr_if (t := false) rfl (fun h => nomatch h) (fun _ => ?_)
      refine tr_skip ?_
      refine tr_seq ?_
      refine tr_region rfl (.run [] [] rfl (st_assign rfl) .nil) ?_
      refine tr_seq ?_
      refine tr_region rfl (.run [] [] rfl (st_load_box rfl rfl rfl Try.isAgg26 Try.sizeOf26 (nle rfl)) (.run [] [] rfl (st_move rfl) (.run [4001, 10300] [] rfl (st_call rfl 10300 (X := []) en19 rfl (.val nod) (.cons (.agg (.cons (.bor .v) (.cons (.bor (.all (len := (pvS (marks 1 ((putC m l name size).2.1).length)).length) (xs := pvS (marks 1 ((putC m l name size).2.1).length)) rfl rfl (by decide))) .nil))) (.cons (.one (.bor .v)) .nil)) (by decide) all_nil .nil (heldCache_self ((putC m l name size).1) 1 ((putC m l name size).2.1).length (by omega)) rfl rfl (nle rfl)) (.run [] [] rfl (st_assign rfl) .nil)))) ?_
      refine tr_seq ?_
      refine tr_seq ?_
      refine tr_region rfl (.run [] [] rfl (st_move rfl) (.run [] [] rfl (st_eq (st_lss rfl rfl rfl) (bool_eq (decide_eq_false (by omega)))) .nil)) ?_
      refine tr_if (t := false) rfl (fun h => nomatch h) (fun _ => ?_)
      refine tr_skip ?_
      refine tr_seq ?_
      refine tr_seq ?_
      refine tr_wk (s' := mk [(14, .p none (.v (.int .i64 ((1 + 3 * ((putC m l name size).2.1).length : Nat) : Int)))), (15, .p none (.v (.int .i64 ((1 + 3 * ((putC m l name size).2.1).length : Nat) : Int))))] [] []) ?_ ?_
      · exact wk_mk ⟨rfl, ⟨rfl, trivial⟩⟩ trivial trivial rfl
      refine tr_region rfl (.run [] [] rfl (st_move rfl) (.run [] [] rfl (st_move rfl) (.run [] [] rfl (st_eq (st_neq rfl rfl rfl) (bool_eq (congrArg Bool.not (decide_eq_true (by simp))))) .nil))) ?_
      refine tr_if (t := false) rfl (fun h => nomatch h) (fun _ => ?_)
      refine tr_skip ?_
      refine tr_seq ?_
      refine tr_region rfl (.run [] [] rfl (st_assign rfl) .nil) ?_
      refine tr_ret ?_
      exact ends [_] [] (.cons (.tmp rfl) .nil) (.cons (.one .v (.v _)) .nil) (by decide) trivial
end Go.Rl

/- Promises of functions, proved by walks over their operations; no conditions beyond those that each theorem states. -/
import Derived.Test.YtiflbeiomdbmiaaRtC
namespace Go.Rl
open Go.Proofs
theorem en15 : ∀ vs w, (callFunc 15 vs).run Try.prog w = .ok (.enter 15 vs) w := enters Try.func15 (by decide) rfl
theorem en16 : ∀ vs w, (callFunc 16 vs).run Try.prog w = .ok (.enter 16 vs) w := enters Try.func16 (by decide) rfl
theorem en11 : ∀ vs w, (callFunc 11 vs).run Try.prog w = .ok (.enter 11 vs) w := enters Try.func11 (by decide) rfl
theorem en10 : ∀ vs w, (callFunc 10 vs).run Try.prog w = .ok (.enter 10 vs) w := enters Try.func10 (by decide) rfl
theorem en17 : ∀ vs w, (callFunc 17 vs).run Try.prog w = .ok (.enter 17 vs) w := enters Try.func17 (by decide) rfl
theorem en18 : ∀ vs w, (callFunc 18 vs).run Try.prog w = .ok (.enter 18 vs) w := enters Try.func18 (by decide) rfl
theorem en19 : ∀ vs w, (callFunc 19 vs).run Try.prog w = .ok (.enter 19 vs) w := enters Try.func19 (by decide) rfl
theorem eqCache_same (m : Int) (a : List Slot) (hl : a.length ≤ 1000000000) : Con Try.prog 17 [.agg [.v (.int .i64 m), .sl false 3 (pvS a)], .agg [.v (.int .i64 m), .sl false 3 (pvS a)]] [] [.one (.v (.bool true))] := by
  simpa using eqCache_con m m a a hl
theorem heldCache_self (m : Int) (k n : Nat) (hk : k + 3 * n ≤ 1099511627776) : Con Try.prog 19 [.agg [.v (.int .i64 m), .sl false 3 (pvS (marks k n))], .one (.v (.int .i64 ((k:Int))))] [] [.one (.v (.int .i64 ((k + 3 * n : Nat) : Int)))] := by
  have := heldCache_con m (marks k n) k (by rw [marks_len]; exact hk)
  rwa [held_self] at this
theorem law_free_con (m : Int) (l : List Slot) (name : ByteArray) (hl : l.length ≤ 9223372036854775807) (hn : ∀ s ∈ l, s.name.size ≤ 9223372036854775807) : Con Try.prog 4 [.agg [.v (.int .i64 m), .sl false 3 (pvS l)], .one (.v (.string name))] [] [.one (.v (.bool true))] := by
  refine con_of_tr Try.func4 rfl rfl rfl rfl ?_
  have hle := pvS_length l
  refine tr_seq ?_
  refine tr_region rfl (.run [] [2] rfl (st_box rfl 2 rfl rfl (by decide) rfl (by decide)) (.run [] [] rfl (st_assign rfl) .nil)) ?_
  refine tr_seq ?_
  refine tr_seq ?_
  refine tr_region rfl (.run [] [] rfl (st_move rfl) (.run [] [] rfl (st_len_str rfl rfl Try.underlying9) (.run [] [] rfl (st_gtr rfl rfl rfl) .nil))) ?_
  refine tr_if (t := decide (1048576 < (name.size : Int))) rfl (fun h1 => ?_) (fun h1 => ?_)
  · skip
    replace h1 := of_decide_eq_true h1
    refine tr_seq ?_
    refine tr_region rfl (.run [] [] rfl (st_assign rfl) .nil) ?_
    refine tr_ret ?_
    exact ends [_] [] (.cons (.tmp rfl) .nil) (.cons (.one .v (.v _)) .nil) (by decide) trivial
  · skip
    replace h1 := of_decide_eq_false h1
    refine tr_skip ?_
    refine tr_seq ?_
    refine tr_region rfl (.run [] [] rfl (st_assign rfl) .nil) ?_
    refine tr_seq ?_
    refine tr_region rfl (.run [] [] rfl (st_load_box rfl rfl rfl Try.isAgg38 Try.sizeOf38 (nle rfl)) (.run [] [] rfl (st_move rfl) (.run [2100] [] rfl (st_call rfl 2100 (X := []) en15 rfl (.val nod) (.cons (.agg (.cons (.bor .v) (.cons (.bor (.sl nod)) .nil))) (.cons (.one (.bor .v)) .nil)) (by decide) all_nil .nil (szCache_con m l 1048576 (by omega) hl hn) rfl rfl (nle rfl)) (.run [] [] rfl (st_assign rfl) .nil)))) ?_
    refine tr_seq ?_
    refine tr_seq ?_
    refine tr_region rfl (.run [] [] rfl (st_move rfl) (.run [] [] rfl (st_lss rfl rfl rfl) .nil)) ?_
    refine tr_if (t := decide ((if szSlotsF l 1048576 < 0 then -1 else szSlotsF l 1048576) < 0)) rfl (fun h2 => ?_) (fun h2 => ?_)
    · skip
      replace h2 := of_decide_eq_true h2
      refine tr_seq ?_
      refine tr_region rfl (.run [] [] rfl (st_assign rfl) .nil) ?_
      refine tr_ret ?_
      exact ends [_] [] (.cons (.tmp rfl) .nil) (.cons (.one .v (.v _)) .nil) (by decide) trivial
    · skip
      replace h2 := of_decide_eq_false h2
      refine tr_skip ?_
      refine tr_seq ?_
      have hl2 := sz_len h2
      have hfl := free_len m l name
      refine tr_region rfl (.run [] [] rfl (st_load_box rfl rfl rfl Try.isAgg38 Try.sizeOf38 (nle rfl)) (.run [2600, 2601] [] rfl (st_call rfl 2600 (X := []) en16 rfl (.val nod) (.cons (.agg (.cons (.bor .v) (.cons (.bor (.sl nod)) .nil))) .nil) (by decide) all_nil .nil (toCache_con m l hl2) rfl rfl (nle rfl)) (.run [] [] rfl (st_move rfl) (.run [2601, 2800, 2801, 2802] [] rfl (st_call rfl 2800 (X := []) en11 rfl (.val nod) (.cons (.agg (.cons (.bor .v) (.cons (.bor (.all (len := (pvS l).length) (xs := pvS l) rfl rfl (by decide))) .nil))) (.cons (.one (.bor .v)) .nil)) (by decide) all_nil .nil (specCacheFree_con m l name (by omega)) rfl rfl (nle rfl)) (.run [] [] rfl (st_move rfl) (.run [] [] rfl (st_extract rfl rfl rfl) (.run [] [] rfl (st_extract rfl rfl rfl) (.run [] [6] rfl (st_allocZ rfl 6 inf26 rfl (by decide) rfl (by decide)) (.run [] [] rfl (st_store_box rfl rfl rfl rfl rfl Try.sizeOf26 rfl (nle rfl)) (.run [] [] rfl (st_assign rfl) .nil)))))))))) ?_
      refine tr_seq ?_
      refine tr_region rfl (.run [] [] rfl (st_load_box rfl rfl rfl Try.isAgg38 Try.sizeOf38 (nle rfl)) (.run [3200, 3201] [] rfl (st_call rfl 3200 (X := []) en16 rfl (.val nod) (.cons (.agg (.cons (.bor .v) (.cons (.bor (.sl nod)) .nil))) .nil) (by decide) all_nil .nil (toCache_con m l hl2) rfl rfl (nle rfl)) (.run [] [8] rfl (st_allocZ rfl 8 inf26 rfl (by decide) rfl (by decide)) (.run [] [] rfl (st_store_box rfl rfl rfl rfl rfl Try.sizeOf26 rfl (nle rfl)) .nil)))) ?_
      refine tr_seq ?_
      refine tr_region rfl (.run [] [] rfl (st_load_box rfl rfl rfl Try.isAgg26 Try.sizeOf26 (nle rfl)) (.run [] [] rfl (st_move rfl) (.run [3201, 3600, 3601, 3602] [] rfl (st_call rfl 3600 (X := []) en10 rfl (.val nod) (.cons (.agg (.cons (.bor .v) (.cons (.bor (.all (len := (pvS l).length) (xs := pvS l) rfl rfl (by decide))) .nil))) (.cons (.one (.bor .v)) .nil)) (by decide) all_nil .nil (cacheFree_con m l name (by omega)) rfl rfl (nle rfl)) (.run [] [] rfl (st_move rfl) (.run [] [] rfl (st_extract rfl rfl rfl) (.run [] [] rfl (st_extract rfl rfl rfl) (.run [] [9] rfl (st_allocZ rfl 9 inf26 rfl (by decide) rfl (by decide)) (.run [] [] rfl (st_store_box rfl rfl rfl rfl rfl Try.sizeOf26 rfl (nle rfl)) (.run [] [] rfl (st_assign rfl) .nil))))))))) ?_
      refine tr_seq ?_
      refine tr_seq ?_
      refine tr_region rfl (.run [] [] rfl (st_load_box rfl rfl rfl Try.isAgg26 Try.sizeOf26 (nle rfl)) (.run [] [] rfl (st_load_box rfl rfl rfl Try.isAgg26 Try.sizeOf26 (nle rfl)) (.run [2801, 3601, 4100] [] rfl (st_call rfl 4100 (X := []) en17 rfl (.val nod) (.cons (.agg (.cons (.bor .v) (.cons (.bor (.all (len := (pvS ((freeC m l name).2.1)).length) (xs := pvS ((freeC m l name).2.1)) rfl rfl (by decide))) .nil))) (.cons (.agg (.cons (.bor .v) (.cons (.bor (.all (len := (pvS ((freeC m l name).2.1)).length) (xs := pvS ((freeC m l name).2.1)) rfl rfl (by decide))) .nil))) .nil)) (by decide) all_nil .nil (eqCache_same ((freeC m l name).1) ((freeC m l name).2.1) (by omega)) rfl rfl (nle rfl)) (.run [] [] rfl (st_not (b := true) rfl rfl) (.run [] [] rfl (st_move rfl) (.run [] [] rfl (st_move rfl) (.run [] [] rfl (st_move rfl) (.run [] [] rfl (st_eq (st_bneq rfl rfl rfl Try.underlying4) (bool_eq (show (!(((freeC m l name).2.2) == ((freeC m l name).2.2))) = false from by simp))) (.run [] [] rfl (st_pick (t := false) rfl rfl) .nil))))))))) ?_
      refine tr_if (t := false) rfl (fun h => nomatch h) (fun _ => ?_)
      refine tr_skip ?_
      refine tr_seq ?_
      refine tr_seq ?_
      refine tr_regionD mixed rfl (.run [] [] rfl (st_load_box rfl rfl rfl Try.isAgg26 Try.sizeOf26 (nle rfl)) (.run [] [] rfl (st_load_box rfl rfl rfl Try.isAgg38 Try.sizeOf38 (nle rfl)) (.run [5000, 5001] [] rfl (st_call rfl 5000 (X := []) en16 rfl (.val nod) (.cons (.agg (.cons (.bor .v) (.cons (.bor (.sl nod)) .nil))) .nil) (by decide) all_nil .nil (toCache_con m l hl2) rfl rfl (nle rfl)) (.run [3201, 5001, 5100] [] rfl (st_call rfl 5100 (X := []) en17 rfl (.val nod) (.cons (.agg (.cons (.bor .v) (.cons (.bor (.all (len := (pvS l).length) (xs := pvS l) rfl rfl (by decide))) .nil))) (.cons (.agg (.cons (.bor .v) (.cons (.bor (.all (len := (pvS l).length) (xs := pvS l) rfl rfl (by decide))) .nil))) .nil)) (by decide) all_nil .nil (eqCache_same m l (by omega)) rfl rfl (nle rfl)) (.run [] [] rfl (st_not (b := true) rfl rfl) .nil))))) (by kernel_rfl) ?_
      refine tr_if (t := false) rfl (fun h => nomatch h) (fun _ => ?_)
      refine tr_skip ?_
      refine tr_seq ?_
      refine tr_region rfl (.run [] [] rfl (st_assign rfl) .nil) ?_
      refine tr_seq ?_
      refine tr_region rfl (.run [] [] rfl (st_load_box rfl rfl rfl Try.isAgg26 Try.sizeOf26 (nle rfl)) (.run [] [] rfl (st_move rfl) (.run [3201, 5500] [] rfl (st_call rfl 5500 (X := [3201]) en18 rfl (.val nod) (.cons (.agg (.cons (.bor .v) (.cons (.own (len := (pvS l).length) (xs := pvS l) rfl rfl) .nil))) (.cons (.one (.bor .v)) .nil)) (by decide) (all_cons rfl all_nil) (.keep (xs := pvS l) rfl (FlatP.nf (pvS_flat _)) .nil) (markCache_con m l 1 (by omega)) rfl rfl (nle rfl)) (.run [] [] rfl (st_assign rfl) .nil)))) ?_
      refine tr_seq ?_
      refine tr_seq ?_
      refine tr_region rfl (.run [] [] rfl (st_move rfl) (.run [] [] rfl (st_eq (st_lss rfl rfl rfl) (bool_eq (decide_eq_false (by omega)))) (.run [] [] rfl (st_move rfl) (.run [] [] rfl (st_load_box rfl rfl rfl Try.isAgg26 Try.sizeOf26 (nle rfl)) (.run [] [] rfl (st_load_box rfl rfl rfl Try.isAgg26 Try.sizeOf26 (nle rfl)) (.run [2801, 3601, 6100] [] rfl (st_call rfl 6100 (X := []) en17 rfl (.val nod) (.cons (.agg (.cons (.bor .v) (.cons (.bor (.all (len := (pvS ((freeC m l name).2.1)).length) (xs := pvS ((freeC m l name).2.1)) rfl rfl (by decide))) .nil))) (.cons (.agg (.cons (.bor .v) (.cons (.bor (.all (len := (pvS ((freeC m l name).2.1)).length) (xs := pvS ((freeC m l name).2.1)) rfl rfl (by decide))) .nil))) .nil)) (by decide) all_nil .nil (eqCache_same ((freeC m l name).1) ((freeC m l name).2.1) (by omega)) rfl rfl (nle rfl)) (.run [] [] rfl (st_not (b := true) rfl rfl) (.run [] [] rfl (st_pick (t := false) rfl rfl) (.run [] [] rfl (st_move rfl) (.run [] [] rfl (st_move rfl) (.run [] [] rfl (st_move rfl) (.run [] [] rfl (st_eq (st_bneq rfl rfl rfl Try.underlying4) (bool_eq (show (!(((freeC m l name).2.2) == ((freeC m l name).2.2))) = false from by simp))) (.run [] [] rfl (st_pick (t := false) rfl rfl) .nil))))))))))))) ?_
      refine tr_if (t := false) rfl (fun h => nomatch h) (fun _ => ?_)
      refine tr_skip ?_
      refine tr_seq ?_
      refine tr_region rfl (.run [] [] rfl (st_assign rfl) .nil) ?_
      refine tr_seq ?_
      refine tr_region rfl (.run [] [] rfl (st_load_box rfl rfl rfl Try.isAgg26 Try.sizeOf26 (nle rfl)) (.run [] [] rfl (st_move rfl) (.run [3601, 7100] [] rfl (st_call rfl 7100 (X := [3601]) en18 rfl (.val nod) (.cons (.agg (.cons (.bor .v) (.cons (.own (len := (pvS ((freeC m l name).2.1)).length) (xs := pvS ((freeC m l name).2.1)) rfl rfl) .nil))) (.cons (.one (.bor .v)) .nil)) (by decide) (all_cons rfl all_nil) (.keep (xs := pvS ((freeC m l name).2.1)) rfl (FlatP.nf (pvS_flat _)) .nil) (markCache_con ((freeC m l name).1) ((freeC m l name).2.1) 1 (by omega)) rfl rfl (nle rfl)) (.run [] [] rfl (st_assign rfl) .nil)))) ?_
      have hr3 : pvS (marks 1 ((freeC m l name).2.1).length) = pvS (marks 1 ((freeC m l name).2.1).length) := by rfl
      have hl4 : (pvS ((freeC m l name).2.1)).length = (pvS (marks 1 ((freeC m l name).2.1).length)).length := by simp [pvS_length, marks_len]
      have hp5 : (.agg [.p none (.v (.int .i64 ((freeC m l name).1))), .sl 3601 0 ((pvS ((freeC m l name).2.1)).length)] : AV) = .agg [.p none (.v (.int .i64 ((freeC m l name).1))), .sl 3601 0 ((pvS (marks 1 ((freeC m l name).2.1).length)).length)] := by simp only [hr3, hl4]
      have hp6 : (.agg [.p none (.v (.int .i64 ((freeC m l name).1))), .sl 3601 0 ((pvS ((freeC m l name).2.1)).length)] : AV) = .agg [.p none (.v (.int .i64 ((freeC m l name).1))), .sl 3601 0 ((pvS (marks 1 ((freeC m l name).2.1).length)).length)] := by simp only [hr3, hl4]
      have hp7 : (.agg [.p none (.v (.int .i64 ((freeC m l name).1))), .sl 3601 0 ((pvS ((freeC m l name).2.1)).length)] : AV) = .agg [.p none (.v (.int .i64 ((freeC m l name).1))), .sl 3601 0 ((pvS (marks 1 ((freeC m l name).2.1).length)).length)] := by simp only [hr3, hl4]
      have hp8 : (.agg [.p none (.v (.int .i64 ((freeC m l name).1))), .sl 3601 0 ((pvS ((freeC m l name).2.1)).length)] : AV) = .agg [.p none (.v (.int .i64 ((freeC m l name).1))), .sl 3601 0 ((pvS (marks 1 ((freeC m l name).2.1).length)).length)] := by simp only [hr3, hl4]
      have hp9 : (some [.p none (.v (.int .i64 ((freeC m l name).1))), .sl 3601 0 ((pvS ((freeC m l name).2.1)).length)] : Option (List AV)) = some [.p none (.v (.int .i64 ((freeC m l name).1))), .sl 3601 0 ((pvS (marks 1 ((freeC m l name).2.1).length)).length)] := by simp only [hr3, hl4]
      refine tr_wk (s' := mk [(0, .agg [.p none (.v (.int .i64 m)), .p none (.sl false 3 (pvS l))]), (1, .p none (.v (.string name))), (2, .ptr 2 0), (4, .p none (.v (.bool false))), (5, .p none (.v (.int .i64 (if szSlotsF l 1048576 < 0 then -1 else szSlotsF l 1048576)))), (6, .ptr 6 0), (7, .p none (.v (.bool ((freeC m l name).2.2)))), (8, .ptr 8 0), (9, .ptr 9 0), (10, .p none (.v (.bool ((freeC m l name).2.2)))), (11, .p none (.v (.int .i64 ((1 + 3 * l.length : Nat) : Int)))), (12, .p none (.v (.int .i64 ((1 + 3 * ((freeC m l name).2.1).length : Nat) : Int)))), (16, .p none (.v (.string name))), (17, .p none (.v (.int .i64 (name.size : Int)))), (18, .p none (.v (.bool (decide (1048576 < (name.size : Int)))))), (19, .agg [.p none (.v (.int .i64 m)), .p none (.sl false 3 (pvS l))]), (20, .p none (.v (.int .i64 1048576))), (21, .p none (.v (.int .i64 (if szSlotsF l 1048576 < 0 then -1 else szSlotsF l 1048576)))), (22, .p none (.v (.int .i64 (if szSlotsF l 1048576 < 0 then -1 else szSlotsF l 1048576)))), (23, .p none (.v (.bool (decide ((if szSlotsF l 1048576 < 0 then -1 else szSlotsF l 1048576) < 0))))), (25, .agg [.p none (.v (.int .i64 m)), .p none (.sl false 3 (pvS l))]), (26, .agg [.p none (.v (.int .i64 m)), .sl 2601 0 ((pvS l).length)]), (27, .p none (.v (.string name))), (29, .agg [.p none (.v (.int .i64 ((freeC m l name).1))), .sl 2801 0 ((pvS ((freeC m l name).2.1)).length)]), (30, .p none (.v (.bool ((freeC m l name).2.2)))), (31, .agg [.p none (.v (.int .i64 m)), .p none (.sl false 3 (pvS l))]), (32, .agg [.p none (.v (.int .i64 m)), .sl 3201 0 ((pvS l).length)]), (34, .agg [.p none (.v (.int .i64 m)), .sl 3201 0 ((pvS l).length)]), (35, .p none (.v (.string name))), (37, .agg [.p none (.v (.int .i64 ((freeC m l name).1))), .sl 3601 0 ((pvS (marks 1 ((freeC m l name).2.1).length)).length)]), (38, .p none (.v (.bool ((freeC m l name).2.2)))), (39, .agg [.p none (.v (.int .i64 ((freeC m l name).1))), .sl 3601 0 ((pvS (marks 1 ((freeC m l name).2.1).length)).length)]), (40, .agg [.p none (.v (.int .i64 ((freeC m l name).1))), .sl 2801 0 ((pvS ((freeC m l name).2.1)).length)]), (41, .p none (.v (.bool true))), (42, .p none (.v (.bool false))), (43, .p none (.v (.bool false))), (44, .p none (.v (.bool ((freeC m l name).2.2)))), (45, .p none (.v (.bool ((freeC m l name).2.2)))), (46, .p none (.v (.bool false))), (47, .p none (.v (.bool false))), (48, .agg [.p none (.v (.int .i64 m)), .sl 3201 0 ((pvS l).length)]), (49, .agg [.p none (.v (.int .i64 m)), .p none (.sl false 3 (pvS l))]), (50, .agg [.p none (.v (.int .i64 m)), .sl 5001 0 ((pvS l).length)]), (51, .p none (.v (.bool true))), (52, .p none (.v (.bool false))), (53, .agg [.p none (.v (.int .i64 m)), .sl 3201 0 ((pvS l).length)]), (54, .p none (.v (.int .i64 1))), (55, .p none (.v (.int .i64 ((1 + 3 * l.length : Nat) : Int)))), (56, .p none (.v (.int .i64 ((1 + 3 * l.length : Nat) : Int)))), (57, .p none (.v (.bool false))), (58, .p none (.v (.bool false))), (59, .agg [.p none (.v (.int .i64 ((freeC m l name).1))), .sl 3601 0 ((pvS (marks 1 ((freeC m l name).2.1).length)).length)]), (60, .agg [.p none (.v (.int .i64 ((freeC m l name).1))), .sl 2801 0 ((pvS ((freeC m l name).2.1)).length)]), (61, .p none (.v (.bool true))), (62, .p none (.v (.bool false))), (63, .p none (.v (.bool false))), (64, .p none (.v (.bool false))), (65, .p none (.v (.bool ((freeC m l name).2.2)))), (66, .p none (.v (.bool ((freeC m l name).2.2)))), (67, .p none (.v (.bool false))), (68, .p none (.v (.bool false))), (69, .agg [.p none (.v (.int .i64 ((freeC m l name).1))), .sl 3601 0 ((pvS (marks 1 ((freeC m l name).2.1).length)).length)]), (70, .p none (.v (.int .i64 1))), (71, .p none (.v (.int .i64 ((1 + 3 * ((freeC m l name).2.1).length : Nat) : Int))))] [(2, [.p none (.v (.int .i64 m)), .p none (.sl false 3 (pvS l))]), (6, [.p none (.v (.int .i64 ((freeC m l name).1))), .sl 2801 0 ((pvS ((freeC m l name).2.1)).length)]), (8, [.p none (.v (.int .i64 m)), .sl 3201 0 ((pvS l).length)]), (9, [.p none (.v (.int .i64 ((freeC m l name).1))), .sl 3601 0 ((pvS (marks 1 ((freeC m l name).2.1).length)).length)])] [(2601, 3, pvS l), (2801, 3, pvS ((freeC m l name).2.1)), (3201, 3, pvS (marks 1 l.length)), (3601, 3, pvS (marks 1 ((freeC m l name).2.1).length)), (5001, 3, pvS l)]) ?_ ?_
      · exact wk_mk ⟨rfl, ⟨rfl, ⟨rfl, ⟨rfl, ⟨rfl, ⟨rfl, ⟨rfl, ⟨rfl, ⟨rfl, ⟨rfl, ⟨rfl, ⟨rfl, ⟨rfl, ⟨rfl, ⟨rfl, ⟨rfl, ⟨rfl, ⟨rfl, ⟨rfl, ⟨rfl, ⟨rfl, ⟨rfl, ⟨rfl, ⟨rfl, ⟨rfl, ⟨rfl, ⟨rfl, ⟨rfl, ⟨rfl, ⟨hp5, ⟨rfl, ⟨hp6, ⟨rfl, ⟨rfl, ⟨rfl, ⟨rfl, ⟨rfl, ⟨rfl, ⟨rfl, ⟨rfl, ⟨rfl, ⟨rfl, ⟨rfl, ⟨rfl, ⟨rfl, ⟨rfl, ⟨rfl, ⟨rfl, ⟨rfl, ⟨rfl, ⟨rfl, ⟨hp7, ⟨rfl, ⟨rfl, ⟨rfl, ⟨rfl, ⟨rfl, ⟨rfl, ⟨rfl, ⟨rfl, ⟨rfl, ⟨hp8, ⟨rfl, ⟨rfl, trivial⟩⟩⟩⟩⟩⟩⟩⟩⟩⟩⟩⟩⟩⟩⟩⟩⟩⟩⟩⟩⟩⟩⟩⟩⟩⟩⟩⟩⟩⟩⟩⟩⟩⟩⟩⟩⟩⟩⟩⟩⟩⟩⟩⟩⟩⟩⟩⟩⟩⟩⟩⟩⟩⟩⟩⟩⟩⟩⟩⟩⟩⟩⟩⟩ ⟨rfl, ⟨rfl, ⟨rfl, ⟨hp9, trivial⟩⟩⟩⟩ ⟨rfl, ⟨rfl, ⟨rfl, ⟨(congrArg (fun x => some (3, x)) hr3), ⟨rfl, trivial⟩⟩⟩⟩⟩ rfl
      refine tr_seq ?_
      refine tr_region rfl (.run [] [] rfl (st_assign rfl) .nil) ?_
      refine tr_seq ?_
      refine tr_region rfl (.run [] [] rfl (st_load_box rfl rfl rfl Try.isAgg26 Try.sizeOf26 (nle rfl)) (.run [] [] rfl (st_move rfl) (.run [3601, 7400] [] rfl (st_call rfl 7400 (X := []) en19 rfl (.val nod) (.cons (.agg (.cons (.bor .v) (.cons (.bor (.all (len := (pvS (marks 1 ((freeC m l name).2.1).length)).length) (xs := pvS (marks 1 ((freeC m l name).2.1).length)) rfl rfl (by decide))) .nil))) (.cons (.one (.bor .v)) .nil)) (by decide) all_nil .nil (heldCache_self ((freeC m l name).1) 1 ((freeC m l name).2.1).length (by omega)) rfl rfl (nle rfl)) (.run [] [] rfl (st_assign rfl) .nil)))) ?_
      refine tr_seq ?_
      refine tr_seq ?_
      refine tr_region rfl (.run [] [] rfl (st_move rfl) (.run [] [] rfl (st_eq (st_lss rfl rfl rfl) (bool_eq (decide_eq_false (by omega)))) .nil)) ?_
      refine tr_if (t := false) rfl (fun h => nomatch h) (fun _ => ?_)
      refine tr_skip ?_
      refine tr_seq ?_
      refine tr_seq ?_
      refine tr_region rfl (.run [] [] rfl (st_move rfl) (.run [] [] rfl (st_move rfl) (.run [] [] rfl (st_eq (st_neq rfl rfl rfl) (bool_eq (congrArg Bool.not (decide_eq_true (by simp))))) .nil))) ?_
      refine tr_if (t := false) rfl (fun h => nomatch h) (fun _ => ?_)
      refine tr_skip ?_
      refine tr_seq ?_
      refine tr_region rfl (.run [] [] rfl (st_load_box rfl rfl rfl Try.isAgg38 Try.sizeOf38 (nle rfl)) (.run [8200, 8201] [] rfl (st_call rfl 8200 (X := []) en16 rfl (.val nod) (.cons (.agg (.cons (.bor .v) (.cons (.bor (.sl nod)) .nil))) .nil) (by decide) all_nil .nil (toCache_con m l hl2) rfl rfl (nle rfl)) (.run [] [] rfl (st_move rfl) (.run [8201, 8400, 8401, 8402] [] rfl (st_call rfl 8400 (X := []) en10 rfl (.val nod) (.cons (.agg (.cons (.bor .v) (.cons (.bor (.all (len := (pvS l).length) (xs := pvS l) rfl rfl (by decide))) .nil))) (.cons (.one (.bor .v)) .nil)) (by decide) all_nil .nil (cacheFree_con m l name (by omega)) rfl rfl (nle rfl)) (.run [] [] rfl (st_move rfl) (.run [] [] rfl (st_extract rfl rfl rfl) (.run [] [] rfl (st_extract rfl rfl rfl) (.run [] [14] rfl (st_allocZ rfl 14 inf26 rfl (by decide) rfl (by decide)) (.run [] [] rfl (st_store_box rfl rfl rfl rfl rfl Try.sizeOf26 rfl (nle rfl)) (.run [] [] rfl (st_assign rfl) .nil)))))))))) ?_
      refine tr_seq ?_
      refine tr_seq ?_
      refine tr_region rfl (.run [] [] rfl (st_load_box rfl rfl rfl Try.isAgg26 Try.sizeOf26 (nle rfl)) (.run [] [] rfl (st_load_box rfl rfl rfl Try.isAgg26 Try.sizeOf26 (nle rfl)) (.run [2801, 8401, 8900] [] rfl (st_call rfl 8900 (X := []) en17 rfl (.val nod) (.cons (.agg (.cons (.bor .v) (.cons (.bor (.all (len := (pvS ((freeC m l name).2.1)).length) (xs := pvS ((freeC m l name).2.1)) rfl rfl (by decide))) .nil))) (.cons (.agg (.cons (.bor .v) (.cons (.bor (.all (len := (pvS ((freeC m l name).2.1)).length) (xs := pvS ((freeC m l name).2.1)) rfl rfl (by decide))) .nil))) .nil)) (by decide) all_nil .nil (eqCache_same ((freeC m l name).1) ((freeC m l name).2.1) (by omega)) rfl rfl (nle rfl)) (.run [] [] rfl (st_not (b := true) rfl rfl) (.run [] [] rfl (st_move rfl) (.run [] [] rfl (st_move rfl) (.run [] [] rfl (st_move rfl) (.run [] [] rfl (st_eq (st_bneq rfl rfl rfl Try.underlying4) (bool_eq (show (!(((freeC m l name).2.2) == ((freeC m l name).2.2))) = false from by simp))) (.run [] [] rfl (st_pick (t := false) rfl rfl) .nil))))))))) ?_
      refine tr_if (t := false) rfl (fun h => nomatch h) (fun _ => ?_)
      refine tr_skip ?_
      refine tr_seq ?_
      refine tr_region rfl (.run [] [] rfl (st_assign rfl) .nil) ?_
      refine tr_seq ?_
      refine tr_region rfl (.run [] [] rfl (st_load_box rfl rfl rfl Try.isAgg26 Try.sizeOf26 (nle rfl)) (.run [] [] rfl (st_move rfl) (.run [3601, 9800] [] rfl (st_call rfl 9800 (X := []) en19 rfl (.val nod) (.cons (.agg (.cons (.bor .v) (.cons (.bor (.all (len := (pvS (marks 1 ((freeC m l name).2.1).length)).length) (xs := pvS (marks 1 ((freeC m l name).2.1).length)) rfl rfl (by decide))) .nil))) (.cons (.one (.bor .v)) .nil)) (by decide) all_nil .nil (heldCache_self ((freeC m l name).1) 1 ((freeC m l name).2.1).length (by omega)) rfl rfl (nle rfl)) (.run [] [] rfl (st_assign rfl) .nil)))) ?_
      refine tr_seq ?_
      refine tr_seq ?_
      refine tr_region rfl (.run [] [] rfl (st_move rfl) (.run [] [] rfl (st_eq (st_lss rfl rfl rfl) (bool_eq (decide_eq_false (by omega)))) .nil)) ?_
      refine tr_if (t := false) rfl (fun h => nomatch h) (fun _ => ?_)
      refine tr_skip ?_
      refine tr_seq ?_
      refine tr_seq ?_
      refine tr_region rfl (.run [] [] rfl (st_move rfl) (.run [] [] rfl (st_move rfl) (.run [] [] rfl (st_eq (st_neq rfl rfl rfl) (bool_eq (congrArg Bool.not (decide_eq_true (by simp))))) .nil))) ?_
      refine tr_if (t := false) rfl (fun h => nomatch h) (fun _ => ?_)
      refine tr_skip ?_
      refine tr_seq ?_
      refine tr_region rfl (.run [] [] rfl (st_assign rfl) .nil) ?_
      refine tr_ret ?_
      exact ends [_] [] (.cons (.tmp rfl) .nil) (.cons (.one .v (.v _)) .nil) (by decide) trivial
end Go.Rl

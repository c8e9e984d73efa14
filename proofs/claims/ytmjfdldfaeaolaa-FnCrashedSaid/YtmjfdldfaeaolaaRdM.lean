/- Promises of functions, proved by walks over their operations; no conditions beyond those that each theorem states. -/
import Derived.Test.YtmjfdldfaeaolaaRdL
namespace Go.Rl
open Go.Proofs
theorem inf90 : (Try.prog.info? 90).map (fun i => (i.zero, i.size, i.bytes)) = some (some (.agg #[.slice none 0 0, .int .i64 0]), 2, 32) := by kernel_rfl
theorem en31 : ∀ vs w, (callFunc 31 vs).run Try.prog w = .ok (.enter 31 vs) w := enters Try.func31 (by decide) rfl
theorem en32 : ∀ vs w, (callFunc 32 vs).run Try.prog w = .ok (.enter 32 vs) w := enters Try.func32 (by decide) rfl
theorem en9 : ∀ vs w, (callFunc 9 vs).run Try.prog w = .ok (.enter 9 vs) w := enters Try.func9 (by decide) rfl
theorem en10 : ∀ vs w, (callFunc 10 vs).run Try.prog w = .ok (.enter 10 vs) w := enters Try.func10 (by decide) rfl
theorem en13 : ∀ vs w, (callFunc 13 vs).run Try.prog w = .ok (.enter 13 vs) w := enters Try.func13 (by decide) rfl
theorem en15 : ∀ vs w, (callFunc 15 vs).run Try.prog w = .ok (.enter 15 vs) w := enters Try.func15 (by decide) rfl
theorem ok_named {f : Nat} {A : List PA} {d : Dsk} {b : Bool} (h : diskOk d = b) (hc : Con Try.prog f A [] [.one (.v (.bool (diskOk d)))]) : Con Try.prog f A [] [.one (.v (.bool b))] := by
  subst h
  exact hc
theorem sync_named {f : Nat} {A : List PA} {d x : Dsk} (h : syncF d = x) (hc : Con Try.prog f A [] [.agg [.sl true 2 (pvF (syncF d).live), .sl true 2 (pvF (syncF d).safe), .sl true 4 (pvD (syncF d).ops)]]) : Con Try.prog f A [] [.agg [.sl true 2 (pvF x.live), .sl true 2 (pvF x.safe), .sl true 4 (pvD x.ops)]] := by
  subst h
  exact hc
theorem sync_ok {d : Dsk} (h : diskOk d = true) : syncF d = ⟨d.live, d.live, []⟩ := by rw [syncF, if_pos h]
set_option maxRecDepth 1000000 in
set_option maxHeartbeats 2000000 in
theorem big0_con {γ : Gho} (bs : List Nat) (A : Option Addr) (c : Nat) : ConG γ Try.prog 9 [.one (PV.v (.slice A bs.length c))] [] [.one (.v (.bool (decide ((1048576 : Int) < (bs.length : Int)))))] := by
  refine con_of_tr Try.func9 rfl rfl rfl rfl ?_
  refine tr_seq ?_
  refine tr_region rfl (.run [] [] rfl (st_assign rfl) .nil) ?_
  refine tr_seq ?_
  refine tr_region rfl (.run [] [] rfl (st_move rfl) (.run [] [] rfl (st_len_v rfl rfl Try.underlying22) (.run [] [] rfl (st_gtr rfl rfl rfl) (.run [] [] rfl (st_assign rfl) .nil)))) ?_
  refine tr_ret ?_
  exact ends [_] [] (.cons (.tmp rfl) .nil) (.cons (.one .v (.v _)) .nil) (by decide) trivial
theorem big_con {γ : Gho} {cv : Value} {bs : List Nat} (hc : CodeAt γ cv bs) : ConG γ Try.prog 9 [.one (.v cv)] [] [.one (.v (.bool (decide ((1048576 : Int) < (bs.length : Int)))))] := by
  obtain ⟨A, c, rfl, hcc⟩ := hc
  exact big0_con bs A c
set_option maxRecDepth 1000000 in
set_option maxHeartbeats 2000000 in
theorem open_con {γ : Gho} (cv : Value) : ConG γ Try.prog 31 [.one (PV.v (cv))] [] [.rptr 2 [.v cv, .v (.int .i64 (0:Int))]] := by
  refine con_of_tr Try.func31 rfl rfl rfl rfl ?_
  refine tr_seq ?_
  refine tr_region rfl (.run [] [] rfl (st_assign rfl) .nil) ?_
  refine tr_seq ?_
  refine tr_region rfl (.run [] [] rfl (st_move rfl) (.run [] [] rfl (st_build (pl := [(0, 1), (1, 1)]) rfl Try.underlying90 inf90 (by kernel_rfl) rfl rfl) (.run [500] [] rfl (st_box_row rfl 500 rfl rfl rfl (by decide) rfl (by decide)) (.run [] [] rfl (st_assign rfl) .nil)))) ?_
  refine tr_ret ?_
  exact ends [_] [500] (.cons (.tmp rfl) .nil) (.cons (.rptr rfl pvRd_clean) .nil) (by decide) trivial
set_option maxRecDepth 1000000 in
set_option maxHeartbeats 2000000 in
theorem drawDisk_con {γ : Gho} {cv : Value} {bs : List Nat} (hc : CodeAt γ cv bs) (hl : bs.length ≤ 1152921504606846976) : ConSG γ Try.prog 10 [.one (PV.v (cv))] [] [.agg [.sl false 2 (pvF (diskV bs 0).1.live), .sl false 2 (pvF (diskV bs 0).1.safe), .sl false 4 (pvD (diskV bs 0).1.ops)]] := by
  refine con_of_trSG Try.func10 rfl rfl rfl rfl ?_
  refine tr_seq ?_
  refine tr_region rfl (.run [] [2] rfl (st_allocZ rfl 2 inf27 rfl (by decide) rfl (by decide)) .nil) ?_
  refine tr_seq ?_
  refine tr_region rfl (.run [] [] rfl (st_move rfl) (.run [500] [] rfl (st_callG (.inr rfl) rfl 500 (X := []) en31 rfl (.val nod) (.cons (.one (.bor .v)) .nil) (by decide) all_nil .nil (open_con cv) rfl rfl (nle rfl)) (.run [] [] rfl (st_assign rfl) .nil))) ?_
  refine tr_seq ?_
  refine tr_region rfl (.run [] [] rfl (st_move rfl) (.run [500, 700, 701, 702] [] rfl (st_callSG (.inr rfl) rfl 700 (X := [500]) en32 rfl (.cons (.rptr rfl) .nil) (by decide) (all_cons rfl all_nil) (.keep (xs := pvRd (cv, 0)) rfl (FlatP.nf (pvRd_flat _)) .nil) (disk_con hc hl 0 (Nat.zero_le _)) rfl (nle rfl)) (.run [] [] rfl (st_store_box rfl rfl rfl rfl rfl Try.sizeOf27 rfl (nle rfl)) .nil))) ?_
  refine tr_ret ?_
  exact endsSG [_] [] (.cons (.cell rfl rfl Try.isAgg27 Try.sizeOf27 (nle rfl)) .nil) (.cons (.agg (.cons (.of .fro) (.cons (.of .fro) (.cons (.of .fro) .nil)))) .nil) (by decide) trivial
set_option maxRecDepth 1000000 in
set_option maxHeartbeats 2000000 in
theorem law_crashed_con {γ : Gho} {cv : Value} {bs : List Nat} (hc : CodeAt γ cv bs) : ConG γ Try.prog 3 [.one (PV.v (cv))] [] [.one (.v (.bool true))] := by
  refine con_of_tr Try.func3 rfl rfl rfl rfl ?_
  refine tr_seq ?_
  refine tr_region rfl (.run [] [] rfl (st_assign rfl) .nil) ?_
  refine tr_seq ?_
  refine tr_seq ?_
  refine tr_region rfl (.run [] [] rfl (st_move rfl) (.run [1200] [] rfl (st_callG (.inr rfl) rfl 1200 (X := []) en9 rfl (.val nod) (.cons (.one (.bor .v)) .nil) (by decide) all_nil .nil (big_con hc) rfl rfl (nle rfl)) .nil)) ?_
  refine tr_if (t := decide (1048576 < (bs.length : Int))) rfl (fun h1 => ?_) (fun h1 => ?_)
  · skip
    replace h1 := of_decide_eq_true h1
    refine tr_seq ?_
    refine tr_region rfl (.run [] [] rfl (st_assign rfl) .nil) ?_
    refine tr_ret ?_
    exact ends [_] [] (.cons (.tmp rfl) .nil) (.cons (.one .v (.v _)) .nil) (by decide) trivial
  · skip
    replace h1 := of_decide_eq_false h1
    refine tr_skip ?_
    refine tr_seq ?_
    refine tr_region rfl (.run [] [] rfl (st_move rfl) (.run [1400, 1401, 1402] [] rfl (st_callSG (.inr rfl) rfl 1400 (X := []) en10 rfl (.cons (.one .v) .nil) (by decide) all_nil .nil (drawDisk_con hc (by omega)) rfl (nle rfl)) (.run [] [3] rfl (st_allocZ rfl 3 inf27 rfl (by decide) rfl (by decide)) (.run [] [] rfl (st_store_box rfl rfl rfl rfl rfl Try.sizeOf27 rfl (nle rfl)) .nil)))) ?_
    refine tr_seq ?_
    refine tr_seq ?_
    obtain ⟨hdn, hdb, hdo⟩ := (diskV_ok (bs := bs) (p := 0) (Nat.zero_le _)).1
    generalize (diskV bs 0).1 = d at hdn hdb hdo ⊢
    have hd9 : DB 900000000 d := hdb.up (by decide)
    have hop9 : ∀ op ∈ d.ops, op.data.size ≤ 900000000 := fun o ho => Nat.le_trans (hdo o ho) (by decide)
    have hop6 : ∀ op ∈ d.ops, op.data.size ≤ 1000000 := fun o ho => Nat.le_trans (hdo o ho) (by decide)
    obtain ⟨b1, b2, b3, b4, b5⟩ := id hdb
    have hld := pvF_length d.live
    have hsd := pvF_length d.safe
    have hod := pvD_length d.ops
    refine tr_regionD mixed rfl (.run [] [] rfl (st_load_box rfl rfl rfl Try.isAgg27 Try.sizeOf27 (nle rfl)) (.run [1600] [] rfl (st_call rfl 1600 (X := []) en11 rfl (.val nod) (.cons (.agg (.cons (.bor (.sl nod)) (.cons (.bor (.sl nod)) (.cons (.bor (.sl nod)) .nil)))) .nil) (by decide) all_nil .nil (diskOk_con d hd9 hop9) rfl rfl (nle rfl)) (.run [] [] rfl (st_load_box rfl rfl rfl Try.isAgg27 Try.sizeOf27 (nle rfl)) (.run [1800] [] rfl (st_call rfl 1800 (X := []) en12 rfl (.val nod) (.cons (.agg (.cons (.bor (.sl nod)) (.cons (.bor (.sl nod)) (.cons (.bor (.sl nod)) .nil)))) .nil) (by decide) all_nil .nil (specDiskOk_con d hd9 hop9) rfl rfl (nle rfl)) (.run [] [] rfl (st_eq (st_bneq rfl rfl rfl Try.underlying4) (bool_eq (show (!((diskOk d) == (diskOk d))) = false from by simp))) .nil))))) (by kernel_rfl) ?_
    refine tr_if (t := false) rfl (fun h => nomatch h) (fun _ => ?_)
    refine tr_skip ?_
    refine tr_seq ?_
    refine tr_region rfl (.run [2000] [] rfl (st_buildSlice rfl 2000 Try.underlying30 inf2 (nle rfl) (by decide) rfl rfl rfl .nil (by decide) rfl (by decide) rfl (by decide) rfl) (.run [] [] rfl (st_assign rfl) .nil)) ?_
    refine tr_seq ?_
    refine tr_seq ?_
    refine tr_region rfl (.run [] [] rfl (st_assign rfl) .nil) ?_
    refine tr_block ?_
    refine tr_wk (wk_ren 2000 1 rfl rfl (by decide)) ?_
    refine tr_loopS (σ := Nat) (fun i => mk [(3, .ptr 3 0), (4, .sl 1 0 ((pvI (allK i)).length)), (5, .p none (.v (.int .i64 (i:Int))))] [(3, [.p none (.sl false 2 (pvF d.live)), .p none (.sl false 2 (pvF d.safe)), .p none (.sl false 4 (pvD d.ops))])] [(1, 1, pvI (allK i))]) (fun i => i ≤ d.ops.length) (fun i => d.ops.length - i) 0 (by simp) (wk_mk ⟨rfl, ⟨rfl, ⟨(int_eq (by omega)), trivial⟩⟩⟩ ⟨rfl, trivial⟩ ⟨(congrArg (fun x => some (1, x)) (by rfl)), trivial⟩ rfl) ?_
    rintro i hG
    replace hG : i ≤ d.ops.length := hG
    have hki := pvI_length (allK i)
    have hkj := allK_len i
    refine tr_seq ?_
    refine tr_seq ?_
    refine tr_region rfl (.run [] [] rfl (st_move rfl) (.run [] [] rfl (st_faddr_box rfl rfl Try.underlying27 rfl Try.sizeOf25 (by decide)) (.run [] [] rfl (st_load_box1 rfl rfl rfl Try.isAgg25 rfl) (.run [] [] rfl (st_len_fro rfl rfl Try.underlying25) (.run [] [] rfl (st_lss rfl rfl rfl) .nil))))) ?_
    refine tr_if (t := decide ((i:Int) < ((pvD d.ops).length : Int))) rfl (fun h2 => ?_) (fun h2 => ?_)
    · skip
      replace h2 := of_decide_eq_true h2
      refine tr_skip ?_
      refine tr_seq ?_
      refine tr_block ?_
      refine tr_region rfl (.run [] [] rfl (st_move rfl) (.run [] [] rfl (st_move rfl) (.run [3000] [] rfl (st_buildSlice rfl 3000 Try.underlying30 inf2 (nle rfl) (by decide) rfl rfl rfl (.cons .v .nil) (by decide) rfl (by decide) rfl (by decide) rfl) (.run [1] [] rfl (st_append rfl 1 (ib := 1) (len := ((pvI (allK i)) ++ [[PV.v (.int .i64 (i:Int))]]).length) rfl rfl (.row (len := (pvI (allK i)).length) (xs := pvI (allK i)) rfl rfl (.inl rfl)) (.give (len := 1) (xs := [[PV.v (.int .i64 (i:Int))]]) rfl rfl) Try.underlying30 (sk Try.underlying30 rfl) inf2 rfl (by decide) (by decide) (by decide) List.length_append (by simp only [maxLen, List.length_append, List.length_map, List.length_cons, List.length_nil, List.length_take, List.length_drop, pvF_length, pvD_length]; omega) (by simp only [maxLen, List.length_append, List.length_map, List.length_cons, List.length_nil, List.length_take, List.length_drop, pvF_length, pvD_length]; omega)) (.run [] [] rfl (st_assign rfl) .nil))))) ?_
      have hr3 : (pvI (allK i)) ++ [[PV.v (.int .i64 (i:Int))]] = pvI ((allK i) ++ [(i:Int)]) := by exact pvI_snoc (allK i) (i:Int)
      have hp4 : (.sl 1 0 (((pvI (allK i)) ++ [[PV.v (.int .i64 (i:Int))]]).length) : AV) = .sl 1 0 ((pvI ((allK i) ++ [(i:Int)])).length) := by simp only [hr3]
      refine tr_wk (s' := mk [(3, .ptr 3 0), (4, .sl 1 0 ((pvI ((allK i) ++ [(i:Int)])).length)), (5, .p none (.v (.int .i64 (i:Int))))] [(3, [.p none (.sl false 2 (pvF d.live)), .p none (.sl false 2 (pvF d.safe)), .p none (.sl false 4 (pvD d.ops))])] [(1, 1, pvI ((allK i) ++ [(i:Int)]))]) ?_ ?_
      · exact wk_mk ⟨rfl, ⟨hp4, ⟨rfl, trivial⟩⟩⟩ ⟨rfl, trivial⟩ ⟨(congrArg (fun x => some (1, x)) hr3), trivial⟩ rfl
      refine tr_region rfl (.run [] [] rfl (st_move rfl) (.run [] [] rfl (st_addn rfl rfl rfl (by omega)) (.run [] [] rfl (st_assign rfl) .nil))) ?_
      refine nxt (Q := fun _ _ => False) (z := i) (i + 1) ?_ ?_ ?_
      · show (i + 1) ≤ d.ops.length
        omega
      · show d.ops.length - (i + 1) < d.ops.length - i
        omega
      · exact wk_mk ⟨rfl, ⟨(congrArg (fun x => AV.sl 1 0 (pvI x).length) (allK_succ i).symm), ⟨(int_eq (by omega)), trivial⟩⟩⟩ ⟨rfl, trivial⟩ ⟨(congrArg (fun x => some (1, x)) (by rw [allK_succ])), trivial⟩ rfl
    · skip
      replace h2 := of_decide_eq_false h2
      refine tr_exit ?_
      refine tr_seq ?_
      rcases bfc (diskOk d) with hok | hok
      · skip
        obtain rfl : i = d.ops.length := by omega
        refine tr_region rfl (.run [] [] rfl (st_load_box rfl rfl rfl Try.isAgg27 Try.sizeOf27 (nle rfl)) (.run [] [] rfl (st_move rfl) (.run [1, 3500, 3501, 3502, 3503] [] rfl (st_call rfl 3500 (X := []) en13 rfl (.val nod) (.cons (.agg (.cons (.bor (.sl nod)) (.cons (.bor (.sl nod)) (.cons (.bor (.sl nod)) .nil)))) (.cons (.one (.bor (.all (len := (pvI (allK d.ops.length)).length) (xs := pvI (allK d.ops.length)) rfl rfl (by decide)))) (.cons (.one (.bor .v)) .nil))) (by decide) all_nil .nil (crash_named (crash_off hok) (implCrash_con d (allK d.ops.length) 1099511627776 hd9 (by rw [allK_len]; omega) hop6)) rfl rfl (nle rfl)) (.run [] [] rfl (st_move rfl) (.run [] [] rfl (st_extract rfl rfl rfl) (.run [] [] rfl (st_extract rfl rfl rfl) (.run [] [6] rfl (st_allocZ rfl 6 inf27 rfl (by decide) rfl (by decide)) (.run [] [] rfl (st_store_box rfl rfl rfl rfl rfl Try.sizeOf27 rfl (nle rfl)) (.run [] [] rfl (st_assign rfl) .nil))))))))) ?_
        refine tr_seq ?_
        refine tr_wk (s' := mk [(3, .ptr 3 0), (6, .ptr 6 0), (7, .p none (.v (.bool false)))] [(3, [.p none (.sl false 2 (pvF d.live)), .p none (.sl false 2 (pvF d.safe)), .p none (.sl false 4 (pvD d.ops))]), (6, [.sl 3500 0 ((pvF []).length), .sl 3501 0 ((pvF []).length), .sl 3502 0 ((pvD []).length)])] [(3500, 2, pvF []), (3501, 2, pvF []), (3502, 4, pvD [])]) ?_ ?_
        · exact wk_mk ⟨rfl, ⟨rfl, ⟨rfl, trivial⟩⟩⟩ ⟨rfl, ⟨rfl, trivial⟩⟩ ⟨rfl, ⟨rfl, ⟨rfl, trivial⟩⟩⟩ rfl
        refine tr_region rfl (.run [] [] rfl (st_load_box rfl rfl rfl Try.isAgg27 Try.sizeOf27 (nle rfl)) (.run [4000, 4001, 4002, 4003] [] rfl (st_call rfl 4000 (X := []) en13 rfl (.val nod) (.cons (.agg (.cons (.bor (.sl nod)) (.cons (.bor (.sl nod)) (.cons (.bor (.sl nod)) .nil)))) (.cons (.one (.bor (.nil 1))) (.cons (.one (.bor .v)) .nil))) (by decide) all_nil .nil (crash_named (crash_off hok) (implCrash_con d [] 0 hd9 (Nat.zero_le _) hop6)) rfl rfl (nle rfl)) (.run [] [] rfl (st_move rfl) (.run [] [] rfl (st_extract rfl rfl rfl) (.run [] [] rfl (st_extract rfl rfl rfl) (.run [] [8] rfl (st_allocZ rfl 8 inf27 rfl (by decide) rfl (by decide)) (.run [] [] rfl (st_store_box rfl rfl rfl rfl rfl Try.sizeOf27 rfl (nle rfl)) (.run [] [] rfl (st_assign rfl) .nil)))))))) ?_
        refine tr_seq ?_
        refine tr_seq ?_
        refine tr_wk (s' := mk [(3, .ptr 3 0), (6, .ptr 6 0), (7, .p none (.v (.bool false))), (8, .ptr 8 0), (9, .p none (.v (.bool false)))] [(3, [.p none (.sl false 2 (pvF d.live)), .p none (.sl false 2 (pvF d.safe)), .p none (.sl false 4 (pvD d.ops))]), (6, [.sl 3500 0 ((pvF []).length), .sl 3501 0 ((pvF []).length), .sl 3502 0 ((pvD []).length)]), (8, [.sl 4000 0 ((pvF []).length), .sl 4001 0 ((pvF []).length), .sl 4002 0 ((pvD []).length)])] [(3500, 2, pvF []), (3501, 2, pvF []), (3502, 4, pvD []), (4000, 2, pvF []), (4001, 2, pvF []), (4002, 4, pvD [])]) ?_ ?_
        · exact wk_mk ⟨rfl, ⟨rfl, ⟨rfl, ⟨rfl, ⟨rfl, trivial⟩⟩⟩⟩⟩ ⟨rfl, ⟨rfl, ⟨rfl, trivial⟩⟩⟩ ⟨rfl, ⟨rfl, ⟨rfl, ⟨rfl, ⟨rfl, ⟨rfl, trivial⟩⟩⟩⟩⟩⟩ rfl
        refine tr_region rfl (.run [] [] rfl (st_move rfl) (.run [] [] rfl (st_load_box rfl rfl rfl Try.isAgg27 Try.sizeOf27 (nle rfl)) (.run [4500] [] rfl (st_call rfl 4500 (X := []) en11 rfl (.val nod) (.cons (.agg (.cons (.bor (.sl nod)) (.cons (.bor (.sl nod)) (.cons (.bor (.sl nod)) .nil)))) .nil) (by decide) all_nil .nil (ok_named hok (diskOk_con d hd9 hop9)) rfl rfl (nle rfl)) (.run [] [] rfl (st_eq (st_bneq rfl rfl rfl Try.underlying4) (bool_eq (show (!(false == false)) = false from by simp))) (.run [] [] rfl (st_move rfl) (.run [] [] rfl (st_move rfl) (.run [] [] rfl (st_move rfl) (.run [] [] rfl (st_eq (st_bneq rfl rfl rfl Try.underlying4) (bool_eq (show (!(false == false)) = false from by simp))) (.run [] [] rfl (st_pick (t := false) rfl rfl) .nil))))))))) ?_
        refine tr_if (t := false) rfl (fun h => nomatch h) (fun _ => ?_)
        refine tr_skip ?_
        refine tr_seq ?_
        refine tr_seq ?_
        refine tr_region rfl (.run [] [] rfl (st_move rfl) (.run [] [] rfl (st_not (b := false) rfl rfl) .nil)) ?_
        refine tr_if (t := true) rfl (fun _ => ?_) (fun h => nomatch h)
        refine tr_seq ?_
        refine tr_region rfl (.run [] [] rfl (st_faddr_box rfl rfl Try.underlying27 rfl Try.sizeOf24 (by decide)) (.run [] [] rfl (st_load_box1 rfl rfl rfl Try.isAgg24 rfl) (.run [] [] rfl (st_len_row rfl rfl Try.underlying24) (.run [] [] rfl (st_eql rfl rfl rfl) (.run [] [] rfl (st_assign rfl) .nil))))) ?_
        refine tr_ret ?_
        exact ends [_] [] (.cons (.tmp (bool_eq (decide_eq_true rfl))) .nil) (.cons (.one .v (.v _)) .nil) (by decide) trivial
      · skip
        obtain rfl : i = d.ops.length := by omega
        refine tr_region rfl (.run [] [] rfl (st_load_box rfl rfl rfl Try.isAgg27 Try.sizeOf27 (nle rfl)) (.run [] [] rfl (st_move rfl) (.run [1, 3500, 3501, 3502, 3503] [] rfl (st_call rfl 3500 (X := []) en13 rfl (.val nod) (.cons (.agg (.cons (.bor (.sl nod)) (.cons (.bor (.sl nod)) (.cons (.bor (.sl nod)) .nil)))) (.cons (.one (.bor (.all (len := (pvI (allK d.ops.length)).length) (xs := pvI (allK d.ops.length)) rfl rfl (by decide)))) (.cons (.one (.bor .v)) .nil))) (by decide) all_nil .nil (crash_named (crash_all (torn := 1099511627776) hok (fun o ho => by have := hdo o ho; omega) (by decide)) (implCrash_con d (allK d.ops.length) 1099511627776 hd9 (by rw [allK_len]; omega) hop6)) rfl rfl (nle rfl)) (.run [] [] rfl (st_move rfl) (.run [] [] rfl (st_extract rfl rfl rfl) (.run [] [] rfl (st_extract rfl rfl rfl) (.run [] [6] rfl (st_allocZ rfl 6 inf27 rfl (by decide) rfl (by decide)) (.run [] [] rfl (st_store_box rfl rfl rfl rfl rfl Try.sizeOf27 rfl (nle rfl)) (.run [] [] rfl (st_assign rfl) .nil))))))))) ?_
        refine tr_seq ?_
        refine tr_wk (s' := mk [(3, .ptr 3 0), (6, .ptr 6 0), (7, .p none (.v (.bool true)))] [(3, [.p none (.sl false 2 (pvF d.live)), .p none (.sl false 2 (pvF d.safe)), .p none (.sl false 4 (pvD d.ops))]), (6, [.sl 3500 0 ((pvF d.live).length), .sl 3501 0 ((pvF d.live).length), .sl 3502 0 ((pvD []).length)])] [(3500, 2, pvF d.live), (3501, 2, pvF d.live), (3502, 4, pvD [])]) ?_ ?_
        · exact wk_mk ⟨rfl, ⟨rfl, ⟨rfl, trivial⟩⟩⟩ ⟨rfl, ⟨rfl, trivial⟩⟩ ⟨rfl, ⟨rfl, ⟨rfl, trivial⟩⟩⟩ rfl
        refine tr_region rfl (.run [] [] rfl (st_load_box rfl rfl rfl Try.isAgg27 Try.sizeOf27 (nle rfl)) (.run [4000, 4001, 4002, 4003] [] rfl (st_call rfl 4000 (X := []) en13 rfl (.val nod) (.cons (.agg (.cons (.bor (.sl nod)) (.cons (.bor (.sl nod)) (.cons (.bor (.sl nod)) .nil)))) (.cons (.one (.bor (.nil 1))) (.cons (.one (.bor .v)) .nil))) (by decide) all_nil .nil (crash_named (crash_none hok) (implCrash_con d [] 0 hd9 (Nat.zero_le _) hop6)) rfl rfl (nle rfl)) (.run [] [] rfl (st_move rfl) (.run [] [] rfl (st_extract rfl rfl rfl) (.run [] [] rfl (st_extract rfl rfl rfl) (.run [] [8] rfl (st_allocZ rfl 8 inf27 rfl (by decide) rfl (by decide)) (.run [] [] rfl (st_store_box rfl rfl rfl rfl rfl Try.sizeOf27 rfl (nle rfl)) (.run [] [] rfl (st_assign rfl) .nil)))))))) ?_
        refine tr_seq ?_
        refine tr_seq ?_
        refine tr_wk (s' := mk [(3, .ptr 3 0), (6, .ptr 6 0), (7, .p none (.v (.bool true))), (8, .ptr 8 0), (9, .p none (.v (.bool true)))] [(3, [.p none (.sl false 2 (pvF d.live)), .p none (.sl false 2 (pvF d.safe)), .p none (.sl false 4 (pvD d.ops))]), (6, [.sl 3500 0 ((pvF d.live).length), .sl 3501 0 ((pvF d.live).length), .sl 3502 0 ((pvD []).length)]), (8, [.sl 4000 0 ((pvF d.safe).length), .sl 4001 0 ((pvF d.safe).length), .sl 4002 0 ((pvD []).length)])] [(3500, 2, pvF d.live), (3501, 2, pvF d.live), (3502, 4, pvD []), (4000, 2, pvF d.safe), (4001, 2, pvF d.safe), (4002, 4, pvD [])]) ?_ ?_
        · exact wk_mk ⟨rfl, ⟨rfl, ⟨rfl, ⟨rfl, ⟨rfl, trivial⟩⟩⟩⟩⟩ ⟨rfl, ⟨rfl, ⟨rfl, trivial⟩⟩⟩ ⟨rfl, ⟨rfl, ⟨rfl, ⟨rfl, ⟨rfl, ⟨rfl, trivial⟩⟩⟩⟩⟩⟩ rfl
        refine tr_region rfl (.run [] [] rfl (st_move rfl) (.run [] [] rfl (st_load_box rfl rfl rfl Try.isAgg27 Try.sizeOf27 (nle rfl)) (.run [4500] [] rfl (st_call rfl 4500 (X := []) en11 rfl (.val nod) (.cons (.agg (.cons (.bor (.sl nod)) (.cons (.bor (.sl nod)) (.cons (.bor (.sl nod)) .nil)))) .nil) (by decide) all_nil .nil (ok_named hok (diskOk_con d hd9 hop9)) rfl rfl (nle rfl)) (.run [] [] rfl (st_eq (st_bneq rfl rfl rfl Try.underlying4) (bool_eq (show (!(true == true)) = false from by simp))) (.run [] [] rfl (st_move rfl) (.run [] [] rfl (st_move rfl) (.run [] [] rfl (st_move rfl) (.run [] [] rfl (st_eq (st_bneq rfl rfl rfl Try.underlying4) (bool_eq (show (!(true == true)) = false from by simp))) (.run [] [] rfl (st_pick (t := false) rfl rfl) .nil))))))))) ?_
        refine tr_if (t := false) rfl (fun h => nomatch h) (fun _ => ?_)
        refine tr_skip ?_
        refine tr_seq ?_
        refine tr_seq ?_
        refine tr_region rfl (.run [] [] rfl (st_move rfl) (.run [] [] rfl (st_not (b := true) rfl rfl) .nil)) ?_
        refine tr_if (t := false) rfl (fun h => nomatch h) (fun _ => ?_)
        refine tr_skip ?_
        refine tr_seq ?_
        refine tr_region rfl (.run [] [] rfl (st_load_box rfl rfl rfl Try.isAgg27 Try.sizeOf27 (nle rfl)) (.run [5900, 5901, 5902] [] rfl (st_call rfl 5900 (X := []) en14 rfl (.val nod) (.cons (.agg (.cons (.bor (.sl nod)) (.cons (.bor (.sl nod)) (.cons (.bor (.sl nod)) .nil)))) .nil) (by decide) all_nil .nil (sync_named (sync_ok hok) (implSync_con d hd9 hop9)) rfl rfl (nle rfl)) (.run [] [10] rfl (st_allocZ rfl 10 inf27 rfl (by decide) rfl (by decide)) (.run [] [] rfl (st_store_box rfl rfl rfl rfl rfl Try.sizeOf27 rfl (nle rfl)) .nil)))) ?_
        refine tr_seq ?_
        refine tr_wk (s' := mk [(3, .ptr 3 0), (6, .ptr 6 0), (8, .ptr 8 0), (10, .ptr 10 0)] [(3, [.p none (.sl false 2 (pvF d.live)), .p none (.sl false 2 (pvF d.safe)), .p none (.sl false 4 (pvD d.ops))]), (6, [.sl 3500 0 ((pvF d.live).length), .sl 3501 0 ((pvF d.live).length), .sl 3502 0 ((pvD []).length)]), (8, [.sl 4000 0 ((pvF d.safe).length), .sl 4001 0 ((pvF d.safe).length), .sl 4002 0 ((pvD []).length)]), (10, [.sl 5900 0 ((pvF d.live).length), .sl 5901 0 ((pvF d.live).length), .sl 5902 0 ((pvD []).length)])] [(3500, 2, pvF d.live), (3501, 2, pvF d.live), (3502, 4, pvD []), (4000, 2, pvF d.safe), (4001, 2, pvF d.safe), (4002, 4, pvD []), (5900, 2, pvF d.live), (5901, 2, pvF d.live), (5902, 4, pvD [])]) ?_ ?_
        · exact wk_mk ⟨rfl, ⟨rfl, ⟨rfl, ⟨rfl, trivial⟩⟩⟩⟩ ⟨rfl, ⟨rfl, ⟨rfl, ⟨rfl, trivial⟩⟩⟩⟩ ⟨rfl, ⟨rfl, ⟨rfl, ⟨rfl, ⟨rfl, ⟨rfl, ⟨rfl, ⟨rfl, ⟨rfl, trivial⟩⟩⟩⟩⟩⟩⟩⟩⟩ rfl
        rcases bfc (decide ((((pvD []).length : Int) + ((pvD []).length : Int)) = 0)) with h5 | h5
        · have h5' := h5
          replace h5' := of_decide_eq_false h5'
          exact absurd rfl h5'
        · have h5' := h5
          replace h5' := of_decide_eq_true h5'
          refine tr_region rfl (.run [] [] rfl (st_faddr_box rfl rfl Try.underlying27 rfl Try.sizeOf24 (by decide)) (.run [] [] rfl (st_load_box1 rfl rfl rfl Try.isAgg24 rfl) (.run [] [] rfl (st_faddr_box rfl rfl Try.underlying27 rfl Try.sizeOf24 (by decide)) (.run [] [] rfl (st_load_box1 rfl rfl rfl Try.isAgg24 rfl) (.run [3500, 6400] [] rfl (st_call rfl 6400 (X := []) en15 rfl (.val nod) (.cons (.one (.bor (.all (len := (pvF d.live).length) (xs := pvF d.live) rfl rfl (by decide)))) (.cons (.one (.bor (.sl nod))) .nil)) (by decide) all_nil .nil (sameFiles_self d.live (by omega)) rfl rfl (nle rfl)) (.run [] [] rfl (st_move rfl) (.run [] [] rfl (st_faddr_box rfl rfl Try.underlying27 rfl Try.sizeOf24 (by decide)) (.run [] [] rfl (st_load_box1 rfl rfl rfl Try.isAgg24 rfl) (.run [] [] rfl (st_faddr_box rfl rfl Try.underlying27 rfl Try.sizeOf24 (by decide)) (.run [] [] rfl (st_load_box1 rfl rfl rfl Try.isAgg24 rfl) (.run [3501, 7000] [] rfl (st_call rfl 7000 (X := []) en15 rfl (.val nod) (.cons (.one (.bor (.all (len := (pvF d.live).length) (xs := pvF d.live) rfl rfl (by decide)))) (.cons (.one (.bor (.sl nod))) .nil)) (by decide) all_nil .nil (sameFiles_self d.live (by omega)) rfl rfl (nle rfl)) (.run [] [] rfl (st_pick (t := true) rfl rfl) (.run [] [] rfl (st_move rfl) (.run [] [] rfl (st_faddr_box rfl rfl Try.underlying27 rfl Try.sizeOf24 (by decide)) (.run [] [] rfl (st_load_box1 rfl rfl rfl Try.isAgg24 rfl) (.run [] [] rfl (st_faddr_box rfl rfl Try.underlying27 rfl Try.sizeOf24 (by decide)) (.run [] [] rfl (st_load_box1 rfl rfl rfl Try.isAgg24 rfl) (.run [4000, 7700] [] rfl (st_call rfl 7700 (X := []) en15 rfl (.val nod) (.cons (.one (.bor (.all (len := (pvF d.safe).length) (xs := pvF d.safe) rfl rfl (by decide)))) (.cons (.one (.bor (.sl nod))) .nil)) (by decide) all_nil .nil (sameFiles_self d.safe (by omega)) rfl rfl (nle rfl)) (.run [] [] rfl (st_pick (t := true) rfl rfl) (.run [] [] rfl (st_move rfl) (.run [] [] rfl (st_faddr_box rfl rfl Try.underlying27 rfl Try.sizeOf25 (by decide)) (.run [] [] rfl (st_load_box1 rfl rfl rfl Try.isAgg25 rfl) (.run [] [] rfl (st_len_row rfl rfl Try.underlying25) (.run [] [] rfl (st_faddr_box rfl rfl Try.underlying27 rfl Try.sizeOf25 (by decide)) (.run [] [] rfl (st_load_box1 rfl rfl rfl Try.isAgg25 rfl) (.run [] [] rfl (st_len_row rfl rfl Try.underlying25) (.run [] [] rfl (st_addn rfl rfl rfl (by omega)) (.run [] [] rfl (st_eq (st_eql rfl rfl rfl) (by exact congrArg (fun b => AV.p none (.v (.bool b))) h5)) (.run [] [] rfl (st_pick (t := true) rfl rfl) (.run [] [] rfl (st_move rfl) (.run [] [] rfl (st_faddr_box rfl rfl Try.underlying27 rfl Try.sizeOf24 (by decide)) (.run [] [] rfl (st_load_box1 rfl rfl rfl Try.isAgg24 rfl) (.run [] [] rfl (st_faddr_box rfl rfl Try.underlying27 rfl Try.sizeOf24 (by decide)) (.run [] [] rfl (st_load_box1 rfl rfl rfl Try.isAgg24 rfl) (.run [5901, 9400] [] rfl (st_call rfl 9400 (X := []) en15 rfl (.val nod) (.cons (.one (.bor (.all (len := (pvF d.live).length) (xs := pvF d.live) rfl rfl (by decide)))) (.cons (.one (.bor (.sl nod))) .nil)) (by decide) all_nil .nil (sameFiles_self d.live (by omega)) rfl rfl (nle rfl)) (.run [] [] rfl (st_pick (t := true) rfl rfl) (.run [] [] rfl (st_move rfl) (.run [] [] rfl (st_faddr_box rfl rfl Try.underlying27 rfl Try.sizeOf25 (by decide)) (.run [] [] rfl (st_load_box1 rfl rfl rfl Try.isAgg25 rfl) (.run [] [] rfl (st_len_row rfl rfl Try.underlying25) (.run [] [] rfl (st_eql rfl rfl rfl) (.run [] [] rfl (st_pick (t := true) rfl rfl) (.run [] [] rfl (st_assign rfl) .nil))))))))))))))))))))))))))))))))))))))))))) ?_
          refine tr_ret ?_
          exact ends [_] [] (.cons (.tmp (bool_eq (decide_eq_true rfl))) .nil) (.cons (.one .v (.v _)) .nil) (by decide) trivial
end Go.Rl

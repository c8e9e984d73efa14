/- Promises of functions, proved by walks over their operations; no conditions beyond those that each theorem states. -/
import Derived.Test.YtfdebanfenlglaaRhA
set_option linter.unusedSimpArgs false
set_option linter.unusedVariables false
namespace Go.Rl
open Go.Proofs
theorem en66 : ∀ vs w, (callFunc 66 vs).run Try.prog w = .ok (.enter 66 vs) w := enters Try.func66 (by decide) rfl
theorem en57 : ∀ vs w, (callFunc 57 vs).run Try.prog w = .ok (.enter 57 vs) w := enters Try.func57 (by decide) rfl
theorem en61 : ∀ vs w, (callFunc 61 vs).run Try.prog w = .ok (.enter 61 vs) w := enters Try.func61 (by decide) rfl
theorem en67 : ∀ vs w, (callFunc 67 vs).run Try.prog w = .ok (.enter 67 vs) w := enters Try.func67 (by decide) rfl
theorem scanI_len (d : Eng) (a : Int) (f t : ByteArray) : (scanI d a f t).1.length ≤ 400 := by
  unfold scanI
  split
  · rename_i ho
    split
    · have h1 := visN_len (allI d) (askI d a) (usersF (allI d))
      rw [← visF] at h1
      have h2 := users_len (allI d)
      have h3 := all_len (d := d) ho
      exact Nat.le_trans (List.length_filter_le _ _) (by omega)
    · exact Nat.zero_le _
  · exact Nat.zero_le _
set_option maxRecDepth 1000000 in
set_option maxHeartbeats 2000000 in
theorem law_written_con {γ : Gho} {cv : Value} {bs : List Nat} (hc0 : CodeAt γ cv bs) : ConG γ Try.prog 15 [.one (PV.v (cv))] [] [.one (.v (.bool true))] := by
  refine con_of_tr Try.func15 rfl rfl rfl rfl ?_
  refine tr_seq ?_
  refine tr_region rfl (.run [] [] rfl (st_assign rfl) .nil) ?_
  refine tr_seq ?_
  refine tr_seq ?_
  refine tr_region rfl (.run [] [] rfl (st_move rfl) (.run [1400] [] rfl (st_callG (.inr rfl) rfl 1400 (X := []) en27 rfl (.val nod) (.cons (.one (.bor .v)) .nil) (by decide) all_nil .nil (big_con hc0) rfl rfl (nle rfl)) .nil)) ?_
  refine tr_if (t := decide ((1048576 : Int) < (bs.length : Int))) rfl (fun h1 => ?_) (fun h1 => ?_)
  · skip
    replace h1 := of_decide_eq_true h1
    refine tr_seq ?_
    refine tr_region rfl (.run [] [] rfl (st_assign rfl) .nil) ?_
    refine tr_ret ?_
    exact ends [_] [] (.cons (.tmp rfl) .nil) (.cons (.one .v (.v _)) .nil) (by decide) trivial
  · skip
    replace h1 := of_decide_eq_false h1
    refine tr_skip ?_
    refine tr_seq ?_
    refine tr_region rfl (.run [] [] rfl (st_move rfl) (.run [1700, 1701, 1702, 1703, 1704] [] rfl (st_callG (.inr rfl) rfl 1700 (X := []) en66 rfl (.val nod) (.cons (.one (.bor .v)) .nil) (by decide) all_nil .nil (drawDbWrite_con hc0 (by omega)) rfl rfl (nle rfl)) (.run [] [] rfl (st_move rfl) (.run [] [] rfl (st_extract rfl rfl rfl) (.run [] [] rfl (st_extract rfl rfl rfl) (.run [] [3] rfl (st_allocZ rfl 3 inf56 rfl (by decide) rfl (by decide)) (.run [] [] rfl (st_store_box rfl rfl rfl rfl rfl Try.sizeOf56 rfl (nle rfl)) (.run [] [] rfl (st_assign rfl) .nil)))))))) ?_
    refine tr_wk (wk_frz 1704 rfl) ?_
    have hp2 : (.p none (.sl false 3 (((pvO (opsV bs (dbP bs 0))).drop 0).take ((pvO (opsV bs (dbP bs 0))).length))) : AV) = .p none (.sl false 3 (pvO (opsV bs (dbP bs 0)))) := by simp only [frz_all]
    refine tr_wk (s' := mk [(3, .ptr 3 0), (4, .p none (.sl false 3 (pvO (opsV bs (dbP bs 0)))))] [(3, [.p none (.v (.int .i64 ((dbV bs 0).seq))), .sl 1701 0 ((pvE ((dbV bs 0).mem)).length), .sl 1702 0 ((pvR (tagT (dbV bs 0).runs)).length), .sl 1703 0 ((pvI ((dbV bs 0).snaps)).length)])] [(1701, 4, pvE ((dbV bs 0).mem)), (1702, 1, pvR (tagT (dbV bs 0).runs)), (1703, 1, pvI ((dbV bs 0).snaps))]) ?_ ?_
    · exact wk_mk ⟨rfl, ⟨hp2, trivial⟩⟩ ⟨rfl, trivial⟩ ⟨rfl, ⟨rfl, ⟨rfl, trivial⟩⟩⟩ rfl
    have hD := dbV_eb bs 0
    have hR := dbV_er bs 0
    have hol := opsV_len bs (dbP bs 0)
    generalize opsV bs (dbP bs 0) = ops at hol ⊢
    generalize dbV bs 0 = d at hD hR ⊢
    have hl1 := pvE_length d.mem
    have hl2 := pvR_length (tagT d.runs)
    have hl3 := pvI_length d.snaps
    have hlo := pvO_length ops
    have hsl := scanI_len d (-1) ⟨#[]⟩ ⟨#[]⟩
    have hsv := pvP_length (scanI d (-1) ⟨#[]⟩ ⟨#[]⟩).1
    have hfl := foldF_len ops (scanI d (-1) ⟨#[]⟩ ⟨#[]⟩).1
    have hfv := pvP_length (foldF (scanI d (-1) ⟨#[]⟩ ⟨#[]⟩).1 ops)
    refine tr_seq ?_
    rcases written_law hR ops with ⟨a, c, hw, hs, ho⟩ | ⟨c, hw, hs, hc, ho⟩ | ⟨a, hw, hs, ho, hoa, hsc, hsq⟩
    · skip
      have hcw := writeI_con d hD ops (by omega)
      rw [hw] at hcw
      have hcs := writeS_con d hD ops (by omega)
      rw [hs] at hcs
      have hco := specDbOk_d d hD
      rw [ho] at hco
      dsimp only at hcw hcs hco
      refine tr_region rfl (.run [] [] rfl (st_load_box rfl rfl rfl Try.isAgg56 Try.sizeOf56 (nle rfl)) (.run [] [] rfl (st_move rfl) (.run [1701, 1702, 1703, 2300, 2301, 2302, 2303, 2304] [] rfl (st_call rfl 2300 (X := []) en57 rfl (.val nod) (.cons (.agg (.cons (.bor .v) (.cons (.bor (.all (len := (pvE (d.mem)).length) (xs := pvE (d.mem)) rfl rfl (by decide))) (.cons (.bor (.all (len := (pvR (tagT d.runs)).length) (xs := pvR (tagT d.runs)) rfl rfl (by decide))) (.cons (.bor (.all (len := (pvI (d.snaps)).length) (xs := pvI (d.snaps)) rfl rfl (by decide))) .nil))))) (.cons (.one (.bor (.sl nod))) .nil)) (by decide) all_nil .nil (hcw) rfl rfl (nle rfl)) (.run [] [] rfl (st_move rfl) (.run [] [] rfl (st_extract rfl rfl rfl) (.run [] [] rfl (st_extract rfl rfl rfl) (.run [] [5] rfl (st_allocZ rfl 5 inf56 rfl (by decide) rfl (by decide)) (.run [] [] rfl (st_store_box rfl rfl rfl rfl rfl Try.sizeOf56 rfl (nle rfl)) (.run [] [] rfl (st_assign rfl) .nil))))))))) ?_
      refine tr_seq ?_
      refine tr_wk (s' := mk [(3, .ptr 3 0), (4, .p none (.sl false 3 (pvO ops))), (5, .ptr 5 0), (6, .p none (.v (.int .i64 c)))] [(3, [.p none (.v (.int .i64 d.seq)), .sl 1701 0 ((pvE (d.mem)).length), .sl 1702 0 ((pvR (tagT d.runs)).length), .sl 1703 0 ((pvI (d.snaps)).length)]), (5, [.p none (.v (.int .i64 a.seq)), .sl 2301 0 ((pvE a.mem).length), .sl 2302 0 ((pvR (tagT a.runs)).length), .sl 2303 0 ((pvI a.snaps).length)])] [(1701, 4, pvE (d.mem)), (1702, 1, pvR (tagT d.runs)), (1703, 1, pvI (d.snaps)), (2301, 4, pvE a.mem), (2302, 1, pvR (tagT a.runs)), (2303, 1, pvI a.snaps)]) ?_ ?_
      · exact wk_mk ⟨rfl, ⟨rfl, ⟨rfl, ⟨rfl, trivial⟩⟩⟩⟩ ⟨rfl, ⟨rfl, trivial⟩⟩ ⟨rfl, ⟨rfl, ⟨rfl, ⟨rfl, ⟨rfl, ⟨rfl, trivial⟩⟩⟩⟩⟩⟩ rfl
      refine tr_region rfl (.run [] [] rfl (st_load_box rfl rfl rfl Try.isAgg56 Try.sizeOf56 (nle rfl)) (.run [] [] rfl (st_move rfl) (.run [1701, 1702, 1703, 2900, 2901, 2902, 2903, 2904] [] rfl (st_call rfl 2900 (X := []) en55 rfl (.val nod) (.cons (.agg (.cons (.bor .v) (.cons (.bor (.all (len := (pvE (d.mem)).length) (xs := pvE (d.mem)) rfl rfl (by decide))) (.cons (.bor (.all (len := (pvR (tagT d.runs)).length) (xs := pvR (tagT d.runs)) rfl rfl (by decide))) (.cons (.bor (.all (len := (pvI (d.snaps)).length) (xs := pvI (d.snaps)) rfl rfl (by decide))) .nil))))) (.cons (.one (.bor (.sl nod))) .nil)) (by decide) all_nil .nil (hcs) rfl rfl (nle rfl)) (.run [] [] rfl (st_move rfl) (.run [] [] rfl (st_extract rfl rfl rfl) (.run [] [] rfl (st_extract rfl rfl rfl) (.run [] [7] rfl (st_allocZ rfl 7 inf56 rfl (by decide) rfl (by decide)) (.run [] [] rfl (st_store_box rfl rfl rfl rfl rfl Try.sizeOf56 rfl (nle rfl)) (.run [] [] rfl (st_assign rfl) .nil))))))))) ?_
      refine tr_seq ?_
      refine tr_seq ?_
      refine tr_wk (s' := mk [(3, .ptr 3 0), (4, .p none (.sl false 3 (pvO ops))), (5, .ptr 5 0), (6, .p none (.v (.int .i64 c))), (8, .p none (.v (.int .i64 c)))] [(3, [.p none (.v (.int .i64 d.seq)), .sl 1701 0 ((pvE (d.mem)).length), .sl 1702 0 ((pvR (tagT d.runs)).length), .sl 1703 0 ((pvI (d.snaps)).length)]), (5, [.p none (.v (.int .i64 a.seq)), .sl 2301 0 ((pvE a.mem).length), .sl 2302 0 ((pvR (tagT a.runs)).length), .sl 2303 0 ((pvI a.snaps).length)])] [(1701, 4, pvE (d.mem)), (1702, 1, pvR (tagT d.runs)), (1703, 1, pvI (d.snaps)), (2301, 4, pvE a.mem), (2302, 1, pvR (tagT a.runs)), (2303, 1, pvI a.snaps)]) ?_ ?_
      · exact wk_mk ⟨rfl, ⟨rfl, ⟨rfl, ⟨rfl, ⟨rfl, trivial⟩⟩⟩⟩⟩ ⟨rfl, ⟨rfl, trivial⟩⟩ ⟨rfl, ⟨rfl, ⟨rfl, ⟨rfl, ⟨rfl, ⟨rfl, trivial⟩⟩⟩⟩⟩⟩ rfl
      refine tr_region rfl (.run [] [] rfl (st_move rfl) (.run [] [] rfl (st_move rfl) (.run [] [] rfl (st_eq (st_neq rfl rfl rfl) (bool_eq (congrArg Bool.not (decide_eq_true (by simp))))) (.run [] [] rfl (st_move rfl) (.run [] [] rfl (st_load_box rfl rfl rfl Try.isAgg56 Try.sizeOf56 (nle rfl)) (.run [1701, 1702, 1703, 3700] [] rfl (st_call rfl 3700 (X := []) en40 rfl (.val nod) (.cons (.agg (.cons (.bor .v) (.cons (.bor (.all (len := (pvE (d.mem)).length) (xs := pvE (d.mem)) rfl rfl (by decide))) (.cons (.bor (.all (len := (pvR (tagT d.runs)).length) (xs := pvR (tagT d.runs)) rfl rfl (by decide))) (.cons (.bor (.all (len := (pvI (d.snaps)).length) (xs := pvI (d.snaps)) rfl rfl (by decide))) .nil))))) .nil) (by decide) all_nil .nil (hco) rfl rfl (nle rfl)) (.run [] [] rfl (st_not (b := false) rfl rfl) (.run [] [] rfl (st_pickF rfl rfl) .nil)))))))) ?_
      refine tr_if (t := true) rfl (fun _ => ?_) (fun h => nomatch h)
      refine tr_seq ?_
      refine tr_region rfl (.run [] [] rfl (st_move rfl) (.run [] [] rfl (st_move rfl) (.run [] [] rfl (st_eq (st_eql rfl rfl rfl) (bool_eq (decide_eq_true (by simp)))) (.run [] [] rfl (st_assign rfl) .nil)))) ?_
      refine tr_ret ?_
      exact ends [_] [] (.cons (.tmp rfl) .nil) (.cons (.one .v (.v _)) .nil) (by decide) trivial
    · skip
      have hcw := writeI_con d hD ops (by omega)
      rw [hw] at hcw
      have hcs := writeS_con d hD ops (by omega)
      rw [hs] at hcs
      have hco := specDbOk_d d hD
      rw [ho] at hco
      dsimp only at hcw hcs hco
      have hm4 := (okS_small ho).seq
      refine tr_region rfl (.run [] [] rfl (st_load_box rfl rfl rfl Try.isAgg56 Try.sizeOf56 (nle rfl)) (.run [] [] rfl (st_move rfl) (.run [1701, 1702, 1703, 2300, 2301, 2302, 2303, 2304] [] rfl (st_call rfl 2300 (X := []) en57 rfl (.val nod) (.cons (.agg (.cons (.bor .v) (.cons (.bor (.all (len := (pvE (d.mem)).length) (xs := pvE (d.mem)) rfl rfl (by decide))) (.cons (.bor (.all (len := (pvR (tagT d.runs)).length) (xs := pvR (tagT d.runs)) rfl rfl (by decide))) (.cons (.bor (.all (len := (pvI (d.snaps)).length) (xs := pvI (d.snaps)) rfl rfl (by decide))) .nil))))) (.cons (.one (.bor (.sl nod))) .nil)) (by decide) all_nil .nil (hcw) rfl rfl (nle rfl)) (.run [] [] rfl (st_move rfl) (.run [] [] rfl (st_extract rfl rfl rfl) (.run [] [] rfl (st_extract rfl rfl rfl) (.run [] [5] rfl (st_allocZ rfl 5 inf56 rfl (by decide) rfl (by decide)) (.run [] [] rfl (st_store_box rfl rfl rfl rfl rfl Try.sizeOf56 rfl (nle rfl)) (.run [] [] rfl (st_assign rfl) .nil))))))))) ?_
      refine tr_seq ?_
      refine tr_wk (s' := mk [(3, .ptr 3 0), (4, .p none (.sl false 3 (pvO ops))), (5, .ptr 5 0), (6, .p none (.v (.int .i64 c)))] [(3, [.p none (.v (.int .i64 d.seq)), .sl 1701 0 ((pvE (d.mem)).length), .sl 1702 0 ((pvR (tagT d.runs)).length), .sl 1703 0 ((pvI (d.snaps)).length)]), (5, [.p none (.v (.int .i64 d.seq)), .sl 2301 0 ((pvE d.mem).length), .sl 2302 0 ((pvR (tagT d.runs)).length), .sl 2303 0 ((pvI d.snaps).length)])] [(1701, 4, pvE (d.mem)), (1702, 1, pvR (tagT d.runs)), (1703, 1, pvI (d.snaps)), (2301, 4, pvE d.mem), (2302, 1, pvR (tagT d.runs)), (2303, 1, pvI d.snaps)]) ?_ ?_
      · exact wk_mk ⟨rfl, ⟨rfl, ⟨rfl, ⟨rfl, trivial⟩⟩⟩⟩ ⟨rfl, ⟨rfl, trivial⟩⟩ ⟨rfl, ⟨rfl, ⟨rfl, ⟨rfl, ⟨rfl, ⟨rfl, trivial⟩⟩⟩⟩⟩⟩ rfl
      refine tr_region rfl (.run [] [] rfl (st_load_box rfl rfl rfl Try.isAgg56 Try.sizeOf56 (nle rfl)) (.run [] [] rfl (st_move rfl) (.run [1701, 1702, 1703, 2900, 2901, 2902, 2903, 2904] [] rfl (st_call rfl 2900 (X := []) en55 rfl (.val nod) (.cons (.agg (.cons (.bor .v) (.cons (.bor (.all (len := (pvE (d.mem)).length) (xs := pvE (d.mem)) rfl rfl (by decide))) (.cons (.bor (.all (len := (pvR (tagT d.runs)).length) (xs := pvR (tagT d.runs)) rfl rfl (by decide))) (.cons (.bor (.all (len := (pvI (d.snaps)).length) (xs := pvI (d.snaps)) rfl rfl (by decide))) .nil))))) (.cons (.one (.bor (.sl nod))) .nil)) (by decide) all_nil .nil (hcs) rfl rfl (nle rfl)) (.run [] [] rfl (st_move rfl) (.run [] [] rfl (st_extract rfl rfl rfl) (.run [] [] rfl (st_extract rfl rfl rfl) (.run [] [7] rfl (st_allocZ rfl 7 inf56 rfl (by decide) rfl (by decide)) (.run [] [] rfl (st_store_box rfl rfl rfl rfl rfl Try.sizeOf56 rfl (nle rfl)) (.run [] [] rfl (st_assign rfl) .nil))))))))) ?_
      refine tr_seq ?_
      refine tr_seq ?_
      refine tr_wk (s' := mk [(3, .ptr 3 0), (4, .p none (.sl false 3 (pvO ops))), (5, .ptr 5 0), (6, .p none (.v (.int .i64 c))), (8, .p none (.v (.int .i64 c)))] [(3, [.p none (.v (.int .i64 d.seq)), .sl 1701 0 ((pvE (d.mem)).length), .sl 1702 0 ((pvR (tagT d.runs)).length), .sl 1703 0 ((pvI (d.snaps)).length)]), (5, [.p none (.v (.int .i64 d.seq)), .sl 2301 0 ((pvE d.mem).length), .sl 2302 0 ((pvR (tagT d.runs)).length), .sl 2303 0 ((pvI d.snaps).length)])] [(1701, 4, pvE (d.mem)), (1702, 1, pvR (tagT d.runs)), (1703, 1, pvI (d.snaps)), (2301, 4, pvE d.mem), (2302, 1, pvR (tagT d.runs)), (2303, 1, pvI d.snaps)]) ?_ ?_
      · exact wk_mk ⟨rfl, ⟨rfl, ⟨rfl, ⟨rfl, ⟨rfl, trivial⟩⟩⟩⟩⟩ ⟨rfl, ⟨rfl, trivial⟩⟩ ⟨rfl, ⟨rfl, ⟨rfl, ⟨rfl, ⟨rfl, ⟨rfl, trivial⟩⟩⟩⟩⟩⟩ rfl
      refine tr_region rfl (.run [] [] rfl (st_move rfl) (.run [] [] rfl (st_move rfl) (.run [] [] rfl (st_eq (st_neq rfl rfl rfl) (bool_eq (congrArg Bool.not (decide_eq_true (by simp))))) (.run [] [] rfl (st_move rfl) (.run [] [] rfl (st_load_box rfl rfl rfl Try.isAgg56 Try.sizeOf56 (nle rfl)) (.run [1701, 1702, 1703, 3700] [] rfl (st_call rfl 3700 (X := []) en40 rfl (.val nod) (.cons (.agg (.cons (.bor .v) (.cons (.bor (.all (len := (pvE (d.mem)).length) (xs := pvE (d.mem)) rfl rfl (by decide))) (.cons (.bor (.all (len := (pvR (tagT d.runs)).length) (xs := pvR (tagT d.runs)) rfl rfl (by decide))) (.cons (.bor (.all (len := (pvI (d.snaps)).length) (xs := pvI (d.snaps)) rfl rfl (by decide))) .nil))))) .nil) (by decide) all_nil .nil (hco) rfl rfl (nle rfl)) (.run [] [] rfl (st_not (b := true) rfl rfl) (.run [] [] rfl (st_pickF rfl rfl) .nil)))))))) ?_
      refine tr_if (t := false) rfl (fun h => nomatch h) (fun _ => ?_)
      refine tr_skip ?_
      refine tr_seq ?_
      refine tr_region rfl (.run [] [] rfl (st_load_box rfl rfl rfl Try.isAgg56 Try.sizeOf56 (nle rfl)) (.run [1701, 1702, 1703, 4500, 4501] [] rfl (st_call rfl 4500 (X := []) en61 rfl (.val nod) (.cons (.agg (.cons (.bor .v) (.cons (.bor (.all (len := (pvE (d.mem)).length) (xs := pvE (d.mem)) rfl rfl (by decide))) (.cons (.bor (.all (len := (pvR (tagT d.runs)).length) (xs := pvR (tagT d.runs)) rfl rfl (by decide))) (.cons (.bor (.all (len := (pvI (d.snaps)).length) (xs := pvI (d.snaps)) rfl rfl (by decide))) .nil))))) (.cons (.one (.bor .v)) (.cons (.one (.bor .v)) (.cons (.one (.bor .v)) .nil)))) (by decide) all_nil .nil (scanI_con d hD (-1) ⟨#[]⟩ ⟨#[]⟩) rfl rfl (nle rfl)) (.run [] [] rfl (st_move rfl) (.run [] [] rfl (st_extract rfl rfl rfl) (.run [] [] rfl (st_extract rfl rfl rfl) (.run [] [] rfl (st_assign rfl) (.run [] [] rfl (st_assign rfl) .nil))))))) ?_
      refine tr_wk (wk_frz 4500 rfl) ?_
      have hp3 : (.p none (.sl false 2 (((pvP ((scanI d (-1) ⟨#[]⟩ ⟨#[]⟩).1)).drop 0).take ((pvP ((scanI d (-1) ⟨#[]⟩ ⟨#[]⟩).1)).length))) : AV) = .p none (.sl false 2 (pvP ((scanI d (-1) ⟨#[]⟩ ⟨#[]⟩).1))) := by simp only [frz_all]
      refine tr_wk (s' := mk [(3, .ptr 3 0), (4, .p none (.sl false 3 (pvO ops))), (5, .ptr 5 0), (6, .p none (.v (.int .i64 c))), (9, .p none (.sl false 2 (pvP ((scanI d (-1) ⟨#[]⟩ ⟨#[]⟩).1))))] [(3, [.p none (.v (.int .i64 d.seq)), .sl 1701 0 ((pvE (d.mem)).length), .sl 1702 0 ((pvR (tagT d.runs)).length), .sl 1703 0 ((pvI (d.snaps)).length)]), (5, [.p none (.v (.int .i64 d.seq)), .sl 2301 0 ((pvE d.mem).length), .sl 2302 0 ((pvR (tagT d.runs)).length), .sl 2303 0 ((pvI d.snaps).length)])] [(1701, 4, pvE (d.mem)), (1702, 1, pvR (tagT d.runs)), (1703, 1, pvI (d.snaps)), (2301, 4, pvE d.mem), (2302, 1, pvR (tagT d.runs)), (2303, 1, pvI d.snaps)]) ?_ ?_
      · exact wk_mk ⟨rfl, ⟨rfl, ⟨rfl, ⟨rfl, ⟨hp3, trivial⟩⟩⟩⟩⟩ ⟨rfl, ⟨rfl, trivial⟩⟩ ⟨rfl, ⟨rfl, ⟨rfl, ⟨rfl, ⟨rfl, ⟨rfl, trivial⟩⟩⟩⟩⟩⟩ rfl
      refine tr_seq ?_
      refine tr_region rfl (.run [] [] rfl (st_load_box rfl rfl rfl Try.isAgg56 Try.sizeOf56 (nle rfl)) (.run [2301, 2302, 2303, 5000, 5001] [] rfl (st_call rfl 5000 (X := []) en61 rfl (.val nod) (.cons (.agg (.cons (.bor .v) (.cons (.bor (.all (len := (pvE d.mem).length) (xs := pvE d.mem) rfl rfl (by decide))) (.cons (.bor (.all (len := (pvR (tagT d.runs)).length) (xs := pvR (tagT d.runs)) rfl rfl (by decide))) (.cons (.bor (.all (len := (pvI d.snaps).length) (xs := pvI d.snaps) rfl rfl (by decide))) .nil))))) (.cons (.one (.bor .v)) (.cons (.one (.bor .v)) (.cons (.one (.bor .v)) .nil)))) (by decide) all_nil .nil (scanI_con d hD (-1) ⟨#[]⟩ ⟨#[]⟩) rfl rfl (nle rfl)) (.run [] [] rfl (st_move rfl) (.run [] [] rfl (st_extract rfl rfl rfl) (.run [] [] rfl (st_extract rfl rfl rfl) (.run [] [] rfl (st_assign rfl) (.run [] [] rfl (st_assign rfl) .nil))))))) ?_
      refine tr_seq ?_
      refine tr_seq ?_
      refine tr_region rfl (.run [] [] rfl (st_move rfl) (.run [] [] rfl (st_neq rfl rfl rfl) .nil)) ?_
      refine tr_if (t := (!(decide (c = 0)))) rfl (fun h4 => ?_) (fun h4 => ?_)
      · skip
        replace h4 : ¬ (c = 0) := of_decide_eq_false (bnot_t h4)
        refine tr_seq ?_
        refine tr_wk (s' := mk [(3, .ptr 3 0), (5, .ptr 5 0), (9, .p none (.sl false 2 (pvP ((scanI d (-1) ⟨#[]⟩ ⟨#[]⟩).1)))), (11, .sl 5000 0 ((pvP ((scanI d (-1) ⟨#[]⟩ ⟨#[]⟩).1)).length))] [(3, [.p none (.v (.int .i64 d.seq)), .sl 1701 0 ((pvE (d.mem)).length), .sl 1702 0 ((pvR (tagT d.runs)).length), .sl 1703 0 ((pvI (d.snaps)).length)]), (5, [.p none (.v (.int .i64 d.seq)), .sl 2301 0 ((pvE d.mem).length), .sl 2302 0 ((pvR (tagT d.runs)).length), .sl 2303 0 ((pvI d.snaps).length)])] [(1701, 4, pvE (d.mem)), (1702, 1, pvR (tagT d.runs)), (1703, 1, pvI (d.snaps)), (2301, 4, pvE d.mem), (2302, 1, pvR (tagT d.runs)), (2303, 1, pvI d.snaps), (5000, 2, pvP ((scanI d (-1) ⟨#[]⟩ ⟨#[]⟩).1))]) ?_ ?_
        · exact wk_mk ⟨rfl, ⟨rfl, ⟨rfl, ⟨rfl, trivial⟩⟩⟩⟩ ⟨rfl, ⟨rfl, trivial⟩⟩ ⟨rfl, ⟨rfl, ⟨rfl, ⟨rfl, ⟨rfl, ⟨rfl, ⟨rfl, trivial⟩⟩⟩⟩⟩⟩⟩ rfl
        refine tr_region rfl (.run [] [] rfl (st_move rfl) (.run [] [] rfl (st_move rfl) (.run [5000, 5700] [] rfl (st_call rfl 5700 (X := []) en36 rfl (.val nod) (.cons (.one (.bor (.all (len := (pvP ((scanI d (-1) ⟨#[]⟩ ⟨#[]⟩).1)).length) (xs := pvP ((scanI d (-1) ⟨#[]⟩ ⟨#[]⟩).1)) rfl rfl (by decide)))) (.cons (.one (.bor (.sl nod))) .nil)) (by decide) all_nil .nil (samePairs_self ((scanI d (-1) ⟨#[]⟩ ⟨#[]⟩).1) (by omega)) rfl rfl (nle rfl)) (.run [] [] rfl (st_move rfl) (.run [] [] rfl (st_faddr_box rfl rfl Try.underlying56 rfl Try.sizeOf2 (by decide)) (.run [] [] rfl (st_load_box1 rfl rfl rfl Try.isAgg2 rfl) (.run [] [] rfl (st_faddr_box rfl rfl Try.underlying56 rfl Try.sizeOf2 (by decide)) (.run [] [] rfl (st_load_box1 rfl rfl rfl Try.isAgg2 rfl) (.run [] [] rfl (st_eq (st_eql rfl rfl rfl) (bool_eq (decide_eq_true (by simp)))) (.run [] [] rfl (st_pickT rfl rfl) (.run [] [] rfl (st_assign rfl) .nil))))))))))) ?_
        refine tr_ret ?_
        exact ends [_] [] (.cons (.tmp rfl) .nil) (.cons (.one .v (.v _)) .nil) (by decide) trivial
      · skip
        replace h4 : c = 0 := of_decide_eq_true (bnot_f h4)
        exact absurd h4 hc
    · skip
      have hcw := writeI_con d hD ops (by omega)
      rw [hw] at hcw
      have hcs := writeS_con d hD ops (by omega)
      rw [hs] at hcs
      have hco := specDbOk_d d hD
      rw [ho] at hco
      dsimp only at hcw hcs hco
      have hm4 := (okS_small ho).seq
      have hDa := okB_eb hoa
      have hcp := progDbOk_d a hDa
      rw [hoa] at hcp
      have hca := scanI_con a hDa (-1) ⟨#[]⟩ ⟨#[]⟩
      rw [hsc] at hca
      dsimp only at hcp hca
      have hla1 := pvE_length a.mem
      have hla2 := pvR_length (tagT a.runs)
      have hla3 := pvI_length a.snaps
      refine tr_region rfl (.run [] [] rfl (st_load_box rfl rfl rfl Try.isAgg56 Try.sizeOf56 (nle rfl)) (.run [] [] rfl (st_move rfl) (.run [1701, 1702, 1703, 2300, 2301, 2302, 2303, 2304] [] rfl (st_call rfl 2300 (X := []) en57 rfl (.val nod) (.cons (.agg (.cons (.bor .v) (.cons (.bor (.all (len := (pvE (d.mem)).length) (xs := pvE (d.mem)) rfl rfl (by decide))) (.cons (.bor (.all (len := (pvR (tagT d.runs)).length) (xs := pvR (tagT d.runs)) rfl rfl (by decide))) (.cons (.bor (.all (len := (pvI (d.snaps)).length) (xs := pvI (d.snaps)) rfl rfl (by decide))) .nil))))) (.cons (.one (.bor (.sl nod))) .nil)) (by decide) all_nil .nil (hcw) rfl rfl (nle rfl)) (.run [] [] rfl (st_move rfl) (.run [] [] rfl (st_extract rfl rfl rfl) (.run [] [] rfl (st_extract rfl rfl rfl) (.run [] [5] rfl (st_allocZ rfl 5 inf56 rfl (by decide) rfl (by decide)) (.run [] [] rfl (st_store_box rfl rfl rfl rfl rfl Try.sizeOf56 rfl (nle rfl)) (.run [] [] rfl (st_assign rfl) .nil))))))))) ?_
      refine tr_seq ?_
      refine tr_wk (s' := mk [(3, .ptr 3 0), (4, .p none (.sl false 3 (pvO ops))), (5, .ptr 5 0), (6, .p none (.v (.int .i64 0)))] [(3, [.p none (.v (.int .i64 d.seq)), .sl 1701 0 ((pvE (d.mem)).length), .sl 1702 0 ((pvR (tagT d.runs)).length), .sl 1703 0 ((pvI (d.snaps)).length)]), (5, [.p none (.v (.int .i64 a.seq)), .sl 2301 0 ((pvE a.mem).length), .sl 2302 0 ((pvR (tagT a.runs)).length), .sl 2303 0 ((pvI a.snaps).length)])] [(1701, 4, pvE (d.mem)), (1702, 1, pvR (tagT d.runs)), (1703, 1, pvI (d.snaps)), (2301, 4, pvE a.mem), (2302, 1, pvR (tagT a.runs)), (2303, 1, pvI a.snaps)]) ?_ ?_
      · exact wk_mk ⟨rfl, ⟨rfl, ⟨rfl, ⟨rfl, trivial⟩⟩⟩⟩ ⟨rfl, ⟨rfl, trivial⟩⟩ ⟨rfl, ⟨rfl, ⟨rfl, ⟨rfl, ⟨rfl, ⟨rfl, trivial⟩⟩⟩⟩⟩⟩ rfl
      refine tr_region rfl (.run [] [] rfl (st_load_box rfl rfl rfl Try.isAgg56 Try.sizeOf56 (nle rfl)) (.run [] [] rfl (st_move rfl) (.run [1701, 1702, 1703, 2900, 2901, 2902, 2903, 2904] [] rfl (st_call rfl 2900 (X := []) en55 rfl (.val nod) (.cons (.agg (.cons (.bor .v) (.cons (.bor (.all (len := (pvE (d.mem)).length) (xs := pvE (d.mem)) rfl rfl (by decide))) (.cons (.bor (.all (len := (pvR (tagT d.runs)).length) (xs := pvR (tagT d.runs)) rfl rfl (by decide))) (.cons (.bor (.all (len := (pvI (d.snaps)).length) (xs := pvI (d.snaps)) rfl rfl (by decide))) .nil))))) (.cons (.one (.bor (.sl nod))) .nil)) (by decide) all_nil .nil (hcs) rfl rfl (nle rfl)) (.run [] [] rfl (st_move rfl) (.run [] [] rfl (st_extract rfl rfl rfl) (.run [] [] rfl (st_extract rfl rfl rfl) (.run [] [7] rfl (st_allocZ rfl 7 inf56 rfl (by decide) rfl (by decide)) (.run [] [] rfl (st_store_box rfl rfl rfl rfl rfl Try.sizeOf56 rfl (nle rfl)) (.run [] [] rfl (st_assign rfl) .nil))))))))) ?_
      refine tr_seq ?_
      refine tr_seq ?_
      refine tr_wk (s' := mk [(3, .ptr 3 0), (4, .p none (.sl false 3 (pvO ops))), (5, .ptr 5 0), (6, .p none (.v (.int .i64 0))), (8, .p none (.v (.int .i64 0)))] [(3, [.p none (.v (.int .i64 d.seq)), .sl 1701 0 ((pvE (d.mem)).length), .sl 1702 0 ((pvR (tagT d.runs)).length), .sl 1703 0 ((pvI (d.snaps)).length)]), (5, [.p none (.v (.int .i64 a.seq)), .sl 2301 0 ((pvE a.mem).length), .sl 2302 0 ((pvR (tagT a.runs)).length), .sl 2303 0 ((pvI a.snaps).length)])] [(1701, 4, pvE (d.mem)), (1702, 1, pvR (tagT d.runs)), (1703, 1, pvI (d.snaps)), (2301, 4, pvE a.mem), (2302, 1, pvR (tagT a.runs)), (2303, 1, pvI a.snaps)]) ?_ ?_
      · exact wk_mk ⟨rfl, ⟨rfl, ⟨rfl, ⟨rfl, ⟨rfl, trivial⟩⟩⟩⟩⟩ ⟨rfl, ⟨rfl, trivial⟩⟩ ⟨rfl, ⟨rfl, ⟨rfl, ⟨rfl, ⟨rfl, ⟨rfl, trivial⟩⟩⟩⟩⟩⟩ rfl
      refine tr_region rfl (.run [] [] rfl (st_move rfl) (.run [] [] rfl (st_move rfl) (.run [] [] rfl (st_eq (st_neq rfl rfl rfl) (bool_eq (congrArg Bool.not (decide_eq_true (by simp))))) (.run [] [] rfl (st_move rfl) (.run [] [] rfl (st_load_box rfl rfl rfl Try.isAgg56 Try.sizeOf56 (nle rfl)) (.run [1701, 1702, 1703, 3700] [] rfl (st_call rfl 3700 (X := []) en40 rfl (.val nod) (.cons (.agg (.cons (.bor .v) (.cons (.bor (.all (len := (pvE (d.mem)).length) (xs := pvE (d.mem)) rfl rfl (by decide))) (.cons (.bor (.all (len := (pvR (tagT d.runs)).length) (xs := pvR (tagT d.runs)) rfl rfl (by decide))) (.cons (.bor (.all (len := (pvI (d.snaps)).length) (xs := pvI (d.snaps)) rfl rfl (by decide))) .nil))))) .nil) (by decide) all_nil .nil (hco) rfl rfl (nle rfl)) (.run [] [] rfl (st_not (b := true) rfl rfl) (.run [] [] rfl (st_pickF rfl rfl) .nil)))))))) ?_
      refine tr_if (t := false) rfl (fun h => nomatch h) (fun _ => ?_)
      refine tr_skip ?_
      refine tr_seq ?_
      refine tr_region rfl (.run [] [] rfl (st_load_box rfl rfl rfl Try.isAgg56 Try.sizeOf56 (nle rfl)) (.run [1701, 1702, 1703, 4500, 4501] [] rfl (st_call rfl 4500 (X := []) en61 rfl (.val nod) (.cons (.agg (.cons (.bor .v) (.cons (.bor (.all (len := (pvE (d.mem)).length) (xs := pvE (d.mem)) rfl rfl (by decide))) (.cons (.bor (.all (len := (pvR (tagT d.runs)).length) (xs := pvR (tagT d.runs)) rfl rfl (by decide))) (.cons (.bor (.all (len := (pvI (d.snaps)).length) (xs := pvI (d.snaps)) rfl rfl (by decide))) .nil))))) (.cons (.one (.bor .v)) (.cons (.one (.bor .v)) (.cons (.one (.bor .v)) .nil)))) (by decide) all_nil .nil (scanI_con d hD (-1) ⟨#[]⟩ ⟨#[]⟩) rfl rfl (nle rfl)) (.run [] [] rfl (st_move rfl) (.run [] [] rfl (st_extract rfl rfl rfl) (.run [] [] rfl (st_extract rfl rfl rfl) (.run [] [] rfl (st_assign rfl) (.run [] [] rfl (st_assign rfl) .nil))))))) ?_
      refine tr_wk (wk_frz 4500 rfl) ?_
      have hp5 : (.p none (.sl false 2 (((pvP ((scanI d (-1) ⟨#[]⟩ ⟨#[]⟩).1)).drop 0).take ((pvP ((scanI d (-1) ⟨#[]⟩ ⟨#[]⟩).1)).length))) : AV) = .p none (.sl false 2 (pvP ((scanI d (-1) ⟨#[]⟩ ⟨#[]⟩).1))) := by simp only [frz_all]
      refine tr_wk (s' := mk [(3, .ptr 3 0), (4, .p none (.sl false 3 (pvO ops))), (5, .ptr 5 0), (6, .p none (.v (.int .i64 0))), (9, .p none (.sl false 2 (pvP ((scanI d (-1) ⟨#[]⟩ ⟨#[]⟩).1))))] [(3, [.p none (.v (.int .i64 d.seq)), .sl 1701 0 ((pvE (d.mem)).length), .sl 1702 0 ((pvR (tagT d.runs)).length), .sl 1703 0 ((pvI (d.snaps)).length)]), (5, [.p none (.v (.int .i64 a.seq)), .sl 2301 0 ((pvE a.mem).length), .sl 2302 0 ((pvR (tagT a.runs)).length), .sl 2303 0 ((pvI a.snaps).length)])] [(1701, 4, pvE (d.mem)), (1702, 1, pvR (tagT d.runs)), (1703, 1, pvI (d.snaps)), (2301, 4, pvE a.mem), (2302, 1, pvR (tagT a.runs)), (2303, 1, pvI a.snaps)]) ?_ ?_
      · exact wk_mk ⟨rfl, ⟨rfl, ⟨rfl, ⟨rfl, ⟨hp5, trivial⟩⟩⟩⟩⟩ ⟨rfl, ⟨rfl, trivial⟩⟩ ⟨rfl, ⟨rfl, ⟨rfl, ⟨rfl, ⟨rfl, ⟨rfl, trivial⟩⟩⟩⟩⟩⟩ rfl
      refine tr_seq ?_
      refine tr_region rfl (.run [] [] rfl (st_load_box rfl rfl rfl Try.isAgg56 Try.sizeOf56 (nle rfl)) (.run [2301, 2302, 2303, 5000, 5001] [] rfl (st_call rfl 5000 (X := []) en61 rfl (.val nod) (.cons (.agg (.cons (.bor .v) (.cons (.bor (.all (len := (pvE a.mem).length) (xs := pvE a.mem) rfl rfl (by decide))) (.cons (.bor (.all (len := (pvR (tagT a.runs)).length) (xs := pvR (tagT a.runs)) rfl rfl (by decide))) (.cons (.bor (.all (len := (pvI a.snaps).length) (xs := pvI a.snaps) rfl rfl (by decide))) .nil))))) (.cons (.one (.bor .v)) (.cons (.one (.bor .v)) (.cons (.one (.bor .v)) .nil)))) (by decide) all_nil .nil (hca) rfl rfl (nle rfl)) (.run [] [] rfl (st_move rfl) (.run [] [] rfl (st_extract rfl rfl rfl) (.run [] [] rfl (st_extract rfl rfl rfl) (.run [] [] rfl (st_assign rfl) (.run [] [] rfl (st_assign rfl) .nil))))))) ?_
      refine tr_seq ?_
      refine tr_seq ?_
      refine tr_region rfl (.run [] [] rfl (st_move rfl) (.run [] [] rfl (st_eq (st_neq rfl rfl rfl) (bool_eq (congrArg Bool.not (decide_eq_true (by simp))))) .nil)) ?_
      refine tr_if (t := false) rfl (fun h => nomatch h) (fun _ => ?_)
      refine tr_skip ?_
      refine tr_seq ?_
      refine tr_wk (s' := mk [(3, .ptr 3 0), (4, .p none (.sl false 3 (pvO ops))), (5, .ptr 5 0), (9, .p none (.sl false 2 (pvP ((scanI d (-1) ⟨#[]⟩ ⟨#[]⟩).1)))), (11, .sl 5000 0 ((pvP (foldF (scanI d (-1) ⟨#[]⟩ ⟨#[]⟩).1 ops)).length)), (12, .p none (.v (.int .i64 0)))] [(3, [.p none (.v (.int .i64 d.seq)), .sl 1701 0 ((pvE (d.mem)).length), .sl 1702 0 ((pvR (tagT d.runs)).length), .sl 1703 0 ((pvI (d.snaps)).length)]), (5, [.p none (.v (.int .i64 a.seq)), .sl 2301 0 ((pvE a.mem).length), .sl 2302 0 ((pvR (tagT a.runs)).length), .sl 2303 0 ((pvI a.snaps).length)])] [(1701, 4, pvE (d.mem)), (1702, 1, pvR (tagT d.runs)), (1703, 1, pvI (d.snaps)), (2301, 4, pvE a.mem), (2302, 1, pvR (tagT a.runs)), (2303, 1, pvI a.snaps), (5000, 2, pvP (foldF (scanI d (-1) ⟨#[]⟩ ⟨#[]⟩).1 ops))]) ?_ ?_
      · exact wk_mk ⟨rfl, ⟨rfl, ⟨rfl, ⟨rfl, ⟨rfl, ⟨rfl, trivial⟩⟩⟩⟩⟩⟩ ⟨rfl, ⟨rfl, trivial⟩⟩ ⟨rfl, ⟨rfl, ⟨rfl, ⟨rfl, ⟨rfl, ⟨rfl, ⟨rfl, trivial⟩⟩⟩⟩⟩⟩⟩ rfl
      refine tr_region rfl (.run [] [] rfl (st_load_box rfl rfl rfl Try.isAgg56 Try.sizeOf56 (nle rfl)) (.run [2301, 2302, 2303, 6600] [] rfl (st_call rfl 6600 (X := []) en42 rfl (.val nod) (.cons (.agg (.cons (.bor .v) (.cons (.bor (.all (len := (pvE a.mem).length) (xs := pvE a.mem) rfl rfl (by decide))) (.cons (.bor (.all (len := (pvR (tagT a.runs)).length) (xs := pvR (tagT a.runs)) rfl rfl (by decide))) (.cons (.bor (.all (len := (pvI a.snaps).length) (xs := pvI a.snaps) rfl rfl (by decide))) .nil))))) .nil) (by decide) all_nil .nil (hcp) rfl rfl (nle rfl)) (.run [] [] rfl (st_move rfl) (.run [] [] rfl (st_move rfl) (.run [] [] rfl (st_eq (st_eql rfl rfl rfl) (bool_eq (decide_eq_true (by simp)))) (.run [] [] rfl (st_pickT rfl rfl) (.run [] [] rfl (st_move rfl) (.run [] [] rfl (st_move rfl) (.run [] [] rfl (st_move rfl) (.run [] [] rfl (st_move rfl) (.run [7500] [] rfl (st_callS rfl 7500 (X := []) en67 rfl (.cons (.one .sl) (.cons (.one .sl) .nil)) (by decide) all_nil (fold_con ((scanI d (-1) ⟨#[]⟩ ⟨#[]⟩).1) ops (by omega) (by omega)) rfl (nle rfl)) (.run [5000, 7600] [] rfl (st_call rfl 7600 (X := []) en36 rfl (.val nod) (.cons (.one (.bor (.all (len := (pvP (foldF (scanI d (-1) ⟨#[]⟩ ⟨#[]⟩).1 ops)).length) (xs := pvP (foldF (scanI d (-1) ⟨#[]⟩ ⟨#[]⟩).1 ops)) rfl rfl (by decide)))) (.cons (.one (.bor (.sl nod))) .nil)) (by decide) all_nil .nil (samePairs_self (foldF (scanI d (-1) ⟨#[]⟩ ⟨#[]⟩).1 ops) (by omega)) rfl rfl (nle rfl)) (.run [] [] rfl (st_pickT rfl rfl) (.run [] [] rfl (st_move rfl) (.run [] [] rfl (st_faddr_box rfl rfl Try.underlying56 rfl Try.sizeOf2 (by decide)) (.run [] [] rfl (st_load_box1 rfl rfl rfl Try.isAgg2 rfl) (.run [] [] rfl (st_faddr_box rfl rfl Try.underlying56 rfl Try.sizeOf2 (by decide)) (.run [] [] rfl (st_load_box1 rfl rfl rfl Try.isAgg2 rfl) (.run [] [] rfl (st_move rfl) (.run [] [] rfl (st_len_fro rfl rfl Try.underlying73) (.run [] [] rfl (st_addn rfl rfl rfl (by omega)) (.run [] [] rfl (st_eql rfl rfl rfl) (.run [] [] rfl (st_pickT rfl rfl) (.run [] [] rfl (st_assign rfl) .nil)))))))))))))))))))))))) ?_
      refine tr_ret ?_
      exact ends [_] [] (.cons (.tmp (bool_eq (decide_eq_true (by omega)))) .nil) (.cons (.one .v (.v _)) .nil) (by decide) trivial
end Go.Rl

/- Promises of functions, proved by walks over their operations; no conditions beyond those that each theorem states. -/
import Derived.Test.YtmjfdldfaeaolaaRdF
import Derived.Test.YtmjfdldfaeaolaaRlV
import Derived.Test.YtmjfdldfaeaolaaRlT
namespace Go.Rl
open Go.Proofs
theorem en33 : ∀ vs w, (callFunc 33 vs).run Try.prog w = .ok (.enter 33 vs) w := enters Try.func33 (by decide) rfl
theorem en34 : ∀ vs w, (callFunc 34 vs).run Try.prog w = .ok (.enter 34 vs) w := enters Try.func34 (by decide) rfl
theorem en35 : ∀ vs w, (callFunc 35 vs).run Try.prog w = .ok (.enter 35 vs) w := enters Try.func35 (by decide) rfl
theorem en37 : ∀ vs w, (callFunc 37 vs).run Try.prog w = .ok (.enter 37 vs) w := enters Try.func37 (by decide) rfl
theorem en77 : ∀ vs w, (callFunc 77 vs).run Try.prog w = .ok (.enter 77 vs) w := enters Try.func77 (by decide) rfl
theorem en11 : ∀ vs w, (callFunc 11 vs).run Try.prog w = .ok (.enter 11 vs) w := enters Try.func11 (by decide) rfl
theorem en48 : ∀ vs w, (callFunc 48 vs).run Try.prog w = .ok (.enter 48 vs) w := enters Try.func48 (by decide) rfl
theorem en44 : ∀ vs w, (callFunc 44 vs).run Try.prog w = .ok (.enter 44 vs) w := enters Try.func44 (by decide) rfl
theorem en43 : ∀ vs w, (callFunc 43 vs).run Try.prog w = .ok (.enter 43 vs) w := enters Try.func43 (by decide) rfl
theorem en50 : ∀ vs w, (callFunc 50 vs).run Try.prog w = .ok (.enter 50 vs) w := enters Try.func50 (by decide) rfl
theorem en53 : ∀ vs w, (callFunc 53 vs).run Try.prog w = .ok (.enter 53 vs) w := enters Try.func53 (by decide) rfl
set_option maxRecDepth 1000000 in
set_option maxHeartbeats 2000000 in
theorem diskOk_con (d : Dsk) (hd : DB 900000000 d) (hop : ∀ op ∈ d.ops, op.data.size ≤ 900000000) : Con Try.prog 11 [.agg [PV.sl false 2 (pvF d.live), PV.sl false 2 (pvF d.safe), PV.sl false 4 (pvD d.ops)]] [] [.one (.v (.bool (diskOk d)))] := by
  refine con_of_tr Try.func11 rfl rfl rfl rfl ?_
  have hld := pvF_length d.live
  have hsd := pvF_length d.safe
  have hod := pvD_length d.ops
  obtain ⟨hb1, hb2, hb3, hb4, hb5⟩ := id hd
  refine tr_seq ?_
  refine tr_region rfl (.run [] [1] rfl (st_box rfl 1 rfl rfl (by decide) rfl (by decide)) (.run [] [] rfl (st_assign rfl) .nil)) ?_
  refine tr_seq ?_
  refine tr_seq ?_
  refine tr_wk (s' := mk [(1, .ptr 1 0)] [(1, [.p none (.sl false 2 (pvF d.live)), .p none (.sl false 2 (pvF d.safe)), .p none (.sl false 4 (pvD d.ops))])] []) ?_ ?_
  · exact wk_mk ⟨rfl, trivial⟩ ⟨rfl, trivial⟩ trivial rfl
  rcases bfc (!(filesOk d.live)) with h1 | h1
  · have h1' := h1
    replace h1' : (filesOk d.live) = true := bnot_f h1'
    rcases bfc (!(filesOk d.safe)) with h2 | h2
    · have h2' := h2
      replace h2' : (filesOk d.safe) = true := bnot_f h2'
      refine tr_region rfl (.run [] [] rfl (st_faddr_box rfl rfl Try.underlying27 rfl Try.sizeOf24 (by decide)) (.run [] [] rfl (st_load_box1 rfl rfl rfl Try.isAgg24 rfl) (.run [1000] [] rfl (st_call rfl 1000 (X := []) en33 rfl (.val nod) (.cons (.one (.bor (.sl nod))) .nil) (by decide) all_nil .nil (areFiles_con d.live (by omega) (by omega)) rfl rfl (nle rfl)) (.run [] [] rfl (st_eq (st_not (b := filesOk d.live) rfl rfl) (by exact congrArg (fun b => AV.p none (.v (.bool b))) h1)) (.run [] [] rfl (st_move rfl) (.run [] [] rfl (st_faddr_box rfl rfl Try.underlying27 rfl Try.sizeOf24 (by decide)) (.run [] [] rfl (st_load_box1 rfl rfl rfl Try.isAgg24 rfl) (.run [1500] [] rfl (st_call rfl 1500 (X := []) en33 rfl (.val nod) (.cons (.one (.bor (.sl nod))) .nil) (by decide) all_nil .nil (areFiles_con d.safe (by omega) (by omega)) rfl rfl (nle rfl)) (.run [] [] rfl (st_eq (st_not (b := filesOk d.safe) rfl rfl) (by exact congrArg (fun b => AV.p none (.v (.bool b))) h2)) (.run [] [] rfl (st_pick (t := false) rfl rfl) (.run [] [] rfl (st_move rfl) (.run [] [] rfl (st_faddr_box rfl rfl Try.underlying27 rfl Try.sizeOf25 (by decide)) (.run [] [] rfl (st_load_box1 rfl rfl rfl Try.isAgg25 rfl) (.run [] [] rfl (st_len_fro rfl rfl Try.underlying25) (.run [] [] rfl (st_gtr rfl rfl rfl) (.run [] [] rfl (st_pick (t := false) rfl rfl) .nil)))))))))))))))) ?_
      refine tr_if (t := decide (200 < ((pvD d.ops).length : Int))) rfl (fun h3 => ?_) (fun h3 => ?_)
      · skip
        replace h3 := of_decide_eq_true h3
        refine tr_seq ?_
        refine tr_wk (s' := mk [] [] []) ?_ ?_
        · exact wk_mk trivial trivial trivial rfl
        refine tr_region rfl (.run [] [] rfl (st_assign rfl) .nil) ?_
        refine tr_ret ?_
        exact ends [_] [] (.cons (.tmp (bool_eq (show diskOk d = false by have hq : ¬ d.ops.length ≤ 200 := (by omega); simp [diskOk, hq]).symm)) .nil) (.cons (.one .v (.v _)) .nil) (by decide) trivial
      · skip
        replace h3 := of_decide_eq_false h3
        refine tr_skip ?_
        refine tr_seq ?_
        refine tr_wk (s' := mk [(1, .ptr 1 0)] [(1, [.p none (.sl false 2 (pvF d.live)), .p none (.sl false 2 (pvF d.safe)), .p none (.sl false 4 (pvD d.ops))])] []) ?_ ?_
        · exact wk_mk ⟨rfl, trivial⟩ ⟨rfl, trivial⟩ trivial rfl
        refine tr_region rfl (.run [] [] rfl (st_faddr_box rfl rfl Try.underlying27 rfl Try.sizeOf24 (by decide)) (.run [] [] rfl (st_load_box1 rfl rfl rfl Try.isAgg24 rfl) (.run [] [] rfl (st_assign rfl) .nil))) ?_
        refine tr_seq ?_
        refine tr_seq ?_
        refine tr_region rfl (.run [] [] rfl (st_faddr_box rfl rfl Try.underlying27 rfl Try.sizeOf25 (by decide)) (.run [] [] rfl (st_load_box1 rfl rfl rfl Try.isAgg25 rfl) (.run [] [] rfl (st_len_fro rfl rfl Try.underlying25) (.run [] [] rfl (st_move rfl) .nil)))) ?_
        refine tr_block ?_
        refine tr_loopS (σ := Nat × List Fil) (fun (i, now) => mk [(1, .ptr 1 0), (3, .p none (.sl false 2 (pvF now))), (27, .p none (.sl false 4 (pvD d.ops))), (28, .p none (.v (.int .i64 ((pvD d.ops).length : Int)))), (29, .p none (.v (.int .i64 (i:Int))))] [(1, [.p none (.sl false 2 (pvF d.live)), .p none (.sl false 2 (pvF d.safe)), .p none (.sl false 4 (pvD d.ops))])] []) (fun (i, now) => i ≤ d.ops.length ∧ filesOk now = true ∧ replayF now (d.ops.drop i) = replayF d.safe d.ops) (fun (i, now) => d.ops.length - i) (0, d.safe) ⟨Nat.zero_le _, h2', rfl⟩ (wk_mk ⟨rfl, ⟨rfl, ⟨rfl, ⟨rfl, ⟨(int_eq (by omega)), trivial⟩⟩⟩⟩⟩ ⟨rfl, trivial⟩ trivial rfl) ?_
        rintro ⟨i, now⟩ hG
        replace hG : i ≤ d.ops.length ∧ filesOk now = true ∧ replayF now (d.ops.drop i) = replayF d.safe d.ops := hG
        obtain ⟨hi, hf, hr⟩ := hG
        have hnl := pvF_length now
        obtain ⟨hn1, hn2⟩ := files_fit hf
        refine tr_seq ?_
        refine tr_region rfl (.run [] [] rfl (st_lss rfl rfl rfl) .nil) ?_
        refine tr_seq ?_
        refine tr_if (t := decide ((i:Int) < ((pvD d.ops).length : Int))) rfl (fun h4 => ?_) (fun h4 => ?_)
        · skip
          replace h4 := of_decide_eq_true h4
          refine tr_skip ?_
          refine tr_seq ?_
          refine tr_block ?_
          refine tr_seq ?_
          obtain ⟨e, he⟩ : ∃ e, d.ops[i]? = some e := ⟨_, List.getElem?_eq_getElem (by omega)⟩
          have heo := hop e (List.mem_of_getElem? he)
          refine tr_region rfl (.run [] [] rfl (st_idx_fro rfl rfl rfl Try.underlying25 Try.sizeOf36 rfl (by omega) (pvD_get he)) (.run [] [] rfl (st_load_fea rfl rfl Try.isAgg36 Try.sizeOf36 (nle rfl)) (.run [] [5] rfl (st_allocZ rfl 5 inf36 rfl (by decide) rfl (by decide)) (.run [] [] rfl (st_store_box rfl rfl rfl rfl rfl Try.sizeOf36 rfl (nle rfl)) .nil)))) ?_
          refine tr_seq ?_
          refine tr_seq ?_
          refine tr_region rfl (.run [] [] rfl (st_load_box rfl rfl rfl Try.isAgg36 Try.sizeOf36 (nle rfl)) (.run [3400] [] rfl (st_call rfl 3400 (X := []) en34 rfl (.val nod) (.cons (.agg (.cons (.bor .v) (.cons (.bor .v) (.cons (.bor .v) (.cons (.bor .v) .nil))))) .nil) (by decide) all_nil .nil (formed_con e) rfl rfl (nle rfl)) (.run [] [] rfl (st_not (b := formF e) rfl rfl) .nil))) ?_
          refine tr_if (t := (!(formF e))) rfl (fun h5 => ?_) (fun h5 => ?_)
          · skip
            replace h5 : (formF e) = false := bnot_t h5
            refine tr_seq ?_
            refine tr_region rfl (.run [] [] rfl (st_assign rfl) .nil) ?_
            refine tr_ret ?_
            exact ends [_] [] (.cons (.tmp (bool_eq (disk_no hr he (by simp [h5])).symm)) .nil) (.cons (.one .v (.v _)) .nil) (by decide) trivial
          · skip
            replace h5 : (formF e) = true := bnot_f h5
            refine tr_skip ?_
            refine tr_seq ?_
            refine tr_region rfl (.run [] [] rfl (st_move rfl) (.run [] [] rfl (st_load_box rfl rfl rfl Try.isAgg36 Try.sizeOf36 (nle rfl)) (.run [3900, 3901] [] rfl (st_call rfl 3900 (X := []) en35 rfl (.val nod) (.cons (.one (.bor (.sl nod))) (.cons (.agg (.cons (.bor .v) (.cons (.bor .v) (.cons (.bor .v) (.cons (.bor .v) .nil))))) .nil)) (by decide) all_nil .nil (done_con now e (namesOk_srt (files_names hf)) (by omega) (by omega) (by omega)) rfl rfl (nle rfl)) (.run [] [] rfl (st_move rfl) (.run [] [] rfl (st_extract rfl rfl rfl) (.run [] [] rfl (st_extract rfl rfl rfl) (.run [] [] rfl (st_assign rfl) (.run [] [] rfl (st_assign rfl) .nil)))))))) ?_
            refine tr_seq ?_
            refine tr_seq ?_
            have hdl := done_len now e
            have hdt := done_tot now e
            have hln := pvF_length (doneF now e).1
            have hfo : filesOk (doneF now e).1 = fitF (doneF now e).1 := files_done (files_names hf) h5
            refine tr_wk (s' := mk [(1, .ptr 1 0), (6, .sl 3900 0 ((pvF ((doneF now e).1)).length)), (7, .p none (.v (.bool ((doneF now e).2)))), (27, .p none (.sl false 4 (pvD d.ops))), (28, .p none (.v (.int .i64 ((pvD d.ops).length : Int)))), (29, .p none (.v (.int .i64 (i:Int))))] [(1, [.p none (.sl false 2 (pvF d.live)), .p none (.sl false 2 (pvF d.safe)), .p none (.sl false 4 (pvD d.ops))])] [(3900, 2, pvF ((doneF now e).1))]) ?_ ?_
            · exact wk_mk ⟨rfl, ⟨rfl, ⟨rfl, ⟨rfl, ⟨rfl, ⟨rfl, trivial⟩⟩⟩⟩⟩⟩ ⟨rfl, trivial⟩ ⟨rfl, trivial⟩ rfl
            rcases bfc (!((doneF now e).2)) with h6 | h6
            · have h6' := h6
              replace h6' : ((doneF now e).2) = true := bnot_f h6'
              refine tr_region rfl (.run [] [] rfl (st_move rfl) (.run [] [] rfl (st_eq (st_not (b := (doneF now e).2) rfl rfl) (by exact congrArg (fun b => AV.p none (.v (.bool b))) h6)) (.run [] [] rfl (st_move rfl) (.run [] [] rfl (st_move rfl) (.run [3900, 4600] [] rfl (st_call rfl 4600 (X := []) en36 rfl (.val nod) (.cons (.one (.bor (.all (len := (pvF ((doneF now e).1)).length) (xs := pvF ((doneF now e).1)) rfl rfl (by decide)))) .nil) (by decide) all_nil .nil (fit_con ((doneF now e).1) (by omega) (by omega)) rfl rfl (nle rfl)) (.run [] [] rfl (st_not (b := fitF ((doneF now e).1)) rfl rfl) (.run [] [] rfl (st_pick (t := false) rfl rfl) .nil))))))) ?_
              refine tr_if (t := (!(fitF ((doneF now e).1)))) rfl (fun h7 => ?_) (fun h7 => ?_)
              · skip
                replace h7 : (fitF ((doneF now e).1)) = false := bnot_t h7
                refine tr_seq ?_
                refine tr_region rfl (.run [] [] rfl (st_assign rfl) .nil) ?_
                refine tr_ret ?_
                exact ends [_] [] (.cons (.tmp (bool_eq (disk_no hr he (by simp [h5, h6', h7, hfo])).symm)) .nil) (.cons (.one .v (.v _)) .nil) (by decide) trivial
              · skip
                replace h7 : (fitF ((doneF now e).1)) = true := bnot_f h7
                refine tr_skip ?_
                refine tr_region rfl (.run [] [] rfl (st_move rfl) (.run [] [] rfl (st_assign rfl) .nil)) ?_
                refine tr_wk (wk_frz 3900 rfl) ?_
                have hp8 : (.p none (.sl false 2 (((pvF ((doneF now e).1)).drop 0).take ((pvF ((doneF now e).1)).length))) : AV) = .p none (.sl false 2 (pvF ((doneF now e).1))) := by simp only [frz_all]
                have hp9 : (.p none (.sl false 2 (((pvF ((doneF now e).1)).drop 0).take ((pvF ((doneF now e).1)).length))) : AV) = .p none (.sl false 2 (pvF ((doneF now e).1))) := by simp only [frz_all]
                refine tr_wk (s' := mk [(1, .ptr 1 0), (3, .p none (.sl false 2 (pvF ((doneF now e).1)))), (27, .p none (.sl false 4 (pvD d.ops))), (28, .p none (.v (.int .i64 ((pvD d.ops).length : Int)))), (29, .p none (.v (.int .i64 (i:Int)))), (45, .p none (.sl false 2 (pvF ((doneF now e).1)))), (46, .p none (.v (.bool (fitF ((doneF now e).1))))), (47, .p none (.v (.bool (!(fitF ((doneF now e).1))))))] [(1, [.p none (.sl false 2 (pvF d.live)), .p none (.sl false 2 (pvF d.safe)), .p none (.sl false 4 (pvD d.ops))])] []) ?_ ?_
                · exact wk_mk ⟨rfl, ⟨hp9, ⟨rfl, ⟨rfl, ⟨rfl, ⟨hp8, ⟨rfl, ⟨rfl, trivial⟩⟩⟩⟩⟩⟩⟩⟩ ⟨rfl, trivial⟩ trivial rfl
                refine tr_region rfl (.run [] [] rfl (st_addn rfl rfl rfl (by omega)) (.run [] [] rfl (st_move rfl) .nil)) ?_
                refine nxt (Q := fun _ _ => False) (z := (i, now)) (i + 1, (doneF now e).1) ?_ ?_ ?_
                · show (i + 1) ≤ d.ops.length ∧ filesOk ((doneF now e).1) = true ∧ replayF ((doneF now e).1) (d.ops.drop (i + 1)) = replayF d.safe d.ops
                  exact ⟨by omega, by rw [hfo]; exact h7, disk_next hr he ⟨h5, h6', by rw [hfo]; exact h7⟩⟩
                · show d.ops.length - (i + 1) < d.ops.length - i
                  omega
                · exact wk_mk ⟨rfl, ⟨rfl, ⟨rfl, ⟨rfl, ⟨(int_eq (by omega)), trivial⟩⟩⟩⟩⟩ ⟨rfl, trivial⟩ trivial rfl
            · have h6' := h6
              replace h6' : ((doneF now e).2) = false := bnot_t h6'
              refine tr_region rfl (.run [] [] rfl (st_move rfl) (.run [] [] rfl (st_eq (st_not (b := (doneF now e).2) rfl rfl) (by exact congrArg (fun b => AV.p none (.v (.bool b))) h6)) (.run [] [] rfl (st_move rfl) (.not rfl (.not rfl (.not rfl (.run [] [] rfl (st_pick (t := true) rfl rfl) .nil))))))) ?_
              refine tr_if (t := true) rfl (fun _ => ?_) (fun h => nomatch h)
              refine tr_seq ?_
              refine tr_region rfl (.run [] [] rfl (st_assign rfl) .nil) ?_
              refine tr_ret ?_
              exact ends [_] [] (.cons (.tmp (bool_eq (disk_no hr he (by simp [h5, h6'])).symm)) .nil) (.cons (.one .v (.v _)) .nil) (by decide) trivial
        · skip
          replace h4 := of_decide_eq_false h4
          refine tr_exit ?_
          refine tr_seq ?_
          refine tr_region rfl (.run [] [] rfl (st_move rfl) (.run [] [] rfl (st_faddr_box rfl rfl Try.underlying27 rfl Try.sizeOf24 (by decide)) (.run [] [] rfl (st_load_box1 rfl rfl rfl Try.isAgg24 rfl) (.run [5400] [] rfl (st_call rfl 5400 (X := []) en37 rfl (.val nod) (.cons (.one (.bor (.sl nod))) (.cons (.one (.bor (.sl nod))) .nil)) (by decide) all_nil .nil (equalF_con now d.live (by omega)) rfl rfl (nle rfl)) (.run [] [] rfl (st_assign rfl) .nil))))) ?_
          refine tr_ret ?_
          exact ends [_] [] (.cons (.tmp (bool_eq (disk_end (by omega) hr h1' h2' (by omega)).symm)) .nil) (.cons (.one .v (.v _)) .nil) (by decide) trivial
    · have h2' := h2
      replace h2' : (filesOk d.safe) = false := bnot_t h2'
      refine tr_region rfl (.run [] [] rfl (st_faddr_box rfl rfl Try.underlying27 rfl Try.sizeOf24 (by decide)) (.run [] [] rfl (st_load_box1 rfl rfl rfl Try.isAgg24 rfl) (.run [1000] [] rfl (st_call rfl 1000 (X := []) en33 rfl (.val nod) (.cons (.one (.bor (.sl nod))) .nil) (by decide) all_nil .nil (areFiles_con d.live (by omega) (by omega)) rfl rfl (nle rfl)) (.run [] [] rfl (st_eq (st_not (b := filesOk d.live) rfl rfl) (by exact congrArg (fun b => AV.p none (.v (.bool b))) h1)) (.run [] [] rfl (st_move rfl) (.run [] [] rfl (st_faddr_box rfl rfl Try.underlying27 rfl Try.sizeOf24 (by decide)) (.run [] [] rfl (st_load_box1 rfl rfl rfl Try.isAgg24 rfl) (.run [1500] [] rfl (st_call rfl 1500 (X := []) en33 rfl (.val nod) (.cons (.one (.bor (.sl nod))) .nil) (by decide) all_nil .nil (areFiles_con d.safe (by omega) (by omega)) rfl rfl (nle rfl)) (.run [] [] rfl (st_eq (st_not (b := filesOk d.safe) rfl rfl) (by exact congrArg (fun b => AV.p none (.v (.bool b))) h2)) (.run [] [] rfl (st_pick (t := false) rfl rfl) (.run [] [] rfl (st_move rfl) (.not rfl (.not rfl (.not rfl (.not rfl (.run [] [] rfl (st_pick (t := true) rfl rfl) .nil)))))))))))))))) ?_
      refine tr_if (t := true) rfl (fun _ => ?_) (fun h => nomatch h)
      refine tr_seq ?_
      refine tr_wk (s' := mk [] [] []) ?_ ?_
      · exact wk_mk trivial trivial trivial rfl
      refine tr_region rfl (.run [] [] rfl (st_assign rfl) .nil) ?_
      refine tr_ret ?_
      exact ends [_] [] (.cons (.tmp (bool_eq (show diskOk d = false by simp [diskOk, h1', h2']).symm)) .nil) (.cons (.one .v (.v _)) .nil) (by decide) trivial
  · have h1' := h1
    replace h1' : (filesOk d.live) = false := bnot_t h1'
    refine tr_region rfl (.run [] [] rfl (st_faddr_box rfl rfl Try.underlying27 rfl Try.sizeOf24 (by decide)) (.run [] [] rfl (st_load_box1 rfl rfl rfl Try.isAgg24 rfl) (.run [1000] [] rfl (st_call rfl 1000 (X := []) en33 rfl (.val nod) (.cons (.one (.bor (.sl nod))) .nil) (by decide) all_nil .nil (areFiles_con d.live (by omega) (by omega)) rfl rfl (nle rfl)) (.run [] [] rfl (st_eq (st_not (b := filesOk d.live) rfl rfl) (by exact congrArg (fun b => AV.p none (.v (.bool b))) h1)) (.run [] [] rfl (st_move rfl) (.not rfl (.not rfl (.not rfl (.not rfl (.run [] [] rfl (st_pick (t := true) rfl rfl) (.run [] [] rfl (st_move rfl) (.not rfl (.not rfl (.not rfl (.not rfl (.run [] [] rfl (st_pick (t := true) rfl rfl) .nil)))))))))))))))) ?_
    refine tr_if (t := true) rfl (fun _ => ?_) (fun h => nomatch h)
    refine tr_seq ?_
    refine tr_wk (s' := mk [] [] []) ?_ ?_
    · exact wk_mk trivial trivial trivial rfl
    refine tr_region rfl (.run [] [] rfl (st_assign rfl) .nil) ?_
    refine tr_ret ?_
    exact ends [_] [] (.cons (.tmp (bool_eq (show diskOk d = false by simp [diskOk, h1']).symm)) .nil) (.cons (.one .v (.v _)) .nil) (by decide) trivial
set_option maxRecDepth 1000000 in
set_option maxHeartbeats 2000000 in
theorem copied_con (d : Dsk) (hd : DB 900000000 d) : Con Try.prog 44 [.agg [PV.sl false 2 (pvF d.live), PV.sl false 2 (pvF d.safe), PV.sl false 4 (pvD d.ops)]] [] [.agg [.sl true 2 (pvF d.live), .sl true 2 (pvF d.safe), .sl true 4 (pvD d.ops)]] := by
  refine con_of_tr Try.func44 rfl rfl rfl rfl ?_
  have hld := pvF_length d.live
  have hsd := pvF_length d.safe
  have hod := pvD_length d.ops
  obtain ⟨hb1, hb2, hb3, hb4, hb5⟩ := id hd
  refine tr_seq ?_
  refine tr_region rfl (.run [] [1] rfl (st_box rfl 1 rfl rfl (by decide) rfl (by decide)) (.run [] [2] rfl (st_allocZ rfl 2 inf27 rfl (by decide) rfl (by decide)) .nil)) ?_
  refine tr_seq ?_
  refine tr_regionD mixed rfl (.run [] [] rfl (st_faddr_box rfl rfl Try.underlying27 rfl Try.sizeOf24 (by decide)) (.run [] [] rfl (st_load_box1 rfl rfl rfl Try.isAgg24 rfl) (.run [500] [] rfl (st_call rfl 500 (X := []) en69 rfl (.val nod) (.cons (.one (.bor (.sl nod))) .nil) (by decide) all_nil .nil (cloneF_con d.live (by omega)) rfl rfl (nle rfl)) (.run [] [] rfl (st_faddr_box rfl rfl Try.underlying27 rfl Try.sizeOf24 (by decide)) (.run [] [] rfl (st_load_box1 rfl rfl rfl Try.isAgg24 rfl) (.run [800] [] rfl (st_call rfl 800 (X := []) en69 rfl (.val nod) (.cons (.one (.bor (.sl nod))) .nil) (by decide) all_nil .nil (cloneF_con d.safe (by omega)) rfl rfl (nle rfl)) (.run [] [] rfl (st_faddr_box rfl rfl Try.underlying27 rfl Try.sizeOf25 (by decide)) (.run [] [] rfl (st_load_box1 rfl rfl rfl Try.isAgg25 rfl) (.run [1100] [] rfl (st_call rfl 1100 (X := []) en77 rfl (.val nod) (.cons (.one (.bor (.sl nod))) .nil) (by decide) all_nil .nil (cloneD_con d.ops (by omega)) rfl rfl (nle rfl)) (.run [] [] rfl (st_build (pl := [(0, 1), (1, 1), (2, 1)]) rfl Try.underlying27 inf27 (by kernel_rfl) rfl rfl) (.run [] [] rfl (st_store_box rfl rfl rfl rfl rfl Try.sizeOf27 rfl (nle rfl)) .nil))))))))))) (by kernel_rfl) ?_
  refine tr_ret ?_
  exact ends [_] [500, 800, 1100] (.cons (.cell rfl rfl Try.isAgg27 Try.sizeOf27 (nle rfl)) .nil) (.cons (.agg (.cons (.row (len := (pvF d.live).length) (xs := pvF d.live) rfl rfl) (.cons (.row (len := (pvF d.safe).length) (xs := pvF d.safe) rfl rfl) (.cons (.row (len := (pvD d.ops).length) (xs := pvD d.ops) rfl rfl) .nil))) (cl_cons (.sl _ _ (FlatP.clean (pvF_flat _))) (cl_cons (.sl _ _ (FlatP.clean (pvF_flat _))) (cl_cons (.sl _ _ (FlatP.clean (pvD_flat _))) cl_nil)))) .nil) (by decide) trivial
set_option maxRecDepth 1000000 in
set_option maxHeartbeats 2000000 in
theorem do_con (d : Dsk) (op : DOp) (hok : diskOk d = true) (ho : op.data.size ≤ 900000000) : ConS Try.prog 48 [.agg [PV.sl false 2 (pvF d.live), PV.sl false 2 (pvF d.safe), PV.sl false 4 (pvD d.ops)], .agg [PV.v (.int .i64 op.kind), PV.v (.string op.name), PV.v (.string op.dest), PV.v (.string op.data)]] [.agg [.sl false 2 (pvF (actF d op).1.live), .sl false 2 (pvF (actF d op).1.safe), .sl false 4 (pvD (actF d op).1.ops)], .one (.v (.int .i64 (actF d op).2))] := by
  refine con_of_trS Try.func48 rfl rfl rfl rfl ?_
  have hld := pvF_length d.live
  have hsd := pvF_length d.safe
  have hod := pvD_length d.ops
  obtain ⟨hb1, hb2, hb3, hb4, hb5⟩ := ok_db hok
  have hlv := files_fit (ok_live hok)
  refine tr_seq ?_
  refine tr_region rfl (.run [] [2] rfl (st_box rfl 2 rfl rfl (by decide) rfl (by decide)) (.run [] [3] rfl (st_box rfl 3 rfl rfl (by decide) rfl (by decide)) (.run [] [4] rfl (st_allocZ rfl 4 inf27 rfl (by decide) rfl (by decide)) (.run [] [] rfl (st_assign rfl) .nil)))) ?_
  refine tr_seq ?_
  refine tr_seq ?_
  refine tr_region rfl (.run [] [] rfl (st_load_box rfl rfl rfl Try.isAgg36 Try.sizeOf36 (nle rfl)) (.run [900] [] rfl (st_call rfl 900 (X := []) en34 rfl (.val nod) (.cons (.agg (.cons (.bor .v) (.cons (.bor .v) (.cons (.bor .v) (.cons (.bor .v) .nil))))) .nil) (by decide) all_nil .nil (formed_con op) rfl rfl (nle rfl)) (.run [] [] rfl (st_not (b := formF op) rfl rfl) .nil))) ?_
  refine tr_if (t := (!(formF op))) rfl (fun h1 => ?_) (fun h1 => ?_)
  · skip
    replace h1 : (formF op) = false := bnot_t h1
    refine tr_seq ?_
    rw [show actF d op = (d, 2) from act_1 h1]
    refine tr_region rfl (.run [] [] rfl (st_load_box rfl rfl rfl Try.isAgg27 Try.sizeOf27 (nle rfl)) (.run [] [] rfl (st_store_box rfl rfl rfl rfl rfl Try.sizeOf27 rfl (nle rfl)) (.run [] [] rfl (st_assign rfl) .nil))) ?_
    refine tr_ret ?_
    exact endsS [_, _] [] (.cons (.cell rfl rfl Try.isAgg27 Try.sizeOf27 (nle rfl)) (.cons (.tmp rfl) .nil)) (.cons (.agg (.cons (.of .fro) (.cons (.of .fro) (.cons (.of .fro) .nil)))) (.cons (.one (.of .v)) .nil)) (by decide)
  · skip
    replace h1 : (formF op) = true := bnot_f h1
    refine tr_skip ?_
    refine tr_seq ?_
    refine tr_region rfl (.run [] [] rfl (st_faddr_box rfl rfl Try.underlying27 rfl Try.sizeOf24 (by decide)) (.run [] [] rfl (st_load_box1 rfl rfl rfl Try.isAgg24 rfl) (.run [] [] rfl (st_load_box rfl rfl rfl Try.isAgg36 Try.sizeOf36 (nle rfl)) (.run [1600, 1601] [] rfl (st_call rfl 1600 (X := []) en35 rfl (.val nod) (.cons (.one (.bor (.sl nod))) (.cons (.agg (.cons (.bor .v) (.cons (.bor .v) (.cons (.bor .v) (.cons (.bor .v) .nil))))) .nil)) (by decide) all_nil .nil (done_con d.live op (namesOk_srt (files_names (ok_live hok))) (by omega) (by omega) (by omega)) rfl rfl (nle rfl)) (.run [] [] rfl (st_move rfl) (.run [] [] rfl (st_extract rfl rfl rfl) (.run [] [] rfl (st_extract rfl rfl rfl) (.run [] [] rfl (st_assign rfl) (.run [] [] rfl (st_assign rfl) .nil))))))))) ?_
    refine tr_seq ?_
    refine tr_block ?_
    refine tr_seq ?_
    have hfo : filesOk (doneF d.live op).1 = fitF (doneF d.live op).1 := files_done (files_names (ok_live hok)) h1
    have hdl := done_len d.live op
    have hdt := done_tot d.live op
    have hln := pvF_length (doneF d.live op).1
    refine tr_wk (s' := mk [(2, .ptr 2 0), (3, .ptr 3 0), (4, .ptr 4 0), (6, .sl 1600 0 ((pvF ((doneF d.live op).1)).length)), (7, .p none (.v (.bool ((doneF d.live op).2))))] [(2, [.p none (.sl false 2 (pvF d.live)), .p none (.sl false 2 (pvF d.safe)), .p none (.sl false 4 (pvD d.ops))]), (3, [.p none (.v (.int .i64 op.kind)), .p none (.v (.string op.name)), .p none (.v (.string op.dest)), .p none (.v (.string op.data))]), (4, [.nils, .nils, .nils])] [(1600, 2, pvF ((doneF d.live op).1))]) ?_ ?_
    · exact wk_mk ⟨rfl, ⟨rfl, ⟨rfl, ⟨rfl, ⟨rfl, trivial⟩⟩⟩⟩⟩ ⟨rfl, ⟨rfl, ⟨rfl, trivial⟩⟩⟩ ⟨rfl, trivial⟩ rfl
    refine tr_region rfl (.run [] [] rfl (st_move rfl) (.run [] [] rfl (st_not (b := (doneF d.live op).2) rfl rfl) (.run [] [] rfl (st_assign rfl) .nil))) ?_
    refine tr_if (t := (!((doneF d.live op).2))) rfl (fun h2 => ?_) (fun h2 => ?_)
    · skip
      replace h2 : ((doneF d.live op).2) = false := bnot_t h2
      refine tr_seq ?_
      rw [show actF d op = (d, 3) from act_2 h1 h2]
      refine tr_region rfl (.run [] [] rfl (st_load_box rfl rfl rfl Try.isAgg27 Try.sizeOf27 (nle rfl)) (.run [] [] rfl (st_store_box rfl rfl rfl rfl rfl Try.sizeOf27 rfl (nle rfl)) (.run [] [] rfl (st_assign rfl) .nil))) ?_
      refine tr_ret ?_
      exact endsS [_, _] [] (.cons (.cell rfl rfl Try.isAgg27 Try.sizeOf27 (nle rfl)) (.cons (.tmp rfl) .nil)) (.cons (.agg (.cons (.of .fro) (.cons (.of .fro) (.cons (.of .fro) .nil)))) (.cons (.one (.of .v)) .nil)) (by decide)
    · skip
      replace h2 : ((doneF d.live op).2) = true := bnot_f h2
      refine tr_seq ?_
      rcases bfc (decide (((pvD d.ops).length : Int) = 200)) with h3 | h3
      · have h3' := h3
        replace h3' := of_decide_eq_false h3'
        refine tr_region rfl (.run [] [] rfl (st_faddr_box rfl rfl Try.underlying27 rfl Try.sizeOf25 (by decide)) (.run [] [] rfl (st_load_box1 rfl rfl rfl Try.isAgg25 rfl) (.run [] [] rfl (st_len_fro rfl rfl Try.underlying25) (.run [] [] rfl (st_eq (st_eql rfl rfl rfl) (by exact congrArg (fun b => AV.p none (.v (.bool b))) h3)) (.run [] [] rfl (st_move rfl) (.run [] [] rfl (st_move rfl) (.run [1600, 3000] [] rfl (st_call rfl 3000 (X := []) en36 rfl (.val nod) (.cons (.one (.bor (.all (len := (pvF ((doneF d.live op).1)).length) (xs := pvF ((doneF d.live op).1)) rfl rfl (by decide)))) .nil) (by decide) all_nil .nil (fit_con ((doneF d.live op).1) (by omega) (by omega)) rfl rfl (nle rfl)) (.run [] [] rfl (st_not (b := fitF ((doneF d.live op).1)) rfl rfl) (.run [] [] rfl (st_pick (t := false) rfl rfl) (.run [] [] rfl (st_assign rfl) .nil)))))))))) ?_
        refine tr_if (t := (!(fitF ((doneF d.live op).1)))) rfl (fun h4 => ?_) (fun h4 => ?_)
        · skip
          replace h4 : (fitF ((doneF d.live op).1)) = false := bnot_t h4
          refine tr_seq ?_
          rw [show actF d op = (d, 4) from act_3 h1 h2 (.inr (by rw [hfo]; exact h4))]
          refine tr_region rfl (.run [] [] rfl (st_load_box rfl rfl rfl Try.isAgg27 Try.sizeOf27 (nle rfl)) (.run [] [] rfl (st_store_box rfl rfl rfl rfl rfl Try.sizeOf27 rfl (nle rfl)) (.run [] [] rfl (st_assign rfl) .nil))) ?_
          refine tr_ret ?_
          exact endsS [_, _] [] (.cons (.cell rfl rfl Try.isAgg27 Try.sizeOf27 (nle rfl)) (.cons (.tmp rfl) .nil)) (.cons (.agg (.cons (.of .fro) (.cons (.of .fro) (.cons (.of .fro) .nil)))) (.cons (.one (.of .v)) .nil)) (by decide)
        · skip
          replace h4 : (fitF ((doneF d.live op).1)) = true := bnot_f h4
          refine tr_skip ?_
          refine tr_seq ?_
          rw [show actF d op = (⟨(doneF d.live op).1, d.safe, d.ops ++ [op]⟩, 0) from act_4 h1 h2 (by omega) (by rw [hfo]; exact h4)]
          refine tr_wk (s' := mk [(2, .ptr 2 0), (3, .ptr 3 0), (4, .ptr 4 0), (6, .sl 1600 0 ((pvF ((doneF d.live op).1)).length))] [(2, [.p none (.sl false 2 (pvF d.live)), .p none (.sl false 2 (pvF d.safe)), .p none (.sl false 4 (pvD d.ops))]), (3, [.p none (.v (.int .i64 op.kind)), .p none (.v (.string op.name)), .p none (.v (.string op.dest)), .p none (.v (.string op.data))]), (4, [.nils, .nils, .nils])] [(1600, 2, pvF ((doneF d.live op).1))]) ?_ ?_
          · exact wk_mk ⟨rfl, ⟨rfl, ⟨rfl, ⟨rfl, trivial⟩⟩⟩⟩ ⟨rfl, ⟨rfl, ⟨rfl, trivial⟩⟩⟩ ⟨rfl, trivial⟩ rfl
          refine tr_regionD mixed rfl (.run [] [] rfl (st_move rfl) (.run [] [] rfl (st_faddr_box rfl rfl Try.underlying27 rfl Try.sizeOf24 (by decide)) (.run [] [] rfl (st_load_box1 rfl rfl rfl Try.isAgg24 rfl) (.run [] [] rfl (st_faddr_box rfl rfl Try.underlying27 rfl Try.sizeOf25 (by decide)) (.run [] [] rfl (st_load_box1 rfl rfl rfl Try.isAgg25 rfl) (.run [3900] [] rfl (st_call rfl 3900 (X := []) en77 rfl (.val nod) (.cons (.one (.bor (.sl nod))) .nil) (by decide) all_nil .nil (cloneD_con d.ops (by omega)) rfl rfl (nle rfl)) (.run [] [] rfl (st_load_box rfl rfl rfl Try.isAgg36 Try.sizeOf36 (nle rfl)) (.run [4100] [] rfl (st_buildSlice rfl 4100 Try.underlying25 inf36 (nle rfl) (by decide) rfl rfl rfl (.cons .v (.cons .v (.cons .v (.cons .v .nil)))) (by decide) rfl (by decide) rfl (by decide) rfl) (.run [3900] [] rfl (st_append rfl 3900 (ib := 3900) (len := ((pvD d.ops) ++ [[PV.v (.int .i64 op.kind), PV.v (.string op.name), PV.v (.string op.dest), PV.v (.string op.data)]]).length) rfl rfl (.row (len := (pvD d.ops).length) (xs := pvD d.ops) rfl rfl (.inl rfl)) (.give (len := 1) (xs := [[PV.v (.int .i64 op.kind), PV.v (.string op.name), PV.v (.string op.dest), PV.v (.string op.data)]]) rfl rfl) Try.underlying25 (sk Try.underlying25 rfl) inf36 rfl (by decide) (by decide) (by decide) List.length_append (by simp only [maxLen, List.length_append, List.length_map, List.length_cons, List.length_nil, List.length_take, List.length_drop, pvF_length, pvD_length]; omega) (by simp only [maxLen, List.length_append, List.length_map, List.length_cons, List.length_nil, List.length_take, List.length_drop, pvF_length, pvD_length]; omega)) (.run [] [] rfl (st_build (pl := [(0, 1), (1, 1), (2, 1)]) rfl Try.underlying27 inf27 (by kernel_rfl) rfl rfl) (.run [] [] rfl (st_store_box rfl rfl rfl rfl rfl Try.sizeOf27 rfl (nle rfl)) (.run [] [] rfl (st_assign rfl) .nil)))))))))))) (by kernel_rfl) ?_
          have hr5 : (pvD d.ops) ++ [[PV.v (.int .i64 op.kind), PV.v (.string op.name), PV.v (.string op.dest), PV.v (.string op.data)]] = pvD (d.ops ++ [op]) := by exact pvD_snoc d.ops op
          have hp6 : (some [.sl 1600 0 ((pvF ((doneF d.live op).1)).length), .p none (.sl false 2 (pvF d.safe)), .sl 3900 0 (((pvD d.ops) ++ [[PV.v (.int .i64 op.kind), PV.v (.string op.name), PV.v (.string op.dest), PV.v (.string op.data)]]).length)] : Option (List AV)) = some [.sl 1600 0 ((pvF ((doneF d.live op).1)).length), .p none (.sl false 2 (pvF d.safe)), .sl 3900 0 ((pvD (d.ops ++ [op])).length)] := by simp only [hr5]
          refine tr_wk (s' := mk [(4, .ptr 4 0), (5, .p none (.v (.int .i64 0)))] [(4, [.sl 1600 0 ((pvF ((doneF d.live op).1)).length), .p none (.sl false 2 (pvF d.safe)), .sl 3900 0 ((pvD (d.ops ++ [op])).length)])] [(1600, 2, pvF ((doneF d.live op).1)), (3900, 4, pvD (d.ops ++ [op]))]) ?_ ?_
          · exact wk_mk ⟨rfl, ⟨rfl, trivial⟩⟩ ⟨hp6, trivial⟩ ⟨rfl, ⟨(congrArg (fun x => some (4, x)) hr5), trivial⟩⟩ rfl
          refine tr_wk (wk_frz 1600 rfl) ?_
          have hp7 : (some [.p none (.sl false 2 (((pvF ((doneF d.live op).1)).drop 0).take ((pvF ((doneF d.live op).1)).length))), .p none (.sl false 2 (pvF d.safe)), .sl 3900 0 ((pvD (d.ops ++ [op])).length)] : Option (List AV)) = some [.p none (.sl false 2 (pvF ((doneF d.live op).1))), .p none (.sl false 2 (pvF d.safe)), .sl 3900 0 ((pvD (d.ops ++ [op])).length)] := by simp only [frz_all]
          refine tr_wk (s' := mk [(4, .ptr 4 0), (5, .p none (.v (.int .i64 0)))] [(4, [.p none (.sl false 2 (pvF ((doneF d.live op).1))), .p none (.sl false 2 (pvF d.safe)), .sl 3900 0 ((pvD (d.ops ++ [op])).length)])] [(3900, 4, pvD (d.ops ++ [op]))]) ?_ ?_
          · exact wk_mk ⟨rfl, ⟨rfl, trivial⟩⟩ ⟨hp7, trivial⟩ ⟨rfl, trivial⟩ rfl
          refine tr_wk (wk_frz 3900 rfl) ?_
          have hp8 : (some [.p none (.sl false 2 (pvF ((doneF d.live op).1))), .p none (.sl false 2 (pvF d.safe)), .p none (.sl false 4 (((pvD (d.ops ++ [op])).drop 0).take ((pvD (d.ops ++ [op])).length)))] : Option (List AV)) = some [.p none (.sl false 2 (pvF ((doneF d.live op).1))), .p none (.sl false 2 (pvF d.safe)), .p none (.sl false 4 (pvD (d.ops ++ [op])))] := by simp only [frz_all]
          refine tr_wk (s' := mk [(4, .ptr 4 0), (5, .p none (.v (.int .i64 0)))] [(4, [.p none (.sl false 2 (pvF ((doneF d.live op).1))), .p none (.sl false 2 (pvF d.safe)), .p none (.sl false 4 (pvD (d.ops ++ [op])))])] []) ?_ ?_
          · exact wk_mk ⟨rfl, ⟨rfl, trivial⟩⟩ ⟨hp8, trivial⟩ trivial rfl
          refine tr_ret ?_
          exact endsS [_, _] [] (.cons (.cell rfl rfl Try.isAgg27 Try.sizeOf27 (nle rfl)) (.cons (.tmp rfl) .nil)) (.cons (.agg (.cons (.of .fro) (.cons (.of .fro) (.cons (.of .fro) .nil)))) (.cons (.one (.of .v)) .nil)) (by decide)
      · have h3' := h3
        replace h3' := of_decide_eq_true h3'
        refine tr_region rfl (.run [] [] rfl (st_faddr_box rfl rfl Try.underlying27 rfl Try.sizeOf25 (by decide)) (.run [] [] rfl (st_load_box1 rfl rfl rfl Try.isAgg25 rfl) (.run [] [] rfl (st_len_fro rfl rfl Try.underlying25) (.run [] [] rfl (st_eq (st_eql rfl rfl rfl) (by exact congrArg (fun b => AV.p none (.v (.bool b))) h3)) (.run [] [] rfl (st_move rfl) (.not rfl (.not rfl (.not rfl (.run [] [] rfl (st_pick (t := true) rfl rfl) (.run [] [] rfl (st_assign rfl) .nil)))))))))) ?_
        refine tr_if (t := true) rfl (fun _ => ?_) (fun h => nomatch h)
        refine tr_seq ?_
        rw [show actF d op = (d, 4) from act_3 h1 h2 (.inl (by omega))]
        refine tr_region rfl (.run [] [] rfl (st_load_box rfl rfl rfl Try.isAgg27 Try.sizeOf27 (nle rfl)) (.run [] [] rfl (st_store_box rfl rfl rfl rfl rfl Try.sizeOf27 rfl (nle rfl)) (.run [] [] rfl (st_assign rfl) .nil))) ?_
        refine tr_ret ?_
        exact endsS [_, _] [] (.cons (.cell rfl rfl Try.isAgg27 Try.sizeOf27 (nle rfl)) (.cons (.tmp rfl) .nil)) (.cons (.agg (.cons (.of .fro) (.cons (.of .fro) (.cons (.of .fro) .nil)))) (.cons (.one (.of .v)) .nil)) (by decide)
set_option maxRecDepth 1000000 in
set_option maxHeartbeats 2000000 in
theorem implDo_con (d : Dsk) (op : DOp) (hd : DB 900000000 d) (hop : ∀ op ∈ d.ops, op.data.size ≤ 900000000) (ho : op.data.size ≤ 200000000) : Con Try.prog 17 [.agg [PV.sl false 2 (pvF d.live), PV.sl false 2 (pvF d.safe), PV.sl false 4 (pvD d.ops)], .agg [PV.v (.int .i64 op.kind), PV.v (.string op.name), PV.v (.string op.dest), PV.v (.string op.data)]] [] [.agg [.sl true 2 (pvF (doF d op).1.live), .sl true 2 (pvF (doF d op).1.safe), .sl true 4 (pvD (doF d op).1.ops)], .one (.v (.int .i64 (doF d op).2))] := by
  refine con_of_tr Try.func17 rfl rfl rfl rfl ?_
  have hld := pvF_length d.live
  have hsd := pvF_length d.safe
  have hod := pvD_length d.ops
  refine tr_seq ?_
  refine tr_region rfl (.run [] [2] rfl (st_box rfl 2 rfl rfl (by decide) rfl (by decide)) (.run [] [3] rfl (st_box rfl 3 rfl rfl (by decide) rfl (by decide)) (.run [] [4] rfl (st_allocZ rfl 4 inf27 rfl (by decide) rfl (by decide)) (.run [] [] rfl (st_assign rfl) .nil)))) ?_
  refine tr_seq ?_
  refine tr_seq ?_
  refine tr_region rfl (.run [] [] rfl (st_load_box rfl rfl rfl Try.isAgg27 Try.sizeOf27 (nle rfl)) (.run [900] [] rfl (st_call rfl 900 (X := []) en11 rfl (.val nod) (.cons (.agg (.cons (.bor (.sl nod)) (.cons (.bor (.sl nod)) (.cons (.bor (.sl nod)) .nil)))) .nil) (by decide) all_nil .nil (diskOk_con d (by assumption) (by assumption)) rfl rfl (nle rfl)) (.run [] [] rfl (st_not (b := diskOk d) rfl rfl) .nil))) ?_
  refine tr_if (t := (!(diskOk d))) rfl (fun h1 => ?_) (fun h1 => ?_)
  · skip
    replace h1 : (diskOk d) = false := bnot_t h1
    refine tr_seq ?_
    rw [show doF d op = (dskZ, 1) by simp [doF, h1]]
    refine tr_region rfl (.run [] [] rfl (st_build (pl := [(0, 1), (1, 1), (2, 1)]) rfl Try.underlying27 inf27 (by kernel_rfl) rfl rfl) (.run [] [] rfl (st_store_box rfl rfl rfl rfl rfl Try.sizeOf27 rfl (nle rfl)) (.run [] [] rfl (st_assign rfl) .nil))) ?_
    refine tr_ret ?_
    exact ends [_, _] [] (.cons (.cell rfl rfl Try.isAgg27 Try.sizeOf27 (nle rfl)) (.cons (.tmp rfl) .nil)) (.cons (.agg (.cons (.nil _) (.cons (.nil _) (.cons (.nil _) .nil))) (cl_cons (.sl _ _ (fun _ h => nomatch h)) (cl_cons (.sl _ _ (fun _ h => nomatch h)) (cl_cons (.sl _ _ (fun _ h => nomatch h)) cl_nil)))) (.cons (.one .v (.v _)) .nil)) (by decide) trivial
  · skip
    replace h1 : (diskOk d) = true := bnot_f h1
    refine tr_skip ?_
    refine tr_seq ?_
    rw [show doF d op = actF d op by rw [doF, if_pos h1]]
    have hda : DB 900000000 (actF d op).1 := (act_db (m := 200000000) ((ok_db h1).up (by decide)) ho (by decide)).up (by decide)
    refine tr_region rfl (.run [] [] rfl (st_load_box rfl rfl rfl Try.isAgg27 Try.sizeOf27 (nle rfl)) (.run [] [] rfl (st_load_box rfl rfl rfl Try.isAgg36 Try.sizeOf36 (nle rfl)) (.run [1500, 1501, 1502, 1503] [] rfl (st_callS rfl 1500 (X := []) en48 rfl (.cons (.agg (.cons .sl (.cons .sl (.cons .sl .nil)))) (.cons (.agg (.cons .v (.cons .v (.cons .v (.cons .v .nil))))) .nil)) (by decide) all_nil (do_con d op h1 (Nat.le_trans ho (by decide))) rfl (nle rfl)) (.run [] [] rfl (st_move rfl) (.run [] [] rfl (st_extract rfl rfl rfl) (.run [] [] rfl (st_extract rfl rfl rfl) (.run [] [6] rfl (st_allocZ rfl 6 inf27 rfl (by decide) rfl (by decide)) (.run [] [] rfl (st_store_box rfl rfl rfl rfl rfl Try.sizeOf27 rfl (nle rfl)) (.run [] [] rfl (st_assign rfl) .nil))))))))) ?_
    refine tr_seq ?_
    refine tr_wk (s' := mk [(4, .ptr 4 0), (6, .ptr 6 0), (7, .p none (.v (.int .i64 ((actF d op).2))))] [(4, [.nils, .nils, .nils]), (6, [.p none (.sl false 2 (pvF (actF d op).1.live)), .p none (.sl false 2 (pvF (actF d op).1.safe)), .p none (.sl false 4 (pvD (actF d op).1.ops))])] []) ?_ ?_
    · exact wk_mk ⟨rfl, ⟨rfl, ⟨rfl, trivial⟩⟩⟩ ⟨rfl, ⟨rfl, trivial⟩⟩ trivial rfl
    refine tr_region rfl (.run [] [] rfl (st_load_box rfl rfl rfl Try.isAgg27 Try.sizeOf27 (nle rfl)) (.run [1900, 1901, 1902] [] rfl (st_call rfl 1900 (X := []) en44 rfl (.val nod) (.cons (.agg (.cons (.bor (.sl nod)) (.cons (.bor (.sl nod)) (.cons (.bor (.sl nod)) .nil)))) .nil) (by decide) all_nil .nil (copied_con ((actF d op).1) (by assumption)) rfl rfl (nle rfl)) (.run [] [] rfl (st_move rfl) (.run [] [] rfl (st_store_box rfl rfl rfl rfl rfl Try.sizeOf27 rfl (nle rfl)) (.run [] [] rfl (st_assign rfl) .nil))))) ?_
    refine tr_ret ?_
    exact ends [_, _] [1900, 1901, 1902] (.cons (.cell rfl rfl Try.isAgg27 Try.sizeOf27 (nle rfl)) (.cons (.tmp rfl) .nil)) (.cons (.agg (.cons (.row (len := (pvF (((actF d op).1).live)).length) (xs := pvF (((actF d op).1).live)) rfl rfl) (.cons (.row (len := (pvF (((actF d op).1).safe)).length) (xs := pvF (((actF d op).1).safe)) rfl rfl) (.cons (.row (len := (pvD (((actF d op).1).ops)).length) (xs := pvD (((actF d op).1).ops)) rfl rfl) .nil))) (cl_cons (.sl _ _ (FlatP.clean (pvF_flat _))) (cl_cons (.sl _ _ (FlatP.clean (pvF_flat _))) (cl_cons (.sl _ _ (FlatP.clean (pvD_flat _))) cl_nil)))) (.cons (.one .v (.v _)) .nil)) (by decide) trivial
set_option maxRecDepth 1000000 in
set_option maxHeartbeats 2000000 in
theorem sync_con (d : Dsk) (hd : DB 900000000 d) : ConS Try.prog 43 [.agg [PV.sl false 2 (pvF d.live), PV.sl false 2 (pvF d.safe), PV.sl false 4 (pvD d.ops)]] [.agg [.sl false 2 (pvF (⟨d.live, d.live, []⟩ : Dsk).live), .sl false 2 (pvF (⟨d.live, d.live, []⟩ : Dsk).safe), .sl false 4 (pvD (⟨d.live, d.live, []⟩ : Dsk).ops)]] := by
  refine con_of_trS Try.func43 rfl rfl rfl rfl ?_
  have hld := pvF_length d.live
  have hsd := pvF_length d.safe
  have hod := pvD_length d.ops
  obtain ⟨hb1, hb2, hb3, hb4, hb5⟩ := id hd
  refine tr_seq ?_
  refine tr_region rfl (.run [] [1] rfl (st_box rfl 1 rfl rfl (by decide) rfl (by decide)) (.run [] [2] rfl (st_allocZ rfl 2 inf27 rfl (by decide) rfl (by decide)) .nil)) ?_
  refine tr_seq ?_
  refine tr_regionD mixed rfl (.run [] [] rfl (st_faddr_box rfl rfl Try.underlying27 rfl Try.sizeOf24 (by decide)) (.run [] [] rfl (st_load_box1 rfl rfl rfl Try.isAgg24 rfl) (.run [] [] rfl (st_faddr_box rfl rfl Try.underlying27 rfl Try.sizeOf24 (by decide)) (.run [] [] rfl (st_load_box1 rfl rfl rfl Try.isAgg24 rfl) (.run [700] [] rfl (st_call rfl 700 (X := []) en69 rfl (.val nod) (.cons (.one (.bor (.sl nod))) .nil) (by decide) all_nil .nil (cloneF_con d.live (by omega)) rfl rfl (nle rfl)) (.run [] [] rfl (st_build (pl := [(0, 1), (1, 1), (2, 1)]) rfl Try.underlying27 inf27 (by kernel_rfl) rfl rfl) (.run [] [] rfl (st_store_box rfl rfl rfl rfl rfl Try.sizeOf27 rfl (nle rfl)) .nil))))))) (by kernel_rfl) ?_
  refine tr_wk (wk_frz 700 rfl) ?_
  have hp1 : (some [.p none (.sl false 2 (pvF d.live)), .p none (.sl false 2 (((pvF d.live).drop 0).take ((pvF d.live).length))), .nils] : Option (List AV)) = some [.p none (.sl false 2 (pvF d.live)), .p none (.sl false 2 (pvF d.live)), .nils] := by simp only [frz_all]
  refine tr_wk (s' := mk [(2, .ptr 2 0)] [(2, [.p none (.sl false 2 (pvF d.live)), .p none (.sl false 2 (pvF d.live)), .nils])] []) ?_ ?_
  · exact wk_mk ⟨rfl, trivial⟩ ⟨hp1, trivial⟩ trivial rfl
  refine tr_ret ?_
  exact endsS [_] [] (.cons (.cell rfl rfl Try.isAgg27 Try.sizeOf27 (nle rfl)) .nil) (.cons (.agg (.cons (.of .fro) (.cons (.of .fro) (.cons (.nilf _) .nil)))) .nil) (by decide)
set_option maxRecDepth 1000000 in
set_option maxHeartbeats 2000000 in
theorem implSync_con (d : Dsk) (hd : DB 900000000 d) (hop : ∀ op ∈ d.ops, op.data.size ≤ 900000000) : Con Try.prog 14 [.agg [PV.sl false 2 (pvF d.live), PV.sl false 2 (pvF d.safe), PV.sl false 4 (pvD d.ops)]] [] [.agg [.sl true 2 (pvF (syncF d).live), .sl true 2 (pvF (syncF d).safe), .sl true 4 (pvD (syncF d).ops)]] := by
  refine con_of_tr Try.func14 rfl rfl rfl rfl ?_
  have hld := pvF_length d.live
  have hsd := pvF_length d.safe
  have hod := pvD_length d.ops
  obtain ⟨hb1, hb2, hb3, hb4, hb5⟩ := id hd
  refine tr_seq ?_
  refine tr_region rfl (.run [] [1] rfl (st_box rfl 1 rfl rfl (by decide) rfl (by decide)) (.run [] [2] rfl (st_allocZ rfl 2 inf27 rfl (by decide) rfl (by decide)) .nil)) ?_
  refine tr_seq ?_
  refine tr_seq ?_
  refine tr_region rfl (.run [] [] rfl (st_load_box rfl rfl rfl Try.isAgg27 Try.sizeOf27 (nle rfl)) (.run [400] [] rfl (st_call rfl 400 (X := []) en11 rfl (.val nod) (.cons (.agg (.cons (.bor (.sl nod)) (.cons (.bor (.sl nod)) (.cons (.bor (.sl nod)) .nil)))) .nil) (by decide) all_nil .nil (diskOk_con d (by assumption) (by assumption)) rfl rfl (nle rfl)) (.run [] [] rfl (st_not (b := diskOk d) rfl rfl) .nil))) ?_
  refine tr_if (t := (!(diskOk d))) rfl (fun h1 => ?_) (fun h1 => ?_)
  · skip
    replace h1 : (diskOk d) = false := bnot_t h1
    refine tr_seq ?_
    rw [show syncF d = dskZ by simp [syncF, h1]]
    refine tr_region rfl (.run [] [] rfl (st_build (pl := [(0, 1), (1, 1), (2, 1)]) rfl Try.underlying27 inf27 (by kernel_rfl) rfl rfl) (.run [] [] rfl (st_store_box rfl rfl rfl rfl rfl Try.sizeOf27 rfl (nle rfl)) .nil)) ?_
    refine tr_ret ?_
    exact ends [_] [] (.cons (.cell rfl rfl Try.isAgg27 Try.sizeOf27 (nle rfl)) .nil) (.cons (.agg (.cons (.nil _) (.cons (.nil _) (.cons (.nil _) .nil))) (cl_cons (.sl _ _ (fun _ h => nomatch h)) (cl_cons (.sl _ _ (fun _ h => nomatch h)) (cl_cons (.sl _ _ (fun _ h => nomatch h)) cl_nil)))) .nil) (by decide) trivial
  · skip
    replace h1 : (diskOk d) = true := bnot_f h1
    refine tr_skip ?_
    refine tr_seq ?_
    rw [show syncF d = ⟨d.live, d.live, []⟩ by rw [syncF, if_pos h1]]
    have hds : DB 900000000 (⟨d.live, d.live, []⟩ : Dsk) := ⟨hb1, hb1, Nat.zero_le _, hb4, hb4⟩
    refine tr_region rfl (.run [] [] rfl (st_load_box rfl rfl rfl Try.isAgg27 Try.sizeOf27 (nle rfl)) (.run [800, 801, 802] [] rfl (st_callS rfl 800 (X := []) en43 rfl (.cons (.agg (.cons .sl (.cons .sl (.cons .sl .nil)))) .nil) (by decide) all_nil (sync_con d (by assumption)) rfl (nle rfl)) (.run [900, 901, 902] [] rfl (st_call rfl 900 (X := []) en44 rfl (.val nod) (.cons (.agg (.cons (.bor (.sl nod)) (.cons (.bor (.sl nod)) (.cons (.bor (.sl nod)) .nil)))) .nil) (by decide) all_nil .nil (copied_con (⟨d.live, d.live, []⟩ : Dsk) (by assumption)) rfl rfl (nle rfl)) (.run [] [] rfl (st_store_box rfl rfl rfl rfl rfl Try.sizeOf27 rfl (nle rfl)) .nil)))) ?_
    refine tr_ret ?_
    exact ends [_] [900, 901, 902] (.cons (.cell rfl rfl Try.isAgg27 Try.sizeOf27 (nle rfl)) .nil) (.cons (.agg (.cons (.row (len := (pvF ((⟨d.live, d.live, []⟩ : Dsk).live)).length) (xs := pvF ((⟨d.live, d.live, []⟩ : Dsk).live)) rfl rfl) (.cons (.row (len := (pvF ((⟨d.live, d.live, []⟩ : Dsk).safe)).length) (xs := pvF ((⟨d.live, d.live, []⟩ : Dsk).safe)) rfl rfl) (.cons (.row (len := (pvD ((⟨d.live, d.live, []⟩ : Dsk).ops)).length) (xs := pvD ((⟨d.live, d.live, []⟩ : Dsk).ops)) rfl rfl) .nil))) (cl_cons (.sl _ _ (FlatP.clean (pvF_flat _))) (cl_cons (.sl _ _ (FlatP.clean (pvF_flat _))) (cl_cons (.sl _ _ (FlatP.clean (pvD_flat _))) cl_nil)))) .nil) (by decide) trivial
set_option maxRecDepth 1000000 in
set_option maxHeartbeats 2000000 in
theorem read_con (d : Dsk) (n : ByteArray) (hok : diskOk d = true) : Con Try.prog 50 [.agg [PV.sl false 2 (pvF d.live), PV.sl false 2 (pvF d.safe), PV.sl false 4 (pvD d.ops)], .one (PV.v (.string n))] [] [.one (.v (.string (readF d n).1)), .one (.v (.bool (readF d n).2))] := by
  refine con_of_tr Try.func50 rfl rfl rfl rfl ?_
  have hld := pvF_length d.live
  have hsd := pvF_length d.safe
  have hod := pvD_length d.ops
  obtain ⟨hb1, hb2, hb3, hb4, hb5⟩ := ok_db hok
  have hlv := files_fit (ok_live hok)
  refine tr_seq ?_
  refine tr_region rfl (.run [] [2] rfl (st_box rfl 2 rfl rfl (by decide) rfl (by decide)) (.run [] [] rfl (st_assign rfl) (.run [] [] rfl (st_assign rfl) .nil))) ?_
  refine tr_seq ?_
  obtain ⟨k, hk⟩ : ∃ k, k = posF d.live n := ⟨_, rfl⟩
  refine tr_region rfl (.run [] [] rfl (st_faddr_box rfl rfl Try.underlying27 rfl Try.sizeOf24 (by decide)) (.run [] [] rfl (st_load_box1 rfl rfl rfl Try.isAgg24 rfl) (.run [] [] rfl (st_move rfl) (.run [1200, 1201] [] rfl (st_call rfl 1200 (X := []) en70 rfl (.val nod) (.cons (.one (.bor (.sl nod))) (.cons (.one (.bor .v)) .nil)) (by decide) all_nil .nil (find_con d.live n k hk (namesOk_srt (files_names (ok_live hok))) (by omega)) rfl rfl (nle rfl)) (.run [] [] rfl (st_move rfl) (.run [] [] rfl (st_extract rfl rfl rfl) (.run [] [] rfl (st_extract rfl rfl rfl) (.run [] [] rfl (st_assign rfl) (.run [] [] rfl (st_assign rfl) .nil))))))))) ?_
  refine tr_seq ?_
  refine tr_seq ?_
  refine tr_region rfl (.run [] [] rfl (st_move rfl) (.run [] [] rfl (st_not (b := hasF d.live n) rfl rfl) .nil)) ?_
  refine tr_if (t := (!(hasF d.live n))) rfl (fun h1 => ?_) (fun h1 => ?_)
  · skip
    replace h1 : (hasF d.live n) = false := bnot_t h1
    refine tr_seq ?_
    rw [show readF d n = (⟨#[]⟩, false) by simp [readF, hok, h1]]
    refine tr_region rfl (.run [] [] rfl (st_assign rfl) (.run [] [] rfl (st_assign rfl) .nil)) ?_
    refine tr_ret ?_
    exact ends [_, _] [] (.cons (.tmp rfl) (.cons (.tmp rfl) .nil)) (.cons (.one .v (.v _)) (.cons (.one .v (.v _)) .nil)) (by decide) trivial
  · skip
    replace h1 : (hasF d.live n) = true := bnot_f h1
    refine tr_skip ?_
    refine tr_seq ?_
    obtain ⟨e, he0, hen, hed⟩ := has_at (namesOk_srt (files_names (ok_live hok))) h1
    have he : d.live[k]? = some e := by rw [hk]; exact he0
    have hkl2 := (List.getElem?_eq_some_iff.1 he).1
    rw [show readF d n = (e.data, true) by simp [readF, hok, h1, hed]]
    refine tr_wk (s' := mk [(2, .ptr 2 0), (6, .p none (.v (.int .i64 (k:Int))))] [(2, [.p none (.sl false 2 (pvF d.live)), .p none (.sl false 2 (pvF d.safe)), .p none (.sl false 4 (pvD d.ops))])] []) ?_ ?_
    · exact wk_mk ⟨rfl, ⟨rfl, trivial⟩⟩ ⟨rfl, trivial⟩ trivial rfl
    refine tr_region rfl (.run [] [] rfl (st_faddr_box rfl rfl Try.underlying27 rfl Try.sizeOf24 (by decide)) (.run [] [] rfl (st_load_box1 rfl rfl rfl Try.isAgg24 rfl) (.run [] [] rfl (st_move rfl) (.run [] [] rfl (st_idx_fro rfl rfl rfl Try.underlying24 Try.sizeOf69 rfl (by omega) (pvF_get he)) (.run [] [] rfl (st_faddr_fea rfl rfl Try.underlying69 rfl Try.sizeOf9 (by decide)) (.run [] [] rfl (st_load_fea1 rfl rfl Try.isAgg9 rfl) (.run [] [] rfl (st_assign rfl) (.run [] [] rfl (st_assign rfl) .nil)))))))) ?_
    refine tr_ret ?_
    exact ends [_, _] [] (.cons (.tmp rfl) (.cons (.tmp rfl) .nil)) (.cons (.one .v (.v _)) (.cons (.one .v (.v _)) .nil)) (by decide) trivial
set_option maxRecDepth 1000000 in
set_option maxHeartbeats 2000000 in
theorem readFile_con (d : Dsk) (n : ByteArray) (hd : DB 900000000 d) (hop : ∀ op ∈ d.ops, op.data.size ≤ 900000000) : Con Try.prog 19 [.agg [PV.sl false 2 (pvF d.live), PV.sl false 2 (pvF d.safe), PV.sl false 4 (pvD d.ops)], .one (PV.v (.string n))] [] [.one (.v (.string (readF d n).1)), .one (.v (.bool (readF d n).2))] := by
  refine con_of_tr Try.func19 rfl rfl rfl rfl ?_
  have hld := pvF_length d.live
  have hsd := pvF_length d.safe
  have hod := pvD_length d.ops
  refine tr_seq ?_
  refine tr_region rfl (.run [] [2] rfl (st_box rfl 2 rfl rfl (by decide) rfl (by decide)) (.run [] [] rfl (st_assign rfl) (.run [] [] rfl (st_assign rfl) .nil))) ?_
  refine tr_seq ?_
  refine tr_seq ?_
  refine tr_region rfl (.run [] [] rfl (st_load_box rfl rfl rfl Try.isAgg27 Try.sizeOf27 (nle rfl)) (.run [700] [] rfl (st_call rfl 700 (X := []) en11 rfl (.val nod) (.cons (.agg (.cons (.bor (.sl nod)) (.cons (.bor (.sl nod)) (.cons (.bor (.sl nod)) .nil)))) .nil) (by decide) all_nil .nil (diskOk_con d (by assumption) (by assumption)) rfl rfl (nle rfl)) (.run [] [] rfl (st_not (b := diskOk d) rfl rfl) .nil))) ?_
  refine tr_if (t := (!(diskOk d))) rfl (fun h1 => ?_) (fun h1 => ?_)
  · skip
    replace h1 : (diskOk d) = false := bnot_t h1
    refine tr_seq ?_
    rw [show readF d n = (⟨#[]⟩, false) by simp [readF, h1]]
    refine tr_region rfl (.run [] [] rfl (st_assign rfl) (.run [] [] rfl (st_assign rfl) .nil)) ?_
    refine tr_ret ?_
    exact ends [_, _] [] (.cons (.tmp rfl) (.cons (.tmp rfl) .nil)) (.cons (.one .v (.v _)) (.cons (.one .v (.v _)) .nil)) (by decide) trivial
  · skip
    replace h1 : (diskOk d) = true := bnot_f h1
    refine tr_skip ?_
    refine tr_seq ?_
    refine tr_region rfl (.run [] [] rfl (st_load_box rfl rfl rfl Try.isAgg27 Try.sizeOf27 (nle rfl)) (.run [] [] rfl (st_move rfl) (.run [1100, 1101] [] rfl (st_call rfl 1100 (X := []) en50 rfl (.val nod) (.cons (.agg (.cons (.bor (.sl nod)) (.cons (.bor (.sl nod)) (.cons (.bor (.sl nod)) .nil)))) (.cons (.one (.bor .v)) .nil)) (by decide) all_nil .nil (read_con d n h1) rfl rfl (nle rfl)) (.run [] [] rfl (st_extract rfl rfl rfl) (.run [] [] rfl (st_extract rfl rfl rfl) (.run [] [] rfl (st_assign rfl) (.run [] [] rfl (st_assign rfl) .nil))))))) ?_
    refine tr_ret ?_
    exact ends [_, _] [] (.cons (.tmp rfl) (.cons (.tmp rfl) .nil)) (.cons (.one .v (.v _)) (.cons (.one .v (.v _)) .nil)) (by decide) trivial
set_option maxRecDepth 1000000 in
set_option maxHeartbeats 2000000 in
theorem implReplace_con (d : Dsk) (name data : ByteArray) (hd : DB 900000000 d) (hop : ∀ op ∈ d.ops, op.data.size ≤ 900000000) (hnm : name.size ≤ 1048576) (hda : data.size ≤ 1048576) : Con Try.prog 21 [.agg [PV.sl false 2 (pvF d.live), PV.sl false 2 (pvF d.safe), PV.sl false 4 (pvD d.ops)], .one (PV.v (.string name)), .one (PV.v (.string data))] [] [.agg [.sl true 2 (pvF (replaceF d name data).1.live), .sl true 2 (pvF (replaceF d name data).1.safe), .sl true 4 (pvD (replaceF d name data).1.ops)], .one (.v (.int .i64 (replaceF d name data).2))] := by
  refine con_of_tr Try.func21 rfl rfl rfl rfl ?_
  have hld := pvF_length d.live
  have hsd := pvF_length d.safe
  have hod := pvD_length d.ops
  obtain ⟨hb1, hb2, hb3, hb4, hb5⟩ := id hd
  refine tr_seq ?_
  refine tr_region rfl (.run [] [3] rfl (st_box rfl 3 rfl rfl (by decide) rfl (by decide)) (.run [] [6] rfl (st_allocZ rfl 6 inf27 rfl (by decide) rfl (by decide)) (.run [] [] rfl (st_assign rfl) .nil))) ?_
  refine tr_seq ?_
  refine tr_seq ?_
  refine tr_region rfl (.run [] [] rfl (st_load_box rfl rfl rfl Try.isAgg27 Try.sizeOf27 (nle rfl)) (.run [1800] [] rfl (st_call rfl 1800 (X := []) en11 rfl (.val nod) (.cons (.agg (.cons (.bor (.sl nod)) (.cons (.bor (.sl nod)) (.cons (.bor (.sl nod)) .nil)))) .nil) (by decide) all_nil .nil (diskOk_con d (by assumption) (by assumption)) rfl rfl (nle rfl)) (.run [] [] rfl (st_not (b := diskOk d) rfl rfl) .nil))) ?_
  refine tr_if (t := (!(diskOk d))) rfl (fun h1 => ?_) (fun h1 => ?_)
  · skip
    replace h1 : (diskOk d) = false := bnot_t h1
    refine tr_seq ?_
    rw [show replaceF d name data = (dskZ, 1) by simp [replaceF, h1]]
    refine tr_region rfl (.run [] [] rfl (st_build (pl := [(0, 1), (1, 1), (2, 1)]) rfl Try.underlying27 inf27 (by kernel_rfl) rfl rfl) (.run [] [] rfl (st_store_box rfl rfl rfl rfl rfl Try.sizeOf27 rfl (nle rfl)) (.run [] [] rfl (st_assign rfl) .nil))) ?_
    refine tr_ret ?_
    exact ends [_, _] [] (.cons (.cell rfl rfl Try.isAgg27 Try.sizeOf27 (nle rfl)) (.cons (.tmp rfl) .nil)) (.cons (.agg (.cons (.nil _) (.cons (.nil _) (.cons (.nil _) .nil))) (cl_cons (.sl _ _ (fun _ h => nomatch h)) (cl_cons (.sl _ _ (fun _ h => nomatch h)) (cl_cons (.sl _ _ (fun _ h => nomatch h)) cl_nil)))) (.cons (.one .v (.v _)) .nil)) (by decide) trivial
  · skip
    replace h1 : (diskOk d) = true := bnot_f h1
    refine tr_skip ?_
    refine tr_seq ?_
    refine tr_region rfl (.run [] [] rfl (st_move rfl) (.run [] [] rfl (st_eq (st_sadd rfl rfl rfl (by have hz : (⟨#[46, 110, 101, 119]⟩ : ByteArray).size = 4 := rfl; omega)) (rfl)) (.run [] [] rfl (st_assign rfl) .nil))) ?_
    refine tr_seq ?_
    refine tr_wk (s' := mk [(1, .p none (.v (.string name))), (2, .p none (.v (.string data))), (3, .ptr 3 0), (6, .ptr 6 0), (8, .p none (.v (.string (name ++ newB))))] [(3, [.p none (.sl false 2 (pvF d.live)), .p none (.sl false 2 (pvF d.safe)), .p none (.sl false 4 (pvD d.ops))]), (6, [.nils, .nils, .nils])] []) ?_ ?_
    · exact wk_mk ⟨rfl, ⟨rfl, ⟨rfl, ⟨rfl, ⟨rfl, trivial⟩⟩⟩⟩⟩ ⟨rfl, ⟨rfl, trivial⟩⟩ trivial rfl
    refine tr_region rfl (.run [] [] rfl (st_move rfl) (.run [] [] rfl (st_move rfl) (.run [] [] rfl (st_build (pl := [(0, 1), (1, 1), (2, 1), (3, 1)]) rfl Try.underlying36 inf36 (by kernel_rfl) rfl rfl) (.run [] [] rfl (st_move rfl) (.run [] [] rfl (st_move rfl) (.run [] [] rfl (st_build (pl := [(0, 1), (1, 1), (2, 1), (3, 1)]) rfl Try.underlying36 inf36 (by kernel_rfl) rfl rfl) (.run [2900] [] rfl (st_buildSlice (cs := [.p none (.v (.int .i64 1)), .p none (.v (.string (name ++ newB))), .p none (.v (.string ⟨#[]⟩)), .p none (.v (.string data)), .p none (.v (.int .i64 2)), .p none (.v (.string (name ++ newB))), .p none (.v (.string name)), .p none (.v (.string ⟨#[]⟩))]) (ps := [PV.v (.int .i64 1), PV.v (.string (name ++ newB)), PV.v (.string ⟨#[]⟩), PV.v (.string data), PV.v (.int .i64 2), PV.v (.string (name ++ newB)), PV.v (.string name), PV.v (.string ⟨#[]⟩)]) (xs := [[PV.v (.int .i64 1), PV.v (.string (name ++ newB)), PV.v (.string ⟨#[]⟩), PV.v (.string data)], [PV.v (.int .i64 2), PV.v (.string (name ++ newB)), PV.v (.string name), PV.v (.string ⟨#[]⟩)]]) rfl 2900 Try.underlying25 inf36 (nle rfl) (by decide) rfl rfl (by kernel_rfl) (.cons .v (.cons .v (.cons .v (.cons .v (.cons .v (.cons .v (.cons .v (.cons .v .nil)))))))) (by decide) (by kernel_rfl) (by decide) rfl (by decide) rfl) (.run [] [] rfl (st_assign rfl) .nil)))))))) ?_
    have hr2 : [[PV.v (.int .i64 1), PV.v (.string (name ++ newB)), PV.v (.string ⟨#[]⟩), PV.v (.string data)], [PV.v (.int .i64 2), PV.v (.string (name ++ newB)), PV.v (.string name), PV.v (.string ⟨#[]⟩)]] = pvD [opAp (name ++ newB) data, opMv (name ++ newB) name] := by rfl
    have hl3 : 2 = (pvD [opAp (name ++ newB) data, opMv (name ++ newB) name]).length := by first | (rw [← hr2, List.length_set]; done) | simp [pvD_length]
    have hp4 : (.sl 2900 0 2 : AV) = .sl 2900 0 ((pvD [opAp (name ++ newB) data, opMv (name ++ newB) name]).length) := by simp only [hr2, hl3]
    refine tr_wk (s' := mk [(3, .ptr 3 0), (6, .ptr 6 0), (8, .p none (.v (.string (name ++ newB)))), (9, .sl 2900 0 ((pvD [opAp (name ++ newB) data, opMv (name ++ newB) name]).length))] [(3, [.p none (.sl false 2 (pvF d.live)), .p none (.sl false 2 (pvF d.safe)), .p none (.sl false 4 (pvD d.ops))]), (6, [.nils, .nils, .nils])] [(2900, 4, pvD [opAp (name ++ newB) data, opMv (name ++ newB) name])]) ?_ ?_
    · exact wk_mk ⟨rfl, ⟨rfl, ⟨rfl, ⟨hp4, trivial⟩⟩⟩⟩ ⟨rfl, ⟨rfl, trivial⟩⟩ ⟨(congrArg (fun x => some (4, x)) hr2), trivial⟩ rfl
    refine tr_seq ?_
    refine tr_seq ?_
    refine tr_region rfl (.run [] [] rfl (st_load_box rfl rfl rfl Try.isAgg27 Try.sizeOf27 (nle rfl)) (.run [] [] rfl (st_move rfl) (.run [3300, 3301] [] rfl (st_call rfl 3300 (X := []) en50 rfl (.val nod) (.cons (.agg (.cons (.bor (.sl nod)) (.cons (.bor (.sl nod)) (.cons (.bor (.sl nod)) .nil)))) (.cons (.one (.bor .v)) .nil)) (by decide) all_nil .nil (read_con d (name ++ newB) h1) rfl rfl (nle rfl)) (.run [] [] rfl (st_move rfl) (.run [] [] rfl (st_extract rfl rfl rfl) (.run [] [] rfl (st_extract rfl rfl rfl) (.run [] [] rfl (st_assign rfl) (.run [] [] rfl (st_assign rfl) .nil)))))))) ?_
    refine tr_seq ?_
    refine tr_region rfl (.run [] [] rfl (st_move rfl) .nil) ?_
    refine tr_if (t := (readF d (name ++ newB)).2) rfl (fun h5 => ?_) (fun h5 => ?_)
    · skip
      refine tr_region rfl (.run [] [] rfl (st_move rfl) (.run [] [] rfl (st_move rfl) (.run [] [] rfl (st_build (pl := [(0, 1), (1, 1), (2, 1), (3, 1)]) rfl Try.underlying36 inf36 (by kernel_rfl) rfl rfl) (.run [4000] [] rfl (st_buildSlice rfl 4000 Try.underlying25 inf36 (nle rfl) (by decide) rfl rfl rfl (.cons .v (.cons .v (.cons .v (.cons .v .nil)))) (by decide) rfl (by decide) rfl (by decide) rfl) (.run [2900, 4000, 4100] [] rfl (st_call rfl 4100 (X := [2900, 4000]) en53 rfl (.val nod) (.cons (.one (.own (len := (pvD [opAp (name ++ newB) data, opMv (name ++ newB) name]).length) (xs := pvD [opAp (name ++ newB) data, opMv (name ++ newB) name]) rfl rfl)) (.cons (.one (.bor .v)) (.cons (.one (.own (len := 1) (xs := [[PV.v (.int .i64 3), PV.v (.string (name ++ newB)), PV.v (.string ⟨#[]⟩), PV.v (.string ⟨#[]⟩)]]) rfl rfl)) .nil))) (by decide) (all_cons rfl (all_cons rfl all_nil)) (.gone (.gone .nil)) (insD_con [opAp (name ++ newB) data, opMv (name ++ newB) name] (⟨3, (name ++ newB), ⟨#[]⟩, ⟨#[]⟩⟩ : DOp) 0 (by omega) (by simp)) rfl rfl (nle rfl)) (.run [] [] rfl (st_assign rfl) .nil)))))) ?_
      refine tr_seq ?_
      have hhs : hasF d.live (name ++ newB) = true := by rw [← readF_has h1]; exact h5
      obtain ⟨ops, hops⟩ : ∃ ops, ops = replOps d name data := ⟨_, rfl⟩
      have hopd : ∀ e ∈ ops, e.data.size ≤ 1048576 := by rw [hops]; exact replOps_size hda
      have hol := pvD_length ops
      have hopl : ops.length ≤ 3 := by rw [hops]; unfold replOps; split <;> simp
      refine tr_wk (s' := mk [(3, .ptr 3 0), (6, .ptr 6 0), (9, .sl 4100 0 ((pvD ([opAp (name ++ newB) data, opMv (name ++ newB) name].take 0 ++ (⟨3, (name ++ newB), ⟨#[]⟩, ⟨#[]⟩⟩ : DOp) :: [opAp (name ++ newB) data, opMv (name ++ newB) name].drop 0)).length))] [(3, [.p none (.sl false 2 (pvF d.live)), .p none (.sl false 2 (pvF d.safe)), .p none (.sl false 4 (pvD d.ops))]), (6, [.nils, .nils, .nils])] [(4100, 4, pvD ([opAp (name ++ newB) data, opMv (name ++ newB) name].take 0 ++ (⟨3, (name ++ newB), ⟨#[]⟩, ⟨#[]⟩⟩ : DOp) :: [opAp (name ++ newB) data, opMv (name ++ newB) name].drop 0))]) ?_ ?_
      · exact wk_mk ⟨rfl, ⟨rfl, ⟨rfl, trivial⟩⟩⟩ ⟨rfl, ⟨rfl, trivial⟩⟩ ⟨rfl, trivial⟩ rfl
      refine tr_region rfl (.run [] [] rfl (st_load_box rfl rfl rfl Try.isAgg27 Try.sizeOf27 (nle rfl)) (.run [] [12] rfl (st_allocZ rfl 12 inf27 rfl (by decide) rfl (by decide)) (.run [] [] rfl (st_store_box rfl rfl rfl rfl rfl Try.sizeOf27 rfl (nle rfl)) .nil))) ?_
      have hr6 : pvD ([opAp (name ++ newB) data, opMv (name ++ newB) name].take 0 ++ (⟨3, (name ++ newB), ⟨#[]⟩, ⟨#[]⟩⟩ : DOp) :: [opAp (name ++ newB) data, opMv (name ++ newB) name].drop 0) = pvD ops := by rw [hops, replOps, if_pos hhs]; rfl
      have hp7 : (.sl 4100 0 ((pvD ([opAp (name ++ newB) data, opMv (name ++ newB) name].take 0 ++ (⟨3, (name ++ newB), ⟨#[]⟩, ⟨#[]⟩⟩ : DOp) :: [opAp (name ++ newB) data, opMv (name ++ newB) name].drop 0)).length) : AV) = .sl 4100 0 ((pvD ops).length) := by simp only [hr6]
      refine tr_wk (s' := mk [(3, .ptr 3 0), (6, .ptr 6 0), (9, .sl 4100 0 ((pvD ops).length)), (12, .ptr 12 0)] [(3, [.p none (.sl false 2 (pvF d.live)), .p none (.sl false 2 (pvF d.safe)), .p none (.sl false 4 (pvD d.ops))]), (6, [.nils, .nils, .nils]), (12, [.p none (.sl false 2 (pvF d.live)), .p none (.sl false 2 (pvF d.safe)), .p none (.sl false 4 (pvD d.ops))])] [(4100, 4, pvD ops)]) ?_ ?_
      · exact wk_mk ⟨rfl, ⟨rfl, ⟨hp7, ⟨rfl, trivial⟩⟩⟩⟩ ⟨rfl, ⟨rfl, ⟨rfl, trivial⟩⟩⟩ ⟨(congrArg (fun x => some (4, x)) hr6), trivial⟩ rfl
      refine tr_seq ?_
      refine tr_seq ?_
      refine tr_region rfl (.run [] [] rfl (st_move rfl) (.run [] [] rfl (st_len_row rfl rfl Try.underlying25) (.run [] [] rfl (st_move rfl) .nil))) ?_
      refine tr_block ?_
      refine tr_loopS (σ := Nat × Dsk) (fun (i, now) => mk [(3, .ptr 3 0), (6, .ptr 6 0), (12, .ptr 12 0), (43, .sl 4100 0 ((pvD ops).length)), (44, .p none (.v (.int .i64 ((pvD ops).length : Int)))), (45, .p none (.v (.int .i64 (i:Int))))] [(3, [.p none (.sl false 2 (pvF d.live)), .p none (.sl false 2 (pvF d.safe)), .p none (.sl false 4 (pvD d.ops))]), (6, [.nils, .nils, .nils]), (12, [.p none (.sl false 2 (pvF now.live)), .p none (.sl false 2 (pvF now.safe)), .p none (.sl false 4 (pvD now.ops))])] [(4100, 4, pvD ops)]) (fun (i, now) => i ≤ ops.length ∧ diskOk now = true ∧ foldA now (ops.drop i) = foldA d ops) (fun (i, now) => ops.length - i) (0, d) ⟨Nat.zero_le _, h1, rfl⟩ (wk_mk ⟨rfl, ⟨rfl, ⟨rfl, ⟨rfl, ⟨rfl, ⟨(int_eq (by omega)), trivial⟩⟩⟩⟩⟩⟩ ⟨rfl, ⟨rfl, ⟨rfl, trivial⟩⟩⟩ ⟨rfl, trivial⟩ rfl) ?_
      rintro ⟨i, now⟩ hG
      replace hG : i ≤ ops.length ∧ diskOk now = true ∧ foldA now (ops.drop i) = foldA d ops := hG
      obtain ⟨hi, hok, hF⟩ := hG
      have hnw := (ok_db hok).up (show 200000 ≤ 900000000 by decide)
      refine tr_seq ?_
      refine tr_region rfl (.run [] [] rfl (st_lss rfl rfl rfl) .nil) ?_
      refine tr_seq ?_
      refine tr_if (t := decide ((i:Int) < ((pvD ops).length : Int))) rfl (fun h8 => ?_) (fun h8 => ?_)
      · skip
        replace h8 := of_decide_eq_true h8
        refine tr_skip ?_
        refine tr_seq ?_
        refine tr_block ?_
        refine tr_seq ?_
        obtain ⟨e, he⟩ : ∃ e, ops[i]? = some e := ⟨_, List.getElem?_eq_getElem (by omega)⟩
        have hlte := (List.getElem?_eq_some_iff.1 he).1
        have heo := hopd e (List.mem_of_getElem? he)
        refine tr_region rfl (.run [] [] rfl (st_idx_row0 i rfl rfl rfl rfl Try.underlying25 Try.sizeOf36 rfl rfl (by omega)) (.run [] [] rfl (st_load_ea rfl rfl rfl (pvD_get he) Try.isAgg36 Try.sizeOf36 (nle rfl)) (.run [] [14] rfl (st_allocZ rfl 14 inf36 rfl (by decide) rfl (by decide)) (.run [] [] rfl (st_store_box rfl rfl rfl rfl rfl Try.sizeOf36 rfl (nle rfl)) .nil)))) ?_
        refine tr_seq ?_
        refine tr_region rfl (.run [] [] rfl (st_load_box rfl rfl rfl Try.isAgg27 Try.sizeOf27 (nle rfl)) (.run [] [] rfl (st_load_box rfl rfl rfl Try.isAgg36 Try.sizeOf36 (nle rfl)) (.run [5200, 5201, 5202, 5203] [] rfl (st_callS rfl 5200 (X := []) en48 rfl (.cons (.agg (.cons .sl (.cons .sl (.cons .sl .nil)))) (.cons (.agg (.cons .v (.cons .v (.cons .v (.cons .v .nil))))) .nil)) (by decide) all_nil (do_con now e hok (Nat.le_trans heo (by decide))) rfl (nle rfl)) (.run [] [] rfl (st_move rfl) (.run [] [] rfl (st_extract rfl rfl rfl) (.run [] [] rfl (st_extract rfl rfl rfl) (.run [] [15] rfl (st_allocZ rfl 15 inf27 rfl (by decide) rfl (by decide)) (.run [] [] rfl (st_store_box rfl rfl rfl rfl rfl Try.sizeOf27 rfl (nle rfl)) (.run [] [] rfl (st_assign rfl) .nil))))))))) ?_
        refine tr_seq ?_
        refine tr_seq ?_
        refine tr_region rfl (.run [] [] rfl (st_move rfl) (.run [] [] rfl (st_neq rfl rfl rfl) .nil)) ?_
        refine tr_if (t := (!(decide (((actF now e).2) = 0)))) rfl (fun h9 => ?_) (fun h9 => ?_)
        · skip
          replace h9 : ¬ (((actF now e).2) = 0) := of_decide_eq_false (bnot_t h9)
          refine tr_seq ?_
          have hst := fold_stop hF he h9
          have hrun := repl_fold (name := name) (data := data) (s := actF now e) h1 (by rw [← hops]; exact hst)
          rw [if_neg h9] at hrun
          rw [hrun]
          refine tr_wk (s' := mk [(3, .ptr 3 0), (6, .ptr 6 0), (16, .p none (.v (.int .i64 ((actF now e).2))))] [(3, [.p none (.sl false 2 (pvF d.live)), .p none (.sl false 2 (pvF d.safe)), .p none (.sl false 4 (pvD d.ops))]), (6, [.nils, .nils, .nils])] []) ?_ ?_
          · exact wk_mk ⟨rfl, ⟨rfl, ⟨rfl, trivial⟩⟩⟩ ⟨rfl, ⟨rfl, trivial⟩⟩ trivial rfl
          refine tr_region rfl (.run [] [] rfl (st_load_box rfl rfl rfl Try.isAgg27 Try.sizeOf27 (nle rfl)) (.run [5800, 5801, 5802] [] rfl (st_call rfl 5800 (X := []) en44 rfl (.val nod) (.cons (.agg (.cons (.bor (.sl nod)) (.cons (.bor (.sl nod)) (.cons (.bor (.sl nod)) .nil)))) .nil) (by decide) all_nil .nil (copied_con d (by assumption)) rfl rfl (nle rfl)) (.run [] [] rfl (st_move rfl) (.run [] [] rfl (st_store_box rfl rfl rfl rfl rfl Try.sizeOf27 rfl (nle rfl)) (.run [] [] rfl (st_assign rfl) .nil))))) ?_
          refine tr_ret ?_
          exact ends [_, _] [5800, 5801, 5802] (.cons (.cell rfl rfl Try.isAgg27 Try.sizeOf27 (nle rfl)) (.cons (.tmp rfl) .nil)) (.cons (.agg (.cons (.row (len := (pvF d.live).length) (xs := pvF d.live) rfl rfl) (.cons (.row (len := (pvF d.safe).length) (xs := pvF d.safe) rfl rfl) (.cons (.row (len := (pvD d.ops).length) (xs := pvD d.ops) rfl rfl) .nil))) (cl_cons (.sl _ _ (FlatP.clean (pvF_flat _))) (cl_cons (.sl _ _ (FlatP.clean (pvF_flat _))) (cl_cons (.sl _ _ (FlatP.clean (pvD_flat _))) cl_nil)))) (.cons (.one .v (.v _)) .nil)) (by decide) trivial
        · skip
          replace h9 : ((actF now e).2) = 0 := of_decide_eq_true (bnot_f h9)
          refine tr_skip ?_
          refine tr_wk (s' := mk [(3, .ptr 3 0), (6, .ptr 6 0), (12, .ptr 12 0), (15, .ptr 15 0), (43, .sl 4100 0 ((pvD ops).length)), (44, .p none (.v (.int .i64 ((pvD ops).length : Int)))), (45, .p none (.v (.int .i64 (i:Int))))] [(3, [.p none (.sl false 2 (pvF d.live)), .p none (.sl false 2 (pvF d.safe)), .p none (.sl false 4 (pvD d.ops))]), (6, [.nils, .nils, .nils]), (12, [.p none (.sl false 2 (pvF now.live)), .p none (.sl false 2 (pvF now.safe)), .p none (.sl false 4 (pvD now.ops))]), (15, [.p none (.sl false 2 (pvF (actF now e).1.live)), .p none (.sl false 2 (pvF (actF now e).1.safe)), .p none (.sl false 4 (pvD (actF now e).1.ops))])] [(4100, 4, pvD ops)]) ?_ ?_
          · exact wk_mk ⟨rfl, ⟨rfl, ⟨rfl, ⟨rfl, ⟨rfl, ⟨rfl, ⟨rfl, trivial⟩⟩⟩⟩⟩⟩⟩ ⟨rfl, ⟨rfl, ⟨rfl, ⟨rfl, trivial⟩⟩⟩⟩ ⟨rfl, trivial⟩ rfl
          refine tr_region rfl (.run [] [] rfl (st_load_box rfl rfl rfl Try.isAgg27 Try.sizeOf27 (nle rfl)) (.run [] [] rfl (st_store_box rfl rfl rfl rfl rfl Try.sizeOf27 rfl (nle rfl)) .nil)) ?_
          refine tr_region rfl (.run [] [] rfl (st_addn rfl rfl rfl (by omega)) (.run [] [] rfl (st_move rfl) .nil)) ?_
          refine nxt (Q := fun _ _ => False) (z := (i, now)) (i + 1, (actF now e).1) ?_ ?_ ?_
          · show (i + 1) ≤ ops.length ∧ diskOk ((actF now e).1) = true ∧ foldA ((actF now e).1) (ops.drop (i + 1)) = foldA d ops
            exact ⟨by omega, act_ok hok h9, fold_step hF he h9⟩
          · show ops.length - (i + 1) < ops.length - i
            omega
          · exact wk_mk ⟨rfl, ⟨rfl, ⟨rfl, ⟨rfl, ⟨rfl, ⟨(int_eq (by omega)), trivial⟩⟩⟩⟩⟩⟩ ⟨rfl, ⟨rfl, ⟨rfl, trivial⟩⟩⟩ ⟨rfl, trivial⟩ rfl
      · skip
        replace h8 := of_decide_eq_false h8
        refine tr_exit ?_
        refine tr_seq ?_
        have hst := fold_end hF (by omega)
        have hrun := repl_fold (name := name) (data := data) (s := (now, 0)) h1 (by rw [← hops]; exact hst)
        rw [if_pos rfl] at hrun
        rw [hrun]
        refine tr_region rfl (.run [] [] rfl (st_load_box rfl rfl rfl Try.isAgg27 Try.sizeOf27 (nle rfl)) (.run [6300, 6301, 6302] [] rfl (st_call rfl 6300 (X := []) en44 rfl (.val nod) (.cons (.agg (.cons (.bor (.sl nod)) (.cons (.bor (.sl nod)) (.cons (.bor (.sl nod)) .nil)))) .nil) (by decide) all_nil .nil (copied_con now (by assumption)) rfl rfl (nle rfl)) (.run [] [] rfl (st_store_box rfl rfl rfl rfl rfl Try.sizeOf27 rfl (nle rfl)) (.run [] [] rfl (st_assign rfl) .nil)))) ?_
        refine tr_ret ?_
        exact ends [_, _] [6300, 6301, 6302] (.cons (.cell rfl rfl Try.isAgg27 Try.sizeOf27 (nle rfl)) (.cons (.tmp rfl) .nil)) (.cons (.agg (.cons (.row (len := (pvF now.live).length) (xs := pvF now.live) rfl rfl) (.cons (.row (len := (pvF now.safe).length) (xs := pvF now.safe) rfl rfl) (.cons (.row (len := (pvD now.ops).length) (xs := pvD now.ops) rfl rfl) .nil))) (cl_cons (.sl _ _ (FlatP.clean (pvF_flat _))) (cl_cons (.sl _ _ (FlatP.clean (pvF_flat _))) (cl_cons (.sl _ _ (FlatP.clean (pvD_flat _))) cl_nil)))) (.cons (.one .v (.v _)) .nil)) (by decide) trivial
    · skip
      refine tr_skip ?_
      refine tr_seq ?_
      have hhs : hasF d.live (name ++ newB) = false := by rw [← readF_has h1]; exact h5
      obtain ⟨ops, hops⟩ : ∃ ops, ops = replOps d name data := ⟨_, rfl⟩
      have hopd : ∀ e ∈ ops, e.data.size ≤ 1048576 := by rw [hops]; exact replOps_size hda
      have hol := pvD_length ops
      have hopl : ops.length ≤ 3 := by rw [hops]; unfold replOps; split <;> simp
      refine tr_region rfl (.run [] [] rfl (st_load_box rfl rfl rfl Try.isAgg27 Try.sizeOf27 (nle rfl)) (.run [] [12] rfl (st_allocZ rfl 12 inf27 rfl (by decide) rfl (by decide)) (.run [] [] rfl (st_store_box rfl rfl rfl rfl rfl Try.sizeOf27 rfl (nle rfl)) .nil))) ?_
      have hr10 : pvD [opAp (name ++ newB) data, opMv (name ++ newB) name] = pvD ops := by rw [hops, replOps, if_neg (by simp [hhs])]; rfl
      have hp11 : (.sl 2900 0 ((pvD [opAp (name ++ newB) data, opMv (name ++ newB) name]).length) : AV) = .sl 2900 0 ((pvD ops).length) := by simp only [hr10]
      refine tr_wk (s' := mk [(3, .ptr 3 0), (6, .ptr 6 0), (9, .sl 2900 0 ((pvD ops).length)), (12, .ptr 12 0)] [(3, [.p none (.sl false 2 (pvF d.live)), .p none (.sl false 2 (pvF d.safe)), .p none (.sl false 4 (pvD d.ops))]), (6, [.nils, .nils, .nils]), (12, [.p none (.sl false 2 (pvF d.live)), .p none (.sl false 2 (pvF d.safe)), .p none (.sl false 4 (pvD d.ops))])] [(2900, 4, pvD ops)]) ?_ ?_
      · exact wk_mk ⟨rfl, ⟨rfl, ⟨hp11, ⟨rfl, trivial⟩⟩⟩⟩ ⟨rfl, ⟨rfl, ⟨rfl, trivial⟩⟩⟩ ⟨(congrArg (fun x => some (4, x)) hr10), trivial⟩ rfl
      refine tr_seq ?_
      refine tr_seq ?_
      refine tr_region rfl (.run [] [] rfl (st_move rfl) (.run [] [] rfl (st_len_row rfl rfl Try.underlying25) (.run [] [] rfl (st_move rfl) .nil))) ?_
      refine tr_block ?_
      refine tr_loopS (σ := Nat × Dsk) (fun (i, now) => mk [(3, .ptr 3 0), (6, .ptr 6 0), (12, .ptr 12 0), (43, .sl 2900 0 ((pvD ops).length)), (44, .p none (.v (.int .i64 ((pvD ops).length : Int)))), (45, .p none (.v (.int .i64 (i:Int))))] [(3, [.p none (.sl false 2 (pvF d.live)), .p none (.sl false 2 (pvF d.safe)), .p none (.sl false 4 (pvD d.ops))]), (6, [.nils, .nils, .nils]), (12, [.p none (.sl false 2 (pvF now.live)), .p none (.sl false 2 (pvF now.safe)), .p none (.sl false 4 (pvD now.ops))])] [(2900, 4, pvD ops)]) (fun (i, now) => i ≤ ops.length ∧ diskOk now = true ∧ foldA now (ops.drop i) = foldA d ops) (fun (i, now) => ops.length - i) (0, d) ⟨Nat.zero_le _, h1, rfl⟩ (wk_mk ⟨rfl, ⟨rfl, ⟨rfl, ⟨rfl, ⟨rfl, ⟨(int_eq (by omega)), trivial⟩⟩⟩⟩⟩⟩ ⟨rfl, ⟨rfl, ⟨rfl, trivial⟩⟩⟩ ⟨rfl, trivial⟩ rfl) ?_
      rintro ⟨i, now⟩ hG
      replace hG : i ≤ ops.length ∧ diskOk now = true ∧ foldA now (ops.drop i) = foldA d ops := hG
      obtain ⟨hi, hok, hF⟩ := hG
      have hnw := (ok_db hok).up (show 200000 ≤ 900000000 by decide)
      refine tr_seq ?_
      refine tr_region rfl (.run [] [] rfl (st_lss rfl rfl rfl) .nil) ?_
      refine tr_seq ?_
      refine tr_if (t := decide ((i:Int) < ((pvD ops).length : Int))) rfl (fun h12 => ?_) (fun h12 => ?_)
      · skip
        replace h12 := of_decide_eq_true h12
        refine tr_skip ?_
        refine tr_seq ?_
        refine tr_block ?_
        refine tr_seq ?_
        obtain ⟨e, he⟩ : ∃ e, ops[i]? = some e := ⟨_, List.getElem?_eq_getElem (by omega)⟩
        have hlte := (List.getElem?_eq_some_iff.1 he).1
        have heo := hopd e (List.mem_of_getElem? he)
        refine tr_region rfl (.run [] [] rfl (st_idx_row0 i rfl rfl rfl rfl Try.underlying25 Try.sizeOf36 rfl rfl (by omega)) (.run [] [] rfl (st_load_ea rfl rfl rfl (pvD_get he) Try.isAgg36 Try.sizeOf36 (nle rfl)) (.run [] [14] rfl (st_allocZ rfl 14 inf36 rfl (by decide) rfl (by decide)) (.run [] [] rfl (st_store_box rfl rfl rfl rfl rfl Try.sizeOf36 rfl (nle rfl)) .nil)))) ?_
        refine tr_seq ?_
        refine tr_region rfl (.run [] [] rfl (st_load_box rfl rfl rfl Try.isAgg27 Try.sizeOf27 (nle rfl)) (.run [] [] rfl (st_load_box rfl rfl rfl Try.isAgg36 Try.sizeOf36 (nle rfl)) (.run [5200, 5201, 5202, 5203] [] rfl (st_callS rfl 5200 (X := []) en48 rfl (.cons (.agg (.cons .sl (.cons .sl (.cons .sl .nil)))) (.cons (.agg (.cons .v (.cons .v (.cons .v (.cons .v .nil))))) .nil)) (by decide) all_nil (do_con now e hok (Nat.le_trans heo (by decide))) rfl (nle rfl)) (.run [] [] rfl (st_move rfl) (.run [] [] rfl (st_extract rfl rfl rfl) (.run [] [] rfl (st_extract rfl rfl rfl) (.run [] [15] rfl (st_allocZ rfl 15 inf27 rfl (by decide) rfl (by decide)) (.run [] [] rfl (st_store_box rfl rfl rfl rfl rfl Try.sizeOf27 rfl (nle rfl)) (.run [] [] rfl (st_assign rfl) .nil))))))))) ?_
        refine tr_seq ?_
        refine tr_seq ?_
        refine tr_region rfl (.run [] [] rfl (st_move rfl) (.run [] [] rfl (st_neq rfl rfl rfl) .nil)) ?_
        refine tr_if (t := (!(decide (((actF now e).2) = 0)))) rfl (fun h13 => ?_) (fun h13 => ?_)
        · skip
          replace h13 : ¬ (((actF now e).2) = 0) := of_decide_eq_false (bnot_t h13)
          refine tr_seq ?_
          have hst := fold_stop hF he h13
          have hrun := repl_fold (name := name) (data := data) (s := actF now e) h1 (by rw [← hops]; exact hst)
          rw [if_neg h13] at hrun
          rw [hrun]
          refine tr_wk (s' := mk [(3, .ptr 3 0), (6, .ptr 6 0), (16, .p none (.v (.int .i64 ((actF now e).2))))] [(3, [.p none (.sl false 2 (pvF d.live)), .p none (.sl false 2 (pvF d.safe)), .p none (.sl false 4 (pvD d.ops))]), (6, [.nils, .nils, .nils])] []) ?_ ?_
          · exact wk_mk ⟨rfl, ⟨rfl, ⟨rfl, trivial⟩⟩⟩ ⟨rfl, ⟨rfl, trivial⟩⟩ trivial rfl
          refine tr_region rfl (.run [] [] rfl (st_load_box rfl rfl rfl Try.isAgg27 Try.sizeOf27 (nle rfl)) (.run [5800, 5801, 5802] [] rfl (st_call rfl 5800 (X := []) en44 rfl (.val nod) (.cons (.agg (.cons (.bor (.sl nod)) (.cons (.bor (.sl nod)) (.cons (.bor (.sl nod)) .nil)))) .nil) (by decide) all_nil .nil (copied_con d (by assumption)) rfl rfl (nle rfl)) (.run [] [] rfl (st_move rfl) (.run [] [] rfl (st_store_box rfl rfl rfl rfl rfl Try.sizeOf27 rfl (nle rfl)) (.run [] [] rfl (st_assign rfl) .nil))))) ?_
          refine tr_ret ?_
          exact ends [_, _] [5800, 5801, 5802] (.cons (.cell rfl rfl Try.isAgg27 Try.sizeOf27 (nle rfl)) (.cons (.tmp rfl) .nil)) (.cons (.agg (.cons (.row (len := (pvF d.live).length) (xs := pvF d.live) rfl rfl) (.cons (.row (len := (pvF d.safe).length) (xs := pvF d.safe) rfl rfl) (.cons (.row (len := (pvD d.ops).length) (xs := pvD d.ops) rfl rfl) .nil))) (cl_cons (.sl _ _ (FlatP.clean (pvF_flat _))) (cl_cons (.sl _ _ (FlatP.clean (pvF_flat _))) (cl_cons (.sl _ _ (FlatP.clean (pvD_flat _))) cl_nil)))) (.cons (.one .v (.v _)) .nil)) (by decide) trivial
        · skip
          replace h13 : ((actF now e).2) = 0 := of_decide_eq_true (bnot_f h13)
          refine tr_skip ?_
          refine tr_wk (s' := mk [(3, .ptr 3 0), (6, .ptr 6 0), (12, .ptr 12 0), (15, .ptr 15 0), (43, .sl 2900 0 ((pvD ops).length)), (44, .p none (.v (.int .i64 ((pvD ops).length : Int)))), (45, .p none (.v (.int .i64 (i:Int))))] [(3, [.p none (.sl false 2 (pvF d.live)), .p none (.sl false 2 (pvF d.safe)), .p none (.sl false 4 (pvD d.ops))]), (6, [.nils, .nils, .nils]), (12, [.p none (.sl false 2 (pvF now.live)), .p none (.sl false 2 (pvF now.safe)), .p none (.sl false 4 (pvD now.ops))]), (15, [.p none (.sl false 2 (pvF (actF now e).1.live)), .p none (.sl false 2 (pvF (actF now e).1.safe)), .p none (.sl false 4 (pvD (actF now e).1.ops))])] [(2900, 4, pvD ops)]) ?_ ?_
          · exact wk_mk ⟨rfl, ⟨rfl, ⟨rfl, ⟨rfl, ⟨rfl, ⟨rfl, ⟨rfl, trivial⟩⟩⟩⟩⟩⟩⟩ ⟨rfl, ⟨rfl, ⟨rfl, ⟨rfl, trivial⟩⟩⟩⟩ ⟨rfl, trivial⟩ rfl
          refine tr_region rfl (.run [] [] rfl (st_load_box rfl rfl rfl Try.isAgg27 Try.sizeOf27 (nle rfl)) (.run [] [] rfl (st_store_box rfl rfl rfl rfl rfl Try.sizeOf27 rfl (nle rfl)) .nil)) ?_
          refine tr_region rfl (.run [] [] rfl (st_addn rfl rfl rfl (by omega)) (.run [] [] rfl (st_move rfl) .nil)) ?_
          refine nxt (Q := fun _ _ => False) (z := (i, now)) (i + 1, (actF now e).1) ?_ ?_ ?_
          · show (i + 1) ≤ ops.length ∧ diskOk ((actF now e).1) = true ∧ foldA ((actF now e).1) (ops.drop (i + 1)) = foldA d ops
            exact ⟨by omega, act_ok hok h13, fold_step hF he h13⟩
          · show ops.length - (i + 1) < ops.length - i
            omega
          · exact wk_mk ⟨rfl, ⟨rfl, ⟨rfl, ⟨rfl, ⟨rfl, ⟨(int_eq (by omega)), trivial⟩⟩⟩⟩⟩⟩ ⟨rfl, ⟨rfl, ⟨rfl, trivial⟩⟩⟩ ⟨rfl, trivial⟩ rfl
      · skip
        replace h12 := of_decide_eq_false h12
        refine tr_exit ?_
        refine tr_seq ?_
        have hst := fold_end hF (by omega)
        have hrun := repl_fold (name := name) (data := data) (s := (now, 0)) h1 (by rw [← hops]; exact hst)
        rw [if_pos rfl] at hrun
        rw [hrun]
        refine tr_region rfl (.run [] [] rfl (st_load_box rfl rfl rfl Try.isAgg27 Try.sizeOf27 (nle rfl)) (.run [6300, 6301, 6302] [] rfl (st_call rfl 6300 (X := []) en44 rfl (.val nod) (.cons (.agg (.cons (.bor (.sl nod)) (.cons (.bor (.sl nod)) (.cons (.bor (.sl nod)) .nil)))) .nil) (by decide) all_nil .nil (copied_con now (by assumption)) rfl rfl (nle rfl)) (.run [] [] rfl (st_store_box rfl rfl rfl rfl rfl Try.sizeOf27 rfl (nle rfl)) (.run [] [] rfl (st_assign rfl) .nil)))) ?_
        refine tr_ret ?_
        exact ends [_, _] [6300, 6301, 6302] (.cons (.cell rfl rfl Try.isAgg27 Try.sizeOf27 (nle rfl)) (.cons (.tmp rfl) .nil)) (.cons (.agg (.cons (.row (len := (pvF now.live).length) (xs := pvF now.live) rfl rfl) (.cons (.row (len := (pvF now.safe).length) (xs := pvF now.safe) rfl rfl) (.cons (.row (len := (pvD now.ops).length) (xs := pvD now.ops) rfl rfl) .nil))) (cl_cons (.sl _ _ (FlatP.clean (pvF_flat _))) (cl_cons (.sl _ _ (FlatP.clean (pvF_flat _))) (cl_cons (.sl _ _ (FlatP.clean (pvD_flat _))) cl_nil)))) (.cons (.one .v (.v _)) .nil)) (by decide) trivial
end Go.Rl
namespace Go.Rl
open Go.Proofs
def szD (d : Dsk) (x : Int) : Int := if szS wFil d.live x < 0 then -1 else if szS wFil d.safe (szS wFil d.live x) < 0 then -1 else szS wDOp d.ops (szS wFil d.safe (szS wFil d.live x))
def markDsk (k a b c : Nat) : Dsk := ⟨marksG markFil k a, marksG markFil (k + 2 * a) b, marksG markDOp (k + 2 * a + 2 * b) c⟩
end Go.Rl
namespace Go.Rl
open Go.Proofs
theorem en24 : ∀ vs w, (callFunc 24 vs).run Try.prog w = .ok (.enter 24 vs) w := enters Try.func24 (by decide) rfl
theorem en14 : ∀ vs w, (callFunc 14 vs).run Try.prog w = .ok (.enter 14 vs) w := enters Try.func14 (by decide) rfl
theorem en18 : ∀ vs w, (callFunc 18 vs).run Try.prog w = .ok (.enter 18 vs) w := enters Try.func18 (by decide) rfl
theorem en17 : ∀ vs w, (callFunc 17 vs).run Try.prog w = .ok (.enter 17 vs) w := enters Try.func17 (by decide) rfl
theorem en22 : ∀ vs w, (callFunc 22 vs).run Try.prog w = .ok (.enter 22 vs) w := enters Try.func22 (by decide) rfl
theorem en21 : ∀ vs w, (callFunc 21 vs).run Try.prog w = .ok (.enter 21 vs) w := enters Try.func21 (by decide) rfl
end Go.Rl
namespace Go.Rl
def pvRd (x : Value × Nat) : List (List PV) := [[.v x.1, .v (.int .i64 x.2)]]
theorem pvRd_flat (x : Value × Nat) : FlatP (pvRd x) := fun es he p hp => by
  simp only [pvRd, List.mem_singleton] at he
  subst he
  simp only [List.mem_cons, List.not_mem_nil, or_false] at hp
  rcases hp with rfl | rfl <;> rfl
theorem pvRd_clean {a b : Value} : ∀ p ∈ ([.v a, .v b] : List PV), Clean p := fun p hp => by
  simp only [List.mem_cons, List.not_mem_nil, or_false] at hp
  rcases hp with rfl | rfl <;> exact .v _
/-- The next byte, and the place behind it. -/
def nextV (bs : List Nat) (p : Nat) : Nat := bs.getD p 0
def nextP (bs : List Nat) (p : Nat) : Nat := if p < bs.length then p + 1 else p
theorem next_end {bs : List Nat} {p : Nat} (h : bs.length ≤ p) : nextV bs p = 0 ∧ nextP bs p = p := by
  refine ⟨?_, by rw [nextP, if_neg (by omega)]⟩
  simp [nextV, List.getD_eq_getElem?_getD, List.getElem?_eq_none h]
theorem next_in {bs : List Nat} {p : Nat} {b : Nat} (h : bs[p]? = some b) : nextV bs p = b ∧ nextP bs p = p + 1 := by
  refine ⟨by simp [nextV, List.getD_eq_getElem?_getD, h], by rw [nextP, if_pos (List.getElem?_eq_some_iff.1 h).1]⟩
theorem nextP_le {bs : List Nat} {p : Nat} (h : p ≤ bs.length) : nextP bs p ≤ bs.length := by unfold nextP; split <;> omega
theorem code_bytes {γ : Gho} {cv : Value} {bs : List Nat} (h : CodeAt γ cv bs) : ∀ b ∈ bs, b < 256 := fun b hb => by
  obtain ⟨A, c, _, h⟩ := h
  rcases h with rfl | ⟨k, off, cur, ty, fz, _, _, h⟩
  · cases hb
  · obtain ⟨i, hi⟩ := List.getElem?_of_mem hb
    exact (h i b hi).1
theorem nextV_lt {bs : List Nat} (h : ∀ b ∈ bs, b < 256) (p : Nat) : nextV bs p < 256 := by
  unfold nextV
  rw [List.getD_eq_getElem?_getD]
  cases hp : bs[p]? with
  | none => decide
  | some b => exact h b (List.mem_of_getElem? hp)
def belowV (bs : List Nat) (p n : Nat) : Nat := if n ≤ 1 then 0 else if n ≤ 256 then nextV bs p % n else (nextV bs p * 256 + nextV bs (nextP bs p)) % n
def belowP (bs : List Nat) (p n : Nat) : Nat := if n ≤ 1 then p else if n ≤ 256 then nextP bs p else nextP bs (nextP bs p)
theorem belowP_le {bs : List Nat} {p n : Nat} (h : p ≤ bs.length) : belowP bs p n ≤ bs.length := by
  unfold belowP
  split
  · exact h
  · split
    · exact nextP_le h
    · exact nextP_le (nextP_le h)
theorem belowV_lt {bs : List Nat} {p n : Nat} (h : 0 < n) : belowV bs p n < n := by
  unfold belowV
  split
  · exact h
  · split <;> exact Nat.mod_lt _ h
theorem below_1 {bs : List Nat} {p n : Nat} (h : n ≤ 1) : belowV bs p n = 0 ∧ belowP bs p n = p := by simp [belowV, belowP, h]
theorem below_2 {bs : List Nat} {p n : Nat} (h1 : ¬ n ≤ 1) (h : n ≤ 256) : belowV bs p n = nextV bs p % n ∧ belowP bs p n = nextP bs p := by simp [belowV, belowP, h, h1]
theorem below_3 {bs : List Nat} {p n : Nat} (h1 : ¬ n ≤ 1) (h : ¬ n ≤ 256) : belowV bs p n = (nextV bs p * 256 + nextV bs (nextP bs p)) % n ∧ belowP bs p n = nextP bs (nextP bs p) := by simp [belowV, belowP, h, h1]
/-- A word of eight bytes. -/
def wordStep (x : Int) (v : Nat) : Int := bitsOf .or .u64 (IntKind.u64.wrap (x * 2 ^ min (8 : Int).toNat IntKind.u64.bits)) (IntKind.u64.wrap (v : Int))
def wordF (bs : List Nat) : Nat → Int → Nat → Int × Nat
  | 0, x, p => (x, p)
  | n + 1, x, p => wordF bs n (wordStep x (nextV bs p)) (nextP bs p)
def wordV (bs : List Nat) (p : Nat) : Int := (wordF bs 8 0 p).1
def wordP (bs : List Nat) (p : Nat) : Nat := (wordF bs 8 0 p).2
def nearV (bs : List Nat) (p : Nat) (low high : Int) : Int :=
  if belowV bs p 8 = 0 then low else if belowV bs p 8 = 1 then high else if high < low then low
  else IntKind.i64.wrap (low + IntKind.i64.wrap (((wordV bs (belowP bs p 8)).fdiv (2 ^ min (1 : Int).toNat IntKind.u64.bits)).tmod (IntKind.u64.wrap (high - low + 1))))
def nearP (bs : List Nat) (p : Nat) (low high : Int) : Nat :=
  if belowV bs p 8 = 0 then belowP bs p 8 else if belowV bs p 8 = 1 then belowP bs p 8 else if high < low then belowP bs p 8 else wordP bs (belowP bs p 8)
theorem near_a {bs : List Nat} {p : Nat} {low high : Int} (h : belowV bs p 8 = 0) : nearV bs p low high = low ∧ nearP bs p low high = belowP bs p 8 := by simp [nearV, nearP, h]
theorem near_b {bs : List Nat} {p : Nat} {low high : Int} (h : belowV bs p 8 = 1) : nearV bs p low high = high ∧ nearP bs p low high = belowP bs p 8 := by simp [nearV, nearP, h]
theorem near_c {bs : List Nat} {p : Nat} {low high : Int} (h0 : belowV bs p 8 ≠ 0) (h1 : belowV bs p 8 ≠ 1) (h : high < low) : nearV bs p low high = low ∧ nearP bs p low high = belowP bs p 8 := by simp [nearV, nearP, h, h0, h1]
theorem near_d {bs : List Nat} {p : Nat} {low high : Int} (h0 : belowV bs p 8 ≠ 0) (h1 : belowV bs p 8 ≠ 1) (h : ¬ high < low) : nearV bs p low high = IntKind.i64.wrap (low + IntKind.i64.wrap (((wordV bs (belowP bs p 8)).fdiv (2 ^ min (1 : Int).toNat IntKind.u64.bits)).tmod (IntKind.u64.wrap (high - low + 1)))) ∧ nearP bs p low high = wordP bs (belowP bs p 8) := by
  simp only [nearV, nearP, if_neg h0, if_neg h1, if_neg h, and_self]
def onceV (bs : List Nat) (p n : Nat) : Bool := decide (belowV bs p n = n - 1)
def offL (low high : Int) : List Int := [low - 1, high + 1, -9223372036854775808, 9223372036854775807]
def offV (bs : List Nat) (p : Nat) (low high : Int) : Int :=
  if onceV bs p 24 = true then (offL low high).getD (belowV bs (belowP bs p 24) 4) 0 else nearV bs (belowP bs p 24) low high
def offP (bs : List Nat) (p : Nat) (low high : Int) : Nat :=
  if onceV bs p 24 = true then belowP bs (belowP bs p 24) 4 else nearP bs (belowP bs p 24) low high
theorem getD_some {α : Type} {l : List α} {k : Nat} {d : α} (h : k < l.length) : l[k]? = some (l.getD k d) := by
  rw [List.getD_eq_getElem?_getD, List.getElem?_eq_getElem h]
  rfl
def usersL : List ByteArray := [⟨#[97]⟩, ⟨#[98]⟩, ⟨#[97, 98]⟩, ⟨#[97, 98, 99]⟩, ⟨#[97, 98, 100]⟩, ⟨#[107, 101, 121]⟩, ⟨#[107, 101, 121, 49]⟩, ⟨#[107, 101, 121, 50]⟩, ⟨#[122, 122]⟩, ⟨#[97, 0]⟩]
def userV (bs : List Nat) (p : Nat) : ByteArray := usersL.getD (belowV bs p 10) ⟨#[]⟩
def userP (bs : List Nat) (p : Nat) : Nat := belowP bs p 10
theorem off_get (bs : List Nat) (p : Nat) (low high : Int) : (offL low high)[belowV bs p 4]? = some ((offL low high).getD (belowV bs p 4) 0) := getD_some (belowV_lt (n := 4) (by decide))
end Go.Rl

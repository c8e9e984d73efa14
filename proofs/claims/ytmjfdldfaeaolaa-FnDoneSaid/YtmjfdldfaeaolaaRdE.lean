/- Promises of functions, proved by walks over their operations; no conditions beyond those that each theorem states. -/
import Derived.Test.YtmjfdldfaeaolaaRdD
namespace Go.Rl
open Go.Proofs
theorem en94 : ∀ vs w, (callFunc 94 vs).run Try.prog w = .ok (.enter 94 vs) w := enters Try.func94 (by decide) rfl
theorem en67 : ∀ vs w, (callFunc 67 vs).run Try.prog w = .ok (.enter 67 vs) w := enters Try.func67 (by decide) rfl
theorem en36 : ∀ vs w, (callFunc 36 vs).run Try.prog w = .ok (.enter 36 vs) w := enters Try.func36 (by decide) rfl
theorem en68 : ∀ vs w, (callFunc 68 vs).run Try.prog w = .ok (.enter 68 vs) w := enters Try.func68 (by decide) rfl
theorem en88 : ∀ vs w, (callFunc 88 vs).run Try.prog w = .ok (.enter 88 vs) w := enters Try.func88 (by decide) rfl
theorem en89 : ∀ vs w, (callFunc 89 vs).run Try.prog w = .ok (.enter 89 vs) w := enters Try.func89 (by decide) rfl
theorem en87 : ∀ vs w, (callFunc 87 vs).run Try.prog w = .ok (.enter 87 vs) w := enters Try.func87 (by decide) rfl
set_option maxRecDepth 1000000 in
set_option maxHeartbeats 2000000 in
theorem within_con (n low high : Int) : Con Try.prog 68 [.one (PV.v (.int .i64 n)), .one (PV.v (.int .i64 low)), .one (PV.v (.int .i64 high))] [] [.one (.v (.bool (within n low high)))] := by
  refine con_of_tr Try.func68 rfl rfl rfl rfl ?_
  refine tr_seq ?_
  refine tr_region rfl (.run [] [] rfl (st_assign rfl) .nil) ?_
  refine tr_seq ?_
  rcases bfc (decide (low ≤ n)) with h1 | h1
  · have h1' := h1
    replace h1' := of_decide_eq_false h1'
    refine tr_region rfl (.run [] [] rfl (st_move rfl) (.run [] [] rfl (st_move rfl) (.run [] [] rfl (st_eq (st_leq rfl rfl rfl) (by exact congrArg (fun b => AV.p none (.v (.bool b))) h1)) (.run [] [] rfl (st_move rfl) (.not rfl (.not rfl (.not rfl (.run [] [] rfl (st_pick (t := false) rfl rfl) (.run [] [] rfl (st_assign rfl) .nil))))))))) ?_
    refine tr_ret ?_
    exact ends [_] [] (.cons (.tmp (bool_eq (by simp [within, h1']))) .nil) (.cons (.one .v (.v _)) .nil) (by decide) trivial
  · have h1' := h1
    replace h1' := of_decide_eq_true h1'
    refine tr_region rfl (.run [] [] rfl (st_move rfl) (.run [] [] rfl (st_move rfl) (.run [] [] rfl (st_eq (st_leq rfl rfl rfl) (by exact congrArg (fun b => AV.p none (.v (.bool b))) h1)) (.run [] [] rfl (st_move rfl) (.run [] [] rfl (st_move rfl) (.run [] [] rfl (st_move rfl) (.run [] [] rfl (st_leq rfl rfl rfl) (.run [] [] rfl (st_pick (t := true) rfl rfl) (.run [] [] rfl (st_assign rfl) .nil))))))))) ?_
    refine tr_ret ?_
    exact ends [_] [] (.cons (.tmp (bool_eq (by simp [within, h1']))) .nil) (.cons (.one .v (.v _)) .nil) (by decide) trivial
set_option maxRecDepth 1000000 in
set_option maxHeartbeats 2000000 in
theorem isFile_con (s : ByteArray) : Con Try.prog 67 [.one (PV.v (.string s))] [] [.one (.v (.bool (isFileB s)))] := by
  refine con_of_tr Try.func67 rfl rfl rfl rfl ?_
  refine tr_seq ?_
  refine tr_region rfl (.run [] [] rfl (st_assign rfl) .nil) ?_
  refine tr_seq ?_
  rcases bfc (decide (1 ≤ (s.size : Int))) with h1 | h1
  · have h1' := h1
    replace h1' := of_decide_eq_false h1'
    refine tr_region rfl (.run [] [] rfl (st_move rfl) (.run [] [] rfl (st_len_str rfl rfl Try.underlying9) (.run [] [] rfl (st_eq (st_geq rfl rfl rfl) (by exact congrArg (fun b => AV.p none (.v (.bool b))) h1)) (.run [] [] rfl (st_move rfl) (.not rfl (.not rfl (.not rfl (.run [] [] rfl (st_pick (t := false) rfl rfl) (.run [] [] rfl (st_assign rfl) .nil))))))))) ?_
    refine tr_ret ?_
    exact ends [_] [] (.cons (.tmp (bool_eq (by simp [isFileB, h1']))) .nil) (.cons (.one .v (.v _)) .nil) (by decide) trivial
  · have h1' := h1
    replace h1' := of_decide_eq_true h1'
    refine tr_region rfl (.run [] [] rfl (st_move rfl) (.run [] [] rfl (st_len_str rfl rfl Try.underlying9) (.run [] [] rfl (st_eq (st_geq rfl rfl rfl) (by exact congrArg (fun b => AV.p none (.v (.bool b))) h1)) (.run [] [] rfl (st_move rfl) (.run [] [] rfl (st_move rfl) (.run [] [] rfl (st_len_str rfl rfl Try.underlying9) (.run [] [] rfl (st_leq rfl rfl rfl) (.run [] [] rfl (st_pick (t := true) rfl rfl) (.run [] [] rfl (st_assign rfl) .nil))))))))) ?_
    refine tr_ret ?_
    exact ends [_] [] (.cons (.tmp (bool_eq (by simp [isFileB, h1']))) .nil) (.cons (.one .v (.v _)) .nil) (by decide) trivial
set_option maxRecDepth 1000000 in
set_option maxHeartbeats 2000000 in
theorem nanS_con (a : ByteArray) : Con Try.prog 94 [.one (PV.v (.string a))] [] [.one (.v (.bool false))] := by
  refine con_of_tr Try.func94 rfl rfl rfl rfl ?_
  refine tr_seq ?_
  refine tr_region rfl (.run [] [] rfl (st_assign rfl) .nil) ?_
  refine tr_seq ?_
  refine tr_region rfl (.run [] [] rfl (st_move rfl) (.run [] [] rfl (st_move rfl) (.run [] [] rfl (st_eq (st_sneq rfl rfl rfl) (bool_eq (congrArg Bool.not (decide_eq_true (by simp))))) (.run [] [] rfl (st_assign rfl) .nil)))) ?_
  refine tr_ret ?_
  exact ends [_] [] (.cons (.tmp rfl) .nil) (.cons (.one .v (.v _)) .nil) (by decide) trivial
set_option maxRecDepth 1000000 in
set_option maxHeartbeats 2000000 in
theorem cmpS_con (a b : ByteArray) : Con Try.prog 89 [.one (PV.v (.string a)), .one (PV.v (.string b))] [] [.one (.v (.int .i64 (cmpS a b)))] := by
  refine con_of_tr Try.func89 rfl rfl rfl rfl ?_
  refine tr_seq ?_
  refine tr_region rfl (.run [] [] rfl (st_assign rfl) .nil) ?_
  refine tr_seq ?_
  refine tr_region rfl (.run [] [] rfl (st_move rfl) (.run [800] [] rfl (st_call rfl 800 (X := []) en94 rfl (.val nod) (.cons (.one (.bor .v)) .nil) (by decide) all_nil .nil (nanS_con a) rfl rfl (nle rfl)) (.run [] [] rfl (st_assign rfl) .nil))) ?_
  refine tr_seq ?_
  refine tr_region rfl (.run [] [] rfl (st_move rfl) (.run [1000] [] rfl (st_call rfl 1000 (X := []) en94 rfl (.val nod) (.cons (.one (.bor .v)) .nil) (by decide) all_nil .nil (nanS_con b) rfl rfl (nle rfl)) (.run [] [] rfl (st_assign rfl) .nil))) ?_
  refine tr_seq ?_
  refine tr_seq ?_
  refine tr_region rfl (.run [] [] rfl (st_move rfl) .nil) ?_
  refine tr_if (t := false) rfl (fun h => nomatch h) (fun _ => ?_)
  refine tr_skip ?_
  refine tr_seq ?_
  refine tr_seq ?_
  refine tr_region rfl (.run [] [] rfl (st_move rfl) .nil) ?_
  refine tr_if (t := false) rfl (fun h => nomatch h) (fun _ => ?_)
  refine tr_skip ?_
  refine tr_seq ?_
  refine tr_seq ?_
  refine tr_region rfl (.run [] [] rfl (st_move rfl) (.run [] [] rfl (st_move rfl) (.run [] [] rfl (st_slss rfl rfl rfl) .nil))) ?_
  refine tr_if (t := ltB a b) rfl (fun h1 => ?_) (fun h1 => ?_)
  · skip
    refine tr_seq ?_
    refine tr_region rfl (.run [] [] rfl (st_assign rfl) .nil) ?_
    refine tr_ret ?_
    exact ends [_] [] (.cons (.tmp (int_eq (by rw [cmpS, if_pos h1]))) .nil) (.cons (.one .v (.v _)) .nil) (by decide) trivial
  · skip
    refine tr_skip ?_
    refine tr_seq ?_
    refine tr_seq ?_
    refine tr_region rfl (.run [] [] rfl (st_move rfl) (.run [] [] rfl (st_move rfl) (.run [] [] rfl (st_sgtr rfl rfl rfl) .nil))) ?_
    refine tr_if (t := (!(ltB a b || decide (a = b)))) rfl (fun h2 => ?_) (fun h2 => ?_)
    · skip
      replace h2 : (ltB a b || decide (a = b)) = false := bnot_t h2
      refine tr_seq ?_
      refine tr_region rfl (.run [] [] rfl (st_assign rfl) .nil) ?_
      refine tr_ret ?_
      exact ends [_] [] (.cons (.tmp (int_eq (by rw [cmpS, if_neg (by simp [h1]), if_pos (by rw [← cmpS_gt h1, h2]; rfl)]))) .nil) (.cons (.one .v (.v _)) .nil) (by decide) trivial
    · skip
      replace h2 : (ltB a b || decide (a = b)) = true := bnot_f h2
      refine tr_skip ?_
      refine tr_seq ?_
      refine tr_region rfl (.run [] [] rfl (st_assign rfl) .nil) ?_
      refine tr_ret ?_
      exact ends [_] [] (.cons (.tmp (int_eq (by rw [cmpS, if_neg (by simp [h1]), if_neg (by rw [← cmpS_gt h1, h2]; decide)]))) .nil) (.cons (.one .v (.v _)) .nil) (by decide) trivial
set_option maxRecDepth 1000000 in
set_option maxHeartbeats 2000000 in
theorem fit_con (l : List Fil) (hl : l.length ≤ 1000000000) (ht : totF l ≤ 1099511627776) : Con Try.prog 36 [.one (PV.sl false 2 (pvF l))] [] [.one (.v (.bool (fitF l)))] := by
  refine con_of_tr Try.func36 rfl rfl rfl rfl ?_
  have hle := pvF_length l
  refine tr_seq ?_
  refine tr_region rfl (.run [] [] rfl (st_assign rfl) .nil) ?_
  refine tr_seq ?_
  refine tr_region rfl (.run [] [] rfl (st_assign rfl) .nil) ?_
  refine tr_seq ?_
  refine tr_seq ?_
  refine tr_region rfl (.run [] [] rfl (st_move rfl) (.run [] [] rfl (st_len_fro rfl rfl Try.underlying24) (.run [] [] rfl (st_move rfl) .nil))) ?_
  refine tr_block ?_
  refine tr_loopS (σ := Nat) (fun i => mk [(0, .p none (.sl false 2 (pvF l))), (3, .p none (.v (.int .i64 ((totF (l.take i) : Nat) : Int)))), (6, .p none (.sl false 2 (pvF l))), (7, .p none (.v (.int .i64 ((pvF l).length : Int)))), (8, .p none (.v (.int .i64 (i:Int))))] [] []) (fun i => i ≤ l.length) (fun i => l.length - i) 0 (by simp) (wk_mk ⟨rfl, ⟨(int_eq (by rfl)), ⟨rfl, ⟨rfl, ⟨(int_eq (by omega)), trivial⟩⟩⟩⟩⟩ trivial trivial rfl) ?_
  rintro i hG
  replace hG : i ≤ l.length := hG
  have htt := tot_take l i
  refine tr_seq ?_
  refine tr_region rfl (.run [] [] rfl (st_lss rfl rfl rfl) .nil) ?_
  refine tr_seq ?_
  refine tr_if (t := decide ((i:Int) < ((pvF l).length : Int))) rfl (fun h1 => ?_) (fun h1 => ?_)
  · skip
    replace h1 := of_decide_eq_true h1
    refine tr_skip ?_
    refine tr_seq ?_
    refine tr_block ?_
    refine tr_seq ?_
    obtain ⟨e, he⟩ : ∃ e, l[i]? = some e := ⟨_, List.getElem?_eq_getElem (by (have hL := pvF_length l; omega))⟩
    have hlte := (List.getElem?_eq_some_iff.1 he).1
    refine tr_region rfl (.run [] [] rfl (st_idx_fro rfl rfl rfl Try.underlying24 Try.sizeOf69 rfl (by omega) (pvF_get he)) (.run [] [] rfl (st_load_fea rfl rfl Try.isAgg69 Try.sizeOf69 (nle rfl)) (.run [] [5] rfl (st_allocZ rfl 5 inf69 rfl (by decide) rfl (by decide)) (.run [] [] rfl (st_store_box rfl rfl rfl rfl rfl Try.sizeOf69 rfl (nle rfl)) .nil)))) ?_
    have hts := tot_step he
    have htn := tot_take l (i + 1)
    refine tr_region rfl (.run [] [] rfl (st_move rfl) (.run [] [] rfl (st_faddr_box rfl rfl Try.underlying69 rfl Try.sizeOf9 (by decide)) (.run [] [] rfl (st_load_box1 rfl rfl rfl Try.isAgg9 rfl) (.run [] [] rfl (st_len_str rfl rfl Try.underlying9) (.run [] [] rfl (st_addn rfl rfl rfl (by omega)) (.run [] [] rfl (st_assign rfl) .nil)))))) ?_
    refine tr_region rfl (.run [] [] rfl (st_addn rfl rfl rfl (by omega)) (.run [] [] rfl (st_move rfl) .nil)) ?_
    refine nxt (Q := fun _ _ => False) (z := i) (i + 1) ?_ ?_ ?_
    · show (i + 1) ≤ l.length
      omega
    · show l.length - (i + 1) < l.length - i
      omega
    · exact wk_mk ⟨rfl, ⟨(int_eq (by rw [tot_step he]; omega)), ⟨rfl, ⟨rfl, ⟨(int_eq (by omega)), trivial⟩⟩⟩⟩⟩ trivial trivial rfl
  · skip
    replace h1 := of_decide_eq_false h1
    refine tr_exit ?_
    refine tr_seq ?_
    have hta : totF (l.take i) = totF l := tot_all (by omega)
    rcases bfc (decide (((pvF l).length : Int) ≤ 60)) with h2 | h2
    · have h2' := h2
      replace h2' := of_decide_eq_false h2'
      refine tr_region rfl (.run [] [] rfl (st_move rfl) (.run [] [] rfl (st_len_fro rfl rfl Try.underlying24) (.run [] [] rfl (st_eq (st_leq rfl rfl rfl) (by exact congrArg (fun b => AV.p none (.v (.bool b))) h2)) (.run [] [] rfl (st_move rfl) (.not rfl (.not rfl (.run [] [] rfl (st_pick (t := false) rfl rfl) (.run [] [] rfl (st_assign rfl) .nil)))))))) ?_
      refine tr_ret ?_
      exact ends [_] [] (.cons (.tmp (bool_eq (by rw [fitF, decide_eq_false (show ¬ l.length ≤ 60 by omega)]; rfl))) .nil) (.cons (.one .v (.v _)) .nil) (by decide) trivial
    · have h2' := h2
      replace h2' := of_decide_eq_true h2'
      refine tr_region rfl (.run [] [] rfl (st_move rfl) (.run [] [] rfl (st_len_fro rfl rfl Try.underlying24) (.run [] [] rfl (st_eq (st_leq rfl rfl rfl) (by exact congrArg (fun b => AV.p none (.v (.bool b))) h2)) (.run [] [] rfl (st_move rfl) (.run [] [] rfl (st_move rfl) (.run [] [] rfl (st_leq rfl rfl rfl) (.run [] [] rfl (st_pick (t := true) rfl rfl) (.run [] [] rfl (st_assign rfl) .nil)))))))) ?_
      refine tr_ret ?_
      exact ends [_] [] (.cons (.tmp (bool_eq (by rw [fitF, decide_eq_true (show l.length ≤ 60 by omega), Bool.true_and, hta]; exact decide_eq_decide.2 (by omega)))) .nil) (.cons (.one .v (.v _)) .nil) (by decide) trivial
set_option maxRecDepth 1000000 in
set_option maxHeartbeats 2000000 in
theorem areFiles_con (l : List Fil) (hl : l.length ≤ 1000000000) (ht : totF l ≤ 1099511627776) : Con Try.prog 33 [.one (PV.sl false 2 (pvF l))] [] [.one (.v (.bool (filesOk l)))] := by
  refine con_of_tr Try.func33 rfl rfl rfl rfl ?_
  have hle := pvF_length l
  refine tr_seq ?_
  refine tr_region rfl (.run [] [] rfl (st_assign rfl) .nil) ?_
  refine tr_seq ?_
  refine tr_seq ?_
  refine tr_region rfl (.run [] [] rfl (st_move rfl) (.run [] [] rfl (st_len_fro rfl rfl Try.underlying24) (.run [] [] rfl (st_move rfl) .nil))) ?_
  refine tr_block ?_
  refine tr_loopS (σ := Nat) (fun i => mk [(0, .p none (.sl false 2 (pvF l))), (5, .p none (.sl false 2 (pvF l))), (6, .p none (.v (.int .i64 ((pvF l).length : Int)))), (7, .p none (.v (.int .i64 (i:Int))))] [] []) (fun i => i ≤ l.length ∧ ∀ j e, j < i → l[j]? = some e → okFil l j e = true) (fun i => l.length - i) 0 ⟨Nat.zero_le _, fun _ _ h => absurd h (Nat.not_lt_zero _)⟩ (wk_mk ⟨rfl, ⟨rfl, ⟨rfl, ⟨(int_eq (by omega)), trivial⟩⟩⟩⟩ trivial trivial rfl) ?_
  rintro i hG
  replace hG : i ≤ l.length ∧ ∀ j e, j < i → l[j]? = some e → okFil l j e = true := hG
  obtain ⟨hi, hG⟩ := hG
  refine tr_seq ?_
  refine tr_region rfl (.run [] [] rfl (st_lss rfl rfl rfl) .nil) ?_
  refine tr_seq ?_
  refine tr_if (t := decide ((i:Int) < ((pvF l).length : Int))) rfl (fun h1 => ?_) (fun h1 => ?_)
  · skip
    replace h1 := of_decide_eq_true h1
    refine tr_skip ?_
    refine tr_seq ?_
    refine tr_block ?_
    refine tr_seq ?_
    obtain ⟨e, he⟩ : ∃ e, l[i]? = some e := ⟨_, List.getElem?_eq_getElem (by (have hL := pvF_length l; omega))⟩
    have hlte := (List.getElem?_eq_some_iff.1 he).1
    refine tr_region rfl (.run [] [] rfl (st_move rfl) (.run [] [] rfl (st_idx_fro rfl rfl rfl Try.underlying24 Try.sizeOf69 rfl (by omega) (pvF_get he)) (.run [] [] rfl (st_load_fea rfl rfl Try.isAgg69 Try.sizeOf69 (nle rfl)) (.run [] [4] rfl (st_allocZ rfl 4 inf69 rfl (by decide) rfl (by decide)) (.run [] [] rfl (st_assign rfl) (.run [] [] rfl (st_store_box rfl rfl rfl rfl rfl Try.sizeOf69 rfl (nle rfl)) .nil)))))) ?_
    refine tr_seq ?_
    refine tr_wk (s' := mk [(0, .p none (.sl false 2 (pvF l))), (3, .p none (.v (.int .i64 (i:Int)))), (4, .ptr 4 0), (5, .p none (.sl false 2 (pvF l))), (6, .p none (.v (.int .i64 ((pvF l).length : Int)))), (7, .p none (.v (.int .i64 (i:Int))))] [(4, [.p none (.v (.string e.name)), .p none (.v (.string e.data))])] []) ?_ ?_
    · exact wk_mk ⟨rfl, ⟨rfl, ⟨rfl, ⟨rfl, ⟨rfl, ⟨rfl, trivial⟩⟩⟩⟩⟩⟩ ⟨rfl, trivial⟩ trivial rfl
    rcases bfc (!(isFileB e.name)) with h2 | h2
    · have h2' := h2
      replace h2' : (isFileB e.name) = true := bnot_f h2'
      rcases bfc (decide (0 < (i:Int))) with h3 | h3
      · have h3' := h3
        replace h3' := of_decide_eq_false h3'
        refine tr_regionD mixed rfl (.run [] [] rfl (st_faddr_box rfl rfl Try.underlying69 rfl Try.sizeOf9 (by decide)) (.run [] [] rfl (st_load_box1 rfl rfl rfl Try.isAgg9 rfl) (.run [1400] [] rfl (st_call rfl 1400 (X := []) en67 rfl (.val nod) (.cons (.one (.bor .v)) .nil) (by decide) all_nil .nil (isFile_con e.name) rfl rfl (nle rfl)) (.run [] [] rfl (st_eq (st_not (b := isFileB e.name) rfl rfl) (by exact congrArg (fun b => AV.p none (.v (.bool b))) h2)) (.run [] [] rfl (st_move rfl) (.run [] [] rfl (st_move rfl) (.run [] [] rfl (st_eq (st_gtr rfl rfl rfl) (by exact congrArg (fun b => AV.p none (.v (.bool b))) h3)) (.run [] [] rfl (st_move rfl) (.not rfl (.not rfl (.not rfl (.not rfl (.not rfl (.not rfl (.not rfl (.not rfl (.not rfl (.run [] [] rfl (st_pick (t := false) rfl rfl) (.run [] [] rfl (st_pick (t := false) rfl rfl) .nil))))))))))))))))))) (by kernel_rfl) ?_
        refine tr_if (t := false) rfl (fun h => nomatch h) (fun _ => ?_)
        refine tr_skip ?_
        refine tr_wk (s' := mk [(0, .p none (.sl false 2 (pvF l))), (5, .p none (.sl false 2 (pvF l))), (6, .p none (.v (.int .i64 ((pvF l).length : Int)))), (7, .p none (.v (.int .i64 (i:Int)))), (17, .p none (.v (.int .i64 (i:Int)))), (18, .p none (.v (.bool false))), (19, .p none (.v (.bool false))), (29, .p none (.v (.bool false)))] [] []) ?_ ?_
        · exact wk_mk ⟨rfl, ⟨rfl, ⟨rfl, ⟨rfl, ⟨rfl, ⟨rfl, ⟨rfl, ⟨rfl, trivial⟩⟩⟩⟩⟩⟩⟩⟩ trivial trivial rfl
        refine tr_region rfl (.run [] [] rfl (st_addn rfl rfl rfl (by omega)) (.run [] [] rfl (st_move rfl) .nil)) ?_
        refine nxt (Q := fun _ _ => False) (z := i) (i + 1) ?_ ?_ ?_
        · show (i + 1) ≤ l.length ∧ ∀ j e, j < (i + 1) → l[j]? = some e → okFil l j e = true
          exact ⟨by omega, ix_step hG he (okFil_first h2' (by omega))⟩
        · show l.length - (i + 1) < l.length - i
          omega
        · exact wk_mk ⟨rfl, ⟨rfl, ⟨rfl, ⟨(int_eq (by omega)), trivial⟩⟩⟩⟩ trivial trivial rfl
      · have h3' := h3
        replace h3' := of_decide_eq_true h3'
        obtain ⟨e2, he2⟩ : ∃ e, l[(i - 1 : Nat)]? = some e := ⟨_, List.getElem?_eq_getElem (by (have hL := pvF_length l; omega))⟩
        have hlte2 := (List.getElem?_eq_some_iff.1 he2).1
        refine tr_regionD mixed rfl (.run [] [] rfl (st_faddr_box rfl rfl Try.underlying69 rfl Try.sizeOf9 (by decide)) (.run [] [] rfl (st_load_box1 rfl rfl rfl Try.isAgg9 rfl) (.run [1400] [] rfl (st_call rfl 1400 (X := []) en67 rfl (.val nod) (.cons (.one (.bor .v)) .nil) (by decide) all_nil .nil (isFile_con e.name) rfl rfl (nle rfl)) (.run [] [] rfl (st_eq (st_not (b := isFileB e.name) rfl rfl) (by exact congrArg (fun b => AV.p none (.v (.bool b))) h2)) (.run [] [] rfl (st_move rfl) (.run [] [] rfl (st_move rfl) (.run [] [] rfl (st_eq (st_gtr rfl rfl rfl) (by exact congrArg (fun b => AV.p none (.v (.bool b))) h3)) (.run [] [] rfl (st_move rfl) (.run [] [] rfl (st_move rfl) (.run [] [] rfl (st_move rfl) (.run [] [] rfl (st_eq (st_subn rfl rfl rfl (by omega)) (((show (AV.p none (.v (.int .i64 ((i:Int) - 1)))) = AV.p none (.v (.int .i64 ((i - 1 : Nat) : Int))) from int_eq (by omega))))) (.run [] [] rfl (st_idx_fro rfl rfl rfl Try.underlying24 Try.sizeOf69 rfl (by omega) (pvF_get he2)) (.run [] [] rfl (st_faddr_fea rfl rfl Try.underlying69 rfl Try.sizeOf9 (by decide)) (.run [] [] rfl (st_load_fea1 rfl rfl Try.isAgg9 rfl) (.run [] [] rfl (st_faddr_box rfl rfl Try.underlying69 rfl Try.sizeOf9 (by decide)) (.run [] [] rfl (st_load_box1 rfl rfl rfl Try.isAgg9 rfl) (.run [] [] rfl (st_sgeq rfl rfl rfl) (.run [] [] rfl (st_pick (t := true) rfl rfl) (.run [] [] rfl (st_pick (t := false) rfl rfl) .nil))))))))))))))))))) (by kernel_rfl) ?_
        refine tr_if (t := (!(ltB e2.name e.name))) rfl (fun h4 => ?_) (fun h4 => ?_)
        · skip
          replace h4 : (ltB e2.name e.name) = false := bnot_t h4
          refine tr_seq ?_
          refine tr_wk (s' := mk [] [] []) ?_ ?_
          · exact wk_mk trivial trivial trivial rfl
          refine tr_region rfl (.run [] [] rfl (st_assign rfl) .nil) ?_
          refine tr_ret ?_
          exact ends [_] [] (.cons (.tmp (bool_eq (files_no he (okFil_off (by omega) he2 h4)).symm)) .nil) (.cons (.one .v (.v _)) .nil) (by decide) trivial
        · skip
          replace h4 : (ltB e2.name e.name) = true := bnot_f h4
          refine tr_skip ?_
          refine tr_wk (s' := mk [(0, .p none (.sl false 2 (pvF l))), (5, .p none (.sl false 2 (pvF l))), (6, .p none (.v (.int .i64 ((pvF l).length : Int)))), (7, .p none (.v (.int .i64 (i:Int)))), (17, .p none (.v (.int .i64 (i:Int)))), (18, .p none (.v (.bool true))), (19, .p none (.v (.bool true))), (20, .p none (.sl false 2 (pvF l))), (21, .p none (.v (.int .i64 (i:Int)))), (22, .p none (.v (.int .i64 ((i - 1 : Nat):Int)))), (23, .fea none [PV.v (.string e2.name), PV.v (.string e2.data)]), (24, .fea none [PV.v (.string e2.name), PV.v (.string e2.data)]), (25, .p none (.v (.string e2.name))), (26, .ptr 4 0), (27, .p none (.v (.string e.name))), (28, .p none (.v (.bool (!(ltB e2.name e.name))))), (29, .p none (.v (.bool (!(ltB e2.name e.name)))))] [(4, [.p none (.v (.string e.name)), .p none (.v (.string e.data))])] []) ?_ ?_
          · exact wk_mk ⟨rfl, ⟨rfl, ⟨rfl, ⟨rfl, ⟨rfl, ⟨rfl, ⟨rfl, ⟨rfl, ⟨rfl, ⟨rfl, ⟨rfl, ⟨rfl, ⟨rfl, ⟨rfl, ⟨rfl, ⟨rfl, ⟨rfl, trivial⟩⟩⟩⟩⟩⟩⟩⟩⟩⟩⟩⟩⟩⟩⟩⟩⟩ ⟨rfl, trivial⟩ trivial rfl
          refine tr_region rfl (.run [] [] rfl (st_addn rfl rfl rfl (by omega)) (.run [] [] rfl (st_move rfl) .nil)) ?_
          refine nxt (Q := fun _ _ => False) (z := i) (i + 1) ?_ ?_ ?_
          · show (i + 1) ≤ l.length ∧ ∀ j e, j < (i + 1) → l[j]? = some e → okFil l j e = true
            exact ⟨by omega, ix_step hG he (okFil_next h2' he2 h4)⟩
          · show l.length - (i + 1) < l.length - i
            omega
          · exact wk_mk ⟨rfl, ⟨rfl, ⟨rfl, ⟨(int_eq (by omega)), trivial⟩⟩⟩⟩ trivial trivial rfl
    · have h2' := h2
      replace h2' : (isFileB e.name) = false := bnot_t h2'
      refine tr_regionD mixed rfl (.run [] [] rfl (st_faddr_box rfl rfl Try.underlying69 rfl Try.sizeOf9 (by decide)) (.run [] [] rfl (st_load_box1 rfl rfl rfl Try.isAgg9 rfl) (.run [1400] [] rfl (st_call rfl 1400 (X := []) en67 rfl (.val nod) (.cons (.one (.bor .v)) .nil) (by decide) all_nil .nil (isFile_con e.name) rfl rfl (nle rfl)) (.run [] [] rfl (st_eq (st_not (b := isFileB e.name) rfl rfl) (by exact congrArg (fun b => AV.p none (.v (.bool b))) h2)) (.run [] [] rfl (st_move rfl) (.not rfl (.not rfl (.not rfl (.not rfl (.not rfl (.not rfl (.not rfl (.not rfl (.not rfl (.not rfl (.not rfl (.not rfl (.not rfl (.run [] [] rfl (st_pick (t := true) rfl rfl) .nil))))))))))))))))))) (by kernel_rfl) ?_
      refine tr_if (t := true) rfl (fun _ => ?_) (fun h => nomatch h)
      refine tr_seq ?_
      refine tr_wk (s' := mk [] [] []) ?_ ?_
      · exact wk_mk trivial trivial trivial rfl
      refine tr_region rfl (.run [] [] rfl (st_assign rfl) .nil) ?_
      refine tr_ret ?_
      exact ends [_] [] (.cons (.tmp (bool_eq (files_no he (okFil_bad h2')).symm)) .nil) (.cons (.one .v (.v _)) .nil) (by decide) trivial
  · skip
    replace h1 := of_decide_eq_false h1
    refine tr_exit ?_
    refine tr_seq ?_
    refine tr_region rfl (.run [] [] rfl (st_move rfl) (.run [3300] [] rfl (st_call rfl 3300 (X := []) en36 rfl (.val nod) (.cons (.one (.bor (.sl nod))) .nil) (by decide) all_nil .nil (fit_con l (by omega) (by omega)) rfl rfl (nle rfl)) (.run [] [] rfl (st_assign rfl) .nil))) ?_
    refine tr_ret ?_
    exact ends [_] [] (.cons (.tmp (bool_eq (by rw [filesOk, show namesOk l = true from allIx_yes (by omega) hG, Bool.true_and]))) .nil) (.cons (.one .v (.v _)) .nil) (by decide) trivial
set_option maxRecDepth 1000000 in
set_option maxHeartbeats 2000000 in
theorem formed_con (op : DOp) : Con Try.prog 34 [.agg [PV.v (.int .i64 op.kind), PV.v (.string op.name), PV.v (.string op.dest), PV.v (.string op.data)]] [] [.one (.v (.bool (formF op)))] := by
  refine con_of_tr Try.func34 rfl rfl rfl rfl ?_
  refine tr_seq ?_
  refine tr_region rfl (.run [] [1] rfl (st_box rfl 1 rfl rfl (by decide) rfl (by decide)) (.run [] [] rfl (st_assign rfl) .nil)) ?_
  refine tr_seq ?_
  refine tr_wk (s' := mk [(1, .ptr 1 0)] [(1, [.p none (.v (.int .i64 op.kind)), .p none (.v (.string op.name)), .p none (.v (.string op.dest)), .p none (.v (.string op.data))])] []) ?_ ?_
  · exact wk_mk ⟨rfl, trivial⟩ ⟨rfl, trivial⟩ trivial rfl
  rcases bfc (within op.kind 1 3) with h1 | h1
  · have h1' := h1
    refine tr_regionD mixed rfl (.run [] [] rfl (st_faddr_box rfl rfl Try.underlying36 rfl Try.sizeOf2 (by decide)) (.run [] [] rfl (st_load_box1 rfl rfl rfl Try.isAgg2 rfl) (.run [500] [] rfl (st_call rfl 500 (X := []) en68 rfl (.val nod) (.cons (.one (.bor .v)) (.cons (.one (.bor .v)) (.cons (.one (.bor .v)) .nil))) (by decide) all_nil .nil (within_con op.kind 1 3) rfl rfl (nle rfl)) (.run [] [] rfl (st_eq (st_move rfl) (by exact congrArg (fun b => AV.p none (.v (.bool b))) h1)) (.not rfl (.not rfl (.not rfl (.run [] [] rfl (st_pick (t := false) rfl rfl) (.run [] [] rfl (st_move rfl) (.not rfl (.not rfl (.not rfl (.not rfl (.not rfl (.not rfl (.not rfl (.run [] [] rfl (st_pick (t := false) rfl rfl) (.run [] [] rfl (st_move rfl) (.not rfl (.not rfl (.not rfl (.not rfl (.not rfl (.not rfl (.not rfl (.not rfl (.run [] [] rfl (st_pick (t := false) rfl rfl) (.run [] [] rfl (st_move rfl) (.not rfl (.not rfl (.not rfl (.not rfl (.not rfl (.not rfl (.not rfl (.not rfl (.run [] [] rfl (st_pick (t := false) rfl rfl) (.run [] [] rfl (st_assign rfl) .nil)))))))))))))))))))))))))))))))))))))) (by kernel_rfl) ?_
    refine tr_ret ?_
    exact ends [_] [] (.cons (.tmp (bool_eq (by simp [formF, within_1, within_2, isFile_nil, h1']))) .nil) (.cons (.one .v (.v _)) .nil) (by decide) trivial
  · have h1' := h1
    rcases bfc (isFileB op.name) with h2 | h2
    · have h2' := h2
      refine tr_regionD mixed rfl (.run [] [] rfl (st_faddr_box rfl rfl Try.underlying36 rfl Try.sizeOf2 (by decide)) (.run [] [] rfl (st_load_box1 rfl rfl rfl Try.isAgg2 rfl) (.run [500] [] rfl (st_call rfl 500 (X := []) en68 rfl (.val nod) (.cons (.one (.bor .v)) (.cons (.one (.bor .v)) (.cons (.one (.bor .v)) .nil))) (by decide) all_nil .nil (within_con op.kind 1 3) rfl rfl (nle rfl)) (.run [] [] rfl (st_eq (st_move rfl) (by exact congrArg (fun b => AV.p none (.v (.bool b))) h1)) (.run [] [] rfl (st_faddr_box rfl rfl Try.underlying36 rfl Try.sizeOf9 (by decide)) (.run [] [] rfl (st_load_box1 rfl rfl rfl Try.isAgg9 rfl) (.run [900] [] rfl (st_call rfl 900 (X := []) en67 rfl (.val nod) (.cons (.one (.bor .v)) .nil) (by decide) all_nil .nil (isFile_con op.name) rfl rfl (nle rfl)) (.run [] [] rfl (st_pick (t := true) rfl rfl) (.run [] [] rfl (st_eq (st_move rfl) (by exact congrArg (fun b => AV.p none (.v (.bool b))) h2)) (.not rfl (.not rfl (.not rfl (.not rfl (.not rfl (.not rfl (.not rfl (.run [] [] rfl (st_pick (t := false) rfl rfl) (.run [] [] rfl (st_move rfl) (.not rfl (.not rfl (.not rfl (.not rfl (.not rfl (.not rfl (.not rfl (.not rfl (.run [] [] rfl (st_pick (t := false) rfl rfl) (.run [] [] rfl (st_move rfl) (.not rfl (.not rfl (.not rfl (.not rfl (.not rfl (.not rfl (.not rfl (.not rfl (.run [] [] rfl (st_pick (t := false) rfl rfl) (.run [] [] rfl (st_assign rfl) .nil)))))))))))))))))))))))))))))))))))))) (by kernel_rfl) ?_
      refine tr_ret ?_
      exact ends [_] [] (.cons (.tmp (bool_eq (by simp [formF, within_1, within_2, isFile_nil, h1', h2']))) .nil) (.cons (.one .v (.v _)) .nil) (by decide) trivial
    · have h2' := h2
      rcases bfc ((isFileB op.dest) == (decide (op.kind = 2))) with h3 | h3
      · have h3' := h3
        refine tr_regionD mixed rfl (.run [] [] rfl (st_faddr_box rfl rfl Try.underlying36 rfl Try.sizeOf2 (by decide)) (.run [] [] rfl (st_load_box1 rfl rfl rfl Try.isAgg2 rfl) (.run [500] [] rfl (st_call rfl 500 (X := []) en68 rfl (.val nod) (.cons (.one (.bor .v)) (.cons (.one (.bor .v)) (.cons (.one (.bor .v)) .nil))) (by decide) all_nil .nil (within_con op.kind 1 3) rfl rfl (nle rfl)) (.run [] [] rfl (st_eq (st_move rfl) (by exact congrArg (fun b => AV.p none (.v (.bool b))) h1)) (.run [] [] rfl (st_faddr_box rfl rfl Try.underlying36 rfl Try.sizeOf9 (by decide)) (.run [] [] rfl (st_load_box1 rfl rfl rfl Try.isAgg9 rfl) (.run [900] [] rfl (st_call rfl 900 (X := []) en67 rfl (.val nod) (.cons (.one (.bor .v)) .nil) (by decide) all_nil .nil (isFile_con op.name) rfl rfl (nle rfl)) (.run [] [] rfl (st_pick (t := true) rfl rfl) (.run [] [] rfl (st_eq (st_move rfl) (by exact congrArg (fun b => AV.p none (.v (.bool b))) h2)) (.run [] [] rfl (st_faddr_box rfl rfl Try.underlying36 rfl Try.sizeOf9 (by decide)) (.run [] [] rfl (st_load_box1 rfl rfl rfl Try.isAgg9 rfl) (.run [1400] [] rfl (st_call rfl 1400 (X := []) en67 rfl (.val nod) (.cons (.one (.bor .v)) .nil) (by decide) all_nil .nil (isFile_con op.dest) rfl rfl (nle rfl)) (.run [] [] rfl (st_faddr_box rfl rfl Try.underlying36 rfl Try.sizeOf2 (by decide)) (.run [] [] rfl (st_load_box1 rfl rfl rfl Try.isAgg2 rfl) (.run [] [] rfl (st_eql rfl rfl rfl) (.run [] [] rfl (st_eq (st_beql rfl rfl rfl Try.underlying4) (by exact congrArg (fun b => AV.p none (.v (.bool b))) h3)) (.run [] [] rfl (st_pick (t := true) rfl rfl) (.run [] [] rfl (st_move rfl) (.not rfl (.not rfl (.not rfl (.not rfl (.not rfl (.not rfl (.not rfl (.not rfl (.run [] [] rfl (st_pick (t := false) rfl rfl) (.run [] [] rfl (st_move rfl) (.not rfl (.not rfl (.not rfl (.not rfl (.not rfl (.not rfl (.not rfl (.not rfl (.run [] [] rfl (st_pick (t := false) rfl rfl) (.run [] [] rfl (st_assign rfl) .nil)))))))))))))))))))))))))))))))))))))) (by kernel_rfl) ?_
        refine tr_ret ?_
        exact ends [_] [] (.cons (.tmp (bool_eq (by simp [formF, within_1, within_2, isFile_nil, h1', h2', h3']))) .nil) (.cons (.one .v (.v _)) .nil) (by decide) trivial
      · have h3' := h3
        rcases bfc (decide (op.kind = 2)) with h4 | h4
        · have h4' := h4
          replace h4' := of_decide_eq_false h4'
          rcases bfc ((isFileB op.dest) == false) with h5 | h5
          · have h5' := h5
            refine tr_regionD mixed rfl (.run [] [] rfl (st_faddr_box rfl rfl Try.underlying36 rfl Try.sizeOf2 (by decide)) (.run [] [] rfl (st_load_box1 rfl rfl rfl Try.isAgg2 rfl) (.run [500] [] rfl (st_call rfl 500 (X := []) en68 rfl (.val nod) (.cons (.one (.bor .v)) (.cons (.one (.bor .v)) (.cons (.one (.bor .v)) .nil))) (by decide) all_nil .nil (within_con op.kind 1 3) rfl rfl (nle rfl)) (.run [] [] rfl (st_eq (st_move rfl) (by exact congrArg (fun b => AV.p none (.v (.bool b))) h1)) (.run [] [] rfl (st_faddr_box rfl rfl Try.underlying36 rfl Try.sizeOf9 (by decide)) (.run [] [] rfl (st_load_box1 rfl rfl rfl Try.isAgg9 rfl) (.run [900] [] rfl (st_call rfl 900 (X := []) en67 rfl (.val nod) (.cons (.one (.bor .v)) .nil) (by decide) all_nil .nil (isFile_con op.name) rfl rfl (nle rfl)) (.run [] [] rfl (st_pick (t := true) rfl rfl) (.run [] [] rfl (st_eq (st_move rfl) (by exact congrArg (fun b => AV.p none (.v (.bool b))) h2)) (.run [] [] rfl (st_faddr_box rfl rfl Try.underlying36 rfl Try.sizeOf9 (by decide)) (.run [] [] rfl (st_load_box1 rfl rfl rfl Try.isAgg9 rfl) (.run [1400] [] rfl (st_call rfl 1400 (X := []) en67 rfl (.val nod) (.cons (.one (.bor .v)) .nil) (by decide) all_nil .nil (isFile_con op.dest) rfl rfl (nle rfl)) (.run [] [] rfl (st_faddr_box rfl rfl Try.underlying36 rfl Try.sizeOf2 (by decide)) (.run [] [] rfl (st_load_box1 rfl rfl rfl Try.isAgg2 rfl) (.run [] [] rfl (st_eq (st_eql rfl rfl rfl) (by exact congrArg (fun b => AV.p none (.v (.bool b))) h4)) (.run [] [] rfl (st_eq (st_beql rfl rfl rfl Try.underlying4) (by exact congrArg (fun b => AV.p none (.v (.bool b))) h5)) (.run [] [] rfl (st_pick (t := true) rfl rfl) (.run [] [] rfl (st_move rfl) (.not rfl (.not rfl (.not rfl (.not rfl (.not rfl (.not rfl (.not rfl (.not rfl (.run [] [] rfl (st_pick (t := false) rfl rfl) (.run [] [] rfl (st_move rfl) (.not rfl (.not rfl (.not rfl (.not rfl (.not rfl (.not rfl (.not rfl (.not rfl (.run [] [] rfl (st_pick (t := false) rfl rfl) (.run [] [] rfl (st_assign rfl) .nil)))))))))))))))))))))))))))))))))))))) (by kernel_rfl) ?_
            refine tr_ret ?_
            exact ends [_] [] (.cons (.tmp (bool_eq (by simp [formF, within_1, within_2, isFile_nil, h1', h2', h3', h4', h5']))) .nil) (.cons (.one .v (.v _)) .nil) (by decide) trivial
          · have h5' := h5
            rcases bfc (decide (op.dest = ⟨#[]⟩)) with h6 | h6
            · have h6' := h6
              replace h6' := of_decide_eq_false h6'
              refine tr_regionD mixed rfl (.run [] [] rfl (st_faddr_box rfl rfl Try.underlying36 rfl Try.sizeOf2 (by decide)) (.run [] [] rfl (st_load_box1 rfl rfl rfl Try.isAgg2 rfl) (.run [500] [] rfl (st_call rfl 500 (X := []) en68 rfl (.val nod) (.cons (.one (.bor .v)) (.cons (.one (.bor .v)) (.cons (.one (.bor .v)) .nil))) (by decide) all_nil .nil (within_con op.kind 1 3) rfl rfl (nle rfl)) (.run [] [] rfl (st_eq (st_move rfl) (by exact congrArg (fun b => AV.p none (.v (.bool b))) h1)) (.run [] [] rfl (st_faddr_box rfl rfl Try.underlying36 rfl Try.sizeOf9 (by decide)) (.run [] [] rfl (st_load_box1 rfl rfl rfl Try.isAgg9 rfl) (.run [900] [] rfl (st_call rfl 900 (X := []) en67 rfl (.val nod) (.cons (.one (.bor .v)) .nil) (by decide) all_nil .nil (isFile_con op.name) rfl rfl (nle rfl)) (.run [] [] rfl (st_pick (t := true) rfl rfl) (.run [] [] rfl (st_eq (st_move rfl) (by exact congrArg (fun b => AV.p none (.v (.bool b))) h2)) (.run [] [] rfl (st_faddr_box rfl rfl Try.underlying36 rfl Try.sizeOf9 (by decide)) (.run [] [] rfl (st_load_box1 rfl rfl rfl Try.isAgg9 rfl) (.run [1400] [] rfl (st_call rfl 1400 (X := []) en67 rfl (.val nod) (.cons (.one (.bor .v)) .nil) (by decide) all_nil .nil (isFile_con op.dest) rfl rfl (nle rfl)) (.run [] [] rfl (st_faddr_box rfl rfl Try.underlying36 rfl Try.sizeOf2 (by decide)) (.run [] [] rfl (st_load_box1 rfl rfl rfl Try.isAgg2 rfl) (.run [] [] rfl (st_eq (st_eql rfl rfl rfl) (by exact congrArg (fun b => AV.p none (.v (.bool b))) h4)) (.run [] [] rfl (st_eq (st_beql rfl rfl rfl Try.underlying4) (by exact congrArg (fun b => AV.p none (.v (.bool b))) h5)) (.run [] [] rfl (st_pick (t := true) rfl rfl) (.run [] [] rfl (st_move rfl) (.run [] [] rfl (st_faddr_box rfl rfl Try.underlying36 rfl Try.sizeOf2 (by decide)) (.run [] [] rfl (st_load_box1 rfl rfl rfl Try.isAgg2 rfl) (.run [] [] rfl (st_eq (st_eql rfl rfl rfl) (by exact congrArg (fun b => AV.p none (.v (.bool b))) h4)) (.run [] [] rfl (st_move rfl) (.run [] [] rfl (st_faddr_box rfl rfl Try.underlying36 rfl Try.sizeOf9 (by decide)) (.run [] [] rfl (st_load_box1 rfl rfl rfl Try.isAgg9 rfl) (.run [] [] rfl (st_eq (st_seql rfl rfl rfl) (by exact congrArg (fun b => AV.p none (.v (.bool b))) h6)) (.run [] [] rfl (st_pick (t := false) rfl rfl) (.run [] [] rfl (st_pick (t := true) rfl rfl) (.run [] [] rfl (st_move rfl) (.not rfl (.not rfl (.not rfl (.not rfl (.not rfl (.not rfl (.not rfl (.not rfl (.run [] [] rfl (st_pick (t := false) rfl rfl) (.run [] [] rfl (st_assign rfl) .nil)))))))))))))))))))))))))))))))))))))) (by kernel_rfl) ?_
              refine tr_ret ?_
              exact ends [_] [] (.cons (.tmp (bool_eq (by simp [formF, within_1, within_2, isFile_nil, h1', h2', h3', h4', h5', h6']))) .nil) (.cons (.one .v (.v _)) .nil) (by decide) trivial
            · have h6' := h6
              replace h6' := of_decide_eq_true h6'
              rcases bfc (decide (op.kind = 1)) with h7 | h7
              · have h7' := h7
                replace h7' := of_decide_eq_false h7'
                refine tr_regionD mixed rfl (.run [] [] rfl (st_faddr_box rfl rfl Try.underlying36 rfl Try.sizeOf2 (by decide)) (.run [] [] rfl (st_load_box1 rfl rfl rfl Try.isAgg2 rfl) (.run [500] [] rfl (st_call rfl 500 (X := []) en68 rfl (.val nod) (.cons (.one (.bor .v)) (.cons (.one (.bor .v)) (.cons (.one (.bor .v)) .nil))) (by decide) all_nil .nil (within_con op.kind 1 3) rfl rfl (nle rfl)) (.run [] [] rfl (st_eq (st_move rfl) (by exact congrArg (fun b => AV.p none (.v (.bool b))) h1)) (.run [] [] rfl (st_faddr_box rfl rfl Try.underlying36 rfl Try.sizeOf9 (by decide)) (.run [] [] rfl (st_load_box1 rfl rfl rfl Try.isAgg9 rfl) (.run [900] [] rfl (st_call rfl 900 (X := []) en67 rfl (.val nod) (.cons (.one (.bor .v)) .nil) (by decide) all_nil .nil (isFile_con op.name) rfl rfl (nle rfl)) (.run [] [] rfl (st_pick (t := true) rfl rfl) (.run [] [] rfl (st_eq (st_move rfl) (by exact congrArg (fun b => AV.p none (.v (.bool b))) h2)) (.run [] [] rfl (st_faddr_box rfl rfl Try.underlying36 rfl Try.sizeOf9 (by decide)) (.run [] [] rfl (st_load_box1 rfl rfl rfl Try.isAgg9 rfl) (.run [1400] [] rfl (st_call rfl 1400 (X := []) en67 rfl (.val nod) (.cons (.one (.bor .v)) .nil) (by decide) all_nil .nil (isFile_con op.dest) rfl rfl (nle rfl)) (.run [] [] rfl (st_faddr_box rfl rfl Try.underlying36 rfl Try.sizeOf2 (by decide)) (.run [] [] rfl (st_load_box1 rfl rfl rfl Try.isAgg2 rfl) (.run [] [] rfl (st_eq (st_eql rfl rfl rfl) (by exact congrArg (fun b => AV.p none (.v (.bool b))) h4)) (.run [] [] rfl (st_eq (st_beql rfl rfl rfl Try.underlying4) (by exact congrArg (fun b => AV.p none (.v (.bool b))) h5)) (.run [] [] rfl (st_pick (t := true) rfl rfl) (.run [] [] rfl (st_move rfl) (.run [] [] rfl (st_faddr_box rfl rfl Try.underlying36 rfl Try.sizeOf2 (by decide)) (.run [] [] rfl (st_load_box1 rfl rfl rfl Try.isAgg2 rfl) (.run [] [] rfl (st_eq (st_eql rfl rfl rfl) (by exact congrArg (fun b => AV.p none (.v (.bool b))) h4)) (.run [] [] rfl (st_move rfl) (.run [] [] rfl (st_faddr_box rfl rfl Try.underlying36 rfl Try.sizeOf9 (by decide)) (.run [] [] rfl (st_load_box1 rfl rfl rfl Try.isAgg9 rfl) (.run [] [] rfl (st_eq (st_seql rfl rfl rfl) (by exact congrArg (fun b => AV.p none (.v (.bool b))) h6)) (.run [] [] rfl (st_pick (t := false) rfl rfl) (.run [] [] rfl (st_pick (t := true) rfl rfl) (.run [] [] rfl (st_move rfl) (.run [] [] rfl (st_faddr_box rfl rfl Try.underlying36 rfl Try.sizeOf2 (by decide)) (.run [] [] rfl (st_load_box1 rfl rfl rfl Try.isAgg2 rfl) (.run [] [] rfl (st_eq (st_eql rfl rfl rfl) (by exact congrArg (fun b => AV.p none (.v (.bool b))) h7)) (.run [] [] rfl (st_move rfl) (.run [] [] rfl (st_faddr_box rfl rfl Try.underlying36 rfl Try.sizeOf9 (by decide)) (.run [] [] rfl (st_load_box1 rfl rfl rfl Try.isAgg9 rfl) (.run [] [] rfl (st_seql rfl rfl rfl) (.run [] [] rfl (st_pick (t := false) rfl rfl) (.run [] [] rfl (st_pick (t := true) rfl rfl) (.run [] [] rfl (st_assign rfl) .nil)))))))))))))))))))))))))))))))))))))) (by kernel_rfl) ?_
                refine tr_ret ?_
                exact ends [_] [] (.cons (.tmp (bool_eq (by simp [formF, within_1, within_2, isFile_nil, h1', h2', h3', h4', h5', h6', h7']))) .nil) (.cons (.one .v (.v _)) .nil) (by decide) trivial
              · have h7' := h7
                replace h7' := of_decide_eq_true h7'
                refine tr_regionD mixed rfl (.run [] [] rfl (st_faddr_box rfl rfl Try.underlying36 rfl Try.sizeOf2 (by decide)) (.run [] [] rfl (st_load_box1 rfl rfl rfl Try.isAgg2 rfl) (.run [500] [] rfl (st_call rfl 500 (X := []) en68 rfl (.val nod) (.cons (.one (.bor .v)) (.cons (.one (.bor .v)) (.cons (.one (.bor .v)) .nil))) (by decide) all_nil .nil (within_con op.kind 1 3) rfl rfl (nle rfl)) (.run [] [] rfl (st_eq (st_move rfl) (by exact congrArg (fun b => AV.p none (.v (.bool b))) h1)) (.run [] [] rfl (st_faddr_box rfl rfl Try.underlying36 rfl Try.sizeOf9 (by decide)) (.run [] [] rfl (st_load_box1 rfl rfl rfl Try.isAgg9 rfl) (.run [900] [] rfl (st_call rfl 900 (X := []) en67 rfl (.val nod) (.cons (.one (.bor .v)) .nil) (by decide) all_nil .nil (isFile_con op.name) rfl rfl (nle rfl)) (.run [] [] rfl (st_pick (t := true) rfl rfl) (.run [] [] rfl (st_eq (st_move rfl) (by exact congrArg (fun b => AV.p none (.v (.bool b))) h2)) (.run [] [] rfl (st_faddr_box rfl rfl Try.underlying36 rfl Try.sizeOf9 (by decide)) (.run [] [] rfl (st_load_box1 rfl rfl rfl Try.isAgg9 rfl) (.run [1400] [] rfl (st_call rfl 1400 (X := []) en67 rfl (.val nod) (.cons (.one (.bor .v)) .nil) (by decide) all_nil .nil (isFile_con op.dest) rfl rfl (nle rfl)) (.run [] [] rfl (st_faddr_box rfl rfl Try.underlying36 rfl Try.sizeOf2 (by decide)) (.run [] [] rfl (st_load_box1 rfl rfl rfl Try.isAgg2 rfl) (.run [] [] rfl (st_eq (st_eql rfl rfl rfl) (by exact congrArg (fun b => AV.p none (.v (.bool b))) h4)) (.run [] [] rfl (st_eq (st_beql rfl rfl rfl Try.underlying4) (by exact congrArg (fun b => AV.p none (.v (.bool b))) h5)) (.run [] [] rfl (st_pick (t := true) rfl rfl) (.run [] [] rfl (st_move rfl) (.run [] [] rfl (st_faddr_box rfl rfl Try.underlying36 rfl Try.sizeOf2 (by decide)) (.run [] [] rfl (st_load_box1 rfl rfl rfl Try.isAgg2 rfl) (.run [] [] rfl (st_eq (st_eql rfl rfl rfl) (by exact congrArg (fun b => AV.p none (.v (.bool b))) h4)) (.run [] [] rfl (st_move rfl) (.run [] [] rfl (st_faddr_box rfl rfl Try.underlying36 rfl Try.sizeOf9 (by decide)) (.run [] [] rfl (st_load_box1 rfl rfl rfl Try.isAgg9 rfl) (.run [] [] rfl (st_eq (st_seql rfl rfl rfl) (by exact congrArg (fun b => AV.p none (.v (.bool b))) h6)) (.run [] [] rfl (st_pick (t := false) rfl rfl) (.run [] [] rfl (st_pick (t := true) rfl rfl) (.run [] [] rfl (st_move rfl) (.run [] [] rfl (st_faddr_box rfl rfl Try.underlying36 rfl Try.sizeOf2 (by decide)) (.run [] [] rfl (st_load_box1 rfl rfl rfl Try.isAgg2 rfl) (.run [] [] rfl (st_eq (st_eql rfl rfl rfl) (by exact congrArg (fun b => AV.p none (.v (.bool b))) h7)) (.run [] [] rfl (st_move rfl) (.not rfl (.not rfl (.not rfl (.run [] [] rfl (st_pick (t := true) rfl rfl) (.run [] [] rfl (st_pick (t := true) rfl rfl) (.run [] [] rfl (st_assign rfl) .nil)))))))))))))))))))))))))))))))))))))) (by kernel_rfl) ?_
                refine tr_ret ?_
                exact ends [_] [] (.cons (.tmp (bool_eq (by simp [formF, within_1, within_2, isFile_nil, h1', h2', h3', h4', h5', h6', h7']))) .nil) (.cons (.one .v (.v _)) .nil) (by decide) trivial
        · have h4' := h4
          replace h4' := of_decide_eq_true h4'
          rcases bfc ((isFileB op.dest) == true) with h8 | h8
          · have h8' := h8
            refine tr_regionD mixed rfl (.run [] [] rfl (st_faddr_box rfl rfl Try.underlying36 rfl Try.sizeOf2 (by decide)) (.run [] [] rfl (st_load_box1 rfl rfl rfl Try.isAgg2 rfl) (.run [500] [] rfl (st_call rfl 500 (X := []) en68 rfl (.val nod) (.cons (.one (.bor .v)) (.cons (.one (.bor .v)) (.cons (.one (.bor .v)) .nil))) (by decide) all_nil .nil (within_con op.kind 1 3) rfl rfl (nle rfl)) (.run [] [] rfl (st_eq (st_move rfl) (by exact congrArg (fun b => AV.p none (.v (.bool b))) h1)) (.run [] [] rfl (st_faddr_box rfl rfl Try.underlying36 rfl Try.sizeOf9 (by decide)) (.run [] [] rfl (st_load_box1 rfl rfl rfl Try.isAgg9 rfl) (.run [900] [] rfl (st_call rfl 900 (X := []) en67 rfl (.val nod) (.cons (.one (.bor .v)) .nil) (by decide) all_nil .nil (isFile_con op.name) rfl rfl (nle rfl)) (.run [] [] rfl (st_pick (t := true) rfl rfl) (.run [] [] rfl (st_eq (st_move rfl) (by exact congrArg (fun b => AV.p none (.v (.bool b))) h2)) (.run [] [] rfl (st_faddr_box rfl rfl Try.underlying36 rfl Try.sizeOf9 (by decide)) (.run [] [] rfl (st_load_box1 rfl rfl rfl Try.isAgg9 rfl) (.run [1400] [] rfl (st_call rfl 1400 (X := []) en67 rfl (.val nod) (.cons (.one (.bor .v)) .nil) (by decide) all_nil .nil (isFile_con op.dest) rfl rfl (nle rfl)) (.run [] [] rfl (st_faddr_box rfl rfl Try.underlying36 rfl Try.sizeOf2 (by decide)) (.run [] [] rfl (st_load_box1 rfl rfl rfl Try.isAgg2 rfl) (.run [] [] rfl (st_eq (st_eql rfl rfl rfl) (by exact congrArg (fun b => AV.p none (.v (.bool b))) h4)) (.run [] [] rfl (st_eq (st_beql rfl rfl rfl Try.underlying4) (by exact congrArg (fun b => AV.p none (.v (.bool b))) h8)) (.run [] [] rfl (st_pick (t := true) rfl rfl) (.run [] [] rfl (st_move rfl) (.not rfl (.not rfl (.not rfl (.not rfl (.not rfl (.not rfl (.not rfl (.not rfl (.run [] [] rfl (st_pick (t := false) rfl rfl) (.run [] [] rfl (st_move rfl) (.not rfl (.not rfl (.not rfl (.not rfl (.not rfl (.not rfl (.not rfl (.not rfl (.run [] [] rfl (st_pick (t := false) rfl rfl) (.run [] [] rfl (st_assign rfl) .nil)))))))))))))))))))))))))))))))))))))) (by kernel_rfl) ?_
            refine tr_ret ?_
            exact ends [_] [] (.cons (.tmp (bool_eq (by simp [formF, within_1, within_2, isFile_nil, h1', h2', h3', h4', h8']))) .nil) (.cons (.one .v (.v _)) .nil) (by decide) trivial
          · have h8' := h8
            rcases bfc (decide (op.kind = 1)) with h9 | h9
            · have h9' := h9
              replace h9' := of_decide_eq_false h9'
              refine tr_regionD mixed rfl (.run [] [] rfl (st_faddr_box rfl rfl Try.underlying36 rfl Try.sizeOf2 (by decide)) (.run [] [] rfl (st_load_box1 rfl rfl rfl Try.isAgg2 rfl) (.run [500] [] rfl (st_call rfl 500 (X := []) en68 rfl (.val nod) (.cons (.one (.bor .v)) (.cons (.one (.bor .v)) (.cons (.one (.bor .v)) .nil))) (by decide) all_nil .nil (within_con op.kind 1 3) rfl rfl (nle rfl)) (.run [] [] rfl (st_eq (st_move rfl) (by exact congrArg (fun b => AV.p none (.v (.bool b))) h1)) (.run [] [] rfl (st_faddr_box rfl rfl Try.underlying36 rfl Try.sizeOf9 (by decide)) (.run [] [] rfl (st_load_box1 rfl rfl rfl Try.isAgg9 rfl) (.run [900] [] rfl (st_call rfl 900 (X := []) en67 rfl (.val nod) (.cons (.one (.bor .v)) .nil) (by decide) all_nil .nil (isFile_con op.name) rfl rfl (nle rfl)) (.run [] [] rfl (st_pick (t := true) rfl rfl) (.run [] [] rfl (st_eq (st_move rfl) (by exact congrArg (fun b => AV.p none (.v (.bool b))) h2)) (.run [] [] rfl (st_faddr_box rfl rfl Try.underlying36 rfl Try.sizeOf9 (by decide)) (.run [] [] rfl (st_load_box1 rfl rfl rfl Try.isAgg9 rfl) (.run [1400] [] rfl (st_call rfl 1400 (X := []) en67 rfl (.val nod) (.cons (.one (.bor .v)) .nil) (by decide) all_nil .nil (isFile_con op.dest) rfl rfl (nle rfl)) (.run [] [] rfl (st_faddr_box rfl rfl Try.underlying36 rfl Try.sizeOf2 (by decide)) (.run [] [] rfl (st_load_box1 rfl rfl rfl Try.isAgg2 rfl) (.run [] [] rfl (st_eq (st_eql rfl rfl rfl) (by exact congrArg (fun b => AV.p none (.v (.bool b))) h4)) (.run [] [] rfl (st_eq (st_beql rfl rfl rfl Try.underlying4) (by exact congrArg (fun b => AV.p none (.v (.bool b))) h8)) (.run [] [] rfl (st_pick (t := true) rfl rfl) (.run [] [] rfl (st_move rfl) (.run [] [] rfl (st_faddr_box rfl rfl Try.underlying36 rfl Try.sizeOf2 (by decide)) (.run [] [] rfl (st_load_box1 rfl rfl rfl Try.isAgg2 rfl) (.run [] [] rfl (st_eq (st_eql rfl rfl rfl) (by exact congrArg (fun b => AV.p none (.v (.bool b))) h4)) (.run [] [] rfl (st_move rfl) (.not rfl (.not rfl (.not rfl (.run [] [] rfl (st_pick (t := true) rfl rfl) (.run [] [] rfl (st_pick (t := true) rfl rfl) (.run [] [] rfl (st_move rfl) (.run [] [] rfl (st_faddr_box rfl rfl Try.underlying36 rfl Try.sizeOf2 (by decide)) (.run [] [] rfl (st_load_box1 rfl rfl rfl Try.isAgg2 rfl) (.run [] [] rfl (st_eq (st_eql rfl rfl rfl) (by exact congrArg (fun b => AV.p none (.v (.bool b))) h9)) (.run [] [] rfl (st_move rfl) (.run [] [] rfl (st_faddr_box rfl rfl Try.underlying36 rfl Try.sizeOf9 (by decide)) (.run [] [] rfl (st_load_box1 rfl rfl rfl Try.isAgg9 rfl) (.run [] [] rfl (st_seql rfl rfl rfl) (.run [] [] rfl (st_pick (t := false) rfl rfl) (.run [] [] rfl (st_pick (t := true) rfl rfl) (.run [] [] rfl (st_assign rfl) .nil)))))))))))))))))))))))))))))))))))))) (by kernel_rfl) ?_
              refine tr_ret ?_
              exact ends [_] [] (.cons (.tmp (bool_eq (by simp [formF, within_1, within_2, isFile_nil, h1', h2', h3', h4', h8', h9']))) .nil) (.cons (.one .v (.v _)) .nil) (by decide) trivial
            · have h9' := h9
              replace h9' := of_decide_eq_true h9'
              omega
set_option maxRecDepth 1000000 in
set_option maxHeartbeats 2000000 in
theorem cloneF_con (l : List Fil) (hl : l.length ≤ 1000000000) : Con Try.prog 69 [.one (PV.sl false 2 (pvF l))] [] [.one (.sl true 2 (pvF l))] := by
  refine con_of_tr Try.func69 rfl rfl rfl rfl ?_
  have hle := pvF_length l
  refine tr_seq ?_
  refine tr_region rfl (.run [] [] rfl (st_assign rfl) .nil) ?_
  refine tr_seq ?_
  refine tr_seq ?_
  refine tr_region rfl (.run [] [] rfl (st_move rfl) (.run [] [] rfl (st_isnil (v := .slice none 0 0) rfl rfl (.inl ⟨_, _, _, _, rfl, rfl⟩) Try.underlying24) .nil)) ?_
  refine tr_ifs rfl (fun v h => ⟨_, h.choose_spec.1⟩) (fun h1 => ?_) (fun h1 => ?_)
  · replace h1 : (pvF l).length = 0 := by obtain ⟨b, e, h⟩ := h1; cases e; exact h rfl
    have hl0 : l = [] := List.eq_nil_of_length_eq_zero (by rw [pvF_length] at h1; exact h1)
    subst hl0
    refine tr_seq ?_
    refine tr_region rfl (.run [] [] rfl (st_assign rfl) .nil) ?_
    refine tr_ret ?_
    exact ends [_] [] (.cons (.tmp rfl) .nil) (.cons (.one (.nil _) (.sl _ _ (fun _ h => nomatch h))) .nil) (by decide) trivial
  · skip
    refine tr_skip ?_
    refine tr_seq ?_
    refine tr_region rfl (.run [500] [] rfl (st_buildSlice rfl 500 Try.underlying24 inf69 (nle rfl) (by decide) rfl rfl rfl .nil (by decide) rfl (by decide) rfl (by decide) rfl) (.run [] [] rfl (st_move rfl) (.run [500] [] rfl (st_append rfl 500 (ib := 500) (len := ([] ++ (pvF l)).length) rfl rfl (.row (len := 0) (xs := []) rfl rfl (.inl rfl)) (.fro (pvF_flat _)) Try.underlying24 (sk Try.underlying24 rfl) inf69 rfl (by decide) (by decide) (by decide) List.length_append (by simp only [maxLen, List.length_append, List.length_map, List.length_cons, List.length_nil, List.length_take, List.length_drop, pvF_length, pvD_length]; omega) (by simp only [maxLen, List.length_append, List.length_map, List.length_cons, List.length_nil, List.length_take, List.length_drop, pvF_length, pvD_length]; omega)) (.run [] [] rfl (st_assign rfl) .nil)))) ?_
    have hr2 : [] ++ (pvF l) = pvF l := by exact List.nil_append _
    have hp3 : (.sl 500 0 (([] ++ (pvF l)).length) : AV) = .sl 500 0 ((pvF l).length) := by simp only [hr2]
    refine tr_wk (s' := mk [(2, .sl 500 0 ((pvF l).length))] [] [(500, 2, pvF l)]) ?_ ?_
    · exact wk_mk ⟨hp3, trivial⟩ trivial ⟨(congrArg (fun x => some (2, x)) hr2), trivial⟩ rfl
    refine tr_ret ?_
    exact ends [_] [500] (.cons (.tmp rfl) .nil) (.cons (.one (.row (len := (pvF l).length) (xs := pvF l) rfl rfl) (.sl _ _ (FlatP.clean (pvF_flat l)))) .nil) (by decide) trivial
set_option maxRecDepth 1000000 in
set_option maxHeartbeats 2000000 in
theorem cloneD_con (l : List DOp) (hl : l.length ≤ 1000000000) : Con Try.prog 77 [.one (PV.sl false 4 (pvD l))] [] [.one (.sl true 4 (pvD l))] := by
  refine con_of_tr Try.func77 rfl rfl rfl rfl ?_
  have hle := pvD_length l
  refine tr_seq ?_
  refine tr_region rfl (.run [] [] rfl (st_assign rfl) .nil) ?_
  refine tr_seq ?_
  refine tr_seq ?_
  refine tr_region rfl (.run [] [] rfl (st_move rfl) (.run [] [] rfl (st_isnil (v := .slice none 0 0) rfl rfl (.inl ⟨_, _, _, _, rfl, rfl⟩) Try.underlying25) .nil)) ?_
  refine tr_ifs rfl (fun v h => ⟨_, h.choose_spec.1⟩) (fun h1 => ?_) (fun h1 => ?_)
  · replace h1 : (pvD l).length = 0 := by obtain ⟨b, e, h⟩ := h1; cases e; exact h rfl
    have hl0 : l = [] := List.eq_nil_of_length_eq_zero (by rw [pvD_length] at h1; exact h1)
    subst hl0
    refine tr_seq ?_
    refine tr_region rfl (.run [] [] rfl (st_assign rfl) .nil) ?_
    refine tr_ret ?_
    exact ends [_] [] (.cons (.tmp rfl) .nil) (.cons (.one (.nil _) (.sl _ _ (fun _ h => nomatch h))) .nil) (by decide) trivial
  · skip
    refine tr_skip ?_
    refine tr_seq ?_
    refine tr_region rfl (.run [500] [] rfl (st_buildSlice rfl 500 Try.underlying25 inf36 (nle rfl) (by decide) rfl rfl rfl .nil (by decide) rfl (by decide) rfl (by decide) rfl) (.run [] [] rfl (st_move rfl) (.run [500] [] rfl (st_append rfl 500 (ib := 500) (len := ([] ++ (pvD l)).length) rfl rfl (.row (len := 0) (xs := []) rfl rfl (.inl rfl)) (.fro (pvD_flat _)) Try.underlying25 (sk Try.underlying25 rfl) inf36 rfl (by decide) (by decide) (by decide) List.length_append (by simp only [maxLen, List.length_append, List.length_map, List.length_cons, List.length_nil, List.length_take, List.length_drop, pvF_length, pvD_length]; omega) (by simp only [maxLen, List.length_append, List.length_map, List.length_cons, List.length_nil, List.length_take, List.length_drop, pvF_length, pvD_length]; omega)) (.run [] [] rfl (st_assign rfl) .nil)))) ?_
    have hr2 : [] ++ (pvD l) = pvD l := by exact List.nil_append _
    have hp3 : (.sl 500 0 (([] ++ (pvD l)).length) : AV) = .sl 500 0 ((pvD l).length) := by simp only [hr2]
    refine tr_wk (s' := mk [(2, .sl 500 0 ((pvD l).length))] [] [(500, 4, pvD l)]) ?_ ?_
    · exact wk_mk ⟨hp3, trivial⟩ trivial ⟨(congrArg (fun x => some (4, x)) hr2), trivial⟩ rfl
    refine tr_ret ?_
    exact ends [_] [500] (.cons (.tmp rfl) .nil) (.cons (.one (.row (len := (pvD l).length) (xs := pvD l) rfl rfl) (.sl _ _ (FlatP.clean (pvD_flat l)))) .nil) (by decide) trivial
set_option maxRecDepth 1000000 in
set_option maxHeartbeats 2000000 in
theorem equalF_con (a b : List Fil) (hl : a.length ≤ 1000000000) : Con Try.prog 37 [.one (PV.sl false 2 (pvF a)), .one (PV.sl false 2 (pvF b))] [] [.one (.v (.bool (decide (a = b))))] := by
  refine con_of_tr Try.func37 rfl rfl rfl rfl ?_
  have hla := pvF_length a
  have hlb := pvF_length b
  refine tr_seq ?_
  refine tr_region rfl (.run [] [] rfl (st_assign rfl) .nil) ?_
  refine tr_seq ?_
  refine tr_seq ?_
  refine tr_region rfl (.run [] [] rfl (st_move rfl) (.run [] [] rfl (st_len_fro rfl rfl Try.underlying24) (.run [] [] rfl (st_move rfl) (.run [] [] rfl (st_len_fro rfl rfl Try.underlying24) (.run [] [] rfl (st_neq rfl rfl rfl) .nil))))) ?_
  refine tr_if (t := (!(decide (((pvF a).length : Int) = ((pvF b).length : Int))))) rfl (fun h1 => ?_) (fun h1 => ?_)
  · skip
    replace h1 : ¬ (((pvF a).length : Int) = ((pvF b).length : Int)) := of_decide_eq_false (bnot_t h1)
    refine tr_seq ?_
    refine tr_region rfl (.run [] [] rfl (st_assign rfl) .nil) ?_
    refine tr_ret ?_
    exact ends [_] [] (.cons (.tmp (bool_eq (decide_eq_false (fun e => by subst e; omega)).symm)) .nil) (.cons (.one .v (.v _)) .nil) (by decide) trivial
  · skip
    replace h1 : ((pvF a).length : Int) = ((pvF b).length : Int) := of_decide_eq_true (bnot_f h1)
    refine tr_skip ?_
    refine tr_seq ?_
    refine tr_seq ?_
    refine tr_region rfl (.run [] [] rfl (st_move rfl) (.run [] [] rfl (st_len_fro rfl rfl Try.underlying24) (.run [] [] rfl (st_move rfl) .nil))) ?_
    refine tr_block ?_
    refine tr_loopS (σ := Nat) (fun i => mk [(0, .p none (.sl false 2 (pvF a))), (1, .p none (.sl false 2 (pvF b))), (12, .p none (.v (.int .i64 ((pvF a).length : Int)))), (13, .p none (.v (.int .i64 (i:Int))))] [] []) (fun i => i ≤ a.length ∧ ∀ j, j < i → a[j]? = b[j]?) (fun i => a.length - i) 0 ⟨Nat.zero_le _, fun j hj => absurd hj (Nat.not_lt_zero j)⟩ (wk_mk ⟨rfl, ⟨rfl, ⟨rfl, ⟨(int_eq (by omega)), trivial⟩⟩⟩⟩ trivial trivial rfl) ?_
    rintro i hG
    replace hG : i ≤ a.length ∧ ∀ j, j < i → a[j]? = b[j]? := hG
    obtain ⟨hi, hG⟩ := hG
    refine tr_seq ?_
    refine tr_region rfl (.run [] [] rfl (st_lss rfl rfl rfl) .nil) ?_
    refine tr_seq ?_
    refine tr_if (t := decide ((i:Int) < ((pvF a).length : Int))) rfl (fun h2 => ?_) (fun h2 => ?_)
    · skip
      replace h2 := of_decide_eq_true h2
      refine tr_skip ?_
      refine tr_seq ?_
      refine tr_block ?_
      refine tr_seq ?_
      refine tr_region rfl (.run [] [] rfl (st_move rfl) (.run [] [] rfl (st_assign rfl) .nil)) ?_
      refine tr_seq ?_
      obtain ⟨e, he⟩ : ∃ e, a[i]? = some e := ⟨_, List.getElem?_eq_getElem (by (have hL := pvF_length a; omega))⟩
      have hlte := (List.getElem?_eq_some_iff.1 he).1
      obtain ⟨e2, he2⟩ : ∃ e, b[i]? = some e := ⟨_, List.getElem?_eq_getElem (by (have hL := pvF_length b; omega))⟩
      have hlte2 := (List.getElem?_eq_some_iff.1 he2).1
      refine tr_regionD mixed rfl (.run [] [] rfl (st_move rfl) (.run [] [] rfl (st_move rfl) (.run [] [] rfl (st_idx_fro rfl rfl rfl Try.underlying24 Try.sizeOf69 rfl (by omega) (pvF_get he)) (.run [] [] rfl (st_load_fea rfl rfl Try.isAgg69 Try.sizeOf69 (nle rfl)) (.run [] [] rfl (st_move rfl) (.run [] [] rfl (st_move rfl) (.run [] [] rfl (st_idx_fro rfl rfl rfl Try.underlying24 Try.sizeOf69 rfl (by omega) (pvF_get he2)) (.run [] [] rfl (st_load_fea rfl rfl Try.isAgg69 Try.sizeOf69 (nle rfl)) (.run [] [] rfl (st_aneq rfl rfl rfl rfl rfl Try.eqGuardType69 (fun w => Fil_eqIn e e2 w)) .nil))))))))) (by kernel_rfl) ?_
      refine tr_if (t := (!(decide (e = e2)))) rfl (fun h3 => ?_) (fun h3 => ?_)
      · skip
        replace h3 : ¬ (e = e2) := of_decide_eq_false (bnot_t h3)
        refine tr_seq ?_
        refine tr_region rfl (.run [] [] rfl (st_assign rfl) .nil) ?_
        refine tr_ret ?_
        exact ends [_] [] (.cons (.tmp (bool_eq (decide_eq_false (glist_ne he he2 h3)).symm)) .nil) (.cons (.one .v (.v _)) .nil) (by decide) trivial
      · skip
        replace h3 : e = e2 := of_decide_eq_true (bnot_f h3)
        refine tr_skip ?_
        refine tr_region rfl (.run [] [] rfl (st_addn rfl rfl rfl (by omega)) (.run [] [] rfl (st_move rfl) .nil)) ?_
        refine nxt (Q := fun _ _ => False) (z := i) (i + 1) ?_ ?_ ?_
        · show (i + 1) ≤ a.length ∧ ∀ j, j < (i + 1) → a[j]? = b[j]?
          exact ⟨by omega, glist_step hG he he2 h3⟩
        · show a.length - (i + 1) < a.length - i
          omega
        · exact wk_mk ⟨rfl, ⟨rfl, ⟨rfl, ⟨(int_eq (by omega)), trivial⟩⟩⟩⟩ trivial trivial rfl
    · skip
      replace h2 := of_decide_eq_false h2
      refine tr_exit ?_
      refine tr_seq ?_
      refine tr_region rfl (.run [] [] rfl (st_assign rfl) .nil) ?_
      refine tr_ret ?_
      exact ends [_] [] (.cons (.tmp (bool_eq (decide_eq_true (glist_all (by omega) (by omega) hG)).symm)) .nil) (.cons (.one .v (.v _)) .nil) (by decide) trivial
set_option maxRecDepth 1000000 in
set_option maxHeartbeats 2000000 in
theorem deleteF_con (l : List Fil) (k : Nat) (hk : k < l.length) (hl : l.length ≤ 1000000000) : Con Try.prog 72 [.one (.sl true 2 (pvF l)), .one (PV.v (.int .i64 (k:Int))), .one (PV.v (.int .i64 ((k:Int) + 1)))] [none] [.one (.sl true 2 (pvF (l.eraseIdx k)))] := by
  refine con_of_tr Try.func72 rfl rfl rfl rfl ?_
  have hle := pvF_length l
  refine tr_seq ?_
  refine tr_region rfl (.run [] [] rfl (st_assign rfl) .nil) ?_
  refine tr_seq ?_
  refine tr_region rfl (.run [] [] rfl (st_move rfl) (.run [] [] rfl (st_move rfl) (.run [] [] rfl (st_move rfl) (.run [] [] rfl (st_move rfl) (.run [] [] rfl (st_len_row rfl rfl Try.underlying24) (.run [] [] rfl (st_cut3 (l := k) (h := k + 1) (m := (pvF l).length) rfl rfl rfl rfl rfl rfl rfl rfl Try.underlying24 Try.sizeOf69 (by omega) (by omega) (Nat.le_refl _)) .nil)))))) ?_
  refine tr_seq ?_
  refine tr_seq ?_
  refine tr_region rfl (.run [] [] rfl (st_move rfl) (.run [] [] rfl (st_move rfl) (.run [] [] rfl (st_eql rfl rfl rfl) .nil))) ?_
  refine tr_if (t := decide ((k:Int) = ((k:Int) + 1))) rfl (fun h1 => ?_) (fun h1 => ?_)
  · skip
    replace h1 := of_decide_eq_true h1
    omega
  · skip
    replace h1 := of_decide_eq_false h1
    refine tr_skip ?_
    refine tr_seq ?_
    refine tr_region rfl (.run [] [] rfl (st_move rfl) (.run [] [] rfl (st_len_row rfl rfl Try.underlying24) (.run [] [] rfl (st_assign rfl) .nil))) ?_
    refine tr_seq ?_
    refine tr_wk (s' := mk [(0, .sl 100000 0 ((pvF l).length)), (1, .p none (.v (.int .i64 (k:Int)))), (2, .p none (.v (.int .i64 ((k:Int) + 1)))), (7, .p none (.v (.int .i64 ((pvF l).length : Int))))] [] [(100000, 2, pvF l)]) ?_ ?_
    · exact wk_mk ⟨rfl, ⟨rfl, ⟨rfl, ⟨rfl, trivial⟩⟩⟩⟩ trivial ⟨rfl, trivial⟩ rfl
    refine tr_regionD mixed rfl (.run [] [] rfl (st_move rfl) (.run [] [] rfl (st_move rfl) (.run [] [] rfl (st_cut_row0 (l := 0) (h := k) rfl rfl rfl Try.underlying24 Try.sizeOf69 .no (.at_ rfl rfl) (Nat.zero_le _) (by omega) rfl) (.run [] [] rfl (st_move rfl) (.run [] [] rfl (st_move rfl) (.run [] [] rfl (st_cut_row0 (l := k + 1) (h := (pvF l).length) rfl rfl rfl Try.underlying24 Try.sizeOf69 (.at_ rfl rfl) .no (by omega) (Nat.le_refl _) rfl) (.run [] [] rfl (st_append_in (q := k) (m := k + 1) (len := (k + ((pvF l).length - (k + 1)))) (xs := pvF l) rfl rfl rfl rfl (pvF_flat l) Try.underlying24 Try.underlying24 inf69 (by omega) (by omega) (.inr (by omega)) rfl) (.run [] [] rfl (st_assign rfl) .nil)))))))) (by kernel_rfl) ?_
    refine tr_seq ?_
    refine tr_region rfl (.run [] [] rfl (st_move rfl) (.run [] [] rfl (st_move rfl) (.run [] [] rfl (st_len_row rfl rfl Try.underlying24) (.run [] [] rfl (st_move rfl) (.run [] [] rfl (st_cut_ext (l := (k + ((pvF l).length - (k + 1)))) (h := (pvF l).length) rfl rfl rfl rfl rfl rfl rfl Try.underlying24 Try.sizeOf69 (by omega) (by rw [gdel_len (by omega)]; omega) rfl) (.run [] [] rfl (st_clear (lo := (k + ((pvF l).length - (k + 1)))) (len := (pvF l).length - (k + ((pvF l).length - (k + 1)))) rfl rfl rfl (gdel_flat (pvF_flat l)) Try.underlying24 inf69 rfl rfl (by rw [gdel_len (by omega)]; omega)) .nil)))))) ?_
    refine tr_seq ?_
    refine tr_region rfl (.run [] [] rfl (st_move rfl) (.run [] [] rfl (st_assign rfl) .nil)) ?_
    refine tr_ret ?_
    exact ends [_] [100000] (.cons (.tmp rfl) .nil) (.cons (.one (gv_eq (.pre (len := (k + ((pvF l).length - (k + 1)))) (xs := ((pvF l).take k ++ (pvF l).drop (k + 1) ++ (pvF l).drop (k + ((pvF l).length - (k + 1)))).take (k + ((pvF l).length - (k + 1))) ++ List.replicate ((pvF l).length - (k + ((pvF l).length - (k + 1)))) [PV.v (.string ⟨#[]⟩), PV.v (.string ⟨#[]⟩)]) rfl (gdel_le (by omega)) (gdel_flat2 (pvF_flat l) (by simp [PV.isV]))) (congrArg (PV.sl true 2) ((gdel_eq (by omega)).trans (map_erase _ _ _)))) (.sl _ _ (FlatP.clean (pvF_flat _)))) .nil) (by decide) ⟨trivial, trivial⟩
set_option maxRecDepth 1000000 in
set_option maxHeartbeats 2000000 in
theorem bsearch_con (l : List Fil) (u : ByteArray) (hl : l.length ≤ 1000000000) (f : Nat) (pss : List (List PV)) (c : Fil → Int) (hE : ∀ vs w, (callFunc f vs).run Try.prog w = .ok (.enter f vs) w) (hp : ∀ s ∈ l, Con Try.prog f ([.agg s.pv, .one (.v (.string u))] ++ pss.map .fbox) [] [.one (.v (.int .i64 (c s)))]) (hmn : MonoP (fun s => decide (c s < 0)) l) : Con Try.prog 87 [.one (PV.sl false 2 (pvF l)), .one (PV.v (.string u)), .one (PV.clo f pss)] [] [.one (.v (.int .i64 (cntF (fun s => decide (c s < 0)) l : Int))), .one (.v (.bool (foundC c l)))] := by
  refine con_of_tr Try.func87 rfl rfl rfl rfl ?_
  have hle := pvF_length l
  refine tr_seq ?_
  refine tr_region rfl (.run [] [] rfl (st_assign rfl) (.run [] [] rfl (st_assign rfl) .nil)) ?_
  refine tr_seq ?_
  refine tr_region rfl (.run [] [] rfl (st_move rfl) (.run [] [] rfl (st_len_fro rfl rfl Try.underlying24) (.run [] [] rfl (st_assign rfl) .nil))) ?_
  refine tr_seq ?_
  refine tr_region rfl (.run [] [] rfl (st_move rfl) (.run [] [] rfl (st_assign rfl) (.run [] [] rfl (st_assign rfl) .nil))) ?_
  refine tr_seq ?_
  refine tr_block ?_
  refine tr_loopS (σ := Nat × Nat) (fun (i, j) => mk [(0, .p none (.sl false 2 (pvF l))), (1, .p none (.v (.string u))), (2, .p none (.clo f pss)), (8, .p none (.v (.int .i64 ((pvF l).length : Int)))), (9, .p none (.v (.int .i64 (i:Int)))), (10, .p none (.v (.int .i64 (j:Int))))] [] []) (fun (i, j) => (j ≤ l.length ∧ i ≤ j) ∧ Halves (fun s => decide (c s < 0)) l i j) (fun (i, j) => j - i) (0, l.length) ⟨⟨Nat.le_refl _, Nat.zero_le _⟩, halves_start⟩ (wk_mk ⟨rfl, ⟨rfl, ⟨rfl, ⟨rfl, ⟨(int_eq (by omega)), ⟨(int_eq (by omega)), trivial⟩⟩⟩⟩⟩⟩ trivial trivial rfl) ?_
  rintro ⟨i, j⟩ hG
  replace hG : (j ≤ l.length ∧ i ≤ j) ∧ Halves (fun s => decide (c s < 0)) l i j := hG
  obtain ⟨⟨hj, hij⟩, hH⟩ := hG
  refine tr_seq ?_
  refine tr_seq ?_
  refine tr_region rfl (.run [] [] rfl (st_move rfl) (.run [] [] rfl (st_move rfl) (.run [] [] rfl (st_lss rfl rfl rfl) .nil))) ?_
  refine tr_if (t := decide ((i:Int) < (j:Int))) rfl (fun h1 => ?_) (fun h1 => ?_)
  · skip
    replace h1 := of_decide_eq_true h1
    refine tr_skip ?_
    refine tr_block ?_
    refine tr_seq ?_
    obtain ⟨m, hm⟩ : ∃ m : Nat, m = (i + j) / 2 := ⟨_, rfl⟩
    refine tr_region rfl (.run [] [] rfl (st_move rfl) (.run [] [] rfl (st_move rfl) (.run [] [] rfl (st_addn rfl rfl rfl (by omega)) (.run [] [] rfl (st_conv rfl rfl Try.underlying3 Try.underlying46) (.run [] [] rfl (st_shr rfl rfl rfl (by omega)) (.run [] [] rfl (st_eq (st_conv rfl rfl Try.underlying46 Try.underlying3) ((int_eq (b := (m:Int)) (by rw [hm, show (i:Int) + (j:Int) = ((i + j : Nat) : Int) from (Int.natCast_add i j).symm]; exact shr_one (i + j) (by omega))))) (.run [] [] rfl (st_assign rfl) .nil))))))) ?_
    refine tr_seq ?_
    refine tr_wk (s' := mk [(0, .p none (.sl false 2 (pvF l))), (1, .p none (.v (.string u))), (2, .p none (.clo f pss)), (8, .p none (.v (.int .i64 ((pvF l).length : Int)))), (9, .p none (.v (.int .i64 (i:Int)))), (10, .p none (.v (.int .i64 (j:Int)))), (11, .p none (.v (.int .i64 (m:Int))))] [] []) ?_ ?_
    · exact wk_mk ⟨rfl, ⟨rfl, ⟨rfl, ⟨rfl, ⟨rfl, ⟨rfl, ⟨rfl, trivial⟩⟩⟩⟩⟩⟩⟩ trivial trivial rfl
    obtain ⟨e, he⟩ : ∃ e, l[m]? = some e := ⟨_, List.getElem?_eq_getElem (by (have hL := pvF_length l; omega))⟩
    have hlte := (List.getElem?_eq_some_iff.1 he).1
    refine tr_region rfl (.run [] [] rfl (st_move rfl) (.run [] [] rfl (st_move rfl) (.run [] [] rfl (st_move rfl) (.run [] [] rfl (st_idx_fro rfl rfl rfl Try.underlying24 Try.sizeOf69 rfl (by omega) (pvF_get he)) (.run [] [] rfl (st_load_fea rfl rfl Try.isAgg69 Try.sizeOf69 (nle rfl)) (.run [] [] rfl (st_move rfl) (.run [3000] [] rfl (st_call rfl 3000 (X := []) hE rfl (.val nod) (.cons (.agg (.cons (.bor .v) (.cons (.bor .v) .nil))) (.cons (.one (.bor .v)) .nil)) (by decide) all_nil .nil (hp e (List.mem_of_getElem? he)) rfl rfl (nle rfl)) (.run [] [] rfl (st_lss rfl rfl rfl) .nil)))))))) ?_
    refine tr_if (t := decide ((c e) < 0)) rfl (fun h2 => ?_) (fun h2 => ?_)
    · skip
      replace h2 := of_decide_eq_true h2
      refine tr_region rfl (.run [] [] rfl (st_move rfl) (.run [] [] rfl (st_addn rfl rfl rfl (by omega)) (.run [] [] rfl (st_assign rfl) .nil))) ?_
      refine nxt (Q := fun _ _ => False) (z := (i, j)) (m + 1, j) ?_ ?_ ?_
      · show (j ≤ l.length ∧ (m + 1) ≤ j) ∧ Halves (fun s => decide (c s < 0)) l (m + 1) j
        exact ⟨⟨by omega, by omega⟩, halves_up hmn hH he (decide_eq_true h2)⟩
      · show j - (m + 1) < j - i
        omega
      · exact wk_mk ⟨rfl, ⟨rfl, ⟨rfl, ⟨rfl, ⟨(int_eq (by omega)), ⟨rfl, trivial⟩⟩⟩⟩⟩⟩ trivial trivial rfl
    · skip
      replace h2 := of_decide_eq_false h2
      refine tr_region rfl (.run [] [] rfl (st_move rfl) (.run [] [] rfl (st_assign rfl) .nil)) ?_
      refine nxt (Q := fun _ _ => False) (z := (i, j)) (i, m) ?_ ?_ ?_
      · show (m ≤ l.length ∧ i ≤ m) ∧ Halves (fun s => decide (c s < 0)) l i m
        exact ⟨⟨by omega, by omega⟩, halves_down hmn hH he (decide_eq_false h2)⟩
      · show m - i < j - i
        omega
      · exact wk_mk ⟨rfl, ⟨rfl, ⟨rfl, ⟨rfl, ⟨rfl, ⟨rfl, trivial⟩⟩⟩⟩⟩⟩ trivial trivial rfl
  · skip
    replace h1 := of_decide_eq_false h1
    refine tr_exit ?_
    refine tr_seq ?_
    refine tr_wk (s' := mk [(0, .p none (.sl false 2 (pvF l))), (1, .p none (.v (.string u))), (2, .p none (.clo f pss)), (8, .p none (.v (.int .i64 ((pvF l).length : Int)))), (9, .p none (.v (.int .i64 (i:Int))))] [] []) ?_ ?_
    · exact wk_mk ⟨rfl, ⟨rfl, ⟨rfl, ⟨rfl, ⟨rfl, trivial⟩⟩⟩⟩⟩ trivial trivial rfl
    rcases bfc (decide ((i:Int) < ((pvF l).length : Int))) with h3 | h3
    · have h3' := h3
      replace h3' := of_decide_eq_false h3'
      refine tr_region rfl (.run [] [] rfl (st_move rfl) (.run [] [] rfl (st_move rfl) (.run [] [] rfl (st_move rfl) (.run [] [] rfl (st_eq (st_lss rfl rfl rfl) (by exact congrArg (fun b => AV.p none (.v (.bool b))) h3)) (.run [] [] rfl (st_move rfl) (.not rfl (.not rfl (.not rfl (.not rfl (.not rfl (.not rfl (.not rfl (.not rfl (.run [] [] rfl (st_pick (t := false) rfl rfl) (.run [] [] rfl (st_assign rfl) (.run [] [] rfl (st_assign rfl) .nil)))))))))))))))) ?_
      refine tr_ret ?_
      exact ends [_, _] [] (.cons (.tmp (int_eq (by rw [halves_end (by omega) (by omega) hH]))) (.cons (.tmp (bool_eq (by rw [foundC, halves_end (by omega) (by omega) hH, List.getElem?_eq_none (by omega)]))) .nil)) (.cons (.one .v (.v _)) (.cons (.one .v (.v _)) .nil)) (by decide) trivial
    · have h3' := h3
      replace h3' := of_decide_eq_true h3'
      obtain ⟨e, he⟩ : ∃ e, l[i]? = some e := ⟨_, List.getElem?_eq_getElem (by (have hL := pvF_length l; omega))⟩
      have hlte := (List.getElem?_eq_some_iff.1 he).1
      refine tr_region rfl (.run [] [] rfl (st_move rfl) (.run [] [] rfl (st_move rfl) (.run [] [] rfl (st_move rfl) (.run [] [] rfl (st_eq (st_lss rfl rfl rfl) (by exact congrArg (fun b => AV.p none (.v (.bool b))) h3)) (.run [] [] rfl (st_move rfl) (.run [] [] rfl (st_move rfl) (.run [] [] rfl (st_move rfl) (.run [] [] rfl (st_move rfl) (.run [] [] rfl (st_idx_fro rfl rfl rfl Try.underlying24 Try.sizeOf69 rfl (by omega) (pvF_get he)) (.run [] [] rfl (st_load_fea rfl rfl Try.isAgg69 Try.sizeOf69 (nle rfl)) (.run [] [] rfl (st_move rfl) (.run [4600] [] rfl (st_call rfl 4600 (X := []) hE rfl (.val nod) (.cons (.agg (.cons (.bor .v) (.cons (.bor .v) .nil))) (.cons (.one (.bor .v)) .nil)) (by decide) all_nil .nil (hp e (List.mem_of_getElem? he)) rfl rfl (nle rfl)) (.run [] [] rfl (st_eql rfl rfl rfl) (.run [] [] rfl (st_pick (t := true) rfl rfl) (.run [] [] rfl (st_assign rfl) (.run [] [] rfl (st_assign rfl) .nil)))))))))))))))) ?_
      refine tr_ret ?_
      exact ends [_, _] [] (.cons (.tmp (int_eq (by rw [halves_end (by omega) (by omega) hH]))) (.cons (.tmp (bool_eq (by rw [foundC, halves_end (by omega) (by omega) hH, he]))) .nil)) (.cons (.one .v (.v _)) (.cons (.one .v (.v _)) .nil)) (by decide) trivial
set_option maxRecDepth 1000000 in
set_option maxHeartbeats 2000000 in
theorem findc_con (e : Fil) (n : ByteArray) : Con Try.prog 88 [.agg [PV.v (.string e.name), PV.v (.string e.data)], .one (PV.v (.string n))] [] [.one (.v (.int .i64 (nameC n e)))] := by
  refine con_of_tr Try.func88 rfl rfl rfl rfl ?_
  refine tr_seq ?_
  refine tr_region rfl (.run [] [2] rfl (st_box rfl 2 rfl rfl (by decide) rfl (by decide)) (.run [] [] rfl (st_assign rfl) .nil)) ?_
  refine tr_seq ?_
  refine tr_region rfl (.run [] [] rfl (st_faddr_box rfl rfl Try.underlying69 rfl Try.sizeOf9 (by decide)) (.run [] [] rfl (st_load_box1 rfl rfl rfl Try.isAgg9 rfl) (.run [] [] rfl (st_move rfl) (.run [800] [] rfl (st_call rfl 800 (X := []) en89 rfl (.val nod) (.cons (.one (.bor .v)) (.cons (.one (.bor .v)) .nil)) (by decide) all_nil .nil (cmpS_con e.name n) rfl rfl (nle rfl)) (.run [] [] rfl (st_assign rfl) .nil))))) ?_
  refine tr_ret ?_
  exact ends [_] [] (.cons (.tmp (int_eq rfl)) .nil) (.cons (.one .v (.v _)) .nil) (by decide) trivial
set_option maxRecDepth 1000000 in
set_option maxHeartbeats 2000000 in
theorem find_con (l : List Fil) (n : ByteArray) (k : Nat) (hk : k = posF l n) (hs : Srt l) (hl : l.length ≤ 1000000000) : Con Try.prog 70 [.one (PV.sl false 2 (pvF l)), .one (PV.v (.string n))] [] [.one (.v (.int .i64 (k:Int))), .one (.v (.bool (hasF l n)))] := by
  refine con_of_tr Try.func70 rfl rfl rfl rfl ?_
  have hle := pvF_length l
  refine tr_seq ?_
  refine tr_region rfl (.run [] [] rfl (st_assign rfl) (.run [] [] rfl (st_assign rfl) .nil)) ?_
  refine tr_seq ?_
  refine tr_region rfl (.run [] [] rfl (st_move rfl) (.run [] [] rfl (st_move rfl) (.run [800, 801] [] rfl (st_call rfl 800 (X := []) en87 rfl (.val nod) (.cons (.one (.bor (.sl nod))) (.cons (.one (.bor .v)) (.cons (.one (.bor (.cl nod))) .nil))) (by decide) all_nil .nil (bsearch_con l n hl 88 [] (nameC n) en88 (fun e _ => findc_con e n) (srt_mono hs n)) rfl rfl (nle rfl)) (.run [] [] rfl (st_extract rfl rfl rfl) (.run [] [] rfl (st_extract rfl rfl rfl) (.run [] [] rfl (st_assign rfl) (.run [] [] rfl (st_assign rfl) .nil))))))) ?_
  refine tr_ret ?_
  exact ends [_, _] [] (.cons (.tmp (int_eq (by rw [cnt_pos, hk]))) (.cons (.tmp (bool_eq (found_has hs n))) .nil)) (.cons (.one .v (.v _)) (.cons (.one .v (.v _)) .nil)) (by decide) trivial
end Go.Rl

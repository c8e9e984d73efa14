/- Promises of functions, proved by walks over their operations; no conditions beyond those that each theorem states. -/
import Derived.Test.YtmjfdldfaeaolaaRlV
namespace Go.Rl
open Go.Proofs
theorem en73 : ∀ vs w, (callFunc 73 vs).run Try.prog w = .ok (.enter 73 vs) w := enters Try.func73 (by decide) rfl
set_option maxRecDepth 1000000 in
theorem l1In_con (n low high : Int) : Con Try.prog 76 [.one (PV.v (.int .i64 n)), .one (PV.v (.int .i64 low)), .one (PV.v (.int .i64 high))] [] [.one (.v (.bool (within n low high)))] := by
  refine con_of_tr Try.func76 rfl rfl rfl rfl ?_
  refine tr_seq ?_
  refine tr_region rfl (.run [] [] rfl (st_assign rfl) .nil) ?_
  refine tr_seq ?_
  rcases bfc (decide (low ≤ n)) with h1 | h1
  · have h1' := h1
    replace h1' := of_decide_eq_false h1'
    refine tr_region rfl (.run [] [] rfl (st_move rfl) (.run [] [] rfl (st_move rfl) (.run [] [] rfl (st_eq (st_geq rfl rfl rfl) (by exact congrArg (fun b => AV.p none (.v (.bool b))) h1)) (.run [] [] rfl (st_move rfl) (.not rfl (.not rfl (.not rfl (.run [] [] rfl (st_pick (t := false) rfl rfl) (.run [] [] rfl (st_assign rfl) .nil))))))))) ?_
    refine tr_ret ?_
    exact ends [_] [] (.cons (.tmp (bool_eq (by simp [within, h1']))) .nil) (.cons (.one .v (.v _)) .nil) (by decide) trivial
  · have h1' := h1
    replace h1' := of_decide_eq_true h1'
    refine tr_region rfl (.run [] [] rfl (st_move rfl) (.run [] [] rfl (st_move rfl) (.run [] [] rfl (st_eq (st_geq rfl rfl rfl) (by exact congrArg (fun b => AV.p none (.v (.bool b))) h1)) (.run [] [] rfl (st_move rfl) (.run [] [] rfl (st_move rfl) (.run [] [] rfl (st_move rfl) (.run [] [] rfl (st_leq rfl rfl rfl) (.run [] [] rfl (st_pick (t := true) rfl rfl) (.run [] [] rfl (st_assign rfl) .nil))))))))) ?_
    refine tr_ret ?_
    exact ends [_] [] (.cons (.tmp (bool_eq (by simp [within, h1']))) .nil) (.cons (.one .v (.v _)) .nil) (by decide) trivial
set_option maxRecDepth 1000000 in
theorem l6Name_con (s : ByteArray) : Con Try.prog 73 [.one (PV.v (.string s))] [] [.one (.v (.bool (isFileB s)))] := by
  refine con_of_tr Try.func73 rfl rfl rfl rfl ?_
  refine tr_seq ?_
  refine tr_region rfl (.run [] [] rfl (st_assign rfl) .nil) ?_
  refine tr_seq ?_
  rcases bfc (decide (1 ≤ (s.size : Int))) with h1 | h1
  · have h1' := h1
    replace h1' := of_decide_eq_false h1'
    refine tr_region rfl (.run [] [] rfl (st_move rfl) (.run [] [] rfl (st_len_str rfl rfl Try.underlying9) (.run [] [] rfl (st_eq (st_geq rfl rfl rfl) (by exact congrArg (fun b => AV.p none (.v (.bool b))) h1)) (.run [] [] rfl (st_move rfl) (.not rfl (.not rfl (.not rfl (.run [] [] rfl (st_pick (t := false) rfl rfl) (.run [] [] rfl (st_assign rfl) .nil))))))))) ?_
    refine tr_ret ?_
    exact ends [_] [] (.cons (.tmp (bool_eq (by simp [isFileB, h1']))) .nil) (.cons (.one .v (.v _)) .nil) (by decide) trivial
  · have h1' := h1
    replace h1' := of_decide_eq_true h1'
    refine tr_region rfl (.run [] [] rfl (st_move rfl) (.run [] [] rfl (st_len_str rfl rfl Try.underlying9) (.run [] [] rfl (st_eq (st_geq rfl rfl rfl) (by exact congrArg (fun b => AV.p none (.v (.bool b))) h1)) (.run [] [] rfl (st_move rfl) (.run [] [] rfl (st_move rfl) (.run [] [] rfl (st_len_str rfl rfl Try.underlying9) (.run [] [] rfl (st_leq rfl rfl rfl) (.run [] [] rfl (st_pick (t := true) rfl rfl) (.run [] [] rfl (st_assign rfl) .nil))))))))) ?_
    refine tr_ret ?_
    exact ends [_] [] (.cons (.tmp (bool_eq (by simp [isFileB, h1']))) .nil) (.cons (.one .v (.v _)) .nil) (by decide) trivial
set_option maxRecDepth 1000000 in
theorem l6Files_con (l : List Fil) (hl : l.length ≤ 1000000000) (ht : totF l ≤ 1099511627776) : Con Try.prog 38 [.one (PV.sl false 2 (pvF l))] [] [.one (.v (.bool (filesOk l)))] := by
  refine con_of_tr Try.func38 rfl rfl rfl rfl ?_
  have hle := pvF_length l
  refine tr_seq ?_
  refine tr_region rfl (.run [] [] rfl (st_assign rfl) .nil) ?_
  refine tr_seq ?_
  refine tr_seq ?_
  refine tr_region rfl (.run [] [] rfl (st_move rfl) (.run [] [] rfl (st_len_fro rfl rfl Try.underlying24) (.run [] [] rfl (st_gtr rfl rfl rfl) .nil))) ?_
  refine tr_if (t := decide (60 < ((pvF l).length : Int))) rfl (fun h1 => ?_) (fun h1 => ?_)
  · skip
    replace h1 := of_decide_eq_true h1
    refine tr_seq ?_
    refine tr_region rfl (.run [] [] rfl (st_assign rfl) .nil) ?_
    refine tr_ret ?_
    exact ends [_] [] (.cons (.tmp (bool_eq (files_long (by omega)).symm)) .nil) (.cons (.one .v (.v _)) .nil) (by decide) trivial
  · skip
    replace h1 := of_decide_eq_false h1
    refine tr_skip ?_
    refine tr_seq ?_
    refine tr_region rfl (.run [] [] rfl (st_assign rfl) .nil) ?_
    refine tr_seq ?_
    refine tr_seq ?_
    refine tr_region rfl (.run [] [] rfl (st_assign rfl) .nil) ?_
    refine tr_block ?_
    refine tr_loopS (σ := Nat) (fun i => mk [(0, .p none (.sl false 2 (pvF l))), (3, .p none (.v (.int .i64 ((totF (l.take i) : Nat) : Int)))), (4, .p none (.v (.int .i64 (i:Int))))] [] []) (fun i => i ≤ l.length ∧ ∀ j e, j < i → l[j]? = some e → okFil l j e = true) (fun i => l.length - i) 0 ⟨Nat.zero_le _, fun _ _ h => absurd h (Nat.not_lt_zero _)⟩ (wk_mk ⟨rfl, ⟨(int_eq (by rfl)), ⟨(int_eq (by omega)), trivial⟩⟩⟩ trivial trivial rfl) ?_
    rintro i hG
    replace hG : i ≤ l.length ∧ ∀ j e, j < i → l[j]? = some e → okFil l j e = true := hG
    obtain ⟨hi, hG⟩ := hG
    have htt := tot_take l i
    refine tr_seq ?_
    refine tr_seq ?_
    refine tr_region rfl (.run [] [] rfl (st_move rfl) (.run [] [] rfl (st_move rfl) (.run [] [] rfl (st_len_fro rfl rfl Try.underlying24) (.run [] [] rfl (st_lss rfl rfl rfl) .nil)))) ?_
    refine tr_if (t := decide ((i:Int) < ((pvF l).length : Int))) rfl (fun h2 => ?_) (fun h2 => ?_)
    · skip
      replace h2 := of_decide_eq_true h2
      refine tr_skip ?_
      refine tr_seq ?_
      refine tr_block ?_
      refine tr_seq ?_
      refine tr_seq ?_
      refine tr_wk (s' := mk [(0, .p none (.sl false 2 (pvF l))), (3, .p none (.v (.int .i64 ((totF (l.take i) : Nat) : Int)))), (4, .p none (.v (.int .i64 (i:Int))))] [] []) ?_ ?_
      · exact wk_mk ⟨rfl, ⟨rfl, ⟨rfl, trivial⟩⟩⟩ trivial trivial rfl
      obtain ⟨e, he⟩ : ∃ e, l[i]? = some e := ⟨_, List.getElem?_eq_getElem (by (have hL := pvF_length l; omega))⟩
      have hlte := (List.getElem?_eq_some_iff.1 he).1
      rcases bfc (!(isFileB e.name)) with h3 | h3
      · have h3' := h3
        replace h3' : (isFileB e.name) = true := bnot_f h3'
        rcases bfc (decide (0 < (i:Int))) with h4 | h4
        · have h4' := h4
          replace h4' := of_decide_eq_false h4'
          refine tr_regionD mixed rfl (.run [] [] rfl (st_move rfl) (.run [] [] rfl (st_move rfl) (.run [] [] rfl (st_idx_fro rfl rfl rfl Try.underlying24 Try.sizeOf69 rfl (by omega) (pvF_get he)) (.run [] [] rfl (st_faddr_fea rfl rfl Try.underlying69 rfl Try.sizeOf9 (by decide)) (.run [] [] rfl (st_load_fea1 rfl rfl Try.isAgg9 rfl) (.run [1900] [] rfl (st_call rfl 1900 (X := []) en73 rfl (.val nod) (.cons (.one (.bor .v)) .nil) (by decide) all_nil .nil (l6Name_con e.name) rfl rfl (nle rfl)) (.run [] [] rfl (st_eq (st_not (b := isFileB e.name) rfl rfl) (by exact congrArg (fun b => AV.p none (.v (.bool b))) h3)) (.run [] [] rfl (st_move rfl) (.run [] [] rfl (st_move rfl) (.run [] [] rfl (st_eq (st_gtr rfl rfl rfl) (by exact congrArg (fun b => AV.p none (.v (.bool b))) h4)) (.run [] [] rfl (st_move rfl) (.not rfl (.not rfl (.not rfl (.not rfl (.not rfl (.not rfl (.not rfl (.not rfl (.not rfl (.not rfl (.not rfl (.not rfl (.run [] [] rfl (st_pick (t := false) rfl rfl) (.run [] [] rfl (st_pick (t := false) rfl rfl) .nil))))))))))))))))))))))))) (by kernel_rfl) ?_
          refine tr_if (t := false) rfl (fun h => nomatch h) (fun _ => ?_)
          refine tr_skip ?_
          have hts := tot_step he
          have htn := tot_take l (i + 1)
          refine tr_wk (s' := mk [(0, .p none (.sl false 2 (pvF l))), (3, .p none (.v (.int .i64 ((totF (l.take i) : Nat) : Int)))), (4, .p none (.v (.int .i64 (i:Int)))), (22, .p none (.v (.int .i64 (i:Int)))), (23, .p none (.v (.bool false))), (24, .p none (.v (.bool false))), (37, .p none (.v (.bool false)))] [] []) ?_ ?_
          · exact wk_mk ⟨rfl, ⟨rfl, ⟨rfl, ⟨rfl, ⟨rfl, ⟨rfl, ⟨rfl, trivial⟩⟩⟩⟩⟩⟩⟩ trivial trivial rfl
          refine tr_region rfl (.run [] [] rfl (st_move rfl) (.run [] [] rfl (st_move rfl) (.run [] [] rfl (st_move rfl) (.run [] [] rfl (st_idx_fro rfl rfl rfl Try.underlying24 Try.sizeOf69 rfl (by omega) (pvF_get he)) (.run [] [] rfl (st_faddr_fea rfl rfl Try.underlying69 rfl Try.sizeOf9 (by decide)) (.run [] [] rfl (st_load_fea1 rfl rfl Try.isAgg9 rfl) (.run [] [] rfl (st_len_str rfl rfl Try.underlying9) (.run [] [] rfl (st_addn rfl rfl rfl (by omega)) (.run [] [] rfl (st_assign rfl) .nil))))))))) ?_
          refine tr_region rfl (.run [] [] rfl (st_move rfl) (.run [] [] rfl (st_addn rfl rfl rfl (by omega)) (.run [] [] rfl (st_assign rfl) .nil))) ?_
          refine nxt (Q := fun _ _ => False) (z := i) (i + 1) ?_ ?_ ?_
          · show (i + 1) ≤ l.length ∧ ∀ j e, j < (i + 1) → l[j]? = some e → okFil l j e = true
            exact ⟨by omega, ix_step hG he (okFil_first h3' (by omega))⟩
          · show l.length - (i + 1) < l.length - i
            omega
          · exact wk_mk ⟨rfl, ⟨(int_eq (by rw [tot_step he]; omega)), ⟨(int_eq (by omega)), trivial⟩⟩⟩ trivial trivial rfl
        · have h4' := h4
          replace h4' := of_decide_eq_true h4'
          obtain ⟨e2, he2⟩ : ∃ e, l[(i - 1 : Nat)]? = some e := ⟨_, List.getElem?_eq_getElem (by (have hL := pvF_length l; omega))⟩
          have hlte2 := (List.getElem?_eq_some_iff.1 he2).1
          refine tr_regionD mixed rfl (.run [] [] rfl (st_move rfl) (.run [] [] rfl (st_move rfl) (.run [] [] rfl (st_idx_fro rfl rfl rfl Try.underlying24 Try.sizeOf69 rfl (by omega) (pvF_get he)) (.run [] [] rfl (st_faddr_fea rfl rfl Try.underlying69 rfl Try.sizeOf9 (by decide)) (.run [] [] rfl (st_load_fea1 rfl rfl Try.isAgg9 rfl) (.run [1900] [] rfl (st_call rfl 1900 (X := []) en73 rfl (.val nod) (.cons (.one (.bor .v)) .nil) (by decide) all_nil .nil (l6Name_con e.name) rfl rfl (nle rfl)) (.run [] [] rfl (st_eq (st_not (b := isFileB e.name) rfl rfl) (by exact congrArg (fun b => AV.p none (.v (.bool b))) h3)) (.run [] [] rfl (st_move rfl) (.run [] [] rfl (st_move rfl) (.run [] [] rfl (st_eq (st_gtr rfl rfl rfl) (by exact congrArg (fun b => AV.p none (.v (.bool b))) h4)) (.run [] [] rfl (st_move rfl) (.run [] [] rfl (st_move rfl) (.run [] [] rfl (st_move rfl) (.run [] [] rfl (st_idx_fro rfl rfl rfl Try.underlying24 Try.sizeOf69 rfl (by omega) (pvF_get he)) (.run [] [] rfl (st_faddr_fea rfl rfl Try.underlying69 rfl Try.sizeOf9 (by decide)) (.run [] [] rfl (st_load_fea1 rfl rfl Try.isAgg9 rfl) (.run [] [] rfl (st_move rfl) (.run [] [] rfl (st_move rfl) (.run [] [] rfl (st_eq (st_subn rfl rfl rfl (by omega)) (((show (AV.p none (.v (.int .i64 ((i:Int) - 1)))) = AV.p none (.v (.int .i64 ((i - 1 : Nat) : Int))) from int_eq (by omega))))) (.run [] [] rfl (st_idx_fro rfl rfl rfl Try.underlying24 Try.sizeOf69 rfl (by omega) (pvF_get he2)) (.run [] [] rfl (st_faddr_fea rfl rfl Try.underlying69 rfl Try.sizeOf9 (by decide)) (.run [] [] rfl (st_load_fea1 rfl rfl Try.isAgg9 rfl) (.run [] [] rfl (st_sleq rfl rfl rfl) (.run [] [] rfl (st_pick (t := true) rfl rfl) (.run [] [] rfl (st_pick (t := false) rfl rfl) .nil))))))))))))))))))))))))) (by kernel_rfl) ?_
          refine tr_if (t := ltB e.name e2.name || decide (e.name = e2.name)) rfl (fun h5 => ?_) (fun h5 => ?_)
          · skip
            refine tr_seq ?_
            refine tr_wk (s' := mk [] [] []) ?_ ?_
            · exact wk_mk trivial trivial trivial rfl
            refine tr_region rfl (.run [] [] rfl (st_assign rfl) .nil) ?_
            refine tr_ret ?_
            exact ends [_] [] (.cons (.tmp (bool_eq (files_no he (okFil_off (by omega) he2 (leq_f h5))).symm)) .nil) (.cons (.one .v (.v _)) .nil) (by decide) trivial
          · skip
            refine tr_skip ?_
            have hts := tot_step he
            have htn := tot_take l (i + 1)
            refine tr_wk (s' := mk [(0, .p none (.sl false 2 (pvF l))), (3, .p none (.v (.int .i64 ((totF (l.take i) : Nat) : Int)))), (4, .p none (.v (.int .i64 (i:Int)))), (22, .p none (.v (.int .i64 (i:Int)))), (23, .p none (.v (.bool true))), (24, .p none (.v (.bool true))), (25, .p none (.sl false 2 (pvF l))), (26, .p none (.v (.int .i64 (i:Int)))), (27, .fea none [PV.v (.string e.name), PV.v (.string e.data)]), (28, .fea none [PV.v (.string e.name), PV.v (.string e.data)]), (29, .p none (.v (.string e.name))), (30, .p none (.sl false 2 (pvF l))), (31, .p none (.v (.int .i64 (i:Int)))), (32, .p none (.v (.int .i64 ((i - 1 : Nat):Int)))), (33, .fea none [PV.v (.string e2.name), PV.v (.string e2.data)]), (34, .fea none [PV.v (.string e2.name), PV.v (.string e2.data)]), (35, .p none (.v (.string e2.name))), (36, .p none (.v (.bool (ltB e.name e2.name || decide (e.name = e2.name))))), (37, .p none (.v (.bool (ltB e.name e2.name || decide (e.name = e2.name)))))] [] []) ?_ ?_
            · exact wk_mk ⟨rfl, ⟨rfl, ⟨rfl, ⟨rfl, ⟨rfl, ⟨rfl, ⟨rfl, ⟨rfl, ⟨rfl, ⟨rfl, ⟨rfl, ⟨rfl, ⟨rfl, ⟨rfl, ⟨rfl, ⟨rfl, ⟨rfl, ⟨rfl, ⟨rfl, trivial⟩⟩⟩⟩⟩⟩⟩⟩⟩⟩⟩⟩⟩⟩⟩⟩⟩⟩⟩ trivial trivial rfl
            refine tr_region rfl (.run [] [] rfl (st_move rfl) (.run [] [] rfl (st_move rfl) (.run [] [] rfl (st_move rfl) (.run [] [] rfl (st_idx_fro rfl rfl rfl Try.underlying24 Try.sizeOf69 rfl (by omega) (pvF_get he)) (.run [] [] rfl (st_faddr_fea rfl rfl Try.underlying69 rfl Try.sizeOf9 (by decide)) (.run [] [] rfl (st_load_fea1 rfl rfl Try.isAgg9 rfl) (.run [] [] rfl (st_len_str rfl rfl Try.underlying9) (.run [] [] rfl (st_addn rfl rfl rfl (by omega)) (.run [] [] rfl (st_assign rfl) .nil))))))))) ?_
            refine tr_region rfl (.run [] [] rfl (st_move rfl) (.run [] [] rfl (st_addn rfl rfl rfl (by omega)) (.run [] [] rfl (st_assign rfl) .nil))) ?_
            refine nxt (Q := fun _ _ => False) (z := i) (i + 1) ?_ ?_ ?_
            · show (i + 1) ≤ l.length ∧ ∀ j e, j < (i + 1) → l[j]? = some e → okFil l j e = true
              exact ⟨by omega, ix_step hG he (okFil_next h3' he2 (leq_t h5))⟩
            · show l.length - (i + 1) < l.length - i
              omega
            · exact wk_mk ⟨rfl, ⟨(int_eq (by rw [tot_step he]; omega)), ⟨(int_eq (by omega)), trivial⟩⟩⟩ trivial trivial rfl
      · have h3' := h3
        replace h3' : (isFileB e.name) = false := bnot_t h3'
        refine tr_regionD mixed rfl (.run [] [] rfl (st_move rfl) (.run [] [] rfl (st_move rfl) (.run [] [] rfl (st_idx_fro rfl rfl rfl Try.underlying24 Try.sizeOf69 rfl (by omega) (pvF_get he)) (.run [] [] rfl (st_faddr_fea rfl rfl Try.underlying69 rfl Try.sizeOf9 (by decide)) (.run [] [] rfl (st_load_fea1 rfl rfl Try.isAgg9 rfl) (.run [1900] [] rfl (st_call rfl 1900 (X := []) en73 rfl (.val nod) (.cons (.one (.bor .v)) .nil) (by decide) all_nil .nil (l6Name_con e.name) rfl rfl (nle rfl)) (.run [] [] rfl (st_eq (st_not (b := isFileB e.name) rfl rfl) (by exact congrArg (fun b => AV.p none (.v (.bool b))) h3)) (.run [] [] rfl (st_move rfl) (.not rfl (.not rfl (.not rfl (.not rfl (.not rfl (.not rfl (.not rfl (.not rfl (.not rfl (.not rfl (.not rfl (.not rfl (.not rfl (.not rfl (.not rfl (.not rfl (.run [] [] rfl (st_pick (t := true) rfl rfl) .nil))))))))))))))))))))))))) (by kernel_rfl) ?_
        refine tr_if (t := true) rfl (fun _ => ?_) (fun h => nomatch h)
        refine tr_seq ?_
        refine tr_wk (s' := mk [] [] []) ?_ ?_
        · exact wk_mk trivial trivial trivial rfl
        refine tr_region rfl (.run [] [] rfl (st_assign rfl) .nil) ?_
        refine tr_ret ?_
        exact ends [_] [] (.cons (.tmp (bool_eq (files_no he (okFil_bad h3')).symm)) .nil) (.cons (.one .v (.v _)) .nil) (by decide) trivial
    · skip
      replace h2 := of_decide_eq_false h2
      refine tr_exit ?_
      refine tr_seq ?_
      refine tr_region rfl (.run [] [] rfl (st_move rfl) (.run [] [] rfl (st_leq rfl rfl rfl) (.run [] [] rfl (st_assign rfl) .nil))) ?_
      refine tr_ret ?_
      exact ends [_] [] (.cons (.tmp (bool_eq (by rw [files_yes (by omega) hG, decide_eq_true (show l.length ≤ 60 by omega), Bool.true_and, tot_all (by omega)]; exact decide_eq_decide.2 (by omega)))) .nil) (.cons (.one .v (.v _)) .nil) (by decide) trivial
set_option maxRecDepth 1000000 in
theorem l6At_con (l : List Fil) (n : ByteArray) (hl : l.length ≤ 1000000000) : Con Try.prog 54 [.one (PV.sl false 2 (pvF l)), .one (PV.v (.string n))] [] [.one (.v (.int .i64 (idxF (nameP n) l)))] := by
  refine con_of_tr Try.func54 rfl rfl rfl rfl ?_
  have hle := pvF_length l
  refine tr_seq ?_
  refine tr_region rfl (.run [] [] rfl (st_assign rfl) .nil) ?_
  refine tr_seq ?_
  refine tr_seq ?_
  refine tr_region rfl (.run [] [] rfl (st_assign rfl) .nil) ?_
  refine tr_block ?_
  refine tr_loopS (σ := Nat) (fun i => mk [(0, .p none (.sl false 2 (pvF l))), (1, .p none (.v (.string n))), (5, .p none (.v (.int .i64 (i:Int))))] [] []) (fun i => i ≤ l.length ∧ ∀ j e, j < i → l[j]? = some e → (nameP n) e = false) (fun i => l.length - i) 0 ⟨Nat.zero_le _, fun _ _ h => absurd h (Nat.not_lt_zero _)⟩ (wk_mk ⟨rfl, ⟨rfl, ⟨(int_eq (by omega)), trivial⟩⟩⟩ trivial trivial rfl) ?_
  rintro i hG
  replace hG : i ≤ l.length ∧ ∀ j e, j < i → l[j]? = some e → (nameP n) e = false := hG
  obtain ⟨hi, hG⟩ := hG
  refine tr_seq ?_
  refine tr_seq ?_
  refine tr_region rfl (.run [] [] rfl (st_move rfl) (.run [] [] rfl (st_move rfl) (.run [] [] rfl (st_len_fro rfl rfl Try.underlying24) (.run [] [] rfl (st_lss rfl rfl rfl) .nil)))) ?_
  refine tr_if (t := decide ((i:Int) < ((pvF l).length : Int))) rfl (fun h1 => ?_) (fun h1 => ?_)
  · skip
    replace h1 := of_decide_eq_true h1
    refine tr_skip ?_
    refine tr_seq ?_
    refine tr_block ?_
    refine tr_seq ?_
    obtain ⟨e, he⟩ : ∃ e, l[i]? = some e := ⟨_, List.getElem?_eq_getElem (by (have hL := pvF_length l; omega))⟩
    have hlte := (List.getElem?_eq_some_iff.1 he).1
    refine tr_region rfl (.run [] [] rfl (st_move rfl) (.run [] [] rfl (st_move rfl) (.run [] [] rfl (st_idx_fro rfl rfl rfl Try.underlying24 Try.sizeOf69 rfl (by omega) (pvF_get he)) (.run [] [] rfl (st_faddr_fea rfl rfl Try.underlying69 rfl Try.sizeOf9 (by decide)) (.run [] [] rfl (st_load_fea1 rfl rfl Try.isAgg9 rfl) (.run [] [] rfl (st_move rfl) (.run [] [] rfl (st_seql rfl rfl rfl) .nil))))))) ?_
    refine tr_if (t := decide (e.name = n)) rfl (fun h2 => ?_) (fun h2 => ?_)
    · skip
      replace h2 := of_decide_eq_true h2
      refine tr_seq ?_
      refine tr_region rfl (.run [] [] rfl (st_move rfl) (.run [] [] rfl (st_assign rfl) .nil)) ?_
      refine tr_ret ?_
      exact ends [_] [] (.cons (.tmp (int_eq (idx_hit hG he (decide_eq_true h2)).symm)) .nil) (.cons (.one .v (.v _)) .nil) (by decide) trivial
    · skip
      replace h2 := of_decide_eq_false h2
      refine tr_skip ?_
      refine tr_region rfl (.run [] [] rfl (st_move rfl) (.run [] [] rfl (st_addn rfl rfl rfl (by omega)) (.run [] [] rfl (st_assign rfl) .nil))) ?_
      refine nxt (Q := fun _ _ => False) (z := i) (i + 1) ?_ ?_ ?_
      · show (i + 1) ≤ l.length ∧ ∀ j e, j < (i + 1) → l[j]? = some e → (nameP n) e = false
        exact ⟨by omega, idx_step hG he (decide_eq_false h2)⟩
      · show l.length - (i + 1) < l.length - i
        omega
      · exact wk_mk ⟨rfl, ⟨rfl, ⟨(int_eq (by omega)), trivial⟩⟩⟩ trivial trivial rfl
  · skip
    replace h1 := of_decide_eq_false h1
    refine tr_exit ?_
    refine tr_seq ?_
    refine tr_region rfl (.run [] [] rfl (st_assign rfl) .nil) ?_
    refine tr_ret ?_
    exact ends [_] [] (.cons (.tmp (int_eq (idx_none (by omega) hG).symm)) .nil) (.cons (.one .v (.v _)) .nil) (by decide) trivial
set_option maxRecDepth 1000000 in
theorem l6Put_con (l : List Fil) (n d : ByteArray) (hl : l.length ≤ 1000000000) : Con Try.prog 74 [.one (PV.sl false 2 (pvF l)), .one (PV.v (.string n)), .one (PV.v (.string d))] [] [.one (.sl true 2 (pvF (putF l n d)))] := by
  refine con_of_tr Try.func74 rfl rfl rfl rfl ?_
  have hle := pvF_length l
  refine tr_seq ?_
  refine tr_region rfl (.run [] [] rfl (st_assign rfl) .nil) ?_
  refine tr_seq ?_
  refine tr_region rfl (.run [1000] [] rfl (st_buildSlice rfl 1000 Try.underlying24 inf69 (nle rfl) (by decide) rfl rfl rfl .nil (by decide) rfl (by decide) rfl (by decide) rfl) (.run [] [] rfl (st_assign rfl) .nil)) ?_
  refine tr_seq ?_
  refine tr_region rfl (.run [] [] rfl (st_assign rfl) .nil) ?_
  refine tr_seq ?_
  refine tr_seq ?_
  refine tr_region rfl (.run [] [] rfl (st_assign rfl) .nil) ?_
  refine tr_block ?_
  refine tr_wk (wk_ren 1000 1 rfl rfl (by decide)) ?_
  refine tr_loopS (σ := Nat × List Fil × Bool) (fun (i, out, q) => mk [(0, .p none (.sl false 2 (pvF l))), (1, .p none (.v (.string n))), (2, .p none (.v (.string d))), (7, .sl 1 0 ((pvF out).length)), (8, .p none (.v (.bool q))), (9, .p none (.v (.int .i64 (i:Int))))] [] [(1, 2, pvF out)]) (fun (i, out, q) => (i ≤ l.length ∧ out.length ≤ 2 * i) ∧ out ++ putGo n d q (l.drop i) = putF l n d) (fun (i, out, q) => l.length - i) (0, [], false) ⟨⟨Nat.zero_le _, Nat.le_refl _⟩, put_start⟩ (wk_mk ⟨rfl, ⟨rfl, ⟨rfl, ⟨rfl, ⟨rfl, ⟨(int_eq (by omega)), trivial⟩⟩⟩⟩⟩⟩ trivial ⟨(congrArg (fun x => some (2, x)) (by rfl)), trivial⟩ rfl) ?_
  rintro ⟨i, out, q⟩ hG
  replace hG : (i ≤ l.length ∧ out.length ≤ 2 * i) ∧ out ++ putGo n d q (l.drop i) = putF l n d := hG
  obtain ⟨⟨hi, hol⟩, hO⟩ := hG
  have hlo := pvF_length out
  refine tr_seq ?_
  refine tr_seq ?_
  refine tr_region rfl (.run [] [] rfl (st_move rfl) (.run [] [] rfl (st_move rfl) (.run [] [] rfl (st_len_fro rfl rfl Try.underlying24) (.run [] [] rfl (st_lss rfl rfl rfl) .nil)))) ?_
  refine tr_if (t := decide ((i:Int) < ((pvF l).length : Int))) rfl (fun h1 => ?_) (fun h1 => ?_)
  · skip
    replace h1 := of_decide_eq_true h1
    refine tr_skip ?_
    refine tr_seq ?_
    refine tr_block ?_
    refine tr_seq ?_
    refine tr_seq ?_
    rcases bfc (!q) with h2 | h2
    · have h2' := h2
      replace h2' : q = true := bnot_f h2'
      refine tr_region rfl (.run [] [] rfl (st_move rfl) (.run [] [] rfl (st_eq (st_not (b := q) rfl rfl) (by exact congrArg (fun b => AV.p none (.v (.bool b))) h2)) (.run [] [] rfl (st_move rfl) (.not rfl (.not rfl (.not rfl (.not rfl (.not rfl (.not rfl (.not rfl (.run [] [] rfl (st_pick (t := false) rfl rfl) .nil))))))))))) ?_
      refine tr_if (t := false) rfl (fun h => nomatch h) (fun _ => ?_)
      refine tr_skip ?_
      refine tr_seq ?_
      refine tr_wk (s' := mk [(0, .p none (.sl false 2 (pvF l))), (1, .p none (.v (.string n))), (2, .p none (.v (.string d))), (7, .sl 1 0 ((pvF out).length)), (8, .p none (.v (.bool q))), (9, .p none (.v (.int .i64 (i:Int))))] [] [(1, 2, pvF out)]) ?_ ?_
      · exact wk_mk ⟨rfl, ⟨rfl, ⟨rfl, ⟨rfl, ⟨rfl, ⟨rfl, trivial⟩⟩⟩⟩⟩⟩ trivial ⟨rfl, trivial⟩ rfl
      obtain ⟨e, he⟩ : ∃ e, l[i]? = some e := ⟨_, List.getElem?_eq_getElem (by (have hL := pvF_length l; omega))⟩
      have hlte := (List.getElem?_eq_some_iff.1 he).1
      refine tr_region rfl (.run [] [] rfl (st_move rfl) (.run [] [] rfl (st_move rfl) (.run [] [] rfl (st_idx_fro rfl rfl rfl Try.underlying24 Try.sizeOf69 rfl (by omega) (pvF_get he)) (.run [] [] rfl (st_faddr_fea rfl rfl Try.underlying69 rfl Try.sizeOf9 (by decide)) (.run [] [] rfl (st_load_fea1 rfl rfl Try.isAgg9 rfl) (.run [] [] rfl (st_move rfl) (.run [] [] rfl (st_sneq rfl rfl rfl) .nil))))))) ?_
      refine tr_if (t := (!(decide (e.name = n)))) rfl (fun h3 => ?_) (fun h3 => ?_)
      · skip
        replace h3 : ¬ (e.name = n) := of_decide_eq_false (bnot_t h3)
        refine tr_region rfl (.run [] [] rfl (st_move rfl) (.run [] [] rfl (st_move rfl) (.run [] [] rfl (st_move rfl) (.run [] [] rfl (st_idx_fro rfl rfl rfl Try.underlying24 Try.sizeOf69 rfl (by omega) (pvF_get he)) (.run [] [] rfl (st_load_fea rfl rfl Try.isAgg69 Try.sizeOf69 (nle rfl)) (.run [4600] [] rfl (st_buildSlice rfl 4600 Try.underlying24 inf69 (nle rfl) (by decide) rfl rfl rfl (.cons .v (.cons .v .nil)) (by decide) rfl (by decide) rfl (by decide) rfl) (.run [1] [] rfl (st_append rfl 1 (ib := 1) (len := ((pvF out) ++ [[PV.v (.string e.name), PV.v (.string e.data)]]).length) rfl rfl (.row (len := (pvF out).length) (xs := pvF out) rfl rfl (.inl rfl)) (.give (len := 1) (xs := [[PV.v (.string e.name), PV.v (.string e.data)]]) rfl rfl) Try.underlying24 (sk Try.underlying24 rfl) inf69 rfl (by decide) (by decide) (by decide) List.length_append (by simp only [maxLen, List.length_append, List.length_map, List.length_cons, List.length_nil, List.length_take, List.length_drop, pvF_length, pvD_length]; omega) (by simp only [maxLen, List.length_append, List.length_map, List.length_cons, List.length_nil, List.length_take, List.length_drop, pvF_length, pvD_length]; omega)) (.run [] [] rfl (st_assign rfl) .nil)))))))) ?_
        have hr4 : (pvF out) ++ [[PV.v (.string e.name), PV.v (.string e.data)]] = pvF (out ++ [e]) := by exact pvF_snoc out e
        have hp5 : (.sl 1 0 (((pvF out) ++ [[PV.v (.string e.name), PV.v (.string e.data)]]).length) : AV) = .sl 1 0 ((pvF (out ++ [e])).length) := by simp only [hr4]
        refine tr_wk (s' := mk [(0, .p none (.sl false 2 (pvF l))), (1, .p none (.v (.string n))), (2, .p none (.v (.string d))), (7, .sl 1 0 ((pvF (out ++ [e])).length)), (8, .p none (.v (.bool q))), (9, .p none (.v (.int .i64 (i:Int))))] [] [(1, 2, pvF (out ++ [e]))]) ?_ ?_
        · exact wk_mk ⟨rfl, ⟨rfl, ⟨rfl, ⟨hp5, ⟨rfl, ⟨rfl, trivial⟩⟩⟩⟩⟩⟩ trivial ⟨(congrArg (fun x => some (2, x)) hr4), trivial⟩ rfl
        refine tr_region rfl (.run [] [] rfl (st_move rfl) (.run [] [] rfl (st_addn rfl rfl rfl (by omega)) (.run [] [] rfl (st_assign rfl) .nil))) ?_
        refine nxt (Q := fun _ _ => False) (z := (i, out, q)) (i + 1, out ++ [e], q) ?_ ?_ ?_
        · show ((i + 1) ≤ l.length ∧ (out ++ [e]).length ≤ 2 * (i + 1)) ∧ (out ++ [e]) ++ putGo n d q (l.drop (i + 1)) = putF l n d
          exact ⟨⟨by omega, by first | omega | (simp only [List.length_append, List.length_cons, List.length_nil]; omega)⟩, by have h := put_step (a := []) (b := [e]) (q' := q) he hO (by simp [h2']) (by simp [h3]) (by simp [h2']); first | exact h | (simp only [List.append_nil] at h; exact h)⟩
        · show l.length - (i + 1) < l.length - i
          omega
        · exact wk_mk ⟨rfl, ⟨rfl, ⟨rfl, ⟨rfl, ⟨rfl, ⟨(int_eq (by omega)), trivial⟩⟩⟩⟩⟩⟩ trivial ⟨rfl, trivial⟩ rfl
      · skip
        replace h3 : e.name = n := of_decide_eq_true (bnot_f h3)
        refine tr_skip ?_
        refine tr_region rfl (.run [] [] rfl (st_move rfl) (.run [] [] rfl (st_addn rfl rfl rfl (by omega)) (.run [] [] rfl (st_assign rfl) .nil))) ?_
        refine nxt (Q := fun _ _ => False) (z := (i, out, q)) (i + 1, out, q) ?_ ?_ ?_
        · show ((i + 1) ≤ l.length ∧ out.length ≤ 2 * (i + 1)) ∧ out ++ putGo n d q (l.drop (i + 1)) = putF l n d
          exact ⟨⟨by omega, by first | omega | (simp only [List.length_append, List.length_cons, List.length_nil]; omega)⟩, by have h := put_step (a := []) (b := []) (q' := q) he hO (by simp [h2']) (by simp [h3]) (by simp [h2']); first | exact h | (simp only [List.append_nil] at h; exact h)⟩
        · show l.length - (i + 1) < l.length - i
          omega
        · exact wk_mk ⟨rfl, ⟨rfl, ⟨rfl, ⟨rfl, ⟨rfl, ⟨(int_eq (by omega)), trivial⟩⟩⟩⟩⟩⟩ trivial ⟨rfl, trivial⟩ rfl
    · have h2' := h2
      replace h2' : q = false := bnot_t h2'
      obtain ⟨e, he⟩ : ∃ e, l[i]? = some e := ⟨_, List.getElem?_eq_getElem (by (have hL := pvF_length l; omega))⟩
      have hlte := (List.getElem?_eq_some_iff.1 he).1
      refine tr_region rfl (.run [] [] rfl (st_move rfl) (.run [] [] rfl (st_eq (st_not (b := q) rfl rfl) (by exact congrArg (fun b => AV.p none (.v (.bool b))) h2)) (.run [] [] rfl (st_move rfl) (.run [] [] rfl (st_move rfl) (.run [] [] rfl (st_move rfl) (.run [] [] rfl (st_idx_fro rfl rfl rfl Try.underlying24 Try.sizeOf69 rfl (by omega) (pvF_get he)) (.run [] [] rfl (st_faddr_fea rfl rfl Try.underlying69 rfl Try.sizeOf9 (by decide)) (.run [] [] rfl (st_load_fea1 rfl rfl Try.isAgg9 rfl) (.run [] [] rfl (st_move rfl) (.run [] [] rfl (st_sgeq rfl rfl rfl) (.run [] [] rfl (st_pick (t := true) rfl rfl) .nil))))))))))) ?_
      refine tr_if (t := (!(ltB e.name n))) rfl (fun h6 => ?_) (fun h6 => ?_)
      · skip
        replace h6 : (ltB e.name n) = false := bnot_t h6
        refine tr_seq ?_
        refine tr_wk (s' := mk [(0, .p none (.sl false 2 (pvF l))), (1, .p none (.v (.string n))), (2, .p none (.v (.string d))), (7, .sl 1 0 ((pvF out).length)), (9, .p none (.v (.int .i64 (i:Int)))), (20, .p none (.sl false 2 (pvF l))), (21, .p none (.v (.int .i64 (i:Int)))), (22, .fea none [PV.v (.string e.name), PV.v (.string e.data)]), (23, .fea none [PV.v (.string e.name), PV.v (.string e.data)]), (24, .p none (.v (.string e.name))), (25, .p none (.v (.string n))), (26, .p none (.v (.bool (!(ltB e.name n)))))] [] [(1, 2, pvF out)]) ?_ ?_
        · exact wk_mk ⟨rfl, ⟨rfl, ⟨rfl, ⟨rfl, ⟨rfl, ⟨rfl, ⟨rfl, ⟨rfl, ⟨rfl, ⟨rfl, ⟨rfl, ⟨rfl, trivial⟩⟩⟩⟩⟩⟩⟩⟩⟩⟩⟩⟩ trivial ⟨rfl, trivial⟩ rfl
        refine tr_region rfl (.run [] [] rfl (st_move rfl) (.run [] [] rfl (st_move rfl) (.run [] [] rfl (st_move rfl) (.run [] [] rfl (st_build (pl := [(0, 1), (1, 1)]) rfl Try.underlying69 inf69 (by kernel_rfl) rfl rfl) (.run [3200] [] rfl (st_buildSlice rfl 3200 Try.underlying24 inf69 (nle rfl) (by decide) rfl rfl rfl (.cons .v (.cons .v .nil)) (by decide) rfl (by decide) rfl (by decide) rfl) (.run [1] [] rfl (st_append rfl 1 (ib := 1) (len := ((pvF out) ++ [[PV.v (.string n), PV.v (.string d)]]).length) rfl rfl (.row (len := (pvF out).length) (xs := pvF out) rfl rfl (.inl rfl)) (.give (len := 1) (xs := [[PV.v (.string n), PV.v (.string d)]]) rfl rfl) Try.underlying24 (sk Try.underlying24 rfl) inf69 rfl (by decide) (by decide) (by decide) List.length_append (by simp only [maxLen, List.length_append, List.length_map, List.length_cons, List.length_nil, List.length_take, List.length_drop, pvF_length, pvD_length]; omega) (by simp only [maxLen, List.length_append, List.length_map, List.length_cons, List.length_nil, List.length_take, List.length_drop, pvF_length, pvD_length]; omega)) (.run [] [] rfl (st_assign rfl) .nil))))))) ?_
        have hr7 : (pvF out) ++ [[PV.v (.string n), PV.v (.string d)]] = pvF (out ++ [(⟨n, d⟩ : Fil)]) := by exact pvF_snoc out (⟨n, d⟩ : Fil)
        have hp8 : (.sl 1 0 (((pvF out) ++ [[PV.v (.string n), PV.v (.string d)]]).length) : AV) = .sl 1 0 ((pvF (out ++ [(⟨n, d⟩ : Fil)])).length) := by simp only [hr7]
        refine tr_wk (s' := mk [(0, .p none (.sl false 2 (pvF l))), (1, .p none (.v (.string n))), (2, .p none (.v (.string d))), (7, .sl 1 0 ((pvF (out ++ [(⟨n, d⟩ : Fil)])).length)), (9, .p none (.v (.int .i64 (i:Int)))), (20, .p none (.sl false 2 (pvF l))), (21, .p none (.v (.int .i64 (i:Int)))), (22, .fea none [PV.v (.string e.name), PV.v (.string e.data)]), (23, .fea none [PV.v (.string e.name), PV.v (.string e.data)]), (24, .p none (.v (.string e.name))), (25, .p none (.v (.string n))), (26, .p none (.v (.bool (!(ltB e.name n)))))] [] [(1, 2, pvF (out ++ [(⟨n, d⟩ : Fil)]))]) ?_ ?_
        · exact wk_mk ⟨rfl, ⟨rfl, ⟨rfl, ⟨hp8, ⟨rfl, ⟨rfl, ⟨rfl, ⟨rfl, ⟨rfl, ⟨rfl, ⟨rfl, ⟨rfl, trivial⟩⟩⟩⟩⟩⟩⟩⟩⟩⟩⟩⟩ trivial ⟨(congrArg (fun x => some (2, x)) hr7), trivial⟩ rfl
        refine tr_region rfl (.run [] [] rfl (st_assign rfl) .nil) ?_
        refine tr_seq ?_
        refine tr_region rfl (.run [] [] rfl (st_move rfl) (.run [] [] rfl (st_move rfl) (.run [] [] rfl (st_idx_fro rfl rfl rfl Try.underlying24 Try.sizeOf69 rfl (by omega) (pvF_get he)) (.run [] [] rfl (st_faddr_fea rfl rfl Try.underlying69 rfl Try.sizeOf9 (by decide)) (.run [] [] rfl (st_load_fea1 rfl rfl Try.isAgg9 rfl) (.run [] [] rfl (st_move rfl) (.run [] [] rfl (st_sneq rfl rfl rfl) .nil))))))) ?_
        refine tr_if (t := (!(decide (e.name = n)))) rfl (fun h9 => ?_) (fun h9 => ?_)
        · skip
          replace h9 : ¬ (e.name = n) := of_decide_eq_false (bnot_t h9)
          refine tr_region rfl (.run [] [] rfl (st_move rfl) (.run [] [] rfl (st_move rfl) (.run [] [] rfl (st_move rfl) (.run [] [] rfl (st_idx_fro rfl rfl rfl Try.underlying24 Try.sizeOf69 rfl (by omega) (pvF_get he)) (.run [] [] rfl (st_load_fea rfl rfl Try.isAgg69 Try.sizeOf69 (nle rfl)) (.run [4600] [] rfl (st_buildSlice rfl 4600 Try.underlying24 inf69 (nle rfl) (by decide) rfl rfl rfl (.cons .v (.cons .v .nil)) (by decide) rfl (by decide) rfl (by decide) rfl) (.run [1] [] rfl (st_append rfl 1 (ib := 1) (len := ((pvF (out ++ [(⟨n, d⟩ : Fil)])) ++ [[PV.v (.string e.name), PV.v (.string e.data)]]).length) rfl rfl (.row (len := (pvF (out ++ [(⟨n, d⟩ : Fil)])).length) (xs := pvF (out ++ [(⟨n, d⟩ : Fil)])) rfl rfl (.inl rfl)) (.give (len := 1) (xs := [[PV.v (.string e.name), PV.v (.string e.data)]]) rfl rfl) Try.underlying24 (sk Try.underlying24 rfl) inf69 rfl (by decide) (by decide) (by decide) List.length_append (by simp only [maxLen, List.length_append, List.length_map, List.length_cons, List.length_nil, List.length_take, List.length_drop, pvF_length, pvD_length]; omega) (by simp only [maxLen, List.length_append, List.length_map, List.length_cons, List.length_nil, List.length_take, List.length_drop, pvF_length, pvD_length]; omega)) (.run [] [] rfl (st_assign rfl) .nil)))))))) ?_
          have hr10 : (pvF (out ++ [(⟨n, d⟩ : Fil)])) ++ [[PV.v (.string e.name), PV.v (.string e.data)]] = pvF ((out ++ [(⟨n, d⟩ : Fil)]) ++ [e]) := by exact pvF_snoc (out ++ [(⟨n, d⟩ : Fil)]) e
          have hp11 : (.sl 1 0 (((pvF (out ++ [(⟨n, d⟩ : Fil)])) ++ [[PV.v (.string e.name), PV.v (.string e.data)]]).length) : AV) = .sl 1 0 ((pvF ((out ++ [(⟨n, d⟩ : Fil)]) ++ [e])).length) := by simp only [hr10]
          refine tr_wk (s' := mk [(0, .p none (.sl false 2 (pvF l))), (1, .p none (.v (.string n))), (2, .p none (.v (.string d))), (7, .sl 1 0 ((pvF ((out ++ [(⟨n, d⟩ : Fil)]) ++ [e])).length)), (8, .p none (.v (.bool true))), (9, .p none (.v (.int .i64 (i:Int)))), (20, .p none (.sl false 2 (pvF l))), (21, .p none (.v (.int .i64 (i:Int)))), (22, .fea none [PV.v (.string e.name), PV.v (.string e.data)]), (23, .fea none [PV.v (.string e.name), PV.v (.string e.data)]), (24, .p none (.v (.string e.name))), (25, .p none (.v (.string n))), (26, .p none (.v (.bool (!(ltB e.name n)))))] [] [(1, 2, pvF ((out ++ [(⟨n, d⟩ : Fil)]) ++ [e]))]) ?_ ?_
          · exact wk_mk ⟨rfl, ⟨rfl, ⟨rfl, ⟨hp11, ⟨rfl, ⟨rfl, ⟨rfl, ⟨rfl, ⟨rfl, ⟨rfl, ⟨rfl, ⟨rfl, ⟨rfl, trivial⟩⟩⟩⟩⟩⟩⟩⟩⟩⟩⟩⟩⟩ trivial ⟨(congrArg (fun x => some (2, x)) hr10), trivial⟩ rfl
          refine tr_region rfl (.run [] [] rfl (st_move rfl) (.run [] [] rfl (st_addn rfl rfl rfl (by omega)) (.run [] [] rfl (st_assign rfl) .nil))) ?_
          refine nxt (Q := fun _ _ => False) (z := (i, out, q)) (i + 1, (out ++ [(⟨n, d⟩ : Fil)]) ++ [e], true) ?_ ?_ ?_
          · show ((i + 1) ≤ l.length ∧ ((out ++ [(⟨n, d⟩ : Fil)]) ++ [e]).length ≤ 2 * (i + 1)) ∧ ((out ++ [(⟨n, d⟩ : Fil)]) ++ [e]) ++ putGo n d true (l.drop (i + 1)) = putF l n d
            exact ⟨⟨by omega, by first | omega | (simp only [List.length_append, List.length_cons, List.length_nil]; omega)⟩, by have h := put_step (a := [⟨n, d⟩]) (b := [e]) (q' := true) he hO (by simp [h2', h6]) (by simp [h9]) (by simp [h2', h6]); first | exact h | (simp only [List.append_nil] at h; exact h)⟩
          · show l.length - (i + 1) < l.length - i
            omega
          · exact wk_mk ⟨rfl, ⟨rfl, ⟨rfl, ⟨rfl, ⟨rfl, ⟨(int_eq (by omega)), trivial⟩⟩⟩⟩⟩⟩ trivial ⟨rfl, trivial⟩ rfl
        · skip
          replace h9 : e.name = n := of_decide_eq_true (bnot_f h9)
          refine tr_skip ?_
          refine tr_region rfl (.run [] [] rfl (st_move rfl) (.run [] [] rfl (st_addn rfl rfl rfl (by omega)) (.run [] [] rfl (st_assign rfl) .nil))) ?_
          refine nxt (Q := fun _ _ => False) (z := (i, out, q)) (i + 1, out ++ [(⟨n, d⟩ : Fil)], true) ?_ ?_ ?_
          · show ((i + 1) ≤ l.length ∧ (out ++ [(⟨n, d⟩ : Fil)]).length ≤ 2 * (i + 1)) ∧ (out ++ [(⟨n, d⟩ : Fil)]) ++ putGo n d true (l.drop (i + 1)) = putF l n d
            exact ⟨⟨by omega, by first | omega | (simp only [List.length_append, List.length_cons, List.length_nil]; omega)⟩, by have h := put_step (a := [⟨n, d⟩]) (b := []) (q' := true) he hO (by simp [h2', h6]) (by simp [h9]) (by simp [h2', h6]); first | exact h | (simp only [List.append_nil] at h; exact h)⟩
          · show l.length - (i + 1) < l.length - i
            omega
          · exact wk_mk ⟨rfl, ⟨rfl, ⟨rfl, ⟨rfl, ⟨rfl, ⟨(int_eq (by omega)), trivial⟩⟩⟩⟩⟩⟩ trivial ⟨rfl, trivial⟩ rfl
      · skip
        replace h6 : (ltB e.name n) = true := bnot_f h6
        refine tr_skip ?_
        refine tr_seq ?_
        refine tr_wk (s' := mk [(0, .p none (.sl false 2 (pvF l))), (1, .p none (.v (.string n))), (2, .p none (.v (.string d))), (7, .sl 1 0 ((pvF out).length)), (8, .p none (.v (.bool q))), (9, .p none (.v (.int .i64 (i:Int)))), (20, .p none (.sl false 2 (pvF l))), (21, .p none (.v (.int .i64 (i:Int)))), (22, .fea none [PV.v (.string e.name), PV.v (.string e.data)]), (23, .fea none [PV.v (.string e.name), PV.v (.string e.data)]), (24, .p none (.v (.string e.name))), (25, .p none (.v (.string n))), (26, .p none (.v (.bool (!(ltB e.name n)))))] [] [(1, 2, pvF out)]) ?_ ?_
        · exact wk_mk ⟨rfl, ⟨rfl, ⟨rfl, ⟨rfl, ⟨rfl, ⟨rfl, ⟨rfl, ⟨rfl, ⟨rfl, ⟨rfl, ⟨rfl, ⟨rfl, ⟨rfl, trivial⟩⟩⟩⟩⟩⟩⟩⟩⟩⟩⟩⟩⟩ trivial ⟨rfl, trivial⟩ rfl
        refine tr_region rfl (.run [] [] rfl (st_move rfl) (.run [] [] rfl (st_move rfl) (.run [] [] rfl (st_idx_fro rfl rfl rfl Try.underlying24 Try.sizeOf69 rfl (by omega) (pvF_get he)) (.run [] [] rfl (st_faddr_fea rfl rfl Try.underlying69 rfl Try.sizeOf9 (by decide)) (.run [] [] rfl (st_load_fea1 rfl rfl Try.isAgg9 rfl) (.run [] [] rfl (st_move rfl) (.run [] [] rfl (st_sneq rfl rfl rfl) .nil))))))) ?_
        refine tr_if (t := (!(decide (e.name = n)))) rfl (fun h12 => ?_) (fun h12 => ?_)
        · skip
          replace h12 : ¬ (e.name = n) := of_decide_eq_false (bnot_t h12)
          refine tr_region rfl (.run [] [] rfl (st_move rfl) (.run [] [] rfl (st_move rfl) (.run [] [] rfl (st_move rfl) (.run [] [] rfl (st_idx_fro rfl rfl rfl Try.underlying24 Try.sizeOf69 rfl (by omega) (pvF_get he)) (.run [] [] rfl (st_load_fea rfl rfl Try.isAgg69 Try.sizeOf69 (nle rfl)) (.run [4600] [] rfl (st_buildSlice rfl 4600 Try.underlying24 inf69 (nle rfl) (by decide) rfl rfl rfl (.cons .v (.cons .v .nil)) (by decide) rfl (by decide) rfl (by decide) rfl) (.run [1] [] rfl (st_append rfl 1 (ib := 1) (len := ((pvF out) ++ [[PV.v (.string e.name), PV.v (.string e.data)]]).length) rfl rfl (.row (len := (pvF out).length) (xs := pvF out) rfl rfl (.inl rfl)) (.give (len := 1) (xs := [[PV.v (.string e.name), PV.v (.string e.data)]]) rfl rfl) Try.underlying24 (sk Try.underlying24 rfl) inf69 rfl (by decide) (by decide) (by decide) List.length_append (by simp only [maxLen, List.length_append, List.length_map, List.length_cons, List.length_nil, List.length_take, List.length_drop, pvF_length, pvD_length]; omega) (by simp only [maxLen, List.length_append, List.length_map, List.length_cons, List.length_nil, List.length_take, List.length_drop, pvF_length, pvD_length]; omega)) (.run [] [] rfl (st_assign rfl) .nil)))))))) ?_
          have hr13 : (pvF out) ++ [[PV.v (.string e.name), PV.v (.string e.data)]] = pvF (out ++ [e]) := by exact pvF_snoc out e
          have hp14 : (.sl 1 0 (((pvF out) ++ [[PV.v (.string e.name), PV.v (.string e.data)]]).length) : AV) = .sl 1 0 ((pvF (out ++ [e])).length) := by simp only [hr13]
          refine tr_wk (s' := mk [(0, .p none (.sl false 2 (pvF l))), (1, .p none (.v (.string n))), (2, .p none (.v (.string d))), (7, .sl 1 0 ((pvF (out ++ [e])).length)), (8, .p none (.v (.bool q))), (9, .p none (.v (.int .i64 (i:Int)))), (20, .p none (.sl false 2 (pvF l))), (21, .p none (.v (.int .i64 (i:Int)))), (22, .fea none [PV.v (.string e.name), PV.v (.string e.data)]), (23, .fea none [PV.v (.string e.name), PV.v (.string e.data)]), (24, .p none (.v (.string e.name))), (25, .p none (.v (.string n))), (26, .p none (.v (.bool (!(ltB e.name n)))))] [] [(1, 2, pvF (out ++ [e]))]) ?_ ?_
          · exact wk_mk ⟨rfl, ⟨rfl, ⟨rfl, ⟨hp14, ⟨rfl, ⟨rfl, ⟨rfl, ⟨rfl, ⟨rfl, ⟨rfl, ⟨rfl, ⟨rfl, ⟨rfl, trivial⟩⟩⟩⟩⟩⟩⟩⟩⟩⟩⟩⟩⟩ trivial ⟨(congrArg (fun x => some (2, x)) hr13), trivial⟩ rfl
          refine tr_region rfl (.run [] [] rfl (st_move rfl) (.run [] [] rfl (st_addn rfl rfl rfl (by omega)) (.run [] [] rfl (st_assign rfl) .nil))) ?_
          refine nxt (Q := fun _ _ => False) (z := (i, out, q)) (i + 1, out ++ [e], q) ?_ ?_ ?_
          · show ((i + 1) ≤ l.length ∧ (out ++ [e]).length ≤ 2 * (i + 1)) ∧ (out ++ [e]) ++ putGo n d q (l.drop (i + 1)) = putF l n d
            exact ⟨⟨by omega, by first | omega | (simp only [List.length_append, List.length_cons, List.length_nil]; omega)⟩, by have h := put_step (a := []) (b := [e]) (q' := q) he hO (by simp [h2', h6]) (by simp [h12]) (by simp [h2', h6]); first | exact h | (simp only [List.append_nil] at h; exact h)⟩
          · show l.length - (i + 1) < l.length - i
            omega
          · exact wk_mk ⟨rfl, ⟨rfl, ⟨rfl, ⟨rfl, ⟨rfl, ⟨(int_eq (by omega)), trivial⟩⟩⟩⟩⟩⟩ trivial ⟨rfl, trivial⟩ rfl
        · skip
          replace h12 : e.name = n := of_decide_eq_true (bnot_f h12)
          refine tr_skip ?_
          refine tr_region rfl (.run [] [] rfl (st_move rfl) (.run [] [] rfl (st_addn rfl rfl rfl (by omega)) (.run [] [] rfl (st_assign rfl) .nil))) ?_
          refine nxt (Q := fun _ _ => False) (z := (i, out, q)) (i + 1, out, q) ?_ ?_ ?_
          · show ((i + 1) ≤ l.length ∧ out.length ≤ 2 * (i + 1)) ∧ out ++ putGo n d q (l.drop (i + 1)) = putF l n d
            exact ⟨⟨by omega, by first | omega | (simp only [List.length_append, List.length_cons, List.length_nil]; omega)⟩, by have h := put_step (a := []) (b := []) (q' := q) he hO (by simp [h2', h6]) (by simp [h12]) (by simp [h2', h6]); first | exact h | (simp only [List.append_nil] at h; exact h)⟩
          · show l.length - (i + 1) < l.length - i
            omega
          · exact wk_mk ⟨rfl, ⟨rfl, ⟨rfl, ⟨rfl, ⟨rfl, ⟨(int_eq (by omega)), trivial⟩⟩⟩⟩⟩⟩ trivial ⟨rfl, trivial⟩ rfl
  · skip
    replace h1 := of_decide_eq_false h1
    refine tr_exit ?_
    refine tr_seq ?_
    refine tr_seq ?_
    refine tr_region rfl (.run [] [] rfl (st_move rfl) (.run [] [] rfl (st_not (b := q) rfl rfl) .nil)) ?_
    refine tr_if (t := (!q)) rfl (fun h15 => ?_) (fun h15 => ?_)
    · skip
      replace h15 : q = false := bnot_t h15
      refine tr_region rfl (.run [] [] rfl (st_move rfl) (.run [] [] rfl (st_move rfl) (.run [] [] rfl (st_move rfl) (.run [] [] rfl (st_build (pl := [(0, 1), (1, 1)]) rfl Try.underlying69 inf69 (by kernel_rfl) rfl rfl) (.run [5400] [] rfl (st_buildSlice rfl 5400 Try.underlying24 inf69 (nle rfl) (by decide) rfl rfl rfl (.cons .v (.cons .v .nil)) (by decide) rfl (by decide) rfl (by decide) rfl) (.run [1] [] rfl (st_append rfl 1 (ib := 1) (len := ((pvF out) ++ [[PV.v (.string n), PV.v (.string d)]]).length) rfl rfl (.row (len := (pvF out).length) (xs := pvF out) rfl rfl (.inl rfl)) (.give (len := 1) (xs := [[PV.v (.string n), PV.v (.string d)]]) rfl rfl) Try.underlying24 (sk Try.underlying24 rfl) inf69 rfl (by decide) (by decide) (by decide) List.length_append (by simp only [maxLen, List.length_append, List.length_map, List.length_cons, List.length_nil, List.length_take, List.length_drop, pvF_length, pvD_length]; omega) (by simp only [maxLen, List.length_append, List.length_map, List.length_cons, List.length_nil, List.length_take, List.length_drop, pvF_length, pvD_length]; omega)) (.run [] [] rfl (st_assign rfl) .nil))))))) ?_
      have hr16 : (pvF out) ++ [[PV.v (.string n), PV.v (.string d)]] = pvF (out ++ [(⟨n, d⟩ : Fil)]) := by exact pvF_snoc out (⟨n, d⟩ : Fil)
      have hp17 : (.sl 1 0 (((pvF out) ++ [[PV.v (.string n), PV.v (.string d)]]).length) : AV) = .sl 1 0 ((pvF (out ++ [(⟨n, d⟩ : Fil)])).length) := by simp only [hr16]
      refine tr_wk (s' := mk [(7, .sl 1 0 ((pvF (out ++ [(⟨n, d⟩ : Fil)])).length))] [] [(1, 2, pvF (out ++ [(⟨n, d⟩ : Fil)]))]) ?_ ?_
      · exact wk_mk ⟨hp17, trivial⟩ trivial ⟨(congrArg (fun x => some (2, x)) hr16), trivial⟩ rfl
      refine tr_seq ?_
      refine tr_region rfl (.run [] [] rfl (st_move rfl) (.run [] [] rfl (st_assign rfl) .nil)) ?_
      refine tr_ret ?_
      exact ends [_] [1] (.cons (.tmp rfl) .nil) (.cons (.one (.row (len := (pvF (out ++ [(⟨n, d⟩ : Fil)])).length) (xs := pvF (putF l n d)) (congrArg (fun x => some (2, x)) (congrArg pvF (by rw [put_end (by omega) hO]; simp [h15]))) (congrArg (fun x => (pvF x).length) (by rw [put_end (by omega) hO]; simp [h15]))) (.sl _ _ (FlatP.clean (pvF_flat _)))) .nil) (by decide) trivial
    · skip
      replace h15 : q = true := bnot_f h15
      refine tr_skip ?_
      refine tr_seq ?_
      refine tr_region rfl (.run [] [] rfl (st_move rfl) (.run [] [] rfl (st_assign rfl) .nil)) ?_
      refine tr_ret ?_
      exact ends [_] [1] (.cons (.tmp rfl) .nil) (.cons (.one (.row (len := (pvF out).length) (xs := pvF (putF l n d)) (congrArg (fun x => some (2, x)) (congrArg pvF (by rw [put_end (by omega) hO]; simp [h15]))) (congrArg (fun x => (pvF x).length) (by rw [put_end (by omega) hO]; simp [h15]))) (.sl _ _ (FlatP.clean (pvF_flat _)))) .nil) (by decide) trivial
set_option maxRecDepth 1000000 in
theorem l6Cut_con (l : List Fil) (n : ByteArray) (hl : l.length ≤ 1000000000) : Con Try.prog 75 [.one (PV.sl false 2 (pvF l)), .one (PV.v (.string n))] [] [.one (.sl true 2 (pvF (cutF l n)))] := by
  refine con_of_tr Try.func75 rfl rfl rfl rfl ?_
  have hle := pvF_length l
  refine tr_seq ?_
  refine tr_region rfl (.run [] [] rfl (st_assign rfl) .nil) ?_
  refine tr_seq ?_
  refine tr_region rfl (.run [700] [] rfl (st_buildSlice rfl 700 Try.underlying24 inf69 (nle rfl) (by decide) rfl rfl rfl .nil (by decide) rfl (by decide) rfl (by decide) rfl) (.run [] [] rfl (st_assign rfl) .nil)) ?_
  refine tr_seq ?_
  refine tr_seq ?_
  refine tr_region rfl (.run [] [] rfl (st_assign rfl) .nil) ?_
  refine tr_block ?_
  refine tr_wk (wk_ren 700 1 rfl rfl (by decide)) ?_
  refine tr_loopS (σ := Nat × List Fil) (fun (i, out) => mk [(0, .p none (.sl false 2 (pvF l))), (1, .p none (.v (.string n))), (5, .sl 1 0 ((pvF out).length)), (6, .p none (.v (.int .i64 (i:Int))))] [] [(1, 2, pvF out)]) (fun (i, out) => (i ≤ l.length ∧ out.length ≤ i) ∧ out ++ cutF (l.drop i) n = cutF l n) (fun (i, out) => l.length - i) (0, []) ⟨⟨Nat.zero_le _, Nat.le_refl _⟩, rfl⟩ (wk_mk ⟨rfl, ⟨rfl, ⟨rfl, ⟨(int_eq (by omega)), trivial⟩⟩⟩⟩ trivial ⟨(congrArg (fun x => some (2, x)) (by rfl)), trivial⟩ rfl) ?_
  rintro ⟨i, out⟩ hG
  replace hG : (i ≤ l.length ∧ out.length ≤ i) ∧ out ++ cutF (l.drop i) n = cutF l n := hG
  obtain ⟨⟨hi, hol⟩, hO⟩ := hG
  have hlo := pvF_length out
  refine tr_seq ?_
  refine tr_seq ?_
  refine tr_region rfl (.run [] [] rfl (st_move rfl) (.run [] [] rfl (st_move rfl) (.run [] [] rfl (st_len_fro rfl rfl Try.underlying24) (.run [] [] rfl (st_lss rfl rfl rfl) .nil)))) ?_
  refine tr_if (t := decide ((i:Int) < ((pvF l).length : Int))) rfl (fun h1 => ?_) (fun h1 => ?_)
  · skip
    replace h1 := of_decide_eq_true h1
    refine tr_skip ?_
    refine tr_seq ?_
    refine tr_block ?_
    refine tr_seq ?_
    obtain ⟨e, he⟩ : ∃ e, l[i]? = some e := ⟨_, List.getElem?_eq_getElem (by (have hL := pvF_length l; omega))⟩
    have hlte := (List.getElem?_eq_some_iff.1 he).1
    refine tr_region rfl (.run [] [] rfl (st_move rfl) (.run [] [] rfl (st_move rfl) (.run [] [] rfl (st_idx_fro rfl rfl rfl Try.underlying24 Try.sizeOf69 rfl (by omega) (pvF_get he)) (.run [] [] rfl (st_faddr_fea rfl rfl Try.underlying69 rfl Try.sizeOf9 (by decide)) (.run [] [] rfl (st_load_fea1 rfl rfl Try.isAgg9 rfl) (.run [] [] rfl (st_move rfl) (.run [] [] rfl (st_sneq rfl rfl rfl) .nil))))))) ?_
    refine tr_if (t := (!(decide (e.name = n)))) rfl (fun h2 => ?_) (fun h2 => ?_)
    · skip
      replace h2 : ¬ (e.name = n) := of_decide_eq_false (bnot_t h2)
      refine tr_wk (s' := mk [(0, .p none (.sl false 2 (pvF l))), (1, .p none (.v (.string n))), (5, .sl 1 0 ((pvF out).length)), (6, .p none (.v (.int .i64 (i:Int))))] [] [(1, 2, pvF out)]) ?_ ?_
      · exact wk_mk ⟨rfl, ⟨rfl, ⟨rfl, ⟨rfl, trivial⟩⟩⟩⟩ trivial ⟨rfl, trivial⟩ rfl
      refine tr_region rfl (.run [] [] rfl (st_move rfl) (.run [] [] rfl (st_move rfl) (.run [] [] rfl (st_move rfl) (.run [] [] rfl (st_idx_fro rfl rfl rfl Try.underlying24 Try.sizeOf69 rfl (by omega) (pvF_get he)) (.run [] [] rfl (st_load_fea rfl rfl Try.isAgg69 Try.sizeOf69 (nle rfl)) (.run [2600] [] rfl (st_buildSlice rfl 2600 Try.underlying24 inf69 (nle rfl) (by decide) rfl rfl rfl (.cons .v (.cons .v .nil)) (by decide) rfl (by decide) rfl (by decide) rfl) (.run [1] [] rfl (st_append rfl 1 (ib := 1) (len := ((pvF out) ++ [[PV.v (.string e.name), PV.v (.string e.data)]]).length) rfl rfl (.row (len := (pvF out).length) (xs := pvF out) rfl rfl (.inl rfl)) (.give (len := 1) (xs := [[PV.v (.string e.name), PV.v (.string e.data)]]) rfl rfl) Try.underlying24 (sk Try.underlying24 rfl) inf69 rfl (by decide) (by decide) (by decide) List.length_append (by simp only [maxLen, List.length_append, List.length_map, List.length_cons, List.length_nil, List.length_take, List.length_drop, pvF_length, pvD_length]; omega) (by simp only [maxLen, List.length_append, List.length_map, List.length_cons, List.length_nil, List.length_take, List.length_drop, pvF_length, pvD_length]; omega)) (.run [] [] rfl (st_assign rfl) .nil)))))))) ?_
      have hr3 : (pvF out) ++ [[PV.v (.string e.name), PV.v (.string e.data)]] = pvF (out ++ [e]) := by exact pvF_snoc out e
      have hp4 : (.sl 1 0 (((pvF out) ++ [[PV.v (.string e.name), PV.v (.string e.data)]]).length) : AV) = .sl 1 0 ((pvF (out ++ [e])).length) := by simp only [hr3]
      refine tr_wk (s' := mk [(0, .p none (.sl false 2 (pvF l))), (1, .p none (.v (.string n))), (5, .sl 1 0 ((pvF (out ++ [e])).length)), (6, .p none (.v (.int .i64 (i:Int))))] [] [(1, 2, pvF (out ++ [e]))]) ?_ ?_
      · exact wk_mk ⟨rfl, ⟨rfl, ⟨hp4, ⟨rfl, trivial⟩⟩⟩⟩ trivial ⟨(congrArg (fun x => some (2, x)) hr3), trivial⟩ rfl
      refine tr_region rfl (.run [] [] rfl (st_move rfl) (.run [] [] rfl (st_addn rfl rfl rfl (by omega)) (.run [] [] rfl (st_assign rfl) .nil))) ?_
      refine nxt (Q := fun _ _ => False) (z := (i, out)) (i + 1, out ++ [e]) ?_ ?_ ?_
      · show ((i + 1) ≤ l.length ∧ (out ++ [e]).length ≤ (i + 1)) ∧ (out ++ [e]) ++ cutF (l.drop (i + 1)) n = cutF l n
        exact ⟨⟨by omega, by first | omega | (simp only [List.length_append, List.length_cons, List.length_nil]; omega)⟩, by have h := cut_step (b := [e]) he hO (by simp [h2]); first | exact h | (simp only [List.append_nil] at h; exact h)⟩
      · show l.length - (i + 1) < l.length - i
        omega
      · exact wk_mk ⟨rfl, ⟨rfl, ⟨rfl, ⟨(int_eq (by omega)), trivial⟩⟩⟩⟩ trivial ⟨rfl, trivial⟩ rfl
    · skip
      replace h2 : e.name = n := of_decide_eq_true (bnot_f h2)
      refine tr_skip ?_
      refine tr_region rfl (.run [] [] rfl (st_move rfl) (.run [] [] rfl (st_addn rfl rfl rfl (by omega)) (.run [] [] rfl (st_assign rfl) .nil))) ?_
      refine nxt (Q := fun _ _ => False) (z := (i, out)) (i + 1, out) ?_ ?_ ?_
      · show ((i + 1) ≤ l.length ∧ out.length ≤ (i + 1)) ∧ out ++ cutF (l.drop (i + 1)) n = cutF l n
        exact ⟨⟨by omega, by first | omega | (simp only [List.length_append, List.length_cons, List.length_nil]; omega)⟩, by have h := cut_step (b := []) he hO (by simp [h2]); first | exact h | (simp only [List.append_nil] at h; exact h)⟩
      · show l.length - (i + 1) < l.length - i
        omega
      · exact wk_mk ⟨rfl, ⟨rfl, ⟨rfl, ⟨(int_eq (by omega)), trivial⟩⟩⟩⟩ trivial ⟨rfl, trivial⟩ rfl
  · skip
    replace h1 := of_decide_eq_false h1
    refine tr_exit ?_
    refine tr_seq ?_
    refine tr_region rfl (.run [] [] rfl (st_move rfl) (.run [] [] rfl (st_assign rfl) .nil)) ?_
    refine tr_ret ?_
    exact ends [_] [1] (.cons (.tmp rfl) .nil) (.cons (.one (.row (len := (pvF out).length) (xs := pvF (cutF l n)) (congrArg (fun x => some (2, x)) (congrArg pvF (cut_end (by omega) hO).symm)) (congrArg (fun x => (pvF x).length) (cut_end (by omega) hO).symm)) (.sl _ _ (FlatP.clean (pvF_flat _)))) .nil) (by decide) trivial
end Go.Rl

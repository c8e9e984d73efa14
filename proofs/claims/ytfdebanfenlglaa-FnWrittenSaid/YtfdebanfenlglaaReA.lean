/- Promises of functions, proved by walks over their operations; no conditions beyond those that each theorem states. -/
import Derived.Test.YtfdebanfenlglaaRlS
import Derived.Test.YtfdebanfenlglaaProg
set_option linter.unusedSimpArgs false
set_option linter.unusedVariables false
namespace Go.Rl
open Go.Proofs
theorem inf3 : (Try.prog.info? 3).map (fun i => (i.zero, i.size, i.bytes)) = some (some (.int .i64 0), 1, 8) := by kernel_rfl
theorem en173 : ∀ vs w, (callFunc 173 vs).run Try.prog w = .ok (.enter 173 vs) w := enters Try.func173 (by decide) rfl
theorem en94 : ∀ vs w, (callFunc 94 vs).run Try.prog w = .ok (.enter 94 vs) w := enters Try.func94 (by decide) rfl
theorem en172 : ∀ vs w, (callFunc 172 vs).run Try.prog w = .ok (.enter 172 vs) w := enters Try.func172 (by decide) rfl
theorem en84 : ∀ vs w, (callFunc 84 vs).run Try.prog w = .ok (.enter 84 vs) w := enters Try.func84 (by decide) rfl
theorem en174 : ∀ vs w, (callFunc 174 vs).run Try.prog w = .ok (.enter 174 vs) w := enters Try.func174 (by decide) rfl
theorem en175 : ∀ vs w, (callFunc 175 vs).run Try.prog w = .ok (.enter 175 vs) w := enters Try.func175 (by decide) rfl
theorem en146 : ∀ vs w, (callFunc 146 vs).run Try.prog w = .ok (.enter 146 vs) w := enters Try.func146 (by decide) rfl
theorem en147 : ∀ vs w, (callFunc 147 vs).run Try.prog w = .ok (.enter 147 vs) w := enters Try.func147 (by decide) rfl
theorem en145 : ∀ vs w, (callFunc 145 vs).run Try.prog w = .ok (.enter 145 vs) w := enters Try.func145 (by decide) rfl
theorem en144 : ∀ vs w, (callFunc 144 vs).run Try.prog w = .ok (.enter 144 vs) w := enters Try.func144 (by decide) rfl
theorem en143 : ∀ vs w, (callFunc 143 vs).run Try.prog w = .ok (.enter 143 vs) w := enters Try.func143 (by decide) rfl
theorem mixed : Try.prog.follows .mixedOrders = true := by kernel_rfl
set_option maxRecDepth 1000000 in
theorem within_con (n low high : Int) : Con Try.prog 94 [.one (PV.v (.int .i64 n)), .one (PV.v (.int .i64 low)), .one (PV.v (.int .i64 high))] [] [.one (.v (.bool (within n low high)))] := by
  refine con_of_tr Try.func94 rfl rfl rfl rfl ?_
  refine tr_seq ?_
  refine tr_region rfl (.run [] [] rfl (st_assign rfl) .nil) ?_
  refine tr_seq ?_
  rcases bfc (decide (low ≤ n)) with h1 | h1
  · have h1' := h1
    replace h1' := of_decide_eq_false h1'
    refine tr_region rfl (.run [] [] rfl (st_move rfl) (.run [] [] rfl (st_move rfl) (.run [] [] rfl (st_eq (st_leq rfl rfl rfl) (by exact congrArg (fun b => AV.p none (.v (.bool b))) h1)) (.run [] [] rfl (st_move rfl) (.not rfl (.not rfl (.not rfl (.run [] [] rfl (st_pick (t := false) rfl rfl) (.run [] [] rfl (st_assign rfl) .nil))))))))) ?_
    refine tr_ret ?_
    exact ends [_] [] (.cons (.tmp (bool_eq (by simp [within, h1']))) .nil) (.cons (.one .v (.v _)) .nil) (by decide) trivial
  · have h1' := h1
    replace h1' := of_decide_eq_true h1'
    refine tr_region rfl (.run [] [] rfl (st_move rfl) (.run [] [] rfl (st_move rfl) (.run [] [] rfl (st_eq (st_leq rfl rfl rfl) (by exact congrArg (fun b => AV.p none (.v (.bool b))) h1)) (.run [] [] rfl (st_move rfl) (.run [] [] rfl (st_move rfl) (.run [] [] rfl (st_move rfl) (.run [] [] rfl (st_leq rfl rfl rfl) (.run [] [] rfl (st_pick (t := true) rfl rfl) (.run [] [] rfl (st_assign rfl) .nil))))))))) ?_
    refine tr_ret ?_
    exact ends [_] [] (.cons (.tmp (bool_eq (by simp [within, h1']))) .nil) (.cons (.one .v (.v _)) .nil) (by decide) trivial
set_option maxRecDepth 1000000 in
theorem l1In_con (n low high : Int) : Con Try.prog 84 [.one (PV.v (.int .i64 n)), .one (PV.v (.int .i64 low)), .one (PV.v (.int .i64 high))] [] [.one (.v (.bool (within n low high)))] := by
  refine con_of_tr Try.func84 rfl rfl rfl rfl ?_
  refine tr_seq ?_
  refine tr_region rfl (.run [] [] rfl (st_assign rfl) .nil) ?_
  refine tr_seq ?_
  rcases bfc (decide (low ≤ n)) with h1 | h1
  · have h1' := h1
    replace h1' := of_decide_eq_false h1'
    refine tr_region rfl (.run [] [] rfl (st_move rfl) (.run [] [] rfl (st_move rfl) (.run [] [] rfl (st_eq (st_geq rfl rfl rfl) (by exact congrArg (fun b => AV.p none (.v (.bool b))) h1)) (.run [] [] rfl (st_move rfl) (.not rfl (.not rfl (.not rfl (.run [] [] rfl (st_pick (t := false) rfl rfl) (.run [] [] rfl (st_assign rfl) .nil))))))))) ?_
    refine tr_ret ?_
    exact ends [_] [] (.cons (.tmp (bool_eq (by simp [within, h1']))) .nil) (.cons (.one .v (.v _)) .nil) (by decide) trivial
  · have h1' := h1
    replace h1' := of_decide_eq_true h1'
    refine tr_region rfl (.run [] [] rfl (st_move rfl) (.run [] [] rfl (st_move rfl) (.run [] [] rfl (st_eq (st_geq rfl rfl rfl) (by exact congrArg (fun b => AV.p none (.v (.bool b))) h1)) (.run [] [] rfl (st_move rfl) (.run [] [] rfl (st_move rfl) (.run [] [] rfl (st_move rfl) (.run [] [] rfl (st_leq rfl rfl rfl) (.run [] [] rfl (st_pick (t := true) rfl rfl) (.run [] [] rfl (st_assign rfl) .nil))))))))) ?_
    refine tr_ret ?_
    exact ends [_] [] (.cons (.tmp (bool_eq (by simp [within, h1']))) .nil) (.cons (.one .v (.v _)) .nil) (by decide) trivial
set_option maxRecDepth 1000000 in
theorem isUser_con (s : ByteArray) : Con Try.prog 173 [.one (PV.v (.string s))] [] [.one (.v (.bool (isUser s)))] := by
  refine con_of_tr Try.func173 rfl rfl rfl rfl ?_
  refine tr_seq ?_
  refine tr_region rfl (.run [] [] rfl (st_assign rfl) .nil) ?_
  refine tr_seq ?_
  rcases bfc (decide (1 ≤ (s.size : Int))) with h1 | h1
  · have h1' := h1
    replace h1' := of_decide_eq_false h1'
    refine tr_region rfl (.run [] [] rfl (st_move rfl) (.run [] [] rfl (st_len_str rfl rfl Try.underlying9) (.run [] [] rfl (st_eq (st_geq rfl rfl rfl) (by exact congrArg (fun b => AV.p none (.v (.bool b))) h1)) (.run [] [] rfl (st_move rfl) (.not rfl (.not rfl (.not rfl (.run [] [] rfl (st_pick (t := false) rfl rfl) (.run [] [] rfl (st_assign rfl) .nil))))))))) ?_
    refine tr_ret ?_
    exact ends [_] [] (.cons (.tmp (bool_eq (by simp [isUser, h1']))) .nil) (.cons (.one .v (.v _)) .nil) (by decide) trivial
  · have h1' := h1
    replace h1' := of_decide_eq_true h1'
    refine tr_region rfl (.run [] [] rfl (st_move rfl) (.run [] [] rfl (st_len_str rfl rfl Try.underlying9) (.run [] [] rfl (st_eq (st_geq rfl rfl rfl) (by exact congrArg (fun b => AV.p none (.v (.bool b))) h1)) (.run [] [] rfl (st_move rfl) (.run [] [] rfl (st_move rfl) (.run [] [] rfl (st_len_str rfl rfl Try.underlying9) (.run [] [] rfl (st_leq rfl rfl rfl) (.run [] [] rfl (st_pick (t := true) rfl rfl) (.run [] [] rfl (st_assign rfl) .nil))))))))) ?_
    refine tr_ret ?_
    exact ends [_] [] (.cons (.tmp (bool_eq (by simp [isUser, h1']))) .nil) (.cons (.one .v (.v _)) .nil) (by decide) trivial
set_option maxRecDepth 1000000 in
theorem l2User_con (s : ByteArray) : Con Try.prog 172 [.one (PV.v (.string s))] [] [.one (.v (.bool (isUser s)))] := by
  refine con_of_tr Try.func172 rfl rfl rfl rfl ?_
  refine tr_seq ?_
  refine tr_region rfl (.run [] [] rfl (st_assign rfl) .nil) ?_
  refine tr_seq ?_
  rcases bfc (decide (1 ≤ (s.size : Int))) with h1 | h1
  · have h1' := h1
    replace h1' := of_decide_eq_false h1'
    refine tr_region rfl (.run [] [] rfl (st_move rfl) (.run [] [] rfl (st_len_str rfl rfl Try.underlying9) (.run [] [] rfl (st_eq (st_geq rfl rfl rfl) (by exact congrArg (fun b => AV.p none (.v (.bool b))) h1)) (.run [] [] rfl (st_move rfl) (.not rfl (.not rfl (.not rfl (.run [] [] rfl (st_pick (t := false) rfl rfl) (.run [] [] rfl (st_assign rfl) .nil))))))))) ?_
    refine tr_ret ?_
    exact ends [_] [] (.cons (.tmp (bool_eq (by simp [isUser, h1']))) .nil) (.cons (.one .v (.v _)) .nil) (by decide) trivial
  · have h1' := h1
    replace h1' := of_decide_eq_true h1'
    refine tr_region rfl (.run [] [] rfl (st_move rfl) (.run [] [] rfl (st_len_str rfl rfl Try.underlying9) (.run [] [] rfl (st_eq (st_geq rfl rfl rfl) (by exact congrArg (fun b => AV.p none (.v (.bool b))) h1)) (.run [] [] rfl (st_move rfl) (.run [] [] rfl (st_move rfl) (.run [] [] rfl (st_len_str rfl rfl Try.underlying9) (.run [] [] rfl (st_leq rfl rfl rfl) (.run [] [] rfl (st_pick (t := true) rfl rfl) (.run [] [] rfl (st_assign rfl) .nil))))))))) ?_
    refine tr_ret ?_
    exact ends [_] [] (.cons (.tmp (bool_eq (by simp [isUser, h1']))) .nil) (.cons (.one .v (.v _)) .nil) (by decide) trivial
set_option maxRecDepth 1000000 in
theorem keyOk_con (e : Ent) : Con Try.prog 144 [.agg [PV.v (.string e.user), PV.v (.int .i64 e.seq), PV.v (.int .i64 e.kind)]] [] [.one (.v (.bool (keyOk e.user e.seq e.kind)))] := by
  refine con_of_tr Try.func144 rfl rfl rfl rfl ?_
  refine tr_seq ?_
  refine tr_region rfl (.run [] [1] rfl (st_box rfl 1 rfl rfl (by decide) rfl (by decide)) (.run [] [] rfl (st_assign rfl) .nil)) ?_
  refine tr_seq ?_
  rcases bfc (isUser e.user) with h1 | h1
  · have h1' := h1
    refine tr_region rfl (.run [] [] rfl (st_faddr_box rfl rfl Try.underlying42 rfl Try.sizeOf9 (by decide)) (.run [] [] rfl (st_load_box1 rfl rfl rfl Try.isAgg9 rfl) (.run [500] [] rfl (st_call rfl 500 (X := []) en173 rfl (.val nod) (.cons (.one (.bor .v)) .nil) (by decide) all_nil .nil (isUser_con e.user) rfl rfl (nle rfl)) (.run [] [] rfl (st_eq (st_move rfl) (by exact congrArg (fun b => AV.p none (.v (.bool b))) h1)) (.not rfl (.not rfl (.not rfl (.run [] [] rfl (st_pick (t := false) rfl rfl) (.run [] [] rfl (st_move rfl) (.not rfl (.not rfl (.not rfl (.run [] [] rfl (st_pick (t := false) rfl rfl) (.run [] [] rfl (st_assign rfl) .nil)))))))))))))) ?_
    refine tr_ret ?_
    exact ends [_] [] (.cons (.tmp (bool_eq (by simp [keyOk, h1']))) .nil) (.cons (.one .v (.v _)) .nil) (by decide) trivial
  · have h1' := h1
    rcases bfc (within e.seq 0 1000000000000) with h2 | h2
    · have h2' := h2
      refine tr_region rfl (.run [] [] rfl (st_faddr_box rfl rfl Try.underlying42 rfl Try.sizeOf9 (by decide)) (.run [] [] rfl (st_load_box1 rfl rfl rfl Try.isAgg9 rfl) (.run [500] [] rfl (st_call rfl 500 (X := []) en173 rfl (.val nod) (.cons (.one (.bor .v)) .nil) (by decide) all_nil .nil (isUser_con e.user) rfl rfl (nle rfl)) (.run [] [] rfl (st_eq (st_move rfl) (by exact congrArg (fun b => AV.p none (.v (.bool b))) h1)) (.run [] [] rfl (st_faddr_box rfl rfl Try.underlying42 rfl Try.sizeOf2 (by decide)) (.run [] [] rfl (st_load_box1 rfl rfl rfl Try.isAgg2 rfl) (.run [900] [] rfl (st_call rfl 900 (X := []) en94 rfl (.val nod) (.cons (.one (.bor .v)) (.cons (.one (.bor .v)) (.cons (.one (.bor .v)) .nil))) (by decide) all_nil .nil (within_con e.seq 0 1000000000000) rfl rfl (nle rfl)) (.run [] [] rfl (st_pick (t := true) rfl rfl) (.run [] [] rfl (st_eq (st_move rfl) (by exact congrArg (fun b => AV.p none (.v (.bool b))) h2)) (.not rfl (.not rfl (.not rfl (.run [] [] rfl (st_pick (t := false) rfl rfl) (.run [] [] rfl (st_assign rfl) .nil)))))))))))))) ?_
      refine tr_ret ?_
      exact ends [_] [] (.cons (.tmp (bool_eq (by simp [keyOk, h1', h2']))) .nil) (.cons (.one .v (.v _)) .nil) (by decide) trivial
    · have h2' := h2
      refine tr_region rfl (.run [] [] rfl (st_faddr_box rfl rfl Try.underlying42 rfl Try.sizeOf9 (by decide)) (.run [] [] rfl (st_load_box1 rfl rfl rfl Try.isAgg9 rfl) (.run [500] [] rfl (st_call rfl 500 (X := []) en173 rfl (.val nod) (.cons (.one (.bor .v)) .nil) (by decide) all_nil .nil (isUser_con e.user) rfl rfl (nle rfl)) (.run [] [] rfl (st_eq (st_move rfl) (by exact congrArg (fun b => AV.p none (.v (.bool b))) h1)) (.run [] [] rfl (st_faddr_box rfl rfl Try.underlying42 rfl Try.sizeOf2 (by decide)) (.run [] [] rfl (st_load_box1 rfl rfl rfl Try.isAgg2 rfl) (.run [900] [] rfl (st_call rfl 900 (X := []) en94 rfl (.val nod) (.cons (.one (.bor .v)) (.cons (.one (.bor .v)) (.cons (.one (.bor .v)) .nil))) (by decide) all_nil .nil (within_con e.seq 0 1000000000000) rfl rfl (nle rfl)) (.run [] [] rfl (st_pick (t := true) rfl rfl) (.run [] [] rfl (st_eq (st_move rfl) (by exact congrArg (fun b => AV.p none (.v (.bool b))) h2)) (.run [] [] rfl (st_faddr_box rfl rfl Try.underlying42 rfl Try.sizeOf2 (by decide)) (.run [] [] rfl (st_load_box1 rfl rfl rfl Try.isAgg2 rfl) (.run [1400] [] rfl (st_call rfl 1400 (X := []) en94 rfl (.val nod) (.cons (.one (.bor .v)) (.cons (.one (.bor .v)) (.cons (.one (.bor .v)) .nil))) (by decide) all_nil .nil (within_con e.kind 0 1) rfl rfl (nle rfl)) (.run [] [] rfl (st_pick (t := true) rfl rfl) (.run [] [] rfl (st_assign rfl) .nil)))))))))))))) ?_
      refine tr_ret ?_
      exact ends [_] [] (.cons (.tmp (bool_eq (by simp [keyOk, h1', h2']))) .nil) (.cons (.one .v (.v _)) .nil) (by decide) trivial
set_option maxRecDepth 1000000 in
theorem specKeyOk_con (e : Ent) : Con Try.prog 143 [.agg [PV.v (.string e.user), PV.v (.int .i64 e.seq), PV.v (.int .i64 e.kind)]] [] [.one (.v (.bool (keyOk e.user e.seq e.kind)))] := by
  refine con_of_tr Try.func143 rfl rfl rfl rfl ?_
  refine tr_seq ?_
  refine tr_region rfl (.run [] [1] rfl (st_box rfl 1 rfl rfl (by decide) rfl (by decide)) (.run [] [] rfl (st_assign rfl) .nil)) ?_
  refine tr_seq ?_
  rcases bfc (isUser e.user) with h1 | h1
  · have h1' := h1
    refine tr_region rfl (.run [] [] rfl (st_faddr_box rfl rfl Try.underlying42 rfl Try.sizeOf9 (by decide)) (.run [] [] rfl (st_load_box1 rfl rfl rfl Try.isAgg9 rfl) (.run [500] [] rfl (st_call rfl 500 (X := []) en172 rfl (.val nod) (.cons (.one (.bor .v)) .nil) (by decide) all_nil .nil (l2User_con e.user) rfl rfl (nle rfl)) (.run [] [] rfl (st_eq (st_move rfl) (by exact congrArg (fun b => AV.p none (.v (.bool b))) h1)) (.not rfl (.not rfl (.not rfl (.run [] [] rfl (st_pick (t := false) rfl rfl) (.run [] [] rfl (st_move rfl) (.not rfl (.not rfl (.not rfl (.run [] [] rfl (st_pick (t := false) rfl rfl) (.run [] [] rfl (st_assign rfl) .nil)))))))))))))) ?_
    refine tr_ret ?_
    exact ends [_] [] (.cons (.tmp (bool_eq (by simp [keyOk, h1']))) .nil) (.cons (.one .v (.v _)) .nil) (by decide) trivial
  · have h1' := h1
    rcases bfc (within e.seq 0 1000000000000) with h2 | h2
    · have h2' := h2
      refine tr_region rfl (.run [] [] rfl (st_faddr_box rfl rfl Try.underlying42 rfl Try.sizeOf9 (by decide)) (.run [] [] rfl (st_load_box1 rfl rfl rfl Try.isAgg9 rfl) (.run [500] [] rfl (st_call rfl 500 (X := []) en172 rfl (.val nod) (.cons (.one (.bor .v)) .nil) (by decide) all_nil .nil (l2User_con e.user) rfl rfl (nle rfl)) (.run [] [] rfl (st_eq (st_move rfl) (by exact congrArg (fun b => AV.p none (.v (.bool b))) h1)) (.run [] [] rfl (st_faddr_box rfl rfl Try.underlying42 rfl Try.sizeOf2 (by decide)) (.run [] [] rfl (st_load_box1 rfl rfl rfl Try.isAgg2 rfl) (.run [900] [] rfl (st_call rfl 900 (X := []) en84 rfl (.val nod) (.cons (.one (.bor .v)) (.cons (.one (.bor .v)) (.cons (.one (.bor .v)) .nil))) (by decide) all_nil .nil (l1In_con e.seq 0 1000000000000) rfl rfl (nle rfl)) (.run [] [] rfl (st_pick (t := true) rfl rfl) (.run [] [] rfl (st_eq (st_move rfl) (by exact congrArg (fun b => AV.p none (.v (.bool b))) h2)) (.not rfl (.not rfl (.not rfl (.run [] [] rfl (st_pick (t := false) rfl rfl) (.run [] [] rfl (st_assign rfl) .nil)))))))))))))) ?_
      refine tr_ret ?_
      exact ends [_] [] (.cons (.tmp (bool_eq (by simp [keyOk, h1', h2']))) .nil) (.cons (.one .v (.v _)) .nil) (by decide) trivial
    · have h2' := h2
      refine tr_region rfl (.run [] [] rfl (st_faddr_box rfl rfl Try.underlying42 rfl Try.sizeOf9 (by decide)) (.run [] [] rfl (st_load_box1 rfl rfl rfl Try.isAgg9 rfl) (.run [500] [] rfl (st_call rfl 500 (X := []) en172 rfl (.val nod) (.cons (.one (.bor .v)) .nil) (by decide) all_nil .nil (l2User_con e.user) rfl rfl (nle rfl)) (.run [] [] rfl (st_eq (st_move rfl) (by exact congrArg (fun b => AV.p none (.v (.bool b))) h1)) (.run [] [] rfl (st_faddr_box rfl rfl Try.underlying42 rfl Try.sizeOf2 (by decide)) (.run [] [] rfl (st_load_box1 rfl rfl rfl Try.isAgg2 rfl) (.run [900] [] rfl (st_call rfl 900 (X := []) en84 rfl (.val nod) (.cons (.one (.bor .v)) (.cons (.one (.bor .v)) (.cons (.one (.bor .v)) .nil))) (by decide) all_nil .nil (l1In_con e.seq 0 1000000000000) rfl rfl (nle rfl)) (.run [] [] rfl (st_pick (t := true) rfl rfl) (.run [] [] rfl (st_eq (st_move rfl) (by exact congrArg (fun b => AV.p none (.v (.bool b))) h2)) (.run [] [] rfl (st_faddr_box rfl rfl Try.underlying42 rfl Try.sizeOf2 (by decide)) (.run [] [] rfl (st_load_box1 rfl rfl rfl Try.isAgg2 rfl) (.run [1400] [] rfl (st_call rfl 1400 (X := []) en84 rfl (.val nod) (.cons (.one (.bor .v)) (.cons (.one (.bor .v)) (.cons (.one (.bor .v)) .nil))) (by decide) all_nil .nil (l1In_con e.kind 0 1) rfl rfl (nle rfl)) (.run [] [] rfl (st_pick (t := true) rfl rfl) (.run [] [] rfl (st_assign rfl) .nil)))))))))))))) ?_
      refine tr_ret ?_
      exact ends [_] [] (.cons (.tmp (bool_eq (by simp [keyOk, h1', h2']))) .nil) (.cons (.one .v (.v _)) .nil) (by decide) trivial
set_option maxRecDepth 1000000 in
theorem nanS_con (a : ByteArray) : Con Try.prog 174 [.one (PV.v (.string a))] [] [.one (.v (.bool false))] := by
  refine con_of_tr Try.func174 rfl rfl rfl rfl ?_
  refine tr_seq ?_
  refine tr_region rfl (.run [] [] rfl (st_assign rfl) .nil) ?_
  refine tr_seq ?_
  refine tr_region rfl (.run [] [] rfl (st_move rfl) (.run [] [] rfl (st_move rfl) (.run [] [] rfl (st_eq (st_sneq rfl rfl rfl) (bool_eq (congrArg Bool.not (decide_eq_true (by simp))))) (.run [] [] rfl (st_assign rfl) .nil)))) ?_
  refine tr_ret ?_
  exact ends [_] [] (.cons (.tmp rfl) .nil) (.cons (.one .v (.v _)) .nil) (by decide) trivial
set_option maxRecDepth 1000000 in
theorem nanI_con (a : Int) : Con Try.prog 175 [.one (PV.v (.int .i64 a))] [] [.one (.v (.bool false))] := by
  refine con_of_tr Try.func175 rfl rfl rfl rfl ?_
  refine tr_seq ?_
  refine tr_region rfl (.run [] [] rfl (st_assign rfl) .nil) ?_
  refine tr_seq ?_
  refine tr_region rfl (.run [] [] rfl (st_move rfl) (.run [] [] rfl (st_move rfl) (.run [] [] rfl (st_eq (st_neq rfl rfl rfl) (bool_eq (congrArg Bool.not (decide_eq_true (by simp))))) (.run [] [] rfl (st_assign rfl) .nil)))) ?_
  refine tr_ret ?_
  exact ends [_] [] (.cons (.tmp rfl) .nil) (.cons (.one .v (.v _)) .nil) (by decide) trivial
set_option maxRecDepth 1000000 in
theorem cmpS_con (a b : ByteArray) : Con Try.prog 146 [.one (PV.v (.string a)), .one (PV.v (.string b))] [] [.one (.v (.int .i64 (cmpS a b)))] := by
  refine con_of_tr Try.func146 rfl rfl rfl rfl ?_
  refine tr_seq ?_
  refine tr_region rfl (.run [] [] rfl (st_assign rfl) .nil) ?_
  refine tr_seq ?_
  refine tr_region rfl (.run [] [] rfl (st_move rfl) (.run [800] [] rfl (st_call rfl 800 (X := []) en174 rfl (.val nod) (.cons (.one (.bor .v)) .nil) (by decide) all_nil .nil (nanS_con a) rfl rfl (nle rfl)) (.run [] [] rfl (st_assign rfl) .nil))) ?_
  refine tr_seq ?_
  refine tr_region rfl (.run [] [] rfl (st_move rfl) (.run [1000] [] rfl (st_call rfl 1000 (X := []) en174 rfl (.val nod) (.cons (.one (.bor .v)) .nil) (by decide) all_nil .nil (nanS_con b) rfl rfl (nle rfl)) (.run [] [] rfl (st_assign rfl) .nil))) ?_
  refine tr_seq ?_
  refine tr_seq ?_
  refine tr_region rfl (.run [] [] rfl (st_move rfl) .nil) ?_
  refine tr_if (t := false) rfl (fun h => nomatch h) (fun _ => ?_)
  refine tr_skip ?_
  refine tr_seq ?_
  refine tr_seq ?_
  refine tr_region rfl (.run [] [] rfl (st_move rfl) .nil) ?_
  refine tr_if (t := false) rfl (fun h => nomatch h) (fun _ => ?_)
  refine tr_skip ?_
  refine tr_seq ?_
  refine tr_seq ?_
  refine tr_region rfl (.run [] [] rfl (st_move rfl) (.run [] [] rfl (st_move rfl) (.run [] [] rfl (st_slss rfl rfl rfl) .nil))) ?_
  refine tr_if (t := ltB a b) rfl (fun h1 => ?_) (fun h1 => ?_)
  · skip
    refine tr_seq ?_
    refine tr_region rfl (.run [] [] rfl (st_assign rfl) .nil) ?_
    refine tr_ret ?_
    exact ends [_] [] (.cons (.tmp (int_eq (by rw [cmpS, if_pos h1]))) .nil) (.cons (.one .v (.v _)) .nil) (by decide) trivial
  · skip
    refine tr_skip ?_
    refine tr_seq ?_
    refine tr_seq ?_
    refine tr_region rfl (.run [] [] rfl (st_move rfl) (.run [] [] rfl (st_move rfl) (.run [] [] rfl (st_sgtr rfl rfl rfl) .nil))) ?_
    refine tr_if (t := (!(ltB a b || decide (a = b)))) rfl (fun h2 => ?_) (fun h2 => ?_)
    · skip
      replace h2 : (ltB a b || decide (a = b)) = false := bnot_t h2
      refine tr_seq ?_
      refine tr_region rfl (.run [] [] rfl (st_assign rfl) .nil) ?_
      refine tr_ret ?_
      exact ends [_] [] (.cons (.tmp (int_eq (by rw [cmpS, if_neg (by simp [h1]), if_pos (by rw [← cmpS_gt h1, h2]; rfl)]))) .nil) (.cons (.one .v (.v _)) .nil) (by decide) trivial
    · skip
      replace h2 : (ltB a b || decide (a = b)) = true := bnot_f h2
      refine tr_skip ?_
      refine tr_seq ?_
      refine tr_region rfl (.run [] [] rfl (st_assign rfl) .nil) ?_
      refine tr_ret ?_
      exact ends [_] [] (.cons (.tmp (int_eq (by rw [cmpS, if_neg (by simp [h1]), if_neg (by rw [← cmpS_gt h1, h2]; decide)]))) .nil) (.cons (.one .v (.v _)) .nil) (by decide) trivial
set_option maxRecDepth 1000000 in
theorem cmpI_con (a b : Int) : Con Try.prog 147 [.one (PV.v (.int .i64 a)), .one (PV.v (.int .i64 b))] [] [.one (.v (.int .i64 (cmpI a b)))] := by
  refine con_of_tr Try.func147 rfl rfl rfl rfl ?_
  refine tr_seq ?_
  refine tr_region rfl (.run [] [] rfl (st_assign rfl) .nil) ?_
  refine tr_seq ?_
  refine tr_region rfl (.run [] [] rfl (st_move rfl) (.run [800] [] rfl (st_call rfl 800 (X := []) en175 rfl (.val nod) (.cons (.one (.bor .v)) .nil) (by decide) all_nil .nil (nanI_con a) rfl rfl (nle rfl)) (.run [] [] rfl (st_assign rfl) .nil))) ?_
  refine tr_seq ?_
  refine tr_region rfl (.run [] [] rfl (st_move rfl) (.run [1000] [] rfl (st_call rfl 1000 (X := []) en175 rfl (.val nod) (.cons (.one (.bor .v)) .nil) (by decide) all_nil .nil (nanI_con b) rfl rfl (nle rfl)) (.run [] [] rfl (st_assign rfl) .nil))) ?_
  refine tr_seq ?_
  refine tr_seq ?_
  refine tr_region rfl (.run [] [] rfl (st_move rfl) .nil) ?_
  refine tr_if (t := false) rfl (fun h => nomatch h) (fun _ => ?_)
  refine tr_skip ?_
  refine tr_seq ?_
  refine tr_seq ?_
  refine tr_region rfl (.run [] [] rfl (st_move rfl) .nil) ?_
  refine tr_if (t := false) rfl (fun h => nomatch h) (fun _ => ?_)
  refine tr_skip ?_
  refine tr_seq ?_
  refine tr_seq ?_
  refine tr_region rfl (.run [] [] rfl (st_move rfl) (.run [] [] rfl (st_move rfl) (.run [] [] rfl (st_lss rfl rfl rfl) .nil))) ?_
  refine tr_if (t := decide (a < b)) rfl (fun h1 => ?_) (fun h1 => ?_)
  · skip
    replace h1 := of_decide_eq_true h1
    refine tr_seq ?_
    refine tr_region rfl (.run [] [] rfl (st_assign rfl) .nil) ?_
    refine tr_ret ?_
    exact ends [_] [] (.cons (.tmp (int_eq (by simp [cmpI, h1]))) .nil) (.cons (.one .v (.v _)) .nil) (by decide) trivial
  · skip
    replace h1 := of_decide_eq_false h1
    refine tr_skip ?_
    refine tr_seq ?_
    refine tr_seq ?_
    refine tr_region rfl (.run [] [] rfl (st_move rfl) (.run [] [] rfl (st_move rfl) (.run [] [] rfl (st_gtr rfl rfl rfl) .nil))) ?_
    refine tr_if (t := decide (b < a)) rfl (fun h2 => ?_) (fun h2 => ?_)
    · skip
      replace h2 := of_decide_eq_true h2
      refine tr_seq ?_
      refine tr_region rfl (.run [] [] rfl (st_assign rfl) .nil) ?_
      refine tr_ret ?_
      exact ends [_] [] (.cons (.tmp (int_eq (by simp [cmpI, h1, h2]))) .nil) (.cons (.one .v (.v _)) .nil) (by decide) trivial
    · skip
      replace h2 := of_decide_eq_false h2
      refine tr_skip ?_
      refine tr_seq ?_
      refine tr_region rfl (.run [] [] rfl (st_assign rfl) .nil) ?_
      refine tr_ret ?_
      exact ends [_] [] (.cons (.tmp (int_eq (by simp [cmpI, h1, h2]))) .nil) (.cons (.one .v (.v _)) .nil) (by decide) trivial
set_option maxRecDepth 1000000 in
theorem or_con (l : List Int) (hl : l.length ≤ 1000) : Con Try.prog 145 [.one (PV.sl false 1 (pvI l))] [] [.one (.v (.int .i64 (orF l)))] := by
  refine con_of_tr Try.func145 rfl rfl rfl rfl ?_
  have hle := pvI_length l
  refine tr_seq ?_
  refine tr_region rfl (.run [] [] rfl (st_assign rfl) .nil) ?_
  refine tr_seq ?_
  refine tr_region rfl (.run [] [] rfl (st_assign rfl) .nil) ?_
  refine tr_seq ?_
  refine tr_seq ?_
  refine tr_region rfl (.run [] [] rfl (st_move rfl) (.run [] [] rfl (st_len_fro rfl rfl Try.underlying185) (.run [] [] rfl (st_move rfl) .nil))) ?_
  refine tr_block ?_
  refine tr_loopS (σ := Nat) (fun i => mk [(3, .p none (.v (.int .i64 0))), (6, .p none (.sl false 1 (pvI l))), (7, .p none (.v (.int .i64 ((pvI l).length : Int)))), (8, .p none (.v (.int .i64 (i:Int))))] [] []) (fun i => i ≤ l.length ∧ orF (l.drop i) = orF l) (fun i => l.length - i) 0 ⟨Nat.zero_le _, rfl⟩ (wk_mk ⟨rfl, ⟨rfl, ⟨rfl, ⟨(int_eq (by omega)), trivial⟩⟩⟩⟩ trivial trivial rfl) ?_
  rintro i hG
  replace hG : i ≤ l.length ∧ orF (l.drop i) = orF l := hG
  obtain ⟨hi, hE⟩ := hG
  refine tr_seq ?_
  refine tr_region rfl (.run [] [] rfl (st_lss rfl rfl rfl) .nil) ?_
  refine tr_seq ?_
  refine tr_if (t := decide ((i:Int) < ((pvI l).length : Int))) rfl (fun h1 => ?_) (fun h1 => ?_)
  · skip
    replace h1 := of_decide_eq_true h1
    refine tr_skip ?_
    refine tr_seq ?_
    refine tr_block ?_
    refine tr_seq ?_
    obtain ⟨e, he⟩ : ∃ e, l[i]? = some e := ⟨_, List.getElem?_eq_getElem (by (have hL := pvI_length l; omega))⟩
    have hlte := (List.getElem?_eq_some_iff.1 he).1
    refine tr_region rfl (.run [] [] rfl (st_idx_fro rfl rfl rfl Try.underlying185 Try.sizeOf3 rfl (by omega) (pvI_get he)) (.run [] [] rfl (st_load_fea1 rfl rfl Try.isAgg3 rfl) (.run [] [] rfl (st_assign rfl) .nil))) ?_
    refine tr_seq ?_
    refine tr_region rfl (.run [] [] rfl (st_move rfl) (.run [] [] rfl (st_move rfl) (.run [] [] rfl (st_neq rfl rfl rfl) .nil))) ?_
    refine tr_if (t := (!(decide (e = 0)))) rfl (fun h2 => ?_) (fun h2 => ?_)
    · skip
      replace h2 : ¬ (e = 0) := of_decide_eq_false (bnot_t h2)
      refine tr_seq ?_
      refine tr_region rfl (.run [] [] rfl (st_move rfl) (.run [] [] rfl (st_assign rfl) .nil)) ?_
      refine tr_ret ?_
      exact ends [_] [] (.cons (.tmp (int_eq (by rw [← hE, or_cons he, if_pos h2]))) .nil) (.cons (.one .v (.v _)) .nil) (by decide) trivial
    · skip
      replace h2 : e = 0 := of_decide_eq_true (bnot_f h2)
      refine tr_skip ?_
      refine tr_region rfl (.run [] [] rfl (st_addn rfl rfl rfl (by omega)) (.run [] [] rfl (st_move rfl) .nil)) ?_
      refine nxt (Q := fun _ _ => False) (z := i) (i + 1) ?_ ?_ ?_
      · show (i + 1) ≤ l.length ∧ orF (l.drop (i + 1)) = orF l
        exact ⟨by omega, by rw [← hE, or_cons he, if_neg (by simpa using h2)]⟩
      · show l.length - (i + 1) < l.length - i
        omega
      · exact wk_mk ⟨rfl, ⟨rfl, ⟨rfl, ⟨(int_eq (by omega)), trivial⟩⟩⟩⟩ trivial trivial rfl
  · skip
    replace h1 := of_decide_eq_false h1
    refine tr_exit ?_
    refine tr_seq ?_
    refine tr_region rfl (.run [] [] rfl (st_move rfl) (.run [] [] rfl (st_assign rfl) .nil)) ?_
    refine tr_ret ?_
    exact ends [_] [] (.cons (.tmp (int_eq (by rw [← hE, or_end (by omega)]))) .nil) (.cons (.one .v (.v _)) .nil) (by decide) trivial
set_option maxRecDepth 1000000 in
theorem cmpKeys_con (a b : Ent) : Con Try.prog 88 [.agg [PV.v (.string a.user), PV.v (.int .i64 a.seq), PV.v (.int .i64 a.kind)], .agg [PV.v (.string b.user), PV.v (.int .i64 b.seq), PV.v (.int .i64 b.kind)]] [] [.one (.v (.int .i64 (cmpK a b)))] := by
  refine con_of_tr Try.func88 rfl rfl rfl rfl ?_
  refine tr_seq ?_
  refine tr_region rfl (.run [] [2] rfl (st_box rfl 2 rfl rfl (by decide) rfl (by decide)) (.run [] [3] rfl (st_box rfl 3 rfl rfl (by decide) rfl (by decide)) (.run [] [] rfl (st_assign rfl) .nil))) ?_
  refine tr_seq ?_
  refine tr_wk (s' := mk [(2, .ptr 2 0), (3, .ptr 3 0)] [(2, [.p none (.v (.string a.user)), .p none (.v (.int .i64 a.seq)), .p none (.v (.int .i64 a.kind))]), (3, [.p none (.v (.string b.user)), .p none (.v (.int .i64 b.seq)), .p none (.v (.int .i64 b.kind))])] []) ?_ ?_
  · exact wk_mk ⟨rfl, ⟨rfl, trivial⟩⟩ ⟨rfl, ⟨rfl, trivial⟩⟩ trivial rfl
  refine tr_regionD mixed rfl (.run [] [] rfl (st_faddr_box rfl rfl Try.underlying42 rfl Try.sizeOf9 (by decide)) (.run [] [] rfl (st_load_box1 rfl rfl rfl Try.isAgg9 rfl) (.run [] [] rfl (st_faddr_box rfl rfl Try.underlying42 rfl Try.sizeOf9 (by decide)) (.run [] [] rfl (st_load_box1 rfl rfl rfl Try.isAgg9 rfl) (.run [900] [] rfl (st_call rfl 900 (X := []) en146 rfl (.val nod) (.cons (.one (.bor .v)) (.cons (.one (.bor .v)) .nil)) (by decide) all_nil .nil (cmpS_con a.user b.user) rfl rfl (nle rfl)) (.run [] [] rfl (st_faddr_box rfl rfl Try.underlying42 rfl Try.sizeOf2 (by decide)) (.run [] [] rfl (st_load_box1 rfl rfl rfl Try.isAgg2 rfl) (.run [] [] rfl (st_faddr_box rfl rfl Try.underlying42 rfl Try.sizeOf2 (by decide)) (.run [] [] rfl (st_load_box1 rfl rfl rfl Try.isAgg2 rfl) (.run [1400] [] rfl (st_call rfl 1400 (X := []) en147 rfl (.val nod) (.cons (.one (.bor .v)) (.cons (.one (.bor .v)) .nil)) (by decide) all_nil .nil (cmpI_con b.seq a.seq) rfl rfl (nle rfl)) (.run [] [] rfl (st_faddr_box rfl rfl Try.underlying42 rfl Try.sizeOf2 (by decide)) (.run [] [] rfl (st_load_box1 rfl rfl rfl Try.isAgg2 rfl) (.run [] [] rfl (st_faddr_box rfl rfl Try.underlying42 rfl Try.sizeOf2 (by decide)) (.run [] [] rfl (st_load_box1 rfl rfl rfl Try.isAgg2 rfl) (.run [1900] [] rfl (st_call rfl 1900 (X := []) en147 rfl (.val nod) (.cons (.one (.bor .v)) (.cons (.one (.bor .v)) .nil)) (by decide) all_nil .nil (cmpI_con b.kind a.kind) rfl rfl (nle rfl)) (.run [2000] [] rfl (st_buildSlice rfl 2000 Try.underlying185 inf3 (nle rfl) (by decide) rfl rfl rfl (.cons .v (.cons .v (.cons .v .nil))) (by decide) rfl (by decide) rfl (by decide) rfl) (.run [2000, 2100] [] rfl (st_call rfl 2100 (X := []) en145 rfl (.val nod) (.cons (.one (.bor (.all (len := 3) (xs := [[PV.v (.int .i64 (cmpS a.user b.user))], [PV.v (.int .i64 (cmpI b.seq a.seq))], [PV.v (.int .i64 (cmpI b.kind a.kind))]]) rfl rfl (by decide)))) .nil) (by decide) all_nil .nil (or_con [cmpS a.user b.user, cmpI b.seq a.seq, cmpI b.kind a.kind] (by simp)) rfl rfl (nle rfl)) (.run [] [] rfl (st_assign rfl) .nil)))))))))))))))))) (by kernel_rfl) ?_
  refine tr_ret ?_
  exact ends [_] [] (.cons (.tmp (int_eq (or_three a b))) .nil) (.cons (.one .v (.v _)) .nil) (by decide) trivial
set_option maxRecDepth 1000000 in
theorem entryOk_con (e : Ent) : Con Try.prog 87 [.agg [PV.v (.string e.user), PV.v (.int .i64 e.seq), PV.v (.int .i64 e.kind), PV.v (.string e.value)]] [] [.one (.v (.bool (entOk e)))] := by
  refine con_of_tr Try.func87 rfl rfl rfl rfl ?_
  refine tr_seq ?_
  refine tr_region rfl (.run [] [1] rfl (st_box rfl 1 rfl rfl (by decide) rfl (by decide)) (.run [] [] rfl (st_assign rfl) .nil)) ?_
  refine tr_seq ?_
  refine tr_wk (s' := mk [(1, .ptr 1 0)] [(1, [.p none (.v (.string e.user)), .p none (.v (.int .i64 e.seq)), .p none (.v (.int .i64 e.kind)), .p none (.v (.string e.value))])] []) ?_ ?_
  · exact wk_mk ⟨rfl, trivial⟩ ⟨rfl, trivial⟩ trivial rfl
  rcases bfc (keyOk e.user e.seq e.kind) with h1 | h1
  · have h1' := h1
    refine tr_region rfl (.run [] [] rfl (st_faddr_box rfl rfl Try.underlying44 rfl Try.sizeOf42 (by decide)) (.run [] [] rfl (st_load_box rfl rfl rfl Try.isAgg42 Try.sizeOf42 (nle rfl)) (.run [500] [] rfl (st_call rfl 500 (X := []) en144 rfl (.val nod) (.cons (.agg (.cons (.bor .v) (.cons (.bor .v) (.cons (.bor .v) .nil)))) .nil) (by decide) all_nil .nil (keyOk_con e) rfl rfl (nle rfl)) (.run [] [] rfl (st_eq (st_move rfl) (by exact congrArg (fun b => AV.p none (.v (.bool b))) h1)) (.not rfl (.not rfl (.not rfl (.not rfl (.run [] [] rfl (st_pick (t := false) rfl rfl) (.run [] [] rfl (st_move rfl) (.not rfl (.not rfl (.not rfl (.not rfl (.not rfl (.not rfl (.not rfl (.not rfl (.not rfl (.run [] [] rfl (st_pick (t := false) rfl rfl) (.run [] [] rfl (st_assign rfl) .nil))))))))))))))))))))) ?_
    refine tr_ret ?_
    exact ends [_] [] (.cons (.tmp (bool_eq (by simp only [entOk, h1, Bool.true_and, Bool.false_and, Bool.and_true, Bool.and_false, Bool.true_or, Bool.false_or]))) .nil) (.cons (.one .v (.v _)) .nil) (by decide) trivial
  · have h1' := h1
    rcases bfc (decide ((e.value.size : Int) ≤ 200)) with h2 | h2
    · have h2' := h2
      replace h2' := of_decide_eq_false h2'
      refine tr_region rfl (.run [] [] rfl (st_faddr_box rfl rfl Try.underlying44 rfl Try.sizeOf42 (by decide)) (.run [] [] rfl (st_load_box rfl rfl rfl Try.isAgg42 Try.sizeOf42 (nle rfl)) (.run [500] [] rfl (st_call rfl 500 (X := []) en144 rfl (.val nod) (.cons (.agg (.cons (.bor .v) (.cons (.bor .v) (.cons (.bor .v) .nil)))) .nil) (by decide) all_nil .nil (keyOk_con e) rfl rfl (nle rfl)) (.run [] [] rfl (st_eq (st_move rfl) (by exact congrArg (fun b => AV.p none (.v (.bool b))) h1)) (.run [] [] rfl (st_faddr_box rfl rfl Try.underlying44 rfl Try.sizeOf9 (by decide)) (.run [] [] rfl (st_load_box1 rfl rfl rfl Try.isAgg9 rfl) (.run [] [] rfl (st_len_str rfl rfl Try.underlying9) (.run [] [] rfl (st_eq (st_leq rfl rfl rfl) (by exact congrArg (fun b => AV.p none (.v (.bool b))) h2)) (.run [] [] rfl (st_pick (t := true) rfl rfl) (.run [] [] rfl (st_move rfl) (.not rfl (.not rfl (.not rfl (.not rfl (.not rfl (.not rfl (.not rfl (.not rfl (.not rfl (.run [] [] rfl (st_pick (t := false) rfl rfl) (.run [] [] rfl (st_assign rfl) .nil))))))))))))))))))))) ?_
      refine tr_ret ?_
      exact ends [_] [] (.cons (.tmp (bool_eq (by simp only [entOk, h1, h2, Bool.true_and, Bool.false_and, Bool.and_true, Bool.and_false, Bool.true_or, Bool.false_or]))) .nil) (.cons (.one .v (.v _)) .nil) (by decide) trivial
    · have h2' := h2
      replace h2' := of_decide_eq_true h2'
      rcases bfc (decide (e.kind = 1)) with h3 | h3
      · have h3' := h3
        replace h3' := of_decide_eq_false h3'
        refine tr_region rfl (.run [] [] rfl (st_faddr_box rfl rfl Try.underlying44 rfl Try.sizeOf42 (by decide)) (.run [] [] rfl (st_load_box rfl rfl rfl Try.isAgg42 Try.sizeOf42 (nle rfl)) (.run [500] [] rfl (st_call rfl 500 (X := []) en144 rfl (.val nod) (.cons (.agg (.cons (.bor .v) (.cons (.bor .v) (.cons (.bor .v) .nil)))) .nil) (by decide) all_nil .nil (keyOk_con e) rfl rfl (nle rfl)) (.run [] [] rfl (st_eq (st_move rfl) (by exact congrArg (fun b => AV.p none (.v (.bool b))) h1)) (.run [] [] rfl (st_faddr_box rfl rfl Try.underlying44 rfl Try.sizeOf9 (by decide)) (.run [] [] rfl (st_load_box1 rfl rfl rfl Try.isAgg9 rfl) (.run [] [] rfl (st_len_str rfl rfl Try.underlying9) (.run [] [] rfl (st_eq (st_leq rfl rfl rfl) (by exact congrArg (fun b => AV.p none (.v (.bool b))) h2)) (.run [] [] rfl (st_pick (t := true) rfl rfl) (.run [] [] rfl (st_move rfl) (.run [] [] rfl (st_faddr_box rfl rfl Try.underlying44 rfl Try.sizeOf42 (by decide)) (.run [] [] rfl (st_faddr_box rfl rfl Try.underlying42 rfl Try.sizeOf2 (by decide)) (.run [] [] rfl (st_load_box1 rfl rfl rfl Try.isAgg2 rfl) (.run [] [] rfl (st_eq (st_eql rfl rfl rfl) (by exact congrArg (fun b => AV.p none (.v (.bool b))) h3)) (.run [] [] rfl (st_move rfl) (.run [] [] rfl (st_faddr_box rfl rfl Try.underlying44 rfl Try.sizeOf9 (by decide)) (.run [] [] rfl (st_load_box1 rfl rfl rfl Try.isAgg9 rfl) (.run [] [] rfl (st_seql rfl rfl rfl) (.run [] [] rfl (st_pick (t := false) rfl rfl) (.run [] [] rfl (st_pick (t := true) rfl rfl) (.run [] [] rfl (st_assign rfl) .nil))))))))))))))))))))) ?_
        refine tr_ret ?_
        exact ends [_] [] (.cons (.tmp (bool_eq (by simp only [entOk, h1, h2, h3, Bool.true_and, Bool.false_and, Bool.and_true, Bool.and_false, Bool.true_or, Bool.false_or]))) .nil) (.cons (.one .v (.v _)) .nil) (by decide) trivial
      · have h3' := h3
        replace h3' := of_decide_eq_true h3'
        refine tr_region rfl (.run [] [] rfl (st_faddr_box rfl rfl Try.underlying44 rfl Try.sizeOf42 (by decide)) (.run [] [] rfl (st_load_box rfl rfl rfl Try.isAgg42 Try.sizeOf42 (nle rfl)) (.run [500] [] rfl (st_call rfl 500 (X := []) en144 rfl (.val nod) (.cons (.agg (.cons (.bor .v) (.cons (.bor .v) (.cons (.bor .v) .nil)))) .nil) (by decide) all_nil .nil (keyOk_con e) rfl rfl (nle rfl)) (.run [] [] rfl (st_eq (st_move rfl) (by exact congrArg (fun b => AV.p none (.v (.bool b))) h1)) (.run [] [] rfl (st_faddr_box rfl rfl Try.underlying44 rfl Try.sizeOf9 (by decide)) (.run [] [] rfl (st_load_box1 rfl rfl rfl Try.isAgg9 rfl) (.run [] [] rfl (st_len_str rfl rfl Try.underlying9) (.run [] [] rfl (st_eq (st_leq rfl rfl rfl) (by exact congrArg (fun b => AV.p none (.v (.bool b))) h2)) (.run [] [] rfl (st_pick (t := true) rfl rfl) (.run [] [] rfl (st_move rfl) (.run [] [] rfl (st_faddr_box rfl rfl Try.underlying44 rfl Try.sizeOf42 (by decide)) (.run [] [] rfl (st_faddr_box rfl rfl Try.underlying42 rfl Try.sizeOf2 (by decide)) (.run [] [] rfl (st_load_box1 rfl rfl rfl Try.isAgg2 rfl) (.run [] [] rfl (st_eq (st_eql rfl rfl rfl) (by exact congrArg (fun b => AV.p none (.v (.bool b))) h3)) (.run [] [] rfl (st_move rfl) (.not rfl (.not rfl (.not rfl (.run [] [] rfl (st_pick (t := true) rfl rfl) (.run [] [] rfl (st_pick (t := true) rfl rfl) (.run [] [] rfl (st_assign rfl) .nil))))))))))))))))))))) ?_
        refine tr_ret ?_
        exact ends [_] [] (.cons (.tmp (bool_eq (by simp only [entOk, h1, h2, h3, Bool.true_and, Bool.false_and, Bool.and_true, Bool.and_false, Bool.true_or, Bool.false_or]))) .nil) (.cons (.one .v (.v _)) .nil) (by decide) trivial
set_option maxRecDepth 1000000 in
theorem specEntryOk_con (e : Ent) : Con Try.prog 82 [.agg [PV.v (.string e.user), PV.v (.int .i64 e.seq), PV.v (.int .i64 e.kind), PV.v (.string e.value)]] [] [.one (.v (.bool (entOk e)))] := by
  refine con_of_tr Try.func82 rfl rfl rfl rfl ?_
  refine tr_seq ?_
  refine tr_region rfl (.run [] [1] rfl (st_box rfl 1 rfl rfl (by decide) rfl (by decide)) (.run [] [] rfl (st_assign rfl) .nil)) ?_
  refine tr_seq ?_
  refine tr_wk (s' := mk [(1, .ptr 1 0)] [(1, [.p none (.v (.string e.user)), .p none (.v (.int .i64 e.seq)), .p none (.v (.int .i64 e.kind)), .p none (.v (.string e.value))])] []) ?_ ?_
  · exact wk_mk ⟨rfl, trivial⟩ ⟨rfl, trivial⟩ trivial rfl
  rcases bfc (keyOk e.user e.seq e.kind) with h1 | h1
  · have h1' := h1
    refine tr_region rfl (.run [] [] rfl (st_faddr_box rfl rfl Try.underlying44 rfl Try.sizeOf42 (by decide)) (.run [] [] rfl (st_load_box rfl rfl rfl Try.isAgg42 Try.sizeOf42 (nle rfl)) (.run [500] [] rfl (st_call rfl 500 (X := []) en143 rfl (.val nod) (.cons (.agg (.cons (.bor .v) (.cons (.bor .v) (.cons (.bor .v) .nil)))) .nil) (by decide) all_nil .nil (specKeyOk_con e) rfl rfl (nle rfl)) (.run [] [] rfl (st_eq (st_move rfl) (by exact congrArg (fun b => AV.p none (.v (.bool b))) h1)) (.not rfl (.not rfl (.not rfl (.not rfl (.run [] [] rfl (st_pick (t := false) rfl rfl) (.run [] [] rfl (st_move rfl) (.not rfl (.not rfl (.not rfl (.not rfl (.not rfl (.not rfl (.not rfl (.not rfl (.not rfl (.run [] [] rfl (st_pick (t := false) rfl rfl) (.run [] [] rfl (st_assign rfl) .nil))))))))))))))))))))) ?_
    refine tr_ret ?_
    exact ends [_] [] (.cons (.tmp (bool_eq (by simp only [entOk, h1, Bool.true_and, Bool.false_and, Bool.and_true, Bool.and_false, Bool.true_or, Bool.false_or]))) .nil) (.cons (.one .v (.v _)) .nil) (by decide) trivial
  · have h1' := h1
    rcases bfc (decide ((e.value.size : Int) ≤ 200)) with h2 | h2
    · have h2' := h2
      replace h2' := of_decide_eq_false h2'
      refine tr_region rfl (.run [] [] rfl (st_faddr_box rfl rfl Try.underlying44 rfl Try.sizeOf42 (by decide)) (.run [] [] rfl (st_load_box rfl rfl rfl Try.isAgg42 Try.sizeOf42 (nle rfl)) (.run [500] [] rfl (st_call rfl 500 (X := []) en143 rfl (.val nod) (.cons (.agg (.cons (.bor .v) (.cons (.bor .v) (.cons (.bor .v) .nil)))) .nil) (by decide) all_nil .nil (specKeyOk_con e) rfl rfl (nle rfl)) (.run [] [] rfl (st_eq (st_move rfl) (by exact congrArg (fun b => AV.p none (.v (.bool b))) h1)) (.run [] [] rfl (st_faddr_box rfl rfl Try.underlying44 rfl Try.sizeOf9 (by decide)) (.run [] [] rfl (st_load_box1 rfl rfl rfl Try.isAgg9 rfl) (.run [] [] rfl (st_len_str rfl rfl Try.underlying9) (.run [] [] rfl (st_eq (st_leq rfl rfl rfl) (by exact congrArg (fun b => AV.p none (.v (.bool b))) h2)) (.run [] [] rfl (st_pick (t := true) rfl rfl) (.run [] [] rfl (st_move rfl) (.not rfl (.not rfl (.not rfl (.not rfl (.not rfl (.not rfl (.not rfl (.not rfl (.not rfl (.run [] [] rfl (st_pick (t := false) rfl rfl) (.run [] [] rfl (st_assign rfl) .nil))))))))))))))))))))) ?_
      refine tr_ret ?_
      exact ends [_] [] (.cons (.tmp (bool_eq (by simp only [entOk, h1, h2, Bool.true_and, Bool.false_and, Bool.and_true, Bool.and_false, Bool.true_or, Bool.false_or]))) .nil) (.cons (.one .v (.v _)) .nil) (by decide) trivial
    · have h2' := h2
      replace h2' := of_decide_eq_true h2'
      rcases bfc (decide (e.kind = 1)) with h3 | h3
      · have h3' := h3
        replace h3' := of_decide_eq_false h3'
        refine tr_region rfl (.run [] [] rfl (st_faddr_box rfl rfl Try.underlying44 rfl Try.sizeOf42 (by decide)) (.run [] [] rfl (st_load_box rfl rfl rfl Try.isAgg42 Try.sizeOf42 (nle rfl)) (.run [500] [] rfl (st_call rfl 500 (X := []) en143 rfl (.val nod) (.cons (.agg (.cons (.bor .v) (.cons (.bor .v) (.cons (.bor .v) .nil)))) .nil) (by decide) all_nil .nil (specKeyOk_con e) rfl rfl (nle rfl)) (.run [] [] rfl (st_eq (st_move rfl) (by exact congrArg (fun b => AV.p none (.v (.bool b))) h1)) (.run [] [] rfl (st_faddr_box rfl rfl Try.underlying44 rfl Try.sizeOf9 (by decide)) (.run [] [] rfl (st_load_box1 rfl rfl rfl Try.isAgg9 rfl) (.run [] [] rfl (st_len_str rfl rfl Try.underlying9) (.run [] [] rfl (st_eq (st_leq rfl rfl rfl) (by exact congrArg (fun b => AV.p none (.v (.bool b))) h2)) (.run [] [] rfl (st_pick (t := true) rfl rfl) (.run [] [] rfl (st_move rfl) (.run [] [] rfl (st_faddr_box rfl rfl Try.underlying44 rfl Try.sizeOf42 (by decide)) (.run [] [] rfl (st_faddr_box rfl rfl Try.underlying42 rfl Try.sizeOf2 (by decide)) (.run [] [] rfl (st_load_box1 rfl rfl rfl Try.isAgg2 rfl) (.run [] [] rfl (st_eq (st_eql rfl rfl rfl) (by exact congrArg (fun b => AV.p none (.v (.bool b))) h3)) (.run [] [] rfl (st_move rfl) (.run [] [] rfl (st_faddr_box rfl rfl Try.underlying44 rfl Try.sizeOf9 (by decide)) (.run [] [] rfl (st_load_box1 rfl rfl rfl Try.isAgg9 rfl) (.run [] [] rfl (st_seql rfl rfl rfl) (.run [] [] rfl (st_pick (t := false) rfl rfl) (.run [] [] rfl (st_pick (t := true) rfl rfl) (.run [] [] rfl (st_assign rfl) .nil))))))))))))))))))))) ?_
        refine tr_ret ?_
        exact ends [_] [] (.cons (.tmp (bool_eq (by simp only [entOk, h1, h2, h3, Bool.true_and, Bool.false_and, Bool.and_true, Bool.and_false, Bool.true_or, Bool.false_or]))) .nil) (.cons (.one .v (.v _)) .nil) (by decide) trivial
      · have h3' := h3
        replace h3' := of_decide_eq_true h3'
        refine tr_region rfl (.run [] [] rfl (st_faddr_box rfl rfl Try.underlying44 rfl Try.sizeOf42 (by decide)) (.run [] [] rfl (st_load_box rfl rfl rfl Try.isAgg42 Try.sizeOf42 (nle rfl)) (.run [500] [] rfl (st_call rfl 500 (X := []) en143 rfl (.val nod) (.cons (.agg (.cons (.bor .v) (.cons (.bor .v) (.cons (.bor .v) .nil)))) .nil) (by decide) all_nil .nil (specKeyOk_con e) rfl rfl (nle rfl)) (.run [] [] rfl (st_eq (st_move rfl) (by exact congrArg (fun b => AV.p none (.v (.bool b))) h1)) (.run [] [] rfl (st_faddr_box rfl rfl Try.underlying44 rfl Try.sizeOf9 (by decide)) (.run [] [] rfl (st_load_box1 rfl rfl rfl Try.isAgg9 rfl) (.run [] [] rfl (st_len_str rfl rfl Try.underlying9) (.run [] [] rfl (st_eq (st_leq rfl rfl rfl) (by exact congrArg (fun b => AV.p none (.v (.bool b))) h2)) (.run [] [] rfl (st_pick (t := true) rfl rfl) (.run [] [] rfl (st_move rfl) (.run [] [] rfl (st_faddr_box rfl rfl Try.underlying44 rfl Try.sizeOf42 (by decide)) (.run [] [] rfl (st_faddr_box rfl rfl Try.underlying42 rfl Try.sizeOf2 (by decide)) (.run [] [] rfl (st_load_box1 rfl rfl rfl Try.isAgg2 rfl) (.run [] [] rfl (st_eq (st_eql rfl rfl rfl) (by exact congrArg (fun b => AV.p none (.v (.bool b))) h3)) (.run [] [] rfl (st_move rfl) (.not rfl (.not rfl (.not rfl (.run [] [] rfl (st_pick (t := true) rfl rfl) (.run [] [] rfl (st_pick (t := true) rfl rfl) (.run [] [] rfl (st_assign rfl) .nil))))))))))))))))))))) ?_
        refine tr_ret ?_
        exact ends [_] [] (.cons (.tmp (bool_eq (by simp only [entOk, h1, h2, h3, Bool.true_and, Bool.false_and, Bool.and_true, Bool.and_false, Bool.true_or, Bool.false_or]))) .nil) (.cons (.one .v (.v _)) .nil) (by decide) trivial
end Go.Rl

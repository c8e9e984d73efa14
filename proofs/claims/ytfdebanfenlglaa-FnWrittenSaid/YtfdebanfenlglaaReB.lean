/- Promises of functions, proved by walks over their operations; no conditions beyond those that each theorem states. -/
import Derived.Test.YtfdebanfenlglaaReA
set_option linter.unusedSimpArgs false
set_option linter.unusedVariables false
namespace Go.Rl
open Go.Proofs
theorem inf44 : (Try.prog.info? 44).map (fun i => (i.zero, i.size, i.bytes)) = some (some (.agg #[.string ⟨#[]⟩, .int .i64 0, .int .i64 0, .string ⟨#[]⟩]), 4, 48) := by kernel_rfl
theorem en87 : ∀ vs w, (callFunc 87 vs).run Try.prog w = .ok (.enter 87 vs) w := enters Try.func87 (by decide) rfl
theorem en88 : ∀ vs w, (callFunc 88 vs).run Try.prog w = .ok (.enter 88 vs) w := enters Try.func88 (by decide) rfl
theorem en82 : ∀ vs w, (callFunc 82 vs).run Try.prog w = .ok (.enter 82 vs) w := enters Try.func82 (by decide) rfl
theorem en83 : ∀ vs w, (callFunc 83 vs).run Try.prog w = .ok (.enter 83 vs) w := enters Try.func83 (by decide) rfl
set_option maxRecDepth 100000 in
theorem key_eqIn (a b : ByteArray × Int × Int) (w : World) : (Op.equalIn 10000 42 (.agg ⟨[.string a.1, .int .i64 a.2.1, .int .i64 a.2.2]⟩) (.agg ⟨[.string b.1, .int .i64 b.2.1, .int .i64 b.2.2]⟩)).run Try.prog w = .ok (decide (a = b)) w := by
  rw [show (10000 : Nat) = 9999 + 1 from rfl, run_equalIn_agg w 9999 42 _ _ Try.underlying42 (by kernel_rfl)]
  rw [show (Try.prog.fieldsOf 42).toList = [⟨"User", 9, 0, false, "", "", 0⟩, ⟨"Seq", 2, 1, false, "", "", 16⟩, ⟨"Kind", 2, 2, false, "", "", 24⟩] from rfl]
  rw [show (9999 : Nat) = 9998 + 1 from rfl]
  have hb : ∀ x y : ByteArray, x.toList = y.toList ↔ x = y := fun x y => ⟨toList_inj, fun h => by rw [h]⟩
  simp [Op.eqFields, part, Try.isAgg9, Try.sizeOf9, Try.isAgg2, Try.sizeOf2, run_equalIn_string (h := Try.underlying9), run_equalIn_int (h := Try.underlying2), hb]
  obtain ⟨a1, a2, a3⟩ := a
  obtain ⟨b1, b2, b3⟩ := b
  simp only [Prod.mk.injEq]
  split
  · split
    · split <;> simp_all
    · simp_all
  · simp_all
set_option maxRecDepth 1000000 in
theorem specKeyCmp_con (a b : Ent) : Con Try.prog 83 [.agg [PV.v (.string a.user), PV.v (.int .i64 a.seq), PV.v (.int .i64 a.kind)], .agg [PV.v (.string b.user), PV.v (.int .i64 b.seq), PV.v (.int .i64 b.kind)]] [] [.one (.v (.int .i64 (kcmp a b)))] := by
  refine con_of_tr Try.func83 rfl rfl rfl rfl ?_
  refine tr_seq ?_
  refine tr_region rfl (.run [] [2] rfl (st_box rfl 2 rfl rfl (by decide) rfl (by decide)) (.run [] [3] rfl (st_box rfl 3 rfl rfl (by decide) rfl (by decide)) (.run [] [] rfl (st_assign rfl) .nil))) ?_
  refine tr_seq ?_
  refine tr_seq ?_
  rcases bfc (!(keyOk a.user a.seq a.kind)) with h1 | h1
  · have h1' := h1
    replace h1' : (keyOk a.user a.seq a.kind) = true := bnot_f h1'
    refine tr_region rfl (.run [] [] rfl (st_load_box rfl rfl rfl Try.isAgg42 Try.sizeOf42 (nle rfl)) (.run [600] [] rfl (st_call rfl 600 (X := []) en143 rfl (.val nod) (.cons (.agg (.cons (.bor .v) (.cons (.bor .v) (.cons (.bor .v) .nil)))) .nil) (by decide) all_nil .nil (specKeyOk_con a) rfl rfl (nle rfl)) (.run [] [] rfl (st_eq (st_not (b := keyOk a.user a.seq a.kind) rfl rfl) (by exact congrArg (fun b => AV.p none (.v (.bool b))) h1)) (.run [] [] rfl (st_move rfl) (.run [] [] rfl (st_load_box rfl rfl rfl Try.isAgg42 Try.sizeOf42 (nle rfl)) (.run [1000] [] rfl (st_call rfl 1000 (X := []) en143 rfl (.val nod) (.cons (.agg (.cons (.bor .v) (.cons (.bor .v) (.cons (.bor .v) .nil)))) .nil) (by decide) all_nil .nil (specKeyOk_con b) rfl rfl (nle rfl)) (.run [] [] rfl (st_not (b := keyOk b.user b.seq b.kind) rfl rfl) (.run [] [] rfl (st_pick (t := false) rfl rfl) .nil)))))))) ?_
    refine tr_if (t := (!(keyOk b.user b.seq b.kind))) rfl (fun h2 => ?_) (fun h2 => ?_)
    · skip
      replace h2 : (keyOk b.user b.seq b.kind) = false := bnot_t h2
      refine tr_seq ?_
      refine tr_region rfl (.run [] [] rfl (st_assign rfl) .nil) ?_
      refine tr_ret ?_
      exact ends [_] [] (.cons (.tmp (int_eq (by simp [kcmp, h1', h2]))) .nil) (.cons (.one .v (.v _)) .nil) (by decide) trivial
    · skip
      replace h2 : (keyOk b.user b.seq b.kind) = true := bnot_f h2
      refine tr_skip ?_
      refine tr_seq ?_
      refine tr_seq ?_
      refine tr_region rfl (.run [] [] rfl (st_load_box rfl rfl rfl Try.isAgg42 Try.sizeOf42 (nle rfl)) (.run [] [] rfl (st_load_box rfl rfl rfl Try.isAgg42 Try.sizeOf42 (nle rfl)) (.run [] [] rfl (st_aeql rfl rfl rfl rfl rfl Try.eqGuardType42 (fun w => key_eqIn (a.user, a.seq, a.kind) (b.user, b.seq, b.kind) w)) .nil))) ?_
      refine tr_if (t := decide ((a.user, a.seq, a.kind) = (b.user, b.seq, b.kind))) rfl (fun h3 => ?_) (fun h3 => ?_)
      · skip
        replace h3 := of_decide_eq_true h3
        refine tr_seq ?_
        refine tr_region rfl (.run [] [] rfl (st_assign rfl) .nil) ?_
        refine tr_ret ?_
        exact ends [_] [] (.cons (.tmp (int_eq (by rw [kcmp_ok h1' h2]; have hk := h3; simp only [Prod.mk.injEq] at hk; exact (cmpK_eq hk.1 hk.2.1 hk.2.2).symm))) .nil) (.cons (.one .v (.v _)) .nil) (by decide) trivial
      · skip
        replace h3 := of_decide_eq_false h3
        refine tr_skip ?_
        refine tr_seq ?_
        refine tr_seq ?_
        refine tr_wk (s' := mk [(2, .ptr 2 0), (3, .ptr 3 0)] [(2, [.p none (.v (.string a.user)), .p none (.v (.int .i64 a.seq)), .p none (.v (.int .i64 a.kind))]), (3, [.p none (.v (.string b.user)), .p none (.v (.int .i64 b.seq)), .p none (.v (.int .i64 b.kind))])] []) ?_ ?_
        · exact wk_mk ⟨rfl, ⟨rfl, trivial⟩⟩ ⟨rfl, ⟨rfl, trivial⟩⟩ trivial rfl
        rcases bfc (ltB a.user b.user) with h4 | h4
        · have h4' := h4
          rcases bfc (decide (a.user = b.user)) with h5 | h5
          · have h5' := h5
            replace h5' := of_decide_eq_false h5'
            refine tr_region rfl (.run [] [] rfl (st_faddr_box rfl rfl Try.underlying42 rfl Try.sizeOf9 (by decide)) (.run [] [] rfl (st_load_box1 rfl rfl rfl Try.isAgg9 rfl) (.run [] [] rfl (st_faddr_box rfl rfl Try.underlying42 rfl Try.sizeOf9 (by decide)) (.run [] [] rfl (st_load_box1 rfl rfl rfl Try.isAgg9 rfl) (.run [] [] rfl (st_eq (st_slss rfl rfl rfl) (by exact congrArg (fun b => AV.p none (.v (.bool b))) h4)) (.run [] [] rfl (st_move rfl) (.run [] [] rfl (st_faddr_box rfl rfl Try.underlying42 rfl Try.sizeOf9 (by decide)) (.run [] [] rfl (st_load_box1 rfl rfl rfl Try.isAgg9 rfl) (.run [] [] rfl (st_faddr_box rfl rfl Try.underlying42 rfl Try.sizeOf9 (by decide)) (.run [] [] rfl (st_load_box1 rfl rfl rfl Try.isAgg9 rfl) (.run [] [] rfl (st_eq (st_seql rfl rfl rfl) (by exact congrArg (fun b => AV.p none (.v (.bool b))) h5)) (.run [] [] rfl (st_move rfl) (.not rfl (.not rfl (.not rfl (.not rfl (.not rfl (.not rfl (.not rfl (.not rfl (.not rfl (.not rfl (.not rfl (.not rfl (.not rfl (.not rfl (.not rfl (.not rfl (.not rfl (.not rfl (.not rfl (.run [] [] rfl (st_pick (t := false) rfl rfl) (.run [] [] rfl (st_pick (t := false) rfl rfl) .nil))))))))))))))))))))))))))))))))) ?_
            refine tr_if (t := false) rfl (fun h => nomatch h) (fun _ => ?_)
            refine tr_skip ?_
            refine tr_seq ?_
            refine tr_wk (s' := mk [] [] []) ?_ ?_
            · exact wk_mk trivial trivial trivial rfl
            refine tr_region rfl (.run [] [] rfl (st_assign rfl) .nil) ?_
            refine tr_ret ?_
            exact ends [_] [] (.cons (.tmp (int_eq (by rw [kcmp_ok h1' h2]; exact (cmpK_gt (by simp_all [LessE] <;> omega) (by have hk := h3; simp only [Prod.mk.injEq] at hk; exact hk)).symm))) .nil) (.cons (.one .v (.v _)) .nil) (by decide) trivial
          · have h5' := h5
            replace h5' := of_decide_eq_true h5'
            rcases bfc (decide (b.seq < a.seq)) with h6 | h6
            · have h6' := h6
              replace h6' := of_decide_eq_false h6'
              rcases bfc (decide (a.seq = b.seq)) with h7 | h7
              · have h7' := h7
                replace h7' := of_decide_eq_false h7'
                refine tr_region rfl (.run [] [] rfl (st_faddr_box rfl rfl Try.underlying42 rfl Try.sizeOf9 (by decide)) (.run [] [] rfl (st_load_box1 rfl rfl rfl Try.isAgg9 rfl) (.run [] [] rfl (st_faddr_box rfl rfl Try.underlying42 rfl Try.sizeOf9 (by decide)) (.run [] [] rfl (st_load_box1 rfl rfl rfl Try.isAgg9 rfl) (.run [] [] rfl (st_eq (st_slss rfl rfl rfl) (by exact congrArg (fun b => AV.p none (.v (.bool b))) h4)) (.run [] [] rfl (st_move rfl) (.run [] [] rfl (st_faddr_box rfl rfl Try.underlying42 rfl Try.sizeOf9 (by decide)) (.run [] [] rfl (st_load_box1 rfl rfl rfl Try.isAgg9 rfl) (.run [] [] rfl (st_faddr_box rfl rfl Try.underlying42 rfl Try.sizeOf9 (by decide)) (.run [] [] rfl (st_load_box1 rfl rfl rfl Try.isAgg9 rfl) (.run [] [] rfl (st_eq (st_seql rfl rfl rfl) (by exact congrArg (fun b => AV.p none (.v (.bool b))) h5)) (.run [] [] rfl (st_move rfl) (.run [] [] rfl (st_faddr_box rfl rfl Try.underlying42 rfl Try.sizeOf2 (by decide)) (.run [] [] rfl (st_load_box1 rfl rfl rfl Try.isAgg2 rfl) (.run [] [] rfl (st_faddr_box rfl rfl Try.underlying42 rfl Try.sizeOf2 (by decide)) (.run [] [] rfl (st_load_box1 rfl rfl rfl Try.isAgg2 rfl) (.run [] [] rfl (st_eq (st_gtr rfl rfl rfl) (by exact congrArg (fun b => AV.p none (.v (.bool b))) h6)) (.run [] [] rfl (st_move rfl) (.run [] [] rfl (st_faddr_box rfl rfl Try.underlying42 rfl Try.sizeOf2 (by decide)) (.run [] [] rfl (st_load_box1 rfl rfl rfl Try.isAgg2 rfl) (.run [] [] rfl (st_faddr_box rfl rfl Try.underlying42 rfl Try.sizeOf2 (by decide)) (.run [] [] rfl (st_load_box1 rfl rfl rfl Try.isAgg2 rfl) (.run [] [] rfl (st_eq (st_eql rfl rfl rfl) (by exact congrArg (fun b => AV.p none (.v (.bool b))) h7)) (.run [] [] rfl (st_move rfl) (.not rfl (.not rfl (.not rfl (.not rfl (.not rfl (.run [] [] rfl (st_pick (t := false) rfl rfl) (.run [] [] rfl (st_pick (t := false) rfl rfl) (.run [] [] rfl (st_pick (t := true) rfl rfl) (.run [] [] rfl (st_pick (t := false) rfl rfl) .nil))))))))))))))))))))))))))))))))) ?_
                refine tr_if (t := false) rfl (fun h => nomatch h) (fun _ => ?_)
                refine tr_skip ?_
                refine tr_seq ?_
                refine tr_wk (s' := mk [] [] []) ?_ ?_
                · exact wk_mk trivial trivial trivial rfl
                refine tr_region rfl (.run [] [] rfl (st_assign rfl) .nil) ?_
                refine tr_ret ?_
                exact ends [_] [] (.cons (.tmp (int_eq (by rw [kcmp_ok h1' h2]; exact (cmpK_gt (by simp_all [LessE] <;> omega) (by have hk := h3; simp only [Prod.mk.injEq] at hk; exact hk)).symm))) .nil) (.cons (.one .v (.v _)) .nil) (by decide) trivial
              · have h7' := h7
                replace h7' := of_decide_eq_true h7'
                refine tr_region rfl (.run [] [] rfl (st_faddr_box rfl rfl Try.underlying42 rfl Try.sizeOf9 (by decide)) (.run [] [] rfl (st_load_box1 rfl rfl rfl Try.isAgg9 rfl) (.run [] [] rfl (st_faddr_box rfl rfl Try.underlying42 rfl Try.sizeOf9 (by decide)) (.run [] [] rfl (st_load_box1 rfl rfl rfl Try.isAgg9 rfl) (.run [] [] rfl (st_eq (st_slss rfl rfl rfl) (by exact congrArg (fun b => AV.p none (.v (.bool b))) h4)) (.run [] [] rfl (st_move rfl) (.run [] [] rfl (st_faddr_box rfl rfl Try.underlying42 rfl Try.sizeOf9 (by decide)) (.run [] [] rfl (st_load_box1 rfl rfl rfl Try.isAgg9 rfl) (.run [] [] rfl (st_faddr_box rfl rfl Try.underlying42 rfl Try.sizeOf9 (by decide)) (.run [] [] rfl (st_load_box1 rfl rfl rfl Try.isAgg9 rfl) (.run [] [] rfl (st_eq (st_seql rfl rfl rfl) (by exact congrArg (fun b => AV.p none (.v (.bool b))) h5)) (.run [] [] rfl (st_move rfl) (.run [] [] rfl (st_faddr_box rfl rfl Try.underlying42 rfl Try.sizeOf2 (by decide)) (.run [] [] rfl (st_load_box1 rfl rfl rfl Try.isAgg2 rfl) (.run [] [] rfl (st_faddr_box rfl rfl Try.underlying42 rfl Try.sizeOf2 (by decide)) (.run [] [] rfl (st_load_box1 rfl rfl rfl Try.isAgg2 rfl) (.run [] [] rfl (st_eq (st_gtr rfl rfl rfl) (by exact congrArg (fun b => AV.p none (.v (.bool b))) h6)) (.run [] [] rfl (st_move rfl) (.run [] [] rfl (st_faddr_box rfl rfl Try.underlying42 rfl Try.sizeOf2 (by decide)) (.run [] [] rfl (st_load_box1 rfl rfl rfl Try.isAgg2 rfl) (.run [] [] rfl (st_faddr_box rfl rfl Try.underlying42 rfl Try.sizeOf2 (by decide)) (.run [] [] rfl (st_load_box1 rfl rfl rfl Try.isAgg2 rfl) (.run [] [] rfl (st_eq (st_eql rfl rfl rfl) (by exact congrArg (fun b => AV.p none (.v (.bool b))) h7)) (.run [] [] rfl (st_move rfl) (.run [] [] rfl (st_faddr_box rfl rfl Try.underlying42 rfl Try.sizeOf2 (by decide)) (.run [] [] rfl (st_load_box1 rfl rfl rfl Try.isAgg2 rfl) (.run [] [] rfl (st_faddr_box rfl rfl Try.underlying42 rfl Try.sizeOf2 (by decide)) (.run [] [] rfl (st_load_box1 rfl rfl rfl Try.isAgg2 rfl) (.run [] [] rfl (st_gtr rfl rfl rfl) (.run [] [] rfl (st_pick (t := true) rfl rfl) (.run [] [] rfl (st_pick (t := false) rfl rfl) (.run [] [] rfl (st_pick (t := true) rfl rfl) (.run [] [] rfl (st_pick (t := false) rfl rfl) .nil))))))))))))))))))))))))))))))))) ?_
                refine tr_if (t := decide (b.kind < a.kind)) rfl (fun h8 => ?_) (fun h8 => ?_)
                · skip
                  replace h8 := of_decide_eq_true h8
                  refine tr_seq ?_
                  refine tr_wk (s' := mk [] [] []) ?_ ?_
                  · exact wk_mk trivial trivial trivial rfl
                  refine tr_region rfl (.run [] [] rfl (st_assign rfl) .nil) ?_
                  refine tr_ret ?_
                  exact ends [_] [] (.cons (.tmp (int_eq (by rw [kcmp_ok h1' h2]; exact (cmpK_lt (by simp_all [LessE])).symm))) .nil) (.cons (.one .v (.v _)) .nil) (by decide) trivial
                · skip
                  replace h8 := of_decide_eq_false h8
                  refine tr_skip ?_
                  refine tr_seq ?_
                  refine tr_wk (s' := mk [] [] []) ?_ ?_
                  · exact wk_mk trivial trivial trivial rfl
                  refine tr_region rfl (.run [] [] rfl (st_assign rfl) .nil) ?_
                  refine tr_ret ?_
                  exact ends [_] [] (.cons (.tmp (int_eq (by rw [kcmp_ok h1' h2]; exact (cmpK_gt (by simp_all [LessE] <;> omega) (by have hk := h3; simp only [Prod.mk.injEq] at hk; exact hk)).symm))) .nil) (.cons (.one .v (.v _)) .nil) (by decide) trivial
            · have h6' := h6
              replace h6' := of_decide_eq_true h6'
              refine tr_region rfl (.run [] [] rfl (st_faddr_box rfl rfl Try.underlying42 rfl Try.sizeOf9 (by decide)) (.run [] [] rfl (st_load_box1 rfl rfl rfl Try.isAgg9 rfl) (.run [] [] rfl (st_faddr_box rfl rfl Try.underlying42 rfl Try.sizeOf9 (by decide)) (.run [] [] rfl (st_load_box1 rfl rfl rfl Try.isAgg9 rfl) (.run [] [] rfl (st_eq (st_slss rfl rfl rfl) (by exact congrArg (fun b => AV.p none (.v (.bool b))) h4)) (.run [] [] rfl (st_move rfl) (.run [] [] rfl (st_faddr_box rfl rfl Try.underlying42 rfl Try.sizeOf9 (by decide)) (.run [] [] rfl (st_load_box1 rfl rfl rfl Try.isAgg9 rfl) (.run [] [] rfl (st_faddr_box rfl rfl Try.underlying42 rfl Try.sizeOf9 (by decide)) (.run [] [] rfl (st_load_box1 rfl rfl rfl Try.isAgg9 rfl) (.run [] [] rfl (st_eq (st_seql rfl rfl rfl) (by exact congrArg (fun b => AV.p none (.v (.bool b))) h5)) (.run [] [] rfl (st_move rfl) (.run [] [] rfl (st_faddr_box rfl rfl Try.underlying42 rfl Try.sizeOf2 (by decide)) (.run [] [] rfl (st_load_box1 rfl rfl rfl Try.isAgg2 rfl) (.run [] [] rfl (st_faddr_box rfl rfl Try.underlying42 rfl Try.sizeOf2 (by decide)) (.run [] [] rfl (st_load_box1 rfl rfl rfl Try.isAgg2 rfl) (.run [] [] rfl (st_eq (st_gtr rfl rfl rfl) (by exact congrArg (fun b => AV.p none (.v (.bool b))) h6)) (.run [] [] rfl (st_move rfl) (.not rfl (.not rfl (.not rfl (.not rfl (.not rfl (.not rfl (.not rfl (.not rfl (.not rfl (.not rfl (.not rfl (.not rfl (.run [] [] rfl (st_pick (t := true) rfl rfl) (.run [] [] rfl (st_pick (t := true) rfl rfl) (.run [] [] rfl (st_pick (t := false) rfl rfl) .nil))))))))))))))))))))))))))))))))) ?_
              refine tr_if (t := true) rfl (fun _ => ?_) (fun h => nomatch h)
              refine tr_seq ?_
              refine tr_wk (s' := mk [] [] []) ?_ ?_
              · exact wk_mk trivial trivial trivial rfl
              refine tr_region rfl (.run [] [] rfl (st_assign rfl) .nil) ?_
              refine tr_ret ?_
              exact ends [_] [] (.cons (.tmp (int_eq (by rw [kcmp_ok h1' h2]; exact (cmpK_lt (by simp_all [LessE])).symm))) .nil) (.cons (.one .v (.v _)) .nil) (by decide) trivial
        · have h4' := h4
          refine tr_region rfl (.run [] [] rfl (st_faddr_box rfl rfl Try.underlying42 rfl Try.sizeOf9 (by decide)) (.run [] [] rfl (st_load_box1 rfl rfl rfl Try.isAgg9 rfl) (.run [] [] rfl (st_faddr_box rfl rfl Try.underlying42 rfl Try.sizeOf9 (by decide)) (.run [] [] rfl (st_load_box1 rfl rfl rfl Try.isAgg9 rfl) (.run [] [] rfl (st_eq (st_slss rfl rfl rfl) (by exact congrArg (fun b => AV.p none (.v (.bool b))) h4)) (.run [] [] rfl (st_move rfl) (.not rfl (.not rfl (.not rfl (.not rfl (.not rfl (.not rfl (.not rfl (.not rfl (.not rfl (.not rfl (.not rfl (.not rfl (.not rfl (.not rfl (.not rfl (.not rfl (.not rfl (.not rfl (.not rfl (.not rfl (.not rfl (.not rfl (.not rfl (.not rfl (.not rfl (.not rfl (.run [] [] rfl (st_pick (t := true) rfl rfl) .nil))))))))))))))))))))))))))))))))) ?_
          refine tr_if (t := true) rfl (fun _ => ?_) (fun h => nomatch h)
          refine tr_seq ?_
          refine tr_wk (s' := mk [] [] []) ?_ ?_
          · exact wk_mk trivial trivial trivial rfl
          refine tr_region rfl (.run [] [] rfl (st_assign rfl) .nil) ?_
          refine tr_ret ?_
          exact ends [_] [] (.cons (.tmp (int_eq (by rw [kcmp_ok h1' h2]; exact (cmpK_lt (by simp_all [LessE])).symm))) .nil) (.cons (.one .v (.v _)) .nil) (by decide) trivial
  · have h1' := h1
    replace h1' : (keyOk a.user a.seq a.kind) = false := bnot_t h1'
    refine tr_region rfl (.run [] [] rfl (st_load_box rfl rfl rfl Try.isAgg42 Try.sizeOf42 (nle rfl)) (.run [600] [] rfl (st_call rfl 600 (X := []) en143 rfl (.val nod) (.cons (.agg (.cons (.bor .v) (.cons (.bor .v) (.cons (.bor .v) .nil)))) .nil) (by decide) all_nil .nil (specKeyOk_con a) rfl rfl (nle rfl)) (.run [] [] rfl (st_eq (st_not (b := keyOk a.user a.seq a.kind) rfl rfl) (by exact congrArg (fun b => AV.p none (.v (.bool b))) h1)) (.run [] [] rfl (st_move rfl) (.not rfl (.not rfl (.not rfl (.run [] [] rfl (st_pick (t := true) rfl rfl) .nil)))))))) ?_
    refine tr_if (t := true) rfl (fun _ => ?_) (fun h => nomatch h)
    refine tr_seq ?_
    refine tr_region rfl (.run [] [] rfl (st_assign rfl) .nil) ?_
    refine tr_ret ?_
    exact ends [_] [] (.cons (.tmp (int_eq (by simp [kcmp, h1']))) .nil) (.cons (.one .v (.v _)) .nil) (by decide) trivial
set_option maxRecDepth 1000000 in
theorem entriesOk_con (l : List Ent) (hl : l.length ≤ 2000000) : Con Try.prog 38 [.one (PV.sl false 4 (pvE l))] [] [.one (.v (.bool (entsOk l)))] := by
  refine con_of_tr Try.func38 rfl rfl rfl rfl ?_
  have hle := pvE_length l
  refine tr_seq ?_
  refine tr_region rfl (.run [] [] rfl (st_assign rfl) .nil) ?_
  refine tr_seq ?_
  refine tr_seq ?_
  refine tr_region rfl (.run [] [] rfl (st_move rfl) (.run [] [] rfl (st_len_fro rfl rfl Try.underlying26) (.run [] [] rfl (st_gtr rfl rfl rfl) .nil))) ?_
  refine tr_if (t := decide (400 < ((pvE l).length : Int))) rfl (fun h1 => ?_) (fun h1 => ?_)
  · skip
    replace h1 := of_decide_eq_true h1
    refine tr_seq ?_
    refine tr_region rfl (.run [] [] rfl (st_assign rfl) .nil) ?_
    refine tr_ret ?_
    exact ends [_] [] (.cons (.tmp (bool_eq (ents_long (by omega)).symm)) .nil) (.cons (.one .v (.v _)) .nil) (by decide) trivial
  · skip
    replace h1 := of_decide_eq_false h1
    refine tr_skip ?_
    refine tr_seq ?_
    refine tr_seq ?_
    refine tr_region rfl (.run [] [] rfl (st_move rfl) (.run [] [] rfl (st_len_fro rfl rfl Try.underlying26) (.run [] [] rfl (st_move rfl) .nil))) ?_
    refine tr_block ?_
    refine tr_loopS (σ := Nat) (fun i => mk [(0, .p none (.sl false 4 (pvE l))), (8, .p none (.sl false 4 (pvE l))), (9, .p none (.v (.int .i64 ((pvE l).length : Int)))), (10, .p none (.v (.int .i64 (i:Int))))] [] []) (fun i => i ≤ l.length ∧ ∀ j e, j < i → l[j]? = some e → okEnt l j e = true) (fun i => l.length - i) 0 ⟨Nat.zero_le _, fun _ _ h => absurd h (Nat.not_lt_zero _)⟩ (wk_mk ⟨rfl, ⟨rfl, ⟨rfl, ⟨(int_eq (by omega)), trivial⟩⟩⟩⟩ trivial trivial rfl) ?_
    rintro i hG
    replace hG : i ≤ l.length ∧ ∀ j e, j < i → l[j]? = some e → okEnt l j e = true := hG
    obtain ⟨hi, hG⟩ := hG
    refine tr_seq ?_
    refine tr_region rfl (.run [] [] rfl (st_lss rfl rfl rfl) .nil) ?_
    refine tr_seq ?_
    refine tr_if (t := decide ((i:Int) < ((pvE l).length : Int))) rfl (fun h2 => ?_) (fun h2 => ?_)
    · skip
      replace h2 := of_decide_eq_true h2
      refine tr_skip ?_
      refine tr_seq ?_
      refine tr_block ?_
      refine tr_seq ?_
      obtain ⟨e, he⟩ : ∃ e, l[i]? = some e := ⟨_, List.getElem?_eq_getElem (by (have hL := pvE_length l; omega))⟩
      have hlte := (List.getElem?_eq_some_iff.1 he).1
      refine tr_region rfl (.run [] [] rfl (st_move rfl) (.run [] [] rfl (st_idx_fro rfl rfl rfl Try.underlying26 Try.sizeOf44 rfl (by omega) (pvE_get he)) (.run [] [] rfl (st_load_fea rfl rfl Try.isAgg44 Try.sizeOf44 (nle rfl)) (.run [] [4] rfl (st_allocZ rfl 4 inf44 rfl (by decide) rfl (by decide)) (.run [] [] rfl (st_assign rfl) (.run [] [] rfl (st_store_box rfl rfl rfl rfl rfl Try.sizeOf44 rfl (nle rfl)) .nil)))))) ?_
      refine tr_seq ?_
      refine tr_wk (s' := mk [(0, .p none (.sl false 4 (pvE l))), (3, .p none (.v (.int .i64 (i:Int)))), (4, .ptr 4 0), (8, .p none (.sl false 4 (pvE l))), (9, .p none (.v (.int .i64 ((pvE l).length : Int)))), (10, .p none (.v (.int .i64 (i:Int))))] [(4, [.p none (.v (.string e.user)), .p none (.v (.int .i64 e.seq)), .p none (.v (.int .i64 e.kind)), .p none (.v (.string e.value))])] []) ?_ ?_
      · exact wk_mk ⟨rfl, ⟨rfl, ⟨rfl, ⟨rfl, ⟨rfl, ⟨rfl, trivial⟩⟩⟩⟩⟩⟩ ⟨rfl, trivial⟩ trivial rfl
      rcases bfc (!(entOk e)) with h3 | h3
      · have h3' := h3
        replace h3' : (entOk e) = true := bnot_f h3'
        rcases bfc (decide (0 < (i:Int))) with h4 | h4
        · have h4' := h4
          replace h4' := of_decide_eq_false h4'
          refine tr_regionD mixed rfl (.run [] [] rfl (st_load_box rfl rfl rfl Try.isAgg44 Try.sizeOf44 (nle rfl)) (.run [1600] [] rfl (st_call rfl 1600 (X := []) en87 rfl (.val nod) (.cons (.agg (.cons (.bor .v) (.cons (.bor .v) (.cons (.bor .v) (.cons (.bor .v) .nil))))) .nil) (by decide) all_nil .nil (entryOk_con e) rfl rfl (nle rfl)) (.run [] [] rfl (st_eq (st_not (b := entOk e) rfl rfl) (by exact congrArg (fun b => AV.p none (.v (.bool b))) h3)) (.run [] [] rfl (st_move rfl) (.run [] [] rfl (st_move rfl) (.run [] [] rfl (st_eq (st_gtr rfl rfl rfl) (by exact congrArg (fun b => AV.p none (.v (.bool b))) h4)) (.run [] [] rfl (st_move rfl) (.not rfl (.not rfl (.not rfl (.not rfl (.not rfl (.not rfl (.not rfl (.not rfl (.not rfl (.not rfl (.run [] [] rfl (st_pick (t := false) rfl rfl) (.run [] [] rfl (st_pick (t := false) rfl rfl) .nil))))))))))))))))))) (by kernel_rfl) ?_
          refine tr_if (t := false) rfl (fun h => nomatch h) (fun _ => ?_)
          refine tr_skip ?_
          refine tr_wk (s' := mk [(0, .p none (.sl false 4 (pvE l))), (8, .p none (.sl false 4 (pvE l))), (9, .p none (.v (.int .i64 ((pvE l).length : Int)))), (10, .p none (.v (.int .i64 (i:Int)))), (19, .p none (.v (.int .i64 (i:Int)))), (20, .p none (.v (.bool false))), (21, .p none (.v (.bool false))), (32, .p none (.v (.bool false)))] [] []) ?_ ?_
          · exact wk_mk ⟨rfl, ⟨rfl, ⟨rfl, ⟨rfl, ⟨rfl, ⟨rfl, ⟨rfl, ⟨rfl, trivial⟩⟩⟩⟩⟩⟩⟩⟩ trivial trivial rfl
          refine tr_region rfl (.run [] [] rfl (st_addn rfl rfl rfl (by omega)) (.run [] [] rfl (st_move rfl) .nil)) ?_
          refine nxt (Q := fun _ _ => False) (z := i) (i + 1) ?_ ?_ ?_
          · show (i + 1) ≤ l.length ∧ ∀ j e, j < (i + 1) → l[j]? = some e → okEnt l j e = true
            exact ⟨by omega, ix_step hG he (okEnt_first h3' (by omega))⟩
          · show l.length - (i + 1) < l.length - i
            omega
          · exact wk_mk ⟨rfl, ⟨rfl, ⟨rfl, ⟨(int_eq (by omega)), trivial⟩⟩⟩⟩ trivial trivial rfl
        · have h4' := h4
          replace h4' := of_decide_eq_true h4'
          obtain ⟨e2, he2⟩ : ∃ e, l[(i - 1 : Nat)]? = some e := ⟨_, List.getElem?_eq_getElem (by (have hL := pvE_length l; omega))⟩
          have hlte2 := (List.getElem?_eq_some_iff.1 he2).1
          refine tr_regionD mixed rfl (.run [] [] rfl (st_load_box rfl rfl rfl Try.isAgg44 Try.sizeOf44 (nle rfl)) (.run [1600] [] rfl (st_call rfl 1600 (X := []) en87 rfl (.val nod) (.cons (.agg (.cons (.bor .v) (.cons (.bor .v) (.cons (.bor .v) (.cons (.bor .v) .nil))))) .nil) (by decide) all_nil .nil (entryOk_con e) rfl rfl (nle rfl)) (.run [] [] rfl (st_eq (st_not (b := entOk e) rfl rfl) (by exact congrArg (fun b => AV.p none (.v (.bool b))) h3)) (.run [] [] rfl (st_move rfl) (.run [] [] rfl (st_move rfl) (.run [] [] rfl (st_eq (st_gtr rfl rfl rfl) (by exact congrArg (fun b => AV.p none (.v (.bool b))) h4)) (.run [] [] rfl (st_move rfl) (.run [] [] rfl (st_move rfl) (.run [] [] rfl (st_move rfl) (.run [] [] rfl (st_eq (st_subn rfl rfl rfl (by omega)) (((show (AV.p none (.v (.int .i64 ((i:Int) - 1)))) = AV.p none (.v (.int .i64 ((i - 1 : Nat) : Int))) from int_eq (by omega))))) (.run [] [] rfl (st_idx_fro rfl rfl rfl Try.underlying26 Try.sizeOf44 rfl (by omega) (pvE_get he2)) (.run [] [] rfl (st_faddr_fea rfl rfl Try.underlying44 rfl Try.sizeOf42 (by decide)) (.run [] [] rfl (st_load_fea rfl rfl Try.isAgg42 Try.sizeOf42 (nle rfl)) (.run [] [] rfl (st_faddr_box rfl rfl Try.underlying44 rfl Try.sizeOf42 (by decide)) (.run [] [] rfl (st_load_box rfl rfl rfl Try.isAgg42 Try.sizeOf42 (nle rfl)) (.run [3000] [] rfl (st_call rfl 3000 (X := []) en88 rfl (.val nod) (.cons (.agg (.cons (.bor .v) (.cons (.bor .v) (.cons (.bor .v) .nil)))) (.cons (.agg (.cons (.bor .v) (.cons (.bor .v) (.cons (.bor .v) .nil)))) .nil)) (by decide) all_nil .nil (cmpKeys_con e2 e) rfl rfl (nle rfl)) (.run [] [] rfl (st_geq rfl rfl rfl) (.run [] [] rfl (st_pick (t := true) rfl rfl) (.run [] [] rfl (st_pick (t := false) rfl rfl) .nil))))))))))))))))))) (by kernel_rfl) ?_
          refine tr_if (t := decide (0 ≤ (cmpK e2 e))) rfl (fun h5 => ?_) (fun h5 => ?_)
          · skip
            replace h5 := of_decide_eq_true h5
            refine tr_seq ?_
            refine tr_wk (s' := mk [] [] []) ?_ ?_
            · exact wk_mk trivial trivial trivial rfl
            refine tr_region rfl (.run [] [] rfl (st_assign rfl) .nil) ?_
            refine tr_ret ?_
            exact ends [_] [] (.cons (.tmp (bool_eq (ents_no he (okEnt_off (by omega) he2 h5)).symm)) .nil) (.cons (.one .v (.v _)) .nil) (by decide) trivial
          · skip
            replace h5 := of_decide_eq_false h5
            refine tr_skip ?_
            refine tr_wk (s' := mk [(0, .p none (.sl false 4 (pvE l))), (8, .p none (.sl false 4 (pvE l))), (9, .p none (.v (.int .i64 ((pvE l).length : Int)))), (10, .p none (.v (.int .i64 (i:Int)))), (19, .p none (.v (.int .i64 (i:Int)))), (20, .p none (.v (.bool true))), (21, .p none (.v (.bool true))), (22, .p none (.sl false 4 (pvE l))), (23, .p none (.v (.int .i64 (i:Int)))), (24, .p none (.v (.int .i64 ((i - 1 : Nat):Int)))), (25, .fea none [PV.v (.string e2.user), PV.v (.int .i64 e2.seq), PV.v (.int .i64 e2.kind), PV.v (.string e2.value)]), (26, .fea none [PV.v (.string e2.user), PV.v (.int .i64 e2.seq), PV.v (.int .i64 e2.kind), PV.v (.string e2.value)]), (27, .agg [.p none (.v (.string e2.user)), .p none (.v (.int .i64 e2.seq)), .p none (.v (.int .i64 e2.kind))]), (28, .ptr 4 0), (29, .agg [.p none (.v (.string e.user)), .p none (.v (.int .i64 e.seq)), .p none (.v (.int .i64 e.kind))]), (30, .p none (.v (.int .i64 (cmpK e2 e)))), (31, .p none (.v (.bool (decide (0 ≤ (cmpK e2 e)))))), (32, .p none (.v (.bool (decide (0 ≤ (cmpK e2 e))))))] [(4, [.p none (.v (.string e.user)), .p none (.v (.int .i64 e.seq)), .p none (.v (.int .i64 e.kind)), .p none (.v (.string e.value))])] []) ?_ ?_
            · exact wk_mk ⟨rfl, ⟨rfl, ⟨rfl, ⟨rfl, ⟨rfl, ⟨rfl, ⟨rfl, ⟨rfl, ⟨rfl, ⟨rfl, ⟨rfl, ⟨rfl, ⟨rfl, ⟨rfl, ⟨rfl, ⟨rfl, ⟨rfl, ⟨rfl, trivial⟩⟩⟩⟩⟩⟩⟩⟩⟩⟩⟩⟩⟩⟩⟩⟩⟩⟩ ⟨rfl, trivial⟩ trivial rfl
            refine tr_region rfl (.run [] [] rfl (st_addn rfl rfl rfl (by omega)) (.run [] [] rfl (st_move rfl) .nil)) ?_
            refine nxt (Q := fun _ _ => False) (z := i) (i + 1) ?_ ?_ ?_
            · show (i + 1) ≤ l.length ∧ ∀ j e, j < (i + 1) → l[j]? = some e → okEnt l j e = true
              exact ⟨by omega, ix_step hG he (okEnt_next h3' he2 h5)⟩
            · show l.length - (i + 1) < l.length - i
              omega
            · exact wk_mk ⟨rfl, ⟨rfl, ⟨rfl, ⟨(int_eq (by omega)), trivial⟩⟩⟩⟩ trivial trivial rfl
      · have h3' := h3
        replace h3' : (entOk e) = false := bnot_t h3'
        refine tr_regionD mixed rfl (.run [] [] rfl (st_load_box rfl rfl rfl Try.isAgg44 Try.sizeOf44 (nle rfl)) (.run [1600] [] rfl (st_call rfl 1600 (X := []) en87 rfl (.val nod) (.cons (.agg (.cons (.bor .v) (.cons (.bor .v) (.cons (.bor .v) (.cons (.bor .v) .nil))))) .nil) (by decide) all_nil .nil (entryOk_con e) rfl rfl (nle rfl)) (.run [] [] rfl (st_eq (st_not (b := entOk e) rfl rfl) (by exact congrArg (fun b => AV.p none (.v (.bool b))) h3)) (.run [] [] rfl (st_move rfl) (.not rfl (.not rfl (.not rfl (.not rfl (.not rfl (.not rfl (.not rfl (.not rfl (.not rfl (.not rfl (.not rfl (.not rfl (.not rfl (.not rfl (.run [] [] rfl (st_pick (t := true) rfl rfl) .nil))))))))))))))))))) (by kernel_rfl) ?_
        refine tr_if (t := true) rfl (fun _ => ?_) (fun h => nomatch h)
        refine tr_seq ?_
        refine tr_wk (s' := mk [] [] []) ?_ ?_
        · exact wk_mk trivial trivial trivial rfl
        refine tr_region rfl (.run [] [] rfl (st_assign rfl) .nil) ?_
        refine tr_ret ?_
        exact ends [_] [] (.cons (.tmp (bool_eq (ents_no he (okEnt_bad h3')).symm)) .nil) (.cons (.one .v (.v _)) .nil) (by decide) trivial
    · skip
      replace h2 := of_decide_eq_false h2
      refine tr_exit ?_
      refine tr_seq ?_
      refine tr_region rfl (.run [] [] rfl (st_assign rfl) .nil) ?_
      refine tr_ret ?_
      exact ends [_] [] (.cons (.tmp (bool_eq (ents_yes (by omega) (by omega) hG).symm)) .nil) (.cons (.one .v (.v _)) .nil) (by decide) trivial
set_option maxRecDepth 1000000 in
theorem specEntriesOk_con (l : List Ent) (hl : l.length ≤ 2000000) : Con Try.prog 31 [.one (PV.sl false 4 (pvE l))] [] [.one (.v (.bool (entsOk l)))] := by
  refine con_of_tr Try.func31 rfl rfl rfl rfl ?_
  have hle := pvE_length l
  refine tr_seq ?_
  refine tr_region rfl (.run [] [] rfl (st_assign rfl) .nil) ?_
  refine tr_seq ?_
  refine tr_seq ?_
  refine tr_region rfl (.run [] [] rfl (st_move rfl) (.run [] [] rfl (st_len_fro rfl rfl Try.underlying26) (.run [] [] rfl (st_gtr rfl rfl rfl) .nil))) ?_
  refine tr_if (t := decide (400 < ((pvE l).length : Int))) rfl (fun h1 => ?_) (fun h1 => ?_)
  · skip
    replace h1 := of_decide_eq_true h1
    refine tr_seq ?_
    refine tr_region rfl (.run [] [] rfl (st_assign rfl) .nil) ?_
    refine tr_ret ?_
    exact ends [_] [] (.cons (.tmp (bool_eq (ents_long (by omega)).symm)) .nil) (.cons (.one .v (.v _)) .nil) (by decide) trivial
  · skip
    replace h1 := of_decide_eq_false h1
    refine tr_skip ?_
    refine tr_seq ?_
    refine tr_seq ?_
    refine tr_region rfl (.run [] [] rfl (st_assign rfl) .nil) ?_
    refine tr_block ?_
    refine tr_loopS (σ := Nat) (fun i => mk [(0, .p none (.sl false 4 (pvE l))), (3, .p none (.v (.int .i64 (i:Int))))] [] []) (fun i => i ≤ l.length ∧ ∀ j e, j < i → l[j]? = some e → okEnt l j e = true) (fun i => l.length - i) 0 ⟨Nat.zero_le _, fun _ _ h => absurd h (Nat.not_lt_zero _)⟩ (wk_mk ⟨rfl, ⟨(int_eq (by omega)), trivial⟩⟩ trivial trivial rfl) ?_
    rintro i hG
    replace hG : i ≤ l.length ∧ ∀ j e, j < i → l[j]? = some e → okEnt l j e = true := hG
    obtain ⟨hi, hG⟩ := hG
    refine tr_seq ?_
    refine tr_seq ?_
    refine tr_region rfl (.run [] [] rfl (st_move rfl) (.run [] [] rfl (st_move rfl) (.run [] [] rfl (st_len_fro rfl rfl Try.underlying26) (.run [] [] rfl (st_lss rfl rfl rfl) .nil)))) ?_
    refine tr_if (t := decide ((i:Int) < ((pvE l).length : Int))) rfl (fun h2 => ?_) (fun h2 => ?_)
    · skip
      replace h2 := of_decide_eq_true h2
      refine tr_skip ?_
      refine tr_seq ?_
      refine tr_block ?_
      refine tr_seq ?_
      refine tr_wk (s' := mk [(0, .p none (.sl false 4 (pvE l))), (3, .p none (.v (.int .i64 (i:Int))))] [] []) ?_ ?_
      · exact wk_mk ⟨rfl, ⟨rfl, trivial⟩⟩ trivial trivial rfl
      obtain ⟨e, he⟩ : ∃ e, l[i]? = some e := ⟨_, List.getElem?_eq_getElem (by (have hL := pvE_length l; omega))⟩
      have hlte := (List.getElem?_eq_some_iff.1 he).1
      rcases bfc (!(entOk e)) with h3 | h3
      · have h3' := h3
        replace h3' : (entOk e) = true := bnot_f h3'
        rcases bfc (decide (0 < (i:Int))) with h4 | h4
        · have h4' := h4
          replace h4' := of_decide_eq_false h4'
          refine tr_regionD mixed rfl (.run [] [] rfl (st_move rfl) (.run [] [] rfl (st_move rfl) (.run [] [] rfl (st_idx_fro rfl rfl rfl Try.underlying26 Try.sizeOf44 rfl (by omega) (pvE_get he)) (.run [] [] rfl (st_load_fea rfl rfl Try.isAgg44 Try.sizeOf44 (nle rfl)) (.run [1700] [] rfl (st_call rfl 1700 (X := []) en82 rfl (.val nod) (.cons (.agg (.cons (.bor .v) (.cons (.bor .v) (.cons (.bor .v) (.cons (.bor .v) .nil))))) .nil) (by decide) all_nil .nil (specEntryOk_con e) rfl rfl (nle rfl)) (.run [] [] rfl (st_eq (st_not (b := entOk e) rfl rfl) (by exact congrArg (fun b => AV.p none (.v (.bool b))) h3)) (.run [] [] rfl (st_move rfl) (.run [] [] rfl (st_move rfl) (.run [] [] rfl (st_eq (st_gtr rfl rfl rfl) (by exact congrArg (fun b => AV.p none (.v (.bool b))) h4)) (.run [] [] rfl (st_move rfl) (.not rfl (.not rfl (.not rfl (.not rfl (.not rfl (.not rfl (.not rfl (.not rfl (.not rfl (.not rfl (.not rfl (.not rfl (.not rfl (.run [] [] rfl (st_pick (t := false) rfl rfl) (.run [] [] rfl (st_pick (t := false) rfl rfl) .nil))))))))))))))))))))))))) (by kernel_rfl) ?_
          refine tr_if (t := false) rfl (fun h => nomatch h) (fun _ => ?_)
          refine tr_skip ?_
          refine tr_wk (s' := mk [(0, .p none (.sl false 4 (pvE l))), (3, .p none (.v (.int .i64 (i:Int)))), (20, .p none (.v (.int .i64 (i:Int)))), (21, .p none (.v (.bool false))), (22, .p none (.v (.bool false))), (36, .p none (.v (.bool false)))] [] []) ?_ ?_
          · exact wk_mk ⟨rfl, ⟨rfl, ⟨rfl, ⟨rfl, ⟨rfl, ⟨rfl, trivial⟩⟩⟩⟩⟩⟩ trivial trivial rfl
          refine tr_region rfl (.run [] [] rfl (st_move rfl) (.run [] [] rfl (st_addn rfl rfl rfl (by omega)) (.run [] [] rfl (st_assign rfl) .nil))) ?_
          refine nxt (Q := fun _ _ => False) (z := i) (i + 1) ?_ ?_ ?_
          · show (i + 1) ≤ l.length ∧ ∀ j e, j < (i + 1) → l[j]? = some e → okEnt l j e = true
            exact ⟨by omega, ix_step hG he (okEnt_first h3' (by omega))⟩
          · show l.length - (i + 1) < l.length - i
            omega
          · exact wk_mk ⟨rfl, ⟨(int_eq (by omega)), trivial⟩⟩ trivial trivial rfl
        · have h4' := h4
          replace h4' := of_decide_eq_true h4'
          obtain ⟨e2, he2⟩ : ∃ e, l[(i - 1 : Nat)]? = some e := ⟨_, List.getElem?_eq_getElem (by (have hL := pvE_length l; omega))⟩
          have hlte2 := (List.getElem?_eq_some_iff.1 he2).1
          refine tr_regionD mixed rfl (.run [] [] rfl (st_move rfl) (.run [] [] rfl (st_move rfl) (.run [] [] rfl (st_idx_fro rfl rfl rfl Try.underlying26 Try.sizeOf44 rfl (by omega) (pvE_get he)) (.run [] [] rfl (st_load_fea rfl rfl Try.isAgg44 Try.sizeOf44 (nle rfl)) (.run [1700] [] rfl (st_call rfl 1700 (X := []) en82 rfl (.val nod) (.cons (.agg (.cons (.bor .v) (.cons (.bor .v) (.cons (.bor .v) (.cons (.bor .v) .nil))))) .nil) (by decide) all_nil .nil (specEntryOk_con e) rfl rfl (nle rfl)) (.run [] [] rfl (st_eq (st_not (b := entOk e) rfl rfl) (by exact congrArg (fun b => AV.p none (.v (.bool b))) h3)) (.run [] [] rfl (st_move rfl) (.run [] [] rfl (st_move rfl) (.run [] [] rfl (st_eq (st_gtr rfl rfl rfl) (by exact congrArg (fun b => AV.p none (.v (.bool b))) h4)) (.run [] [] rfl (st_move rfl) (.run [] [] rfl (st_move rfl) (.run [] [] rfl (st_move rfl) (.run [] [] rfl (st_eq (st_subn rfl rfl rfl (by omega)) (((show (AV.p none (.v (.int .i64 ((i:Int) - 1)))) = AV.p none (.v (.int .i64 ((i - 1 : Nat) : Int))) from int_eq (by omega))))) (.run [] [] rfl (st_idx_fro rfl rfl rfl Try.underlying26 Try.sizeOf44 rfl (by omega) (pvE_get he2)) (.run [] [] rfl (st_faddr_fea rfl rfl Try.underlying44 rfl Try.sizeOf42 (by decide)) (.run [] [] rfl (st_load_fea rfl rfl Try.isAgg42 Try.sizeOf42 (nle rfl)) (.run [] [] rfl (st_move rfl) (.run [] [] rfl (st_move rfl) (.run [] [] rfl (st_idx_fro rfl rfl rfl Try.underlying26 Try.sizeOf44 rfl (by omega) (pvE_get he)) (.run [] [] rfl (st_faddr_fea rfl rfl Try.underlying44 rfl Try.sizeOf42 (by decide)) (.run [] [] rfl (st_load_fea rfl rfl Try.isAgg42 Try.sizeOf42 (nle rfl)) (.run [3400] [] rfl (st_call rfl 3400 (X := []) en83 rfl (.val nod) (.cons (.agg (.cons (.bor .v) (.cons (.bor .v) (.cons (.bor .v) .nil)))) (.cons (.agg (.cons (.bor .v) (.cons (.bor .v) (.cons (.bor .v) .nil)))) .nil)) (by decide) all_nil .nil (specKeyCmp_con e2 e) rfl rfl (nle rfl)) (.run [] [] rfl (st_geq rfl rfl rfl) (.run [] [] rfl (st_pick (t := true) rfl rfl) (.run [] [] rfl (st_pick (t := false) rfl rfl) .nil))))))))))))))))))))))))) (by kernel_rfl) ?_
          refine tr_if (t := decide (0 ≤ (kcmp e2 e))) rfl (fun h5 => ?_) (fun h5 => ?_)
          · skip
            replace h5 := of_decide_eq_true h5
            refine tr_seq ?_
            refine tr_wk (s' := mk [] [] []) ?_ ?_
            · exact wk_mk trivial trivial trivial rfl
            refine tr_region rfl (.run [] [] rfl (st_assign rfl) .nil) ?_
            refine tr_ret ?_
            exact ends [_] [] (.cons (.tmp (bool_eq (ents_no he (okEnt_off (by omega) he2 (by rw [← kc_ok hG (by omega) he2 h3']; exact h5))).symm)) .nil) (.cons (.one .v (.v _)) .nil) (by decide) trivial
          · skip
            replace h5 := of_decide_eq_false h5
            refine tr_skip ?_
            refine tr_wk (s' := mk [(0, .p none (.sl false 4 (pvE l))), (3, .p none (.v (.int .i64 (i:Int)))), (20, .p none (.v (.int .i64 (i:Int)))), (21, .p none (.v (.bool true))), (22, .p none (.v (.bool true))), (23, .p none (.sl false 4 (pvE l))), (24, .p none (.v (.int .i64 (i:Int)))), (25, .p none (.v (.int .i64 ((i - 1 : Nat):Int)))), (26, .fea none [PV.v (.string e2.user), PV.v (.int .i64 e2.seq), PV.v (.int .i64 e2.kind), PV.v (.string e2.value)]), (27, .fea none [PV.v (.string e2.user), PV.v (.int .i64 e2.seq), PV.v (.int .i64 e2.kind), PV.v (.string e2.value)]), (28, .agg [.p none (.v (.string e2.user)), .p none (.v (.int .i64 e2.seq)), .p none (.v (.int .i64 e2.kind))]), (29, .p none (.sl false 4 (pvE l))), (30, .p none (.v (.int .i64 (i:Int)))), (31, .fea none [PV.v (.string e.user), PV.v (.int .i64 e.seq), PV.v (.int .i64 e.kind), PV.v (.string e.value)]), (32, .fea none [PV.v (.string e.user), PV.v (.int .i64 e.seq), PV.v (.int .i64 e.kind), PV.v (.string e.value)]), (33, .agg [.p none (.v (.string e.user)), .p none (.v (.int .i64 e.seq)), .p none (.v (.int .i64 e.kind))]), (34, .p none (.v (.int .i64 (kcmp e2 e)))), (35, .p none (.v (.bool (decide (0 ≤ (kcmp e2 e)))))), (36, .p none (.v (.bool (decide (0 ≤ (kcmp e2 e))))))] [] []) ?_ ?_
            · exact wk_mk ⟨rfl, ⟨rfl, ⟨rfl, ⟨rfl, ⟨rfl, ⟨rfl, ⟨rfl, ⟨rfl, ⟨rfl, ⟨rfl, ⟨rfl, ⟨rfl, ⟨rfl, ⟨rfl, ⟨rfl, ⟨rfl, ⟨rfl, ⟨rfl, ⟨rfl, trivial⟩⟩⟩⟩⟩⟩⟩⟩⟩⟩⟩⟩⟩⟩⟩⟩⟩⟩⟩ trivial trivial rfl
            refine tr_region rfl (.run [] [] rfl (st_move rfl) (.run [] [] rfl (st_addn rfl rfl rfl (by omega)) (.run [] [] rfl (st_assign rfl) .nil))) ?_
            refine nxt (Q := fun _ _ => False) (z := i) (i + 1) ?_ ?_ ?_
            · show (i + 1) ≤ l.length ∧ ∀ j e, j < (i + 1) → l[j]? = some e → okEnt l j e = true
              exact ⟨by omega, ix_step hG he (okEnt_next h3' he2 (by rw [← kc_ok hG (by omega) he2 h3']; exact h5))⟩
            · show l.length - (i + 1) < l.length - i
              omega
            · exact wk_mk ⟨rfl, ⟨(int_eq (by omega)), trivial⟩⟩ trivial trivial rfl
      · have h3' := h3
        replace h3' : (entOk e) = false := bnot_t h3'
        refine tr_regionD mixed rfl (.run [] [] rfl (st_move rfl) (.run [] [] rfl (st_move rfl) (.run [] [] rfl (st_idx_fro rfl rfl rfl Try.underlying26 Try.sizeOf44 rfl (by omega) (pvE_get he)) (.run [] [] rfl (st_load_fea rfl rfl Try.isAgg44 Try.sizeOf44 (nle rfl)) (.run [1700] [] rfl (st_call rfl 1700 (X := []) en82 rfl (.val nod) (.cons (.agg (.cons (.bor .v) (.cons (.bor .v) (.cons (.bor .v) (.cons (.bor .v) .nil))))) .nil) (by decide) all_nil .nil (specEntryOk_con e) rfl rfl (nle rfl)) (.run [] [] rfl (st_eq (st_not (b := entOk e) rfl rfl) (by exact congrArg (fun b => AV.p none (.v (.bool b))) h3)) (.run [] [] rfl (st_move rfl) (.not rfl (.not rfl (.not rfl (.not rfl (.not rfl (.not rfl (.not rfl (.not rfl (.not rfl (.not rfl (.not rfl (.not rfl (.not rfl (.not rfl (.not rfl (.not rfl (.not rfl (.run [] [] rfl (st_pick (t := true) rfl rfl) .nil))))))))))))))))))))))))) (by kernel_rfl) ?_
        refine tr_if (t := true) rfl (fun _ => ?_) (fun h => nomatch h)
        refine tr_seq ?_
        refine tr_wk (s' := mk [] [] []) ?_ ?_
        · exact wk_mk trivial trivial trivial rfl
        refine tr_region rfl (.run [] [] rfl (st_assign rfl) .nil) ?_
        refine tr_ret ?_
        exact ends [_] [] (.cons (.tmp (bool_eq (ents_no he (okEnt_bad h3')).symm)) .nil) (.cons (.one .v (.v _)) .nil) (by decide) trivial
    · skip
      replace h2 := of_decide_eq_false h2
      refine tr_exit ?_
      refine tr_seq ?_
      refine tr_region rfl (.run [] [] rfl (st_assign rfl) .nil) ?_
      refine tr_ret ?_
      exact ends [_] [] (.cons (.tmp (bool_eq (ents_yes (by omega) (by omega) hG).symm)) .nil) (.cons (.one .v (.v _)) .nil) (by decide) trivial
set_option maxRecDepth 1000000 in
theorem snapsOk_con (l : List Int) (hl : l.length ≤ 9000000000000000000) : Con Try.prog 73 [.one (PV.sl false 1 (pvI l))] [] [.one (.v (.bool (snapsOk l)))] := by
  refine con_of_tr Try.func73 rfl rfl rfl rfl ?_
  have hle := pvI_length l
  refine tr_seq ?_
  refine tr_region rfl (.run [] [] rfl (st_assign rfl) .nil) ?_
  refine tr_seq ?_
  refine tr_seq ?_
  refine tr_region rfl (.run [] [] rfl (st_move rfl) (.run [] [] rfl (st_len_fro rfl rfl Try.underlying23) (.run [] [] rfl (st_move rfl) .nil))) ?_
  refine tr_block ?_
  refine tr_loopS (σ := Nat) (fun i => mk [(0, .p none (.sl false 1 (pvI l))), (5, .p none (.sl false 1 (pvI l))), (6, .p none (.v (.int .i64 ((pvI l).length : Int)))), (7, .p none (.v (.int .i64 (i:Int))))] [] []) (fun i => i ≤ l.length ∧ ∀ j x, j < i → l[j]? = some x → okSnap l j x = true) (fun i => l.length - i) 0 ⟨Nat.zero_le _, fun _ _ h => absurd h (Nat.not_lt_zero _)⟩ (wk_mk ⟨rfl, ⟨rfl, ⟨rfl, ⟨(int_eq (by omega)), trivial⟩⟩⟩⟩ trivial trivial rfl) ?_
  rintro i hG
  replace hG : i ≤ l.length ∧ ∀ j x, j < i → l[j]? = some x → okSnap l j x = true := hG
  obtain ⟨hi, hG⟩ := hG
  refine tr_seq ?_
  refine tr_region rfl (.run [] [] rfl (st_lss rfl rfl rfl) .nil) ?_
  refine tr_seq ?_
  refine tr_if (t := decide ((i:Int) < ((pvI l).length : Int))) rfl (fun h1 => ?_) (fun h1 => ?_)
  · skip
    replace h1 := of_decide_eq_true h1
    refine tr_skip ?_
    refine tr_seq ?_
    refine tr_block ?_
    refine tr_seq ?_
    obtain ⟨e, he⟩ : ∃ e, l[i]? = some e := ⟨_, List.getElem?_eq_getElem (by (have hL := pvI_length l; omega))⟩
    have hlte := (List.getElem?_eq_some_iff.1 he).1
    refine tr_region rfl (.run [] [] rfl (st_move rfl) (.run [] [] rfl (st_idx_fro rfl rfl rfl Try.underlying23 Try.sizeOf2 rfl (by omega) (pvI_get he)) (.run [] [] rfl (st_load_fea1 rfl rfl Try.isAgg2 rfl) (.run [] [] rfl (st_assign rfl) (.run [] [] rfl (st_assign rfl) .nil))))) ?_
    refine tr_seq ?_
    refine tr_wk (s' := mk [(0, .p none (.sl false 1 (pvI l))), (3, .p none (.v (.int .i64 (i:Int)))), (4, .p none (.v (.int .i64 e))), (5, .p none (.sl false 1 (pvI l))), (6, .p none (.v (.int .i64 ((pvI l).length : Int)))), (7, .p none (.v (.int .i64 (i:Int))))] [] []) ?_ ?_
    · exact wk_mk ⟨rfl, ⟨rfl, ⟨rfl, ⟨rfl, ⟨rfl, ⟨rfl, trivial⟩⟩⟩⟩⟩⟩ trivial trivial rfl
    rcases bfc (!(within e 0 1000000000000)) with h2 | h2
    · have h2' := h2
      replace h2' : (within e 0 1000000000000) = true := bnot_f h2'
      rcases bfc (decide (0 < (i:Int))) with h3 | h3
      · have h3' := h3
        replace h3' := of_decide_eq_false h3'
        refine tr_region rfl (.run [] [] rfl (st_move rfl) (.run [1300] [] rfl (st_call rfl 1300 (X := []) en94 rfl (.val nod) (.cons (.one (.bor .v)) (.cons (.one (.bor .v)) (.cons (.one (.bor .v)) .nil))) (by decide) all_nil .nil (within_con e 0 1000000000000) rfl rfl (nle rfl)) (.run [] [] rfl (st_eq (st_not (b := within e 0 1000000000000) rfl rfl) (by exact congrArg (fun b => AV.p none (.v (.bool b))) h2)) (.run [] [] rfl (st_move rfl) (.run [] [] rfl (st_move rfl) (.run [] [] rfl (st_eq (st_gtr rfl rfl rfl) (by exact congrArg (fun b => AV.p none (.v (.bool b))) h3)) (.run [] [] rfl (st_move rfl) (.not rfl (.not rfl (.not rfl (.not rfl (.not rfl (.not rfl (.not rfl (.run [] [] rfl (st_pick (t := false) rfl rfl) (.run [] [] rfl (st_pick (t := false) rfl rfl) .nil)))))))))))))))) ?_
        refine tr_if (t := false) rfl (fun h => nomatch h) (fun _ => ?_)
        refine tr_skip ?_
        refine tr_wk (s' := mk [(0, .p none (.sl false 1 (pvI l))), (5, .p none (.sl false 1 (pvI l))), (6, .p none (.v (.int .i64 ((pvI l).length : Int)))), (7, .p none (.v (.int .i64 (i:Int)))), (16, .p none (.v (.int .i64 (i:Int)))), (17, .p none (.v (.bool false))), (18, .p none (.v (.bool false))), (26, .p none (.v (.bool false)))] [] []) ?_ ?_
        · exact wk_mk ⟨rfl, ⟨rfl, ⟨rfl, ⟨rfl, ⟨rfl, ⟨rfl, ⟨rfl, ⟨rfl, trivial⟩⟩⟩⟩⟩⟩⟩⟩ trivial trivial rfl
        refine tr_region rfl (.run [] [] rfl (st_addn rfl rfl rfl (by omega)) (.run [] [] rfl (st_move rfl) .nil)) ?_
        refine nxt (Q := fun _ _ => False) (z := i) (i + 1) ?_ ?_ ?_
        · show (i + 1) ≤ l.length ∧ ∀ j x, j < (i + 1) → l[j]? = some x → okSnap l j x = true
          exact ⟨by omega, ix_step hG he (okSnap_first h2' (by omega))⟩
        · show l.length - (i + 1) < l.length - i
          omega
        · exact wk_mk ⟨rfl, ⟨rfl, ⟨rfl, ⟨(int_eq (by omega)), trivial⟩⟩⟩⟩ trivial trivial rfl
      · have h3' := h3
        replace h3' := of_decide_eq_true h3'
        obtain ⟨e2, he2⟩ : ∃ e, l[(i - 1 : Nat)]? = some e := ⟨_, List.getElem?_eq_getElem (by (have hL := pvI_length l; omega))⟩
        have hlte2 := (List.getElem?_eq_some_iff.1 he2).1
        refine tr_region rfl (.run [] [] rfl (st_move rfl) (.run [1300] [] rfl (st_call rfl 1300 (X := []) en94 rfl (.val nod) (.cons (.one (.bor .v)) (.cons (.one (.bor .v)) (.cons (.one (.bor .v)) .nil))) (by decide) all_nil .nil (within_con e 0 1000000000000) rfl rfl (nle rfl)) (.run [] [] rfl (st_eq (st_not (b := within e 0 1000000000000) rfl rfl) (by exact congrArg (fun b => AV.p none (.v (.bool b))) h2)) (.run [] [] rfl (st_move rfl) (.run [] [] rfl (st_move rfl) (.run [] [] rfl (st_eq (st_gtr rfl rfl rfl) (by exact congrArg (fun b => AV.p none (.v (.bool b))) h3)) (.run [] [] rfl (st_move rfl) (.run [] [] rfl (st_move rfl) (.run [] [] rfl (st_move rfl) (.run [] [] rfl (st_move rfl) (.run [] [] rfl (st_eq (st_subn rfl rfl rfl (by omega)) (((show (AV.p none (.v (.int .i64 ((i:Int) - 1)))) = AV.p none (.v (.int .i64 ((i - 1 : Nat) : Int))) from int_eq (by omega))))) (.run [] [] rfl (st_idx_fro rfl rfl rfl Try.underlying23 Try.sizeOf2 rfl (by omega) (pvI_get he2)) (.run [] [] rfl (st_load_fea1 rfl rfl Try.isAgg2 rfl) (.run [] [] rfl (st_leq rfl rfl rfl) (.run [] [] rfl (st_pick (t := true) rfl rfl) (.run [] [] rfl (st_pick (t := false) rfl rfl) .nil)))))))))))))))) ?_
        refine tr_if (t := decide (e ≤ e2)) rfl (fun h4 => ?_) (fun h4 => ?_)
        · skip
          replace h4 := of_decide_eq_true h4
          refine tr_seq ?_
          refine tr_wk (s' := mk [] [] []) ?_ ?_
          · exact wk_mk trivial trivial trivial rfl
          refine tr_region rfl (.run [] [] rfl (st_assign rfl) .nil) ?_
          refine tr_ret ?_
          exact ends [_] [] (.cons (.tmp (bool_eq (snaps_no he (okSnap_off (by omega) he2 h4)).symm)) .nil) (.cons (.one .v (.v _)) .nil) (by decide) trivial
        · skip
          replace h4 := of_decide_eq_false h4
          refine tr_skip ?_
          refine tr_wk (s' := mk [(0, .p none (.sl false 1 (pvI l))), (5, .p none (.sl false 1 (pvI l))), (6, .p none (.v (.int .i64 ((pvI l).length : Int)))), (7, .p none (.v (.int .i64 (i:Int)))), (16, .p none (.v (.int .i64 (i:Int)))), (17, .p none (.v (.bool true))), (18, .p none (.v (.bool true))), (19, .p none (.v (.int .i64 e))), (20, .p none (.sl false 1 (pvI l))), (21, .p none (.v (.int .i64 (i:Int)))), (22, .p none (.v (.int .i64 ((i - 1 : Nat):Int)))), (23, .fea none [PV.v (.int .i64 e2)]), (24, .p none (.v (.int .i64 e2))), (25, .p none (.v (.bool (decide (e ≤ e2))))), (26, .p none (.v (.bool (decide (e ≤ e2)))))] [] []) ?_ ?_
          · exact wk_mk ⟨rfl, ⟨rfl, ⟨rfl, ⟨rfl, ⟨rfl, ⟨rfl, ⟨rfl, ⟨rfl, ⟨rfl, ⟨rfl, ⟨rfl, ⟨rfl, ⟨rfl, ⟨rfl, ⟨rfl, trivial⟩⟩⟩⟩⟩⟩⟩⟩⟩⟩⟩⟩⟩⟩⟩ trivial trivial rfl
          refine tr_region rfl (.run [] [] rfl (st_addn rfl rfl rfl (by omega)) (.run [] [] rfl (st_move rfl) .nil)) ?_
          refine nxt (Q := fun _ _ => False) (z := i) (i + 1) ?_ ?_ ?_
          · show (i + 1) ≤ l.length ∧ ∀ j x, j < (i + 1) → l[j]? = some x → okSnap l j x = true
            exact ⟨by omega, ix_step hG he (okSnap_next h2' he2 h4)⟩
          · show l.length - (i + 1) < l.length - i
            omega
          · exact wk_mk ⟨rfl, ⟨rfl, ⟨rfl, ⟨(int_eq (by omega)), trivial⟩⟩⟩⟩ trivial trivial rfl
    · have h2' := h2
      replace h2' : (within e 0 1000000000000) = false := bnot_t h2'
      refine tr_region rfl (.run [] [] rfl (st_move rfl) (.run [1300] [] rfl (st_call rfl 1300 (X := []) en94 rfl (.val nod) (.cons (.one (.bor .v)) (.cons (.one (.bor .v)) (.cons (.one (.bor .v)) .nil))) (by decide) all_nil .nil (within_con e 0 1000000000000) rfl rfl (nle rfl)) (.run [] [] rfl (st_eq (st_not (b := within e 0 1000000000000) rfl rfl) (by exact congrArg (fun b => AV.p none (.v (.bool b))) h2)) (.run [] [] rfl (st_move rfl) (.not rfl (.not rfl (.not rfl (.not rfl (.not rfl (.not rfl (.not rfl (.not rfl (.not rfl (.not rfl (.not rfl (.run [] [] rfl (st_pick (t := true) rfl rfl) .nil)))))))))))))))) ?_
      refine tr_if (t := true) rfl (fun _ => ?_) (fun h => nomatch h)
      refine tr_seq ?_
      refine tr_wk (s' := mk [] [] []) ?_ ?_
      · exact wk_mk trivial trivial trivial rfl
      refine tr_region rfl (.run [] [] rfl (st_assign rfl) .nil) ?_
      refine tr_ret ?_
      exact ends [_] [] (.cons (.tmp (bool_eq (snaps_no he (okSnap_bad h2')).symm)) .nil) (.cons (.one .v (.v _)) .nil) (by decide) trivial
  · skip
    replace h1 := of_decide_eq_false h1
    refine tr_exit ?_
    refine tr_seq ?_
    refine tr_region rfl (.run [] [] rfl (st_move rfl) (.run [] [] rfl (st_len_fro rfl rfl Try.underlying23) (.run [] [] rfl (st_leq rfl rfl rfl) (.run [] [] rfl (st_assign rfl) .nil)))) ?_
    refine tr_ret ?_
    exact ends [_] [] (.cons (.tmp (bool_eq (by rw [snaps_yes (by omega) hG, hle]; exact decide_eq_decide.2 (by omega)))) .nil) (.cons (.one .v (.v _)) .nil) (by decide) trivial
set_option maxRecDepth 1000000 in
theorem specSnapsOk_con (l : List Int) (hl : l.length ≤ 9000000000000000000) : Con Try.prog 32 [.one (PV.sl false 1 (pvI l))] [] [.one (.v (.bool (snapsOk l)))] := by
  refine con_of_tr Try.func32 rfl rfl rfl rfl ?_
  have hle := pvI_length l
  refine tr_seq ?_
  refine tr_region rfl (.run [] [] rfl (st_assign rfl) .nil) ?_
  refine tr_seq ?_
  refine tr_seq ?_
  refine tr_region rfl (.run [] [] rfl (st_move rfl) (.run [] [] rfl (st_len_fro rfl rfl Try.underlying23) (.run [] [] rfl (st_gtr rfl rfl rfl) .nil))) ?_
  refine tr_if (t := decide (20 < ((pvI l).length : Int))) rfl (fun h1 => ?_) (fun h1 => ?_)
  · skip
    replace h1 := of_decide_eq_true h1
    refine tr_seq ?_
    refine tr_region rfl (.run [] [] rfl (st_assign rfl) .nil) ?_
    refine tr_ret ?_
    exact ends [_] [] (.cons (.tmp (bool_eq (snaps_long (by omega)).symm)) .nil) (.cons (.one .v (.v _)) .nil) (by decide) trivial
  · skip
    replace h1 := of_decide_eq_false h1
    refine tr_skip ?_
    refine tr_seq ?_
    refine tr_seq ?_
    refine tr_region rfl (.run [] [] rfl (st_assign rfl) .nil) ?_
    refine tr_block ?_
    refine tr_loopS (σ := Nat) (fun i => mk [(0, .p none (.sl false 1 (pvI l))), (3, .p none (.v (.int .i64 (i:Int))))] [] []) (fun i => i ≤ l.length ∧ ∀ j x, j < i → l[j]? = some x → okSnap l j x = true) (fun i => l.length - i) 0 ⟨Nat.zero_le _, fun _ _ h => absurd h (Nat.not_lt_zero _)⟩ (wk_mk ⟨rfl, ⟨(int_eq (by omega)), trivial⟩⟩ trivial trivial rfl) ?_
    rintro i hG
    replace hG : i ≤ l.length ∧ ∀ j x, j < i → l[j]? = some x → okSnap l j x = true := hG
    obtain ⟨hi, hG⟩ := hG
    refine tr_seq ?_
    refine tr_seq ?_
    refine tr_region rfl (.run [] [] rfl (st_move rfl) (.run [] [] rfl (st_move rfl) (.run [] [] rfl (st_len_fro rfl rfl Try.underlying23) (.run [] [] rfl (st_lss rfl rfl rfl) .nil)))) ?_
    refine tr_if (t := decide ((i:Int) < ((pvI l).length : Int))) rfl (fun h2 => ?_) (fun h2 => ?_)
    · skip
      replace h2 := of_decide_eq_true h2
      refine tr_skip ?_
      refine tr_seq ?_
      refine tr_block ?_
      refine tr_seq ?_
      refine tr_wk (s' := mk [(0, .p none (.sl false 1 (pvI l))), (3, .p none (.v (.int .i64 (i:Int))))] [] []) ?_ ?_
      · exact wk_mk ⟨rfl, ⟨rfl, trivial⟩⟩ trivial trivial rfl
      obtain ⟨e, he⟩ : ∃ e, l[i]? = some e := ⟨_, List.getElem?_eq_getElem (by (have hL := pvI_length l; omega))⟩
      have hlte := (List.getElem?_eq_some_iff.1 he).1
      rcases bfc (!(within e 0 1000000000000)) with h3 | h3
      · have h3' := h3
        replace h3' : (within e 0 1000000000000) = true := bnot_f h3'
        rcases bfc (decide (0 < (i:Int))) with h4 | h4
        · have h4' := h4
          replace h4' := of_decide_eq_false h4'
          refine tr_regionD mixed rfl (.run [] [] rfl (st_move rfl) (.run [] [] rfl (st_move rfl) (.run [] [] rfl (st_idx_fro rfl rfl rfl Try.underlying23 Try.sizeOf2 rfl (by omega) (pvI_get he)) (.run [] [] rfl (st_load_fea1 rfl rfl Try.isAgg2 rfl) (.run [1700] [] rfl (st_call rfl 1700 (X := []) en84 rfl (.val nod) (.cons (.one (.bor .v)) (.cons (.one (.bor .v)) (.cons (.one (.bor .v)) .nil))) (by decide) all_nil .nil (l1In_con e 0 1000000000000) rfl rfl (nle rfl)) (.run [] [] rfl (st_eq (st_not (b := within e 0 1000000000000) rfl rfl) (by exact congrArg (fun b => AV.p none (.v (.bool b))) h3)) (.run [] [] rfl (st_move rfl) (.run [] [] rfl (st_move rfl) (.run [] [] rfl (st_eq (st_gtr rfl rfl rfl) (by exact congrArg (fun b => AV.p none (.v (.bool b))) h4)) (.run [] [] rfl (st_move rfl) (.not rfl (.not rfl (.not rfl (.not rfl (.not rfl (.not rfl (.not rfl (.not rfl (.not rfl (.not rfl (.run [] [] rfl (st_pick (t := false) rfl rfl) (.run [] [] rfl (st_pick (t := false) rfl rfl) .nil)))))))))))))))))))))) (by kernel_rfl) ?_
          refine tr_if (t := false) rfl (fun h => nomatch h) (fun _ => ?_)
          refine tr_skip ?_
          refine tr_wk (s' := mk [(0, .p none (.sl false 1 (pvI l))), (3, .p none (.v (.int .i64 (i:Int)))), (20, .p none (.v (.int .i64 (i:Int)))), (21, .p none (.v (.bool false))), (22, .p none (.v (.bool false))), (33, .p none (.v (.bool false)))] [] []) ?_ ?_
          · exact wk_mk ⟨rfl, ⟨rfl, ⟨rfl, ⟨rfl, ⟨rfl, ⟨rfl, trivial⟩⟩⟩⟩⟩⟩ trivial trivial rfl
          refine tr_region rfl (.run [] [] rfl (st_move rfl) (.run [] [] rfl (st_addn rfl rfl rfl (by omega)) (.run [] [] rfl (st_assign rfl) .nil))) ?_
          refine nxt (Q := fun _ _ => False) (z := i) (i + 1) ?_ ?_ ?_
          · show (i + 1) ≤ l.length ∧ ∀ j x, j < (i + 1) → l[j]? = some x → okSnap l j x = true
            exact ⟨by omega, ix_step hG he (okSnap_first h3' (by omega))⟩
          · show l.length - (i + 1) < l.length - i
            omega
          · exact wk_mk ⟨rfl, ⟨(int_eq (by omega)), trivial⟩⟩ trivial trivial rfl
        · have h4' := h4
          replace h4' := of_decide_eq_true h4'
          obtain ⟨e2, he2⟩ : ∃ e, l[(i - 1 : Nat)]? = some e := ⟨_, List.getElem?_eq_getElem (by (have hL := pvI_length l; omega))⟩
          have hlte2 := (List.getElem?_eq_some_iff.1 he2).1
          refine tr_regionD mixed rfl (.run [] [] rfl (st_move rfl) (.run [] [] rfl (st_move rfl) (.run [] [] rfl (st_idx_fro rfl rfl rfl Try.underlying23 Try.sizeOf2 rfl (by omega) (pvI_get he)) (.run [] [] rfl (st_load_fea1 rfl rfl Try.isAgg2 rfl) (.run [1700] [] rfl (st_call rfl 1700 (X := []) en84 rfl (.val nod) (.cons (.one (.bor .v)) (.cons (.one (.bor .v)) (.cons (.one (.bor .v)) .nil))) (by decide) all_nil .nil (l1In_con e 0 1000000000000) rfl rfl (nle rfl)) (.run [] [] rfl (st_eq (st_not (b := within e 0 1000000000000) rfl rfl) (by exact congrArg (fun b => AV.p none (.v (.bool b))) h3)) (.run [] [] rfl (st_move rfl) (.run [] [] rfl (st_move rfl) (.run [] [] rfl (st_eq (st_gtr rfl rfl rfl) (by exact congrArg (fun b => AV.p none (.v (.bool b))) h4)) (.run [] [] rfl (st_move rfl) (.run [] [] rfl (st_move rfl) (.run [] [] rfl (st_move rfl) (.run [] [] rfl (st_eq (st_subn rfl rfl rfl (by omega)) (((show (AV.p none (.v (.int .i64 ((i:Int) - 1)))) = AV.p none (.v (.int .i64 ((i - 1 : Nat) : Int))) from int_eq (by omega))))) (.run [] [] rfl (st_idx_fro rfl rfl rfl Try.underlying23 Try.sizeOf2 rfl (by omega) (pvI_get he2)) (.run [] [] rfl (st_load_fea1 rfl rfl Try.isAgg2 rfl) (.run [] [] rfl (st_move rfl) (.run [] [] rfl (st_move rfl) (.run [] [] rfl (st_idx_fro rfl rfl rfl Try.underlying23 Try.sizeOf2 rfl (by omega) (pvI_get he)) (.run [] [] rfl (st_load_fea1 rfl rfl Try.isAgg2 rfl) (.run [] [] rfl (st_geq rfl rfl rfl) (.run [] [] rfl (st_pick (t := true) rfl rfl) (.run [] [] rfl (st_pick (t := false) rfl rfl) .nil)))))))))))))))))))))) (by kernel_rfl) ?_
          refine tr_if (t := decide (e ≤ e2)) rfl (fun h5 => ?_) (fun h5 => ?_)
          · skip
            replace h5 := of_decide_eq_true h5
            refine tr_seq ?_
            refine tr_wk (s' := mk [] [] []) ?_ ?_
            · exact wk_mk trivial trivial trivial rfl
            refine tr_region rfl (.run [] [] rfl (st_assign rfl) .nil) ?_
            refine tr_ret ?_
            exact ends [_] [] (.cons (.tmp (bool_eq (snaps_no he (okSnap_off (by omega) he2 h5)).symm)) .nil) (.cons (.one .v (.v _)) .nil) (by decide) trivial
          · skip
            replace h5 := of_decide_eq_false h5
            refine tr_skip ?_
            refine tr_wk (s' := mk [(0, .p none (.sl false 1 (pvI l))), (3, .p none (.v (.int .i64 (i:Int)))), (20, .p none (.v (.int .i64 (i:Int)))), (21, .p none (.v (.bool true))), (22, .p none (.v (.bool true))), (23, .p none (.sl false 1 (pvI l))), (24, .p none (.v (.int .i64 (i:Int)))), (25, .p none (.v (.int .i64 ((i - 1 : Nat):Int)))), (26, .fea none [PV.v (.int .i64 e2)]), (27, .p none (.v (.int .i64 e2))), (28, .p none (.sl false 1 (pvI l))), (29, .p none (.v (.int .i64 (i:Int)))), (30, .fea none [PV.v (.int .i64 e)]), (31, .p none (.v (.int .i64 e))), (32, .p none (.v (.bool (decide (e ≤ e2))))), (33, .p none (.v (.bool (decide (e ≤ e2)))))] [] []) ?_ ?_
            · exact wk_mk ⟨rfl, ⟨rfl, ⟨rfl, ⟨rfl, ⟨rfl, ⟨rfl, ⟨rfl, ⟨rfl, ⟨rfl, ⟨rfl, ⟨rfl, ⟨rfl, ⟨rfl, ⟨rfl, ⟨rfl, ⟨rfl, trivial⟩⟩⟩⟩⟩⟩⟩⟩⟩⟩⟩⟩⟩⟩⟩⟩ trivial trivial rfl
            refine tr_region rfl (.run [] [] rfl (st_move rfl) (.run [] [] rfl (st_addn rfl rfl rfl (by omega)) (.run [] [] rfl (st_assign rfl) .nil))) ?_
            refine nxt (Q := fun _ _ => False) (z := i) (i + 1) ?_ ?_ ?_
            · show (i + 1) ≤ l.length ∧ ∀ j x, j < (i + 1) → l[j]? = some x → okSnap l j x = true
              exact ⟨by omega, ix_step hG he (okSnap_next h3' he2 h5)⟩
            · show l.length - (i + 1) < l.length - i
              omega
            · exact wk_mk ⟨rfl, ⟨(int_eq (by omega)), trivial⟩⟩ trivial trivial rfl
      · have h3' := h3
        replace h3' : (within e 0 1000000000000) = false := bnot_t h3'
        refine tr_regionD mixed rfl (.run [] [] rfl (st_move rfl) (.run [] [] rfl (st_move rfl) (.run [] [] rfl (st_idx_fro rfl rfl rfl Try.underlying23 Try.sizeOf2 rfl (by omega) (pvI_get he)) (.run [] [] rfl (st_load_fea1 rfl rfl Try.isAgg2 rfl) (.run [1700] [] rfl (st_call rfl 1700 (X := []) en84 rfl (.val nod) (.cons (.one (.bor .v)) (.cons (.one (.bor .v)) (.cons (.one (.bor .v)) .nil))) (by decide) all_nil .nil (l1In_con e 0 1000000000000) rfl rfl (nle rfl)) (.run [] [] rfl (st_eq (st_not (b := within e 0 1000000000000) rfl rfl) (by exact congrArg (fun b => AV.p none (.v (.bool b))) h3)) (.run [] [] rfl (st_move rfl) (.not rfl (.not rfl (.not rfl (.not rfl (.not rfl (.not rfl (.not rfl (.not rfl (.not rfl (.not rfl (.not rfl (.not rfl (.not rfl (.not rfl (.run [] [] rfl (st_pick (t := true) rfl rfl) .nil)))))))))))))))))))))) (by kernel_rfl) ?_
        refine tr_if (t := true) rfl (fun _ => ?_) (fun h => nomatch h)
        refine tr_seq ?_
        refine tr_wk (s' := mk [] [] []) ?_ ?_
        · exact wk_mk trivial trivial trivial rfl
        refine tr_region rfl (.run [] [] rfl (st_assign rfl) .nil) ?_
        refine tr_ret ?_
        exact ends [_] [] (.cons (.tmp (bool_eq (snaps_no he (okSnap_bad h3')).symm)) .nil) (.cons (.one .v (.v _)) .nil) (by decide) trivial
    · skip
      replace h2 := of_decide_eq_false h2
      refine tr_exit ?_
      refine tr_seq ?_
      refine tr_region rfl (.run [] [] rfl (st_assign rfl) .nil) ?_
      refine tr_ret ?_
      exact ends [_] [] (.cons (.tmp (bool_eq (by rw [snaps_yes (by omega) hG]; exact (decide_eq_true (by omega)).symm))) .nil) (.cons (.one .v (.v _)) .nil) (by decide) trivial
end Go.Rl
namespace Go.Rl
open Go.Proofs
theorem inf2 : (Try.prog.info? 2).map (fun i => (i.zero, i.size, i.bytes)) = some (some (.int .i64 0), 1, 8) := by kernel_rfl
theorem en167 : ∀ vs w, (callFunc 167 vs).run Try.prog w = .ok (.enter 167 vs) w := enters Try.func167 (by decide) rfl
theorem en152 : ∀ vs w, (callFunc 152 vs).run Try.prog w = .ok (.enter 152 vs) w := enters Try.func152 (by decide) rfl
set_option maxRecDepth 1000000 in
theorem cloneI_con (l : List Int) (hl : l.length ≤ 2000000) : Con Try.prog 136 [.one (PV.sl false 1 (pvI l))] [] [.one (.sl true 1 (pvI l))] := by
  refine con_of_tr Try.func136 rfl rfl rfl rfl ?_
  have hle := pvI_length l
  refine tr_seq ?_
  refine tr_region rfl (.run [] [] rfl (st_assign rfl) .nil) ?_
  refine tr_seq ?_
  refine tr_seq ?_
  refine tr_region rfl (.run [] [] rfl (st_move rfl) (.run [] [] rfl (st_isnil (v := .slice none 0 0) rfl rfl (.inl ⟨_, _, _, _, rfl, rfl⟩) Try.underlying23) .nil)) ?_
  refine tr_ifs rfl (fun v h => ⟨_, h.choose_spec.1⟩) (fun h1 => ?_) (fun h1 => ?_)
  · replace h1 : (pvI l).length = 0 := by obtain ⟨b, e, h⟩ := h1; cases e; exact h rfl
    have hl0 : l = [] := List.eq_nil_of_length_eq_zero (by rw [pvI_length] at h1; exact h1)
    subst hl0
    refine tr_seq ?_
    refine tr_region rfl (.run [] [] rfl (st_assign rfl) .nil) ?_
    refine tr_ret ?_
    exact ends [_] [] (.cons (.tmp rfl) .nil) (.cons (.one (.nil _) (.sl _ _ (fun _ h => nomatch h))) .nil) (by decide) trivial
  · skip
    refine tr_skip ?_
    refine tr_seq ?_
    refine tr_region rfl (.run [500] [] rfl (st_buildSlice rfl 500 Try.underlying23 inf2 (nle rfl) (by decide) rfl rfl rfl .nil (by decide) rfl (by decide) rfl (by decide) rfl) (.run [] [] rfl (st_move rfl) (.run [500] [] rfl (st_append rfl 500 (ib := 500) (len := ([] ++ (pvI l)).length) rfl rfl (.row (len := 0) (xs := []) rfl rfl (.inl rfl)) (.fro (pvI_flat _)) Try.underlying23 (sk Try.underlying23 rfl) inf2 rfl (by decide) (by decide) (by decide) List.length_append (by simp only [maxLen, List.length_append, List.length_map, List.length_cons, List.length_nil, List.length_take, List.length_drop, pvE_length, pvI_length, pvT_length]; omega) (by simp only [maxLen, List.length_append, List.length_map, List.length_cons, List.length_nil, List.length_take, List.length_drop, pvE_length, pvI_length, pvT_length]; omega)) (.run [] [] rfl (st_assign rfl) .nil)))) ?_
    refine tr_ret ?_
    exact ends [_] [500] (.cons (.tmp rfl) .nil) (.cons (.one (.row (len := ([] ++ (pvI l)).length) (xs := [] ++ (pvI l)) rfl rfl) (.sl _ _ (FlatP.clean (pvI_flat l)))) .nil) (by decide) trivial
set_option maxRecDepth 1000000 in
theorem lookedc_con (e : Ent) (u : ByteArray) (s : Int) : Con Try.prog 167 [.agg [PV.v (.string e.user), PV.v (.int .i64 e.seq), PV.v (.int .i64 e.kind), PV.v (.string e.value)], .fbox [PV.v (.string u)], .fbox [PV.v (.int .i64 s)]] [] [.one (.v (.bool (asOf u s e)))] := by
  refine con_of_tr Try.func167 rfl rfl rfl rfl ?_
  refine tr_seq ?_
  refine tr_region rfl (.run [] [3] rfl (st_box rfl 3 rfl rfl (by decide) rfl (by decide)) (.run [] [] rfl (st_assign rfl) .nil)) ?_
  refine tr_seq ?_
  rcases bfc (decide (e.user = u)) with h1 | h1
  · have h1' := h1
    replace h1' := of_decide_eq_false h1'
    refine tr_region rfl (.run [] [] rfl (st_faddr_box rfl rfl Try.underlying44 rfl Try.sizeOf42 (by decide)) (.run [] [] rfl (st_faddr_box rfl rfl Try.underlying42 rfl Try.sizeOf9 (by decide)) (.run [] [] rfl (st_load_box1 rfl rfl rfl Try.isAgg9 rfl) (.run [] [] rfl (st_load_fea1 rfl rfl Try.isAgg9 rfl) (.run [] [] rfl (st_eq (st_seql rfl rfl rfl) (by exact congrArg (fun b => AV.p none (.v (.bool b))) h1)) (.run [] [] rfl (st_move rfl) (.not rfl (.not rfl (.not rfl (.not rfl (.not rfl (.run [] [] rfl (st_pick (t := false) rfl rfl) (.run [] [] rfl (st_assign rfl) .nil))))))))))))) ?_
    refine tr_ret ?_
    exact ends [_] [] (.cons (.tmp (bool_eq (by simp only [asOf, h1, Bool.true_and, Bool.false_and]))) .nil) (.cons (.one .v (.v _)) .nil) (by decide) trivial
  · have h1' := h1
    replace h1' := of_decide_eq_true h1'
    refine tr_region rfl (.run [] [] rfl (st_faddr_box rfl rfl Try.underlying44 rfl Try.sizeOf42 (by decide)) (.run [] [] rfl (st_faddr_box rfl rfl Try.underlying42 rfl Try.sizeOf9 (by decide)) (.run [] [] rfl (st_load_box1 rfl rfl rfl Try.isAgg9 rfl) (.run [] [] rfl (st_load_fea1 rfl rfl Try.isAgg9 rfl) (.run [] [] rfl (st_eq (st_seql rfl rfl rfl) (by exact congrArg (fun b => AV.p none (.v (.bool b))) h1)) (.run [] [] rfl (st_move rfl) (.run [] [] rfl (st_faddr_box rfl rfl Try.underlying44 rfl Try.sizeOf42 (by decide)) (.run [] [] rfl (st_faddr_box rfl rfl Try.underlying42 rfl Try.sizeOf2 (by decide)) (.run [] [] rfl (st_load_box1 rfl rfl rfl Try.isAgg2 rfl) (.run [] [] rfl (st_load_fea1 rfl rfl Try.isAgg2 rfl) (.run [] [] rfl (st_leq rfl rfl rfl) (.run [] [] rfl (st_pick (t := true) rfl rfl) (.run [] [] rfl (st_assign rfl) .nil))))))))))))) ?_
    refine tr_ret ?_
    exact ends [_] [] (.cons (.tmp (bool_eq (by simp only [asOf, h1, Bool.true_and, Bool.false_and]))) .nil) (.cons (.one .v (.v _)) .nil) (by decide) trivial
set_option maxRecDepth 1000000 in
theorem indexFuncE_con (l : List Ent) (hl : l.length ≤ 2000000) (f : Nat) (pss : List (List PV)) (p : Ent → Bool) (hE : ∀ vs w, (callFunc f vs).run Try.prog w = .ok (.enter f vs) w) (hp : ∀ s ∈ l, Con Try.prog f ([.agg s.pv] ++ pss.map .fbox) [] [.one (.v (.bool (p s)))]) : Con Try.prog 152 [.one (PV.sl false 4 (pvE l)), .one (PV.clo f pss)] [] [.one (.v (.int .i64 (idxF p l)))] := by
  refine con_of_tr Try.func152 rfl rfl rfl rfl ?_
  have hle := pvE_length l
  refine tr_seq ?_
  refine tr_region rfl (.run [] [] rfl (st_assign rfl) .nil) ?_
  refine tr_seq ?_
  refine tr_seq ?_
  refine tr_region rfl (.run [] [] rfl (st_move rfl) (.run [] [] rfl (st_len_fro rfl rfl Try.underlying26) (.run [] [] rfl (st_move rfl) .nil))) ?_
  refine tr_block ?_
  refine tr_loopS (σ := Nat) (fun i => mk [(0, .p none (.sl false 4 (pvE l))), (1, .p none (.clo f pss)), (7, .p none (.v (.int .i64 ((pvE l).length : Int)))), (8, .p none (.v (.int .i64 (i:Int))))] [] []) (fun i => i ≤ l.length ∧ ∀ j e, j < i → l[j]? = some e → p e = false) (fun i => l.length - i) 0 ⟨Nat.zero_le _, fun _ _ h => absurd h (Nat.not_lt_zero _)⟩ (wk_mk ⟨rfl, ⟨rfl, ⟨rfl, ⟨(int_eq (by omega)), trivial⟩⟩⟩⟩ trivial trivial rfl) ?_
  rintro i hG
  replace hG : i ≤ l.length ∧ ∀ j e, j < i → l[j]? = some e → p e = false := hG
  obtain ⟨hi, hG⟩ := hG
  refine tr_seq ?_
  refine tr_region rfl (.run [] [] rfl (st_lss rfl rfl rfl) .nil) ?_
  refine tr_seq ?_
  refine tr_if (t := decide ((i:Int) < ((pvE l).length : Int))) rfl (fun h1 => ?_) (fun h1 => ?_)
  · skip
    replace h1 := of_decide_eq_true h1
    refine tr_skip ?_
    refine tr_seq ?_
    refine tr_block ?_
    refine tr_seq ?_
    refine tr_region rfl (.run [] [] rfl (st_move rfl) (.run [] [] rfl (st_assign rfl) .nil)) ?_
    refine tr_seq ?_
    obtain ⟨e, he⟩ : ∃ e, l[i]? = some e := ⟨_, List.getElem?_eq_getElem (by (have hL := pvE_length l; omega))⟩
    have hlte := (List.getElem?_eq_some_iff.1 he).1
    refine tr_region rfl (.run [] [] rfl (st_move rfl) (.run [] [] rfl (st_move rfl) (.run [] [] rfl (st_move rfl) (.run [] [] rfl (st_idx_fro rfl rfl rfl Try.underlying26 Try.sizeOf44 rfl (by omega) (pvE_get he)) (.run [] [] rfl (st_load_fea rfl rfl Try.isAgg44 Try.sizeOf44 (nle rfl)) (.run [1600] [] rfl (st_call rfl 1600 (X := []) hE rfl (.val nod) (.cons (.agg (.cons (.bor .v) (.cons (.bor .v) (.cons (.bor .v) (.cons (.bor .v) .nil))))) .nil) (by decide) all_nil .nil (hp e (List.mem_of_getElem? he)) rfl rfl (nle rfl)) .nil)))))) ?_
    refine tr_if (t := p e) rfl (fun h2 => ?_) (fun h2 => ?_)
    · skip
      refine tr_seq ?_
      refine tr_region rfl (.run [] [] rfl (st_move rfl) (.run [] [] rfl (st_assign rfl) .nil)) ?_
      refine tr_ret ?_
      exact ends [_] [] (.cons (.tmp (int_eq (idx_hit hG he h2).symm)) .nil) (.cons (.one .v (.v _)) .nil) (by decide) trivial
    · skip
      refine tr_skip ?_
      refine tr_region rfl (.run [] [] rfl (st_addn rfl rfl rfl (by omega)) (.run [] [] rfl (st_move rfl) .nil)) ?_
      refine nxt (Q := fun _ _ => False) (z := i) (i + 1) ?_ ?_ ?_
      · show (i + 1) ≤ l.length ∧ ∀ j e, j < (i + 1) → l[j]? = some e → p e = false
        exact ⟨by omega, idx_step hG he h2⟩
      · show l.length - (i + 1) < l.length - i
        omega
      · exact wk_mk ⟨rfl, ⟨rfl, ⟨rfl, ⟨(int_eq (by omega)), trivial⟩⟩⟩⟩ trivial trivial rfl
  · skip
    replace h1 := of_decide_eq_false h1
    refine tr_exit ?_
    refine tr_seq ?_
    refine tr_region rfl (.run [] [] rfl (st_assign rfl) .nil) ?_
    refine tr_ret ?_
    exact ends [_] [] (.cons (.tmp (int_eq (idx_none (by omega) hG).symm)) .nil) (.cons (.one .v (.v _)) .nil) (by decide) trivial
set_option maxRecDepth 1000000 in
theorem looked_con (l : List Ent) (u : ByteArray) (s : Int) (hl : l.length ≤ 2000000) : Con Try.prog 137 [.one (PV.sl false 4 (pvE l)), .one (PV.v (.string u)), .one (PV.v (.int .i64 s))] [] [.one (.v (.int .i64 (idxF (asOf u s) l)))] := by
  refine con_of_tr Try.func137 rfl rfl rfl rfl ?_
  have hle := pvE_length l
  refine tr_seq ?_
  refine tr_region rfl (.run [] [4] rfl (st_box rfl 4 rfl rfl (by decide) rfl (by decide)) (.run [] [5] rfl (st_box rfl 5 rfl rfl (by decide) rfl (by decide)) (.run [] [] rfl (st_assign rfl) .nil))) ?_
  refine tr_seq ?_
  refine tr_region rfl (.run [] [] rfl (st_move rfl) (.run [] [] rfl (st_func (bs := [4, 5]) rfl rfl) (.run [900] [4, 5] rfl (st_call rfl 900 (X := []) en152 rfl (.val nod) (.cons (.one (.bor (.sl nod))) (.cons (.one (.bor (.clo (.cons rfl (.cons .v .nil) (.cons rfl (.cons .v .nil) .nil))))) .nil)) (by decide) all_nil .nil (indexFuncE_con l hl 167 [[.v (.string u)], [.v (.int .i64 s)]] (asOf u s) en167 (fun e _ => lookedc_con e u s)) rfl rfl (nle rfl)) (.run [] [] rfl (st_assign rfl) .nil)))) ?_
  refine tr_ret ?_
  exact ends [_] [] (.cons (.tmp rfl) .nil) (.cons (.one .v (.v _)) .nil) (by decide) trivial
end Go.Rl

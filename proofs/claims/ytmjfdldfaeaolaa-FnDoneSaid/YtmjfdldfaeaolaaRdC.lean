/- Promises of functions, proved by walks over their operations; no conditions beyond those that each theorem states. -/
import Derived.Test.YtmjfdldfaeaolaaRdB
namespace Go.Rl
open Go.Proofs
theorem inf27 : (Try.prog.info? 27).map (fun i => (i.zero, i.size, i.bytes)) = some (some (.agg #[.slice none 0 0, .slice none 0 0, .slice none 0 0]), 3, 72) := by kernel_rfl
theorem en76 : ∀ vs w, (callFunc 76 vs).run Try.prog w = .ok (.enter 76 vs) w := enters Try.func76 (by decide) rfl
theorem en54 : ∀ vs w, (callFunc 54 vs).run Try.prog w = .ok (.enter 54 vs) w := enters Try.func54 (by decide) rfl
theorem en74 : ∀ vs w, (callFunc 74 vs).run Try.prog w = .ok (.enter 74 vs) w := enters Try.func74 (by decide) rfl
theorem en75 : ∀ vs w, (callFunc 75 vs).run Try.prog w = .ok (.enter 75 vs) w := enters Try.func75 (by decide) rfl
theorem en38 : ∀ vs w, (callFunc 38 vs).run Try.prog w = .ok (.enter 38 vs) w := enters Try.func38 (by decide) rfl
theorem en39 : ∀ vs w, (callFunc 39 vs).run Try.prog w = .ok (.enter 39 vs) w := enters Try.func39 (by decide) rfl
theorem en40 : ∀ vs w, (callFunc 40 vs).run Try.prog w = .ok (.enter 40 vs) w := enters Try.func40 (by decide) rfl
theorem en41 : ∀ vs w, (callFunc 41 vs).run Try.prog w = .ok (.enter 41 vs) w := enters Try.func41 (by decide) rfl
set_option maxRecDepth 100000 in
theorem Fil_eqIn (a b : Fil) (w : World) : (Op.equalIn 10000 69 (.agg ⟨[.string a.name, .string a.data]⟩) (.agg ⟨[.string b.name, .string b.data]⟩)).run Try.prog w = .ok (decide (a = b)) w := by
  rw [show (10000 : Nat) = 9999 + 1 from rfl, run_equalIn_agg w 9999 69 _ _ Try.underlying69 (by kernel_rfl)]
  rw [show (Try.prog.fieldsOf 69).toList = [⟨"Name", 9, 0, false, "", "", 0⟩, ⟨"Data", 9, 1, false, "", "", 16⟩] from rfl]
  rw [show (9999 : Nat) = 9998 + 1 from rfl]
  simp [Op.eqFields, part, Try.isAgg9, Try.sizeOf9, run_equalIn_string (h := Try.underlying9), bytes_eq]
  cases a; cases b
  simp only [Fil.mk.injEq]
  (repeat' split) <;> simp_all
set_option maxRecDepth 1000000 in
theorem l6Form_con (op : DOp) : Con Try.prog 40 [.agg [PV.v (.int .i64 op.kind), PV.v (.string op.name), PV.v (.string op.dest), PV.v (.string op.data)]] [] [.one (.v (.bool (formF op)))] := by
  refine con_of_tr Try.func40 rfl rfl rfl rfl ?_
  refine tr_seq ?_
  refine tr_region rfl (.run [] [1] rfl (st_box rfl 1 rfl rfl (by decide) rfl (by decide)) (.run [] [] rfl (st_assign rfl) .nil)) ?_
  refine tr_seq ?_
  refine tr_seq ?_
  rcases bfc (!(within op.kind 1 3)) with h1 | h1
  · have h1' := h1
    replace h1' : (within op.kind 1 3) = true := bnot_f h1'
    refine tr_region rfl (.run [] [] rfl (st_faddr_box rfl rfl Try.underlying36 rfl Try.sizeOf2 (by decide)) (.run [] [] rfl (st_load_box1 rfl rfl rfl Try.isAgg2 rfl) (.run [500] [] rfl (st_call rfl 500 (X := []) en76 rfl (.val nod) (.cons (.one (.bor .v)) (.cons (.one (.bor .v)) (.cons (.one (.bor .v)) .nil))) (by decide) all_nil .nil (l1In_con op.kind 1 3) rfl rfl (nle rfl)) (.run [] [] rfl (st_eq (st_not (b := within op.kind 1 3) rfl rfl) (by exact congrArg (fun b => AV.p none (.v (.bool b))) h1)) (.run [] [] rfl (st_move rfl) (.run [] [] rfl (st_faddr_box rfl rfl Try.underlying36 rfl Try.sizeOf9 (by decide)) (.run [] [] rfl (st_load_box1 rfl rfl rfl Try.isAgg9 rfl) (.run [1000] [] rfl (st_call rfl 1000 (X := []) en73 rfl (.val nod) (.cons (.one (.bor .v)) .nil) (by decide) all_nil .nil (l6Name_con op.name) rfl rfl (nle rfl)) (.run [] [] rfl (st_not (b := isFileB op.name) rfl rfl) (.run [] [] rfl (st_pick (t := false) rfl rfl) .nil)))))))))) ?_
    refine tr_if (t := (!(isFileB op.name))) rfl (fun h2 => ?_) (fun h2 => ?_)
    · skip
      replace h2 : (isFileB op.name) = false := bnot_t h2
      refine tr_seq ?_
      refine tr_region rfl (.run [] [] rfl (st_assign rfl) .nil) ?_
      refine tr_ret ?_
      exact ends [_] [] (.cons (.tmp (bool_eq (by simp [formF, within_1, within_2, isFile_nil, h1', h2]))) .nil) (.cons (.one .v (.v _)) .nil) (by decide) trivial
    · skip
      replace h2 : (isFileB op.name) = true := bnot_f h2
      refine tr_skip ?_
      refine tr_seq ?_
      refine tr_seq ?_
      refine tr_region rfl (.run [] [] rfl (st_faddr_box rfl rfl Try.underlying36 rfl Try.sizeOf2 (by decide)) (.run [] [] rfl (st_load_box1 rfl rfl rfl Try.isAgg2 rfl) (.run [] [] rfl (st_eql rfl rfl rfl) .nil))) ?_
      refine tr_if (t := decide (op.kind = 2)) rfl (fun h3 => ?_) (fun h3 => ?_)
      · skip
        replace h3 := of_decide_eq_true h3
        refine tr_seq ?_
        refine tr_wk (s' := mk [(1, .ptr 1 0)] [(1, [.p none (.v (.int .i64 op.kind)), .p none (.v (.string op.name)), .p none (.v (.string op.dest)), .p none (.v (.string op.data))])] []) ?_ ?_
        · exact wk_mk ⟨rfl, trivial⟩ ⟨rfl, trivial⟩ trivial rfl
        rcases bfc (isFileB op.dest) with h4 | h4
        · have h4' := h4
          refine tr_region rfl (.run [] [] rfl (st_faddr_box rfl rfl Try.underlying36 rfl Try.sizeOf9 (by decide)) (.run [] [] rfl (st_load_box1 rfl rfl rfl Try.isAgg9 rfl) (.run [1800] [] rfl (st_call rfl 1800 (X := []) en73 rfl (.val nod) (.cons (.one (.bor .v)) .nil) (by decide) all_nil .nil (l6Name_con op.dest) rfl rfl (nle rfl)) (.run [] [] rfl (st_eq (st_move rfl) (by exact congrArg (fun b => AV.p none (.v (.bool b))) h4)) (.not rfl (.not rfl (.not rfl (.run [] [] rfl (st_pick (t := false) rfl rfl) (.run [] [] rfl (st_assign rfl) .nil))))))))) ?_
          refine tr_ret ?_
          exact ends [_] [] (.cons (.tmp (bool_eq (by simp [formF, within_1, within_2, isFile_nil, h1', h2, h3, h4']))) .nil) (.cons (.one .v (.v _)) .nil) (by decide) trivial
        · have h4' := h4
          refine tr_region rfl (.run [] [] rfl (st_faddr_box rfl rfl Try.underlying36 rfl Try.sizeOf9 (by decide)) (.run [] [] rfl (st_load_box1 rfl rfl rfl Try.isAgg9 rfl) (.run [1800] [] rfl (st_call rfl 1800 (X := []) en73 rfl (.val nod) (.cons (.one (.bor .v)) .nil) (by decide) all_nil .nil (l6Name_con op.dest) rfl rfl (nle rfl)) (.run [] [] rfl (st_eq (st_move rfl) (by exact congrArg (fun b => AV.p none (.v (.bool b))) h4)) (.run [] [] rfl (st_faddr_box rfl rfl Try.underlying36 rfl Try.sizeOf9 (by decide)) (.run [] [] rfl (st_load_box1 rfl rfl rfl Try.isAgg9 rfl) (.run [] [] rfl (st_seql rfl rfl rfl) (.run [] [] rfl (st_pick (t := true) rfl rfl) (.run [] [] rfl (st_assign rfl) .nil))))))))) ?_
          refine tr_ret ?_
          exact ends [_] [] (.cons (.tmp (bool_eq (by simp [formF, within_1, within_2, isFile_nil, h1', h2, h3, h4']))) .nil) (.cons (.one .v (.v _)) .nil) (by decide) trivial
      · skip
        replace h3 := of_decide_eq_false h3
        refine tr_skip ?_
        refine tr_seq ?_
        refine tr_wk (s' := mk [(1, .ptr 1 0)] [(1, [.p none (.v (.int .i64 op.kind)), .p none (.v (.string op.name)), .p none (.v (.string op.dest)), .p none (.v (.string op.data))])] []) ?_ ?_
        · exact wk_mk ⟨rfl, trivial⟩ ⟨rfl, trivial⟩ trivial rfl
        rcases bfc (decide (op.dest = ⟨#[]⟩)) with h5 | h5
        · have h5' := h5
          replace h5' := of_decide_eq_false h5'
          refine tr_region rfl (.run [] [] rfl (st_faddr_box rfl rfl Try.underlying36 rfl Try.sizeOf9 (by decide)) (.run [] [] rfl (st_load_box1 rfl rfl rfl Try.isAgg9 rfl) (.run [] [] rfl (st_eq (st_seql rfl rfl rfl) (by exact congrArg (fun b => AV.p none (.v (.bool b))) h5)) (.run [] [] rfl (st_move rfl) (.not rfl (.not rfl (.not rfl (.not rfl (.not rfl (.not rfl (.not rfl (.not rfl (.run [] [] rfl (st_pick (t := false) rfl rfl) (.run [] [] rfl (st_assign rfl) .nil)))))))))))))) ?_
          refine tr_ret ?_
          exact ends [_] [] (.cons (.tmp (bool_eq (by simp [formF, within_1, within_2, isFile_nil, h1', h2, h3, h5']))) .nil) (.cons (.one .v (.v _)) .nil) (by decide) trivial
        · have h5' := h5
          replace h5' := of_decide_eq_true h5'
          rcases bfc (decide (op.kind = 1)) with h6 | h6
          · have h6' := h6
            replace h6' := of_decide_eq_false h6'
            refine tr_region rfl (.run [] [] rfl (st_faddr_box rfl rfl Try.underlying36 rfl Try.sizeOf9 (by decide)) (.run [] [] rfl (st_load_box1 rfl rfl rfl Try.isAgg9 rfl) (.run [] [] rfl (st_eq (st_seql rfl rfl rfl) (by exact congrArg (fun b => AV.p none (.v (.bool b))) h5)) (.run [] [] rfl (st_move rfl) (.run [] [] rfl (st_faddr_box rfl rfl Try.underlying36 rfl Try.sizeOf2 (by decide)) (.run [] [] rfl (st_load_box1 rfl rfl rfl Try.isAgg2 rfl) (.run [] [] rfl (st_eq (st_eql rfl rfl rfl) (by exact congrArg (fun b => AV.p none (.v (.bool b))) h6)) (.run [] [] rfl (st_move rfl) (.run [] [] rfl (st_faddr_box rfl rfl Try.underlying36 rfl Try.sizeOf9 (by decide)) (.run [] [] rfl (st_load_box1 rfl rfl rfl Try.isAgg9 rfl) (.run [] [] rfl (st_seql rfl rfl rfl) (.run [] [] rfl (st_pick (t := false) rfl rfl) (.run [] [] rfl (st_pick (t := true) rfl rfl) (.run [] [] rfl (st_assign rfl) .nil)))))))))))))) ?_
            refine tr_ret ?_
            exact ends [_] [] (.cons (.tmp (bool_eq (by simp [formF, within_1, within_2, isFile_nil, h1', h2, h3, h5', h6']))) .nil) (.cons (.one .v (.v _)) .nil) (by decide) trivial
          · have h6' := h6
            replace h6' := of_decide_eq_true h6'
            refine tr_region rfl (.run [] [] rfl (st_faddr_box rfl rfl Try.underlying36 rfl Try.sizeOf9 (by decide)) (.run [] [] rfl (st_load_box1 rfl rfl rfl Try.isAgg9 rfl) (.run [] [] rfl (st_eq (st_seql rfl rfl rfl) (by exact congrArg (fun b => AV.p none (.v (.bool b))) h5)) (.run [] [] rfl (st_move rfl) (.run [] [] rfl (st_faddr_box rfl rfl Try.underlying36 rfl Try.sizeOf2 (by decide)) (.run [] [] rfl (st_load_box1 rfl rfl rfl Try.isAgg2 rfl) (.run [] [] rfl (st_eq (st_eql rfl rfl rfl) (by exact congrArg (fun b => AV.p none (.v (.bool b))) h6)) (.run [] [] rfl (st_move rfl) (.not rfl (.not rfl (.not rfl (.run [] [] rfl (st_pick (t := true) rfl rfl) (.run [] [] rfl (st_pick (t := true) rfl rfl) (.run [] [] rfl (st_assign rfl) .nil)))))))))))))) ?_
            refine tr_ret ?_
            exact ends [_] [] (.cons (.tmp (bool_eq (by simp [formF, within_1, within_2, isFile_nil, h1', h2, h3, h5', h6']))) .nil) (.cons (.one .v (.v _)) .nil) (by decide) trivial
  · have h1' := h1
    replace h1' : (within op.kind 1 3) = false := bnot_t h1'
    refine tr_region rfl (.run [] [] rfl (st_faddr_box rfl rfl Try.underlying36 rfl Try.sizeOf2 (by decide)) (.run [] [] rfl (st_load_box1 rfl rfl rfl Try.isAgg2 rfl) (.run [500] [] rfl (st_call rfl 500 (X := []) en76 rfl (.val nod) (.cons (.one (.bor .v)) (.cons (.one (.bor .v)) (.cons (.one (.bor .v)) .nil))) (by decide) all_nil .nil (l1In_con op.kind 1 3) rfl rfl (nle rfl)) (.run [] [] rfl (st_eq (st_not (b := within op.kind 1 3) rfl rfl) (by exact congrArg (fun b => AV.p none (.v (.bool b))) h1)) (.run [] [] rfl (st_move rfl) (.not rfl (.not rfl (.not rfl (.not rfl (.run [] [] rfl (st_pick (t := true) rfl rfl) .nil)))))))))) ?_
    refine tr_if (t := true) rfl (fun _ => ?_) (fun h => nomatch h)
    refine tr_seq ?_
    refine tr_region rfl (.run [] [] rfl (st_assign rfl) .nil) ?_
    refine tr_ret ?_
    exact ends [_] [] (.cons (.tmp (bool_eq (by simp [formF, within_1, within_2, isFile_nil, h1']))) .nil) (.cons (.one .v (.v _)) .nil) (by decide) trivial
set_option maxRecDepth 1000000 in
theorem l6Same_con (a b : List Fil) (hl : a.length ≤ 1000000000) : Con Try.prog 41 [.one (PV.sl false 2 (pvF a)), .one (PV.sl false 2 (pvF b))] [] [.one (.v (.bool (decide (a = b))))] := by
  refine con_of_tr Try.func41 rfl rfl rfl rfl ?_
  have hla := pvF_length a
  have hlb := pvF_length b
  refine tr_seq ?_
  refine tr_region rfl (.run [] [] rfl (st_assign rfl) .nil) ?_
  refine tr_seq ?_
  refine tr_seq ?_
  refine tr_region rfl (.run [] [] rfl (st_move rfl) (.run [] [] rfl (st_len_fro rfl rfl Try.underlying24) (.run [] [] rfl (st_move rfl) (.run [] [] rfl (st_len_fro rfl rfl Try.underlying24) (.run [] [] rfl (st_neq rfl rfl rfl) .nil))))) ?_
  refine tr_if (t := (!(decide (((pvF a).length : Int) = ((pvF b).length : Int))))) rfl (fun h1 => ?_) (fun h1 => ?_)
  · skip
    replace h1 : ¬ (((pvF a).length : Int) = ((pvF b).length : Int)) := of_decide_eq_false (bnot_t h1)
    refine tr_seq ?_
    refine tr_region rfl (.run [] [] rfl (st_assign rfl) .nil) ?_
    refine tr_ret ?_
    exact ends [_] [] (.cons (.tmp (bool_eq (decide_eq_false (fun e => by subst e; omega)).symm)) .nil) (.cons (.one .v (.v _)) .nil) (by decide) trivial
  · skip
    replace h1 : ((pvF a).length : Int) = ((pvF b).length : Int) := of_decide_eq_true (bnot_f h1)
    refine tr_skip ?_
    refine tr_seq ?_
    refine tr_seq ?_
    refine tr_region rfl (.run [] [] rfl (st_assign rfl) .nil) ?_
    refine tr_block ?_
    refine tr_loopS (σ := Nat) (fun i => mk [(0, .p none (.sl false 2 (pvF a))), (1, .p none (.sl false 2 (pvF b))), (5, .p none (.v (.int .i64 (i:Int))))] [] []) (fun i => i ≤ a.length ∧ ∀ j, j < i → a[j]? = b[j]?) (fun i => a.length - i) 0 ⟨Nat.zero_le _, fun j hj => absurd hj (Nat.not_lt_zero j)⟩ (wk_mk ⟨rfl, ⟨rfl, ⟨(int_eq (by omega)), trivial⟩⟩⟩ trivial trivial rfl) ?_
    rintro i hG
    replace hG : i ≤ a.length ∧ ∀ j, j < i → a[j]? = b[j]? := hG
    obtain ⟨hi, hG⟩ := hG
    refine tr_seq ?_
    refine tr_seq ?_
    refine tr_region rfl (.run [] [] rfl (st_move rfl) (.run [] [] rfl (st_move rfl) (.run [] [] rfl (st_len_fro rfl rfl Try.underlying24) (.run [] [] rfl (st_lss rfl rfl rfl) .nil)))) ?_
    refine tr_if (t := decide ((i:Int) < ((pvF a).length : Int))) rfl (fun h2 => ?_) (fun h2 => ?_)
    · skip
      replace h2 := of_decide_eq_true h2
      refine tr_skip ?_
      refine tr_seq ?_
      refine tr_block ?_
      refine tr_seq ?_
      obtain ⟨e, he⟩ : ∃ e, a[i]? = some e := ⟨_, List.getElem?_eq_getElem (by (have hL := pvF_length a; omega))⟩
      have hlte := (List.getElem?_eq_some_iff.1 he).1
      obtain ⟨e2, he2⟩ : ∃ e, b[i]? = some e := ⟨_, List.getElem?_eq_getElem (by (have hL := pvF_length b; omega))⟩
      have hlte2 := (List.getElem?_eq_some_iff.1 he2).1
      refine tr_regionD mixed rfl (.run [] [] rfl (st_move rfl) (.run [] [] rfl (st_move rfl) (.run [] [] rfl (st_idx_fro rfl rfl rfl Try.underlying24 Try.sizeOf69 rfl (by omega) (pvF_get he)) (.run [] [] rfl (st_load_fea rfl rfl Try.isAgg69 Try.sizeOf69 (nle rfl)) (.run [] [] rfl (st_move rfl) (.run [] [] rfl (st_move rfl) (.run [] [] rfl (st_idx_fro rfl rfl rfl Try.underlying24 Try.sizeOf69 rfl (by omega) (pvF_get he2)) (.run [] [] rfl (st_load_fea rfl rfl Try.isAgg69 Try.sizeOf69 (nle rfl)) (.run [] [] rfl (st_aneq rfl rfl rfl rfl rfl Try.eqGuardType69 (fun w => Fil_eqIn e e2 w)) .nil))))))))) (by kernel_rfl) ?_
      refine tr_if (t := (!(decide (e = e2)))) rfl (fun h3 => ?_) (fun h3 => ?_)
      · skip
        replace h3 : ¬ (e = e2) := of_decide_eq_false (bnot_t h3)
        refine tr_seq ?_
        refine tr_region rfl (.run [] [] rfl (st_assign rfl) .nil) ?_
        refine tr_ret ?_
        exact ends [_] [] (.cons (.tmp (bool_eq (decide_eq_false (glist_ne he he2 h3)).symm)) .nil) (.cons (.one .v (.v _)) .nil) (by decide) trivial
      · skip
        replace h3 : e = e2 := of_decide_eq_true (bnot_f h3)
        refine tr_skip ?_
        refine tr_region rfl (.run [] [] rfl (st_move rfl) (.run [] [] rfl (st_addn rfl rfl rfl (by omega)) (.run [] [] rfl (st_assign rfl) .nil))) ?_
        refine nxt (Q := fun _ _ => False) (z := i) (i + 1) ?_ ?_ ?_
        · show (i + 1) ≤ a.length ∧ ∀ j, j < (i + 1) → a[j]? = b[j]?
          exact ⟨by omega, glist_step hG he he2 h3⟩
        · show a.length - (i + 1) < a.length - i
          omega
        · exact wk_mk ⟨rfl, ⟨rfl, ⟨(int_eq (by omega)), trivial⟩⟩⟩ trivial trivial rfl
    · skip
      replace h2 := of_decide_eq_false h2
      refine tr_exit ?_
      refine tr_seq ?_
      refine tr_region rfl (.run [] [] rfl (st_assign rfl) .nil) ?_
      refine tr_ret ?_
      exact ends [_] [] (.cons (.tmp (bool_eq (decide_eq_true (glist_all (by omega) (by omega) hG)).symm)) .nil) (.cons (.one .v (.v _)) .nil) (by decide) trivial
set_option maxRecDepth 1000000 in
theorem l6Do_con (l : List Fil) (op : DOp) (hl : l.length ≤ 1000000000) (ht : totF l ≤ 1099511627776) (ho : op.data.size ≤ 1099511627776) : Con Try.prog 39 [.one (PV.sl false 2 (pvF l)), .agg [PV.v (.int .i64 op.kind), PV.v (.string op.name), PV.v (.string op.dest), PV.v (.string op.data)]] [] [.one (.sl true 2 (pvF (doneF l op).1)), .one (.v (.bool (doneF l op).2))] := by
  refine con_of_tr Try.func39 rfl rfl rfl rfl ?_
  have hle := pvF_length l
  refine tr_seq ?_
  refine tr_region rfl (.run [] [3] rfl (st_box rfl 3 rfl rfl (by decide) rfl (by decide)) (.run [] [] rfl (st_assign rfl) (.run [] [] rfl (st_assign rfl) .nil))) ?_
  refine tr_seq ?_
  refine tr_region rfl (.run [] [] rfl (st_move rfl) (.run [] [] rfl (st_faddr_box rfl rfl Try.underlying36 rfl Try.sizeOf9 (by decide)) (.run [] [] rfl (st_load_box1 rfl rfl rfl Try.isAgg9 rfl) (.run [1200] [] rfl (st_call rfl 1200 (X := []) en54 rfl (.val nod) (.cons (.one (.bor (.sl nod))) (.cons (.one (.bor .v)) .nil)) (by decide) all_nil .nil (l6At_con l op.name (by omega)) rfl rfl (nle rfl)) (.run [] [] rfl (st_assign rfl) .nil))))) ?_
  refine tr_seq ?_
  refine tr_seq ?_
  refine tr_region rfl (.run [] [] rfl (st_faddr_box rfl rfl Try.underlying36 rfl Try.sizeOf2 (by decide)) (.run [] [] rfl (st_load_box1 rfl rfl rfl Try.isAgg2 rfl) (.run [] [] rfl (st_eql rfl rfl rfl) .nil))) ?_
  refine tr_if (t := decide (op.kind = 1)) rfl (fun h1 => ?_) (fun h1 => ?_)
  · skip
    replace h1 := of_decide_eq_true h1
    refine tr_seq ?_
    refine tr_region rfl (.run [] [] rfl (st_faddr_box rfl rfl Try.underlying36 rfl Try.sizeOf9 (by decide)) (.run [] [] rfl (st_load_box1 rfl rfl rfl Try.isAgg9 rfl) (.run [] [] rfl (st_assign rfl) .nil))) ?_
    refine tr_seq ?_
    refine tr_seq ?_
    refine tr_region rfl (.run [] [] rfl (st_move rfl) (.run [] [] rfl (st_geq rfl rfl rfl) .nil)) ?_
    refine tr_if (t := decide (0 ≤ (idxF (nameP op.name) l))) rfl (fun h2 => ?_) (fun h2 => ?_)
    · skip
      replace h2 := of_decide_eq_true h2
      have hib := idx_bnd h2
      obtain ⟨e, he⟩ : ∃ e, l[(idxF (nameP op.name) l).toNat]? = some e := ⟨_, List.getElem?_eq_getElem hib⟩
      refine tr_wk (s' := mk [(0, .p none (.sl false 2 (pvF l))), (3, .ptr 3 0), (6, .p none (.v (.int .i64 (idxF (nameP op.name) l)))), (7, .p none (.v (.string op.data)))] [(3, [.p none (.v (.int .i64 op.kind)), .p none (.v (.string op.name)), .p none (.v (.string op.dest)), .p none (.v (.string op.data))])] []) ?_ ?_
      · exact wk_mk ⟨rfl, ⟨rfl, ⟨rfl, ⟨rfl, trivial⟩⟩⟩⟩ ⟨rfl, trivial⟩ trivial rfl
      refine tr_region rfl (.run [] [] rfl (st_move rfl) (.run [] [] rfl (st_move rfl) (.run [] [] rfl (st_idx_fro rfl rfl rfl Try.underlying24 Try.sizeOf69 rfl (by omega) (pvF_get he)) (.run [] [] rfl (st_faddr_fea rfl rfl Try.underlying69 rfl Try.sizeOf9 (by decide)) (.run [] [] rfl (st_load_fea1 rfl rfl Try.isAgg9 rfl) (.run [] [] rfl (st_move rfl) (.run [] [] rfl (st_sadd rfl rfl rfl (by have := tot_mem (List.mem_of_getElem? he); omega)) (.run [] [] rfl (st_assign rfl) .nil)))))))) ?_
      refine tr_seq ?_
      have hd : doneF l op = (putF l op.name (e.data ++ op.data), true) := by rw [done_1 h1, dat_idx h2 he]
      rw [hd]
      refine tr_region rfl (.run [] [] rfl (st_move rfl) (.run [] [] rfl (st_faddr_box rfl rfl Try.underlying36 rfl Try.sizeOf9 (by decide)) (.run [] [] rfl (st_load_box1 rfl rfl rfl Try.isAgg9 rfl) (.run [] [] rfl (st_move rfl) (.run [3100] [] rfl (st_call rfl 3100 (X := []) en74 rfl (.val nod) (.cons (.one (.bor (.sl nod))) (.cons (.one (.bor .v)) (.cons (.one (.bor .v)) .nil))) (by decide) all_nil .nil (l6Put_con l op.name (e.data ++ op.data) (by omega)) rfl rfl (nle rfl)) (.run [] [] rfl (st_assign rfl) (.run [] [] rfl (st_assign rfl) .nil))))))) ?_
      refine tr_ret ?_
      exact ends [_, _] [3100] (.cons (.tmp rfl) (.cons (.tmp rfl) .nil)) (.cons (.one (.row (len := (pvF (putF l op.name (e.data ++ op.data))).length) (xs := pvF (putF l op.name (e.data ++ op.data))) rfl rfl) (.sl _ _ (FlatP.clean (pvF_flat _)))) (.cons (.one .v (.v _)) .nil)) (by decide) trivial
    · skip
      replace h2 := of_decide_eq_false h2
      refine tr_skip ?_
      refine tr_seq ?_
      have hd : doneF l op = (putF l op.name (op.data), true) := by rw [done_1 h1, dat_no (has_no h2), empty_app]
      rw [hd]
      refine tr_wk (s' := mk [(0, .p none (.sl false 2 (pvF l))), (3, .ptr 3 0), (7, .p none (.v (.string op.data)))] [(3, [.p none (.v (.int .i64 op.kind)), .p none (.v (.string op.name)), .p none (.v (.string op.dest)), .p none (.v (.string op.data))])] []) ?_ ?_
      · exact wk_mk ⟨rfl, ⟨rfl, ⟨rfl, trivial⟩⟩⟩ ⟨rfl, trivial⟩ trivial rfl
      refine tr_region rfl (.run [] [] rfl (st_move rfl) (.run [] [] rfl (st_faddr_box rfl rfl Try.underlying36 rfl Try.sizeOf9 (by decide)) (.run [] [] rfl (st_load_box1 rfl rfl rfl Try.isAgg9 rfl) (.run [] [] rfl (st_move rfl) (.run [3100] [] rfl (st_call rfl 3100 (X := []) en74 rfl (.val nod) (.cons (.one (.bor (.sl nod))) (.cons (.one (.bor .v)) (.cons (.one (.bor .v)) .nil))) (by decide) all_nil .nil (l6Put_con l op.name op.data (by omega)) rfl rfl (nle rfl)) (.run [] [] rfl (st_assign rfl) (.run [] [] rfl (st_assign rfl) .nil))))))) ?_
      refine tr_ret ?_
      exact ends [_, _] [3100] (.cons (.tmp rfl) (.cons (.tmp rfl) .nil)) (.cons (.one (.row (len := (pvF (putF l op.name op.data)).length) (xs := pvF (putF l op.name op.data)) rfl rfl) (.sl _ _ (FlatP.clean (pvF_flat _)))) (.cons (.one .v (.v _)) .nil)) (by decide) trivial
  · skip
    replace h1 := of_decide_eq_false h1
    refine tr_skip ?_
    refine tr_seq ?_
    refine tr_seq ?_
    refine tr_region rfl (.run [] [] rfl (st_move rfl) (.run [] [] rfl (st_lss rfl rfl rfl) .nil)) ?_
    refine tr_if (t := decide ((idxF (nameP op.name) l) < 0)) rfl (fun h3 => ?_) (fun h3 => ?_)
    · skip
      replace h3 := of_decide_eq_true h3
      refine tr_seq ?_
      have hd : doneF l op = (l, false) := done_2 h1 (has_no (by omega))
      rw [hd]
      refine tr_wk (s' := mk [(0, .p none (.sl false 2 (pvF l)))] [] []) ?_ ?_
      · exact wk_mk ⟨rfl, trivial⟩ trivial trivial rfl
      refine tr_region rfl (.run [3400] [] rfl (st_buildSlice rfl 3400 Try.underlying24 inf69 (nle rfl) (by decide) rfl rfl rfl .nil (by decide) rfl (by decide) rfl (by decide) rfl) (.run [] [] rfl (st_move rfl) (.run [3400] [] rfl (st_append rfl 3400 (ib := 3400) (len := ([] ++ (pvF l)).length) rfl rfl (.row (len := 0) (xs := []) rfl rfl (.inl rfl)) (.fro (pvF_flat _)) Try.underlying24 (sk Try.underlying24 rfl) inf69 rfl (by decide) (by decide) (by decide) List.length_append (by simp only [maxLen, List.length_append, List.length_map, List.length_cons, List.length_nil, List.length_take, List.length_drop, pvF_length, pvD_length]; omega) (by simp only [maxLen, List.length_append, List.length_map, List.length_cons, List.length_nil, List.length_take, List.length_drop, pvF_length, pvD_length]; omega)) (.run [] [] rfl (st_assign rfl) (.run [] [] rfl (st_assign rfl) .nil))))) ?_
      have hr4 : [] ++ (pvF l) = pvF l := by exact List.nil_append _
      have hp5 : (.sl 3400 0 (([] ++ (pvF l)).length) : AV) = .sl 3400 0 ((pvF l).length) := by simp only [hr4]
      refine tr_wk (s' := mk [(4, .sl 3400 0 ((pvF l).length)), (5, .p none (.v (.bool false)))] [] [(3400, 2, pvF l)]) ?_ ?_
      · exact wk_mk ⟨hp5, ⟨rfl, trivial⟩⟩ trivial ⟨(congrArg (fun x => some (2, x)) hr4), trivial⟩ rfl
      refine tr_ret ?_
      exact ends [_, _] [3400] (.cons (.tmp rfl) (.cons (.tmp rfl) .nil)) (.cons (.one (.row (len := (pvF l).length) (xs := pvF l) rfl rfl) (.sl _ _ (FlatP.clean (pvF_flat _)))) (.cons (.one .v (.v _)) .nil)) (by decide) trivial
    · skip
      replace h3 := of_decide_eq_false h3
      refine tr_skip ?_
      refine tr_seq ?_
      have h0i : 0 ≤ idxF (nameP op.name) l := (by omega)
      have hib := idx_bnd h0i
      obtain ⟨e, he⟩ : ∃ e, l[(idxF (nameP op.name) l).toNat]? = some e := ⟨_, List.getElem?_eq_getElem hib⟩
      have hcl := cut_len l op.name
      refine tr_wk (s' := mk [(0, .p none (.sl false 2 (pvF l))), (3, .ptr 3 0), (6, .p none (.v (.int .i64 (idxF (nameP op.name) l))))] [(3, [.p none (.v (.int .i64 op.kind)), .p none (.v (.string op.name)), .p none (.v (.string op.dest)), .p none (.v (.string op.data))])] []) ?_ ?_
      · exact wk_mk ⟨rfl, ⟨rfl, ⟨rfl, trivial⟩⟩⟩ ⟨rfl, trivial⟩ trivial rfl
      refine tr_region rfl (.run [] [] rfl (st_move rfl) (.run [] [] rfl (st_faddr_box rfl rfl Try.underlying36 rfl Try.sizeOf9 (by decide)) (.run [] [] rfl (st_load_box1 rfl rfl rfl Try.isAgg9 rfl) (.run [4000] [] rfl (st_call rfl 4000 (X := []) en75 rfl (.val nod) (.cons (.one (.bor (.sl nod))) (.cons (.one (.bor .v)) .nil)) (by decide) all_nil .nil (l6Cut_con l op.name (by omega)) rfl rfl (nle rfl)) (.run [] [] rfl (st_assign rfl) .nil))))) ?_
      refine tr_seq ?_
      refine tr_seq ?_
      refine tr_region rfl (.run [] [] rfl (st_faddr_box rfl rfl Try.underlying36 rfl Try.sizeOf2 (by decide)) (.run [] [] rfl (st_load_box1 rfl rfl rfl Try.isAgg2 rfl) (.run [] [] rfl (st_eql rfl rfl rfl) .nil))) ?_
      refine tr_if (t := decide (op.kind = 2)) rfl (fun h6 => ?_) (fun h6 => ?_)
      · skip
        replace h6 := of_decide_eq_true h6
        have hd : doneF l op = (putF (cutF l op.name) op.dest e.data, true) := by rw [done_3 h6 (has_yes h0i), dat_idx h0i he]
        rw [hd]
        refine tr_wk (s' := mk [(0, .p none (.sl false 2 (pvF l))), (3, .ptr 3 0), (6, .p none (.v (.int .i64 (idxF (nameP op.name) l)))), (8, .sl 4000 0 ((pvF (cutF l op.name)).length))] [(3, [.p none (.v (.int .i64 op.kind)), .p none (.v (.string op.name)), .p none (.v (.string op.dest)), .p none (.v (.string op.data))])] [(4000, 2, pvF (cutF l op.name))]) ?_ ?_
        · exact wk_mk ⟨rfl, ⟨rfl, ⟨rfl, ⟨rfl, trivial⟩⟩⟩⟩ ⟨rfl, trivial⟩ ⟨rfl, trivial⟩ rfl
        refine tr_regionD mixed rfl (.run [] [] rfl (st_move rfl) (.run [] [] rfl (st_faddr_box rfl rfl Try.underlying36 rfl Try.sizeOf9 (by decide)) (.run [] [] rfl (st_load_box1 rfl rfl rfl Try.isAgg9 rfl) (.run [] [] rfl (st_move rfl) (.run [] [] rfl (st_move rfl) (.run [] [] rfl (st_idx_fro rfl rfl rfl Try.underlying24 Try.sizeOf69 rfl (by omega) (pvF_get he)) (.run [] [] rfl (st_faddr_fea rfl rfl Try.underlying69 rfl Try.sizeOf9 (by decide)) (.run [] [] rfl (st_load_fea1 rfl rfl Try.isAgg9 rfl) (.run [4000, 5200] [] rfl (st_call rfl 5200 (X := []) en74 rfl (.val nod) (.cons (.one (.bor (.all (len := (pvF (cutF l op.name)).length) (xs := pvF (cutF l op.name)) rfl rfl (by decide)))) (.cons (.one (.bor .v)) (.cons (.one (.bor .v)) .nil))) (by decide) all_nil .nil (l6Put_con (cutF l op.name) op.dest e.data (by omega)) rfl rfl (nle rfl)) (.run [] [] rfl (st_assign rfl) .nil)))))))))) (by kernel_rfl) ?_
        refine tr_seq ?_
        refine tr_region rfl (.run [] [] rfl (st_move rfl) (.run [] [] rfl (st_assign rfl) (.run [] [] rfl (st_assign rfl) .nil))) ?_
        refine tr_ret ?_
        exact ends [_, _] [5200] (.cons (.tmp rfl) (.cons (.tmp rfl) .nil)) (.cons (.one (.row (len := (pvF (putF (cutF l op.name) op.dest e.data)).length) (xs := pvF (putF (cutF l op.name) op.dest e.data)) rfl rfl) (.sl _ _ (FlatP.clean (pvF_flat _)))) (.cons (.one .v (.v _)) .nil)) (by decide) trivial
      · skip
        replace h6 := of_decide_eq_false h6
        refine tr_skip ?_
        refine tr_seq ?_
        have hd : doneF l op = (cutF l op.name, true) := done_4 h1 h6 (has_yes h0i)
        rw [hd]
        refine tr_region rfl (.run [] [] rfl (st_move rfl) (.run [] [] rfl (st_assign rfl) (.run [] [] rfl (st_assign rfl) .nil))) ?_
        refine tr_ret ?_
        exact ends [_, _] [4000] (.cons (.tmp rfl) (.cons (.tmp rfl) .nil)) (.cons (.one (.row (len := (pvF (cutF l op.name)).length) (xs := pvF (cutF l op.name)) rfl rfl) (.sl _ _ (FlatP.clean (pvF_flat _)))) (.cons (.one .v (.v _)) .nil)) (by decide) trivial
set_option maxRecDepth 1000000 in
theorem l6Copy_con (d : Dsk) (hd : DB 900000000 d) : Con Try.prog 55 [.agg [PV.sl false 2 (pvF d.live), PV.sl false 2 (pvF d.safe), PV.sl false 4 (pvD d.ops)]] [] [.agg [.sl true 2 (pvF d.live), .sl true 2 (pvF d.safe), .sl true 4 (pvD d.ops)]] := by
  refine con_of_tr Try.func55 rfl rfl rfl rfl ?_
  have hld := pvF_length d.live
  have hsd := pvF_length d.safe
  have hod := pvD_length d.ops
  obtain ⟨hb1, hb2, hb3, hb4, hb5⟩ := hd
  refine tr_seq ?_
  refine tr_region rfl (.run [] [1] rfl (st_box rfl 1 rfl rfl (by decide) rfl (by decide)) (.run [] [2] rfl (st_allocZ rfl 2 inf27 rfl (by decide) rfl (by decide)) .nil)) ?_
  refine tr_seq ?_
  refine tr_regionD mixed rfl (.run [300] [] rfl (st_buildSlice rfl 300 Try.underlying24 inf69 (nle rfl) (by decide) rfl rfl rfl .nil (by decide) rfl (by decide) rfl (by decide) rfl) (.run [] [] rfl (st_faddr_box rfl rfl Try.underlying27 rfl Try.sizeOf24 (by decide)) (.run [] [] rfl (st_load_box1 rfl rfl rfl Try.isAgg24 rfl) (.run [300] [] rfl (st_append rfl 300 (ib := 300) (len := ([] ++ (pvF d.live)).length) rfl rfl (.row (len := 0) (xs := []) rfl rfl (.inl rfl)) (.fro (pvF_flat _)) Try.underlying24 (sk Try.underlying24 rfl) inf69 rfl (by decide) (by decide) (by decide) List.length_append (by simp only [maxLen, List.length_append, List.length_map, List.length_cons, List.length_nil, List.length_take, List.length_drop, pvF_length, pvD_length]; omega) (by simp only [maxLen, List.length_append, List.length_map, List.length_cons, List.length_nil, List.length_take, List.length_drop, pvF_length, pvD_length]; omega)) (.run [700] [] rfl (st_buildSlice rfl 700 Try.underlying24 inf69 (nle rfl) (by decide) rfl rfl rfl .nil (by decide) rfl (by decide) rfl (by decide) rfl) (.run [] [] rfl (st_faddr_box rfl rfl Try.underlying27 rfl Try.sizeOf24 (by decide)) (.run [] [] rfl (st_load_box1 rfl rfl rfl Try.isAgg24 rfl) (.run [700] [] rfl (st_append rfl 700 (ib := 700) (len := ([] ++ (pvF d.safe)).length) rfl rfl (.row (len := 0) (xs := []) rfl rfl (.inl rfl)) (.fro (pvF_flat _)) Try.underlying24 (sk Try.underlying24 rfl) inf69 rfl (by decide) (by decide) (by decide) List.length_append (by simp only [maxLen, List.length_append, List.length_map, List.length_cons, List.length_nil, List.length_take, List.length_drop, pvF_length, pvD_length]; omega) (by simp only [maxLen, List.length_append, List.length_map, List.length_cons, List.length_nil, List.length_take, List.length_drop, pvF_length, pvD_length]; omega)) (.run [1100] [] rfl (st_buildSlice rfl 1100 Try.underlying25 inf36 (nle rfl) (by decide) rfl rfl rfl .nil (by decide) rfl (by decide) rfl (by decide) rfl) (.run [] [] rfl (st_faddr_box rfl rfl Try.underlying27 rfl Try.sizeOf25 (by decide)) (.run [] [] rfl (st_load_box1 rfl rfl rfl Try.isAgg25 rfl) (.run [1100] [] rfl (st_append rfl 1100 (ib := 1100) (len := ([] ++ (pvD d.ops)).length) rfl rfl (.row (len := 0) (xs := []) rfl rfl (.inl rfl)) (.fro (pvD_flat _)) Try.underlying25 (sk Try.underlying25 rfl) inf36 rfl (by decide) (by decide) (by decide) List.length_append (by simp only [maxLen, List.length_append, List.length_map, List.length_cons, List.length_nil, List.length_take, List.length_drop, pvF_length, pvD_length]; omega) (by simp only [maxLen, List.length_append, List.length_map, List.length_cons, List.length_nil, List.length_take, List.length_drop, pvF_length, pvD_length]; omega)) (.run [] [] rfl (st_build (pl := [(0, 1), (1, 1), (2, 1)]) rfl Try.underlying27 inf27 (by kernel_rfl) rfl rfl) (.run [] [] rfl (st_store_box rfl rfl rfl rfl rfl Try.sizeOf27 rfl (nle rfl)) .nil)))))))))))))) (by kernel_rfl) ?_
  have hr1 : [] ++ (pvF d.live) = pvF d.live := by exact List.nil_append _
  have hp2 : (some [.sl 300 0 (([] ++ (pvF d.live)).length), .sl 700 0 (([] ++ (pvF d.safe)).length), .sl 1100 0 (([] ++ (pvD d.ops)).length)] : Option (List AV)) = some [.sl 300 0 ((pvF d.live).length), .sl 700 0 (([] ++ (pvF d.safe)).length), .sl 1100 0 (([] ++ (pvD d.ops)).length)] := by simp only [hr1]
  refine tr_wk (s' := mk [(2, .ptr 2 0)] [(2, [.sl 300 0 ((pvF d.live).length), .sl 700 0 (([] ++ (pvF d.safe)).length), .sl 1100 0 (([] ++ (pvD d.ops)).length)])] [(300, 2, pvF d.live), (700, 2, [] ++ (pvF d.safe)), (1100, 4, [] ++ (pvD d.ops))]) ?_ ?_
  · exact wk_mk ⟨rfl, trivial⟩ ⟨hp2, trivial⟩ ⟨(congrArg (fun x => some (2, x)) hr1), ⟨rfl, ⟨rfl, trivial⟩⟩⟩ rfl
  have hr3 : [] ++ (pvF d.safe) = pvF d.safe := by exact List.nil_append _
  have hp4 : (some [.sl 300 0 ((pvF d.live).length), .sl 700 0 (([] ++ (pvF d.safe)).length), .sl 1100 0 (([] ++ (pvD d.ops)).length)] : Option (List AV)) = some [.sl 300 0 ((pvF d.live).length), .sl 700 0 ((pvF d.safe).length), .sl 1100 0 (([] ++ (pvD d.ops)).length)] := by simp only [hr3]
  refine tr_wk (s' := mk [(2, .ptr 2 0)] [(2, [.sl 300 0 ((pvF d.live).length), .sl 700 0 ((pvF d.safe).length), .sl 1100 0 (([] ++ (pvD d.ops)).length)])] [(300, 2, pvF d.live), (700, 2, pvF d.safe), (1100, 4, [] ++ (pvD d.ops))]) ?_ ?_
  · exact wk_mk ⟨rfl, trivial⟩ ⟨hp4, trivial⟩ ⟨rfl, ⟨(congrArg (fun x => some (2, x)) hr3), ⟨rfl, trivial⟩⟩⟩ rfl
  have hr5 : [] ++ (pvD d.ops) = pvD d.ops := by exact List.nil_append _
  have hp6 : (some [.sl 300 0 ((pvF d.live).length), .sl 700 0 ((pvF d.safe).length), .sl 1100 0 (([] ++ (pvD d.ops)).length)] : Option (List AV)) = some [.sl 300 0 ((pvF d.live).length), .sl 700 0 ((pvF d.safe).length), .sl 1100 0 ((pvD d.ops).length)] := by simp only [hr5]
  refine tr_wk (s' := mk [(2, .ptr 2 0)] [(2, [.sl 300 0 ((pvF d.live).length), .sl 700 0 ((pvF d.safe).length), .sl 1100 0 ((pvD d.ops).length)])] [(300, 2, pvF d.live), (700, 2, pvF d.safe), (1100, 4, pvD d.ops)]) ?_ ?_
  · exact wk_mk ⟨rfl, trivial⟩ ⟨hp6, trivial⟩ ⟨rfl, ⟨rfl, ⟨(congrArg (fun x => some (4, x)) hr5), trivial⟩⟩⟩ rfl
  refine tr_ret ?_
  exact ends [_] [300, 700, 1100] (.cons (.cell rfl rfl Try.isAgg27 Try.sizeOf27 (nle rfl)) .nil) (.cons (.agg (.cons (.row (len := (pvF d.live).length) (xs := pvF d.live) rfl rfl) (.cons (.row (len := (pvF d.safe).length) (xs := pvF d.safe) rfl rfl) (.cons (.row (len := (pvD d.ops).length) (xs := pvD d.ops) rfl rfl) .nil))) (cl_cons (.sl _ _ (FlatP.clean (pvF_flat _))) (cl_cons (.sl _ _ (FlatP.clean (pvF_flat _))) (cl_cons (.sl _ _ (FlatP.clean (pvD_flat _))) cl_nil)))) .nil) (by decide) trivial
set_option maxRecDepth 1000000 in
theorem specDiskOk_con (d : Dsk) (hd : DB 900000000 d) (hop : ∀ op ∈ d.ops, op.data.size ≤ 900000000) : Con Try.prog 12 [.agg [PV.sl false 2 (pvF d.live), PV.sl false 2 (pvF d.safe), PV.sl false 4 (pvD d.ops)]] [] [.one (.v (.bool (diskOk d)))] := by
  refine con_of_tr Try.func12 rfl rfl rfl rfl ?_
  have hld := pvF_length d.live
  have hsd := pvF_length d.safe
  have hod := pvD_length d.ops
  obtain ⟨hb1, hb2, hb3, hb4, hb5⟩ := hd
  refine tr_seq ?_
  refine tr_region rfl (.run [] [1] rfl (st_box rfl 1 rfl rfl (by decide) rfl (by decide)) (.run [] [] rfl (st_assign rfl) .nil)) ?_
  refine tr_seq ?_
  refine tr_seq ?_
  refine tr_wk (s' := mk [(1, .ptr 1 0)] [(1, [.p none (.sl false 2 (pvF d.live)), .p none (.sl false 2 (pvF d.safe)), .p none (.sl false 4 (pvD d.ops))])] []) ?_ ?_
  · exact wk_mk ⟨rfl, trivial⟩ ⟨rfl, trivial⟩ trivial rfl
  rcases bfc (!(filesOk d.live)) with h1 | h1
  · have h1' := h1
    replace h1' : (filesOk d.live) = true := bnot_f h1'
    rcases bfc (!(filesOk d.safe)) with h2 | h2
    · have h2' := h2
      replace h2' : (filesOk d.safe) = true := bnot_f h2'
      refine tr_region rfl (.run [] [] rfl (st_faddr_box rfl rfl Try.underlying27 rfl Try.sizeOf24 (by decide)) (.run [] [] rfl (st_load_box1 rfl rfl rfl Try.isAgg24 rfl) (.run [900] [] rfl (st_call rfl 900 (X := []) en38 rfl (.val nod) (.cons (.one (.bor (.sl nod))) .nil) (by decide) all_nil .nil (l6Files_con d.live (by omega) (by omega)) rfl rfl (nle rfl)) (.run [] [] rfl (st_eq (st_not (b := filesOk d.live) rfl rfl) (by exact congrArg (fun b => AV.p none (.v (.bool b))) h1)) (.run [] [] rfl (st_move rfl) (.run [] [] rfl (st_faddr_box rfl rfl Try.underlying27 rfl Try.sizeOf24 (by decide)) (.run [] [] rfl (st_load_box1 rfl rfl rfl Try.isAgg24 rfl) (.run [1400] [] rfl (st_call rfl 1400 (X := []) en38 rfl (.val nod) (.cons (.one (.bor (.sl nod))) .nil) (by decide) all_nil .nil (l6Files_con d.safe (by omega) (by omega)) rfl rfl (nle rfl)) (.run [] [] rfl (st_eq (st_not (b := filesOk d.safe) rfl rfl) (by exact congrArg (fun b => AV.p none (.v (.bool b))) h2)) (.run [] [] rfl (st_pick (t := false) rfl rfl) (.run [] [] rfl (st_move rfl) (.run [] [] rfl (st_faddr_box rfl rfl Try.underlying27 rfl Try.sizeOf25 (by decide)) (.run [] [] rfl (st_load_box1 rfl rfl rfl Try.isAgg25 rfl) (.run [] [] rfl (st_len_fro rfl rfl Try.underlying25) (.run [] [] rfl (st_gtr rfl rfl rfl) (.run [] [] rfl (st_pick (t := false) rfl rfl) .nil)))))))))))))))) ?_
      refine tr_if (t := decide (200 < ((pvD d.ops).length : Int))) rfl (fun h3 => ?_) (fun h3 => ?_)
      · skip
        replace h3 := of_decide_eq_true h3
        refine tr_seq ?_
        refine tr_wk (s' := mk [] [] []) ?_ ?_
        · exact wk_mk trivial trivial trivial rfl
        refine tr_region rfl (.run [] [] rfl (st_assign rfl) .nil) ?_
        refine tr_ret ?_
        exact ends [_] [] (.cons (.tmp (bool_eq (show diskOk d = false by have hq : ¬ d.ops.length ≤ 200 := (by omega); simp [diskOk, hq]).symm)) .nil) (.cons (.one .v (.v _)) .nil) (by decide) trivial
      · skip
        replace h3 := of_decide_eq_false h3
        refine tr_skip ?_
        refine tr_seq ?_
        refine tr_wk (s' := mk [(1, .ptr 1 0)] [(1, [.p none (.sl false 2 (pvF d.live)), .p none (.sl false 2 (pvF d.safe)), .p none (.sl false 4 (pvD d.ops))])] []) ?_ ?_
        · exact wk_mk ⟨rfl, trivial⟩ ⟨rfl, trivial⟩ trivial rfl
        refine tr_region rfl (.run [] [] rfl (st_faddr_box rfl rfl Try.underlying27 rfl Try.sizeOf24 (by decide)) (.run [] [] rfl (st_load_box1 rfl rfl rfl Try.isAgg24 rfl) (.run [] [] rfl (st_assign rfl) .nil))) ?_
        refine tr_seq ?_
        refine tr_seq ?_
        refine tr_region rfl (.run [] [] rfl (st_assign rfl) .nil) ?_
        refine tr_block ?_
        refine tr_loopS (σ := Nat × List Fil) (fun (i, now) => mk [(1, .ptr 1 0), (3, .p none (.sl false 2 (pvF now))), (4, .p none (.v (.int .i64 (i:Int))))] [(1, [.p none (.sl false 2 (pvF d.live)), .p none (.sl false 2 (pvF d.safe)), .p none (.sl false 4 (pvD d.ops))])] []) (fun (i, now) => i ≤ d.ops.length ∧ (now.length ≤ 60 ∧ totF now ≤ 200000) ∧ replayF now (d.ops.drop i) = replayF d.safe d.ops) (fun (i, now) => d.ops.length - i) (0, d.safe) ⟨Nat.zero_le _, files_fit h2', rfl⟩ (wk_mk ⟨rfl, ⟨rfl, ⟨(int_eq (by omega)), trivial⟩⟩⟩ ⟨rfl, trivial⟩ trivial rfl) ?_
        rintro ⟨i, now⟩ hG
        replace hG : i ≤ d.ops.length ∧ (now.length ≤ 60 ∧ totF now ≤ 200000) ∧ replayF now (d.ops.drop i) = replayF d.safe d.ops := hG
        obtain ⟨hi, ⟨hn1, hn2⟩, hr⟩ := hG
        have hnl := pvF_length now
        refine tr_seq ?_
        refine tr_seq ?_
        refine tr_region rfl (.run [] [] rfl (st_move rfl) (.run [] [] rfl (st_faddr_box rfl rfl Try.underlying27 rfl Try.sizeOf25 (by decide)) (.run [] [] rfl (st_load_box1 rfl rfl rfl Try.isAgg25 rfl) (.run [] [] rfl (st_len_fro rfl rfl Try.underlying25) (.run [] [] rfl (st_lss rfl rfl rfl) .nil))))) ?_
        refine tr_if (t := decide ((i:Int) < ((pvD d.ops).length : Int))) rfl (fun h4 => ?_) (fun h4 => ?_)
        · skip
          replace h4 := of_decide_eq_true h4
          refine tr_skip ?_
          refine tr_seq ?_
          refine tr_block ?_
          refine tr_seq ?_
          obtain ⟨e, he⟩ : ∃ e, d.ops[i]? = some e := ⟨_, List.getElem?_eq_getElem (by omega)⟩
          have heo := hop e (List.mem_of_getElem? he)
          refine tr_wk (s' := mk [(1, .ptr 1 0), (3, .p none (.sl false 2 (pvF now))), (4, .p none (.v (.int .i64 (i:Int))))] [(1, [.p none (.sl false 2 (pvF d.live)), .p none (.sl false 2 (pvF d.safe)), .p none (.sl false 4 (pvD d.ops))])] []) ?_ ?_
          · exact wk_mk ⟨rfl, ⟨rfl, ⟨rfl, trivial⟩⟩⟩ ⟨rfl, trivial⟩ trivial rfl
          refine tr_region rfl (.run [] [] rfl (st_move rfl) (.run [] [] rfl (st_faddr_box rfl rfl Try.underlying27 rfl Try.sizeOf25 (by decide)) (.run [] [] rfl (st_load_box1 rfl rfl rfl Try.isAgg25 rfl) (.run [] [] rfl (st_move rfl) (.run [] [] rfl (st_idx_fro rfl rfl rfl Try.underlying25 Try.sizeOf36 rfl (by omega) (pvD_get he)) (.run [] [] rfl (st_load_fea rfl rfl Try.isAgg36 Try.sizeOf36 (nle rfl)) (.run [3900, 3901] [] rfl (st_call rfl 3900 (X := []) en39 rfl (.val nod) (.cons (.one (.bor (.sl nod))) (.cons (.agg (.cons (.bor .v) (.cons (.bor .v) (.cons (.bor .v) (.cons (.bor .v) .nil))))) .nil)) (by decide) all_nil .nil (l6Do_con now e (by omega) (by omega) (by omega)) rfl rfl (nle rfl)) (.run [] [] rfl (st_move rfl) (.run [] [] rfl (st_extract rfl rfl rfl) (.run [] [] rfl (st_extract rfl rfl rfl) (.run [] [] rfl (st_assign rfl) (.run [] [] rfl (st_assign rfl) .nil)))))))))))) ?_
          refine tr_seq ?_
          refine tr_seq ?_
          have hdl := done_len now e
          have hdt := done_tot now e
          have hln := pvF_length (doneF now e).1
          refine tr_wk (s' := mk [(1, .ptr 1 0), (4, .p none (.v (.int .i64 (i:Int)))), (5, .sl 3900 0 ((pvF ((doneF now e).1)).length)), (6, .p none (.v (.bool ((doneF now e).2))))] [(1, [.p none (.sl false 2 (pvF d.live)), .p none (.sl false 2 (pvF d.safe)), .p none (.sl false 4 (pvD d.ops))])] [(3900, 2, pvF ((doneF now e).1))]) ?_ ?_
          · exact wk_mk ⟨rfl, ⟨rfl, ⟨rfl, ⟨rfl, trivial⟩⟩⟩⟩ ⟨rfl, trivial⟩ ⟨rfl, trivial⟩ rfl
          rcases bfc (!((doneF now e).2)) with h5 | h5
          · have h5' := h5
            replace h5' : ((doneF now e).2) = true := bnot_f h5'
            rcases bfc (!(formF e)) with h6 | h6
            · have h6' := h6
              replace h6' : (formF e) = true := bnot_f h6'
              refine tr_region rfl (.run [] [] rfl (st_move rfl) (.run [] [] rfl (st_eq (st_not (b := (doneF now e).2) rfl rfl) (by exact congrArg (fun b => AV.p none (.v (.bool b))) h5)) (.run [] [] rfl (st_move rfl) (.run [] [] rfl (st_faddr_box rfl rfl Try.underlying27 rfl Try.sizeOf25 (by decide)) (.run [] [] rfl (st_load_box1 rfl rfl rfl Try.isAgg25 rfl) (.run [] [] rfl (st_move rfl) (.run [] [] rfl (st_idx_fro rfl rfl rfl Try.underlying25 Try.sizeOf36 rfl (by omega) (pvD_get he)) (.run [] [] rfl (st_load_fea rfl rfl Try.isAgg36 Try.sizeOf36 (nle rfl)) (.run [5000] [] rfl (st_call rfl 5000 (X := []) en40 rfl (.val nod) (.cons (.agg (.cons (.bor .v) (.cons (.bor .v) (.cons (.bor .v) (.cons (.bor .v) .nil))))) .nil) (by decide) all_nil .nil (l6Form_con e) rfl rfl (nle rfl)) (.run [] [] rfl (st_eq (st_not (b := formF e) rfl rfl) (by exact congrArg (fun b => AV.p none (.v (.bool b))) h6)) (.run [] [] rfl (st_pick (t := false) rfl rfl) (.run [] [] rfl (st_move rfl) (.run [] [] rfl (st_move rfl) (.run [3900, 5500] [] rfl (st_call rfl 5500 (X := []) en38 rfl (.val nod) (.cons (.one (.bor (.all (len := (pvF ((doneF now e).1)).length) (xs := pvF ((doneF now e).1)) rfl rfl (by decide)))) .nil) (by decide) all_nil .nil (l6Files_con ((doneF now e).1) (by omega) (by omega)) rfl rfl (nle rfl)) (.run [] [] rfl (st_not (b := filesOk ((doneF now e).1)) rfl rfl) (.run [] [] rfl (st_pick (t := false) rfl rfl) .nil)))))))))))))))) ?_
              refine tr_if (t := (!(filesOk ((doneF now e).1)))) rfl (fun h7 => ?_) (fun h7 => ?_)
              · skip
                replace h7 : (filesOk ((doneF now e).1)) = false := bnot_t h7
                refine tr_seq ?_
                refine tr_wk (s' := mk [] [] []) ?_ ?_
                · exact wk_mk trivial trivial trivial rfl
                refine tr_region rfl (.run [] [] rfl (st_assign rfl) .nil) ?_
                refine tr_ret ?_
                exact ends [_] [] (.cons (.tmp (bool_eq (disk_no hr he (by simp [h5', h6', h7])).symm)) .nil) (.cons (.one .v (.v _)) .nil) (by decide) trivial
              · skip
                replace h7 : (filesOk ((doneF now e).1)) = true := bnot_f h7
                refine tr_skip ?_
                refine tr_wk (s' := mk [(1, .ptr 1 0), (4, .p none (.v (.int .i64 (i:Int)))), (5, .sl 3900 0 ((pvF ((doneF now e).1)).length)), (45, .ptr 1 2), (46, .p none (.sl false 4 (pvD d.ops))), (47, .p none (.v (.int .i64 (i:Int)))), (48, .fea none [PV.v (.int .i64 e.kind), PV.v (.string e.name), PV.v (.string e.dest), PV.v (.string e.data)]), (49, .agg [.p none (.v (.int .i64 e.kind)), .p none (.v (.string e.name)), .p none (.v (.string e.dest)), .p none (.v (.string e.data))]), (50, .p none (.v (.bool (formF e)))), (51, .p none (.v (.bool false))), (54, .sl 3900 0 ((pvF ((doneF now e).1)).length)), (55, .p none (.v (.bool (filesOk ((doneF now e).1))))), (56, .p none (.v (.bool (!(filesOk ((doneF now e).1))))))] [(1, [.p none (.sl false 2 (pvF d.live)), .p none (.sl false 2 (pvF d.safe)), .p none (.sl false 4 (pvD d.ops))])] [(3900, 2, pvF ((doneF now e).1))]) ?_ ?_
                · exact wk_mk ⟨rfl, ⟨rfl, ⟨rfl, ⟨rfl, ⟨rfl, ⟨rfl, ⟨rfl, ⟨rfl, ⟨rfl, ⟨rfl, ⟨rfl, ⟨rfl, ⟨rfl, trivial⟩⟩⟩⟩⟩⟩⟩⟩⟩⟩⟩⟩⟩ ⟨rfl, trivial⟩ ⟨rfl, trivial⟩ rfl
                refine tr_region rfl (.run [] [] rfl (st_move rfl) (.run [] [] rfl (st_assign rfl) .nil)) ?_
                refine tr_wk (wk_frz 3900 rfl) ?_
                have hp8 : (.p none (.sl false 2 (((pvF ((doneF now e).1)).drop 0).take ((pvF ((doneF now e).1)).length))) : AV) = .p none (.sl false 2 (pvF ((doneF now e).1))) := by simp only [frz_all]
                have hp9 : (.p none (.sl false 2 (((pvF ((doneF now e).1)).drop 0).take ((pvF ((doneF now e).1)).length))) : AV) = .p none (.sl false 2 (pvF ((doneF now e).1))) := by simp only [frz_all]
                refine tr_wk (s' := mk [(1, .ptr 1 0), (3, .p none (.sl false 2 (pvF ((doneF now e).1)))), (4, .p none (.v (.int .i64 (i:Int)))), (45, .ptr 1 2), (46, .p none (.sl false 4 (pvD d.ops))), (47, .p none (.v (.int .i64 (i:Int)))), (48, .fea none [PV.v (.int .i64 e.kind), PV.v (.string e.name), PV.v (.string e.dest), PV.v (.string e.data)]), (49, .agg [.p none (.v (.int .i64 e.kind)), .p none (.v (.string e.name)), .p none (.v (.string e.dest)), .p none (.v (.string e.data))]), (50, .p none (.v (.bool (formF e)))), (51, .p none (.v (.bool false))), (54, .p none (.sl false 2 (pvF ((doneF now e).1)))), (55, .p none (.v (.bool (filesOk ((doneF now e).1))))), (56, .p none (.v (.bool (!(filesOk ((doneF now e).1))))))] [(1, [.p none (.sl false 2 (pvF d.live)), .p none (.sl false 2 (pvF d.safe)), .p none (.sl false 4 (pvD d.ops))])] []) ?_ ?_
                · exact wk_mk ⟨rfl, ⟨hp9, ⟨rfl, ⟨rfl, ⟨rfl, ⟨rfl, ⟨rfl, ⟨rfl, ⟨rfl, ⟨rfl, ⟨hp8, ⟨rfl, ⟨rfl, trivial⟩⟩⟩⟩⟩⟩⟩⟩⟩⟩⟩⟩⟩ ⟨rfl, trivial⟩ trivial rfl
                refine tr_region rfl (.run [] [] rfl (st_move rfl) (.run [] [] rfl (st_addn rfl rfl rfl (by omega)) (.run [] [] rfl (st_assign rfl) .nil))) ?_
                refine nxt (Q := fun _ _ => False) (z := (i, now)) (i + 1, (doneF now e).1) ?_ ?_ ?_
                · show (i + 1) ≤ d.ops.length ∧ (((doneF now e).1).length ≤ 60 ∧ totF ((doneF now e).1) ≤ 200000) ∧ replayF ((doneF now e).1) (d.ops.drop (i + 1)) = replayF d.safe d.ops
                  exact ⟨by omega, files_fit h7, disk_next hr he ⟨h6', h5', h7⟩⟩
                · show d.ops.length - (i + 1) < d.ops.length - i
                  omega
                · exact wk_mk ⟨rfl, ⟨rfl, ⟨(int_eq (by omega)), trivial⟩⟩⟩ ⟨rfl, trivial⟩ trivial rfl
            · have h6' := h6
              replace h6' : (formF e) = false := bnot_t h6'
              refine tr_region rfl (.run [] [] rfl (st_move rfl) (.run [] [] rfl (st_eq (st_not (b := (doneF now e).2) rfl rfl) (by exact congrArg (fun b => AV.p none (.v (.bool b))) h5)) (.run [] [] rfl (st_move rfl) (.run [] [] rfl (st_faddr_box rfl rfl Try.underlying27 rfl Try.sizeOf25 (by decide)) (.run [] [] rfl (st_load_box1 rfl rfl rfl Try.isAgg25 rfl) (.run [] [] rfl (st_move rfl) (.run [] [] rfl (st_idx_fro rfl rfl rfl Try.underlying25 Try.sizeOf36 rfl (by omega) (pvD_get he)) (.run [] [] rfl (st_load_fea rfl rfl Try.isAgg36 Try.sizeOf36 (nle rfl)) (.run [5000] [] rfl (st_call rfl 5000 (X := []) en40 rfl (.val nod) (.cons (.agg (.cons (.bor .v) (.cons (.bor .v) (.cons (.bor .v) (.cons (.bor .v) .nil))))) .nil) (by decide) all_nil .nil (l6Form_con e) rfl rfl (nle rfl)) (.run [] [] rfl (st_eq (st_not (b := formF e) rfl rfl) (by exact congrArg (fun b => AV.p none (.v (.bool b))) h6)) (.run [] [] rfl (st_pick (t := false) rfl rfl) (.run [] [] rfl (st_move rfl) (.not rfl (.not rfl (.not rfl (.run [] [] rfl (st_pick (t := true) rfl rfl) .nil)))))))))))))))) ?_
              refine tr_if (t := true) rfl (fun _ => ?_) (fun h => nomatch h)
              refine tr_seq ?_
              refine tr_wk (s' := mk [] [] []) ?_ ?_
              · exact wk_mk trivial trivial trivial rfl
              refine tr_region rfl (.run [] [] rfl (st_assign rfl) .nil) ?_
              refine tr_ret ?_
              exact ends [_] [] (.cons (.tmp (bool_eq (disk_no hr he (by simp [h5', h6'])).symm)) .nil) (.cons (.one .v (.v _)) .nil) (by decide) trivial
          · have h5' := h5
            replace h5' : ((doneF now e).2) = false := bnot_t h5'
            refine tr_region rfl (.run [] [] rfl (st_move rfl) (.run [] [] rfl (st_eq (st_not (b := (doneF now e).2) rfl rfl) (by exact congrArg (fun b => AV.p none (.v (.bool b))) h5)) (.run [] [] rfl (st_move rfl) (.not rfl (.not rfl (.not rfl (.not rfl (.not rfl (.not rfl (.not rfl (.run [] [] rfl (st_pick (t := true) rfl rfl) (.run [] [] rfl (st_move rfl) (.not rfl (.not rfl (.not rfl (.run [] [] rfl (st_pick (t := true) rfl rfl) .nil)))))))))))))))) ?_
            refine tr_if (t := true) rfl (fun _ => ?_) (fun h => nomatch h)
            refine tr_seq ?_
            refine tr_wk (s' := mk [] [] []) ?_ ?_
            · exact wk_mk trivial trivial trivial rfl
            refine tr_region rfl (.run [] [] rfl (st_assign rfl) .nil) ?_
            refine tr_ret ?_
            exact ends [_] [] (.cons (.tmp (bool_eq (disk_no hr he (by simp [h5'])).symm)) .nil) (.cons (.one .v (.v _)) .nil) (by decide) trivial
        · skip
          replace h4 := of_decide_eq_false h4
          refine tr_exit ?_
          refine tr_seq ?_
          refine tr_region rfl (.run [] [] rfl (st_move rfl) (.run [] [] rfl (st_faddr_box rfl rfl Try.underlying27 rfl Try.sizeOf24 (by decide)) (.run [] [] rfl (st_load_box1 rfl rfl rfl Try.isAgg24 rfl) (.run [6200] [] rfl (st_call rfl 6200 (X := []) en41 rfl (.val nod) (.cons (.one (.bor (.sl nod))) (.cons (.one (.bor (.sl nod))) .nil)) (by decide) all_nil .nil (l6Same_con now d.live (by omega)) rfl rfl (nle rfl)) (.run [] [] rfl (st_assign rfl) .nil))))) ?_
          refine tr_ret ?_
          exact ends [_] [] (.cons (.tmp (bool_eq (disk_end (by omega) hr h1' h2' (by omega)).symm)) .nil) (.cons (.one .v (.v _)) .nil) (by decide) trivial
    · have h2' := h2
      replace h2' : (filesOk d.safe) = false := bnot_t h2'
      refine tr_region rfl (.run [] [] rfl (st_faddr_box rfl rfl Try.underlying27 rfl Try.sizeOf24 (by decide)) (.run [] [] rfl (st_load_box1 rfl rfl rfl Try.isAgg24 rfl) (.run [900] [] rfl (st_call rfl 900 (X := []) en38 rfl (.val nod) (.cons (.one (.bor (.sl nod))) .nil) (by decide) all_nil .nil (l6Files_con d.live (by omega) (by omega)) rfl rfl (nle rfl)) (.run [] [] rfl (st_eq (st_not (b := filesOk d.live) rfl rfl) (by exact congrArg (fun b => AV.p none (.v (.bool b))) h1)) (.run [] [] rfl (st_move rfl) (.run [] [] rfl (st_faddr_box rfl rfl Try.underlying27 rfl Try.sizeOf24 (by decide)) (.run [] [] rfl (st_load_box1 rfl rfl rfl Try.isAgg24 rfl) (.run [1400] [] rfl (st_call rfl 1400 (X := []) en38 rfl (.val nod) (.cons (.one (.bor (.sl nod))) .nil) (by decide) all_nil .nil (l6Files_con d.safe (by omega) (by omega)) rfl rfl (nle rfl)) (.run [] [] rfl (st_eq (st_not (b := filesOk d.safe) rfl rfl) (by exact congrArg (fun b => AV.p none (.v (.bool b))) h2)) (.run [] [] rfl (st_pick (t := false) rfl rfl) (.run [] [] rfl (st_move rfl) (.not rfl (.not rfl (.not rfl (.not rfl (.run [] [] rfl (st_pick (t := true) rfl rfl) .nil)))))))))))))))) ?_
      refine tr_if (t := true) rfl (fun _ => ?_) (fun h => nomatch h)
      refine tr_seq ?_
      refine tr_wk (s' := mk [] [] []) ?_ ?_
      · exact wk_mk trivial trivial trivial rfl
      refine tr_region rfl (.run [] [] rfl (st_assign rfl) .nil) ?_
      refine tr_ret ?_
      exact ends [_] [] (.cons (.tmp (bool_eq (show diskOk d = false by simp [diskOk, h1', h2']).symm)) .nil) (.cons (.one .v (.v _)) .nil) (by decide) trivial
  · have h1' := h1
    replace h1' : (filesOk d.live) = false := bnot_t h1'
    refine tr_region rfl (.run [] [] rfl (st_faddr_box rfl rfl Try.underlying27 rfl Try.sizeOf24 (by decide)) (.run [] [] rfl (st_load_box1 rfl rfl rfl Try.isAgg24 rfl) (.run [900] [] rfl (st_call rfl 900 (X := []) en38 rfl (.val nod) (.cons (.one (.bor (.sl nod))) .nil) (by decide) all_nil .nil (l6Files_con d.live (by omega) (by omega)) rfl rfl (nle rfl)) (.run [] [] rfl (st_eq (st_not (b := filesOk d.live) rfl rfl) (by exact congrArg (fun b => AV.p none (.v (.bool b))) h1)) (.run [] [] rfl (st_move rfl) (.not rfl (.not rfl (.not rfl (.not rfl (.run [] [] rfl (st_pick (t := true) rfl rfl) (.run [] [] rfl (st_move rfl) (.not rfl (.not rfl (.not rfl (.not rfl (.run [] [] rfl (st_pick (t := true) rfl rfl) .nil)))))))))))))))) ?_
    refine tr_if (t := true) rfl (fun _ => ?_) (fun h => nomatch h)
    refine tr_seq ?_
    refine tr_wk (s' := mk [] [] []) ?_ ?_
    · exact wk_mk trivial trivial trivial rfl
    refine tr_region rfl (.run [] [] rfl (st_assign rfl) .nil) ?_
    refine tr_ret ?_
    exact ends [_] [] (.cons (.tmp (bool_eq (show diskOk d = false by simp [diskOk, h1']).symm)) .nil) (.cons (.one .v (.v _)) .nil) (by decide) trivial
end Go.Rl

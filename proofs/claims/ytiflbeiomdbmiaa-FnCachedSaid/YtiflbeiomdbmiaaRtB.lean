/- Promises of functions, proved by walks over their operations; no conditions beyond those that each theorem states. -/
import Derived.Test.YtiflbeiomdbmiaaRlT
import Derived.Test.YtiflbeiomdbmiaaRtDom
import Derived.Test.YtiflbeiomdbmiaaProg
namespace Go.Rl
open Go.Proofs
theorem mixed : Try.prog.follows .mixedOrders = true := by kernel_rfl
theorem inf33 : (Try.prog.info? 33).map (fun i => (i.zero, i.size, i.bytes)) = some (some (.agg #[.string (⟨#[]⟩), .int .i64 0, .int .i64 0]), 3, 32) := by kernel_rfl
theorem inf26 : (Try.prog.info? 26).map (fun i => (i.zero, i.size, i.bytes)) = some (some (.agg #[.int .i64 0, .slice none 0 0]), 2, 32) := by kernel_rfl
theorem inf9 : (Try.prog.info? 9).map (fun i => (i.zero, i.size, i.bytes)) = some (some (.string (⟨#[]⟩)), 1, 16) := by kernel_rfl
theorem inf2 : (Try.prog.info? 2).map (fun i => (i.zero, i.size, i.bytes)) = some (some (.int .i64 0), 1, 8) := by kernel_rfl
theorem inf22 : (Try.prog.info? 22).map (fun i => (i.zero, i.size, i.bytes)) = some (some (.slice none 0 0), 1, 24) := by kernel_rfl
theorem inf5 : (Try.prog.info? 5).map (fun i => (i.zero, i.size, i.bytes)) = some (some (.int .u8 0), 1, 1) := by kernel_rfl
theorem en29 : ∀ vs w, (callFunc 29 vs).run Try.prog w = .ok (.enter 29 vs) w := enters Try.func29 (by decide) rfl
theorem en30 : ∀ vs w, (callFunc 30 vs).run Try.prog w = .ok (.enter 30 vs) w := enters Try.func30 (by decide) rfl
theorem en31 : ∀ vs w, (callFunc 31 vs).run Try.prog w = .ok (.enter 31 vs) w := enters Try.func31 (by decide) rfl
theorem en33 : ∀ vs w, (callFunc 33 vs).run Try.prog w = .ok (.enter 33 vs) w := enters Try.func33 (by decide) rfl
theorem en36 : ∀ vs w, (callFunc 36 vs).run Try.prog w = .ok (.enter 36 vs) w := enters Try.func36 (by decide) rfl
theorem en37 : ∀ vs w, (callFunc 37 vs).run Try.prog w = .ok (.enter 37 vs) w := enters Try.func37 (by decide) rfl
theorem en38 : ∀ vs w, (callFunc 38 vs).run Try.prog w = .ok (.enter 38 vs) w := enters Try.func38 (by decide) rfl
theorem en39 : ∀ vs w, (callFunc 39 vs).run Try.prog w = .ok (.enter 39 vs) w := enters Try.func39 (by decide) rfl
theorem en40 : ∀ vs w, (callFunc 40 vs).run Try.prog w = .ok (.enter 40 vs) w := enters Try.func40 (by decide) rfl
theorem en41 : ∀ vs w, (callFunc 41 vs).run Try.prog w = .ok (.enter 41 vs) w := enters Try.func41 (by decide) rfl
theorem en42 : ∀ vs w, (callFunc 42 vs).run Try.prog w = .ok (.enter 42 vs) w := enters Try.func42 (by decide) rfl
theorem en43 : ∀ vs w, (callFunc 43 vs).run Try.prog w = .ok (.enter 43 vs) w := enters Try.func43 (by decide) rfl
theorem en44 : ∀ vs w, (callFunc 44 vs).run Try.prog w = .ok (.enter 44 vs) w := enters Try.func44 (by decide) rfl
theorem en47 : ∀ vs w, (callFunc 47 vs).run Try.prog w = .ok (.enter 47 vs) w := enters Try.func47 (by decide) rfl
theorem en48 : ∀ vs w, (callFunc 48 vs).run Try.prog w = .ok (.enter 48 vs) w := enters Try.func48 (by decide) rfl
theorem en52 : ∀ vs w, (callFunc 52 vs).run Try.prog w = .ok (.enter 52 vs) w := enters Try.func52 (by decide) rfl
theorem en53 : ∀ vs w, (callFunc 53 vs).run Try.prog w = .ok (.enter 53 vs) w := enters Try.func53 (by decide) rfl
theorem en54 : ∀ vs w, (callFunc 54 vs).run Try.prog w = .ok (.enter 54 vs) w := enters Try.func54 (by decide) rfl
theorem en56 : ∀ vs w, (callFunc 56 vs).run Try.prog w = .ok (.enter 56 vs) w := enters Try.func56 (by decide) rfl
theorem en57 : ∀ vs w, (callFunc 57 vs).run Try.prog w = .ok (.enter 57 vs) w := enters Try.func57 (by decide) rfl
theorem en58 : ∀ vs w, (callFunc 58 vs).run Try.prog w = .ok (.enter 58 vs) w := enters Try.func58 (by decide) rfl
theorem en59 : ∀ vs w, (callFunc 59 vs).run Try.prog w = .ok (.enter 59 vs) w := enters Try.func59 (by decide) rfl
theorem en60 : ∀ vs w, (callFunc 60 vs).run Try.prog w = .ok (.enter 60 vs) w := enters Try.func60 (by decide) rfl
theorem within_con (n low high : Int) : Con Try.prog 36 [.one (.v (.int .i64 n)), .one (.v (.int .i64 low)), .one (.v (.int .i64 high))] [] [.one (.v (.bool (within n low high)))] := by
  refine con_of_tr Try.func36 rfl rfl rfl rfl ?_
  refine tr_seq ?_
  refine tr_region rfl (.run [] [] rfl (st_assign rfl) .nil) ?_
  refine tr_seq ?_
  rcases bfc (decide (low ≤ n)) with h1 | h1
  · have h1' := h1
    replace h1' := of_decide_eq_false h1'
    refine tr_region rfl (.run [] [] rfl (st_move rfl) (.run [] [] rfl (st_move rfl) (.run [] [] rfl (st_eq (st_leq rfl rfl rfl) (congrArg (fun b => AV.p none (.v (.bool b))) h1)) (.run [] [] rfl (st_move rfl) (.not rfl (.not rfl (.not rfl (.run [] [] rfl (st_pick (t := false) rfl rfl) (.run [] [] rfl (st_assign rfl) .nil))))))))) ?_
    refine tr_ret ?_
    exact ends [_] [] (.cons (.tmp (bool_eq (by simp only [within, h1, Bool.false_and, Bool.true_and]))) .nil) (.cons (.one .v (.v _)) .nil) (by decide) trivial
  · have h1' := h1
    replace h1' := of_decide_eq_true h1'
    refine tr_region rfl (.run [] [] rfl (st_move rfl) (.run [] [] rfl (st_move rfl) (.run [] [] rfl (st_eq (st_leq rfl rfl rfl) (congrArg (fun b => AV.p none (.v (.bool b))) h1)) (.run [] [] rfl (st_move rfl) (.run [] [] rfl (st_move rfl) (.run [] [] rfl (st_move rfl) (.run [] [] rfl (st_leq rfl rfl rfl) (.run [] [] rfl (st_pick (t := true) rfl rfl) (.run [] [] rfl (st_assign rfl) .nil))))))))) ?_
    refine tr_ret ?_
    exact ends [_] [] (.cons (.tmp (bool_eq (by simp only [within, h1, Bool.false_and, Bool.true_and]))) .nil) (.cons (.one .v (.v _)) .nil) (by decide) trivial
theorem l1In_con (n low high : Int) : Con Try.prog 48 [.one (.v (.int .i64 n)), .one (.v (.int .i64 low)), .one (.v (.int .i64 high))] [] [.one (.v (.bool (within n low high)))] := by
  refine con_of_tr Try.func48 rfl rfl rfl rfl ?_
  refine tr_seq ?_
  refine tr_region rfl (.run [] [] rfl (st_assign rfl) .nil) ?_
  refine tr_seq ?_
  rcases bfc (decide (low ≤ n)) with h1 | h1
  · have h1' := h1
    replace h1' := of_decide_eq_false h1'
    refine tr_region rfl (.run [] [] rfl (st_move rfl) (.run [] [] rfl (st_move rfl) (.run [] [] rfl (st_eq (st_geq rfl rfl rfl) (congrArg (fun b => AV.p none (.v (.bool b))) h1)) (.run [] [] rfl (st_move rfl) (.not rfl (.not rfl (.not rfl (.run [] [] rfl (st_pick (t := false) rfl rfl) (.run [] [] rfl (st_assign rfl) .nil))))))))) ?_
    refine tr_ret ?_
    exact ends [_] [] (.cons (.tmp (bool_eq (by simp only [within, h1, Bool.false_and, Bool.true_and]))) .nil) (.cons (.one .v (.v _)) .nil) (by decide) trivial
  · have h1' := h1
    replace h1' := of_decide_eq_true h1'
    refine tr_region rfl (.run [] [] rfl (st_move rfl) (.run [] [] rfl (st_move rfl) (.run [] [] rfl (st_eq (st_geq rfl rfl rfl) (congrArg (fun b => AV.p none (.v (.bool b))) h1)) (.run [] [] rfl (st_move rfl) (.run [] [] rfl (st_move rfl) (.run [] [] rfl (st_move rfl) (.run [] [] rfl (st_leq rfl rfl rfl) (.run [] [] rfl (st_pick (t := true) rfl rfl) (.run [] [] rfl (st_assign rfl) .nil))))))))) ?_
    refine tr_ret ?_
    exact ends [_] [] (.cons (.tmp (bool_eq (by simp only [within, h1, Bool.false_and, Bool.true_and]))) .nil) (.cons (.one .v (.v _)) .nil) (by decide) trivial
theorem isUser_con (s : ByteArray) : Con Try.prog 56 [.one (.v (.string s))] [] [.one (.v (.bool (isUser s)))] := by
  refine con_of_tr Try.func56 rfl rfl rfl rfl ?_
  refine tr_seq ?_
  refine tr_region rfl (.run [] [] rfl (st_assign rfl) .nil) ?_
  refine tr_seq ?_
  rcases bfc (decide (1 ≤ ((s.size : Int)))) with h1 | h1
  · have h1' := h1
    replace h1' := of_decide_eq_false h1'
    refine tr_region rfl (.run [] [] rfl (st_move rfl) (.run [] [] rfl (st_len_str rfl rfl Try.underlying9) (.run [] [] rfl (st_eq (st_geq rfl rfl rfl) (congrArg (fun b => AV.p none (.v (.bool b))) h1)) (.run [] [] rfl (st_move rfl) (.not rfl (.not rfl (.not rfl (.run [] [] rfl (st_pick (t := false) rfl rfl) (.run [] [] rfl (st_assign rfl) .nil))))))))) ?_
    refine tr_ret ?_
    exact ends [_] [] (.cons (.tmp (bool_eq (by simp only [isUser, h1, Bool.false_and, Bool.true_and]))) .nil) (.cons (.one .v (.v _)) .nil) (by decide) trivial
  · have h1' := h1
    replace h1' := of_decide_eq_true h1'
    refine tr_region rfl (.run [] [] rfl (st_move rfl) (.run [] [] rfl (st_len_str rfl rfl Try.underlying9) (.run [] [] rfl (st_eq (st_geq rfl rfl rfl) (congrArg (fun b => AV.p none (.v (.bool b))) h1)) (.run [] [] rfl (st_move rfl) (.run [] [] rfl (st_move rfl) (.run [] [] rfl (st_len_str rfl rfl Try.underlying9) (.run [] [] rfl (st_leq rfl rfl rfl) (.run [] [] rfl (st_pick (t := true) rfl rfl) (.run [] [] rfl (st_assign rfl) .nil))))))))) ?_
    refine tr_ret ?_
    exact ends [_] [] (.cons (.tmp (bool_eq (by simp only [isUser, h1, Bool.false_and, Bool.true_and]))) .nil) (.cons (.one .v (.v _)) .nil) (by decide) trivial
theorem l2User_con (s : ByteArray) : Con Try.prog 47 [.one (.v (.string s))] [] [.one (.v (.bool (isUser s)))] := by
  refine con_of_tr Try.func47 rfl rfl rfl rfl ?_
  refine tr_seq ?_
  refine tr_region rfl (.run [] [] rfl (st_assign rfl) .nil) ?_
  refine tr_seq ?_
  rcases bfc (decide (1 ≤ ((s.size : Int)))) with h1 | h1
  · have h1' := h1
    replace h1' := of_decide_eq_false h1'
    refine tr_region rfl (.run [] [] rfl (st_move rfl) (.run [] [] rfl (st_len_str rfl rfl Try.underlying9) (.run [] [] rfl (st_eq (st_geq rfl rfl rfl) (congrArg (fun b => AV.p none (.v (.bool b))) h1)) (.run [] [] rfl (st_move rfl) (.not rfl (.not rfl (.not rfl (.run [] [] rfl (st_pick (t := false) rfl rfl) (.run [] [] rfl (st_assign rfl) .nil))))))))) ?_
    refine tr_ret ?_
    exact ends [_] [] (.cons (.tmp (bool_eq (by simp only [isUser, h1, Bool.false_and, Bool.true_and]))) .nil) (.cons (.one .v (.v _)) .nil) (by decide) trivial
  · have h1' := h1
    replace h1' := of_decide_eq_true h1'
    refine tr_region rfl (.run [] [] rfl (st_move rfl) (.run [] [] rfl (st_len_str rfl rfl Try.underlying9) (.run [] [] rfl (st_eq (st_geq rfl rfl rfl) (congrArg (fun b => AV.p none (.v (.bool b))) h1)) (.run [] [] rfl (st_move rfl) (.run [] [] rfl (st_move rfl) (.run [] [] rfl (st_len_str rfl rfl Try.underlying9) (.run [] [] rfl (st_leq rfl rfl rfl) (.run [] [] rfl (st_pick (t := true) rfl rfl) (.run [] [] rfl (st_assign rfl) .nil))))))))) ?_
    refine tr_ret ?_
    exact ends [_] [] (.cons (.tmp (bool_eq (by simp only [isUser, h1, Bool.false_and, Bool.true_and]))) .nil) (.cons (.one .v (.v _)) .nil) (by decide) trivial
theorem isSlot_con (s : ByteArray) (n : Int) : Con Try.prog 37 [.one (.v (.string s)), .one (.v (.int .i64 n))] [] [.one (.v (.bool (isSlot s n)))] := by
  refine con_of_tr Try.func37 rfl rfl rfl rfl ?_
  refine tr_seq ?_
  refine tr_region rfl (.run [] [] rfl (st_assign rfl) .nil) ?_
  refine tr_seq ?_
  rcases bfc (isUser s) with h1 | h1
  · have h1' := h1
    refine tr_region rfl (.run [] [] rfl (st_move rfl) (.run [600] [] rfl (st_call rfl 600 (X := []) en56 rfl (.val nod) (.cons (.one (.bor .v)) .nil) (by decide) all_nil .nil (isUser_con s) rfl rfl (nle rfl)) (.run [] [] rfl (st_eq (st_move rfl) (congrArg (fun b => AV.p none (.v (.bool b))) h1)) (.not rfl (.not rfl (.run [] [] rfl (st_pick (t := false) rfl rfl) (.run [] [] rfl (st_assign rfl) .nil))))))) ?_
    refine tr_ret ?_
    exact ends [_] [] (.cons (.tmp (bool_eq (by simp only [isSlot, h1, Bool.false_and, Bool.true_and]))) .nil) (.cons (.one .v (.v _)) .nil) (by decide) trivial
  · have h1' := h1
    refine tr_region rfl (.run [] [] rfl (st_move rfl) (.run [600] [] rfl (st_call rfl 600 (X := []) en56 rfl (.val nod) (.cons (.one (.bor .v)) .nil) (by decide) all_nil .nil (isUser_con s) rfl rfl (nle rfl)) (.run [] [] rfl (st_eq (st_move rfl) (congrArg (fun b => AV.p none (.v (.bool b))) h1)) (.run [] [] rfl (st_move rfl) (.run [900] [] rfl (st_call rfl 900 (X := []) en36 rfl (.val nod) (.cons (.one (.bor .v)) (.cons (.one (.bor .v)) (.cons (.one (.bor .v)) .nil))) (by decide) all_nil .nil (within_con n 1 100000) rfl rfl (nle rfl)) (.run [] [] rfl (st_pick (t := true) rfl rfl) (.run [] [] rfl (st_assign rfl) .nil))))))) ?_
    refine tr_ret ?_
    exact ends [_] [] (.cons (.tmp (bool_eq (by simp only [isSlot, h1, Bool.false_and, Bool.true_and]))) .nil) (.cons (.one .v (.v _)) .nil) (by decide) trivial
theorem idle_con (s : Slot) : Con Try.prog 31 [.agg [.v (.string s.name), .v (.int .i64 s.size), .v (.int .i64 s.pins)]] [] [.one (.v (.bool (decide (s.pins = 0))))] := by
  refine con_of_tr Try.func31 rfl rfl rfl rfl ?_
  refine tr_seq ?_
  refine tr_region rfl (.run [] [1] rfl (st_box rfl 1 rfl rfl (by decide) rfl (by decide)) (.run [] [] rfl (st_assign rfl) .nil)) ?_
  refine tr_seq ?_
  refine tr_region rfl (.run [] [] rfl (st_faddr_box rfl rfl Try.underlying33 rfl Try.sizeOf2 (by decide)) (.run [] [] rfl (st_load_box1 rfl rfl rfl Try.isAgg2 rfl) (.run [] [] rfl (st_eql rfl rfl rfl) (.run [] [] rfl (st_assign rfl) .nil)))) ?_
  refine tr_ret ?_
  exact ends [_] [] (.cons (.tmp rfl) .nil) (.cons (.one .v (.v _)) .nil) (by decide) trivial
theorem used_con (m : Int) (l : List Slot) (hb : ∀ s ∈ l, 0 ≤ s.size ∧ s.size ≤ 100000) (hl : l.length ≤ 1000) : Con Try.prog 38 [.agg [.v (.int .i64 m), .sl false 3 (pvS l)]] [] [.one (.v (.int .i64 (usedF l)))] := by
  refine con_of_tr Try.func38 rfl rfl rfl rfl ?_
  refine tr_seq ?_
  refine tr_region rfl (.run [] [1] rfl (st_box rfl 1 rfl rfl (by decide) rfl (by decide)) (.run [] [] rfl (st_assign rfl) .nil)) ?_
  refine tr_seq ?_
  refine tr_region rfl (.run [] [] rfl (st_assign rfl) .nil) ?_
  refine tr_seq ?_
  refine tr_seq ?_
  refine tr_region rfl (.run [] [] rfl (st_faddr_box rfl rfl Try.underlying26 rfl Try.sizeOf24 (by decide)) (.run [] [] rfl (st_load_box1 rfl rfl rfl Try.isAgg24 rfl) (.run [] [] rfl (st_len_fro rfl rfl Try.underlying24) (.run [] [] rfl (st_move rfl) .nil)))) ?_
  refine tr_block ?_
  refine tr_loopS (σ := Nat) (fun i => mk [(0, .agg [.p none (.v (.int .i64 m)), .p none (.sl false 3 (pvS l))]), (1, .ptr 1 0), (2, .p none (.v (.int .i64 0))), (3, .p none (.v (.int .i64 (usedF (l.take i))))), (6, .ptr 1 1), (7, .p none (.sl false 3 (pvS l))), (8, .p none (.v (.int .i64 (((pvS l).length : Int))))), (9, .p none (.v (.int .i64 ((i:Int)))))] [(1, [.p none (.v (.int .i64 m)), .p none (.sl false 3 (pvS l))])] []) (fun i => i ≤ l.length) (fun i => l.length - i) 0 (by simp) (wk_mk ⟨rfl, ⟨rfl, ⟨rfl, ⟨rfl, ⟨rfl, ⟨rfl, ⟨rfl, ⟨rfl, trivial⟩⟩⟩⟩⟩⟩⟩⟩ ⟨rfl, trivial⟩ trivial rfl) ?_
  rintro i hG
  replace hG : i ≤ l.length := hG
  refine tr_seq ?_
  refine tr_region rfl (.run [] [] rfl (st_lss rfl rfl rfl) .nil) ?_
  refine tr_seq ?_
  refine tr_if (t := decide (((i:Int)) < (((pvS l).length : Int)))) rfl (fun h1 => ?_) (fun h1 => ?_)
  · skip
    replace h1 := of_decide_eq_true h1
    refine tr_skip ?_
    refine tr_seq ?_
    refine tr_block ?_
    refine tr_seq ?_
    obtain ⟨e, he⟩ : ∃ e, l[i]? = some e := ⟨_, List.getElem?_eq_getElem (by rw [pvS_length] at h1; omega)⟩
    have hs := hb e (List.mem_of_getElem? he)
    have hu := used_le hb i
    refine tr_region rfl (.run [] [] rfl (st_idx_fro rfl rfl rfl Try.underlying24 Try.sizeOf33 rfl (by omega) (pvS_get he)) (.run [] [] rfl (st_load_fea rfl rfl Try.isAgg33 Try.sizeOf33 (nle rfl)) (.run [] [5] rfl (st_allocZ rfl 5 inf33 rfl (by decide) rfl (by decide)) (.run [] [] rfl (st_store_box rfl rfl rfl rfl rfl Try.sizeOf33 rfl (nle rfl)) .nil)))) ?_
    refine tr_region rfl (.run [] [] rfl (st_move rfl) (.run [] [] rfl (st_faddr_box rfl rfl Try.underlying33 rfl Try.sizeOf2 (by decide)) (.run [] [] rfl (st_load_box1 rfl rfl rfl Try.isAgg2 rfl) (.run [] [] rfl (st_addn rfl rfl rfl (by omega)) (.run [] [] rfl (st_assign rfl) .nil))))) ?_
    refine tr_region rfl (.run [] [] rfl (st_addn rfl rfl rfl (by omega)) (.run [] [] rfl (st_move rfl) .nil)) ?_
    refine nxt (Q := fun _ _ => False) (z := i) (i + 1) ?_ ?_ ?_
    · show i + 1 ≤ l.length
      have := (List.getElem?_eq_some_iff.1 he).1; omega
    · show l.length - (i + 1) < l.length - i
      have := (List.getElem?_eq_some_iff.1 he).1; omega
    · exact wk_mk ⟨rfl, ⟨rfl, ⟨rfl, ⟨(int_eq (used_step he)), ⟨rfl, ⟨rfl, ⟨rfl, ⟨rfl, trivial⟩⟩⟩⟩⟩⟩⟩⟩ ⟨rfl, trivial⟩ trivial rfl
  · skip
    replace h1 := of_decide_eq_false h1
    refine tr_exit ?_
    refine tr_seq ?_
    refine tr_region rfl (.run [] [] rfl (st_move rfl) (.run [] [] rfl (st_assign rfl) .nil)) ?_
    refine tr_ret ?_
    exact ends [_] [] (.cons (.tmp (int_eq (used_all (by rw [pvS_length] at h1; omega)))) .nil) (.cons (.one .v (.v _)) .nil) (by decide) trivial
theorem findc_con (s : Slot) (name : ByteArray) : Con Try.prog 54 [.agg [.v (.string s.name), .v (.int .i64 s.size), .v (.int .i64 s.pins)], .fbox [.v (.string name)]] [] [.one (.v (.bool (decide (s.name = name))))] := by
  refine con_of_tr Try.func54 rfl rfl rfl rfl ?_
  refine tr_seq ?_
  refine tr_region rfl (.run [] [2] rfl (st_box rfl 2 rfl rfl (by decide) rfl (by decide)) (.run [] [] rfl (st_assign rfl) .nil)) ?_
  refine tr_seq ?_
  refine tr_region rfl (.run [] [] rfl (st_faddr_box rfl rfl Try.underlying33 rfl Try.sizeOf9 (by decide)) (.run [] [] rfl (st_load_box1 rfl rfl rfl Try.isAgg9 rfl) (.run [] [] rfl (st_load_fea1 rfl rfl Try.isAgg9 rfl) (.run [] [] rfl (st_seql rfl rfl rfl) (.run [] [] rfl (st_assign rfl) .nil))))) ?_
  refine tr_ret ?_
  exact ends [_] [] (.cons (.tmp rfl) .nil) (.cons (.one .v (.v _)) .nil) (by decide) trivial
theorem indexFunc_con (l : List Slot) (hl : l.length ≤ 2000000) (f : Nat) (pss : List (List PV)) (p : Slot → Bool) (hE : ∀ vs w, (callFunc f vs).run Try.prog w = .ok (.enter f vs) w) (hp : ∀ s ∈ l, Con Try.prog f ([.agg s.pv] ++ pss.map .fbox) [] [.one (.v (.bool (p s)))]) : Con Try.prog 53 [.one (.sl false 3 (pvS l)), .one (.clo f pss)] [] [.one (.v (.int .i64 (idxF p l)))] := by
  refine con_of_tr Try.func53 rfl rfl rfl rfl ?_
  refine tr_seq ?_
  refine tr_region rfl (.run [] [] rfl (st_assign rfl) .nil) ?_
  refine tr_seq ?_
  refine tr_seq ?_
  refine tr_region rfl (.run [] [] rfl (st_move rfl) (.run [] [] rfl (st_len_fro rfl rfl Try.underlying24) (.run [] [] rfl (st_move rfl) .nil))) ?_
  refine tr_block ?_
  refine tr_loopS (σ := Nat) (fun i => mk [(0, .p none (.sl false 3 (pvS l))), (1, .p none (.clo f pss)), (4, .p none (.v (.int .i64 0))), (6, .p none (.sl false 3 (pvS l))), (7, .p none (.v (.int .i64 (((pvS l).length : Int))))), (8, .p none (.v (.int .i64 ((i:Int)))))] [] []) (fun i => i ≤ l.length ∧ ∀ j e, j < i → l[j]? = some e → p e = false) (fun i => l.length - i) 0 ⟨Nat.zero_le _, fun _ _ h => absurd h (Nat.not_lt_zero _)⟩ (wk_mk ⟨rfl, ⟨rfl, ⟨rfl, ⟨rfl, ⟨rfl, ⟨rfl, trivial⟩⟩⟩⟩⟩⟩ trivial trivial rfl) ?_
  rintro i hG
  replace hG : i ≤ l.length ∧ ∀ j e, j < i → l[j]? = some e → p e = false := hG
  obtain ⟨hG, hG2⟩ := hG
  refine tr_seq ?_
  refine tr_region rfl (.run [] [] rfl (st_lss rfl rfl rfl) .nil) ?_
  refine tr_seq ?_
  refine tr_if (t := decide (((i:Int)) < (((pvS l).length : Int)))) rfl (fun h1 => ?_) (fun h1 => ?_)
  · skip
    replace h1 := of_decide_eq_true h1
    refine tr_skip ?_
    refine tr_seq ?_
    refine tr_block ?_
    refine tr_seq ?_
    obtain ⟨e, he⟩ : ∃ e, l[i]? = some e := ⟨_, List.getElem?_eq_getElem (by rw [pvS_length] at h1; omega)⟩
    refine tr_region rfl (.run [] [] rfl (st_move rfl) (.run [] [] rfl (st_assign rfl) .nil)) ?_
    refine tr_seq ?_
    refine tr_region rfl (.run [] [] rfl (st_move rfl) (.run [] [] rfl (st_move rfl) (.run [] [] rfl (st_move rfl) (.run [] [] rfl (st_idx_fro rfl rfl rfl Try.underlying24 Try.sizeOf33 rfl (by omega) (pvS_get he)) (.run [] [] rfl (st_load_fea rfl rfl Try.isAgg33 Try.sizeOf33 (nle rfl)) (.run [1600] [] rfl (st_call rfl 1600 (X := []) hE rfl (.val nod) (.cons (.agg (.cons (.bor .v) (.cons (.bor .v) (.cons (.bor .v) .nil)))) .nil) (by decide) all_nil .nil (hp e (List.mem_of_getElem? he)) rfl rfl (nle rfl)) .nil)))))) ?_
    refine tr_if (t := p e) rfl (fun h2 => ?_) (fun h2 => ?_)
    · skip
      refine tr_seq ?_
      refine tr_region rfl (.run [] [] rfl (st_move rfl) (.run [] [] rfl (st_assign rfl) .nil)) ?_
      refine tr_ret ?_
      exact ends [_] [] (.cons (.tmp (int_eq (idx_hit hG2 he h2).symm)) .nil) (.cons (.one .v (.v _)) .nil) (by decide) trivial
    · skip
      refine tr_skip ?_
      refine tr_region rfl (.run [] [] rfl (st_addn rfl rfl rfl (by omega)) (.run [] [] rfl (st_move rfl) .nil)) ?_
      refine nxt (Q := fun _ _ => False) (z := i) (i + 1) ?_ ?_ ?_
      · show i + 1 ≤ l.length ∧ ∀ j e, j < i + 1 → l[j]? = some e → p e = false
        exact ⟨by have := (List.getElem?_eq_some_iff.1 he).1; omega, idx_step hG2 he h2⟩
      · show l.length - (i + 1) < l.length - i
        have := (List.getElem?_eq_some_iff.1 he).1; omega
      · exact wk_mk ⟨rfl, ⟨rfl, ⟨rfl, ⟨rfl, ⟨rfl, ⟨rfl, trivial⟩⟩⟩⟩⟩⟩ trivial trivial rfl
  · skip
    replace h1 := of_decide_eq_false h1
    refine tr_exit ?_
    refine tr_seq ?_
    refine tr_region rfl (.run [] [] rfl (st_assign rfl) .nil) ?_
    refine tr_ret ?_
    exact ends [_] [] (.cons (.tmp (int_eq (idx_none (by rw [pvS_length] at h1; omega) hG2).symm)) .nil) (.cons (.one .v (.v _)) .nil) (by decide) trivial
theorem containsFunc_con (l : List Slot) (hl : l.length ≤ 2000000) (f : Nat) (pss : List (List PV)) (p : Slot → Bool) (hE : ∀ vs w, (callFunc f vs).run Try.prog w = .ok (.enter f vs) w) (hp : ∀ s ∈ l, Con Try.prog f ([.agg s.pv] ++ pss.map .fbox) [] [.one (.v (.bool (p s)))]) : Con Try.prog 39 [.one (.sl false 3 (pvS l)), .one (.clo f pss)] [] [.one (.v (.bool (l.any p)))] := by
  refine con_of_tr Try.func39 rfl rfl rfl rfl ?_
  refine tr_seq ?_
  refine tr_region rfl (.run [] [] rfl (st_assign rfl) .nil) ?_
  refine tr_seq ?_
  refine tr_region rfl (.run [] [] rfl (st_move rfl) (.run [] [] rfl (st_move rfl) (.run [700] [] rfl (st_call rfl 700 (X := []) en53 rfl (.val nod) (.cons (.one (.bor (.sl nod))) (.cons (.one (.bor (.cl nod))) .nil)) (by decide) all_nil .nil (indexFunc_con l hl f pss p hE hp) rfl rfl (nle rfl)) (.run [] [] rfl (st_geq rfl rfl rfl) (.run [] [] rfl (st_assign rfl) .nil))))) ?_
  refine tr_ret ?_
  exact ends [_] [] (.cons (.tmp (bool_eq (idx_any p l))) .nil) (.cons (.one .v (.v _)) .nil) (by decide) trivial
theorem find_con (m : Int) (l : List Slot) (name : ByteArray) (hl : l.length ≤ 2000000) : Con Try.prog 30 [.agg [.v (.int .i64 m), .sl false 3 (pvS l)], .one (.v (.string name))] [] [.one (.v (.int .i64 (idxF (fun s => decide (s.name = name)) l)))] := by
  refine con_of_tr Try.func30 rfl rfl rfl rfl ?_
  refine tr_seq ?_
  refine tr_region rfl (.run [] [2] rfl (st_box rfl 2 rfl rfl (by decide) rfl (by decide)) (.run [] [3] rfl (st_box rfl 3 rfl rfl (by decide) rfl (by decide)) (.run [] [] rfl (st_assign rfl) .nil))) ?_
  refine tr_seq ?_
  refine tr_region rfl (.run [] [] rfl (st_faddr_box rfl rfl Try.underlying26 rfl Try.sizeOf24 (by decide)) (.run [] [] rfl (st_load_box1 rfl rfl rfl Try.isAgg24 rfl) (.run [] [] rfl (st_func (bs := [3]) rfl rfl) (.run [800] [3] rfl (st_call rfl 800 (X := []) en53 rfl (.val nod) (.cons (.one (.bor (.sl nod))) (.cons (.one (.bor (.clo (.cons rfl (.cons .v .nil) .nil)))) .nil)) (by decide) all_nil .nil (indexFunc_con l hl 54 [[.v (.string name)]] (fun s => decide (s.name = name)) en54 (fun s _ => findc_con s name)) rfl rfl (nle rfl)) (.run [] [] rfl (st_assign rfl) .nil))))) ?_
  refine tr_ret ?_
  exact ends [_] [] (.cons (.tmp rfl) .nil) (.cons (.one .v (.v _)) .nil) (by decide) trivial
theorem clone_con (l : List Slot) (hl : l.length ≤ 2000000) : Con Try.prog 52 [.one (.sl false 3 (pvS l))] [] [.one (.sl true 3 (pvS l))] := by
  refine con_of_tr Try.func52 rfl rfl rfl rfl ?_
  refine tr_seq ?_
  refine tr_region rfl (.run [] [] rfl (st_assign rfl) .nil) ?_
  refine tr_seq ?_
  refine tr_seq ?_
  refine tr_region rfl (.run [] [] rfl (st_move rfl) (.run [] [] rfl (st_isnil (v := .slice none 0 0) rfl rfl (.inl ⟨_, _, _, _, rfl, rfl⟩) Try.underlying24) .nil)) ?_
  refine tr_ifs rfl (fun v h => ⟨_, h.choose_spec.1⟩) (fun h1 => ?_) (fun h1 => ?_)
  · replace h1 : (pvS l).length = 0 := by obtain ⟨b, e, h⟩ := h1; cases e; exact h rfl
    have hl0 : l = [] := List.eq_nil_of_length_eq_zero (by rw [pvS_length] at h1; exact h1)
    subst hl0
    refine tr_seq ?_
    refine tr_region rfl (.run [] [] rfl (st_assign rfl) .nil) ?_
    refine tr_ret ?_
    exact ends [_] [] (.cons (.tmp rfl) .nil) (.cons (.one (.nil _) (.sl _ _ (fun _ h => nomatch h))) .nil) (by decide) trivial
  · skip
    refine tr_skip ?_
    refine tr_seq ?_
    refine tr_region rfl (.run [500] [] rfl (st_buildSlice rfl 500 Try.underlying24 inf33 (nle rfl) (by decide) rfl rfl rfl .nil (by decide) rfl (by decide) rfl (by decide) rfl) (.run [] [] rfl (st_move rfl) (.run [500] [] rfl (st_append rfl 500 (ib := 500) (len := (([]) ++ (pvS l)).length) rfl rfl (.row (len := 0) (xs := []) rfl rfl (.inl rfl)) (.fro (pvS_flat _)) Try.underlying24 (sk Try.underlying24 rfl) inf33 rfl (by decide) (by decide) (by decide) List.length_append (by simp only [maxLen, List.length_append, List.length_map, List.length_cons, List.length_nil, pvS_length]; omega) (by simp only [maxLen, List.length_append, List.length_map, List.length_cons, List.length_nil, pvS_length]; omega)) (.run [] [] rfl (st_assign rfl) .nil)))) ?_
    refine tr_ret ?_
    exact ends [_] [500] (.cons (.tmp rfl) .nil) (.cons (.one (.row (len := (([]) ++ (pvS l)).length) (xs := ([]) ++ (pvS l)) rfl rfl) (.sl _ _ (FlatP.clean (pvS_flat l)))) .nil) (by decide) trivial
theorem copied_con (m : Int) (l : List Slot) (hl : l.length ≤ 2000000) : Con Try.prog 29 [.agg [.v (.int .i64 m), .sl false 3 (pvS l)]] [] [.agg [.v (.int .i64 m), .sl true 3 (pvS l)]] := by
  refine con_of_tr Try.func29 rfl rfl rfl rfl ?_
  refine tr_seq ?_
  refine tr_region rfl (.run [] [1] rfl (st_box rfl 1 rfl rfl (by decide) rfl (by decide)) (.run [] [2] rfl (st_allocZ rfl 2 inf26 rfl (by decide) rfl (by decide)) .nil)) ?_
  refine tr_seq ?_
  refine tr_regionD mixed rfl (.run [] [] rfl (st_faddr_box rfl rfl Try.underlying26 rfl Try.sizeOf2 (by decide)) (.run [] [] rfl (st_load_box1 rfl rfl rfl Try.isAgg2 rfl) (.run [] [] rfl (st_faddr_box rfl rfl Try.underlying26 rfl Try.sizeOf24 (by decide)) (.run [] [] rfl (st_load_box1 rfl rfl rfl Try.isAgg24 rfl) (.run [700] [] rfl (st_call rfl 700 (X := []) en52 rfl (.val nod) (.cons (.one (.bor (.sl nod))) .nil) (by decide) all_nil .nil (clone_con l (by omega)) rfl rfl (nle rfl)) (.run [] [] rfl (st_build (pl := [(0, 1), (1, 1)]) rfl Try.underlying26 inf26 (by kernel_rfl) rfl rfl) (.run [] [] rfl (st_store_box rfl rfl rfl rfl rfl Try.sizeOf26 rfl (nle rfl)) .nil))))))) (by kernel_rfl) ?_
  refine tr_ret ?_
  exact ends [_] [700] (.cons (.cell rfl rfl Try.isAgg26 Try.sizeOf26 (nle rfl)) .nil) (.cons (.agg (.cons .v (.cons (.row (len := (pvS l).length) (xs := pvS l) rfl rfl) .nil)) (cl_cons (.v _) (cl_cons (.sl _ _ (FlatP.clean ((pvS_flat l)))) cl_nil))) .nil) (by decide) trivial
theorem l11Copy_con (m : Int) (l : List Slot) (hl : l.length ≤ 2000000) : Con Try.prog 33 [.agg [.v (.int .i64 m), .sl false 3 (pvS l)]] [] [.agg [.v (.int .i64 m), .sl true 3 (pvS l)]] := by
  refine con_of_tr Try.func33 rfl rfl rfl rfl ?_
  refine tr_seq ?_
  refine tr_region rfl (.run [] [1] rfl (st_box rfl 1 rfl rfl (by decide) rfl (by decide)) (.run [] [2] rfl (st_allocZ rfl 2 inf26 rfl (by decide) rfl (by decide)) .nil)) ?_
  refine tr_seq ?_
  refine tr_regionD mixed rfl (.run [] [] rfl (st_faddr_box rfl rfl Try.underlying26 rfl Try.sizeOf2 (by decide)) (.run [] [] rfl (st_load_box1 rfl rfl rfl Try.isAgg2 rfl) (.run [500] [] rfl (st_buildSlice rfl 500 Try.underlying24 inf33 (nle rfl) (by decide) rfl rfl rfl .nil (by decide) rfl (by decide) rfl (by decide) rfl) (.run [] [] rfl (st_faddr_box rfl rfl Try.underlying26 rfl Try.sizeOf24 (by decide)) (.run [] [] rfl (st_load_box1 rfl rfl rfl Try.isAgg24 rfl) (.run [500] [] rfl (st_append rfl 500 (ib := 500) (len := (([]) ++ (pvS l)).length) rfl rfl (.row (len := 0) (xs := []) rfl rfl (.inl rfl)) (.fro (pvS_flat _)) Try.underlying24 (sk Try.underlying24 rfl) inf33 rfl (by decide) (by decide) (by decide) List.length_append (by simp only [maxLen, List.length_append, List.length_map, List.length_cons, List.length_nil, pvS_length]; omega) (by simp only [maxLen, List.length_append, List.length_map, List.length_cons, List.length_nil, pvS_length]; omega)) (.run [] [] rfl (st_build (pl := [(0, 1), (1, 1)]) rfl Try.underlying26 inf26 (by kernel_rfl) rfl rfl) (.run [] [] rfl (st_store_box rfl rfl rfl rfl rfl Try.sizeOf26 rfl (nle rfl)) .nil)))))))) (by kernel_rfl) ?_
  refine tr_ret ?_
  exact ends [_] [500] (.cons (.cell rfl rfl Try.isAgg26 Try.sizeOf26 (nle rfl)) .nil) (.cons (.agg (.cons .v (.cons (.row (len := (([]) ++ (pvS l)).length) (xs := ([]) ++ (pvS l)) rfl rfl) .nil)) (cl_cons (.v _) (cl_cons (.sl _ _ (FlatP.clean (pvS_flat l))) cl_nil))) .nil) (by decide) trivial
theorem l11Used_con (m : Int) (l : List Slot) (hb : ∀ s ∈ l, 0 ≤ s.size ∧ s.size ≤ 100000) (hl : l.length ≤ 1000) : Con Try.prog 55 [.agg [.v (.int .i64 m), .sl false 3 (pvS l)]] [] [.one (.v (.int .i64 (usedF l)))] := by
  refine con_of_tr Try.func55 rfl rfl rfl rfl ?_
  refine tr_seq ?_
  refine tr_region rfl (.run [] [1] rfl (st_box rfl 1 rfl rfl (by decide) rfl (by decide)) (.run [] [] rfl (st_assign rfl) .nil)) ?_
  refine tr_seq ?_
  refine tr_region rfl (.run [] [] rfl (st_assign rfl) .nil) ?_
  refine tr_seq ?_
  refine tr_seq ?_
  refine tr_region rfl (.run [] [] rfl (st_assign rfl) .nil) ?_
  refine tr_block ?_
  refine tr_loopS (σ := Nat) (fun i => mk [(0, .agg [.p none (.v (.int .i64 m)), .p none (.sl false 3 (pvS l))]), (1, .ptr 1 0), (2, .p none (.v (.int .i64 0))), (3, .p none (.v (.int .i64 (usedF (l.take i))))), (4, .p none (.v (.int .i64 ((i:Int)))))] [(1, [.p none (.v (.int .i64 m)), .p none (.sl false 3 (pvS l))])] []) (fun i => i ≤ l.length) (fun i => l.length - i) 0 (by simp) (wk_mk ⟨rfl, ⟨rfl, ⟨rfl, ⟨rfl, ⟨rfl, trivial⟩⟩⟩⟩⟩ ⟨rfl, trivial⟩ trivial rfl) ?_
  rintro i hG
  replace hG : i ≤ l.length := hG
  refine tr_seq ?_
  refine tr_seq ?_
  refine tr_region rfl (.run [] [] rfl (st_move rfl) (.run [] [] rfl (st_faddr_box rfl rfl Try.underlying26 rfl Try.sizeOf24 (by decide)) (.run [] [] rfl (st_load_box1 rfl rfl rfl Try.isAgg24 rfl) (.run [] [] rfl (st_len_fro rfl rfl Try.underlying24) (.run [] [] rfl (st_lss rfl rfl rfl) .nil))))) ?_
  refine tr_if (t := decide (((i:Int)) < (((pvS l).length : Int)))) rfl (fun h1 => ?_) (fun h1 => ?_)
  · skip
    replace h1 := of_decide_eq_true h1
    refine tr_skip ?_
    refine tr_seq ?_
    refine tr_block ?_
    obtain ⟨e, he⟩ : ∃ e, l[i]? = some e := ⟨_, List.getElem?_eq_getElem (by rw [pvS_length] at h1; omega)⟩
    have hs := hb e (List.mem_of_getElem? he)
    have hu := used_le hb i
    refine tr_region rfl (.run [] [] rfl (st_move rfl) (.run [] [] rfl (st_faddr_box rfl rfl Try.underlying26 rfl Try.sizeOf24 (by decide)) (.run [] [] rfl (st_load_box1 rfl rfl rfl Try.isAgg24 rfl) (.run [] [] rfl (st_move rfl) (.run [] [] rfl (st_idx_fro rfl rfl rfl Try.underlying24 Try.sizeOf33 rfl (by omega) (pvS_get he)) (.run [] [] rfl (st_faddr_fea rfl rfl Try.underlying33 rfl Try.sizeOf2 (by decide)) (.run [] [] rfl (st_load_fea1 rfl rfl Try.isAgg2 rfl) (.run [] [] rfl (st_addn rfl rfl rfl (by omega)) (.run [] [] rfl (st_assign rfl) .nil))))))))) ?_
    refine tr_region rfl (.run [] [] rfl (st_move rfl) (.run [] [] rfl (st_addn rfl rfl rfl (by omega)) (.run [] [] rfl (st_assign rfl) .nil))) ?_
    refine nxt (Q := fun _ _ => False) (z := i) (i + 1) ?_ ?_ ?_
    · show i + 1 ≤ l.length
      have := (List.getElem?_eq_some_iff.1 he).1; omega
    · show l.length - (i + 1) < l.length - i
      have := (List.getElem?_eq_some_iff.1 he).1; omega
    · exact wk_mk ⟨rfl, ⟨rfl, ⟨rfl, ⟨(int_eq (used_step he)), ⟨rfl, trivial⟩⟩⟩⟩⟩ ⟨rfl, trivial⟩ trivial rfl
  · skip
    replace h1 := of_decide_eq_false h1
    refine tr_exit ?_
    refine tr_seq ?_
    refine tr_region rfl (.run [] [] rfl (st_move rfl) (.run [] [] rfl (st_assign rfl) .nil)) ?_
    refine tr_ret ?_
    exact ends [_] [] (.cons (.tmp (int_eq (used_all (by rw [pvS_length] at h1; omega)))) .nil) (.cons (.one .v (.v _)) .nil) (by decide) trivial
theorem l11At_con (m : Int) (l : List Slot) (name : ByteArray) (hl : l.length ≤ 2000000) : Con Try.prog 34 [.agg [.v (.int .i64 m), .sl false 3 (pvS l)], .one (.v (.string name))] [] [.one (.v (.int .i64 (idxF (fun s => decide (s.name = name)) l)))] := by
  refine con_of_tr Try.func34 rfl rfl rfl rfl ?_
  refine tr_seq ?_
  refine tr_region rfl (.run [] [2] rfl (st_box rfl 2 rfl rfl (by decide) rfl (by decide)) (.run [] [] rfl (st_assign rfl) .nil)) ?_
  refine tr_seq ?_
  refine tr_seq ?_
  refine tr_region rfl (.run [] [] rfl (st_assign rfl) .nil) ?_
  refine tr_block ?_
  refine tr_loopS (σ := Nat) (fun i => mk [(0, .agg [.p none (.v (.int .i64 m)), .p none (.sl false 3 (pvS l))]), (1, .p none (.v (.string name))), (2, .ptr 2 0), (4, .p none (.v (.int .i64 0))), (5, .p none (.v (.int .i64 ((i:Int)))))] [(2, [.p none (.v (.int .i64 m)), .p none (.sl false 3 (pvS l))])] []) (fun i => i ≤ l.length ∧ ∀ j (e : Slot), j < i → l[j]? = some e → (fun s => decide (s.name = name)) e = false) (fun i => l.length - i) 0 ⟨Nat.zero_le _, fun _ _ h => absurd h (Nat.not_lt_zero _)⟩ (wk_mk ⟨rfl, ⟨rfl, ⟨rfl, ⟨rfl, ⟨rfl, trivial⟩⟩⟩⟩⟩ ⟨rfl, trivial⟩ trivial rfl) ?_
  rintro i hG
  replace hG : i ≤ l.length ∧ ∀ j (e : Slot), j < i → l[j]? = some e → (fun s => decide (s.name = name)) e = false := hG
  obtain ⟨hG, hG2⟩ := hG
  refine tr_seq ?_
  refine tr_seq ?_
  refine tr_region rfl (.run [] [] rfl (st_move rfl) (.run [] [] rfl (st_faddr_box rfl rfl Try.underlying26 rfl Try.sizeOf24 (by decide)) (.run [] [] rfl (st_load_box1 rfl rfl rfl Try.isAgg24 rfl) (.run [] [] rfl (st_len_fro rfl rfl Try.underlying24) (.run [] [] rfl (st_lss rfl rfl rfl) .nil))))) ?_
  refine tr_if (t := decide (((i:Int)) < (((pvS l).length : Int)))) rfl (fun h1 => ?_) (fun h1 => ?_)
  · skip
    replace h1 := of_decide_eq_true h1
    refine tr_skip ?_
    refine tr_seq ?_
    refine tr_block ?_
    refine tr_seq ?_
    obtain ⟨e, he⟩ : ∃ e, l[i]? = some e := ⟨_, List.getElem?_eq_getElem (by rw [pvS_length] at h1; omega)⟩
    refine tr_region rfl (.run [] [] rfl (st_faddr_box rfl rfl Try.underlying26 rfl Try.sizeOf24 (by decide)) (.run [] [] rfl (st_load_box1 rfl rfl rfl Try.isAgg24 rfl) (.run [] [] rfl (st_move rfl) (.run [] [] rfl (st_idx_fro rfl rfl rfl Try.underlying24 Try.sizeOf33 rfl (by omega) (pvS_get he)) (.run [] [] rfl (st_faddr_fea rfl rfl Try.underlying33 rfl Try.sizeOf9 (by decide)) (.run [] [] rfl (st_load_fea1 rfl rfl Try.isAgg9 rfl) (.run [] [] rfl (st_move rfl) (.run [] [] rfl (st_seql rfl rfl rfl) .nil)))))))) ?_
    refine tr_if (t := decide (e.name = name)) rfl (fun h2 => ?_) (fun h2 => ?_)
    · skip
      replace h2 := of_decide_eq_true h2
      refine tr_seq ?_
      refine tr_region rfl (.run [] [] rfl (st_move rfl) (.run [] [] rfl (st_assign rfl) .nil)) ?_
      refine tr_ret ?_
      exact ends [_] [] (.cons (.tmp (int_eq (idx_hit hG2 he (decide_eq_true h2)).symm)) .nil) (.cons (.one .v (.v _)) .nil) (by decide) trivial
    · skip
      replace h2 := of_decide_eq_false h2
      refine tr_skip ?_
      refine tr_region rfl (.run [] [] rfl (st_move rfl) (.run [] [] rfl (st_addn rfl rfl rfl (by omega)) (.run [] [] rfl (st_assign rfl) .nil))) ?_
      refine nxt (Q := fun _ _ => False) (z := i) (i + 1) ?_ ?_ ?_
      · show i + 1 ≤ l.length ∧ ∀ j (e : Slot), j < i + 1 → l[j]? = some e → (fun s => decide (s.name = name)) e = false
        exact ⟨by have := (List.getElem?_eq_some_iff.1 he).1; omega, idx_step hG2 he (decide_eq_false h2)⟩
      · show l.length - (i + 1) < l.length - i
        have := (List.getElem?_eq_some_iff.1 he).1; omega
      · exact wk_mk ⟨rfl, ⟨rfl, ⟨rfl, ⟨rfl, ⟨rfl, trivial⟩⟩⟩⟩⟩ ⟨rfl, trivial⟩ trivial rfl
  · skip
    replace h1 := of_decide_eq_false h1
    refine tr_exit ?_
    refine tr_seq ?_
    refine tr_region rfl (.run [] [] rfl (st_assign rfl) .nil) ?_
    refine tr_ret ?_
    exact ends [_] [] (.cons (.tmp (int_eq (idx_none (by rw [pvS_length] at h1; omega) hG2).symm)) .nil) (.cons (.one .v (.v _)) .nil) (by decide) trivial
theorem szSlot_con (s : Slot) (left : Int) (h0 : 0 ≤ left ∧ left ≤ 1048576) (hs : s.name.size ≤ 9223372036854775807) : Con Try.prog 57 [.agg [.v (.string s.name), .v (.int .i64 s.size), .v (.int .i64 s.pins)], .one (.v (.int .i64 left))] [] [.one (.v (.int .i64 (szSlotF s left)))] := by
  refine con_of_tr Try.func57 rfl rfl rfl rfl ?_
  refine tr_seq ?_
  refine tr_region rfl (.run [] [2] rfl (st_box rfl 2 rfl rfl (by decide) rfl (by decide)) (.run [] [] rfl (st_assign rfl) .nil)) ?_
  refine tr_seq ?_
  refine tr_region rfl (.run [] [] rfl (st_move rfl) (.run [] [] rfl (st_faddr_box rfl rfl Try.underlying75 rfl Try.sizeOf9 (by decide)) (.run [] [] rfl (st_load_box1 rfl rfl rfl Try.isAgg9 rfl) (.run [] [] rfl (st_len_str rfl rfl Try.underlying9) (.run [] [] rfl (st_subn rfl rfl rfl (by omega)) (.run [] [] rfl (st_assign rfl) .nil)))))) ?_
  refine tr_seq ?_
  refine tr_seq ?_
  refine tr_region rfl (.run [] [] rfl (st_move rfl) (.run [] [] rfl (st_lss rfl rfl rfl) .nil)) ?_
  refine tr_if (t := decide ((left - ((s.name.size : Int))) < 0)) rfl (fun h1 => ?_) (fun h1 => ?_)
  · skip
    replace h1 := of_decide_eq_true h1
    refine tr_seq ?_
    refine tr_region rfl (.run [] [] rfl (st_assign rfl) .nil) ?_
    refine tr_ret ?_
    exact ends [_] [] (.cons (.tmp (int_eq (by simp [szSlotF, h1]))) .nil) (.cons (.one .v (.v _)) .nil) (by decide) trivial
  · skip
    replace h1 := of_decide_eq_false h1
    refine tr_skip ?_
    refine tr_seq ?_
    refine tr_region rfl (.run [] [] rfl (st_move rfl) (.run [] [] rfl (st_assign rfl) .nil)) ?_
    refine tr_ret ?_
    exact ends [_] [] (.cons (.tmp (int_eq (by simp [szSlotF, h1]))) .nil) (.cons (.one .v (.v _)) .nil) (by decide) trivial
theorem szSlotS_con (l : List Slot) (left : Int) (h0 : 0 ≤ left ∧ left ≤ 1048576) (hl : l.length ≤ 9223372036854775807) (hn : ∀ s ∈ l, s.name.size ≤ 9223372036854775807) : Con Try.prog 40 [.one (.sl false 3 (pvS l)), .one (.v (.int .i64 left))] [] [.one (.v (.int .i64 (szSlotsF l left)))] := by
  refine con_of_tr Try.func40 rfl rfl rfl rfl ?_
  refine tr_seq ?_
  refine tr_region rfl (.run [] [] rfl (st_assign rfl) .nil) ?_
  refine tr_seq ?_
  refine tr_region rfl (.run [] [] rfl (st_move rfl) (.run [] [] rfl (st_move rfl) (.run [] [] rfl (st_len_fro rfl rfl Try.underlying36) (.run [] [] rfl (st_subn rfl rfl rfl (by rw [pvS_length]; omega)) (.run [] [] rfl (st_assign rfl) .nil))))) ?_
  refine tr_seq ?_
  refine tr_seq ?_
  refine tr_region rfl (.run [] [] rfl (st_move rfl) (.run [] [] rfl (st_lss rfl rfl rfl) .nil)) ?_
  refine tr_if (t := decide ((left - (((pvS l).length : Int))) < 0)) rfl (fun h1 => ?_) (fun h1 => ?_)
  · skip
    replace h1 := of_decide_eq_true h1
    refine tr_seq ?_
    refine tr_region rfl (.run [] [] rfl (st_assign rfl) .nil) ?_
    refine tr_ret ?_
    exact ends [_] [] (.cons (.tmp (int_eq (by rw [pvS_length] at h1; simp [szSlotsF, h1]))) .nil) (.cons (.one .v (.v _)) .nil) (by decide) trivial
  · skip
    replace h1 := of_decide_eq_false h1
    refine tr_skip ?_
    refine tr_seq ?_
    refine tr_seq ?_
    refine tr_region rfl (.run [] [] rfl (st_assign rfl) .nil) ?_
    refine tr_block ?_
    refine tr_loopS (σ := Nat × Int) (fun (i, x) => mk [(0, .p none (.sl false 3 (pvS l))), (1, .p none (.v (.int .i64 x))), (4, .p none (.v (.int .i64 0))), (5, .p none (.v (.int .i64 ((i:Int))))), (6, .p none (.v (.int .i64 left))), (7, .p none (.sl false 3 (pvS l))), (8, .p none (.v (.int .i64 (((pvS l).length : Int))))), (9, .p none (.v (.int .i64 (left - (((pvS l).length : Int)))))), (10, .p none (.v (.int .i64 (left - (((pvS l).length : Int)))))), (11, .p none (.v (.bool (decide ((left - (((pvS l).length : Int))) < 0)))))] [] []) (fun (i, x) => i ≤ l.length ∧ (0 ≤ x ∧ x ≤ 1048576) ∧ szSlotsF l left = szF (l.drop i) x) (fun (i, x) => l.length - i) ((0, left - ((pvS l).length : Int))) ⟨Nat.zero_le _, by rw [pvS_length] at h1 ⊢; omega, by rw [pvS_length] at h1 ⊢; simp [szSlotsF, h1]⟩ (wk_mk ⟨rfl, ⟨rfl, ⟨rfl, ⟨rfl, ⟨rfl, ⟨rfl, ⟨rfl, ⟨rfl, ⟨rfl, ⟨rfl, trivial⟩⟩⟩⟩⟩⟩⟩⟩⟩⟩ trivial trivial rfl) ?_
    rintro ⟨i, x⟩ hG
    replace hG : i ≤ l.length ∧ (0 ≤ x ∧ x ≤ 1048576) ∧ szSlotsF l left = szF (l.drop i) x := hG
    obtain ⟨hG, hG2, hG3⟩ := hG
    refine tr_seq ?_
    refine tr_seq ?_
    refine tr_region rfl (.run [] [] rfl (st_move rfl) (.run [] [] rfl (st_move rfl) (.run [] [] rfl (st_len_fro rfl rfl Try.underlying36) (.run [] [] rfl (st_lss rfl rfl rfl) .nil)))) ?_
    refine tr_if (t := decide (((i:Int)) < (((pvS l).length : Int)))) rfl (fun h2 => ?_) (fun h2 => ?_)
    · skip
      replace h2 := of_decide_eq_true h2
      refine tr_skip ?_
      refine tr_seq ?_
      refine tr_block ?_
      refine tr_seq ?_
      obtain ⟨e, he⟩ : ∃ e, l[i]? = some e := ⟨_, List.getElem?_eq_getElem (by rw [pvS_length] at h2; omega)⟩
      refine tr_region rfl (.run [] [] rfl (st_move rfl) (.run [] [] rfl (st_move rfl) (.run [] [] rfl (st_idx_fro rfl rfl rfl Try.underlying36 Try.sizeOf75 rfl (by omega) (pvS_get he)) (.run [] [] rfl (st_load_fea rfl rfl Try.isAgg75 Try.sizeOf75 (nle rfl)) (.run [] [] rfl (st_move rfl) (.run [2300] [] rfl (st_call rfl 2300 (X := []) en57 rfl (.val nod) (.cons (.agg (.cons (.bor .v) (.cons (.bor .v) (.cons (.bor .v) .nil)))) (.cons (.one (.bor .v)) .nil)) (by decide) all_nil .nil (szSlot_con e x hG2 (hn e (List.mem_of_getElem? he))) rfl rfl (nle rfl)) (.run [] [] rfl (st_assign rfl) .nil))))))) ?_
      refine tr_seq ?_
      refine tr_region rfl (.run [] [] rfl (st_move rfl) (.run [] [] rfl (st_lss rfl rfl rfl) .nil)) ?_
      refine tr_if (t := decide ((szSlotF e x) < 0)) rfl (fun h3 => ?_) (fun h3 => ?_)
      · skip
        replace h3 := of_decide_eq_true h3
        refine tr_seq ?_
        refine tr_region rfl (.run [] [] rfl (st_assign rfl) .nil) ?_
        refine tr_ret ?_
        exact ends [_] [] (.cons (.tmp (int_eq (by rw [hG3, sz_cons he]; rw [szSlotF] at h3; split at h3 <;> simp_all))) .nil) (.cons (.one .v (.v _)) .nil) (by decide) trivial
      · skip
        replace h3 := of_decide_eq_false h3
        refine tr_skip ?_
        refine tr_region rfl (.run [] [] rfl (st_move rfl) (.run [] [] rfl (st_addn rfl rfl rfl (by omega)) (.run [] [] rfl (st_assign rfl) .nil))) ?_
        refine nxt (Q := fun _ _ => False) (z := (i, x)) ((i + 1, szSlotF e x)) ?_ ?_ ?_
        · show i + 1 ≤ l.length ∧ (0 ≤ szSlotF e x ∧ szSlotF e x ≤ 1048576) ∧ szSlotsF l left = szF (l.drop (i + 1)) (szSlotF e x)
          exact ⟨by have := (List.getElem?_eq_some_iff.1 he).1; omega, sz_next he hG2 h3 hG3⟩
        · show l.length - (i + 1) < l.length - i
          have := (List.getElem?_eq_some_iff.1 he).1; omega
        · exact wk_mk ⟨rfl, ⟨rfl, ⟨rfl, ⟨rfl, ⟨rfl, ⟨rfl, ⟨rfl, ⟨rfl, ⟨rfl, ⟨rfl, trivial⟩⟩⟩⟩⟩⟩⟩⟩⟩⟩ trivial trivial rfl
    · skip
      replace h2 := of_decide_eq_false h2
      refine tr_exit ?_
      refine tr_seq ?_
      refine tr_region rfl (.run [] [] rfl (st_move rfl) (.run [] [] rfl (st_assign rfl) .nil)) ?_
      refine tr_ret ?_
      exact ends [_] [] (.cons (.tmp (int_eq (by rw [pvS_length] at h2; rw [hG3, List.drop_of_length_le (by omega)]; rfl))) .nil) (.cons (.one .v (.v _)) .nil) (by decide) trivial
theorem szCache_con (m : Int) (l : List Slot) (left : Int) (h0 : 0 ≤ left ∧ left ≤ 1048576) (hl : l.length ≤ 9223372036854775807) (hn : ∀ s ∈ l, s.name.size ≤ 9223372036854775807) : Con Try.prog 15 [.agg [.v (.int .i64 m), .sl false 3 (pvS l)], .one (.v (.int .i64 left))] [] [.one (.v (.int .i64 (if szSlotsF l left < 0 then -1 else szSlotsF l left)))] := by
  refine con_of_tr Try.func15 rfl rfl rfl rfl ?_
  refine tr_seq ?_
  refine tr_region rfl (.run [] [2] rfl (st_box rfl 2 rfl rfl (by decide) rfl (by decide)) (.run [] [] rfl (st_assign rfl) .nil)) ?_
  refine tr_seq ?_
  refine tr_region rfl (.run [] [] rfl (st_faddr_box rfl rfl Try.underlying38 rfl Try.sizeOf36 (by decide)) (.run [] [] rfl (st_load_box1 rfl rfl rfl Try.isAgg36 rfl) (.run [] [] rfl (st_move rfl) (.run [800] [] rfl (st_call rfl 800 (X := []) en40 rfl (.val nod) (.cons (.one (.bor (.sl nod))) (.cons (.one (.bor .v)) .nil)) (by decide) all_nil .nil (szSlotS_con l left h0 hl hn) rfl rfl (nle rfl)) (.run [] [] rfl (st_assign rfl) .nil))))) ?_
  refine tr_seq ?_
  refine tr_seq ?_
  refine tr_region rfl (.run [] [] rfl (st_move rfl) (.run [] [] rfl (st_lss rfl rfl rfl) .nil)) ?_
  refine tr_if (t := decide ((szSlotsF l left) < 0)) rfl (fun h1 => ?_) (fun h1 => ?_)
  · skip
    replace h1 := of_decide_eq_true h1
    refine tr_seq ?_
    refine tr_region rfl (.run [] [] rfl (st_assign rfl) .nil) ?_
    refine tr_ret ?_
    exact ends [_] [] (.cons (.tmp (int_eq (by simp [h1]))) .nil) (.cons (.one .v (.v _)) .nil) (by decide) trivial
  · skip
    replace h1 := of_decide_eq_false h1
    refine tr_skip ?_
    refine tr_seq ?_
    refine tr_region rfl (.run [] [] rfl (st_move rfl) (.run [] [] rfl (st_assign rfl) .nil)) ?_
    refine tr_ret ?_
    exact ends [_] [] (.cons (.tmp (int_eq (by simp [h1]))) .nil) (.cons (.one .v (.v _)) .nil) (by decide) trivial
theorem toSlot_con (s : Slot) : Con Try.prog 58 [.agg [.v (.string s.name), .v (.int .i64 s.size), .v (.int .i64 s.pins)]] [] [.agg [.v (.string s.name), .v (.int .i64 s.size), .v (.int .i64 s.pins)]] := by
  refine con_of_tr Try.func58 rfl rfl rfl rfl ?_
  refine tr_seq ?_
  refine tr_region rfl (.run [] [1] rfl (st_box rfl 1 rfl rfl (by decide) rfl (by decide)) (.run [] [2] rfl (st_allocZ rfl 2 inf33 rfl (by decide) rfl (by decide)) .nil)) ?_
  refine tr_seq ?_
  refine tr_region rfl (.run [] [3] rfl (st_allocZ rfl 3 inf33 rfl (by decide) rfl (by decide)) .nil) ?_
  refine tr_seq ?_
  refine tr_region rfl (.run [] [] rfl (st_faddr_box rfl rfl Try.underlying75 rfl Try.sizeOf9 (by decide)) (.run [] [] rfl (st_load_box1 rfl rfl rfl Try.isAgg9 rfl) (.run [] [] rfl (st_faddr_box rfl rfl Try.underlying33 rfl Try.sizeOf9 (by decide)) (.run [] [] rfl (st_store_box rfl rfl rfl rfl rfl Try.sizeOf9 rfl (nle rfl)) .nil)))) ?_
  refine tr_seq ?_
  refine tr_region rfl (.run [] [] rfl (st_faddr_box rfl rfl Try.underlying75 rfl Try.sizeOf2 (by decide)) (.run [] [] rfl (st_load_box1 rfl rfl rfl Try.isAgg2 rfl) (.run [] [] rfl (st_faddr_box rfl rfl Try.underlying33 rfl Try.sizeOf2 (by decide)) (.run [] [] rfl (st_store_box rfl rfl rfl rfl rfl Try.sizeOf2 rfl (nle rfl)) .nil)))) ?_
  refine tr_seq ?_
  refine tr_region rfl (.run [] [] rfl (st_faddr_box rfl rfl Try.underlying75 rfl Try.sizeOf2 (by decide)) (.run [] [] rfl (st_load_box1 rfl rfl rfl Try.isAgg2 rfl) (.run [] [] rfl (st_faddr_box rfl rfl Try.underlying33 rfl Try.sizeOf2 (by decide)) (.run [] [] rfl (st_store_box rfl rfl rfl rfl rfl Try.sizeOf2 rfl (nle rfl)) .nil)))) ?_
  refine tr_seq ?_
  refine tr_region rfl (.run [] [] rfl (st_load_box rfl rfl rfl Try.isAgg33 Try.sizeOf33 (nle rfl)) (.run [] [] rfl (st_store_box rfl rfl rfl rfl rfl Try.sizeOf33 rfl (nle rfl)) .nil)) ?_
  refine tr_ret ?_
  exact ends [_] [] (.cons (.cell rfl rfl Try.isAgg33 Try.sizeOf33 (nle rfl)) .nil) (.cons (.agg (.cons .v (.cons .v (.cons .v .nil))) (cl_cons (.v _) (cl_cons (.v _) (cl_cons (.v _) cl_nil)))) .nil) (by decide) trivial
theorem toSlotS_con (l : List Slot) (hl : l.length ≤ 1048576) : Con Try.prog 41 [.one (.sl false 3 (pvS l))] [] [.one (.sl true 3 (pvS l))] := by
  refine con_of_tr Try.func41 rfl rfl rfl rfl ?_
  refine tr_seq ?_
  refine tr_region rfl (.run [] [] rfl (st_assign rfl) .nil) ?_
  refine tr_seq ?_
  refine tr_region rfl (.run [] [] rfl (st_move rfl) (.run [] [] rfl (st_len_fro rfl rfl Try.underlying36) (.run [700] [] rfl (st_make rfl 700 (l := (pvS l).length) (c := (pvS l).length) rfl rfl Try.underlying24 inf33 rfl rfl (by decide) rfl (by decide) (Nat.le_refl _) (by rw [pvS_length]; omega) (by simp only [maxLen]; rw [pvS_length]; omega)) (.run [] [] rfl (st_assign rfl) .nil)))) ?_
  refine tr_seq ?_
  refine tr_seq ?_
  refine tr_region rfl (.run [] [] rfl (st_assign rfl) .nil) ?_
  refine tr_block ?_
  refine tr_loopS (σ := Nat) (fun i => mk [(0, .p none (.sl false 3 (pvS l))), (2, .nils), (3, .sl 700 0 ((pvS l).length)), (4, .p none (.v (.int .i64 ((i:Int))))), (5, .p none (.sl false 3 (pvS l))), (6, .p none (.v (.int .i64 (((pvS l).length : Int))))), (7, .sl 700 0 ((pvS l).length))] [] [(700, 3, pvS (l.take i) ++ List.replicate (l.length - i) zSlot)]) (fun i => i ≤ l.length) (fun i => l.length - i) 0 (by simp) (wk_mk ⟨rfl, ⟨rfl, ⟨rfl, ⟨rfl, ⟨rfl, ⟨rfl, ⟨rfl, trivial⟩⟩⟩⟩⟩⟩⟩ trivial ⟨(congrArg (fun x => some (3, x)) (to_zero l)), trivial⟩ rfl) ?_
  rintro i hG
  replace hG : i ≤ l.length := hG
  refine tr_seq ?_
  refine tr_seq ?_
  refine tr_region rfl (.run [] [] rfl (st_move rfl) (.run [] [] rfl (st_move rfl) (.run [] [] rfl (st_len_fro rfl rfl Try.underlying36) (.run [] [] rfl (st_lss rfl rfl rfl) .nil)))) ?_
  refine tr_if (t := decide (((i:Int)) < (((pvS l).length : Int)))) rfl (fun h1 => ?_) (fun h1 => ?_)
  · skip
    replace h1 := of_decide_eq_true h1
    refine tr_skip ?_
    refine tr_seq ?_
    refine tr_block ?_
    obtain ⟨e, he⟩ : ∃ e, l[i]? = some e := ⟨_, List.getElem?_eq_getElem (by rw [pvS_length] at h1; omega)⟩
    refine tr_region rfl (.run [] [] rfl (st_move rfl) (.run [] [] rfl (st_move rfl) (.run [] [] rfl (st_move rfl) (.run [] [] rfl (st_move rfl) (.run [] [] rfl (st_idx_fro rfl rfl rfl Try.underlying36 Try.sizeOf75 rfl (by omega) (pvS_get he)) (.run [] [] rfl (st_load_fea rfl rfl Try.isAgg75 Try.sizeOf75 (nle rfl)) (.run [2000, 2001, 2002] [] rfl (st_call rfl 2000 (X := []) en58 rfl (.val nod) (.cons (.agg (.cons (.bor .v) (.cons (.bor .v) (.cons (.bor .v) .nil)))) .nil) (by decide) all_nil .nil (toSlot_con e) rfl rfl (nle rfl)) (.run [] [] rfl (st_idx_row0 i rfl rfl rfl rfl Try.underlying24 Try.sizeOf33 rfl rfl (by rw [pvS_length]; exact (List.getElem?_eq_some_iff.1 he).1)) (.run [] [] rfl (st_store_row rfl rfl rfl (FlatP.nf to_flat) (to_get (List.getElem?_eq_some_iff.1 he).1) rfl rfl (.cons .v (.cons .v (.cons .v .nil))) Try.sizeOf33 rfl (nle rfl)) .nil))))))))) ?_
    refine tr_region rfl (.run [] [] rfl (st_move rfl) (.run [] [] rfl (st_addn rfl rfl rfl (by omega)) (.run [] [] rfl (st_assign rfl) .nil))) ?_
    refine nxt (Q := fun _ _ => False) (z := i) (i + 1) ?_ ?_ ?_
    · show i + 1 ≤ l.length
      have := (List.getElem?_eq_some_iff.1 he).1; omega
    · show l.length - (i + 1) < l.length - i
      have := (List.getElem?_eq_some_iff.1 he).1; omega
    · exact wk_mk ⟨rfl, ⟨rfl, ⟨rfl, ⟨rfl, ⟨rfl, ⟨rfl, ⟨rfl, trivial⟩⟩⟩⟩⟩⟩⟩ trivial ⟨(congrArg (fun x => some (3, x)) (to_step he)), trivial⟩ rfl
  · skip
    replace h1 := of_decide_eq_false h1
    refine tr_exit ?_
    refine tr_seq ?_
    refine tr_region rfl (.run [] [] rfl (st_move rfl) (.run [] [] rfl (st_assign rfl) .nil)) ?_
    refine tr_ret ?_
    exact ends [_] [700] (.cons (.tmp rfl) .nil) (.cons (.one (.row (len := (pvS l).length) (xs := pvS l) (congrArg (fun x => some (3, x)) (to_all (by rw [pvS_length] at h1; omega))) rfl) (.sl _ _ (FlatP.clean (pvS_flat l)))) .nil) (by decide) trivial
theorem eqSlot_con (a b : Slot) : Con Try.prog 59 [.agg [.v (.string a.name), .v (.int .i64 a.size), .v (.int .i64 a.pins)], .agg [.v (.string b.name), .v (.int .i64 b.size), .v (.int .i64 b.pins)]] [] [.one (.v (.bool (decide (a = b))))] := by
  refine con_of_tr Try.func59 rfl rfl rfl rfl ?_
  refine tr_seq ?_
  refine tr_region rfl (.run [] [2] rfl (st_box rfl 2 rfl rfl (by decide) rfl (by decide)) (.run [] [3] rfl (st_box rfl 3 rfl rfl (by decide) rfl (by decide)) (.run [] [] rfl (st_assign rfl) .nil))) ?_
  refine tr_seq ?_
  refine tr_seq ?_
  refine tr_region rfl (.run [] [] rfl (st_faddr_box rfl rfl Try.underlying33 rfl Try.sizeOf9 (by decide)) (.run [] [] rfl (st_load_box1 rfl rfl rfl Try.isAgg9 rfl) (.run [] [] rfl (st_faddr_box rfl rfl Try.underlying33 rfl Try.sizeOf9 (by decide)) (.run [] [] rfl (st_load_box1 rfl rfl rfl Try.isAgg9 rfl) (.run [] [] rfl (st_sneq rfl rfl rfl) .nil))))) ?_
  refine tr_if (t := (!(decide (a.name = b.name)))) rfl (fun h1 => ?_) (fun h1 => ?_)
  · skip
    replace h1 : ¬ (a.name = b.name) := by simpa using h1
    refine tr_seq ?_
    refine tr_region rfl (.run [] [] rfl (st_assign rfl) .nil) ?_
    refine tr_ret ?_
    exact ends [_] [] (.cons (.tmp (bool_eq (decide_eq_false (fun h => h1 (by rw [h]))).symm)) .nil) (.cons (.one .v (.v _)) .nil) (by decide) trivial
  · skip
    replace h1 : a.name = b.name := by simpa using h1
    refine tr_skip ?_
    refine tr_seq ?_
    refine tr_seq ?_
    refine tr_region rfl (.run [] [] rfl (st_faddr_box rfl rfl Try.underlying33 rfl Try.sizeOf2 (by decide)) (.run [] [] rfl (st_load_box1 rfl rfl rfl Try.isAgg2 rfl) (.run [] [] rfl (st_faddr_box rfl rfl Try.underlying33 rfl Try.sizeOf2 (by decide)) (.run [] [] rfl (st_load_box1 rfl rfl rfl Try.isAgg2 rfl) (.run [] [] rfl (st_neq rfl rfl rfl) .nil))))) ?_
    refine tr_if (t := (!(decide (a.size = b.size)))) rfl (fun h2 => ?_) (fun h2 => ?_)
    · skip
      replace h2 : ¬ (a.size = b.size) := by simpa using h2
      refine tr_seq ?_
      refine tr_region rfl (.run [] [] rfl (st_assign rfl) .nil) ?_
      refine tr_ret ?_
      exact ends [_] [] (.cons (.tmp (bool_eq (decide_eq_false (fun h => h2 (by rw [h]))).symm)) .nil) (.cons (.one .v (.v _)) .nil) (by decide) trivial
    · skip
      replace h2 : a.size = b.size := by simpa using h2
      refine tr_skip ?_
      refine tr_seq ?_
      refine tr_seq ?_
      refine tr_region rfl (.run [] [] rfl (st_faddr_box rfl rfl Try.underlying33 rfl Try.sizeOf2 (by decide)) (.run [] [] rfl (st_load_box1 rfl rfl rfl Try.isAgg2 rfl) (.run [] [] rfl (st_faddr_box rfl rfl Try.underlying33 rfl Try.sizeOf2 (by decide)) (.run [] [] rfl (st_load_box1 rfl rfl rfl Try.isAgg2 rfl) (.run [] [] rfl (st_neq rfl rfl rfl) .nil))))) ?_
      refine tr_if (t := (!(decide (a.pins = b.pins)))) rfl (fun h3 => ?_) (fun h3 => ?_)
      · skip
        replace h3 : ¬ (a.pins = b.pins) := by simpa using h3
        refine tr_seq ?_
        refine tr_region rfl (.run [] [] rfl (st_assign rfl) .nil) ?_
        refine tr_ret ?_
        exact ends [_] [] (.cons (.tmp (bool_eq (decide_eq_false (fun h => h3 (by rw [h]))).symm)) .nil) (.cons (.one .v (.v _)) .nil) (by decide) trivial
      · skip
        replace h3 : a.pins = b.pins := by simpa using h3
        refine tr_skip ?_
        refine tr_seq ?_
        refine tr_region rfl (.run [] [] rfl (st_assign rfl) .nil) ?_
        refine tr_ret ?_
        exact ends [_] [] (.cons (.tmp (bool_eq (decide_eq_true (slot_eq h1 h2 h3)).symm)) .nil) (.cons (.one .v (.v _)) .nil) (by decide) trivial
theorem eqSlotS_con (a b : List Slot) (hl : a.length ≤ 1000000000) : Con Try.prog 42 [.one (.sl false 3 (pvS a)), .one (.sl false 3 (pvS b))] [] [.one (.v (.bool (decide (a = b))))] := by
  refine con_of_tr Try.func42 rfl rfl rfl rfl ?_
  refine tr_seq ?_
  refine tr_region rfl (.run [] [] rfl (st_assign rfl) .nil) ?_
  refine tr_seq ?_
  refine tr_seq ?_
  refine tr_region rfl (.run [] [] rfl (st_move rfl) (.run [] [] rfl (st_len_fro rfl rfl Try.underlying24) (.run [] [] rfl (st_move rfl) (.run [] [] rfl (st_len_fro rfl rfl Try.underlying24) (.run [] [] rfl (st_neq rfl rfl rfl) .nil))))) ?_
  refine tr_if (t := (!(decide ((((pvS a).length : Int)) = (((pvS b).length : Int)))))) rfl (fun h1 => ?_) (fun h1 => ?_)
  · skip
    replace h1 : ¬ ((((pvS a).length : Int)) = (((pvS b).length : Int))) := by simpa using h1
    refine tr_seq ?_
    refine tr_region rfl (.run [] [] rfl (st_assign rfl) .nil) ?_
    refine tr_ret ?_
    exact ends [_] [] (.cons (.tmp (bool_eq (decide_eq_false (fun h => h1 (by rw [h]))).symm)) .nil) (.cons (.one .v (.v _)) .nil) (by decide) trivial
  · skip
    replace h1 : (((pvS a).length : Int)) = (((pvS b).length : Int)) := by simpa using h1
    refine tr_skip ?_
    refine tr_seq ?_
    refine tr_seq ?_
    refine tr_region rfl (.run [] [] rfl (st_assign rfl) .nil) ?_
    refine tr_block ?_
    refine tr_loopS (σ := Nat) (fun i => mk [(0, .p none (.sl false 3 (pvS a))), (1, .p none (.sl false 3 (pvS b))), (4, .p none (.v (.bool false))), (5, .p none (.v (.int .i64 ((i:Int))))), (6, .p none (.sl false 3 (pvS a))), (7, .p none (.v (.int .i64 (((pvS a).length : Int))))), (8, .p none (.sl false 3 (pvS b))), (9, .p none (.v (.int .i64 (((pvS b).length : Int))))), (10, .p none (.v (.bool ((!(decide ((((pvS a).length : Int)) = (((pvS b).length : Int)))))))))] [] []) (fun i => i ≤ a.length ∧ ∀ j, j < i → a[j]? = b[j]?) (fun i => a.length - i) 0 ⟨Nat.zero_le _, fun _ h => absurd h (Nat.not_lt_zero _)⟩ (wk_mk ⟨rfl, ⟨rfl, ⟨rfl, ⟨rfl, ⟨rfl, ⟨rfl, ⟨rfl, ⟨rfl, ⟨rfl, trivial⟩⟩⟩⟩⟩⟩⟩⟩⟩ trivial trivial rfl) ?_
    rintro i hG
    replace hG : i ≤ a.length ∧ ∀ j, j < i → a[j]? = b[j]? := hG
    obtain ⟨hG, hG2⟩ := hG
    refine tr_seq ?_
    refine tr_seq ?_
    refine tr_region rfl (.run [] [] rfl (st_move rfl) (.run [] [] rfl (st_move rfl) (.run [] [] rfl (st_len_fro rfl rfl Try.underlying24) (.run [] [] rfl (st_lss rfl rfl rfl) .nil)))) ?_
    refine tr_if (t := decide (((i:Int)) < (((pvS a).length : Int)))) rfl (fun h2 => ?_) (fun h2 => ?_)
    · skip
      replace h2 := of_decide_eq_true h2
      refine tr_skip ?_
      refine tr_seq ?_
      refine tr_block ?_
      refine tr_seq ?_
      obtain ⟨e1, he1⟩ : ∃ e, a[i]? = some e := ⟨_, List.getElem?_eq_getElem (by have hA := pvS_length a; have hB := pvS_length b; omega)⟩
      obtain ⟨e2, he2⟩ : ∃ e, b[i]? = some e := ⟨_, List.getElem?_eq_getElem (by have hA := pvS_length a; have hB := pvS_length b; omega)⟩
      refine tr_regionD mixed rfl (.run [] [] rfl (st_move rfl) (.run [] [] rfl (st_move rfl) (.run [] [] rfl (st_idx_fro rfl rfl rfl Try.underlying24 Try.sizeOf33 rfl (by omega) (pvS_get he1)) (.run [] [] rfl (st_load_fea rfl rfl Try.isAgg33 Try.sizeOf33 (nle rfl)) (.run [] [] rfl (st_move rfl) (.run [] [] rfl (st_move rfl) (.run [] [] rfl (st_idx_fro rfl rfl rfl Try.underlying24 Try.sizeOf33 rfl (by omega) (pvS_get he2)) (.run [] [] rfl (st_load_fea rfl rfl Try.isAgg33 Try.sizeOf33 (nle rfl)) (.run [2500] [] rfl (st_call rfl 2500 (X := []) en59 rfl (.val nod) (.cons (.agg (.cons (.bor .v) (.cons (.bor .v) (.cons (.bor .v) .nil)))) (.cons (.agg (.cons (.bor .v) (.cons (.bor .v) (.cons (.bor .v) .nil)))) .nil)) (by decide) all_nil .nil (eqSlot_con e1 e2) rfl rfl (nle rfl)) (.run [] [] rfl (st_not (b := decide (e1 = e2)) rfl rfl) .nil)))))))))) (by kernel_rfl) ?_
      refine tr_if (t := (!(decide (e1 = e2)))) rfl (fun h3 => ?_) (fun h3 => ?_)
      · skip
        replace h3 : ¬ (e1 = e2) := by simpa using h3
        refine tr_seq ?_
        refine tr_region rfl (.run [] [] rfl (st_assign rfl) .nil) ?_
        refine tr_ret ?_
        exact ends [_] [] (.cons (.tmp (bool_eq (decide_eq_false (list_ne he1 he2 h3)).symm)) .nil) (.cons (.one .v (.v _)) .nil) (by decide) trivial
      · skip
        replace h3 : e1 = e2 := by simpa using h3
        refine tr_skip ?_
        refine tr_region rfl (.run [] [] rfl (st_move rfl) (.run [] [] rfl (st_addn rfl rfl rfl (by omega)) (.run [] [] rfl (st_assign rfl) .nil))) ?_
        refine nxt (Q := fun _ _ => False) (z := i) (i + 1) ?_ ?_ ?_
        · show i + 1 ≤ a.length ∧ ∀ j, j < i + 1 → a[j]? = b[j]?
          exact ⟨by have := (List.getElem?_eq_some_iff.1 he1).1; omega, list_step hG2 he1 he2 h3⟩
        · show a.length - (i + 1) < a.length - i
          have := (List.getElem?_eq_some_iff.1 he1).1; omega
        · exact wk_mk ⟨rfl, ⟨rfl, ⟨rfl, ⟨rfl, ⟨rfl, ⟨rfl, ⟨rfl, ⟨rfl, ⟨rfl, trivial⟩⟩⟩⟩⟩⟩⟩⟩⟩ trivial trivial rfl
    · skip
      replace h2 := of_decide_eq_false h2
      refine tr_exit ?_
      refine tr_seq ?_
      refine tr_region rfl (.run [] [] rfl (st_assign rfl) .nil) ?_
      refine tr_ret ?_
      exact ends [_] [] (.cons (.tmp (bool_eq (decide_eq_true (list_all (by have hA := pvS_length a; have hB := pvS_length b; omega) (by have hA := pvS_length a; have hB := pvS_length b; omega) hG2)).symm)) .nil) (.cons (.one .v (.v _)) .nil) (by decide) trivial
theorem eqCache_con (m n : Int) (a b : List Slot) (hl : a.length ≤ 1000000000) : Con Try.prog 17 [.agg [.v (.int .i64 m), .sl false 3 (pvS a)], .agg [.v (.int .i64 n), .sl false 3 (pvS b)]] [] [.one (.v (.bool (decide (m = n) && decide (a = b))))] := by
  refine con_of_tr Try.func17 rfl rfl rfl rfl ?_
  refine tr_seq ?_
  refine tr_region rfl (.run [] [2] rfl (st_box rfl 2 rfl rfl (by decide) rfl (by decide)) (.run [] [3] rfl (st_box rfl 3 rfl rfl (by decide) rfl (by decide)) (.run [] [] rfl (st_assign rfl) .nil))) ?_
  refine tr_seq ?_
  refine tr_seq ?_
  refine tr_region rfl (.run [] [] rfl (st_faddr_box rfl rfl Try.underlying26 rfl Try.sizeOf2 (by decide)) (.run [] [] rfl (st_load_box1 rfl rfl rfl Try.isAgg2 rfl) (.run [] [] rfl (st_faddr_box rfl rfl Try.underlying26 rfl Try.sizeOf2 (by decide)) (.run [] [] rfl (st_load_box1 rfl rfl rfl Try.isAgg2 rfl) (.run [] [] rfl (st_neq rfl rfl rfl) .nil))))) ?_
  refine tr_if (t := (!(decide (m = n)))) rfl (fun h1 => ?_) (fun h1 => ?_)
  · skip
    replace h1 : ¬ (m = n) := by simpa using h1
    refine tr_seq ?_
    refine tr_region rfl (.run [] [] rfl (st_assign rfl) .nil) ?_
    refine tr_ret ?_
    exact ends [_] [] (.cons (.tmp (bool_eq (by simp_all))) .nil) (.cons (.one .v (.v _)) .nil) (by decide) trivial
  · skip
    replace h1 : m = n := by simpa using h1
    refine tr_skip ?_
    refine tr_seq ?_
    refine tr_seq ?_
    refine tr_region rfl (.run [] [] rfl (st_faddr_box rfl rfl Try.underlying26 rfl Try.sizeOf24 (by decide)) (.run [] [] rfl (st_load_box1 rfl rfl rfl Try.isAgg24 rfl) (.run [] [] rfl (st_faddr_box rfl rfl Try.underlying26 rfl Try.sizeOf24 (by decide)) (.run [] [] rfl (st_load_box1 rfl rfl rfl Try.isAgg24 rfl) (.run [1400] [] rfl (st_call rfl 1400 (X := []) en42 rfl (.val nod) (.cons (.one (.bor (.sl nod))) (.cons (.one (.bor (.sl nod))) .nil)) (by decide) all_nil .nil (eqSlotS_con a b hl) rfl rfl (nle rfl)) (.run [] [] rfl (st_not (b := decide (a = b)) rfl rfl) .nil)))))) ?_
    refine tr_if (t := (!(decide (a = b)))) rfl (fun h2 => ?_) (fun h2 => ?_)
    · skip
      replace h2 : ¬ (a = b) := by simpa using h2
      refine tr_seq ?_
      refine tr_region rfl (.run [] [] rfl (st_assign rfl) .nil) ?_
      refine tr_ret ?_
      exact ends [_] [] (.cons (.tmp (bool_eq (by simp_all))) .nil) (.cons (.one .v (.v _)) .nil) (by decide) trivial
    · skip
      replace h2 : a = b := by simpa using h2
      refine tr_skip ?_
      refine tr_seq ?_
      refine tr_region rfl (.run [] [] rfl (st_assign rfl) .nil) ?_
      refine tr_ret ?_
      exact ends [_] [] (.cons (.tmp (bool_eq (by simp_all))) .nil) (.cons (.one .v (.v _)) .nil) (by decide) trivial
theorem toCache_con (m : Int) (l : List Slot) (hl : l.length ≤ 1048576) : Con Try.prog 16 [.agg [.v (.int .i64 m), .sl false 3 (pvS l)]] [] [.agg [.v (.int .i64 m), .sl true 3 (pvS l)]] := by
  refine con_of_tr Try.func16 rfl rfl rfl rfl ?_
  refine tr_seq ?_
  refine tr_region rfl (.run [] [1] rfl (st_box rfl 1 rfl rfl (by decide) rfl (by decide)) (.run [] [2] rfl (st_allocZ rfl 2 inf26 rfl (by decide) rfl (by decide)) .nil)) ?_
  refine tr_seq ?_
  refine tr_region rfl (.run [] [3] rfl (st_allocZ rfl 3 inf26 rfl (by decide) rfl (by decide)) .nil) ?_
  refine tr_seq ?_
  refine tr_region rfl (.run [] [] rfl (st_faddr_box rfl rfl Try.underlying38 rfl Try.sizeOf2 (by decide)) (.run [] [] rfl (st_load_box1 rfl rfl rfl Try.isAgg2 rfl) (.run [] [] rfl (st_faddr_box rfl rfl Try.underlying26 rfl Try.sizeOf2 (by decide)) (.run [] [] rfl (st_store_box rfl rfl rfl rfl rfl Try.sizeOf2 rfl (nle rfl)) .nil)))) ?_
  refine tr_seq ?_
  refine tr_region rfl (.run [] [] rfl (st_faddr_box rfl rfl Try.underlying38 rfl Try.sizeOf36 (by decide)) (.run [] [] rfl (st_load_box1 rfl rfl rfl Try.isAgg36 rfl) (.run [900] [] rfl (st_call rfl 900 (X := []) en41 rfl (.val nod) (.cons (.one (.bor (.sl nod))) .nil) (by decide) all_nil .nil (toSlotS_con l hl) rfl rfl (nle rfl)) (.run [] [] rfl (st_faddr_box rfl rfl Try.underlying26 rfl Try.sizeOf24 (by decide)) (.run [] [] rfl (st_store_box rfl rfl rfl rfl rfl Try.sizeOf24 rfl (nle rfl)) .nil))))) ?_
  refine tr_seq ?_
  refine tr_region rfl (.run [] [] rfl (st_load_box rfl rfl rfl Try.isAgg26 Try.sizeOf26 (nle rfl)) (.run [] [] rfl (st_store_box rfl rfl rfl rfl rfl Try.sizeOf26 rfl (nle rfl)) .nil)) ?_
  refine tr_ret ?_
  exact ends [_] [900] (.cons (.cell rfl rfl Try.isAgg26 Try.sizeOf26 (nle rfl)) .nil) (.cons (.agg (.cons .v (.cons (.row (len := (pvS l).length) (xs := pvS l) rfl rfl) .nil)) (cl_cons (.v _) (cl_cons (.sl _ _ (FlatP.clean ((pvS_flat l)))) cl_nil))) .nil) (by decide) trivial
theorem markText_con (k : Nat) (hk : k ≤ 1099511627776) : Con Try.prog 60 [.one (.v (.int .i64 ((k:Int))))] [] [.one (.v (.string (markT k)))] := by
  refine con_of_tr Try.func60 rfl rfl rfl rfl ?_
  refine tr_seq ?_
  refine tr_region rfl (.run [] [] rfl (st_assign rfl) .nil) ?_
  refine tr_seq ?_
  refine tr_seq ?_
  refine tr_region rfl (.run [] [] rfl (st_move rfl) (.run [] [] rfl (st_leq rfl rfl rfl) .nil)) ?_
  refine tr_if (t := decide (((k:Int)) ≤ 0)) rfl (fun h1 => ?_) (fun h1 => ?_)
  · skip
    replace h1 := of_decide_eq_true h1
    refine tr_seq ?_
    refine tr_region rfl (.run [] [] rfl (st_assign rfl) .nil) ?_
    refine tr_ret ?_
    exact ends [_] [] (.cons (.tmp (str_eq (by simp [markT, show k = 0 by omega]))) .nil) (.cons (.one .v (.v _)) .nil) (by decide) trivial
  · skip
    replace h1 := of_decide_eq_false h1
    refine tr_skip ?_
    refine tr_seq ?_
    refine tr_region rfl (.run [] [] rfl (st_assign rfl) .nil) ?_
    refine tr_seq ?_
    refine tr_block ?_
    refine tr_loopS (σ := Nat × ByteArray × Nat) (fun (n, acc, f) => mk [(0, .p none (.v (.int .i64 ((n:Int))))), (2, .p none (.v (.string (⟨#[]⟩)))), (3, .p none (.v (.string acc)))] [] []) (fun (n, acc, f) => n ≤ f ∧ n + acc.size ≤ k ∧ dig k k ⟨#[]⟩ = dig f n acc) (fun (n, acc, f) => n) ((k, ⟨#[]⟩, k)) ⟨Nat.le_refl _, Nat.le_refl _, rfl⟩ (wk_mk ⟨rfl, ⟨rfl, ⟨rfl, trivial⟩⟩⟩ trivial trivial rfl) ?_
    rintro ⟨n, acc, f⟩ hG
    replace hG : n ≤ f ∧ n + acc.size ≤ k ∧ dig k k ⟨#[]⟩ = dig f n acc := hG
    obtain ⟨hG, hG2, hG3⟩ := hG
    refine tr_seq ?_
    refine tr_seq ?_
    refine tr_region rfl (.run [] [] rfl (st_move rfl) (.run [] [] rfl (st_gtr rfl rfl rfl) .nil)) ?_
    refine tr_if (t := decide (0 < ((n:Int)))) rfl (fun h2 => ?_) (fun h2 => ?_)
    · skip
      replace h2 := of_decide_eq_true h2
      refine tr_skip ?_
      refine tr_block ?_
      refine tr_seq ?_
      refine tr_region rfl (.run [] [] rfl (st_move rfl) (.run [] [] rfl (st_rem rfl rfl rfl (by decide)) (.run [] [] rfl (st_addn rfl rfl rfl (by have h1 := Int.tmod_lt_of_pos (n : Int) (show (0:Int) < 10 by decide); have h2 := Int.tmod_nonneg 10 (show (0:Int) ≤ (n:Int) by omega); omega)) (.run [] [] rfl (st_conv rfl rfl Try.underlying3 Try.underlying5) (.run [1200] [] rfl (st_buildSlice rfl 1200 Try.underlying22 inf5 (nle rfl) (by decide) rfl rfl rfl (.cons .v .nil) (by decide) rfl (by decide) rfl (by decide) rfl) (.run [] [] rfl (st_strN [IntKind.u8.wrap (48 + (n:Int).tmod 10)] rfl rfl (.give (len := 1) (xs := [[.v (.int .u8 (IntKind.u8.wrap (48 + (((n:Int)).tmod 10))))]]) rfl rfl) rfl rfl Try.underlying22 Try.underlying9 Try.underlying5) (.run [] [] rfl (st_move rfl) (.run [] [] rfl (st_sadd rfl rfl rfl (by rw [strOf_one]; omega)) (.run [] [] rfl (st_assign rfl) .nil))))))))) ?_
      refine tr_region rfl (.run [] [] rfl (st_move rfl) (.run [] [] rfl (st_quo rfl rfl rfl (by decide)) (.run [] [] rfl (st_assign rfl) .nil))) ?_
      refine nxt (Q := fun _ _ => False) (z := (n, acc, f)) ((n / 10, strOf [IntKind.u8.wrap (48 + (n:Int).tmod 10)] ++ acc, f - 1)) ?_ ?_ ?_
      · show (n / 10) ≤ (f - 1) ∧ (n / 10) + (strOf [IntKind.u8.wrap (48 + (n:Int).tmod 10)] ++ acc).size ≤ k ∧ dig k k ⟨#[]⟩ = dig (f - 1) (n / 10) (strOf [IntKind.u8.wrap (48 + (n:Int).tmod 10)] ++ acc)
        exact ⟨by omega, by rw [size_app, strOf_one]; omega, dig_next hG hG3 (by omega)⟩
      · show n / 10 < n
        omega
      · exact wk_mk ⟨(int_eq (quo_nat n (by omega))), ⟨rfl, ⟨rfl, trivial⟩⟩⟩ trivial trivial rfl
    · skip
      replace h2 := of_decide_eq_false h2
      refine tr_exit ?_
      refine tr_seq ?_
      refine tr_region rfl (.run [] [] rfl (st_move rfl) (.run [] [] rfl (st_sadd rfl rfl rfl (by have hz : (⟨#[109]⟩ : ByteArray).size = 1 := rfl; omega)) (.run [] [] rfl (st_assign rfl) .nil))) ?_
      refine tr_ret ?_
      exact ends [_] [] (.cons (.tmp (str_eq (by rw [markT, if_neg (by omega), hG3, show n = 0 by omega, dig_zero]))) .nil) (.cons (.one .v (.v _)) .nil) (by decide) trivial
theorem markSlotS_con (l : List Slot) (k : Nat) (hk : k + 3 * l.length ≤ 1099511627776) : Con Try.prog 43 [.one (.sl true 3 (pvS l)), .one (.v (.int .i64 ((k:Int))))] [some (pvS (marks k l.length))] [.one (.v (.int .i64 (((k + 3 * l.length : Nat) : Int))))] := by
  refine con_of_tr Try.func43 rfl rfl rfl rfl ?_
  refine tr_seq ?_
  refine tr_region rfl (.run [] [] rfl (st_assign rfl) .nil) ?_
  refine tr_seq ?_
  refine tr_seq ?_
  refine tr_region rfl (.run [] [] rfl (st_assign rfl) .nil) ?_
  refine tr_block ?_
  refine tr_loopS (σ := Nat) (fun i => mk [(0, .sl 100000 0 ((pvS l).length)), (1, .p none (.v (.int .i64 (((k + 3 * i : Nat) : Int))))), (4, .p none (.v (.int .i64 0))), (5, .p none (.v (.int .i64 ((i:Int)))))] [] [(100000, 3, pvS (marks k i ++ l.drop i))]) (fun i => i ≤ l.length) (fun i => l.length - i) 0 (by simp) (wk_mk ⟨rfl, ⟨(int_eq (by omega)), ⟨rfl, ⟨rfl, trivial⟩⟩⟩⟩ trivial ⟨rfl, trivial⟩ rfl) ?_
  rintro i hG
  replace hG : i ≤ l.length := hG
  refine tr_seq ?_
  refine tr_seq ?_
  refine tr_region rfl (.run [] [] rfl (st_move rfl) (.run [] [] rfl (st_move rfl) (.run [] [] rfl (st_len_row rfl rfl Try.underlying24) (.run [] [] rfl (st_lss rfl rfl rfl) .nil)))) ?_
  refine tr_if (t := decide (((i:Int)) < (((pvS l).length : Int)))) rfl (fun h1 => ?_) (fun h1 => ?_)
  · skip
    replace h1 := of_decide_eq_true h1
    refine tr_skip ?_
    refine tr_seq ?_
    refine tr_block ?_
    refine tr_seq ?_
    obtain ⟨e, he⟩ : ∃ e, l[i]? = some e := ⟨_, List.getElem?_eq_getElem (by rw [pvS_length] at h1; omega)⟩
    have hlt := (List.getElem?_eq_some_iff.1 he).1
    refine tr_region rfl (.run [] [] rfl (st_move rfl) (.run [] [] rfl (st_move rfl) (.run [] [] rfl (st_move rfl) (.run [1500] [] rfl (st_call rfl 1500 (X := []) en60 rfl (.val nod) (.cons (.one (.bor .v)) .nil) (by decide) all_nil .nil (markText_con (k + 3 * i) (by omega)) rfl rfl (nle rfl)) (.run [] [] rfl (st_idx_row0 i rfl rfl rfl rfl Try.underlying24 Try.sizeOf33 rfl rfl (by rw [pvS_length]; exact hlt)) (.run [] [] rfl (st_faddr_ea rfl rfl Try.underlying33 rfl Try.sizeOf9 (by decide)) (.run [] [] rfl (st_store_row rfl rfl rfl (FlatP.nf ((pvS_flat _))) (mc_get he) rfl rfl (.cons .v .nil) Try.sizeOf9 rfl (nle rfl)) .nil))))))) ?_
    refine tr_seq ?_
    refine tr_region rfl (.run [] [] rfl (st_move rfl) (.run [] [] rfl (st_addn rfl rfl rfl (by omega)) (.run [] [] rfl (st_assign rfl) .nil))) ?_
    refine tr_seq ?_
    refine tr_region rfl (.run [] [] rfl (st_move rfl) (.run [] [] rfl (st_move rfl) (.run [] [] rfl (st_move rfl) (.run [] [] rfl (st_idx_row0 i rfl rfl rfl rfl Try.underlying24 Try.sizeOf33 rfl rfl (by rw [pvS_length]; exact hlt)) (.run [] [] rfl (st_faddr_ea rfl rfl Try.underlying33 rfl Try.sizeOf2 (by decide)) (.run [] [] rfl (st_store_row rfl rfl rfl (FlatP.nf ((FlatP.set (i := i) (cs := [.v (.string (markT (k + 3 * i))), .v (.int .i64 e.size), .v (.int .i64 e.pins)]) ((pvS_flat _)) rfl))) (set_self (b := [.v (.string (markT (k + 3 * i))), .v (.int .i64 e.size), .v (.int .i64 e.pins)]) (mc_get he)) rfl rfl (.cons .v .nil) Try.sizeOf2 rfl (nle rfl)) .nil)))))) ?_
    refine tr_seq ?_
    refine tr_region rfl (.run [] [] rfl (st_move rfl) (.run [] [] rfl (st_addn rfl rfl rfl (by omega)) (.run [] [] rfl (st_assign rfl) .nil))) ?_
    refine tr_seq ?_
    refine tr_region rfl (.run [] [] rfl (st_move rfl) (.run [] [] rfl (st_move rfl) (.run [] [] rfl (st_move rfl) (.run [] [] rfl (st_idx_row0 i rfl rfl rfl rfl Try.underlying24 Try.sizeOf33 rfl rfl (by rw [pvS_length]; exact hlt)) (.run [] [] rfl (st_faddr_ea rfl rfl Try.underlying33 rfl Try.sizeOf2 (by decide)) (.run [] [] rfl (st_store_row rfl rfl rfl (FlatP.nf ((FlatP.set (i := i) (cs := [.v (.string (markT (k + 3 * i))), .v (.int .i64 ((((k + 3 * i : Nat) : Int)) + 1)), .v (.int .i64 e.pins)]) ((FlatP.set (i := i) (cs := [.v (.string (markT (k + 3 * i))), .v (.int .i64 e.size), .v (.int .i64 e.pins)]) ((pvS_flat _)) rfl)) rfl))) (set_self (b := [.v (.string (markT (k + 3 * i))), .v (.int .i64 ((((k + 3 * i : Nat) : Int)) + 1)), .v (.int .i64 e.pins)]) (set_self (b := [.v (.string (markT (k + 3 * i))), .v (.int .i64 e.size), .v (.int .i64 e.pins)]) (mc_get he))) rfl rfl (.cons .v .nil) Try.sizeOf2 rfl (nle rfl)) .nil)))))) ?_
    refine tr_region rfl (.run [] [] rfl (st_move rfl) (.run [] [] rfl (st_addn rfl rfl rfl (by omega)) (.run [] [] rfl (st_assign rfl) .nil))) ?_
    refine tr_region rfl (.run [] [] rfl (st_move rfl) (.run [] [] rfl (st_addn rfl rfl rfl (by omega)) (.run [] [] rfl (st_assign rfl) .nil))) ?_
    refine nxt (Q := fun _ _ => False) (z := i) (i + 1) ?_ ?_ ?_
    · show i + 1 ≤ l.length
      omega
    · show l.length - (i + 1) < l.length - i
      omega
    · exact wk_mk ⟨rfl, ⟨(int_eq (by omega)), ⟨rfl, ⟨rfl, trivial⟩⟩⟩⟩ trivial ⟨(congrArg (fun x => some (3, x)) (by rw [List.set_set, List.set_set]; exact mc_step he)), trivial⟩ rfl
  · skip
    replace h1 := of_decide_eq_false h1
    refine tr_exit ?_
    refine tr_seq ?_
    refine tr_region rfl (.run [] [] rfl (st_move rfl) (.run [] [] rfl (st_assign rfl) .nil)) ?_
    refine tr_ret ?_
    exact ends [_] [] (.cons (.tmp (int_eq (by rw [pvS_length] at h1; omega))) .nil) (.cons (.one .v (.v _)) .nil) (by decide) (outs1 (congrArg (fun x => some (3, x)) (congrArg pvS (mc_all (by rw [pvS_length] at h1; omega) hG))) (pvS_flat _) (by decide))
theorem markCache_con (m : Int) (l : List Slot) (k : Nat) (hk : k + 3 * l.length ≤ 1099511627776) : Con Try.prog 18 [.agg [.v (.int .i64 m), .sl true 3 (pvS l)], .one (.v (.int .i64 ((k:Int))))] [some (pvS (marks k l.length))] [.one (.v (.int .i64 (((k + 3 * l.length : Nat) : Int))))] := by
  refine con_of_tr Try.func18 rfl rfl rfl rfl ?_
  refine tr_seq ?_
  refine tr_region rfl (.run [] [2] rfl (st_box rfl 2 rfl rfl (by decide) rfl (by decide)) (.run [] [] rfl (st_assign rfl) .nil)) ?_
  refine tr_seq ?_
  refine tr_region rfl (.run [] [] rfl (st_faddr_box rfl rfl Try.underlying26 rfl Try.sizeOf24 (by decide)) (.run [] [] rfl (st_load_box1 rfl rfl rfl Try.isAgg24 rfl) (.run [] [] rfl (st_move rfl) (.run [100001, 800] [] rfl (st_call rfl 800 (X := [100001]) en43 rfl (.val nod) (.cons (.one (.own (len := (pvS l).length) (xs := pvS l) rfl rfl)) (.cons (.one (.bor .v)) .nil)) (by decide) (all_cons rfl all_nil) (.keep (xs := pvS l) rfl (FlatP.nf (pvS_flat l)) .nil) (markSlotS_con l k hk) rfl rfl (nle rfl)) (.run [] [] rfl (st_assign rfl) .nil))))) ?_
  refine tr_seq ?_
  refine tr_region rfl (.run [] [] rfl (st_move rfl) (.run [] [] rfl (st_assign rfl) .nil)) ?_
  refine tr_ret ?_
  exact ends [_] [] (.cons (.tmp rfl) .nil) (.cons (.one .v (.v _)) .nil) (by decide) (outs1 rfl (pvS_flat _) (by decide))
theorem heldSlotS_con (l : List Slot) (k : Nat) (hk : k + 3 * l.length ≤ 1099511627776) : Con Try.prog 44 [.one (.sl false 3 (pvS l)), .one (.v (.int .i64 ((k:Int))))] [] [.one (.v (.int .i64 (heldF k l)))] := by
  refine con_of_tr Try.func44 rfl rfl rfl rfl ?_
  refine tr_seq ?_
  refine tr_region rfl (.run [] [] rfl (st_assign rfl) .nil) ?_
  refine tr_seq ?_
  refine tr_seq ?_
  refine tr_region rfl (.run [] [] rfl (st_assign rfl) .nil) ?_
  refine tr_block ?_
  refine tr_loopS (σ := Nat) (fun i => mk [(0, .p none (.sl false 3 (pvS l))), (1, .p none (.v (.int .i64 (((k + 3 * i : Nat) : Int))))), (4, .p none (.v (.int .i64 0))), (5, .p none (.v (.int .i64 ((i:Int)))))] [] []) (fun i => i ≤ l.length ∧ ∀ j (e : Slot), j < i → l[j]? = some e → e = markS k j) (fun i => l.length - i) 0 ⟨Nat.zero_le _, fun _ _ h => absurd h (Nat.not_lt_zero _)⟩ (wk_mk ⟨rfl, ⟨(int_eq (by omega)), ⟨rfl, ⟨rfl, trivial⟩⟩⟩⟩ trivial trivial rfl) ?_
  rintro i hG
  replace hG : i ≤ l.length ∧ ∀ j (e : Slot), j < i → l[j]? = some e → e = markS k j := hG
  obtain ⟨hG, hG2⟩ := hG
  refine tr_seq ?_
  refine tr_seq ?_
  refine tr_region rfl (.run [] [] rfl (st_move rfl) (.run [] [] rfl (st_move rfl) (.run [] [] rfl (st_len_fro rfl rfl Try.underlying24) (.run [] [] rfl (st_lss rfl rfl rfl) .nil)))) ?_
  refine tr_if (t := decide (((i:Int)) < (((pvS l).length : Int)))) rfl (fun h1 => ?_) (fun h1 => ?_)
  · skip
    replace h1 := of_decide_eq_true h1
    refine tr_skip ?_
    refine tr_seq ?_
    refine tr_block ?_
    refine tr_seq ?_
    refine tr_seq ?_
    obtain ⟨e, he⟩ : ∃ e, l[i]? = some e := ⟨_, List.getElem?_eq_getElem (by rw [pvS_length] at h1; omega)⟩
    have hlt := (List.getElem?_eq_some_iff.1 he).1
    refine tr_regionD mixed rfl (.run [] [] rfl (st_move rfl) (.run [] [] rfl (st_move rfl) (.run [] [] rfl (st_idx_fro rfl rfl rfl Try.underlying24 Try.sizeOf33 rfl (by omega) (pvS_get he)) (.run [] [] rfl (st_faddr_fea rfl rfl Try.underlying33 rfl Try.sizeOf9 (by decide)) (.run [] [] rfl (st_load_fea1 rfl rfl Try.isAgg9 rfl) (.run [] [] rfl (st_move rfl) (.run [1800] [] rfl (st_call rfl 1800 (X := []) en60 rfl (.val nod) (.cons (.one (.bor .v)) .nil) (by decide) all_nil .nil (markText_con (k + 3 * i) (by omega)) rfl rfl (nle rfl)) (.run [] [] rfl (st_sneq rfl rfl rfl) .nil)))))))) (by kernel_rfl) ?_
    refine tr_if (t := (!(decide (e.name = (markT (k + 3 * i)))))) rfl (fun h2 => ?_) (fun h2 => ?_)
    · skip
      replace h2 : ¬ (e.name = (markT (k + 3 * i))) := by simpa using h2
      refine tr_seq ?_
      refine tr_region rfl (.run [] [] rfl (st_assign rfl) .nil) ?_
      refine tr_ret ?_
      exact ends [_] [] (.cons (.tmp (int_eq (by rw [heldF, if_neg (held_ne he (fun h => h2 (by rw [h]; rfl)))]))) .nil) (.cons (.one .v (.v _)) .nil) (by decide) trivial
    · skip
      replace h2 : e.name = (markT (k + 3 * i)) := by simpa using h2
      refine tr_skip ?_
      refine tr_seq ?_
      refine tr_region rfl (.run [] [] rfl (st_move rfl) (.run [] [] rfl (st_addn rfl rfl rfl (by omega)) (.run [] [] rfl (st_assign rfl) .nil))) ?_
      refine tr_seq ?_
      refine tr_seq ?_
      refine tr_region rfl (.run [] [] rfl (st_move rfl) (.run [] [] rfl (st_move rfl) (.run [] [] rfl (st_idx_fro rfl rfl rfl Try.underlying24 Try.sizeOf33 rfl (by omega) (pvS_get he)) (.run [] [] rfl (st_faddr_fea rfl rfl Try.underlying33 rfl Try.sizeOf2 (by decide)) (.run [] [] rfl (st_load_fea1 rfl rfl Try.isAgg2 rfl) (.run [] [] rfl (st_move rfl) (.run [] [] rfl (st_neq rfl rfl rfl) .nil))))))) ?_
      refine tr_if (t := (!(decide (e.size = ((((k + 3 * i : Nat) : Int)) + 1))))) rfl (fun h3 => ?_) (fun h3 => ?_)
      · skip
        replace h3 : ¬ (e.size = ((((k + 3 * i : Nat) : Int)) + 1)) := by simpa using h3
        refine tr_seq ?_
        refine tr_region rfl (.run [] [] rfl (st_assign rfl) .nil) ?_
        refine tr_ret ?_
        exact ends [_] [] (.cons (.tmp (int_eq (by rw [heldF, if_neg (held_ne he (fun h => h3 (by rw [h]; rfl)))]))) .nil) (.cons (.one .v (.v _)) .nil) (by decide) trivial
      · skip
        replace h3 : e.size = ((((k + 3 * i : Nat) : Int)) + 1) := by simpa using h3
        refine tr_skip ?_
        refine tr_seq ?_
        refine tr_region rfl (.run [] [] rfl (st_move rfl) (.run [] [] rfl (st_addn rfl rfl rfl (by omega)) (.run [] [] rfl (st_assign rfl) .nil))) ?_
        refine tr_seq ?_
        refine tr_seq ?_
        refine tr_region rfl (.run [] [] rfl (st_move rfl) (.run [] [] rfl (st_move rfl) (.run [] [] rfl (st_idx_fro rfl rfl rfl Try.underlying24 Try.sizeOf33 rfl (by omega) (pvS_get he)) (.run [] [] rfl (st_faddr_fea rfl rfl Try.underlying33 rfl Try.sizeOf2 (by decide)) (.run [] [] rfl (st_load_fea1 rfl rfl Try.isAgg2 rfl) (.run [] [] rfl (st_move rfl) (.run [] [] rfl (st_neq rfl rfl rfl) .nil))))))) ?_
        refine tr_if (t := (!(decide (e.pins = (((((k + 3 * i : Nat) : Int)) + 1) + 1))))) rfl (fun h4 => ?_) (fun h4 => ?_)
        · skip
          replace h4 : ¬ (e.pins = (((((k + 3 * i : Nat) : Int)) + 1) + 1)) := by simpa using h4
          refine tr_seq ?_
          refine tr_region rfl (.run [] [] rfl (st_assign rfl) .nil) ?_
          refine tr_ret ?_
          exact ends [_] [] (.cons (.tmp (int_eq (by rw [heldF, if_neg (held_ne he (fun h => h4 (by rw [h]; rfl)))]))) .nil) (.cons (.one .v (.v _)) .nil) (by decide) trivial
        · skip
          replace h4 : e.pins = (((((k + 3 * i : Nat) : Int)) + 1) + 1) := by simpa using h4
          refine tr_skip ?_
          refine tr_region rfl (.run [] [] rfl (st_move rfl) (.run [] [] rfl (st_addn rfl rfl rfl (by omega)) (.run [] [] rfl (st_assign rfl) .nil))) ?_
          refine tr_region rfl (.run [] [] rfl (st_move rfl) (.run [] [] rfl (st_addn rfl rfl rfl (by omega)) (.run [] [] rfl (st_assign rfl) .nil))) ?_
          refine nxt (Q := fun _ _ => False) (z := i) (i + 1) ?_ ?_ ?_
          · show i + 1 ≤ l.length ∧ ∀ j (e : Slot), j < i + 1 → l[j]? = some e → e = markS k j
            exact ⟨by omega, held_step hG2 he h2 h3 h4⟩
          · show l.length - (i + 1) < l.length - i
            omega
          · exact wk_mk ⟨rfl, ⟨(int_eq (by omega)), ⟨rfl, ⟨rfl, trivial⟩⟩⟩⟩ trivial trivial rfl
  · skip
    replace h1 := of_decide_eq_false h1
    refine tr_exit ?_
    refine tr_seq ?_
    refine tr_region rfl (.run [] [] rfl (st_move rfl) (.run [] [] rfl (st_assign rfl) .nil)) ?_
    refine tr_ret ?_
    exact ends [_] [] (.cons (.tmp (int_eq (by rw [heldF, if_pos (held_all (by rw [pvS_length] at h1; omega) hG2)]; rw [pvS_length] at h1; omega))) .nil) (.cons (.one .v (.v _)) .nil) (by decide) trivial
theorem heldCache_con (m : Int) (l : List Slot) (k : Nat) (hk : k + 3 * l.length ≤ 1099511627776) : Con Try.prog 19 [.agg [.v (.int .i64 m), .sl false 3 (pvS l)], .one (.v (.int .i64 ((k:Int))))] [] [.one (.v (.int .i64 (heldF k l)))] := by
  refine con_of_tr Try.func19 rfl rfl rfl rfl ?_
  refine tr_seq ?_
  refine tr_region rfl (.run [] [2] rfl (st_box rfl 2 rfl rfl (by decide) rfl (by decide)) (.run [] [] rfl (st_assign rfl) .nil)) ?_
  refine tr_seq ?_
  refine tr_region rfl (.run [] [] rfl (st_faddr_box rfl rfl Try.underlying26 rfl Try.sizeOf24 (by decide)) (.run [] [] rfl (st_load_box1 rfl rfl rfl Try.isAgg24 rfl) (.run [] [] rfl (st_move rfl) (.run [800] [] rfl (st_call rfl 800 (X := []) en44 rfl (.val nod) (.cons (.one (.bor (.sl nod))) (.cons (.one (.bor .v)) .nil)) (by decide) all_nil .nil (heldSlotS_con l k hk) rfl rfl (nle rfl)) (.run [] [] rfl (st_assign rfl) .nil))))) ?_
  refine tr_seq ?_
  refine tr_seq ?_
  refine tr_region rfl (.run [] [] rfl (st_move rfl) (.run [] [] rfl (st_lss rfl rfl rfl) .nil)) ?_
  refine tr_if (t := decide ((heldF k l) < 0)) rfl (fun h1 => ?_) (fun h1 => ?_)
  · skip
    replace h1 := of_decide_eq_true h1
    refine tr_seq ?_
    refine tr_region rfl (.run [] [] rfl (st_assign rfl) .nil) ?_
    refine tr_ret ?_
    exact ends [_] [] (.cons (.tmp (int_eq (held_neg h1).symm)) .nil) (.cons (.one .v (.v _)) .nil) (by decide) trivial
  · skip
    replace h1 := of_decide_eq_false h1
    refine tr_skip ?_
    refine tr_seq ?_
    refine tr_region rfl (.run [] [] rfl (st_move rfl) (.run [] [] rfl (st_assign rfl) .nil)) ?_
    refine tr_ret ?_
    exact ends [_] [] (.cons (.tmp rfl) .nil) (.cons (.one .v (.v _)) .nil) (by decide) trivial
theorem delete_con (l : List Slot) (k : Nat) (hk : k < l.length) (hl : l.length ≤ 2000000) : Con Try.prog 46 [.one (.sl true 3 (pvS l)), .one (.v (.int .i64 ((k:Int)))), .one (.v (.int .i64 ((k:Int) + 1)))] [none] [.one (.sl true 3 (pvS (l.eraseIdx k)))] := by
  refine con_of_tr Try.func46 rfl rfl rfl rfl ?_
  refine tr_seq ?_
  refine tr_region rfl (.run [] [] rfl (st_assign rfl) .nil) ?_
  refine tr_seq ?_
  refine tr_region rfl (.run [] [] rfl (st_move rfl) (.run [] [] rfl (st_move rfl) (.run [] [] rfl (st_move rfl) (.run [] [] rfl (st_move rfl) (.run [] [] rfl (st_len_row rfl rfl Try.underlying24) (.run [] [] rfl (st_cut3 (l := k) (h := k + 1) (m := (pvS l).length) rfl rfl rfl rfl rfl rfl rfl rfl Try.underlying24 Try.sizeOf33 (by omega) (by rw [pvS_length]; omega) (Nat.le_refl _)) .nil)))))) ?_
  refine tr_seq ?_
  refine tr_seq ?_
  refine tr_region rfl (.run [] [] rfl (st_move rfl) (.run [] [] rfl (st_move rfl) (.run [] [] rfl (st_eql rfl rfl rfl) .nil))) ?_
  refine tr_if (t := decide (((k:Int)) = ((k:Int) + 1))) rfl (fun h1 => ?_) (fun h1 => ?_)
  · skip
    replace h1 := of_decide_eq_true h1
    omega
  · skip
    replace h1 := of_decide_eq_false h1
    refine tr_skip ?_
    refine tr_seq ?_
    refine tr_region rfl (.run [] [] rfl (st_move rfl) (.run [] [] rfl (st_len_row rfl rfl Try.underlying24) (.run [] [] rfl (st_assign rfl) .nil))) ?_
    refine tr_seq ?_
    refine tr_regionD mixed rfl (.run [] [] rfl (st_move rfl) (.run [] [] rfl (st_move rfl) (.run [] [] rfl (st_cut_row0 (l := 0) (h := k) rfl rfl rfl Try.underlying24 Try.sizeOf33 .no (.at_ rfl rfl) (Nat.zero_le _) (by rw [pvS_length]; omega) rfl) (.run [] [] rfl (st_move rfl) (.run [] [] rfl (st_move rfl) (.run [] [] rfl (st_cut_row0 (l := k + 1) (h := (pvS l).length) rfl rfl rfl Try.underlying24 Try.sizeOf33 (.at_ rfl rfl) .no (by rw [pvS_length]; omega) (Nat.le_refl _) rfl) (.run [] [] rfl (st_append_in (q := k) (m := k + 1) (len := (k + ((pvS l).length - (k + 1)))) (xs := pvS l) rfl rfl rfl rfl (pvS_flat l) Try.underlying24 Try.underlying24 inf33 (by omega) (by rw [pvS_length]; omega) (.inr (by omega)) rfl) (.run [] [] rfl (st_assign rfl) .nil)))))))) (by kernel_rfl) ?_
    refine tr_seq ?_
    refine tr_region rfl (.run [] [] rfl (st_move rfl) (.run [] [] rfl (st_move rfl) (.run [] [] rfl (st_len_row rfl rfl Try.underlying24) (.run [] [] rfl (st_move rfl) (.run [] [] rfl (st_cut_ext (l := (k + ((pvS l).length - (k + 1)))) (h := (pvS l).length) rfl rfl rfl rfl rfl rfl rfl Try.underlying24 Try.sizeOf33 (by rw [pvS_length]; omega) (by rw [del_len (by omega), pvS_length]; omega) rfl) (.run [] [] rfl (st_clear (lo := (k + ((pvS l).length - (k + 1)))) (len := (pvS l).length - (k + ((pvS l).length - (k + 1)))) rfl rfl rfl del_flat Try.underlying24 inf33 rfl rfl (by rw [del_len (by omega), pvS_length]; omega)) .nil)))))) ?_
    refine tr_seq ?_
    refine tr_region rfl (.run [] [] rfl (st_move rfl) (.run [] [] rfl (st_assign rfl) .nil)) ?_
    refine tr_ret ?_
    exact ends [_] [100000] (.cons (.tmp rfl) .nil) (.cons (.one (gv_eq (.pre (len := (k + ((pvS l).length - (k + 1)))) (xs := ((pvS l).take k ++ (pvS l).drop (k + 1) ++ (pvS l).drop (k + ((pvS l).length - (k + 1)))).take (k + ((pvS l).length - (k + 1))) ++ List.replicate ((pvS l).length - (k + ((pvS l).length - (k + 1)))) zSlot) rfl (del_le (by omega)) del_flat2) (congrArg (PV.sl true 3) (del_eq (by omega)))) (.sl _ _ (FlatP.clean (pvS_flat _)))) .nil) (by decide) ⟨trivial, trivial⟩
theorem cacheOk_con (m : Int) (l : List Slot) (hl : l.length ≤ 2000000) : Con Try.prog 13 [.agg [.v (.int .i64 m), .sl false 3 (pvS l)]] [] [.one (.v (.bool (okC m l)))] := by
  refine con_of_tr Try.func13 rfl rfl rfl rfl ?_
  refine tr_seq ?_
  refine tr_region rfl (.run [] [1] rfl (st_box rfl 1 rfl rfl (by decide) rfl (by decide)) (.run [] [] rfl (st_assign rfl) .nil)) ?_
  refine tr_seq ?_
  refine tr_seq ?_
  rcases bfc ((!(within m 0 100000))) with h1 | h1
  · have h1' := h1
    replace h1' : within m 0 100000 = true := by simpa using h1'
    refine tr_region rfl (.run [] [] rfl (st_faddr_box rfl rfl Try.underlying26 rfl Try.sizeOf2 (by decide)) (.run [] [] rfl (st_load_box1 rfl rfl rfl Try.isAgg2 rfl) (.run [700] [] rfl (st_call rfl 700 (X := []) en36 rfl (.val nod) (.cons (.one (.bor .v)) (.cons (.one (.bor .v)) (.cons (.one (.bor .v)) .nil))) (by decide) all_nil .nil (within_con m 0 100000) rfl rfl (nle rfl)) (.run [] [] rfl (st_eq (st_not (b := within m 0 100000) rfl rfl) (congrArg (fun b => AV.p none (.v (.bool b))) h1)) (.run [] [] rfl (st_move rfl) (.run [] [] rfl (st_faddr_box rfl rfl Try.underlying26 rfl Try.sizeOf24 (by decide)) (.run [] [] rfl (st_load_box1 rfl rfl rfl Try.isAgg24 rfl) (.run [] [] rfl (st_len_fro rfl rfl Try.underlying24) (.run [] [] rfl (st_gtr rfl rfl rfl) (.run [] [] rfl (st_pick (t := false) rfl rfl) .nil)))))))))) ?_
    refine tr_if (t := decide (40 < (((pvS l).length : Int)))) rfl (fun h2 => ?_) (fun h2 => ?_)
    · skip
      replace h2 := of_decide_eq_true h2
      refine tr_seq ?_
      refine tr_region rfl (.run [] [] rfl (st_assign rfl) .nil) ?_
      refine tr_ret ?_
      exact ends [_] [] (.cons (.tmp (bool_eq (by rw [pvS_length] at h2; simp [okC, show ¬ l.length ≤ 40 by omega]))) .nil) (.cons (.one .v (.v _)) .nil) (by decide) trivial
    · skip
      replace h2 := of_decide_eq_false h2
      refine tr_skip ?_
      refine tr_seq ?_
      refine tr_seq ?_
      refine tr_region rfl (.run [] [] rfl (st_faddr_box rfl rfl Try.underlying26 rfl Try.sizeOf24 (by decide)) (.run [] [] rfl (st_load_box1 rfl rfl rfl Try.isAgg24 rfl) (.run [] [] rfl (st_len_fro rfl rfl Try.underlying24) (.run [] [] rfl (st_move rfl) .nil)))) ?_
      refine tr_block ?_
      refine tr_loopS (σ := Nat) (fun i => mk [(0, .agg [.p none (.v (.int .i64 m)), .p none (.sl false 3 (pvS l))]), (1, .ptr 1 0), (2, .p none (.v (.bool false))), (5, .ptr 1 0), (6, .p none (.v (.int .i64 m))), (7, .p none (.v (.bool (within m 0 100000)))), (8, .p none (.v (.bool false))), (9, .p none (.v (.bool false))), (10, .ptr 1 1), (11, .p none (.sl false 3 (pvS l))), (12, .p none (.v (.int .i64 (((pvS l).length : Int))))), (13, .p none (.v (.bool (decide (40 < (((pvS l).length : Int))))))), (14, .p none (.v (.bool (decide (40 < (((pvS l).length : Int))))))), (15, .ptr 1 1), (16, .p none (.sl false 3 (pvS l))), (17, .p none (.v (.int .i64 (((pvS l).length : Int))))), (18, .p none (.v (.int .i64 ((i:Int)))))] [(1, [.p none (.v (.int .i64 m)), .p none (.sl false 3 (pvS l))])] []) (fun i => i ≤ l.length ∧ ∀ j e, j < i → l[j]? = some e → okSlot l j e = true) (fun i => l.length - i) 0 ⟨Nat.zero_le _, fun _ _ h => absurd h (Nat.not_lt_zero _)⟩ (wk_mk ⟨rfl, ⟨rfl, ⟨rfl, ⟨rfl, ⟨rfl, ⟨rfl, ⟨rfl, ⟨rfl, ⟨rfl, ⟨rfl, ⟨rfl, ⟨rfl, ⟨rfl, ⟨rfl, ⟨rfl, ⟨rfl, ⟨rfl, trivial⟩⟩⟩⟩⟩⟩⟩⟩⟩⟩⟩⟩⟩⟩⟩⟩⟩ ⟨rfl, trivial⟩ trivial rfl) ?_
      rintro i hG
      replace hG : i ≤ l.length ∧ ∀ j e, j < i → l[j]? = some e → okSlot l j e = true := hG
      obtain ⟨hG, hG2⟩ := hG
      refine tr_seq ?_
      refine tr_region rfl (.run [] [] rfl (st_lss rfl rfl rfl) .nil) ?_
      refine tr_seq ?_
      refine tr_if (t := decide (((i:Int)) < (((pvS l).length : Int)))) rfl (fun h3 => ?_) (fun h3 => ?_)
      · skip
        replace h3 := of_decide_eq_true h3
        refine tr_skip ?_
        refine tr_seq ?_
        refine tr_block ?_
        refine tr_seq ?_
        obtain ⟨e, he⟩ : ∃ e, l[i]? = some e := ⟨_, List.getElem?_eq_getElem (by rw [pvS_length] at h3; omega)⟩
        refine tr_region rfl (.run [] [] rfl (st_move rfl) (.run [] [] rfl (st_idx_fro rfl rfl rfl Try.underlying24 Try.sizeOf33 rfl (by omega) (pvS_get he)) (.run [] [] rfl (st_load_fea rfl rfl Try.isAgg33 Try.sizeOf33 (nle rfl)) (.run [] [4] rfl (st_allocZ rfl 4 inf33 rfl (by decide) rfl (by decide)) (.run [] [] rfl (st_assign rfl) (.run [] [] rfl (st_store_box rfl rfl rfl rfl rfl Try.sizeOf33 rfl (nle rfl)) .nil)))))) ?_
        refine tr_seq ?_
        rcases bfc ((!(isSlot e.name e.size))) with h4 | h4
        · have h4' := h4
          replace h4' : isSlot e.name e.size = true := by simpa using h4'
          rcases bfc ((!(within e.pins 0 100000))) with h5 | h5
          · have h5' := h5
            replace h5' : within e.pins 0 100000 = true := by simpa using h5'
            refine tr_region rfl (.run [] [] rfl (st_faddr_box rfl rfl Try.underlying33 rfl Try.sizeOf9 (by decide)) (.run [] [] rfl (st_load_box1 rfl rfl rfl Try.isAgg9 rfl) (.run [] [] rfl (st_faddr_box rfl rfl Try.underlying33 rfl Try.sizeOf2 (by decide)) (.run [] [] rfl (st_load_box1 rfl rfl rfl Try.isAgg2 rfl) (.run [2700] [] rfl (st_call rfl 2700 (X := []) en37 rfl (.val nod) (.cons (.one (.bor .v)) (.cons (.one (.bor .v)) .nil)) (by decide) all_nil .nil (isSlot_con e.name e.size) rfl rfl (nle rfl)) (.run [] [] rfl (st_eq (st_not (b := isSlot e.name e.size) rfl rfl) (congrArg (fun b => AV.p none (.v (.bool b))) h4)) (.run [] [] rfl (st_move rfl) (.run [] [] rfl (st_faddr_box rfl rfl Try.underlying33 rfl Try.sizeOf2 (by decide)) (.run [] [] rfl (st_load_box1 rfl rfl rfl Try.isAgg2 rfl) (.run [3200] [] rfl (st_call rfl 3200 (X := []) en36 rfl (.val nod) (.cons (.one (.bor .v)) (.cons (.one (.bor .v)) (.cons (.one (.bor .v)) .nil))) (by decide) all_nil .nil (within_con e.pins 0 100000) rfl rfl (nle rfl)) (.run [] [] rfl (st_eq (st_not (b := within e.pins 0 100000) rfl rfl) (congrArg (fun b => AV.p none (.v (.bool b))) h5)) (.run [] [] rfl (st_pick (t := false) rfl rfl) (.run [] [] rfl (st_move rfl) (.run [] [] rfl (st_load_box rfl rfl rfl Try.isAgg26 Try.sizeOf26 (nle rfl)) (.run [] [] rfl (st_faddr_box rfl rfl Try.underlying33 rfl Try.sizeOf9 (by decide)) (.run [] [] rfl (st_load_box1 rfl rfl rfl Try.isAgg9 rfl) (.run [3900] [] rfl (st_call rfl 3900 (X := []) en30 rfl (.val nod) (.cons (.agg (.cons (.bor .v) (.cons (.bor (.sl nod)) .nil))) (.cons (.one (.bor .v)) .nil)) (by decide) all_nil .nil (find_con m l e.name (by omega)) rfl rfl (nle rfl)) (.run [] [] rfl (st_move rfl) (.run [] [] rfl (st_neq rfl rfl rfl) (.run [] [] rfl (st_pick (t := false) rfl rfl) .nil)))))))))))))))))))) ?_
            refine tr_if (t := (!(decide ((idxF (fun s => decide (s.name = e.name)) l) = ((i:Int)))))) rfl (fun h6 => ?_) (fun h6 => ?_)
            · skip
              replace h6 : ¬ ((idxF (fun s => decide (s.name = e.name)) l) = ((i:Int))) := by simpa using h6
              refine tr_seq ?_
              refine tr_region rfl (.run [] [] rfl (st_assign rfl) .nil) ?_
              refine tr_ret ?_
              exact ends [_] [] (.cons (.tmp (bool_eq (by simp [okC, okS_no he (by simp_all [okSlot])]))) .nil) (.cons (.one .v (.v _)) .nil) (by decide) trivial
            · skip
              replace h6 : (idxF (fun s => decide (s.name = e.name)) l) = ((i:Int)) := by simpa using h6
              refine tr_skip ?_
              refine tr_region rfl (.run [] [] rfl (st_addn rfl rfl rfl (by omega)) (.run [] [] rfl (st_move rfl) .nil)) ?_
              refine nxt (Q := fun _ _ => False) (z := i) (i + 1) ?_ ?_ ?_
              · show i + 1 ≤ l.length ∧ ∀ j e, j < i + 1 → l[j]? = some e → okSlot l j e = true
                exact ⟨by have := (List.getElem?_eq_some_iff.1 he).1; omega, okS_step hG2 he (by simp_all [okSlot])⟩
              · show l.length - (i + 1) < l.length - i
                have := (List.getElem?_eq_some_iff.1 he).1; omega
              · exact wk_mk ⟨rfl, ⟨rfl, ⟨rfl, ⟨rfl, ⟨rfl, ⟨rfl, ⟨rfl, ⟨rfl, ⟨rfl, ⟨rfl, ⟨rfl, ⟨rfl, ⟨rfl, ⟨rfl, ⟨rfl, ⟨rfl, ⟨rfl, trivial⟩⟩⟩⟩⟩⟩⟩⟩⟩⟩⟩⟩⟩⟩⟩⟩⟩ ⟨rfl, trivial⟩ trivial rfl
          · have h5' := h5
            replace h5' : within e.pins 0 100000 = false := by simpa using h5'
            refine tr_region rfl (.run [] [] rfl (st_faddr_box rfl rfl Try.underlying33 rfl Try.sizeOf9 (by decide)) (.run [] [] rfl (st_load_box1 rfl rfl rfl Try.isAgg9 rfl) (.run [] [] rfl (st_faddr_box rfl rfl Try.underlying33 rfl Try.sizeOf2 (by decide)) (.run [] [] rfl (st_load_box1 rfl rfl rfl Try.isAgg2 rfl) (.run [2700] [] rfl (st_call rfl 2700 (X := []) en37 rfl (.val nod) (.cons (.one (.bor .v)) (.cons (.one (.bor .v)) .nil)) (by decide) all_nil .nil (isSlot_con e.name e.size) rfl rfl (nle rfl)) (.run [] [] rfl (st_eq (st_not (b := isSlot e.name e.size) rfl rfl) (congrArg (fun b => AV.p none (.v (.bool b))) h4)) (.run [] [] rfl (st_move rfl) (.run [] [] rfl (st_faddr_box rfl rfl Try.underlying33 rfl Try.sizeOf2 (by decide)) (.run [] [] rfl (st_load_box1 rfl rfl rfl Try.isAgg2 rfl) (.run [3200] [] rfl (st_call rfl 3200 (X := []) en36 rfl (.val nod) (.cons (.one (.bor .v)) (.cons (.one (.bor .v)) (.cons (.one (.bor .v)) .nil))) (by decide) all_nil .nil (within_con e.pins 0 100000) rfl rfl (nle rfl)) (.run [] [] rfl (st_eq (st_not (b := within e.pins 0 100000) rfl rfl) (congrArg (fun b => AV.p none (.v (.bool b))) h5)) (.run [] [] rfl (st_pick (t := false) rfl rfl) (.run [] [] rfl (st_move rfl) (.not rfl (.not rfl (.not rfl (.not rfl (.not rfl (.not rfl (.run [] [] rfl (st_pick (t := true) rfl rfl) .nil)))))))))))))))))))) ?_
            refine tr_if (t := true) rfl (fun _ => ?_) (fun h => nomatch h)
            refine tr_seq ?_
            refine tr_region rfl (.run [] [] rfl (st_assign rfl) .nil) ?_
            refine tr_ret ?_
            exact ends [_] [] (.cons (.tmp (bool_eq (by simp [okC, okS_no he (by simp_all [okSlot])]))) .nil) (.cons (.one .v (.v _)) .nil) (by decide) trivial
        · have h4' := h4
          replace h4' : isSlot e.name e.size = false := by simpa using h4'
          refine tr_region rfl (.run [] [] rfl (st_faddr_box rfl rfl Try.underlying33 rfl Try.sizeOf9 (by decide)) (.run [] [] rfl (st_load_box1 rfl rfl rfl Try.isAgg9 rfl) (.run [] [] rfl (st_faddr_box rfl rfl Try.underlying33 rfl Try.sizeOf2 (by decide)) (.run [] [] rfl (st_load_box1 rfl rfl rfl Try.isAgg2 rfl) (.run [2700] [] rfl (st_call rfl 2700 (X := []) en37 rfl (.val nod) (.cons (.one (.bor .v)) (.cons (.one (.bor .v)) .nil)) (by decide) all_nil .nil (isSlot_con e.name e.size) rfl rfl (nle rfl)) (.run [] [] rfl (st_eq (st_not (b := isSlot e.name e.size) rfl rfl) (congrArg (fun b => AV.p none (.v (.bool b))) h4)) (.run [] [] rfl (st_move rfl) (.not rfl (.not rfl (.not rfl (.not rfl (.run [] [] rfl (st_pick (t := true) rfl rfl) (.run [] [] rfl (st_move rfl) (.not rfl (.not rfl (.not rfl (.not rfl (.not rfl (.not rfl (.run [] [] rfl (st_pick (t := true) rfl rfl) .nil)))))))))))))))))))) ?_
          refine tr_if (t := true) rfl (fun _ => ?_) (fun h => nomatch h)
          refine tr_seq ?_
          refine tr_region rfl (.run [] [] rfl (st_assign rfl) .nil) ?_
          refine tr_ret ?_
          exact ends [_] [] (.cons (.tmp (bool_eq (by simp [okC, okS_no he (by simp_all [okSlot])]))) .nil) (.cons (.one .v (.v _)) .nil) (by decide) trivial
      · skip
        replace h3 := of_decide_eq_false h3
        refine tr_exit ?_
        refine tr_seq ?_
        have hle := pvS_length l
        have hok : okS l = true := okS_yes (by omega) hG2
        rcases bfc (decide ((usedF l) ≤ m)) with h7 | h7
        · have h7' := h7
          replace h7' := of_decide_eq_false h7'
          refine tr_regionD mixed rfl (.run [] [] rfl (st_load_box rfl rfl rfl Try.isAgg26 Try.sizeOf26 (nle rfl)) (.run [4500] [] rfl (st_call rfl 4500 (X := []) en38 rfl (.val nod) (.cons (.agg (.cons (.bor .v) (.cons (.bor (.sl nod)) .nil))) .nil) (by decide) all_nil .nil (used_con m l (okS_bnd hok) (by omega)) rfl rfl (nle rfl)) (.run [] [] rfl (st_faddr_box rfl rfl Try.underlying26 rfl Try.sizeOf2 (by decide)) (.run [] [] rfl (st_load_box1 rfl rfl rfl Try.isAgg2 rfl) (.run [] [] rfl (st_eq (st_leq rfl rfl rfl) (congrArg (fun b => AV.p none (.v (.bool b))) h7)) (.run [] [] rfl (st_move rfl) (.run [] [] rfl (st_faddr_box rfl rfl Try.underlying26 rfl Try.sizeOf24 (by decide)) (.run [] [] rfl (st_load_box1 rfl rfl rfl Try.isAgg24 rfl) (.run [5200] [] rfl (st_call rfl 5200 (X := []) en39 rfl (.val nod) (.cons (.one (.bor (.sl nod))) (.cons (.one (.bor (.cl nod))) .nil)) (by decide) all_nil .nil (containsFunc_con l (by omega) 31 [] (fun s => decide (s.pins = 0)) en31 (fun s _ => idle_con s)) rfl rfl (nle rfl)) (.run [] [] rfl (st_not (b := l.any (fun s => decide (s.pins = 0))) rfl rfl) (.run [] [] rfl (st_pick (t := false) rfl rfl) (.run [] [] rfl (st_assign rfl) .nil)))))))))))) (by kernel_rfl) ?_
          refine tr_ret ?_
          exact ends [_] [] (.cons (.tmp (bool_eq (by have hlen : l.length ≤ 40 := (by omega); simp_all [okC] <;> (intros; omega)))) .nil) (.cons (.one .v (.v _)) .nil) (by decide) trivial
        · have h7' := h7
          replace h7' := of_decide_eq_true h7'
          refine tr_regionD mixed rfl (.run [] [] rfl (st_load_box rfl rfl rfl Try.isAgg26 Try.sizeOf26 (nle rfl)) (.run [4500] [] rfl (st_call rfl 4500 (X := []) en38 rfl (.val nod) (.cons (.agg (.cons (.bor .v) (.cons (.bor (.sl nod)) .nil))) .nil) (by decide) all_nil .nil (used_con m l (okS_bnd hok) (by omega)) rfl rfl (nle rfl)) (.run [] [] rfl (st_faddr_box rfl rfl Try.underlying26 rfl Try.sizeOf2 (by decide)) (.run [] [] rfl (st_load_box1 rfl rfl rfl Try.isAgg2 rfl) (.run [] [] rfl (st_eq (st_leq rfl rfl rfl) (congrArg (fun b => AV.p none (.v (.bool b))) h7)) (.run [] [] rfl (st_move rfl) (.not rfl (.not rfl (.not rfl (.not rfl (.run [] [] rfl (st_pick (t := true) rfl rfl) (.run [] [] rfl (st_assign rfl) .nil)))))))))))) (by kernel_rfl) ?_
          refine tr_ret ?_
          exact ends [_] [] (.cons (.tmp (bool_eq (by have hlen : l.length ≤ 40 := (by omega); simp_all [okC] <;> (intros; omega)))) .nil) (.cons (.one .v (.v _)) .nil) (by decide) trivial
  · have h1' := h1
    replace h1' : within m 0 100000 = false := by simpa using h1'
    refine tr_region rfl (.run [] [] rfl (st_faddr_box rfl rfl Try.underlying26 rfl Try.sizeOf2 (by decide)) (.run [] [] rfl (st_load_box1 rfl rfl rfl Try.isAgg2 rfl) (.run [700] [] rfl (st_call rfl 700 (X := []) en36 rfl (.val nod) (.cons (.one (.bor .v)) (.cons (.one (.bor .v)) (.cons (.one (.bor .v)) .nil))) (by decide) all_nil .nil (within_con m 0 100000) rfl rfl (nle rfl)) (.run [] [] rfl (st_eq (st_not (b := within m 0 100000) rfl rfl) (congrArg (fun b => AV.p none (.v (.bool b))) h1)) (.run [] [] rfl (st_move rfl) (.not rfl (.not rfl (.not rfl (.not rfl (.run [] [] rfl (st_pick (t := true) rfl rfl) .nil)))))))))) ?_
    refine tr_if (t := true) rfl (fun _ => ?_) (fun h => nomatch h)
    refine tr_seq ?_
    refine tr_region rfl (.run [] [] rfl (st_assign rfl) .nil) ?_
    refine tr_ret ?_
    exact ends [_] [] (.cons (.tmp (bool_eq (by simp [okC, h1']))) .nil) (.cons (.one .v (.v _)) .nil) (by decide) trivial
theorem specCacheOk_con (m : Int) (l : List Slot) (hl : l.length ≤ 2000000) : Con Try.prog 25 [.agg [.v (.int .i64 m), .sl false 3 (pvS l)]] [] [.one (.v (.bool (okC m l)))] := by
  refine con_of_tr Try.func25 rfl rfl rfl rfl ?_
  refine tr_seq ?_
  refine tr_region rfl (.run [] [1] rfl (st_box rfl 1 rfl rfl (by decide) rfl (by decide)) (.run [] [] rfl (st_assign rfl) .nil)) ?_
  refine tr_seq ?_
  refine tr_seq ?_
  rcases bfc ((!(within m 0 100000))) with h1 | h1
  · have h1' := h1
    replace h1' : within m 0 100000 = true := by simpa using h1'
    refine tr_region rfl (.run [] [] rfl (st_faddr_box rfl rfl Try.underlying26 rfl Try.sizeOf2 (by decide)) (.run [] [] rfl (st_load_box1 rfl rfl rfl Try.isAgg2 rfl) (.run [1000] [] rfl (st_call rfl 1000 (X := []) en48 rfl (.val nod) (.cons (.one (.bor .v)) (.cons (.one (.bor .v)) (.cons (.one (.bor .v)) .nil))) (by decide) all_nil .nil (l1In_con m 0 100000) rfl rfl (nle rfl)) (.run [] [] rfl (st_eq (st_not (b := within m 0 100000) rfl rfl) (congrArg (fun b => AV.p none (.v (.bool b))) h1)) (.run [] [] rfl (st_move rfl) (.run [] [] rfl (st_faddr_box rfl rfl Try.underlying26 rfl Try.sizeOf24 (by decide)) (.run [] [] rfl (st_load_box1 rfl rfl rfl Try.isAgg24 rfl) (.run [] [] rfl (st_len_fro rfl rfl Try.underlying24) (.run [] [] rfl (st_gtr rfl rfl rfl) (.run [] [] rfl (st_pick (t := false) rfl rfl) .nil)))))))))) ?_
    refine tr_if (t := decide (40 < (((pvS l).length : Int)))) rfl (fun h2 => ?_) (fun h2 => ?_)
    · skip
      replace h2 := of_decide_eq_true h2
      refine tr_seq ?_
      refine tr_region rfl (.run [] [] rfl (st_assign rfl) .nil) ?_
      refine tr_ret ?_
      exact ends [_] [] (.cons (.tmp (bool_eq (by rw [pvS_length] at h2; simp [okC, show ¬ l.length ≤ 40 by omega]))) .nil) (.cons (.one .v (.v _)) .nil) (by decide) trivial
    · skip
      replace h2 := of_decide_eq_false h2
      refine tr_skip ?_
      refine tr_seq ?_
      refine tr_region rfl (.run [] [] rfl (st_assign rfl) .nil) ?_
      refine tr_seq ?_
      refine tr_region rfl (.run [] [] rfl (st_assign rfl) .nil) ?_
      refine tr_seq ?_
      refine tr_seq ?_
      refine tr_region rfl (.run [] [] rfl (st_assign rfl) .nil) ?_
      refine tr_block ?_
      refine tr_loopS (σ := Nat) (fun i => mk [(0, .agg [.p none (.v (.int .i64 m)), .p none (.sl false 3 (pvS l))]), (1, .ptr 1 0), (2, .p none (.v (.bool false))), (3, .p none (.v (.int .i64 (usedF (l.take i))))), (4, .p none (.v (.bool ((l.take i).any (fun s => decide (s.pins = 0)))))), (5, .p none (.v (.int .i64 ((i:Int))))), (8, .ptr 1 0), (9, .p none (.v (.int .i64 m))), (10, .p none (.v (.bool (within m 0 100000)))), (11, .p none (.v (.bool false))), (12, .p none (.v (.bool false))), (13, .ptr 1 1), (14, .p none (.sl false 3 (pvS l))), (15, .p none (.v (.int .i64 (((pvS l).length : Int))))), (16, .p none (.v (.bool (decide (40 < (((pvS l).length : Int))))))), (17, .p none (.v (.bool (decide (40 < (((pvS l).length : Int)))))))] [(1, [.p none (.v (.int .i64 m)), .p none (.sl false 3 (pvS l))])] []) (fun i => i ≤ l.length ∧ ∀ j e, j < i → l[j]? = some e → okSlot l j e = true) (fun i => l.length - i) 0 ⟨Nat.zero_le _, fun _ _ h => absurd h (Nat.not_lt_zero _)⟩ (wk_mk ⟨rfl, ⟨rfl, ⟨rfl, ⟨rfl, ⟨rfl, ⟨rfl, ⟨rfl, ⟨rfl, ⟨rfl, ⟨rfl, ⟨rfl, ⟨rfl, ⟨rfl, ⟨rfl, ⟨rfl, ⟨rfl, trivial⟩⟩⟩⟩⟩⟩⟩⟩⟩⟩⟩⟩⟩⟩⟩⟩ ⟨rfl, trivial⟩ trivial rfl) ?_
      rintro i hG
      replace hG : i ≤ l.length ∧ ∀ j e, j < i → l[j]? = some e → okSlot l j e = true := hG
      obtain ⟨hG, hG2⟩ := hG
      refine tr_seq ?_
      refine tr_seq ?_
      refine tr_region rfl (.run [] [] rfl (st_move rfl) (.run [] [] rfl (st_faddr_box rfl rfl Try.underlying26 rfl Try.sizeOf24 (by decide)) (.run [] [] rfl (st_load_box1 rfl rfl rfl Try.isAgg24 rfl) (.run [] [] rfl (st_len_fro rfl rfl Try.underlying24) (.run [] [] rfl (st_lss rfl rfl rfl) .nil))))) ?_
      refine tr_if (t := decide (((i:Int)) < (((pvS l).length : Int)))) rfl (fun h3 => ?_) (fun h3 => ?_)
      · skip
        replace h3 := of_decide_eq_true h3
        refine tr_skip ?_
        refine tr_seq ?_
        refine tr_block ?_
        refine tr_seq ?_
        obtain ⟨e, he⟩ : ∃ e, l[i]? = some e := ⟨_, List.getElem?_eq_getElem (by rw [pvS_length] at h3; omega)⟩
        refine tr_region rfl (.run [] [] rfl (st_faddr_box rfl rfl Try.underlying26 rfl Try.sizeOf24 (by decide)) (.run [] [] rfl (st_load_box1 rfl rfl rfl Try.isAgg24 rfl) (.run [] [] rfl (st_move rfl) (.run [] [] rfl (st_idx_fro rfl rfl rfl Try.underlying24 Try.sizeOf33 rfl (by omega) (pvS_get he)) (.run [] [] rfl (st_load_fea rfl rfl Try.isAgg33 Try.sizeOf33 (nle rfl)) (.run [] [6] rfl (st_allocZ rfl 6 inf33 rfl (by decide) rfl (by decide)) (.run [] [] rfl (st_store_box rfl rfl rfl rfl rfl Try.sizeOf33 rfl (nle rfl)) .nil))))))) ?_
        refine tr_seq ?_
        refine tr_seq ?_
        rcases bfc ((!(isUser e.name))) with h4 | h4
        · have h4' := h4
          replace h4' : isUser e.name = true := by simpa using h4'
          rcases bfc ((!(within e.size 1 100000))) with h5 | h5
          · have h5' := h5
            replace h5' : within e.size 1 100000 = true := by simpa using h5'
            refine tr_region rfl (.run [] [] rfl (st_faddr_box rfl rfl Try.underlying33 rfl Try.sizeOf9 (by decide)) (.run [] [] rfl (st_load_box1 rfl rfl rfl Try.isAgg9 rfl) (.run [3200] [] rfl (st_call rfl 3200 (X := []) en47 rfl (.val nod) (.cons (.one (.bor .v)) .nil) (by decide) all_nil .nil (l2User_con e.name) rfl rfl (nle rfl)) (.run [] [] rfl (st_eq (st_not (b := isUser e.name) rfl rfl) (congrArg (fun b => AV.p none (.v (.bool b))) h4)) (.run [] [] rfl (st_move rfl) (.run [] [] rfl (st_faddr_box rfl rfl Try.underlying33 rfl Try.sizeOf2 (by decide)) (.run [] [] rfl (st_load_box1 rfl rfl rfl Try.isAgg2 rfl) (.run [3700] [] rfl (st_call rfl 3700 (X := []) en48 rfl (.val nod) (.cons (.one (.bor .v)) (.cons (.one (.bor .v)) (.cons (.one (.bor .v)) .nil))) (by decide) all_nil .nil (l1In_con e.size 1 100000) rfl rfl (nle rfl)) (.run [] [] rfl (st_eq (st_not (b := within e.size 1 100000) rfl rfl) (congrArg (fun b => AV.p none (.v (.bool b))) h5)) (.run [] [] rfl (st_pick (t := false) rfl rfl) (.run [] [] rfl (st_move rfl) (.run [] [] rfl (st_faddr_box rfl rfl Try.underlying33 rfl Try.sizeOf2 (by decide)) (.run [] [] rfl (st_load_box1 rfl rfl rfl Try.isAgg2 rfl) (.run [4300] [] rfl (st_call rfl 4300 (X := []) en48 rfl (.val nod) (.cons (.one (.bor .v)) (.cons (.one (.bor .v)) (.cons (.one (.bor .v)) .nil))) (by decide) all_nil .nil (l1In_con e.pins 0 100000) rfl rfl (nle rfl)) (.run [] [] rfl (st_not (b := within e.pins 0 100000) rfl rfl) (.run [] [] rfl (st_pick (t := false) rfl rfl) .nil)))))))))))))))) ?_
            refine tr_if (t := (!(within e.pins 0 100000))) rfl (fun h6 => ?_) (fun h6 => ?_)
            · skip
              replace h6 : within e.pins 0 100000 = false := by simpa using h6
              refine tr_seq ?_
              refine tr_region rfl (.run [] [] rfl (st_assign rfl) .nil) ?_
              refine tr_ret ?_
              exact ends [_] [] (.cons (.tmp (bool_eq (by simp [okC, okS_no he (by simp_all [okSlot, isSlot])]))) .nil) (.cons (.one .v (.v _)) .nil) (by decide) trivial
            · skip
              replace h6 : within e.pins 0 100000 = true := by simpa using h6
              refine tr_skip ?_
              refine tr_seq ?_
              refine tr_seq ?_
              refine tr_region rfl (.run [] [] rfl (st_assign rfl) .nil) ?_
              refine tr_block ?_
              refine tr_loopS (σ := Nat) (fun q => mk [(0, .agg [.p none (.v (.int .i64 m)), .p none (.sl false 3 (pvS l))]), (1, .ptr 1 0), (2, .p none (.v (.bool false))), (3, .p none (.v (.int .i64 (usedF (l.take i))))), (4, .p none (.v (.bool ((l.take i).any (fun s => decide (s.pins = 0)))))), (5, .p none (.v (.int .i64 ((i:Int))))), (6, .ptr 6 0), (7, .p none (.v (.int .i64 ((q:Int))))), (8, .ptr 1 0), (9, .p none (.v (.int .i64 m))), (10, .p none (.v (.bool (within m 0 100000)))), (11, .p none (.v (.bool false))), (12, .p none (.v (.bool false))), (13, .ptr 1 1), (14, .p none (.sl false 3 (pvS l))), (15, .p none (.v (.int .i64 (((pvS l).length : Int))))), (16, .p none (.v (.bool (decide (40 < (((pvS l).length : Int))))))), (17, .p none (.v (.bool (decide (40 < (((pvS l).length : Int))))))), (18, .p none (.v (.int .i64 ((i:Int))))), (19, .ptr 1 1), (20, .p none (.sl false 3 (pvS l))), (21, .p none (.v (.int .i64 (((pvS l).length : Int))))), (22, .p none (.v (.bool (decide (((i:Int)) < (((pvS l).length : Int))))))), (25, .ptr 1 1), (26, .p none (.sl false 3 (pvS l))), (27, .p none (.v (.int .i64 ((i:Int))))), (28, .fea none [.v (.string e.name), .v (.int .i64 e.size), .v (.int .i64 e.pins)]), (29, .agg [.p none (.v (.string e.name)), .p none (.v (.int .i64 e.size)), .p none (.v (.int .i64 e.pins))]), (30, .ptr 6 0), (31, .p none (.v (.string e.name))), (32, .p none (.v (.bool (isUser e.name)))), (33, .p none (.v (.bool false))), (34, .p none (.v (.bool false))), (35, .ptr 6 1), (36, .p none (.v (.int .i64 e.size))), (37, .p none (.v (.bool (within e.size 1 100000)))), (38, .p none (.v (.bool false))), (39, .p none (.v (.bool false))), (40, .p none (.v (.bool false))), (41, .ptr 6 2), (42, .p none (.v (.int .i64 e.pins))), (43, .p none (.v (.bool (within e.pins 0 100000)))), (44, .p none (.v (.bool ((!(within e.pins 0 100000)))))), (45, .p none (.v (.bool ((!(within e.pins 0 100000))))))] [(1, [.p none (.v (.int .i64 m)), .p none (.sl false 3 (pvS l))]), (6, [.p none (.v (.string e.name)), .p none (.v (.int .i64 e.size)), .p none (.v (.int .i64 e.pins))])] []) (fun q => q ≤ i ∧ ∀ j e', j < q → l[j]? = some e' → e'.name ≠ e.name) (fun q => i - q) 0 ⟨Nat.zero_le _, fun _ _ h => absurd h (Nat.not_lt_zero _)⟩ (wk_mk ⟨rfl, ⟨rfl, ⟨rfl, ⟨rfl, ⟨rfl, ⟨rfl, ⟨rfl, ⟨rfl, ⟨rfl, ⟨rfl, ⟨rfl, ⟨rfl, ⟨rfl, ⟨rfl, ⟨rfl, ⟨rfl, ⟨rfl, ⟨rfl, ⟨rfl, ⟨rfl, ⟨rfl, ⟨rfl, ⟨rfl, ⟨rfl, ⟨rfl, ⟨rfl, ⟨rfl, ⟨rfl, ⟨rfl, ⟨rfl, ⟨rfl, ⟨rfl, ⟨rfl, ⟨rfl, ⟨rfl, ⟨rfl, ⟨rfl, ⟨rfl, ⟨rfl, ⟨rfl, ⟨rfl, ⟨rfl, ⟨rfl, ⟨rfl, trivial⟩⟩⟩⟩⟩⟩⟩⟩⟩⟩⟩⟩⟩⟩⟩⟩⟩⟩⟩⟩⟩⟩⟩⟩⟩⟩⟩⟩⟩⟩⟩⟩⟩⟩⟩⟩⟩⟩⟩⟩⟩⟩⟩⟩ ⟨rfl, ⟨rfl, trivial⟩⟩ trivial rfl) ?_
              rintro q hG
              replace hG : q ≤ i ∧ ∀ j e', j < q → l[j]? = some e' → e'.name ≠ e.name := hG
              obtain ⟨hI, hI2⟩ := hG
              refine tr_seq ?_
              refine tr_seq ?_
              refine tr_region rfl (.run [] [] rfl (st_move rfl) (.run [] [] rfl (st_move rfl) (.run [] [] rfl (st_lss rfl rfl rfl) .nil))) ?_
              refine tr_if (t := decide (((q:Int)) < ((i:Int)))) rfl (fun h7 => ?_) (fun h7 => ?_)
              · skip
                replace h7 := of_decide_eq_true h7
                refine tr_skip ?_
                refine tr_seq ?_
                refine tr_block ?_
                refine tr_seq ?_
                have hlt := (List.getElem?_eq_some_iff.1 he).1
                have hqi : q < i := (by omega)
                obtain ⟨e2, he2⟩ : ∃ e, l[q]? = some e := ⟨_, List.getElem?_eq_getElem (by omega)⟩
                refine tr_regionD mixed rfl (.run [] [] rfl (st_faddr_box rfl rfl Try.underlying26 rfl Try.sizeOf24 (by decide)) (.run [] [] rfl (st_load_box1 rfl rfl rfl Try.isAgg24 rfl) (.run [] [] rfl (st_move rfl) (.run [] [] rfl (st_idx_fro rfl rfl rfl Try.underlying24 Try.sizeOf33 rfl (by omega) (pvS_get he2)) (.run [] [] rfl (st_faddr_fea rfl rfl Try.underlying33 rfl Try.sizeOf9 (by decide)) (.run [] [] rfl (st_load_fea1 rfl rfl Try.isAgg9 rfl) (.run [] [] rfl (st_faddr_box rfl rfl Try.underlying33 rfl Try.sizeOf9 (by decide)) (.run [] [] rfl (st_load_box1 rfl rfl rfl Try.isAgg9 rfl) (.run [] [] rfl (st_seql rfl rfl rfl) .nil))))))))) (by kernel_rfl) ?_
                refine tr_if (t := decide (e2.name = e.name)) rfl (fun h8 => ?_) (fun h8 => ?_)
                · skip
                  replace h8 := of_decide_eq_true h8
                  refine tr_seq ?_
                  refine tr_region rfl (.run [] [] rfl (st_assign rfl) .nil) ?_
                  refine tr_ret ?_
                  exact ends [_] [] (.cons (.tmp (bool_eq (by have hf := idx_later (i := i) hqi he2 h8; simp [okC, okS_no he (by simp [okSlot, hf])]))) .nil) (.cons (.one .v (.v _)) .nil) (by decide) trivial
                · skip
                  replace h8 := of_decide_eq_false h8
                  refine tr_skip ?_
                  refine tr_region rfl (.run [] [] rfl (st_move rfl) (.run [] [] rfl (st_addn rfl rfl rfl (by omega)) (.run [] [] rfl (st_assign rfl) .nil))) ?_
                  refine nxt (Q := fun _ _ => False) (z := q) (q + 1) ?_ ?_ ?_
                  · show q + 1 ≤ i ∧ ∀ j e', j < q + 1 → l[j]? = some e' → e'.name ≠ e.name
                    exact ⟨by omega, nm_step hI2 he2 h8⟩
                  · show i - (q + 1) < i - q
                    omega
                  · exact wk_mk ⟨rfl, ⟨rfl, ⟨rfl, ⟨rfl, ⟨rfl, ⟨rfl, ⟨rfl, ⟨rfl, ⟨rfl, ⟨rfl, ⟨rfl, ⟨rfl, ⟨rfl, ⟨rfl, ⟨rfl, ⟨rfl, ⟨rfl, ⟨rfl, ⟨rfl, ⟨rfl, ⟨rfl, ⟨rfl, ⟨rfl, ⟨rfl, ⟨rfl, ⟨rfl, ⟨rfl, ⟨rfl, ⟨rfl, ⟨rfl, ⟨rfl, ⟨rfl, ⟨rfl, ⟨rfl, ⟨rfl, ⟨rfl, ⟨rfl, ⟨rfl, ⟨rfl, ⟨rfl, ⟨rfl, ⟨rfl, ⟨rfl, ⟨rfl, trivial⟩⟩⟩⟩⟩⟩⟩⟩⟩⟩⟩⟩⟩⟩⟩⟩⟩⟩⟩⟩⟩⟩⟩⟩⟩⟩⟩⟩⟩⟩⟩⟩⟩⟩⟩⟩⟩⟩⟩⟩⟩⟩⟩⟩ ⟨rfl, ⟨rfl, trivial⟩⟩ trivial rfl
              · skip
                replace h7 := of_decide_eq_false h7
                refine tr_exit ?_
                refine tr_seq ?_
                have hs := (show 1 ≤ e.size ∧ e.size ≤ 100000 by simp_all [within])
                have hu : 0 ≤ usedF (l.take i) ∧ usedF (l.take i) ≤ 100000 * i := used_pre hG2
                have hlt := (List.getElem?_eq_some_iff.1 he).1
                refine tr_region rfl (.run [] [] rfl (st_move rfl) (.run [] [] rfl (st_faddr_box rfl rfl Try.underlying33 rfl Try.sizeOf2 (by decide)) (.run [] [] rfl (st_load_box1 rfl rfl rfl Try.isAgg2 rfl) (.run [] [] rfl (st_addn rfl rfl rfl (by omega)) (.run [] [] rfl (st_assign rfl) .nil))))) ?_
                rcases bfc ((l.take i).any (fun s => decide (s.pins = 0))) with h9 | h9
                · have h9' := h9
                  refine tr_region rfl (.run [] [] rfl (st_eq (st_move rfl) (congrArg (fun b => AV.p none (.v (.bool b))) h9)) (.run [] [] rfl (st_move rfl) (.run [] [] rfl (st_faddr_box rfl rfl Try.underlying33 rfl Try.sizeOf2 (by decide)) (.run [] [] rfl (st_load_box1 rfl rfl rfl Try.isAgg2 rfl) (.run [] [] rfl (st_eql rfl rfl rfl) (.run [] [] rfl (st_pick (t := false) rfl rfl) (.run [] [] rfl (st_assign rfl) .nil))))))) ?_
                  refine tr_region rfl (.run [] [] rfl (st_move rfl) (.run [] [] rfl (st_addn rfl rfl rfl (by omega)) (.run [] [] rfl (st_assign rfl) .nil))) ?_
                  refine nxt (Q := fun _ _ => False) (z := i) (i + 1) ?_ ?_ ?_
                  · show i + 1 ≤ l.length ∧ ∀ j e, j < i + 1 → l[j]? = some e → okSlot l j e = true
                    exact ⟨by have := (List.getElem?_eq_some_iff.1 he).1; omega, okS_step hG2 he (by have hf := idx_first he (fun j e' hj => hI2 j e' (by omega)); simp_all [okSlot, isSlot])⟩
                  · show l.length - (i + 1) < l.length - i
                    have := (List.getElem?_eq_some_iff.1 he).1; omega
                  · exact wk_mk ⟨rfl, ⟨rfl, ⟨rfl, ⟨(int_eq (used_step he)), ⟨(bool_eq (by rw [any_step _ he]; simp_all)), ⟨rfl, ⟨rfl, ⟨rfl, ⟨rfl, ⟨rfl, ⟨rfl, ⟨rfl, ⟨rfl, ⟨rfl, ⟨rfl, ⟨rfl, trivial⟩⟩⟩⟩⟩⟩⟩⟩⟩⟩⟩⟩⟩⟩⟩⟩ ⟨rfl, trivial⟩ trivial rfl
                · have h9' := h9
                  refine tr_region rfl (.run [] [] rfl (st_eq (st_move rfl) (congrArg (fun b => AV.p none (.v (.bool b))) h9)) (.run [] [] rfl (st_move rfl) (.not rfl (.not rfl (.not rfl (.run [] [] rfl (st_pick (t := true) rfl rfl) (.run [] [] rfl (st_assign rfl) .nil))))))) ?_
                  refine tr_region rfl (.run [] [] rfl (st_move rfl) (.run [] [] rfl (st_addn rfl rfl rfl (by omega)) (.run [] [] rfl (st_assign rfl) .nil))) ?_
                  refine nxt (Q := fun _ _ => False) (z := i) (i + 1) ?_ ?_ ?_
                  · show i + 1 ≤ l.length ∧ ∀ j e, j < i + 1 → l[j]? = some e → okSlot l j e = true
                    exact ⟨by have := (List.getElem?_eq_some_iff.1 he).1; omega, okS_step hG2 he (by have hf := idx_first he (fun j e' hj => hI2 j e' (by omega)); simp_all [okSlot, isSlot])⟩
                  · show l.length - (i + 1) < l.length - i
                    have := (List.getElem?_eq_some_iff.1 he).1; omega
                  · exact wk_mk ⟨rfl, ⟨rfl, ⟨rfl, ⟨(int_eq (used_step he)), ⟨(bool_eq (by rw [any_step _ he]; simp_all)), ⟨rfl, ⟨rfl, ⟨rfl, ⟨rfl, ⟨rfl, ⟨rfl, ⟨rfl, ⟨rfl, ⟨rfl, ⟨rfl, ⟨rfl, trivial⟩⟩⟩⟩⟩⟩⟩⟩⟩⟩⟩⟩⟩⟩⟩⟩ ⟨rfl, trivial⟩ trivial rfl
          · have h5' := h5
            replace h5' : within e.size 1 100000 = false := by simpa using h5'
            refine tr_region rfl (.run [] [] rfl (st_faddr_box rfl rfl Try.underlying33 rfl Try.sizeOf9 (by decide)) (.run [] [] rfl (st_load_box1 rfl rfl rfl Try.isAgg9 rfl) (.run [3200] [] rfl (st_call rfl 3200 (X := []) en47 rfl (.val nod) (.cons (.one (.bor .v)) .nil) (by decide) all_nil .nil (l2User_con e.name) rfl rfl (nle rfl)) (.run [] [] rfl (st_eq (st_not (b := isUser e.name) rfl rfl) (congrArg (fun b => AV.p none (.v (.bool b))) h4)) (.run [] [] rfl (st_move rfl) (.run [] [] rfl (st_faddr_box rfl rfl Try.underlying33 rfl Try.sizeOf2 (by decide)) (.run [] [] rfl (st_load_box1 rfl rfl rfl Try.isAgg2 rfl) (.run [3700] [] rfl (st_call rfl 3700 (X := []) en48 rfl (.val nod) (.cons (.one (.bor .v)) (.cons (.one (.bor .v)) (.cons (.one (.bor .v)) .nil))) (by decide) all_nil .nil (l1In_con e.size 1 100000) rfl rfl (nle rfl)) (.run [] [] rfl (st_eq (st_not (b := within e.size 1 100000) rfl rfl) (congrArg (fun b => AV.p none (.v (.bool b))) h5)) (.run [] [] rfl (st_pick (t := false) rfl rfl) (.run [] [] rfl (st_move rfl) (.not rfl (.not rfl (.not rfl (.not rfl (.run [] [] rfl (st_pick (t := true) rfl rfl) .nil)))))))))))))))) ?_
            refine tr_if (t := true) rfl (fun _ => ?_) (fun h => nomatch h)
            refine tr_seq ?_
            refine tr_region rfl (.run [] [] rfl (st_assign rfl) .nil) ?_
            refine tr_ret ?_
            exact ends [_] [] (.cons (.tmp (bool_eq (by simp [okC, okS_no he (by simp_all [okSlot, isSlot])]))) .nil) (.cons (.one .v (.v _)) .nil) (by decide) trivial
        · have h4' := h4
          replace h4' : isUser e.name = false := by simpa using h4'
          refine tr_region rfl (.run [] [] rfl (st_faddr_box rfl rfl Try.underlying33 rfl Try.sizeOf9 (by decide)) (.run [] [] rfl (st_load_box1 rfl rfl rfl Try.isAgg9 rfl) (.run [3200] [] rfl (st_call rfl 3200 (X := []) en47 rfl (.val nod) (.cons (.one (.bor .v)) .nil) (by decide) all_nil .nil (l2User_con e.name) rfl rfl (nle rfl)) (.run [] [] rfl (st_eq (st_not (b := isUser e.name) rfl rfl) (congrArg (fun b => AV.p none (.v (.bool b))) h4)) (.run [] [] rfl (st_move rfl) (.not rfl (.not rfl (.not rfl (.not rfl (.run [] [] rfl (st_pick (t := true) rfl rfl) (.run [] [] rfl (st_move rfl) (.not rfl (.not rfl (.not rfl (.not rfl (.run [] [] rfl (st_pick (t := true) rfl rfl) .nil)))))))))))))))) ?_
          refine tr_if (t := true) rfl (fun _ => ?_) (fun h => nomatch h)
          refine tr_seq ?_
          refine tr_region rfl (.run [] [] rfl (st_assign rfl) .nil) ?_
          refine tr_ret ?_
          exact ends [_] [] (.cons (.tmp (bool_eq (by simp [okC, okS_no he (by simp_all [okSlot, isSlot])]))) .nil) (.cons (.one .v (.v _)) .nil) (by decide) trivial
      · skip
        replace h3 := of_decide_eq_false h3
        refine tr_exit ?_
        refine tr_seq ?_
        have hle := pvS_length l
        have hok : okS l = true := okS_yes (by omega) hG2
        have hua : usedF (l.take i) = usedF l := used_all (by omega)
        have haa : (l.take i).any (fun s => decide (s.pins = 0)) = l.any (fun s => decide (s.pins = 0)) := any_take _ (by omega)
        rcases bfc (decide ((usedF (l.take i)) ≤ m)) with h10 | h10
        · have h10' := h10
          replace h10' := of_decide_eq_false h10'
          refine tr_region rfl (.run [] [] rfl (st_move rfl) (.run [] [] rfl (st_faddr_box rfl rfl Try.underlying26 rfl Try.sizeOf2 (by decide)) (.run [] [] rfl (st_load_box1 rfl rfl rfl Try.isAgg2 rfl) (.run [] [] rfl (st_eq (st_leq rfl rfl rfl) (congrArg (fun b => AV.p none (.v (.bool b))) h10)) (.run [] [] rfl (st_move rfl) (.run [] [] rfl (st_move rfl) (.run [] [] rfl (st_not (b := (l.take i).any (fun s => decide (s.pins = 0))) rfl rfl) (.run [] [] rfl (st_pick (t := false) rfl rfl) (.run [] [] rfl (st_assign rfl) .nil))))))))) ?_
          refine tr_ret ?_
          exact ends [_] [] (.cons (.tmp (bool_eq (by have hlen : l.length ≤ 40 := (by omega); simp_all [okC] <;> (intros; omega)))) .nil) (.cons (.one .v (.v _)) .nil) (by decide) trivial
        · have h10' := h10
          replace h10' := of_decide_eq_true h10'
          refine tr_region rfl (.run [] [] rfl (st_move rfl) (.run [] [] rfl (st_faddr_box rfl rfl Try.underlying26 rfl Try.sizeOf2 (by decide)) (.run [] [] rfl (st_load_box1 rfl rfl rfl Try.isAgg2 rfl) (.run [] [] rfl (st_eq (st_leq rfl rfl rfl) (congrArg (fun b => AV.p none (.v (.bool b))) h10)) (.run [] [] rfl (st_move rfl) (.not rfl (.not rfl (.run [] [] rfl (st_pick (t := true) rfl rfl) (.run [] [] rfl (st_assign rfl) .nil))))))))) ?_
          refine tr_ret ?_
          exact ends [_] [] (.cons (.tmp (bool_eq (by have hlen : l.length ≤ 40 := (by omega); simp_all [okC] <;> (intros; omega)))) .nil) (.cons (.one .v (.v _)) .nil) (by decide) trivial
  · have h1' := h1
    replace h1' : within m 0 100000 = false := by simpa using h1'
    refine tr_region rfl (.run [] [] rfl (st_faddr_box rfl rfl Try.underlying26 rfl Try.sizeOf2 (by decide)) (.run [] [] rfl (st_load_box1 rfl rfl rfl Try.isAgg2 rfl) (.run [1000] [] rfl (st_call rfl 1000 (X := []) en48 rfl (.val nod) (.cons (.one (.bor .v)) (.cons (.one (.bor .v)) (.cons (.one (.bor .v)) .nil))) (by decide) all_nil .nil (l1In_con m 0 100000) rfl rfl (nle rfl)) (.run [] [] rfl (st_eq (st_not (b := within m 0 100000) rfl rfl) (congrArg (fun b => AV.p none (.v (.bool b))) h1)) (.run [] [] rfl (st_move rfl) (.not rfl (.not rfl (.not rfl (.not rfl (.run [] [] rfl (st_pick (t := true) rfl rfl) .nil)))))))))) ?_
    refine tr_if (t := true) rfl (fun _ => ?_) (fun h => nomatch h)
    refine tr_seq ?_
    refine tr_region rfl (.run [] [] rfl (st_assign rfl) .nil) ?_
    refine tr_ret ?_
    exact ends [_] [] (.cons (.tmp (bool_eq (by simp [okC, h1']))) .nil) (.cons (.one .v (.v _)) .nil) (by decide) trivial
end Go.Rl

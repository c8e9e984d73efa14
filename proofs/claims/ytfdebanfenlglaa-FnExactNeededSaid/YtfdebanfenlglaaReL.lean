/- Promises of functions, proved by walks over their operations; no conditions beyond those that each theorem states. -/
import Derived.Test.YtfdebanfenlglaaReK
namespace Go.Rl
open Go.Proofs
theorem en38 : ∀ vs w, (callFunc 38 vs).run Try.prog w = .ok (.enter 38 vs) w := enters Try.func38 (by decide) rfl
theorem en73 : ∀ vs w, (callFunc 73 vs).run Try.prog w = .ok (.enter 73 vs) w := enters Try.func73 (by decide) rfl
theorem en74 : ∀ vs w, (callFunc 74 vs).run Try.prog w = .ok (.enter 74 vs) w := enters Try.func74 (by decide) rfl
set_option maxRecDepth 1000000 in
theorem progNeeded_con (l : List Ent) (s : List Int) (hl : l.length ≤ 2000000) (hs : s.length ≤ 2000000) : Con Try.prog 21 [.one (PV.sl false 4 (pvE l)), .one (PV.sl false 1 (pvI s))] [] [.one (.sl true 1 (pvI (neededF l s)))] := by
  refine con_of_tr Try.func21 rfl rfl rfl rfl ?_
  have hle := pvE_length l
  have hls := pvI_length s
  refine tr_seq ?_
  refine tr_region rfl (.run [] [] rfl (st_assign rfl) .nil) ?_
  refine tr_seq ?_
  refine tr_seq ?_
  rcases bfc (!(entsOk l)) with h1 | h1
  · have h1' := h1
    replace h1' : (entsOk l) = true := bnot_f h1'
    refine tr_region rfl (.run [] [] rfl (st_move rfl) (.run [600] [] rfl (st_call rfl 600 (X := []) en38 rfl (.val nod) (.cons (.one (.bor (.sl nod))) .nil) (by decide) all_nil .nil (entriesOk_con l (by omega)) rfl rfl (nle rfl)) (.run [] [] rfl (st_eq (st_not (b := entsOk l) rfl rfl) (by exact congrArg (fun b => AV.p none (.v (.bool b))) h1)) (.run [] [] rfl (st_move rfl) (.run [] [] rfl (st_move rfl) (.run [1000] [] rfl (st_call rfl 1000 (X := []) en73 rfl (.val nod) (.cons (.one (.bor (.sl nod))) .nil) (by decide) all_nil .nil (snapsOk_con s (by omega)) rfl rfl (nle rfl)) (.run [] [] rfl (st_not (b := snapsOk s) rfl rfl) (.run [] [] rfl (st_pick (t := false) rfl rfl) .nil)))))))) ?_
    refine tr_if (t := (!(snapsOk s))) rfl (fun h2 => ?_) (fun h2 => ?_)
    · skip
      replace h2 : (snapsOk s) = false := bnot_t h2
      refine tr_seq ?_
      have hne : neededF l s = [] := by rw [neededF, if_neg (by simp [h1', h2])]
      rw [hne, show pvI ([] : List Int) = [] from rfl]
      refine tr_region rfl (.run [] [] rfl (st_assign rfl) .nil) ?_
      refine tr_ret ?_
      exact ends [_] [] (.cons (.tmp rfl) .nil) (.cons (.one (.nil _) (.sl _ _ (fun _ h => nomatch h))) .nil) (by decide) trivial
    · skip
      replace h2 : (snapsOk s) = true := bnot_f h2
      refine tr_skip ?_
      refine tr_seq ?_
      have hne : neededF l s = needF l (pointsF s) l.length := by rw [neededF, if_pos (by simp [h1', h2])]
      rw [hne]
      refine tr_region rfl (.run [] [] rfl (st_move rfl) (.run [] [] rfl (st_move rfl) (.run [1500] [] rfl (st_call rfl 1500 (X := []) en74 rfl (.val nod) (.cons (.one (.bor (.sl nod))) (.cons (.one (.bor (.sl nod))) .nil)) (by decide) all_nil .nil (needed_con l s (by omega) (by omega) (by assumption)) rfl rfl (nle rfl)) (.run [] [] rfl (st_assign rfl) .nil)))) ?_
      refine tr_ret ?_
      exact ends [_] [1500] (.cons (.tmp rfl) .nil) (.cons (.one (.row (len := (pvI (needF l (pointsF s) l.length)).length) (xs := pvI (needF l (pointsF s) l.length)) rfl rfl) (.sl _ _ (FlatP.clean (pvI_flat _)))) .nil) (by decide) trivial
  · have h1' := h1
    replace h1' : (entsOk l) = false := bnot_t h1'
    refine tr_region rfl (.run [] [] rfl (st_move rfl) (.run [600] [] rfl (st_call rfl 600 (X := []) en38 rfl (.val nod) (.cons (.one (.bor (.sl nod))) .nil) (by decide) all_nil .nil (entriesOk_con l (by omega)) rfl rfl (nle rfl)) (.run [] [] rfl (st_eq (st_not (b := entsOk l) rfl rfl) (by exact congrArg (fun b => AV.p none (.v (.bool b))) h1)) (.run [] [] rfl (st_move rfl) (.not rfl (.not rfl (.not rfl (.run [] [] rfl (st_pick (t := true) rfl rfl) .nil)))))))) ?_
    refine tr_if (t := true) rfl (fun _ => ?_) (fun h => nomatch h)
    refine tr_seq ?_
    have hne : neededF l s = [] := by rw [neededF, if_neg (by simp [h1'])]
    rw [hne, show pvI ([] : List Int) = [] from rfl]
    refine tr_region rfl (.run [] [] rfl (st_assign rfl) .nil) ?_
    refine tr_ret ?_
    exact ends [_] [] (.cons (.tmp rfl) .nil) (.cons (.one (.nil _) (.sl _ _ (fun _ h => nomatch h))) .nil) (by decide) trivial
end Go.Rl

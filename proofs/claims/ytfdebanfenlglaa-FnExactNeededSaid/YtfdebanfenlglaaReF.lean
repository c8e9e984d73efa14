/- Promises of functions, proved by walks over their operations; no conditions beyond those that each theorem states. -/
import Derived.Test.YtfdebanfenlglaaReE
namespace Go.Rl
open Go.Proofs
theorem en72 : ∀ vs w, (callFunc 72 vs).run Try.prog w = .ok (.enter 72 vs) w := enters Try.func72 (by decide) rfl
set_option maxRecDepth 1000000 in
theorem toInt64S_con (l : List Int) (hl : l.length ≤ 2000000) : Con Try.prog 20 [.one (PV.sl false 1 (pvI l))] [] [.one (.sl true 1 (pvI l))] := by
  refine con_of_tr Try.func20 rfl rfl rfl rfl ?_
  have hle := pvI_length l
  refine tr_seq ?_
  refine tr_region rfl (.run [] [] rfl (st_assign rfl) .nil) ?_
  refine tr_seq ?_
  refine tr_region rfl (.run [] [] rfl (st_move rfl) (.run [] [] rfl (st_len_fro rfl rfl Try.underlying23) (.run [700] [] rfl (st_make rfl 700 (l := (pvI l).length) (c := (pvI l).length) rfl rfl Try.underlying23 inf2 rfl rfl (by decide) rfl (by decide) (Nat.le_refl _) (by omega) (by simp only [maxLen]; omega)) (.run [] [] rfl (st_assign rfl) .nil)))) ?_
  refine tr_seq ?_
  refine tr_seq ?_
  refine tr_region rfl (.run [] [] rfl (st_assign rfl) .nil) ?_
  refine tr_block ?_
  refine tr_loopS (σ := Nat) (fun i => mk [(0, .p none (.sl false 1 (pvI l))), (3, .sl 700 0 ((pvI l).length)), (4, .p none (.v (.int .i64 (i:Int))))] [] [(700, 1, pvI (l.take i) ++ List.replicate (l.length - i) [PV.v (.int .i64 0)])]) (fun i => i ≤ l.length) (fun i => l.length - i) 0 (by simp) (wk_mk ⟨rfl, ⟨rfl, ⟨(int_eq (by omega)), trivial⟩⟩⟩ trivial ⟨(congrArg (fun x => some (1, x)) (by exact gto_zero)), trivial⟩ rfl) ?_
  rintro i hG
  replace hG : i ≤ l.length := hG
  refine tr_seq ?_
  refine tr_seq ?_
  refine tr_region rfl (.run [] [] rfl (st_move rfl) (.run [] [] rfl (st_move rfl) (.run [] [] rfl (st_len_fro rfl rfl Try.underlying23) (.run [] [] rfl (st_lss rfl rfl rfl) .nil)))) ?_
  refine tr_if (t := decide ((i:Int) < ((pvI l).length : Int))) rfl (fun h1 => ?_) (fun h1 => ?_)
  · skip
    replace h1 := of_decide_eq_true h1
    refine tr_skip ?_
    refine tr_seq ?_
    refine tr_block ?_
    obtain ⟨e, he⟩ : ∃ e, l[i]? = some e := ⟨_, List.getElem?_eq_getElem (by (have hL := pvI_length l; omega))⟩
    have hlte := (List.getElem?_eq_some_iff.1 he).1
    refine tr_region rfl (.run [] [] rfl (st_move rfl) (.run [] [] rfl (st_move rfl) (.run [] [] rfl (st_move rfl) (.run [] [] rfl (st_move rfl) (.run [] [] rfl (st_idx_fro rfl rfl rfl Try.underlying23 Try.sizeOf2 rfl (by omega) (pvI_get he)) (.run [] [] rfl (st_load_fea1 rfl rfl Try.isAgg2 rfl) (.run [] [] rfl (st_idx_row0 i rfl rfl rfl rfl Try.underlying23 Try.sizeOf2 rfl rfl (by omega)) (.run [] [] rfl (st_store_row rfl rfl rfl (FlatP.nf (gto_flat (pvI_flat _) (by simp [PV.isV]))) (by exact gto_get hlte) rfl rfl (.cons .v .nil) Try.sizeOf2 rfl (nle rfl)) .nil)))))))) ?_
    refine tr_region rfl (.run [] [] rfl (st_move rfl) (.run [] [] rfl (st_addn rfl rfl rfl (by omega)) (.run [] [] rfl (st_assign rfl) .nil))) ?_
    refine nxt (Q := fun _ _ => False) (z := i) (i + 1) ?_ ?_ ?_
    · show (i + 1) ≤ l.length
      omega
    · show l.length - (i + 1) < l.length - i
      omega
    · exact wk_mk ⟨rfl, ⟨rfl, ⟨(int_eq (by omega)), trivial⟩⟩⟩ trivial ⟨(congrArg (fun x => some (1, x)) (by exact gto_step he rfl)), trivial⟩ rfl
  · skip
    replace h1 := of_decide_eq_false h1
    refine tr_exit ?_
    refine tr_seq ?_
    refine tr_region rfl (.run [] [] rfl (st_move rfl) (.run [] [] rfl (st_assign rfl) .nil)) ?_
    refine tr_ret ?_
    exact ends [_] [700] (.cons (.tmp rfl) .nil) (.cons (.one (.row (len := (pvI l).length) (xs := pvI l) (congrArg (fun x => some (1, x)) (gto_all (by omega))) rfl) (.sl _ _ (FlatP.clean (pvI_flat l)))) .nil) (by decide) trivial
set_option maxRecDepth 1000000 in
theorem toEntryS_con (l : List Ent) (hl : l.length ≤ 2000000) : Con Try.prog 19 [.one (PV.sl false 4 (pvE l))] [] [.one (.sl true 4 (pvE l))] := by
  refine con_of_tr Try.func19 rfl rfl rfl rfl ?_
  have hle := pvE_length l
  refine tr_seq ?_
  refine tr_region rfl (.run [] [] rfl (st_assign rfl) .nil) ?_
  refine tr_seq ?_
  refine tr_region rfl (.run [] [] rfl (st_move rfl) (.run [] [] rfl (st_len_fro rfl rfl Try.underlying22) (.run [700] [] rfl (st_make rfl 700 (l := (pvE l).length) (c := (pvE l).length) rfl rfl Try.underlying26 inf44 rfl rfl (by decide) rfl (by decide) (Nat.le_refl _) (by omega) (by simp only [maxLen]; omega)) (.run [] [] rfl (st_assign rfl) .nil)))) ?_
  refine tr_seq ?_
  refine tr_seq ?_
  refine tr_region rfl (.run [] [] rfl (st_assign rfl) .nil) ?_
  refine tr_block ?_
  refine tr_loopS (σ := Nat) (fun i => mk [(0, .p none (.sl false 4 (pvE l))), (3, .sl 700 0 ((pvE l).length)), (4, .p none (.v (.int .i64 (i:Int))))] [] [(700, 4, pvE (l.take i) ++ List.replicate (l.length - i) [PV.v (.string ⟨#[]⟩), PV.v (.int .i64 0), PV.v (.int .i64 0), PV.v (.string ⟨#[]⟩)])]) (fun i => i ≤ l.length) (fun i => l.length - i) 0 (by simp) (wk_mk ⟨rfl, ⟨rfl, ⟨(int_eq (by omega)), trivial⟩⟩⟩ trivial ⟨(congrArg (fun x => some (4, x)) (by exact gto_zero)), trivial⟩ rfl) ?_
  rintro i hG
  replace hG : i ≤ l.length := hG
  refine tr_seq ?_
  refine tr_seq ?_
  refine tr_region rfl (.run [] [] rfl (st_move rfl) (.run [] [] rfl (st_move rfl) (.run [] [] rfl (st_len_fro rfl rfl Try.underlying22) (.run [] [] rfl (st_lss rfl rfl rfl) .nil)))) ?_
  refine tr_if (t := decide ((i:Int) < ((pvE l).length : Int))) rfl (fun h1 => ?_) (fun h1 => ?_)
  · skip
    replace h1 := of_decide_eq_true h1
    refine tr_skip ?_
    refine tr_seq ?_
    refine tr_block ?_
    obtain ⟨e, he⟩ : ∃ e, l[i]? = some e := ⟨_, List.getElem?_eq_getElem (by (have hL := pvE_length l; omega))⟩
    have hlte := (List.getElem?_eq_some_iff.1 he).1
    refine tr_region rfl (.run [] [] rfl (st_move rfl) (.run [] [] rfl (st_move rfl) (.run [] [] rfl (st_move rfl) (.run [] [] rfl (st_move rfl) (.run [] [] rfl (st_idx_fro rfl rfl rfl Try.underlying22 Try.sizeOf92 rfl (by omega) (pvE_get he)) (.run [] [] rfl (st_load_fea rfl rfl Try.isAgg92 Try.sizeOf92 (nle rfl)) (.run [2000, 2001, 2002, 2003] [] rfl (st_call rfl 2000 (X := []) en72 rfl (.val nod) (.cons (.agg (.cons (.bor .v) (.cons (.bor .v) (.cons (.bor .v) (.cons (.bor .v) .nil))))) .nil) (by decide) all_nil .nil (toEntry_con e) rfl rfl (nle rfl)) (.run [] [] rfl (st_idx_row0 i rfl rfl rfl rfl Try.underlying26 Try.sizeOf44 rfl rfl (by omega)) (.run [] [] rfl (st_store_row rfl rfl rfl (FlatP.nf (gto_flat (pvE_flat _) (by simp [PV.isV]))) (by exact gto_get hlte) rfl rfl (.cons .v (.cons .v (.cons .v (.cons .v .nil)))) Try.sizeOf44 rfl (nle rfl)) .nil))))))))) ?_
    refine tr_region rfl (.run [] [] rfl (st_move rfl) (.run [] [] rfl (st_addn rfl rfl rfl (by omega)) (.run [] [] rfl (st_assign rfl) .nil))) ?_
    refine nxt (Q := fun _ _ => False) (z := i) (i + 1) ?_ ?_ ?_
    · show (i + 1) ≤ l.length
      omega
    · show l.length - (i + 1) < l.length - i
      omega
    · exact wk_mk ⟨rfl, ⟨rfl, ⟨(int_eq (by omega)), trivial⟩⟩⟩ trivial ⟨(congrArg (fun x => some (4, x)) (by exact gto_step he rfl)), trivial⟩ rfl
  · skip
    replace h1 := of_decide_eq_false h1
    refine tr_exit ?_
    refine tr_seq ?_
    refine tr_region rfl (.run [] [] rfl (st_move rfl) (.run [] [] rfl (st_assign rfl) .nil)) ?_
    refine tr_ret ?_
    exact ends [_] [700] (.cons (.tmp rfl) .nil) (.cons (.one (.row (len := (pvE l).length) (xs := pvE l) (congrArg (fun x => some (4, x)) (gto_all (by omega))) rfl) (.sl _ _ (FlatP.clean (pvE_flat l)))) .nil) (by decide) trivial
end Go.Rl

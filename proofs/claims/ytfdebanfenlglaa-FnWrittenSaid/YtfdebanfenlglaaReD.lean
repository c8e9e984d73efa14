/- Promises of functions, proved by walks over their operations; no conditions beyond those that each theorem states. -/
import Derived.Test.YtfdebanfenlglaaReB
import Derived.Test.YtfdebanfenlglaaRlS
import Derived.RangeFuncNested
import Derived.BigRegionIn
set_option linter.unusedSimpArgs false
set_option linter.unusedVariables false
namespace Go.Rl
open Go.Proofs
set_option maxRecDepth 1000000 in
theorem l14Needed_con (l : List Ent) (s : List Int) (hl : l.length ≤ 2000000) (hs : s.length ≤ 2000000) : Con Try.prog 71 [.one (PV.sl false 4 (pvE l)), .one (PV.sl false 1 (pvI s))] [] [.one (.sl true 1 (pvI (needF l (pointsF s) l.length)))] := by
  refine con_of_tr Try.func71 rfl rfl rfl rfl ?_
  have hle := pvE_length l
  have hls := pvI_length s
  have hlp := pvI_length (pointsF s)
  have hpl := points_len s
  refine tr_seq ?_
  refine tr_region rfl (.run [] [] rfl (st_assign rfl) .nil) ?_
  refine tr_seq ?_
  refine tr_region rfl (.run [1100] [] rfl (st_buildSlice rfl 1100 Try.underlying23 inf2 (nle rfl) (by decide) rfl rfl rfl .nil (by decide) rfl (by decide) rfl (by decide) rfl) (.run [] [] rfl (st_assign rfl) .nil)) ?_
  refine tr_seq ?_
  refine tr_region rfl (.run [1200] [] rfl (st_buildSlice rfl 1200 Try.underlying23 inf2 (nle rfl) (by decide) rfl rfl rfl .nil (by decide) rfl (by decide) rfl (by decide) rfl) (.run [] [] rfl (st_move rfl) (.run [1200] [] rfl (st_append rfl 1200 (ib := 1200) (len := ([] ++ (pvI s)).length) rfl rfl (.row (len := 0) (xs := []) rfl rfl (.inl rfl)) (.fro (pvI_flat _)) Try.underlying23 (sk Try.underlying23 rfl) inf2 rfl (by decide) (by decide) (by decide) List.length_append (by simp only [maxLen, List.length_append, List.length_map, List.length_cons, List.length_nil, List.length_take, List.length_drop, pvE_length, pvI_length, pvT_length]; omega) (by simp only [maxLen, List.length_append, List.length_map, List.length_cons, List.length_nil, List.length_take, List.length_drop, pvE_length, pvI_length, pvT_length]; omega)) (.run [1500] [] rfl (st_buildSlice rfl 1500 Try.underlying23 inf2 (nle rfl) (by decide) rfl rfl rfl (.cons .v .nil) (by decide) rfl (by decide) rfl (by decide) rfl) (.run [1200] [] rfl (st_append rfl 1200 (ib := 1200) (len := (([] ++ (pvI s)) ++ [[PV.v (.int .i64 1000000000000)]]).length) rfl rfl (.row (len := ([] ++ (pvI s)).length) (xs := [] ++ (pvI s)) rfl rfl (.inl rfl)) (.give (len := 1) (xs := [[PV.v (.int .i64 1000000000000)]]) rfl rfl) Try.underlying23 (sk Try.underlying23 rfl) inf2 rfl (by decide) (by decide) (by decide) List.length_append (by simp only [maxLen, List.length_append, List.length_map, List.length_cons, List.length_nil, List.length_take, List.length_drop, pvE_length, pvI_length, pvT_length]; omega) (by simp only [maxLen, List.length_append, List.length_map, List.length_cons, List.length_nil, List.length_take, List.length_drop, pvE_length, pvI_length, pvT_length]; omega)) (.run [] [] rfl (st_assign rfl) .nil)))))) ?_
  have hr1 : ([] ++ (pvI s)) ++ [[PV.v (.int .i64 1000000000000)]] = pvI (pointsF s) := by rw [List.nil_append]; exact pvI_points s
  have hp2 : (.sl 1200 0 ((([] ++ (pvI s)) ++ [[PV.v (.int .i64 1000000000000)]]).length) : AV) = .sl 1200 0 ((pvI (pointsF s)).length) := by simp only [hr1]
  refine tr_wk (s' := mk [(0, .p none (.sl false 4 (pvE l))), (5, .sl 1100 0 0), (6, .sl 1200 0 ((pvI (pointsF s)).length))] [] [(1100, 1, []), (1200, 1, pvI (pointsF s))]) ?_ ?_
  · exact wk_mk ⟨rfl, ⟨rfl, ⟨hp2, trivial⟩⟩⟩ trivial ⟨rfl, ⟨(congrArg (fun x => some (1, x)) hr1), trivial⟩⟩ rfl
  refine tr_seq ?_
  refine tr_seq ?_
  refine tr_region rfl (.run [] [] rfl (st_assign rfl) .nil) ?_
  refine tr_block ?_
  refine tr_wk (wk_ren 1100 1 rfl rfl (by decide)) ?_
  refine tr_loopS (σ := Nat) (fun i => mk [(0, .p none (.sl false 4 (pvE l))), (5, .sl 1 0 ((pvI (needF l (pointsF s) i)).length)), (6, .sl 1200 0 ((pvI (pointsF s)).length)), (7, .p none (.v (.int .i64 (i:Int))))] [] [(1, 1, pvI (needF l (pointsF s) i)), (1200, 1, pvI (pointsF s))]) (fun i => i ≤ l.length) (fun i => l.length - i) 0 (by simp) (wk_mk ⟨rfl, ⟨rfl, ⟨rfl, ⟨(int_eq (by omega)), trivial⟩⟩⟩⟩ trivial ⟨(congrArg (fun x => some (1, x)) (by rfl)), ⟨rfl, trivial⟩⟩ rfl) ?_
  rintro i hG
  replace hG : i ≤ l.length := hG
  have hnl := needF_len l (pointsF s) i
  have hle3 := pvI_length (needF l (pointsF s) i)
  refine tr_seq ?_
  refine tr_seq ?_
  refine tr_region rfl (.run [] [] rfl (st_move rfl) (.run [] [] rfl (st_move rfl) (.run [] [] rfl (st_len_fro rfl rfl Try.underlying26) (.run [] [] rfl (st_lss rfl rfl rfl) .nil)))) ?_
  refine tr_if (t := decide ((i:Int) < ((pvE l).length : Int))) rfl (fun h3 => ?_) (fun h3 => ?_)
  · skip
    replace h3 := of_decide_eq_true h3
    refine tr_skip ?_
    refine tr_seq ?_
    refine tr_block ?_
    refine tr_seq ?_
    obtain ⟨e, he⟩ : ∃ e, l[i]? = some e := ⟨_, List.getElem?_eq_getElem (by omega)⟩
    have hlte := (List.getElem?_eq_some_iff.1 he).1
    refine tr_region rfl (.run [] [] rfl (st_assign rfl) .nil) ?_
    refine tr_seq ?_
    refine tr_seq ?_
    refine tr_region rfl (.run [] [] rfl (st_assign rfl) .nil) ?_
    refine tr_block ?_
    refine tr_loopS (σ := Nat × Bool) (fun (k, nb) => mk [(0, .p none (.sl false 4 (pvE l))), (5, .sl 1 0 ((pvI (needF l (pointsF s) i)).length)), (6, .sl 1200 0 ((pvI (pointsF s)).length)), (7, .p none (.v (.int .i64 (i:Int)))), (8, .p none (.v (.bool nb))), (9, .p none (.v (.int .i64 (k:Int))))] [] [(1, 1, pvI (needF l (pointsF s) i)), (1200, 1, pvI (pointsF s))]) (fun (k, nb) => k ≤ (pointsF s).length ∧ nb = ((pointsF s).take k).any (needC l i e)) (fun (k, nb) => (pointsF s).length - k) (0, false) ⟨Nat.zero_le _, rfl⟩ (wk_mk ⟨rfl, ⟨rfl, ⟨rfl, ⟨rfl, ⟨rfl, ⟨(int_eq (by omega)), trivial⟩⟩⟩⟩⟩⟩ trivial ⟨rfl, ⟨rfl, trivial⟩⟩ rfl) ?_
    rintro ⟨k, nb⟩ hG
    replace hG : k ≤ (pointsF s).length ∧ nb = ((pointsF s).take k).any (needC l i e) := hG
    obtain ⟨hk, hN⟩ := hG
    refine tr_seq ?_
    refine tr_seq ?_
    refine tr_region rfl (.run [] [] rfl (st_move rfl) (.run [] [] rfl (st_move rfl) (.run [] [] rfl (st_len_row rfl rfl Try.underlying23) (.run [] [] rfl (st_lss rfl rfl rfl) .nil)))) ?_
    refine tr_if (t := decide ((k:Int) < ((pvI (pointsF s)).length : Int))) rfl (fun h4 => ?_) (fun h4 => ?_)
    · skip
      replace h4 := of_decide_eq_true h4
      refine tr_skip ?_
      refine tr_seq ?_
      refine tr_block ?_
      refine tr_seq ?_
      refine tr_seq ?_
      obtain ⟨e2, he2⟩ : ∃ e, (pointsF s)[k]? = some e := ⟨_, List.getElem?_eq_getElem (by (have hL := pvI_length (pointsF s); omega))⟩
      have hlte2 := (List.getElem?_eq_some_iff.1 he2).1
      refine tr_regionD mixed rfl (.run [] [] rfl (st_move rfl) (.run [] [] rfl (st_move rfl) (.run [] [] rfl (st_idx_fro rfl rfl rfl Try.underlying26 Try.sizeOf44 rfl (by omega) (pvE_get he)) (.run [] [] rfl (st_faddr_fea rfl rfl Try.underlying44 rfl Try.sizeOf42 (by decide)) (.run [] [] rfl (st_faddr_fea rfl rfl Try.underlying42 rfl Try.sizeOf2 (by decide)) (.run [] [] rfl (st_load_fea1 rfl rfl Try.isAgg2 rfl) (.run [] [] rfl (st_move rfl) (.run [] [] rfl (st_move rfl) (.run [] [] rfl (st_idx_row0 k rfl rfl rfl rfl Try.underlying23 Try.sizeOf2 rfl rfl (by omega)) (.run [] [] rfl (st_load_ea1 rfl rfl rfl (pvI_get he2) Try.isAgg2 rfl) (.run [] [] rfl (st_gtr rfl rfl rfl) .nil))))))))))) (by kernel_rfl) ?_
      refine tr_if (t := decide (e2 < e.seq)) rfl (fun h5 => ?_) (fun h5 => ?_)
      · skip
        replace h5 := of_decide_eq_true h5
        refine tr_exit ?_
        refine tr_wk (s' := mk [(0, .p none (.sl false 4 (pvE l))), (5, .sl 1 0 ((pvI (needF l (pointsF s) i)).length)), (6, .sl 1200 0 ((pvI (pointsF s)).length)), (7, .p none (.v (.int .i64 (i:Int)))), (8, .p none (.v (.bool nb))), (9, .p none (.v (.int .i64 (k:Int))))] [] [(1, 1, pvI (needF l (pointsF s) i)), (1200, 1, pvI (pointsF s))]) ?_ ?_
        · exact wk_mk ⟨rfl, ⟨rfl, ⟨rfl, ⟨rfl, ⟨rfl, ⟨rfl, trivial⟩⟩⟩⟩⟩⟩ trivial ⟨rfl, ⟨rfl, trivial⟩⟩ rfl
        refine tr_region rfl (.run [] [] rfl (st_move rfl) (.run [] [] rfl (st_addn rfl rfl rfl (by omega)) (.run [] [] rfl (st_assign rfl) .nil))) ?_
        refine nxt (Q := fun _ _ => False) (z := (k, nb)) (k + 1, nb) ?_ ?_ ?_
        · show (k + 1) ≤ (pointsF s).length ∧ nb = ((pointsF s).take (k + 1)).any (needC l i e)
          exact ⟨by omega, by rw [any_snoc _ he2, ← hN, needC_no h5]; simp⟩
        · show (pointsF s).length - (k + 1) < (pointsF s).length - k
          omega
        · exact wk_mk ⟨rfl, ⟨rfl, ⟨rfl, ⟨rfl, ⟨rfl, ⟨(int_eq (by omega)), trivial⟩⟩⟩⟩⟩⟩ trivial ⟨rfl, ⟨rfl, trivial⟩⟩ rfl
      · skip
        replace h5 := of_decide_eq_false h5
        refine tr_skip ?_
        refine tr_seq ?_
        refine tr_wk (s' := mk [(0, .p none (.sl false 4 (pvE l))), (5, .sl 1 0 ((pvI (needF l (pointsF s) i)).length)), (6, .sl 1200 0 ((pvI (pointsF s)).length)), (7, .p none (.v (.int .i64 (i:Int)))), (8, .p none (.v (.bool nb))), (9, .p none (.v (.int .i64 (k:Int))))] [] [(1, 1, pvI (needF l (pointsF s) i)), (1200, 1, pvI (pointsF s))]) ?_ ?_
        · exact wk_mk ⟨rfl, ⟨rfl, ⟨rfl, ⟨rfl, ⟨rfl, ⟨rfl, trivial⟩⟩⟩⟩⟩⟩ trivial ⟨rfl, ⟨rfl, trivial⟩⟩ rfl
        rcases bfc (decide ((i:Int) = 0)) with h6 | h6
        · have h6' := h6
          replace h6' := of_decide_eq_false h6'
          obtain ⟨e3, he3⟩ : ∃ e, l[(i - 1 : Nat)]? = some e := ⟨_, List.getElem?_eq_getElem (by (have hL := pvE_length l; omega))⟩
          have hlte3 := (List.getElem?_eq_some_iff.1 he3).1
          rcases bfc (!(decide (e3.user = e.user))) with h7 | h7
          · have h7' := h7
            replace h7' : e3.user = e.user := of_decide_eq_true (bnot_f h7')
            refine tr_regionD mixed rfl (.run [] [] rfl (st_move rfl) (.run [] [] rfl (st_eq (st_eql rfl rfl rfl) (by exact congrArg (fun b => AV.p none (.v (.bool b))) h6)) (.run [] [] rfl (st_move rfl) (.run [] [] rfl (st_move rfl) (.run [] [] rfl (st_move rfl) (.run [] [] rfl (st_eq (st_subn rfl rfl rfl (by omega)) (((show (AV.p none (.v (.int .i64 ((i:Int) - 1)))) = AV.p none (.v (.int .i64 ((i - 1 : Nat) : Int))) from int_eq (by omega))))) (.run [] [] rfl (st_idx_fro rfl rfl rfl Try.underlying26 Try.sizeOf44 rfl (by omega) (pvE_get he3)) (.run [] [] rfl (st_faddr_fea rfl rfl Try.underlying44 rfl Try.sizeOf42 (by decide)) (.run [] [] rfl (st_faddr_fea rfl rfl Try.underlying42 rfl Try.sizeOf9 (by decide)) (.run [] [] rfl (st_load_fea1 rfl rfl Try.isAgg9 rfl) (.run [] [] rfl (st_move rfl) (.run [] [] rfl (st_move rfl) (.run [] [] rfl (st_idx_fro rfl rfl rfl Try.underlying26 Try.sizeOf44 rfl (by omega) (pvE_get he)) (.run [] [] rfl (st_faddr_fea rfl rfl Try.underlying44 rfl Try.sizeOf42 (by decide)) (.run [] [] rfl (st_faddr_fea rfl rfl Try.underlying42 rfl Try.sizeOf9 (by decide)) (.run [] [] rfl (st_load_fea1 rfl rfl Try.isAgg9 rfl) (.run [] [] rfl (st_eq (st_sneq rfl rfl rfl) (by exact congrArg (fun b => AV.p none (.v (.bool b))) h7)) (.run [] [] rfl (st_pick (t := false) rfl rfl) (.run [] [] rfl (st_move rfl) (.run [] [] rfl (st_move rfl) (.run [] [] rfl (st_move rfl) (.run [] [] rfl (st_eq (st_subn rfl rfl rfl (by omega)) (((show (AV.p none (.v (.int .i64 ((i:Int) - 1)))) = AV.p none (.v (.int .i64 ((i - 1 : Nat) : Int))) from int_eq (by omega))))) (.run [] [] rfl (st_idx_fro rfl rfl rfl Try.underlying26 Try.sizeOf44 rfl (by omega) (pvE_get he3)) (.run [] [] rfl (st_faddr_fea rfl rfl Try.underlying44 rfl Try.sizeOf42 (by decide)) (.run [] [] rfl (st_faddr_fea rfl rfl Try.underlying42 rfl Try.sizeOf2 (by decide)) (.run [] [] rfl (st_load_fea1 rfl rfl Try.isAgg2 rfl) (.run [] [] rfl (st_move rfl) (.run [] [] rfl (st_move rfl) (.run [] [] rfl (st_idx_row0 k rfl rfl rfl rfl Try.underlying23 Try.sizeOf2 rfl rfl (by omega)) (.run [] [] rfl (st_load_ea1 rfl rfl rfl (pvI_get he2) Try.isAgg2 rfl) (.run [] [] rfl (st_gtr rfl rfl rfl) (.run [] [] rfl (st_pick (t := false) rfl rfl) (.run [] [] rfl (st_assign rfl) .nil))))))))))))))))))))))))))))))))) (by kernel_rfl) ?_
            refine tr_wk (s' := mk [(0, .p none (.sl false 4 (pvE l))), (5, .sl 1 0 ((pvI (needF l (pointsF s) i)).length)), (6, .sl 1200 0 ((pvI (pointsF s)).length)), (7, .p none (.v (.int .i64 (i:Int)))), (8, .p none (.v (.bool nb))), (9, .p none (.v (.int .i64 (k:Int)))), (10, .p none (.v (.bool (decide (e2 < e3.seq))))), (43, .p none (.sl false 4 (pvE l))), (44, .p none (.v (.int .i64 (i:Int)))), (45, .p none (.v (.int .i64 ((i - 1 : Nat):Int)))), (46, .fea none [PV.v (.string e3.user), PV.v (.int .i64 e3.seq), PV.v (.int .i64 e3.kind), PV.v (.string e3.value)]), (47, .fea none [PV.v (.string e3.user), PV.v (.int .i64 e3.seq), PV.v (.int .i64 e3.kind), PV.v (.string e3.value)]), (48, .fea none [PV.v (.string e3.user), PV.v (.int .i64 e3.seq), PV.v (.int .i64 e3.kind), PV.v (.string e3.value)]), (49, .p none (.v (.string e3.user))), (50, .p none (.sl false 4 (pvE l))), (51, .p none (.v (.int .i64 (i:Int)))), (52, .fea none [PV.v (.string e.user), PV.v (.int .i64 e.seq), PV.v (.int .i64 e.kind), PV.v (.string e.value)]), (53, .fea none [PV.v (.string e.user), PV.v (.int .i64 e.seq), PV.v (.int .i64 e.kind), PV.v (.string e.value)]), (54, .fea none [PV.v (.string e.user), PV.v (.int .i64 e.seq), PV.v (.int .i64 e.kind), PV.v (.string e.value)]), (55, .p none (.v (.string e.user))), (56, .p none (.v (.bool false))), (59, .p none (.sl false 4 (pvE l))), (60, .p none (.v (.int .i64 (i:Int)))), (61, .p none (.v (.int .i64 ((i - 1 : Nat):Int)))), (62, .fea none [PV.v (.string e3.user), PV.v (.int .i64 e3.seq), PV.v (.int .i64 e3.kind), PV.v (.string e3.value)]), (63, .fea none [PV.v (.string e3.user), PV.v (.int .i64 e3.seq), PV.v (.int .i64 e3.kind), PV.v (.string e3.value)]), (64, .fea none [PV.v (.int .i64 e3.seq), PV.v (.int .i64 e3.kind), PV.v (.string e3.value)]), (65, .p none (.v (.int .i64 e3.seq))), (66, .sl 1200 0 ((pvI (pointsF s)).length)), (67, .p none (.v (.int .i64 (k:Int)))), (68, .ea 1200 k 0), (69, .p none (.v (.int .i64 e2))), (70, .p none (.v (.bool (decide (e2 < e3.seq)))))] [] [(1, 1, pvI (needF l (pointsF s) i)), (1200, 1, pvI (pointsF s))]) ?_ ?_
            · exact wk_mk ⟨rfl, ⟨rfl, ⟨rfl, ⟨rfl, ⟨rfl, ⟨rfl, ⟨rfl, ⟨rfl, ⟨rfl, ⟨rfl, ⟨rfl, ⟨rfl, ⟨rfl, ⟨rfl, ⟨rfl, ⟨rfl, ⟨rfl, ⟨rfl, ⟨rfl, ⟨rfl, ⟨rfl, ⟨rfl, ⟨rfl, ⟨rfl, ⟨rfl, ⟨rfl, ⟨rfl, ⟨rfl, ⟨rfl, ⟨rfl, ⟨rfl, ⟨rfl, ⟨rfl, trivial⟩⟩⟩⟩⟩⟩⟩⟩⟩⟩⟩⟩⟩⟩⟩⟩⟩⟩⟩⟩⟩⟩⟩⟩⟩⟩⟩⟩⟩⟩⟩⟩⟩ trivial ⟨rfl, ⟨rfl, trivial⟩⟩ rfl
            rcases bfc nb with h8 | h8
            · have h8' := h8
              refine tr_region rfl (.run [] [] rfl (st_eq (st_move rfl) (by exact congrArg (fun b => AV.p none (.v (.bool b))) h8)) (.run [] [] rfl (st_move rfl) (.run [] [] rfl (st_move rfl) (.run [] [] rfl (st_pick (t := false) rfl rfl) (.run [] [] rfl (st_assign rfl) .nil))))) ?_
              refine tr_region rfl (.run [] [] rfl (st_move rfl) (.run [] [] rfl (st_addn rfl rfl rfl (by omega)) (.run [] [] rfl (st_assign rfl) .nil))) ?_
              refine nxt (Q := fun _ _ => False) (z := (k, nb)) (k + 1, decide (e2 < e3.seq)) ?_ ?_ ?_
              · show (k + 1) ≤ (pointsF s).length ∧ (decide (e2 < e3.seq)) = ((pointsF s).take (k + 1)).any (needC l i e)
                exact ⟨by omega, by rw [any_snoc _ he2, ← hN, needC_seq h5 h6' he3 h7', h8]; simp⟩
              · show (pointsF s).length - (k + 1) < (pointsF s).length - k
                omega
              · exact wk_mk ⟨rfl, ⟨rfl, ⟨rfl, ⟨rfl, ⟨rfl, ⟨(int_eq (by omega)), trivial⟩⟩⟩⟩⟩⟩ trivial ⟨rfl, ⟨rfl, trivial⟩⟩ rfl
            · have h8' := h8
              refine tr_region rfl (.run [] [] rfl (st_eq (st_move rfl) (by exact congrArg (fun b => AV.p none (.v (.bool b))) h8)) (.run [] [] rfl (st_move rfl) (.not rfl (.run [] [] rfl (st_pick (t := true) rfl rfl) (.run [] [] rfl (st_assign rfl) .nil))))) ?_
              refine tr_region rfl (.run [] [] rfl (st_move rfl) (.run [] [] rfl (st_addn rfl rfl rfl (by omega)) (.run [] [] rfl (st_assign rfl) .nil))) ?_
              refine nxt (Q := fun _ _ => False) (z := (k, nb)) (k + 1, true) ?_ ?_ ?_
              · show (k + 1) ≤ (pointsF s).length ∧ true = ((pointsF s).take (k + 1)).any (needC l i e)
                exact ⟨by omega, by rw [any_snoc _ he2, ← hN, needC_seq h5 h6' he3 h7', h8]; simp⟩
              · show (pointsF s).length - (k + 1) < (pointsF s).length - k
                omega
              · exact wk_mk ⟨rfl, ⟨rfl, ⟨rfl, ⟨rfl, ⟨rfl, ⟨(int_eq (by omega)), trivial⟩⟩⟩⟩⟩⟩ trivial ⟨rfl, ⟨rfl, trivial⟩⟩ rfl
          · have h7' := h7
            replace h7' : ¬ (e3.user = e.user) := of_decide_eq_false (bnot_t h7')
            refine tr_regionD mixed rfl (.run [] [] rfl (st_move rfl) (.run [] [] rfl (st_eq (st_eql rfl rfl rfl) (by exact congrArg (fun b => AV.p none (.v (.bool b))) h6)) (.run [] [] rfl (st_move rfl) (.run [] [] rfl (st_move rfl) (.run [] [] rfl (st_move rfl) (.run [] [] rfl (st_eq (st_subn rfl rfl rfl (by omega)) (((show (AV.p none (.v (.int .i64 ((i:Int) - 1)))) = AV.p none (.v (.int .i64 ((i - 1 : Nat) : Int))) from int_eq (by omega))))) (.run [] [] rfl (st_idx_fro rfl rfl rfl Try.underlying26 Try.sizeOf44 rfl (by omega) (pvE_get he3)) (.run [] [] rfl (st_faddr_fea rfl rfl Try.underlying44 rfl Try.sizeOf42 (by decide)) (.run [] [] rfl (st_faddr_fea rfl rfl Try.underlying42 rfl Try.sizeOf9 (by decide)) (.run [] [] rfl (st_load_fea1 rfl rfl Try.isAgg9 rfl) (.run [] [] rfl (st_move rfl) (.run [] [] rfl (st_move rfl) (.run [] [] rfl (st_idx_fro rfl rfl rfl Try.underlying26 Try.sizeOf44 rfl (by omega) (pvE_get he)) (.run [] [] rfl (st_faddr_fea rfl rfl Try.underlying44 rfl Try.sizeOf42 (by decide)) (.run [] [] rfl (st_faddr_fea rfl rfl Try.underlying42 rfl Try.sizeOf9 (by decide)) (.run [] [] rfl (st_load_fea1 rfl rfl Try.isAgg9 rfl) (.run [] [] rfl (st_eq (st_sneq rfl rfl rfl) (by exact congrArg (fun b => AV.p none (.v (.bool b))) h7)) (.run [] [] rfl (st_pick (t := false) rfl rfl) (.run [] [] rfl (st_move rfl) (.not rfl (.not rfl (.not rfl (.not rfl (.not rfl (.not rfl (.not rfl (.not rfl (.not rfl (.not rfl (.not rfl (.not rfl (.run [] [] rfl (st_pick (t := true) rfl rfl) (.run [] [] rfl (st_assign rfl) .nil))))))))))))))))))))))))))))))))) (by kernel_rfl) ?_
            refine tr_wk (s' := mk [(0, .p none (.sl false 4 (pvE l))), (5, .sl 1 0 ((pvI (needF l (pointsF s) i)).length)), (6, .sl 1200 0 ((pvI (pointsF s)).length)), (7, .p none (.v (.int .i64 (i:Int)))), (8, .p none (.v (.bool nb))), (9, .p none (.v (.int .i64 (k:Int)))), (10, .p none (.v (.bool true))), (43, .p none (.sl false 4 (pvE l))), (44, .p none (.v (.int .i64 (i:Int)))), (45, .p none (.v (.int .i64 ((i - 1 : Nat):Int)))), (46, .fea none [PV.v (.string e3.user), PV.v (.int .i64 e3.seq), PV.v (.int .i64 e3.kind), PV.v (.string e3.value)]), (47, .fea none [PV.v (.string e3.user), PV.v (.int .i64 e3.seq), PV.v (.int .i64 e3.kind), PV.v (.string e3.value)]), (48, .fea none [PV.v (.string e3.user), PV.v (.int .i64 e3.seq), PV.v (.int .i64 e3.kind), PV.v (.string e3.value)]), (49, .p none (.v (.string e3.user))), (50, .p none (.sl false 4 (pvE l))), (51, .p none (.v (.int .i64 (i:Int)))), (52, .fea none [PV.v (.string e.user), PV.v (.int .i64 e.seq), PV.v (.int .i64 e.kind), PV.v (.string e.value)]), (53, .fea none [PV.v (.string e.user), PV.v (.int .i64 e.seq), PV.v (.int .i64 e.kind), PV.v (.string e.value)]), (54, .fea none [PV.v (.string e.user), PV.v (.int .i64 e.seq), PV.v (.int .i64 e.kind), PV.v (.string e.value)]), (55, .p none (.v (.string e.user))), (56, .p none (.v (.bool true)))] [] [(1, 1, pvI (needF l (pointsF s) i)), (1200, 1, pvI (pointsF s))]) ?_ ?_
            · exact wk_mk ⟨rfl, ⟨rfl, ⟨rfl, ⟨rfl, ⟨rfl, ⟨rfl, ⟨rfl, ⟨rfl, ⟨rfl, ⟨rfl, ⟨rfl, ⟨rfl, ⟨rfl, ⟨rfl, ⟨rfl, ⟨rfl, ⟨rfl, ⟨rfl, ⟨rfl, ⟨rfl, ⟨rfl, trivial⟩⟩⟩⟩⟩⟩⟩⟩⟩⟩⟩⟩⟩⟩⟩⟩⟩⟩⟩⟩⟩ trivial ⟨rfl, ⟨rfl, trivial⟩⟩ rfl
            rcases bfc nb with h9 | h9
            · have h9' := h9
              refine tr_region rfl (.run [] [] rfl (st_eq (st_move rfl) (by exact congrArg (fun b => AV.p none (.v (.bool b))) h9)) (.run [] [] rfl (st_move rfl) (.run [] [] rfl (st_move rfl) (.run [] [] rfl (st_pick (t := false) rfl rfl) (.run [] [] rfl (st_assign rfl) .nil))))) ?_
              refine tr_region rfl (.run [] [] rfl (st_move rfl) (.run [] [] rfl (st_addn rfl rfl rfl (by omega)) (.run [] [] rfl (st_assign rfl) .nil))) ?_
              refine nxt (Q := fun _ _ => False) (z := (k, nb)) (k + 1, true) ?_ ?_ ?_
              · show (k + 1) ≤ (pointsF s).length ∧ true = ((pointsF s).take (k + 1)).any (needC l i e)
                exact ⟨by omega, by rw [any_snoc _ he2, ← hN, needC_user h5 he3 h7', h9]; simp⟩
              · show (pointsF s).length - (k + 1) < (pointsF s).length - k
                omega
              · exact wk_mk ⟨rfl, ⟨rfl, ⟨rfl, ⟨rfl, ⟨rfl, ⟨(int_eq (by omega)), trivial⟩⟩⟩⟩⟩⟩ trivial ⟨rfl, ⟨rfl, trivial⟩⟩ rfl
            · have h9' := h9
              refine tr_region rfl (.run [] [] rfl (st_eq (st_move rfl) (by exact congrArg (fun b => AV.p none (.v (.bool b))) h9)) (.run [] [] rfl (st_move rfl) (.not rfl (.run [] [] rfl (st_pick (t := true) rfl rfl) (.run [] [] rfl (st_assign rfl) .nil))))) ?_
              refine tr_region rfl (.run [] [] rfl (st_move rfl) (.run [] [] rfl (st_addn rfl rfl rfl (by omega)) (.run [] [] rfl (st_assign rfl) .nil))) ?_
              refine nxt (Q := fun _ _ => False) (z := (k, nb)) (k + 1, true) ?_ ?_ ?_
              · show (k + 1) ≤ (pointsF s).length ∧ true = ((pointsF s).take (k + 1)).any (needC l i e)
                exact ⟨by omega, by rw [any_snoc _ he2, ← hN, needC_user h5 he3 h7', h9]; simp⟩
              · show (pointsF s).length - (k + 1) < (pointsF s).length - k
                omega
              · exact wk_mk ⟨rfl, ⟨rfl, ⟨rfl, ⟨rfl, ⟨rfl, ⟨(int_eq (by omega)), trivial⟩⟩⟩⟩⟩⟩ trivial ⟨rfl, ⟨rfl, trivial⟩⟩ rfl
        · have h6' := h6
          replace h6' := of_decide_eq_true h6'
          refine tr_regionD mixed rfl (.run [] [] rfl (st_move rfl) (.run [] [] rfl (st_eq (st_eql rfl rfl rfl) (by exact congrArg (fun b => AV.p none (.v (.bool b))) h6)) (.run [] [] rfl (st_move rfl) (.not rfl (.not rfl (.not rfl (.not rfl (.not rfl (.not rfl (.not rfl (.not rfl (.not rfl (.not rfl (.not rfl (.not rfl (.not rfl (.not rfl (.run [] [] rfl (st_pick (t := true) rfl rfl) (.run [] [] rfl (st_move rfl) (.not rfl (.not rfl (.not rfl (.not rfl (.not rfl (.not rfl (.not rfl (.not rfl (.not rfl (.not rfl (.not rfl (.not rfl (.run [] [] rfl (st_pick (t := true) rfl rfl) (.run [] [] rfl (st_assign rfl) .nil))))))))))))))))))))))))))))))))) (by kernel_rfl) ?_
          refine tr_wk (s' := mk [(0, .p none (.sl false 4 (pvE l))), (5, .sl 1 0 ((pvI (needF l (pointsF s) i)).length)), (6, .sl 1200 0 ((pvI (pointsF s)).length)), (7, .p none (.v (.int .i64 (i:Int)))), (8, .p none (.v (.bool nb))), (9, .p none (.v (.int .i64 (k:Int)))), (10, .p none (.v (.bool true)))] [] [(1, 1, pvI (needF l (pointsF s) i)), (1200, 1, pvI (pointsF s))]) ?_ ?_
          · exact wk_mk ⟨rfl, ⟨rfl, ⟨rfl, ⟨rfl, ⟨rfl, ⟨rfl, ⟨rfl, trivial⟩⟩⟩⟩⟩⟩⟩ trivial ⟨rfl, ⟨rfl, trivial⟩⟩ rfl
          rcases bfc nb with h10 | h10
          · have h10' := h10
            refine tr_region rfl (.run [] [] rfl (st_eq (st_move rfl) (by exact congrArg (fun b => AV.p none (.v (.bool b))) h10)) (.run [] [] rfl (st_move rfl) (.run [] [] rfl (st_move rfl) (.run [] [] rfl (st_pick (t := false) rfl rfl) (.run [] [] rfl (st_assign rfl) .nil))))) ?_
            refine tr_region rfl (.run [] [] rfl (st_move rfl) (.run [] [] rfl (st_addn rfl rfl rfl (by omega)) (.run [] [] rfl (st_assign rfl) .nil))) ?_
            refine nxt (Q := fun _ _ => False) (z := (k, nb)) (k + 1, true) ?_ ?_ ?_
            · show (k + 1) ≤ (pointsF s).length ∧ true = ((pointsF s).take (k + 1)).any (needC l i e)
              exact ⟨by omega, by rw [any_snoc _ he2, ← hN, needC_zero h5 h6', h10]; simp⟩
            · show (pointsF s).length - (k + 1) < (pointsF s).length - k
              omega
            · exact wk_mk ⟨rfl, ⟨rfl, ⟨rfl, ⟨rfl, ⟨rfl, ⟨(int_eq (by omega)), trivial⟩⟩⟩⟩⟩⟩ trivial ⟨rfl, ⟨rfl, trivial⟩⟩ rfl
          · have h10' := h10
            refine tr_region rfl (.run [] [] rfl (st_eq (st_move rfl) (by exact congrArg (fun b => AV.p none (.v (.bool b))) h10)) (.run [] [] rfl (st_move rfl) (.not rfl (.run [] [] rfl (st_pick (t := true) rfl rfl) (.run [] [] rfl (st_assign rfl) .nil))))) ?_
            refine tr_region rfl (.run [] [] rfl (st_move rfl) (.run [] [] rfl (st_addn rfl rfl rfl (by omega)) (.run [] [] rfl (st_assign rfl) .nil))) ?_
            refine nxt (Q := fun _ _ => False) (z := (k, nb)) (k + 1, true) ?_ ?_ ?_
            · show (k + 1) ≤ (pointsF s).length ∧ true = ((pointsF s).take (k + 1)).any (needC l i e)
              exact ⟨by omega, by rw [any_snoc _ he2, ← hN, needC_zero h5 h6', h10]; simp⟩
            · show (pointsF s).length - (k + 1) < (pointsF s).length - k
              omega
            · exact wk_mk ⟨rfl, ⟨rfl, ⟨rfl, ⟨rfl, ⟨rfl, ⟨(int_eq (by omega)), trivial⟩⟩⟩⟩⟩⟩ trivial ⟨rfl, ⟨rfl, trivial⟩⟩ rfl
    · skip
      replace h4 := of_decide_eq_false h4
      refine tr_exit ?_
      refine tr_seq ?_
      have hnp0 : nb = needP l (pointsF s) i e := by rw [hN, needP_any, List.take_of_length_le (by omega)]
      refine tr_region rfl (.run [] [] rfl (st_move rfl) .nil) ?_
      refine tr_if (t := nb) rfl (fun h11 => ?_) (fun h11 => ?_)
      · skip
        have hnp : needP l (pointsF s) i e = true := by rw [← hnp0]; exact h11
        refine tr_region rfl (.run [] [] rfl (st_move rfl) (.run [] [] rfl (st_move rfl) (.run [7900] [] rfl (st_buildSlice rfl 7900 Try.underlying23 inf2 (nle rfl) (by decide) rfl rfl rfl (.cons .v .nil) (by decide) rfl (by decide) rfl (by decide) rfl) (.run [1] [] rfl (st_append rfl 1 (ib := 1) (len := ((pvI (needF l (pointsF s) i)) ++ [[PV.v (.int .i64 (i:Int))]]).length) rfl rfl (.row (len := (pvI (needF l (pointsF s) i)).length) (xs := pvI (needF l (pointsF s) i)) rfl rfl (.inl rfl)) (.give (len := 1) (xs := [[PV.v (.int .i64 (i:Int))]]) rfl rfl) Try.underlying23 (sk Try.underlying23 rfl) inf2 rfl (by decide) (by decide) (by decide) List.length_append (by simp only [maxLen, List.length_append, List.length_map, List.length_cons, List.length_nil, List.length_take, List.length_drop, pvE_length, pvI_length, pvT_length]; omega) (by simp only [maxLen, List.length_append, List.length_map, List.length_cons, List.length_nil, List.length_take, List.length_drop, pvE_length, pvI_length, pvT_length]; omega)) (.run [] [] rfl (st_assign rfl) .nil))))) ?_
        have hr12 : (pvI (needF l (pointsF s) i)) ++ [[PV.v (.int .i64 (i:Int))]] = pvI (needF l (pointsF s) (i + 1)) := by rw [need_yes he hnp]; exact pvI_snoc _ _
        have hp13 : (.sl 1 0 (((pvI (needF l (pointsF s) i)) ++ [[PV.v (.int .i64 (i:Int))]]).length) : AV) = .sl 1 0 ((pvI (needF l (pointsF s) (i + 1))).length) := by simp only [hr12]
        refine tr_wk (s' := mk [(0, .p none (.sl false 4 (pvE l))), (5, .sl 1 0 ((pvI (needF l (pointsF s) (i + 1))).length)), (6, .sl 1200 0 ((pvI (pointsF s)).length)), (7, .p none (.v (.int .i64 (i:Int))))] [] [(1, 1, pvI (needF l (pointsF s) (i + 1))), (1200, 1, pvI (pointsF s))]) ?_ ?_
        · exact wk_mk ⟨rfl, ⟨hp13, ⟨rfl, ⟨rfl, trivial⟩⟩⟩⟩ trivial ⟨(congrArg (fun x => some (1, x)) hr12), ⟨rfl, trivial⟩⟩ rfl
        refine tr_region rfl (.run [] [] rfl (st_move rfl) (.run [] [] rfl (st_addn rfl rfl rfl (by omega)) (.run [] [] rfl (st_assign rfl) .nil))) ?_
        refine nxt (Q := fun _ _ => False) (z := i) (i + 1) ?_ ?_ ?_
        · show (i + 1) ≤ l.length
          omega
        · show l.length - (i + 1) < l.length - i
          omega
        · exact wk_mk ⟨rfl, ⟨rfl, ⟨rfl, ⟨(int_eq (by omega)), trivial⟩⟩⟩⟩ trivial ⟨rfl, ⟨rfl, trivial⟩⟩ rfl
      · skip
        refine tr_skip ?_
        have hnp : needP l (pointsF s) i e = false := by rw [← hnp0]; exact h11
        refine tr_region rfl (.run [] [] rfl (st_move rfl) (.run [] [] rfl (st_addn rfl rfl rfl (by omega)) (.run [] [] rfl (st_assign rfl) .nil))) ?_
        refine nxt (Q := fun _ _ => False) (z := i) (i + 1) ?_ ?_ ?_
        · show (i + 1) ≤ l.length
          omega
        · show l.length - (i + 1) < l.length - i
          omega
        · exact wk_mk ⟨rfl, ⟨(congrArg (fun x => AV.sl 1 0 (pvI x).length) (need_no he hnp).symm), ⟨rfl, ⟨(int_eq (by omega)), trivial⟩⟩⟩⟩ trivial ⟨(congrArg (fun x => some (1, x)) (by rw [need_no he hnp])), ⟨rfl, trivial⟩⟩ rfl
  · skip
    replace h3 := of_decide_eq_false h3
    refine tr_exit ?_
    refine tr_seq ?_
    have hil : i = l.length := (by omega)
    rw [← hil]
    refine tr_region rfl (.run [] [] rfl (st_move rfl) (.run [] [] rfl (st_assign rfl) .nil)) ?_
    refine tr_ret ?_
    exact ends [_] [1] (.cons (.tmp rfl) .nil) (.cons (.one (.row (len := (pvI (needF l (pointsF s) i)).length) (xs := pvI (needF l (pointsF s) i)) rfl rfl) (.sl _ _ (FlatP.clean (pvI_flat _)))) .nil) (by decide) trivial
end Go.Rl
namespace Go.Rl
open Go.Proofs
theorem inf42 : (Try.prog.info? 42).map (fun i => (i.zero, i.size, i.bytes)) = some (some (.agg #[.string ⟨#[]⟩, .int .i64 0, .int .i64 0]), 3, 32) := by kernel_rfl
theorem en31 : ∀ vs w, (callFunc 31 vs).run Try.prog w = .ok (.enter 31 vs) w := enters Try.func31 (by decide) rfl
theorem en32 : ∀ vs w, (callFunc 32 vs).run Try.prog w = .ok (.enter 32 vs) w := enters Try.func32 (by decide) rfl
theorem en71 : ∀ vs w, (callFunc 71 vs).run Try.prog w = .ok (.enter 71 vs) w := enters Try.func71 (by decide) rfl
end Go.Rl
namespace Go.Rl
open Go.Proofs
end Go.Rl
namespace Go.Rl
open Go.Proofs
def wE (e : Ent) : Nat := e.user.size + e.value.size
end Go.Rl
namespace Go.Rl
open Go.Proofs
theorem inf5 : (Try.prog.info? 5).map (fun i => (i.zero, i.size, i.bytes)) = some (some (.int .u8 0), 1, 1) := by kernel_rfl
def markE (k i : Nat) : Ent := ⟨markT (k + 4 * i), ((k + 4 * i : Nat) : Int) + 1, ((k + 4 * i : Nat) : Int) + 1 + 1, markT (k + 4 * i + 3)⟩
end Go.Rl
namespace Go.Rl
open Go.Proofs
theorem inf9 : (Try.prog.info? 9).map (fun i => (i.zero, i.size, i.bytes)) = some (some (.string ⟨#[]⟩), 1, 16) := by kernel_rfl
set_option maxRecDepth 1000000 in
theorem compactT_con (l : List ByteArray) (hl : l.length ≤ 2000000) : Con Try.prog 166 [.one (.sl true 1 (pvT l))] [none] [.one (.sl true 1 (pvT (compactF l)))] := by
  refine con_of_tr Try.func166 rfl rfl rfl rfl ?_
  have hle := pvT_length l
  refine tr_seq ?_
  refine tr_region rfl (.run [] [] rfl (st_assign rfl) .nil) ?_
  refine tr_seq ?_
  refine tr_seq ?_
  refine tr_region rfl (.run [] [] rfl (st_move rfl) (.run [] [] rfl (st_len_row rfl rfl Try.underlying147) (.run [] [] rfl (st_lss rfl rfl rfl) .nil))) ?_
  refine tr_if (t := decide (((pvT l).length : Int) < 2)) rfl (fun h1 => ?_) (fun h1 => ?_)
  · skip
    replace h1 := of_decide_eq_true h1
    refine tr_seq ?_
    have hs : compactF l = l := cpt_short (by omega)
    rw [hs]
    refine tr_region rfl (.run [] [] rfl (st_move rfl) (.run [] [] rfl (st_assign rfl) .nil)) ?_
    refine tr_ret ?_
    exact ends [_] [100000] (.cons (.tmp rfl) .nil) (.cons (.one (.row (len := (pvT l).length) (xs := pvT l) rfl rfl) (.sl _ _ (FlatP.clean (pvT_flat _)))) .nil) (by decide) ⟨trivial, trivial⟩
  · skip
    replace h1 := of_decide_eq_false h1
    refine tr_skip ?_
    refine tr_seq ?_
    refine tr_seq ?_
    refine tr_region rfl (.run [] [] rfl (st_assign rfl) .nil) ?_
    refine tr_block ?_
    refine tr_loopS (σ := Nat) (fun k => mk [(0, .sl 100000 0 ((pvT l).length)), (3, .p none (.v (.int .i64 (k:Int))))] [] [(100000, 1, pvT l)]) (fun k => 1 ≤ k ∧ k ≤ l.length ∧ compactN l k = l.take k) (fun k => l.length - k) 1 ⟨Nat.le_refl _, by omega, cpt_one (by omega)⟩ (wk_mk ⟨rfl, ⟨(int_eq (by omega)), trivial⟩⟩ trivial ⟨rfl, trivial⟩ rfl) ?_
    rintro k hG
    replace hG : 1 ≤ k ∧ k ≤ l.length ∧ compactN l k = l.take k := hG
    obtain ⟨h1k, hkl, hC⟩ := hG
    refine tr_seq ?_
    refine tr_seq ?_
    refine tr_region rfl (.run [] [] rfl (st_move rfl) (.run [] [] rfl (st_move rfl) (.run [] [] rfl (st_len_row rfl rfl Try.underlying147) (.run [] [] rfl (st_lss rfl rfl rfl) .nil)))) ?_
    refine tr_if (t := decide ((k:Int) < ((pvT l).length : Int))) rfl (fun h2 => ?_) (fun h2 => ?_)
    · skip
      replace h2 := of_decide_eq_true h2
      refine tr_skip ?_
      refine tr_seq ?_
      refine tr_block ?_
      refine tr_seq ?_
      obtain ⟨e, he⟩ : ∃ e, l[k]? = some e := ⟨_, List.getElem?_eq_getElem (by (have hL := pvT_length l; omega))⟩
      have hlte := (List.getElem?_eq_some_iff.1 he).1
      obtain ⟨e2, he2⟩ : ∃ e, l[k - 1]? = some e := ⟨_, List.getElem?_eq_getElem (by (have hL := pvT_length l; omega))⟩
      have hlte2 := (List.getElem?_eq_some_iff.1 he2).1
      refine tr_regionD mixed rfl (.run [] [] rfl (st_move rfl) (.run [] [] rfl (st_move rfl) (.run [] [] rfl (st_idx_row0 k rfl rfl rfl rfl Try.underlying147 Try.sizeOf9 rfl rfl (by omega)) (.run [] [] rfl (st_load_ea1 rfl rfl rfl (pvT_get he) Try.isAgg9 rfl) (.run [] [] rfl (st_move rfl) (.run [] [] rfl (st_move rfl) (.run [] [] rfl (st_eq (st_subn rfl rfl rfl (by omega)) ((show (AV.p none (.v (.int .i64 ((k:Int) - 1)))) = AV.p none (.v (.int .i64 ((k - 1 : Nat) : Int))) from int_eq (by omega)))) (.run [] [] rfl (st_idx_row0 (k - 1) rfl rfl rfl rfl Try.underlying147 Try.sizeOf9 rfl rfl (by omega)) (.run [] [] rfl (st_load_ea1 rfl rfl rfl (pvT_get he2) Try.isAgg9 rfl) (.run [] [] rfl (st_seql rfl rfl rfl) .nil)))))))))) (by kernel_rfl) ?_
      refine tr_if (t := decide (e = e2)) rfl (fun h3 => ?_) (fun h3 => ?_)
      · skip
        replace h3 := of_decide_eq_true h3
        refine tr_seq ?_
        have hd0 : compactN l (k + 1) = compactN l k := compactN_dup h1k he2 he h3
        refine tr_wk (s' := mk [(0, .sl 100000 0 ((pvT l).length)), (3, .p none (.v (.int .i64 (k:Int))))] [] [(100000, 1, pvT l)]) ?_ ?_
        · exact wk_mk ⟨rfl, ⟨rfl, trivial⟩⟩ trivial ⟨rfl, trivial⟩ rfl
        refine tr_region rfl (.run [] [] rfl (st_move rfl) (.run [] [] rfl (st_move rfl) (.run [] [] rfl (st_cut_row0 (l := k) (h := (pvT l).length) rfl rfl rfl Try.underlying147 Try.sizeOf9 (.at_ rfl rfl) .no (by omega) (Nat.le_refl _) rfl) (.run [] [] rfl (st_assign rfl) .nil)))) ?_
        refine tr_seq ?_
        refine tr_seq ?_
        refine tr_region rfl (.run [] [] rfl (st_assign rfl) .nil) ?_
        refine tr_block ?_
        refine tr_loopS (σ := Nat) (fun q => mk [(0, .sl 100000 0 ((pvT l).length)), (3, .p none (.v (.int .i64 ((compactN l (k + q)).length : Int)))), (4, .sl 100000 k (((pvT l).length) - k)), (5, .p none (.v (.int .i64 (q:Int))))] [] [(100000, 1, pvT (compactN l (k + q) ++ l.drop (compactN l (k + q)).length))]) (fun q => 1 ≤ q ∧ k + q ≤ l.length ∧ (compactN l (k + q)).length + 1 ≤ k + q) (fun q => l.length - q) 1 ⟨Nat.le_refl _, by omega, by rw [hd0, hC, List.length_take]; omega⟩ (wk_mk ⟨rfl, ⟨(int_eq (by rw [hd0, hC, List.length_take]; omega)), ⟨rfl, ⟨(int_eq (by omega)), trivial⟩⟩⟩⟩ trivial ⟨(congrArg (fun x => some (1, x)) (by rw [hd0, cpt_start hC hkl])), trivial⟩ rfl) ?_
        rintro q hG
        replace hG : 1 ≤ q ∧ k + q ≤ l.length ∧ (compactN l (k + q)).length + 1 ≤ k + q := hG
        obtain ⟨h1q, hql, hcq⟩ := hG
        have hlr := pvT_length (compactN l (k + q) ++ l.drop (compactN l (k + q)).length)
        have hlc : (compactN l (k + q) ++ l.drop (compactN l (k + q)).length).length = l.length := by rw [List.length_append, List.length_drop]; omega
        refine tr_seq ?_
        refine tr_seq ?_
        refine tr_region rfl (.run [] [] rfl (st_move rfl) (.run [] [] rfl (st_move rfl) (.run [] [] rfl (st_len_row rfl rfl Try.underlying147) (.run [] [] rfl (st_lss rfl rfl rfl) .nil)))) ?_
        refine tr_if (t := decide ((q:Int) < ((((pvT l).length) - k : Nat) : Int))) rfl (fun h4 => ?_) (fun h4 => ?_)
        · skip
          replace h4 := of_decide_eq_true h4
          refine tr_skip ?_
          refine tr_seq ?_
          refine tr_block ?_
          refine tr_seq ?_
          obtain ⟨y, hy⟩ : ∃ y, l[k + q]? = some y := ⟨_, List.getElem?_eq_getElem (by omega)⟩
          obtain ⟨x, hx⟩ : ∃ x, l[k + (q - 1)]? = some x := ⟨_, List.getElem?_eq_getElem (by omega)⟩
          have hx2 : l[k + q - 1]? = some x := by rw [show k + q - 1 = k + (q - 1) by omega]; exact hx
          obtain ⟨w, hw⟩ : ∃ w, l[(compactN l (k + q)).length]? = some w := ⟨_, List.getElem?_eq_getElem (by omega)⟩
          refine tr_regionD mixed rfl (.run [] [] rfl (st_move rfl) (.run [] [] rfl (st_move rfl) (.run [] [] rfl (st_idx_rowK q rfl rfl rfl rfl Try.underlying147 Try.sizeOf9 rfl rfl (by omega)) (.run [] [] rfl (st_load_ea1 rfl rfl rfl (by exact pvT_get (by rw [cpt_get (by omega)]; exact hy)) Try.isAgg9 rfl) (.run [] [] rfl (st_move rfl) (.run [] [] rfl (st_move rfl) (.run [] [] rfl (st_eq (st_subn rfl rfl rfl (by omega)) ((show (AV.p none (.v (.int .i64 ((q:Int) - 1)))) = AV.p none (.v (.int .i64 ((q - 1 : Nat) : Int))) from int_eq (by omega)))) (.run [] [] rfl (st_idx_rowK (q - 1) rfl rfl rfl rfl Try.underlying147 Try.sizeOf9 rfl rfl (by omega)) (.run [] [] rfl (st_load_ea1 rfl rfl rfl (by exact pvT_get (by rw [cpt_get (by omega)]; exact hx)) Try.isAgg9 rfl) (.run [] [] rfl (st_sneq rfl rfl rfl) .nil)))))))))) (by kernel_rfl) ?_
          refine tr_if (t := (!(decide (y = x)))) rfl (fun h5 => ?_) (fun h5 => ?_)
          · skip
            replace h5 : ¬ (y = x) := of_decide_eq_false (bnot_t h5)
            refine tr_seq ?_
            refine tr_wk (s' := mk [(0, .sl 100000 0 ((pvT l).length)), (3, .p none (.v (.int .i64 ((compactN l (k + q)).length : Int)))), (4, .sl 100000 k (((pvT l).length) - k)), (5, .p none (.v (.int .i64 (q:Int))))] [] [(100000, 1, pvT (compactN l (k + q) ++ l.drop (compactN l (k + q)).length))]) ?_ ?_
            · exact wk_mk ⟨rfl, ⟨rfl, ⟨rfl, ⟨rfl, trivial⟩⟩⟩⟩ trivial ⟨rfl, trivial⟩ rfl
            refine tr_region rfl (.run [] [] rfl (st_move rfl) (.run [] [] rfl (st_move rfl) (.run [] [] rfl (st_move rfl) (.run [] [] rfl (st_move rfl) (.run [] [] rfl (st_idx_rowK q rfl rfl rfl rfl Try.underlying147 Try.sizeOf9 rfl rfl (by omega)) (.run [] [] rfl (st_load_ea1 rfl rfl rfl (by exact pvT_get (by rw [cpt_get (by omega)]; exact hy)) Try.isAgg9 rfl) (.run [] [] rfl (st_idx_row0 ((compactN l (k + q)).length) rfl rfl rfl rfl Try.underlying147 Try.sizeOf9 rfl rfl (by omega)) (.run [] [] rfl (st_store_row rfl rfl rfl (FlatP.nf (pvT_flat _)) (by exact pvT_get (by rw [cpt_get (Nat.le_refl _)]; exact hw)) rfl rfl (.cons .v .nil) Try.sizeOf9 rfl (nle rfl)) .nil)))))))) ?_
            refine tr_region rfl (.run [] [] rfl (st_move rfl) (.run [] [] rfl (st_addn rfl rfl rfl (by omega)) (.run [] [] rfl (st_assign rfl) .nil))) ?_
            refine tr_region rfl (.run [] [] rfl (st_move rfl) (.run [] [] rfl (st_addn rfl rfl rfl (by omega)) (.run [] [] rfl (st_assign rfl) .nil))) ?_
            refine nxt (Q := fun _ _ => False) (z := q) (q + 1) ?_ ?_ ?_
            · show 1 ≤ (q + 1) ∧ k + (q + 1) ≤ l.length ∧ (compactN l (k + (q + 1))).length + 1 ≤ k + (q + 1)
              exact ⟨by omega, by omega, by rw [show k + (q + 1) = k + q + 1 from rfl, compactN_new hx2 hy h5]; simp only [List.length_append, List.length_cons, List.length_nil]; omega⟩
            · show l.length - (q + 1) < l.length - q
              omega
            · exact wk_mk ⟨rfl, ⟨(int_eq (by rw [show k + (q + 1) = k + q + 1 from rfl, compactN_new hx2 hy h5]; simp)), ⟨rfl, ⟨(int_eq (by omega)), trivial⟩⟩⟩⟩ trivial ⟨(congrArg (fun x => some (1, x)) (by rw [show k + (q + 1) = k + q + 1 from rfl, compactN_new hx2 hy h5, ← cpt_set (by omega)]; simp [pvT, List.map_set, over])), trivial⟩ rfl
          · skip
            replace h5 : y = x := of_decide_eq_true (bnot_f h5)
            refine tr_skip ?_
            refine tr_wk (s' := mk [(0, .sl 100000 0 ((pvT l).length)), (3, .p none (.v (.int .i64 ((compactN l (k + q)).length : Int)))), (4, .sl 100000 k (((pvT l).length) - k)), (5, .p none (.v (.int .i64 (q:Int))))] [] [(100000, 1, pvT (compactN l (k + q) ++ l.drop (compactN l (k + q)).length))]) ?_ ?_
            · exact wk_mk ⟨rfl, ⟨rfl, ⟨rfl, ⟨rfl, trivial⟩⟩⟩⟩ trivial ⟨rfl, trivial⟩ rfl
            refine tr_region rfl (.run [] [] rfl (st_move rfl) (.run [] [] rfl (st_addn rfl rfl rfl (by omega)) (.run [] [] rfl (st_assign rfl) .nil))) ?_
            refine nxt (Q := fun _ _ => False) (z := q) (q + 1) ?_ ?_ ?_
            · show 1 ≤ (q + 1) ∧ k + (q + 1) ≤ l.length ∧ (compactN l (k + (q + 1))).length + 1 ≤ k + (q + 1)
              exact ⟨by omega, by omega, by rw [show k + (q + 1) = k + q + 1 from rfl, compactN_dup (by omega) hx2 hy h5]; omega⟩
            · show l.length - (q + 1) < l.length - q
              omega
            · exact wk_mk ⟨rfl, ⟨(int_eq (by rw [show k + (q + 1) = k + q + 1 from rfl, compactN_dup (by omega) hx2 hy h5])), ⟨rfl, ⟨(int_eq (by omega)), trivial⟩⟩⟩⟩ trivial ⟨(congrArg (fun x => some (1, x)) (by rw [show k + (q + 1) = k + q + 1 from rfl, compactN_dup (by omega) hx2 hy h5])), trivial⟩ rfl
        · skip
          replace h4 := of_decide_eq_false h4
          refine tr_exit ?_
          refine tr_seq ?_
          have hlr0 := pvT_length (compactN l (k + q) ++ l.drop (compactN l (k + q)).length)
          have hlc0 : (compactN l (k + q) ++ l.drop (compactN l (k + q)).length).length = l.length := by rw [List.length_append, List.length_drop]; omega
          have hkq : k + q = l.length := (by omega)
          refine tr_region rfl (.run [] [] rfl (st_move rfl) (.run [] [] rfl (st_move rfl) (.run [] [] rfl (st_cut_row0 (l := (compactN l (k + q)).length) (h := (pvT l).length) rfl rfl rfl Try.underlying147 Try.sizeOf9 (.at_ rfl rfl) .no (by omega) (Nat.le_refl _) rfl) (.run [] [] rfl (st_clear (lo := (compactN l (k + q)).length) (len := (pvT l).length - (compactN l (k + q)).length) rfl rfl rfl (pvT_flat _) Try.underlying147 inf9 rfl rfl (by rw [hlr0, hlc0]; omega)) .nil)))) ?_
          refine tr_seq ?_
          have hs : compactF l = compactN l (k + q) := by rw [compactF, hkq]
          rw [hs]
          refine tr_region rfl (.run [] [] rfl (st_move rfl) (.run [] [] rfl (st_move rfl) (.run [] [] rfl (st_cut_row0 (l := 0) (h := (compactN l (k + q)).length) rfl rfl rfl Try.underlying147 Try.sizeOf9 .no (.at_ rfl rfl) (Nat.zero_le _) (by omega) rfl) (.run [] [] rfl (st_assign rfl) .nil)))) ?_
          refine tr_ret ?_
          exact ends [_] [100000] (.cons (.tmp rfl) .nil) (.cons (.one (gv_eq (.pre (len := ((compactN l (k + q)).length) - 0) (xs := (pvT (compactN l (k + q) ++ l.drop (compactN l (k + q)).length)).take (compactN l (k + q)).length ++ List.replicate ((pvT l).length - (compactN l (k + q)).length) [PV.v (.string ⟨#[]⟩)]) rfl (by rw [List.length_append, List.length_take, hlr0, List.length_replicate]; omega) cpt_flat) (congrArg (PV.sl true 1) (cpt_row rfl))) (.sl _ _ (FlatP.clean (pvT_flat _)))) .nil) (by decide) ⟨trivial, trivial⟩
      · skip
        replace h3 := of_decide_eq_false h3
        refine tr_skip ?_
        refine tr_wk (s' := mk [(0, .sl 100000 0 ((pvT l).length)), (3, .p none (.v (.int .i64 (k:Int))))] [] [(100000, 1, pvT l)]) ?_ ?_
        · exact wk_mk ⟨rfl, ⟨rfl, trivial⟩⟩ trivial ⟨rfl, trivial⟩ rfl
        refine tr_region rfl (.run [] [] rfl (st_move rfl) (.run [] [] rfl (st_addn rfl rfl rfl (by omega)) (.run [] [] rfl (st_assign rfl) .nil))) ?_
        refine nxt (Q := fun _ _ => False) (z := k) (k + 1) ?_ ?_ ?_
        · show 1 ≤ (k + 1) ∧ (k + 1) ≤ l.length ∧ compactN l (k + 1) = l.take (k + 1)
          exact ⟨by omega, by omega, cpt_next hC he2 he h3⟩
        · show l.length - (k + 1) < l.length - k
          omega
        · exact wk_mk ⟨rfl, ⟨(int_eq (by omega)), trivial⟩⟩ trivial ⟨rfl, trivial⟩ rfl
    · skip
      replace h2 := of_decide_eq_false h2
      refine tr_exit ?_
      refine tr_seq ?_
      have hkk : k = l.length := (by omega)
      have hs : compactF l = l := by rw [compactF, ← hkk, hC, List.take_of_length_le (by omega)]
      rw [hs]
      refine tr_region rfl (.run [] [] rfl (st_move rfl) (.run [] [] rfl (st_assign rfl) .nil)) ?_
      refine tr_ret ?_
      exact ends [_] [100000] (.cons (.tmp rfl) .nil) (.cons (.one (.row (len := (pvT l).length) (xs := pvT l) rfl rfl) (.sl _ _ (FlatP.clean (pvT_flat _)))) .nil) (by decide) ⟨trivial, trivial⟩
end Go.Rl
namespace Go.Rl
open Go.Proofs
theorem en166 : ∀ vs w, (callFunc 166 vs).run Try.prog w = .ok (.enter 166 vs) w := enters Try.func166 (by decide) rfl
def usrN (l : List Ent) (i : Nat) : List ByteArray := (l.take i).map fun e => e.user
theorem usrN_len {l : List Ent} {i : Nat} (h : i ≤ l.length) : (usrN l i).length = i := by simp [usrN]; omega
theorem usrN_all {l : List Ent} {i : Nat} (h : l.length ≤ i) : compactF (usrN l i) = usersF l := by rw [usrN, List.take_of_length_le h]; rfl
set_option maxRecDepth 1000000 in
theorem users_con (l : List Ent) (hl : l.length ≤ 2000000) : Con Try.prog 135 [.one (PV.sl false 4 (pvE l))] [] [.one (.sl true 1 (pvT (usersF l)))] := by
  refine con_of_tr Try.func135 rfl rfl rfl rfl ?_
  have hle := pvE_length l
  refine tr_seq ?_
  refine tr_region rfl (.run [] [] rfl (st_assign rfl) .nil) ?_
  refine tr_seq ?_
  refine tr_region rfl (.run [600] [] rfl (st_buildSlice rfl 600 Try.underlying147 inf9 (nle rfl) (by decide) rfl rfl rfl .nil (by decide) rfl (by decide) rfl (by decide) rfl) (.run [] [] rfl (st_assign rfl) .nil)) ?_
  refine tr_seq ?_
  refine tr_seq ?_
  refine tr_region rfl (.run [] [] rfl (st_move rfl) (.run [] [] rfl (st_len_fro rfl rfl Try.underlying26) (.run [] [] rfl (st_move rfl) .nil))) ?_
  refine tr_block ?_
  refine tr_wk (wk_ren 600 1 rfl rfl (by decide)) ?_
  refine tr_loopS (σ := Nat) (fun i => mk [(3, .sl 1 0 ((pvT (usrN l i)).length)), (7, .p none (.sl false 4 (pvE l))), (8, .p none (.v (.int .i64 ((pvE l).length : Int)))), (9, .p none (.v (.int .i64 (i:Int))))] [] [(1, 1, pvT (usrN l i))]) (fun i => i ≤ l.length) (fun i => l.length - i) 0 (by simp) (wk_mk ⟨rfl, ⟨rfl, ⟨rfl, ⟨(int_eq (by omega)), trivial⟩⟩⟩⟩ trivial ⟨(congrArg (fun x => some (1, x)) (by rfl)), trivial⟩ rfl) ?_
  rintro i hG
  replace hG : i ≤ l.length := hG
  have hlu := pvT_length (usrN l i)
  have hun := usrN_len hG
  refine tr_seq ?_
  refine tr_region rfl (.run [] [] rfl (st_lss rfl rfl rfl) .nil) ?_
  refine tr_seq ?_
  refine tr_if (t := decide ((i:Int) < ((pvE l).length : Int))) rfl (fun h1 => ?_) (fun h1 => ?_)
  · skip
    replace h1 := of_decide_eq_true h1
    refine tr_skip ?_
    refine tr_seq ?_
    refine tr_block ?_
    refine tr_seq ?_
    obtain ⟨e, he⟩ : ∃ e, l[i]? = some e := ⟨_, List.getElem?_eq_getElem (by (have hL := pvE_length l; omega))⟩
    have hlte := (List.getElem?_eq_some_iff.1 he).1
    refine tr_region rfl (.run [] [] rfl (st_idx_fro rfl rfl rfl Try.underlying26 Try.sizeOf44 rfl (by omega) (pvE_get he)) (.run [] [] rfl (st_load_fea rfl rfl Try.isAgg44 Try.sizeOf44 (nle rfl)) (.run [] [5] rfl (st_allocZ rfl 5 inf44 rfl (by decide) rfl (by decide)) (.run [] [] rfl (st_store_box rfl rfl rfl rfl rfl Try.sizeOf44 rfl (nle rfl)) .nil)))) ?_
    refine tr_region rfl (.run [] [] rfl (st_move rfl) (.run [] [] rfl (st_faddr_box rfl rfl Try.underlying44 rfl Try.sizeOf42 (by decide)) (.run [] [] rfl (st_faddr_box rfl rfl Try.underlying42 rfl Try.sizeOf9 (by decide)) (.run [] [] rfl (st_load_box1 rfl rfl rfl Try.isAgg9 rfl) (.run [1700] [] rfl (st_buildSlice rfl 1700 Try.underlying147 inf9 (nle rfl) (by decide) rfl rfl rfl (.cons .v .nil) (by decide) rfl (by decide) rfl (by decide) rfl) (.run [1] [] rfl (st_append rfl 1 (ib := 1) (len := ((pvT (usrN l i)) ++ [[PV.v (.string e.user)]]).length) rfl rfl (.row (len := (pvT (usrN l i)).length) (xs := pvT (usrN l i)) rfl rfl (.inl rfl)) (.give (len := 1) (xs := [[PV.v (.string e.user)]]) rfl rfl) Try.underlying147 (sk Try.underlying147 rfl) inf9 rfl (by decide) (by decide) (by decide) List.length_append (by simp only [maxLen, List.length_append, List.length_map, List.length_cons, List.length_nil, List.length_take, List.length_drop, pvE_length, pvI_length, pvT_length]; omega) (by simp only [maxLen, List.length_append, List.length_map, List.length_cons, List.length_nil, List.length_take, List.length_drop, pvE_length, pvI_length, pvT_length]; omega)) (.run [] [] rfl (st_assign rfl) .nil))))))) ?_
    have hr2 : (pvT (usrN l i)) ++ [[PV.v (.string e.user)]] = pvT (usrN l (i + 1)) := by simp [pvT, usrN, List.take_add_one, he]
    have hp3 : (.sl 1 0 (((pvT (usrN l i)) ++ [[PV.v (.string e.user)]]).length) : AV) = .sl 1 0 ((pvT (usrN l (i + 1))).length) := by simp only [hr2]
    refine tr_wk (s' := mk [(3, .sl 1 0 ((pvT (usrN l (i + 1))).length)), (7, .p none (.sl false 4 (pvE l))), (8, .p none (.v (.int .i64 ((pvE l).length : Int)))), (9, .p none (.v (.int .i64 (i:Int))))] [] [(1, 1, pvT (usrN l (i + 1)))]) ?_ ?_
    · exact wk_mk ⟨hp3, ⟨rfl, ⟨rfl, ⟨rfl, trivial⟩⟩⟩⟩ trivial ⟨(congrArg (fun x => some (1, x)) hr2), trivial⟩ rfl
    refine tr_region rfl (.run [] [] rfl (st_addn rfl rfl rfl (by omega)) (.run [] [] rfl (st_move rfl) .nil)) ?_
    refine nxt (Q := fun _ _ => False) (z := i) (i + 1) ?_ ?_ ?_
    · show (i + 1) ≤ l.length
      omega
    · show l.length - (i + 1) < l.length - i
      omega
    · exact wk_mk ⟨rfl, ⟨rfl, ⟨rfl, ⟨(int_eq (by omega)), trivial⟩⟩⟩⟩ trivial ⟨rfl, trivial⟩ rfl
  · skip
    replace h1 := of_decide_eq_false h1
    refine tr_exit ?_
    refine tr_seq ?_
    rw [← usrN_all (i := i) (by omega)]
    refine tr_region rfl (.run [] [] rfl (st_move rfl) (.run [1, 2100] [] rfl (st_call rfl 2100 (X := [1]) en166 rfl (.val nod) (.cons (.one (.own (len := (pvT (usrN l i)).length) (xs := pvT (usrN l i)) rfl rfl)) .nil) (by decide) (all_cons rfl all_nil) (.gone .nil) (compactT_con (usrN l i) (by omega)) rfl rfl (nle rfl)) (.run [] [] rfl (st_assign rfl) .nil))) ?_
    refine tr_ret ?_
    exact ends [_] [2100] (.cons (.tmp rfl) .nil) (.cons (.one (.row (len := (pvT (compactF (usrN l i))).length) (xs := pvT (compactF (usrN l i))) rfl rfl) (.sl _ _ (FlatP.clean (pvT_flat _)))) .nil) (by decide) trivial
end Go.Rl
namespace Go.Rl
def pvBo (l : List Bool) : List (List PV) := l.map fun b => [.v (.bool b)]
def setK (n : List Bool) (j : Int) : List Bool := if 0 ≤ j then n.set j.toNat true else n
def markPs (l : List Ent) (u : ByteArray) (ps : List Int) (n : List Bool) : List Bool := ps.foldl (fun n s => setK n (idxF (asOf u s) l)) n
def markUs (l : List Ent) (ps : List Int) (us : List ByteArray) (n : List Bool) : List Bool := us.foldl (fun n u => markPs l u ps n) n
def marksF (l : List Ent) (ps : List Int) : List Bool := markUs l ps (usersF l) (List.replicate l.length false)
end Go.Rl
namespace Go.Rl
open Go.Proofs
theorem inf4 : (Try.prog.info? 4).map (fun i => (i.zero, i.size, i.bytes)) = some (some (.bool false), 1, 1) := by kernel_rfl
theorem en135 : ∀ vs w, (callFunc 135 vs).run Try.prog w = .ok (.enter 135 vs) w := enters Try.func135 (by decide) rfl
theorem en136 : ∀ vs w, (callFunc 136 vs).run Try.prog w = .ok (.enter 136 vs) w := enters Try.func136 (by decide) rfl
theorem en137 : ∀ vs w, (callFunc 137 vs).run Try.prog w = .ok (.enter 137 vs) w := enters Try.func137 (by decide) rfl
theorem idx_bnd {α : Type} {p : α → Bool} {l : List α} (h : 0 ≤ idxF p l) : (idxF p l).toNat < l.length := by
  unfold idxF at h ⊢
  cases hf : l.findIdx? p with
  | none => rw [hf] at h; simp at h
  | some q => simp only [Int.toNat_natCast]; exact (List.findIdx?_eq_some_iff_getElem.1 hf).1
theorem users_len (l : List Ent) : (usersF l).length ≤ l.length := by
  have h := compactN_len (l.map fun e => e.user) (l.map fun e => e.user).length
  rw [List.length_map] at h
  unfold usersF compactF
  rw [List.length_map]
  exact h
end Go.Rl
namespace Go.Rl
open Go.Proofs
theorem en38 : ∀ vs w, (callFunc 38 vs).run Try.prog w = .ok (.enter 38 vs) w := enters Try.func38 (by decide) rfl
theorem en73 : ∀ vs w, (callFunc 73 vs).run Try.prog w = .ok (.enter 73 vs) w := enters Try.func73 (by decide) rfl
end Go.Rl
namespace Go.Rl
open Go.Proofs
end Go.Rl
namespace Go.Proofs
open Go.RowKit
/-- The box holds a slice value that holds the ints zs. -/
def Bw.Reads (Bs : Nat) (zs : List Int) (W : World) : Prop :=
  ((∃ A c, W.cell? ⟨Bs, 0, none⟩ = some (.slice A 0 c)) ∧ zs = []) ∨ ∃ b off cap, W.cell? ⟨Bs, 0, none⟩ = some (.slice (some ⟨b, off, none⟩) zs.length cap) ∧ ∀ (j : Nat) (z : Int), zs[j]? = some z → W.cell? ⟨b, off + j, none⟩ = some (.int .i64 z)
def Bw.enc (zs : List Int) (k : Fin zs.length) : Array Value := #[.int .i64 (k.1 : Int), .int .i64 (zs[k.1]'k.2)]
/-- What has come when k rounds are over. -/
def Bw.upto (zs : List Int) : Nat → List (Fin zs.length)
  | 0 => []
  | k + 1 => Bw.upto zs k ++ (if h : zs.length - 1 - k < zs.length then [⟨zs.length - 1 - k, h⟩] else [])
theorem Bw.upto_succ (zs : List Int) (k : Nat) (h : zs.length - 1 - k < zs.length) : Bw.upto zs (k + 1) = Bw.upto zs k ++ [⟨zs.length - 1 - k, h⟩] := by rw [Bw.upto, dif_pos h]
theorem Bw.upto_length (zs : List Int) : ∀ k, k ≤ zs.length → (Bw.upto zs k).length = k
  | 0, _ => rfl
  | k + 1, h => by rw [Bw.upto_succ zs k (by omega), List.length_append, Bw.upto_length zs k (by omega)]; rfl
/-- The contract of the closure. -/
def Bw.Contract (P : Program) (gf : Nat) : Prop :=
  ∀ (F : Fence) (n : Nat), F.fn gf → F.round = none → 1 ≤ n → ∀ (l Bs : Nat) (zs : List Int), zs.length ≤ 1000000000 → ∀ (J Jx : List (Fin zs.length) → World → Prop),
    (∀ pre x W, J pre W → pre.length < zs.length → YieldAt F (n - 1) P l (Bw.enc zs x) W fun e W' =>
      (e = .returned (.bool true) ∧ J (pre ++ [x]) W' ∧ (Bw.Reads Bs zs W → Bw.Reads Bs zs W')) ∨ (e = .returned (.bool false) ∧ Jx (pre ++ [x]) W')) →
    ∀ W : World, Bw.Reads Bs zs W → J [] W →
      CallsIn F n P gf #[.func (.yield l) #[] #[], .pointer (some ⟨Bs, 0, none⟩)] W fun e W' => (∃ v, e = .returned v) ∧
        ((∃ ys, ys = Bw.upto zs zs.length ∧ J ys W') ∨ (∃ pre, True ∧ Jx pre W'))
theorem Bw.Reads.below {Bs : Nat} {zs : List Int} {A B : World} {n₀ : Nat} (h : Below n₀ A B) (hn : A.heap.size ≤ n₀) (hr : Bw.Reads Bs zs A) : Bw.Reads Bs zs B := by
  have old : ∀ (k j : Nat) v, A.cell? ⟨k, j, none⟩ = some v → B.cell? ⟨k, j, none⟩ = some v := fun k j v hv => by
    have hk : k < A.heap.size := by
      cases e : A.heap[k]? with
      | none => simp [World.cell?, e] at hv
      | some o => exact (Array.getElem?_eq_some_iff.1 e).1
    exact (h.cell (p := ⟨k, j, none⟩) (Nat.lt_of_lt_of_le hk hn)).trans hv
  rcases hr with ⟨⟨A, c, h1⟩, h2⟩ | ⟨b, off, cap, h1, h2⟩
  · exact .inl ⟨⟨A, c, old _ _ _ h1⟩, h2⟩
  · exact .inr ⟨b, off, cap, old _ _ _ h1, fun j z hz => old _ _ _ (h2 j z hz)⟩
end Go.Proofs
namespace Go.Rl
open Go.Proofs
/-- What is kept so far begins with an entry of this one's user. -/
def older (out : List Ent) (e : Ent) : Bool := match out with
  | [] => false
  | o :: _ => decide (o.user = e.user)
/-- An entry more, from the end. -/
def cstep (bot : Bool) (out : List Ent) (e : Ent) : List Ent := if (bot && decide (e.kind = 0) && !older out e) = true then out else e :: out
def cplace (l : List Ent) (bot : Bool) (out : List Ent) (z : Int) : List Ent := match l[z.toNat]? with
  | some e => cstep bot out e
  | none => out
def compP (l : List Ent) (bot : Bool) (zs : List Int) (pre : List (Fin zs.length)) : List Ent := pre.foldl (fun out x => cplace l bot out (zs[x.1]'x.2)) []
def compU (l : List Ent) (bot : Bool) (zs : List Int) (k : Nat) : List Ent := compP l bot zs (Bw.upto zs k)
theorem compP_snoc (l : List Ent) (bot : Bool) (zs : List Int) (pre : List (Fin zs.length)) (x : Fin zs.length) {e : Ent} (he : l[(zs[x.1]'x.2).toNat]? = some e) : compP l bot zs (pre ++ [x]) = cstep bot (compP l bot zs pre) e := by
  simp [compP, cplace, he]
theorem compU_succ {l : List Ent} {bot : Bool} {zs : List Int} {k i : Nat} {z : Int} {e : Ent} (hi : i + k + 1 = zs.length) (hz : zs[i]? = some z) (he : l[z.toNat]? = some e) : compU l bot zs (k + 1) = cstep bot (compU l bot zs k) e := by
  have hlt : zs.length - 1 - k < zs.length := by omega
  rw [compU, Bw.upto_succ zs k hlt]
  refine compP_snoc l bot zs _ _ ?_
  have : zs[zs.length - 1 - k]'hlt = z := by
    obtain ⟨h1, h2⟩ := List.getElem?_eq_some_iff.1 hz
    rw [← h2]
    congr 1
    omega
  simp only [this]
  exact he
theorem cstep_len (bot : Bool) (out : List Ent) (e : Ent) : (cstep bot out e).length ≤ out.length + 1 := by
  unfold cstep
  split
  · omega
  · simp
theorem compP_len (l : List Ent) (bot : Bool) (zs : List Int) (pre : List (Fin zs.length)) : (compP l bot zs pre).length ≤ pre.length := by
  have h : ∀ (pre : List (Fin zs.length)) (out : List Ent), (pre.foldl (fun out x => cplace l bot out (zs[x.1]'x.2)) out).length ≤ out.length + pre.length := by
    intro pre
    induction pre with
    | nil => intro out; simp
    | cons x pre ih =>
      intro out
      rw [List.foldl_cons]
      have h1 := ih (cplace l bot out (zs[x.1]'x.2))
      have h2 : (cplace l bot out (zs[x.1]'x.2)).length ≤ out.length + 1 := by
        unfold cplace
        split
        · exact cstep_len _ _ _
        · omega
      simp only [List.length_cons]
      omega
  have := h pre []
  simpa [compP] using this
theorem compU_len (l : List Ent) (bot : Bool) (zs : List Int) {k : Nat} (hk : k ≤ zs.length) : (compU l bot zs k).length ≤ k := by
  have := compP_len l bot zs (Bw.upto zs k)
  rwa [Bw.upto_length zs k hk] at this
theorem needF_bnd {l : List Ent} {ps : List Int} {n : Nat} : ∀ {i : Nat} {z : Int}, z ∈ needF l ps i → ∃ k : Nat, z = (k : Int) ∧ k < i ∧ k < l.length
  | 0, z, h => by simp [needF] at h
  | i + 1, z, h => by
    rw [needF, List.mem_append] at h
    rcases h with h | h
    · obtain ⟨k, h1, h2, h3⟩ := needF_bnd (n := n) h
      exact ⟨k, h1, by omega, h3⟩
    · cases he : l[i]? with
      | none => rw [he] at h; simp at h
      | some e =>
        rw [he] at h
        simp only at h
        split at h
        · rw [List.mem_singleton] at h
          exact ⟨i, h, by omega, (List.getElem?_eq_some_iff.1 he).1⟩
        · cases h
theorem need_at {l : List Ent} {ps : List Int} {n i : Nat} {z : Int} (h : (needF l ps n)[i]? = some z) : ∃ k : Nat, z = (k : Int) ∧ k < l.length := by
  obtain ⟨k, h1, _, h3⟩ := needF_bnd (n := n) (List.mem_of_getElem? h)
  exact ⟨k, h1, h3⟩
def compactedF (l : List Ent) (s : List Int) (bot : Bool) : List Ent := if entsOk l = true ∧ snapsOk s = true then compU l bot (needF l (pointsF s) l.length) (needF l (pointsF s) l.length).length else []
/-- The user that was kept last. -/
def lastU (out : List Ent) : ByteArray := match out with
  | [] => ⟨#[]⟩
  | o :: _ => o.user
def anyE (out : List Ent) : Bool := match out with
  | [] => false
  | _ :: _ => true
theorem older_at {out : List Ent} {e o : Ent} (h : out[0]? = some o) : older out e = decide (o.user = e.user) := by
  cases out with
  | nil => cases h
  | cons x out => cases h; rfl
theorem older_len {out : List Ent} {e : Ent} (h : ¬ 0 < out.length) : older out e = false := by
  cases out with
  | nil => rfl
  | cons x out => simp at h
/-! #### turned about -/
def pvE_rev (l : List Ent) : List (List PV) := pvE l.reverse
/-- What stands at place k when i from each end are swapped. -/
def Swapped (l m : List Ent) (i : Nat) : Prop := m.length = l.length ∧ ∀ k, k < l.length → m[k]? = if k < i ∨ l.length - i ≤ k then l[l.length - 1 - k]? else l[k]?
theorem cstep_drop {bot : Bool} {out : List Ent} {e : Ent} (h1 : bot = true) (h2 : e.kind = 0) (h3 : older out e = false) : cstep bot out e = out := by simp [cstep, h1, h2, h3]
theorem cstep_keep {bot : Bool} {out : List Ent} {e : Ent} (h : ¬ (bot = true ∧ e.kind = 0 ∧ older out e = false)) : cstep bot out e = e :: out := by
  unfold cstep
  rw [if_neg]
  intro hc
  simp only [Bool.and_eq_true, decide_eq_true_eq, Bool.not_eq_true'] at hc
  exact h ⟨hc.1.1, hc.1.2, hc.2⟩
end Go.Rl
namespace Go.Rl
open Go.RowKit
/-- The round of the loop whose record is l. -/
def Fw (l : Nat) : Fence := Fence.wide.inRound l
/-- The temporaries kp hold what they held. -/
def keeps (kp : Nat → Bool) (a a' : Act) : Prop := ∀ j, kp j = true → a'.tmps.getD j undef = a.tmps.getD j undef
def keepB (kp : Nat → Bool) (ops : Array Oper) : Bool := ops.toList.all (fun o => (match o.op with | .defer _ => false | _ => true) && (match o.dst with | some d => !kp d | none => true))
section
variable {γ : Gho} {P : Program} {n : Nat} {ops : Array Oper} {w0 : World} {I : Fr} {Qm : Exit → Act → World → Prop} {Fs : List Fp} {Q : St → Prop} {l nn : Nat} {kp : Nat → Bool} {a0 : Act}
end
/-- A code in a round; the temporaries kp hold what they held. -/
def TrI (kp : Nat → Bool) (l nn : Nat) (γ : Gho) (P : Program) (n : Nat) (c : Code) (s : St) (Q : Exit → St → Prop) : Prop :=
  ∀ w0 I L a w, Gh γ w0 I.I → Rel w0 I n L s a w → c.wpIn (Fw l) nn P (fun e a' w' => keeps kp a a' ∧ ∃ s' L', Q e s' ∧ Rel w0 I n L' s' a' w') a w
section
variable {γ : Gho} {P : Program} {n : Nat} {s : St} {Q : Exit → St → Prop} {l nn : Nat} {kp : Nat → Bool}
end
end Go.Rl
namespace Go.Rl
open Go.RowKit
section
variable {w0 : World} {I : Fr} {n : Nat} {L : Pl} {s : St} {a : Act} {w : World}
def clB (w : World) (k : Nat) : Bool := match w.heap[k]? with
  | some (.cells _ _ _) => true
  | _ => false
theorem clB_of {w : World} {k : Nat} (h : Cl w k) : clB w k = true := by
  obtain ⟨c, t, z, h⟩ := h
  simp [clB, h]
theorem cl_of {w : World} {k : Nat} (h : clB w k = true) : Cl w k := by
  unfold clB at h
  split at h
  · exact ⟨_, _, _, ‹_›⟩
  · cases h
/-- Only what is cells has a label. -/
def Pl.trim (L : Pl) (w : World) : Pl := { L with lab := fun k => match clB w k with | true => L.lab k | false => none }
theorem trim_some {k : Nat} {l : Lab} (h : (L.trim w).lab k = some l) : L.lab k = some l ∧ Cl w k := by
  simp only [Pl.trim] at h
  split at h
  · exact ⟨h, cl_of ‹_›⟩
  · cases h
theorem trim_of {k : Nat} {l : Lab} (h : L.lab k = some l) (hc : Cl w k) : (L.trim w).lab k = some l := by simp only [Pl.trim, clB_of hc, h]
/-- What a round is handed: whatever may be written. -/
def Fr.root (I : Fr) (L : Pl) (w : World) : Fr := ⟨(List.range w.heap.size).filter (fun k => ((L.trim w).lab k).isSome), I.ρ, I.β, L.Z, I.df⟩
theorem root_mem {k : Nat} (hk : k ∈ (I.root L w).I) : ∃ l, L.lab k = some l ∧ Cl w k := by
  simp only [Fr.root, List.mem_filter] at hk
  obtain ⟨l, hl⟩ := Option.isSome_iff_exists.1 hk.2
  exact ⟨l, trim_some hl⟩
theorem Rel.root (h : Rel w0 I n L s a w) : Rel w (I.root L w) n (L.trim w) s a w := by
  have hm : Moves [] L (L.trim w) w w s s := ⟨fun k hk => ⟨hk, rfl⟩, fun i k _ hi hk => ⟨.inr hk, rfl⟩, fun b hb => ⟨hb, rfl⟩, fun i sz xs _ hx => ⟨xs, hx, rfl, rfl⟩⟩
  exact { same := Same.refl _ _
          zlt := fun k hk => ⟨(h.zlt k hk).1, by
            cases e : (L.trim w).lab k with
            | none => rfl
            | some l => have := (trim_some e).1; rw [(h.zlt k hk).2] at this; cases this⟩
          llt := fun k l hk => ⟨(h.llt k l (trim_some hk).1).1, .inr (by simp only [Fr.root, List.mem_filter, List.mem_range]; exact ⟨(h.llt k l (trim_some hk).1).1, by rw [hk]; rfl⟩)⟩
          sz := h.sz, df := h.df, tm := fun i => (h.tm i).move0 hm
          bx := fun i cs hc => by
            obtain ⟨h1, us, ty, h2, h3, h4⟩ := h.bx i cs hc
            exact ⟨trim_of h1 ⟨_, _, _, h2⟩, us, ty, h2, h3.move0 hm, h4⟩
          rw := fun i sz xs hx => by
            obtain ⟨h1, h2, h3⟩ := h.rw i sz xs hx
            exact ⟨h1, h2, fun k hk => trim_of (h3 k hk) (h1.cl k hk)⟩
          pr := h.pr, pb := h.pb
          zi := fun k hk => .inl hk }
theorem Rel.unroot (h : Rel w0 I n L s a w) {L' : Pl} {s' : St} {a' : Act} {w' : World} (h' : Rel w (I.root L w) n L' s' a' w') : Rel w0 I n L' s' a' w' := by
  have old : ∀ k, (w.heap.size ≤ k ∨ k ∈ (I.root L w).I) → w0.heap.size ≤ k ∨ k ∈ I.I := fun k hk => by
    rcases hk with h2 | h2
    · exact .inl (Nat.le_trans h.same.size h2)
    · obtain ⟨l0, h0, _⟩ := root_mem h2
      exact (h.llt k l0 h0).2
  have zs : ∀ k, L.Z k → w'.heap[k]? = w.heap[k]? := fun k h2 => h'.same.block k (h.zlt k h2).1 (fun hx => by
    obtain ⟨l0, h0, _⟩ := root_mem hx
    rw [(h.zlt k h2).2] at h0
    cases h0)
  exact { same := h.same.trans h'.same (fun x hx hn hx2 => (old x (.inr hx2)).elim (fun h2 => by omega) hn)
          zlt := h'.zlt
          llt := fun k l hk => ⟨(h'.llt k l hk).1, old k (h'.llt k l hk).2⟩
          sz := h'.sz, df := h'.df, tm := h'.tm, bx := h'.bx, rw := h'.rw, pr := h'.pr, pb := h'.pb
          zi := fun k hk => by
            rcases h'.zi k hk with h2 | ⟨h2, hc⟩
            · exact (h.zi k h2).imp id (fun x => ⟨x.1, x.2.of (zs k h2)⟩)
            · exact .inr ⟨old k h2, hc⟩ }
/-- What is no cells, and lay not there yet, may be turned. -/
theorem Rel.grown (h : Rel w0 I n L s a w) {B : Nat} (hB : w0.heap.size ≤ B) (hZ : ∀ k, I.Z k → k < B) {w' : World} {row : Option Nat} (hg : w.grownBy w' row) (hr : ∀ r, row = some r → B ≤ r ∧ ∃ o, w.heap[r]? = some o ∧ o.isCells = false) : Rel w0 I n L s a w' := by
  have cells : ∀ k, k < w.heap.size → (∀ o, w.heap[k]? = some o → o.isCells = true) → w'.heap[k]? = w.heap[k]? := fun k hk hc => hg.block k hk (fun e => by
    obtain ⟨_, o, h1, h2⟩ := hr k e.symm
    rw [hc o h1] at h2
    cases h2)
  have zs : ∀ k, L.Z k → w'.heap[k]? = w.heap[k]? := fun k hk => by
    rcases h.zi k hk with h2 | ⟨_, c, t, z, h2⟩
    · refine hg.block k (h.zlt k hk).1 (fun e => ?_)
      have := (hr k e.symm).1
      have := hZ k h2
      omega
    · exact cells k (h.zlt k hk).1 (fun o ho => by rw [h2] at ho; cases ho; rfl)
  have ns : ∀ i sz xs, s.r i = some (sz, xs) → ∀ k ∈ L.ν i, w'.heap[k]? = w.heap[k]? := fun i sz xs hx k hk => by
    obtain ⟨h1, _, h3⟩ := h.rw i sz xs hx
    obtain ⟨c, t, z, h2⟩ := h1.cl k hk
    exact cells k (h.llt k _ (h3 k hk)).1 (fun o ho => by rw [h2] at ho; cases ho; rfl)
  have hm : Moves [] L L w w' s s := ⟨fun k hk => ⟨hk, zs k hk⟩, fun i k _ hi hk => ⟨.inr hk, by
    obtain ⟨⟨sz, xs⟩, hx⟩ := Option.isSome_iff_exists.1 hi
    exact ns i sz xs hx k (List.mem_of_mem_tail hk)⟩, fun b hb => ⟨hb, rfl⟩, fun i sz xs _ hx => ⟨xs, hx, rfl, rfl⟩⟩
  exact { same := ⟨hg.os.trans h.same.os, hg.tape.trans h.same.tape, hg.output.trans h.same.output, Nat.le_trans h.same.size hg.size, fun k hk hn => (hg.block k (Nat.lt_of_lt_of_le hk h.same.size) (fun e => by have := (hr k e.symm).1; omega)).trans (h.same.block k hk hn)⟩
          zlt := fun k hk => ⟨Nat.lt_of_lt_of_le (h.zlt k hk).1 hg.size, (h.zlt k hk).2⟩
          llt := fun k l hk => ⟨Nat.lt_of_lt_of_le (h.llt k l hk).1 hg.size, (h.llt k l hk).2⟩
          sz := h.sz, df := h.df, tm := fun i => (h.tm i).move0 hm
          bx := fun i cs hc => by
            obtain ⟨h1, us, ty, h2, h3, h4⟩ := h.bx i cs hc
            exact ⟨h1, us, ty, (cells _ (h.llt _ _ h1).1 (fun o ho => by rw [h2] at ho; cases ho; rfl)).trans h2, h3.move0 hm, h4⟩
          rw := fun i sz xs hx => by
            obtain ⟨h1, h2, h3⟩ := h.rw i sz xs hx
            exact ⟨h1.mono zs (ns i sz xs hx) (fun _ h => h), h2, h3⟩
          pr := h.pr, pb := h.pb
          zi := fun k hk => (h.zi k hk).imp id (fun x => ⟨x.1, x.2.of (zs k hk)⟩) }
/-- The temporaries kp alone. -/
def St.keepT (kp : Nat → Bool) (s : St) : St := { t := fun j => if kp j then s.t j else .undef, b := s.b, r := s.r }
theorem Rel.keepT (h : Rel w0 I n L s a w) {kp : Nat → Bool} {b : Act} (hk : keeps kp b a) (hb : b.tmps.size = n) (hd : b.defers = I.df) : Rel w0 I n L (s.keepT kp) b w := by
  have hm : Moves [] L L w w s (s.keepT kp) := ⟨fun k hk => ⟨hk, rfl⟩, fun i k _ hi hk => ⟨.inr hk, rfl⟩, fun b hb => ⟨hb, rfl⟩, fun i sz xs _ hx => ⟨xs, hx, rfl, rfl⟩⟩
  exact { same := h.same, zlt := h.zlt, llt := h.llt, sz := hb, df := hd
          tm := fun i => by
            simp only [St.keepT]
            split
            · rename_i hi
              rw [← hk i hi]
              exact (h.tm i).move0 hm
            · simp only [AVR]
          bx := fun i cs hc => by
            obtain ⟨h1, us, ty, h2, h3, h4⟩ := h.bx i cs hc
            exact ⟨h1, us, ty, h2, h3.move0 hm, h4⟩
          rw := fun i sz xs hx => h.rw i sz xs hx
          pr := h.pr, pb := h.pb, zi := h.zi }
end
end Go.Rl
namespace Go.Rl
open Go.RowKit Go.Proofs
section
variable {γ : Gho} {P : Program} {n : Nat} {w0 : World} {I : Fr} {L : Pl} {a : Act} {w : World}
/-- The act with which a round begins. -/
def bwAct (a : Act) (ti tx : Tmp) (zs : List Int) (x : Fin zs.length) : Act := { tmps := (a.tmps.setIfInBounds ti (.int .i64 (x.1 : Int))).setIfInBounds tx (.int .i64 (zs[x.1]'x.2)), defers := [] }
end
end Go.Rl
namespace Go.Rl
open Go.RowKit

mutual
def AV.frz (id sz : Nat) (xs : List (List PV)) : AV → AV
  | .p (some d) x => (match Nat.beq d id with
    | true => .p none x
    | false => .p (some d) x)
  | .sl d lo len => (match Nat.beq d id with
    | true => .p none (.sl false sz ((xs.drop lo).take len))
    | false => .sl d lo len)
  | .ea d i off => (match Nat.beq d id with
    | true => .undef
    | false => .ea d i off)
  | .fea (some d) ps => (match Nat.beq d id with
    | true => .fea none ps
    | false => .fea (some d) ps)
  | .agg cs => .agg (AV.frzs id sz xs cs)
  | .tup cs => .tup (AV.frzs id sz xs cs)
  | x => x
def AV.frzs (id sz : Nat) (xs : List (List PV)) : List AV → List AV
  | [] => []
  | a :: l => AV.frz id sz xs a :: AV.frzs id sz xs l
end
def St.frz (s : St) (id sz : Nat) (xs : List (List PV)) : St := ⟨fun i => (s.t i).frz id sz xs, fun i => (s.b i).map (AV.frzs id sz xs), fun i => match Nat.beq i id with
  | true => none
  | false => s.r i⟩
def Pl.frz (L : Pl) (id : Nat) : Pl := { L with Z := fun k => L.Z k ∨ k ∈ L.ν id, lab := fun k => if k ∈ L.ν id then none else L.lab k }
theorem beq_ne {a b : Nat} (h : a ≠ b) : Nat.beq a b = false := by
  cases e : Nat.beq a b with
  | false => rfl
  | true => exact absurd (Nat.eq_of_beq_eq_true e) h

section
variable {w0 : World} {I : Fr} {n : Nat} {L : Pl} {s : St} {a : Act} {w : World} {id sz : Nat} {xs : List (List PV)}
theorem frz_zd {d : Option Nat} (hd : d ≠ some id) : ∀ k, L.zd d k → (L.frz id).zd d k := fun k hk => by
  rcases hk with hk | ⟨i, rfl, hk⟩
  · exact .inl (.inl hk)
  · exact .inr ⟨i, rfl, hk⟩
theorem frz_zn : ∀ k, L.zd (some id) k → (L.frz id).zd none k := fun k hk => by
  rcases hk with hk | ⟨i, e, hk⟩
  · exact .inl (.inl hk)
  · cases e; exact .inl (.inr (List.mem_of_mem_tail hk))
theorem frz_r {i : Nat} (hi : i ≠ id) : (s.frz id sz xs).r i = s.r i := by simp only [St.frz, beq_ne hi]
mutual
theorem AVR.frz (hr : s.r id = some (sz, xs)) (hp : PVO L.Z w (.sl true sz xs) (L.ρ id) (L.ν id)) : ∀ (av : AV) (v : Value), AVR L w s av v → AVR (L.frz id) w (s.frz id sz xs) (av.frz id sz xs) v
  | .undef, v, _ => by simp [AV.frz, AVR]
  | .p none x, v, hv => by
    simp only [AV.frz, AVR] at hv ⊢
    exact ⟨hv.1.mono (fun _ _ => rfl) (frz_zd (by simp)), fun _ h => by cases h⟩
  | .p (some d) x, v, hv => by
    by_cases e : d = id
    · subst e
      simp only [AV.frz, Nat.beq_refl, AVR] at hv ⊢
      exact ⟨hv.1.mono (fun _ _ => rfl) frz_zn, fun _ h => by cases h⟩
    · simp only [AV.frz, beq_ne e, AVR] at hv ⊢
      refine ⟨hv.1.mono (fun _ _ => rfl) (frz_zd (by simpa using e)), fun i hi => ?_⟩
      cases hi
      rw [frz_r e]
      exact hv.2 d rfl
  | .sl d lo len, v, hv => by
    by_cases e : d = id
    · subst e
      simp only [AV.frz, Nat.beq_refl, AVR] at hv ⊢
      obtain ⟨sz', xs', e1, e2, A, m, c, A', c', e3, rfl, e5, e6, e7⟩ := hv
      rw [hr] at e1
      cases e1
      have hq := hp.toR
      have hm := pvr_len hq A m c e3
      rw [e3] at hq
      subst hm
      refine ⟨((hq.flag false).cut e2 _ _ e5 (fun hpos => ?_)).mono (fun _ _ => rfl) (fun k hk => .inl hk), fun _ h => by cases h⟩
      obtain ⟨k, rfl, rfl⟩ := e7 hpos
      exact ⟨k, 0, rfl, by rw [Nat.zero_add]⟩
    · simp only [AV.frz, beq_ne e, AVR] at hv ⊢
      rw [frz_r e]
      exact hv
  | .ptr b off, v, hv => by
    simp only [AV.frz, AVR] at hv ⊢
    exact ⟨by simpa [St.frz] using hv.1, hv.2⟩
  | .ea d i off, v, hv => by
    by_cases e : d = id
    · subst e
      simp only [AV.frz, Nat.beq_refl, AVR]
    · simp only [AV.frz, beq_ne e, AVR] at hv ⊢
      rw [frz_r e]
      exact hv
  | .fea none ps, v, hv => by
    simp only [AV.frz, AVR] at hv ⊢
    obtain ⟨⟨k, off, h1, h2, h3⟩, _⟩ := hv
    exact ⟨⟨k, off, h1, frz_zd (by simp) k h2, fun j p hj => by obtain ⟨u, hu, hq⟩ := h3 j p hj; exact ⟨u, hu, hq.mono (fun _ _ => rfl) (frz_zd (by simp))⟩⟩, fun _ h => by cases h⟩
  | .fea (some d) ps, v, hv => by
    by_cases e : d = id
    · subst e
      simp only [AV.frz, Nat.beq_refl, AVR] at hv ⊢
      obtain ⟨⟨k, off, h1, h2, h3⟩, _⟩ := hv
      exact ⟨⟨k, off, h1, frz_zn k h2, fun j p hj => by obtain ⟨u, hu, hq⟩ := h3 j p hj; exact ⟨u, hu, hq.mono (fun _ _ => rfl) frz_zn⟩⟩, fun _ h => by cases h⟩
    · simp only [AV.frz, beq_ne e, AVR] at hv ⊢
      obtain ⟨⟨k, off, h1, h2, h3⟩, h4⟩ := hv
      refine ⟨⟨k, off, h1, frz_zd (by simpa using e) k h2, fun j p hj => by obtain ⟨u, hu, hq⟩ := h3 j p hj; exact ⟨u, hu, hq.mono (fun _ _ => rfl) (frz_zd (by simpa using e))⟩⟩, fun i hi => ?_⟩
      cases hi
      rw [frz_r e]
      exact h4 d rfl
  | .nils, v, hv => by simpa only [AV.frz, AVR] using hv
  | .sat A, v, hv => by simpa only [AV.frz, AVR] using hv
  | .clo f bs, v, hv => by
    simp only [AV.frz, AVR] at hv ⊢
    exact ⟨fun x hx => by simpa [St.frz] using hv.1 x hx, hv.2⟩
  | .agg cs, v, hv => by
    simp only [AV.frz, AVR] at hv ⊢
    obtain ⟨us, h1, h2⟩ := hv
    exact ⟨us, h1, AVRs.frz hr hp cs us h2⟩
  | .tup cs, v, hv => by
    simp only [AV.frz, AVR] at hv ⊢
    obtain ⟨us, h1, h2⟩ := hv
    exact ⟨us, h1, AVRs.frz hr hp cs us h2⟩
theorem AVRs.frz (hr : s.r id = some (sz, xs)) (hp : PVO L.Z w (.sl true sz xs) (L.ρ id) (L.ν id)) : ∀ (l : List AV) (us : List Value), AVRs L w s l us → AVRs (L.frz id) w (s.frz id sz xs) (AV.frzs id sz xs l) us
  | [], [], _ => by simp [AV.frzs, AVRs]
  | [], _ :: _, hv => by simp [AVRs] at hv
  | _ :: _, [], hv => by simp [AVRs] at hv
  | x :: l, u :: us, hv => by
    simp only [AV.frzs, AVRs] at hv ⊢
    exact ⟨AVR.frz hr hp x u hv.1, AVRs.frz hr hp l us hv.2⟩
end
end
/-- Nobody writes row id any more. -/
theorem wk_frz {n : Nat} {s : St} (id : Nat) {sz : Nat} {xs : List (List PV)} (hr : s.r id = some (sz, xs)) : Wk n s (s.frz id sz xs) := by
  intro w0 I L ac w h
  obtain ⟨hp, hnd, hlab⟩ := h.rw id sz xs hr
  have lab : ∀ {k l}, L.lab k = some l → l ≠ .row id → (L.frz id).lab k = some l := fun {k l} hk hl => by
    simp only [Pl.frz]
    rw [if_neg (fun hx => hl (by rw [hlab k hx] at hk; cases hk; rfl)), hk]
  refine ⟨L.frz id, h.same, fun k hk => ?_, fun k l hk => ?_, h.sz, h.df, fun i => (h.tm i).frz hr hp _ _, fun i cs hc => ?_, fun i sz' xs' hx => ?_, fun i hi hx => ?_, fun i hi hx => h.pb i hi (by simpa [St.frz] using hx), fun k hk => ?_⟩
  · simp only [Pl.frz] at hk ⊢
    rcases hk with hk | hk
    · exact ⟨(h.zlt k hk).1, by split; rfl; exact (h.zlt k hk).2⟩
    · exact ⟨hp.lt k hk, by rw [if_pos hk]⟩
  · simp only [Pl.frz] at hk
    split at hk
    · cases hk
    · exact h.llt k l hk
  · simp only [St.frz, Option.map_eq_some_iff] at hc
    obtain ⟨cs0, h0, rfl⟩ := hc
    obtain ⟨h1, us, ty, h2, h3, h4⟩ := h.bx i cs0 h0
    exact ⟨lab h1 (by simp), us, ty, h2, h3.frz hr hp _ _, h4⟩
  · have hne : i ≠ id := fun e => by subst e; simp [St.frz] at hx
    rw [frz_r hne] at hx
    obtain ⟨h1, h2, h3⟩ := h.rw i sz' xs' hx
    exact ⟨h1.up (fun _ h => .inl h), h2, fun k hk => lab (h3 k hk) (by simpa using hne)⟩
  · have hne : i ≠ id := fun e => by subst e; simp [St.frz] at hx
    rw [frz_r hne] at hx
    exact h.pr i hi hx
  · simp only [Pl.frz] at hk
    rcases hk with hk | hk
    · exact h.zi k hk
    · exact .inr ⟨(h.llt k _ (hlab k hk)).2, hp.cl k hk⟩
theorem frz_all {sz : Nat} {xs : List (List PV)} : PV.sl false sz ((xs.drop 0).take xs.length) = .sl false sz xs := by simp

/-! #### a variable that nobody writes any more -/
mutual
/-- What a cell reads as, where it leads to nothing that is anybody's. -/
def AV.pvz : AV → Option PV
  | .p none (.v x) => some (.v x)
  | .p none (.sl _ sz xs) => some (.sl false sz xs)
  | .p none (.clo f xs) => some (.clo f xs)
  | _ => none
def AV.pvzs : List AV → Option (List PV)
  | [] => some []
  | a :: l => match a.pvz, AV.pvzs l with
    | some x, some xs => some (x :: xs)
    | _, _ => none
end
end Go.Rl
namespace Go.Rl
open Go.RowKit

mutual
def AV.frb (b : Nat) (ps : List PV) : AV → AV
  | .ptr c off => (match Nat.beq c b with
    | true => .fea none (ps.drop off)
    | false => .ptr c off)
  | .clo f [c] => (match Nat.beq c b with
    | true => .p none (.clo f [ps])
    | false => .clo f [c])
  | .clo f bs => if b ∈ bs then .undef else .clo f bs
  | .agg cs => .agg (AV.frbs b ps cs)
  | .tup cs => .tup (AV.frbs b ps cs)
  | x => x
def AV.frbs (b : Nat) (ps : List PV) : List AV → List AV
  | [] => []
  | a :: l => AV.frb b ps a :: AV.frbs b ps l
end
def St.frb (s : St) (b : Nat) (ps : List PV) : St := ⟨fun i => (s.t i).frb b ps, fun i => match Nat.beq i b with
  | true => none
  | false => (s.b i).map (AV.frbs b ps), s.r⟩
def Pl.frb (L : Pl) (b : Nat) : Pl := { L with Z := fun k => L.Z k ∨ k = L.β b, lab := fun k => if k = L.β b then none else L.lab k }
section
variable {w0 : World} {I : Fr} {n : Nat} {L : Pl} {s : St} {a : Act} {w : World} {b : Nat} {ps : List PV}
theorem frb_b {i : Nat} (hi : i ≠ b) : (s.frb b ps).b i = (s.b i).map (AV.frbs b ps) := by simp only [St.frb, beq_ne hi]
theorem frb_some {i : Nat} (hi : i ≠ b) (h : (s.b i).isSome) : ((s.frb b ps).b i).isSome := by rw [frb_b hi]; simpa using h
theorem frb_zd {d : Option Nat} : ∀ k, L.zd d k → (L.frb b).zd d k := fun _ hk => hk.imp .inl (fun h => h)
mutual
theorem AVR.frb (hc : ∀ (j : Nat) p, ps[j]? = some p → ∃ u, w.cell? ⟨L.β b, j, none⟩ = some u ∧ PVR L.Z w p u) : ∀ (av : AV) (v : Value), AVR L w s av v → AVR (L.frb b) w (s.frb b ps) (av.frb b ps) v
  | .undef, v, _ => by simp [AV.frb, AVR]
  | .p d x, v, hv => by
    simp only [AV.frb, AVR] at hv ⊢
    exact ⟨hv.1.mono (fun _ _ => rfl) frb_zd, hv.2⟩
  | .sl d lo len, v, hv => by
    simp only [AV.frb, AVR] at hv ⊢
    exact hv
  | .ptr c off, v, hv => by
    by_cases e : c = b
    · subst e
      simp only [AV.frb, Nat.beq_refl, AVR] at hv ⊢
      refine ⟨⟨_, off, hv.2, .inl (.inr rfl), fun j p hj => ?_⟩, fun _ h => by cases h⟩
      rw [List.getElem?_drop] at hj
      obtain ⟨u, hu, hq⟩ := hc _ p hj
      exact ⟨u, hu, hq.mono (fun _ _ => rfl) (fun k hk => .inl (.inl hk))⟩
    · simp only [AV.frb, beq_ne e, AVR] at hv ⊢
      exact ⟨frb_some e hv.1, hv.2⟩
  | .ea d i off, v, hv => by
    simp only [AV.frb, AVR] at hv ⊢
    exact hv
  | .fea d qs, v, hv => by
    simp only [AV.frb, AVR] at hv ⊢
    obtain ⟨⟨k, off, h1, h2, h3⟩, h4⟩ := hv
    exact ⟨⟨k, off, h1, frb_zd k h2, fun j p hj => by obtain ⟨u, hu, hq⟩ := h3 j p hj; exact ⟨u, hu, hq.mono (fun _ _ => rfl) frb_zd⟩⟩, h4⟩
  | .nils, v, hv => by simpa only [AV.frb, AVR] using hv
  | .sat A, v, hv => by simpa only [AV.frb, AVR] using hv
  | .clo f [], v, hv => by
    simp only [AV.frb, AVR] at hv ⊢
    simpa [AVR] using hv.2
  | .clo f [c], v, hv => by
    by_cases e : c = b
    · subst e
      simp only [AV.frb, Nat.beq_refl, AVR] at hv ⊢
      refine ⟨?_, fun _ h => by cases h⟩
      rw [hv.2]
      refine .clo f [ps] [L.β c] rfl (by simp; exact .inl (.inr rfl)) (fun i j => ((w.cell? ⟨L.β c, j, none⟩).getD undef)) (fun i j es k p h1 h2 h3 => ?_) (fun i j es p h1 h2 => ?_)
      · cases i with
        | zero =>
          simp at h1 h2
          subst h1 h2
          obtain ⟨u, hu, _⟩ := hc j p h3
          rw [hu]; rfl
        | succ i => simp at h1
      · cases i with
        | zero =>
          simp at h1
          subst h1
          obtain ⟨u, hu, hq⟩ := hc j p h2
          rw [hu]
          exact hq.mono (fun _ _ => rfl) (fun k hk => .inl (.inl hk))
        | succ i => simp at h1
    · simp only [AV.frb, beq_ne e, AVR] at hv ⊢
      exact ⟨fun x hx => by simp at hx; subst hx; exact frb_some e (hv.1 x (by simp)), hv.2⟩
  | .clo f (c :: c' :: bs), v, hv => by
    simp only [AV.frb]
    split
    · simp [AVR]
    · rename_i hn
      simp only [AVR] at hv ⊢
      exact ⟨fun x hx => frb_some (fun e => hn (e ▸ hx)) (hv.1 x hx), hv.2⟩
  | .agg cs, v, hv => by
    simp only [AV.frb, AVR] at hv ⊢
    obtain ⟨us, h1, h2⟩ := hv
    exact ⟨us, h1, AVRs.frb hc cs us h2⟩
  | .tup cs, v, hv => by
    simp only [AV.frb, AVR] at hv ⊢
    obtain ⟨us, h1, h2⟩ := hv
    exact ⟨us, h1, AVRs.frb hc cs us h2⟩
theorem AVRs.frb (hc : ∀ (j : Nat) p, ps[j]? = some p → ∃ u, w.cell? ⟨L.β b, j, none⟩ = some u ∧ PVR L.Z w p u) : ∀ (l : List AV) (us : List Value), AVRs L w s l us → AVRs (L.frb b) w (s.frb b ps) (AV.frbs b ps l) us
  | [], [], _ => by simp [AV.frbs, AVRs]
  | [], _ :: _, hv => by simp [AVRs] at hv
  | _ :: _, [], hv => by simp [AVRs] at hv
  | x :: l, u :: us, hv => by
    simp only [AV.frbs, AVRs] at hv ⊢
    exact ⟨AVR.frb hc x u hv.1, AVRs.frb hc l us hv.2⟩
end
end
/-! #### promises whose results share memory -/
/-- The promise: f, called with args, gives back res, which may share what nobody writes. -/
def ConS (P : Program) (f : FuncId) (args : List PA) (res : List PA) : Prop :=
  ∀ Z w vs E, PASs Z w args vs E → (∀ k, Z k → k < w.heap.size ∧ k ∉ Leaf.all E) → (Leaf.all E).Nodup → (∀ k ∈ Leaf.all E, k < w.heap.size) → Calls P f ⟨vs⟩ w fun e w' => ∃ v F Z', e = .returned v ∧ Same (Leaf.all E) w w' ∧
    RES Z' w' res v F ∧ (Leaf.all F).Nodup ∧ (∀ k ∈ Leaf.all F, w.heap.size ≤ k ∨ k ∈ Leaf.all E) ∧ (∀ k, Z k → Z' k) ∧ ∀ k, Z' k → k < w'.heap.size ∧ k ∉ Leaf.all F ∧ (Z k ∨ ((w.heap.size ≤ k ∨ k ∈ Leaf.all E) ∧ Cl w' k))

/-- What can be given back where it may be shared. -/
inductive GvS (s : St) : AV → PV → List Nat → Prop where
  | of {av : AV} {p : PV} {K : List Nat} (g : Gv s av p K) : GvS s av p K
  | nilf (sz : Nat) : GvS s .nils (.sl false sz []) []
inductive GvSs (s : St) : List AV → List PV → List Nat → Prop where
  | nil : GvSs s [] [] []
  | cons {a : AV} {p : PV} {K : List Nat} {l : List AV} {ps : List PV} {K' : List Nat} (h : GvS s a p K) (t : GvSs s l ps K') : GvSs s (a :: l) (p :: ps) (K ++ K')
inductive GPaS (s : St) : AV → PA → List Nat → Prop where
  | one {av : AV} {p : PV} {K : List Nat} (g : GvS s av p K) : GPaS s av (.one p) K
  | agg {cs : List AV} {ps : List PV} {K : List Nat} (g : GvSs s cs ps K) : GPaS s (.agg cs) (.agg ps) K
inductive GPasS (s : St) : List AV → List PA → List Nat → Prop where
  | nil : GPasS s [] [] []
  | cons {av : AV} {p : PA} {K : List Nat} {avs : List AV} {ps : List PA} {K' : List Nat} (h : GPaS s av p K) (t : GPasS s avs ps K') : GPasS s (av :: avs) (p :: ps) (K ++ K')
def EndsS (P : Program) (rs : List ResultVar) (res : List PA) (s : St) : Prop :=
  ∃ avs K, RvAs P s rs avs ∧ GPasS s avs res K ∧ K.Nodup
def RetS (P : Program) (rs : List ResultVar) (res : List PA) : Exit → St → Prop
  | .normal, s => EndsS P rs res s
  | .ret, s => EndsS P rs res s
  | _, _ => False
section
variable {w0 : World} {I : Fr} {n : Nat} {L : Pl} {s : St} {a : Act} {w : World}
theorem Gv.ps (h : Rel w0 I n L s a w) {av : AV} {p : PV} {K : List Nat} (g : Gv s av p K) {v : Value} (hv : AVR L w s av v) : ∃ F, PS L.Z w p v F ∧ Leaf.all F = K.flatMap L.ν := by
  have := g.ok h hv
  cases p with
  | v x =>
    have hK : K = [] := by cases g; rfl
    subst hK
    exact ⟨[], .nf rfl (by simpa using this), rfl⟩
  | sl o sz xs =>
    cases o with
    | true => exact ⟨_, .own this, by simp [Leaf.all]⟩
    | false =>
      have hK : K = [] := by cases g; rfl
      subst hK
      exact ⟨[], .nf rfl (by simpa using this), rfl⟩
  | clo f xs =>
    have hK : K = [] := by cases g; rfl
    subst hK
    exact ⟨[], .nf rfl (by simpa using this), rfl⟩
theorem GvS.ps (h : Rel w0 I n L s a w) {av : AV} {p : PV} {K : List Nat} (g : GvS s av p K) {v : Value} (hv : AVR L w s av v) : ∃ F, PS L.Z w p v F ∧ Leaf.all F = K.flatMap L.ν := by
  cases g with
  | of g => exact g.ps h hv
  | nilf sz =>
    simp only [AVR] at hv
    obtain ⟨A, rfl⟩ := hv
    exact ⟨[], .nf rfl (.fro _ _ _ (.emp _ _ _ _)), rfl⟩
theorem GPaS.ok (h : Rel w0 I n L s a w) {av : AV} {p : PA} {K : List Nat} (g : GPaS s av p K) {v : Value} (hv : AVR L w s av v) : ∃ F, PAS L.Z w p v F ∧ Leaf.all F = K.flatMap L.ν := by
  cases g with
  | one g =>
    obtain ⟨F, h1, h2⟩ := g.ps h hv
    exact ⟨F, .one h1, h2⟩
  | agg g =>
    rename_i cs ps
    simp only [AVR] at hv
    obtain ⟨us, rfl, hv⟩ := hv
    have : ∀ {cs ps K us}, GvSs s cs ps K → AVRs L w s cs us → ∃ F, PSs L.Z w ps us F ∧ Leaf.all F = K.flatMap L.ν := fun {cs ps K us} g => by
      induction g generalizing us with
      | nil =>
        intro hv
        cases us with
        | nil => exact ⟨[], .nil, rfl⟩
        | cons _ _ => simp [AVRs] at hv
      | cons g _ ih =>
        intro hv
        cases us with
        | nil => simp [AVRs] at hv
        | cons u us =>
          simp only [AVRs] at hv
          obtain ⟨F, h1, h2⟩ := g.ps h hv.1
          obtain ⟨F', h3, h4⟩ := ih hv.2
          exact ⟨F ++ F', .cons h1 h3, by simp only [Leaf.all, List.flatMap_append] at h2 h4 ⊢; rw [h2, h4]⟩
    obtain ⟨F, h1, h2⟩ := this g hv
    exact ⟨F, .agg h1, h2⟩
theorem GPasS.ok (h : Rel w0 I n L s a w) {avs : List AV} {ps : List PA} {K : List Nat} (g : GPasS s avs ps K) : ∀ {us : List Value} (_ : AVRs L w s avs us), ∃ F, PASs L.Z w ps us F ∧ Leaf.all F = K.flatMap L.ν := by
  induction g with
  | nil =>
    intro us hv
    cases us with
    | nil => exact ⟨[], .nil, rfl⟩
    | cons _ _ => simp [AVRs] at hv
  | cons g _ ih =>
    intro us hv
    cases us with
    | nil => simp [AVRs] at hv
    | cons u us =>
      simp only [AVRs] at hv
      obtain ⟨F, h1, h2⟩ := g.ok h hv.1
      obtain ⟨F', h3, h4⟩ := ih hv.2
      exact ⟨F ++ F', .cons h1 h3, by simp only [Leaf.all, List.flatMap_append] at h2 h4 ⊢; rw [h2, h4]⟩
theorem Gv.rows {av : AV} {p : PV} {K : List Nat} (g : Gv s av p K) : ∀ i ∈ K, (s.r i).isSome := by
  intro i hi
  cases g with
  | row hr hl => simp at hi; subst hi; rw [hr]; rfl
  | pre hr hl hn => simp at hi; subst hi; rw [hr]; rfl
  | _ => simp at hi
theorem GvS.rows {av : AV} {p : PV} {K : List Nat} (g : GvS s av p K) : ∀ i ∈ K, (s.r i).isSome := by
  cases g with
  | of g => exact g.rows
  | nilf sz => simp
theorem GvSs.rows {l : List AV} {ps : List PV} {K : List Nat} (g : GvSs s l ps K) : ∀ i ∈ K, (s.r i).isSome := by
  induction g with
  | nil => simp
  | cons g _ ih =>
    intro i hi
    rcases List.mem_append.1 hi with hi | hi
    · exact g.rows i hi
    · exact ih i hi
theorem GPasS.rows {avs : List AV} {ps : List PA} {K : List Nat} (g : GPasS s avs ps K) : ∀ i ∈ K, (s.r i).isSome := by
  induction g with
  | nil => simp
  | cons g _ ih =>
    intro i hi
    rcases List.mem_append.1 hi with hi | hi
    · cases g with
      | one g => exact g.rows i hi
      | agg g => exact g.rows i hi
    · exact ih i hi
end
end Go.Rl

/- Promises of functions, proved by walks over their operations; no conditions beyond those that each theorem states. -/
import Derived.Test.YtfdebanfenlglaaReB
set_option linter.unusedSimpArgs false
set_option linter.unusedVariables false
namespace Go.Rl
open Go.Proofs
set_option maxRecDepth 1000000 in
set_option maxHeartbeats 2000000 in
theorem l14Needed_con (l : List Ent) (s : List Int) (hl : l.length ≤ 2000000) (hs : s.length ≤ 2000000) : Con Try.prog 71 [.one (PV.sl false 4 (pvE l)), .one (PV.sl false 1 (pvI s))] [] [.one (.sl true 1 (pvI (needF l (pointsF s) l.length)))] := by
  refine con_of_tr Try.func71 rfl rfl rfl rfl ?_
  have hle := pvE_length l
  have hls := pvI_length s
  have hlp := pvI_length (pointsF s)
  have hpl := points_len s
  refine tr_seq ?_
  refine tr_region rfl (.run [] [] rfl (st_assign rfl) .nil) ?_
  refine tr_seq ?_
  refine tr_region rfl (.run [1100] [] rfl (st_buildSlice rfl 1100 Try.underlying23 inf2 (nle rfl) (by decide) rfl rfl rfl .nil (by decide) rfl (by decide) rfl (by decide) rfl) (.run [] [] rfl (st_assign rfl) .nil)) ?_
  refine tr_seq ?_
  refine tr_region rfl (.run [1200] [] rfl (st_buildSlice rfl 1200 Try.underlying23 inf2 (nle rfl) (by decide) rfl rfl rfl .nil (by decide) rfl (by decide) rfl (by decide) rfl) (.run [] [] rfl (st_move rfl) (.run [1200] [] rfl (st_append rfl 1200 (ib := 1200) (len := ([] ++ (pvI s)).length) rfl rfl (.row (len := 0) (xs := []) rfl rfl (.inl rfl)) (.fro (pvI_flat _)) Try.underlying23 (sk Try.underlying23 rfl) inf2 rfl (by decide) (by decide) (by decide) List.length_append (by simp only [maxLen, List.length_append, List.length_map, List.length_cons, List.length_nil, List.length_take, List.length_drop, pvE_length, pvI_length, pvT_length]; omega) (by simp only [maxLen, List.length_append, List.length_map, List.length_cons, List.length_nil, List.length_take, List.length_drop, pvE_length, pvI_length, pvT_length]; omega)) (.run [1500] [] rfl (st_buildSlice rfl 1500 Try.underlying23 inf2 (nle rfl) (by decide) rfl rfl rfl (.cons .v .nil) (by decide) rfl (by decide) rfl (by decide) rfl) (.run [1200] [] rfl (st_append rfl 1200 (ib := 1200) (len := (([] ++ (pvI s)) ++ [[PV.v (.int .i64 1000000000000)]]).length) rfl rfl (.row (len := ([] ++ (pvI s)).length) (xs := [] ++ (pvI s)) rfl rfl (.inl rfl)) (.give (len := 1) (xs := [[PV.v (.int .i64 1000000000000)]]) rfl rfl) Try.underlying23 (sk Try.underlying23 rfl) inf2 rfl (by decide) (by decide) (by decide) List.length_append (by simp only [maxLen, List.length_append, List.length_map, List.length_cons, List.length_nil, List.length_take, List.length_drop, pvE_length, pvI_length, pvT_length]; omega) (by simp only [maxLen, List.length_append, List.length_map, List.length_cons, List.length_nil, List.length_take, List.length_drop, pvE_length, pvI_length, pvT_length]; omega)) (.run [] [] rfl (st_assign rfl) .nil)))))) ?_
  have hr1 : ([] ++ (pvI s)) ++ [[PV.v (.int .i64 1000000000000)]] = pvI (pointsF s) := by rw [List.nil_append]; exact pvI_points s
  have hp2 : (.sl 1200 0 ((([] ++ (pvI s)) ++ [[PV.v (.int .i64 1000000000000)]]).length) : AV) = .sl 1200 0 ((pvI (pointsF s)).length) := by simp only [hr1]
  refine tr_wk (s' := mk [(0, .p none (.sl false 4 (pvE l))), (5, .sl 1100 0 0), (6, .sl 1200 0 ((pvI (pointsF s)).length))] [] [(1100, 1, []), (1200, 1, pvI (pointsF s))]) ?_ ?_
  · exact wk_mk ⟨rfl, ⟨rfl, ⟨hp2, trivial⟩⟩⟩ trivial ⟨rfl, ⟨(congrArg (fun x => some (1, x)) hr1), trivial⟩⟩ rfl
  refine tr_seq ?_
  refine tr_seq ?_
  refine tr_region rfl (.run [] [] rfl (st_assign rfl) .nil) ?_
  refine tr_block ?_
  refine tr_wk (wk_ren 1100 1 rfl rfl (by decide)) ?_
  refine tr_loopS (σ := Nat) (fun i => mk [(0, .p none (.sl false 4 (pvE l))), (5, .sl 1 0 ((pvI (needF l (pointsF s) i)).length)), (6, .sl 1200 0 ((pvI (pointsF s)).length)), (7, .p none (.v (.int .i64 (i:Int))))] [] [(1, 1, pvI (needF l (pointsF s) i)), (1200, 1, pvI (pointsF s))]) (fun i => i ≤ l.length) (fun i => l.length - i) 0 (by simp) (wk_mk ⟨rfl, ⟨rfl, ⟨rfl, ⟨(int_eq (by omega)), trivial⟩⟩⟩⟩ trivial ⟨(congrArg (fun x => some (1, x)) (by rfl)), ⟨rfl, trivial⟩⟩ rfl) ?_
  rintro i hG
  replace hG : i ≤ l.length := hG
  have hnl := needF_len l (pointsF s) i
  have hle3 := pvI_length (needF l (pointsF s) i)
  refine tr_seq ?_
  refine tr_seq ?_
  refine tr_region rfl (.run [] [] rfl (st_move rfl) (.run [] [] rfl (st_move rfl) (.run [] [] rfl (st_len_fro rfl rfl Try.underlying26) (.run [] [] rfl (st_lss rfl rfl rfl) .nil)))) ?_
  refine tr_if (t := decide ((i:Int) < ((pvE l).length : Int))) rfl (fun h3 => ?_) (fun h3 => ?_)
  · skip
    replace h3 := of_decide_eq_true h3
    refine tr_skip ?_
    refine tr_seq ?_
    refine tr_block ?_
    refine tr_seq ?_
    obtain ⟨e, he⟩ : ∃ e, l[i]? = some e := ⟨_, List.getElem?_eq_getElem (by omega)⟩
    have hlte := (List.getElem?_eq_some_iff.1 he).1
    refine tr_region rfl (.run [] [] rfl (st_assign rfl) .nil) ?_
    refine tr_seq ?_
    refine tr_seq ?_
    refine tr_region rfl (.run [] [] rfl (st_assign rfl) .nil) ?_
    refine tr_block ?_
    refine tr_loopS (σ := Nat × Bool) (fun (k, nb) => mk [(0, .p none (.sl false 4 (pvE l))), (5, .sl 1 0 ((pvI (needF l (pointsF s) i)).length)), (6, .sl 1200 0 ((pvI (pointsF s)).length)), (7, .p none (.v (.int .i64 (i:Int)))), (8, .p none (.v (.bool nb))), (9, .p none (.v (.int .i64 (k:Int))))] [] [(1, 1, pvI (needF l (pointsF s) i)), (1200, 1, pvI (pointsF s))]) (fun (k, nb) => k ≤ (pointsF s).length ∧ nb = ((pointsF s).take k).any (needC l i e)) (fun (k, nb) => (pointsF s).length - k) (0, false) ⟨Nat.zero_le _, rfl⟩ (wk_mk ⟨rfl, ⟨rfl, ⟨rfl, ⟨rfl, ⟨rfl, ⟨(int_eq (by omega)), trivial⟩⟩⟩⟩⟩⟩ trivial ⟨rfl, ⟨rfl, trivial⟩⟩ rfl) ?_
    rintro ⟨k, nb⟩ hG
    replace hG : k ≤ (pointsF s).length ∧ nb = ((pointsF s).take k).any (needC l i e) := hG
    obtain ⟨hk, hN⟩ := hG
    refine tr_seq ?_
    refine tr_seq ?_
    refine tr_region rfl (.run [] [] rfl (st_move rfl) (.run [] [] rfl (st_move rfl) (.run [] [] rfl (st_len_row rfl rfl Try.underlying23) (.run [] [] rfl (st_lss rfl rfl rfl) .nil)))) ?_
    refine tr_if (t := decide ((k:Int) < ((pvI (pointsF s)).length : Int))) rfl (fun h4 => ?_) (fun h4 => ?_)
    · skip
      replace h4 := of_decide_eq_true h4
      refine tr_skip ?_
      refine tr_seq ?_
      refine tr_block ?_
      refine tr_seq ?_
      refine tr_seq ?_
      obtain ⟨e2, he2⟩ : ∃ e, (pointsF s)[k]? = some e := ⟨_, List.getElem?_eq_getElem (by (have hL := pvI_length (pointsF s); omega))⟩
      have hlte2 := (List.getElem?_eq_some_iff.1 he2).1
      refine tr_regionD mixed rfl (.run [] [] rfl (st_move rfl) (.run [] [] rfl (st_move rfl) (.run [] [] rfl (st_idx_fro rfl rfl rfl Try.underlying26 Try.sizeOf44 rfl (by omega) (pvE_get he)) (.run [] [] rfl (st_faddr_fea rfl rfl Try.underlying44 rfl Try.sizeOf42 (by decide)) (.run [] [] rfl (st_faddr_fea rfl rfl Try.underlying42 rfl Try.sizeOf2 (by decide)) (.run [] [] rfl (st_load_fea1 rfl rfl Try.isAgg2 rfl) (.run [] [] rfl (st_move rfl) (.run [] [] rfl (st_move rfl) (.run [] [] rfl (st_idx_row0 k rfl rfl rfl rfl Try.underlying23 Try.sizeOf2 rfl rfl (by omega)) (.run [] [] rfl (st_load_ea1 rfl rfl rfl (pvI_get he2) Try.isAgg2 rfl) (.run [] [] rfl (st_gtr rfl rfl rfl) .nil))))))))))) (by kernel_rfl) ?_
      refine tr_if (t := decide (e2 < e.seq)) rfl (fun h5 => ?_) (fun h5 => ?_)
      · skip
        replace h5 := of_decide_eq_true h5
        refine tr_exit ?_
        refine tr_wk (s' := mk [(0, .p none (.sl false 4 (pvE l))), (5, .sl 1 0 ((pvI (needF l (pointsF s) i)).length)), (6, .sl 1200 0 ((pvI (pointsF s)).length)), (7, .p none (.v (.int .i64 (i:Int)))), (8, .p none (.v (.bool nb))), (9, .p none (.v (.int .i64 (k:Int))))] [] [(1, 1, pvI (needF l (pointsF s) i)), (1200, 1, pvI (pointsF s))]) ?_ ?_
        · exact wk_mk ⟨rfl, ⟨rfl, ⟨rfl, ⟨rfl, ⟨rfl, ⟨rfl, trivial⟩⟩⟩⟩⟩⟩ trivial ⟨rfl, ⟨rfl, trivial⟩⟩ rfl
        refine tr_region rfl (.run [] [] rfl (st_move rfl) (.run [] [] rfl (st_addn rfl rfl rfl (by omega)) (.run [] [] rfl (st_assign rfl) .nil))) ?_
        refine nxt (Q := fun _ _ => False) (z := (k, nb)) (k + 1, nb) ?_ ?_ ?_
        · show (k + 1) ≤ (pointsF s).length ∧ nb = ((pointsF s).take (k + 1)).any (needC l i e)
          exact ⟨by omega, by rw [any_snoc _ he2, ← hN, needC_no h5]; simp⟩
        · show (pointsF s).length - (k + 1) < (pointsF s).length - k
          omega
        · exact wk_mk ⟨rfl, ⟨rfl, ⟨rfl, ⟨rfl, ⟨rfl, ⟨(int_eq (by omega)), trivial⟩⟩⟩⟩⟩⟩ trivial ⟨rfl, ⟨rfl, trivial⟩⟩ rfl
      · skip
        replace h5 := of_decide_eq_false h5
        refine tr_skip ?_
        refine tr_seq ?_
        refine tr_wk (s' := mk [(0, .p none (.sl false 4 (pvE l))), (5, .sl 1 0 ((pvI (needF l (pointsF s) i)).length)), (6, .sl 1200 0 ((pvI (pointsF s)).length)), (7, .p none (.v (.int .i64 (i:Int)))), (8, .p none (.v (.bool nb))), (9, .p none (.v (.int .i64 (k:Int))))] [] [(1, 1, pvI (needF l (pointsF s) i)), (1200, 1, pvI (pointsF s))]) ?_ ?_
        · exact wk_mk ⟨rfl, ⟨rfl, ⟨rfl, ⟨rfl, ⟨rfl, ⟨rfl, trivial⟩⟩⟩⟩⟩⟩ trivial ⟨rfl, ⟨rfl, trivial⟩⟩ rfl
        rcases bfc (decide ((i:Int) = 0)) with h6 | h6
        · have h6' := h6
          replace h6' := of_decide_eq_false h6'
          obtain ⟨e3, he3⟩ : ∃ e, l[(i - 1 : Nat)]? = some e := ⟨_, List.getElem?_eq_getElem (by (have hL := pvE_length l; omega))⟩
          have hlte3 := (List.getElem?_eq_some_iff.1 he3).1
          rcases bfc (!(decide (e3.user = e.user))) with h7 | h7
          · have h7' := h7
            replace h7' : e3.user = e.user := of_decide_eq_true (bnot_f h7')
            refine tr_regionD mixed rfl (.run [] [] rfl (st_move rfl) (.run [] [] rfl (st_eq (st_eql rfl rfl rfl) (by exact congrArg (fun b => AV.p none (.v (.bool b))) h6)) (.run [] [] rfl (st_move rfl) (.run [] [] rfl (st_move rfl) (.run [] [] rfl (st_move rfl) (.run [] [] rfl (st_eq (st_subn rfl rfl rfl (by omega)) (((show (AV.p none (.v (.int .i64 ((i:Int) - 1)))) = AV.p none (.v (.int .i64 ((i - 1 : Nat) : Int))) from int_eq (by omega))))) (.run [] [] rfl (st_idx_fro rfl rfl rfl Try.underlying26 Try.sizeOf44 rfl (by omega) (pvE_get he3)) (.run [] [] rfl (st_faddr_fea rfl rfl Try.underlying44 rfl Try.sizeOf42 (by decide)) (.run [] [] rfl (st_faddr_fea rfl rfl Try.underlying42 rfl Try.sizeOf9 (by decide)) (.run [] [] rfl (st_load_fea1 rfl rfl Try.isAgg9 rfl) (.run [] [] rfl (st_move rfl) (.run [] [] rfl (st_move rfl) (.run [] [] rfl (st_idx_fro rfl rfl rfl Try.underlying26 Try.sizeOf44 rfl (by omega) (pvE_get he)) (.run [] [] rfl (st_faddr_fea rfl rfl Try.underlying44 rfl Try.sizeOf42 (by decide)) (.run [] [] rfl (st_faddr_fea rfl rfl Try.underlying42 rfl Try.sizeOf9 (by decide)) (.run [] [] rfl (st_load_fea1 rfl rfl Try.isAgg9 rfl) (.run [] [] rfl (st_eq (st_sneq rfl rfl rfl) (by exact congrArg (fun b => AV.p none (.v (.bool b))) h7)) (.run [] [] rfl (st_pick (t := false) rfl rfl) (.run [] [] rfl (st_move rfl) (.run [] [] rfl (st_move rfl) (.run [] [] rfl (st_move rfl) (.run [] [] rfl (st_eq (st_subn rfl rfl rfl (by omega)) (((show (AV.p none (.v (.int .i64 ((i:Int) - 1)))) = AV.p none (.v (.int .i64 ((i - 1 : Nat) : Int))) from int_eq (by omega))))) (.run [] [] rfl (st_idx_fro rfl rfl rfl Try.underlying26 Try.sizeOf44 rfl (by omega) (pvE_get he3)) (.run [] [] rfl (st_faddr_fea rfl rfl Try.underlying44 rfl Try.sizeOf42 (by decide)) (.run [] [] rfl (st_faddr_fea rfl rfl Try.underlying42 rfl Try.sizeOf2 (by decide)) (.run [] [] rfl (st_load_fea1 rfl rfl Try.isAgg2 rfl) (.run [] [] rfl (st_move rfl) (.run [] [] rfl (st_move rfl) (.run [] [] rfl (st_idx_row0 k rfl rfl rfl rfl Try.underlying23 Try.sizeOf2 rfl rfl (by omega)) (.run [] [] rfl (st_load_ea1 rfl rfl rfl (pvI_get he2) Try.isAgg2 rfl) (.run [] [] rfl (st_gtr rfl rfl rfl) (.run [] [] rfl (st_pick (t := false) rfl rfl) (.run [] [] rfl (st_assign rfl) .nil))))))))))))))))))))))))))))))))) (by kernel_rfl) ?_
            refine tr_wk (s' := mk [(0, .p none (.sl false 4 (pvE l))), (5, .sl 1 0 ((pvI (needF l (pointsF s) i)).length)), (6, .sl 1200 0 ((pvI (pointsF s)).length)), (7, .p none (.v (.int .i64 (i:Int)))), (8, .p none (.v (.bool nb))), (9, .p none (.v (.int .i64 (k:Int)))), (10, .p none (.v (.bool (decide (e2 < e3.seq))))), (43, .p none (.sl false 4 (pvE l))), (44, .p none (.v (.int .i64 (i:Int)))), (45, .p none (.v (.int .i64 ((i - 1 : Nat):Int)))), (46, .fea none [PV.v (.string e3.user), PV.v (.int .i64 e3.seq), PV.v (.int .i64 e3.kind), PV.v (.string e3.value)]), (47, .fea none [PV.v (.string e3.user), PV.v (.int .i64 e3.seq), PV.v (.int .i64 e3.kind), PV.v (.string e3.value)]), (48, .fea none [PV.v (.string e3.user), PV.v (.int .i64 e3.seq), PV.v (.int .i64 e3.kind), PV.v (.string e3.value)]), (49, .p none (.v (.string e3.user))), (50, .p none (.sl false 4 (pvE l))), (51, .p none (.v (.int .i64 (i:Int)))), (52, .fea none [PV.v (.string e.user), PV.v (.int .i64 e.seq), PV.v (.int .i64 e.kind), PV.v (.string e.value)]), (53, .fea none [PV.v (.string e.user), PV.v (.int .i64 e.seq), PV.v (.int .i64 e.kind), PV.v (.string e.value)]), (54, .fea none [PV.v (.string e.user), PV.v (.int .i64 e.seq), PV.v (.int .i64 e.kind), PV.v (.string e.value)]), (55, .p none (.v (.string e.user))), (56, .p none (.v (.bool false))), (59, .p none (.sl false 4 (pvE l))), (60, .p none (.v (.int .i64 (i:Int)))), (61, .p none (.v (.int .i64 ((i - 1 : Nat):Int)))), (62, .fea none [PV.v (.string e3.user), PV.v (.int .i64 e3.seq), PV.v (.int .i64 e3.kind), PV.v (.string e3.value)]), (63, .fea none [PV.v (.string e3.user), PV.v (.int .i64 e3.seq), PV.v (.int .i64 e3.kind), PV.v (.string e3.value)]), (64, .fea none [PV.v (.int .i64 e3.seq), PV.v (.int .i64 e3.kind), PV.v (.string e3.value)]), (65, .p none (.v (.int .i64 e3.seq))), (66, .sl 1200 0 ((pvI (pointsF s)).length)), (67, .p none (.v (.int .i64 (k:Int)))), (68, .ea 1200 k 0), (69, .p none (.v (.int .i64 e2))), (70, .p none (.v (.bool (decide (e2 < e3.seq)))))] [] [(1, 1, pvI (needF l (pointsF s) i)), (1200, 1, pvI (pointsF s))]) ?_ ?_
            · exact wk_mk ⟨rfl, ⟨rfl, ⟨rfl, ⟨rfl, ⟨rfl, ⟨rfl, ⟨rfl, ⟨rfl, ⟨rfl, ⟨rfl, ⟨rfl, ⟨rfl, ⟨rfl, ⟨rfl, ⟨rfl, ⟨rfl, ⟨rfl, ⟨rfl, ⟨rfl, ⟨rfl, ⟨rfl, ⟨rfl, ⟨rfl, ⟨rfl, ⟨rfl, ⟨rfl, ⟨rfl, ⟨rfl, ⟨rfl, ⟨rfl, ⟨rfl, ⟨rfl, ⟨rfl, trivial⟩⟩⟩⟩⟩⟩⟩⟩⟩⟩⟩⟩⟩⟩⟩⟩⟩⟩⟩⟩⟩⟩⟩⟩⟩⟩⟩⟩⟩⟩⟩⟩⟩ trivial ⟨rfl, ⟨rfl, trivial⟩⟩ rfl
            rcases bfc nb with h8 | h8
            · have h8' := h8
              refine tr_region rfl (.run [] [] rfl (st_eq (st_move rfl) (by exact congrArg (fun b => AV.p none (.v (.bool b))) h8)) (.run [] [] rfl (st_move rfl) (.run [] [] rfl (st_move rfl) (.run [] [] rfl (st_pick (t := false) rfl rfl) (.run [] [] rfl (st_assign rfl) .nil))))) ?_
              refine tr_region rfl (.run [] [] rfl (st_move rfl) (.run [] [] rfl (st_addn rfl rfl rfl (by omega)) (.run [] [] rfl (st_assign rfl) .nil))) ?_
              refine nxt (Q := fun _ _ => False) (z := (k, nb)) (k + 1, decide (e2 < e3.seq)) ?_ ?_ ?_
              · show (k + 1) ≤ (pointsF s).length ∧ (decide (e2 < e3.seq)) = ((pointsF s).take (k + 1)).any (needC l i e)
                exact ⟨by omega, by rw [any_snoc _ he2, ← hN, needC_seq h5 h6' he3 h7', h8]; simp⟩
              · show (pointsF s).length - (k + 1) < (pointsF s).length - k
                omega
              · exact wk_mk ⟨rfl, ⟨rfl, ⟨rfl, ⟨rfl, ⟨rfl, ⟨(int_eq (by omega)), trivial⟩⟩⟩⟩⟩⟩ trivial ⟨rfl, ⟨rfl, trivial⟩⟩ rfl
            · have h8' := h8
              refine tr_region rfl (.run [] [] rfl (st_eq (st_move rfl) (by exact congrArg (fun b => AV.p none (.v (.bool b))) h8)) (.run [] [] rfl (st_move rfl) (.not rfl (.run [] [] rfl (st_pick (t := true) rfl rfl) (.run [] [] rfl (st_assign rfl) .nil))))) ?_
              refine tr_region rfl (.run [] [] rfl (st_move rfl) (.run [] [] rfl (st_addn rfl rfl rfl (by omega)) (.run [] [] rfl (st_assign rfl) .nil))) ?_
              refine nxt (Q := fun _ _ => False) (z := (k, nb)) (k + 1, true) ?_ ?_ ?_
              · show (k + 1) ≤ (pointsF s).length ∧ true = ((pointsF s).take (k + 1)).any (needC l i e)
                exact ⟨by omega, by rw [any_snoc _ he2, ← hN, needC_seq h5 h6' he3 h7', h8]; simp⟩
              · show (pointsF s).length - (k + 1) < (pointsF s).length - k
                omega
              · exact wk_mk ⟨rfl, ⟨rfl, ⟨rfl, ⟨rfl, ⟨rfl, ⟨(int_eq (by omega)), trivial⟩⟩⟩⟩⟩⟩ trivial ⟨rfl, ⟨rfl, trivial⟩⟩ rfl
          · have h7' := h7
            replace h7' : ¬ (e3.user = e.user) := of_decide_eq_false (bnot_t h7')
            refine tr_regionD mixed rfl (.run [] [] rfl (st_move rfl) (.run [] [] rfl (st_eq (st_eql rfl rfl rfl) (by exact congrArg (fun b => AV.p none (.v (.bool b))) h6)) (.run [] [] rfl (st_move rfl) (.run [] [] rfl (st_move rfl) (.run [] [] rfl (st_move rfl) (.run [] [] rfl (st_eq (st_subn rfl rfl rfl (by omega)) (((show (AV.p none (.v (.int .i64 ((i:Int) - 1)))) = AV.p none (.v (.int .i64 ((i - 1 : Nat) : Int))) from int_eq (by omega))))) (.run [] [] rfl (st_idx_fro rfl rfl rfl Try.underlying26 Try.sizeOf44 rfl (by omega) (pvE_get he3)) (.run [] [] rfl (st_faddr_fea rfl rfl Try.underlying44 rfl Try.sizeOf42 (by decide)) (.run [] [] rfl (st_faddr_fea rfl rfl Try.underlying42 rfl Try.sizeOf9 (by decide)) (.run [] [] rfl (st_load_fea1 rfl rfl Try.isAgg9 rfl) (.run [] [] rfl (st_move rfl) (.run [] [] rfl (st_move rfl) (.run [] [] rfl (st_idx_fro rfl rfl rfl Try.underlying26 Try.sizeOf44 rfl (by omega) (pvE_get he)) (.run [] [] rfl (st_faddr_fea rfl rfl Try.underlying44 rfl Try.sizeOf42 (by decide)) (.run [] [] rfl (st_faddr_fea rfl rfl Try.underlying42 rfl Try.sizeOf9 (by decide)) (.run [] [] rfl (st_load_fea1 rfl rfl Try.isAgg9 rfl) (.run [] [] rfl (st_eq (st_sneq rfl rfl rfl) (by exact congrArg (fun b => AV.p none (.v (.bool b))) h7)) (.run [] [] rfl (st_pick (t := false) rfl rfl) (.run [] [] rfl (st_move rfl) (.not rfl (.not rfl (.not rfl (.not rfl (.not rfl (.not rfl (.not rfl (.not rfl (.not rfl (.not rfl (.not rfl (.not rfl (.run [] [] rfl (st_pick (t := true) rfl rfl) (.run [] [] rfl (st_assign rfl) .nil))))))))))))))))))))))))))))))))) (by kernel_rfl) ?_
            refine tr_wk (s' := mk [(0, .p none (.sl false 4 (pvE l))), (5, .sl 1 0 ((pvI (needF l (pointsF s) i)).length)), (6, .sl 1200 0 ((pvI (pointsF s)).length)), (7, .p none (.v (.int .i64 (i:Int)))), (8, .p none (.v (.bool nb))), (9, .p none (.v (.int .i64 (k:Int)))), (10, .p none (.v (.bool true))), (43, .p none (.sl false 4 (pvE l))), (44, .p none (.v (.int .i64 (i:Int)))), (45, .p none (.v (.int .i64 ((i - 1 : Nat):Int)))), (46, .fea none [PV.v (.string e3.user), PV.v (.int .i64 e3.seq), PV.v (.int .i64 e3.kind), PV.v (.string e3.value)]), (47, .fea none [PV.v (.string e3.user), PV.v (.int .i64 e3.seq), PV.v (.int .i64 e3.kind), PV.v (.string e3.value)]), (48, .fea none [PV.v (.string e3.user), PV.v (.int .i64 e3.seq), PV.v (.int .i64 e3.kind), PV.v (.string e3.value)]), (49, .p none (.v (.string e3.user))), (50, .p none (.sl false 4 (pvE l))), (51, .p none (.v (.int .i64 (i:Int)))), (52, .fea none [PV.v (.string e.user), PV.v (.int .i64 e.seq), PV.v (.int .i64 e.kind), PV.v (.string e.value)]), (53, .fea none [PV.v (.string e.user), PV.v (.int .i64 e.seq), PV.v (.int .i64 e.kind), PV.v (.string e.value)]), (54, .fea none [PV.v (.string e.user), PV.v (.int .i64 e.seq), PV.v (.int .i64 e.kind), PV.v (.string e.value)]), (55, .p none (.v (.string e.user))), (56, .p none (.v (.bool true)))] [] [(1, 1, pvI (needF l (pointsF s) i)), (1200, 1, pvI (pointsF s))]) ?_ ?_
            · exact wk_mk ⟨rfl, ⟨rfl, ⟨rfl, ⟨rfl, ⟨rfl, ⟨rfl, ⟨rfl, ⟨rfl, ⟨rfl, ⟨rfl, ⟨rfl, ⟨rfl, ⟨rfl, ⟨rfl, ⟨rfl, ⟨rfl, ⟨rfl, ⟨rfl, ⟨rfl, ⟨rfl, ⟨rfl, trivial⟩⟩⟩⟩⟩⟩⟩⟩⟩⟩⟩⟩⟩⟩⟩⟩⟩⟩⟩⟩⟩ trivial ⟨rfl, ⟨rfl, trivial⟩⟩ rfl
            rcases bfc nb with h9 | h9
            · have h9' := h9
              refine tr_region rfl (.run [] [] rfl (st_eq (st_move rfl) (by exact congrArg (fun b => AV.p none (.v (.bool b))) h9)) (.run [] [] rfl (st_move rfl) (.run [] [] rfl (st_move rfl) (.run [] [] rfl (st_pick (t := false) rfl rfl) (.run [] [] rfl (st_assign rfl) .nil))))) ?_
              refine tr_region rfl (.run [] [] rfl (st_move rfl) (.run [] [] rfl (st_addn rfl rfl rfl (by omega)) (.run [] [] rfl (st_assign rfl) .nil))) ?_
              refine nxt (Q := fun _ _ => False) (z := (k, nb)) (k + 1, true) ?_ ?_ ?_
              · show (k + 1) ≤ (pointsF s).length ∧ true = ((pointsF s).take (k + 1)).any (needC l i e)
                exact ⟨by omega, by rw [any_snoc _ he2, ← hN, needC_user h5 he3 h7', h9]; simp⟩
              · show (pointsF s).length - (k + 1) < (pointsF s).length - k
                omega
              · exact wk_mk ⟨rfl, ⟨rfl, ⟨rfl, ⟨rfl, ⟨rfl, ⟨(int_eq (by omega)), trivial⟩⟩⟩⟩⟩⟩ trivial ⟨rfl, ⟨rfl, trivial⟩⟩ rfl
            · have h9' := h9
              refine tr_region rfl (.run [] [] rfl (st_eq (st_move rfl) (by exact congrArg (fun b => AV.p none (.v (.bool b))) h9)) (.run [] [] rfl (st_move rfl) (.not rfl (.run [] [] rfl (st_pick (t := true) rfl rfl) (.run [] [] rfl (st_assign rfl) .nil))))) ?_
              refine tr_region rfl (.run [] [] rfl (st_move rfl) (.run [] [] rfl (st_addn rfl rfl rfl (by omega)) (.run [] [] rfl (st_assign rfl) .nil))) ?_
              refine nxt (Q := fun _ _ => False) (z := (k, nb)) (k + 1, true) ?_ ?_ ?_
              · show (k + 1) ≤ (pointsF s).length ∧ true = ((pointsF s).take (k + 1)).any (needC l i e)
                exact ⟨by omega, by rw [any_snoc _ he2, ← hN, needC_user h5 he3 h7', h9]; simp⟩
              · show (pointsF s).length - (k + 1) < (pointsF s).length - k
                omega
              · exact wk_mk ⟨rfl, ⟨rfl, ⟨rfl, ⟨rfl, ⟨rfl, ⟨(int_eq (by omega)), trivial⟩⟩⟩⟩⟩⟩ trivial ⟨rfl, ⟨rfl, trivial⟩⟩ rfl
        · have h6' := h6
          replace h6' := of_decide_eq_true h6'
          refine tr_regionD mixed rfl (.run [] [] rfl (st_move rfl) (.run [] [] rfl (st_eq (st_eql rfl rfl rfl) (by exact congrArg (fun b => AV.p none (.v (.bool b))) h6)) (.run [] [] rfl (st_move rfl) (.not rfl (.not rfl (.not rfl (.not rfl (.not rfl (.not rfl (.not rfl (.not rfl (.not rfl (.not rfl (.not rfl (.not rfl (.not rfl (.not rfl (.run [] [] rfl (st_pick (t := true) rfl rfl) (.run [] [] rfl (st_move rfl) (.not rfl (.not rfl (.not rfl (.not rfl (.not rfl (.not rfl (.not rfl (.not rfl (.not rfl (.not rfl (.not rfl (.not rfl (.run [] [] rfl (st_pick (t := true) rfl rfl) (.run [] [] rfl (st_assign rfl) .nil))))))))))))))))))))))))))))))))) (by kernel_rfl) ?_
          refine tr_wk (s' := mk [(0, .p none (.sl false 4 (pvE l))), (5, .sl 1 0 ((pvI (needF l (pointsF s) i)).length)), (6, .sl 1200 0 ((pvI (pointsF s)).length)), (7, .p none (.v (.int .i64 (i:Int)))), (8, .p none (.v (.bool nb))), (9, .p none (.v (.int .i64 (k:Int)))), (10, .p none (.v (.bool true)))] [] [(1, 1, pvI (needF l (pointsF s) i)), (1200, 1, pvI (pointsF s))]) ?_ ?_
          · exact wk_mk ⟨rfl, ⟨rfl, ⟨rfl, ⟨rfl, ⟨rfl, ⟨rfl, ⟨rfl, trivial⟩⟩⟩⟩⟩⟩⟩ trivial ⟨rfl, ⟨rfl, trivial⟩⟩ rfl
          rcases bfc nb with h10 | h10
          · have h10' := h10
            refine tr_region rfl (.run [] [] rfl (st_eq (st_move rfl) (by exact congrArg (fun b => AV.p none (.v (.bool b))) h10)) (.run [] [] rfl (st_move rfl) (.run [] [] rfl (st_move rfl) (.run [] [] rfl (st_pick (t := false) rfl rfl) (.run [] [] rfl (st_assign rfl) .nil))))) ?_
            refine tr_region rfl (.run [] [] rfl (st_move rfl) (.run [] [] rfl (st_addn rfl rfl rfl (by omega)) (.run [] [] rfl (st_assign rfl) .nil))) ?_
            refine nxt (Q := fun _ _ => False) (z := (k, nb)) (k + 1, true) ?_ ?_ ?_
            · show (k + 1) ≤ (pointsF s).length ∧ true = ((pointsF s).take (k + 1)).any (needC l i e)
              exact ⟨by omega, by rw [any_snoc _ he2, ← hN, needC_zero h5 h6', h10]; simp⟩
            · show (pointsF s).length - (k + 1) < (pointsF s).length - k
              omega
            · exact wk_mk ⟨rfl, ⟨rfl, ⟨rfl, ⟨rfl, ⟨rfl, ⟨(int_eq (by omega)), trivial⟩⟩⟩⟩⟩⟩ trivial ⟨rfl, ⟨rfl, trivial⟩⟩ rfl
          · have h10' := h10
            refine tr_region rfl (.run [] [] rfl (st_eq (st_move rfl) (by exact congrArg (fun b => AV.p none (.v (.bool b))) h10)) (.run [] [] rfl (st_move rfl) (.not rfl (.run [] [] rfl (st_pick (t := true) rfl rfl) (.run [] [] rfl (st_assign rfl) .nil))))) ?_
            refine tr_region rfl (.run [] [] rfl (st_move rfl) (.run [] [] rfl (st_addn rfl rfl rfl (by omega)) (.run [] [] rfl (st_assign rfl) .nil))) ?_
            refine nxt (Q := fun _ _ => False) (z := (k, nb)) (k + 1, true) ?_ ?_ ?_
            · show (k + 1) ≤ (pointsF s).length ∧ true = ((pointsF s).take (k + 1)).any (needC l i e)
              exact ⟨by omega, by rw [any_snoc _ he2, ← hN, needC_zero h5 h6', h10]; simp⟩
            · show (pointsF s).length - (k + 1) < (pointsF s).length - k
              omega
            · exact wk_mk ⟨rfl, ⟨rfl, ⟨rfl, ⟨rfl, ⟨rfl, ⟨(int_eq (by omega)), trivial⟩⟩⟩⟩⟩⟩ trivial ⟨rfl, ⟨rfl, trivial⟩⟩ rfl
    · skip
      replace h4 := of_decide_eq_false h4
      refine tr_exit ?_
      refine tr_seq ?_
      have hnp0 : nb = needP l (pointsF s) i e := by rw [hN, needP_any, List.take_of_length_le (by omega)]
      refine tr_region rfl (.run [] [] rfl (st_move rfl) .nil) ?_
      refine tr_if (t := nb) rfl (fun h11 => ?_) (fun h11 => ?_)
      · skip
        have hnp : needP l (pointsF s) i e = true := by rw [← hnp0]; exact h11
        refine tr_region rfl (.run [] [] rfl (st_move rfl) (.run [] [] rfl (st_move rfl) (.run [7900] [] rfl (st_buildSlice rfl 7900 Try.underlying23 inf2 (nle rfl) (by decide) rfl rfl rfl (.cons .v .nil) (by decide) rfl (by decide) rfl (by decide) rfl) (.run [1] [] rfl (st_append rfl 1 (ib := 1) (len := ((pvI (needF l (pointsF s) i)) ++ [[PV.v (.int .i64 (i:Int))]]).length) rfl rfl (.row (len := (pvI (needF l (pointsF s) i)).length) (xs := pvI (needF l (pointsF s) i)) rfl rfl (.inl rfl)) (.give (len := 1) (xs := [[PV.v (.int .i64 (i:Int))]]) rfl rfl) Try.underlying23 (sk Try.underlying23 rfl) inf2 rfl (by decide) (by decide) (by decide) List.length_append (by simp only [maxLen, List.length_append, List.length_map, List.length_cons, List.length_nil, List.length_take, List.length_drop, pvE_length, pvI_length, pvT_length]; omega) (by simp only [maxLen, List.length_append, List.length_map, List.length_cons, List.length_nil, List.length_take, List.length_drop, pvE_length, pvI_length, pvT_length]; omega)) (.run [] [] rfl (st_assign rfl) .nil))))) ?_
        have hr12 : (pvI (needF l (pointsF s) i)) ++ [[PV.v (.int .i64 (i:Int))]] = pvI (needF l (pointsF s) (i + 1)) := by rw [need_yes he hnp]; exact pvI_snoc _ _
        have hp13 : (.sl 1 0 (((pvI (needF l (pointsF s) i)) ++ [[PV.v (.int .i64 (i:Int))]]).length) : AV) = .sl 1 0 ((pvI (needF l (pointsF s) (i + 1))).length) := by simp only [hr12]
        refine tr_wk (s' := mk [(0, .p none (.sl false 4 (pvE l))), (5, .sl 1 0 ((pvI (needF l (pointsF s) (i + 1))).length)), (6, .sl 1200 0 ((pvI (pointsF s)).length)), (7, .p none (.v (.int .i64 (i:Int))))] [] [(1, 1, pvI (needF l (pointsF s) (i + 1))), (1200, 1, pvI (pointsF s))]) ?_ ?_
        · exact wk_mk ⟨rfl, ⟨hp13, ⟨rfl, ⟨rfl, trivial⟩⟩⟩⟩ trivial ⟨(congrArg (fun x => some (1, x)) hr12), ⟨rfl, trivial⟩⟩ rfl
        refine tr_region rfl (.run [] [] rfl (st_move rfl) (.run [] [] rfl (st_addn rfl rfl rfl (by omega)) (.run [] [] rfl (st_assign rfl) .nil))) ?_
        refine nxt (Q := fun _ _ => False) (z := i) (i + 1) ?_ ?_ ?_
        · show (i + 1) ≤ l.length
          omega
        · show l.length - (i + 1) < l.length - i
          omega
        · exact wk_mk ⟨rfl, ⟨rfl, ⟨rfl, ⟨(int_eq (by omega)), trivial⟩⟩⟩⟩ trivial ⟨rfl, ⟨rfl, trivial⟩⟩ rfl
      · skip
        refine tr_skip ?_
        have hnp : needP l (pointsF s) i e = false := by rw [← hnp0]; exact h11
        refine tr_region rfl (.run [] [] rfl (st_move rfl) (.run [] [] rfl (st_addn rfl rfl rfl (by omega)) (.run [] [] rfl (st_assign rfl) .nil))) ?_
        refine nxt (Q := fun _ _ => False) (z := i) (i + 1) ?_ ?_ ?_
        · show (i + 1) ≤ l.length
          omega
        · show l.length - (i + 1) < l.length - i
          omega
        · exact wk_mk ⟨rfl, ⟨(congrArg (fun x => AV.sl 1 0 (pvI x).length) (need_no he hnp).symm), ⟨rfl, ⟨(int_eq (by omega)), trivial⟩⟩⟩⟩ trivial ⟨(congrArg (fun x => some (1, x)) (by rw [need_no he hnp])), ⟨rfl, trivial⟩⟩ rfl
  · skip
    replace h3 := of_decide_eq_false h3
    refine tr_exit ?_
    refine tr_seq ?_
    have hil : i = l.length := (by omega)
    rw [← hil]
    refine tr_region rfl (.run [] [] rfl (st_move rfl) (.run [] [] rfl (st_assign rfl) .nil)) ?_
    refine tr_ret ?_
    exact ends [_] [1] (.cons (.tmp rfl) .nil) (.cons (.one (.row (len := (pvI (needF l (pointsF s) i)).length) (xs := pvI (needF l (pointsF s) i)) rfl rfl) (.sl _ _ (FlatP.clean (pvI_flat _)))) .nil) (by decide) trivial
end Go.Rl
namespace Go.Rl
open Go.Proofs
theorem inf42 : (Try.prog.info? 42).map (fun i => (i.zero, i.size, i.bytes)) = some (some (.agg #[.string ⟨#[]⟩, .int .i64 0, .int .i64 0]), 3, 32) := by kernel_rfl
theorem en31 : ∀ vs w, (callFunc 31 vs).run Try.prog w = .ok (.enter 31 vs) w := enters Try.func31 (by decide) rfl
theorem en32 : ∀ vs w, (callFunc 32 vs).run Try.prog w = .ok (.enter 32 vs) w := enters Try.func32 (by decide) rfl
theorem en71 : ∀ vs w, (callFunc 71 vs).run Try.prog w = .ok (.enter 71 vs) w := enters Try.func71 (by decide) rfl
theorem en138 : ∀ vs w, (callFunc 138 vs).run Try.prog w = .ok (.enter 138 vs) w := enters Try.func138 (by decide) rfl
theorem en75 : ∀ vs w, (callFunc 75 vs).run Try.prog w = .ok (.enter 75 vs) w := enters Try.func75 (by decide) rfl
theorem en134 : ∀ vs w, (callFunc 134 vs).run Try.prog w = .ok (.enter 134 vs) w := enters Try.func134 (by decide) rfl
set_option maxRecDepth 1000000 in
set_option maxHeartbeats 2000000 in
theorem eqInt64S_con (a b : List Int) (hl : a.length ≤ 1000000000) : Con Try.prog 22 [.one (PV.sl false 1 (pvI a)), .one (PV.sl false 1 (pvI b))] [] [.one (.v (.bool (decide (a = b))))] := by
  refine con_of_tr Try.func22 rfl rfl rfl rfl ?_
  have hla := pvI_length a
  have hlb := pvI_length b
  refine tr_seq ?_
  refine tr_region rfl (.run [] [] rfl (st_assign rfl) .nil) ?_
  refine tr_seq ?_
  refine tr_seq ?_
  refine tr_region rfl (.run [] [] rfl (st_move rfl) (.run [] [] rfl (st_len_fro rfl rfl Try.underlying23) (.run [] [] rfl (st_move rfl) (.run [] [] rfl (st_len_fro rfl rfl Try.underlying23) (.run [] [] rfl (st_neq rfl rfl rfl) .nil))))) ?_
  refine tr_if (t := (!(decide (((pvI a).length : Int) = ((pvI b).length : Int))))) rfl (fun h1 => ?_) (fun h1 => ?_)
  · skip
    replace h1 : ¬ (((pvI a).length : Int) = ((pvI b).length : Int)) := of_decide_eq_false (bnot_t h1)
    refine tr_seq ?_
    refine tr_region rfl (.run [] [] rfl (st_assign rfl) .nil) ?_
    refine tr_ret ?_
    exact ends [_] [] (.cons (.tmp (bool_eq (decide_eq_false (fun e => by subst e; omega)).symm)) .nil) (.cons (.one .v (.v _)) .nil) (by decide) trivial
  · skip
    replace h1 : ((pvI a).length : Int) = ((pvI b).length : Int) := of_decide_eq_true (bnot_f h1)
    refine tr_skip ?_
    refine tr_seq ?_
    refine tr_seq ?_
    refine tr_region rfl (.run [] [] rfl (st_assign rfl) .nil) ?_
    refine tr_block ?_
    refine tr_loopS (σ := Nat) (fun i => mk [(0, .p none (.sl false 1 (pvI a))), (1, .p none (.sl false 1 (pvI b))), (5, .p none (.v (.int .i64 (i:Int))))] [] []) (fun i => i ≤ a.length ∧ ∀ j, j < i → a[j]? = b[j]?) (fun i => a.length - i) 0 ⟨Nat.zero_le _, fun j hj => absurd hj (Nat.not_lt_zero j)⟩ (wk_mk ⟨rfl, ⟨rfl, ⟨(int_eq (by omega)), trivial⟩⟩⟩ trivial trivial rfl) ?_
    rintro i hG
    replace hG : i ≤ a.length ∧ ∀ j, j < i → a[j]? = b[j]? := hG
    obtain ⟨hi, hG⟩ := hG
    refine tr_seq ?_
    refine tr_seq ?_
    refine tr_region rfl (.run [] [] rfl (st_move rfl) (.run [] [] rfl (st_move rfl) (.run [] [] rfl (st_len_fro rfl rfl Try.underlying23) (.run [] [] rfl (st_lss rfl rfl rfl) .nil)))) ?_
    refine tr_if (t := decide ((i:Int) < ((pvI a).length : Int))) rfl (fun h2 => ?_) (fun h2 => ?_)
    · skip
      replace h2 := of_decide_eq_true h2
      refine tr_skip ?_
      refine tr_seq ?_
      refine tr_block ?_
      refine tr_seq ?_
      obtain ⟨e, he⟩ : ∃ e, a[i]? = some e := ⟨_, List.getElem?_eq_getElem (by (have hL := pvI_length a; omega))⟩
      have hlte := (List.getElem?_eq_some_iff.1 he).1
      obtain ⟨e2, he2⟩ : ∃ e, b[i]? = some e := ⟨_, List.getElem?_eq_getElem (by (have hL := pvI_length b; omega))⟩
      have hlte2 := (List.getElem?_eq_some_iff.1 he2).1
      refine tr_regionD mixed rfl (.run [] [] rfl (st_move rfl) (.run [] [] rfl (st_move rfl) (.run [] [] rfl (st_idx_fro rfl rfl rfl Try.underlying23 Try.sizeOf2 rfl (by omega) (pvI_get he)) (.run [] [] rfl (st_load_fea1 rfl rfl Try.isAgg2 rfl) (.run [] [] rfl (st_move rfl) (.run [] [] rfl (st_move rfl) (.run [] [] rfl (st_idx_fro rfl rfl rfl Try.underlying23 Try.sizeOf2 rfl (by omega) (pvI_get he2)) (.run [] [] rfl (st_load_fea1 rfl rfl Try.isAgg2 rfl) (.run [] [] rfl (st_neq rfl rfl rfl) .nil))))))))) (by kernel_rfl) ?_
      refine tr_if (t := (!(decide (e = e2)))) rfl (fun h3 => ?_) (fun h3 => ?_)
      · skip
        replace h3 : ¬ (e = e2) := of_decide_eq_false (bnot_t h3)
        refine tr_seq ?_
        refine tr_region rfl (.run [] [] rfl (st_assign rfl) .nil) ?_
        refine tr_ret ?_
        exact ends [_] [] (.cons (.tmp (bool_eq (decide_eq_false (glist_ne he he2 h3)).symm)) .nil) (.cons (.one .v (.v _)) .nil) (by decide) trivial
      · skip
        replace h3 : e = e2 := of_decide_eq_true (bnot_f h3)
        refine tr_skip ?_
        refine tr_region rfl (.run [] [] rfl (st_move rfl) (.run [] [] rfl (st_addn rfl rfl rfl (by omega)) (.run [] [] rfl (st_assign rfl) .nil))) ?_
        refine nxt (Q := fun _ _ => False) (z := i) (i + 1) ?_ ?_ ?_
        · show (i + 1) ≤ a.length ∧ ∀ j, j < (i + 1) → a[j]? = b[j]?
          exact ⟨by omega, glist_step hG he he2 h3⟩
        · show a.length - (i + 1) < a.length - i
          omega
        · exact wk_mk ⟨rfl, ⟨rfl, ⟨(int_eq (by omega)), trivial⟩⟩⟩ trivial trivial rfl
    · skip
      replace h2 := of_decide_eq_false h2
      refine tr_exit ?_
      refine tr_seq ?_
      refine tr_region rfl (.run [] [] rfl (st_assign rfl) .nil) ?_
      refine tr_ret ?_
      exact ends [_] [] (.cons (.tmp (bool_eq (decide_eq_true (glist_all (by omega) (by omega) hG)).symm)) .nil) (.cons (.one .v (.v _)) .nil) (by decide) trivial
set_option maxRecDepth 1000000 in
set_option maxHeartbeats 2000000 in
theorem eqKey_con (a b : Ent) : Con Try.prog 138 [.agg [PV.v (.string a.user), PV.v (.int .i64 a.seq), PV.v (.int .i64 a.kind)], .agg [PV.v (.string b.user), PV.v (.int .i64 b.seq), PV.v (.int .i64 b.kind)]] [] [.one (.v (.bool (decide (a.user = b.user ∧ a.seq = b.seq ∧ a.kind = b.kind))))] := by
  refine con_of_tr Try.func138 rfl rfl rfl rfl ?_
  refine tr_seq ?_
  refine tr_region rfl (.run [] [2] rfl (st_box rfl 2 rfl rfl (by decide) rfl (by decide)) (.run [] [3] rfl (st_box rfl 3 rfl rfl (by decide) rfl (by decide)) (.run [] [] rfl (st_assign rfl) .nil))) ?_
  refine tr_seq ?_
  refine tr_seq ?_
  refine tr_region rfl (.run [] [] rfl (st_faddr_box rfl rfl Try.underlying42 rfl Try.sizeOf9 (by decide)) (.run [] [] rfl (st_load_box1 rfl rfl rfl Try.isAgg9 rfl) (.run [] [] rfl (st_faddr_box rfl rfl Try.underlying42 rfl Try.sizeOf9 (by decide)) (.run [] [] rfl (st_load_box1 rfl rfl rfl Try.isAgg9 rfl) (.run [] [] rfl (st_sneq rfl rfl rfl) .nil))))) ?_
  refine tr_if (t := (!(decide (a.user = b.user)))) rfl (fun h1 => ?_) (fun h1 => ?_)
  · skip
    replace h1 : ¬ (a.user = b.user) := of_decide_eq_false (bnot_t h1)
    refine tr_seq ?_
    refine tr_region rfl (.run [] [] rfl (st_assign rfl) .nil) ?_
    refine tr_ret ?_
    exact ends [_] [] (.cons (.tmp (bool_eq (by simp [h1]))) .nil) (.cons (.one .v (.v _)) .nil) (by decide) trivial
  · skip
    replace h1 : a.user = b.user := of_decide_eq_true (bnot_f h1)
    refine tr_skip ?_
    refine tr_seq ?_
    refine tr_seq ?_
    refine tr_region rfl (.run [] [] rfl (st_faddr_box rfl rfl Try.underlying42 rfl Try.sizeOf2 (by decide)) (.run [] [] rfl (st_load_box1 rfl rfl rfl Try.isAgg2 rfl) (.run [] [] rfl (st_faddr_box rfl rfl Try.underlying42 rfl Try.sizeOf2 (by decide)) (.run [] [] rfl (st_load_box1 rfl rfl rfl Try.isAgg2 rfl) (.run [] [] rfl (st_neq rfl rfl rfl) .nil))))) ?_
    refine tr_if (t := (!(decide (a.seq = b.seq)))) rfl (fun h2 => ?_) (fun h2 => ?_)
    · skip
      replace h2 : ¬ (a.seq = b.seq) := of_decide_eq_false (bnot_t h2)
      refine tr_seq ?_
      refine tr_region rfl (.run [] [] rfl (st_assign rfl) .nil) ?_
      refine tr_ret ?_
      exact ends [_] [] (.cons (.tmp (bool_eq (by simp [h1, h2]))) .nil) (.cons (.one .v (.v _)) .nil) (by decide) trivial
    · skip
      replace h2 : a.seq = b.seq := of_decide_eq_true (bnot_f h2)
      refine tr_skip ?_
      refine tr_seq ?_
      refine tr_seq ?_
      refine tr_wk (s' := mk [(2, .ptr 2 0), (3, .ptr 3 0)] [(2, [.p none (.v (.string a.user)), .p none (.v (.int .i64 a.seq)), .p none (.v (.int .i64 a.kind))]), (3, [.p none (.v (.string b.user)), .p none (.v (.int .i64 b.seq)), .p none (.v (.int .i64 b.kind))])] []) ?_ ?_
      · exact wk_mk ⟨rfl, ⟨rfl, trivial⟩⟩ ⟨rfl, ⟨rfl, trivial⟩⟩ trivial rfl
      refine tr_region rfl (.run [] [] rfl (st_faddr_box rfl rfl Try.underlying42 rfl Try.sizeOf2 (by decide)) (.run [] [] rfl (st_load_box1 rfl rfl rfl Try.isAgg2 rfl) (.run [] [] rfl (st_faddr_box rfl rfl Try.underlying42 rfl Try.sizeOf2 (by decide)) (.run [] [] rfl (st_load_box1 rfl rfl rfl Try.isAgg2 rfl) (.run [] [] rfl (st_neq rfl rfl rfl) .nil))))) ?_
      refine tr_if (t := (!(decide (a.kind = b.kind)))) rfl (fun h3 => ?_) (fun h3 => ?_)
      · skip
        replace h3 : ¬ (a.kind = b.kind) := of_decide_eq_false (bnot_t h3)
        refine tr_seq ?_
        refine tr_region rfl (.run [] [] rfl (st_assign rfl) .nil) ?_
        refine tr_ret ?_
        exact ends [_] [] (.cons (.tmp (bool_eq (by simp [h1, h2, h3]))) .nil) (.cons (.one .v (.v _)) .nil) (by decide) trivial
      · skip
        replace h3 : a.kind = b.kind := of_decide_eq_true (bnot_f h3)
        refine tr_skip ?_
        refine tr_seq ?_
        refine tr_region rfl (.run [] [] rfl (st_assign rfl) .nil) ?_
        refine tr_ret ?_
        exact ends [_] [] (.cons (.tmp (bool_eq (by simp [h1, h2, h3]))) .nil) (.cons (.one .v (.v _)) .nil) (by decide) trivial
set_option maxRecDepth 1000000 in
set_option maxHeartbeats 2000000 in
theorem eqEntry_con (a b : Ent) : Con Try.prog 75 [.agg [PV.v (.string a.user), PV.v (.int .i64 a.seq), PV.v (.int .i64 a.kind), PV.v (.string a.value)], .agg [PV.v (.string b.user), PV.v (.int .i64 b.seq), PV.v (.int .i64 b.kind), PV.v (.string b.value)]] [] [.one (.v (.bool (decide (a = b))))] := by
  refine con_of_tr Try.func75 rfl rfl rfl rfl ?_
  refine tr_seq ?_
  refine tr_region rfl (.run [] [2] rfl (st_box rfl 2 rfl rfl (by decide) rfl (by decide)) (.run [] [3] rfl (st_box rfl 3 rfl rfl (by decide) rfl (by decide)) (.run [] [] rfl (st_assign rfl) .nil))) ?_
  refine tr_seq ?_
  refine tr_seq ?_
  refine tr_region rfl (.run [] [] rfl (st_faddr_box rfl rfl Try.underlying44 rfl Try.sizeOf42 (by decide)) (.run [] [] rfl (st_load_box rfl rfl rfl Try.isAgg42 Try.sizeOf42 (nle rfl)) (.run [] [] rfl (st_faddr_box rfl rfl Try.underlying44 rfl Try.sizeOf42 (by decide)) (.run [] [] rfl (st_load_box rfl rfl rfl Try.isAgg42 Try.sizeOf42 (nle rfl)) (.run [900] [] rfl (st_call rfl 900 (X := []) en138 rfl (.val nod) (.cons (.agg (.cons (.bor .v) (.cons (.bor .v) (.cons (.bor .v) .nil)))) (.cons (.agg (.cons (.bor .v) (.cons (.bor .v) (.cons (.bor .v) .nil)))) .nil)) (by decide) all_nil .nil (eqKey_con a b) rfl rfl (nle rfl)) (.run [] [] rfl (st_not (b := decide (a.user = b.user ∧ a.seq = b.seq ∧ a.kind = b.kind)) rfl rfl) .nil)))))) ?_
  refine tr_if (t := (!(decide (a.user = b.user ∧ a.seq = b.seq ∧ a.kind = b.kind)))) rfl (fun h1 => ?_) (fun h1 => ?_)
  · skip
    replace h1 : ¬ (a.user = b.user ∧ a.seq = b.seq ∧ a.kind = b.kind) := of_decide_eq_false (bnot_t h1)
    refine tr_seq ?_
    refine tr_region rfl (.run [] [] rfl (st_assign rfl) .nil) ?_
    refine tr_ret ?_
    exact ends [_] [] (.cons (.tmp (bool_eq (decide_eq_false (fun h => h1 (by subst h; simp))).symm)) .nil) (.cons (.one .v (.v _)) .nil) (by decide) trivial
  · skip
    replace h1 : a.user = b.user ∧ a.seq = b.seq ∧ a.kind = b.kind := of_decide_eq_true (bnot_f h1)
    refine tr_skip ?_
    refine tr_seq ?_
    refine tr_seq ?_
    refine tr_region rfl (.run [] [] rfl (st_faddr_box rfl rfl Try.underlying44 rfl Try.sizeOf9 (by decide)) (.run [] [] rfl (st_load_box1 rfl rfl rfl Try.isAgg9 rfl) (.run [] [] rfl (st_faddr_box rfl rfl Try.underlying44 rfl Try.sizeOf9 (by decide)) (.run [] [] rfl (st_load_box1 rfl rfl rfl Try.isAgg9 rfl) (.run [] [] rfl (st_sneq rfl rfl rfl) .nil))))) ?_
    refine tr_if (t := (!(decide (a.value = b.value)))) rfl (fun h2 => ?_) (fun h2 => ?_)
    · skip
      replace h2 : ¬ (a.value = b.value) := of_decide_eq_false (bnot_t h2)
      refine tr_seq ?_
      refine tr_region rfl (.run [] [] rfl (st_assign rfl) .nil) ?_
      refine tr_ret ?_
      exact ends [_] [] (.cons (.tmp (bool_eq (decide_eq_false (fun h => h2 (by subst h; simp))).symm)) .nil) (.cons (.one .v (.v _)) .nil) (by decide) trivial
    · skip
      replace h2 : a.value = b.value := of_decide_eq_true (bnot_f h2)
      refine tr_skip ?_
      refine tr_seq ?_
      refine tr_region rfl (.run [] [] rfl (st_assign rfl) .nil) ?_
      refine tr_ret ?_
      exact ends [_] [] (.cons (.tmp (bool_eq (decide_eq_true (by cases a; cases b; simp_all)).symm)) .nil) (.cons (.one .v (.v _)) .nil) (by decide) trivial
set_option maxRecDepth 1000000 in
set_option maxHeartbeats 2000000 in
theorem eqEntryS_con (a b : List Ent) (hl : a.length ≤ 1000000000) : Con Try.prog 23 [.one (PV.sl false 4 (pvE a)), .one (PV.sl false 4 (pvE b))] [] [.one (.v (.bool (decide (a = b))))] := by
  refine con_of_tr Try.func23 rfl rfl rfl rfl ?_
  have hla := pvE_length a
  have hlb := pvE_length b
  refine tr_seq ?_
  refine tr_region rfl (.run [] [] rfl (st_assign rfl) .nil) ?_
  refine tr_seq ?_
  refine tr_seq ?_
  refine tr_region rfl (.run [] [] rfl (st_move rfl) (.run [] [] rfl (st_len_fro rfl rfl Try.underlying26) (.run [] [] rfl (st_move rfl) (.run [] [] rfl (st_len_fro rfl rfl Try.underlying26) (.run [] [] rfl (st_neq rfl rfl rfl) .nil))))) ?_
  refine tr_if (t := (!(decide (((pvE a).length : Int) = ((pvE b).length : Int))))) rfl (fun h1 => ?_) (fun h1 => ?_)
  · skip
    replace h1 : ¬ (((pvE a).length : Int) = ((pvE b).length : Int)) := of_decide_eq_false (bnot_t h1)
    refine tr_seq ?_
    refine tr_region rfl (.run [] [] rfl (st_assign rfl) .nil) ?_
    refine tr_ret ?_
    exact ends [_] [] (.cons (.tmp (bool_eq (decide_eq_false (fun e => by subst e; omega)).symm)) .nil) (.cons (.one .v (.v _)) .nil) (by decide) trivial
  · skip
    replace h1 : ((pvE a).length : Int) = ((pvE b).length : Int) := of_decide_eq_true (bnot_f h1)
    refine tr_skip ?_
    refine tr_seq ?_
    refine tr_seq ?_
    refine tr_region rfl (.run [] [] rfl (st_assign rfl) .nil) ?_
    refine tr_block ?_
    refine tr_loopS (σ := Nat) (fun i => mk [(0, .p none (.sl false 4 (pvE a))), (1, .p none (.sl false 4 (pvE b))), (5, .p none (.v (.int .i64 (i:Int))))] [] []) (fun i => i ≤ a.length ∧ ∀ j, j < i → a[j]? = b[j]?) (fun i => a.length - i) 0 ⟨Nat.zero_le _, fun j hj => absurd hj (Nat.not_lt_zero j)⟩ (wk_mk ⟨rfl, ⟨rfl, ⟨(int_eq (by omega)), trivial⟩⟩⟩ trivial trivial rfl) ?_
    rintro i hG
    replace hG : i ≤ a.length ∧ ∀ j, j < i → a[j]? = b[j]? := hG
    obtain ⟨hi, hG⟩ := hG
    refine tr_seq ?_
    refine tr_seq ?_
    refine tr_region rfl (.run [] [] rfl (st_move rfl) (.run [] [] rfl (st_move rfl) (.run [] [] rfl (st_len_fro rfl rfl Try.underlying26) (.run [] [] rfl (st_lss rfl rfl rfl) .nil)))) ?_
    refine tr_if (t := decide ((i:Int) < ((pvE a).length : Int))) rfl (fun h2 => ?_) (fun h2 => ?_)
    · skip
      replace h2 := of_decide_eq_true h2
      refine tr_skip ?_
      refine tr_seq ?_
      refine tr_block ?_
      refine tr_seq ?_
      obtain ⟨e, he⟩ : ∃ e, a[i]? = some e := ⟨_, List.getElem?_eq_getElem (by (have hL := pvE_length a; omega))⟩
      have hlte := (List.getElem?_eq_some_iff.1 he).1
      obtain ⟨e2, he2⟩ : ∃ e, b[i]? = some e := ⟨_, List.getElem?_eq_getElem (by (have hL := pvE_length b; omega))⟩
      have hlte2 := (List.getElem?_eq_some_iff.1 he2).1
      refine tr_regionD mixed rfl (.run [] [] rfl (st_move rfl) (.run [] [] rfl (st_move rfl) (.run [] [] rfl (st_idx_fro rfl rfl rfl Try.underlying26 Try.sizeOf44 rfl (by omega) (pvE_get he)) (.run [] [] rfl (st_load_fea rfl rfl Try.isAgg44 Try.sizeOf44 (nle rfl)) (.run [] [] rfl (st_move rfl) (.run [] [] rfl (st_move rfl) (.run [] [] rfl (st_idx_fro rfl rfl rfl Try.underlying26 Try.sizeOf44 rfl (by omega) (pvE_get he2)) (.run [] [] rfl (st_load_fea rfl rfl Try.isAgg44 Try.sizeOf44 (nle rfl)) (.run [2500] [] rfl (st_call rfl 2500 (X := []) en75 rfl (.val nod) (.cons (.agg (.cons (.bor .v) (.cons (.bor .v) (.cons (.bor .v) (.cons (.bor .v) .nil))))) (.cons (.agg (.cons (.bor .v) (.cons (.bor .v) (.cons (.bor .v) (.cons (.bor .v) .nil))))) .nil)) (by decide) all_nil .nil (eqEntry_con e e2) rfl rfl (nle rfl)) (.run [] [] rfl (st_not (b := decide (e = e2)) rfl rfl) .nil)))))))))) (by kernel_rfl) ?_
      refine tr_if (t := (!(decide (e = e2)))) rfl (fun h3 => ?_) (fun h3 => ?_)
      · skip
        replace h3 : ¬ (e = e2) := of_decide_eq_false (bnot_t h3)
        refine tr_seq ?_
        refine tr_region rfl (.run [] [] rfl (st_assign rfl) .nil) ?_
        refine tr_ret ?_
        exact ends [_] [] (.cons (.tmp (bool_eq (decide_eq_false (glist_ne he he2 h3)).symm)) .nil) (.cons (.one .v (.v _)) .nil) (by decide) trivial
      · skip
        replace h3 : e = e2 := of_decide_eq_true (bnot_f h3)
        refine tr_skip ?_
        refine tr_wk (s' := mk [(0, .p none (.sl false 4 (pvE a))), (1, .p none (.sl false 4 (pvE b))), (5, .p none (.v (.int .i64 (i:Int))))] [] []) ?_ ?_
        · exact wk_mk ⟨rfl, ⟨rfl, ⟨rfl, trivial⟩⟩⟩ trivial trivial rfl
        refine tr_region rfl (.run [] [] rfl (st_move rfl) (.run [] [] rfl (st_addn rfl rfl rfl (by omega)) (.run [] [] rfl (st_assign rfl) .nil))) ?_
        refine nxt (Q := fun _ _ => False) (z := i) (i + 1) ?_ ?_ ?_
        · show (i + 1) ≤ a.length ∧ ∀ j, j < (i + 1) → a[j]? = b[j]?
          exact ⟨by omega, glist_step hG he he2 h3⟩
        · show a.length - (i + 1) < a.length - i
          omega
        · exact wk_mk ⟨rfl, ⟨rfl, ⟨(int_eq (by omega)), trivial⟩⟩⟩ trivial trivial rfl
    · skip
      replace h2 := of_decide_eq_false h2
      refine tr_exit ?_
      refine tr_seq ?_
      refine tr_region rfl (.run [] [] rfl (st_assign rfl) .nil) ?_
      refine tr_ret ?_
      exact ends [_] [] (.cons (.tmp (bool_eq (decide_eq_true (glist_all (by omega) (by omega) hG)).symm)) .nil) (.cons (.one .v (.v _)) .nil) (by decide) trivial
set_option maxRecDepth 1000000 in
set_option maxHeartbeats 2000000 in
theorem toKey_con (a : Ent) : Con Try.prog 134 [.agg [PV.v (.string a.user), PV.v (.int .i64 a.seq), PV.v (.int .i64 a.kind)]] [] [.agg [.v (.string a.user), .v (.int .i64 a.seq), .v (.int .i64 a.kind)]] := by
  refine con_of_tr Try.func134 rfl rfl rfl rfl ?_
  refine tr_seq ?_
  refine tr_region rfl (.run [] [1] rfl (st_box rfl 1 rfl rfl (by decide) rfl (by decide)) (.run [] [2] rfl (st_allocZ rfl 2 inf42 rfl (by decide) rfl (by decide)) .nil)) ?_
  refine tr_seq ?_
  refine tr_region rfl (.run [] [3] rfl (st_allocZ rfl 3 inf42 rfl (by decide) rfl (by decide)) .nil) ?_
  refine tr_seq ?_
  refine tr_region rfl (.run [] [] rfl (st_faddr_box rfl rfl Try.underlying90 rfl Try.sizeOf9 (by decide)) (.run [] [] rfl (st_load_box1 rfl rfl rfl Try.isAgg9 rfl) (.run [] [] rfl (st_faddr_box rfl rfl Try.underlying42 rfl Try.sizeOf9 (by decide)) (.run [] [] rfl (st_store_box rfl rfl rfl rfl rfl Try.sizeOf9 rfl (nle rfl)) .nil)))) ?_
  refine tr_seq ?_
  refine tr_region rfl (.run [] [] rfl (st_faddr_box rfl rfl Try.underlying90 rfl Try.sizeOf2 (by decide)) (.run [] [] rfl (st_load_box1 rfl rfl rfl Try.isAgg2 rfl) (.run [] [] rfl (st_faddr_box rfl rfl Try.underlying42 rfl Try.sizeOf2 (by decide)) (.run [] [] rfl (st_store_box rfl rfl rfl rfl rfl Try.sizeOf2 rfl (nle rfl)) .nil)))) ?_
  refine tr_seq ?_
  refine tr_region rfl (.run [] [] rfl (st_faddr_box rfl rfl Try.underlying90 rfl Try.sizeOf2 (by decide)) (.run [] [] rfl (st_load_box1 rfl rfl rfl Try.isAgg2 rfl) (.run [] [] rfl (st_faddr_box rfl rfl Try.underlying42 rfl Try.sizeOf2 (by decide)) (.run [] [] rfl (st_store_box rfl rfl rfl rfl rfl Try.sizeOf2 rfl (nle rfl)) .nil)))) ?_
  refine tr_seq ?_
  refine tr_wk (s' := mk [(2, .ptr 2 0), (3, .ptr 3 0)] [(2, [.p none (.v (.string ⟨#[]⟩)), .p none (.v (.int .i64 0)), .p none (.v (.int .i64 0))]), (3, [.p none (.v (.string a.user)), .p none (.v (.int .i64 a.seq)), .p none (.v (.int .i64 a.kind))])] []) ?_ ?_
  · exact wk_mk ⟨rfl, ⟨rfl, trivial⟩⟩ ⟨rfl, ⟨rfl, trivial⟩⟩ trivial rfl
  refine tr_region rfl (.run [] [] rfl (st_load_box rfl rfl rfl Try.isAgg42 Try.sizeOf42 (nle rfl)) (.run [] [] rfl (st_store_box rfl rfl rfl rfl rfl Try.sizeOf42 rfl (nle rfl)) .nil)) ?_
  refine tr_ret ?_
  exact ends [_] [] (.cons (.cell rfl rfl Try.isAgg42 Try.sizeOf42 (nle rfl)) .nil) (.cons (.agg (.cons .v (.cons .v (.cons .v .nil))) (cl_cons (.v _) (cl_cons (.v _) (cl_cons (.v _) cl_nil)))) .nil) (by decide) trivial
set_option maxRecDepth 1000000 in
set_option maxHeartbeats 2000000 in
theorem toEntry_con (a : Ent) : Con Try.prog 72 [.agg [PV.v (.string a.user), PV.v (.int .i64 a.seq), PV.v (.int .i64 a.kind), PV.v (.string a.value)]] [] [.agg [.v (.string a.user), .v (.int .i64 a.seq), .v (.int .i64 a.kind), .v (.string a.value)]] := by
  refine con_of_tr Try.func72 rfl rfl rfl rfl ?_
  refine tr_seq ?_
  refine tr_region rfl (.run [] [1] rfl (st_box rfl 1 rfl rfl (by decide) rfl (by decide)) (.run [] [2] rfl (st_allocZ rfl 2 inf44 rfl (by decide) rfl (by decide)) .nil)) ?_
  refine tr_seq ?_
  refine tr_region rfl (.run [] [3] rfl (st_allocZ rfl 3 inf44 rfl (by decide) rfl (by decide)) .nil) ?_
  refine tr_seq ?_
  refine tr_region rfl (.run [] [] rfl (st_faddr_box rfl rfl Try.underlying92 rfl Try.sizeOf90 (by decide)) (.run [] [] rfl (st_load_box rfl rfl rfl Try.isAgg90 Try.sizeOf90 (nle rfl)) (.run [600, 601, 602] [] rfl (st_call rfl 600 (X := []) en134 rfl (.val nod) (.cons (.agg (.cons (.bor .v) (.cons (.bor .v) (.cons (.bor .v) .nil)))) .nil) (by decide) all_nil .nil (toKey_con a) rfl rfl (nle rfl)) (.run [] [] rfl (st_faddr_box rfl rfl Try.underlying44 rfl Try.sizeOf42 (by decide)) (.run [] [] rfl (st_store_box rfl rfl rfl rfl rfl Try.sizeOf42 rfl (nle rfl)) .nil))))) ?_
  refine tr_seq ?_
  refine tr_region rfl (.run [] [] rfl (st_faddr_box rfl rfl Try.underlying92 rfl Try.sizeOf9 (by decide)) (.run [] [] rfl (st_load_box1 rfl rfl rfl Try.isAgg9 rfl) (.run [] [] rfl (st_faddr_box rfl rfl Try.underlying44 rfl Try.sizeOf9 (by decide)) (.run [] [] rfl (st_store_box rfl rfl rfl rfl rfl Try.sizeOf9 rfl (nle rfl)) .nil)))) ?_
  refine tr_seq ?_
  refine tr_region rfl (.run [] [] rfl (st_load_box rfl rfl rfl Try.isAgg44 Try.sizeOf44 (nle rfl)) (.run [] [] rfl (st_store_box rfl rfl rfl rfl rfl Try.sizeOf44 rfl (nle rfl)) .nil)) ?_
  refine tr_ret ?_
  exact ends [_] [] (.cons (.cell rfl rfl Try.isAgg44 Try.sizeOf44 (nle rfl)) .nil) (.cons (.agg (.cons .v (.cons .v (.cons .v (.cons .v .nil)))) (cl_cons (.v _) (cl_cons (.v _) (cl_cons (.v _) (cl_cons (.v _) cl_nil))))) .nil) (by decide) trivial
end Go.Rl
namespace Go.Rl
open Go.Proofs
theorem en72 : ∀ vs w, (callFunc 72 vs).run Try.prog w = .ok (.enter 72 vs) w := enters Try.func72 (by decide) rfl
set_option maxRecDepth 1000000 in
set_option maxHeartbeats 2000000 in
theorem toInt64S_con (l : List Int) (hl : l.length ≤ 2000000) : Con Try.prog 20 [.one (PV.sl false 1 (pvI l))] [] [.one (.sl true 1 (pvI l))] := by
  refine con_of_tr Try.func20 rfl rfl rfl rfl ?_
  have hle := pvI_length l
  refine tr_seq ?_
  refine tr_region rfl (.run [] [] rfl (st_assign rfl) .nil) ?_
  refine tr_seq ?_
  refine tr_region rfl (.run [] [] rfl (st_move rfl) (.run [] [] rfl (st_len_fro rfl rfl Try.underlying23) (.run [700] [] rfl (st_make rfl 700 (l := (pvI l).length) (c := (pvI l).length) rfl rfl Try.underlying23 inf2 rfl rfl (by decide) rfl (by decide) (Nat.le_refl _) (by omega) (by simp only [maxLen]; omega)) (.run [] [] rfl (st_assign rfl) .nil)))) ?_
  refine tr_seq ?_
  refine tr_seq ?_
  refine tr_region rfl (.run [] [] rfl (st_assign rfl) .nil) ?_
  refine tr_block ?_
  refine tr_loopS (σ := Nat) (fun i => mk [(0, .p none (.sl false 1 (pvI l))), (3, .sl 700 0 ((pvI l).length)), (4, .p none (.v (.int .i64 (i:Int))))] [] [(700, 1, pvI (l.take i) ++ List.replicate (l.length - i) [PV.v (.int .i64 0)])]) (fun i => i ≤ l.length) (fun i => l.length - i) 0 (by simp) (wk_mk ⟨rfl, ⟨rfl, ⟨(int_eq (by omega)), trivial⟩⟩⟩ trivial ⟨(congrArg (fun x => some (1, x)) (by exact gto_zero)), trivial⟩ rfl) ?_
  rintro i hG
  replace hG : i ≤ l.length := hG
  refine tr_seq ?_
  refine tr_seq ?_
  refine tr_region rfl (.run [] [] rfl (st_move rfl) (.run [] [] rfl (st_move rfl) (.run [] [] rfl (st_len_fro rfl rfl Try.underlying23) (.run [] [] rfl (st_lss rfl rfl rfl) .nil)))) ?_
  refine tr_if (t := decide ((i:Int) < ((pvI l).length : Int))) rfl (fun h1 => ?_) (fun h1 => ?_)
  · skip
    replace h1 := of_decide_eq_true h1
    refine tr_skip ?_
    refine tr_seq ?_
    refine tr_block ?_
    obtain ⟨e, he⟩ : ∃ e, l[i]? = some e := ⟨_, List.getElem?_eq_getElem (by (have hL := pvI_length l; omega))⟩
    have hlte := (List.getElem?_eq_some_iff.1 he).1
    refine tr_region rfl (.run [] [] rfl (st_move rfl) (.run [] [] rfl (st_move rfl) (.run [] [] rfl (st_move rfl) (.run [] [] rfl (st_move rfl) (.run [] [] rfl (st_idx_fro rfl rfl rfl Try.underlying23 Try.sizeOf2 rfl (by omega) (pvI_get he)) (.run [] [] rfl (st_load_fea1 rfl rfl Try.isAgg2 rfl) (.run [] [] rfl (st_idx_row0 i rfl rfl rfl rfl Try.underlying23 Try.sizeOf2 rfl rfl (by omega)) (.run [] [] rfl (st_store_row rfl rfl rfl (FlatP.nf (gto_flat (pvI_flat _) (by simp [PV.isV]))) (by exact gto_get hlte) rfl rfl (.cons .v .nil) Try.sizeOf2 rfl (nle rfl)) .nil)))))))) ?_
    refine tr_region rfl (.run [] [] rfl (st_move rfl) (.run [] [] rfl (st_addn rfl rfl rfl (by omega)) (.run [] [] rfl (st_assign rfl) .nil))) ?_
    refine nxt (Q := fun _ _ => False) (z := i) (i + 1) ?_ ?_ ?_
    · show (i + 1) ≤ l.length
      omega
    · show l.length - (i + 1) < l.length - i
      omega
    · exact wk_mk ⟨rfl, ⟨rfl, ⟨(int_eq (by omega)), trivial⟩⟩⟩ trivial ⟨(congrArg (fun x => some (1, x)) (by exact gto_step he rfl)), trivial⟩ rfl
  · skip
    replace h1 := of_decide_eq_false h1
    refine tr_exit ?_
    refine tr_seq ?_
    refine tr_region rfl (.run [] [] rfl (st_move rfl) (.run [] [] rfl (st_assign rfl) .nil)) ?_
    refine tr_ret ?_
    exact ends [_] [700] (.cons (.tmp rfl) .nil) (.cons (.one (.row (len := (pvI l).length) (xs := pvI l) (congrArg (fun x => some (1, x)) (gto_all (by omega))) rfl) (.sl _ _ (FlatP.clean (pvI_flat l)))) .nil) (by decide) trivial
set_option maxRecDepth 1000000 in
set_option maxHeartbeats 2000000 in
theorem toEntryS_con (l : List Ent) (hl : l.length ≤ 2000000) : Con Try.prog 19 [.one (PV.sl false 4 (pvE l))] [] [.one (.sl true 4 (pvE l))] := by
  refine con_of_tr Try.func19 rfl rfl rfl rfl ?_
  have hle := pvE_length l
  refine tr_seq ?_
  refine tr_region rfl (.run [] [] rfl (st_assign rfl) .nil) ?_
  refine tr_seq ?_
  refine tr_region rfl (.run [] [] rfl (st_move rfl) (.run [] [] rfl (st_len_fro rfl rfl Try.underlying22) (.run [700] [] rfl (st_make rfl 700 (l := (pvE l).length) (c := (pvE l).length) rfl rfl Try.underlying26 inf44 rfl rfl (by decide) rfl (by decide) (Nat.le_refl _) (by omega) (by simp only [maxLen]; omega)) (.run [] [] rfl (st_assign rfl) .nil)))) ?_
  refine tr_seq ?_
  refine tr_seq ?_
  refine tr_region rfl (.run [] [] rfl (st_assign rfl) .nil) ?_
  refine tr_block ?_
  refine tr_loopS (σ := Nat) (fun i => mk [(0, .p none (.sl false 4 (pvE l))), (3, .sl 700 0 ((pvE l).length)), (4, .p none (.v (.int .i64 (i:Int))))] [] [(700, 4, pvE (l.take i) ++ List.replicate (l.length - i) [PV.v (.string ⟨#[]⟩), PV.v (.int .i64 0), PV.v (.int .i64 0), PV.v (.string ⟨#[]⟩)])]) (fun i => i ≤ l.length) (fun i => l.length - i) 0 (by simp) (wk_mk ⟨rfl, ⟨rfl, ⟨(int_eq (by omega)), trivial⟩⟩⟩ trivial ⟨(congrArg (fun x => some (4, x)) (by exact gto_zero)), trivial⟩ rfl) ?_
  rintro i hG
  replace hG : i ≤ l.length := hG
  refine tr_seq ?_
  refine tr_seq ?_
  refine tr_region rfl (.run [] [] rfl (st_move rfl) (.run [] [] rfl (st_move rfl) (.run [] [] rfl (st_len_fro rfl rfl Try.underlying22) (.run [] [] rfl (st_lss rfl rfl rfl) .nil)))) ?_
  refine tr_if (t := decide ((i:Int) < ((pvE l).length : Int))) rfl (fun h1 => ?_) (fun h1 => ?_)
  · skip
    replace h1 := of_decide_eq_true h1
    refine tr_skip ?_
    refine tr_seq ?_
    refine tr_block ?_
    obtain ⟨e, he⟩ : ∃ e, l[i]? = some e := ⟨_, List.getElem?_eq_getElem (by (have hL := pvE_length l; omega))⟩
    have hlte := (List.getElem?_eq_some_iff.1 he).1
    refine tr_region rfl (.run [] [] rfl (st_move rfl) (.run [] [] rfl (st_move rfl) (.run [] [] rfl (st_move rfl) (.run [] [] rfl (st_move rfl) (.run [] [] rfl (st_idx_fro rfl rfl rfl Try.underlying22 Try.sizeOf92 rfl (by omega) (pvE_get he)) (.run [] [] rfl (st_load_fea rfl rfl Try.isAgg92 Try.sizeOf92 (nle rfl)) (.run [2000, 2001, 2002, 2003] [] rfl (st_call rfl 2000 (X := []) en72 rfl (.val nod) (.cons (.agg (.cons (.bor .v) (.cons (.bor .v) (.cons (.bor .v) (.cons (.bor .v) .nil))))) .nil) (by decide) all_nil .nil (toEntry_con e) rfl rfl (nle rfl)) (.run [] [] rfl (st_idx_row0 i rfl rfl rfl rfl Try.underlying26 Try.sizeOf44 rfl rfl (by omega)) (.run [] [] rfl (st_store_row rfl rfl rfl (FlatP.nf (gto_flat (pvE_flat _) (by simp [PV.isV]))) (by exact gto_get hlte) rfl rfl (.cons .v (.cons .v (.cons .v (.cons .v .nil)))) Try.sizeOf44 rfl (nle rfl)) .nil))))))))) ?_
    refine tr_region rfl (.run [] [] rfl (st_move rfl) (.run [] [] rfl (st_addn rfl rfl rfl (by omega)) (.run [] [] rfl (st_assign rfl) .nil))) ?_
    refine nxt (Q := fun _ _ => False) (z := i) (i + 1) ?_ ?_ ?_
    · show (i + 1) ≤ l.length
      omega
    · show l.length - (i + 1) < l.length - i
      omega
    · exact wk_mk ⟨rfl, ⟨rfl, ⟨(int_eq (by omega)), trivial⟩⟩⟩ trivial ⟨(congrArg (fun x => some (4, x)) (by exact gto_step he rfl)), trivial⟩ rfl
  · skip
    replace h1 := of_decide_eq_false h1
    refine tr_exit ?_
    refine tr_seq ?_
    refine tr_region rfl (.run [] [] rfl (st_move rfl) (.run [] [] rfl (st_assign rfl) .nil)) ?_
    refine tr_ret ?_
    exact ends [_] [700] (.cons (.tmp rfl) .nil) (.cons (.one (.row (len := (pvE l).length) (xs := pvE l) (congrArg (fun x => some (4, x)) (gto_all (by omega))) rfl) (.sl _ _ (FlatP.clean (pvE_flat l)))) .nil) (by decide) trivial
end Go.Rl
namespace Go.Rl
open Go.Proofs
theorem en133 : ∀ vs w, (callFunc 133 vs).run Try.prog w = .ok (.enter 133 vs) w := enters Try.func133 (by decide) rfl
theorem en70 : ∀ vs w, (callFunc 70 vs).run Try.prog w = .ok (.enter 70 vs) w := enters Try.func70 (by decide) rfl
theorem szOne_bnd {n : Nat} {x : Int} (h : ¬ szOne n x < 0) (h0 : 0 ≤ x ∧ x ≤ 1048576) : 0 ≤ szOne n x ∧ szOne n x ≤ 1048576 := by
  unfold szOne at h ⊢
  split at h
  · omega
  · rename_i hx
    rw [if_neg hx]
    omega
def wE (e : Ent) : Nat := e.user.size + e.value.size
set_option maxRecDepth 1000000 in
set_option maxHeartbeats 2000000 in
theorem szKey_con (e : Ent) (left : Int) (h0 : 0 ≤ left ∧ left ≤ 1048576) (hu : e.user.size ≤ 9223372036854775807) : Con Try.prog 133 [.agg [PV.v (.string e.user), PV.v (.int .i64 e.seq), PV.v (.int .i64 e.kind)], .one (PV.v (.int .i64 left))] [] [.one (.v (.int .i64 (szOne e.user.size left)))] := by
  refine con_of_tr Try.func133 rfl rfl rfl rfl ?_
  refine tr_seq ?_
  refine tr_region rfl (.run [] [2] rfl (st_box rfl 2 rfl rfl (by decide) rfl (by decide)) (.run [] [] rfl (st_assign rfl) .nil)) ?_
  refine tr_seq ?_
  refine tr_region rfl (.run [] [] rfl (st_move rfl) (.run [] [] rfl (st_faddr_box rfl rfl Try.underlying90 rfl Try.sizeOf9 (by decide)) (.run [] [] rfl (st_load_box1 rfl rfl rfl Try.isAgg9 rfl) (.run [] [] rfl (st_len_str rfl rfl Try.underlying9) (.run [] [] rfl (st_subn rfl rfl rfl (by omega)) (.run [] [] rfl (st_assign rfl) .nil)))))) ?_
  refine tr_seq ?_
  refine tr_seq ?_
  refine tr_region rfl (.run [] [] rfl (st_move rfl) (.run [] [] rfl (st_lss rfl rfl rfl) .nil)) ?_
  refine tr_if (t := decide ((left - (e.user.size : Int)) < 0)) rfl (fun h1 => ?_) (fun h1 => ?_)
  · skip
    replace h1 := of_decide_eq_true h1
    refine tr_seq ?_
    refine tr_region rfl (.run [] [] rfl (st_assign rfl) .nil) ?_
    refine tr_ret ?_
    exact ends [_] [] (.cons (.tmp (int_eq (if_pos h1).symm)) .nil) (.cons (.one .v (.v _)) .nil) (by decide) trivial
  · skip
    replace h1 := of_decide_eq_false h1
    refine tr_skip ?_
    refine tr_seq ?_
    refine tr_region rfl (.run [] [] rfl (st_move rfl) (.run [] [] rfl (st_assign rfl) .nil)) ?_
    refine tr_ret ?_
    exact ends [_] [] (.cons (.tmp (int_eq (if_neg h1).symm)) .nil) (.cons (.one .v (.v _)) .nil) (by decide) trivial
set_option maxRecDepth 1000000 in
set_option maxHeartbeats 2000000 in
theorem szEntry_con (e : Ent) (left : Int) (h0 : 0 ≤ left ∧ left ≤ 1048576) (hu : e.user.size ≤ 9223372036854775807) (hv : e.value.size ≤ 9223372036854775807) : Con Try.prog 70 [.agg [PV.v (.string e.user), PV.v (.int .i64 e.seq), PV.v (.int .i64 e.kind), PV.v (.string e.value)], .one (PV.v (.int .i64 left))] [] [.one (.v (.int .i64 (szOne (wE e) left)))] := by
  refine con_of_tr Try.func70 rfl rfl rfl rfl ?_
  refine tr_seq ?_
  refine tr_region rfl (.run [] [2] rfl (st_box rfl 2 rfl rfl (by decide) rfl (by decide)) (.run [] [] rfl (st_assign rfl) .nil)) ?_
  refine tr_seq ?_
  refine tr_region rfl (.run [] [] rfl (st_faddr_box rfl rfl Try.underlying92 rfl Try.sizeOf90 (by decide)) (.run [] [] rfl (st_load_box rfl rfl rfl Try.isAgg90 Try.sizeOf90 (nle rfl)) (.run [] [] rfl (st_move rfl) (.run [800] [] rfl (st_call rfl 800 (X := []) en133 rfl (.val nod) (.cons (.agg (.cons (.bor .v) (.cons (.bor .v) (.cons (.bor .v) .nil)))) (.cons (.one (.bor .v)) .nil)) (by decide) all_nil .nil (szKey_con e left h0 hu) rfl rfl (nle rfl)) (.run [] [] rfl (st_assign rfl) .nil))))) ?_
  refine tr_seq ?_
  refine tr_seq ?_
  refine tr_region rfl (.run [] [] rfl (st_move rfl) (.run [] [] rfl (st_lss rfl rfl rfl) .nil)) ?_
  refine tr_if (t := decide ((szOne e.user.size left) < 0)) rfl (fun h1 => ?_) (fun h1 => ?_)
  · skip
    replace h1 := of_decide_eq_true h1
    refine tr_seq ?_
    refine tr_region rfl (.run [] [] rfl (st_assign rfl) .nil) ?_
    refine tr_ret ?_
    exact ends [_] [] (.cons (.tmp (int_eq (szOne_neg h1).symm)) .nil) (.cons (.one .v (.v _)) .nil) (by decide) trivial
  · skip
    replace h1 := of_decide_eq_false h1
    refine tr_skip ?_
    refine tr_seq ?_
    have hb1 := szOne_bnd h1 h0
    refine tr_region rfl (.run [] [] rfl (st_move rfl) (.run [] [] rfl (st_faddr_box rfl rfl Try.underlying92 rfl Try.sizeOf9 (by decide)) (.run [] [] rfl (st_load_box1 rfl rfl rfl Try.isAgg9 rfl) (.run [] [] rfl (st_len_str rfl rfl Try.underlying9) (.run [] [] rfl (st_subn rfl rfl rfl (by omega)) (.run [] [] rfl (st_assign rfl) .nil)))))) ?_
    refine tr_seq ?_
    refine tr_seq ?_
    refine tr_wk (s' := mk [(1, .p none (.v (.int .i64 ((szOne e.user.size left) - (e.value.size : Int)))))] [] []) ?_ ?_
    · exact wk_mk ⟨rfl, trivial⟩ trivial trivial rfl
    refine tr_region rfl (.run [] [] rfl (st_move rfl) (.run [] [] rfl (st_lss rfl rfl rfl) .nil)) ?_
    refine tr_if (t := decide (((szOne e.user.size left) - (e.value.size : Int)) < 0)) rfl (fun h2 => ?_) (fun h2 => ?_)
    · skip
      replace h2 := of_decide_eq_true h2
      refine tr_seq ?_
      refine tr_region rfl (.run [] [] rfl (st_assign rfl) .nil) ?_
      refine tr_ret ?_
      exact ends [_] [] (.cons (.tmp (int_eq ((szOne_two (b := e.value.size) h1).symm.trans (if_pos h2)).symm)) .nil) (.cons (.one .v (.v _)) .nil) (by decide) trivial
    · skip
      replace h2 := of_decide_eq_false h2
      refine tr_skip ?_
      refine tr_seq ?_
      refine tr_region rfl (.run [] [] rfl (st_move rfl) (.run [] [] rfl (st_assign rfl) .nil)) ?_
      refine tr_ret ?_
      exact ends [_] [] (.cons (.tmp (int_eq ((szOne_two (b := e.value.size) h1).symm.trans (if_neg h2)).symm)) .nil) (.cons (.one .v (.v _)) .nil) (by decide) trivial
set_option maxRecDepth 1000000 in
set_option maxHeartbeats 2000000 in
theorem szEntryS_con (l : List Ent) (left : Int) (h0 : 0 ≤ left ∧ left ≤ 1048576) (hl : l.length ≤ 9223372036854775807) (hn : ∀ e ∈ l, e.user.size ≤ 9223372036854775807 ∧ e.value.size ≤ 9223372036854775807) : Con Try.prog 17 [.one (PV.sl false 4 (pvE l)), .one (PV.v (.int .i64 left))] [] [.one (.v (.int .i64 (szS wE l left)))] := by
  refine con_of_tr Try.func17 rfl rfl rfl rfl ?_
  have hle := pvE_length l
  refine tr_seq ?_
  refine tr_region rfl (.run [] [] rfl (st_assign rfl) .nil) ?_
  refine tr_seq ?_
  refine tr_region rfl (.run [] [] rfl (st_move rfl) (.run [] [] rfl (st_move rfl) (.run [] [] rfl (st_len_fro rfl rfl Try.underlying22) (.run [] [] rfl (st_subn rfl rfl rfl (by omega)) (.run [] [] rfl (st_assign rfl) .nil))))) ?_
  refine tr_seq ?_
  refine tr_seq ?_
  refine tr_region rfl (.run [] [] rfl (st_move rfl) (.run [] [] rfl (st_lss rfl rfl rfl) .nil)) ?_
  refine tr_if (t := decide ((left - ((pvE l).length : Int)) < 0)) rfl (fun h1 => ?_) (fun h1 => ?_)
  · skip
    replace h1 := of_decide_eq_true h1
    refine tr_seq ?_
    refine tr_region rfl (.run [] [] rfl (st_assign rfl) .nil) ?_
    refine tr_ret ?_
    exact ends [_] [] (.cons (.tmp (int_eq (by rw [szS, if_pos (by omega)]))) .nil) (.cons (.one .v (.v _)) .nil) (by decide) trivial
  · skip
    replace h1 := of_decide_eq_false h1
    refine tr_skip ?_
    refine tr_seq ?_
    refine tr_seq ?_
    refine tr_region rfl (.run [] [] rfl (st_assign rfl) .nil) ?_
    refine tr_block ?_
    refine tr_loopS (σ := Nat × Int) (fun (i, x) => mk [(0, .p none (.sl false 4 (pvE l))), (1, .p none (.v (.int .i64 x))), (5, .p none (.v (.int .i64 (i:Int))))] [] []) (fun (i, x) => i ≤ l.length ∧ (0 ≤ x ∧ x ≤ 1048576) ∧ szS wE l left = szL wE (l.drop i) x) (fun (i, x) => l.length - i) (0, left - ((pvE l).length : Int)) ⟨Nat.zero_le _, by omega, by rw [hle]; exact if_neg (by omega)⟩ (wk_mk ⟨rfl, ⟨rfl, ⟨(int_eq (by omega)), trivial⟩⟩⟩ trivial trivial rfl) ?_
    rintro ⟨i, x⟩ hG
    replace hG : i ≤ l.length ∧ (0 ≤ x ∧ x ≤ 1048576) ∧ szS wE l left = szL wE (l.drop i) x := hG
    obtain ⟨hG, hG2, hG3⟩ := hG
    refine tr_seq ?_
    refine tr_seq ?_
    refine tr_region rfl (.run [] [] rfl (st_move rfl) (.run [] [] rfl (st_move rfl) (.run [] [] rfl (st_len_fro rfl rfl Try.underlying22) (.run [] [] rfl (st_lss rfl rfl rfl) .nil)))) ?_
    refine tr_if (t := decide ((i:Int) < ((pvE l).length : Int))) rfl (fun h2 => ?_) (fun h2 => ?_)
    · skip
      replace h2 := of_decide_eq_true h2
      refine tr_skip ?_
      refine tr_seq ?_
      refine tr_block ?_
      refine tr_seq ?_
      obtain ⟨e, he⟩ : ∃ e, l[i]? = some e := ⟨_, List.getElem?_eq_getElem (by (have hL := pvE_length l; omega))⟩
      have hlte := (List.getElem?_eq_some_iff.1 he).1
      refine tr_region rfl (.run [] [] rfl (st_move rfl) (.run [] [] rfl (st_move rfl) (.run [] [] rfl (st_idx_fro rfl rfl rfl Try.underlying22 Try.sizeOf92 rfl (by omega) (pvE_get he)) (.run [] [] rfl (st_load_fea rfl rfl Try.isAgg92 Try.sizeOf92 (nle rfl)) (.run [] [] rfl (st_move rfl) (.run [2300] [] rfl (st_call rfl 2300 (X := []) en70 rfl (.val nod) (.cons (.agg (.cons (.bor .v) (.cons (.bor .v) (.cons (.bor .v) (.cons (.bor .v) .nil))))) (.cons (.one (.bor .v)) .nil)) (by decide) all_nil .nil (szEntry_con e x hG2 (hn e (List.mem_of_getElem? he)).1 (hn e (List.mem_of_getElem? he)).2) rfl rfl (nle rfl)) (.run [] [] rfl (st_assign rfl) .nil))))))) ?_
      refine tr_seq ?_
      refine tr_region rfl (.run [] [] rfl (st_move rfl) (.run [] [] rfl (st_lss rfl rfl rfl) .nil)) ?_
      refine tr_if (t := decide ((szOne (wE e) x) < 0)) rfl (fun h3 => ?_) (fun h3 => ?_)
      · skip
        replace h3 := of_decide_eq_true h3
        refine tr_seq ?_
        refine tr_region rfl (.run [] [] rfl (st_assign rfl) .nil) ?_
        refine tr_ret ?_
        exact ends [_] [] (.cons (.tmp (int_eq (gsz_stop he h3 hG2.1 hG3).symm)) .nil) (.cons (.one .v (.v _)) .nil) (by decide) trivial
      · skip
        replace h3 := of_decide_eq_false h3
        refine tr_skip ?_
        refine tr_region rfl (.run [] [] rfl (st_move rfl) (.run [] [] rfl (st_addn rfl rfl rfl (by omega)) (.run [] [] rfl (st_assign rfl) .nil))) ?_
        refine nxt (Q := fun _ _ => False) (z := (i, x)) (i + 1, szOne (wE e) x) ?_ ?_ ?_
        · show (i + 1) ≤ l.length ∧ (0 ≤ (szOne (wE e) x) ∧ (szOne (wE e) x) ≤ 1048576) ∧ szS wE l left = szL wE (l.drop (i + 1)) (szOne (wE e) x)
          exact ⟨by omega, gsz_next he hG2 h3 hG3⟩
        · show l.length - (i + 1) < l.length - i
          omega
        · exact wk_mk ⟨rfl, ⟨rfl, ⟨(int_eq (by omega)), trivial⟩⟩⟩ trivial trivial rfl
    · skip
      replace h2 := of_decide_eq_false h2
      refine tr_exit ?_
      refine tr_seq ?_
      refine tr_region rfl (.run [] [] rfl (st_move rfl) (.run [] [] rfl (st_assign rfl) .nil)) ?_
      refine tr_ret ?_
      exact ends [_] [] (.cons (.tmp (int_eq (gsz_end (by omega) hG3).symm)) .nil) (.cons (.one .v (.v _)) .nil) (by decide) trivial
set_option maxRecDepth 1000000 in
set_option maxHeartbeats 2000000 in
theorem markInt64S_con (l : List Int) (k : Nat) (hk : k + 1 * l.length ≤ 1099511627776) : Con Try.prog 25 [.one (.sl true 1 (pvI l)), .one (PV.v (.int .i64 (k:Int)))] [some (pvI (marksG markN k l.length))] [.one (.v (.int .i64 ((k + 1 * l.length : Nat) : Int)))] := by
  refine con_of_tr Try.func25 rfl rfl rfl rfl ?_
  have hle := pvI_length l
  refine tr_seq ?_
  refine tr_region rfl (.run [] [] rfl (st_assign rfl) .nil) ?_
  refine tr_seq ?_
  refine tr_seq ?_
  refine tr_region rfl (.run [] [] rfl (st_assign rfl) .nil) ?_
  refine tr_block ?_
  refine tr_loopS (σ := Nat) (fun i => mk [(0, .sl 100000 0 ((pvI l).length)), (1, .p none (.v (.int .i64 ((k + 1 * i : Nat) : Int)))), (5, .p none (.v (.int .i64 (i:Int))))] [] [(100000, 1, pvI (marksG markN k i ++ l.drop i))]) (fun i => i ≤ l.length) (fun i => l.length - i) 0 (by simp) (wk_mk ⟨rfl, ⟨(int_eq (by omega)), ⟨(int_eq (by omega)), trivial⟩⟩⟩ trivial ⟨(congrArg (fun x => some (1, x)) (by rfl)), trivial⟩ rfl) ?_
  rintro i hG
  replace hG : i ≤ l.length := hG
  refine tr_seq ?_
  refine tr_seq ?_
  refine tr_region rfl (.run [] [] rfl (st_move rfl) (.run [] [] rfl (st_move rfl) (.run [] [] rfl (st_len_row rfl rfl Try.underlying23) (.run [] [] rfl (st_lss rfl rfl rfl) .nil)))) ?_
  refine tr_if (t := decide ((i:Int) < ((pvI l).length : Int))) rfl (fun h1 => ?_) (fun h1 => ?_)
  · skip
    replace h1 := of_decide_eq_true h1
    refine tr_skip ?_
    refine tr_seq ?_
    refine tr_block ?_
    refine tr_seq ?_
    obtain ⟨e, he⟩ : ∃ e, l[i]? = some e := ⟨_, List.getElem?_eq_getElem (by omega)⟩
    refine tr_region rfl (.run [] [] rfl (st_move rfl) (.run [] [] rfl (st_move rfl) (.run [] [] rfl (st_move rfl) (.run [] [] rfl (st_idx_row0 i rfl rfl rfl rfl Try.underlying23 Try.sizeOf2 rfl rfl (by omega)) (.run [] [] rfl (st_store_row rfl rfl rfl (FlatP.nf (pvI_flat _)) (by exact gmc_get (mk := markN) he) rfl rfl (.cons .v .nil) Try.sizeOf2 rfl (nle rfl)) .nil))))) ?_
    refine tr_region rfl (.run [] [] rfl (st_move rfl) (.run [] [] rfl (st_addn rfl rfl rfl (by omega)) (.run [] [] rfl (st_assign rfl) .nil))) ?_
    refine tr_region rfl (.run [] [] rfl (st_move rfl) (.run [] [] rfl (st_addn rfl rfl rfl (by omega)) (.run [] [] rfl (st_assign rfl) .nil))) ?_
    refine nxt (Q := fun _ _ => False) (z := i) (i + 1) ?_ ?_ ?_
    · show (i + 1) ≤ l.length
      omega
    · show l.length - (i + 1) < l.length - i
      omega
    · exact wk_mk ⟨rfl, ⟨(int_eq (by omega)), ⟨(int_eq (by omega)), trivial⟩⟩⟩ trivial ⟨(congrArg (fun x => some (1, x)) (by exact gmc_step (mk := markN) he)), trivial⟩ rfl
  · skip
    replace h1 := of_decide_eq_false h1
    refine tr_exit ?_
    refine tr_seq ?_
    refine tr_region rfl (.run [] [] rfl (st_move rfl) (.run [] [] rfl (st_assign rfl) .nil)) ?_
    refine tr_ret ?_
    exact ends [_] [] (.cons (.tmp (int_eq (by rw [show i = l.length by omega]))) .nil) (.cons (.one .v (.v _)) .nil) (by decide) (outs1 (congrArg (fun x => some (1, x)) (congrArg pvI (gmc_all (by omega) (by omega)))) (pvI_flat _) (by decide))
end Go.Rl
namespace Go.Rl
open Go.Proofs
theorem inf5 : (Try.prog.info? 5).map (fun i => (i.zero, i.size, i.bytes)) = some (some (.int .u8 0), 1, 1) := by kernel_rfl
theorem en76 : ∀ vs w, (callFunc 76 vs).run Try.prog w = .ok (.enter 76 vs) w := enters Try.func76 (by decide) rfl
def markE (k i : Nat) : Ent := ⟨markT (k + 4 * i), ((k + 4 * i : Nat) : Int) + 1, ((k + 4 * i : Nat) : Int) + 1 + 1, markT (k + 4 * i + 3)⟩
set_option maxRecDepth 1000000 in
set_option maxHeartbeats 2000000 in
theorem markText_con (k : Nat) (hk : k ≤ 1099511627776) : Con Try.prog 76 [.one (PV.v (.int .i64 (k:Int)))] [] [.one (.v (.string (markT k)))] := by
  refine con_of_tr Try.func76 rfl rfl rfl rfl ?_
  refine tr_seq ?_
  refine tr_region rfl (.run [] [] rfl (st_assign rfl) .nil) ?_
  refine tr_seq ?_
  refine tr_seq ?_
  refine tr_region rfl (.run [] [] rfl (st_move rfl) (.run [] [] rfl (st_leq rfl rfl rfl) .nil)) ?_
  refine tr_if (t := decide ((k:Int) ≤ 0)) rfl (fun h1 => ?_) (fun h1 => ?_)
  · skip
    replace h1 := of_decide_eq_true h1
    refine tr_seq ?_
    refine tr_region rfl (.run [] [] rfl (st_assign rfl) .nil) ?_
    refine tr_ret ?_
    exact ends [_] [] (.cons (.tmp (str_eq (by simp [markT, show k = 0 by omega]))) .nil) (.cons (.one .v (.v _)) .nil) (by decide) trivial
  · skip
    replace h1 := of_decide_eq_false h1
    refine tr_skip ?_
    refine tr_seq ?_
    refine tr_region rfl (.run [] [] rfl (st_assign rfl) .nil) ?_
    refine tr_seq ?_
    refine tr_block ?_
    refine tr_loopS (σ := Nat × ByteArray × Nat) (fun (n, acc, f) => mk [(0, .p none (.v (.int .i64 (n:Int)))), (3, .p none (.v (.string acc)))] [] []) (fun (n, acc, f) => n ≤ f ∧ n + acc.size ≤ k ∧ dig k k ⟨#[]⟩ = dig f n acc) (fun (n, acc, f) => n) (k, ⟨#[]⟩, k) ⟨Nat.le_refl _, Nat.le_refl _, rfl⟩ (wk_mk ⟨rfl, ⟨rfl, trivial⟩⟩ trivial trivial rfl) ?_
    rintro ⟨n, acc, f⟩ hG
    replace hG : n ≤ f ∧ n + acc.size ≤ k ∧ dig k k ⟨#[]⟩ = dig f n acc := hG
    obtain ⟨hG, hG2, hG3⟩ := hG
    refine tr_seq ?_
    refine tr_seq ?_
    refine tr_region rfl (.run [] [] rfl (st_move rfl) (.run [] [] rfl (st_gtr rfl rfl rfl) .nil)) ?_
    refine tr_if (t := decide (0 < (n:Int))) rfl (fun h2 => ?_) (fun h2 => ?_)
    · skip
      replace h2 := of_decide_eq_true h2
      refine tr_skip ?_
      refine tr_block ?_
      refine tr_seq ?_
      refine tr_region rfl (.run [] [] rfl (st_move rfl) (.run [] [] rfl (st_rem rfl rfl rfl (by decide)) (.run [] [] rfl (st_addn rfl rfl rfl (by have h1 := Int.tmod_lt_of_pos (n : Int) (show (0:Int) < 10 by decide); have h2 := Int.tmod_nonneg 10 (show (0:Int) ≤ (n:Int) by omega); omega)) (.run [] [] rfl (st_conv rfl rfl Try.underlying3 Try.underlying5) (.run [1200] [] rfl (st_buildSlice rfl 1200 Try.underlying34 inf5 (nle rfl) (by decide) rfl rfl rfl (.cons .v .nil) (by decide) rfl (by decide) rfl (by decide) rfl) (.run [] [] rfl (st_strN [IntKind.u8.wrap (48 + (n:Int).tmod 10)] rfl rfl (.give (len := 1) (xs := [[PV.v (.int .u8 (IntKind.u8.wrap (48 + ((n:Int).tmod 10))))]]) rfl rfl) rfl rfl Try.underlying34 Try.underlying9 Try.underlying5) (.run [] [] rfl (st_move rfl) (.run [] [] rfl (st_sadd rfl rfl rfl (by rw [strOf_one]; omega)) (.run [] [] rfl (st_assign rfl) .nil))))))))) ?_
      refine tr_region rfl (.run [] [] rfl (st_move rfl) (.run [] [] rfl (st_quo rfl rfl rfl (by decide)) (.run [] [] rfl (st_assign rfl) .nil))) ?_
      refine nxt (Q := fun _ _ => False) (z := (n, acc, f)) (n / 10, strOf [IntKind.u8.wrap (48 + (n:Int).tmod 10)] ++ acc, f - 1) ?_ ?_ ?_
      · show (n / 10) ≤ (f - 1) ∧ (n / 10) + (strOf [IntKind.u8.wrap (48 + (n:Int).tmod 10)] ++ acc).size ≤ k ∧ dig k k ⟨#[]⟩ = dig (f - 1) (n / 10) (strOf [IntKind.u8.wrap (48 + (n:Int).tmod 10)] ++ acc)
        exact ⟨by omega, by rw [size_app, strOf_one]; omega, dig_next hG hG3 (by omega)⟩
      · show (n / 10) < n
        omega
      · exact wk_mk ⟨(int_eq (by exact quo_nat n (by omega))), ⟨(str_eq (by rfl)), trivial⟩⟩ trivial trivial rfl
    · skip
      replace h2 := of_decide_eq_false h2
      refine tr_exit ?_
      refine tr_seq ?_
      refine tr_region rfl (.run [] [] rfl (st_move rfl) (.run [] [] rfl (st_sadd rfl rfl rfl (by have hz : (⟨#[109]⟩ : ByteArray).size = 1 := rfl; omega)) (.run [] [] rfl (st_assign rfl) .nil))) ?_
      refine tr_ret ?_
      exact ends [_] [] (.cons (.tmp (str_eq (by rw [markT, if_neg (by omega), hG3, show n = 0 by omega, dig_zero]))) .nil) (.cons (.one .v (.v _)) .nil) (by decide) trivial
set_option maxRecDepth 1000000 in
set_option maxHeartbeats 2000000 in
theorem markEntryS_con (l : List Ent) (k : Nat) (hk : k + 4 * l.length ≤ 1099511627776) : Con Try.prog 24 [.one (.sl true 4 (pvE l)), .one (PV.v (.int .i64 (k:Int)))] [some (pvE (marksG markE k l.length))] [.one (.v (.int .i64 ((k + 4 * l.length : Nat) : Int)))] := by
  refine con_of_tr Try.func24 rfl rfl rfl rfl ?_
  have hle := pvE_length l
  refine tr_seq ?_
  refine tr_region rfl (.run [] [] rfl (st_assign rfl) .nil) ?_
  refine tr_seq ?_
  refine tr_seq ?_
  refine tr_region rfl (.run [] [] rfl (st_assign rfl) .nil) ?_
  refine tr_block ?_
  refine tr_loopS (σ := Nat) (fun i => mk [(0, .sl 100000 0 ((pvE l).length)), (1, .p none (.v (.int .i64 ((k + 4 * i : Nat) : Int)))), (5, .p none (.v (.int .i64 (i:Int))))] [] [(100000, 4, pvE (marksG markE k i ++ l.drop i))]) (fun i => i ≤ l.length) (fun i => l.length - i) 0 (by simp) (wk_mk ⟨rfl, ⟨(int_eq (by omega)), ⟨(int_eq (by omega)), trivial⟩⟩⟩ trivial ⟨(congrArg (fun x => some (4, x)) (by rfl)), trivial⟩ rfl) ?_
  rintro i hG
  replace hG : i ≤ l.length := hG
  refine tr_seq ?_
  refine tr_seq ?_
  refine tr_region rfl (.run [] [] rfl (st_move rfl) (.run [] [] rfl (st_move rfl) (.run [] [] rfl (st_len_row rfl rfl Try.underlying26) (.run [] [] rfl (st_lss rfl rfl rfl) .nil)))) ?_
  refine tr_if (t := decide ((i:Int) < ((pvE l).length : Int))) rfl (fun h1 => ?_) (fun h1 => ?_)
  · skip
    replace h1 := of_decide_eq_true h1
    refine tr_skip ?_
    refine tr_seq ?_
    refine tr_block ?_
    refine tr_seq ?_
    obtain ⟨e, he⟩ : ∃ e, l[i]? = some e := ⟨_, List.getElem?_eq_getElem (by omega)⟩
    refine tr_region rfl (.run [] [] rfl (st_move rfl) (.run [] [] rfl (st_move rfl) (.run [] [] rfl (st_move rfl) (.run [1500] [] rfl (st_call rfl 1500 (X := []) en76 rfl (.val nod) (.cons (.one (.bor .v)) .nil) (by decide) all_nil .nil (markText_con (k + 4 * i) (by omega)) rfl rfl (nle rfl)) (.run [] [] rfl (st_idx_row0 i rfl rfl rfl rfl Try.underlying26 Try.sizeOf44 rfl rfl (by omega)) (.run [] [] rfl (st_faddr_ea rfl rfl Try.underlying44 rfl Try.sizeOf42 (by decide)) (.run [] [] rfl (st_faddr_ea rfl rfl Try.underlying42 rfl Try.sizeOf9 (by decide)) (.run [] [] rfl (st_store_row rfl rfl rfl (FlatP.nf (pvE_flat _)) (by exact gmc_get (mk := markE) he) rfl rfl (.cons .v .nil) Try.sizeOf9 rfl (nle rfl)) .nil)))))))) ?_
    refine tr_seq ?_
    refine tr_region rfl (.run [] [] rfl (st_move rfl) (.run [] [] rfl (st_addn rfl rfl rfl (by omega)) (.run [] [] rfl (st_assign rfl) .nil))) ?_
    refine tr_seq ?_
    refine tr_wk (s' := mk [(0, .sl 100000 0 ((pvE l).length)), (1, .p none (.v (.int .i64 (((k + 4 * i : Nat) : Int) + 1)))), (5, .p none (.v (.int .i64 (i:Int))))] [] [(100000, 4, (pvE (marksG markE k i ++ l.drop i)).set i [PV.v (.string (markT (k + 4 * i))), PV.v (.int .i64 e.seq), PV.v (.int .i64 e.kind), PV.v (.string e.value)])]) ?_ ?_
    · exact wk_mk ⟨rfl, ⟨rfl, ⟨rfl, trivial⟩⟩⟩ trivial ⟨rfl, trivial⟩ rfl
    refine tr_region rfl (.run [] [] rfl (st_move rfl) (.run [] [] rfl (st_move rfl) (.run [] [] rfl (st_move rfl) (.run [] [] rfl (st_idx_row0 i rfl rfl rfl rfl Try.underlying26 Try.sizeOf44 rfl rfl (by omega)) (.run [] [] rfl (st_faddr_ea rfl rfl Try.underlying44 rfl Try.sizeOf42 (by decide)) (.run [] [] rfl (st_faddr_ea rfl rfl Try.underlying42 rfl Try.sizeOf2 (by decide)) (.run [] [] rfl (st_store_row rfl rfl rfl (FlatP.nf (FlatP.set (i := i) (cs := [PV.v (.string (markT (k + 4 * i))), PV.v (.int .i64 e.seq), PV.v (.int .i64 e.kind), PV.v (.string e.value)]) (pvE_flat _) rfl)) (set_self (b := [PV.v (.string (markT (k + 4 * i))), PV.v (.int .i64 e.seq), PV.v (.int .i64 e.kind), PV.v (.string e.value)]) (by exact gmc_get (mk := markE) he)) rfl rfl (.cons .v .nil) Try.sizeOf2 rfl (nle rfl)) .nil))))))) ?_
    refine tr_seq ?_
    refine tr_region rfl (.run [] [] rfl (st_move rfl) (.run [] [] rfl (st_addn rfl rfl rfl (by omega)) (.run [] [] rfl (st_assign rfl) .nil))) ?_
    refine tr_seq ?_
    refine tr_wk (s' := mk [(0, .sl 100000 0 ((pvE l).length)), (1, .p none (.v (.int .i64 ((((k + 4 * i : Nat) : Int) + 1) + 1)))), (5, .p none (.v (.int .i64 (i:Int))))] [] [(100000, 4, ((pvE (marksG markE k i ++ l.drop i)).set i [PV.v (.string (markT (k + 4 * i))), PV.v (.int .i64 e.seq), PV.v (.int .i64 e.kind), PV.v (.string e.value)]).set i [PV.v (.string (markT (k + 4 * i))), PV.v (.int .i64 (((k + 4 * i : Nat) : Int) + 1)), PV.v (.int .i64 e.kind), PV.v (.string e.value)])]) ?_ ?_
    · exact wk_mk ⟨rfl, ⟨rfl, ⟨rfl, trivial⟩⟩⟩ trivial ⟨rfl, trivial⟩ rfl
    refine tr_region rfl (.run [] [] rfl (st_move rfl) (.run [] [] rfl (st_move rfl) (.run [] [] rfl (st_move rfl) (.run [] [] rfl (st_idx_row0 i rfl rfl rfl rfl Try.underlying26 Try.sizeOf44 rfl rfl (by omega)) (.run [] [] rfl (st_faddr_ea rfl rfl Try.underlying44 rfl Try.sizeOf42 (by decide)) (.run [] [] rfl (st_faddr_ea rfl rfl Try.underlying42 rfl Try.sizeOf2 (by decide)) (.run [] [] rfl (st_store_row rfl rfl rfl (FlatP.nf (FlatP.set (i := i) (cs := [PV.v (.string (markT (k + 4 * i))), PV.v (.int .i64 (((k + 4 * i : Nat) : Int) + 1)), PV.v (.int .i64 e.kind), PV.v (.string e.value)]) (FlatP.set (i := i) (cs := [PV.v (.string (markT (k + 4 * i))), PV.v (.int .i64 e.seq), PV.v (.int .i64 e.kind), PV.v (.string e.value)]) (pvE_flat _) rfl) rfl)) (set_self (b := [PV.v (.string (markT (k + 4 * i))), PV.v (.int .i64 (((k + 4 * i : Nat) : Int) + 1)), PV.v (.int .i64 e.kind), PV.v (.string e.value)]) (set_self (b := [PV.v (.string (markT (k + 4 * i))), PV.v (.int .i64 e.seq), PV.v (.int .i64 e.kind), PV.v (.string e.value)]) (by exact gmc_get (mk := markE) he))) rfl rfl (.cons .v .nil) Try.sizeOf2 rfl (nle rfl)) .nil))))))) ?_
    refine tr_seq ?_
    refine tr_region rfl (.run [] [] rfl (st_move rfl) (.run [] [] rfl (st_eq (st_addn rfl rfl rfl (by omega)) ((show (AV.p none (.v (.int .i64 (((k + 4 * i : Nat) : Int) + 1 + 1 + 1)))) = AV.p none (.v (.int .i64 ((k + 4 * i + 3 : Nat) : Int))) from int_eq (by omega)))) (.run [] [] rfl (st_assign rfl) .nil))) ?_
    refine tr_seq ?_
    refine tr_wk (s' := mk [(0, .sl 100000 0 ((pvE l).length)), (1, .p none (.v (.int .i64 ((k + 4 * i + 3 : Nat) : Int)))), (5, .p none (.v (.int .i64 (i:Int))))] [] [(100000, 4, (((pvE (marksG markE k i ++ l.drop i)).set i [PV.v (.string (markT (k + 4 * i))), PV.v (.int .i64 e.seq), PV.v (.int .i64 e.kind), PV.v (.string e.value)]).set i [PV.v (.string (markT (k + 4 * i))), PV.v (.int .i64 (((k + 4 * i : Nat) : Int) + 1)), PV.v (.int .i64 e.kind), PV.v (.string e.value)]).set i [PV.v (.string (markT (k + 4 * i))), PV.v (.int .i64 (((k + 4 * i : Nat) : Int) + 1)), PV.v (.int .i64 ((((k + 4 * i : Nat) : Int) + 1) + 1)), PV.v (.string e.value)])]) ?_ ?_
    · exact wk_mk ⟨rfl, ⟨rfl, ⟨rfl, trivial⟩⟩⟩ trivial ⟨rfl, trivial⟩ rfl
    refine tr_region rfl (.run [] [] rfl (st_move rfl) (.run [] [] rfl (st_move rfl) (.run [] [] rfl (st_move rfl) (.run [4000] [] rfl (st_call rfl 4000 (X := []) en76 rfl (.val nod) (.cons (.one (.bor .v)) .nil) (by decide) all_nil .nil (markText_con (k + 4 * i + 3) (by omega)) rfl rfl (nle rfl)) (.run [] [] rfl (st_idx_row0 i rfl rfl rfl rfl Try.underlying26 Try.sizeOf44 rfl rfl (by omega)) (.run [] [] rfl (st_faddr_ea rfl rfl Try.underlying44 rfl Try.sizeOf9 (by decide)) (.run [] [] rfl (st_store_row rfl rfl rfl (FlatP.nf (FlatP.set (i := i) (cs := [PV.v (.string (markT (k + 4 * i))), PV.v (.int .i64 (((k + 4 * i : Nat) : Int) + 1)), PV.v (.int .i64 ((((k + 4 * i : Nat) : Int) + 1) + 1)), PV.v (.string e.value)]) (FlatP.set (i := i) (cs := [PV.v (.string (markT (k + 4 * i))), PV.v (.int .i64 (((k + 4 * i : Nat) : Int) + 1)), PV.v (.int .i64 e.kind), PV.v (.string e.value)]) (FlatP.set (i := i) (cs := [PV.v (.string (markT (k + 4 * i))), PV.v (.int .i64 e.seq), PV.v (.int .i64 e.kind), PV.v (.string e.value)]) (pvE_flat _) rfl) rfl) rfl)) (set_self (b := [PV.v (.string (markT (k + 4 * i))), PV.v (.int .i64 (((k + 4 * i : Nat) : Int) + 1)), PV.v (.int .i64 ((((k + 4 * i : Nat) : Int) + 1) + 1)), PV.v (.string e.value)]) (set_self (b := [PV.v (.string (markT (k + 4 * i))), PV.v (.int .i64 (((k + 4 * i : Nat) : Int) + 1)), PV.v (.int .i64 e.kind), PV.v (.string e.value)]) (set_self (b := [PV.v (.string (markT (k + 4 * i))), PV.v (.int .i64 e.seq), PV.v (.int .i64 e.kind), PV.v (.string e.value)]) (by exact gmc_get (mk := markE) he)))) rfl rfl (.cons .v .nil) Try.sizeOf9 rfl (nle rfl)) .nil))))))) ?_
    refine tr_region rfl (.run [] [] rfl (st_move rfl) (.run [] [] rfl (st_addn rfl rfl rfl (by omega)) (.run [] [] rfl (st_assign rfl) .nil))) ?_
    refine tr_region rfl (.run [] [] rfl (st_move rfl) (.run [] [] rfl (st_addn rfl rfl rfl (by omega)) (.run [] [] rfl (st_assign rfl) .nil))) ?_
    refine nxt (Q := fun _ _ => False) (z := i) (i + 1) ?_ ?_ ?_
    · show (i + 1) ≤ l.length
      omega
    · show l.length - (i + 1) < l.length - i
      omega
    · exact wk_mk ⟨rfl, ⟨(int_eq (by omega)), ⟨(int_eq (by omega)), trivial⟩⟩⟩ trivial ⟨(congrArg (fun x => some (4, x)) (by rw [List.set_set, List.set_set, List.set_set]; exact gmc_step (mk := markE) he)), trivial⟩ rfl
  · skip
    replace h1 := of_decide_eq_false h1
    refine tr_exit ?_
    refine tr_seq ?_
    refine tr_region rfl (.run [] [] rfl (st_move rfl) (.run [] [] rfl (st_assign rfl) .nil)) ?_
    refine tr_ret ?_
    exact ends [_] [] (.cons (.tmp (int_eq (by rw [show i = l.length by omega]))) .nil) (.cons (.one .v (.v _)) .nil) (by decide) (outs1 (congrArg (fun x => some (4, x)) (congrArg pvE (gmc_all (by omega) (by omega)))) (pvE_flat _) (by decide))
end Go.Rl

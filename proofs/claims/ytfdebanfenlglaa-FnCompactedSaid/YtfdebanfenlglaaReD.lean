/- Promises of functions, proved by walks over their operations; no conditions beyond those that each theorem states. -/
import Derived.Test.YtfdebanfenlglaaReB
import Derived.Test.YtfdebanfenlglaaRlT
import Derived.RangeFuncNested
set_option linter.unusedSimpArgs false
set_option linter.unusedVariables false
namespace Go.Rl
open Go.Proofs
set_option maxRecDepth 1000000 in
set_option maxHeartbeats 2000000 in
theorem l14Needed_con (l : List Ent) (s : List Int) (hl : l.length ≤ 2000000) (hs : s.length ≤ 2000000) : Con Try.prog 71 [.one (PV.sl false 4 (pvE l)), .one (PV.sl false 1 (pvI s))] [] [.one (.sl true 1 (pvI (needF l (pointsF s) l.length)))] := by
  refine con_of_tr Try.func71 rfl rfl rfl rfl ?_
  have hle := pvE_length l
  have hls := pvI_length s
  have hlp := pvI_length (pointsF s)
  have hpl := points_len s
  refine tr_seq ?_
  refine tr_region rfl (.run [] [] rfl (st_assign rfl) .nil) ?_
  refine tr_seq ?_
  refine tr_region rfl (.run [1100] [] rfl (st_buildSlice rfl 1100 Try.underlying23 inf2 (nle rfl) (by decide) rfl rfl rfl .nil (by decide) rfl (by decide) rfl (by decide) rfl) (.run [] [] rfl (st_assign rfl) .nil)) ?_
  refine tr_seq ?_
  refine tr_region rfl (.run [1200] [] rfl (st_buildSlice rfl 1200 Try.underlying23 inf2 (nle rfl) (by decide) rfl rfl rfl .nil (by decide) rfl (by decide) rfl (by decide) rfl) (.run [] [] rfl (st_move rfl) (.run [1200] [] rfl (st_append rfl 1200 (ib := 1200) (len := ([] ++ (pvI s)).length) rfl rfl (.row (len := 0) (xs := []) rfl rfl (.inl rfl)) (.fro (pvI_flat _)) Try.underlying23 (sk Try.underlying23 rfl) inf2 rfl (by decide) (by decide) (by decide) List.length_append (by simp only [maxLen, List.length_append, List.length_map, List.length_cons, List.length_nil, List.length_take, List.length_drop, pvE_length, pvI_length, pvT_length]; omega) (by simp only [maxLen, List.length_append, List.length_map, List.length_cons, List.length_nil, List.length_take, List.length_drop, pvE_length, pvI_length, pvT_length]; omega)) (.run [1500] [] rfl (st_buildSlice rfl 1500 Try.underlying23 inf2 (nle rfl) (by decide) rfl rfl rfl (.cons .v .nil) (by decide) rfl (by decide) rfl (by decide) rfl) (.run [1200] [] rfl (st_append rfl 1200 (ib := 1200) (len := (([] ++ (pvI s)) ++ [[PV.v (.int .i64 1000000000000)]]).length) rfl rfl (.row (len := ([] ++ (pvI s)).length) (xs := [] ++ (pvI s)) rfl rfl (.inl rfl)) (.give (len := 1) (xs := [[PV.v (.int .i64 1000000000000)]]) rfl rfl) Try.underlying23 (sk Try.underlying23 rfl) inf2 rfl (by decide) (by decide) (by decide) List.length_append (by simp only [maxLen, List.length_append, List.length_map, List.length_cons, List.length_nil, List.length_take, List.length_drop, pvE_length, pvI_length, pvT_length]; omega) (by simp only [maxLen, List.length_append, List.length_map, List.length_cons, List.length_nil, List.length_take, List.length_drop, pvE_length, pvI_length, pvT_length]; omega)) (.run [] [] rfl (st_assign rfl) .nil)))))) ?_
  have hr1 : ([] ++ (pvI s)) ++ [[PV.v (.int .i64 1000000000000)]] = pvI (pointsF s) := by rw [List.nil_append]; exact pvI_points s
  have hp2 : (.sl 1200 0 ((([] ++ (pvI s)) ++ [[PV.v (.int .i64 1000000000000)]]).length) : AV) = .sl 1200 0 ((pvI (pointsF s)).length) := by simp only [hr1]
  refine tr_wk (s' := mk [(0, .p none (.sl false 4 (pvE l))), (5, .sl 1100 0 0), (6, .sl 1200 0 ((pvI (pointsF s)).length))] [] [(1100, 1, []), (1200, 1, pvI (pointsF s))]) ?_ ?_
  · exact wk_mk ⟨rfl, ⟨rfl, ⟨hp2, trivial⟩⟩⟩ trivial ⟨rfl, ⟨(congrArg (fun x => some (1, x)) hr1), trivial⟩⟩ rfl
  refine tr_seq ?_
  refine tr_seq ?_
  refine tr_region rfl (.run [] [] rfl (st_assign rfl) .nil) ?_
  refine tr_block ?_
  refine tr_wk (wk_ren 1100 1 rfl rfl (by decide)) ?_
  refine tr_loopS (σ := Nat) (fun i => mk [(0, .p none (.sl false 4 (pvE l))), (5, .sl 1 0 ((pvI (needF l (pointsF s) i)).length)), (6, .sl 1200 0 ((pvI (pointsF s)).length)), (7, .p none (.v (.int .i64 (i:Int))))] [] [(1, 1, pvI (needF l (pointsF s) i)), (1200, 1, pvI (pointsF s))]) (fun i => i ≤ l.length) (fun i => l.length - i) 0 (by simp) (wk_mk ⟨rfl, ⟨rfl, ⟨rfl, ⟨(int_eq (by omega)), trivial⟩⟩⟩⟩ trivial ⟨(congrArg (fun x => some (1, x)) (by rfl)), ⟨rfl, trivial⟩⟩ rfl) ?_
  rintro i hG
  replace hG : i ≤ l.length := hG
  have hnl := needF_len l (pointsF s) i
  have hle3 := pvI_length (needF l (pointsF s) i)
  refine tr_seq ?_
  refine tr_seq ?_
  refine tr_region rfl (.run [] [] rfl (st_move rfl) (.run [] [] rfl (st_move rfl) (.run [] [] rfl (st_len_fro rfl rfl Try.underlying26) (.run [] [] rfl (st_lss rfl rfl rfl) .nil)))) ?_
  refine tr_if (t := decide ((i:Int) < ((pvE l).length : Int))) rfl (fun h3 => ?_) (fun h3 => ?_)
  · skip
    replace h3 := of_decide_eq_true h3
    refine tr_skip ?_
    refine tr_seq ?_
    refine tr_block ?_
    refine tr_seq ?_
    obtain ⟨e, he⟩ : ∃ e, l[i]? = some e := ⟨_, List.getElem?_eq_getElem (by omega)⟩
    have hlte := (List.getElem?_eq_some_iff.1 he).1
    refine tr_region rfl (.run [] [] rfl (st_assign rfl) .nil) ?_
    refine tr_seq ?_
    refine tr_seq ?_
    refine tr_region rfl (.run [] [] rfl (st_assign rfl) .nil) ?_
    refine tr_block ?_
    refine tr_loopS (σ := Nat × Bool) (fun (k, nb) => mk [(0, .p none (.sl false 4 (pvE l))), (5, .sl 1 0 ((pvI (needF l (pointsF s) i)).length)), (6, .sl 1200 0 ((pvI (pointsF s)).length)), (7, .p none (.v (.int .i64 (i:Int)))), (8, .p none (.v (.bool nb))), (9, .p none (.v (.int .i64 (k:Int))))] [] [(1, 1, pvI (needF l (pointsF s) i)), (1200, 1, pvI (pointsF s))]) (fun (k, nb) => k ≤ (pointsF s).length ∧ nb = ((pointsF s).take k).any (needC l i e)) (fun (k, nb) => (pointsF s).length - k) (0, false) ⟨Nat.zero_le _, rfl⟩ (wk_mk ⟨rfl, ⟨rfl, ⟨rfl, ⟨rfl, ⟨rfl, ⟨(int_eq (by omega)), trivial⟩⟩⟩⟩⟩⟩ trivial ⟨rfl, ⟨rfl, trivial⟩⟩ rfl) ?_
    rintro ⟨k, nb⟩ hG
    replace hG : k ≤ (pointsF s).length ∧ nb = ((pointsF s).take k).any (needC l i e) := hG
    obtain ⟨hk, hN⟩ := hG
    refine tr_seq ?_
    refine tr_seq ?_
    refine tr_region rfl (.run [] [] rfl (st_move rfl) (.run [] [] rfl (st_move rfl) (.run [] [] rfl (st_len_row rfl rfl Try.underlying23) (.run [] [] rfl (st_lss rfl rfl rfl) .nil)))) ?_
    refine tr_if (t := decide ((k:Int) < ((pvI (pointsF s)).length : Int))) rfl (fun h4 => ?_) (fun h4 => ?_)
    · skip
      replace h4 := of_decide_eq_true h4
      refine tr_skip ?_
      refine tr_seq ?_
      refine tr_block ?_
      refine tr_seq ?_
      refine tr_seq ?_
      obtain ⟨e2, he2⟩ : ∃ e, (pointsF s)[k]? = some e := ⟨_, List.getElem?_eq_getElem (by (have hL := pvI_length (pointsF s); omega))⟩
      have hlte2 := (List.getElem?_eq_some_iff.1 he2).1
      refine tr_regionD mixed rfl (.run [] [] rfl (st_move rfl) (.run [] [] rfl (st_move rfl) (.run [] [] rfl (st_idx_fro rfl rfl rfl Try.underlying26 Try.sizeOf44 rfl (by omega) (pvE_get he)) (.run [] [] rfl (st_faddr_fea rfl rfl Try.underlying44 rfl Try.sizeOf42 (by decide)) (.run [] [] rfl (st_faddr_fea rfl rfl Try.underlying42 rfl Try.sizeOf2 (by decide)) (.run [] [] rfl (st_load_fea1 rfl rfl Try.isAgg2 rfl) (.run [] [] rfl (st_move rfl) (.run [] [] rfl (st_move rfl) (.run [] [] rfl (st_idx_row0 k rfl rfl rfl rfl Try.underlying23 Try.sizeOf2 rfl rfl (by omega)) (.run [] [] rfl (st_load_ea1 rfl rfl rfl (pvI_get he2) Try.isAgg2 rfl) (.run [] [] rfl (st_gtr rfl rfl rfl) .nil))))))))))) (by kernel_rfl) ?_
      refine tr_if (t := decide (e2 < e.seq)) rfl (fun h5 => ?_) (fun h5 => ?_)
      · skip
        replace h5 := of_decide_eq_true h5
        refine tr_exit ?_
        refine tr_wk (s' := mk [(0, .p none (.sl false 4 (pvE l))), (5, .sl 1 0 ((pvI (needF l (pointsF s) i)).length)), (6, .sl 1200 0 ((pvI (pointsF s)).length)), (7, .p none (.v (.int .i64 (i:Int)))), (8, .p none (.v (.bool nb))), (9, .p none (.v (.int .i64 (k:Int))))] [] [(1, 1, pvI (needF l (pointsF s) i)), (1200, 1, pvI (pointsF s))]) ?_ ?_
        · exact wk_mk ⟨rfl, ⟨rfl, ⟨rfl, ⟨rfl, ⟨rfl, ⟨rfl, trivial⟩⟩⟩⟩⟩⟩ trivial ⟨rfl, ⟨rfl, trivial⟩⟩ rfl
        refine tr_region rfl (.run [] [] rfl (st_move rfl) (.run [] [] rfl (st_addn rfl rfl rfl (by omega)) (.run [] [] rfl (st_assign rfl) .nil))) ?_
        refine nxt (Q := fun _ _ => False) (z := (k, nb)) (k + 1, nb) ?_ ?_ ?_
        · show (k + 1) ≤ (pointsF s).length ∧ nb = ((pointsF s).take (k + 1)).any (needC l i e)
          exact ⟨by omega, by rw [any_snoc _ he2, ← hN, needC_no h5]; simp⟩
        · show (pointsF s).length - (k + 1) < (pointsF s).length - k
          omega
        · exact wk_mk ⟨rfl, ⟨rfl, ⟨rfl, ⟨rfl, ⟨rfl, ⟨(int_eq (by omega)), trivial⟩⟩⟩⟩⟩⟩ trivial ⟨rfl, ⟨rfl, trivial⟩⟩ rfl
      · skip
        replace h5 := of_decide_eq_false h5
        refine tr_skip ?_
        refine tr_seq ?_
        refine tr_wk (s' := mk [(0, .p none (.sl false 4 (pvE l))), (5, .sl 1 0 ((pvI (needF l (pointsF s) i)).length)), (6, .sl 1200 0 ((pvI (pointsF s)).length)), (7, .p none (.v (.int .i64 (i:Int)))), (8, .p none (.v (.bool nb))), (9, .p none (.v (.int .i64 (k:Int))))] [] [(1, 1, pvI (needF l (pointsF s) i)), (1200, 1, pvI (pointsF s))]) ?_ ?_
        · exact wk_mk ⟨rfl, ⟨rfl, ⟨rfl, ⟨rfl, ⟨rfl, ⟨rfl, trivial⟩⟩⟩⟩⟩⟩ trivial ⟨rfl, ⟨rfl, trivial⟩⟩ rfl
        rcases bfc (decide ((i:Int) = 0)) with h6 | h6
        · have h6' := h6
          replace h6' := of_decide_eq_false h6'
          obtain ⟨e3, he3⟩ : ∃ e, l[(i - 1 : Nat)]? = some e := ⟨_, List.getElem?_eq_getElem (by (have hL := pvE_length l; omega))⟩
          have hlte3 := (List.getElem?_eq_some_iff.1 he3).1
          rcases bfc (!(decide (e3.user = e.user))) with h7 | h7
          · have h7' := h7
            replace h7' : e3.user = e.user := of_decide_eq_true (bnot_f h7')
            refine tr_regionD mixed rfl (.run [] [] rfl (st_move rfl) (.run [] [] rfl (st_eq (st_eql rfl rfl rfl) (by exact congrArg (fun b => AV.p none (.v (.bool b))) h6)) (.run [] [] rfl (st_move rfl) (.run [] [] rfl (st_move rfl) (.run [] [] rfl (st_move rfl) (.run [] [] rfl (st_eq (st_subn rfl rfl rfl (by omega)) (((show (AV.p none (.v (.int .i64 ((i:Int) - 1)))) = AV.p none (.v (.int .i64 ((i - 1 : Nat) : Int))) from int_eq (by omega))))) (.run [] [] rfl (st_idx_fro rfl rfl rfl Try.underlying26 Try.sizeOf44 rfl (by omega) (pvE_get he3)) (.run [] [] rfl (st_faddr_fea rfl rfl Try.underlying44 rfl Try.sizeOf42 (by decide)) (.run [] [] rfl (st_faddr_fea rfl rfl Try.underlying42 rfl Try.sizeOf9 (by decide)) (.run [] [] rfl (st_load_fea1 rfl rfl Try.isAgg9 rfl) (.run [] [] rfl (st_move rfl) (.run [] [] rfl (st_move rfl) (.run [] [] rfl (st_idx_fro rfl rfl rfl Try.underlying26 Try.sizeOf44 rfl (by omega) (pvE_get he)) (.run [] [] rfl (st_faddr_fea rfl rfl Try.underlying44 rfl Try.sizeOf42 (by decide)) (.run [] [] rfl (st_faddr_fea rfl rfl Try.underlying42 rfl Try.sizeOf9 (by decide)) (.run [] [] rfl (st_load_fea1 rfl rfl Try.isAgg9 rfl) (.run [] [] rfl (st_eq (st_sneq rfl rfl rfl) (by exact congrArg (fun b => AV.p none (.v (.bool b))) h7)) (.run [] [] rfl (st_pick (t := false) rfl rfl) (.run [] [] rfl (st_move rfl) (.run [] [] rfl (st_move rfl) (.run [] [] rfl (st_move rfl) (.run [] [] rfl (st_eq (st_subn rfl rfl rfl (by omega)) (((show (AV.p none (.v (.int .i64 ((i:Int) - 1)))) = AV.p none (.v (.int .i64 ((i - 1 : Nat) : Int))) from int_eq (by omega))))) (.run [] [] rfl (st_idx_fro rfl rfl rfl Try.underlying26 Try.sizeOf44 rfl (by omega) (pvE_get he3)) (.run [] [] rfl (st_faddr_fea rfl rfl Try.underlying44 rfl Try.sizeOf42 (by decide)) (.run [] [] rfl (st_faddr_fea rfl rfl Try.underlying42 rfl Try.sizeOf2 (by decide)) (.run [] [] rfl (st_load_fea1 rfl rfl Try.isAgg2 rfl) (.run [] [] rfl (st_move rfl) (.run [] [] rfl (st_move rfl) (.run [] [] rfl (st_idx_row0 k rfl rfl rfl rfl Try.underlying23 Try.sizeOf2 rfl rfl (by omega)) (.run [] [] rfl (st_load_ea1 rfl rfl rfl (pvI_get he2) Try.isAgg2 rfl) (.run [] [] rfl (st_gtr rfl rfl rfl) (.run [] [] rfl (st_pick (t := false) rfl rfl) (.run [] [] rfl (st_assign rfl) .nil))))))))))))))))))))))))))))))))) (by kernel_rfl) ?_
            refine tr_wk (s' := mk [(0, .p none (.sl false 4 (pvE l))), (5, .sl 1 0 ((pvI (needF l (pointsF s) i)).length)), (6, .sl 1200 0 ((pvI (pointsF s)).length)), (7, .p none (.v (.int .i64 (i:Int)))), (8, .p none (.v (.bool nb))), (9, .p none (.v (.int .i64 (k:Int)))), (10, .p none (.v (.bool (decide (e2 < e3.seq))))), (43, .p none (.sl false 4 (pvE l))), (44, .p none (.v (.int .i64 (i:Int)))), (45, .p none (.v (.int .i64 ((i - 1 : Nat):Int)))), (46, .fea none [PV.v (.string e3.user), PV.v (.int .i64 e3.seq), PV.v (.int .i64 e3.kind), PV.v (.string e3.value)]), (47, .fea none [PV.v (.string e3.user), PV.v (.int .i64 e3.seq), PV.v (.int .i64 e3.kind), PV.v (.string e3.value)]), (48, .fea none [PV.v (.string e3.user), PV.v (.int .i64 e3.seq), PV.v (.int .i64 e3.kind), PV.v (.string e3.value)]), (49, .p none (.v (.string e3.user))), (50, .p none (.sl false 4 (pvE l))), (51, .p none (.v (.int .i64 (i:Int)))), (52, .fea none [PV.v (.string e.user), PV.v (.int .i64 e.seq), PV.v (.int .i64 e.kind), PV.v (.string e.value)]), (53, .fea none [PV.v (.string e.user), PV.v (.int .i64 e.seq), PV.v (.int .i64 e.kind), PV.v (.string e.value)]), (54, .fea none [PV.v (.string e.user), PV.v (.int .i64 e.seq), PV.v (.int .i64 e.kind), PV.v (.string e.value)]), (55, .p none (.v (.string e.user))), (56, .p none (.v (.bool false))), (59, .p none (.sl false 4 (pvE l))), (60, .p none (.v (.int .i64 (i:Int)))), (61, .p none (.v (.int .i64 ((i - 1 : Nat):Int)))), (62, .fea none [PV.v (.string e3.user), PV.v (.int .i64 e3.seq), PV.v (.int .i64 e3.kind), PV.v (.string e3.value)]), (63, .fea none [PV.v (.string e3.user), PV.v (.int .i64 e3.seq), PV.v (.int .i64 e3.kind), PV.v (.string e3.value)]), (64, .fea none [PV.v (.int .i64 e3.seq), PV.v (.int .i64 e3.kind), PV.v (.string e3.value)]), (65, .p none (.v (.int .i64 e3.seq))), (66, .sl 1200 0 ((pvI (pointsF s)).length)), (67, .p none (.v (.int .i64 (k:Int)))), (68, .ea 1200 k 0), (69, .p none (.v (.int .i64 e2))), (70, .p none (.v (.bool (decide (e2 < e3.seq)))))] [] [(1, 1, pvI (needF l (pointsF s) i)), (1200, 1, pvI (pointsF s))]) ?_ ?_
            · exact wk_mk ⟨rfl, ⟨rfl, ⟨rfl, ⟨rfl, ⟨rfl, ⟨rfl, ⟨rfl, ⟨rfl, ⟨rfl, ⟨rfl, ⟨rfl, ⟨rfl, ⟨rfl, ⟨rfl, ⟨rfl, ⟨rfl, ⟨rfl, ⟨rfl, ⟨rfl, ⟨rfl, ⟨rfl, ⟨rfl, ⟨rfl, ⟨rfl, ⟨rfl, ⟨rfl, ⟨rfl, ⟨rfl, ⟨rfl, ⟨rfl, ⟨rfl, ⟨rfl, ⟨rfl, trivial⟩⟩⟩⟩⟩⟩⟩⟩⟩⟩⟩⟩⟩⟩⟩⟩⟩⟩⟩⟩⟩⟩⟩⟩⟩⟩⟩⟩⟩⟩⟩⟩⟩ trivial ⟨rfl, ⟨rfl, trivial⟩⟩ rfl
            rcases bfc nb with h8 | h8
            · have h8' := h8
              refine tr_region rfl (.run [] [] rfl (st_eq (st_move rfl) (by exact congrArg (fun b => AV.p none (.v (.bool b))) h8)) (.run [] [] rfl (st_move rfl) (.run [] [] rfl (st_move rfl) (.run [] [] rfl (st_pick (t := false) rfl rfl) (.run [] [] rfl (st_assign rfl) .nil))))) ?_
              refine tr_region rfl (.run [] [] rfl (st_move rfl) (.run [] [] rfl (st_addn rfl rfl rfl (by omega)) (.run [] [] rfl (st_assign rfl) .nil))) ?_
              refine nxt (Q := fun _ _ => False) (z := (k, nb)) (k + 1, decide (e2 < e3.seq)) ?_ ?_ ?_
              · show (k + 1) ≤ (pointsF s).length ∧ (decide (e2 < e3.seq)) = ((pointsF s).take (k + 1)).any (needC l i e)
                exact ⟨by omega, by rw [any_snoc _ he2, ← hN, needC_seq h5 h6' he3 h7', h8]; simp⟩
              · show (pointsF s).length - (k + 1) < (pointsF s).length - k
                omega
              · exact wk_mk ⟨rfl, ⟨rfl, ⟨rfl, ⟨rfl, ⟨rfl, ⟨(int_eq (by omega)), trivial⟩⟩⟩⟩⟩⟩ trivial ⟨rfl, ⟨rfl, trivial⟩⟩ rfl
            · have h8' := h8
              refine tr_region rfl (.run [] [] rfl (st_eq (st_move rfl) (by exact congrArg (fun b => AV.p none (.v (.bool b))) h8)) (.run [] [] rfl (st_move rfl) (.not rfl (.run [] [] rfl (st_pick (t := true) rfl rfl) (.run [] [] rfl (st_assign rfl) .nil))))) ?_
              refine tr_region rfl (.run [] [] rfl (st_move rfl) (.run [] [] rfl (st_addn rfl rfl rfl (by omega)) (.run [] [] rfl (st_assign rfl) .nil))) ?_
              refine nxt (Q := fun _ _ => False) (z := (k, nb)) (k + 1, true) ?_ ?_ ?_
              · show (k + 1) ≤ (pointsF s).length ∧ true = ((pointsF s).take (k + 1)).any (needC l i e)
                exact ⟨by omega, by rw [any_snoc _ he2, ← hN, needC_seq h5 h6' he3 h7', h8]; simp⟩
              · show (pointsF s).length - (k + 1) < (pointsF s).length - k
                omega
              · exact wk_mk ⟨rfl, ⟨rfl, ⟨rfl, ⟨rfl, ⟨rfl, ⟨(int_eq (by omega)), trivial⟩⟩⟩⟩⟩⟩ trivial ⟨rfl, ⟨rfl, trivial⟩⟩ rfl
          · have h7' := h7
            replace h7' : ¬ (e3.user = e.user) := of_decide_eq_false (bnot_t h7')
            refine tr_regionD mixed rfl (.run [] [] rfl (st_move rfl) (.run [] [] rfl (st_eq (st_eql rfl rfl rfl) (by exact congrArg (fun b => AV.p none (.v (.bool b))) h6)) (.run [] [] rfl (st_move rfl) (.run [] [] rfl (st_move rfl) (.run [] [] rfl (st_move rfl) (.run [] [] rfl (st_eq (st_subn rfl rfl rfl (by omega)) (((show (AV.p none (.v (.int .i64 ((i:Int) - 1)))) = AV.p none (.v (.int .i64 ((i - 1 : Nat) : Int))) from int_eq (by omega))))) (.run [] [] rfl (st_idx_fro rfl rfl rfl Try.underlying26 Try.sizeOf44 rfl (by omega) (pvE_get he3)) (.run [] [] rfl (st_faddr_fea rfl rfl Try.underlying44 rfl Try.sizeOf42 (by decide)) (.run [] [] rfl (st_faddr_fea rfl rfl Try.underlying42 rfl Try.sizeOf9 (by decide)) (.run [] [] rfl (st_load_fea1 rfl rfl Try.isAgg9 rfl) (.run [] [] rfl (st_move rfl) (.run [] [] rfl (st_move rfl) (.run [] [] rfl (st_idx_fro rfl rfl rfl Try.underlying26 Try.sizeOf44 rfl (by omega) (pvE_get he)) (.run [] [] rfl (st_faddr_fea rfl rfl Try.underlying44 rfl Try.sizeOf42 (by decide)) (.run [] [] rfl (st_faddr_fea rfl rfl Try.underlying42 rfl Try.sizeOf9 (by decide)) (.run [] [] rfl (st_load_fea1 rfl rfl Try.isAgg9 rfl) (.run [] [] rfl (st_eq (st_sneq rfl rfl rfl) (by exact congrArg (fun b => AV.p none (.v (.bool b))) h7)) (.run [] [] rfl (st_pick (t := false) rfl rfl) (.run [] [] rfl (st_move rfl) (.not rfl (.not rfl (.not rfl (.not rfl (.not rfl (.not rfl (.not rfl (.not rfl (.not rfl (.not rfl (.not rfl (.not rfl (.run [] [] rfl (st_pick (t := true) rfl rfl) (.run [] [] rfl (st_assign rfl) .nil))))))))))))))))))))))))))))))))) (by kernel_rfl) ?_
            refine tr_wk (s' := mk [(0, .p none (.sl false 4 (pvE l))), (5, .sl 1 0 ((pvI (needF l (pointsF s) i)).length)), (6, .sl 1200 0 ((pvI (pointsF s)).length)), (7, .p none (.v (.int .i64 (i:Int)))), (8, .p none (.v (.bool nb))), (9, .p none (.v (.int .i64 (k:Int)))), (10, .p none (.v (.bool true))), (43, .p none (.sl false 4 (pvE l))), (44, .p none (.v (.int .i64 (i:Int)))), (45, .p none (.v (.int .i64 ((i - 1 : Nat):Int)))), (46, .fea none [PV.v (.string e3.user), PV.v (.int .i64 e3.seq), PV.v (.int .i64 e3.kind), PV.v (.string e3.value)]), (47, .fea none [PV.v (.string e3.user), PV.v (.int .i64 e3.seq), PV.v (.int .i64 e3.kind), PV.v (.string e3.value)]), (48, .fea none [PV.v (.string e3.user), PV.v (.int .i64 e3.seq), PV.v (.int .i64 e3.kind), PV.v (.string e3.value)]), (49, .p none (.v (.string e3.user))), (50, .p none (.sl false 4 (pvE l))), (51, .p none (.v (.int .i64 (i:Int)))), (52, .fea none [PV.v (.string e.user), PV.v (.int .i64 e.seq), PV.v (.int .i64 e.kind), PV.v (.string e.value)]), (53, .fea none [PV.v (.string e.user), PV.v (.int .i64 e.seq), PV.v (.int .i64 e.kind), PV.v (.string e.value)]), (54, .fea none [PV.v (.string e.user), PV.v (.int .i64 e.seq), PV.v (.int .i64 e.kind), PV.v (.string e.value)]), (55, .p none (.v (.string e.user))), (56, .p none (.v (.bool true)))] [] [(1, 1, pvI (needF l (pointsF s) i)), (1200, 1, pvI (pointsF s))]) ?_ ?_
            · exact wk_mk ⟨rfl, ⟨rfl, ⟨rfl, ⟨rfl, ⟨rfl, ⟨rfl, ⟨rfl, ⟨rfl, ⟨rfl, ⟨rfl, ⟨rfl, ⟨rfl, ⟨rfl, ⟨rfl, ⟨rfl, ⟨rfl, ⟨rfl, ⟨rfl, ⟨rfl, ⟨rfl, ⟨rfl, trivial⟩⟩⟩⟩⟩⟩⟩⟩⟩⟩⟩⟩⟩⟩⟩⟩⟩⟩⟩⟩⟩ trivial ⟨rfl, ⟨rfl, trivial⟩⟩ rfl
            rcases bfc nb with h9 | h9
            · have h9' := h9
              refine tr_region rfl (.run [] [] rfl (st_eq (st_move rfl) (by exact congrArg (fun b => AV.p none (.v (.bool b))) h9)) (.run [] [] rfl (st_move rfl) (.run [] [] rfl (st_move rfl) (.run [] [] rfl (st_pick (t := false) rfl rfl) (.run [] [] rfl (st_assign rfl) .nil))))) ?_
              refine tr_region rfl (.run [] [] rfl (st_move rfl) (.run [] [] rfl (st_addn rfl rfl rfl (by omega)) (.run [] [] rfl (st_assign rfl) .nil))) ?_
              refine nxt (Q := fun _ _ => False) (z := (k, nb)) (k + 1, true) ?_ ?_ ?_
              · show (k + 1) ≤ (pointsF s).length ∧ true = ((pointsF s).take (k + 1)).any (needC l i e)
                exact ⟨by omega, by rw [any_snoc _ he2, ← hN, needC_user h5 he3 h7', h9]; simp⟩
              · show (pointsF s).length - (k + 1) < (pointsF s).length - k
                omega
              · exact wk_mk ⟨rfl, ⟨rfl, ⟨rfl, ⟨rfl, ⟨rfl, ⟨(int_eq (by omega)), trivial⟩⟩⟩⟩⟩⟩ trivial ⟨rfl, ⟨rfl, trivial⟩⟩ rfl
            · have h9' := h9
              refine tr_region rfl (.run [] [] rfl (st_eq (st_move rfl) (by exact congrArg (fun b => AV.p none (.v (.bool b))) h9)) (.run [] [] rfl (st_move rfl) (.not rfl (.run [] [] rfl (st_pick (t := true) rfl rfl) (.run [] [] rfl (st_assign rfl) .nil))))) ?_
              refine tr_region rfl (.run [] [] rfl (st_move rfl) (.run [] [] rfl (st_addn rfl rfl rfl (by omega)) (.run [] [] rfl (st_assign rfl) .nil))) ?_
              refine nxt (Q := fun _ _ => False) (z := (k, nb)) (k + 1, true) ?_ ?_ ?_
              · show (k + 1) ≤ (pointsF s).length ∧ true = ((pointsF s).take (k + 1)).any (needC l i e)
                exact ⟨by omega, by rw [any_snoc _ he2, ← hN, needC_user h5 he3 h7', h9]; simp⟩
              · show (pointsF s).length - (k + 1) < (pointsF s).length - k
                omega
              · exact wk_mk ⟨rfl, ⟨rfl, ⟨rfl, ⟨rfl, ⟨rfl, ⟨(int_eq (by omega)), trivial⟩⟩⟩⟩⟩⟩ trivial ⟨rfl, ⟨rfl, trivial⟩⟩ rfl
        · have h6' := h6
          replace h6' := of_decide_eq_true h6'
          refine tr_regionD mixed rfl (.run [] [] rfl (st_move rfl) (.run [] [] rfl (st_eq (st_eql rfl rfl rfl) (by exact congrArg (fun b => AV.p none (.v (.bool b))) h6)) (.run [] [] rfl (st_move rfl) (.not rfl (.not rfl (.not rfl (.not rfl (.not rfl (.not rfl (.not rfl (.not rfl (.not rfl (.not rfl (.not rfl (.not rfl (.not rfl (.not rfl (.run [] [] rfl (st_pick (t := true) rfl rfl) (.run [] [] rfl (st_move rfl) (.not rfl (.not rfl (.not rfl (.not rfl (.not rfl (.not rfl (.not rfl (.not rfl (.not rfl (.not rfl (.not rfl (.not rfl (.run [] [] rfl (st_pick (t := true) rfl rfl) (.run [] [] rfl (st_assign rfl) .nil))))))))))))))))))))))))))))))))) (by kernel_rfl) ?_
          refine tr_wk (s' := mk [(0, .p none (.sl false 4 (pvE l))), (5, .sl 1 0 ((pvI (needF l (pointsF s) i)).length)), (6, .sl 1200 0 ((pvI (pointsF s)).length)), (7, .p none (.v (.int .i64 (i:Int)))), (8, .p none (.v (.bool nb))), (9, .p none (.v (.int .i64 (k:Int)))), (10, .p none (.v (.bool true)))] [] [(1, 1, pvI (needF l (pointsF s) i)), (1200, 1, pvI (pointsF s))]) ?_ ?_
          · exact wk_mk ⟨rfl, ⟨rfl, ⟨rfl, ⟨rfl, ⟨rfl, ⟨rfl, ⟨rfl, trivial⟩⟩⟩⟩⟩⟩⟩ trivial ⟨rfl, ⟨rfl, trivial⟩⟩ rfl
          rcases bfc nb with h10 | h10
          · have h10' := h10
            refine tr_region rfl (.run [] [] rfl (st_eq (st_move rfl) (by exact congrArg (fun b => AV.p none (.v (.bool b))) h10)) (.run [] [] rfl (st_move rfl) (.run [] [] rfl (st_move rfl) (.run [] [] rfl (st_pick (t := false) rfl rfl) (.run [] [] rfl (st_assign rfl) .nil))))) ?_
            refine tr_region rfl (.run [] [] rfl (st_move rfl) (.run [] [] rfl (st_addn rfl rfl rfl (by omega)) (.run [] [] rfl (st_assign rfl) .nil))) ?_
            refine nxt (Q := fun _ _ => False) (z := (k, nb)) (k + 1, true) ?_ ?_ ?_
            · show (k + 1) ≤ (pointsF s).length ∧ true = ((pointsF s).take (k + 1)).any (needC l i e)
              exact ⟨by omega, by rw [any_snoc _ he2, ← hN, needC_zero h5 h6', h10]; simp⟩
            · show (pointsF s).length - (k + 1) < (pointsF s).length - k
              omega
            · exact wk_mk ⟨rfl, ⟨rfl, ⟨rfl, ⟨rfl, ⟨rfl, ⟨(int_eq (by omega)), trivial⟩⟩⟩⟩⟩⟩ trivial ⟨rfl, ⟨rfl, trivial⟩⟩ rfl
          · have h10' := h10
            refine tr_region rfl (.run [] [] rfl (st_eq (st_move rfl) (by exact congrArg (fun b => AV.p none (.v (.bool b))) h10)) (.run [] [] rfl (st_move rfl) (.not rfl (.run [] [] rfl (st_pick (t := true) rfl rfl) (.run [] [] rfl (st_assign rfl) .nil))))) ?_
            refine tr_region rfl (.run [] [] rfl (st_move rfl) (.run [] [] rfl (st_addn rfl rfl rfl (by omega)) (.run [] [] rfl (st_assign rfl) .nil))) ?_
            refine nxt (Q := fun _ _ => False) (z := (k, nb)) (k + 1, true) ?_ ?_ ?_
            · show (k + 1) ≤ (pointsF s).length ∧ true = ((pointsF s).take (k + 1)).any (needC l i e)
              exact ⟨by omega, by rw [any_snoc _ he2, ← hN, needC_zero h5 h6', h10]; simp⟩
            · show (pointsF s).length - (k + 1) < (pointsF s).length - k
              omega
            · exact wk_mk ⟨rfl, ⟨rfl, ⟨rfl, ⟨rfl, ⟨rfl, ⟨(int_eq (by omega)), trivial⟩⟩⟩⟩⟩⟩ trivial ⟨rfl, ⟨rfl, trivial⟩⟩ rfl
    · skip
      replace h4 := of_decide_eq_false h4
      refine tr_exit ?_
      refine tr_seq ?_
      have hnp0 : nb = needP l (pointsF s) i e := by rw [hN, needP_any, List.take_of_length_le (by omega)]
      refine tr_region rfl (.run [] [] rfl (st_move rfl) .nil) ?_
      refine tr_if (t := nb) rfl (fun h11 => ?_) (fun h11 => ?_)
      · skip
        have hnp : needP l (pointsF s) i e = true := by rw [← hnp0]; exact h11
        refine tr_region rfl (.run [] [] rfl (st_move rfl) (.run [] [] rfl (st_move rfl) (.run [7900] [] rfl (st_buildSlice rfl 7900 Try.underlying23 inf2 (nle rfl) (by decide) rfl rfl rfl (.cons .v .nil) (by decide) rfl (by decide) rfl (by decide) rfl) (.run [1] [] rfl (st_append rfl 1 (ib := 1) (len := ((pvI (needF l (pointsF s) i)) ++ [[PV.v (.int .i64 (i:Int))]]).length) rfl rfl (.row (len := (pvI (needF l (pointsF s) i)).length) (xs := pvI (needF l (pointsF s) i)) rfl rfl (.inl rfl)) (.give (len := 1) (xs := [[PV.v (.int .i64 (i:Int))]]) rfl rfl) Try.underlying23 (sk Try.underlying23 rfl) inf2 rfl (by decide) (by decide) (by decide) List.length_append (by simp only [maxLen, List.length_append, List.length_map, List.length_cons, List.length_nil, List.length_take, List.length_drop, pvE_length, pvI_length, pvT_length]; omega) (by simp only [maxLen, List.length_append, List.length_map, List.length_cons, List.length_nil, List.length_take, List.length_drop, pvE_length, pvI_length, pvT_length]; omega)) (.run [] [] rfl (st_assign rfl) .nil))))) ?_
        have hr12 : (pvI (needF l (pointsF s) i)) ++ [[PV.v (.int .i64 (i:Int))]] = pvI (needF l (pointsF s) (i + 1)) := by rw [need_yes he hnp]; exact pvI_snoc _ _
        have hp13 : (.sl 1 0 (((pvI (needF l (pointsF s) i)) ++ [[PV.v (.int .i64 (i:Int))]]).length) : AV) = .sl 1 0 ((pvI (needF l (pointsF s) (i + 1))).length) := by simp only [hr12]
        refine tr_wk (s' := mk [(0, .p none (.sl false 4 (pvE l))), (5, .sl 1 0 ((pvI (needF l (pointsF s) (i + 1))).length)), (6, .sl 1200 0 ((pvI (pointsF s)).length)), (7, .p none (.v (.int .i64 (i:Int))))] [] [(1, 1, pvI (needF l (pointsF s) (i + 1))), (1200, 1, pvI (pointsF s))]) ?_ ?_
        · exact wk_mk ⟨rfl, ⟨hp13, ⟨rfl, ⟨rfl, trivial⟩⟩⟩⟩ trivial ⟨(congrArg (fun x => some (1, x)) hr12), ⟨rfl, trivial⟩⟩ rfl
        refine tr_region rfl (.run [] [] rfl (st_move rfl) (.run [] [] rfl (st_addn rfl rfl rfl (by omega)) (.run [] [] rfl (st_assign rfl) .nil))) ?_
        refine nxt (Q := fun _ _ => False) (z := i) (i + 1) ?_ ?_ ?_
        · show (i + 1) ≤ l.length
          omega
        · show l.length - (i + 1) < l.length - i
          omega
        · exact wk_mk ⟨rfl, ⟨rfl, ⟨rfl, ⟨(int_eq (by omega)), trivial⟩⟩⟩⟩ trivial ⟨rfl, ⟨rfl, trivial⟩⟩ rfl
      · skip
        refine tr_skip ?_
        have hnp : needP l (pointsF s) i e = false := by rw [← hnp0]; exact h11
        refine tr_region rfl (.run [] [] rfl (st_move rfl) (.run [] [] rfl (st_addn rfl rfl rfl (by omega)) (.run [] [] rfl (st_assign rfl) .nil))) ?_
        refine nxt (Q := fun _ _ => False) (z := i) (i + 1) ?_ ?_ ?_
        · show (i + 1) ≤ l.length
          omega
        · show l.length - (i + 1) < l.length - i
          omega
        · exact wk_mk ⟨rfl, ⟨(congrArg (fun x => AV.sl 1 0 (pvI x).length) (need_no he hnp).symm), ⟨rfl, ⟨(int_eq (by omega)), trivial⟩⟩⟩⟩ trivial ⟨(congrArg (fun x => some (1, x)) (by rw [need_no he hnp])), ⟨rfl, trivial⟩⟩ rfl
  · skip
    replace h3 := of_decide_eq_false h3
    refine tr_exit ?_
    refine tr_seq ?_
    have hil : i = l.length := (by omega)
    rw [← hil]
    refine tr_region rfl (.run [] [] rfl (st_move rfl) (.run [] [] rfl (st_assign rfl) .nil)) ?_
    refine tr_ret ?_
    exact ends [_] [1] (.cons (.tmp rfl) .nil) (.cons (.one (.row (len := (pvI (needF l (pointsF s) i)).length) (xs := pvI (needF l (pointsF s) i)) rfl rfl) (.sl _ _ (FlatP.clean (pvI_flat _)))) .nil) (by decide) trivial
end Go.Rl
namespace Go.Rl
open Go.Proofs
theorem inf42 : (Try.prog.info? 42).map (fun i => (i.zero, i.size, i.bytes)) = some (some (.agg #[.string ⟨#[]⟩, .int .i64 0, .int .i64 0]), 3, 32) := by kernel_rfl
theorem en31 : ∀ vs w, (callFunc 31 vs).run Try.prog w = .ok (.enter 31 vs) w := enters Try.func31 (by decide) rfl
theorem en32 : ∀ vs w, (callFunc 32 vs).run Try.prog w = .ok (.enter 32 vs) w := enters Try.func32 (by decide) rfl
theorem en71 : ∀ vs w, (callFunc 71 vs).run Try.prog w = .ok (.enter 71 vs) w := enters Try.func71 (by decide) rfl
end Go.Rl
namespace Go.Rl
open Go.Proofs
end Go.Rl
namespace Go.Rl
open Go.Proofs
def wE (e : Ent) : Nat := e.user.size + e.value.size
end Go.Rl
namespace Go.Rl
open Go.Proofs
theorem inf5 : (Try.prog.info? 5).map (fun i => (i.zero, i.size, i.bytes)) = some (some (.int .u8 0), 1, 1) := by kernel_rfl
def markE (k i : Nat) : Ent := ⟨markT (k + 4 * i), ((k + 4 * i : Nat) : Int) + 1, ((k + 4 * i : Nat) : Int) + 1 + 1, markT (k + 4 * i + 3)⟩
end Go.Rl
namespace Go.Rl
open Go.Proofs
theorem inf9 : (Try.prog.info? 9).map (fun i => (i.zero, i.size, i.bytes)) = some (some (.string ⟨#[]⟩), 1, 16) := by kernel_rfl
set_option maxRecDepth 1000000 in
set_option maxHeartbeats 2000000 in
theorem compactT_con (l : List ByteArray) (hl : l.length ≤ 2000000) : Con Try.prog 166 [.one (.sl true 1 (pvT l))] [none] [.one (.sl true 1 (pvT (compactF l)))] := by
  refine con_of_tr Try.func166 rfl rfl rfl rfl ?_
  have hle := pvT_length l
  refine tr_seq ?_
  refine tr_region rfl (.run [] [] rfl (st_assign rfl) .nil) ?_
  refine tr_seq ?_
  refine tr_seq ?_
  refine tr_region rfl (.run [] [] rfl (st_move rfl) (.run [] [] rfl (st_len_row rfl rfl Try.underlying147) (.run [] [] rfl (st_lss rfl rfl rfl) .nil))) ?_
  refine tr_if (t := decide (((pvT l).length : Int) < 2)) rfl (fun h1 => ?_) (fun h1 => ?_)
  · skip
    replace h1 := of_decide_eq_true h1
    refine tr_seq ?_
    have hs : compactF l = l := cpt_short (by omega)
    rw [hs]
    refine tr_region rfl (.run [] [] rfl (st_move rfl) (.run [] [] rfl (st_assign rfl) .nil)) ?_
    refine tr_ret ?_
    exact ends [_] [100000] (.cons (.tmp rfl) .nil) (.cons (.one (.row (len := (pvT l).length) (xs := pvT l) rfl rfl) (.sl _ _ (FlatP.clean (pvT_flat _)))) .nil) (by decide) ⟨trivial, trivial⟩
  · skip
    replace h1 := of_decide_eq_false h1
    refine tr_skip ?_
    refine tr_seq ?_
    refine tr_seq ?_
    refine tr_region rfl (.run [] [] rfl (st_assign rfl) .nil) ?_
    refine tr_block ?_
    refine tr_loopS (σ := Nat) (fun k => mk [(0, .sl 100000 0 ((pvT l).length)), (3, .p none (.v (.int .i64 (k:Int))))] [] [(100000, 1, pvT l)]) (fun k => 1 ≤ k ∧ k ≤ l.length ∧ compactN l k = l.take k) (fun k => l.length - k) 1 ⟨Nat.le_refl _, by omega, cpt_one (by omega)⟩ (wk_mk ⟨rfl, ⟨(int_eq (by omega)), trivial⟩⟩ trivial ⟨rfl, trivial⟩ rfl) ?_
    rintro k hG
    replace hG : 1 ≤ k ∧ k ≤ l.length ∧ compactN l k = l.take k := hG
    obtain ⟨h1k, hkl, hC⟩ := hG
    refine tr_seq ?_
    refine tr_seq ?_
    refine tr_region rfl (.run [] [] rfl (st_move rfl) (.run [] [] rfl (st_move rfl) (.run [] [] rfl (st_len_row rfl rfl Try.underlying147) (.run [] [] rfl (st_lss rfl rfl rfl) .nil)))) ?_
    refine tr_if (t := decide ((k:Int) < ((pvT l).length : Int))) rfl (fun h2 => ?_) (fun h2 => ?_)
    · skip
      replace h2 := of_decide_eq_true h2
      refine tr_skip ?_
      refine tr_seq ?_
      refine tr_block ?_
      refine tr_seq ?_
      obtain ⟨e, he⟩ : ∃ e, l[k]? = some e := ⟨_, List.getElem?_eq_getElem (by (have hL := pvT_length l; omega))⟩
      have hlte := (List.getElem?_eq_some_iff.1 he).1
      obtain ⟨e2, he2⟩ : ∃ e, l[k - 1]? = some e := ⟨_, List.getElem?_eq_getElem (by (have hL := pvT_length l; omega))⟩
      have hlte2 := (List.getElem?_eq_some_iff.1 he2).1
      refine tr_regionD mixed rfl (.run [] [] rfl (st_move rfl) (.run [] [] rfl (st_move rfl) (.run [] [] rfl (st_idx_row0 k rfl rfl rfl rfl Try.underlying147 Try.sizeOf9 rfl rfl (by omega)) (.run [] [] rfl (st_load_ea1 rfl rfl rfl (pvT_get he) Try.isAgg9 rfl) (.run [] [] rfl (st_move rfl) (.run [] [] rfl (st_move rfl) (.run [] [] rfl (st_eq (st_subn rfl rfl rfl (by omega)) ((show (AV.p none (.v (.int .i64 ((k:Int) - 1)))) = AV.p none (.v (.int .i64 ((k - 1 : Nat) : Int))) from int_eq (by omega)))) (.run [] [] rfl (st_idx_row0 (k - 1) rfl rfl rfl rfl Try.underlying147 Try.sizeOf9 rfl rfl (by omega)) (.run [] [] rfl (st_load_ea1 rfl rfl rfl (pvT_get he2) Try.isAgg9 rfl) (.run [] [] rfl (st_seql rfl rfl rfl) .nil)))))))))) (by kernel_rfl) ?_
      refine tr_if (t := decide (e = e2)) rfl (fun h3 => ?_) (fun h3 => ?_)
      · skip
        replace h3 := of_decide_eq_true h3
        refine tr_seq ?_
        have hd0 : compactN l (k + 1) = compactN l k := compactN_dup h1k he2 he h3
        refine tr_wk (s' := mk [(0, .sl 100000 0 ((pvT l).length)), (3, .p none (.v (.int .i64 (k:Int))))] [] [(100000, 1, pvT l)]) ?_ ?_
        · exact wk_mk ⟨rfl, ⟨rfl, trivial⟩⟩ trivial ⟨rfl, trivial⟩ rfl
        refine tr_region rfl (.run [] [] rfl (st_move rfl) (.run [] [] rfl (st_move rfl) (.run [] [] rfl (st_cut_row0 (l := k) (h := (pvT l).length) rfl rfl rfl Try.underlying147 Try.sizeOf9 (.at_ rfl rfl) .no (by omega) (Nat.le_refl _) rfl) (.run [] [] rfl (st_assign rfl) .nil)))) ?_
        refine tr_seq ?_
        refine tr_seq ?_
        refine tr_region rfl (.run [] [] rfl (st_assign rfl) .nil) ?_
        refine tr_block ?_
        refine tr_loopS (σ := Nat) (fun q => mk [(0, .sl 100000 0 ((pvT l).length)), (3, .p none (.v (.int .i64 ((compactN l (k + q)).length : Int)))), (4, .sl 100000 k (((pvT l).length) - k)), (5, .p none (.v (.int .i64 (q:Int))))] [] [(100000, 1, pvT (compactN l (k + q) ++ l.drop (compactN l (k + q)).length))]) (fun q => 1 ≤ q ∧ k + q ≤ l.length ∧ (compactN l (k + q)).length + 1 ≤ k + q) (fun q => l.length - q) 1 ⟨Nat.le_refl _, by omega, by rw [hd0, hC, List.length_take]; omega⟩ (wk_mk ⟨rfl, ⟨(int_eq (by rw [hd0, hC, List.length_take]; omega)), ⟨rfl, ⟨(int_eq (by omega)), trivial⟩⟩⟩⟩ trivial ⟨(congrArg (fun x => some (1, x)) (by rw [hd0, cpt_start hC hkl])), trivial⟩ rfl) ?_
        rintro q hG
        replace hG : 1 ≤ q ∧ k + q ≤ l.length ∧ (compactN l (k + q)).length + 1 ≤ k + q := hG
        obtain ⟨h1q, hql, hcq⟩ := hG
        have hlr := pvT_length (compactN l (k + q) ++ l.drop (compactN l (k + q)).length)
        have hlc : (compactN l (k + q) ++ l.drop (compactN l (k + q)).length).length = l.length := by rw [List.length_append, List.length_drop]; omega
        refine tr_seq ?_
        refine tr_seq ?_
        refine tr_region rfl (.run [] [] rfl (st_move rfl) (.run [] [] rfl (st_move rfl) (.run [] [] rfl (st_len_row rfl rfl Try.underlying147) (.run [] [] rfl (st_lss rfl rfl rfl) .nil)))) ?_
        refine tr_if (t := decide ((q:Int) < ((((pvT l).length) - k : Nat) : Int))) rfl (fun h4 => ?_) (fun h4 => ?_)
        · skip
          replace h4 := of_decide_eq_true h4
          refine tr_skip ?_
          refine tr_seq ?_
          refine tr_block ?_
          refine tr_seq ?_
          obtain ⟨y, hy⟩ : ∃ y, l[k + q]? = some y := ⟨_, List.getElem?_eq_getElem (by omega)⟩
          obtain ⟨x, hx⟩ : ∃ x, l[k + (q - 1)]? = some x := ⟨_, List.getElem?_eq_getElem (by omega)⟩
          have hx2 : l[k + q - 1]? = some x := by rw [show k + q - 1 = k + (q - 1) by omega]; exact hx
          obtain ⟨w, hw⟩ : ∃ w, l[(compactN l (k + q)).length]? = some w := ⟨_, List.getElem?_eq_getElem (by omega)⟩
          refine tr_regionD mixed rfl (.run [] [] rfl (st_move rfl) (.run [] [] rfl (st_move rfl) (.run [] [] rfl (st_idx_rowK q rfl rfl rfl rfl Try.underlying147 Try.sizeOf9 rfl rfl (by omega)) (.run [] [] rfl (st_load_ea1 rfl rfl rfl (by exact pvT_get (by rw [cpt_get (by omega)]; exact hy)) Try.isAgg9 rfl) (.run [] [] rfl (st_move rfl) (.run [] [] rfl (st_move rfl) (.run [] [] rfl (st_eq (st_subn rfl rfl rfl (by omega)) ((show (AV.p none (.v (.int .i64 ((q:Int) - 1)))) = AV.p none (.v (.int .i64 ((q - 1 : Nat) : Int))) from int_eq (by omega)))) (.run [] [] rfl (st_idx_rowK (q - 1) rfl rfl rfl rfl Try.underlying147 Try.sizeOf9 rfl rfl (by omega)) (.run [] [] rfl (st_load_ea1 rfl rfl rfl (by exact pvT_get (by rw [cpt_get (by omega)]; exact hx)) Try.isAgg9 rfl) (.run [] [] rfl (st_sneq rfl rfl rfl) .nil)))))))))) (by kernel_rfl) ?_
          refine tr_if (t := (!(decide (y = x)))) rfl (fun h5 => ?_) (fun h5 => ?_)
          · skip
            replace h5 : ¬ (y = x) := of_decide_eq_false (bnot_t h5)
            refine tr_seq ?_
            refine tr_wk (s' := mk [(0, .sl 100000 0 ((pvT l).length)), (3, .p none (.v (.int .i64 ((compactN l (k + q)).length : Int)))), (4, .sl 100000 k (((pvT l).length) - k)), (5, .p none (.v (.int .i64 (q:Int))))] [] [(100000, 1, pvT (compactN l (k + q) ++ l.drop (compactN l (k + q)).length))]) ?_ ?_
            · exact wk_mk ⟨rfl, ⟨rfl, ⟨rfl, ⟨rfl, trivial⟩⟩⟩⟩ trivial ⟨rfl, trivial⟩ rfl
            refine tr_region rfl (.run [] [] rfl (st_move rfl) (.run [] [] rfl (st_move rfl) (.run [] [] rfl (st_move rfl) (.run [] [] rfl (st_move rfl) (.run [] [] rfl (st_idx_rowK q rfl rfl rfl rfl Try.underlying147 Try.sizeOf9 rfl rfl (by omega)) (.run [] [] rfl (st_load_ea1 rfl rfl rfl (by exact pvT_get (by rw [cpt_get (by omega)]; exact hy)) Try.isAgg9 rfl) (.run [] [] rfl (st_idx_row0 ((compactN l (k + q)).length) rfl rfl rfl rfl Try.underlying147 Try.sizeOf9 rfl rfl (by omega)) (.run [] [] rfl (st_store_row rfl rfl rfl (FlatP.nf (pvT_flat _)) (by exact pvT_get (by rw [cpt_get (Nat.le_refl _)]; exact hw)) rfl rfl (.cons .v .nil) Try.sizeOf9 rfl (nle rfl)) .nil)))))))) ?_
            refine tr_region rfl (.run [] [] rfl (st_move rfl) (.run [] [] rfl (st_addn rfl rfl rfl (by omega)) (.run [] [] rfl (st_assign rfl) .nil))) ?_
            refine tr_region rfl (.run [] [] rfl (st_move rfl) (.run [] [] rfl (st_addn rfl rfl rfl (by omega)) (.run [] [] rfl (st_assign rfl) .nil))) ?_
            refine nxt (Q := fun _ _ => False) (z := q) (q + 1) ?_ ?_ ?_
            · show 1 ≤ (q + 1) ∧ k + (q + 1) ≤ l.length ∧ (compactN l (k + (q + 1))).length + 1 ≤ k + (q + 1)
              exact ⟨by omega, by omega, by rw [show k + (q + 1) = k + q + 1 from rfl, compactN_new hx2 hy h5]; simp only [List.length_append, List.length_cons, List.length_nil]; omega⟩
            · show l.length - (q + 1) < l.length - q
              omega
            · exact wk_mk ⟨rfl, ⟨(int_eq (by rw [show k + (q + 1) = k + q + 1 from rfl, compactN_new hx2 hy h5]; simp)), ⟨rfl, ⟨(int_eq (by omega)), trivial⟩⟩⟩⟩ trivial ⟨(congrArg (fun x => some (1, x)) (by rw [show k + (q + 1) = k + q + 1 from rfl, compactN_new hx2 hy h5, ← cpt_set (by omega)]; simp [pvT, List.map_set, over])), trivial⟩ rfl
          · skip
            replace h5 : y = x := of_decide_eq_true (bnot_f h5)
            refine tr_skip ?_
            refine tr_wk (s' := mk [(0, .sl 100000 0 ((pvT l).length)), (3, .p none (.v (.int .i64 ((compactN l (k + q)).length : Int)))), (4, .sl 100000 k (((pvT l).length) - k)), (5, .p none (.v (.int .i64 (q:Int))))] [] [(100000, 1, pvT (compactN l (k + q) ++ l.drop (compactN l (k + q)).length))]) ?_ ?_
            · exact wk_mk ⟨rfl, ⟨rfl, ⟨rfl, ⟨rfl, trivial⟩⟩⟩⟩ trivial ⟨rfl, trivial⟩ rfl
            refine tr_region rfl (.run [] [] rfl (st_move rfl) (.run [] [] rfl (st_addn rfl rfl rfl (by omega)) (.run [] [] rfl (st_assign rfl) .nil))) ?_
            refine nxt (Q := fun _ _ => False) (z := q) (q + 1) ?_ ?_ ?_
            · show 1 ≤ (q + 1) ∧ k + (q + 1) ≤ l.length ∧ (compactN l (k + (q + 1))).length + 1 ≤ k + (q + 1)
              exact ⟨by omega, by omega, by rw [show k + (q + 1) = k + q + 1 from rfl, compactN_dup (by omega) hx2 hy h5]; omega⟩
            · show l.length - (q + 1) < l.length - q
              omega
            · exact wk_mk ⟨rfl, ⟨(int_eq (by rw [show k + (q + 1) = k + q + 1 from rfl, compactN_dup (by omega) hx2 hy h5])), ⟨rfl, ⟨(int_eq (by omega)), trivial⟩⟩⟩⟩ trivial ⟨(congrArg (fun x => some (1, x)) (by rw [show k + (q + 1) = k + q + 1 from rfl, compactN_dup (by omega) hx2 hy h5])), trivial⟩ rfl
        · skip
          replace h4 := of_decide_eq_false h4
          refine tr_exit ?_
          refine tr_seq ?_
          have hlr0 := pvT_length (compactN l (k + q) ++ l.drop (compactN l (k + q)).length)
          have hlc0 : (compactN l (k + q) ++ l.drop (compactN l (k + q)).length).length = l.length := by rw [List.length_append, List.length_drop]; omega
          have hkq : k + q = l.length := (by omega)
          refine tr_region rfl (.run [] [] rfl (st_move rfl) (.run [] [] rfl (st_move rfl) (.run [] [] rfl (st_cut_row0 (l := (compactN l (k + q)).length) (h := (pvT l).length) rfl rfl rfl Try.underlying147 Try.sizeOf9 (.at_ rfl rfl) .no (by omega) (Nat.le_refl _) rfl) (.run [] [] rfl (st_clear (lo := (compactN l (k + q)).length) (len := (pvT l).length - (compactN l (k + q)).length) rfl rfl rfl (pvT_flat _) Try.underlying147 inf9 rfl rfl (by rw [hlr0, hlc0]; omega)) .nil)))) ?_
          refine tr_seq ?_
          have hs : compactF l = compactN l (k + q) := by rw [compactF, hkq]
          rw [hs]
          refine tr_region rfl (.run [] [] rfl (st_move rfl) (.run [] [] rfl (st_move rfl) (.run [] [] rfl (st_cut_row0 (l := 0) (h := (compactN l (k + q)).length) rfl rfl rfl Try.underlying147 Try.sizeOf9 .no (.at_ rfl rfl) (Nat.zero_le _) (by omega) rfl) (.run [] [] rfl (st_assign rfl) .nil)))) ?_
          refine tr_ret ?_
          exact ends [_] [100000] (.cons (.tmp rfl) .nil) (.cons (.one (gv_eq (.pre (len := ((compactN l (k + q)).length) - 0) (xs := (pvT (compactN l (k + q) ++ l.drop (compactN l (k + q)).length)).take (compactN l (k + q)).length ++ List.replicate ((pvT l).length - (compactN l (k + q)).length) [PV.v (.string ⟨#[]⟩)]) rfl (by rw [List.length_append, List.length_take, hlr0, List.length_replicate]; omega) cpt_flat) (congrArg (PV.sl true 1) (cpt_row rfl))) (.sl _ _ (FlatP.clean (pvT_flat _)))) .nil) (by decide) ⟨trivial, trivial⟩
      · skip
        replace h3 := of_decide_eq_false h3
        refine tr_skip ?_
        refine tr_wk (s' := mk [(0, .sl 100000 0 ((pvT l).length)), (3, .p none (.v (.int .i64 (k:Int))))] [] [(100000, 1, pvT l)]) ?_ ?_
        · exact wk_mk ⟨rfl, ⟨rfl, trivial⟩⟩ trivial ⟨rfl, trivial⟩ rfl
        refine tr_region rfl (.run [] [] rfl (st_move rfl) (.run [] [] rfl (st_addn rfl rfl rfl (by omega)) (.run [] [] rfl (st_assign rfl) .nil))) ?_
        refine nxt (Q := fun _ _ => False) (z := k) (k + 1) ?_ ?_ ?_
        · show 1 ≤ (k + 1) ∧ (k + 1) ≤ l.length ∧ compactN l (k + 1) = l.take (k + 1)
          exact ⟨by omega, by omega, cpt_next hC he2 he h3⟩
        · show l.length - (k + 1) < l.length - k
          omega
        · exact wk_mk ⟨rfl, ⟨(int_eq (by omega)), trivial⟩⟩ trivial ⟨rfl, trivial⟩ rfl
    · skip
      replace h2 := of_decide_eq_false h2
      refine tr_exit ?_
      refine tr_seq ?_
      have hkk : k = l.length := (by omega)
      have hs : compactF l = l := by rw [compactF, ← hkk, hC, List.take_of_length_le (by omega)]
      rw [hs]
      refine tr_region rfl (.run [] [] rfl (st_move rfl) (.run [] [] rfl (st_assign rfl) .nil)) ?_
      refine tr_ret ?_
      exact ends [_] [100000] (.cons (.tmp rfl) .nil) (.cons (.one (.row (len := (pvT l).length) (xs := pvT l) rfl rfl) (.sl _ _ (FlatP.clean (pvT_flat _)))) .nil) (by decide) ⟨trivial, trivial⟩
end Go.Rl
namespace Go.Rl
open Go.Proofs
theorem en166 : ∀ vs w, (callFunc 166 vs).run Try.prog w = .ok (.enter 166 vs) w := enters Try.func166 (by decide) rfl
def usrN (l : List Ent) (i : Nat) : List ByteArray := (l.take i).map fun e => e.user
theorem usrN_len {l : List Ent} {i : Nat} (h : i ≤ l.length) : (usrN l i).length = i := by simp [usrN]; omega
theorem usrN_all {l : List Ent} {i : Nat} (h : l.length ≤ i) : compactF (usrN l i) = usersF l := by rw [usrN, List.take_of_length_le h]; rfl
set_option maxRecDepth 1000000 in
set_option maxHeartbeats 2000000 in
theorem users_con (l : List Ent) (hl : l.length ≤ 2000000) : Con Try.prog 135 [.one (PV.sl false 4 (pvE l))] [] [.one (.sl true 1 (pvT (usersF l)))] := by
  refine con_of_tr Try.func135 rfl rfl rfl rfl ?_
  have hle := pvE_length l
  refine tr_seq ?_
  refine tr_region rfl (.run [] [] rfl (st_assign rfl) .nil) ?_
  refine tr_seq ?_
  refine tr_region rfl (.run [600] [] rfl (st_buildSlice rfl 600 Try.underlying147 inf9 (nle rfl) (by decide) rfl rfl rfl .nil (by decide) rfl (by decide) rfl (by decide) rfl) (.run [] [] rfl (st_assign rfl) .nil)) ?_
  refine tr_seq ?_
  refine tr_seq ?_
  refine tr_region rfl (.run [] [] rfl (st_move rfl) (.run [] [] rfl (st_len_fro rfl rfl Try.underlying26) (.run [] [] rfl (st_move rfl) .nil))) ?_
  refine tr_block ?_
  refine tr_wk (wk_ren 600 1 rfl rfl (by decide)) ?_
  refine tr_loopS (σ := Nat) (fun i => mk [(3, .sl 1 0 ((pvT (usrN l i)).length)), (7, .p none (.sl false 4 (pvE l))), (8, .p none (.v (.int .i64 ((pvE l).length : Int)))), (9, .p none (.v (.int .i64 (i:Int))))] [] [(1, 1, pvT (usrN l i))]) (fun i => i ≤ l.length) (fun i => l.length - i) 0 (by simp) (wk_mk ⟨rfl, ⟨rfl, ⟨rfl, ⟨(int_eq (by omega)), trivial⟩⟩⟩⟩ trivial ⟨(congrArg (fun x => some (1, x)) (by rfl)), trivial⟩ rfl) ?_
  rintro i hG
  replace hG : i ≤ l.length := hG
  have hlu := pvT_length (usrN l i)
  have hun := usrN_len hG
  refine tr_seq ?_
  refine tr_region rfl (.run [] [] rfl (st_lss rfl rfl rfl) .nil) ?_
  refine tr_seq ?_
  refine tr_if (t := decide ((i:Int) < ((pvE l).length : Int))) rfl (fun h1 => ?_) (fun h1 => ?_)
  · skip
    replace h1 := of_decide_eq_true h1
    refine tr_skip ?_
    refine tr_seq ?_
    refine tr_block ?_
    refine tr_seq ?_
    obtain ⟨e, he⟩ : ∃ e, l[i]? = some e := ⟨_, List.getElem?_eq_getElem (by (have hL := pvE_length l; omega))⟩
    have hlte := (List.getElem?_eq_some_iff.1 he).1
    refine tr_region rfl (.run [] [] rfl (st_idx_fro rfl rfl rfl Try.underlying26 Try.sizeOf44 rfl (by omega) (pvE_get he)) (.run [] [] rfl (st_load_fea rfl rfl Try.isAgg44 Try.sizeOf44 (nle rfl)) (.run [] [5] rfl (st_allocZ rfl 5 inf44 rfl (by decide) rfl (by decide)) (.run [] [] rfl (st_store_box rfl rfl rfl rfl rfl Try.sizeOf44 rfl (nle rfl)) .nil)))) ?_
    refine tr_region rfl (.run [] [] rfl (st_move rfl) (.run [] [] rfl (st_faddr_box rfl rfl Try.underlying44 rfl Try.sizeOf42 (by decide)) (.run [] [] rfl (st_faddr_box rfl rfl Try.underlying42 rfl Try.sizeOf9 (by decide)) (.run [] [] rfl (st_load_box1 rfl rfl rfl Try.isAgg9 rfl) (.run [1700] [] rfl (st_buildSlice rfl 1700 Try.underlying147 inf9 (nle rfl) (by decide) rfl rfl rfl (.cons .v .nil) (by decide) rfl (by decide) rfl (by decide) rfl) (.run [1] [] rfl (st_append rfl 1 (ib := 1) (len := ((pvT (usrN l i)) ++ [[PV.v (.string e.user)]]).length) rfl rfl (.row (len := (pvT (usrN l i)).length) (xs := pvT (usrN l i)) rfl rfl (.inl rfl)) (.give (len := 1) (xs := [[PV.v (.string e.user)]]) rfl rfl) Try.underlying147 (sk Try.underlying147 rfl) inf9 rfl (by decide) (by decide) (by decide) List.length_append (by simp only [maxLen, List.length_append, List.length_map, List.length_cons, List.length_nil, List.length_take, List.length_drop, pvE_length, pvI_length, pvT_length]; omega) (by simp only [maxLen, List.length_append, List.length_map, List.length_cons, List.length_nil, List.length_take, List.length_drop, pvE_length, pvI_length, pvT_length]; omega)) (.run [] [] rfl (st_assign rfl) .nil))))))) ?_
    have hr2 : (pvT (usrN l i)) ++ [[PV.v (.string e.user)]] = pvT (usrN l (i + 1)) := by simp [pvT, usrN, List.take_add_one, he]
    have hp3 : (.sl 1 0 (((pvT (usrN l i)) ++ [[PV.v (.string e.user)]]).length) : AV) = .sl 1 0 ((pvT (usrN l (i + 1))).length) := by simp only [hr2]
    refine tr_wk (s' := mk [(3, .sl 1 0 ((pvT (usrN l (i + 1))).length)), (7, .p none (.sl false 4 (pvE l))), (8, .p none (.v (.int .i64 ((pvE l).length : Int)))), (9, .p none (.v (.int .i64 (i:Int))))] [] [(1, 1, pvT (usrN l (i + 1)))]) ?_ ?_
    · exact wk_mk ⟨hp3, ⟨rfl, ⟨rfl, ⟨rfl, trivial⟩⟩⟩⟩ trivial ⟨(congrArg (fun x => some (1, x)) hr2), trivial⟩ rfl
    refine tr_region rfl (.run [] [] rfl (st_addn rfl rfl rfl (by omega)) (.run [] [] rfl (st_move rfl) .nil)) ?_
    refine nxt (Q := fun _ _ => False) (z := i) (i + 1) ?_ ?_ ?_
    · show (i + 1) ≤ l.length
      omega
    · show l.length - (i + 1) < l.length - i
      omega
    · exact wk_mk ⟨rfl, ⟨rfl, ⟨rfl, ⟨(int_eq (by omega)), trivial⟩⟩⟩⟩ trivial ⟨rfl, trivial⟩ rfl
  · skip
    replace h1 := of_decide_eq_false h1
    refine tr_exit ?_
    refine tr_seq ?_
    rw [← usrN_all (i := i) (by omega)]
    refine tr_region rfl (.run [] [] rfl (st_move rfl) (.run [1, 2100] [] rfl (st_call rfl 2100 (X := [1]) en166 rfl (.val nod) (.cons (.one (.own (len := (pvT (usrN l i)).length) (xs := pvT (usrN l i)) rfl rfl)) .nil) (by decide) (all_cons rfl all_nil) (.gone .nil) (compactT_con (usrN l i) (by omega)) rfl rfl (nle rfl)) (.run [] [] rfl (st_assign rfl) .nil))) ?_
    refine tr_ret ?_
    exact ends [_] [2100] (.cons (.tmp rfl) .nil) (.cons (.one (.row (len := (pvT (compactF (usrN l i))).length) (xs := pvT (compactF (usrN l i))) rfl rfl) (.sl _ _ (FlatP.clean (pvT_flat _)))) .nil) (by decide) trivial
end Go.Rl
namespace Go.Rl
def pvBo (l : List Bool) : List (List PV) := l.map fun b => [.v (.bool b)]
theorem pvBo_get {l : List Bool} {i : Nat} {e : Bool} (h : l[i]? = some e) : (pvBo l)[i]? = some [.v (.bool e)] := by simp [pvBo, h]
theorem pvBo_flat (l : List Bool) : FlatP (pvBo l) := fun es he p hp => by
  obtain ⟨s, _, rfl⟩ := List.mem_map.1 he
  simp only [List.mem_singleton] at hp
  subst hp; rfl
def setK (n : List Bool) (j : Int) : List Bool := if 0 ≤ j then n.set j.toNat true else n
theorem setK_len (n : List Bool) (j : Int) : (setK n j).length = n.length := by
  unfold setK
  split <;> simp
theorem setK_get {n : List Bool} {j : Int} {k : Nat} : (setK n j)[k]? = (n[k]?).map fun b => b || decide (j = (k : Int)) := by
  unfold setK
  split
  · rw [List.getElem?_set]
    by_cases hk : j.toNat = k
    · have hj : j = (k : Int) := by omega
      rw [if_pos hk]
      by_cases hl : j.toNat < n.length
      · rw [if_pos hl, List.getElem?_eq_getElem (by omega : k < n.length)]
        simp [hj]
      · rw [if_neg hl, List.getElem?_eq_none (by omega)]
        rfl
    · have hj : ¬ j = (k : Int) := by omega
      rw [if_neg hk]
      cases n[k]? <;> simp [hj]
  · have hj : ¬ j = (k : Int) := by omega
    cases n[k]? <;> simp [hj]
def markPs (l : List Ent) (u : ByteArray) (ps : List Int) (n : List Bool) : List Bool := ps.foldl (fun n s => setK n (idxF (asOf u s) l)) n
theorem markPs_len (l : List Ent) (u : ByteArray) : ∀ (ps : List Int) (n : List Bool), (markPs l u ps n).length = n.length
  | [], _ => rfl
  | s :: ps, n => by
    show (markPs l u ps (setK n (idxF (asOf u s) l))).length = n.length
    rw [markPs_len l u ps, setK_len]
theorem markPs_get {l : List Ent} {u : ByteArray} {k : Nat} : ∀ {ps : List Int} {n : List Bool}, (markPs l u ps n)[k]? = (n[k]?).map fun b => b || ps.any fun s => decide (idxF (asOf u s) l = (k : Int))
  | [], n => by simp [markPs]
  | s :: ps, n => by
    show (markPs l u ps (setK n (idxF (asOf u s) l)))[k]? = _
    rw [markPs_get, setK_get]
    cases n[k]? <;> simp [Bool.or_assoc]
theorem markPs_snoc {l : List Ent} {u : ByteArray} {ps : List Int} {n : List Bool} {j : Nat} {s : Int} (h : ps[j]? = some s) : markPs l u (ps.take (j + 1)) n = setK (markPs l u (ps.take j) n) (idxF (asOf u s) l) := by
  simp [markPs, List.take_add_one, h]
def markUs (l : List Ent) (ps : List Int) (us : List ByteArray) (n : List Bool) : List Bool := us.foldl (fun n u => markPs l u ps n) n
theorem markUs_len (l : List Ent) (ps : List Int) : ∀ (us : List ByteArray) (n : List Bool), (markUs l ps us n).length = n.length
  | [], _ => rfl
  | u :: us, n => by
    show (markUs l ps us (markPs l u ps n)).length = n.length
    rw [markUs_len l ps us, markPs_len]
theorem markUs_get {l : List Ent} {ps : List Int} {k : Nat} : ∀ {us : List ByteArray} {n : List Bool}, (markUs l ps us n)[k]? = (n[k]?).map fun b => b || us.any fun u => ps.any fun s => decide (idxF (asOf u s) l = (k : Int))
  | [], n => by simp [markUs]
  | u :: us, n => by
    show (markUs l ps us (markPs l u ps n))[k]? = _
    rw [markUs_get, markPs_get]
    cases n[k]? <;> simp [Bool.or_assoc]
theorem markUs_snoc {l : List Ent} {ps : List Int} {us : List ByteArray} {n : List Bool} {j : Nat} {u : ByteArray} (h : us[j]? = some u) : markUs l ps (us.take (j + 1)) n = markPs l u ps (markUs l ps (us.take j) n) := by
  simp [markUs, List.take_add_one, h]
def marksF (l : List Ent) (ps : List Int) : List Bool := markUs l ps (usersF l) (List.replicate l.length false)
/-- The marks are what is needed. -/
theorem marksF_get {l : List Ent} {ps : List Int} (h : entsOk l = true) {k : Nat} {e : Ent} (he : l[k]? = some e) : (marksF l ps)[k]? = some (needP l ps k e) := by
  have hlt := (List.getElem?_eq_some_iff.1 he).1
  rw [marksF, markUs_get, List.getElem?_replicate, if_pos hlt, need_iff h he]
  simp
end Go.Rl
namespace Go.Rl
open Go.Proofs
theorem inf4 : (Try.prog.info? 4).map (fun i => (i.zero, i.size, i.bytes)) = some (some (.bool false), 1, 1) := by kernel_rfl
theorem en135 : ∀ vs w, (callFunc 135 vs).run Try.prog w = .ok (.enter 135 vs) w := enters Try.func135 (by decide) rfl
theorem en136 : ∀ vs w, (callFunc 136 vs).run Try.prog w = .ok (.enter 136 vs) w := enters Try.func136 (by decide) rfl
theorem en137 : ∀ vs w, (callFunc 137 vs).run Try.prog w = .ok (.enter 137 vs) w := enters Try.func137 (by decide) rfl
theorem idx_bnd {α : Type} {p : α → Bool} {l : List α} (h : 0 ≤ idxF p l) : (idxF p l).toNat < l.length := by
  unfold idxF at h ⊢
  cases hf : l.findIdx? p with
  | none => rw [hf] at h; simp at h
  | some q => simp only [Int.toNat_natCast]; exact (List.findIdx?_eq_some_iff_getElem.1 hf).1
theorem bo_zero {l : List Ent} {s : List Int} : List.replicate (pvE l).length [PV.v (.bool false)] = pvBo (markUs l (pointsF s) ((usersF l).take 0) (List.replicate l.length false)) := by simp [pvBo, markUs, pvE_length]
theorem users_len (l : List Ent) : (usersF l).length ≤ l.length := by
  have h := compactN_len (l.map fun e => e.user) (l.map fun e => e.user).length
  rw [List.length_map] at h
  unfold usersF compactF
  rw [List.length_map]
  exact h
set_option maxRecDepth 1000000 in
set_option maxHeartbeats 2000000 in
theorem needed_con (l : List Ent) (s : List Int) (hl : l.length ≤ 2000000) (hs : s.length ≤ 2000000) (hok : entsOk l = true) : Con Try.prog 74 [.one (PV.sl false 4 (pvE l)), .one (PV.sl false 1 (pvI s))] [] [.one (.sl true 1 (pvI (needF l (pointsF s) l.length)))] := by
  refine con_of_tr Try.func74 rfl rfl rfl rfl ?_
  have hle := pvE_length l
  have hls := pvI_length s
  have hlp := pvI_length (pointsF s)
  have hpl := points_len s
  have hlu := pvT_length (usersF l)
  have hpp : (pvI s ++ [[PV.v (.int .i64 1000000000000)]]).length = (pointsF s).length := by rw [pvI_points]; exact hlp
  have hul := users_len l
  refine tr_seq ?_
  refine tr_region rfl (.run [] [] rfl (st_assign rfl) .nil) ?_
  refine tr_seq ?_
  refine tr_region rfl (.run [] [] rfl (st_move rfl) (.run [] [] rfl (st_len_fro rfl rfl Try.underlying26) (.run [1600] [] rfl (st_make rfl 1600 (l := (pvE l).length) (c := (pvE l).length) rfl rfl Try.underlying146 inf4 rfl rfl (by decide) rfl (by decide) (Nat.le_refl _) (by omega) (by simp only [maxLen]; omega)) (.run [] [] rfl (st_assign rfl) .nil)))) ?_
  refine tr_seq ?_
  refine tr_seq ?_
  refine tr_region rfl (.run [] [] rfl (st_move rfl) (.run [1800] [] rfl (st_call rfl 1800 (X := []) en135 rfl (.val nod) (.cons (.one (.bor (.sl nod))) .nil) (by decide) all_nil .nil (users_con l (by omega)) rfl rfl (nle rfl)) (.run [] [] rfl (st_len_row rfl rfl Try.underlying147) (.run [] [] rfl (st_move rfl) .nil)))) ?_
  refine tr_block ?_
  refine tr_loopS (σ := Nat) (fun a => mk [(0, .p none (.sl false 4 (pvE l))), (1, .p none (.sl false 1 (pvI s))), (5, .sl 1600 0 ((pvE l).length)), (18, .sl 1800 0 ((pvT (usersF l)).length)), (19, .p none (.v (.int .i64 ((pvT (usersF l)).length : Int)))), (20, .p none (.v (.int .i64 (a:Int))))] [] [(1600, 1, pvBo (markUs l (pointsF s) ((usersF l).take a) (List.replicate l.length false))), (1800, 1, pvT (usersF l))]) (fun a => a ≤ (usersF l).length) (fun a => (usersF l).length - a) 0 (by simp) (wk_mk ⟨rfl, ⟨rfl, ⟨rfl, ⟨rfl, ⟨rfl, ⟨(int_eq (by omega)), trivial⟩⟩⟩⟩⟩⟩ trivial ⟨(congrArg (fun x => some (1, x)) (by exact bo_zero)), ⟨rfl, trivial⟩⟩ rfl) ?_
  rintro a hG
  replace hG : a ≤ (usersF l).length := hG
  refine tr_seq ?_
  refine tr_region rfl (.run [] [] rfl (st_lss rfl rfl rfl) .nil) ?_
  refine tr_seq ?_
  refine tr_if (t := decide ((a:Int) < ((pvT (usersF l)).length : Int))) rfl (fun h1 => ?_) (fun h1 => ?_)
  · skip
    replace h1 := of_decide_eq_true h1
    refine tr_skip ?_
    refine tr_seq ?_
    refine tr_block ?_
    refine tr_seq ?_
    obtain ⟨e, he⟩ : ∃ e, (usersF l)[a]? = some e := ⟨_, List.getElem?_eq_getElem (by (have hL := pvT_length (usersF l); omega))⟩
    have hlte := (List.getElem?_eq_some_iff.1 he).1
    refine tr_region rfl (.run [] [] rfl (st_idx_row0 a rfl rfl rfl rfl Try.underlying147 Try.sizeOf9 rfl rfl (by omega)) (.run [] [] rfl (st_load_ea1 rfl rfl rfl (pvT_get he) Try.isAgg9 rfl) (.run [] [] rfl (st_assign rfl) .nil))) ?_
    refine tr_seq ?_
    refine tr_region rfl (.run [] [] rfl (st_move rfl) (.run [2500] [] rfl (st_call rfl 2500 (X := []) en136 rfl (.val nod) (.cons (.one (.bor (.sl nod))) .nil) (by decide) all_nil .nil (cloneI_con s (by omega)) rfl rfl (nle rfl)) (.run [2600] [] rfl (st_buildSlice rfl 2600 Try.underlying23 inf2 (nle rfl) (by decide) rfl rfl rfl (.cons .v .nil) (by decide) rfl (by decide) rfl (by decide) rfl) (.run [2500] [] rfl (st_append rfl 2500 (ib := 2500) (len := ((pvI s) ++ [[PV.v (.int .i64 1000000000000)]]).length) rfl rfl (.row (len := (pvI s).length) (xs := pvI s) rfl rfl (.inl rfl)) (.give (len := 1) (xs := [[PV.v (.int .i64 1000000000000)]]) rfl rfl) Try.underlying23 (sk Try.underlying23 rfl) inf2 rfl (by decide) (by decide) (by decide) List.length_append (by simp only [maxLen, List.length_append, List.length_map, List.length_cons, List.length_nil, List.length_take, List.length_drop, pvE_length, pvI_length, pvT_length]; omega) (by simp only [maxLen, List.length_append, List.length_map, List.length_cons, List.length_nil, List.length_take, List.length_drop, pvE_length, pvI_length, pvT_length]; omega)) (.run [] [] rfl (st_len_row rfl rfl Try.underlying23) (.run [] [] rfl (st_move rfl) .nil)))))) ?_
    have hr2 : (pvI s) ++ [[PV.v (.int .i64 1000000000000)]] = pvI (pointsF s) := by exact pvI_points s
    have hp3 : (.sl 2500 0 (((pvI s) ++ [[PV.v (.int .i64 1000000000000)]]).length) : AV) = .sl 2500 0 ((pvI (pointsF s)).length) := by simp only [hr2]
    refine tr_wk (s' := mk [(0, .p none (.sl false 4 (pvE l))), (1, .p none (.sl false 1 (pvI s))), (5, .sl 1600 0 ((pvE l).length)), (7, .p none (.v (.string e))), (18, .sl 1800 0 ((pvT (usersF l)).length)), (19, .p none (.v (.int .i64 ((pvT (usersF l)).length : Int)))), (20, .p none (.v (.int .i64 (a:Int)))), (27, .sl 2500 0 ((pvI (pointsF s)).length)), (28, .p none (.v (.int .i64 (((pvI s) ++ [[PV.v (.int .i64 1000000000000)]]).length : Int)))), (29, .p none (.v (.int .i64 0)))] [] [(1600, 1, pvBo (markUs l (pointsF s) ((usersF l).take a) (List.replicate l.length false))), (1800, 1, pvT (usersF l)), (2500, 1, pvI (pointsF s))]) ?_ ?_
    · exact wk_mk ⟨rfl, ⟨rfl, ⟨rfl, ⟨rfl, ⟨rfl, ⟨rfl, ⟨rfl, ⟨hp3, ⟨rfl, ⟨rfl, trivial⟩⟩⟩⟩⟩⟩⟩⟩⟩⟩ trivial ⟨rfl, ⟨rfl, ⟨(congrArg (fun x => some (1, x)) hr2), trivial⟩⟩⟩ rfl
    refine tr_block ?_
    refine tr_loopS (σ := Nat) (fun b => mk [(0, .p none (.sl false 4 (pvE l))), (1, .p none (.sl false 1 (pvI s))), (5, .sl 1600 0 ((pvE l).length)), (7, .p none (.v (.string e))), (18, .sl 1800 0 ((pvT (usersF l)).length)), (19, .p none (.v (.int .i64 ((pvT (usersF l)).length : Int)))), (20, .p none (.v (.int .i64 (a:Int)))), (27, .sl 2500 0 ((pvI (pointsF s)).length)), (28, .p none (.v (.int .i64 (((pvI s) ++ [[PV.v (.int .i64 1000000000000)]]).length : Int)))), (29, .p none (.v (.int .i64 (b:Int))))] [] [(1600, 1, pvBo (markPs l e ((pointsF s).take b) (markUs l (pointsF s) ((usersF l).take a) (List.replicate l.length false)))), (1800, 1, pvT (usersF l)), (2500, 1, pvI (pointsF s))]) (fun b => b ≤ (pointsF s).length) (fun b => (pointsF s).length - b) 0 (by simp) (wk_mk ⟨rfl, ⟨rfl, ⟨rfl, ⟨rfl, ⟨rfl, ⟨rfl, ⟨rfl, ⟨rfl, ⟨rfl, ⟨(int_eq (by omega)), trivial⟩⟩⟩⟩⟩⟩⟩⟩⟩⟩ trivial ⟨(congrArg (fun x => some (1, x)) (by rfl)), ⟨rfl, ⟨rfl, trivial⟩⟩⟩ rfl) ?_
    rintro b hG
    replace hG : b ≤ (pointsF s).length := hG
    refine tr_seq ?_
    refine tr_region rfl (.run [] [] rfl (st_lss rfl rfl rfl) .nil) ?_
    refine tr_seq ?_
    refine tr_if (t := decide ((b:Int) < (((pvI s) ++ [[PV.v (.int .i64 1000000000000)]]).length : Int))) rfl (fun h4 => ?_) (fun h4 => ?_)
    · skip
      replace h4 := of_decide_eq_true h4
      refine tr_skip ?_
      refine tr_seq ?_
      refine tr_block ?_
      refine tr_seq ?_
      obtain ⟨e2, he2⟩ : ∃ e, (pointsF s)[b]? = some e := ⟨_, List.getElem?_eq_getElem (by (have hL := pvI_length (pointsF s); omega))⟩
      have hlte2 := (List.getElem?_eq_some_iff.1 he2).1
      refine tr_region rfl (.run [] [] rfl (st_idx_row0 b rfl rfl rfl rfl Try.underlying23 Try.sizeOf2 rfl rfl (by omega)) (.run [] [] rfl (st_load_ea1 rfl rfl rfl (pvI_get he2) Try.isAgg2 rfl) (.run [] [] rfl (st_assign rfl) .nil))) ?_
      refine tr_seq ?_
      refine tr_region rfl (.run [] [] rfl (st_move rfl) (.run [] [] rfl (st_move rfl) (.run [] [] rfl (st_move rfl) (.run [3600] [] rfl (st_call rfl 3600 (X := []) en137 rfl (.val nod) (.cons (.one (.bor (.sl nod))) (.cons (.one (.bor .v)) (.cons (.one (.bor .v)) .nil))) (by decide) all_nil .nil (looked_con l e e2 (by omega)) rfl rfl (nle rfl)) (.run [] [] rfl (st_assign rfl) .nil))))) ?_
      refine tr_seq ?_
      refine tr_region rfl (.run [] [] rfl (st_move rfl) (.run [] [] rfl (st_geq rfl rfl rfl) .nil)) ?_
      refine tr_if (t := decide (0 ≤ (idxF (asOf e e2) l))) rfl (fun h5 => ?_) (fun h5 => ?_)
      · skip
        replace h5 := of_decide_eq_true h5
        have hib := idx_bnd h5
        obtain ⟨w, hw⟩ : ∃ w, (markPs l e ((pointsF s).take b) (markUs l (pointsF s) ((usersF l).take a) (List.replicate l.length false)))[(idxF (asOf e e2) l).toNat]? = some w := ⟨_, List.getElem?_eq_getElem (by rw [markPs_len, markUs_len, List.length_replicate]; exact hib)⟩
        refine tr_region rfl (.run [] [] rfl (st_move rfl) (.run [] [] rfl (st_move rfl) (.run [] [] rfl (st_idx_row0 ((idxF (asOf e e2) l).toNat) rfl rfl rfl rfl Try.underlying146 Try.sizeOf4 rfl (by omega) (by omega)) (.run [] [] rfl (st_store_row rfl rfl rfl (FlatP.nf (pvBo_flat _)) (by exact pvBo_get hw) rfl rfl (.cons .v .nil) Try.sizeOf4 rfl (nle rfl)) .nil)))) ?_
        refine tr_wk (s' := mk [(0, .p none (.sl false 4 (pvE l))), (1, .p none (.sl false 1 (pvI s))), (5, .sl 1600 0 ((pvE l).length)), (7, .p none (.v (.string e))), (18, .sl 1800 0 ((pvT (usersF l)).length)), (19, .p none (.v (.int .i64 ((pvT (usersF l)).length : Int)))), (20, .p none (.v (.int .i64 (a:Int)))), (27, .sl 2500 0 ((pvI (pointsF s)).length)), (28, .p none (.v (.int .i64 (((pvI s) ++ [[PV.v (.int .i64 1000000000000)]]).length : Int)))), (29, .p none (.v (.int .i64 (b:Int))))] [] [(1600, 1, (pvBo (markPs l e ((pointsF s).take b) (markUs l (pointsF s) ((usersF l).take a) (List.replicate l.length false)))).set ((idxF (asOf e e2) l).toNat) [PV.v (.bool true)]), (1800, 1, pvT (usersF l)), (2500, 1, pvI (pointsF s))]) ?_ ?_
        · exact wk_mk ⟨rfl, ⟨rfl, ⟨rfl, ⟨rfl, ⟨rfl, ⟨rfl, ⟨rfl, ⟨rfl, ⟨rfl, ⟨rfl, trivial⟩⟩⟩⟩⟩⟩⟩⟩⟩⟩ trivial ⟨rfl, ⟨rfl, ⟨rfl, trivial⟩⟩⟩ rfl
        refine tr_region rfl (.run [] [] rfl (st_addn rfl rfl rfl (by omega)) (.run [] [] rfl (st_move rfl) .nil)) ?_
        refine nxt (Q := fun _ _ => False) (z := b) (b + 1) ?_ ?_ ?_
        · show (b + 1) ≤ (pointsF s).length
          omega
        · show (pointsF s).length - (b + 1) < (pointsF s).length - b
          omega
        · exact wk_mk ⟨rfl, ⟨rfl, ⟨rfl, ⟨rfl, ⟨rfl, ⟨rfl, ⟨rfl, ⟨rfl, ⟨rfl, ⟨(int_eq (by omega)), trivial⟩⟩⟩⟩⟩⟩⟩⟩⟩⟩ trivial ⟨(congrArg (fun x => some (1, x)) (by rw [markPs_snoc he2, setK, if_pos h5]; simp [pvBo, List.map_set, over])), ⟨rfl, ⟨rfl, trivial⟩⟩⟩ rfl
      · skip
        replace h5 := of_decide_eq_false h5
        refine tr_skip ?_
        refine tr_region rfl (.run [] [] rfl (st_addn rfl rfl rfl (by omega)) (.run [] [] rfl (st_move rfl) .nil)) ?_
        refine nxt (Q := fun _ _ => False) (z := b) (b + 1) ?_ ?_ ?_
        · show (b + 1) ≤ (pointsF s).length
          omega
        · show (pointsF s).length - (b + 1) < (pointsF s).length - b
          omega
        · exact wk_mk ⟨rfl, ⟨rfl, ⟨rfl, ⟨rfl, ⟨rfl, ⟨rfl, ⟨rfl, ⟨rfl, ⟨rfl, ⟨(int_eq (by omega)), trivial⟩⟩⟩⟩⟩⟩⟩⟩⟩⟩ trivial ⟨(congrArg (fun x => some (1, x)) (by rw [markPs_snoc he2, setK, if_neg h5])), ⟨rfl, ⟨rfl, trivial⟩⟩⟩ rfl
    · skip
      replace h4 := of_decide_eq_false h4
      refine tr_exit ?_
      refine tr_region rfl (.run [] [] rfl (st_addn rfl rfl rfl (by omega)) (.run [] [] rfl (st_move rfl) .nil)) ?_
      refine nxt (Q := fun _ _ => False) (z := a) (a + 1) ?_ ?_ ?_
      · show (a + 1) ≤ (usersF l).length
        omega
      · show (usersF l).length - (a + 1) < (usersF l).length - a
        omega
      · exact wk_mk ⟨rfl, ⟨rfl, ⟨rfl, ⟨rfl, ⟨rfl, ⟨(int_eq (by omega)), trivial⟩⟩⟩⟩⟩⟩ trivial ⟨(congrArg (fun x => some (1, x)) (by rw [markUs_snoc he, List.take_of_length_le (l := pointsF s) (by omega)])), ⟨rfl, trivial⟩⟩ rfl
  · skip
    replace h1 := of_decide_eq_false h1
    refine tr_exit ?_
    refine tr_seq ?_
    refine tr_region rfl (.run [4400] [] rfl (st_buildSlice rfl 4400 Try.underlying23 inf2 (nle rfl) (by decide) rfl rfl rfl .nil (by decide) rfl (by decide) rfl (by decide) rfl) (.run [] [] rfl (st_assign rfl) .nil)) ?_
    refine tr_seq ?_
    refine tr_seq ?_
    refine tr_region rfl (.run [] [] rfl (st_move rfl) (.run [] [] rfl (st_len_row rfl rfl Try.underlying146) (.run [] [] rfl (st_move rfl) .nil))) ?_
    refine tr_block ?_
    refine tr_wk (wk_ren 4400 2 rfl rfl (by decide)) ?_
    refine tr_loopS (σ := Nat) (fun k => mk [(11, .sl 2 0 ((pvI (needF l (pointsF s) k)).length)), (45, .sl 1600 0 ((pvE l).length)), (46, .p none (.v (.int .i64 ((pvE l).length : Int)))), (47, .p none (.v (.int .i64 (k:Int))))] [] [(2, 1, pvI (needF l (pointsF s) k)), (1600, 1, pvBo (marksF l (pointsF s)))]) (fun k => k ≤ l.length) (fun k => l.length - k) 0 (by simp) (wk_mk ⟨rfl, ⟨rfl, ⟨rfl, ⟨(int_eq (by omega)), trivial⟩⟩⟩⟩ trivial ⟨(congrArg (fun x => some (1, x)) (by rfl)), ⟨(congrArg (fun x => some (1, x)) (by rw [List.take_of_length_le (l := usersF l) (by omega)]; rfl)), trivial⟩⟩ rfl) ?_
    rintro k hG
    replace hG : k ≤ l.length := hG
    have hnl := needF_len l (pointsF s) k
    have hle3 := pvI_length (needF l (pointsF s) k)
    refine tr_seq ?_
    refine tr_region rfl (.run [] [] rfl (st_lss rfl rfl rfl) .nil) ?_
    refine tr_seq ?_
    refine tr_if (t := decide ((k:Int) < ((pvE l).length : Int))) rfl (fun h6 => ?_) (fun h6 => ?_)
    · skip
      replace h6 := of_decide_eq_true h6
      refine tr_skip ?_
      refine tr_seq ?_
      refine tr_block ?_
      refine tr_seq ?_
      obtain ⟨e3, he3⟩ : ∃ e, l[k]? = some e := ⟨_, List.getElem?_eq_getElem (by omega)⟩
      refine tr_region rfl (.run [] [] rfl (st_move rfl) (.run [] [] rfl (st_idx_row0 k rfl rfl rfl rfl Try.underlying146 Try.sizeOf4 rfl rfl (by omega)) (.run [] [] rfl (st_load_ea1 rfl rfl rfl (by exact pvBo_get (marksF_get hok he3)) Try.isAgg4 rfl) (.run [] [] rfl (st_assign rfl) (.run [] [] rfl (st_assign rfl) .nil))))) ?_
      refine tr_seq ?_
      refine tr_region rfl (.run [] [] rfl (st_move rfl) .nil) ?_
      refine tr_if (t := needP l (pointsF s) k e3) rfl (fun h7 => ?_) (fun h7 => ?_)
      · skip
        refine tr_region rfl (.run [] [] rfl (st_move rfl) (.run [] [] rfl (st_move rfl) (.run [5500] [] rfl (st_buildSlice rfl 5500 Try.underlying23 inf2 (nle rfl) (by decide) rfl rfl rfl (.cons .v .nil) (by decide) rfl (by decide) rfl (by decide) rfl) (.run [2] [] rfl (st_append rfl 2 (ib := 2) (len := ((pvI (needF l (pointsF s) k)) ++ [[PV.v (.int .i64 (k:Int))]]).length) rfl rfl (.row (len := (pvI (needF l (pointsF s) k)).length) (xs := pvI (needF l (pointsF s) k)) rfl rfl (.inl rfl)) (.give (len := 1) (xs := [[PV.v (.int .i64 (k:Int))]]) rfl rfl) Try.underlying23 (sk Try.underlying23 rfl) inf2 rfl (by decide) (by decide) (by decide) List.length_append (by simp only [maxLen, List.length_append, List.length_map, List.length_cons, List.length_nil, List.length_take, List.length_drop, pvE_length, pvI_length, pvT_length]; omega) (by simp only [maxLen, List.length_append, List.length_map, List.length_cons, List.length_nil, List.length_take, List.length_drop, pvE_length, pvI_length, pvT_length]; omega)) (.run [] [] rfl (st_assign rfl) .nil))))) ?_
        have hr8 : (pvI (needF l (pointsF s) k)) ++ [[PV.v (.int .i64 (k:Int))]] = pvI (needF l (pointsF s) (k + 1)) := by rw [need_yes he3 h7]; exact pvI_snoc _ _
        have hp9 : (.sl 2 0 (((pvI (needF l (pointsF s) k)) ++ [[PV.v (.int .i64 (k:Int))]]).length) : AV) = .sl 2 0 ((pvI (needF l (pointsF s) (k + 1))).length) := by simp only [hr8]
        refine tr_wk (s' := mk [(11, .sl 2 0 ((pvI (needF l (pointsF s) (k + 1))).length)), (45, .sl 1600 0 ((pvE l).length)), (46, .p none (.v (.int .i64 ((pvE l).length : Int)))), (47, .p none (.v (.int .i64 (k:Int))))] [] [(2, 1, pvI (needF l (pointsF s) (k + 1))), (1600, 1, pvBo (marksF l (pointsF s)))]) ?_ ?_
        · exact wk_mk ⟨hp9, ⟨rfl, ⟨rfl, ⟨rfl, trivial⟩⟩⟩⟩ trivial ⟨(congrArg (fun x => some (1, x)) hr8), ⟨rfl, trivial⟩⟩ rfl
        refine tr_region rfl (.run [] [] rfl (st_addn rfl rfl rfl (by omega)) (.run [] [] rfl (st_move rfl) .nil)) ?_
        refine nxt (Q := fun _ _ => False) (z := k) (k + 1) ?_ ?_ ?_
        · show (k + 1) ≤ l.length
          omega
        · show l.length - (k + 1) < l.length - k
          omega
        · exact wk_mk ⟨rfl, ⟨rfl, ⟨rfl, ⟨(int_eq (by omega)), trivial⟩⟩⟩⟩ trivial ⟨rfl, ⟨rfl, trivial⟩⟩ rfl
      · skip
        refine tr_skip ?_
        refine tr_region rfl (.run [] [] rfl (st_addn rfl rfl rfl (by omega)) (.run [] [] rfl (st_move rfl) .nil)) ?_
        refine nxt (Q := fun _ _ => False) (z := k) (k + 1) ?_ ?_ ?_
        · show (k + 1) ≤ l.length
          omega
        · show l.length - (k + 1) < l.length - k
          omega
        · exact wk_mk ⟨(congrArg (fun x => AV.sl 2 0 (pvI x).length) (need_no he3 h7).symm), ⟨rfl, ⟨rfl, ⟨(int_eq (by omega)), trivial⟩⟩⟩⟩ trivial ⟨(congrArg (fun x => some (1, x)) (by rw [need_no he3 h7])), ⟨rfl, trivial⟩⟩ rfl
    · skip
      replace h6 := of_decide_eq_false h6
      refine tr_exit ?_
      refine tr_seq ?_
      have hil : k = l.length := (by omega)
      rw [← hil]
      refine tr_region rfl (.run [] [] rfl (st_move rfl) (.run [] [] rfl (st_assign rfl) .nil)) ?_
      refine tr_ret ?_
      exact ends [_] [2] (.cons (.tmp rfl) .nil) (.cons (.one (.row (len := (pvI (needF l (pointsF s) k)).length) (xs := pvI (needF l (pointsF s) k)) rfl rfl) (.sl _ _ (FlatP.clean (pvI_flat _)))) .nil) (by decide) trivial
end Go.Rl
namespace Go.Rl
open Go.Proofs
theorem en38 : ∀ vs w, (callFunc 38 vs).run Try.prog w = .ok (.enter 38 vs) w := enters Try.func38 (by decide) rfl
theorem en73 : ∀ vs w, (callFunc 73 vs).run Try.prog w = .ok (.enter 73 vs) w := enters Try.func73 (by decide) rfl
theorem en74 : ∀ vs w, (callFunc 74 vs).run Try.prog w = .ok (.enter 74 vs) w := enters Try.func74 (by decide) rfl
end Go.Rl
namespace Go.Rl
open Go.Proofs
end Go.Rl
namespace Go.Proofs
open Go.RowKit
/-- The box holds a slice value that holds the ints zs. -/
def Bw.Reads (Bs : Nat) (zs : List Int) (W : World) : Prop :=
  ((∃ A c, W.cell? ⟨Bs, 0, none⟩ = some (.slice A 0 c)) ∧ zs = []) ∨ ∃ b off cap, W.cell? ⟨Bs, 0, none⟩ = some (.slice (some ⟨b, off, none⟩) zs.length cap) ∧ ∀ (j : Nat) (z : Int), zs[j]? = some z → W.cell? ⟨b, off + j, none⟩ = some (.int .i64 z)
def Bw.enc (zs : List Int) (k : Fin zs.length) : Array Value := #[.int .i64 (k.1 : Int), .int .i64 (zs[k.1]'k.2)]
/-- What has come when k rounds are over. -/
def Bw.upto (zs : List Int) : Nat → List (Fin zs.length)
  | 0 => []
  | k + 1 => Bw.upto zs k ++ (if h : zs.length - 1 - k < zs.length then [⟨zs.length - 1 - k, h⟩] else [])
theorem Bw.upto_succ (zs : List Int) (k : Nat) (h : zs.length - 1 - k < zs.length) : Bw.upto zs (k + 1) = Bw.upto zs k ++ [⟨zs.length - 1 - k, h⟩] := by rw [Bw.upto, dif_pos h]
theorem Bw.upto_length (zs : List Int) : ∀ k, k ≤ zs.length → (Bw.upto zs k).length = k
  | 0, _ => rfl
  | k + 1, h => by rw [Bw.upto_succ zs k (by omega), List.length_append, Bw.upto_length zs k (by omega)]; rfl
/-- The contract of the closure. -/
def Bw.Contract (P : Program) (gf : Nat) : Prop :=
  ∀ (F : Fence) (n : Nat), F.fn gf → F.round = none → 1 ≤ n → ∀ (l Bs : Nat) (zs : List Int), zs.length ≤ 1000000000 → ∀ (J Jx : List (Fin zs.length) → World → Prop),
    (∀ pre x W, J pre W → pre.length < zs.length → YieldAt F (n - 1) P l (Bw.enc zs x) W fun e W' =>
      (e = .returned (.bool true) ∧ J (pre ++ [x]) W' ∧ (Bw.Reads Bs zs W → Bw.Reads Bs zs W')) ∨ (e = .returned (.bool false) ∧ Jx (pre ++ [x]) W')) →
    ∀ W : World, Bw.Reads Bs zs W → J [] W →
      CallsIn F n P gf #[.func (.yield l) #[] #[], .pointer (some ⟨Bs, 0, none⟩)] W fun e W' => (∃ v, e = .returned v) ∧
        ((∃ ys, ys = Bw.upto zs zs.length ∧ J ys W') ∨ (∃ pre, True ∧ Jx pre W'))
theorem Bw.Reads.below {Bs : Nat} {zs : List Int} {A B : World} {n₀ : Nat} (h : Below n₀ A B) (hn : A.heap.size ≤ n₀) (hr : Bw.Reads Bs zs A) : Bw.Reads Bs zs B := by
  have old : ∀ (k j : Nat) v, A.cell? ⟨k, j, none⟩ = some v → B.cell? ⟨k, j, none⟩ = some v := fun k j v hv => by
    have hk : k < A.heap.size := by
      cases e : A.heap[k]? with
      | none => simp [World.cell?, e] at hv
      | some o => exact (Array.getElem?_eq_some_iff.1 e).1
    exact (h.cell (p := ⟨k, j, none⟩) (Nat.lt_of_lt_of_le hk hn)).trans hv
  rcases hr with ⟨⟨A, c, h1⟩, h2⟩ | ⟨b, off, cap, h1, h2⟩
  · exact .inl ⟨⟨A, c, old _ _ _ h1⟩, h2⟩
  · exact .inr ⟨b, off, cap, old _ _ _ h1, fun j z hz => old _ _ _ (h2 j z hz)⟩
/-- .. as the kit's law takes it. -/
theorem Bw.Contract.stops {P : Program} {gf : Nat} (hC : Bw.Contract P gf) {F : Fence} {n : Nat} (hf : F.fn gf) (hro : F.round = none) (hn : 1 ≤ n) {Bs : Nat} {zs : List Int} (hz : zs.length ≤ 1000000000) {w : World} (hr : Bw.Reads Bs zs w) :
    SeqStopsK F n P gf #[.pointer (some ⟨Bs, 0, none⟩)] (Bw.enc zs) (fun A B => Bw.Reads Bs zs A → Bw.Reads Bs zs B) (fun xs => xs = Bw.upto zs zs.length) (fun _ => True) zs.length w := fun l J Jx W hW _ _ hY h0 =>
  hC F n hf hro hn l Bs zs hz J Jx hY W (hr.below hW (Nat.le_refl _)) h0
end Go.Proofs
namespace Go.Rl
open Go.Proofs
/-- What is kept so far begins with an entry of this one's user. -/
def older (out : List Ent) (e : Ent) : Bool := match out with
  | [] => false
  | o :: _ => decide (o.user = e.user)
/-- An entry more, from the end. -/
def cstep (bot : Bool) (out : List Ent) (e : Ent) : List Ent := if (bot && decide (e.kind = 0) && !older out e) = true then out else e :: out
def cplace (l : List Ent) (bot : Bool) (out : List Ent) (z : Int) : List Ent := match l[z.toNat]? with
  | some e => cstep bot out e
  | none => out
def compP (l : List Ent) (bot : Bool) (zs : List Int) (pre : List (Fin zs.length)) : List Ent := pre.foldl (fun out x => cplace l bot out (zs[x.1]'x.2)) []
def compU (l : List Ent) (bot : Bool) (zs : List Int) (k : Nat) : List Ent := compP l bot zs (Bw.upto zs k)
theorem compP_snoc (l : List Ent) (bot : Bool) (zs : List Int) (pre : List (Fin zs.length)) (x : Fin zs.length) {e : Ent} (he : l[(zs[x.1]'x.2).toNat]? = some e) : compP l bot zs (pre ++ [x]) = cstep bot (compP l bot zs pre) e := by
  simp [compP, cplace, he]
theorem compU_succ {l : List Ent} {bot : Bool} {zs : List Int} {k i : Nat} {z : Int} {e : Ent} (hi : i + k + 1 = zs.length) (hz : zs[i]? = some z) (he : l[z.toNat]? = some e) : compU l bot zs (k + 1) = cstep bot (compU l bot zs k) e := by
  have hlt : zs.length - 1 - k < zs.length := by omega
  rw [compU, Bw.upto_succ zs k hlt]
  refine compP_snoc l bot zs _ _ ?_
  have : zs[zs.length - 1 - k]'hlt = z := by
    obtain ⟨h1, h2⟩ := List.getElem?_eq_some_iff.1 hz
    rw [← h2]
    congr 1
    omega
  simp only [this]
  exact he
theorem cstep_len (bot : Bool) (out : List Ent) (e : Ent) : (cstep bot out e).length ≤ out.length + 1 := by
  unfold cstep
  split
  · omega
  · simp
theorem compP_len (l : List Ent) (bot : Bool) (zs : List Int) (pre : List (Fin zs.length)) : (compP l bot zs pre).length ≤ pre.length := by
  have h : ∀ (pre : List (Fin zs.length)) (out : List Ent), (pre.foldl (fun out x => cplace l bot out (zs[x.1]'x.2)) out).length ≤ out.length + pre.length := by
    intro pre
    induction pre with
    | nil => intro out; simp
    | cons x pre ih =>
      intro out
      rw [List.foldl_cons]
      have h1 := ih (cplace l bot out (zs[x.1]'x.2))
      have h2 : (cplace l bot out (zs[x.1]'x.2)).length ≤ out.length + 1 := by
        unfold cplace
        split
        · exact cstep_len _ _ _
        · omega
      simp only [List.length_cons]
      omega
  have := h pre []
  simpa [compP] using this
theorem compU_len (l : List Ent) (bot : Bool) (zs : List Int) {k : Nat} (hk : k ≤ zs.length) : (compU l bot zs k).length ≤ k := by
  have := compP_len l bot zs (Bw.upto zs k)
  rwa [Bw.upto_length zs k hk] at this
theorem needF_bnd {l : List Ent} {ps : List Int} {n : Nat} : ∀ {i : Nat} {z : Int}, z ∈ needF l ps i → ∃ k : Nat, z = (k : Int) ∧ k < i ∧ k < l.length
  | 0, z, h => by simp [needF] at h
  | i + 1, z, h => by
    rw [needF, List.mem_append] at h
    rcases h with h | h
    · obtain ⟨k, h1, h2, h3⟩ := needF_bnd (n := n) h
      exact ⟨k, h1, by omega, h3⟩
    · cases he : l[i]? with
      | none => rw [he] at h; simp at h
      | some e =>
        rw [he] at h
        simp only at h
        split at h
        · rw [List.mem_singleton] at h
          exact ⟨i, h, by omega, (List.getElem?_eq_some_iff.1 he).1⟩
        · cases h
theorem need_at {l : List Ent} {ps : List Int} {n i : Nat} {z : Int} (h : (needF l ps n)[i]? = some z) : ∃ k : Nat, z = (k : Int) ∧ k < l.length := by
  obtain ⟨k, h1, _, h3⟩ := needF_bnd (n := n) (List.mem_of_getElem? h)
  exact ⟨k, h1, h3⟩
def compactedF (l : List Ent) (s : List Int) (bot : Bool) : List Ent := if entsOk l = true ∧ snapsOk s = true then compU l bot (needF l (pointsF s) l.length) (needF l (pointsF s) l.length).length else []
theorem compactedF_len (l : List Ent) (s : List Int) (bot : Bool) : (compactedF l s bot).length ≤ l.length := by
  unfold compactedF
  split
  · exact Nat.le_trans (compU_len _ _ _ (Nat.le_refl _)) (needF_len _ _ _)
  · exact Nat.zero_le _
/-- The user that was kept last. -/
def lastU (out : List Ent) : ByteArray := match out with
  | [] => ⟨#[]⟩
  | o :: _ => o.user
def anyE (out : List Ent) : Bool := match out with
  | [] => false
  | _ :: _ => true
theorem older_any (out : List Ent) (e : Ent) : (anyE out && decide (e.user = lastU out)) = older out e := by
  cases out with
  | nil => rfl
  | cons o out => exact decide_eq_decide.2 eq_comm
theorem older_no {out : List Ent} {e : Ent} (h : anyE out = false) : older out e = false := by rw [← older_any, h]; rfl
theorem older_is {out : List Ent} {e : Ent} (h : anyE out = true) : older out e = decide (e.user = lastU out) := by rw [← older_any, h]; rfl
theorem older_at {out : List Ent} {e o : Ent} (h : out[0]? = some o) : older out e = decide (o.user = e.user) := by
  cases out with
  | nil => cases h
  | cons x out => cases h; rfl
theorem older_len {out : List Ent} {e : Ent} (h : ¬ 0 < out.length) : older out e = false := by
  cases out with
  | nil => rfl
  | cons x out => simp at h
/-! #### turned about -/
def pvE_rev (l : List Ent) : List (List PV) := pvE l.reverse
/-- What stands at place k when i from each end are swapped. -/
def Swapped (l m : List Ent) (i : Nat) : Prop := m.length = l.length ∧ ∀ k, k < l.length → m[k]? = if k < i ∨ l.length - i ≤ k then l[l.length - 1 - k]? else l[k]?
theorem swapped_zero (l : List Ent) : Swapped l l 0 := ⟨rfl, fun k hk => by rw [if_neg (by omega)]⟩
theorem swapped_mid {l m : List Ent} {i k : Nat} (h : Swapped l m i) (h1 : i ≤ k) (h2 : k + i < l.length) : m[k]? = l[k]? := by rw [h.2 k (by omega), if_neg (by omega)]
theorem swapped_next {l m : List Ent} {i j : Nat} {x y : Ent} (h : Swapped l m i) (hij : i + j + 1 = l.length) (hlt : i < j) (hx : m[i]? = some x) (hy : m[j]? = some y) : Swapped l ((m.set i y).set j x) (i + 1) := by
  refine ⟨by rw [List.length_set, List.length_set]; exact h.1, fun k hk => ?_⟩
  have hl := h.1
  rw [swapped_mid h (Nat.le_refl _) (by omega)] at hx
  rw [swapped_mid h (by omega) (by omega)] at hy
  rw [List.getElem?_set]
  by_cases h1 : j = k
  · subst h1
    rw [if_pos rfl, List.length_set, if_pos (by omega), if_pos (by omega), ← hx]
    congr 1
    omega
  · rw [if_neg h1, List.getElem?_set]
    by_cases h2 : i = k
    · subst h2
      rw [if_pos rfl, if_pos (by omega), if_pos (by omega), ← hy]
      congr 1
      omega
    · rw [if_neg h2, h.2 k hk]
      by_cases h3 : k < i ∨ l.length - i ≤ k
      · rw [if_pos h3, if_pos (by omega)]
      · rw [if_neg h3, if_neg (by omega)]
theorem swapped_all {l m : List Ent} {i : Nat} (h : Swapped l m i) (hi : l.length ≤ 2 * i + 1) : m = l.reverse := by
  refine List.ext_getElem? (fun k => ?_)
  by_cases hk : k < l.length
  · rw [h.2 k hk, List.getElem?_reverse hk]
    by_cases h3 : k < i ∨ l.length - i ≤ k
    · rw [if_pos h3]
    · rw [if_neg h3]
      congr 1
      omega
  · rw [List.getElem?_eq_none (by rw [h.1]; omega), List.getElem?_eq_none (by rw [List.length_reverse]; omega)]
theorem pvE_set2 {m : List Ent} {i j : Nat} {x y : Ent} : (((pvE m).set i y.pv).set j x.pv) = pvE ((m.set i y).set j x) := by simp [pvE, List.map_set]
theorem pvE_consr (out : List Ent) (e : Ent) : pvE out.reverse ++ [e.pv] = pvE (e :: out).reverse := by simp [pvE]
theorem cstep_drop {bot : Bool} {out : List Ent} {e : Ent} (h1 : bot = true) (h2 : e.kind = 0) (h3 : older out e = false) : cstep bot out e = out := by simp [cstep, h1, h2, h3]
theorem cstep_keep {bot : Bool} {out : List Ent} {e : Ent} (h : ¬ (bot = true ∧ e.kind = 0 ∧ older out e = false)) : cstep bot out e = e :: out := by
  unfold cstep
  rw [if_neg]
  intro hc
  simp only [Bool.and_eq_true, decide_eq_true_eq, Bool.not_eq_true'] at hc
  exact h ⟨hc.1.1, hc.1.2, hc.2⟩
end Go.Rl

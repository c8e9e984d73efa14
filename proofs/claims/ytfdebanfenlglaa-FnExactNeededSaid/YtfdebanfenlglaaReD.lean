/- Promises of functions, proved by walks over their operations; no conditions beyond those that each theorem states. -/
import Derived.Test.YtfdebanfenlglaaReC
namespace Go.Rl
open Go.Proofs
set_option maxRecDepth 1000000 in
theorem l14Needed_con (l : List Ent) (s : List Int) (hl : l.length ≤ 2000000) (hs : s.length ≤ 2000000) : Con Try.prog 71 [.one (PV.sl false 4 (pvE l)), .one (PV.sl false 1 (pvI s))] [] [.one (.sl true 1 (pvI (needF l (pointsF s) l.length)))] := by
  refine con_of_tr Try.func71 rfl rfl rfl rfl ?_
  have hle := pvE_length l
  have hls := pvI_length s
  have hlp := pvI_length (pointsF s)
  have hpl := points_len s
  refine tr_seq ?_
  refine tr_region rfl (.run [] [] rfl (st_assign rfl) .nil) ?_
  refine tr_seq ?_
  refine tr_region rfl (.run [1100] [] rfl (st_buildSlice rfl 1100 Try.underlying23 inf2 (nle rfl) (by decide) rfl rfl rfl .nil (by decide) rfl (by decide) rfl (by decide) rfl) (.run [] [] rfl (st_assign rfl) .nil)) ?_
  refine tr_seq ?_
  refine tr_region rfl (.run [1200] [] rfl (st_buildSlice rfl 1200 Try.underlying23 inf2 (nle rfl) (by decide) rfl rfl rfl .nil (by decide) rfl (by decide) rfl (by decide) rfl) (.run [] [] rfl (st_move rfl) (.run [1200] [] rfl (st_append rfl 1200 (ib := 1200) (len := ([] ++ (pvI s)).length) rfl rfl (.row (len := 0) (xs := []) rfl rfl (.inl rfl)) (.fro (pvI_flat _)) Try.underlying23 (sk Try.underlying23 rfl) inf2 rfl (by decide) (by decide) (by decide) List.length_append (by simp only [maxLen, List.length_append, List.length_map, List.length_cons, List.length_nil, List.length_take, List.length_drop, pvE_length, pvI_length, pvT_length]; omega) (by simp only [maxLen, List.length_append, List.length_map, List.length_cons, List.length_nil, List.length_take, List.length_drop, pvE_length, pvI_length, pvT_length]; omega)) (.run [1500] [] rfl (st_buildSlice rfl 1500 Try.underlying23 inf2 (nle rfl) (by decide) rfl rfl rfl (.cons .v .nil) (by decide) rfl (by decide) rfl (by decide) rfl) (.run [1200] [] rfl (st_append rfl 1200 (ib := 1200) (len := (([] ++ (pvI s)) ++ [[PV.v (.int .i64 1000000000000)]]).length) rfl rfl (.row (len := ([] ++ (pvI s)).length) (xs := [] ++ (pvI s)) rfl rfl (.inl rfl)) (.give (len := 1) (xs := [[PV.v (.int .i64 1000000000000)]]) rfl rfl) Try.underlying23 (sk Try.underlying23 rfl) inf2 rfl (by decide) (by decide) (by decide) List.length_append (by simp only [maxLen, List.length_append, List.length_map, List.length_cons, List.length_nil, List.length_take, List.length_drop, pvE_length, pvI_length, pvT_length]; omega) (by simp only [maxLen, List.length_append, List.length_map, List.length_cons, List.length_nil, List.length_take, List.length_drop, pvE_length, pvI_length, pvT_length]; omega)) (.run [] [] rfl (st_assign rfl) .nil)))))) ?_
  have hr1 : ([] ++ (pvI s)) ++ [[PV.v (.int .i64 1000000000000)]] = pvI (pointsF s) := by rw [List.nil_append]; exact pvI_points s
  have hp2 : (.sl 1200 0 ((([] ++ (pvI s)) ++ [[PV.v (.int .i64 1000000000000)]]).length) : AV) = .sl 1200 0 ((pvI (pointsF s)).length) := by simp only [hr1]
  refine tr_wk (s' := mk [(0, .p none (.sl false 4 (pvE l))), (5, .sl 1100 0 0), (6, .sl 1200 0 ((pvI (pointsF s)).length))] [] [(1100, 1, []), (1200, 1, pvI (pointsF s))]) ?_ ?_
  · exact wk_mk ⟨rfl, ⟨rfl, ⟨hp2, trivial⟩⟩⟩ trivial ⟨rfl, ⟨(congrArg (fun x => some (1, x)) hr1), trivial⟩⟩ rfl
  refine tr_seq ?_
  refine tr_seq ?_
  refine tr_region rfl (.run [] [] rfl (st_assign rfl) .nil) ?_
  refine tr_block ?_
  refine tr_wk (wk_ren 1100 1 rfl rfl (by decide)) ?_
  refine tr_loopS (σ := Nat) (fun i => mk [(0, .p none (.sl false 4 (pvE l))), (5, .sl 1 0 ((pvI (needF l (pointsF s) i)).length)), (6, .sl 1200 0 ((pvI (pointsF s)).length)), (7, .p none (.v (.int .i64 (i:Int))))] [] [(1, 1, pvI (needF l (pointsF s) i)), (1200, 1, pvI (pointsF s))]) (fun i => i ≤ l.length) (fun i => l.length - i) 0 (by simp) (wk_mk ⟨rfl, ⟨rfl, ⟨rfl, ⟨(int_eq (by omega)), trivial⟩⟩⟩⟩ trivial ⟨(congrArg (fun x => some (1, x)) (by rfl)), ⟨rfl, trivial⟩⟩ rfl) ?_
  rintro i hG
  replace hG : i ≤ l.length := hG
  have hnl := needF_len l (pointsF s) i
  have hle3 := pvI_length (needF l (pointsF s) i)
  refine tr_seq ?_
  refine tr_seq ?_
  refine tr_region rfl (.run [] [] rfl (st_move rfl) (.run [] [] rfl (st_move rfl) (.run [] [] rfl (st_len_fro rfl rfl Try.underlying26) (.run [] [] rfl (st_lss rfl rfl rfl) .nil)))) ?_
  refine tr_if (t := decide ((i:Int) < ((pvE l).length : Int))) rfl (fun h3 => ?_) (fun h3 => ?_)
  · skip
    replace h3 := of_decide_eq_true h3
    refine tr_skip ?_
    refine tr_seq ?_
    refine tr_block ?_
    refine tr_seq ?_
    obtain ⟨e, he⟩ : ∃ e, l[i]? = some e := ⟨_, List.getElem?_eq_getElem (by omega)⟩
    have hlte := (List.getElem?_eq_some_iff.1 he).1
    refine tr_region rfl (.run [] [] rfl (st_assign rfl) .nil) ?_
    refine tr_seq ?_
    refine tr_seq ?_
    refine tr_region rfl (.run [] [] rfl (st_assign rfl) .nil) ?_
    refine tr_block ?_
    refine tr_loopS (σ := Nat × Bool) (fun (k, nb) => mk [(0, .p none (.sl false 4 (pvE l))), (5, .sl 1 0 ((pvI (needF l (pointsF s) i)).length)), (6, .sl 1200 0 ((pvI (pointsF s)).length)), (7, .p none (.v (.int .i64 (i:Int)))), (8, .p none (.v (.bool nb))), (9, .p none (.v (.int .i64 (k:Int))))] [] [(1, 1, pvI (needF l (pointsF s) i)), (1200, 1, pvI (pointsF s))]) (fun (k, nb) => k ≤ (pointsF s).length ∧ nb = ((pointsF s).take k).any (needC l i e)) (fun (k, nb) => (pointsF s).length - k) (0, false) ⟨Nat.zero_le _, rfl⟩ (wk_mk ⟨rfl, ⟨rfl, ⟨rfl, ⟨rfl, ⟨rfl, ⟨(int_eq (by omega)), trivial⟩⟩⟩⟩⟩⟩ trivial ⟨rfl, ⟨rfl, trivial⟩⟩ rfl) ?_
    rintro ⟨k, nb⟩ hG
    replace hG : k ≤ (pointsF s).length ∧ nb = ((pointsF s).take k).any (needC l i e) := hG
    obtain ⟨hk, hN⟩ := hG
    refine tr_seq ?_
    refine tr_seq ?_
    refine tr_region rfl (.run [] [] rfl (st_move rfl) (.run [] [] rfl (st_move rfl) (.run [] [] rfl (st_len_row rfl rfl Try.underlying23) (.run [] [] rfl (st_lss rfl rfl rfl) .nil)))) ?_
    refine tr_if (t := decide ((k:Int) < ((pvI (pointsF s)).length : Int))) rfl (fun h4 => ?_) (fun h4 => ?_)
    · skip
      replace h4 := of_decide_eq_true h4
      refine tr_skip ?_
      refine tr_seq ?_
      refine tr_block ?_
      refine tr_seq ?_
      refine tr_seq ?_
      obtain ⟨e2, he2⟩ : ∃ e, (pointsF s)[k]? = some e := ⟨_, List.getElem?_eq_getElem (by (have hL := pvI_length (pointsF s); omega))⟩
      have hlte2 := (List.getElem?_eq_some_iff.1 he2).1
      refine tr_regionD mixed rfl (.run [] [] rfl (st_move rfl) (.run [] [] rfl (st_move rfl) (.run [] [] rfl (st_idx_fro rfl rfl rfl Try.underlying26 Try.sizeOf44 rfl (by omega) (pvE_get he)) (.run [] [] rfl (st_faddr_fea rfl rfl Try.underlying44 rfl Try.sizeOf42 (by decide)) (.run [] [] rfl (st_faddr_fea rfl rfl Try.underlying42 rfl Try.sizeOf2 (by decide)) (.run [] [] rfl (st_load_fea1 rfl rfl Try.isAgg2 rfl) (.run [] [] rfl (st_move rfl) (.run [] [] rfl (st_move rfl) (.run [] [] rfl (st_idx_row0 k rfl rfl rfl rfl Try.underlying23 Try.sizeOf2 rfl rfl (by omega)) (.run [] [] rfl (st_load_ea1 rfl rfl rfl (pvI_get he2) Try.isAgg2 rfl) (.run [] [] rfl (st_gtr rfl rfl rfl) .nil))))))))))) (by kernel_rfl) ?_
      refine tr_if (t := decide (e2 < e.seq)) rfl (fun h5 => ?_) (fun h5 => ?_)
      · skip
        replace h5 := of_decide_eq_true h5
        refine tr_exit ?_
        refine tr_wk (s' := mk [(0, .p none (.sl false 4 (pvE l))), (5, .sl 1 0 ((pvI (needF l (pointsF s) i)).length)), (6, .sl 1200 0 ((pvI (pointsF s)).length)), (7, .p none (.v (.int .i64 (i:Int)))), (8, .p none (.v (.bool nb))), (9, .p none (.v (.int .i64 (k:Int))))] [] [(1, 1, pvI (needF l (pointsF s) i)), (1200, 1, pvI (pointsF s))]) ?_ ?_
        · exact wk_mk ⟨rfl, ⟨rfl, ⟨rfl, ⟨rfl, ⟨rfl, ⟨rfl, trivial⟩⟩⟩⟩⟩⟩ trivial ⟨rfl, ⟨rfl, trivial⟩⟩ rfl
        refine tr_region rfl (.run [] [] rfl (st_move rfl) (.run [] [] rfl (st_addn rfl rfl rfl (by omega)) (.run [] [] rfl (st_assign rfl) .nil))) ?_
        refine nxt (Q := fun _ _ => False) (z := (k, nb)) (k + 1, nb) ?_ ?_ ?_
        · show (k + 1) ≤ (pointsF s).length ∧ nb = ((pointsF s).take (k + 1)).any (needC l i e)
          exact ⟨by omega, by rw [any_snoc _ he2, ← hN, needC_no h5]; simp⟩
        · show (pointsF s).length - (k + 1) < (pointsF s).length - k
          omega
        · exact wk_mk ⟨rfl, ⟨rfl, ⟨rfl, ⟨rfl, ⟨rfl, ⟨(int_eq (by omega)), trivial⟩⟩⟩⟩⟩⟩ trivial ⟨rfl, ⟨rfl, trivial⟩⟩ rfl
      · skip
        replace h5 := of_decide_eq_false h5
        refine tr_skip ?_
        refine tr_seq ?_
        refine tr_wk (s' := mk [(0, .p none (.sl false 4 (pvE l))), (5, .sl 1 0 ((pvI (needF l (pointsF s) i)).length)), (6, .sl 1200 0 ((pvI (pointsF s)).length)), (7, .p none (.v (.int .i64 (i:Int)))), (8, .p none (.v (.bool nb))), (9, .p none (.v (.int .i64 (k:Int))))] [] [(1, 1, pvI (needF l (pointsF s) i)), (1200, 1, pvI (pointsF s))]) ?_ ?_
        · exact wk_mk ⟨rfl, ⟨rfl, ⟨rfl, ⟨rfl, ⟨rfl, ⟨rfl, trivial⟩⟩⟩⟩⟩⟩ trivial ⟨rfl, ⟨rfl, trivial⟩⟩ rfl
        rcases bfc (decide ((i:Int) = 0)) with h6 | h6
        · have h6' := h6
          replace h6' := of_decide_eq_false h6'
          obtain ⟨e3, he3⟩ : ∃ e, l[(i - 1 : Nat)]? = some e := ⟨_, List.getElem?_eq_getElem (by (have hL := pvE_length l; omega))⟩
          have hlte3 := (List.getElem?_eq_some_iff.1 he3).1
          rcases bfc (!(decide (e3.user = e.user))) with h7 | h7
          · have h7' := h7
            replace h7' : e3.user = e.user := of_decide_eq_true (bnot_f h7')
            refine tr_regionD mixed rfl (.run [] [] rfl (st_move rfl) (.run [] [] rfl (st_eq (st_eql rfl rfl rfl) (by exact congrArg (fun b => AV.p none (.v (.bool b))) h6)) (.run [] [] rfl (st_move rfl) (.run [] [] rfl (st_move rfl) (.run [] [] rfl (st_move rfl) (.run [] [] rfl (st_eq (st_subn rfl rfl rfl (by omega)) (((show (AV.p none (.v (.int .i64 ((i:Int) - 1)))) = AV.p none (.v (.int .i64 ((i - 1 : Nat) : Int))) from int_eq (by omega))))) (.run [] [] rfl (st_idx_fro rfl rfl rfl Try.underlying26 Try.sizeOf44 rfl (by omega) (pvE_get he3)) (.run [] [] rfl (st_faddr_fea rfl rfl Try.underlying44 rfl Try.sizeOf42 (by decide)) (.run [] [] rfl (st_faddr_fea rfl rfl Try.underlying42 rfl Try.sizeOf9 (by decide)) (.run [] [] rfl (st_load_fea1 rfl rfl Try.isAgg9 rfl) (.run [] [] rfl (st_move rfl) (.run [] [] rfl (st_move rfl) (.run [] [] rfl (st_idx_fro rfl rfl rfl Try.underlying26 Try.sizeOf44 rfl (by omega) (pvE_get he)) (.run [] [] rfl (st_faddr_fea rfl rfl Try.underlying44 rfl Try.sizeOf42 (by decide)) (.run [] [] rfl (st_faddr_fea rfl rfl Try.underlying42 rfl Try.sizeOf9 (by decide)) (.run [] [] rfl (st_load_fea1 rfl rfl Try.isAgg9 rfl) (.run [] [] rfl (st_eq (st_sneq rfl rfl rfl) (by exact congrArg (fun b => AV.p none (.v (.bool b))) h7)) (.run [] [] rfl (st_pick (t := false) rfl rfl) (.run [] [] rfl (st_move rfl) (.run [] [] rfl (st_move rfl) (.run [] [] rfl (st_move rfl) (.run [] [] rfl (st_eq (st_subn rfl rfl rfl (by omega)) (((show (AV.p none (.v (.int .i64 ((i:Int) - 1)))) = AV.p none (.v (.int .i64 ((i - 1 : Nat) : Int))) from int_eq (by omega))))) (.run [] [] rfl (st_idx_fro rfl rfl rfl Try.underlying26 Try.sizeOf44 rfl (by omega) (pvE_get he3)) (.run [] [] rfl (st_faddr_fea rfl rfl Try.underlying44 rfl Try.sizeOf42 (by decide)) (.run [] [] rfl (st_faddr_fea rfl rfl Try.underlying42 rfl Try.sizeOf2 (by decide)) (.run [] [] rfl (st_load_fea1 rfl rfl Try.isAgg2 rfl) (.run [] [] rfl (st_move rfl) (.run [] [] rfl (st_move rfl) (.run [] [] rfl (st_idx_row0 k rfl rfl rfl rfl Try.underlying23 Try.sizeOf2 rfl rfl (by omega)) (.run [] [] rfl (st_load_ea1 rfl rfl rfl (pvI_get he2) Try.isAgg2 rfl) (.run [] [] rfl (st_gtr rfl rfl rfl) (.run [] [] rfl (st_pick (t := false) rfl rfl) (.run [] [] rfl (st_assign rfl) .nil))))))))))))))))))))))))))))))))) (by kernel_rfl) ?_
            refine tr_wk (s' := mk [(0, .p none (.sl false 4 (pvE l))), (5, .sl 1 0 ((pvI (needF l (pointsF s) i)).length)), (6, .sl 1200 0 ((pvI (pointsF s)).length)), (7, .p none (.v (.int .i64 (i:Int)))), (8, .p none (.v (.bool nb))), (9, .p none (.v (.int .i64 (k:Int)))), (10, .p none (.v (.bool (decide (e2 < e3.seq))))), (43, .p none (.sl false 4 (pvE l))), (44, .p none (.v (.int .i64 (i:Int)))), (45, .p none (.v (.int .i64 ((i - 1 : Nat):Int)))), (46, .fea none [PV.v (.string e3.user), PV.v (.int .i64 e3.seq), PV.v (.int .i64 e3.kind), PV.v (.string e3.value)]), (47, .fea none [PV.v (.string e3.user), PV.v (.int .i64 e3.seq), PV.v (.int .i64 e3.kind), PV.v (.string e3.value)]), (48, .fea none [PV.v (.string e3.user), PV.v (.int .i64 e3.seq), PV.v (.int .i64 e3.kind), PV.v (.string e3.value)]), (49, .p none (.v (.string e3.user))), (50, .p none (.sl false 4 (pvE l))), (51, .p none (.v (.int .i64 (i:Int)))), (52, .fea none [PV.v (.string e.user), PV.v (.int .i64 e.seq), PV.v (.int .i64 e.kind), PV.v (.string e.value)]), (53, .fea none [PV.v (.string e.user), PV.v (.int .i64 e.seq), PV.v (.int .i64 e.kind), PV.v (.string e.value)]), (54, .fea none [PV.v (.string e.user), PV.v (.int .i64 e.seq), PV.v (.int .i64 e.kind), PV.v (.string e.value)]), (55, .p none (.v (.string e.user))), (56, .p none (.v (.bool false))), (59, .p none (.sl false 4 (pvE l))), (60, .p none (.v (.int .i64 (i:Int)))), (61, .p none (.v (.int .i64 ((i - 1 : Nat):Int)))), (62, .fea none [PV.v (.string e3.user), PV.v (.int .i64 e3.seq), PV.v (.int .i64 e3.kind), PV.v (.string e3.value)]), (63, .fea none [PV.v (.string e3.user), PV.v (.int .i64 e3.seq), PV.v (.int .i64 e3.kind), PV.v (.string e3.value)]), (64, .fea none [PV.v (.int .i64 e3.seq), PV.v (.int .i64 e3.kind), PV.v (.string e3.value)]), (65, .p none (.v (.int .i64 e3.seq))), (66, .sl 1200 0 ((pvI (pointsF s)).length)), (67, .p none (.v (.int .i64 (k:Int)))), (68, .ea 1200 k 0), (69, .p none (.v (.int .i64 e2))), (70, .p none (.v (.bool (decide (e2 < e3.seq)))))] [] [(1, 1, pvI (needF l (pointsF s) i)), (1200, 1, pvI (pointsF s))]) ?_ ?_
            · exact wk_mk ⟨rfl, ⟨rfl, ⟨rfl, ⟨rfl, ⟨rfl, ⟨rfl, ⟨rfl, ⟨rfl, ⟨rfl, ⟨rfl, ⟨rfl, ⟨rfl, ⟨rfl, ⟨rfl, ⟨rfl, ⟨rfl, ⟨rfl, ⟨rfl, ⟨rfl, ⟨rfl, ⟨rfl, ⟨rfl, ⟨rfl, ⟨rfl, ⟨rfl, ⟨rfl, ⟨rfl, ⟨rfl, ⟨rfl, ⟨rfl, ⟨rfl, ⟨rfl, ⟨rfl, trivial⟩⟩⟩⟩⟩⟩⟩⟩⟩⟩⟩⟩⟩⟩⟩⟩⟩⟩⟩⟩⟩⟩⟩⟩⟩⟩⟩⟩⟩⟩⟩⟩⟩ trivial ⟨rfl, ⟨rfl, trivial⟩⟩ rfl
            rcases bfc nb with h8 | h8
            · have h8' := h8
              refine tr_region rfl (.run [] [] rfl (st_eq (st_move rfl) (by exact congrArg (fun b => AV.p none (.v (.bool b))) h8)) (.run [] [] rfl (st_move rfl) (.run [] [] rfl (st_move rfl) (.run [] [] rfl (st_pick (t := false) rfl rfl) (.run [] [] rfl (st_assign rfl) .nil))))) ?_
              refine tr_region rfl (.run [] [] rfl (st_move rfl) (.run [] [] rfl (st_addn rfl rfl rfl (by omega)) (.run [] [] rfl (st_assign rfl) .nil))) ?_
              refine nxt (Q := fun _ _ => False) (z := (k, nb)) (k + 1, decide (e2 < e3.seq)) ?_ ?_ ?_
              · show (k + 1) ≤ (pointsF s).length ∧ (decide (e2 < e3.seq)) = ((pointsF s).take (k + 1)).any (needC l i e)
                exact ⟨by omega, by rw [any_snoc _ he2, ← hN, needC_seq h5 h6' he3 h7', h8]; simp⟩
              · show (pointsF s).length - (k + 1) < (pointsF s).length - k
                omega
              · exact wk_mk ⟨rfl, ⟨rfl, ⟨rfl, ⟨rfl, ⟨rfl, ⟨(int_eq (by omega)), trivial⟩⟩⟩⟩⟩⟩ trivial ⟨rfl, ⟨rfl, trivial⟩⟩ rfl
            · have h8' := h8
              refine tr_region rfl (.run [] [] rfl (st_eq (st_move rfl) (by exact congrArg (fun b => AV.p none (.v (.bool b))) h8)) (.run [] [] rfl (st_move rfl) (.not rfl (.run [] [] rfl (st_pick (t := true) rfl rfl) (.run [] [] rfl (st_assign rfl) .nil))))) ?_
              refine tr_region rfl (.run [] [] rfl (st_move rfl) (.run [] [] rfl (st_addn rfl rfl rfl (by omega)) (.run [] [] rfl (st_assign rfl) .nil))) ?_
              refine nxt (Q := fun _ _ => False) (z := (k, nb)) (k + 1, true) ?_ ?_ ?_
              · show (k + 1) ≤ (pointsF s).length ∧ true = ((pointsF s).take (k + 1)).any (needC l i e)
                exact ⟨by omega, by rw [any_snoc _ he2, ← hN, needC_seq h5 h6' he3 h7', h8]; simp⟩
              · show (pointsF s).length - (k + 1) < (pointsF s).length - k
                omega
              · exact wk_mk ⟨rfl, ⟨rfl, ⟨rfl, ⟨rfl, ⟨rfl, ⟨(int_eq (by omega)), trivial⟩⟩⟩⟩⟩⟩ trivial ⟨rfl, ⟨rfl, trivial⟩⟩ rfl
          · have h7' := h7
            replace h7' : ¬ (e3.user = e.user) := of_decide_eq_false (bnot_t h7')
            refine tr_regionD mixed rfl (.run [] [] rfl (st_move rfl) (.run [] [] rfl (st_eq (st_eql rfl rfl rfl) (by exact congrArg (fun b => AV.p none (.v (.bool b))) h6)) (.run [] [] rfl (st_move rfl) (.run [] [] rfl (st_move rfl) (.run [] [] rfl (st_move rfl) (.run [] [] rfl (st_eq (st_subn rfl rfl rfl (by omega)) (((show (AV.p none (.v (.int .i64 ((i:Int) - 1)))) = AV.p none (.v (.int .i64 ((i - 1 : Nat) : Int))) from int_eq (by omega))))) (.run [] [] rfl (st_idx_fro rfl rfl rfl Try.underlying26 Try.sizeOf44 rfl (by omega) (pvE_get he3)) (.run [] [] rfl (st_faddr_fea rfl rfl Try.underlying44 rfl Try.sizeOf42 (by decide)) (.run [] [] rfl (st_faddr_fea rfl rfl Try.underlying42 rfl Try.sizeOf9 (by decide)) (.run [] [] rfl (st_load_fea1 rfl rfl Try.isAgg9 rfl) (.run [] [] rfl (st_move rfl) (.run [] [] rfl (st_move rfl) (.run [] [] rfl (st_idx_fro rfl rfl rfl Try.underlying26 Try.sizeOf44 rfl (by omega) (pvE_get he)) (.run [] [] rfl (st_faddr_fea rfl rfl Try.underlying44 rfl Try.sizeOf42 (by decide)) (.run [] [] rfl (st_faddr_fea rfl rfl Try.underlying42 rfl Try.sizeOf9 (by decide)) (.run [] [] rfl (st_load_fea1 rfl rfl Try.isAgg9 rfl) (.run [] [] rfl (st_eq (st_sneq rfl rfl rfl) (by exact congrArg (fun b => AV.p none (.v (.bool b))) h7)) (.run [] [] rfl (st_pick (t := false) rfl rfl) (.run [] [] rfl (st_move rfl) (.not rfl (.not rfl (.not rfl (.not rfl (.not rfl (.not rfl (.not rfl (.not rfl (.not rfl (.not rfl (.not rfl (.not rfl (.run [] [] rfl (st_pick (t := true) rfl rfl) (.run [] [] rfl (st_assign rfl) .nil))))))))))))))))))))))))))))))))) (by kernel_rfl) ?_
            refine tr_wk (s' := mk [(0, .p none (.sl false 4 (pvE l))), (5, .sl 1 0 ((pvI (needF l (pointsF s) i)).length)), (6, .sl 1200 0 ((pvI (pointsF s)).length)), (7, .p none (.v (.int .i64 (i:Int)))), (8, .p none (.v (.bool nb))), (9, .p none (.v (.int .i64 (k:Int)))), (10, .p none (.v (.bool true))), (43, .p none (.sl false 4 (pvE l))), (44, .p none (.v (.int .i64 (i:Int)))), (45, .p none (.v (.int .i64 ((i - 1 : Nat):Int)))), (46, .fea none [PV.v (.string e3.user), PV.v (.int .i64 e3.seq), PV.v (.int .i64 e3.kind), PV.v (.string e3.value)]), (47, .fea none [PV.v (.string e3.user), PV.v (.int .i64 e3.seq), PV.v (.int .i64 e3.kind), PV.v (.string e3.value)]), (48, .fea none [PV.v (.string e3.user), PV.v (.int .i64 e3.seq), PV.v (.int .i64 e3.kind), PV.v (.string e3.value)]), (49, .p none (.v (.string e3.user))), (50, .p none (.sl false 4 (pvE l))), (51, .p none (.v (.int .i64 (i:Int)))), (52, .fea none [PV.v (.string e.user), PV.v (.int .i64 e.seq), PV.v (.int .i64 e.kind), PV.v (.string e.value)]), (53, .fea none [PV.v (.string e.user), PV.v (.int .i64 e.seq), PV.v (.int .i64 e.kind), PV.v (.string e.value)]), (54, .fea none [PV.v (.string e.user), PV.v (.int .i64 e.seq), PV.v (.int .i64 e.kind), PV.v (.string e.value)]), (55, .p none (.v (.string e.user))), (56, .p none (.v (.bool true)))] [] [(1, 1, pvI (needF l (pointsF s) i)), (1200, 1, pvI (pointsF s))]) ?_ ?_
            · exact wk_mk ⟨rfl, ⟨rfl, ⟨rfl, ⟨rfl, ⟨rfl, ⟨rfl, ⟨rfl, ⟨rfl, ⟨rfl, ⟨rfl, ⟨rfl, ⟨rfl, ⟨rfl, ⟨rfl, ⟨rfl, ⟨rfl, ⟨rfl, ⟨rfl, ⟨rfl, ⟨rfl, ⟨rfl, trivial⟩⟩⟩⟩⟩⟩⟩⟩⟩⟩⟩⟩⟩⟩⟩⟩⟩⟩⟩⟩⟩ trivial ⟨rfl, ⟨rfl, trivial⟩⟩ rfl
            rcases bfc nb with h9 | h9
            · have h9' := h9
              refine tr_region rfl (.run [] [] rfl (st_eq (st_move rfl) (by exact congrArg (fun b => AV.p none (.v (.bool b))) h9)) (.run [] [] rfl (st_move rfl) (.run [] [] rfl (st_move rfl) (.run [] [] rfl (st_pick (t := false) rfl rfl) (.run [] [] rfl (st_assign rfl) .nil))))) ?_
              refine tr_region rfl (.run [] [] rfl (st_move rfl) (.run [] [] rfl (st_addn rfl rfl rfl (by omega)) (.run [] [] rfl (st_assign rfl) .nil))) ?_
              refine nxt (Q := fun _ _ => False) (z := (k, nb)) (k + 1, true) ?_ ?_ ?_
              · show (k + 1) ≤ (pointsF s).length ∧ true = ((pointsF s).take (k + 1)).any (needC l i e)
                exact ⟨by omega, by rw [any_snoc _ he2, ← hN, needC_user h5 he3 h7', h9]; simp⟩
              · show (pointsF s).length - (k + 1) < (pointsF s).length - k
                omega
              · exact wk_mk ⟨rfl, ⟨rfl, ⟨rfl, ⟨rfl, ⟨rfl, ⟨(int_eq (by omega)), trivial⟩⟩⟩⟩⟩⟩ trivial ⟨rfl, ⟨rfl, trivial⟩⟩ rfl
            · have h9' := h9
              refine tr_region rfl (.run [] [] rfl (st_eq (st_move rfl) (by exact congrArg (fun b => AV.p none (.v (.bool b))) h9)) (.run [] [] rfl (st_move rfl) (.not rfl (.run [] [] rfl (st_pick (t := true) rfl rfl) (.run [] [] rfl (st_assign rfl) .nil))))) ?_
              refine tr_region rfl (.run [] [] rfl (st_move rfl) (.run [] [] rfl (st_addn rfl rfl rfl (by omega)) (.run [] [] rfl (st_assign rfl) .nil))) ?_
              refine nxt (Q := fun _ _ => False) (z := (k, nb)) (k + 1, true) ?_ ?_ ?_
              · show (k + 1) ≤ (pointsF s).length ∧ true = ((pointsF s).take (k + 1)).any (needC l i e)
                exact ⟨by omega, by rw [any_snoc _ he2, ← hN, needC_user h5 he3 h7', h9]; simp⟩
              · show (pointsF s).length - (k + 1) < (pointsF s).length - k
                omega
              · exact wk_mk ⟨rfl, ⟨rfl, ⟨rfl, ⟨rfl, ⟨rfl, ⟨(int_eq (by omega)), trivial⟩⟩⟩⟩⟩⟩ trivial ⟨rfl, ⟨rfl, trivial⟩⟩ rfl
        · have h6' := h6
          replace h6' := of_decide_eq_true h6'
          refine tr_regionD mixed rfl (.run [] [] rfl (st_move rfl) (.run [] [] rfl (st_eq (st_eql rfl rfl rfl) (by exact congrArg (fun b => AV.p none (.v (.bool b))) h6)) (.run [] [] rfl (st_move rfl) (.not rfl (.not rfl (.not rfl (.not rfl (.not rfl (.not rfl (.not rfl (.not rfl (.not rfl (.not rfl (.not rfl (.not rfl (.not rfl (.not rfl (.run [] [] rfl (st_pick (t := true) rfl rfl) (.run [] [] rfl (st_move rfl) (.not rfl (.not rfl (.not rfl (.not rfl (.not rfl (.not rfl (.not rfl (.not rfl (.not rfl (.not rfl (.not rfl (.not rfl (.run [] [] rfl (st_pick (t := true) rfl rfl) (.run [] [] rfl (st_assign rfl) .nil))))))))))))))))))))))))))))))))) (by kernel_rfl) ?_
          refine tr_wk (s' := mk [(0, .p none (.sl false 4 (pvE l))), (5, .sl 1 0 ((pvI (needF l (pointsF s) i)).length)), (6, .sl 1200 0 ((pvI (pointsF s)).length)), (7, .p none (.v (.int .i64 (i:Int)))), (8, .p none (.v (.bool nb))), (9, .p none (.v (.int .i64 (k:Int)))), (10, .p none (.v (.bool true)))] [] [(1, 1, pvI (needF l (pointsF s) i)), (1200, 1, pvI (pointsF s))]) ?_ ?_
          · exact wk_mk ⟨rfl, ⟨rfl, ⟨rfl, ⟨rfl, ⟨rfl, ⟨rfl, ⟨rfl, trivial⟩⟩⟩⟩⟩⟩⟩ trivial ⟨rfl, ⟨rfl, trivial⟩⟩ rfl
          rcases bfc nb with h10 | h10
          · have h10' := h10
            refine tr_region rfl (.run [] [] rfl (st_eq (st_move rfl) (by exact congrArg (fun b => AV.p none (.v (.bool b))) h10)) (.run [] [] rfl (st_move rfl) (.run [] [] rfl (st_move rfl) (.run [] [] rfl (st_pick (t := false) rfl rfl) (.run [] [] rfl (st_assign rfl) .nil))))) ?_
            refine tr_region rfl (.run [] [] rfl (st_move rfl) (.run [] [] rfl (st_addn rfl rfl rfl (by omega)) (.run [] [] rfl (st_assign rfl) .nil))) ?_
            refine nxt (Q := fun _ _ => False) (z := (k, nb)) (k + 1, true) ?_ ?_ ?_
            · show (k + 1) ≤ (pointsF s).length ∧ true = ((pointsF s).take (k + 1)).any (needC l i e)
              exact ⟨by omega, by rw [any_snoc _ he2, ← hN, needC_zero h5 h6', h10]; simp⟩
            · show (pointsF s).length - (k + 1) < (pointsF s).length - k
              omega
            · exact wk_mk ⟨rfl, ⟨rfl, ⟨rfl, ⟨rfl, ⟨rfl, ⟨(int_eq (by omega)), trivial⟩⟩⟩⟩⟩⟩ trivial ⟨rfl, ⟨rfl, trivial⟩⟩ rfl
          · have h10' := h10
            refine tr_region rfl (.run [] [] rfl (st_eq (st_move rfl) (by exact congrArg (fun b => AV.p none (.v (.bool b))) h10)) (.run [] [] rfl (st_move rfl) (.not rfl (.run [] [] rfl (st_pick (t := true) rfl rfl) (.run [] [] rfl (st_assign rfl) .nil))))) ?_
            refine tr_region rfl (.run [] [] rfl (st_move rfl) (.run [] [] rfl (st_addn rfl rfl rfl (by omega)) (.run [] [] rfl (st_assign rfl) .nil))) ?_
            refine nxt (Q := fun _ _ => False) (z := (k, nb)) (k + 1, true) ?_ ?_ ?_
            · show (k + 1) ≤ (pointsF s).length ∧ true = ((pointsF s).take (k + 1)).any (needC l i e)
              exact ⟨by omega, by rw [any_snoc _ he2, ← hN, needC_zero h5 h6', h10]; simp⟩
            · show (pointsF s).length - (k + 1) < (pointsF s).length - k
              omega
            · exact wk_mk ⟨rfl, ⟨rfl, ⟨rfl, ⟨rfl, ⟨rfl, ⟨(int_eq (by omega)), trivial⟩⟩⟩⟩⟩⟩ trivial ⟨rfl, ⟨rfl, trivial⟩⟩ rfl
    · skip
      replace h4 := of_decide_eq_false h4
      refine tr_exit ?_
      refine tr_seq ?_
      have hnp0 : nb = needP l (pointsF s) i e := by rw [hN, needP_any, List.take_of_length_le (by omega)]
      refine tr_region rfl (.run [] [] rfl (st_move rfl) .nil) ?_
      refine tr_if (t := nb) rfl (fun h11 => ?_) (fun h11 => ?_)
      · skip
        have hnp : needP l (pointsF s) i e = true := by rw [← hnp0]; exact h11
        refine tr_region rfl (.run [] [] rfl (st_move rfl) (.run [] [] rfl (st_move rfl) (.run [7900] [] rfl (st_buildSlice rfl 7900 Try.underlying23 inf2 (nle rfl) (by decide) rfl rfl rfl (.cons .v .nil) (by decide) rfl (by decide) rfl (by decide) rfl) (.run [1] [] rfl (st_append rfl 1 (ib := 1) (len := ((pvI (needF l (pointsF s) i)) ++ [[PV.v (.int .i64 (i:Int))]]).length) rfl rfl (.row (len := (pvI (needF l (pointsF s) i)).length) (xs := pvI (needF l (pointsF s) i)) rfl rfl (.inl rfl)) (.give (len := 1) (xs := [[PV.v (.int .i64 (i:Int))]]) rfl rfl) Try.underlying23 (sk Try.underlying23 rfl) inf2 rfl (by decide) (by decide) (by decide) List.length_append (by simp only [maxLen, List.length_append, List.length_map, List.length_cons, List.length_nil, List.length_take, List.length_drop, pvE_length, pvI_length, pvT_length]; omega) (by simp only [maxLen, List.length_append, List.length_map, List.length_cons, List.length_nil, List.length_take, List.length_drop, pvE_length, pvI_length, pvT_length]; omega)) (.run [] [] rfl (st_assign rfl) .nil))))) ?_
        have hr12 : (pvI (needF l (pointsF s) i)) ++ [[PV.v (.int .i64 (i:Int))]] = pvI (needF l (pointsF s) (i + 1)) := by rw [need_yes he hnp]; exact pvI_snoc _ _
        have hp13 : (.sl 1 0 (((pvI (needF l (pointsF s) i)) ++ [[PV.v (.int .i64 (i:Int))]]).length) : AV) = .sl 1 0 ((pvI (needF l (pointsF s) (i + 1))).length) := by simp only [hr12]
        refine tr_wk (s' := mk [(0, .p none (.sl false 4 (pvE l))), (5, .sl 1 0 ((pvI (needF l (pointsF s) (i + 1))).length)), (6, .sl 1200 0 ((pvI (pointsF s)).length)), (7, .p none (.v (.int .i64 (i:Int))))] [] [(1, 1, pvI (needF l (pointsF s) (i + 1))), (1200, 1, pvI (pointsF s))]) ?_ ?_
        · exact wk_mk ⟨rfl, ⟨hp13, ⟨rfl, ⟨rfl, trivial⟩⟩⟩⟩ trivial ⟨(congrArg (fun x => some (1, x)) hr12), ⟨rfl, trivial⟩⟩ rfl
        refine tr_region rfl (.run [] [] rfl (st_move rfl) (.run [] [] rfl (st_addn rfl rfl rfl (by omega)) (.run [] [] rfl (st_assign rfl) .nil))) ?_
        refine nxt (Q := fun _ _ => False) (z := i) (i + 1) ?_ ?_ ?_
        · show (i + 1) ≤ l.length
          omega
        · show l.length - (i + 1) < l.length - i
          omega
        · exact wk_mk ⟨rfl, ⟨rfl, ⟨rfl, ⟨(int_eq (by omega)), trivial⟩⟩⟩⟩ trivial ⟨rfl, ⟨rfl, trivial⟩⟩ rfl
      · skip
        refine tr_skip ?_
        have hnp : needP l (pointsF s) i e = false := by rw [← hnp0]; exact h11
        refine tr_region rfl (.run [] [] rfl (st_move rfl) (.run [] [] rfl (st_addn rfl rfl rfl (by omega)) (.run [] [] rfl (st_assign rfl) .nil))) ?_
        refine nxt (Q := fun _ _ => False) (z := i) (i + 1) ?_ ?_ ?_
        · show (i + 1) ≤ l.length
          omega
        · show l.length - (i + 1) < l.length - i
          omega
        · exact wk_mk ⟨rfl, ⟨(congrArg (fun x => AV.sl 1 0 (pvI x).length) (need_no he hnp).symm), ⟨rfl, ⟨(int_eq (by omega)), trivial⟩⟩⟩⟩ trivial ⟨(congrArg (fun x => some (1, x)) (by rw [need_no he hnp])), ⟨rfl, trivial⟩⟩ rfl
  · skip
    replace h3 := of_decide_eq_false h3
    refine tr_exit ?_
    refine tr_seq ?_
    have hil : i = l.length := (by omega)
    rw [← hil]
    refine tr_region rfl (.run [] [] rfl (st_move rfl) (.run [] [] rfl (st_assign rfl) .nil)) ?_
    refine tr_ret ?_
    exact ends [_] [1] (.cons (.tmp rfl) .nil) (.cons (.one (.row (len := (pvI (needF l (pointsF s) i)).length) (xs := pvI (needF l (pointsF s) i)) rfl rfl) (.sl _ _ (FlatP.clean (pvI_flat _)))) .nil) (by decide) trivial
end Go.Rl

/- Promises of functions, proved by walks over their operations; no conditions beyond those that each theorem states. -/
import Derived.Test.YtfdebanfenlglaaReI
import Derived.Test.YtfdebanfenlglaaRmA
import Derived.RangeFuncBox
import Derived.RangeFuncLeaves
import Derived.Shelf.Abstract
import Derived.WalkKit
import Derived.OwnWalkIn
import Derived.TacticsInMore
import Derived.LoopNIn
import Derived.LoopIn
import Derived.Test.YtfdebanfenlglaaProg
set_option linter.unusedSimpArgs false
set_option linter.unusedVariables false
namespace Go.Rl
open Go.Proofs
set_option maxRecDepth 1000000 in
set_option maxHeartbeats 2000000 in
theorem reverseE_con (l : List Ent) (hl : l.length ≤ 2000000) : Con Try.prog 142 [.one (.sl true 4 (pvE l))] [some (pvE l.reverse)] [] := by
  refine con_of_tr Try.func142 rfl rfl rfl rfl ?_
  have hle := pvE_length l
  refine tr_seq ?_
  refine tr_region rfl (.run [] [] rfl (st_move rfl) (.run [] [] rfl (st_len_row rfl rfl Try.underlying26) (.run [] [] rfl (st_subn rfl rfl rfl (by omega)) (.run [] [] rfl (st_assign rfl) (.run [] [] rfl (st_assign rfl) .nil))))) ?_
  refine tr_block ?_
  refine tr_loopS (σ := Nat × Nat × List Ent) (fun (i, k, m) => mk [(0, .sl 100000 0 ((pvE l).length)), (2, .p none (.v (.int .i64 (i:Int)))), (3, .p none (.v (.int .i64 ((k:Int) - 1))))] [] [(100000, 4, pvE m)]) (fun (i, k, m) => i + k = l.length ∧ i ≤ l.length ∧ (i ≤ k ∨ i = k + 1) ∧ Swapped l m i) (fun (i, k, m) => l.length - i) (0, l.length, l) ⟨by omega, Nat.zero_le _, .inl (Nat.zero_le _), swapped_zero l⟩ (wk_mk ⟨rfl, ⟨(int_eq (by omega)), ⟨(int_eq (by omega)), trivial⟩⟩⟩ trivial ⟨(congrArg (fun x => some (4, x)) (by rfl)), trivial⟩ rfl) ?_
  rintro ⟨i, k, m⟩ hG
  replace hG : i + k = l.length ∧ i ≤ l.length ∧ (i ≤ k ∨ i = k + 1) ∧ Swapped l m i := hG
  obtain ⟨hik, hi, hw, hS⟩ := hG
  have hml := hS.1
  have hle2 := pvE_length m
  refine tr_seq ?_
  refine tr_seq ?_
  refine tr_region rfl (.run [] [] rfl (st_move rfl) (.run [] [] rfl (st_move rfl) (.run [] [] rfl (st_lss rfl rfl rfl) .nil))) ?_
  refine tr_if (t := decide ((i:Int) < ((k:Int) - 1))) rfl (fun h1 => ?_) (fun h1 => ?_)
  · skip
    replace h1 := of_decide_eq_true h1
    refine tr_skip ?_
    refine tr_seq ?_
    refine tr_block ?_
    obtain ⟨x, hx⟩ : ∃ x, m[i]? = some x := ⟨_, List.getElem?_eq_getElem (by omega)⟩
    obtain ⟨y, hy⟩ : ∃ y, m[k - 1]? = some y := ⟨_, List.getElem?_eq_getElem (by omega)⟩
    refine tr_wk (s' := mk [(0, .sl 100000 0 ((pvE l).length)), (2, .p none (.v (.int .i64 (i:Int)))), (3, .p none (.v (.int .i64 ((k:Int) - 1))))] [] [(100000, 4, pvE m)]) ?_ ?_
    · exact wk_mk ⟨rfl, ⟨rfl, ⟨rfl, trivial⟩⟩⟩ trivial ⟨rfl, trivial⟩ rfl
    refine tr_regionD mixed rfl (.run [] [] rfl (st_move rfl) (.run [] [] rfl (st_move rfl) (.run [] [] rfl (st_move rfl) (.run [] [] rfl (st_eq (st_move rfl) (((show (AV.p none (.v (.int .i64 ((k:Int) - 1)))) = AV.p none (.v (.int .i64 ((k - 1 : Nat) : Int))) from int_eq (by omega))))) (.run [] [] rfl (st_move rfl) (.run [] [] rfl (st_eq (st_move rfl) (((show (AV.p none (.v (.int .i64 ((k:Int) - 1)))) = AV.p none (.v (.int .i64 ((k - 1 : Nat) : Int))) from int_eq (by omega))))) (.run [] [] rfl (st_idx_row0 (k - 1) rfl rfl rfl rfl Try.underlying26 Try.sizeOf44 rfl rfl (by omega)) (.run [] [] rfl (st_load_ea rfl rfl rfl (pvE_get hy) Try.isAgg44 Try.sizeOf44 (nle rfl)) (.run [] [] rfl (st_move rfl) (.run [] [] rfl (st_move rfl) (.run [] [] rfl (st_idx_row0 i rfl rfl rfl rfl Try.underlying26 Try.sizeOf44 rfl rfl (by omega)) (.run [] [] rfl (st_load_ea rfl rfl rfl (pvE_get hx) Try.isAgg44 Try.sizeOf44 (nle rfl)) (.run [] [] rfl (st_idx_row0 i rfl rfl rfl rfl Try.underlying26 Try.sizeOf44 rfl rfl (by omega)) (.run [] [] rfl (st_store_row rfl rfl rfl (FlatP.nf (pvE_flat _)) (pvE_get hx) rfl rfl (.cons .v (.cons .v (.cons .v (.cons .v .nil)))) Try.sizeOf44 rfl (nle rfl)) (.run [] [] rfl (st_idx_row0 (k - 1) rfl rfl rfl rfl Try.underlying26 Try.sizeOf44 rfl rfl (by omega)) (.run [] [] rfl (st_store_row rfl rfl rfl (FlatP.nf (FlatP.set (i := i) (cs := [PV.v (.string y.user), PV.v (.int .i64 y.seq), PV.v (.int .i64 y.kind), PV.v (.string y.value)]) (pvE_flat m) rfl)) (by rw [List.getElem?_set_ne (by omega)]; exact pvE_get hy) rfl rfl (.cons .v (.cons .v (.cons .v (.cons .v .nil)))) Try.sizeOf44 rfl (nle rfl)) .nil)))))))))))))))) (by kernel_rfl) ?_
    refine tr_wk (s' := mk [(0, .sl 100000 0 ((pvE l).length)), (2, .p none (.v (.int .i64 (i:Int)))), (3, .p none (.v (.int .i64 ((k:Int) - 1))))] [] [(100000, 4, ((pvE m).set i [PV.v (.string y.user), PV.v (.int .i64 y.seq), PV.v (.int .i64 y.kind), PV.v (.string y.value)]).set (k - 1) [PV.v (.string x.user), PV.v (.int .i64 x.seq), PV.v (.int .i64 x.kind), PV.v (.string x.value)])]) ?_ ?_
    · exact wk_mk ⟨rfl, ⟨rfl, ⟨rfl, trivial⟩⟩⟩ trivial ⟨rfl, trivial⟩ rfl
    refine tr_region rfl (.run [] [] rfl (st_move rfl) (.run [] [] rfl (st_addn rfl rfl rfl (by omega)) (.run [] [] rfl (st_move rfl) (.run [] [] rfl (st_subn rfl rfl rfl (by omega)) (.run [] [] rfl (st_assign rfl) (.run [] [] rfl (st_assign rfl) .nil)))))) ?_
    refine nxt (Q := fun _ _ => False) (z := (i, k, m)) (i + 1, k - 1, (m.set i y).set (k - 1) x) ?_ ?_ ?_
    · show (i + 1) + (k - 1) = l.length ∧ (i + 1) ≤ l.length ∧ ((i + 1) ≤ (k - 1) ∨ (i + 1) = (k - 1) + 1) ∧ Swapped l ((m.set i y).set (k - 1) x) (i + 1)
      exact ⟨by omega, by omega, by omega, swapped_next hS (by omega) (by omega) hx hy⟩
    · show l.length - (i + 1) < l.length - i
      omega
    · exact wk_mk ⟨rfl, ⟨(int_eq (by omega)), ⟨(int_eq (by omega)), trivial⟩⟩⟩ trivial ⟨(congrArg (fun x => some (4, x)) (by exact pvE_set2)), trivial⟩ rfl
  · skip
    replace h1 := of_decide_eq_false h1
    refine tr_exit ?_
    exact ends' [] [] .nil .nil (by decide) (outs1 (congrArg (fun x => some (4, x)) (congrArg pvE (swapped_all hS (by omega)))) (pvE_flat _) (by decide))
set_option maxRecDepth 1000000 in
set_option maxHeartbeats 2000000 in
theorem l14Compacted_con (l : List Ent) (s : List Int) (b : Bool) (zs : List Int) (hzs : zs = needF l (pointsF s) l.length) (hl : l.length ≤ 2000000) (hs : s.length ≤ 2000000) : Con Try.prog 85 [.one (PV.sl false 4 (pvE l)), .one (PV.sl false 1 (pvI s)), .one (PV.v (.bool b))] [] [.one (.sl true 4 (pvE (compU l b zs zs.length)))] := by
  refine con_of_tr Try.func85 rfl rfl rfl rfl ?_
  have hle := pvE_length l
  have hls := pvI_length s
  have hlz := pvI_length zs
  have hzl : zs.length ≤ l.length := by rw [hzs]; exact needF_len _ _ _
  refine tr_seq ?_
  refine tr_region rfl (.run [] [] rfl (st_assign rfl) .nil) ?_
  refine tr_seq ?_
  refine tr_region rfl (.run [] [] rfl (st_move rfl) (.run [] [] rfl (st_move rfl) (.run [1400] [] rfl (st_call rfl 1400 (X := []) en71 rfl (.val nod) (.cons (.one (.bor (.sl nod))) (.cons (.one (.bor (.sl nod))) .nil)) (by decide) all_nil .nil ((by have h := l14Needed_con l s (by omega) (by omega); rw [← hzs] at h; exact h)) rfl rfl (nle rfl)) (.run [] [] rfl (st_assign rfl) .nil)))) ?_
  refine tr_seq ?_
  refine tr_region rfl (.run [1500] [] rfl (st_buildSlice rfl 1500 Try.underlying26 inf44 (nle rfl) (by decide) rfl rfl rfl .nil (by decide) rfl (by decide) rfl (by decide) rfl) (.run [] [] rfl (st_assign rfl) .nil)) ?_
  refine tr_seq ?_
  refine tr_seq ?_
  refine tr_region rfl (.run [] [] rfl (st_move rfl) (.run [] [] rfl (st_len_row rfl rfl Try.underlying23) (.run [] [] rfl (st_subn rfl rfl rfl (by omega)) (.run [] [] rfl (st_assign rfl) .nil)))) ?_
  refine tr_block ?_
  refine tr_wk (wk_ren 1500 1 rfl rfl (by decide)) ?_
  refine tr_loopS (σ := Nat) (fun i => mk [(0, .p none (.sl false 4 (pvE l))), (2, .p none (.v (.bool b))), (7, .sl 1400 0 ((pvI zs).length)), (8, .sl 1 0 ((pvE (compU l b zs (zs.length - i))).length)), (9, .p none (.v (.int .i64 ((i:Int) - 1))))] [] [(1, 4, pvE (compU l b zs (zs.length - i))), (1400, 1, pvI zs)]) (fun i => i ≤ zs.length) (fun i => i) zs.length (by simp) (wk_mk ⟨rfl, ⟨rfl, ⟨rfl, ⟨(congrArg (fun k => AV.sl 1 0 (pvE (compU l b zs k)).length) (Nat.sub_self _).symm), ⟨(int_eq (by rw [hlz])), trivial⟩⟩⟩⟩⟩ trivial ⟨(congrArg (fun x => some (4, x)) (by rw [Nat.sub_self]; rfl)), ⟨rfl, trivial⟩⟩ rfl) ?_
  rintro i hG
  replace hG : i ≤ zs.length := hG
  refine tr_seq ?_
  refine tr_seq ?_
  refine tr_region rfl (.run [] [] rfl (st_move rfl) (.run [] [] rfl (st_geq rfl rfl rfl) .nil)) ?_
  refine tr_if (t := decide (0 ≤ ((i:Int) - 1))) rfl (fun h1 => ?_) (fun h1 => ?_)
  · skip
    replace h1 := of_decide_eq_true h1
    refine tr_skip ?_
    refine tr_seq ?_
    refine tr_block ?_
    refine tr_seq ?_
    obtain ⟨z, hz⟩ : ∃ z, zs[i - 1]? = some z := ⟨_, List.getElem?_eq_getElem (by omega)⟩
    obtain ⟨q, rfl, hql⟩ : ∃ q : Nat, z = (q : Int) ∧ q < l.length := by rw [hzs] at hz; exact need_at hz
    obtain ⟨e, he⟩ : ∃ e, l[q]? = some e := ⟨_, List.getElem?_eq_getElem hql⟩
    have hstep : compU l b zs (zs.length - i + 1) = cstep b (compU l b zs (zs.length - i)) e := compU_succ (i := i - 1) (by omega) hz (by simpa using he)
    have hol := compU_len l b zs (k := zs.length - i) (by omega)
    have hle5 := pvE_length (compU l b zs (zs.length - i))
    refine tr_region rfl (.run [] [] rfl (st_move rfl) (.run [] [] rfl (st_move rfl) (.run [] [] rfl (st_eq (st_move rfl) (((show (AV.p none (.v (.int .i64 ((i:Int) - 1)))) = AV.p none (.v (.int .i64 ((i - 1 : Nat) : Int))) from int_eq (by omega))))) (.run [] [] rfl (st_idx_row0 (i - 1) rfl rfl rfl rfl Try.underlying23 Try.sizeOf2 rfl rfl (by omega)) (.run [] [] rfl (st_load_ea1 rfl rfl rfl (pvI_get hz) Try.isAgg2 rfl) (.run [] [] rfl (st_idx_fro rfl rfl rfl Try.underlying26 Try.sizeOf44 rfl (by omega) (pvE_get he)) (.run [] [] rfl (st_load_fea rfl rfl Try.isAgg44 Try.sizeOf44 (nle rfl)) (.run [] [10] rfl (st_allocZ rfl 10 inf44 rfl (by decide) rfl (by decide)) (.run [] [] rfl (st_store_box rfl rfl rfl rfl rfl Try.sizeOf44 rfl (nle rfl)) .nil))))))))) ?_
    refine tr_seq ?_
    refine tr_wk (s' := mk [(0, .p none (.sl false 4 (pvE l))), (2, .p none (.v (.bool b))), (7, .sl 1400 0 ((pvI zs).length)), (8, .sl 1 0 ((pvE (compU l b zs (zs.length - i))).length)), (9, .p none (.v (.int .i64 ((i:Int) - 1)))), (10, .ptr 10 0)] [(10, [.p none (.v (.string e.user)), .p none (.v (.int .i64 e.seq)), .p none (.v (.int .i64 e.kind)), .p none (.v (.string e.value))])] [(1, 4, pvE (compU l b zs (zs.length - i))), (1400, 1, pvI zs)]) ?_ ?_
    · exact wk_mk ⟨rfl, ⟨rfl, ⟨rfl, ⟨rfl, ⟨rfl, ⟨rfl, trivial⟩⟩⟩⟩⟩⟩ ⟨rfl, trivial⟩ ⟨rfl, ⟨rfl, trivial⟩⟩ rfl
    rcases bfc (decide (0 < ((pvE (compU l b zs (zs.length - i))).length : Int))) with h2 | h2
    · have h2' := h2
      replace h2' := of_decide_eq_false h2'
      refine tr_regionD mixed rfl (.run [] [] rfl (st_move rfl) (.run [] [] rfl (st_len_row rfl rfl Try.underlying26) (.run [] [] rfl (st_eq (st_gtr rfl rfl rfl) (by exact congrArg (fun b => AV.p none (.v (.bool b))) h2)) (.run [] [] rfl (st_move rfl) (.not rfl (.not rfl (.not rfl (.not rfl (.not rfl (.not rfl (.not rfl (.not rfl (.not rfl (.run [] [] rfl (st_pick (t := false) rfl rfl) (.run [] [] rfl (st_assign rfl) .nil))))))))))))))) (by kernel_rfl) ?_
      refine tr_seq ?_
      refine tr_seq ?_
      refine tr_wk (s' := mk [(0, .p none (.sl false 4 (pvE l))), (2, .p none (.v (.bool b))), (7, .sl 1400 0 ((pvI zs).length)), (8, .sl 1 0 ((pvE (compU l b zs (zs.length - i))).length)), (9, .p none (.v (.int .i64 ((i:Int) - 1)))), (10, .ptr 10 0), (11, .p none (.v (.bool false)))] [(10, [.p none (.v (.string e.user)), .p none (.v (.int .i64 e.seq)), .p none (.v (.int .i64 e.kind)), .p none (.v (.string e.value))])] [(1, 4, pvE (compU l b zs (zs.length - i))), (1400, 1, pvI zs)]) ?_ ?_
      · exact wk_mk ⟨rfl, ⟨rfl, ⟨rfl, ⟨rfl, ⟨rfl, ⟨rfl, ⟨rfl, trivial⟩⟩⟩⟩⟩⟩⟩ ⟨rfl, trivial⟩ ⟨rfl, ⟨rfl, trivial⟩⟩ rfl
      rcases bfc (decide (e.kind = 0)) with h3 | h3
      · have h3' := h3
        replace h3' := of_decide_eq_false h3'
        refine tr_region rfl (.run [] [] rfl (st_faddr_box rfl rfl Try.underlying44 rfl Try.sizeOf42 (by decide)) (.run [] [] rfl (st_faddr_box rfl rfl Try.underlying42 rfl Try.sizeOf2 (by decide)) (.run [] [] rfl (st_load_box1 rfl rfl rfl Try.isAgg2 rfl) (.run [] [] rfl (st_eq (st_eql rfl rfl rfl) (by exact congrArg (fun b => AV.p none (.v (.bool b))) h3)) (.run [] [] rfl (st_move rfl) (.not rfl (.run [] [] rfl (st_pick (t := false) rfl rfl) (.run [] [] rfl (st_move rfl) (.not rfl (.not rfl (.run [] [] rfl (st_pick (t := false) rfl rfl) .nil))))))))))) ?_
        refine tr_if (t := false) rfl (fun h => nomatch h) (fun _ => ?_)
        refine tr_skip ?_
        refine tr_region rfl (.run [] [] rfl (st_load_box rfl rfl rfl Try.isAgg44 Try.sizeOf44 (nle rfl)) (.run [5600] [] rfl (st_buildSlice rfl 5600 Try.underlying26 inf44 (nle rfl) (by decide) rfl rfl rfl (.cons .v (.cons .v (.cons .v (.cons .v .nil)))) (by decide) rfl (by decide) rfl (by decide) rfl) (.run [] [] rfl (st_move rfl) (.run [5600] [] rfl (st_append rfl 5600 (ib := 5600) (len := ([[PV.v (.string e.user), PV.v (.int .i64 e.seq), PV.v (.int .i64 e.kind), PV.v (.string e.value)]] ++ (pvE (compU l b zs (zs.length - i)))).length) rfl rfl (.row (len := 1) (xs := [[PV.v (.string e.user), PV.v (.int .i64 e.seq), PV.v (.int .i64 e.kind), PV.v (.string e.value)]]) rfl rfl (.inl rfl)) (.give (len := (pvE (compU l b zs (zs.length - i))).length) (xs := pvE (compU l b zs (zs.length - i))) rfl rfl) Try.underlying26 (sk Try.underlying26 rfl) inf44 rfl (by decide) (by decide) (by decide) List.length_append (by simp only [maxLen, List.length_append, List.length_map, List.length_cons, List.length_nil, List.length_take, List.length_drop, pvE_length, pvI_length, pvT_length]; omega) (by simp only [maxLen, List.length_append, List.length_map, List.length_cons, List.length_nil, List.length_take, List.length_drop, pvE_length, pvI_length, pvT_length]; omega)) (.run [] [] rfl (st_assign rfl) .nil))))) ?_
        have hr4 : [[PV.v (.string e.user), PV.v (.int .i64 e.seq), PV.v (.int .i64 e.kind), PV.v (.string e.value)]] ++ (pvE (compU l b zs (zs.length - i))) = pvE (compU l b zs (zs.length - i + 1)) := by rw [hstep, cstep_keep (fun hc => h3' hc.2.1)]; rfl
        have hp5 : (.sl 5600 0 (([[PV.v (.string e.user), PV.v (.int .i64 e.seq), PV.v (.int .i64 e.kind), PV.v (.string e.value)]] ++ (pvE (compU l b zs (zs.length - i)))).length) : AV) = .sl 5600 0 ((pvE (compU l b zs (zs.length - i + 1))).length) := by simp only [hr4]
        refine tr_wk (s' := mk [(0, .p none (.sl false 4 (pvE l))), (2, .p none (.v (.bool b))), (7, .sl 1400 0 ((pvI zs).length)), (8, .sl 5600 0 ((pvE (compU l b zs (zs.length - i + 1))).length)), (9, .p none (.v (.int .i64 ((i:Int) - 1))))] [] [(1400, 1, pvI zs), (5600, 4, pvE (compU l b zs (zs.length - i + 1)))]) ?_ ?_
        · exact wk_mk ⟨rfl, ⟨rfl, ⟨rfl, ⟨hp5, ⟨rfl, trivial⟩⟩⟩⟩⟩ trivial ⟨rfl, ⟨(congrArg (fun x => some (4, x)) hr4), trivial⟩⟩ rfl
        refine tr_region rfl (.run [] [] rfl (st_move rfl) (.run [] [] rfl (st_subn rfl rfl rfl (by omega)) (.run [] [] rfl (st_assign rfl) .nil))) ?_
        refine nxt (Q := fun _ _ => False) (z := i) (i - 1) ?_ ?_ ?_
        · show (i - 1) ≤ zs.length
          omega
        · show (i - 1) < i
          omega
        · exact (wk_ren 5600 1 rfl rfl (by decide)).trans (wk_mk ⟨rfl, ⟨rfl, ⟨rfl, ⟨(congrArg (fun k => AV.sl 1 0 (pvE (compU l b zs k)).length) (show zs.length - i + 1 = zs.length - (i - 1) by omega)), ⟨(int_eq (by omega)), trivial⟩⟩⟩⟩⟩ trivial ⟨(congrArg (fun x => some (4, x)) (by rw [show zs.length - (i - 1) = zs.length - i + 1 by omega])), ⟨rfl, trivial⟩⟩ rfl)
      · have h3' := h3
        replace h3' := of_decide_eq_true h3'
        rcases bfc b with h6 | h6
        · have h6' := h6
          refine tr_region rfl (.run [] [] rfl (st_faddr_box rfl rfl Try.underlying44 rfl Try.sizeOf42 (by decide)) (.run [] [] rfl (st_faddr_box rfl rfl Try.underlying42 rfl Try.sizeOf2 (by decide)) (.run [] [] rfl (st_load_box1 rfl rfl rfl Try.isAgg2 rfl) (.run [] [] rfl (st_eq (st_eql rfl rfl rfl) (by exact congrArg (fun b => AV.p none (.v (.bool b))) h3)) (.run [] [] rfl (st_move rfl) (.run [] [] rfl (st_eq (st_move rfl) (by exact congrArg (fun b => AV.p none (.v (.bool b))) h6)) (.run [] [] rfl (st_pick (t := true) rfl rfl) (.run [] [] rfl (st_move rfl) (.not rfl (.not rfl (.run [] [] rfl (st_pick (t := false) rfl rfl) .nil))))))))))) ?_
          refine tr_if (t := false) rfl (fun h => nomatch h) (fun _ => ?_)
          refine tr_skip ?_
          refine tr_region rfl (.run [] [] rfl (st_load_box rfl rfl rfl Try.isAgg44 Try.sizeOf44 (nle rfl)) (.run [5600] [] rfl (st_buildSlice rfl 5600 Try.underlying26 inf44 (nle rfl) (by decide) rfl rfl rfl (.cons .v (.cons .v (.cons .v (.cons .v .nil)))) (by decide) rfl (by decide) rfl (by decide) rfl) (.run [] [] rfl (st_move rfl) (.run [5600] [] rfl (st_append rfl 5600 (ib := 5600) (len := ([[PV.v (.string e.user), PV.v (.int .i64 e.seq), PV.v (.int .i64 e.kind), PV.v (.string e.value)]] ++ (pvE (compU l b zs (zs.length - i)))).length) rfl rfl (.row (len := 1) (xs := [[PV.v (.string e.user), PV.v (.int .i64 e.seq), PV.v (.int .i64 e.kind), PV.v (.string e.value)]]) rfl rfl (.inl rfl)) (.give (len := (pvE (compU l b zs (zs.length - i))).length) (xs := pvE (compU l b zs (zs.length - i))) rfl rfl) Try.underlying26 (sk Try.underlying26 rfl) inf44 rfl (by decide) (by decide) (by decide) List.length_append (by simp only [maxLen, List.length_append, List.length_map, List.length_cons, List.length_nil, List.length_take, List.length_drop, pvE_length, pvI_length, pvT_length]; omega) (by simp only [maxLen, List.length_append, List.length_map, List.length_cons, List.length_nil, List.length_take, List.length_drop, pvE_length, pvI_length, pvT_length]; omega)) (.run [] [] rfl (st_assign rfl) .nil))))) ?_
          have hr7 : [[PV.v (.string e.user), PV.v (.int .i64 e.seq), PV.v (.int .i64 e.kind), PV.v (.string e.value)]] ++ (pvE (compU l b zs (zs.length - i))) = pvE (compU l b zs (zs.length - i + 1)) := by rw [hstep, cstep_keep (fun hc => by rw [h6'] at hc; cases hc.1)]; rfl
          have hp8 : (.sl 5600 0 (([[PV.v (.string e.user), PV.v (.int .i64 e.seq), PV.v (.int .i64 e.kind), PV.v (.string e.value)]] ++ (pvE (compU l b zs (zs.length - i)))).length) : AV) = .sl 5600 0 ((pvE (compU l b zs (zs.length - i + 1))).length) := by simp only [hr7]
          refine tr_wk (s' := mk [(0, .p none (.sl false 4 (pvE l))), (2, .p none (.v (.bool b))), (7, .sl 1400 0 ((pvI zs).length)), (8, .sl 5600 0 ((pvE (compU l b zs (zs.length - i + 1))).length)), (9, .p none (.v (.int .i64 ((i:Int) - 1)))), (49, .p none (.v (.bool false)))] [] [(1400, 1, pvI zs), (5600, 4, pvE (compU l b zs (zs.length - i + 1)))]) ?_ ?_
          · exact wk_mk ⟨rfl, ⟨rfl, ⟨rfl, ⟨hp8, ⟨rfl, ⟨rfl, trivial⟩⟩⟩⟩⟩⟩ trivial ⟨rfl, ⟨(congrArg (fun x => some (4, x)) hr7), trivial⟩⟩ rfl
          refine tr_region rfl (.run [] [] rfl (st_move rfl) (.run [] [] rfl (st_subn rfl rfl rfl (by omega)) (.run [] [] rfl (st_assign rfl) .nil))) ?_
          refine nxt (Q := fun _ _ => False) (z := i) (i - 1) ?_ ?_ ?_
          · show (i - 1) ≤ zs.length
            omega
          · show (i - 1) < i
            omega
          · exact (wk_ren 5600 1 rfl rfl (by decide)).trans (wk_mk ⟨rfl, ⟨rfl, ⟨rfl, ⟨(congrArg (fun k => AV.sl 1 0 (pvE (compU l b zs k)).length) (show zs.length - i + 1 = zs.length - (i - 1) by omega)), ⟨(int_eq (by omega)), trivial⟩⟩⟩⟩⟩ trivial ⟨(congrArg (fun x => some (4, x)) (by rw [show zs.length - (i - 1) = zs.length - i + 1 by omega])), ⟨rfl, trivial⟩⟩ rfl)
        · have h6' := h6
          refine tr_region rfl (.run [] [] rfl (st_faddr_box rfl rfl Try.underlying44 rfl Try.sizeOf42 (by decide)) (.run [] [] rfl (st_faddr_box rfl rfl Try.underlying42 rfl Try.sizeOf2 (by decide)) (.run [] [] rfl (st_load_box1 rfl rfl rfl Try.isAgg2 rfl) (.run [] [] rfl (st_eq (st_eql rfl rfl rfl) (by exact congrArg (fun b => AV.p none (.v (.bool b))) h3)) (.run [] [] rfl (st_move rfl) (.run [] [] rfl (st_eq (st_move rfl) (by exact congrArg (fun b => AV.p none (.v (.bool b))) h6)) (.run [] [] rfl (st_pick (t := true) rfl rfl) (.run [] [] rfl (st_move rfl) (.run [] [] rfl (st_move rfl) (.run [] [] rfl (st_not (b := false) rfl rfl) (.run [] [] rfl (st_pick (t := true) rfl rfl) .nil))))))))))) ?_
          refine tr_if (t := true) rfl (fun _ => ?_) (fun h => nomatch h)
          refine tr_exit ?_
          refine tr_region rfl (.run [] [] rfl (st_move rfl) (.run [] [] rfl (st_subn rfl rfl rfl (by omega)) (.run [] [] rfl (st_assign rfl) .nil))) ?_
          refine nxt (Q := fun _ _ => False) (z := i) (i - 1) ?_ ?_ ?_
          · show (i - 1) ≤ zs.length
            omega
          · show (i - 1) < i
            omega
          · exact wk_mk ⟨rfl, ⟨rfl, ⟨rfl, ⟨(congrArg (fun x => AV.sl 1 0 (pvE x).length) (by rw [show zs.length - (i - 1) = zs.length - i + 1 by omega, hstep, cstep_drop h6' h3' (older_len (by omega))])), ⟨(int_eq (by omega)), trivial⟩⟩⟩⟩⟩ trivial ⟨(congrArg (fun x => some (4, x)) (by rw [show zs.length - (i - 1) = zs.length - i + 1 by omega, hstep, cstep_drop h6' h3' (older_len (by omega))])), ⟨rfl, trivial⟩⟩ rfl
    · have h2' := h2
      replace h2' := of_decide_eq_true h2'
      obtain ⟨e2, he2⟩ : ∃ e, (compU l b zs (zs.length - i))[0]? = some e := ⟨_, List.getElem?_eq_getElem (by (have hL := pvE_length (compU l b zs (zs.length - i)); omega))⟩
      have hlte2 := (List.getElem?_eq_some_iff.1 he2).1
      refine tr_regionD mixed rfl (.run [] [] rfl (st_move rfl) (.run [] [] rfl (st_len_row rfl rfl Try.underlying26) (.run [] [] rfl (st_eq (st_gtr rfl rfl rfl) (by exact congrArg (fun b => AV.p none (.v (.bool b))) h2)) (.run [] [] rfl (st_move rfl) (.run [] [] rfl (st_move rfl) (.run [] [] rfl (st_idx_row0 0 rfl rfl rfl rfl Try.underlying26 Try.sizeOf44 rfl rfl (by omega)) (.run [] [] rfl (st_faddr_ea rfl rfl Try.underlying44 rfl Try.sizeOf42 (by decide)) (.run [] [] rfl (st_faddr_ea rfl rfl Try.underlying42 rfl Try.sizeOf9 (by decide)) (.run [] [] rfl (st_load_ea1 rfl rfl rfl (pvE_get he2) Try.isAgg9 rfl) (.run [] [] rfl (st_faddr_box rfl rfl Try.underlying44 rfl Try.sizeOf42 (by decide)) (.run [] [] rfl (st_faddr_box rfl rfl Try.underlying42 rfl Try.sizeOf9 (by decide)) (.run [] [] rfl (st_load_box1 rfl rfl rfl Try.isAgg9 rfl) (.run [] [] rfl (st_seql rfl rfl rfl) (.run [] [] rfl (st_pick (t := true) rfl rfl) (.run [] [] rfl (st_assign rfl) .nil))))))))))))))) (by kernel_rfl) ?_
      refine tr_seq ?_
      refine tr_seq ?_
      refine tr_wk (s' := mk [(0, .p none (.sl false 4 (pvE l))), (2, .p none (.v (.bool b))), (7, .sl 1400 0 ((pvI zs).length)), (8, .sl 1 0 ((pvE (compU l b zs (zs.length - i))).length)), (9, .p none (.v (.int .i64 ((i:Int) - 1)))), (10, .ptr 10 0), (11, .p none (.v (.bool (decide (e2.user = e.user))))), (34, .sl 1 0 ((pvE (compU l b zs (zs.length - i))).length)), (35, .ea 1 0 0), (36, .ea 1 0 0), (37, .ea 1 0 0), (38, .p none (.v (.string e2.user))), (39, .ptr 10 0), (40, .ptr 10 0), (41, .p none (.v (.string e.user))), (42, .p none (.v (.bool (decide (e2.user = e.user)))))] [(10, [.p none (.v (.string e.user)), .p none (.v (.int .i64 e.seq)), .p none (.v (.int .i64 e.kind)), .p none (.v (.string e.value))])] [(1, 4, pvE (compU l b zs (zs.length - i))), (1400, 1, pvI zs)]) ?_ ?_
      · exact wk_mk ⟨rfl, ⟨rfl, ⟨rfl, ⟨rfl, ⟨rfl, ⟨rfl, ⟨rfl, ⟨rfl, ⟨rfl, ⟨rfl, ⟨rfl, ⟨rfl, ⟨rfl, ⟨rfl, ⟨rfl, ⟨rfl, trivial⟩⟩⟩⟩⟩⟩⟩⟩⟩⟩⟩⟩⟩⟩⟩⟩ ⟨rfl, trivial⟩ ⟨rfl, ⟨rfl, trivial⟩⟩ rfl
      rcases bfc (decide (e.kind = 0)) with h9 | h9
      · have h9' := h9
        replace h9' := of_decide_eq_false h9'
        refine tr_region rfl (.run [] [] rfl (st_faddr_box rfl rfl Try.underlying44 rfl Try.sizeOf42 (by decide)) (.run [] [] rfl (st_faddr_box rfl rfl Try.underlying42 rfl Try.sizeOf2 (by decide)) (.run [] [] rfl (st_load_box1 rfl rfl rfl Try.isAgg2 rfl) (.run [] [] rfl (st_eq (st_eql rfl rfl rfl) (by exact congrArg (fun b => AV.p none (.v (.bool b))) h9)) (.run [] [] rfl (st_move rfl) (.not rfl (.run [] [] rfl (st_pick (t := false) rfl rfl) (.run [] [] rfl (st_move rfl) (.not rfl (.not rfl (.run [] [] rfl (st_pick (t := false) rfl rfl) .nil))))))))))) ?_
        refine tr_if (t := false) rfl (fun h => nomatch h) (fun _ => ?_)
        refine tr_skip ?_
        refine tr_region rfl (.run [] [] rfl (st_load_box rfl rfl rfl Try.isAgg44 Try.sizeOf44 (nle rfl)) (.run [5600] [] rfl (st_buildSlice rfl 5600 Try.underlying26 inf44 (nle rfl) (by decide) rfl rfl rfl (.cons .v (.cons .v (.cons .v (.cons .v .nil)))) (by decide) rfl (by decide) rfl (by decide) rfl) (.run [] [] rfl (st_move rfl) (.run [5600] [] rfl (st_append rfl 5600 (ib := 5600) (len := ([[PV.v (.string e.user), PV.v (.int .i64 e.seq), PV.v (.int .i64 e.kind), PV.v (.string e.value)]] ++ (pvE (compU l b zs (zs.length - i)))).length) rfl rfl (.row (len := 1) (xs := [[PV.v (.string e.user), PV.v (.int .i64 e.seq), PV.v (.int .i64 e.kind), PV.v (.string e.value)]]) rfl rfl (.inl rfl)) (.give (len := (pvE (compU l b zs (zs.length - i))).length) (xs := pvE (compU l b zs (zs.length - i))) rfl rfl) Try.underlying26 (sk Try.underlying26 rfl) inf44 rfl (by decide) (by decide) (by decide) List.length_append (by simp only [maxLen, List.length_append, List.length_map, List.length_cons, List.length_nil, List.length_take, List.length_drop, pvE_length, pvI_length, pvT_length]; omega) (by simp only [maxLen, List.length_append, List.length_map, List.length_cons, List.length_nil, List.length_take, List.length_drop, pvE_length, pvI_length, pvT_length]; omega)) (.run [] [] rfl (st_assign rfl) .nil))))) ?_
        have hr10 : [[PV.v (.string e.user), PV.v (.int .i64 e.seq), PV.v (.int .i64 e.kind), PV.v (.string e.value)]] ++ (pvE (compU l b zs (zs.length - i))) = pvE (compU l b zs (zs.length - i + 1)) := by rw [hstep, cstep_keep (fun hc => h9' hc.2.1)]; rfl
        have hp11 : (.sl 5600 0 (([[PV.v (.string e.user), PV.v (.int .i64 e.seq), PV.v (.int .i64 e.kind), PV.v (.string e.value)]] ++ (pvE (compU l b zs (zs.length - i)))).length) : AV) = .sl 5600 0 ((pvE (compU l b zs (zs.length - i + 1))).length) := by simp only [hr10]
        refine tr_wk (s' := mk [(0, .p none (.sl false 4 (pvE l))), (2, .p none (.v (.bool b))), (7, .sl 1400 0 ((pvI zs).length)), (8, .sl 5600 0 ((pvE (compU l b zs (zs.length - i + 1))).length)), (9, .p none (.v (.int .i64 ((i:Int) - 1)))), (38, .p none (.v (.string e2.user))), (39, .ptr 10 0), (40, .ptr 10 0), (41, .p none (.v (.string e.user))), (42, .p none (.v (.bool (decide (e2.user = e.user)))))] [(10, [.p none (.v (.string e.user)), .p none (.v (.int .i64 e.seq)), .p none (.v (.int .i64 e.kind)), .p none (.v (.string e.value))])] [(1400, 1, pvI zs), (5600, 4, pvE (compU l b zs (zs.length - i + 1)))]) ?_ ?_
        · exact wk_mk ⟨rfl, ⟨rfl, ⟨rfl, ⟨hp11, ⟨rfl, ⟨rfl, ⟨rfl, ⟨rfl, ⟨rfl, ⟨rfl, trivial⟩⟩⟩⟩⟩⟩⟩⟩⟩⟩ ⟨rfl, trivial⟩ ⟨rfl, ⟨(congrArg (fun x => some (4, x)) hr10), trivial⟩⟩ rfl
        refine tr_region rfl (.run [] [] rfl (st_move rfl) (.run [] [] rfl (st_subn rfl rfl rfl (by omega)) (.run [] [] rfl (st_assign rfl) .nil))) ?_
        refine nxt (Q := fun _ _ => False) (z := i) (i - 1) ?_ ?_ ?_
        · show (i - 1) ≤ zs.length
          omega
        · show (i - 1) < i
          omega
        · exact (wk_ren 5600 1 rfl rfl (by decide)).trans (wk_mk ⟨rfl, ⟨rfl, ⟨rfl, ⟨(congrArg (fun k => AV.sl 1 0 (pvE (compU l b zs k)).length) (show zs.length - i + 1 = zs.length - (i - 1) by omega)), ⟨(int_eq (by omega)), trivial⟩⟩⟩⟩⟩ trivial ⟨(congrArg (fun x => some (4, x)) (by rw [show zs.length - (i - 1) = zs.length - i + 1 by omega])), ⟨rfl, trivial⟩⟩ rfl)
      · have h9' := h9
        replace h9' := of_decide_eq_true h9'
        rcases bfc b with h12 | h12
        · have h12' := h12
          refine tr_region rfl (.run [] [] rfl (st_faddr_box rfl rfl Try.underlying44 rfl Try.sizeOf42 (by decide)) (.run [] [] rfl (st_faddr_box rfl rfl Try.underlying42 rfl Try.sizeOf2 (by decide)) (.run [] [] rfl (st_load_box1 rfl rfl rfl Try.isAgg2 rfl) (.run [] [] rfl (st_eq (st_eql rfl rfl rfl) (by exact congrArg (fun b => AV.p none (.v (.bool b))) h9)) (.run [] [] rfl (st_move rfl) (.run [] [] rfl (st_eq (st_move rfl) (by exact congrArg (fun b => AV.p none (.v (.bool b))) h12)) (.run [] [] rfl (st_pick (t := true) rfl rfl) (.run [] [] rfl (st_move rfl) (.not rfl (.not rfl (.run [] [] rfl (st_pick (t := false) rfl rfl) .nil))))))))))) ?_
          refine tr_if (t := false) rfl (fun h => nomatch h) (fun _ => ?_)
          refine tr_skip ?_
          refine tr_region rfl (.run [] [] rfl (st_load_box rfl rfl rfl Try.isAgg44 Try.sizeOf44 (nle rfl)) (.run [5600] [] rfl (st_buildSlice rfl 5600 Try.underlying26 inf44 (nle rfl) (by decide) rfl rfl rfl (.cons .v (.cons .v (.cons .v (.cons .v .nil)))) (by decide) rfl (by decide) rfl (by decide) rfl) (.run [] [] rfl (st_move rfl) (.run [5600] [] rfl (st_append rfl 5600 (ib := 5600) (len := ([[PV.v (.string e.user), PV.v (.int .i64 e.seq), PV.v (.int .i64 e.kind), PV.v (.string e.value)]] ++ (pvE (compU l b zs (zs.length - i)))).length) rfl rfl (.row (len := 1) (xs := [[PV.v (.string e.user), PV.v (.int .i64 e.seq), PV.v (.int .i64 e.kind), PV.v (.string e.value)]]) rfl rfl (.inl rfl)) (.give (len := (pvE (compU l b zs (zs.length - i))).length) (xs := pvE (compU l b zs (zs.length - i))) rfl rfl) Try.underlying26 (sk Try.underlying26 rfl) inf44 rfl (by decide) (by decide) (by decide) List.length_append (by simp only [maxLen, List.length_append, List.length_map, List.length_cons, List.length_nil, List.length_take, List.length_drop, pvE_length, pvI_length, pvT_length]; omega) (by simp only [maxLen, List.length_append, List.length_map, List.length_cons, List.length_nil, List.length_take, List.length_drop, pvE_length, pvI_length, pvT_length]; omega)) (.run [] [] rfl (st_assign rfl) .nil))))) ?_
          have hr13 : [[PV.v (.string e.user), PV.v (.int .i64 e.seq), PV.v (.int .i64 e.kind), PV.v (.string e.value)]] ++ (pvE (compU l b zs (zs.length - i))) = pvE (compU l b zs (zs.length - i + 1)) := by rw [hstep, cstep_keep (fun hc => by rw [h12'] at hc; cases hc.1)]; rfl
          have hp14 : (.sl 5600 0 (([[PV.v (.string e.user), PV.v (.int .i64 e.seq), PV.v (.int .i64 e.kind), PV.v (.string e.value)]] ++ (pvE (compU l b zs (zs.length - i)))).length) : AV) = .sl 5600 0 ((pvE (compU l b zs (zs.length - i + 1))).length) := by simp only [hr13]
          refine tr_wk (s' := mk [(0, .p none (.sl false 4 (pvE l))), (2, .p none (.v (.bool b))), (7, .sl 1400 0 ((pvI zs).length)), (8, .sl 5600 0 ((pvE (compU l b zs (zs.length - i + 1))).length)), (9, .p none (.v (.int .i64 ((i:Int) - 1)))), (38, .p none (.v (.string e2.user))), (39, .ptr 10 0), (40, .ptr 10 0), (41, .p none (.v (.string e.user))), (42, .p none (.v (.bool (decide (e2.user = e.user))))), (49, .p none (.v (.bool false)))] [(10, [.p none (.v (.string e.user)), .p none (.v (.int .i64 e.seq)), .p none (.v (.int .i64 e.kind)), .p none (.v (.string e.value))])] [(1400, 1, pvI zs), (5600, 4, pvE (compU l b zs (zs.length - i + 1)))]) ?_ ?_
          · exact wk_mk ⟨rfl, ⟨rfl, ⟨rfl, ⟨hp14, ⟨rfl, ⟨rfl, ⟨rfl, ⟨rfl, ⟨rfl, ⟨rfl, ⟨rfl, trivial⟩⟩⟩⟩⟩⟩⟩⟩⟩⟩⟩ ⟨rfl, trivial⟩ ⟨rfl, ⟨(congrArg (fun x => some (4, x)) hr13), trivial⟩⟩ rfl
          refine tr_region rfl (.run [] [] rfl (st_move rfl) (.run [] [] rfl (st_subn rfl rfl rfl (by omega)) (.run [] [] rfl (st_assign rfl) .nil))) ?_
          refine nxt (Q := fun _ _ => False) (z := i) (i - 1) ?_ ?_ ?_
          · show (i - 1) ≤ zs.length
            omega
          · show (i - 1) < i
            omega
          · exact (wk_ren 5600 1 rfl rfl (by decide)).trans (wk_mk ⟨rfl, ⟨rfl, ⟨rfl, ⟨(congrArg (fun k => AV.sl 1 0 (pvE (compU l b zs k)).length) (show zs.length - i + 1 = zs.length - (i - 1) by omega)), ⟨(int_eq (by omega)), trivial⟩⟩⟩⟩⟩ trivial ⟨(congrArg (fun x => some (4, x)) (by rw [show zs.length - (i - 1) = zs.length - i + 1 by omega])), ⟨rfl, trivial⟩⟩ rfl)
        · have h12' := h12
          refine tr_region rfl (.run [] [] rfl (st_faddr_box rfl rfl Try.underlying44 rfl Try.sizeOf42 (by decide)) (.run [] [] rfl (st_faddr_box rfl rfl Try.underlying42 rfl Try.sizeOf2 (by decide)) (.run [] [] rfl (st_load_box1 rfl rfl rfl Try.isAgg2 rfl) (.run [] [] rfl (st_eq (st_eql rfl rfl rfl) (by exact congrArg (fun b => AV.p none (.v (.bool b))) h9)) (.run [] [] rfl (st_move rfl) (.run [] [] rfl (st_eq (st_move rfl) (by exact congrArg (fun b => AV.p none (.v (.bool b))) h12)) (.run [] [] rfl (st_pick (t := true) rfl rfl) (.run [] [] rfl (st_move rfl) (.run [] [] rfl (st_move rfl) (.run [] [] rfl (st_not (b := decide (e2.user = e.user)) rfl rfl) (.run [] [] rfl (st_pick (t := true) rfl rfl) .nil))))))))))) ?_
          refine tr_if (t := (!(decide (e2.user = e.user)))) rfl (fun h15 => ?_) (fun h15 => ?_)
          · skip
            replace h15 : ¬ (e2.user = e.user) := of_decide_eq_false (bnot_t h15)
            refine tr_exit ?_
            refine tr_region rfl (.run [] [] rfl (st_move rfl) (.run [] [] rfl (st_subn rfl rfl rfl (by omega)) (.run [] [] rfl (st_assign rfl) .nil))) ?_
            refine nxt (Q := fun _ _ => False) (z := i) (i - 1) ?_ ?_ ?_
            · show (i - 1) ≤ zs.length
              omega
            · show (i - 1) < i
              omega
            · exact wk_mk ⟨rfl, ⟨rfl, ⟨rfl, ⟨(congrArg (fun x => AV.sl 1 0 (pvE x).length) (by rw [show zs.length - (i - 1) = zs.length - i + 1 by omega, hstep, cstep_drop h12' h9' ((older_at he2).trans (decide_eq_false h15))])), ⟨(int_eq (by omega)), trivial⟩⟩⟩⟩⟩ trivial ⟨(congrArg (fun x => some (4, x)) (by rw [show zs.length - (i - 1) = zs.length - i + 1 by omega, hstep, cstep_drop h12' h9' ((older_at he2).trans (decide_eq_false h15))])), ⟨rfl, trivial⟩⟩ rfl
          · skip
            replace h15 : e2.user = e.user := of_decide_eq_true (bnot_f h15)
            refine tr_skip ?_
            refine tr_region rfl (.run [] [] rfl (st_load_box rfl rfl rfl Try.isAgg44 Try.sizeOf44 (nle rfl)) (.run [5600] [] rfl (st_buildSlice rfl 5600 Try.underlying26 inf44 (nle rfl) (by decide) rfl rfl rfl (.cons .v (.cons .v (.cons .v (.cons .v .nil)))) (by decide) rfl (by decide) rfl (by decide) rfl) (.run [] [] rfl (st_move rfl) (.run [5600] [] rfl (st_append rfl 5600 (ib := 5600) (len := ([[PV.v (.string e.user), PV.v (.int .i64 e.seq), PV.v (.int .i64 e.kind), PV.v (.string e.value)]] ++ (pvE (compU l b zs (zs.length - i)))).length) rfl rfl (.row (len := 1) (xs := [[PV.v (.string e.user), PV.v (.int .i64 e.seq), PV.v (.int .i64 e.kind), PV.v (.string e.value)]]) rfl rfl (.inl rfl)) (.give (len := (pvE (compU l b zs (zs.length - i))).length) (xs := pvE (compU l b zs (zs.length - i))) rfl rfl) Try.underlying26 (sk Try.underlying26 rfl) inf44 rfl (by decide) (by decide) (by decide) List.length_append (by simp only [maxLen, List.length_append, List.length_map, List.length_cons, List.length_nil, List.length_take, List.length_drop, pvE_length, pvI_length, pvT_length]; omega) (by simp only [maxLen, List.length_append, List.length_map, List.length_cons, List.length_nil, List.length_take, List.length_drop, pvE_length, pvI_length, pvT_length]; omega)) (.run [] [] rfl (st_assign rfl) .nil))))) ?_
            have hr16 : [[PV.v (.string e.user), PV.v (.int .i64 e.seq), PV.v (.int .i64 e.kind), PV.v (.string e.value)]] ++ (pvE (compU l b zs (zs.length - i))) = pvE (compU l b zs (zs.length - i + 1)) := by rw [hstep, cstep_keep (fun hc => by rw [((older_at he2).trans (decide_eq_true h15))] at hc; cases hc.2.2)]; rfl
            have hp17 : (.sl 5600 0 (([[PV.v (.string e.user), PV.v (.int .i64 e.seq), PV.v (.int .i64 e.kind), PV.v (.string e.value)]] ++ (pvE (compU l b zs (zs.length - i)))).length) : AV) = .sl 5600 0 ((pvE (compU l b zs (zs.length - i + 1))).length) := by simp only [hr16]
            refine tr_wk (s' := mk [(0, .p none (.sl false 4 (pvE l))), (2, .p none (.v (.bool b))), (7, .sl 1400 0 ((pvI zs).length)), (8, .sl 5600 0 ((pvE (compU l b zs (zs.length - i + 1))).length)), (9, .p none (.v (.int .i64 ((i:Int) - 1)))), (38, .p none (.v (.string e2.user))), (39, .ptr 10 0), (40, .ptr 10 0), (41, .p none (.v (.string e.user))), (42, .p none (.v (.bool (decide (e2.user = e.user))))), (49, .p none (.v (.bool true))), (52, .p none (.v (.bool (decide (e2.user = e.user))))), (53, .p none (.v (.bool (!(decide (e2.user = e.user))))))] [(10, [.p none (.v (.string e.user)), .p none (.v (.int .i64 e.seq)), .p none (.v (.int .i64 e.kind)), .p none (.v (.string e.value))])] [(1400, 1, pvI zs), (5600, 4, pvE (compU l b zs (zs.length - i + 1)))]) ?_ ?_
            · exact wk_mk ⟨rfl, ⟨rfl, ⟨rfl, ⟨hp17, ⟨rfl, ⟨rfl, ⟨rfl, ⟨rfl, ⟨rfl, ⟨rfl, ⟨rfl, ⟨rfl, ⟨rfl, trivial⟩⟩⟩⟩⟩⟩⟩⟩⟩⟩⟩⟩⟩ ⟨rfl, trivial⟩ ⟨rfl, ⟨(congrArg (fun x => some (4, x)) hr16), trivial⟩⟩ rfl
            refine tr_region rfl (.run [] [] rfl (st_move rfl) (.run [] [] rfl (st_subn rfl rfl rfl (by omega)) (.run [] [] rfl (st_assign rfl) .nil))) ?_
            refine nxt (Q := fun _ _ => False) (z := i) (i - 1) ?_ ?_ ?_
            · show (i - 1) ≤ zs.length
              omega
            · show (i - 1) < i
              omega
            · exact (wk_ren 5600 1 rfl rfl (by decide)).trans (wk_mk ⟨rfl, ⟨rfl, ⟨rfl, ⟨(congrArg (fun k => AV.sl 1 0 (pvE (compU l b zs k)).length) (show zs.length - i + 1 = zs.length - (i - 1) by omega)), ⟨(int_eq (by omega)), trivial⟩⟩⟩⟩⟩ trivial ⟨(congrArg (fun x => some (4, x)) (by rw [show zs.length - (i - 1) = zs.length - i + 1 by omega])), ⟨rfl, trivial⟩⟩ rfl)
  · skip
    replace h1 := of_decide_eq_false h1
    refine tr_exit ?_
    refine tr_seq ?_
    refine tr_region rfl (.run [] [] rfl (st_move rfl) (.run [] [] rfl (st_assign rfl) .nil)) ?_
    have hr18 : pvE (compU l b zs (zs.length - i)) = pvE (compU l b zs zs.length) := by rw [show i = 0 by omega, Nat.sub_zero]
    have hp19 : (.sl 1 0 ((pvE (compU l b zs (zs.length - i))).length) : AV) = .sl 1 0 ((pvE (compU l b zs zs.length)).length) := by simp only [hr18]
    refine tr_wk (s' := mk [(6, .sl 1 0 ((pvE (compU l b zs zs.length)).length))] [] [(1, 4, pvE (compU l b zs zs.length))]) ?_ ?_
    · exact wk_mk ⟨hp19, trivial⟩ trivial ⟨(congrArg (fun x => some (4, x)) hr18), trivial⟩ rfl
    refine tr_ret ?_
    exact ends [_] [1] (.cons (.tmp rfl) .nil) (.cons (.one (.row (len := (pvE (compU l b zs zs.length)).length) (xs := pvE (compU l b zs zs.length)) rfl rfl) (.sl _ _ (FlatP.clean (pvE_flat _)))) .nil) (by decide) trivial
end Go.Rl
namespace Go.Proofs
open Go.RowKit Go.Shelf
attribute [local go_sem] Oper.semAt_some
set_option maxRecDepth 100000 in
set_option maxHeartbeats 2000000 in
theorem Bw.back1_in (F : Fence) (n : Nat) (h7 : F.fn 171) (hro : F.round = none) (hn : 1 ≤ n) (l Bs : Nat) (zs : List Int) (hreach : zs.length ≤ 1000000000) (J Jx : List (Fin zs.length) → World → Prop)
    (hY : ∀ pre x W, J pre W → pre.length < zs.length → YieldAt F (n - 1) Try.prog l (Bw.enc zs x) W fun e W' =>
      (e = .returned (.bool true) ∧ J (pre ++ [x]) W' ∧ (Bw.Reads Bs zs W → Bw.Reads Bs zs W')) ∨ (e = .returned (.bool false) ∧ Jx (pre ++ [x]) W'))
    (W : World) (hR : Bw.Reads Bs zs W) (h0 : J [] W) :
    CallsIn F n Try.prog 171 #[.func (.yield l) #[] #[], .pointer (some ⟨Bs, 0, none⟩)] W fun e W' => (∃ v, e = .returned v) ∧
      ((∃ ys, ys = Bw.upto zs zs.length ∧ J ys W') ∨ (∃ pre, True ∧ Jx pre W')) := by
  obtain ⟨a, len, cap, hbox, hlen⟩ : ∃ a len cap, W.cell? ⟨Bs, 0, none⟩ = some (.slice a len cap) ∧ len = zs.length := by
    rcases hR with ⟨⟨A, c, h⟩, rfl⟩ | ⟨b, off, cap, h, _⟩
    · exact ⟨_, _, _, h, rfl⟩
    · exact ⟨_, _, _, h, rfl⟩
  subst hlen
  refine callsIn_of_wp Try.func171 rfl h7 ?_ hro
  simp only [Try.ntmps171, List.size_toArray, List.length_cons, List.length_nil, Nat.reduceAdd, Nat.reduceSub, Array.replicate_succ, Array.replicate_zero, List.push_toArray, List.append_toArray, List.nil_append, List.cons_append]
  gi_wp2
  gi_loopw [3] (fun i wr => ∃ k : Nat, k ≤ zs.length ∧ i = .int .i64 ((zs.length : Int) - 1 - k) ∧ J (Bw.upto zs k) wr ∧ Bw.Reads Bs zs wr)
    (fun i _ => (intOf i + 1).toNat)
  case atStart => exact ⟨0, Nat.zero_le _, by simp, h0, hR⟩
  case round =>
    obtain ⟨k, hk, rfl, hJs, hnx⟩ := hrel
    by_cases hlt : k < zs.length
    · have hd : zs.length - 1 - k < zs.length := by omega
      obtain ⟨m, z, x, hml, hmi, hmu, hmx, hmc⟩ : ∃ (m : Nat) (z : Int) (x : Fin zs.length), m < zs.length ∧ ((zs.length : Int) - 1 - k) = (m : Int) ∧ Bw.upto zs (k + 1) = Bw.upto zs k ++ [x] ∧ Bw.enc zs x = #[.int .i64 (m : Int), .int .i64 z] ∧ zs[m]? = some z :=
        ⟨zs.length - 1 - k, zs[zs.length - 1 - k]'hd, ⟨zs.length - 1 - k, hd⟩, hd, by omega, Bw.upto_succ zs k hd, rfl, List.getElem?_eq_getElem hd⟩
      have hYx := hY _ x wr hJs (by rw [Bw.upto_length zs k hk]; exact hlt)
      rw [hmx] at hYx
      obtain ⟨fn, tmps, assign, body, hy, hRr⟩ := hYx
      obtain ⟨b, off, cap, hbx, hcs⟩ : ∃ b off cap, wr.cell? ⟨Bs, 0, none⟩ = some (.slice (some ⟨b, off, none⟩) zs.length cap) ∧ ∀ (j : Nat) (z : Int), zs[j]? = some z → wr.cell? ⟨b, off + j, none⟩ = some (.int .i64 z) := by
        rcases hnx with ⟨_, h⟩ | h
        · rw [h] at hlt; simp at hlt
        · exact h
      have hcx := hcs m _ hmc
      clear hmc hcs
      rw [hmi]
      gi_wp2
      refine hRr.mono ?_
      rintro e W3 (⟨rfl, hJ3, hk3⟩ | ⟨rfl, hJx3⟩)
      · gi_wp2
        go_roundw
        case rel => exact ⟨k + 1, by omega, by simp; omega, by rw [hmu]; exact hJ3, hk3 hnx⟩
        case measure => simp [intOf]
      · gi_wp2
        refine bodyPost_ret (results_none rfl _ _ _) rfl ?_
        exact ⟨⟨_, rfl⟩, .inr ⟨_, trivial, hJx3⟩⟩
    · obtain rfl : k = zs.length := by omega
      gi_wp2
      go_end0
      exact ⟨⟨_, rfl⟩, .inl ⟨_, rfl, hJs⟩⟩
theorem Bw.try : Bw.Contract Try.prog 171 := fun F n h7 hro hn l Bs zs hreach J Jx hY W hR h0 => Bw.back1_in F n h7 hro hn l Bs zs hreach J Jx hY W hR h0
end Go.Proofs
namespace Go.Rl
open Go.Proofs
theorem inf26 : (Try.prog.info? 26).map (fun i => (i.zero, i.size, i.bytes)) = some (some (.slice none 0 0), 1, 24) := by kernel_rfl
theorem en171 : ∀ vs w, (callFunc 171 vs).run Try.prog w = .ok (.enter 171 vs) w := enters Try.func171 (by decide) rfl
theorem en141 : ∀ vs w, (callFunc 141 vs).run Try.prog w = .ok (.enter 141 vs) w := enters Try.func141 (by decide) rfl
theorem en142 : ∀ vs w, (callFunc 142 vs).run Try.prog w = .ok (.enter 142 vs) w := enters Try.func142 (by decide) rfl
theorem en85 : ∀ vs w, (callFunc 85 vs).run Try.prog w = .ok (.enter 85 vs) w := enters Try.func85 (by decide) rfl
theorem en81 : ∀ vs w, (callFunc 81 vs).run Try.prog w = .ok (.enter 81 vs) w := enters Try.func81 (by decide) rfl
set_option maxRecDepth 1000000 in
set_option maxHeartbeats 2000000 in
theorem backward_con (zs : List Int) : ConS Try.prog 141 [.one (PV.sl false 1 (pvI zs))] [.one (.clo 171 [[PV.sl false 1 (pvI zs)]])] := by
  refine con_of_trS Try.func141 rfl rfl rfl rfl ?_
  refine tr_seq ?_
  refine tr_region rfl (.run [] [1] rfl (st_box rfl 1 rfl rfl (by decide) rfl (by decide)) (.run [] [] rfl (st_assign rfl) .nil)) ?_
  refine tr_seq ?_
  refine tr_region rfl (.run [] [] rfl (st_func (bs := [1]) rfl rfl) (.run [] [] rfl (st_assign rfl) .nil)) ?_
  refine tr_wk (wk_frb 1 rfl rfl) ?_
  refine tr_wk (s' := mk [(2, .p none (.clo 171 [[PV.sl false 1 (pvI zs)]]))] [] []) ?_ ?_
  · exact wk_mk ⟨rfl, trivial⟩ trivial trivial rfl
  refine tr_ret ?_
  exact endsS [_] [] (.cons (.tmp rfl) .nil) (.cons (.one (.of .clo)) .nil) (by decide)
set_option maxRecDepth 1000000 in
set_option maxHeartbeats 2000000 in
theorem compacted_con (l : List Ent) (s : List Int) (b : Bool) (zs : List Int) (hzs : zs = needF l (pointsF s) l.length) (hl : l.length ≤ 2000000) (hs : s.length ≤ 2000000) (hok : entsOk l = true) : ConSG none Try.prog 81 [.one (PV.sl false 4 (pvE l)), .one (PV.sl false 1 (pvI s)), .one (.v (.bool b))] [] [.one (.sl true 4 (pvE (compU l b zs zs.length)))] := by
  have hle := pvE_length l
  have hls := pvI_length s
  have hlz := pvI_length zs
  have hzl : zs.length ≤ l.length := by rw [hzs]; exact needF_len _ _ _
  refine con_of_trR Try.func81 rfl rfl rfl rfl ?_
  refine trR_seq ?_
  refine tr_region rfl (.run [] [3] rfl (st_box rfl 3 rfl rfl (by decide) rfl (by decide)) (.run [] [5] rfl (st_box rfl 5 rfl rfl (by decide) rfl (by decide)) (.run [] [] rfl (st_assign rfl) .nil))) ?_
  refine trR_seq ?_
  refine tr_region rfl (.run [1400] [] rfl (st_buildSlice rfl 1400 Try.underlying26 inf44 (nle rfl) (by decide) rfl rfl rfl .nil (by decide) rfl (by decide) rfl (by decide) rfl) (.run [] [7] rfl (st_allocZ rfl 7 inf26 rfl (by decide) rfl (by decide)) (.run [] [8] rfl (st_allocZ rfl 8 inf9 rfl (by decide) rfl (by decide)) (.run [] [9] rfl (st_allocZ rfl 9 inf4 rfl (by decide) rfl (by decide)) (.run [] [] rfl (st_store_box rfl rfl rfl rfl rfl Try.sizeOf26 rfl (nle rfl)) (.run [] [] rfl (st_store_box rfl rfl rfl rfl rfl Try.sizeOf9 rfl (nle rfl)) (.run [] [] rfl (st_store_box rfl rfl rfl rfl rfl Try.sizeOf4 rfl (nle rfl)) .nil))))))) ?_
  refine trR_backward' Bw.try en171 (zs := zs) (o := false) (by omega) (fun pre => mk [(3, .ptr 3 0), (5, .ptr 5 0), (7, .ptr 7 0), (8, .ptr 8 0), (9, .ptr 9 0), (18, .p none (.clo 171 [[PV.sl false 1 (pvI zs)]]))] [(3, [.p none (.sl false 4 (pvE l))]), (5, [.p none (.v (.bool b))]), (7, [.sl 1400 0 ((pvE (compP l b zs pre).reverse).length)]), (8, [.p none (.v (.string (lastU (compP l b zs pre))))]), (9, [.p none (.v (.bool (anyE (compP l b zs pre))))])] [(1400, 4, pvE (compP l b zs pre).reverse)]) (fun pre x => St.bw (mk [(3, .ptr 3 0), (5, .ptr 5 0), (7, .ptr 7 0), (8, .ptr 8 0), (9, .ptr 9 0), (18, .p none (.clo 171 [[PV.sl false 1 (pvI zs)]]))] [(3, [.p none (.sl false 4 (pvE l))]), (5, [.p none (.v (.bool b))]), (7, [.sl 1400 0 ((pvE (compP l b zs pre).reverse).length)]), (8, [.p none (.v (.string (lastU (compP l b zs pre))))]), (9, [.p none (.v (.bool (anyE (compP l b zs pre))))])] [(1400, 4, pvE (compP l b zs pre).reverse)]) 19 20 11 zs x) (fun j => Nat.ble j 9 || Nat.beq j 18) (asgT 20 11) (fun pre => rfl) (fun l nn a0 W K hK => wpIn_asgT rfl rfl rfl a0 W K hK) (fun pre x w0 I L a W hd h => rel_bw hd h (Nat.le_of_ble_eq_true rfl) (Nat.le_of_ble_eq_true rfl) (Nat.le_of_ble_eq_true rfl)) (fun a x => keeps_bw rfl rfl rfl) ?_ ?_ ?_
  · intro l0 nn pre x hpl
    show TrI _ _ _ _ _ _ _ (St.bw (mk [(3, .ptr 3 0), (5, .ptr 5 0), (7, .ptr 7 0), (8, .ptr 8 0), (9, .ptr 9 0), (18, .p none (.clo 171 [[PV.sl false 1 (pvI zs)]]))] [(3, [.p none (.sl false 4 (pvE l))]), (5, [.p none (.v (.bool b))]), (7, [.sl 1400 0 ((pvE (compP l b zs pre).reverse).length)]), (8, [.p none (.v (.string (lastU (compP l b zs pre))))]), (9, [.p none (.v (.bool (anyE (compP l b zs pre))))])] [(1400, 4, pvE (compP l b zs pre).reverse)]) 19 20 11 zs x) (fun e s' => e = .normal ∧ Wk _ (s'.keepT _) (mk [(3, .ptr 3 0), (5, .ptr 5 0), (7, .ptr 7 0), (8, .ptr 8 0), (9, .ptr 9 0), (18, .p none (.clo 171 [[PV.sl false 1 (pvI zs)]]))] [(3, [.p none (.sl false 4 (pvE l))]), (5, [.p none (.v (.bool b))]), (7, [.sl 1400 0 ((pvE (compP l b zs (pre ++ [x])).reverse).length)]), (8, [.p none (.v (.string (lastU (compP l b zs (pre ++ [x])))))]), (9, [.p none (.v (.bool (anyE (compP l b zs (pre ++ [x])))))])] [(1400, 4, pvE (compP l b zs (pre ++ [x])).reverse)]))
    have hx0 : zs[x.1]? = some (zs[x.1]'x.2) := List.getElem?_eq_getElem x.2
    obtain ⟨q, hq, hql⟩ : ∃ q : Nat, zs[x.1]'x.2 = (q : Int) ∧ q < l.length := by have hm : zs[x.1]'x.2 ∈ needF l (pointsF s) l.length := (by rw [← hzs]; exact List.mem_of_getElem? hx0); obtain ⟨k, h1, _, h3⟩ := needF_bnd (n := l.length) hm; exact ⟨k, h1, h3⟩
    obtain ⟨e, he⟩ : ∃ e, l[q]? = some e := ⟨_, List.getElem?_eq_getElem hql⟩
    have hc0 : compP l b zs (pre ++ [x]) = cstep b (compP l b zs pre) e := compP_snoc l b zs pre x (by rw [hq]; exact he)
    rw [hc0]
    have hol := compP_len l b zs pre
    generalize compP l b zs pre = out at hol ⊢
    have hle5 := pvE_length out.reverse
    have hle6 : out.reverse.length = out.length := List.length_reverse
    refine tri_wk (s' := mk [(3, .ptr 3 0), (5, .ptr 5 0), (7, .ptr 7 0), (8, .ptr 8 0), (9, .ptr 9 0), (11, .p none (.v (.int .i64 (q:Int)))), (18, .p none (.clo 171 [[PV.sl false 1 (pvI zs)]]))] [(3, [.p none (.sl false 4 (pvE l))]), (5, [.p none (.v (.bool b))]), (7, [.sl 1400 0 ((pvE out.reverse).length)]), (8, [.p none (.v (.string (lastU out)))]), (9, [.p none (.v (.bool (anyE out)))])] [(1400, 4, pvE out.reverse)]) (wk_mk ⟨rfl, ⟨rfl, ⟨rfl, ⟨rfl, ⟨rfl, ⟨(int_eq hq), ⟨rfl, trivial⟩⟩⟩⟩⟩⟩⟩ ⟨rfl, ⟨rfl, ⟨rfl, ⟨rfl, ⟨rfl, trivial⟩⟩⟩⟩⟩ ⟨rfl, trivial⟩ rfl) ?_
    refine tri_block ?_
    refine tri_seq ?_
    refine tri_region rfl rfl (.run [] [] rfl (st_load_box1 rfl rfl rfl Try.isAgg26 rfl) (.run [] [] rfl (st_move rfl) (.run [] [] rfl (st_idx_fro rfl rfl rfl Try.underlying26 Try.sizeOf44 rfl (by omega) (pvE_get he)) (.run [] [] rfl (st_load_fea rfl rfl Try.isAgg44 Try.sizeOf44 (nle rfl)) (.run [] [12] rfl (st_allocZ rfl 12 inf44 rfl (by decide) rfl (by decide)) (.run [] [] rfl (st_store_box rfl rfl rfl rfl rfl Try.sizeOf44 rfl (nle rfl)) .nil)))))) ?_
    refine tri_seq ?_
    rcases bfc (anyE out) with h1 | h1
    · have h1' := h1
      refine tri_region rfl rfl (.run [] [] rfl (st_eq (st_load_box1 rfl rfl rfl Try.isAgg4 rfl) (by exact congrArg (fun b => AV.p none (.v (.bool b))) h1)) (.run [] [] rfl (st_move rfl) (.not rfl (.not rfl (.not rfl (.not rfl (.not rfl (.run [] [] rfl (st_pick (t := false) rfl rfl) (.run [] [] rfl (st_assign rfl) .nil))))))))) ?_
      refine tri_seq ?_
      refine tri_seq ?_
      refine tri_wk (s' := mk [(3, .ptr 3 0), (5, .ptr 5 0), (7, .ptr 7 0), (8, .ptr 8 0), (9, .ptr 9 0), (12, .ptr 12 0), (13, .p none (.v (.bool false))), (18, .p none (.clo 171 [[PV.sl false 1 (pvI zs)]]))] [(3, [.p none (.sl false 4 (pvE l))]), (5, [.p none (.v (.bool b))]), (7, [.sl 1400 0 ((pvE out.reverse).length)]), (8, [.p none (.v (.string (lastU out)))]), (9, [.p none (.v (.bool (anyE out)))]), (12, [.p none (.v (.string e.user)), .p none (.v (.int .i64 e.seq)), .p none (.v (.int .i64 e.kind)), .p none (.v (.string e.value))])] [(1400, 4, pvE out.reverse)]) ?_ ?_
      · exact wk_mk ⟨rfl, ⟨rfl, ⟨rfl, ⟨rfl, ⟨rfl, ⟨rfl, ⟨rfl, ⟨rfl, trivial⟩⟩⟩⟩⟩⟩⟩⟩ ⟨rfl, ⟨rfl, ⟨rfl, ⟨rfl, ⟨rfl, ⟨rfl, trivial⟩⟩⟩⟩⟩⟩ ⟨rfl, trivial⟩ rfl
      rcases bfc b with h2 | h2
      · have h2' := h2
        refine tri_region rfl rfl (.run [] [] rfl (st_eq (st_load_box1 rfl rfl rfl Try.isAgg4 rfl) (by exact congrArg (fun b => AV.p none (.v (.bool b))) h2)) (.run [] [] rfl (st_move rfl) (.not rfl (.not rfl (.not rfl (.not rfl (.run [] [] rfl (st_pick (t := false) rfl rfl) (.run [] [] rfl (st_move rfl) (.not rfl (.not rfl (.run [] [] rfl (st_pick (t := false) rfl rfl) .nil))))))))))) ?_
        refine tri_if (t := false) rfl (fun h => nomatch h) (fun _ => ?_)
        refine tri_skip ?_
        refine tri_wk (s' := mk [(3, .ptr 3 0), (5, .ptr 5 0), (7, .ptr 7 0), (8, .ptr 8 0), (9, .ptr 9 0), (12, .ptr 12 0), (18, .p none (.clo 171 [[PV.sl false 1 (pvI zs)]]))] [(3, [.p none (.sl false 4 (pvE l))]), (5, [.p none (.v (.bool b))]), (7, [.sl 1400 0 ((pvE out.reverse).length)]), (8, [.p none (.v (.string (lastU out)))]), (9, [.p none (.v (.bool (anyE out)))]), (12, [.p none (.v (.string e.user)), .p none (.v (.int .i64 e.seq)), .p none (.v (.int .i64 e.kind)), .p none (.v (.string e.value))])] [(1400, 4, pvE out.reverse)]) ?_ ?_
        · exact wk_mk ⟨rfl, ⟨rfl, ⟨rfl, ⟨rfl, ⟨rfl, ⟨rfl, ⟨rfl, trivial⟩⟩⟩⟩⟩⟩⟩ ⟨rfl, ⟨rfl, ⟨rfl, ⟨rfl, ⟨rfl, ⟨rfl, trivial⟩⟩⟩⟩⟩⟩ ⟨rfl, trivial⟩ rfl
        refine tri_regionD rfl mixed rfl (.run [] [] rfl (st_load_box1 rfl rfl rfl Try.isAgg26 rfl) (.run [] [] rfl (st_load_box rfl rfl rfl Try.isAgg44 Try.sizeOf44 (nle rfl)) (.run [4600] [] rfl (st_buildSlice rfl 4600 Try.underlying26 inf44 (nle rfl) (by decide) rfl rfl rfl (.cons .v (.cons .v (.cons .v (.cons .v .nil)))) (by decide) rfl (by decide) rfl (by decide) rfl) (.run [1400] [] rfl (st_append rfl 1400 (ib := 1400) (len := ((pvE out.reverse) ++ [[PV.v (.string e.user), PV.v (.int .i64 e.seq), PV.v (.int .i64 e.kind), PV.v (.string e.value)]]).length) rfl rfl (.row (len := (pvE out.reverse).length) (xs := pvE out.reverse) rfl rfl (.inl rfl)) (.give (len := 1) (xs := [[PV.v (.string e.user), PV.v (.int .i64 e.seq), PV.v (.int .i64 e.kind), PV.v (.string e.value)]]) rfl rfl) Try.underlying26 (sk Try.underlying26 rfl) inf44 rfl (by decide) (by decide) (by decide) List.length_append (by simp only [maxLen, List.length_append, List.length_map, List.length_cons, List.length_nil, List.length_take, List.length_drop, pvE_length, pvI_length, pvT_length]; omega) (by simp only [maxLen, List.length_append, List.length_map, List.length_cons, List.length_nil, List.length_take, List.length_drop, pvE_length, pvI_length, pvT_length]; omega)) (.run [] [] rfl (st_faddr_box rfl rfl Try.underlying44 rfl Try.sizeOf42 (by decide)) (.run [] [] rfl (st_faddr_box rfl rfl Try.underlying42 rfl Try.sizeOf9 (by decide)) (.run [] [] rfl (st_load_box1 rfl rfl rfl Try.isAgg9 rfl) (.run [] [] rfl (st_store_box rfl rfl rfl rfl rfl Try.sizeOf26 rfl (nle rfl)) (.run [] [] rfl (st_store_box rfl rfl rfl rfl rfl Try.sizeOf9 rfl (nle rfl)) (.run [] [] rfl (st_store_box rfl rfl rfl rfl rfl Try.sizeOf4 rfl (nle rfl)) .nil)))))))))) (by kernel_rfl) ?_
        refine ⟨rfl, ?_⟩
        rw [cstep_keep (fun hc => by rw [h2'] at hc; cases hc.1)]
        exact wk_mk ⟨rfl, ⟨rfl, ⟨rfl, ⟨rfl, ⟨rfl, ⟨rfl, trivial⟩⟩⟩⟩⟩⟩ ⟨rfl, ⟨rfl, ⟨(congrArg (fun x : List (List PV) => some [AV.sl 1400 0 x.length]) (pvE_consr out e)), ⟨rfl, ⟨rfl, trivial⟩⟩⟩⟩⟩ ⟨(congrArg (fun x => some (4, x)) (pvE_consr out e)), trivial⟩ rfl
      · have h2' := h2
        rcases bfc (decide (e.kind = 0)) with h3 | h3
        · have h3' := h3
          replace h3' := of_decide_eq_false h3'
          refine tri_region rfl rfl (.run [] [] rfl (st_eq (st_load_box1 rfl rfl rfl Try.isAgg4 rfl) (by exact congrArg (fun b => AV.p none (.v (.bool b))) h2)) (.run [] [] rfl (st_move rfl) (.run [] [] rfl (st_faddr_box rfl rfl Try.underlying44 rfl Try.sizeOf42 (by decide)) (.run [] [] rfl (st_faddr_box rfl rfl Try.underlying42 rfl Try.sizeOf2 (by decide)) (.run [] [] rfl (st_load_box1 rfl rfl rfl Try.isAgg2 rfl) (.run [] [] rfl (st_eq (st_eql rfl rfl rfl) (by exact congrArg (fun b => AV.p none (.v (.bool b))) h3)) (.run [] [] rfl (st_pick (t := true) rfl rfl) (.run [] [] rfl (st_move rfl) (.not rfl (.not rfl (.run [] [] rfl (st_pick (t := false) rfl rfl) .nil))))))))))) ?_
          refine tri_if (t := false) rfl (fun h => nomatch h) (fun _ => ?_)
          refine tri_skip ?_
          refine tri_wk (s' := mk [(3, .ptr 3 0), (5, .ptr 5 0), (7, .ptr 7 0), (8, .ptr 8 0), (9, .ptr 9 0), (12, .ptr 12 0), (18, .p none (.clo 171 [[PV.sl false 1 (pvI zs)]]))] [(3, [.p none (.sl false 4 (pvE l))]), (5, [.p none (.v (.bool b))]), (7, [.sl 1400 0 ((pvE out.reverse).length)]), (8, [.p none (.v (.string (lastU out)))]), (9, [.p none (.v (.bool (anyE out)))]), (12, [.p none (.v (.string e.user)), .p none (.v (.int .i64 e.seq)), .p none (.v (.int .i64 e.kind)), .p none (.v (.string e.value))])] [(1400, 4, pvE out.reverse)]) ?_ ?_
          · exact wk_mk ⟨rfl, ⟨rfl, ⟨rfl, ⟨rfl, ⟨rfl, ⟨rfl, ⟨rfl, trivial⟩⟩⟩⟩⟩⟩⟩ ⟨rfl, ⟨rfl, ⟨rfl, ⟨rfl, ⟨rfl, ⟨rfl, trivial⟩⟩⟩⟩⟩⟩ ⟨rfl, trivial⟩ rfl
          refine tri_regionD rfl mixed rfl (.run [] [] rfl (st_load_box1 rfl rfl rfl Try.isAgg26 rfl) (.run [] [] rfl (st_load_box rfl rfl rfl Try.isAgg44 Try.sizeOf44 (nle rfl)) (.run [4600] [] rfl (st_buildSlice rfl 4600 Try.underlying26 inf44 (nle rfl) (by decide) rfl rfl rfl (.cons .v (.cons .v (.cons .v (.cons .v .nil)))) (by decide) rfl (by decide) rfl (by decide) rfl) (.run [1400] [] rfl (st_append rfl 1400 (ib := 1400) (len := ((pvE out.reverse) ++ [[PV.v (.string e.user), PV.v (.int .i64 e.seq), PV.v (.int .i64 e.kind), PV.v (.string e.value)]]).length) rfl rfl (.row (len := (pvE out.reverse).length) (xs := pvE out.reverse) rfl rfl (.inl rfl)) (.give (len := 1) (xs := [[PV.v (.string e.user), PV.v (.int .i64 e.seq), PV.v (.int .i64 e.kind), PV.v (.string e.value)]]) rfl rfl) Try.underlying26 (sk Try.underlying26 rfl) inf44 rfl (by decide) (by decide) (by decide) List.length_append (by simp only [maxLen, List.length_append, List.length_map, List.length_cons, List.length_nil, List.length_take, List.length_drop, pvE_length, pvI_length, pvT_length]; omega) (by simp only [maxLen, List.length_append, List.length_map, List.length_cons, List.length_nil, List.length_take, List.length_drop, pvE_length, pvI_length, pvT_length]; omega)) (.run [] [] rfl (st_faddr_box rfl rfl Try.underlying44 rfl Try.sizeOf42 (by decide)) (.run [] [] rfl (st_faddr_box rfl rfl Try.underlying42 rfl Try.sizeOf9 (by decide)) (.run [] [] rfl (st_load_box1 rfl rfl rfl Try.isAgg9 rfl) (.run [] [] rfl (st_store_box rfl rfl rfl rfl rfl Try.sizeOf26 rfl (nle rfl)) (.run [] [] rfl (st_store_box rfl rfl rfl rfl rfl Try.sizeOf9 rfl (nle rfl)) (.run [] [] rfl (st_store_box rfl rfl rfl rfl rfl Try.sizeOf4 rfl (nle rfl)) .nil)))))))))) (by kernel_rfl) ?_
          refine ⟨rfl, ?_⟩
          rw [cstep_keep (fun hc => h3' hc.2.1)]
          exact wk_mk ⟨rfl, ⟨rfl, ⟨rfl, ⟨rfl, ⟨rfl, ⟨rfl, trivial⟩⟩⟩⟩⟩⟩ ⟨rfl, ⟨rfl, ⟨(congrArg (fun x : List (List PV) => some [AV.sl 1400 0 x.length]) (pvE_consr out e)), ⟨rfl, ⟨rfl, trivial⟩⟩⟩⟩⟩ ⟨(congrArg (fun x => some (4, x)) (pvE_consr out e)), trivial⟩ rfl
        · have h3' := h3
          replace h3' := of_decide_eq_true h3'
          refine tri_region rfl rfl (.run [] [] rfl (st_eq (st_load_box1 rfl rfl rfl Try.isAgg4 rfl) (by exact congrArg (fun b => AV.p none (.v (.bool b))) h2)) (.run [] [] rfl (st_move rfl) (.run [] [] rfl (st_faddr_box rfl rfl Try.underlying44 rfl Try.sizeOf42 (by decide)) (.run [] [] rfl (st_faddr_box rfl rfl Try.underlying42 rfl Try.sizeOf2 (by decide)) (.run [] [] rfl (st_load_box1 rfl rfl rfl Try.isAgg2 rfl) (.run [] [] rfl (st_eq (st_eql rfl rfl rfl) (by exact congrArg (fun b => AV.p none (.v (.bool b))) h3)) (.run [] [] rfl (st_pick (t := true) rfl rfl) (.run [] [] rfl (st_move rfl) (.run [] [] rfl (st_move rfl) (.run [] [] rfl (st_not (b := false) rfl rfl) (.run [] [] rfl (st_pick (t := true) rfl rfl) .nil))))))))))) ?_
          refine tri_if (t := true) rfl (fun _ => ?_) (fun h => nomatch h)
          refine tri_exit ?_
          refine ⟨rfl, ?_⟩
          rw [cstep_drop h2' h3' (older_no h1')]
          exact wk_mk ⟨rfl, ⟨rfl, ⟨rfl, ⟨rfl, ⟨rfl, ⟨rfl, trivial⟩⟩⟩⟩⟩⟩ ⟨rfl, ⟨rfl, ⟨rfl, ⟨rfl, ⟨rfl, trivial⟩⟩⟩⟩⟩ ⟨rfl, trivial⟩ rfl
    · have h1' := h1
      refine tri_region rfl rfl (.run [] [] rfl (st_eq (st_load_box1 rfl rfl rfl Try.isAgg4 rfl) (by exact congrArg (fun b => AV.p none (.v (.bool b))) h1)) (.run [] [] rfl (st_move rfl) (.run [] [] rfl (st_faddr_box rfl rfl Try.underlying44 rfl Try.sizeOf42 (by decide)) (.run [] [] rfl (st_faddr_box rfl rfl Try.underlying42 rfl Try.sizeOf9 (by decide)) (.run [] [] rfl (st_load_box1 rfl rfl rfl Try.isAgg9 rfl) (.run [] [] rfl (st_load_box1 rfl rfl rfl Try.isAgg9 rfl) (.run [] [] rfl (st_seql rfl rfl rfl) (.run [] [] rfl (st_pick (t := true) rfl rfl) (.run [] [] rfl (st_assign rfl) .nil))))))))) ?_
      refine tri_seq ?_
      refine tri_seq ?_
      refine tri_wk (s' := mk [(3, .ptr 3 0), (5, .ptr 5 0), (7, .ptr 7 0), (8, .ptr 8 0), (9, .ptr 9 0), (12, .ptr 12 0), (13, .p none (.v (.bool (decide (e.user = (lastU out)))))), (18, .p none (.clo 171 [[PV.sl false 1 (pvI zs)]]))] [(3, [.p none (.sl false 4 (pvE l))]), (5, [.p none (.v (.bool b))]), (7, [.sl 1400 0 ((pvE out.reverse).length)]), (8, [.p none (.v (.string (lastU out)))]), (9, [.p none (.v (.bool (anyE out)))]), (12, [.p none (.v (.string e.user)), .p none (.v (.int .i64 e.seq)), .p none (.v (.int .i64 e.kind)), .p none (.v (.string e.value))])] [(1400, 4, pvE out.reverse)]) ?_ ?_
      · exact wk_mk ⟨rfl, ⟨rfl, ⟨rfl, ⟨rfl, ⟨rfl, ⟨rfl, ⟨rfl, ⟨rfl, trivial⟩⟩⟩⟩⟩⟩⟩⟩ ⟨rfl, ⟨rfl, ⟨rfl, ⟨rfl, ⟨rfl, ⟨rfl, trivial⟩⟩⟩⟩⟩⟩ ⟨rfl, trivial⟩ rfl
      rcases bfc b with h4 | h4
      · have h4' := h4
        refine tri_region rfl rfl (.run [] [] rfl (st_eq (st_load_box1 rfl rfl rfl Try.isAgg4 rfl) (by exact congrArg (fun b => AV.p none (.v (.bool b))) h4)) (.run [] [] rfl (st_move rfl) (.not rfl (.not rfl (.not rfl (.not rfl (.run [] [] rfl (st_pick (t := false) rfl rfl) (.run [] [] rfl (st_move rfl) (.not rfl (.not rfl (.run [] [] rfl (st_pick (t := false) rfl rfl) .nil))))))))))) ?_
        refine tri_if (t := false) rfl (fun h => nomatch h) (fun _ => ?_)
        refine tri_skip ?_
        refine tri_wk (s' := mk [(3, .ptr 3 0), (5, .ptr 5 0), (7, .ptr 7 0), (8, .ptr 8 0), (9, .ptr 9 0), (12, .ptr 12 0), (18, .p none (.clo 171 [[PV.sl false 1 (pvI zs)]]))] [(3, [.p none (.sl false 4 (pvE l))]), (5, [.p none (.v (.bool b))]), (7, [.sl 1400 0 ((pvE out.reverse).length)]), (8, [.p none (.v (.string (lastU out)))]), (9, [.p none (.v (.bool (anyE out)))]), (12, [.p none (.v (.string e.user)), .p none (.v (.int .i64 e.seq)), .p none (.v (.int .i64 e.kind)), .p none (.v (.string e.value))])] [(1400, 4, pvE out.reverse)]) ?_ ?_
        · exact wk_mk ⟨rfl, ⟨rfl, ⟨rfl, ⟨rfl, ⟨rfl, ⟨rfl, ⟨rfl, trivial⟩⟩⟩⟩⟩⟩⟩ ⟨rfl, ⟨rfl, ⟨rfl, ⟨rfl, ⟨rfl, ⟨rfl, trivial⟩⟩⟩⟩⟩⟩ ⟨rfl, trivial⟩ rfl
        refine tri_regionD rfl mixed rfl (.run [] [] rfl (st_load_box1 rfl rfl rfl Try.isAgg26 rfl) (.run [] [] rfl (st_load_box rfl rfl rfl Try.isAgg44 Try.sizeOf44 (nle rfl)) (.run [4600] [] rfl (st_buildSlice rfl 4600 Try.underlying26 inf44 (nle rfl) (by decide) rfl rfl rfl (.cons .v (.cons .v (.cons .v (.cons .v .nil)))) (by decide) rfl (by decide) rfl (by decide) rfl) (.run [1400] [] rfl (st_append rfl 1400 (ib := 1400) (len := ((pvE out.reverse) ++ [[PV.v (.string e.user), PV.v (.int .i64 e.seq), PV.v (.int .i64 e.kind), PV.v (.string e.value)]]).length) rfl rfl (.row (len := (pvE out.reverse).length) (xs := pvE out.reverse) rfl rfl (.inl rfl)) (.give (len := 1) (xs := [[PV.v (.string e.user), PV.v (.int .i64 e.seq), PV.v (.int .i64 e.kind), PV.v (.string e.value)]]) rfl rfl) Try.underlying26 (sk Try.underlying26 rfl) inf44 rfl (by decide) (by decide) (by decide) List.length_append (by simp only [maxLen, List.length_append, List.length_map, List.length_cons, List.length_nil, List.length_take, List.length_drop, pvE_length, pvI_length, pvT_length]; omega) (by simp only [maxLen, List.length_append, List.length_map, List.length_cons, List.length_nil, List.length_take, List.length_drop, pvE_length, pvI_length, pvT_length]; omega)) (.run [] [] rfl (st_faddr_box rfl rfl Try.underlying44 rfl Try.sizeOf42 (by decide)) (.run [] [] rfl (st_faddr_box rfl rfl Try.underlying42 rfl Try.sizeOf9 (by decide)) (.run [] [] rfl (st_load_box1 rfl rfl rfl Try.isAgg9 rfl) (.run [] [] rfl (st_store_box rfl rfl rfl rfl rfl Try.sizeOf26 rfl (nle rfl)) (.run [] [] rfl (st_store_box rfl rfl rfl rfl rfl Try.sizeOf9 rfl (nle rfl)) (.run [] [] rfl (st_store_box rfl rfl rfl rfl rfl Try.sizeOf4 rfl (nle rfl)) .nil)))))))))) (by kernel_rfl) ?_
        refine ⟨rfl, ?_⟩
        rw [cstep_keep (fun hc => by rw [h4'] at hc; cases hc.1)]
        exact wk_mk ⟨rfl, ⟨rfl, ⟨rfl, ⟨rfl, ⟨rfl, ⟨rfl, trivial⟩⟩⟩⟩⟩⟩ ⟨rfl, ⟨rfl, ⟨(congrArg (fun x : List (List PV) => some [AV.sl 1400 0 x.length]) (pvE_consr out e)), ⟨rfl, ⟨rfl, trivial⟩⟩⟩⟩⟩ ⟨(congrArg (fun x => some (4, x)) (pvE_consr out e)), trivial⟩ rfl
      · have h4' := h4
        rcases bfc (decide (e.kind = 0)) with h5 | h5
        · have h5' := h5
          replace h5' := of_decide_eq_false h5'
          refine tri_region rfl rfl (.run [] [] rfl (st_eq (st_load_box1 rfl rfl rfl Try.isAgg4 rfl) (by exact congrArg (fun b => AV.p none (.v (.bool b))) h4)) (.run [] [] rfl (st_move rfl) (.run [] [] rfl (st_faddr_box rfl rfl Try.underlying44 rfl Try.sizeOf42 (by decide)) (.run [] [] rfl (st_faddr_box rfl rfl Try.underlying42 rfl Try.sizeOf2 (by decide)) (.run [] [] rfl (st_load_box1 rfl rfl rfl Try.isAgg2 rfl) (.run [] [] rfl (st_eq (st_eql rfl rfl rfl) (by exact congrArg (fun b => AV.p none (.v (.bool b))) h5)) (.run [] [] rfl (st_pick (t := true) rfl rfl) (.run [] [] rfl (st_move rfl) (.not rfl (.not rfl (.run [] [] rfl (st_pick (t := false) rfl rfl) .nil))))))))))) ?_
          refine tri_if (t := false) rfl (fun h => nomatch h) (fun _ => ?_)
          refine tri_skip ?_
          refine tri_wk (s' := mk [(3, .ptr 3 0), (5, .ptr 5 0), (7, .ptr 7 0), (8, .ptr 8 0), (9, .ptr 9 0), (12, .ptr 12 0), (18, .p none (.clo 171 [[PV.sl false 1 (pvI zs)]]))] [(3, [.p none (.sl false 4 (pvE l))]), (5, [.p none (.v (.bool b))]), (7, [.sl 1400 0 ((pvE out.reverse).length)]), (8, [.p none (.v (.string (lastU out)))]), (9, [.p none (.v (.bool (anyE out)))]), (12, [.p none (.v (.string e.user)), .p none (.v (.int .i64 e.seq)), .p none (.v (.int .i64 e.kind)), .p none (.v (.string e.value))])] [(1400, 4, pvE out.reverse)]) ?_ ?_
          · exact wk_mk ⟨rfl, ⟨rfl, ⟨rfl, ⟨rfl, ⟨rfl, ⟨rfl, ⟨rfl, trivial⟩⟩⟩⟩⟩⟩⟩ ⟨rfl, ⟨rfl, ⟨rfl, ⟨rfl, ⟨rfl, ⟨rfl, trivial⟩⟩⟩⟩⟩⟩ ⟨rfl, trivial⟩ rfl
          refine tri_regionD rfl mixed rfl (.run [] [] rfl (st_load_box1 rfl rfl rfl Try.isAgg26 rfl) (.run [] [] rfl (st_load_box rfl rfl rfl Try.isAgg44 Try.sizeOf44 (nle rfl)) (.run [4600] [] rfl (st_buildSlice rfl 4600 Try.underlying26 inf44 (nle rfl) (by decide) rfl rfl rfl (.cons .v (.cons .v (.cons .v (.cons .v .nil)))) (by decide) rfl (by decide) rfl (by decide) rfl) (.run [1400] [] rfl (st_append rfl 1400 (ib := 1400) (len := ((pvE out.reverse) ++ [[PV.v (.string e.user), PV.v (.int .i64 e.seq), PV.v (.int .i64 e.kind), PV.v (.string e.value)]]).length) rfl rfl (.row (len := (pvE out.reverse).length) (xs := pvE out.reverse) rfl rfl (.inl rfl)) (.give (len := 1) (xs := [[PV.v (.string e.user), PV.v (.int .i64 e.seq), PV.v (.int .i64 e.kind), PV.v (.string e.value)]]) rfl rfl) Try.underlying26 (sk Try.underlying26 rfl) inf44 rfl (by decide) (by decide) (by decide) List.length_append (by simp only [maxLen, List.length_append, List.length_map, List.length_cons, List.length_nil, List.length_take, List.length_drop, pvE_length, pvI_length, pvT_length]; omega) (by simp only [maxLen, List.length_append, List.length_map, List.length_cons, List.length_nil, List.length_take, List.length_drop, pvE_length, pvI_length, pvT_length]; omega)) (.run [] [] rfl (st_faddr_box rfl rfl Try.underlying44 rfl Try.sizeOf42 (by decide)) (.run [] [] rfl (st_faddr_box rfl rfl Try.underlying42 rfl Try.sizeOf9 (by decide)) (.run [] [] rfl (st_load_box1 rfl rfl rfl Try.isAgg9 rfl) (.run [] [] rfl (st_store_box rfl rfl rfl rfl rfl Try.sizeOf26 rfl (nle rfl)) (.run [] [] rfl (st_store_box rfl rfl rfl rfl rfl Try.sizeOf9 rfl (nle rfl)) (.run [] [] rfl (st_store_box rfl rfl rfl rfl rfl Try.sizeOf4 rfl (nle rfl)) .nil)))))))))) (by kernel_rfl) ?_
          refine ⟨rfl, ?_⟩
          rw [cstep_keep (fun hc => h5' hc.2.1)]
          exact wk_mk ⟨rfl, ⟨rfl, ⟨rfl, ⟨rfl, ⟨rfl, ⟨rfl, trivial⟩⟩⟩⟩⟩⟩ ⟨rfl, ⟨rfl, ⟨(congrArg (fun x : List (List PV) => some [AV.sl 1400 0 x.length]) (pvE_consr out e)), ⟨rfl, ⟨rfl, trivial⟩⟩⟩⟩⟩ ⟨(congrArg (fun x => some (4, x)) (pvE_consr out e)), trivial⟩ rfl
        · have h5' := h5
          replace h5' := of_decide_eq_true h5'
          refine tri_region rfl rfl (.run [] [] rfl (st_eq (st_load_box1 rfl rfl rfl Try.isAgg4 rfl) (by exact congrArg (fun b => AV.p none (.v (.bool b))) h4)) (.run [] [] rfl (st_move rfl) (.run [] [] rfl (st_faddr_box rfl rfl Try.underlying44 rfl Try.sizeOf42 (by decide)) (.run [] [] rfl (st_faddr_box rfl rfl Try.underlying42 rfl Try.sizeOf2 (by decide)) (.run [] [] rfl (st_load_box1 rfl rfl rfl Try.isAgg2 rfl) (.run [] [] rfl (st_eq (st_eql rfl rfl rfl) (by exact congrArg (fun b => AV.p none (.v (.bool b))) h5)) (.run [] [] rfl (st_pick (t := true) rfl rfl) (.run [] [] rfl (st_move rfl) (.run [] [] rfl (st_move rfl) (.run [] [] rfl (st_not (b := decide (e.user = (lastU out))) rfl rfl) (.run [] [] rfl (st_pick (t := true) rfl rfl) .nil))))))))))) ?_
          refine tri_if (t := (!(decide (e.user = (lastU out))))) rfl (fun h6 => ?_) (fun h6 => ?_)
          · skip
            replace h6 : ¬ (e.user = (lastU out)) := of_decide_eq_false (bnot_t h6)
            refine tri_exit ?_
            refine ⟨rfl, ?_⟩
            rw [cstep_drop h4' h5' ((older_is h1').trans (decide_eq_false h6))]
            exact wk_mk ⟨rfl, ⟨rfl, ⟨rfl, ⟨rfl, ⟨rfl, ⟨rfl, trivial⟩⟩⟩⟩⟩⟩ ⟨rfl, ⟨rfl, ⟨rfl, ⟨rfl, ⟨rfl, trivial⟩⟩⟩⟩⟩ ⟨rfl, trivial⟩ rfl
          · skip
            replace h6 : e.user = (lastU out) := of_decide_eq_true (bnot_f h6)
            refine tri_skip ?_
            refine tri_wk (s' := mk [(3, .ptr 3 0), (5, .ptr 5 0), (7, .ptr 7 0), (8, .ptr 8 0), (9, .ptr 9 0), (12, .ptr 12 0), (18, .p none (.clo 171 [[PV.sl false 1 (pvI zs)]]))] [(3, [.p none (.sl false 4 (pvE l))]), (5, [.p none (.v (.bool b))]), (7, [.sl 1400 0 ((pvE out.reverse).length)]), (8, [.p none (.v (.string (lastU out)))]), (9, [.p none (.v (.bool (anyE out)))]), (12, [.p none (.v (.string e.user)), .p none (.v (.int .i64 e.seq)), .p none (.v (.int .i64 e.kind)), .p none (.v (.string e.value))])] [(1400, 4, pvE out.reverse)]) ?_ ?_
            · exact wk_mk ⟨rfl, ⟨rfl, ⟨rfl, ⟨rfl, ⟨rfl, ⟨rfl, ⟨rfl, trivial⟩⟩⟩⟩⟩⟩⟩ ⟨rfl, ⟨rfl, ⟨rfl, ⟨rfl, ⟨rfl, ⟨rfl, trivial⟩⟩⟩⟩⟩⟩ ⟨rfl, trivial⟩ rfl
            refine tri_regionD rfl mixed rfl (.run [] [] rfl (st_load_box1 rfl rfl rfl Try.isAgg26 rfl) (.run [] [] rfl (st_load_box rfl rfl rfl Try.isAgg44 Try.sizeOf44 (nle rfl)) (.run [4600] [] rfl (st_buildSlice rfl 4600 Try.underlying26 inf44 (nle rfl) (by decide) rfl rfl rfl (.cons .v (.cons .v (.cons .v (.cons .v .nil)))) (by decide) rfl (by decide) rfl (by decide) rfl) (.run [1400] [] rfl (st_append rfl 1400 (ib := 1400) (len := ((pvE out.reverse) ++ [[PV.v (.string e.user), PV.v (.int .i64 e.seq), PV.v (.int .i64 e.kind), PV.v (.string e.value)]]).length) rfl rfl (.row (len := (pvE out.reverse).length) (xs := pvE out.reverse) rfl rfl (.inl rfl)) (.give (len := 1) (xs := [[PV.v (.string e.user), PV.v (.int .i64 e.seq), PV.v (.int .i64 e.kind), PV.v (.string e.value)]]) rfl rfl) Try.underlying26 (sk Try.underlying26 rfl) inf44 rfl (by decide) (by decide) (by decide) List.length_append (by simp only [maxLen, List.length_append, List.length_map, List.length_cons, List.length_nil, List.length_take, List.length_drop, pvE_length, pvI_length, pvT_length]; omega) (by simp only [maxLen, List.length_append, List.length_map, List.length_cons, List.length_nil, List.length_take, List.length_drop, pvE_length, pvI_length, pvT_length]; omega)) (.run [] [] rfl (st_faddr_box rfl rfl Try.underlying44 rfl Try.sizeOf42 (by decide)) (.run [] [] rfl (st_faddr_box rfl rfl Try.underlying42 rfl Try.sizeOf9 (by decide)) (.run [] [] rfl (st_load_box1 rfl rfl rfl Try.isAgg9 rfl) (.run [] [] rfl (st_store_box rfl rfl rfl rfl rfl Try.sizeOf26 rfl (nle rfl)) (.run [] [] rfl (st_store_box rfl rfl rfl rfl rfl Try.sizeOf9 rfl (nle rfl)) (.run [] [] rfl (st_store_box rfl rfl rfl rfl rfl Try.sizeOf4 rfl (nle rfl)) .nil)))))))))) (by kernel_rfl) ?_
            refine ⟨rfl, ?_⟩
            rw [cstep_keep (fun hc => by rw [((older_is h1').trans (decide_eq_true h6))] at hc; cases hc.2.2)]
            exact wk_mk ⟨rfl, ⟨rfl, ⟨rfl, ⟨rfl, ⟨rfl, ⟨rfl, trivial⟩⟩⟩⟩⟩⟩ ⟨rfl, ⟨rfl, ⟨(congrArg (fun x : List (List PV) => some [AV.sl 1400 0 x.length]) (pvE_consr out e)), ⟨rfl, ⟨rfl, trivial⟩⟩⟩⟩⟩ ⟨(congrArg (fun x => some (4, x)) (pvE_consr out e)), trivial⟩ rfl
  · skip
    refine tr_region rfl (.run [] [] rfl (st_load_box1 rfl rfl rfl Try.isAgg26 rfl) (.run [] [] rfl (st_move rfl) (.run [1700] [] rfl (st_callS rfl 1700 (X := []) en74 rfl (.cons (.one .sl) (.cons (.one .sl) .nil)) (by decide) all_nil (con_frz (by have h := needed_con l s (by omega) (by omega) hok; rw [← hzs] at h; exact h)) rfl (nle rfl)) (.run [1800] [] rfl (st_callS rfl 1800 (X := []) en141 rfl (.cons (.one .sl) .nil) (by decide) all_nil (backward_con zs) rfl (nle rfl)) .nil)))) ?_
    exact wk_mk ⟨rfl, ⟨rfl, ⟨rfl, ⟨rfl, ⟨rfl, ⟨rfl, trivial⟩⟩⟩⟩⟩⟩ ⟨rfl, ⟨rfl, ⟨rfl, ⟨rfl, ⟨rfl, trivial⟩⟩⟩⟩⟩ ⟨rfl, trivial⟩ rfl
  · show Tr _ _ _ _ (mk [(3, .ptr 3 0), (5, .ptr 5 0), (7, .ptr 7 0), (8, .ptr 8 0), (9, .ptr 9 0), (18, .p none (.clo 171 [[PV.sl false 1 (pvI zs)]]))] [(3, [.p none (.sl false 4 (pvE l))]), (5, [.p none (.v (.bool b))]), (7, [.sl 1400 0 ((pvE (compU l b zs zs.length).reverse).length)]), (8, [.p none (.v (.string (lastU (compU l b zs zs.length))))]), (9, [.p none (.v (.bool (anyE (compU l b zs zs.length))))])] [(1400, 4, pvE (compU l b zs zs.length).reverse)]) _
    have hcl := compU_len l b zs (k := zs.length) (Nat.le_refl _)
    have hle5 := pvE_length (compU l b zs zs.length).reverse
    have hle6 : (compU l b zs zs.length).reverse.length = (compU l b zs zs.length).length := List.length_reverse
    refine tr_seq ?_
    refine tr_region rfl (.run [] [] rfl (st_load_box1 rfl rfl rfl Try.isAgg26 rfl) (.run [1400] [] rfl (st_call rfl 5200 (X := [1400]) en142 rfl (.val nod) (.cons (.one (.own (len := (pvE (compU l b zs zs.length).reverse).length) (xs := pvE (compU l b zs zs.length).reverse) rfl rfl)) .nil) (by decide) (all_cons rfl all_nil) (.keep (xs := pvE (compU l b zs zs.length).reverse) rfl (FlatP.nf (pvE_flat _)) .nil) (reverseE_con ((compU l b zs zs.length).reverse) (by omega)) rfl rfl (nle rfl)) .nil)) ?_
    refine tr_seq ?_
    refine tr_region rfl (.run [] [] rfl (st_load_box1 rfl rfl rfl Try.isAgg26 rfl) (.run [] [] rfl (st_assign rfl) .nil)) ?_
    refine tr_ret ?_
    exact endsSG [_] [1400] (.cons (.tmp rfl) .nil) (.cons (.one (.of (.row (len := (pvE (compU l b zs zs.length).reverse).length) (xs := pvE (compU l b zs zs.length)) (congrArg (fun x => some (4, pvE x)) (List.reverse_reverse _)) (by rw [hle5, hle6, pvE_length])))) .nil) (by decide) trivial
set_option maxRecDepth 1000000 in
set_option maxHeartbeats 2000000 in
theorem specCompacted_con (l : List Ent) (s : List Int) (b : Bool) (hl : l.length ≤ 2000000) (hs : s.length ≤ 2000000) : Con Try.prog 33 [.one (PV.sl false 4 (pvE l)), .one (PV.sl false 1 (pvI s)), .one (PV.v (.bool b))] [] [.one (.sl true 4 (pvE (compactedF l s b)))] := by
  refine con_of_tr Try.func33 rfl rfl rfl rfl ?_
  have hle := pvE_length l
  have hls := pvI_length s
  refine tr_seq ?_
  refine tr_region rfl (.run [] [] rfl (st_assign rfl) .nil) ?_
  refine tr_seq ?_
  refine tr_seq ?_
  rcases bfc (!(entsOk l)) with h1 | h1
  · have h1' := h1
    replace h1' : (entsOk l) = true := bnot_f h1'
    refine tr_region rfl (.run [] [] rfl (st_move rfl) (.run [800] [] rfl (st_call rfl 800 (X := []) en31 rfl (.val nod) (.cons (.one (.bor (.sl nod))) .nil) (by decide) all_nil .nil (specEntriesOk_con l (by omega)) rfl rfl (nle rfl)) (.run [] [] rfl (st_eq (st_not (b := entsOk l) rfl rfl) (by exact congrArg (fun b => AV.p none (.v (.bool b))) h1)) (.run [] [] rfl (st_move rfl) (.run [] [] rfl (st_move rfl) (.run [1200] [] rfl (st_call rfl 1200 (X := []) en32 rfl (.val nod) (.cons (.one (.bor (.sl nod))) .nil) (by decide) all_nil .nil (specSnapsOk_con s (by omega)) rfl rfl (nle rfl)) (.run [] [] rfl (st_not (b := snapsOk s) rfl rfl) (.run [] [] rfl (st_pick (t := false) rfl rfl) .nil)))))))) ?_
    refine tr_if (t := (!(snapsOk s))) rfl (fun h2 => ?_) (fun h2 => ?_)
    · skip
      replace h2 : (snapsOk s) = false := bnot_t h2
      refine tr_seq ?_
      have hne : compactedF l s b = [] := by rw [compactedF, if_neg (by simp [h1', h2])]
      rw [hne, show pvE ([] : List Ent) = [] from rfl]
      refine tr_region rfl (.run [] [] rfl (st_assign rfl) .nil) ?_
      refine tr_ret ?_
      exact ends [_] [] (.cons (.tmp rfl) .nil) (.cons (.one (.nil _) (.sl _ _ (fun _ h => nomatch h))) .nil) (by decide) trivial
    · skip
      replace h2 : (snapsOk s) = true := bnot_f h2
      refine tr_skip ?_
      refine tr_seq ?_
      have hne : compactedF l s b = compU l b (needF l (pointsF s) l.length) (needF l (pointsF s) l.length).length := by rw [compactedF, if_pos (by simp [h1', h2])]
      rw [hne]
      refine tr_region rfl (.run [] [] rfl (st_move rfl) (.run [] [] rfl (st_move rfl) (.run [] [] rfl (st_move rfl) (.run [1800] [] rfl (st_call rfl 1800 (X := []) en85 rfl (.val nod) (.cons (.one (.bor (.sl nod))) (.cons (.one (.bor (.sl nod))) (.cons (.one (.bor .v)) .nil))) (by decide) all_nil .nil (l14Compacted_con l s b _ rfl (by omega) (by omega)) rfl rfl (nle rfl)) (.run [] [] rfl (st_assign rfl) .nil))))) ?_
      refine tr_ret ?_
      exact ends [_] [1800] (.cons (.tmp rfl) .nil) (.cons (.one (.row (len := (pvE (compU l b (needF l (pointsF s) l.length) (needF l (pointsF s) l.length).length)).length) (xs := pvE (compU l b (needF l (pointsF s) l.length) (needF l (pointsF s) l.length).length)) rfl rfl) (.sl _ _ (FlatP.clean (pvE_flat _)))) .nil) (by decide) trivial
  · have h1' := h1
    replace h1' : (entsOk l) = false := bnot_t h1'
    refine tr_region rfl (.run [] [] rfl (st_move rfl) (.run [800] [] rfl (st_call rfl 800 (X := []) en31 rfl (.val nod) (.cons (.one (.bor (.sl nod))) .nil) (by decide) all_nil .nil (specEntriesOk_con l (by omega)) rfl rfl (nle rfl)) (.run [] [] rfl (st_eq (st_not (b := entsOk l) rfl rfl) (by exact congrArg (fun b => AV.p none (.v (.bool b))) h1)) (.run [] [] rfl (st_move rfl) (.not rfl (.not rfl (.not rfl (.run [] [] rfl (st_pick (t := true) rfl rfl) .nil)))))))) ?_
    refine tr_if (t := true) rfl (fun _ => ?_) (fun h => nomatch h)
    refine tr_seq ?_
    have hne : compactedF l s b = [] := by rw [compactedF, if_neg (by simp [h1'])]
    rw [hne, show pvE ([] : List Ent) = [] from rfl]
    refine tr_region rfl (.run [] [] rfl (st_assign rfl) .nil) ?_
    refine tr_ret ?_
    exact ends [_] [] (.cons (.tmp rfl) .nil) (.cons (.one (.nil _) (.sl _ _ (fun _ h => nomatch h))) .nil) (by decide) trivial
set_option maxRecDepth 1000000 in
set_option maxHeartbeats 2000000 in
theorem progCompacted_con (l : List Ent) (s : List Int) (b : Bool) (hl : l.length ≤ 2000000) (hs : s.length ≤ 2000000) : ConSG none Try.prog 29 [.one (PV.sl false 4 (pvE l)), .one (PV.sl false 1 (pvI s)), .one (PV.v (.bool b))] [] [.one (.sl true 4 (pvE (compactedF l s b)))] := by
  refine con_of_trSG Try.func29 rfl rfl rfl rfl ?_
  have hle := pvE_length l
  have hls := pvI_length s
  refine tr_seq ?_
  refine tr_region rfl (.run [] [] rfl (st_assign rfl) .nil) ?_
  refine tr_seq ?_
  refine tr_seq ?_
  rcases bfc (!(entsOk l)) with h1 | h1
  · have h1' := h1
    replace h1' : (entsOk l) = true := bnot_f h1'
    refine tr_region rfl (.run [] [] rfl (st_move rfl) (.run [800] [] rfl (st_call rfl 800 (X := []) en38 rfl (.val nod) (.cons (.one (.bor (.sl nod))) .nil) (by decide) all_nil .nil (entriesOk_con l (by omega)) rfl rfl (nle rfl)) (.run [] [] rfl (st_eq (st_not (b := entsOk l) rfl rfl) (by exact congrArg (fun b => AV.p none (.v (.bool b))) h1)) (.run [] [] rfl (st_move rfl) (.run [] [] rfl (st_move rfl) (.run [1200] [] rfl (st_call rfl 1200 (X := []) en73 rfl (.val nod) (.cons (.one (.bor (.sl nod))) .nil) (by decide) all_nil .nil (snapsOk_con s (by omega)) rfl rfl (nle rfl)) (.run [] [] rfl (st_not (b := snapsOk s) rfl rfl) (.run [] [] rfl (st_pick (t := false) rfl rfl) .nil)))))))) ?_
    refine tr_if (t := (!(snapsOk s))) rfl (fun h2 => ?_) (fun h2 => ?_)
    · skip
      replace h2 : (snapsOk s) = false := bnot_t h2
      refine tr_seq ?_
      have hne : compactedF l s b = [] := by rw [compactedF, if_neg (by simp [h1', h2])]
      rw [hne, show pvE ([] : List Ent) = [] from rfl]
      refine tr_region rfl (.run [] [] rfl (st_assign rfl) .nil) ?_
      refine tr_ret ?_
      exact endsSG [_] [] (.cons (.tmp rfl) .nil) (.cons (.one (.of (.nil _))) .nil) (by decide) trivial
    · skip
      replace h2 : (snapsOk s) = true := bnot_f h2
      refine tr_skip ?_
      refine tr_seq ?_
      have hne : compactedF l s b = compU l b (needF l (pointsF s) l.length) (needF l (pointsF s) l.length).length := by rw [compactedF, if_pos (by simp [h1', h2])]
      rw [hne]
      refine tr_region rfl (.run [] [] rfl (st_move rfl) (.run [] [] rfl (st_move rfl) (.run [] [] rfl (st_move rfl) (.run [1800] [] rfl (st_callSG (.inr rfl) rfl 1800 (X := []) en81 rfl (.cons (.one .sl) (.cons (.one .sl) (.cons (.one .v) .nil))) (by decide) all_nil .nil (compacted_con l s b _ rfl (by omega) (by omega) (by assumption)) rfl (nle rfl)) (.run [] [] rfl (st_assign rfl) .nil))))) ?_
      refine tr_ret ?_
      exact endsSG [_] [1800] (.cons (.tmp rfl) .nil) (.cons (.one (.of (.row (len := (pvE (compU l b (needF l (pointsF s) l.length) (needF l (pointsF s) l.length).length)).length) (xs := pvE (compU l b (needF l (pointsF s) l.length) (needF l (pointsF s) l.length).length)) rfl rfl))) .nil) (by decide) trivial
  · have h1' := h1
    replace h1' : (entsOk l) = false := bnot_t h1'
    refine tr_region rfl (.run [] [] rfl (st_move rfl) (.run [800] [] rfl (st_call rfl 800 (X := []) en38 rfl (.val nod) (.cons (.one (.bor (.sl nod))) .nil) (by decide) all_nil .nil (entriesOk_con l (by omega)) rfl rfl (nle rfl)) (.run [] [] rfl (st_eq (st_not (b := entsOk l) rfl rfl) (by exact congrArg (fun b => AV.p none (.v (.bool b))) h1)) (.run [] [] rfl (st_move rfl) (.not rfl (.not rfl (.not rfl (.run [] [] rfl (st_pick (t := true) rfl rfl) .nil)))))))) ?_
    refine tr_if (t := true) rfl (fun _ => ?_) (fun h => nomatch h)
    refine tr_seq ?_
    have hne : compactedF l s b = [] := by rw [compactedF, if_neg (by simp [h1'])]
    rw [hne, show pvE ([] : List Ent) = [] from rfl]
    refine tr_region rfl (.run [] [] rfl (st_assign rfl) .nil) ?_
    refine tr_ret ?_
    exact endsSG [_] [] (.cons (.tmp rfl) .nil) (.cons (.one (.of (.nil _))) .nil) (by decide) trivial
theorem progCompacted_con2 (l : List Ent) (s : List Int) (b : Bool) (hl : l.length ≤ 2000000) (hs : s.length ≤ 2000000) : Con Try.prog 29 [.one (PV.sl false 4 (pvE l)), .one (PV.sl false 1 (pvI s)), .one (.v (.bool b))] [] [.one (.sl true 4 (pvE (compactedF l s b)))] := con_of_SG (progCompacted_con l s b hl hs) (.sl _ _ (FlatP.clean (pvE_flat _)))
end Go.Rl

/- Promises of functions, proved by walks over their operations; no conditions beyond those that each theorem states. -/
import Derived.Test.YtfdebanfenlglaaRgA
set_option linter.unusedSimpArgs false
set_option linter.unusedVariables false
namespace Go.Rl
open Go.Proofs
theorem en163 : ∀ vs w, (callFunc 163 vs).run Try.prog w = .ok (.enter 163 vs) w := enters Try.func163 (by decide) rfl
set_option maxRecDepth 1000000 in
set_option maxHeartbeats 2000000 in
theorem op_con {γ : Gho} {cv : Value} {bs : List Nat} (hc : CodeAt γ cv bs) (hl : bs.length ≤ 1152921504606846976) (p : Nat) (hp : p ≤ bs.length)  : ConG γ Try.prog 163 [.rptr 2 [PV.v (cv), PV.v (.int .i64 (p:Int))]] [some (pvRd (cv, opP bs p))] [.agg [.v (.int .i64 (opV bs p).kind), .v (.string (opV bs p).user), .v (.string (opV bs p).value)]] := by
  refine con_of_tr Try.func163 rfl rfl rfl rfl ?_
  refine tr_seq ?_
  refine tr_region rfl (.run [] [2] rfl (st_allocZ rfl 2 inf136 rfl (by decide) rfl (by decide)) .nil) ?_
  refine tr_seq ?_
  refine tr_region rfl (.run [] [] rfl (st_move rfl) (.run [100000, 500] [] rfl (st_callG (.inr rfl) rfl 500 (X := [100000]) en139 rfl (.val nod) (.cons (.rptr rfl) (.cons (.one (.bor .v)) .nil)) (by decide) (all_cons rfl all_nil) (.keep (xs := pvRd (cv, p)) rfl (FlatP.nf (pvRd_flat _)) .nil) (below_con hc hl p hp 3 (by omega)) rfl rfl (nle rfl)) (.run [] [] rfl (st_rem rfl rfl rfl (by omega)) (.run [] [] rfl (st_move rfl) (.run [100000, 800] [] rfl (st_callG (.inr rfl) rfl 800 (X := [100000]) en128 rfl (.val nod) (.cons (.rptr rfl) .nil) (by decide) (all_cons rfl all_nil) (.keep (xs := pvRd (cv, belowP bs p 3)) rfl (FlatP.nf (pvRd_flat _)) .nil) (user_con hc hl (belowP bs p 3) (belowP_le hp)) rfl rfl (nle rfl)) (.run [] [] rfl (st_move rfl) (.run [100000, 1000] [] rfl (st_callG (.inr rfl) rfl 1000 (X := [100000]) en170 rfl (.val nod) (.cons (.rptr rfl) .nil) (by decide) (all_cons rfl all_nil) (.keep (xs := pvRd (cv, userP bs (belowP bs p 3))) rfl (FlatP.nf (pvRd_flat _)) .nil) (value_con hc hl (userP bs (belowP bs p 3)) (belowP_le (belowP_le hp))) rfl rfl (nle rfl)) (.run [] [] rfl (st_build (pl := [(0, 1), (1, 1), (2, 1)]) rfl Try.underlying136 inf136 (by kernel_rfl) rfl rfl) (.run [] [3] rfl (st_allocZ rfl 3 inf136 rfl (by decide) rfl (by decide)) (.run [] [] rfl (st_store_box rfl rfl rfl rfl rfl Try.sizeOf136 rfl (nle rfl)) .nil)))))))))) ?_
  refine tr_join (σ := ByteArray) (fun v => mk [(0, .ea 100000 0 0), (2, .ptr 2 0), (3, .ptr 3 0)] [(2, [.p none (.v (.int .i64 0)), .p none (.v (.string ⟨#[]⟩)), .p none (.v (.string ⟨#[]⟩))]), (3, [.p none (.v (.int .i64 ((op0 bs p).kind))), .p none (.v (.string ((op0 bs p).user))), .p none (.v (.string v))])] [(100000, 2, pvRd (cv, belowP bs (userP bs (belowP bs p 3)) 5))]) (fun v => v = op1v bs p) ?_ ?_
  · skip
    refine tr_seq ?_
    refine tr_region rfl (.run [] [] rfl (st_faddr_box rfl rfl Try.underlying136 rfl Try.sizeOf2 (by decide)) (.run [] [] rfl (st_load_box1 rfl rfl rfl Try.isAgg2 rfl) (.run [] [] rfl (st_eql rfl rfl rfl) .nil))) ?_
    refine tr_if (t := decide ((((belowV bs p 3 : Nat) : Int).tmod 2) = 0)) rfl (fun h1 => ?_) (fun h1 => ?_)
    · skip
      replace h1 := of_decide_eq_true h1
      refine tr_region rfl (.run [] [] rfl (st_faddr_box rfl rfl Try.underlying136 rfl Try.sizeOf9 (by decide)) (.run [] [] rfl (st_store_box rfl rfl rfl rfl rfl Try.sizeOf9 rfl (nle rfl)) .nil)) ?_
      refine ⟨⟨#[]⟩, ?_, ?_⟩
      · show ⟨#[]⟩ = op1v bs p
        exact (if_pos h1).symm
      · exact wk_mk ⟨rfl, ⟨rfl, ⟨rfl, trivial⟩⟩⟩ ⟨rfl, ⟨rfl, trivial⟩⟩ ⟨rfl, trivial⟩ rfl
    · skip
      replace h1 := of_decide_eq_false h1
      refine tr_skip ?_
      refine ⟨(op0 bs p).value, ?_, ?_⟩
      · show ((op0 bs p).value) = op1v bs p
        exact (if_neg h1).symm
      · exact wk_mk ⟨rfl, ⟨rfl, ⟨rfl, trivial⟩⟩⟩ ⟨rfl, ⟨rfl, trivial⟩⟩ ⟨rfl, trivial⟩ rfl
  · rintro v hG
    replace hG : v = op1v bs p := hG
    subst hG
    refine tr_seq ?_
    refine tr_seq ?_
    refine tr_region rfl (.run [] [] rfl (st_move rfl) (.run [100000, 1700] [] rfl (st_callG (.inr rfl) rfl 1700 (X := [100000]) en80 rfl (.val nod) (.cons (.rptr rfl) (.cons (.one (.bor .v)) .nil)) (by decide) (all_cons rfl all_nil) (.keep (xs := pvRd (cv, belowP bs (userP bs (belowP bs p 3)) 5)) rfl (FlatP.nf (pvRd_flat _)) .nil) (once_con hc hl (belowP bs (userP bs (belowP bs p 3)) 5) (belowP_le (belowP_le (belowP_le hp))) 30 (by omega)) rfl rfl (nle rfl)) .nil)) ?_
    refine tr_if (t := onceV bs (belowP bs (userP bs (belowP bs p 3)) 5) 30) rfl (fun h2 => ?_) (fun h2 => ?_)
    · skip
      refine tr_region rfl (.run [] [] rfl (st_move rfl) (.run [100000, 1900] [] rfl (st_callG (.inr rfl) rfl 1900 (X := [100000]) en162 rfl (.val nod) (.cons (.rptr rfl) (.cons (.one (.bor .v)) (.cons (.one (.bor .v)) .nil))) (by decide) (all_cons rfl all_nil) (.keep (xs := pvRd (cv, belowP bs (belowP bs (userP bs (belowP bs p 3)) 5) 30)) rfl (FlatP.nf (pvRd_flat _)) .nil) (off_con hc hl (belowP bs (belowP bs (userP bs (belowP bs p 3)) 5) 30) (belowP_le (belowP_le (belowP_le (belowP_le hp)))) 0 1 (by omega) (by omega)) rfl rfl (nle rfl)) (.run [] [] rfl (st_move rfl) (.run [100000, 2100] [] rfl (st_callG (.inr rfl) rfl 2100 (X := [100000]) en181 rfl (.val nod) (.cons (.rptr rfl) (.cons (.one (.bor .v)) .nil)) (by decide) (all_cons rfl all_nil) (.keep (xs := pvRd (cv, offP bs (belowP bs (belowP bs (userP bs (belowP bs p 3)) 5) 30) 0 1)) rfl (FlatP.nf (pvRd_flat _)) .nil) (bytes_con hc hl (offP bs (belowP bs (belowP bs (userP bs (belowP bs p 3)) 5) 30) 0 1) (offP_le (belowP_le (belowP_le (belowP_le (belowP_le hp))))) 44 (by omega)) rfl rfl (nle rfl)) (.run [] [] rfl (st_move rfl) (.run [100000, 2300] [] rfl (st_callG (.inr rfl) rfl 2300 (X := [100000]) en181 rfl (.val nod) (.cons (.rptr rfl) (.cons (.one (.bor .v)) .nil)) (by decide) (all_cons rfl all_nil) (.keep (xs := pvRd (cv, bytesP bs (offP bs (belowP bs (belowP bs (userP bs (belowP bs p 3)) 5) 30) 0 1) 44)) rfl (FlatP.nf (pvRd_flat _)) .nil) (bytes_con hc hl (bytesP bs (offP bs (belowP bs (belowP bs (userP bs (belowP bs p 3)) 5) 30) 0 1) 44) (bytesP_le (offP_le (belowP_le (belowP_le (belowP_le (belowP_le hp)))))) 9 (by omega)) rfl rfl (nle rfl)) (.run [] [] rfl (st_build (pl := [(0, 1), (1, 1), (2, 1)]) rfl Try.underlying136 inf136 (by kernel_rfl) rfl rfl) (.run [] [] rfl (st_store_box rfl rfl rfl rfl rfl Try.sizeOf136 rfl (nle rfl)) .nil)))))))) ?_
      refine tr_seq ?_
      have hv : opV bs p = _ := if_pos h2
      have hpp : opP bs p = _ := if_pos h2
      rw [hv, hpp]
      refine tr_region rfl (.run [] [] rfl (st_load_box rfl rfl rfl Try.isAgg136 Try.sizeOf136 (nle rfl)) (.run [] [] rfl (st_store_box rfl rfl rfl rfl rfl Try.sizeOf136 rfl (nle rfl)) .nil)) ?_
      refine tr_ret ?_
      exact ends [_] [] (.cons (.cell rfl rfl Try.isAgg136 Try.sizeOf136 (nle rfl)) .nil) (.cons (.agg (.cons .v (.cons .v (.cons .v .nil))) (cl_cons (.v _) (cl_cons (.v _) (cl_cons (.v _) cl_nil)))) .nil) (by decide) (outs1 (congrArg (fun x => some (2, x)) (congrArg pvRd (congrArg (Prod.mk cv) rfl))) (pvRd_flat _) (by decide))
    · skip
      refine tr_skip ?_
      refine tr_seq ?_
      have hv : opV bs p = _ := if_neg (fun z => Bool.noConfusion ((show onceV bs (op0P bs p) 30 = false from h2).symm.trans z))
      have hpp : opP bs p = _ := if_neg (fun z => Bool.noConfusion ((show onceV bs (op0P bs p) 30 = false from h2).symm.trans z))
      rw [hv, hpp]
      refine tr_region rfl (.run [] [] rfl (st_load_box rfl rfl rfl Try.isAgg136 Try.sizeOf136 (nle rfl)) (.run [] [] rfl (st_store_box rfl rfl rfl rfl rfl Try.sizeOf136 rfl (nle rfl)) .nil)) ?_
      refine tr_ret ?_
      exact ends [_] [] (.cons (.cell rfl rfl Try.isAgg136 Try.sizeOf136 (nle rfl)) .nil) (.cons (.agg (.cons .v (.cons .v (.cons .v .nil))) (cl_cons (.v _) (cl_cons (.v _) (cl_cons (.v _) cl_nil)))) .nil) (by decide) (outs1 (congrArg (fun x => some (2, x)) (congrArg pvRd (congrArg (Prod.mk cv) rfl))) (pvRd_flat _) (by decide))
set_option maxRecDepth 1000000 in
set_option maxHeartbeats 2000000 in
theorem ops_con {γ : Gho} {cv : Value} {bs : List Nat} (hc : CodeAt γ cv bs) (hl : bs.length ≤ 1152921504606846976) (p : Nat) (hp : p ≤ bs.length)  : ConG γ Try.prog 130 [.rptr 2 [PV.v (cv), PV.v (.int .i64 (p:Int))]] [some (pvRd (cv, opsP bs p))] [.one (.sl true 3 (pvO (opsV bs p)))] := by
  refine con_of_tr Try.func130 rfl rfl rfl rfl ?_
  have hb0 := belowV_lt (bs := bs) (p := p) (n := 4) (by omega)
  refine tr_seq ?_
  refine tr_region rfl (.run [] [] rfl (st_assign rfl) .nil) ?_
  refine tr_seq ?_
  refine tr_region rfl (.run [500] [] rfl (st_buildSlice rfl 500 Try.underlying73 inf136 (nle rfl) (by decide) rfl rfl rfl .nil (by decide) rfl (by decide) rfl (by decide) rfl) (.run [] [] rfl (st_assign rfl) .nil)) ?_
  refine tr_seq ?_
  refine tr_seq ?_
  refine tr_region rfl (.run [] [] rfl (st_move rfl) (.run [100000, 700] [] rfl (st_callG (.inr rfl) rfl 700 (X := [100000]) en139 rfl (.val nod) (.cons (.rptr rfl) (.cons (.one (.bor .v)) .nil)) (by decide) (all_cons rfl all_nil) (.keep (xs := pvRd (cv, p)) rfl (FlatP.nf (pvRd_flat _)) .nil) (below_con hc hl p hp 4 (by omega)) rfl rfl (nle rfl)) (.run [] [] rfl (st_addn rfl rfl rfl (by omega)) (.run [] [] rfl (st_assign rfl) .nil)))) ?_
  refine tr_block ?_
  refine tr_wk (wk_ren 500 1 rfl rfl (by decide)) ?_
-- entry row 100000: pvRd (cv, (belowP bs p 4)) now pvRd (cv, belowP bs p 4)
  refine tr_loopS (σ := Nat × List Bop × Nat) (fun (i, l, q) => mk [(0, .ea 100000 0 0), (3, .sl 1 0 ((pvO l).length)), (4, .p none (.v (.int .i64 (i:Int))))] [] [(1, 3, pvO l), (100000, 2, pvRd (cv, q))]) (fun (i, l, q) => i ≤ 10 ∧ l.length + i ≤ 10 ∧ q ≤ bs.length ∧ opsLoop bs i (l, q) = opsR bs p) (fun (i, l, q) => i) (1 + belowV bs p 4, [], belowP bs p 4) ⟨by omega, by simp only [List.length_nil]; omega, belowP_le hp, rfl⟩ (wk_mk ⟨rfl, ⟨rfl, ⟨(int_eq (by omega)), trivial⟩⟩⟩ trivial ⟨(congrArg (fun x => some (3, x)) (by rfl)), ⟨rfl, trivial⟩⟩ rfl) ?_
  rintro ⟨i, l, q⟩ hG
  replace hG : i ≤ 10 ∧ l.length + i ≤ 10 ∧ q ≤ bs.length ∧ opsLoop bs i (l, q) = opsR bs p := hG
  obtain ⟨hi, hll, hp, hE⟩ := hG
  have hle := pvO_length l
  refine tr_seq ?_
  refine tr_seq ?_
  refine tr_region rfl (.run [] [] rfl (st_move rfl) (.run [] [] rfl (st_gtr rfl rfl rfl) .nil)) ?_
  refine tr_if (t := decide (0 < (i:Int))) rfl (fun h1 => ?_) (fun h1 => ?_)
  · skip
    replace h1 := of_decide_eq_true h1
    refine tr_skip ?_
    refine tr_seq ?_
    refine tr_block ?_
    refine tr_region rfl (.run [] [] rfl (st_move rfl) (.run [] [] rfl (st_move rfl) (.run [100000, 1500, 1501, 1502] [] rfl (st_callG (.inr rfl) rfl 1500 (X := [100000]) en163 rfl (.val nod) (.cons (.rptr rfl) .nil) (by decide) (all_cons rfl all_nil) (.keep (xs := pvRd (cv, q)) rfl (FlatP.nf (pvRd_flat _)) .nil) (op_con hc hl q hp) rfl rfl (nle rfl)) (.run [1600] [] rfl (st_buildSlice rfl 1600 Try.underlying73 inf136 (nle rfl) (by decide) rfl rfl rfl (.cons .v (.cons .v (.cons .v .nil))) (by decide) rfl (by decide) rfl (by decide) rfl) (.run [1] [] rfl (st_append rfl 1 (ib := 1) (len := ((pvO l) ++ [[PV.v (.int .i64 ((opV bs q).kind)), PV.v (.string ((opV bs q).user)), PV.v (.string ((opV bs q).value))]]).length) rfl rfl (.row (len := (pvO l).length) (xs := pvO l) rfl rfl (.inl rfl)) (.give (len := 1) (xs := [[PV.v (.int .i64 ((opV bs q).kind)), PV.v (.string ((opV bs q).user)), PV.v (.string ((opV bs q).value))]]) rfl rfl) Try.underlying73 (sk Try.underlying73 rfl) inf136 rfl (by decide) (by decide) (by decide) List.length_append (by simp only [maxLen, List.length_append, List.length_map, List.length_cons, List.length_nil, List.length_take, List.length_drop, pvE_length, pvI_length, pvT_length, pvU_length, pvP_length, pvR_length, pvO_length]; omega) (by simp only [maxLen, List.length_append, List.length_map, List.length_cons, List.length_nil, List.length_take, List.length_drop, pvE_length, pvI_length, pvT_length, pvU_length, pvP_length, pvR_length, pvO_length]; omega)) (.run [] [] rfl (st_assign rfl) .nil)))))) ?_
    have hr2 : (pvO l) ++ [[PV.v (.int .i64 ((opV bs q).kind)), PV.v (.string ((opV bs q).user)), PV.v (.string ((opV bs q).value))]] = pvO (l ++ [opV bs q]) := by exact pvO_snoc _ _
    have hp3 : (.sl 1 0 (((pvO l) ++ [[PV.v (.int .i64 ((opV bs q).kind)), PV.v (.string ((opV bs q).user)), PV.v (.string ((opV bs q).value))]]).length) : AV) = .sl 1 0 ((pvO (l ++ [opV bs q])).length) := by simp only [hr2]
    refine tr_wk (s' := mk [(0, .ea 100000 0 0), (3, .sl 1 0 ((pvO (l ++ [opV bs q])).length)), (4, .p none (.v (.int .i64 (i:Int))))] [] [(1, 3, pvO (l ++ [opV bs q])), (100000, 2, pvRd (cv, opP bs q))]) ?_ ?_
    · exact wk_mk ⟨rfl, ⟨hp3, ⟨rfl, trivial⟩⟩⟩ trivial ⟨(congrArg (fun x => some (3, x)) hr2), ⟨rfl, trivial⟩⟩ rfl
    refine tr_region rfl (.run [] [] rfl (st_move rfl) (.run [] [] rfl (st_subn rfl rfl rfl (by omega)) (.run [] [] rfl (st_assign rfl) .nil))) ?_
-- round row 100000: pvRd (cv, (opP bs q)) now pvRd (cv, opP bs q)
    refine nxt (Q := fun _ _ => False) (z := (i, l, q)) (i - 1, l ++ [opV bs q], opP bs q) ?_ ?_ ?_
    · show (i - 1) ≤ 10 ∧ (l ++ [opV bs q]).length + (i - 1) ≤ 10 ∧ (opP bs q) ≤ bs.length ∧ opsLoop bs (i - 1) ((l ++ [opV bs q]), (opP bs q)) = opsR bs p
      exact ⟨by omega, by simp only [List.length_append, List.length_cons, List.length_nil]; omega, opP_le hp, opsLoop_go (by omega) hE⟩
    · show (i - 1) < i
      omega
    · exact wk_mk ⟨rfl, ⟨rfl, ⟨(int_eq (by omega)), trivial⟩⟩⟩ trivial ⟨rfl, ⟨rfl, trivial⟩⟩ rfl
  · skip
    replace h1 := of_decide_eq_false h1
    refine tr_exit ?_
    refine tr_seq ?_
    refine tr_seq ?_
    have hi0 : i = 0 := (by omega)
    rw [hi0] at hE
    have hEm : opsR bs p = (l, q) := hE.symm
    refine tr_region rfl (.run [] [] rfl (st_move rfl) (.run [100000, 1900] [] rfl (st_callG (.inr rfl) rfl 1900 (X := [100000]) en80 rfl (.val nod) (.cons (.rptr rfl) (.cons (.one (.bor .v)) .nil)) (by decide) (all_cons rfl all_nil) (.keep (xs := pvRd (cv, q)) rfl (FlatP.nf (pvRd_flat _)) .nil) (once_con hc hl q hp 30 (by omega)) rfl rfl (nle rfl)) .nil)) ?_
    refine tr_if (t := onceV bs q 30) rfl (fun h4 => ?_) (fun h4 => ?_)
    · skip
      refine tr_seq ?_
      have hv : opsV bs p = [] := by rw [opsV, hEm, if_pos h4]
      have hpp : opsP bs p = belowP bs q 30 := by rw [opsP, hEm]
      rw [hv, hpp]
      refine tr_region rfl (.run [2000] [] rfl (st_buildSlice rfl 2000 Try.underlying73 inf136 (nle rfl) (by decide) rfl rfl rfl .nil (by decide) rfl (by decide) rfl (by decide) rfl) (.run [] [] rfl (st_assign rfl) .nil)) ?_
      refine tr_ret ?_
      exact ends [_] [2000] (.cons (.tmp rfl) .nil) (.cons (.one (.row (len := 0) (xs := []) rfl rfl) (.sl _ _ (fun _ h => nomatch h))) .nil) (by decide) (outs1 (congrArg (fun x => some (2, x)) (congrArg pvRd (congrArg (Prod.mk cv) rfl))) (pvRd_flat _) (by decide))
    · skip
      refine tr_skip ?_
      refine tr_seq ?_
      have hv : opsV bs p = l := by rw [opsV, hEm, if_neg (by simp [h4])]
      have hpp : opsP bs p = belowP bs q 30 := by rw [opsP, hEm]
      rw [hv, hpp]
      refine tr_region rfl (.run [] [] rfl (st_move rfl) (.run [] [] rfl (st_assign rfl) .nil)) ?_
      refine tr_ret ?_
      exact ends [_] [1] (.cons (.tmp rfl) .nil) (.cons (.one (.row (len := (pvO l).length) (xs := pvO l) rfl rfl) (.sl _ _ (FlatP.clean (pvO_flat _)))) .nil) (by decide) (outs1 (congrArg (fun x => some (2, x)) (congrArg pvRd (congrArg (Prod.mk cv) rfl))) (pvRd_flat _) (by decide))
end Go.Rl
namespace Go.Rl
/-- One step of the draw, behind the choice k at place q. -/
noncomputable def dbStep (bs : List Nat) (x : Eng × Nat) : Eng × Nat :=
  if belowV bs x.2 7 = 0 then (if (flushS x.1).2 = 0 then (flushS x.1).1 else x.1, belowP bs x.2 7)
  else if belowV bs x.2 7 = 1 then (if (snapS x.1).2.2 = 0 then (snapS x.1).1 else x.1, belowP bs x.2 7)
  else if belowV bs x.2 7 = 2 then (if (compactS x.1).2 = 0 then (compactS x.1).1 else x.1, belowP bs x.2 7)
  else if belowV bs x.2 7 = 3 then
    (if 0 < x.1.snaps.length then (if (freeS x.1 (x.1.snaps.getD (belowV bs (belowP bs x.2 7) x.1.snaps.length) 0)).2 = 0 then (freeS x.1 (x.1.snaps.getD (belowV bs (belowP bs x.2 7) x.1.snaps.length) 0)).1 else x.1, belowP bs (belowP bs x.2 7) x.1.snaps.length) else (x.1, belowP bs x.2 7))
  else (if (writeS x.1 (opsV bs (belowP bs x.2 7))).2 = 0 then (writeS x.1 (opsV bs (belowP bs x.2 7))).1 else x.1, opsP bs (belowP bs x.2 7))
noncomputable def dbLoop (bs : List Nat) : Nat → Eng × Nat → Eng × Nat
  | 0, x => x
  | i + 1, x => dbLoop bs i (dbStep bs x)
noncomputable def dbRun (bs : List Nat) (p : Nat) : Eng × Nat := dbLoop bs (belowV bs p 9) (Eng.nil, belowP bs p 9)
noncomputable def dbAdd (bs : List Nat) (x : Eng × Nat) : Eng × Nat := if onceV bs x.2 20 = true then ({ x.1 with mem := x.1.mem ++ [entryV bs (belowP bs x.2 20)] }, entryP bs (belowP bs x.2 20)) else (x.1, belowP bs x.2 20)
noncomputable def dbOff (bs : List Nat) (x : Eng × Nat) : Eng × Nat := if onceV bs x.2 24 = true then ({ x.1 with seq := offV bs (belowP bs x.2 24) 0 12 }, offP bs (belowP bs x.2 24) 0 12) else (x.1, belowP bs x.2 24)
noncomputable def dbV (bs : List Nat) (p : Nat) : Eng := (dbOff bs (dbAdd bs (dbRun bs p))).1
noncomputable def dbP (bs : List Nat) (p : Nat) : Nat := (dbOff bs (dbAdd bs (dbRun bs p))).2
theorem dbLoop_go {bs : List Nat} {i : Nat} {x y z : Eng × Nat} (hi : 0 < i) (hs : dbStep bs x = y) (h : dbLoop bs i x = z) : dbLoop bs (i - 1) y = z := by
  obtain ⟨j, rfl⟩ : ∃ j, i = j + 1 := ⟨i - 1, by omega⟩
  rw [← h, ← hs]
  rfl
theorem flush_eb {d : Eng} (h : EB d) : EB (flushS d).1 := by
  by_cases ho : okE d = true
  · have s := okS_small ho
    unfold flushS
    rw [if_pos ho]
    split
    · exact h
    · split
      · exact h
      · refine ⟨Nat.zero_le _, by have := s.runs; simp only [List.length_cons]; omega, fun l hl => ?_, h.snaps⟩
        rcases List.mem_cons.1 hl with rfl | hl
        · exact h.mem
        · exact h.each l hl
  · unfold flushS; rw [if_neg ho]; exact eb_nil
theorem snap_eb {d : Eng} (h : EB d) : EB (snapS d).1 := by
  by_cases ho : okE d = true
  · have s := okS_small ho
    unfold snapS
    rw [if_pos ho]
    split
    · exact h
    · split
      · exact h
      · exact ⟨h.mem, h.runs, h.each, by have := s.snaps; simp only [List.length_append, List.length_cons, List.length_nil]; omega⟩
  · unfold snapS; rw [if_neg ho]; exact eb_nil
theorem free_eb {d : Eng} {a : Int} (h : EB d) : EB (freeS d a).1 := by
  by_cases ho : okE d = true
  · unfold freeS
    rw [if_pos ho]
    exact ⟨h.mem, h.runs, h.each, Nat.le_trans (List.length_filter_le _ _) h.snaps⟩
  · unfold freeS; rw [if_neg ho]; exact eb_nil
theorem write_eb {d : Eng} {ops : List Bop} (h : EB d) (hn : ops.length ≤ 100) : EB (writeS d ops).1 := by
  by_cases ho : okE d = true
  · have s := okS_small ho
    unfold writeS
    rw [if_pos ho]
    split
    · exact h
    · split
      · exact h
      · exact ⟨by have := puts_len (batchE (d.seq + 1) ops) d.mem; have := s.mem; have := batchE_len (d.seq + 1) ops; show (putsF d.mem (batchE (d.seq + 1) ops)).length ≤ 2000000; omega, h.runs, h.each, h.snaps⟩
  · unfold writeS; rw [if_neg ho]; exact eb_nil
theorem compC_len (l : List Ent) (s : List Int) : (compC l s).length ≤ l.length := Nat.le_trans (compU_len _ _ _ (Nat.le_refl _)) (needF_len _ _ _)
theorem compact_eb {d : Eng} (h : EB d) : EB (compactS d).1 := by
  by_cases ho : okE d = true
  · have s := okS_small ho
    unfold compactS
    rw [if_pos ho]
    split
    · exact h
    · have hc := compC_len (mergeL d.runs) d.snaps
      have hm := mergeL_len d.runs
      have he := s.ents
      refine ⟨h.mem, ?_, fun l hl => ?_, h.snaps⟩
      · show (if 0 < (compC (mergeL d.runs) d.snaps).length then [compC (mergeL d.runs) d.snaps] else []).length ≤ 1000000
        split
        · simp
        · simp
      · have hl' : l ∈ (if 0 < (compC (mergeL d.runs) d.snaps).length then [compC (mergeL d.runs) d.snaps] else []) := hl
        split at hl'
        · rw [List.mem_singleton.1 hl']; omega
        · cases hl'
  · unfold compactS; rw [if_neg ho]; exact eb_nil
section
variable {bs : List Nat} {d : Eng} {q : Nat}
theorem st_0 (h : belowV bs q 7 = 0) {c : Bool} (hc : decide ((flushS d).2 = 0) = c) : dbStep bs (d, q) = (if c = true then (flushS d).1 else d, belowP bs q 7) := by
  subst hc
  unfold dbStep
  rw [if_pos h]
  simp only [decide_eq_true_eq]
theorem st_1 (h : belowV bs q 7 = 1) {c : Bool} (hc : decide ((snapS d).2.2 = 0) = c) : dbStep bs (d, q) = (if c = true then (snapS d).1 else d, belowP bs q 7) := by
  subst hc
  unfold dbStep
  rw [if_neg (by show ¬ belowV bs q 7 = 0; omega), if_pos h]
  simp only [decide_eq_true_eq]
theorem st_2 (h : belowV bs q 7 = 2) {c : Bool} (hc : decide ((compactS d).2 = 0) = c) : dbStep bs (d, q) = (if c = true then (compactS d).1 else d, belowP bs q 7) := by
  subst hc
  unfold dbStep
  rw [if_neg (by show ¬ belowV bs q 7 = 0; omega), if_neg (by show ¬ belowV bs q 7 = 1; omega), if_pos h]
  simp only [decide_eq_true_eq]
theorem st_3n (h : belowV bs q 7 = 3) (hn : ¬ 0 < d.snaps.length) : dbStep bs (d, q) = (d, belowP bs q 7) := by
  unfold dbStep
  rw [if_neg (by show ¬ belowV bs q 7 = 0; omega), if_neg (by show ¬ belowV bs q 7 = 1; omega), if_neg (by show ¬ belowV bs q 7 = 2; omega), if_pos h, if_neg hn]
theorem st_3 (h : belowV bs q 7 = 3) {a : Int} (ha : d.snaps[belowV bs (belowP bs q 7) d.snaps.length]? = some a) {c : Bool} (hc : decide ((freeS d a).2 = 0) = c) : dbStep bs (d, q) = (if c = true then (freeS d a).1 else d, belowP bs (belowP bs q 7) d.snaps.length) := by
  subst hc
  have hp : 0 < d.snaps.length := by have := (List.getElem?_eq_some_iff.1 ha).1; omega
  have hg : d.snaps.getD (belowV bs (belowP bs q 7) d.snaps.length) 0 = a := by rw [List.getD_eq_getElem?_getD, ha]; rfl
  unfold dbStep
  rw [if_neg (by show ¬ belowV bs q 7 = 0; omega), if_neg (by show ¬ belowV bs q 7 = 1; omega), if_neg (by show ¬ belowV bs q 7 = 2; omega), if_pos h, if_pos hp]
  simp only [hg, decide_eq_true_eq]
theorem st_4 (h0 : ¬ belowV bs q 7 = 0) (h1 : ¬ belowV bs q 7 = 1) (h2 : ¬ belowV bs q 7 = 2) (h3 : ¬ belowV bs q 7 = 3) {c : Bool} (hc : decide ((writeS d (opsV bs (belowP bs q 7))).2 = 0) = c) : dbStep bs (d, q) = (if c = true then (writeS d (opsV bs (belowP bs q 7))).1 else d, opsP bs (belowP bs q 7)) := by
  subst hc
  unfold dbStep
  rw [if_neg h0, if_neg h1, if_neg h2, if_neg h3]
  simp only [decide_eq_true_eq]
end
theorem dbStep_ok {bs : List Nat} {x : Eng × Nat} (h : EB x.1) (hp : x.2 ≤ bs.length) : EB (dbStep bs x).1 ∧ (dbStep bs x).2 ≤ bs.length := by
  have hq : belowP bs x.2 7 ≤ bs.length := belowP_le hp
  unfold dbStep
  split
  · refine ⟨?_, hq⟩
    show EB (if _ then _ else _)
    split
    · exact flush_eb h
    · exact h
  · split
    · refine ⟨?_, hq⟩
      show EB (if _ then _ else _)
      split
      · exact snap_eb h
      · exact h
    · split
      · refine ⟨?_, hq⟩
        show EB (if _ then _ else _)
        split
        · exact compact_eb h
        · exact h
      · split
        · split
          · refine ⟨?_, belowP_le hq⟩
            show EB (if _ then _ else _)
            split
            · exact free_eb h
            · exact h
          · exact ⟨h, hq⟩
        · refine ⟨?_, opsP_le hq⟩
          show EB (if _ then _ else _)
          split
          · exact write_eb h (by have := opsV_len bs (belowP bs x.2 7); omega)
          · exact h
theorem dbLoop_ok {bs : List Nat} : ∀ (i : Nat) (x : Eng × Nat), EB x.1 → x.2 ≤ bs.length → EB (dbLoop bs i x).1 ∧ (dbLoop bs i x).2 ≤ bs.length
  | 0, _, h, hp => ⟨h, hp⟩
  | i + 1, x, h, hp => dbLoop_ok i _ (dbStep_ok h hp).1 (dbStep_ok h hp).2
theorem dbRun_ok {bs : List Nat} {p : Nat} (hp : p ≤ bs.length) : EB (dbRun bs p).1 ∧ (dbRun bs p).2 ≤ bs.length := dbLoop_ok _ (Eng.nil, belowP bs p 9) eb_nil (show belowP bs p 9 ≤ bs.length from belowP_le hp)
/-- One more than usual. -/
structure EB1 (d : Eng) : Prop where
  mem : d.mem.length ≤ 2000001
  runs : d.runs.length ≤ 1000000
  each : ∀ l ∈ d.runs, l.length ≤ 2000000
  snaps : d.snaps.length ≤ 1000000
theorem dbP_le {bs : List Nat} {p : Nat} (hp : p ≤ bs.length) : dbP bs p ≤ bs.length := by
  have h := dbRun_ok hp
  have h1 : (dbAdd bs (dbRun bs p)).2 ≤ bs.length := by
    unfold dbAdd
    split
    · exact (show entryP bs (belowP bs (dbRun bs p).2 20) ≤ bs.length from entryP_le (belowP_le h.2))
    · exact (show belowP bs (dbRun bs p).2 20 ≤ bs.length from belowP_le h.2)
  unfold dbP dbOff
  split
  · exact (show offP bs (belowP bs (dbAdd bs (dbRun bs p)).2 24) 0 12 ≤ bs.length from offP_le (belowP_le h1))
  · exact (show belowP bs (dbAdd bs (dbRun bs p)).2 24 ≤ bs.length from belowP_le h1)
/-! #### as of what is read -/
def atQ (bs : List Nat) (sn : List Int) (p : Nat) : Nat := if 0 < sn.length then belowP bs p 2 else p
def atV (bs : List Nat) (sn : List Int) (p : Nat) : Int := if 0 < sn.length ∧ onceV bs p 2 = true then sn.getD (belowV bs (belowP bs p 2) sn.length) 0 else if onceV bs (atQ bs sn p) 4 = true then offV bs (belowP bs (atQ bs sn p) 4) 0 9 else -1
def atP (bs : List Nat) (sn : List Int) (p : Nat) : Nat := if 0 < sn.length ∧ onceV bs p 2 = true then belowP bs (belowP bs p 2) sn.length else if onceV bs (atQ bs sn p) 4 = true then offP bs (belowP bs (atQ bs sn p) 4) 0 9 else belowP bs (atQ bs sn p) 4
theorem dbV_snaps (bs : List Nat) (p : Nat) (hp : p ≤ bs.length) : (dbV bs p).snaps.length ≤ 1000000 := by
  have h := (dbRun_ok hp).1.snaps
  unfold dbV dbOff dbAdd
  split <;> split <;> exact h
end Go.Rl
namespace Go.Rl
open Go.Proofs
theorem en52 : ∀ vs w, (callFunc 52 vs).run Try.prog w = .ok (.enter 52 vs) w := enters Try.func52 (by decide) rfl
theorem en44 : ∀ vs w, (callFunc 44 vs).run Try.prog w = .ok (.enter 44 vs) w := enters Try.func44 (by decide) rfl
theorem en68 : ∀ vs w, (callFunc 68 vs).run Try.prog w = .ok (.enter 68 vs) w := enters Try.func68 (by decide) rfl
theorem en48 : ∀ vs w, (callFunc 48 vs).run Try.prog w = .ok (.enter 48 vs) w := enters Try.func48 (by decide) rfl
theorem en130 : ∀ vs w, (callFunc 130 vs).run Try.prog w = .ok (.enter 130 vs) w := enters Try.func130 (by decide) rfl
theorem en55 : ∀ vs w, (callFunc 55 vs).run Try.prog w = .ok (.enter 55 vs) w := enters Try.func55 (by decide) rfl
set_option maxRecDepth 1000000 in
set_option maxHeartbeats 2000000 in
theorem db_con {γ : Gho} {cv : Value} {bs : List Nat} (hc : CodeAt γ cv bs) (hl : bs.length ≤ 1152921504606846976) (p : Nat) (hp : p ≤ bs.length)  : ConG γ Try.prog 127 [.rptr 2 [PV.v (cv), PV.v (.int .i64 (p:Int))]] [some (pvRd (cv, dbP bs p))] [.agg [.v (.int .i64 ((dbV bs p).seq)), .sl true 4 (pvE ((dbV bs p).mem)), .sl true 1 (pvR (tagT (dbV bs p).runs)), .sl true 1 (pvI ((dbV bs p).snaps))]] := by
  refine con_of_tr Try.func127 rfl rfl rfl rfl ?_
  have hb0 := belowV_lt (bs := bs) (p := p) (n := 9) (by omega)
  refine tr_seq ?_
  refine tr_region rfl (.run [] [2] rfl (st_allocZ rfl 2 inf56 rfl (by decide) rfl (by decide)) .nil) ?_
  refine tr_seq ?_
  refine tr_region rfl (.run [] [] rfl (st_build (pl := [(0, 1), (1, 1), (2, 1), (3, 1)]) rfl Try.underlying56 inf56 (by kernel_rfl) rfl rfl) (.run [] [3] rfl (st_allocZ rfl 3 inf56 rfl (by decide) rfl (by decide)) (.run [] [] rfl (st_store_box rfl rfl rfl rfl rfl Try.sizeOf56 rfl (nle rfl)) .nil))) ?_
  refine tr_seq ?_
  refine tr_seq ?_
  refine tr_region rfl (.run [] [] rfl (st_move rfl) (.run [100000, 900] [] rfl (st_callG (.inr rfl) rfl 900 (X := [100000]) en139 rfl (.val nod) (.cons (.rptr rfl) (.cons (.one (.bor .v)) .nil)) (by decide) (all_cons rfl all_nil) (.keep (xs := pvRd (cv, p)) rfl (FlatP.nf (pvRd_flat _)) .nil) (below_con hc hl p hp 9 (by omega)) rfl rfl (nle rfl)) (.run [] [] rfl (st_assign rfl) .nil))) ?_
  refine tr_block ?_
  refine tr_wk (wk_nil 3 1 1 4 rfl rfl rfl (by decide)) ?_
  refine tr_wk (wk_nil 3 2 2 1 rfl rfl rfl (by decide)) ?_
  refine tr_wk (wk_nil 3 3 3 1 rfl rfl rfl (by decide)) ?_
-- entry row 100000: pvRd (cv, (belowP bs p 9)) now pvRd (cv, belowP bs p 9)
  refine tr_loopS (σ := Nat × Eng × Nat) (fun (i, d, q) => mk [(0, .ea 100000 0 0), (2, .ptr 2 0), (3, .ptr 3 0), (4, .p none (.v (.int .i64 (i:Int))))] [(2, [.p none (.v (.int .i64 0)), .nils, .nils, .nils]), (3, [.p none (.v (.int .i64 d.seq)), .sl 1 0 ((pvE d.mem).length), .sl 2 0 ((pvR (tagT d.runs)).length), .sl 3 0 ((pvI d.snaps).length)])] [(1, 4, pvE d.mem), (2, 1, pvR (tagT d.runs)), (3, 1, pvI d.snaps), (100000, 2, pvRd (cv, q))]) (fun (i, d, q) => i ≤ 9 ∧ EB d ∧ q ≤ bs.length ∧ dbLoop bs i (d, q) = dbRun bs p) (fun (i, d, q) => i) (belowV bs p 9, Eng.nil, belowP bs p 9) ⟨by omega, eb_nil, belowP_le hp, rfl⟩ (wk_mk ⟨rfl, ⟨rfl, ⟨rfl, ⟨(int_eq (by omega)), trivial⟩⟩⟩⟩ ⟨rfl, ⟨rfl, trivial⟩⟩ ⟨(congrArg (fun x => some (4, x)) (by rfl)), ⟨(congrArg (fun x => some (1, x)) (by rfl)), ⟨(congrArg (fun x => some (1, x)) (by rfl)), ⟨rfl, trivial⟩⟩⟩⟩ rfl) ?_
  rintro ⟨i, d, q⟩ hG
  replace hG : i ≤ 9 ∧ EB d ∧ q ≤ bs.length ∧ dbLoop bs i (d, q) = dbRun bs p := hG
  obtain ⟨hi, hD, hp, hE⟩ := hG
  have hsn := hD.snaps
  have hl3 := pvI_length d.snaps
  refine tr_seq ?_
  refine tr_seq ?_
  refine tr_region rfl (.run [] [] rfl (st_move rfl) (.run [] [] rfl (st_gtr rfl rfl rfl) .nil)) ?_
  refine tr_if (t := decide (0 < (i:Int))) rfl (fun h1 => ?_) (fun h1 => ?_)
  · skip
    replace h1 := of_decide_eq_true h1
    refine tr_skip ?_
    refine tr_seq ?_
    refine tr_block ?_
    refine tr_seq ?_
    refine tr_region rfl (.run [] [] rfl (st_load_box rfl rfl rfl Try.isAgg56 Try.sizeOf56 (nle rfl)) (.run [] [5] rfl (st_allocZ rfl 5 inf56 rfl (by decide) rfl (by decide)) (.run [] [] rfl (st_store_box rfl rfl rfl rfl rfl Try.sizeOf56 rfl (nle rfl)) .nil))) ?_
    refine tr_seq ?_
    refine tr_region rfl (.run [] [] rfl (st_assign rfl) .nil) ?_
    refine tr_seq ?_
    refine tr_seq ?_
    refine tr_region rfl (.run [] [] rfl (st_move rfl) (.run [100000, 1600] [] rfl (st_callG (.inr rfl) rfl 1600 (X := [100000]) en139 rfl (.val nod) (.cons (.rptr rfl) (.cons (.one (.bor .v)) .nil)) (by decide) (all_cons rfl all_nil) (.keep (xs := pvRd (cv, q)) rfl (FlatP.nf (pvRd_flat _)) .nil) (below_con hc hl q hp 7 (by omega)) rfl rfl (nle rfl)) .nil)) ?_
    refine tr_block ?_
    refine tr_seq ?_
    refine tr_region rfl (.run [] [] rfl (st_eql rfl rfl rfl) (.run [] [] rfl (st_assign rfl) .nil)) ?_
    refine tr_if (t := decide (((belowV bs q 7 : Nat) : Int) = 0)) rfl (fun h2 => ?_) (fun h2 => ?_)
    · skip
      replace h2 := of_decide_eq_true h2
      refine tr_wk (s' := mk [(0, .ea 100000 0 0), (2, .ptr 2 0), (3, .ptr 3 0), (4, .p none (.v (.int .i64 (i:Int)))), (5, .ptr 5 0)] [(2, [.p none (.v (.int .i64 0)), .nils, .nils, .nils]), (3, [.p none (.v (.int .i64 d.seq)), .sl 1 0 ((pvE d.mem).length), .sl 2 0 ((pvR (tagT d.runs)).length), .sl 3 0 ((pvI d.snaps).length)]), (5, [.p none (.v (.int .i64 d.seq)), .sl 1 0 ((pvE d.mem).length), .sl 2 0 ((pvR (tagT d.runs)).length), .sl 3 0 ((pvI d.snaps).length)])] [(1, 4, pvE d.mem), (2, 1, pvR (tagT d.runs)), (3, 1, pvI d.snaps), (100000, 2, pvRd (cv, belowP bs q 7))]) ?_ ?_
      · exact wk_mk ⟨rfl, ⟨rfl, ⟨rfl, ⟨rfl, ⟨rfl, trivial⟩⟩⟩⟩⟩ ⟨rfl, ⟨rfl, ⟨rfl, trivial⟩⟩⟩ ⟨rfl, ⟨rfl, ⟨rfl, ⟨rfl, trivial⟩⟩⟩⟩ rfl
      refine tr_region rfl (.run [] [] rfl (st_load_box rfl rfl rfl Try.isAgg56 Try.sizeOf56 (nle rfl)) (.run [1, 2, 3, 2800, 2801, 2802, 2803, 2804] [] rfl (st_call rfl 2800 (X := []) en52 rfl (.val nod) (.cons (.agg (.cons (.bor .v) (.cons (.bor (.all (len := (pvE d.mem).length) (xs := pvE d.mem) rfl rfl (by decide))) (.cons (.bor (.all (len := (pvR (tagT d.runs)).length) (xs := pvR (tagT d.runs)) rfl rfl (by decide))) (.cons (.bor (.all (len := (pvI d.snaps).length) (xs := pvI d.snaps) rfl rfl (by decide))) .nil))))) .nil) (by decide) all_nil .nil (flushS_con d hD) rfl rfl (nle rfl)) (.run [] [] rfl (st_move rfl) (.run [] [] rfl (st_extract rfl rfl rfl) (.run [] [] rfl (st_extract rfl rfl rfl) (.run [] [] rfl (st_store_box rfl rfl rfl rfl rfl Try.sizeOf56 rfl (nle rfl)) (.run [] [] rfl (st_assign rfl) .nil))))))) ?_
      refine tr_seq ?_
      refine tr_region rfl (.run [] [] rfl (st_move rfl) (.run [] [] rfl (st_eql rfl rfl rfl) .nil)) ?_
      refine tr_if (t := decide (((flushS d).2) = 0)) rfl (fun h3 => ?_) (fun h3 => ?_)
      · skip
        replace h3 := of_decide_eq_true h3
        refine tr_region rfl (.run [] [] rfl (st_load_box rfl rfl rfl Try.isAgg56 Try.sizeOf56 (nle rfl)) (.run [] [] rfl (st_store_box rfl rfl rfl rfl rfl Try.sizeOf56 rfl (nle rfl)) .nil)) ?_
        refine tr_region rfl (.run [] [] rfl (st_move rfl) (.run [] [] rfl (st_subn rfl rfl rfl (by omega)) (.run [] [] rfl (st_assign rfl) .nil))) ?_
-- round row 100000: pvRd (cv, (belowP bs q 7)) now pvRd (cv, belowP bs q 7)
        refine nxt (Q := fun _ _ => False) (z := (i, d, q)) (i - 1, (flushS d).1, belowP bs q 7) ?_ ?_ ?_
        · show (i - 1) ≤ 9 ∧ EB ((flushS d).1) ∧ (belowP bs q 7) ≤ bs.length ∧ dbLoop bs (i - 1) (((flushS d).1), (belowP bs q 7)) = dbRun bs p
          exact ⟨by omega, flush_eb hD, belowP_le hp, dbLoop_go (by omega) (st_0 (by omega) (decide_eq_true h3)) hE⟩
        · show (i - 1) < i
          omega
        · exact (show Wk _ _ (mk [(0, .ea 100000 0 0), (2, .ptr 2 0), (3, .ptr 3 0), (4, .p none (.v (.int .i64 ((i:Int) - 1))))] [(2, [.p none (.v (.int .i64 0)), .nils, .nils, .nils]), (3, [.p none (.v (.int .i64 ((flushS d).1.seq))), .sl 2801 0 ((pvE ((flushS d).1.mem)).length), .sl 2802 0 ((pvR (tagT (flushS d).1.runs)).length), .sl 2803 0 ((pvI ((flushS d).1.snaps)).length)])] [(2801, 4, pvE ((flushS d).1.mem)), (2802, 1, pvR (tagT (flushS d).1.runs)), (2803, 1, pvI ((flushS d).1.snaps)), (100000, 2, pvRd (cv, belowP bs q 7))]) from wk_mk ⟨rfl, ⟨rfl, ⟨rfl, ⟨rfl, trivial⟩⟩⟩⟩ ⟨rfl, ⟨rfl, trivial⟩⟩ ⟨rfl, ⟨rfl, ⟨rfl, ⟨rfl, trivial⟩⟩⟩⟩ rfl).trans ((wk_ren 2801 1 rfl rfl (by decide)).trans ((wk_ren 2802 2 rfl rfl (by decide)).trans ((wk_ren 2803 3 rfl rfl (by decide)).trans (wk_mk ⟨rfl, ⟨rfl, ⟨rfl, ⟨(int_eq (by omega)), trivial⟩⟩⟩⟩ ⟨rfl, ⟨rfl, trivial⟩⟩ ⟨(congrArg (fun x => some (4, x)) (by rfl)), ⟨(congrArg (fun x => some (1, x)) (by rfl)), ⟨(congrArg (fun x => some (1, x)) (by rfl)), ⟨rfl, trivial⟩⟩⟩⟩ rfl))))
      · skip
        replace h3 := of_decide_eq_false h3
        refine tr_skip ?_
        refine tr_region rfl (.run [] [] rfl (st_move rfl) (.run [] [] rfl (st_subn rfl rfl rfl (by omega)) (.run [] [] rfl (st_assign rfl) .nil))) ?_
-- round row 100000: pvRd (cv, (belowP bs q 7)) now pvRd (cv, belowP bs q 7)
        refine nxt (Q := fun _ _ => False) (z := (i, d, q)) (i - 1, d, belowP bs q 7) ?_ ?_ ?_
        · show (i - 1) ≤ 9 ∧ EB d ∧ (belowP bs q 7) ≤ bs.length ∧ dbLoop bs (i - 1) (d, (belowP bs q 7)) = dbRun bs p
          exact ⟨by omega, hD, belowP_le hp, dbLoop_go (by omega) (st_0 (by omega) (decide_eq_false h3)) hE⟩
        · show (i - 1) < i
          omega
        · exact wk_mk ⟨rfl, ⟨rfl, ⟨rfl, ⟨(int_eq (by omega)), trivial⟩⟩⟩⟩ ⟨rfl, ⟨rfl, trivial⟩⟩ ⟨(congrArg (fun x => some (4, x)) (by rfl)), ⟨(congrArg (fun x => some (1, x)) (by rfl)), ⟨(congrArg (fun x => some (1, x)) (by rfl)), ⟨rfl, trivial⟩⟩⟩⟩ rfl
    · skip
      replace h2 := of_decide_eq_false h2
      refine tr_seq ?_
      refine tr_region rfl (.run [] [] rfl (st_eql rfl rfl rfl) (.run [] [] rfl (st_assign rfl) .nil)) ?_
      refine tr_if (t := decide (((belowV bs q 7 : Nat) : Int) = 1)) rfl (fun h4 => ?_) (fun h4 => ?_)
      · skip
        replace h4 := of_decide_eq_true h4
        refine tr_wk (s' := mk [(0, .ea 100000 0 0), (2, .ptr 2 0), (3, .ptr 3 0), (4, .p none (.v (.int .i64 (i:Int)))), (5, .ptr 5 0)] [(2, [.p none (.v (.int .i64 0)), .nils, .nils, .nils]), (3, [.p none (.v (.int .i64 d.seq)), .sl 1 0 ((pvE d.mem).length), .sl 2 0 ((pvR (tagT d.runs)).length), .sl 3 0 ((pvI d.snaps).length)]), (5, [.p none (.v (.int .i64 d.seq)), .sl 1 0 ((pvE d.mem).length), .sl 2 0 ((pvR (tagT d.runs)).length), .sl 3 0 ((pvI d.snaps).length)])] [(1, 4, pvE d.mem), (2, 1, pvR (tagT d.runs)), (3, 1, pvI d.snaps), (100000, 2, pvRd (cv, belowP bs q 7))]) ?_ ?_
        · exact wk_mk ⟨rfl, ⟨rfl, ⟨rfl, ⟨rfl, ⟨rfl, trivial⟩⟩⟩⟩⟩ ⟨rfl, ⟨rfl, ⟨rfl, trivial⟩⟩⟩ ⟨rfl, ⟨rfl, ⟨rfl, ⟨rfl, trivial⟩⟩⟩⟩ rfl
        refine tr_region rfl (.run [] [] rfl (st_load_box rfl rfl rfl Try.isAgg56 Try.sizeOf56 (nle rfl)) (.run [1, 2, 3, 3500, 3501, 3502, 3503, 3504, 3505] [] rfl (st_call rfl 3500 (X := []) en44 rfl (.val nod) (.cons (.agg (.cons (.bor .v) (.cons (.bor (.all (len := (pvE d.mem).length) (xs := pvE d.mem) rfl rfl (by decide))) (.cons (.bor (.all (len := (pvR (tagT d.runs)).length) (xs := pvR (tagT d.runs)) rfl rfl (by decide))) (.cons (.bor (.all (len := (pvI d.snaps).length) (xs := pvI d.snaps) rfl rfl (by decide))) .nil))))) .nil) (by decide) all_nil .nil (snapS_con d hD) rfl rfl (nle rfl)) (.run [] [] rfl (st_move rfl) (.run [] [] rfl (st_extract rfl rfl rfl) (.run [] [] rfl (st_extract rfl rfl rfl) (.run [] [] rfl (st_extract rfl rfl rfl) (.run [] [] rfl (st_store_box rfl rfl rfl rfl rfl Try.sizeOf56 rfl (nle rfl)) (.run [] [] rfl (st_assign rfl) .nil)))))))) ?_
        refine tr_seq ?_
        refine tr_region rfl (.run [] [] rfl (st_move rfl) (.run [] [] rfl (st_eql rfl rfl rfl) .nil)) ?_
        refine tr_if (t := decide (((snapS d).2.2) = 0)) rfl (fun h5 => ?_) (fun h5 => ?_)
        · skip
          replace h5 := of_decide_eq_true h5
          refine tr_region rfl (.run [] [] rfl (st_load_box rfl rfl rfl Try.isAgg56 Try.sizeOf56 (nle rfl)) (.run [] [] rfl (st_store_box rfl rfl rfl rfl rfl Try.sizeOf56 rfl (nle rfl)) .nil)) ?_
          refine tr_region rfl (.run [] [] rfl (st_move rfl) (.run [] [] rfl (st_subn rfl rfl rfl (by omega)) (.run [] [] rfl (st_assign rfl) .nil))) ?_
-- round row 100000: pvRd (cv, (belowP bs q 7)) now pvRd (cv, belowP bs q 7)
          refine nxt (Q := fun _ _ => False) (z := (i, d, q)) (i - 1, (snapS d).1, belowP bs q 7) ?_ ?_ ?_
          · show (i - 1) ≤ 9 ∧ EB ((snapS d).1) ∧ (belowP bs q 7) ≤ bs.length ∧ dbLoop bs (i - 1) (((snapS d).1), (belowP bs q 7)) = dbRun bs p
            exact ⟨by omega, snap_eb hD, belowP_le hp, dbLoop_go (by omega) (st_1 (by omega) (decide_eq_true h5)) hE⟩
          · show (i - 1) < i
            omega
          · exact (show Wk _ _ (mk [(0, .ea 100000 0 0), (2, .ptr 2 0), (3, .ptr 3 0), (4, .p none (.v (.int .i64 ((i:Int) - 1))))] [(2, [.p none (.v (.int .i64 0)), .nils, .nils, .nils]), (3, [.p none (.v (.int .i64 ((snapS d).1.seq))), .sl 3501 0 ((pvE ((snapS d).1.mem)).length), .sl 3502 0 ((pvR (tagT (snapS d).1.runs)).length), .sl 3503 0 ((pvI ((snapS d).1.snaps)).length)])] [(3501, 4, pvE ((snapS d).1.mem)), (3502, 1, pvR (tagT (snapS d).1.runs)), (3503, 1, pvI ((snapS d).1.snaps)), (100000, 2, pvRd (cv, belowP bs q 7))]) from wk_mk ⟨rfl, ⟨rfl, ⟨rfl, ⟨rfl, trivial⟩⟩⟩⟩ ⟨rfl, ⟨rfl, trivial⟩⟩ ⟨rfl, ⟨rfl, ⟨rfl, ⟨rfl, trivial⟩⟩⟩⟩ rfl).trans ((wk_ren 3501 1 rfl rfl (by decide)).trans ((wk_ren 3502 2 rfl rfl (by decide)).trans ((wk_ren 3503 3 rfl rfl (by decide)).trans (wk_mk ⟨rfl, ⟨rfl, ⟨rfl, ⟨(int_eq (by omega)), trivial⟩⟩⟩⟩ ⟨rfl, ⟨rfl, trivial⟩⟩ ⟨(congrArg (fun x => some (4, x)) (by rfl)), ⟨(congrArg (fun x => some (1, x)) (by rfl)), ⟨(congrArg (fun x => some (1, x)) (by rfl)), ⟨rfl, trivial⟩⟩⟩⟩ rfl))))
        · skip
          replace h5 := of_decide_eq_false h5
          refine tr_skip ?_
          refine tr_region rfl (.run [] [] rfl (st_move rfl) (.run [] [] rfl (st_subn rfl rfl rfl (by omega)) (.run [] [] rfl (st_assign rfl) .nil))) ?_
-- round row 100000: pvRd (cv, (belowP bs q 7)) now pvRd (cv, belowP bs q 7)
          refine nxt (Q := fun _ _ => False) (z := (i, d, q)) (i - 1, d, belowP bs q 7) ?_ ?_ ?_
          · show (i - 1) ≤ 9 ∧ EB d ∧ (belowP bs q 7) ≤ bs.length ∧ dbLoop bs (i - 1) (d, (belowP bs q 7)) = dbRun bs p
            exact ⟨by omega, hD, belowP_le hp, dbLoop_go (by omega) (st_1 (by omega) (decide_eq_false h5)) hE⟩
          · show (i - 1) < i
            omega
          · exact wk_mk ⟨rfl, ⟨rfl, ⟨rfl, ⟨(int_eq (by omega)), trivial⟩⟩⟩⟩ ⟨rfl, ⟨rfl, trivial⟩⟩ ⟨(congrArg (fun x => some (4, x)) (by rfl)), ⟨(congrArg (fun x => some (1, x)) (by rfl)), ⟨(congrArg (fun x => some (1, x)) (by rfl)), ⟨rfl, trivial⟩⟩⟩⟩ rfl
      · skip
        replace h4 := of_decide_eq_false h4
        refine tr_seq ?_
        refine tr_region rfl (.run [] [] rfl (st_eql rfl rfl rfl) (.run [] [] rfl (st_assign rfl) .nil)) ?_
        refine tr_if (t := decide (((belowV bs q 7 : Nat) : Int) = 2)) rfl (fun h6 => ?_) (fun h6 => ?_)
        · skip
          replace h6 := of_decide_eq_true h6
          refine tr_wk (s' := mk [(0, .ea 100000 0 0), (2, .ptr 2 0), (3, .ptr 3 0), (4, .p none (.v (.int .i64 (i:Int)))), (5, .ptr 5 0)] [(2, [.p none (.v (.int .i64 0)), .nils, .nils, .nils]), (3, [.p none (.v (.int .i64 d.seq)), .sl 1 0 ((pvE d.mem).length), .sl 2 0 ((pvR (tagT d.runs)).length), .sl 3 0 ((pvI d.snaps).length)]), (5, [.p none (.v (.int .i64 d.seq)), .sl 1 0 ((pvE d.mem).length), .sl 2 0 ((pvR (tagT d.runs)).length), .sl 3 0 ((pvI d.snaps).length)])] [(1, 4, pvE d.mem), (2, 1, pvR (tagT d.runs)), (3, 1, pvI d.snaps), (100000, 2, pvRd (cv, belowP bs q 7))]) ?_ ?_
          · exact wk_mk ⟨rfl, ⟨rfl, ⟨rfl, ⟨rfl, ⟨rfl, trivial⟩⟩⟩⟩⟩ ⟨rfl, ⟨rfl, ⟨rfl, trivial⟩⟩⟩ ⟨rfl, ⟨rfl, ⟨rfl, ⟨rfl, trivial⟩⟩⟩⟩ rfl
          refine tr_region rfl (.run [] [] rfl (st_load_box rfl rfl rfl Try.isAgg56 Try.sizeOf56 (nle rfl)) (.run [1, 2, 3, 4300, 4301, 4302, 4303, 4304] [] rfl (st_call rfl 4300 (X := []) en68 rfl (.val nod) (.cons (.agg (.cons (.bor .v) (.cons (.bor (.all (len := (pvE d.mem).length) (xs := pvE d.mem) rfl rfl (by decide))) (.cons (.bor (.all (len := (pvR (tagT d.runs)).length) (xs := pvR (tagT d.runs)) rfl rfl (by decide))) (.cons (.bor (.all (len := (pvI d.snaps).length) (xs := pvI d.snaps) rfl rfl (by decide))) .nil))))) .nil) (by decide) all_nil .nil (compactS_con d hD) rfl rfl (nle rfl)) (.run [] [] rfl (st_move rfl) (.run [] [] rfl (st_extract rfl rfl rfl) (.run [] [] rfl (st_extract rfl rfl rfl) (.run [] [] rfl (st_store_box rfl rfl rfl rfl rfl Try.sizeOf56 rfl (nle rfl)) (.run [] [] rfl (st_assign rfl) .nil))))))) ?_
          refine tr_seq ?_
          refine tr_region rfl (.run [] [] rfl (st_move rfl) (.run [] [] rfl (st_eql rfl rfl rfl) .nil)) ?_
          refine tr_if (t := decide (((compactS d).2) = 0)) rfl (fun h7 => ?_) (fun h7 => ?_)
          · skip
            replace h7 := of_decide_eq_true h7
            refine tr_region rfl (.run [] [] rfl (st_load_box rfl rfl rfl Try.isAgg56 Try.sizeOf56 (nle rfl)) (.run [] [] rfl (st_store_box rfl rfl rfl rfl rfl Try.sizeOf56 rfl (nle rfl)) .nil)) ?_
            refine tr_region rfl (.run [] [] rfl (st_move rfl) (.run [] [] rfl (st_subn rfl rfl rfl (by omega)) (.run [] [] rfl (st_assign rfl) .nil))) ?_
-- round row 100000: pvRd (cv, (belowP bs q 7)) now pvRd (cv, belowP bs q 7)
            refine nxt (Q := fun _ _ => False) (z := (i, d, q)) (i - 1, (compactS d).1, belowP bs q 7) ?_ ?_ ?_
            · show (i - 1) ≤ 9 ∧ EB ((compactS d).1) ∧ (belowP bs q 7) ≤ bs.length ∧ dbLoop bs (i - 1) (((compactS d).1), (belowP bs q 7)) = dbRun bs p
              exact ⟨by omega, compact_eb hD, belowP_le hp, dbLoop_go (by omega) (st_2 (by omega) (decide_eq_true h7)) hE⟩
            · show (i - 1) < i
              omega
            · exact (show Wk _ _ (mk [(0, .ea 100000 0 0), (2, .ptr 2 0), (3, .ptr 3 0), (4, .p none (.v (.int .i64 ((i:Int) - 1))))] [(2, [.p none (.v (.int .i64 0)), .nils, .nils, .nils]), (3, [.p none (.v (.int .i64 ((compactS d).1.seq))), .sl 4301 0 ((pvE ((compactS d).1.mem)).length), .sl 4302 0 ((pvR (tagT (compactS d).1.runs)).length), .sl 4303 0 ((pvI ((compactS d).1.snaps)).length)])] [(4301, 4, pvE ((compactS d).1.mem)), (4302, 1, pvR (tagT (compactS d).1.runs)), (4303, 1, pvI ((compactS d).1.snaps)), (100000, 2, pvRd (cv, belowP bs q 7))]) from wk_mk ⟨rfl, ⟨rfl, ⟨rfl, ⟨rfl, trivial⟩⟩⟩⟩ ⟨rfl, ⟨rfl, trivial⟩⟩ ⟨rfl, ⟨rfl, ⟨rfl, ⟨rfl, trivial⟩⟩⟩⟩ rfl).trans ((wk_ren 4301 1 rfl rfl (by decide)).trans ((wk_ren 4302 2 rfl rfl (by decide)).trans ((wk_ren 4303 3 rfl rfl (by decide)).trans (wk_mk ⟨rfl, ⟨rfl, ⟨rfl, ⟨(int_eq (by omega)), trivial⟩⟩⟩⟩ ⟨rfl, ⟨rfl, trivial⟩⟩ ⟨(congrArg (fun x => some (4, x)) (by rfl)), ⟨(congrArg (fun x => some (1, x)) (by rfl)), ⟨(congrArg (fun x => some (1, x)) (by rfl)), ⟨rfl, trivial⟩⟩⟩⟩ rfl))))
          · skip
            replace h7 := of_decide_eq_false h7
            refine tr_skip ?_
            refine tr_region rfl (.run [] [] rfl (st_move rfl) (.run [] [] rfl (st_subn rfl rfl rfl (by omega)) (.run [] [] rfl (st_assign rfl) .nil))) ?_
-- round row 100000: pvRd (cv, (belowP bs q 7)) now pvRd (cv, belowP bs q 7)
            refine nxt (Q := fun _ _ => False) (z := (i, d, q)) (i - 1, d, belowP bs q 7) ?_ ?_ ?_
            · show (i - 1) ≤ 9 ∧ EB d ∧ (belowP bs q 7) ≤ bs.length ∧ dbLoop bs (i - 1) (d, (belowP bs q 7)) = dbRun bs p
              exact ⟨by omega, hD, belowP_le hp, dbLoop_go (by omega) (st_2 (by omega) (decide_eq_false h7)) hE⟩
            · show (i - 1) < i
              omega
            · exact wk_mk ⟨rfl, ⟨rfl, ⟨rfl, ⟨(int_eq (by omega)), trivial⟩⟩⟩⟩ ⟨rfl, ⟨rfl, trivial⟩⟩ ⟨(congrArg (fun x => some (4, x)) (by rfl)), ⟨(congrArg (fun x => some (1, x)) (by rfl)), ⟨(congrArg (fun x => some (1, x)) (by rfl)), ⟨rfl, trivial⟩⟩⟩⟩ rfl
        · skip
          replace h6 := of_decide_eq_false h6
          refine tr_seq ?_
          refine tr_region rfl (.run [] [] rfl (st_eql rfl rfl rfl) (.run [] [] rfl (st_assign rfl) .nil)) ?_
          refine tr_if (t := decide (((belowV bs q 7 : Nat) : Int) = 3)) rfl (fun h8 => ?_) (fun h8 => ?_)
          · skip
            replace h8 := of_decide_eq_true h8
            refine tr_seq ?_
            refine tr_wk (s' := mk [(0, .ea 100000 0 0), (2, .ptr 2 0), (3, .ptr 3 0), (4, .p none (.v (.int .i64 (i:Int)))), (5, .ptr 5 0), (6, .p none (.v (.int .i64 0)))] [(2, [.p none (.v (.int .i64 0)), .nils, .nils, .nils]), (3, [.p none (.v (.int .i64 d.seq)), .sl 1 0 ((pvE d.mem).length), .sl 2 0 ((pvR (tagT d.runs)).length), .sl 3 0 ((pvI d.snaps).length)]), (5, [.p none (.v (.int .i64 d.seq)), .sl 1 0 ((pvE d.mem).length), .sl 2 0 ((pvR (tagT d.runs)).length), .sl 3 0 ((pvI d.snaps).length)])] [(1, 4, pvE d.mem), (2, 1, pvR (tagT d.runs)), (3, 1, pvI d.snaps), (100000, 2, pvRd (cv, belowP bs q 7))]) ?_ ?_
            · exact wk_mk ⟨rfl, ⟨rfl, ⟨rfl, ⟨rfl, ⟨rfl, ⟨rfl, trivial⟩⟩⟩⟩⟩⟩ ⟨rfl, ⟨rfl, ⟨rfl, trivial⟩⟩⟩ ⟨rfl, ⟨rfl, ⟨rfl, ⟨rfl, trivial⟩⟩⟩⟩ rfl
            refine tr_region rfl (.run [] [] rfl (st_faddr_box rfl rfl Try.underlying56 rfl Try.sizeOf23 (by decide)) (.run [] [] rfl (st_load_box1 rfl rfl rfl Try.isAgg23 rfl) (.run [] [] rfl (st_len_row rfl rfl Try.underlying23) (.run [] [] rfl (st_gtr rfl rfl rfl) .nil)))) ?_
            refine tr_if (t := decide (0 < ((pvI d.snaps).length : Int))) rfl (fun h9 => ?_) (fun h9 => ?_)
            · skip
              replace h9 := of_decide_eq_true h9
              obtain ⟨a, ha⟩ : ∃ a, d.snaps[belowV bs (belowP bs q 7) d.snaps.length]? = some a := ⟨_, List.getElem?_eq_getElem (belowV_lt (by omega))⟩
              refine tr_wk (s' := mk [(0, .ea 100000 0 0), (2, .ptr 2 0), (3, .ptr 3 0), (4, .p none (.v (.int .i64 (i:Int)))), (5, .ptr 5 0)] [(2, [.p none (.v (.int .i64 0)), .nils, .nils, .nils]), (3, [.p none (.v (.int .i64 d.seq)), .sl 1 0 ((pvE d.mem).length), .sl 2 0 ((pvR (tagT d.runs)).length), .sl 3 0 ((pvI d.snaps).length)]), (5, [.p none (.v (.int .i64 d.seq)), .sl 1 0 ((pvE d.mem).length), .sl 2 0 ((pvR (tagT d.runs)).length), .sl 3 0 ((pvI d.snaps).length)])] [(1, 4, pvE d.mem), (2, 1, pvR (tagT d.runs)), (3, 1, pvI d.snaps), (100000, 2, pvRd (cv, belowP bs q 7))]) ?_ ?_
              · exact wk_mk ⟨rfl, ⟨rfl, ⟨rfl, ⟨rfl, ⟨rfl, trivial⟩⟩⟩⟩⟩ ⟨rfl, ⟨rfl, ⟨rfl, trivial⟩⟩⟩ ⟨rfl, ⟨rfl, ⟨rfl, ⟨rfl, trivial⟩⟩⟩⟩ rfl
              refine tr_regionD mixed rfl (.run [] [] rfl (st_load_box rfl rfl rfl Try.isAgg56 Try.sizeOf56 (nle rfl)) (.run [] [] rfl (st_faddr_box rfl rfl Try.underlying56 rfl Try.sizeOf23 (by decide)) (.run [] [] rfl (st_load_box1 rfl rfl rfl Try.isAgg23 rfl) (.run [] [] rfl (st_move rfl) (.run [] [] rfl (st_faddr_box rfl rfl Try.underlying56 rfl Try.sizeOf23 (by decide)) (.run [] [] rfl (st_load_box1 rfl rfl rfl Try.isAgg23 rfl) (.run [] [] rfl (st_eq (st_len_row rfl rfl Try.underlying23) ((show (AV.p none (.v (.int .i64 ((pvI d.snaps).length : Int)))) = AV.p none (.v (.int .i64 (d.snaps.length : Int))) from int_eq (by omega)))) (.run [100000, 6000] [] rfl (st_callG (.inr rfl) rfl 6000 (X := [100000]) en139 rfl (.val nod) (.cons (.rptr rfl) (.cons (.one (.bor .v)) .nil)) (by decide) (all_cons rfl all_nil) (.keep (xs := pvRd (cv, belowP bs q 7)) rfl (FlatP.nf (pvRd_flat _)) .nil) (below_con hc hl (belowP bs q 7) (belowP_le hp) d.snaps.length (by omega)) rfl rfl (nle rfl)) (.run [] [] rfl (st_idx_row0 (belowV bs (belowP bs q 7) d.snaps.length) rfl rfl rfl rfl Try.underlying23 Try.sizeOf2 rfl rfl (by rw [pvI_length]; exact belowV_lt (by omega))) (.run [] [] rfl (st_load_ea1 rfl rfl rfl (pvI_get ha) Try.isAgg2 rfl) (.run [1, 2, 3, 6300, 6301, 6302, 6303, 6304] [] rfl (st_call rfl 6300 (X := []) en48 rfl (.val nod) (.cons (.agg (.cons (.bor .v) (.cons (.bor (.all (len := (pvE d.mem).length) (xs := pvE d.mem) rfl rfl (by decide))) (.cons (.bor (.all (len := (pvR (tagT d.runs)).length) (xs := pvR (tagT d.runs)) rfl rfl (by decide))) (.cons (.bor (.all (len := (pvI d.snaps).length) (xs := pvI d.snaps) rfl rfl (by decide))) .nil))))) (.cons (.one (.bor .v)) .nil)) (by decide) all_nil .nil (freeS_con d hD a) rfl rfl (nle rfl)) (.run [] [] rfl (st_move rfl) (.run [] [] rfl (st_extract rfl rfl rfl) (.run [] [] rfl (st_extract rfl rfl rfl) (.run [] [] rfl (st_store_box rfl rfl rfl rfl rfl Try.sizeOf56 rfl (nle rfl)) (.run [] [] rfl (st_assign rfl) .nil)))))))))))))))) (by kernel_rfl) ?_
              refine tr_seq ?_
              refine tr_wk (s' := mk [(0, .ea 100000 0 0), (2, .ptr 2 0), (3, .ptr 3 0), (4, .p none (.v (.int .i64 (i:Int)))), (5, .ptr 5 0), (6, .p none (.v (.int .i64 ((freeS d a).2))))] [(2, [.p none (.v (.int .i64 0)), .nils, .nils, .nils]), (3, [.p none (.v (.int .i64 d.seq)), .sl 1 0 ((pvE d.mem).length), .sl 2 0 ((pvR (tagT d.runs)).length), .sl 3 0 ((pvI d.snaps).length)]), (5, [.p none (.v (.int .i64 ((freeS d a).1.seq))), .sl 6301 0 ((pvE ((freeS d a).1.mem)).length), .sl 6302 0 ((pvR (tagT (freeS d a).1.runs)).length), .sl 6303 0 ((pvI ((freeS d a).1.snaps)).length)])] [(1, 4, pvE d.mem), (2, 1, pvR (tagT d.runs)), (3, 1, pvI d.snaps), (6301, 4, pvE ((freeS d a).1.mem)), (6302, 1, pvR (tagT (freeS d a).1.runs)), (6303, 1, pvI ((freeS d a).1.snaps)), (100000, 2, pvRd (cv, belowP bs (belowP bs q 7) d.snaps.length))]) ?_ ?_
              · exact wk_mk ⟨rfl, ⟨rfl, ⟨rfl, ⟨rfl, ⟨rfl, ⟨rfl, trivial⟩⟩⟩⟩⟩⟩ ⟨rfl, ⟨rfl, ⟨rfl, trivial⟩⟩⟩ ⟨rfl, ⟨rfl, ⟨rfl, ⟨rfl, ⟨rfl, ⟨rfl, ⟨rfl, trivial⟩⟩⟩⟩⟩⟩⟩ rfl
              refine tr_region rfl (.run [] [] rfl (st_move rfl) (.run [] [] rfl (st_eql rfl rfl rfl) .nil)) ?_
              refine tr_if (t := decide (((freeS d a).2) = 0)) rfl (fun h10 => ?_) (fun h10 => ?_)
              · skip
                replace h10 := of_decide_eq_true h10
                refine tr_region rfl (.run [] [] rfl (st_load_box rfl rfl rfl Try.isAgg56 Try.sizeOf56 (nle rfl)) (.run [] [] rfl (st_store_box rfl rfl rfl rfl rfl Try.sizeOf56 rfl (nle rfl)) .nil)) ?_
                refine tr_region rfl (.run [] [] rfl (st_move rfl) (.run [] [] rfl (st_subn rfl rfl rfl (by omega)) (.run [] [] rfl (st_assign rfl) .nil))) ?_
-- round row 100000: pvRd (cv, (belowP bs (belowP bs q 7) d.snaps.length)) now pvRd (cv, belowP bs (belowP bs q 7) d.snaps.length)
                refine nxt (Q := fun _ _ => False) (z := (i, d, q)) (i - 1, (freeS d a).1, belowP bs (belowP bs q 7) d.snaps.length) ?_ ?_ ?_
                · show (i - 1) ≤ 9 ∧ EB ((freeS d a).1) ∧ (belowP bs (belowP bs q 7) d.snaps.length) ≤ bs.length ∧ dbLoop bs (i - 1) (((freeS d a).1), (belowP bs (belowP bs q 7) d.snaps.length)) = dbRun bs p
                  exact ⟨by omega, free_eb hD, belowP_le (belowP_le hp), dbLoop_go (by omega) (st_3 (by omega) ha (decide_eq_true h10)) hE⟩
                · show (i - 1) < i
                  omega
                · exact (show Wk _ _ (mk [(0, .ea 100000 0 0), (2, .ptr 2 0), (3, .ptr 3 0), (4, .p none (.v (.int .i64 ((i:Int) - 1))))] [(2, [.p none (.v (.int .i64 0)), .nils, .nils, .nils]), (3, [.p none (.v (.int .i64 ((freeS d a).1.seq))), .sl 6301 0 ((pvE ((freeS d a).1.mem)).length), .sl 6302 0 ((pvR (tagT (freeS d a).1.runs)).length), .sl 6303 0 ((pvI ((freeS d a).1.snaps)).length)])] [(6301, 4, pvE ((freeS d a).1.mem)), (6302, 1, pvR (tagT (freeS d a).1.runs)), (6303, 1, pvI ((freeS d a).1.snaps)), (100000, 2, pvRd (cv, belowP bs (belowP bs q 7) d.snaps.length))]) from wk_mk ⟨rfl, ⟨rfl, ⟨rfl, ⟨rfl, trivial⟩⟩⟩⟩ ⟨rfl, ⟨rfl, trivial⟩⟩ ⟨rfl, ⟨rfl, ⟨rfl, ⟨rfl, trivial⟩⟩⟩⟩ rfl).trans ((wk_ren 6301 1 rfl rfl (by decide)).trans ((wk_ren 6302 2 rfl rfl (by decide)).trans ((wk_ren 6303 3 rfl rfl (by decide)).trans (wk_mk ⟨rfl, ⟨rfl, ⟨rfl, ⟨(int_eq (by omega)), trivial⟩⟩⟩⟩ ⟨rfl, ⟨rfl, trivial⟩⟩ ⟨(congrArg (fun x => some (4, x)) (by rfl)), ⟨(congrArg (fun x => some (1, x)) (by rfl)), ⟨(congrArg (fun x => some (1, x)) (by rfl)), ⟨rfl, trivial⟩⟩⟩⟩ rfl))))
              · skip
                replace h10 := of_decide_eq_false h10
                refine tr_skip ?_
                refine tr_region rfl (.run [] [] rfl (st_move rfl) (.run [] [] rfl (st_subn rfl rfl rfl (by omega)) (.run [] [] rfl (st_assign rfl) .nil))) ?_
-- round row 100000: pvRd (cv, (belowP bs (belowP bs q 7) d.snaps.length)) now pvRd (cv, belowP bs (belowP bs q 7) d.snaps.length)
                refine nxt (Q := fun _ _ => False) (z := (i, d, q)) (i - 1, d, belowP bs (belowP bs q 7) d.snaps.length) ?_ ?_ ?_
                · show (i - 1) ≤ 9 ∧ EB d ∧ (belowP bs (belowP bs q 7) d.snaps.length) ≤ bs.length ∧ dbLoop bs (i - 1) (d, (belowP bs (belowP bs q 7) d.snaps.length)) = dbRun bs p
                  exact ⟨by omega, hD, belowP_le (belowP_le hp), dbLoop_go (by omega) (st_3 (by omega) ha (decide_eq_false h10)) hE⟩
                · show (i - 1) < i
                  omega
                · exact wk_mk ⟨rfl, ⟨rfl, ⟨rfl, ⟨(int_eq (by omega)), trivial⟩⟩⟩⟩ ⟨rfl, ⟨rfl, trivial⟩⟩ ⟨(congrArg (fun x => some (4, x)) (by rfl)), ⟨(congrArg (fun x => some (1, x)) (by rfl)), ⟨(congrArg (fun x => some (1, x)) (by rfl)), ⟨rfl, trivial⟩⟩⟩⟩ rfl
            · skip
              replace h9 := of_decide_eq_false h9
              refine tr_skip ?_
              refine tr_seq ?_
              refine tr_region rfl (.run [] [] rfl (st_move rfl) (.run [] [] rfl (st_eq (st_eql rfl rfl rfl) (bool_eq (decide_eq_true (by simp)))) .nil)) ?_
              refine tr_if (t := true) rfl (fun _ => ?_) (fun h => nomatch h)
              refine tr_region rfl (.run [] [] rfl (st_load_box rfl rfl rfl Try.isAgg56 Try.sizeOf56 (nle rfl)) (.run [] [] rfl (st_store_box rfl rfl rfl rfl rfl Try.sizeOf56 rfl (nle rfl)) .nil)) ?_
              refine tr_region rfl (.run [] [] rfl (st_move rfl) (.run [] [] rfl (st_subn rfl rfl rfl (by omega)) (.run [] [] rfl (st_assign rfl) .nil))) ?_
-- round row 100000: pvRd (cv, (belowP bs q 7)) now pvRd (cv, belowP bs q 7)
              refine nxt (Q := fun _ _ => False) (z := (i, d, q)) (i - 1, d, belowP bs q 7) ?_ ?_ ?_
              · show (i - 1) ≤ 9 ∧ EB d ∧ (belowP bs q 7) ≤ bs.length ∧ dbLoop bs (i - 1) (d, (belowP bs q 7)) = dbRun bs p
                exact ⟨by omega, hD, belowP_le hp, dbLoop_go (by omega) (st_3n (by omega) (by omega)) hE⟩
              · show (i - 1) < i
                omega
              · exact wk_mk ⟨rfl, ⟨rfl, ⟨rfl, ⟨(int_eq (by omega)), trivial⟩⟩⟩⟩ ⟨rfl, ⟨rfl, trivial⟩⟩ ⟨(congrArg (fun x => some (4, x)) (by rfl)), ⟨(congrArg (fun x => some (1, x)) (by rfl)), ⟨(congrArg (fun x => some (1, x)) (by rfl)), ⟨rfl, trivial⟩⟩⟩⟩ rfl
          · skip
            replace h8 := of_decide_eq_false h8
            refine tr_wk (s' := mk [(0, .ea 100000 0 0), (2, .ptr 2 0), (3, .ptr 3 0), (4, .p none (.v (.int .i64 (i:Int)))), (5, .ptr 5 0)] [(2, [.p none (.v (.int .i64 0)), .nils, .nils, .nils]), (3, [.p none (.v (.int .i64 d.seq)), .sl 1 0 ((pvE d.mem).length), .sl 2 0 ((pvR (tagT d.runs)).length), .sl 3 0 ((pvI d.snaps).length)]), (5, [.p none (.v (.int .i64 d.seq)), .sl 1 0 ((pvE d.mem).length), .sl 2 0 ((pvR (tagT d.runs)).length), .sl 3 0 ((pvI d.snaps).length)])] [(1, 4, pvE d.mem), (2, 1, pvR (tagT d.runs)), (3, 1, pvI d.snaps), (100000, 2, pvRd (cv, belowP bs q 7))]) ?_ ?_
            · exact wk_mk ⟨rfl, ⟨rfl, ⟨rfl, ⟨rfl, ⟨rfl, trivial⟩⟩⟩⟩⟩ ⟨rfl, ⟨rfl, ⟨rfl, trivial⟩⟩⟩ ⟨rfl, ⟨rfl, ⟨rfl, ⟨rfl, trivial⟩⟩⟩⟩ rfl
            refine tr_regionD mixed rfl (.run [] [] rfl (st_load_box rfl rfl rfl Try.isAgg56 Try.sizeOf56 (nle rfl)) (.run [] [] rfl (st_move rfl) (.run [100000, 2000] [] rfl (st_callG (.inr rfl) rfl 2000 (X := [100000]) en130 rfl (.val nod) (.cons (.rptr rfl) .nil) (by decide) (all_cons rfl all_nil) (.keep (xs := pvRd (cv, belowP bs q 7)) rfl (FlatP.nf (pvRd_flat _)) .nil) (ops_con hc hl (belowP bs q 7) (belowP_le hp)) rfl rfl (nle rfl)) (.run [1, 2, 3, 2000, 2100, 2101, 2102, 2103, 2104] [] rfl (st_call rfl 2100 (X := []) en55 rfl (.val nod) (.cons (.agg (.cons (.bor .v) (.cons (.bor (.all (len := (pvE d.mem).length) (xs := pvE d.mem) rfl rfl (by decide))) (.cons (.bor (.all (len := (pvR (tagT d.runs)).length) (xs := pvR (tagT d.runs)) rfl rfl (by decide))) (.cons (.bor (.all (len := (pvI d.snaps).length) (xs := pvI d.snaps) rfl rfl (by decide))) .nil))))) (.cons (.one (.bor (.all (len := (pvO (opsV bs (belowP bs q 7))).length) (xs := pvO (opsV bs (belowP bs q 7))) rfl rfl (by decide)))) .nil)) (by decide) all_nil .nil (writeS_con d hD (opsV bs (belowP bs q 7)) (by have := opsV_len bs (belowP bs q 7); omega)) rfl rfl (nle rfl)) (.run [] [] rfl (st_move rfl) (.run [] [] rfl (st_extract rfl rfl rfl) (.run [] [] rfl (st_extract rfl rfl rfl) (.run [] [] rfl (st_store_box rfl rfl rfl rfl rfl Try.sizeOf56 rfl (nle rfl)) (.run [] [] rfl (st_assign rfl) .nil))))))))) (by kernel_rfl) ?_
            refine tr_seq ?_
            refine tr_region rfl (.run [] [] rfl (st_move rfl) (.run [] [] rfl (st_eql rfl rfl rfl) .nil)) ?_
            refine tr_if (t := decide (((writeS d (opsV bs (belowP bs q 7))).2) = 0)) rfl (fun h11 => ?_) (fun h11 => ?_)
            · skip
              replace h11 := of_decide_eq_true h11
              refine tr_region rfl (.run [] [] rfl (st_load_box rfl rfl rfl Try.isAgg56 Try.sizeOf56 (nle rfl)) (.run [] [] rfl (st_store_box rfl rfl rfl rfl rfl Try.sizeOf56 rfl (nle rfl)) .nil)) ?_
              refine tr_region rfl (.run [] [] rfl (st_move rfl) (.run [] [] rfl (st_subn rfl rfl rfl (by omega)) (.run [] [] rfl (st_assign rfl) .nil))) ?_
-- round row 100000: pvRd (cv, (opsP bs (belowP bs q 7))) now pvRd (cv, opsP bs (belowP bs q 7))
              refine nxt (Q := fun _ _ => False) (z := (i, d, q)) (i - 1, (writeS d (opsV bs (belowP bs q 7))).1, opsP bs (belowP bs q 7)) ?_ ?_ ?_
              · show (i - 1) ≤ 9 ∧ EB ((writeS d (opsV bs (belowP bs q 7))).1) ∧ (opsP bs (belowP bs q 7)) ≤ bs.length ∧ dbLoop bs (i - 1) (((writeS d (opsV bs (belowP bs q 7))).1), (opsP bs (belowP bs q 7))) = dbRun bs p
                exact ⟨by omega, write_eb hD (by have := opsV_len bs (belowP bs q 7); omega), opsP_le (belowP_le hp), dbLoop_go (by omega) (st_4 (by omega) (by omega) (by omega) (by omega) (decide_eq_true h11)) hE⟩
              · show (i - 1) < i
                omega
              · exact (show Wk _ _ (mk [(0, .ea 100000 0 0), (2, .ptr 2 0), (3, .ptr 3 0), (4, .p none (.v (.int .i64 ((i:Int) - 1))))] [(2, [.p none (.v (.int .i64 0)), .nils, .nils, .nils]), (3, [.p none (.v (.int .i64 ((writeS d (opsV bs (belowP bs q 7))).1.seq))), .sl 2101 0 ((pvE ((writeS d (opsV bs (belowP bs q 7))).1.mem)).length), .sl 2102 0 ((pvR (tagT (writeS d (opsV bs (belowP bs q 7))).1.runs)).length), .sl 2103 0 ((pvI ((writeS d (opsV bs (belowP bs q 7))).1.snaps)).length)])] [(2101, 4, pvE ((writeS d (opsV bs (belowP bs q 7))).1.mem)), (2102, 1, pvR (tagT (writeS d (opsV bs (belowP bs q 7))).1.runs)), (2103, 1, pvI ((writeS d (opsV bs (belowP bs q 7))).1.snaps)), (100000, 2, pvRd (cv, opsP bs (belowP bs q 7)))]) from wk_mk ⟨rfl, ⟨rfl, ⟨rfl, ⟨rfl, trivial⟩⟩⟩⟩ ⟨rfl, ⟨rfl, trivial⟩⟩ ⟨rfl, ⟨rfl, ⟨rfl, ⟨rfl, trivial⟩⟩⟩⟩ rfl).trans ((wk_ren 2101 1 rfl rfl (by decide)).trans ((wk_ren 2102 2 rfl rfl (by decide)).trans ((wk_ren 2103 3 rfl rfl (by decide)).trans (wk_mk ⟨rfl, ⟨rfl, ⟨rfl, ⟨(int_eq (by omega)), trivial⟩⟩⟩⟩ ⟨rfl, ⟨rfl, trivial⟩⟩ ⟨(congrArg (fun x => some (4, x)) (by rfl)), ⟨(congrArg (fun x => some (1, x)) (by rfl)), ⟨(congrArg (fun x => some (1, x)) (by rfl)), ⟨rfl, trivial⟩⟩⟩⟩ rfl))))
            · skip
              replace h11 := of_decide_eq_false h11
              refine tr_skip ?_
              refine tr_region rfl (.run [] [] rfl (st_move rfl) (.run [] [] rfl (st_subn rfl rfl rfl (by omega)) (.run [] [] rfl (st_assign rfl) .nil))) ?_
-- round row 100000: pvRd (cv, (opsP bs (belowP bs q 7))) now pvRd (cv, opsP bs (belowP bs q 7))
              refine nxt (Q := fun _ _ => False) (z := (i, d, q)) (i - 1, d, opsP bs (belowP bs q 7)) ?_ ?_ ?_
              · show (i - 1) ≤ 9 ∧ EB d ∧ (opsP bs (belowP bs q 7)) ≤ bs.length ∧ dbLoop bs (i - 1) (d, (opsP bs (belowP bs q 7))) = dbRun bs p
                exact ⟨by omega, hD, opsP_le (belowP_le hp), dbLoop_go (by omega) (st_4 (by omega) (by omega) (by omega) (by omega) (decide_eq_false h11)) hE⟩
              · show (i - 1) < i
                omega
              · exact wk_mk ⟨rfl, ⟨rfl, ⟨rfl, ⟨(int_eq (by omega)), trivial⟩⟩⟩⟩ ⟨rfl, ⟨rfl, trivial⟩⟩ ⟨(congrArg (fun x => some (4, x)) (by rfl)), ⟨(congrArg (fun x => some (1, x)) (by rfl)), ⟨(congrArg (fun x => some (1, x)) (by rfl)), ⟨rfl, trivial⟩⟩⟩⟩ rfl
  · skip
    replace h1 := of_decide_eq_false h1
    refine tr_exit ?_
    refine tr_join (σ := List Ent × Nat) (fun (m, q2) => mk [(0, .ea 100000 0 0), (2, .ptr 2 0), (3, .ptr 3 0)] [(2, [.p none (.v (.int .i64 0)), .nils, .nils, .nils]), (3, [.p none (.v (.int .i64 d.seq)), .sl 1 0 ((pvE m).length), .sl 2 0 ((pvR (tagT d.runs)).length), .sl 3 0 ((pvI d.snaps).length)])] [(1, 4, pvE m), (2, 1, pvR (tagT d.runs)), (3, 1, pvI d.snaps), (100000, 2, pvRd (cv, q2))]) (fun (m, q2) => q2 ≤ bs.length ∧ dbAdd bs (d, q) = (⟨d.seq, m, d.runs, d.snaps⟩, q2) ∧ dbRun bs p = (d, q)) ?_ ?_
    · skip
      refine tr_seq ?_
      have hi0 : i = 0 := (by omega)
      rw [hi0] at hE
      have hEm : dbRun bs p = (d, q) := hE.symm
      have hmm := hD.mem
      have hl1 := pvE_length d.mem
      refine tr_region rfl (.run [] [] rfl (st_move rfl) (.run [100000, 7000] [] rfl (st_callG (.inr rfl) rfl 7000 (X := [100000]) en80 rfl (.val nod) (.cons (.rptr rfl) (.cons (.one (.bor .v)) .nil)) (by decide) (all_cons rfl all_nil) (.keep (xs := pvRd (cv, q)) rfl (FlatP.nf (pvRd_flat _)) .nil) (once_con hc hl q hp 20 (by omega)) rfl rfl (nle rfl)) .nil)) ?_
      refine tr_if (t := onceV bs q 20) rfl (fun h12 => ?_) (fun h12 => ?_)
      · skip
        refine tr_regionD mixed rfl (.run [] [] rfl (st_faddr_box rfl rfl Try.underlying56 rfl Try.sizeOf26 (by decide)) (.run [] [] rfl (st_load_box1 rfl rfl rfl Try.isAgg26 rfl) (.run [] [] rfl (st_move rfl) (.run [100000, 7400, 7401, 7402, 7403] [] rfl (st_callG (.inr rfl) rfl 7400 (X := [100000]) en140 rfl (.val nod) (.cons (.rptr rfl) .nil) (by decide) (all_cons rfl all_nil) (.keep (xs := pvRd (cv, belowP bs q 20)) rfl (FlatP.nf (pvRd_flat _)) .nil) (entry_con hc hl (belowP bs q 20) (belowP_le hp)) rfl rfl (nle rfl)) (.run [7500] [] rfl (st_buildSlice rfl 7500 Try.underlying26 inf44 (nle rfl) (by decide) rfl rfl rfl (.cons .v (.cons .v (.cons .v (.cons .v .nil)))) (by decide) rfl (by decide) rfl (by decide) rfl) (.run [1] [] rfl (st_append rfl 1 (ib := 1) (len := ((pvE d.mem) ++ [[PV.v (.string ((entryV bs (belowP bs q 20)).user)), PV.v (.int .i64 ((entryV bs (belowP bs q 20)).seq)), PV.v (.int .i64 ((entryV bs (belowP bs q 20)).kind)), PV.v (.string ((entryV bs (belowP bs q 20)).value))]]).length) rfl rfl (.row (len := (pvE d.mem).length) (xs := pvE d.mem) rfl rfl (.inl rfl)) (.give (len := 1) (xs := [[PV.v (.string ((entryV bs (belowP bs q 20)).user)), PV.v (.int .i64 ((entryV bs (belowP bs q 20)).seq)), PV.v (.int .i64 ((entryV bs (belowP bs q 20)).kind)), PV.v (.string ((entryV bs (belowP bs q 20)).value))]]) rfl rfl) Try.underlying26 (sk Try.underlying26 rfl) inf44 rfl (by decide) (by decide) (by decide) List.length_append (by simp only [maxLen, List.length_append, List.length_map, List.length_cons, List.length_nil, List.length_take, List.length_drop, pvE_length, pvI_length, pvT_length, pvU_length, pvP_length, pvR_length, pvO_length]; omega) (by simp only [maxLen, List.length_append, List.length_map, List.length_cons, List.length_nil, List.length_take, List.length_drop, pvE_length, pvI_length, pvT_length, pvU_length, pvP_length, pvR_length, pvO_length]; omega)) (.run [] [] rfl (st_faddr_box rfl rfl Try.underlying56 rfl Try.sizeOf26 (by decide)) (.run [] [] rfl (st_store_box rfl rfl rfl rfl rfl Try.sizeOf26 rfl (nle rfl)) .nil)))))))) (by kernel_rfl) ?_
        refine ⟨(d.mem ++ [entryV bs (belowP bs q 20)], entryP bs (belowP bs q 20)), ?_, ?_⟩
        · show (entryP bs (belowP bs q 20)) ≤ bs.length ∧ dbAdd bs (d, q) = (⟨d.seq, (d.mem ++ [entryV bs (belowP bs q 20)]), d.runs, d.snaps⟩, (entryP bs (belowP bs q 20))) ∧ dbRun bs p = (d, q)
          exact ⟨entryP_le (belowP_le hp), if_pos h12, hEm⟩
        · exact wk_mk ⟨rfl, ⟨rfl, ⟨rfl, trivial⟩⟩⟩ ⟨rfl, ⟨(by rw [← pvE_snoc] <;> rfl), trivial⟩⟩ ⟨(congrArg (fun x => some (4, x)) (by exact pvE_snoc _ _)), ⟨rfl, ⟨rfl, ⟨rfl, trivial⟩⟩⟩⟩ rfl
      · skip
        refine tr_skip ?_
        refine ⟨(d.mem, belowP bs q 20), ?_, ?_⟩
        · show (belowP bs q 20) ≤ bs.length ∧ dbAdd bs (d, q) = (⟨d.seq, d.mem, d.runs, d.snaps⟩, (belowP bs q 20)) ∧ dbRun bs p = (d, q)
          exact ⟨belowP_le hp, if_neg (by simp [h12]), hEm⟩
        · exact wk_mk ⟨rfl, ⟨rfl, ⟨rfl, trivial⟩⟩⟩ ⟨rfl, ⟨rfl, trivial⟩⟩ ⟨(congrArg (fun x => some (4, x)) (by rfl)), ⟨rfl, ⟨rfl, ⟨rfl, trivial⟩⟩⟩⟩ rfl
    · rintro ⟨m, q2⟩ hG
      replace hG : q2 ≤ bs.length ∧ dbAdd bs (d, q) = (⟨d.seq, m, d.runs, d.snaps⟩, q2) ∧ dbRun bs p = (d, q) := hG
      obtain ⟨hp2, hA, hEm⟩ := hG
      refine tr_join (σ := Int × Nat) (fun (s, q3) => mk [(2, .ptr 2 0), (3, .ptr 3 0)] [(2, [.p none (.v (.int .i64 0)), .nils, .nils, .nils]), (3, [.p none (.v (.int .i64 s)), .sl 1 0 ((pvE m).length), .sl 2 0 ((pvR (tagT d.runs)).length), .sl 3 0 ((pvI d.snaps).length)])] [(1, 4, pvE m), (2, 1, pvR (tagT d.runs)), (3, 1, pvI d.snaps), (100000, 2, pvRd (cv, q3))]) (fun (s, q3) => q3 ≤ bs.length ∧ dbOff bs (⟨d.seq, m, d.runs, d.snaps⟩, q2) = (⟨s, m, d.runs, d.snaps⟩, q3)) ?_ ?_
      · skip
        refine tr_seq ?_
        have hp := hp2
        refine tr_region rfl (.run [] [] rfl (st_move rfl) (.run [100000, 7900] [] rfl (st_callG (.inr rfl) rfl 7900 (X := [100000]) en80 rfl (.val nod) (.cons (.rptr rfl) (.cons (.one (.bor .v)) .nil)) (by decide) (all_cons rfl all_nil) (.keep (xs := pvRd (cv, q2)) rfl (FlatP.nf (pvRd_flat _)) .nil) (once_con hc hl q2 hp 24 (by omega)) rfl rfl (nle rfl)) .nil)) ?_
        refine tr_if (t := onceV bs q2 24) rfl (fun h13 => ?_) (fun h13 => ?_)
        · skip
          refine tr_region rfl (.run [] [] rfl (st_move rfl) (.run [100000, 8100] [] rfl (st_callG (.inr rfl) rfl 8100 (X := [100000]) en162 rfl (.val nod) (.cons (.rptr rfl) (.cons (.one (.bor .v)) (.cons (.one (.bor .v)) .nil))) (by decide) (all_cons rfl all_nil) (.keep (xs := pvRd (cv, belowP bs q2 24)) rfl (FlatP.nf (pvRd_flat _)) .nil) (off_con hc hl (belowP bs q2 24) (belowP_le hp) 0 12 (by omega) (by omega)) rfl rfl (nle rfl)) (.run [] [] rfl (st_faddr_box rfl rfl Try.underlying56 rfl Try.sizeOf2 (by decide)) (.run [] [] rfl (st_store_box rfl rfl rfl rfl rfl Try.sizeOf2 rfl (nle rfl)) .nil)))) ?_
          refine ⟨(offV bs (belowP bs q2 24) 0 12, offP bs (belowP bs q2 24) 0 12), ?_, ?_⟩
          · show (offP bs (belowP bs q2 24) 0 12) ≤ bs.length ∧ dbOff bs (⟨d.seq, m, d.runs, d.snaps⟩, q2) = (⟨(offV bs (belowP bs q2 24) 0 12), m, d.runs, d.snaps⟩, (offP bs (belowP bs q2 24) 0 12))
            exact ⟨offP_le (belowP_le hp2), if_pos h13⟩
          · exact wk_mk ⟨rfl, ⟨rfl, trivial⟩⟩ ⟨rfl, ⟨rfl, trivial⟩⟩ ⟨rfl, ⟨rfl, ⟨rfl, ⟨rfl, trivial⟩⟩⟩⟩ rfl
        · skip
          refine tr_skip ?_
          refine ⟨(d.seq, belowP bs q2 24), ?_, ?_⟩
          · show (belowP bs q2 24) ≤ bs.length ∧ dbOff bs (⟨d.seq, m, d.runs, d.snaps⟩, q2) = (⟨d.seq, m, d.runs, d.snaps⟩, (belowP bs q2 24))
            exact ⟨belowP_le hp2, if_neg (by simp [h13])⟩
          · exact wk_mk ⟨rfl, ⟨rfl, trivial⟩⟩ ⟨rfl, ⟨rfl, trivial⟩⟩ ⟨rfl, ⟨rfl, ⟨rfl, ⟨rfl, trivial⟩⟩⟩⟩ rfl
      · rintro ⟨s, q3⟩ hG
        replace hG : q3 ≤ bs.length ∧ dbOff bs (⟨d.seq, m, d.runs, d.snaps⟩, q2) = (⟨s, m, d.runs, d.snaps⟩, q3) := hG
        obtain ⟨hp3, hO⟩ := hG
        refine tr_seq ?_
        have hv : dbV bs p = ⟨s, m, d.runs, d.snaps⟩ := by rw [dbV, hEm, hA, hO]
        have hpp : dbP bs p = q3 := by rw [dbP, hEm, hA, hO]
        rw [hv, hpp]
        refine tr_region rfl (.run [] [] rfl (st_load_box rfl rfl rfl Try.isAgg56 Try.sizeOf56 (nle rfl)) (.run [] [] rfl (st_store_box rfl rfl rfl rfl rfl Try.sizeOf56 rfl (nle rfl)) .nil)) ?_
        refine tr_ret ?_
        exact ends [_] [1, 2, 3] (.cons (.cell rfl rfl Try.isAgg56 Try.sizeOf56 (nle rfl)) .nil) (.cons (.agg (.cons .v (.cons (.row (len := (pvE m).length) (xs := pvE m) rfl rfl) (.cons (.row (len := (pvR (tagT d.runs)).length) (xs := pvR (tagT d.runs)) rfl rfl) (.cons (.row (len := (pvI d.snaps).length) (xs := pvI d.snaps) rfl rfl) .nil)))) (cl_cons (.v _) (cl_cons (.sl _ _ (FlatP.clean (pvE_flat _))) (cl_cons (pvR_tag_clean _) (cl_cons (.sl _ _ (FlatP.clean (pvI_flat _))) cl_nil))))) .nil) (by decide) (outs1 (congrArg (fun x => some (2, x)) (congrArg pvRd (congrArg (Prod.mk cv) rfl))) (pvRd_flat _) (by decide))
end Go.Rl
namespace Go.Rl
open Go.Proofs
theorem en127 : ∀ vs w, (callFunc 127 vs).run Try.prog w = .ok (.enter 127 vs) w := enters Try.func127 (by decide) rfl
set_option maxRecDepth 1000000 in
set_option maxHeartbeats 2000000 in
theorem drawDbWrite_con {γ : Gho} {cv : Value} {bs : List Nat} (hc : CodeAt γ cv bs) (hl : bs.length ≤ 1152921504606846976) : ConG γ Try.prog 66 [.one (PV.v (cv))] [] [.agg [.v (.int .i64 ((dbV bs 0).seq)), .sl true 4 (pvE ((dbV bs 0).mem)), .sl true 1 (pvR (tagT (dbV bs 0).runs)), .sl true 1 (pvI ((dbV bs 0).snaps))], .one (.sl true 3 (pvO (opsV bs (dbP bs 0))))] := by
  refine con_of_tr Try.func66 rfl rfl rfl rfl ?_
  have hp : (0:Nat) ≤ bs.length := Nat.zero_le _
  refine tr_seq ?_
  refine tr_region rfl (.run [] [2] rfl (st_allocZ rfl 2 inf56 rfl (by decide) rfl (by decide)) (.run [] [] rfl (st_assign rfl) .nil)) ?_
  refine tr_seq ?_
  refine tr_region rfl (.run [] [] rfl (st_move rfl) (.run [700] [] rfl (st_callG (.inr rfl) rfl 700 (X := []) en77 rfl (.val nod) (.cons (.one (.bor .v)) .nil) (by decide) all_nil .nil (open_con cv) rfl rfl (nle rfl)) (.run [] [] rfl (st_assign rfl) .nil))) ?_
  refine tr_seq ?_
  refine tr_region rfl (.run [] [] rfl (st_move rfl) (.run [700, 900, 901, 902, 903] [] rfl (st_callG (.inr rfl) rfl 900 (X := [700]) en127 rfl (.val nod) (.cons (.rptr rfl) .nil) (by decide) (all_cons rfl all_nil) (.keep (xs := pvRd (cv, 0)) rfl (FlatP.nf (pvRd_flat _)) .nil) (db_con hc hl 0 (Nat.zero_le _)) rfl rfl (nle rfl)) (.run [] [5] rfl (st_allocZ rfl 5 inf56 rfl (by decide) rfl (by decide)) (.run [] [] rfl (st_store_box rfl rfl rfl rfl rfl Try.sizeOf56 rfl (nle rfl)) .nil)))) ?_
  refine tr_seq ?_
  have hp : (0:Nat) ≤ bs.length := Nat.zero_le _
  have hp2 := dbP_le hp
  have hsn := dbV_snaps bs 0 hp
  refine tr_regionD mixed rfl (.run [] [] rfl (st_load_box rfl rfl rfl Try.isAgg56 Try.sizeOf56 (nle rfl)) (.run [] [] rfl (st_move rfl) (.run [700, 1200] [] rfl (st_callG (.inr rfl) rfl 1200 (X := [700]) en130 rfl (.val nod) (.cons (.rptr rfl) .nil) (by decide) (all_cons rfl all_nil) (.keep (xs := pvRd (cv, dbP bs 0)) rfl (FlatP.nf (pvRd_flat _)) .nil) (ops_con hc hl (dbP bs 0) (dbP_le (Nat.zero_le _))) rfl rfl (nle rfl)) (.run [] [] rfl (st_store_box rfl rfl rfl rfl rfl Try.sizeOf56 rfl (nle rfl)) (.run [] [] rfl (st_assign rfl) .nil))))) (by kernel_rfl) ?_
  refine tr_ret ?_
  exact ends [_, _] [901, 902, 903, 1200] (.cons (.cell rfl rfl Try.isAgg56 Try.sizeOf56 (nle rfl)) (.cons (.tmp rfl) .nil)) (.cons (.agg (.cons .v (.cons (.row (len := (pvE ((dbV bs 0).mem)).length) (xs := pvE ((dbV bs 0).mem)) rfl rfl) (.cons (.row (len := (pvR (tagT (dbV bs 0).runs)).length) (xs := pvR (tagT (dbV bs 0).runs)) rfl rfl) (.cons (.row (len := (pvI ((dbV bs 0).snaps)).length) (xs := pvI ((dbV bs 0).snaps)) rfl rfl) .nil)))) (cl_cons (.v _) (cl_cons (.sl _ _ (FlatP.clean (pvE_flat _))) (cl_cons (pvR_tag_clean _) (cl_cons (.sl _ _ (FlatP.clean (pvI_flat _))) cl_nil))))) (.cons (.one (.row (len := (pvO (opsV bs (dbP bs 0))).length) (xs := pvO (opsV bs (dbP bs 0))) rfl rfl) (.sl _ _ (FlatP.clean (pvO_flat _)))) .nil)) (by decide) trivial
end Go.Rl
namespace Go.Rl
/-- What a drawn engine is, but for the last two turns of the draw. -/
structure EL (d : Eng) : Prop where
  eb : EB d
  mem : d.mem.length ≤ 1000
theorem el_nil : EL Eng.nil := ⟨eb_nil, Nat.zero_le _⟩
theorem flush_el {d : Eng} (h : EL d) : EL (flushS d).1 := ⟨flush_eb h.eb, by
  unfold flushS
  split
  · split
    · exact h.mem
    · split
      · exact h.mem
      · exact Nat.zero_le _
  · exact Nat.zero_le _⟩
theorem snap_el {d : Eng} (h : EL d) : EL (snapS d).1 := ⟨snap_eb h.eb, by
  unfold snapS
  split
  · split
    · exact h.mem
    · split
      · exact h.mem
      · exact h.mem
  · exact Nat.zero_le _⟩
theorem free_el {d : Eng} {a : Int} (h : EL d) : EL (freeS d a).1 := ⟨free_eb h.eb, by
  unfold freeS
  split
  · exact h.mem
  · exact Nat.zero_le _⟩
theorem compact_el {d : Eng} (h : EL d) : EL (compactS d).1 := ⟨compact_eb h.eb, by
  unfold compactS
  split
  · split
    · exact h.mem
    · exact h.mem
  · exact Nat.zero_le _⟩
theorem write_el {d : Eng} {ops : List Bop} (h : EL d) (hn : ops.length ≤ 100) : EL (writeS d ops).1 := ⟨write_eb h.eb hn, by
  by_cases ho : okE d = true
  · have s := okS_small ho
    unfold writeS
    rw [if_pos ho]
    split
    · exact h.mem
    · split
      · exact h.mem
      · have := puts_len (batchE (d.seq + 1) ops) d.mem
        have := s.mem
        have := batchE_len (d.seq + 1) ops
        show (putsF d.mem (batchE (d.seq + 1) ops)).length ≤ 1000
        omega
  · unfold writeS; rw [if_neg ho]; exact Nat.zero_le _⟩
theorem dbStep_el {bs : List Nat} {x : Eng × Nat} (h : EL x.1) : EL (dbStep bs x).1 := by
  unfold dbStep
  split
  · show EL (if _ then _ else _)
    split
    · exact flush_el h
    · exact h
  · split
    · show EL (if _ then _ else _)
      split
      · exact snap_el h
      · exact h
    · split
      · show EL (if _ then _ else _)
        split
        · exact compact_el h
        · exact h
      · split
        · split
          · show EL (if _ then _ else _)
            split
            · exact free_el h
            · exact h
          · exact h
        · show EL (if _ then _ else _)
          split
          · exact write_el h (by have := opsV_len bs (belowP bs x.2 7); omega)
          · exact h
theorem dbLoop_el {bs : List Nat} : ∀ (i : Nat) (x : Eng × Nat), EL x.1 → EL (dbLoop bs i x).1
  | 0, _, h => h
  | i + 1, x, h => dbLoop_el i _ (dbStep_el h)
theorem dbV_eb (bs : List Nat) (p : Nat) : EB (dbV bs p) := by
  have h : EL (dbRun bs p).1 := dbLoop_el _ (Eng.nil, belowP bs p 9) el_nil
  have hm := h.mem
  have he := h.eb
  have h1 : EB (dbAdd bs (dbRun bs p)).1 := by
    unfold dbAdd
    split
    · exact ⟨by show ((dbRun bs p).1.mem ++ [_]).length ≤ 2000000; simp only [List.length_append, List.length_cons, List.length_nil]; omega, he.runs, he.each, he.snaps⟩
    · exact he
  unfold dbV dbOff
  split
  · exact ⟨h1.mem, h1.runs, h1.each, h1.snaps⟩
  · exact h1
end Go.Rl
namespace Go.Rl
def askOk (d : Eng) (a : Int) : Bool := decide (a = -1) || atI d.snaps a
def askSeq (d : Eng) (a : Int) : Int := if a = -1 then d.seq else if atI d.snaps a = true then a else 0
def getE (l : List Ent) (u : ByteArray) (p : Int) : Int × ByteArray := if getC1 (lookE l u p) = 1 then (1, getC2 (lookE l u p)) else (0, ⟨#[]⟩)
noncomputable def getS (d : Eng) (u : ByteArray) (a : Int) : Int × ByteArray := if okE d = true then (if askOk d a = true then getE (mergeL (d.mem :: d.runs)) u (askSeq d a) else (3, ⟨#[]⟩)) else (3, ⟨#[]⟩)
variable {d : Eng} {u : ByteArray} {a : Int}
end Go.Rl
namespace Go.Rl
open Go.Proofs
end Go.Rl
namespace Go.Rl
def belowM (l : List Ent) : Int := l.foldl (fun a e => max a e.seq) (-1)
theorem belowM_step {l : List Ent} {i : Nat} {e : Ent} (h : l[i]? = some e) : belowM (l.take (i + 1)) = max (belowM (l.take i)) e.seq := by
  unfold belowM
  rw [List.take_add_one, h]
  simp [List.foldl_append]
theorem foldmax_le {l : List Ent} {z : Int} : ∀ {a : Int}, l.foldl (fun a e => max a e.seq) a ≤ z ↔ a ≤ z ∧ ∀ e ∈ l, e.seq ≤ z := by
  induction l with
  | nil => intro a; simp
  | cons x l ih =>
    intro a
    rw [List.foldl_cons, ih]
    constructor
    · rintro ⟨h1, h2⟩
      refine ⟨by omega, fun e he => ?_⟩
      rcases List.mem_cons.1 he with rfl | he
      · omega
      · exact h2 e he
    · rintro ⟨h1, h2⟩
      have := h2 x (by simp)
      exact ⟨by omega, fun e he => h2 e (by simp [he])⟩
theorem belowM_le {l : List Ent} {z : Int} : belowM l ≤ z ↔ -1 ≤ z ∧ ∀ e ∈ l, e.seq ≤ z := foldmax_le
theorem belowM_lt {l : List Ent} {z : Int} (hz : 0 ≤ z) : belowM l < z ↔ ∀ e ∈ l, e.seq < z := by
  have h := belowM_le (l := l) (z := z - 1)
  constructor
  · intro h1 e he
    have := (h.1 (by omega)).2 e he
    omega
  · intro h1
    have := h.2 ⟨by omega, fun e he => by have := h1 e he; omega⟩
    omega
def seqsOf (l : List Ent) : List Int := l.map (·.seq)
theorem seqsOf_take {l : List Ent} {i : Nat} {e : Ent} (h : l[i]? = some e) : seqsOf (l.take i) ++ [e.seq] = seqsOf (l.take (i + 1)) := by
  rw [List.take_add_one, h]; simp [seqsOf]
theorem seqsOf_len (l : List Ent) : (seqsOf l).length = l.length := by simp [seqsOf]
theorem not_met {l : List Ent} {i : Nat} {x : Ent} (h : ¬ x.seq ∈ seqsOf (l.take i)) : Unlike l x i := fun k y hk hy q => h (by
  rw [← q]
  exact List.mem_map.2 ⟨y, List.mem_of_getElem? (i := k) (by rw [List.getElem?_take_of_lt hk]; exact hy), rfl⟩)
theorem is_met {l : List Ent} {i : Nat} {x : Ent} (h : x.seq ∈ seqsOf (l.take i)) : ∃ (k : Nat) (y : Ent), k < i ∧ l[k]? = some y ∧ y.seq = x.seq := by
  obtain ⟨y, hy, q⟩ := List.mem_map.1 h
  obtain ⟨k, hk⟩ := List.getElem?_of_mem hy
  rw [List.getElem?_take] at hk
  split at hk
  · exact ⟨k, y, ‹_›, hk, q⟩
  · cases hk
def belowP1 (b : Int) (x : Ent) : Bool := decide (x.seq ≤ b)
structure IOk (sq : Int) (mem : List Ent) (rs : RunL) (sn : List Int) : Prop where
  few : (mem ++ ents rs).length ≤ 400
  seqs : Seqs sq (mem ++ ents rs) (mem ++ ents rs).length
  mem : idxF (belowP1 (belowM (ents rs))) mem < 0
  last : ∀ z, sn[sn.length - 1]? = some z → z ≤ sq
noncomputable instance decIOk (sq : Int) (mem : List Ent) (rs : RunL) (sn : List Int) : Decidable (IOk sq mem rs sn) := Classical.propDecidable _
noncomputable def okB (sq : Int) (mem : List Ent) (rs : RunL) (sn : List Int) : Bool := dbBase sq mem rs sn && decide (IOk sq mem rs sn)
variable {sq : Int} {mem : List Ent} {rs : RunL} {sn : List Int}
theorem okb_base (h : dbBase sq mem rs sn = false) : false = okB sq mem rs sn := by unfold okB; rw [h]; rfl
theorem okb_no (h : ¬ IOk sq mem rs sn) : false = okB sq mem rs sn := by unfold okB; rw [decide_eq_false h, Bool.and_false]
theorem okb_yes (hb : dbBase sq mem rs sn = true) (h : IOk sq mem rs sn) : true = okB sq mem rs sn := by unfold okB; rw [decide_eq_true h, hb]; rfl
theorem okb_of (h : okB sq mem rs sn = true) : dbBase sq mem rs sn = true ∧ IOk sq mem rs sn := by
  unfold okB at h
  rw [Bool.and_eq_true] at h
  exact ⟨h.1, of_decide_eq_true h.2⟩
theorem okb_last (hb : dbBase sq mem rs sn = true) (h1 : (mem ++ ents rs).length ≤ 400) (h2 : Seqs sq (mem ++ ents rs) (mem ++ ents rs).length) (h3 : ¬ 0 ≤ idxF (belowP1 (belowM (ents rs))) mem) {x : Int} (hx : sn[sn.length - 1]? = some x) : decide (x ≤ sq) = okB sq mem rs sn := by
  by_cases h : x ≤ sq
  · rw [decide_eq_true h]
    exact okb_yes hb ⟨h1, h2, by omega, fun z hz => by rw [hx] at hz; cases hz; exact h⟩
  · rw [decide_eq_false h]
    exact okb_no (fun q => h (q.last x hx))
theorem okb_none (hb : dbBase sq mem rs sn = true) (h1 : (mem ++ ents rs).length ≤ 400) (h2 : Seqs sq (mem ++ ents rs) (mem ++ ents rs).length) (h3 : ¬ 0 ≤ idxF (belowP1 (belowM (ents rs))) mem) (hx : sn.length = 0) : true = okB sq mem rs sn :=
  okb_yes hb ⟨h1, h2, by omega, fun z hz => by
    have := (List.getElem?_eq_some_iff.1 hz).1
    omega⟩
theorem ok_met {i : Nat} {x : Ent} (hx : (mem ++ ents rs)[i]? = some x) (h : x.seq ∈ seqsOf ((mem ++ ents rs).take i)) : ¬ IOk sq mem rs sn := fun q => by
  obtain ⟨k, y, hk, hy, e⟩ := is_met h
  exact (q.seqs i x (List.getElem?_eq_some_iff.1 hx).1 hx).2 k y hk hy e
theorem ok_big {i : Nat} {x : Ent} (hx : (mem ++ ents rs)[i]? = some x) (h : sq < x.seq) : ¬ IOk sq mem rs sn := fun q => by
  have := (q.seqs i x (List.getElem?_eq_some_iff.1 hx).1 hx).1
  omega
theorem base_ent (h : dbBase sq mem rs sn = true) {e : Ent} (he : e ∈ mem ++ ents rs) : entOk e = true := by
  simp only [dbBase, Bool.and_eq_true] at h
  obtain ⟨_, h2, h3, _⟩ := h
  rcases List.mem_append.1 he with h4 | h4
  · exact ents_mem h2 h4
  · simp only [ents, entsL, List.mem_flatten, rows, List.mem_map] at h4
    obtain ⟨l, ⟨r, hr, rfl⟩, hl⟩ := h4
    simp only [runsOkF, Bool.and_eq_true, decide_eq_true_eq] at h3
    have h5 := idx_neg.1 h3.2.1 r hr
    exact ents_mem (by simpa using h5) hl
theorem ent_seq {e : Ent} (h : entOk e = true) : 0 ≤ e.seq ∧ e.seq ≤ 1000000000000 := by
  have := entOk_key h
  simp only [keyOk, within, Bool.and_eq_true, decide_eq_true_eq] at this
  exact this.1.2
theorem seq_wf {x : Int} (h : 0 ≤ x ∧ x ≤ 1000000000000) : (Lit.int .i64 x).wf = true := by
  have h1 : IntKind.min .i64 = -9223372036854775808 := by decide
  have h2 : IntKind.max .i64 = 9223372036854775807 := by decide
  simp only [Lit.wf, h1, h2, Bool.and_eq_true, decide_eq_true_eq]
  omega
end Go.Rl

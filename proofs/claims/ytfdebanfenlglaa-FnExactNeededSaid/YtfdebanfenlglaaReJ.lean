/- Promises of functions, proved by walks over their operations; no conditions beyond those that each theorem states. -/
import Derived.Test.YtfdebanfenlglaaReI
namespace Go.Rl
open Go.Proofs
theorem en166 : ∀ vs w, (callFunc 166 vs).run Try.prog w = .ok (.enter 166 vs) w := enters Try.func166 (by decide) rfl
def usrN (l : List Ent) (i : Nat) : List ByteArray := (l.take i).map fun e => e.user
theorem usrN_len {l : List Ent} {i : Nat} (h : i ≤ l.length) : (usrN l i).length = i := by simp [usrN]; omega
theorem usrN_all {l : List Ent} {i : Nat} (h : l.length ≤ i) : compactF (usrN l i) = usersF l := by rw [usrN, List.take_of_length_le h]; rfl
set_option maxRecDepth 1000000 in
theorem users_con (l : List Ent) (hl : l.length ≤ 2000000) : Con Try.prog 135 [.one (PV.sl false 4 (pvE l))] [] [.one (.sl true 1 (pvT (usersF l)))] := by
  refine con_of_tr Try.func135 rfl rfl rfl rfl ?_
  have hle := pvE_length l
  refine tr_seq ?_
  refine tr_region rfl (.run [] [] rfl (st_assign rfl) .nil) ?_
  refine tr_seq ?_
  refine tr_region rfl (.run [600] [] rfl (st_buildSlice rfl 600 Try.underlying147 inf9 (nle rfl) (by decide) rfl rfl rfl .nil (by decide) rfl (by decide) rfl (by decide) rfl) (.run [] [] rfl (st_assign rfl) .nil)) ?_
  refine tr_seq ?_
  refine tr_seq ?_
  refine tr_region rfl (.run [] [] rfl (st_move rfl) (.run [] [] rfl (st_len_fro rfl rfl Try.underlying26) (.run [] [] rfl (st_move rfl) .nil))) ?_
  refine tr_block ?_
  refine tr_wk (wk_ren 600 1 rfl rfl (by decide)) ?_
  refine tr_loopS (σ := Nat) (fun i => mk [(3, .sl 1 0 ((pvT (usrN l i)).length)), (7, .p none (.sl false 4 (pvE l))), (8, .p none (.v (.int .i64 ((pvE l).length : Int)))), (9, .p none (.v (.int .i64 (i:Int))))] [] [(1, 1, pvT (usrN l i))]) (fun i => i ≤ l.length) (fun i => l.length - i) 0 (by simp) (wk_mk ⟨rfl, ⟨rfl, ⟨rfl, ⟨(int_eq (by omega)), trivial⟩⟩⟩⟩ trivial ⟨(congrArg (fun x => some (1, x)) (by rfl)), trivial⟩ rfl) ?_
  rintro i hG
  replace hG : i ≤ l.length := hG
  have hlu := pvT_length (usrN l i)
  have hun := usrN_len hG
  refine tr_seq ?_
  refine tr_region rfl (.run [] [] rfl (st_lss rfl rfl rfl) .nil) ?_
  refine tr_seq ?_
  refine tr_if (t := decide ((i:Int) < ((pvE l).length : Int))) rfl (fun h1 => ?_) (fun h1 => ?_)
  · skip
    replace h1 := of_decide_eq_true h1
    refine tr_skip ?_
    refine tr_seq ?_
    refine tr_block ?_
    refine tr_seq ?_
    obtain ⟨e, he⟩ : ∃ e, l[i]? = some e := ⟨_, List.getElem?_eq_getElem (by (have hL := pvE_length l; omega))⟩
    have hlte := (List.getElem?_eq_some_iff.1 he).1
    refine tr_region rfl (.run [] [] rfl (st_idx_fro rfl rfl rfl Try.underlying26 Try.sizeOf44 rfl (by omega) (pvE_get he)) (.run [] [] rfl (st_load_fea rfl rfl Try.isAgg44 Try.sizeOf44 (nle rfl)) (.run [] [5] rfl (st_allocZ rfl 5 inf44 rfl (by decide) rfl (by decide)) (.run [] [] rfl (st_store_box rfl rfl rfl rfl rfl Try.sizeOf44 rfl (nle rfl)) .nil)))) ?_
    refine tr_region rfl (.run [] [] rfl (st_move rfl) (.run [] [] rfl (st_faddr_box rfl rfl Try.underlying44 rfl Try.sizeOf42 (by decide)) (.run [] [] rfl (st_faddr_box rfl rfl Try.underlying42 rfl Try.sizeOf9 (by decide)) (.run [] [] rfl (st_load_box1 rfl rfl rfl Try.isAgg9 rfl) (.run [1700] [] rfl (st_buildSlice rfl 1700 Try.underlying147 inf9 (nle rfl) (by decide) rfl rfl rfl (.cons .v .nil) (by decide) rfl (by decide) rfl (by decide) rfl) (.run [1] [] rfl (st_append rfl 1 (ib := 1) (len := ((pvT (usrN l i)) ++ [[PV.v (.string e.user)]]).length) rfl rfl (.row (len := (pvT (usrN l i)).length) (xs := pvT (usrN l i)) rfl rfl (.inl rfl)) (.give (len := 1) (xs := [[PV.v (.string e.user)]]) rfl rfl) Try.underlying147 (sk Try.underlying147 rfl) inf9 rfl (by decide) (by decide) (by decide) List.length_append (by simp only [maxLen, List.length_append, List.length_map, List.length_cons, List.length_nil, List.length_take, List.length_drop, pvE_length, pvI_length, pvT_length]; omega) (by simp only [maxLen, List.length_append, List.length_map, List.length_cons, List.length_nil, List.length_take, List.length_drop, pvE_length, pvI_length, pvT_length]; omega)) (.run [] [] rfl (st_assign rfl) .nil))))))) ?_
    have hr2 : (pvT (usrN l i)) ++ [[PV.v (.string e.user)]] = pvT (usrN l (i + 1)) := by simp [pvT, usrN, List.take_add_one, he]
    have hp3 : (.sl 1 0 (((pvT (usrN l i)) ++ [[PV.v (.string e.user)]]).length) : AV) = .sl 1 0 ((pvT (usrN l (i + 1))).length) := by simp only [hr2]
    refine tr_wk (s' := mk [(3, .sl 1 0 ((pvT (usrN l (i + 1))).length)), (7, .p none (.sl false 4 (pvE l))), (8, .p none (.v (.int .i64 ((pvE l).length : Int)))), (9, .p none (.v (.int .i64 (i:Int))))] [] [(1, 1, pvT (usrN l (i + 1)))]) ?_ ?_
    · exact wk_mk ⟨hp3, ⟨rfl, ⟨rfl, ⟨rfl, trivial⟩⟩⟩⟩ trivial ⟨(congrArg (fun x => some (1, x)) hr2), trivial⟩ rfl
    refine tr_region rfl (.run [] [] rfl (st_addn rfl rfl rfl (by omega)) (.run [] [] rfl (st_move rfl) .nil)) ?_
    refine nxt (Q := fun _ _ => False) (z := i) (i + 1) ?_ ?_ ?_
    · show (i + 1) ≤ l.length
      omega
    · show l.length - (i + 1) < l.length - i
      omega
    · exact wk_mk ⟨rfl, ⟨rfl, ⟨rfl, ⟨(int_eq (by omega)), trivial⟩⟩⟩⟩ trivial ⟨rfl, trivial⟩ rfl
  · skip
    replace h1 := of_decide_eq_false h1
    refine tr_exit ?_
    refine tr_seq ?_
    rw [← usrN_all (i := i) (by omega)]
    refine tr_region rfl (.run [] [] rfl (st_move rfl) (.run [1, 2100] [] rfl (st_call rfl 2100 (X := [1]) en166 rfl (.val nod) (.cons (.one (.own (len := (pvT (usrN l i)).length) (xs := pvT (usrN l i)) rfl rfl)) .nil) (by decide) (all_cons rfl all_nil) (.gone .nil) (compactT_con (usrN l i) (by omega)) rfl rfl (nle rfl)) (.run [] [] rfl (st_assign rfl) .nil))) ?_
    refine tr_ret ?_
    exact ends [_] [2100] (.cons (.tmp rfl) .nil) (.cons (.one (.row (len := (pvT (compactF (usrN l i))).length) (xs := pvT (compactF (usrN l i))) rfl rfl) (.sl _ _ (FlatP.clean (pvT_flat _)))) .nil) (by decide) trivial
end Go.Rl

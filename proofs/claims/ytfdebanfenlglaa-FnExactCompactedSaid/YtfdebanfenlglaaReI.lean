/- Promises of functions, proved by walks over their operations; no conditions beyond those that each theorem states. -/
import Derived.Test.YtfdebanfenlglaaReD
import Derived.Test.YtfdebanfenlglaaRlT
import Derived.RangeFuncNested
import Derived.BigRegionIn
import Derived.Test.YtfdebanfenlglaaRlP
set_option linter.unusedSimpArgs false
set_option linter.unusedVariables false
namespace Go.Rl
open Go.Proofs
theorem inf9 : (Try.prog.info? 9).map (fun i => (i.zero, i.size, i.bytes)) = some (some (.string ⟨#[]⟩), 1, 16) := by kernel_rfl
set_option maxRecDepth 1000000 in
set_option maxHeartbeats 2000000 in
theorem compactT_con (l : List ByteArray) (hl : l.length ≤ 2000000) : Con Try.prog 166 [.one (.sl true 1 (pvT l))] [none] [.one (.sl true 1 (pvT (compactF l)))] := by
  refine con_of_tr Try.func166 rfl rfl rfl rfl ?_
  have hle := pvT_length l
  refine tr_seq ?_
  refine tr_region rfl (.run [] [] rfl (st_assign rfl) .nil) ?_
  refine tr_seq ?_
  refine tr_seq ?_
  refine tr_region rfl (.run [] [] rfl (st_move rfl) (.run [] [] rfl (st_len_row rfl rfl Try.underlying147) (.run [] [] rfl (st_lss rfl rfl rfl) .nil))) ?_
  refine tr_if (t := decide (((pvT l).length : Int) < 2)) rfl (fun h1 => ?_) (fun h1 => ?_)
  · skip
    replace h1 := of_decide_eq_true h1
    refine tr_seq ?_
    have hs : compactF l = l := cpt_short (by omega)
    rw [hs]
    refine tr_region rfl (.run [] [] rfl (st_move rfl) (.run [] [] rfl (st_assign rfl) .nil)) ?_
    refine tr_ret ?_
    exact ends [_] [100000] (.cons (.tmp rfl) .nil) (.cons (.one (.row (len := (pvT l).length) (xs := pvT l) rfl rfl) (.sl _ _ (FlatP.clean (pvT_flat _)))) .nil) (by decide) ⟨trivial, trivial⟩
  · skip
    replace h1 := of_decide_eq_false h1
    refine tr_skip ?_
    refine tr_seq ?_
    refine tr_seq ?_
    refine tr_region rfl (.run [] [] rfl (st_assign rfl) .nil) ?_
    refine tr_block ?_
    refine tr_loopS (σ := Nat) (fun k => mk [(0, .sl 100000 0 ((pvT l).length)), (3, .p none (.v (.int .i64 (k:Int))))] [] [(100000, 1, pvT l)]) (fun k => 1 ≤ k ∧ k ≤ l.length ∧ compactN l k = l.take k) (fun k => l.length - k) 1 ⟨Nat.le_refl _, by omega, cpt_one (by omega)⟩ (wk_mk ⟨rfl, ⟨(int_eq (by omega)), trivial⟩⟩ trivial ⟨rfl, trivial⟩ rfl) ?_
    rintro k hG
    replace hG : 1 ≤ k ∧ k ≤ l.length ∧ compactN l k = l.take k := hG
    obtain ⟨h1k, hkl, hC⟩ := hG
    refine tr_seq ?_
    refine tr_seq ?_
    refine tr_region rfl (.run [] [] rfl (st_move rfl) (.run [] [] rfl (st_move rfl) (.run [] [] rfl (st_len_row rfl rfl Try.underlying147) (.run [] [] rfl (st_lss rfl rfl rfl) .nil)))) ?_
    refine tr_if (t := decide ((k:Int) < ((pvT l).length : Int))) rfl (fun h2 => ?_) (fun h2 => ?_)
    · skip
      replace h2 := of_decide_eq_true h2
      refine tr_skip ?_
      refine tr_seq ?_
      refine tr_block ?_
      refine tr_seq ?_
      obtain ⟨e, he⟩ : ∃ e, l[k]? = some e := ⟨_, List.getElem?_eq_getElem (by (have hL := pvT_length l; omega))⟩
      have hlte := (List.getElem?_eq_some_iff.1 he).1
      obtain ⟨e2, he2⟩ : ∃ e, l[k - 1]? = some e := ⟨_, List.getElem?_eq_getElem (by (have hL := pvT_length l; omega))⟩
      have hlte2 := (List.getElem?_eq_some_iff.1 he2).1
      refine tr_regionD mixed rfl (.run [] [] rfl (st_move rfl) (.run [] [] rfl (st_move rfl) (.run [] [] rfl (st_idx_row0 k rfl rfl rfl rfl Try.underlying147 Try.sizeOf9 rfl rfl (by omega)) (.run [] [] rfl (st_load_ea1 rfl rfl rfl (pvT_get he) Try.isAgg9 rfl) (.run [] [] rfl (st_move rfl) (.run [] [] rfl (st_move rfl) (.run [] [] rfl (st_eq (st_subn rfl rfl rfl (by omega)) ((show (AV.p none (.v (.int .i64 ((k:Int) - 1)))) = AV.p none (.v (.int .i64 ((k - 1 : Nat) : Int))) from int_eq (by omega)))) (.run [] [] rfl (st_idx_row0 (k - 1) rfl rfl rfl rfl Try.underlying147 Try.sizeOf9 rfl rfl (by omega)) (.run [] [] rfl (st_load_ea1 rfl rfl rfl (pvT_get he2) Try.isAgg9 rfl) (.run [] [] rfl (st_seql rfl rfl rfl) .nil)))))))))) (by kernel_rfl) ?_
      refine tr_if (t := decide (e = e2)) rfl (fun h3 => ?_) (fun h3 => ?_)
      · skip
        replace h3 := of_decide_eq_true h3
        refine tr_seq ?_
        have hd0 : compactN l (k + 1) = compactN l k := compactN_dup h1k he2 he h3
        refine tr_wk (s' := mk [(0, .sl 100000 0 ((pvT l).length)), (3, .p none (.v (.int .i64 (k:Int))))] [] [(100000, 1, pvT l)]) ?_ ?_
        · exact wk_mk ⟨rfl, ⟨rfl, trivial⟩⟩ trivial ⟨rfl, trivial⟩ rfl
        refine tr_region rfl (.run [] [] rfl (st_move rfl) (.run [] [] rfl (st_move rfl) (.run [] [] rfl (st_cut_row0 (l := k) (h := (pvT l).length) rfl rfl rfl Try.underlying147 Try.sizeOf9 (.at_ rfl rfl) .no (by omega) (Nat.le_refl _) rfl) (.run [] [] rfl (st_assign rfl) .nil)))) ?_
        refine tr_seq ?_
        refine tr_seq ?_
        refine tr_region rfl (.run [] [] rfl (st_assign rfl) .nil) ?_
        refine tr_block ?_
        refine tr_loopS (σ := Nat) (fun q => mk [(0, .sl 100000 0 ((pvT l).length)), (3, .p none (.v (.int .i64 ((compactN l (k + q)).length : Int)))), (4, .sl 100000 k (((pvT l).length) - k)), (5, .p none (.v (.int .i64 (q:Int))))] [] [(100000, 1, pvT (compactN l (k + q) ++ l.drop (compactN l (k + q)).length))]) (fun q => 1 ≤ q ∧ k + q ≤ l.length ∧ (compactN l (k + q)).length + 1 ≤ k + q) (fun q => l.length - q) 1 ⟨Nat.le_refl _, by omega, by rw [hd0, hC, List.length_take]; omega⟩ (wk_mk ⟨rfl, ⟨(int_eq (by rw [hd0, hC, List.length_take]; omega)), ⟨rfl, ⟨(int_eq (by omega)), trivial⟩⟩⟩⟩ trivial ⟨(congrArg (fun x => some (1, x)) (by rw [hd0, cpt_start hC hkl])), trivial⟩ rfl) ?_
        rintro q hG
        replace hG : 1 ≤ q ∧ k + q ≤ l.length ∧ (compactN l (k + q)).length + 1 ≤ k + q := hG
        obtain ⟨h1q, hql, hcq⟩ := hG
        have hlr := pvT_length (compactN l (k + q) ++ l.drop (compactN l (k + q)).length)
        have hlc : (compactN l (k + q) ++ l.drop (compactN l (k + q)).length).length = l.length := by rw [List.length_append, List.length_drop]; omega
        refine tr_seq ?_
        refine tr_seq ?_
        refine tr_region rfl (.run [] [] rfl (st_move rfl) (.run [] [] rfl (st_move rfl) (.run [] [] rfl (st_len_row rfl rfl Try.underlying147) (.run [] [] rfl (st_lss rfl rfl rfl) .nil)))) ?_
        refine tr_if (t := decide ((q:Int) < ((((pvT l).length) - k : Nat) : Int))) rfl (fun h4 => ?_) (fun h4 => ?_)
        · skip
          replace h4 := of_decide_eq_true h4
          refine tr_skip ?_
          refine tr_seq ?_
          refine tr_block ?_
          refine tr_seq ?_
          obtain ⟨y, hy⟩ : ∃ y, l[k + q]? = some y := ⟨_, List.getElem?_eq_getElem (by omega)⟩
          obtain ⟨x, hx⟩ : ∃ x, l[k + (q - 1)]? = some x := ⟨_, List.getElem?_eq_getElem (by omega)⟩
          have hx2 : l[k + q - 1]? = some x := by rw [show k + q - 1 = k + (q - 1) by omega]; exact hx
          obtain ⟨w, hw⟩ : ∃ w, l[(compactN l (k + q)).length]? = some w := ⟨_, List.getElem?_eq_getElem (by omega)⟩
          refine tr_regionD mixed rfl (.run [] [] rfl (st_move rfl) (.run [] [] rfl (st_move rfl) (.run [] [] rfl (st_idx_rowK q rfl rfl rfl rfl Try.underlying147 Try.sizeOf9 rfl rfl (by omega)) (.run [] [] rfl (st_load_ea1 rfl rfl rfl (by exact pvT_get (by rw [cpt_get (by omega)]; exact hy)) Try.isAgg9 rfl) (.run [] [] rfl (st_move rfl) (.run [] [] rfl (st_move rfl) (.run [] [] rfl (st_eq (st_subn rfl rfl rfl (by omega)) ((show (AV.p none (.v (.int .i64 ((q:Int) - 1)))) = AV.p none (.v (.int .i64 ((q - 1 : Nat) : Int))) from int_eq (by omega)))) (.run [] [] rfl (st_idx_rowK (q - 1) rfl rfl rfl rfl Try.underlying147 Try.sizeOf9 rfl rfl (by omega)) (.run [] [] rfl (st_load_ea1 rfl rfl rfl (by exact pvT_get (by rw [cpt_get (by omega)]; exact hx)) Try.isAgg9 rfl) (.run [] [] rfl (st_sneq rfl rfl rfl) .nil)))))))))) (by kernel_rfl) ?_
          refine tr_if (t := (!(decide (y = x)))) rfl (fun h5 => ?_) (fun h5 => ?_)
          · skip
            replace h5 : ¬ (y = x) := of_decide_eq_false (bnot_t h5)
            refine tr_seq ?_
            refine tr_wk (s' := mk [(0, .sl 100000 0 ((pvT l).length)), (3, .p none (.v (.int .i64 ((compactN l (k + q)).length : Int)))), (4, .sl 100000 k (((pvT l).length) - k)), (5, .p none (.v (.int .i64 (q:Int))))] [] [(100000, 1, pvT (compactN l (k + q) ++ l.drop (compactN l (k + q)).length))]) ?_ ?_
            · exact wk_mk ⟨rfl, ⟨rfl, ⟨rfl, ⟨rfl, trivial⟩⟩⟩⟩ trivial ⟨rfl, trivial⟩ rfl
            refine tr_region rfl (.run [] [] rfl (st_move rfl) (.run [] [] rfl (st_move rfl) (.run [] [] rfl (st_move rfl) (.run [] [] rfl (st_move rfl) (.run [] [] rfl (st_idx_rowK q rfl rfl rfl rfl Try.underlying147 Try.sizeOf9 rfl rfl (by omega)) (.run [] [] rfl (st_load_ea1 rfl rfl rfl (by exact pvT_get (by rw [cpt_get (by omega)]; exact hy)) Try.isAgg9 rfl) (.run [] [] rfl (st_idx_row0 ((compactN l (k + q)).length) rfl rfl rfl rfl Try.underlying147 Try.sizeOf9 rfl rfl (by omega)) (.run [] [] rfl (st_store_row rfl rfl rfl (FlatP.nf (pvT_flat _)) (by exact pvT_get (by rw [cpt_get (Nat.le_refl _)]; exact hw)) rfl rfl (.cons .v .nil) Try.sizeOf9 rfl (nle rfl)) .nil)))))))) ?_
            refine tr_region rfl (.run [] [] rfl (st_move rfl) (.run [] [] rfl (st_addn rfl rfl rfl (by omega)) (.run [] [] rfl (st_assign rfl) .nil))) ?_
            refine tr_region rfl (.run [] [] rfl (st_move rfl) (.run [] [] rfl (st_addn rfl rfl rfl (by omega)) (.run [] [] rfl (st_assign rfl) .nil))) ?_
            refine nxt (Q := fun _ _ => False) (z := q) (q + 1) ?_ ?_ ?_
            · show 1 ≤ (q + 1) ∧ k + (q + 1) ≤ l.length ∧ (compactN l (k + (q + 1))).length + 1 ≤ k + (q + 1)
              exact ⟨by omega, by omega, by rw [show k + (q + 1) = k + q + 1 from rfl, compactN_new hx2 hy h5]; simp only [List.length_append, List.length_cons, List.length_nil]; omega⟩
            · show l.length - (q + 1) < l.length - q
              omega
            · exact wk_mk ⟨rfl, ⟨(int_eq (by rw [show k + (q + 1) = k + q + 1 from rfl, compactN_new hx2 hy h5]; simp)), ⟨rfl, ⟨(int_eq (by omega)), trivial⟩⟩⟩⟩ trivial ⟨(congrArg (fun x => some (1, x)) (by rw [show k + (q + 1) = k + q + 1 from rfl, compactN_new hx2 hy h5, ← cpt_set (by omega)]; simp [pvT, List.map_set, over])), trivial⟩ rfl
          · skip
            replace h5 : y = x := of_decide_eq_true (bnot_f h5)
            refine tr_skip ?_
            refine tr_wk (s' := mk [(0, .sl 100000 0 ((pvT l).length)), (3, .p none (.v (.int .i64 ((compactN l (k + q)).length : Int)))), (4, .sl 100000 k (((pvT l).length) - k)), (5, .p none (.v (.int .i64 (q:Int))))] [] [(100000, 1, pvT (compactN l (k + q) ++ l.drop (compactN l (k + q)).length))]) ?_ ?_
            · exact wk_mk ⟨rfl, ⟨rfl, ⟨rfl, ⟨rfl, trivial⟩⟩⟩⟩ trivial ⟨rfl, trivial⟩ rfl
            refine tr_region rfl (.run [] [] rfl (st_move rfl) (.run [] [] rfl (st_addn rfl rfl rfl (by omega)) (.run [] [] rfl (st_assign rfl) .nil))) ?_
            refine nxt (Q := fun _ _ => False) (z := q) (q + 1) ?_ ?_ ?_
            · show 1 ≤ (q + 1) ∧ k + (q + 1) ≤ l.length ∧ (compactN l (k + (q + 1))).length + 1 ≤ k + (q + 1)
              exact ⟨by omega, by omega, by rw [show k + (q + 1) = k + q + 1 from rfl, compactN_dup (by omega) hx2 hy h5]; omega⟩
            · show l.length - (q + 1) < l.length - q
              omega
            · exact wk_mk ⟨rfl, ⟨(int_eq (by rw [show k + (q + 1) = k + q + 1 from rfl, compactN_dup (by omega) hx2 hy h5])), ⟨rfl, ⟨(int_eq (by omega)), trivial⟩⟩⟩⟩ trivial ⟨(congrArg (fun x => some (1, x)) (by rw [show k + (q + 1) = k + q + 1 from rfl, compactN_dup (by omega) hx2 hy h5])), trivial⟩ rfl
        · skip
          replace h4 := of_decide_eq_false h4
          refine tr_exit ?_
          refine tr_seq ?_
          have hlr0 := pvT_length (compactN l (k + q) ++ l.drop (compactN l (k + q)).length)
          have hlc0 : (compactN l (k + q) ++ l.drop (compactN l (k + q)).length).length = l.length := by rw [List.length_append, List.length_drop]; omega
          have hkq : k + q = l.length := (by omega)
          refine tr_region rfl (.run [] [] rfl (st_move rfl) (.run [] [] rfl (st_move rfl) (.run [] [] rfl (st_cut_row0 (l := (compactN l (k + q)).length) (h := (pvT l).length) rfl rfl rfl Try.underlying147 Try.sizeOf9 (.at_ rfl rfl) .no (by omega) (Nat.le_refl _) rfl) (.run [] [] rfl (st_clear (lo := (compactN l (k + q)).length) (len := (pvT l).length - (compactN l (k + q)).length) rfl rfl rfl (pvT_flat _) Try.underlying147 inf9 rfl rfl (by rw [hlr0, hlc0]; omega)) .nil)))) ?_
          refine tr_seq ?_
          have hs : compactF l = compactN l (k + q) := by rw [compactF, hkq]
          rw [hs]
          refine tr_region rfl (.run [] [] rfl (st_move rfl) (.run [] [] rfl (st_move rfl) (.run [] [] rfl (st_cut_row0 (l := 0) (h := (compactN l (k + q)).length) rfl rfl rfl Try.underlying147 Try.sizeOf9 .no (.at_ rfl rfl) (Nat.zero_le _) (by omega) rfl) (.run [] [] rfl (st_assign rfl) .nil)))) ?_
          refine tr_ret ?_
          exact ends [_] [100000] (.cons (.tmp rfl) .nil) (.cons (.one (gv_eq (.pre (len := ((compactN l (k + q)).length) - 0) (xs := (pvT (compactN l (k + q) ++ l.drop (compactN l (k + q)).length)).take (compactN l (k + q)).length ++ List.replicate ((pvT l).length - (compactN l (k + q)).length) [PV.v (.string ⟨#[]⟩)]) rfl (by rw [List.length_append, List.length_take, hlr0, List.length_replicate]; omega) cpt_flat) (congrArg (PV.sl true 1) (cpt_row rfl))) (.sl _ _ (FlatP.clean (pvT_flat _)))) .nil) (by decide) ⟨trivial, trivial⟩
      · skip
        replace h3 := of_decide_eq_false h3
        refine tr_skip ?_
        refine tr_wk (s' := mk [(0, .sl 100000 0 ((pvT l).length)), (3, .p none (.v (.int .i64 (k:Int))))] [] [(100000, 1, pvT l)]) ?_ ?_
        · exact wk_mk ⟨rfl, ⟨rfl, trivial⟩⟩ trivial ⟨rfl, trivial⟩ rfl
        refine tr_region rfl (.run [] [] rfl (st_move rfl) (.run [] [] rfl (st_addn rfl rfl rfl (by omega)) (.run [] [] rfl (st_assign rfl) .nil))) ?_
        refine nxt (Q := fun _ _ => False) (z := k) (k + 1) ?_ ?_ ?_
        · show 1 ≤ (k + 1) ∧ (k + 1) ≤ l.length ∧ compactN l (k + 1) = l.take (k + 1)
          exact ⟨by omega, by omega, cpt_next hC he2 he h3⟩
        · show l.length - (k + 1) < l.length - k
          omega
        · exact wk_mk ⟨rfl, ⟨(int_eq (by omega)), trivial⟩⟩ trivial ⟨rfl, trivial⟩ rfl
    · skip
      replace h2 := of_decide_eq_false h2
      refine tr_exit ?_
      refine tr_seq ?_
      have hkk : k = l.length := (by omega)
      have hs : compactF l = l := by rw [compactF, ← hkk, hC, List.take_of_length_le (by omega)]
      rw [hs]
      refine tr_region rfl (.run [] [] rfl (st_move rfl) (.run [] [] rfl (st_assign rfl) .nil)) ?_
      refine tr_ret ?_
      exact ends [_] [100000] (.cons (.tmp rfl) .nil) (.cons (.one (.row (len := (pvT l).length) (xs := pvT l) rfl rfl) (.sl _ _ (FlatP.clean (pvT_flat _)))) .nil) (by decide) ⟨trivial, trivial⟩
end Go.Rl
namespace Go.Rl
open Go.Proofs
theorem en166 : ∀ vs w, (callFunc 166 vs).run Try.prog w = .ok (.enter 166 vs) w := enters Try.func166 (by decide) rfl
def usrN (l : List Ent) (i : Nat) : List ByteArray := (l.take i).map fun e => e.user
theorem usrN_len {l : List Ent} {i : Nat} (h : i ≤ l.length) : (usrN l i).length = i := by simp [usrN]; omega
theorem usrN_all {l : List Ent} {i : Nat} (h : l.length ≤ i) : compactF (usrN l i) = usersF l := by rw [usrN, List.take_of_length_le h]; rfl
set_option maxRecDepth 1000000 in
set_option maxHeartbeats 2000000 in
theorem users_con (l : List Ent) (hl : l.length ≤ 2000000) : Con Try.prog 135 [.one (PV.sl false 4 (pvE l))] [] [.one (.sl true 1 (pvT (usersF l)))] := by
  refine con_of_tr Try.func135 rfl rfl rfl rfl ?_
  have hle := pvE_length l
  refine tr_seq ?_
  refine tr_region rfl (.run [] [] rfl (st_assign rfl) .nil) ?_
  refine tr_seq ?_
  refine tr_region rfl (.run [600] [] rfl (st_buildSlice rfl 600 Try.underlying147 inf9 (nle rfl) (by decide) rfl rfl rfl .nil (by decide) rfl (by decide) rfl (by decide) rfl) (.run [] [] rfl (st_assign rfl) .nil)) ?_
  refine tr_seq ?_
  refine tr_seq ?_
  refine tr_region rfl (.run [] [] rfl (st_move rfl) (.run [] [] rfl (st_len_fro rfl rfl Try.underlying26) (.run [] [] rfl (st_move rfl) .nil))) ?_
  refine tr_block ?_
  refine tr_wk (wk_ren 600 1 rfl rfl (by decide)) ?_
  refine tr_loopS (σ := Nat) (fun i => mk [(3, .sl 1 0 ((pvT (usrN l i)).length)), (7, .p none (.sl false 4 (pvE l))), (8, .p none (.v (.int .i64 ((pvE l).length : Int)))), (9, .p none (.v (.int .i64 (i:Int))))] [] [(1, 1, pvT (usrN l i))]) (fun i => i ≤ l.length) (fun i => l.length - i) 0 (by simp) (wk_mk ⟨rfl, ⟨rfl, ⟨rfl, ⟨(int_eq (by omega)), trivial⟩⟩⟩⟩ trivial ⟨(congrArg (fun x => some (1, x)) (by rfl)), trivial⟩ rfl) ?_
  rintro i hG
  replace hG : i ≤ l.length := hG
  have hlu := pvT_length (usrN l i)
  have hun := usrN_len hG
  refine tr_seq ?_
  refine tr_region rfl (.run [] [] rfl (st_lss rfl rfl rfl) .nil) ?_
  refine tr_seq ?_
  refine tr_if (t := decide ((i:Int) < ((pvE l).length : Int))) rfl (fun h1 => ?_) (fun h1 => ?_)
  · skip
    replace h1 := of_decide_eq_true h1
    refine tr_skip ?_
    refine tr_seq ?_
    refine tr_block ?_
    refine tr_seq ?_
    obtain ⟨e, he⟩ : ∃ e, l[i]? = some e := ⟨_, List.getElem?_eq_getElem (by (have hL := pvE_length l; omega))⟩
    have hlte := (List.getElem?_eq_some_iff.1 he).1
    refine tr_region rfl (.run [] [] rfl (st_idx_fro rfl rfl rfl Try.underlying26 Try.sizeOf44 rfl (by omega) (pvE_get he)) (.run [] [] rfl (st_load_fea rfl rfl Try.isAgg44 Try.sizeOf44 (nle rfl)) (.run [] [5] rfl (st_allocZ rfl 5 inf44 rfl (by decide) rfl (by decide)) (.run [] [] rfl (st_store_box rfl rfl rfl rfl rfl Try.sizeOf44 rfl (nle rfl)) .nil)))) ?_
    refine tr_region rfl (.run [] [] rfl (st_move rfl) (.run [] [] rfl (st_faddr_box rfl rfl Try.underlying44 rfl Try.sizeOf42 (by decide)) (.run [] [] rfl (st_faddr_box rfl rfl Try.underlying42 rfl Try.sizeOf9 (by decide)) (.run [] [] rfl (st_load_box1 rfl rfl rfl Try.isAgg9 rfl) (.run [1700] [] rfl (st_buildSlice rfl 1700 Try.underlying147 inf9 (nle rfl) (by decide) rfl rfl rfl (.cons .v .nil) (by decide) rfl (by decide) rfl (by decide) rfl) (.run [1] [] rfl (st_append rfl 1 (ib := 1) (len := ((pvT (usrN l i)) ++ [[PV.v (.string e.user)]]).length) rfl rfl (.row (len := (pvT (usrN l i)).length) (xs := pvT (usrN l i)) rfl rfl (.inl rfl)) (.give (len := 1) (xs := [[PV.v (.string e.user)]]) rfl rfl) Try.underlying147 (sk Try.underlying147 rfl) inf9 rfl (by decide) (by decide) (by decide) List.length_append (by simp only [maxLen, List.length_append, List.length_map, List.length_cons, List.length_nil, List.length_take, List.length_drop, pvE_length, pvI_length, pvT_length]; omega) (by simp only [maxLen, List.length_append, List.length_map, List.length_cons, List.length_nil, List.length_take, List.length_drop, pvE_length, pvI_length, pvT_length]; omega)) (.run [] [] rfl (st_assign rfl) .nil))))))) ?_
    have hr2 : (pvT (usrN l i)) ++ [[PV.v (.string e.user)]] = pvT (usrN l (i + 1)) := by simp [pvT, usrN, List.take_add_one, he]
    have hp3 : (.sl 1 0 (((pvT (usrN l i)) ++ [[PV.v (.string e.user)]]).length) : AV) = .sl 1 0 ((pvT (usrN l (i + 1))).length) := by simp only [hr2]
    refine tr_wk (s' := mk [(3, .sl 1 0 ((pvT (usrN l (i + 1))).length)), (7, .p none (.sl false 4 (pvE l))), (8, .p none (.v (.int .i64 ((pvE l).length : Int)))), (9, .p none (.v (.int .i64 (i:Int))))] [] [(1, 1, pvT (usrN l (i + 1)))]) ?_ ?_
    · exact wk_mk ⟨hp3, ⟨rfl, ⟨rfl, ⟨rfl, trivial⟩⟩⟩⟩ trivial ⟨(congrArg (fun x => some (1, x)) hr2), trivial⟩ rfl
    refine tr_region rfl (.run [] [] rfl (st_addn rfl rfl rfl (by omega)) (.run [] [] rfl (st_move rfl) .nil)) ?_
    refine nxt (Q := fun _ _ => False) (z := i) (i + 1) ?_ ?_ ?_
    · show (i + 1) ≤ l.length
      omega
    · show l.length - (i + 1) < l.length - i
      omega
    · exact wk_mk ⟨rfl, ⟨rfl, ⟨rfl, ⟨(int_eq (by omega)), trivial⟩⟩⟩⟩ trivial ⟨rfl, trivial⟩ rfl
  · skip
    replace h1 := of_decide_eq_false h1
    refine tr_exit ?_
    refine tr_seq ?_
    rw [← usrN_all (i := i) (by omega)]
    refine tr_region rfl (.run [] [] rfl (st_move rfl) (.run [1, 2100] [] rfl (st_call rfl 2100 (X := [1]) en166 rfl (.val nod) (.cons (.one (.own (len := (pvT (usrN l i)).length) (xs := pvT (usrN l i)) rfl rfl)) .nil) (by decide) (all_cons rfl all_nil) (.gone .nil) (compactT_con (usrN l i) (by omega)) rfl rfl (nle rfl)) (.run [] [] rfl (st_assign rfl) .nil))) ?_
    refine tr_ret ?_
    exact ends [_] [2100] (.cons (.tmp rfl) .nil) (.cons (.one (.row (len := (pvT (compactF (usrN l i))).length) (xs := pvT (compactF (usrN l i))) rfl rfl) (.sl _ _ (FlatP.clean (pvT_flat _)))) .nil) (by decide) trivial
end Go.Rl
namespace Go.Rl
def pvBo (l : List Bool) : List (List PV) := l.map fun b => [.v (.bool b)]
theorem pvBo_get {l : List Bool} {i : Nat} {e : Bool} (h : l[i]? = some e) : (pvBo l)[i]? = some [.v (.bool e)] := by simp [pvBo, h]
theorem pvBo_flat (l : List Bool) : FlatP (pvBo l) := fun es he p hp => by
  obtain ⟨s, _, rfl⟩ := List.mem_map.1 he
  simp only [List.mem_singleton] at hp
  subst hp; rfl
def setK (n : List Bool) (j : Int) : List Bool := if 0 ≤ j then n.set j.toNat true else n
theorem setK_len (n : List Bool) (j : Int) : (setK n j).length = n.length := by
  unfold setK
  split <;> simp
theorem setK_get {n : List Bool} {j : Int} {k : Nat} : (setK n j)[k]? = (n[k]?).map fun b => b || decide (j = (k : Int)) := by
  unfold setK
  split
  · rw [List.getElem?_set]
    by_cases hk : j.toNat = k
    · have hj : j = (k : Int) := by omega
      rw [if_pos hk]
      by_cases hl : j.toNat < n.length
      · rw [if_pos hl, List.getElem?_eq_getElem (by omega : k < n.length)]
        simp [hj]
      · rw [if_neg hl, List.getElem?_eq_none (by omega)]
        rfl
    · have hj : ¬ j = (k : Int) := by omega
      rw [if_neg hk]
      cases n[k]? <;> simp [hj]
  · have hj : ¬ j = (k : Int) := by omega
    cases n[k]? <;> simp [hj]
def markPs (l : List Ent) (u : ByteArray) (ps : List Int) (n : List Bool) : List Bool := ps.foldl (fun n s => setK n (idxF (asOf u s) l)) n
theorem markPs_len (l : List Ent) (u : ByteArray) : ∀ (ps : List Int) (n : List Bool), (markPs l u ps n).length = n.length
  | [], _ => rfl
  | s :: ps, n => by
    show (markPs l u ps (setK n (idxF (asOf u s) l))).length = n.length
    rw [markPs_len l u ps, setK_len]
theorem markPs_get {l : List Ent} {u : ByteArray} {k : Nat} : ∀ {ps : List Int} {n : List Bool}, (markPs l u ps n)[k]? = (n[k]?).map fun b => b || ps.any fun s => decide (idxF (asOf u s) l = (k : Int))
  | [], n => by simp [markPs]
  | s :: ps, n => by
    show (markPs l u ps (setK n (idxF (asOf u s) l)))[k]? = _
    rw [markPs_get, setK_get]
    cases n[k]? <;> simp [Bool.or_assoc]
theorem markPs_snoc {l : List Ent} {u : ByteArray} {ps : List Int} {n : List Bool} {j : Nat} {s : Int} (h : ps[j]? = some s) : markPs l u (ps.take (j + 1)) n = setK (markPs l u (ps.take j) n) (idxF (asOf u s) l) := by
  simp [markPs, List.take_add_one, h]
def markUs (l : List Ent) (ps : List Int) (us : List ByteArray) (n : List Bool) : List Bool := us.foldl (fun n u => markPs l u ps n) n
theorem markUs_len (l : List Ent) (ps : List Int) : ∀ (us : List ByteArray) (n : List Bool), (markUs l ps us n).length = n.length
  | [], _ => rfl
  | u :: us, n => by
    show (markUs l ps us (markPs l u ps n)).length = n.length
    rw [markUs_len l ps us, markPs_len]
theorem markUs_get {l : List Ent} {ps : List Int} {k : Nat} : ∀ {us : List ByteArray} {n : List Bool}, (markUs l ps us n)[k]? = (n[k]?).map fun b => b || us.any fun u => ps.any fun s => decide (idxF (asOf u s) l = (k : Int))
  | [], n => by simp [markUs]
  | u :: us, n => by
    show (markUs l ps us (markPs l u ps n))[k]? = _
    rw [markUs_get, markPs_get]
    cases n[k]? <;> simp [Bool.or_assoc]
theorem markUs_snoc {l : List Ent} {ps : List Int} {us : List ByteArray} {n : List Bool} {j : Nat} {u : ByteArray} (h : us[j]? = some u) : markUs l ps (us.take (j + 1)) n = markPs l u ps (markUs l ps (us.take j) n) := by
  simp [markUs, List.take_add_one, h]
def marksF (l : List Ent) (ps : List Int) : List Bool := markUs l ps (usersF l) (List.replicate l.length false)
/-- The marks are what is needed. -/
theorem marksF_get {l : List Ent} {ps : List Int} (h : entsOk l = true) {k : Nat} {e : Ent} (he : l[k]? = some e) : (marksF l ps)[k]? = some (needP l ps k e) := by
  have hlt := (List.getElem?_eq_some_iff.1 he).1
  rw [marksF, markUs_get, List.getElem?_replicate, if_pos hlt, need_iff h he]
  simp
end Go.Rl
namespace Go.Rl
open Go.Proofs
theorem inf4 : (Try.prog.info? 4).map (fun i => (i.zero, i.size, i.bytes)) = some (some (.bool false), 1, 1) := by kernel_rfl
theorem en135 : ∀ vs w, (callFunc 135 vs).run Try.prog w = .ok (.enter 135 vs) w := enters Try.func135 (by decide) rfl
theorem en136 : ∀ vs w, (callFunc 136 vs).run Try.prog w = .ok (.enter 136 vs) w := enters Try.func136 (by decide) rfl
theorem en137 : ∀ vs w, (callFunc 137 vs).run Try.prog w = .ok (.enter 137 vs) w := enters Try.func137 (by decide) rfl
theorem idx_bnd {α : Type} {p : α → Bool} {l : List α} (h : 0 ≤ idxF p l) : (idxF p l).toNat < l.length := by
  unfold idxF at h ⊢
  cases hf : l.findIdx? p with
  | none => rw [hf] at h; simp at h
  | some q => simp only [Int.toNat_natCast]; exact (List.findIdx?_eq_some_iff_getElem.1 hf).1
theorem bo_zero {l : List Ent} {s : List Int} : List.replicate (pvE l).length [PV.v (.bool false)] = pvBo (markUs l (pointsF s) ((usersF l).take 0) (List.replicate l.length false)) := by simp [pvBo, markUs, pvE_length]
theorem users_len (l : List Ent) : (usersF l).length ≤ l.length := by
  have h := compactN_len (l.map fun e => e.user) (l.map fun e => e.user).length
  rw [List.length_map] at h
  unfold usersF compactF
  rw [List.length_map]
  exact h
set_option maxRecDepth 1000000 in
set_option maxHeartbeats 2000000 in
theorem needed_con (l : List Ent) (s : List Int) (hl : l.length ≤ 2000000) (hs : s.length ≤ 2000000) (hok : entsOk l = true) : Con Try.prog 74 [.one (PV.sl false 4 (pvE l)), .one (PV.sl false 1 (pvI s))] [] [.one (.sl true 1 (pvI (needF l (pointsF s) l.length)))] := by
  refine con_of_tr Try.func74 rfl rfl rfl rfl ?_
  have hle := pvE_length l
  have hls := pvI_length s
  have hlp := pvI_length (pointsF s)
  have hpl := points_len s
  have hlu := pvT_length (usersF l)
  have hpp : (pvI s ++ [[PV.v (.int .i64 1000000000000)]]).length = (pointsF s).length := by rw [pvI_points]; exact hlp
  have hul := users_len l
  refine tr_seq ?_
  refine tr_region rfl (.run [] [] rfl (st_assign rfl) .nil) ?_
  refine tr_seq ?_
  refine tr_region rfl (.run [] [] rfl (st_move rfl) (.run [] [] rfl (st_len_fro rfl rfl Try.underlying26) (.run [1600] [] rfl (st_make rfl 1600 (l := (pvE l).length) (c := (pvE l).length) rfl rfl Try.underlying146 inf4 rfl rfl (by decide) rfl (by decide) (Nat.le_refl _) (by omega) (by simp only [maxLen]; omega)) (.run [] [] rfl (st_assign rfl) .nil)))) ?_
  refine tr_seq ?_
  refine tr_seq ?_
  refine tr_region rfl (.run [] [] rfl (st_move rfl) (.run [1800] [] rfl (st_call rfl 1800 (X := []) en135 rfl (.val nod) (.cons (.one (.bor (.sl nod))) .nil) (by decide) all_nil .nil (users_con l (by omega)) rfl rfl (nle rfl)) (.run [] [] rfl (st_len_row rfl rfl Try.underlying147) (.run [] [] rfl (st_move rfl) .nil)))) ?_
  refine tr_block ?_
  refine tr_loopS (σ := Nat) (fun a => mk [(0, .p none (.sl false 4 (pvE l))), (1, .p none (.sl false 1 (pvI s))), (5, .sl 1600 0 ((pvE l).length)), (18, .sl 1800 0 ((pvT (usersF l)).length)), (19, .p none (.v (.int .i64 ((pvT (usersF l)).length : Int)))), (20, .p none (.v (.int .i64 (a:Int))))] [] [(1600, 1, pvBo (markUs l (pointsF s) ((usersF l).take a) (List.replicate l.length false))), (1800, 1, pvT (usersF l))]) (fun a => a ≤ (usersF l).length) (fun a => (usersF l).length - a) 0 (by simp) (wk_mk ⟨rfl, ⟨rfl, ⟨rfl, ⟨rfl, ⟨rfl, ⟨(int_eq (by omega)), trivial⟩⟩⟩⟩⟩⟩ trivial ⟨(congrArg (fun x => some (1, x)) (by exact bo_zero)), ⟨rfl, trivial⟩⟩ rfl) ?_
  rintro a hG
  replace hG : a ≤ (usersF l).length := hG
  refine tr_seq ?_
  refine tr_region rfl (.run [] [] rfl (st_lss rfl rfl rfl) .nil) ?_
  refine tr_seq ?_
  refine tr_if (t := decide ((a:Int) < ((pvT (usersF l)).length : Int))) rfl (fun h1 => ?_) (fun h1 => ?_)
  · skip
    replace h1 := of_decide_eq_true h1
    refine tr_skip ?_
    refine tr_seq ?_
    refine tr_block ?_
    refine tr_seq ?_
    obtain ⟨e, he⟩ : ∃ e, (usersF l)[a]? = some e := ⟨_, List.getElem?_eq_getElem (by (have hL := pvT_length (usersF l); omega))⟩
    have hlte := (List.getElem?_eq_some_iff.1 he).1
    refine tr_region rfl (.run [] [] rfl (st_idx_row0 a rfl rfl rfl rfl Try.underlying147 Try.sizeOf9 rfl rfl (by omega)) (.run [] [] rfl (st_load_ea1 rfl rfl rfl (pvT_get he) Try.isAgg9 rfl) (.run [] [] rfl (st_assign rfl) .nil))) ?_
    refine tr_seq ?_
    refine tr_region rfl (.run [] [] rfl (st_move rfl) (.run [2500] [] rfl (st_call rfl 2500 (X := []) en136 rfl (.val nod) (.cons (.one (.bor (.sl nod))) .nil) (by decide) all_nil .nil (cloneI_con s (by omega)) rfl rfl (nle rfl)) (.run [2600] [] rfl (st_buildSlice rfl 2600 Try.underlying23 inf2 (nle rfl) (by decide) rfl rfl rfl (.cons .v .nil) (by decide) rfl (by decide) rfl (by decide) rfl) (.run [2500] [] rfl (st_append rfl 2500 (ib := 2500) (len := ((pvI s) ++ [[PV.v (.int .i64 1000000000000)]]).length) rfl rfl (.row (len := (pvI s).length) (xs := pvI s) rfl rfl (.inl rfl)) (.give (len := 1) (xs := [[PV.v (.int .i64 1000000000000)]]) rfl rfl) Try.underlying23 (sk Try.underlying23 rfl) inf2 rfl (by decide) (by decide) (by decide) List.length_append (by simp only [maxLen, List.length_append, List.length_map, List.length_cons, List.length_nil, List.length_take, List.length_drop, pvE_length, pvI_length, pvT_length]; omega) (by simp only [maxLen, List.length_append, List.length_map, List.length_cons, List.length_nil, List.length_take, List.length_drop, pvE_length, pvI_length, pvT_length]; omega)) (.run [] [] rfl (st_len_row rfl rfl Try.underlying23) (.run [] [] rfl (st_move rfl) .nil)))))) ?_
    have hr2 : (pvI s) ++ [[PV.v (.int .i64 1000000000000)]] = pvI (pointsF s) := by exact pvI_points s
    have hp3 : (.sl 2500 0 (((pvI s) ++ [[PV.v (.int .i64 1000000000000)]]).length) : AV) = .sl 2500 0 ((pvI (pointsF s)).length) := by simp only [hr2]
    refine tr_wk (s' := mk [(0, .p none (.sl false 4 (pvE l))), (1, .p none (.sl false 1 (pvI s))), (5, .sl 1600 0 ((pvE l).length)), (7, .p none (.v (.string e))), (18, .sl 1800 0 ((pvT (usersF l)).length)), (19, .p none (.v (.int .i64 ((pvT (usersF l)).length : Int)))), (20, .p none (.v (.int .i64 (a:Int)))), (27, .sl 2500 0 ((pvI (pointsF s)).length)), (28, .p none (.v (.int .i64 (((pvI s) ++ [[PV.v (.int .i64 1000000000000)]]).length : Int)))), (29, .p none (.v (.int .i64 0)))] [] [(1600, 1, pvBo (markUs l (pointsF s) ((usersF l).take a) (List.replicate l.length false))), (1800, 1, pvT (usersF l)), (2500, 1, pvI (pointsF s))]) ?_ ?_
    · exact wk_mk ⟨rfl, ⟨rfl, ⟨rfl, ⟨rfl, ⟨rfl, ⟨rfl, ⟨rfl, ⟨hp3, ⟨rfl, ⟨rfl, trivial⟩⟩⟩⟩⟩⟩⟩⟩⟩⟩ trivial ⟨rfl, ⟨rfl, ⟨(congrArg (fun x => some (1, x)) hr2), trivial⟩⟩⟩ rfl
    refine tr_block ?_
    refine tr_loopS (σ := Nat) (fun b => mk [(0, .p none (.sl false 4 (pvE l))), (1, .p none (.sl false 1 (pvI s))), (5, .sl 1600 0 ((pvE l).length)), (7, .p none (.v (.string e))), (18, .sl 1800 0 ((pvT (usersF l)).length)), (19, .p none (.v (.int .i64 ((pvT (usersF l)).length : Int)))), (20, .p none (.v (.int .i64 (a:Int)))), (27, .sl 2500 0 ((pvI (pointsF s)).length)), (28, .p none (.v (.int .i64 (((pvI s) ++ [[PV.v (.int .i64 1000000000000)]]).length : Int)))), (29, .p none (.v (.int .i64 (b:Int))))] [] [(1600, 1, pvBo (markPs l e ((pointsF s).take b) (markUs l (pointsF s) ((usersF l).take a) (List.replicate l.length false)))), (1800, 1, pvT (usersF l)), (2500, 1, pvI (pointsF s))]) (fun b => b ≤ (pointsF s).length) (fun b => (pointsF s).length - b) 0 (by simp) (wk_mk ⟨rfl, ⟨rfl, ⟨rfl, ⟨rfl, ⟨rfl, ⟨rfl, ⟨rfl, ⟨rfl, ⟨rfl, ⟨(int_eq (by omega)), trivial⟩⟩⟩⟩⟩⟩⟩⟩⟩⟩ trivial ⟨(congrArg (fun x => some (1, x)) (by rfl)), ⟨rfl, ⟨rfl, trivial⟩⟩⟩ rfl) ?_
    rintro b hG
    replace hG : b ≤ (pointsF s).length := hG
    refine tr_seq ?_
    refine tr_region rfl (.run [] [] rfl (st_lss rfl rfl rfl) .nil) ?_
    refine tr_seq ?_
    refine tr_if (t := decide ((b:Int) < (((pvI s) ++ [[PV.v (.int .i64 1000000000000)]]).length : Int))) rfl (fun h4 => ?_) (fun h4 => ?_)
    · skip
      replace h4 := of_decide_eq_true h4
      refine tr_skip ?_
      refine tr_seq ?_
      refine tr_block ?_
      refine tr_seq ?_
      obtain ⟨e2, he2⟩ : ∃ e, (pointsF s)[b]? = some e := ⟨_, List.getElem?_eq_getElem (by (have hL := pvI_length (pointsF s); omega))⟩
      have hlte2 := (List.getElem?_eq_some_iff.1 he2).1
      refine tr_region rfl (.run [] [] rfl (st_idx_row0 b rfl rfl rfl rfl Try.underlying23 Try.sizeOf2 rfl rfl (by omega)) (.run [] [] rfl (st_load_ea1 rfl rfl rfl (pvI_get he2) Try.isAgg2 rfl) (.run [] [] rfl (st_assign rfl) .nil))) ?_
      refine tr_seq ?_
      refine tr_region rfl (.run [] [] rfl (st_move rfl) (.run [] [] rfl (st_move rfl) (.run [] [] rfl (st_move rfl) (.run [3600] [] rfl (st_call rfl 3600 (X := []) en137 rfl (.val nod) (.cons (.one (.bor (.sl nod))) (.cons (.one (.bor .v)) (.cons (.one (.bor .v)) .nil))) (by decide) all_nil .nil (looked_con l e e2 (by omega)) rfl rfl (nle rfl)) (.run [] [] rfl (st_assign rfl) .nil))))) ?_
      refine tr_seq ?_
      refine tr_region rfl (.run [] [] rfl (st_move rfl) (.run [] [] rfl (st_geq rfl rfl rfl) .nil)) ?_
      refine tr_if (t := decide (0 ≤ (idxF (asOf e e2) l))) rfl (fun h5 => ?_) (fun h5 => ?_)
      · skip
        replace h5 := of_decide_eq_true h5
        have hib := idx_bnd h5
        obtain ⟨w, hw⟩ : ∃ w, (markPs l e ((pointsF s).take b) (markUs l (pointsF s) ((usersF l).take a) (List.replicate l.length false)))[(idxF (asOf e e2) l).toNat]? = some w := ⟨_, List.getElem?_eq_getElem (by rw [markPs_len, markUs_len, List.length_replicate]; exact hib)⟩
        refine tr_region rfl (.run [] [] rfl (st_move rfl) (.run [] [] rfl (st_move rfl) (.run [] [] rfl (st_idx_row0 ((idxF (asOf e e2) l).toNat) rfl rfl rfl rfl Try.underlying146 Try.sizeOf4 rfl (by omega) (by omega)) (.run [] [] rfl (st_store_row rfl rfl rfl (FlatP.nf (pvBo_flat _)) (by exact pvBo_get hw) rfl rfl (.cons .v .nil) Try.sizeOf4 rfl (nle rfl)) .nil)))) ?_
        refine tr_wk (s' := mk [(0, .p none (.sl false 4 (pvE l))), (1, .p none (.sl false 1 (pvI s))), (5, .sl 1600 0 ((pvE l).length)), (7, .p none (.v (.string e))), (18, .sl 1800 0 ((pvT (usersF l)).length)), (19, .p none (.v (.int .i64 ((pvT (usersF l)).length : Int)))), (20, .p none (.v (.int .i64 (a:Int)))), (27, .sl 2500 0 ((pvI (pointsF s)).length)), (28, .p none (.v (.int .i64 (((pvI s) ++ [[PV.v (.int .i64 1000000000000)]]).length : Int)))), (29, .p none (.v (.int .i64 (b:Int))))] [] [(1600, 1, (pvBo (markPs l e ((pointsF s).take b) (markUs l (pointsF s) ((usersF l).take a) (List.replicate l.length false)))).set ((idxF (asOf e e2) l).toNat) [PV.v (.bool true)]), (1800, 1, pvT (usersF l)), (2500, 1, pvI (pointsF s))]) ?_ ?_
        · exact wk_mk ⟨rfl, ⟨rfl, ⟨rfl, ⟨rfl, ⟨rfl, ⟨rfl, ⟨rfl, ⟨rfl, ⟨rfl, ⟨rfl, trivial⟩⟩⟩⟩⟩⟩⟩⟩⟩⟩ trivial ⟨rfl, ⟨rfl, ⟨rfl, trivial⟩⟩⟩ rfl
        refine tr_region rfl (.run [] [] rfl (st_addn rfl rfl rfl (by omega)) (.run [] [] rfl (st_move rfl) .nil)) ?_
        refine nxt (Q := fun _ _ => False) (z := b) (b + 1) ?_ ?_ ?_
        · show (b + 1) ≤ (pointsF s).length
          omega
        · show (pointsF s).length - (b + 1) < (pointsF s).length - b
          omega
        · exact wk_mk ⟨rfl, ⟨rfl, ⟨rfl, ⟨rfl, ⟨rfl, ⟨rfl, ⟨rfl, ⟨rfl, ⟨rfl, ⟨(int_eq (by omega)), trivial⟩⟩⟩⟩⟩⟩⟩⟩⟩⟩ trivial ⟨(congrArg (fun x => some (1, x)) (by rw [markPs_snoc he2, setK, if_pos h5]; simp [pvBo, List.map_set, over])), ⟨rfl, ⟨rfl, trivial⟩⟩⟩ rfl
      · skip
        replace h5 := of_decide_eq_false h5
        refine tr_skip ?_
        refine tr_region rfl (.run [] [] rfl (st_addn rfl rfl rfl (by omega)) (.run [] [] rfl (st_move rfl) .nil)) ?_
        refine nxt (Q := fun _ _ => False) (z := b) (b + 1) ?_ ?_ ?_
        · show (b + 1) ≤ (pointsF s).length
          omega
        · show (pointsF s).length - (b + 1) < (pointsF s).length - b
          omega
        · exact wk_mk ⟨rfl, ⟨rfl, ⟨rfl, ⟨rfl, ⟨rfl, ⟨rfl, ⟨rfl, ⟨rfl, ⟨rfl, ⟨(int_eq (by omega)), trivial⟩⟩⟩⟩⟩⟩⟩⟩⟩⟩ trivial ⟨(congrArg (fun x => some (1, x)) (by rw [markPs_snoc he2, setK, if_neg h5])), ⟨rfl, ⟨rfl, trivial⟩⟩⟩ rfl
    · skip
      replace h4 := of_decide_eq_false h4
      refine tr_exit ?_
      refine tr_region rfl (.run [] [] rfl (st_addn rfl rfl rfl (by omega)) (.run [] [] rfl (st_move rfl) .nil)) ?_
      refine nxt (Q := fun _ _ => False) (z := a) (a + 1) ?_ ?_ ?_
      · show (a + 1) ≤ (usersF l).length
        omega
      · show (usersF l).length - (a + 1) < (usersF l).length - a
        omega
      · exact wk_mk ⟨rfl, ⟨rfl, ⟨rfl, ⟨rfl, ⟨rfl, ⟨(int_eq (by omega)), trivial⟩⟩⟩⟩⟩⟩ trivial ⟨(congrArg (fun x => some (1, x)) (by rw [markUs_snoc he, List.take_of_length_le (l := pointsF s) (by omega)])), ⟨rfl, trivial⟩⟩ rfl
  · skip
    replace h1 := of_decide_eq_false h1
    refine tr_exit ?_
    refine tr_seq ?_
    refine tr_region rfl (.run [4400] [] rfl (st_buildSlice rfl 4400 Try.underlying23 inf2 (nle rfl) (by decide) rfl rfl rfl .nil (by decide) rfl (by decide) rfl (by decide) rfl) (.run [] [] rfl (st_assign rfl) .nil)) ?_
    refine tr_seq ?_
    refine tr_seq ?_
    refine tr_region rfl (.run [] [] rfl (st_move rfl) (.run [] [] rfl (st_len_row rfl rfl Try.underlying146) (.run [] [] rfl (st_move rfl) .nil))) ?_
    refine tr_block ?_
    refine tr_wk (wk_ren 4400 2 rfl rfl (by decide)) ?_
    refine tr_loopS (σ := Nat) (fun k => mk [(11, .sl 2 0 ((pvI (needF l (pointsF s) k)).length)), (45, .sl 1600 0 ((pvE l).length)), (46, .p none (.v (.int .i64 ((pvE l).length : Int)))), (47, .p none (.v (.int .i64 (k:Int))))] [] [(2, 1, pvI (needF l (pointsF s) k)), (1600, 1, pvBo (marksF l (pointsF s)))]) (fun k => k ≤ l.length) (fun k => l.length - k) 0 (by simp) (wk_mk ⟨rfl, ⟨rfl, ⟨rfl, ⟨(int_eq (by omega)), trivial⟩⟩⟩⟩ trivial ⟨(congrArg (fun x => some (1, x)) (by rfl)), ⟨(congrArg (fun x => some (1, x)) (by rw [List.take_of_length_le (l := usersF l) (by omega)]; rfl)), trivial⟩⟩ rfl) ?_
    rintro k hG
    replace hG : k ≤ l.length := hG
    have hnl := needF_len l (pointsF s) k
    have hle3 := pvI_length (needF l (pointsF s) k)
    refine tr_seq ?_
    refine tr_region rfl (.run [] [] rfl (st_lss rfl rfl rfl) .nil) ?_
    refine tr_seq ?_
    refine tr_if (t := decide ((k:Int) < ((pvE l).length : Int))) rfl (fun h6 => ?_) (fun h6 => ?_)
    · skip
      replace h6 := of_decide_eq_true h6
      refine tr_skip ?_
      refine tr_seq ?_
      refine tr_block ?_
      refine tr_seq ?_
      obtain ⟨e3, he3⟩ : ∃ e, l[k]? = some e := ⟨_, List.getElem?_eq_getElem (by omega)⟩
      refine tr_region rfl (.run [] [] rfl (st_move rfl) (.run [] [] rfl (st_idx_row0 k rfl rfl rfl rfl Try.underlying146 Try.sizeOf4 rfl rfl (by omega)) (.run [] [] rfl (st_load_ea1 rfl rfl rfl (by exact pvBo_get (marksF_get hok he3)) Try.isAgg4 rfl) (.run [] [] rfl (st_assign rfl) (.run [] [] rfl (st_assign rfl) .nil))))) ?_
      refine tr_seq ?_
      refine tr_region rfl (.run [] [] rfl (st_move rfl) .nil) ?_
      refine tr_if (t := needP l (pointsF s) k e3) rfl (fun h7 => ?_) (fun h7 => ?_)
      · skip
        refine tr_region rfl (.run [] [] rfl (st_move rfl) (.run [] [] rfl (st_move rfl) (.run [5500] [] rfl (st_buildSlice rfl 5500 Try.underlying23 inf2 (nle rfl) (by decide) rfl rfl rfl (.cons .v .nil) (by decide) rfl (by decide) rfl (by decide) rfl) (.run [2] [] rfl (st_append rfl 2 (ib := 2) (len := ((pvI (needF l (pointsF s) k)) ++ [[PV.v (.int .i64 (k:Int))]]).length) rfl rfl (.row (len := (pvI (needF l (pointsF s) k)).length) (xs := pvI (needF l (pointsF s) k)) rfl rfl (.inl rfl)) (.give (len := 1) (xs := [[PV.v (.int .i64 (k:Int))]]) rfl rfl) Try.underlying23 (sk Try.underlying23 rfl) inf2 rfl (by decide) (by decide) (by decide) List.length_append (by simp only [maxLen, List.length_append, List.length_map, List.length_cons, List.length_nil, List.length_take, List.length_drop, pvE_length, pvI_length, pvT_length]; omega) (by simp only [maxLen, List.length_append, List.length_map, List.length_cons, List.length_nil, List.length_take, List.length_drop, pvE_length, pvI_length, pvT_length]; omega)) (.run [] [] rfl (st_assign rfl) .nil))))) ?_
        have hr8 : (pvI (needF l (pointsF s) k)) ++ [[PV.v (.int .i64 (k:Int))]] = pvI (needF l (pointsF s) (k + 1)) := by rw [need_yes he3 h7]; exact pvI_snoc _ _
        have hp9 : (.sl 2 0 (((pvI (needF l (pointsF s) k)) ++ [[PV.v (.int .i64 (k:Int))]]).length) : AV) = .sl 2 0 ((pvI (needF l (pointsF s) (k + 1))).length) := by simp only [hr8]
        refine tr_wk (s' := mk [(11, .sl 2 0 ((pvI (needF l (pointsF s) (k + 1))).length)), (45, .sl 1600 0 ((pvE l).length)), (46, .p none (.v (.int .i64 ((pvE l).length : Int)))), (47, .p none (.v (.int .i64 (k:Int))))] [] [(2, 1, pvI (needF l (pointsF s) (k + 1))), (1600, 1, pvBo (marksF l (pointsF s)))]) ?_ ?_
        · exact wk_mk ⟨hp9, ⟨rfl, ⟨rfl, ⟨rfl, trivial⟩⟩⟩⟩ trivial ⟨(congrArg (fun x => some (1, x)) hr8), ⟨rfl, trivial⟩⟩ rfl
        refine tr_region rfl (.run [] [] rfl (st_addn rfl rfl rfl (by omega)) (.run [] [] rfl (st_move rfl) .nil)) ?_
        refine nxt (Q := fun _ _ => False) (z := k) (k + 1) ?_ ?_ ?_
        · show (k + 1) ≤ l.length
          omega
        · show l.length - (k + 1) < l.length - k
          omega
        · exact wk_mk ⟨rfl, ⟨rfl, ⟨rfl, ⟨(int_eq (by omega)), trivial⟩⟩⟩⟩ trivial ⟨rfl, ⟨rfl, trivial⟩⟩ rfl
      · skip
        refine tr_skip ?_
        refine tr_region rfl (.run [] [] rfl (st_addn rfl rfl rfl (by omega)) (.run [] [] rfl (st_move rfl) .nil)) ?_
        refine nxt (Q := fun _ _ => False) (z := k) (k + 1) ?_ ?_ ?_
        · show (k + 1) ≤ l.length
          omega
        · show l.length - (k + 1) < l.length - k
          omega
        · exact wk_mk ⟨(congrArg (fun x => AV.sl 2 0 (pvI x).length) (need_no he3 h7).symm), ⟨rfl, ⟨rfl, ⟨(int_eq (by omega)), trivial⟩⟩⟩⟩ trivial ⟨(congrArg (fun x => some (1, x)) (by rw [need_no he3 h7])), ⟨rfl, trivial⟩⟩ rfl
    · skip
      replace h6 := of_decide_eq_false h6
      refine tr_exit ?_
      refine tr_seq ?_
      have hil : k = l.length := (by omega)
      rw [← hil]
      refine tr_region rfl (.run [] [] rfl (st_move rfl) (.run [] [] rfl (st_assign rfl) .nil)) ?_
      refine tr_ret ?_
      exact ends [_] [2] (.cons (.tmp rfl) .nil) (.cons (.one (.row (len := (pvI (needF l (pointsF s) k)).length) (xs := pvI (needF l (pointsF s) k)) rfl rfl) (.sl _ _ (FlatP.clean (pvI_flat _)))) .nil) (by decide) trivial
end Go.Rl
namespace Go.Rl
open Go.Proofs
theorem en38 : ∀ vs w, (callFunc 38 vs).run Try.prog w = .ok (.enter 38 vs) w := enters Try.func38 (by decide) rfl
theorem en73 : ∀ vs w, (callFunc 73 vs).run Try.prog w = .ok (.enter 73 vs) w := enters Try.func73 (by decide) rfl
theorem en74 : ∀ vs w, (callFunc 74 vs).run Try.prog w = .ok (.enter 74 vs) w := enters Try.func74 (by decide) rfl
end Go.Rl
namespace Go.Rl
open Go.Proofs
theorem en17 : ∀ vs w, (callFunc 17 vs).run Try.prog w = .ok (.enter 17 vs) w := enters Try.func17 (by decide) rfl
theorem en19 : ∀ vs w, (callFunc 19 vs).run Try.prog w = .ok (.enter 19 vs) w := enters Try.func19 (by decide) rfl
theorem en20 : ∀ vs w, (callFunc 20 vs).run Try.prog w = .ok (.enter 20 vs) w := enters Try.func20 (by decide) rfl
theorem en22 : ∀ vs w, (callFunc 22 vs).run Try.prog w = .ok (.enter 22 vs) w := enters Try.func22 (by decide) rfl
theorem en23 : ∀ vs w, (callFunc 23 vs).run Try.prog w = .ok (.enter 23 vs) w := enters Try.func23 (by decide) rfl
theorem en24 : ∀ vs w, (callFunc 24 vs).run Try.prog w = .ok (.enter 24 vs) w := enters Try.func24 (by decide) rfl
theorem en25 : ∀ vs w, (callFunc 25 vs).run Try.prog w = .ok (.enter 25 vs) w := enters Try.func25 (by decide) rfl
theorem eqI_self (a : List Int) (hl : a.length ≤ 1000000000) : Con Try.prog 22 [.one (PV.sl false 1 (pvI a)), .one (PV.sl false 1 (pvI a))] [] [.one (.v (.bool true))] := by
  simpa using eqInt64S_con a a hl
theorem eqE_self (a : List Ent) (hl : a.length ≤ 1000000000) : Con Try.prog 23 [.one (PV.sl false 4 (pvE a)), .one (PV.sl false 4 (pvE a))] [] [.one (.v (.bool true))] := by
  simpa using eqEntryS_con a a hl
theorem open_ent {es : List PV} (h : Fits [.str, .int .i64, .int .i64, .str] es) : ∃ e : Ent, es = e.pv ∧ (e.user.size ≤ reachBytes ∧ e.value.size ≤ reachBytes) := by
  obtain ⟨p0, e0, rfl, f0, h⟩ := fits_cons h
  obtain ⟨p1, e1, rfl, f1, h⟩ := fits_cons h
  obtain ⟨p2, e2, rfl, f2, h⟩ := fits_cons h
  obtain ⟨p3, e3, rfl, f3, h⟩ := fits_cons h
  obtain rfl := fits_nil h
  obtain ⟨b, rfl, hb⟩ := fit_str f0
  obtain ⟨n, rfl, hn⟩ := fit_int f1
  obtain ⟨k, rfl, hk⟩ := fit_int f2
  obtain ⟨v, rfl, hv⟩ := fit_str f3
  exact ⟨⟨b, n, k, v⟩, rfl, hb, hv⟩
theorem open_num {es : List PV} (h : Fits [.int .i64] es) : ∃ n : Int, es = [.v (.int .i64 n)] ∧ True := by
  obtain ⟨p0, e0, rfl, f0, h⟩ := fits_cons h
  obtain rfl := fits_nil h
  obtain ⟨n, rfl, hn⟩ := fit_int f0
  exact ⟨n, rfl, trivial⟩
theorem open_ents {ps : List PV} (h : Fits [.sl [.str, .int .i64, .int .i64, .str]] ps) : ∃ l : List Ent, ps = [.sl false 4 (pvE l)] ∧ l.length ≤ maxLen ∧ ∀ e ∈ l, e.user.size ≤ reachBytes ∧ e.value.size ≤ reachBytes := by
  obtain ⟨x1, e1, rfl, f1, z1⟩ := fits_cons h
  obtain rfl := fits_nil z1
  obtain ⟨xs, rfl, hl, hx⟩ := fit_sl f1
  obtain ⟨l, rfl, hB⟩ := fits_list (f := Ent.pv) (fun es he => open_ent he) hx
  exact ⟨l, rfl, by simpa using hl, hB⟩
theorem open_nums {ps : List PV} (h : Fits [.sl [.int .i64]] ps) : ∃ l : List Int, ps = [.sl false 1 (pvI l)] := by
  obtain ⟨x1, e1, rfl, f1, z1⟩ := fits_cons h
  obtain rfl := fits_nil z1
  obtain ⟨xs, rfl, hl, hx⟩ := fit_sl f1
  obtain ⟨l, rfl, hB⟩ := fits_list (f := fun n : Int => [PV.v (.int .i64 n)]) (fun es he => open_num he) hx
  exact ⟨l, rfl⟩
theorem maxLen_le2 : maxLen ≤ 9223372036854775807 := by decide
theorem reach_le2 : reachBytes ≤ 9223372036854775807 := by decide
end Go.Rl
namespace Go.Proofs
open Go.RowKit
/-- The box holds a slice value that holds the ints zs. -/
def Bw.Reads (Bs : Nat) (zs : List Int) (W : World) : Prop :=
  ((∃ A c, W.cell? ⟨Bs, 0, none⟩ = some (.slice A 0 c)) ∧ zs = []) ∨ ∃ b off cap, W.cell? ⟨Bs, 0, none⟩ = some (.slice (some ⟨b, off, none⟩) zs.length cap) ∧ ∀ (j : Nat) (z : Int), zs[j]? = some z → W.cell? ⟨b, off + j, none⟩ = some (.int .i64 z)
def Bw.enc (zs : List Int) (k : Fin zs.length) : Array Value := #[.int .i64 (k.1 : Int), .int .i64 (zs[k.1]'k.2)]
/-- What has come when k rounds are over. -/
def Bw.upto (zs : List Int) : Nat → List (Fin zs.length)
  | 0 => []
  | k + 1 => Bw.upto zs k ++ (if h : zs.length - 1 - k < zs.length then [⟨zs.length - 1 - k, h⟩] else [])
theorem Bw.upto_succ (zs : List Int) (k : Nat) (h : zs.length - 1 - k < zs.length) : Bw.upto zs (k + 1) = Bw.upto zs k ++ [⟨zs.length - 1 - k, h⟩] := by rw [Bw.upto, dif_pos h]
theorem Bw.upto_length (zs : List Int) : ∀ k, k ≤ zs.length → (Bw.upto zs k).length = k
  | 0, _ => rfl
  | k + 1, h => by rw [Bw.upto_succ zs k (by omega), List.length_append, Bw.upto_length zs k (by omega)]; rfl
/-- The contract of the closure. -/
def Bw.Contract (P : Program) (gf : Nat) : Prop :=
  ∀ (F : Fence) (n : Nat), F.fn gf → F.round = none → 1 ≤ n → ∀ (l Bs : Nat) (zs : List Int), zs.length ≤ 1000000000 → ∀ (J Jx : List (Fin zs.length) → World → Prop),
    (∀ pre x W, J pre W → pre.length < zs.length → YieldAt F (n - 1) P l (Bw.enc zs x) W fun e W' =>
      (e = .returned (.bool true) ∧ J (pre ++ [x]) W' ∧ (Bw.Reads Bs zs W → Bw.Reads Bs zs W')) ∨ (e = .returned (.bool false) ∧ Jx (pre ++ [x]) W')) →
    ∀ W : World, Bw.Reads Bs zs W → J [] W →
      CallsIn F n P gf #[.func (.yield l) #[] #[], .pointer (some ⟨Bs, 0, none⟩)] W fun e W' => (∃ v, e = .returned v) ∧
        ((∃ ys, ys = Bw.upto zs zs.length ∧ J ys W') ∨ (∃ pre, True ∧ Jx pre W'))
theorem Bw.Reads.below {Bs : Nat} {zs : List Int} {A B : World} {n₀ : Nat} (h : Below n₀ A B) (hn : A.heap.size ≤ n₀) (hr : Bw.Reads Bs zs A) : Bw.Reads Bs zs B := by
  have old : ∀ (k j : Nat) v, A.cell? ⟨k, j, none⟩ = some v → B.cell? ⟨k, j, none⟩ = some v := fun k j v hv => by
    have hk : k < A.heap.size := by
      cases e : A.heap[k]? with
      | none => simp [World.cell?, e] at hv
      | some o => exact (Array.getElem?_eq_some_iff.1 e).1
    exact (h.cell (p := ⟨k, j, none⟩) (Nat.lt_of_lt_of_le hk hn)).trans hv
  rcases hr with ⟨⟨A, c, h1⟩, h2⟩ | ⟨b, off, cap, h1, h2⟩
  · exact .inl ⟨⟨A, c, old _ _ _ h1⟩, h2⟩
  · exact .inr ⟨b, off, cap, old _ _ _ h1, fun j z hz => old _ _ _ (h2 j z hz)⟩
/-- .. as the kit's law takes it. -/
theorem Bw.Contract.stops {P : Program} {gf : Nat} (hC : Bw.Contract P gf) {F : Fence} {n : Nat} (hf : F.fn gf) (hro : F.round = none) (hn : 1 ≤ n) {Bs : Nat} {zs : List Int} (hz : zs.length ≤ 1000000000) {w : World} (hr : Bw.Reads Bs zs w) :
    SeqStopsK F n P gf #[.pointer (some ⟨Bs, 0, none⟩)] (Bw.enc zs) (fun A B => Bw.Reads Bs zs A → Bw.Reads Bs zs B) (fun xs => xs = Bw.upto zs zs.length) (fun _ => True) zs.length w := fun l J Jx W hW _ _ hY h0 =>
  hC F n hf hro hn l Bs zs hz J Jx hY W (hr.below hW (Nat.le_refl _)) h0
end Go.Proofs
namespace Go.Rl
open Go.Proofs
/-- What is kept so far begins with an entry of this one's user. -/
def older (out : List Ent) (e : Ent) : Bool := match out with
  | [] => false
  | o :: _ => decide (o.user = e.user)
/-- An entry more, from the end. -/
def cstep (bot : Bool) (out : List Ent) (e : Ent) : List Ent := if (bot && decide (e.kind = 0) && !older out e) = true then out else e :: out
def cplace (l : List Ent) (bot : Bool) (out : List Ent) (z : Int) : List Ent := match l[z.toNat]? with
  | some e => cstep bot out e
  | none => out
def compP (l : List Ent) (bot : Bool) (zs : List Int) (pre : List (Fin zs.length)) : List Ent := pre.foldl (fun out x => cplace l bot out (zs[x.1]'x.2)) []
def compU (l : List Ent) (bot : Bool) (zs : List Int) (k : Nat) : List Ent := compP l bot zs (Bw.upto zs k)
theorem compP_snoc (l : List Ent) (bot : Bool) (zs : List Int) (pre : List (Fin zs.length)) (x : Fin zs.length) {e : Ent} (he : l[(zs[x.1]'x.2).toNat]? = some e) : compP l bot zs (pre ++ [x]) = cstep bot (compP l bot zs pre) e := by
  simp [compP, cplace, he]
theorem compU_succ {l : List Ent} {bot : Bool} {zs : List Int} {k i : Nat} {z : Int} {e : Ent} (hi : i + k + 1 = zs.length) (hz : zs[i]? = some z) (he : l[z.toNat]? = some e) : compU l bot zs (k + 1) = cstep bot (compU l bot zs k) e := by
  have hlt : zs.length - 1 - k < zs.length := by omega
  rw [compU, Bw.upto_succ zs k hlt]
  refine compP_snoc l bot zs _ _ ?_
  have : zs[zs.length - 1 - k]'hlt = z := by
    obtain ⟨h1, h2⟩ := List.getElem?_eq_some_iff.1 hz
    rw [← h2]
    congr 1
    omega
  simp only [this]
  exact he
theorem cstep_len (bot : Bool) (out : List Ent) (e : Ent) : (cstep bot out e).length ≤ out.length + 1 := by
  unfold cstep
  split
  · omega
  · simp
theorem compP_len (l : List Ent) (bot : Bool) (zs : List Int) (pre : List (Fin zs.length)) : (compP l bot zs pre).length ≤ pre.length := by
  have h : ∀ (pre : List (Fin zs.length)) (out : List Ent), (pre.foldl (fun out x => cplace l bot out (zs[x.1]'x.2)) out).length ≤ out.length + pre.length := by
    intro pre
    induction pre with
    | nil => intro out; simp
    | cons x pre ih =>
      intro out
      rw [List.foldl_cons]
      have h1 := ih (cplace l bot out (zs[x.1]'x.2))
      have h2 : (cplace l bot out (zs[x.1]'x.2)).length ≤ out.length + 1 := by
        unfold cplace
        split
        · exact cstep_len _ _ _
        · omega
      simp only [List.length_cons]
      omega
  have := h pre []
  simpa [compP] using this
theorem compU_len (l : List Ent) (bot : Bool) (zs : List Int) {k : Nat} (hk : k ≤ zs.length) : (compU l bot zs k).length ≤ k := by
  have := compP_len l bot zs (Bw.upto zs k)
  rwa [Bw.upto_length zs k hk] at this
theorem needF_bnd {l : List Ent} {ps : List Int} {n : Nat} : ∀ {i : Nat} {z : Int}, z ∈ needF l ps i → ∃ k : Nat, z = (k : Int) ∧ k < i ∧ k < l.length
  | 0, z, h => by simp [needF] at h
  | i + 1, z, h => by
    rw [needF, List.mem_append] at h
    rcases h with h | h
    · obtain ⟨k, h1, h2, h3⟩ := needF_bnd (n := n) h
      exact ⟨k, h1, by omega, h3⟩
    · cases he : l[i]? with
      | none => rw [he] at h; simp at h
      | some e =>
        rw [he] at h
        simp only at h
        split at h
        · rw [List.mem_singleton] at h
          exact ⟨i, h, by omega, (List.getElem?_eq_some_iff.1 he).1⟩
        · cases h
theorem need_at {l : List Ent} {ps : List Int} {n i : Nat} {z : Int} (h : (needF l ps n)[i]? = some z) : ∃ k : Nat, z = (k : Int) ∧ k < l.length := by
  obtain ⟨k, h1, _, h3⟩ := needF_bnd (n := n) (List.mem_of_getElem? h)
  exact ⟨k, h1, h3⟩
def compactedF (l : List Ent) (s : List Int) (bot : Bool) : List Ent := if entsOk l = true ∧ snapsOk s = true then compU l bot (needF l (pointsF s) l.length) (needF l (pointsF s) l.length).length else []
theorem compactedF_len (l : List Ent) (s : List Int) (bot : Bool) : (compactedF l s bot).length ≤ l.length := by
  unfold compactedF
  split
  · exact Nat.le_trans (compU_len _ _ _ (Nat.le_refl _)) (needF_len _ _ _)
  · exact Nat.zero_le _
/-- The user that was kept last. -/
def lastU (out : List Ent) : ByteArray := match out with
  | [] => ⟨#[]⟩
  | o :: _ => o.user
def anyE (out : List Ent) : Bool := match out with
  | [] => false
  | _ :: _ => true
theorem older_any (out : List Ent) (e : Ent) : (anyE out && decide (e.user = lastU out)) = older out e := by
  cases out with
  | nil => rfl
  | cons o out => exact decide_eq_decide.2 eq_comm
theorem older_no {out : List Ent} {e : Ent} (h : anyE out = false) : older out e = false := by rw [← older_any, h]; rfl
theorem older_is {out : List Ent} {e : Ent} (h : anyE out = true) : older out e = decide (e.user = lastU out) := by rw [← older_any, h]; rfl
theorem older_at {out : List Ent} {e o : Ent} (h : out[0]? = some o) : older out e = decide (o.user = e.user) := by
  cases out with
  | nil => cases h
  | cons x out => cases h; rfl
theorem older_len {out : List Ent} {e : Ent} (h : ¬ 0 < out.length) : older out e = false := by
  cases out with
  | nil => rfl
  | cons x out => simp at h
/-! #### turned about -/
def pvE_rev (l : List Ent) : List (List PV) := pvE l.reverse
/-- What stands at place k when i from each end are swapped. -/
def Swapped (l m : List Ent) (i : Nat) : Prop := m.length = l.length ∧ ∀ k, k < l.length → m[k]? = if k < i ∨ l.length - i ≤ k then l[l.length - 1 - k]? else l[k]?
theorem swapped_zero (l : List Ent) : Swapped l l 0 := ⟨rfl, fun k hk => by rw [if_neg (by omega)]⟩
theorem swapped_mid {l m : List Ent} {i k : Nat} (h : Swapped l m i) (h1 : i ≤ k) (h2 : k + i < l.length) : m[k]? = l[k]? := by rw [h.2 k (by omega), if_neg (by omega)]
theorem swapped_next {l m : List Ent} {i j : Nat} {x y : Ent} (h : Swapped l m i) (hij : i + j + 1 = l.length) (hlt : i < j) (hx : m[i]? = some x) (hy : m[j]? = some y) : Swapped l ((m.set i y).set j x) (i + 1) := by
  refine ⟨by rw [List.length_set, List.length_set]; exact h.1, fun k hk => ?_⟩
  have hl := h.1
  rw [swapped_mid h (Nat.le_refl _) (by omega)] at hx
  rw [swapped_mid h (by omega) (by omega)] at hy
  rw [List.getElem?_set]
  by_cases h1 : j = k
  · subst h1
    rw [if_pos rfl, List.length_set, if_pos (by omega), if_pos (by omega), ← hx]
    congr 1
    omega
  · rw [if_neg h1, List.getElem?_set]
    by_cases h2 : i = k
    · subst h2
      rw [if_pos rfl, if_pos (by omega), if_pos (by omega), ← hy]
      congr 1
      omega
    · rw [if_neg h2, h.2 k hk]
      by_cases h3 : k < i ∨ l.length - i ≤ k
      · rw [if_pos h3, if_pos (by omega)]
      · rw [if_neg h3, if_neg (by omega)]
theorem swapped_all {l m : List Ent} {i : Nat} (h : Swapped l m i) (hi : l.length ≤ 2 * i + 1) : m = l.reverse := by
  refine List.ext_getElem? (fun k => ?_)
  by_cases hk : k < l.length
  · rw [h.2 k hk, List.getElem?_reverse hk]
    by_cases h3 : k < i ∨ l.length - i ≤ k
    · rw [if_pos h3]
    · rw [if_neg h3]
      congr 1
      omega
  · rw [List.getElem?_eq_none (by rw [h.1]; omega), List.getElem?_eq_none (by rw [List.length_reverse]; omega)]
theorem pvE_set2 {m : List Ent} {i j : Nat} {x y : Ent} : (((pvE m).set i y.pv).set j x.pv) = pvE ((m.set i y).set j x) := by simp [pvE, List.map_set]
theorem pvE_consr (out : List Ent) (e : Ent) : pvE out.reverse ++ [e.pv] = pvE (e :: out).reverse := by simp [pvE]
theorem cstep_drop {bot : Bool} {out : List Ent} {e : Ent} (h1 : bot = true) (h2 : e.kind = 0) (h3 : older out e = false) : cstep bot out e = out := by simp [cstep, h1, h2, h3]
theorem cstep_keep {bot : Bool} {out : List Ent} {e : Ent} (h : ¬ (bot = true ∧ e.kind = 0 ∧ older out e = false)) : cstep bot out e = e :: out := by
  unfold cstep
  rw [if_neg]
  intro hc
  simp only [Bool.and_eq_true, decide_eq_true_eq, Bool.not_eq_true'] at hc
  exact h ⟨hc.1.1, hc.1.2, hc.2⟩
end Go.Rl
namespace Go.Rl
open Go.RowKit
/-- The round of the loop whose record is l. -/
def Fw (l : Nat) : Fence := Fence.wide.inRound l
theorem rows_in {l n : Nat} {P : Program} {row : String} {args : Array Value} {w : World} {R : Value → World → Prop} (h : Rows P row args w R) : RowsIn (Fw l) n P row args w R := fun c cs _ => by
  obtain ⟨v, w', hR, hs⟩ := h c cs
  refine ⟨v, w', hR, ?_⟩
  rw [Fw, fenced_inRound]
  exact (comesIn_wide (e := .returned v)).2 hs
theorem op_in {l n : Nat} {P : Program} {o : Oper} {a : Act} {w : World} {K K' : Act → World → Prop} {Q : Exit → Act → World → Prop} (hnd : ∀ c, o.op ≠ .defer c) (h : o.wp P a w K Q) (hK : ∀ a w, K a w → K' a w) : o.wpIn (Fw l) n P a w K' Q := by
  refine ⟨fun _ _ => trivial, ?_⟩
  rw [show (Fw l).round = some l from rfl, Oper.semAt_some l _ o hnd]
  unfold Oper.wp at h
  generalize Sem.run P (execOp a.eval o) w = r at h ⊢
  match r, h with
  | .ok (.value v) w', h => exact hK _ _ h
  | .ok .skip w', h => exact hK _ _ h
  | .ok (.defer d) w', h => exact hK _ _ h
  | .ok (.enter f args) w', h =>
    refine ⟨fun hd => (by cases hd), ?_⟩
    have h2 : Calls P f args w' _ := h
    refine CallsIn.mono (CallsIn.inRound l (callsIn_wide.2 h2)) ?_
    intro e w'' he
    cases e with
    | returned v => exact hK _ _ he
    | panicked c => exact he
    | outgrown => exact he
  | .ok (.row row args) w', h =>
    refine ⟨fun hd => (by cases hd), ?_⟩
    have h2 : Rows P row args w' _ := h
    exact (rows_in h2).mono (fun v w'' hv => hK _ _ hv)
  | .halt (.panic v) w', h => exact h
/-- The temporaries kp hold what they held. -/
def keeps (kp : Nat → Bool) (a a' : Act) : Prop := ∀ j, kp j = true → a'.tmps.getD j undef = a.tmps.getD j undef
theorem keeps_refl (kp : Nat → Bool) (a : Act) : keeps kp a a := fun _ _ => rfl
theorem keeps_trans {kp : Nat → Bool} {a b c : Act} (h : keeps kp a b) (k : keeps kp b c) : keeps kp a c := fun j hj => (k j hj).trans (h j hj)
theorem keeps_put {kp : Nat → Bool} {a b : Act} (h : keeps kp a b) {d : Option Tmp} {v : Value} (hd : ∀ x, d = some x → kp x = false) : keeps kp a (b.put d v) := fun j hj => by
  rw [← h j hj]
  cases d with
  | none => rfl
  | some x =>
    have hx := hd x rfl
    have hne : x ≠ j := fun e => by rw [e, hj] at hx; cases hx
    simp only [Act.put, Array.getD_eq_getD_getElem?, Array.getElem?_setIfInBounds, if_neg hne]
def keepB (kp : Nat → Bool) (ops : Array Oper) : Bool := ops.toList.all (fun o => (match o.op with | .defer _ => false | _ => true) && (match o.dst with | some d => !kp d | none => true))
theorem keepB_op {kp : Nat → Bool} {ops : Array Oper} (h : keepB kp ops = true) {i : Nat} {o : Oper} (ho : ops[i]? = some o) : (∀ c, o.op ≠ .defer c) ∧ ∀ x, o.dst = some x → kp x = false := by
  rw [keepB, List.all_eq_true] at h
  have := h o (List.mem_of_getElem? (by rw [Array.getElem?_toList]; exact ho))
  rw [Bool.and_eq_true] at this
  refine ⟨fun c e => ?_, fun x e => ?_⟩
  · rw [e] at this; cases this.1
  · rw [e] at this; simpa using this.2
section
variable {γ : Gho} {P : Program} {n : Nat} {ops : Array Oper} {w0 : World} {I : Fr} {Qm : Exit → Act → World → Prop} {Fs : List Fp} {Q : St → Prop} {l nn : Nat} {kp : Nat → Bool} {a0 : Act}
theorem good_in (hnd : keepB kp ops = true) (hG : Gh γ w0 I.I) {o : Oper} {s : St} {F : Fp} {δ : Dl} {i : Nat} (hi : ops[i]? = some o) (hd : ∀ x, o.dst = some x → x < n) (hg : Good γ P n ops o s F δ) {L : Pl} {a : Act} {w : World} (hr : Rel w0 I n L s a w) (hk : keeps kp a0 a) {K : Act → World → Prop} (hK : ∀ L' a' w', Rel w0 I n L' (δ.app o.dst s) a' w' → keeps kp a0 a' → K a' w') : wpOpIn (Fw l) nn P ops Qm i K a w := by
  unfold wpOpIn
  simp only [hi]
  cases hg with
  | run M B hg h _ _ =>
    rw [gval_wanted hr hg, if_pos rfl]
    exact op_in (keepB_op hnd hi).1 (h s ⟨fun _ _ => rfl, fun _ _ _ _ _ => rfl, fun _ _ _ _ _ => rfl, fun _ _ => rfl, fun _ _ => rfl⟩ hd w0 I L a w hG hr K Qm (fun L' v w' hr' => hK L' _ w' hr' (keeps_put hk (keepB_op hnd hi).2))) (fun _ _ h => h)
  | not hg =>
    rw [gval_wanted hr hg, if_neg (by simp)]
    exact ⟨fun _ _ => trivial, hK L _ w (hr.put hd (by simp only [AVR]; exact ⟨[], rfl, by simp [AVRs]⟩)) (keeps_put hk (keepB_op hnd hi).2)⟩
theorem sany_in (hnd : keepB kp ops = true) (hG : Gh γ w0 I.I) (hdst : dstsB n ops = true) (hQ : ∀ s, Q s → ∀ L a w, Rel w0 I n L s a w → keeps kp a0 a → Qm .normal a w) : ∀ (f : Nat) (listed : Array Bool) (s : St) (L : Pl) (a : Act) (w : World), Sany γ P n ops Fs Q f listed s → Rel w0 I n L s a w → keeps kp a0 a → wpAnyIn (Fw l) nn P .any ops Qm f listed a w
  | 0, _, _, _, _, _, h, hr, hk => ⟨h.1, hQ _ h.2 _ _ _ hr hk⟩
  | f + 1, listed, s, L, a, w, h, hr, hk => ⟨fun h0 => hQ _ (h.1 h0) _ _ _ hr hk, fun i hi => by
      cases ho : ops[i]? with
      | none => exact absurd ho (by obtain ⟨_, o, ho, _⟩ := mem_ready.1 hi; simp [ho])
      | some o =>
        obtain ⟨δ, hg, hs⟩ := h.2 i hi o ho
        exact good_in hnd hG ho (dstsB_spec hdst ho) hg hr hk (fun L' a' w' hr' hk' => sany_in hnd hG hdst hQ f _ _ L' a' w' hs hr' hk')⟩
theorem run_rnd (hnd : keepB kp ops = true) (hG : Gh γ w0 I.I) (hdst : dstsB n ops = true) {s' : St} : ∀ {Fs : List Fp} {ol : List Oper} {s : St} (_ : Run γ P n ops Fs ol s s') (_ : ∀ L a w, Rel w0 I n L s' a w → keeps kp a0 a → Qm .normal a w) (k : Nat), (∀ j, ol[j]? = ops[k + j]?) → ∀ {L : Pl} {a : Act} {w : World}, Rel w0 I n L s a w → keeps kp a0 a → wpOpsIn (Fw l) nn P ops Qm (List.range' k ol.length) a w := by
  intro Fs ol s h
  induction h with
  | nil => intro hQ k _ L a w hr hk; exact hQ _ _ _ hr hk
  | run M B hg h _ ih =>
    rename_i o ol s s' δ hrun
    intro hQ k hl L a w hr hk
    have h0 : ops[k]? = some o := by simpa using (hl 0).symm
    rw [List.length_cons, List.range'_succ, wpOpsIn_cons]
    exact good_in hnd hG h0 (dstsB_spec hdst h0) (.run M B hg h (fp_bd ..) (fp_asks ..)) hr hk (fun L' a' w' hr' hk' => ih hQ (k + 1) (fun j => by have := hl (j + 1); simpa [Nat.add_assoc, Nat.add_comm 1 j] using this) hr' hk')
  | not hg _ ih =>
    rename_i o ol s s' hrun
    intro hQ k hl L a w hr hk
    have h0 : ops[k]? = some o := by simpa using (hl 0).symm
    rw [List.length_cons, List.range'_succ, wpOpsIn_cons]
    exact good_in (F := default) hnd hG h0 (dstsB_spec hdst h0) (.not hg) hr hk (fun L' a' w' hr' hk' => ih hQ (k + 1) (fun j => by have := hl (j + 1); simpa [Nat.add_assoc, Nat.add_comm 1 j] using this) hr' hk')
end
/-- A code in a round; the temporaries kp hold what they held. -/
def TrI (kp : Nat → Bool) (l nn : Nat) (γ : Gho) (P : Program) (n : Nat) (c : Code) (s : St) (Q : Exit → St → Prop) : Prop :=
  ∀ w0 I L a w, Gh γ w0 I.I → Rel w0 I n L s a w → c.wpIn (Fw l) nn P (fun e a' w' => keeps kp a a' ∧ ∃ s' L', Q e s' ∧ Rel w0 I n L' s' a' w') a w
section
variable {γ : Gho} {P : Program} {n : Nat} {s : St} {Q : Exit → St → Prop} {l nn : Nat} {kp : Nat → Bool}
theorem tri_wk {c : Code} {s' : St} (hw : Wk n s s') (h : TrI kp l nn γ P n c s' Q) : TrI kp l nn γ P n c s Q := fun w0 I L a w hG hr => by
  obtain ⟨L', h'⟩ := hw w0 I L a w hr
  exact h w0 I L' a w hG h'
theorem tri_skip (h : Q .normal s) : TrI kp l nn γ P n .skip s Q := fun _ _ L _ _ _ hr => wpIn_skip ⟨keeps_refl _ _, s, L, h, hr⟩
theorem tri_exit {id : Nat} (h : Q (.exit id) s) : TrI kp l nn γ P n (.exit id) s Q := fun _ _ L _ _ _ hr => wpIn_exit ⟨keeps_refl _ _, s, L, h, hr⟩
theorem tri_seq {x y : Code} (h : TrI kp l nn γ P n x s (thn (fun s' => TrI kp l nn γ P n y s' Q) Q)) : TrI kp l nn γ P n (.seq x y) s Q := fun w0 I L a w hG hr => by
  refine wpIn_seq (wpIn_mono (h w0 I L a w hG hr) (fun e a' w' ⟨hk, s', L', h1, h2⟩ => ?_))
  cases e with
  | normal => exact wpIn_mono (h1 w0 I L' a' w' hG h2) (fun e _ _ ⟨hk', s', L', h1, h2⟩ => ⟨keeps_trans hk hk', s', L', h1, h2⟩)
  | _ => exact ⟨hk, s', L', h1, h2⟩
theorem tri_block {id : Nat} {c : Code} (h : TrI kp l nn γ P n c s (inb id Q)) : TrI kp l nn γ P n (.block id c) s Q := fun w0 I L a w hG hr => by
  refine wpIn_block (wpIn_mono (h w0 I L a w hG hr) (fun e a' w' ⟨hk, s', L', h1, h2⟩ => ?_))
  cases e with
  | exit id' =>
    simp only [Exit.inBlock]
    by_cases hi : id' = id
    · subst hi
      rw [if_pos rfl]
      simp only [inb, Nat.beq_refl] at h1
      exact ⟨hk, s', L', h1, h2⟩
    · rw [if_neg hi]
      have hb : Nat.beq id' id = false := by
        cases e : Nat.beq id' id with
        | false => rfl
        | true => exact absurd (Nat.eq_of_beq_eq_true e) hi
      simp only [inb, hb] at h1
      exact ⟨hk, s', L', h1, h2⟩
  | _ => exact ⟨hk, s', L', h1, h2⟩
theorem tri_if {c : Operand} {x y : Code} {d : Option Nat} {t : Bool} (hc : s.ev c = .p d (.v (.bool t))) (ht : t = true → TrI kp l nn γ P n x s Q) (hf : t = false → TrI kp l nn γ P n y s Q) : TrI kp l nn γ P n (.cond c x y) s Q := fun w0 I L a w hG hr => by
  have hv := hr.evv hc
  cases t with
  | true => exact wpIn_cond_true hv (ht rfl w0 I L a w hG hr)
  | false => exact wpIn_cond_false hv (hf rfl w0 I L a w hG hr)
theorem tri_region {id : Nat} {ops : List Oper} {Fs : List Fp} {s' : St} (hnd : keepB kp ops.toArray = true) (hd : dstsB n ops.toArray = true) (h : Run γ P n ops.toArray Fs ops s s') (hq : Q .normal s') : TrI kp l nn γ P n (.region id ops.toArray false) s Q := fun w0 I L a w hG hr => by
  refine wpIn_region ?_
  have := run_rnd (l := l) (nn := nn) (a0 := a) hnd hG (Qm := fun e a' w' => keeps kp a a' ∧ ∃ s' L', Q e s' ∧ Rel w0 I n L' s' a' w') hd h (fun L' a' w' hr' hk => ⟨hk, s', L', hq, hr'⟩) 0 (fun j => by simp) hr (keeps_refl _ _)
  rw [← List.range_eq_range'] at this
  simpa using this
theorem tri_regionD {id : Nat} {ops : List Oper} {Fs : List Fp} {s' : St} (hnd : keepB kp ops.toArray = true) (hm : P.follows .mixedOrders = true) (hd : dstsB n ops.toArray = true) (h : Run γ P n ops.toArray Fs ops s s') (hl : lexF ops.toArray Fs ops.length 0 (Array.replicate ops.length false) = true) (hq : Q .normal s') : TrI kp l nn γ P n (.region id ops.toArray true) s Q := fun w0 I L a w hG hr => by
  refine wpIn_region_any hm ?_
  have := sany_run (Fs := Fs) (Q := fun s => Q .normal s) h 0 (Array.replicate ops.length false) (fun k o hk => by
    exfalso
    rw [Array.getD_eq_getD_getElem?, Array.getElem?_replicate] at hk
    split at hk <;> cases hk) (fun j => by simp) (fun j F hj => by simp [hj]) hl hq
  have := sany_in (l := l) (nn := nn) (a0 := a) hnd hG (Fs := Fs) (w0 := w0) (I := I) (Qm := fun e a' w' => keeps kp a a' ∧ ∃ s' L', Q e s' ∧ Rel w0 I n L' s' a' w') hd (fun s1 hs L' a' w' hr' hk => ⟨hk, s1, L', hs, hr'⟩) ops.length (Array.replicate ops.length false) s L a { w with drawn := w.drawn + 1 } this (hr.drawn _) (keeps_refl _ _)
  simpa using this
end
end Go.Rl
namespace Go.Rl
open Go.RowKit
section
variable {w0 : World} {I : Fr} {n : Nat} {L : Pl} {s : St} {a : Act} {w : World}
def clB (w : World) (k : Nat) : Bool := match w.heap[k]? with
  | some (.cells _ _ _) => true
  | _ => false
theorem clB_of {w : World} {k : Nat} (h : Cl w k) : clB w k = true := by
  obtain ⟨c, t, z, h⟩ := h
  simp [clB, h]
theorem cl_of {w : World} {k : Nat} (h : clB w k = true) : Cl w k := by
  unfold clB at h
  split at h
  · exact ⟨_, _, _, ‹_›⟩
  · cases h
/-- Only what is cells has a label. -/
def Pl.trim (L : Pl) (w : World) : Pl := { L with lab := fun k => match clB w k with | true => L.lab k | false => none }
theorem trim_some {k : Nat} {l : Lab} (h : (L.trim w).lab k = some l) : L.lab k = some l ∧ Cl w k := by
  simp only [Pl.trim] at h
  split at h
  · exact ⟨h, cl_of ‹_›⟩
  · cases h
theorem trim_of {k : Nat} {l : Lab} (h : L.lab k = some l) (hc : Cl w k) : (L.trim w).lab k = some l := by simp only [Pl.trim, clB_of hc, h]
/-- What a round is handed: whatever may be written. -/
def Fr.root (I : Fr) (L : Pl) (w : World) : Fr := ⟨(List.range w.heap.size).filter (fun k => ((L.trim w).lab k).isSome), I.ρ, I.β, L.Z, I.df⟩
theorem root_mem {k : Nat} (hk : k ∈ (I.root L w).I) : ∃ l, L.lab k = some l ∧ Cl w k := by
  simp only [Fr.root, List.mem_filter] at hk
  obtain ⟨l, hl⟩ := Option.isSome_iff_exists.1 hk.2
  exact ⟨l, trim_some hl⟩
theorem Rel.root (h : Rel w0 I n L s a w) : Rel w (I.root L w) n (L.trim w) s a w := by
  have hm : Moves [] L (L.trim w) w w s s := ⟨fun k hk => ⟨hk, rfl⟩, fun i k _ hi hk => ⟨.inr hk, rfl⟩, fun b hb => ⟨hb, rfl⟩, fun i sz xs _ hx => ⟨xs, hx, rfl, rfl⟩⟩
  exact { same := Same.refl _ _
          zlt := fun k hk => ⟨(h.zlt k hk).1, by
            cases e : (L.trim w).lab k with
            | none => rfl
            | some l => have := (trim_some e).1; rw [(h.zlt k hk).2] at this; cases this⟩
          llt := fun k l hk => ⟨(h.llt k l (trim_some hk).1).1, .inr (by simp only [Fr.root, List.mem_filter, List.mem_range]; exact ⟨(h.llt k l (trim_some hk).1).1, by rw [hk]; rfl⟩)⟩
          sz := h.sz, df := h.df, tm := fun i => (h.tm i).move0 hm
          bx := fun i cs hc => by
            obtain ⟨h1, us, ty, h2, h3, h4⟩ := h.bx i cs hc
            exact ⟨trim_of h1 ⟨_, _, _, h2⟩, us, ty, h2, h3.move0 hm, h4⟩
          rw := fun i sz xs hx => by
            obtain ⟨h1, h2, h3⟩ := h.rw i sz xs hx
            exact ⟨h1, h2, fun k hk => trim_of (h3 k hk) (h1.cl k hk)⟩
          pr := h.pr, pb := h.pb
          zi := fun k hk => .inl hk }
theorem Rel.unroot (h : Rel w0 I n L s a w) {L' : Pl} {s' : St} {a' : Act} {w' : World} (h' : Rel w (I.root L w) n L' s' a' w') : Rel w0 I n L' s' a' w' := by
  have old : ∀ k, (w.heap.size ≤ k ∨ k ∈ (I.root L w).I) → w0.heap.size ≤ k ∨ k ∈ I.I := fun k hk => by
    rcases hk with h2 | h2
    · exact .inl (Nat.le_trans h.same.size h2)
    · obtain ⟨l0, h0, _⟩ := root_mem h2
      exact (h.llt k l0 h0).2
  have zs : ∀ k, L.Z k → w'.heap[k]? = w.heap[k]? := fun k h2 => h'.same.block k (h.zlt k h2).1 (fun hx => by
    obtain ⟨l0, h0, _⟩ := root_mem hx
    rw [(h.zlt k h2).2] at h0
    cases h0)
  exact { same := h.same.trans h'.same (fun x hx hn hx2 => (old x (.inr hx2)).elim (fun h2 => by omega) hn)
          zlt := h'.zlt
          llt := fun k l hk => ⟨(h'.llt k l hk).1, old k (h'.llt k l hk).2⟩
          sz := h'.sz, df := h'.df, tm := h'.tm, bx := h'.bx, rw := h'.rw, pr := h'.pr, pb := h'.pb
          zi := fun k hk => by
            rcases h'.zi k hk with h2 | ⟨h2, hc⟩
            · exact (h.zi k h2).imp id (fun x => ⟨x.1, x.2.of (zs k h2)⟩)
            · exact .inr ⟨old k h2, hc⟩ }
/-- What is no cells, and lay not there yet, may be turned. -/
theorem Rel.grown (h : Rel w0 I n L s a w) {B : Nat} (hB : w0.heap.size ≤ B) (hZ : ∀ k, I.Z k → k < B) {w' : World} {row : Option Nat} (hg : w.grownBy w' row) (hr : ∀ r, row = some r → B ≤ r ∧ ∃ o, w.heap[r]? = some o ∧ o.isCells = false) : Rel w0 I n L s a w' := by
  have cells : ∀ k, k < w.heap.size → (∀ o, w.heap[k]? = some o → o.isCells = true) → w'.heap[k]? = w.heap[k]? := fun k hk hc => hg.block k hk (fun e => by
    obtain ⟨_, o, h1, h2⟩ := hr k e.symm
    rw [hc o h1] at h2
    cases h2)
  have zs : ∀ k, L.Z k → w'.heap[k]? = w.heap[k]? := fun k hk => by
    rcases h.zi k hk with h2 | ⟨_, c, t, z, h2⟩
    · refine hg.block k (h.zlt k hk).1 (fun e => ?_)
      have := (hr k e.symm).1
      have := hZ k h2
      omega
    · exact cells k (h.zlt k hk).1 (fun o ho => by rw [h2] at ho; cases ho; rfl)
  have ns : ∀ i sz xs, s.r i = some (sz, xs) → ∀ k ∈ L.ν i, w'.heap[k]? = w.heap[k]? := fun i sz xs hx k hk => by
    obtain ⟨h1, _, h3⟩ := h.rw i sz xs hx
    obtain ⟨c, t, z, h2⟩ := h1.cl k hk
    exact cells k (h.llt k _ (h3 k hk)).1 (fun o ho => by rw [h2] at ho; cases ho; rfl)
  have hm : Moves [] L L w w' s s := ⟨fun k hk => ⟨hk, zs k hk⟩, fun i k _ hi hk => ⟨.inr hk, by
    obtain ⟨⟨sz, xs⟩, hx⟩ := Option.isSome_iff_exists.1 hi
    exact ns i sz xs hx k (List.mem_of_mem_tail hk)⟩, fun b hb => ⟨hb, rfl⟩, fun i sz xs _ hx => ⟨xs, hx, rfl, rfl⟩⟩
  exact { same := ⟨hg.os.trans h.same.os, hg.tape.trans h.same.tape, hg.output.trans h.same.output, Nat.le_trans h.same.size hg.size, fun k hk hn => (hg.block k (Nat.lt_of_lt_of_le hk h.same.size) (fun e => by have := (hr k e.symm).1; omega)).trans (h.same.block k hk hn)⟩
          zlt := fun k hk => ⟨Nat.lt_of_lt_of_le (h.zlt k hk).1 hg.size, (h.zlt k hk).2⟩
          llt := fun k l hk => ⟨Nat.lt_of_lt_of_le (h.llt k l hk).1 hg.size, (h.llt k l hk).2⟩
          sz := h.sz, df := h.df, tm := fun i => (h.tm i).move0 hm
          bx := fun i cs hc => by
            obtain ⟨h1, us, ty, h2, h3, h4⟩ := h.bx i cs hc
            exact ⟨h1, us, ty, (cells _ (h.llt _ _ h1).1 (fun o ho => by rw [h2] at ho; cases ho; rfl)).trans h2, h3.move0 hm, h4⟩
          rw := fun i sz xs hx => by
            obtain ⟨h1, h2, h3⟩ := h.rw i sz xs hx
            exact ⟨h1.mono zs (ns i sz xs hx) (fun _ h => h), h2, h3⟩
          pr := h.pr, pb := h.pb
          zi := fun k hk => (h.zi k hk).imp id (fun x => ⟨x.1, x.2.of (zs k hk)⟩) }
/-- The temporaries kp alone. -/
def St.keepT (kp : Nat → Bool) (s : St) : St := { t := fun j => if kp j then s.t j else .undef, b := s.b, r := s.r }
theorem Rel.keepT (h : Rel w0 I n L s a w) {kp : Nat → Bool} {b : Act} (hk : keeps kp b a) (hb : b.tmps.size = n) (hd : b.defers = I.df) : Rel w0 I n L (s.keepT kp) b w := by
  have hm : Moves [] L L w w s (s.keepT kp) := ⟨fun k hk => ⟨hk, rfl⟩, fun i k _ hi hk => ⟨.inr hk, rfl⟩, fun b hb => ⟨hb, rfl⟩, fun i sz xs _ hx => ⟨xs, hx, rfl, rfl⟩⟩
  exact { same := h.same, zlt := h.zlt, llt := h.llt, sz := hb, df := hd
          tm := fun i => by
            simp only [St.keepT]
            split
            · rename_i hi
              rw [← hk i hi]
              exact (h.tm i).move0 hm
            · simp only [AVR]
          bx := fun i cs hc => by
            obtain ⟨h1, us, ty, h2, h3, h4⟩ := h.bx i cs hc
            exact ⟨h1, us, ty, h2, h3.move0 hm, h4⟩
          rw := fun i sz xs hx => h.rw i sz xs hx
          pr := h.pr, pb := h.pb, zi := h.zi }
end
end Go.Rl
namespace Go.Rl
open Go.RowKit Go.Proofs
theorem pvI_flatten (zs : List Int) : (pvI zs).flatten = zs.map (fun z => PV.v (.int .i64 z)) := by
  induction zs with
  | nil => rfl
  | cons a l ih => simp only [pvI, List.map_cons, List.flatten_cons] at ih ⊢; rw [ih]; rfl
theorem clo_reads {Z : Nat → Prop} {w : World} {gf : Nat} {o : Bool} {zs : List Int} {v : Value} (h : PVR Z w (.clo gf [[.sl o 1 (pvI zs)]]) v) : ∃ Bs, v = .func (.func gf) #[] #[.pointer (some ⟨Bs, 0, none⟩)] ∧ Bw.Reads Bs zs w := by
  cases h with
  | clo f xs ks hl hz u hcell hp =>
    match ks, hl with
    | [k], _ =>
      refine ⟨k, rfl, ?_⟩
      have h1 := hcell 0 0 [.sl o 1 (pvI zs)] k (.sl o 1 (pvI zs)) rfl rfl rfl
      have h2 := hp 0 0 [.sl o 1 (pvI zs)] (.sl o 1 (pvI zs)) rfl rfl
      generalize u 0 0 = x at h1 h2
      have hlen : (pvI zs).length = zs.length := by simp [pvI]
      have hfl : ∀ (j : Nat) (z : Int), zs[j]? = some z → (pvI zs).flatten[j]? = some (.v (.int .i64 z)) := fun j z hj => by
        rw [pvI_flatten]
        simp [hj]
      generalize pvI zs = ys at h2 hlen hfl
      cases h2 with
      | emp _ _ A c => exact .inl ⟨⟨A, c, h1⟩, List.length_eq_zero_iff.1 hlen.symm⟩
      | sl _ _ _ k2 off c hle hc hz2 u2 hcell2 hp2 =>
        refine .inr ⟨k2, off, c, by rw [← hlen]; exact h1, fun j z hj => ?_⟩
        have h3 := hfl j z hj
        have hlt := (List.getElem?_eq_some_iff.1 h3).1
        rw [hcell2 j hlt]
        have h4 := hp2 j _ h3
        generalize u2 j = q at h4 ⊢
        cases h4
        rfl
section
variable {γ : Gho} {P : Program} {n : Nat} {w0 : World} {I : Fr} {L : Pl} {a : Act} {w : World}
/-- The act with which a round begins. -/
def bwAct (a : Act) (ti tx : Tmp) (zs : List Int) (x : Fin zs.length) : Act := { tmps := (a.tmps.setIfInBounds ti (.int .i64 (x.1 : Int))).setIfInBounds tx (.int .i64 (zs[x.1]'x.2)), defers := [] }
/-- A loop over slices.Backward: S tells the state between two rounds, B the state behind the round's assign code. -/
theorem wp_backward {gf : Nat} (hC : Bw.Contract P gf) (hEn : ∀ (args : Array Value) (w : World), Sem.run P (callFunc gf args) w = .ok (.enter gf args) w) {tf ti tx : Tmp} {assign body : Code} {zs : List Int} {o : Bool} (hz : zs.length ≤ 1000000000)
    (S : List (Fin zs.length) → St) (B : List (Fin zs.length) → Fin zs.length → St) (kp : Nat → Bool) (aL : Act → Act)
    (hG : Gh γ w0 I.I) (hr : Rel w0 I n L (S []) a w) (hdf : I.df = []) (hIZ : ∀ k, I.Z k → k < w0.heap.size)
    (hf : ∀ pre, (S pre).t tf = .p none (.clo gf [[.sl o 1 (pvI zs)]]))
    (hassign : ∀ l nn (a0 : Act) W (K : Act → World → Prop), K (aL a0) W → assign.wpIn (Fw l) nn P (Exit.then K fun _ _ _ => False) a0 W)
    (hB : ∀ pre x L W, Rel w0 I n L (S pre) a W → Rel w0 I n L (B pre x) (aL (bwAct a ti tx zs x)) W)
    (hkp : ∀ x, keeps kp a (aL (bwAct a ti tx zs x)))
    (round : ∀ l nn (pre : List (Fin zs.length)) x, pre.length < zs.length → TrI kp l nn γ P n body (B pre x) (fun e s' => e = .normal ∧ Wk n (s'.keepT kp) (S (pre ++ [x]))))
    {Q : Exit → Act → World → Prop}
    (done : ∀ D L W, w.heap.size ≤ D → Rel w0 I n L (S (Bw.upto zs zs.length)) a W → W.heap[D]? = some (.deferred (some [])) → Q .normal { tmps := a.tmps, defers := [{ target := .collected D, args := #[] }] } W) :
    (Code.rangeFunc (.tmp tf) #[ti, tx] assign body).wp P Q a w := by
  have had : a.defers = [] := hr.df.trans hdf
  have read : ∀ {pre L W}, Rel w0 I n L (S pre) a W → ∃ Bs, a.tmps.getD tf undef = .func (.func gf) #[] #[.pointer (some ⟨Bs, 0, none⟩)] ∧ Bw.Reads Bs zs W := fun {pre L W} h => by
    have ht := h.tm tf
    rw [hf pre] at ht
    simp only [AVR] at ht
    exact clo_reads ht.1
  obtain ⟨Bs, hv, hR⟩ := read hr
  have readS : ∀ {pre L W}, Rel w0 I n L (S pre) a W → Bw.Reads Bs zs W := fun {pre L W} h => by
    obtain ⟨Bs', h1, h2⟩ := read h
    rw [hv] at h1
    cases h1
    exact h2
  refine (wpIn_wide (n := 6)).1 (wpIn_rangeFunc_ownG (F := Fence.wide) (n := 6) (P := P) (g := .tmp tf) (ps := #[ti, tx]) (a := a) (w := w) rfl (by omega) (gf := gf) (lb := #[.pointer (some ⟨Bs, 0, none⟩)]) hv trivial hEn
    (hC.stops (F := Fence.wide) trivial rfl (by omega) hz hR) (fun h1 h2 h => h2 (h1 h)) ?_ (Below.refl _ _) (fun _ => rfl)
    (fun pre W => ∃ L, Rel w0 I n L (S pre) a W) (fun _ _ _ => False) ?_ ?_ ⟨L, hr⟩ (fun x => aL (bwAct a ti tx zs x)) ?_ ?_ ?_ ?_)
  · intro W l o o' _ ho hc _ hR
    have old : ∀ (k j : Nat) v, W.cell? ⟨k, j, none⟩ = some v → (W.putObj l o').cell? ⟨k, j, none⟩ = some v := fun k j v hv => by
      have hne : k ≠ l := fun e => by
        subst e
        cases o with
        | cells => cases hc
        | _ => simp [World.cell?, ho] at hv
      have hlt : k < W.heap.size := by
        cases e : W.heap[k]? with
        | none => simp [World.cell?, e] at hv
        | some o => exact (Array.getElem?_eq_some_iff.1 e).1
      have hb := (grownBy_putObj' W l o').block k hlt (by simpa using hne)
      simpa [World.cell?, hb] using hv
    rcases hR with ⟨⟨A, c, h1⟩, h2⟩ | ⟨b, off, cap, h1, h2⟩
    · exact .inl ⟨⟨A, c, old _ _ _ h1⟩, h2⟩
    · exact .inr ⟨b, off, cap, old _ _ _ h1, fun j z hz => old _ _ _ (h2 j z hz)⟩
  · rintro pre W W' row ⟨L1, h1⟩ hg hrow
    exact ⟨L1, h1.grown hr.same.size (fun k hk => Nat.lt_of_lt_of_le (hIZ k hk) hr.same.size) hg hrow⟩
  · intro c pre W W' row h
    exact h.elim
  · intro l x W K hK
    exact hassign l _ _ W K (by simpa [Bw.enc, bwAct] using hK)
  · rintro l pre x W ⟨L1, h1⟩ hlt0
    have h2 := hB pre x L1 W h1
    have hG2 : Gh γ W (I.root L1 W).I := fun k ob e => by
      obtain ⟨g1, g2⟩ := hG k ob e
      have hlt := (Array.getElem?_eq_some_iff.1 g1).1
      refine ⟨(h1.same.block k hlt g2).trans g1, fun hx => ?_⟩
      obtain ⟨l0, h0, _⟩ := root_mem hx
      rcases (h1.llt k l0 h0).2 with h3 | h3
      · omega
      · exact g2 h3
    refine wpIn_mono (round l _ pre x hlt0 W (I.root L1 W) (L1.trim W) (aL (bwAct a ti tx zs x)) W hG2 h2.root) ?_
    rintro e a' W' ⟨hkk, s', L', ⟨rfl, hw⟩, h3⟩
    have h4 := h2.unroot h3
    have h5 := h4.keepT (kp := kp) (b := a) (keeps_trans (hkp x) hkk) h1.sz h1.df
    obtain ⟨L2, h6⟩ := hw _ _ _ _ _ h5
    refine ⟨⟨h3.same.size, fun k o hB hk hc => ?_⟩, fun _ => readS h6, L2, h6⟩
    have hlt := (Array.getElem?_eq_some_iff.1 hk).1
    exact (h3.same.block k hlt (fun hx => by
      obtain ⟨_, _, c, t, z, hcl⟩ := root_mem hx
      rw [hcl] at hk
      cases hk
      cases hc)).trans hk
  · rintro D xs W hD rfl ⟨L1, h1⟩ hK
    have := done D L1 W hD h1 hK
    rw [had]
    exact this
  · rintro D c pre W _ _ h
    exact h.elim
end
end Go.Rl

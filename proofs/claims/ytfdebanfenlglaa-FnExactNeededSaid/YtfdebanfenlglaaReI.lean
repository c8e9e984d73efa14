/- Promises of functions, proved by walks over their operations; no conditions beyond those that each theorem states. -/
import Derived.Test.YtfdebanfenlglaaReH
namespace Go.Rl
open Go.Proofs
theorem inf9 : (Try.prog.info? 9).map (fun i => (i.zero, i.size, i.bytes)) = some (some (.string ⟨#[]⟩), 1, 16) := by kernel_rfl
set_option maxRecDepth 1000000 in
theorem compactT_con (l : List ByteArray) (hl : l.length ≤ 2000000) : Con Try.prog 166 [.one (.sl true 1 (pvT l))] [none] [.one (.sl true 1 (pvT (compactF l)))] := by
  refine con_of_tr Try.func166 rfl rfl rfl rfl ?_
  have hle := pvT_length l
  refine tr_seq ?_
  refine tr_region rfl (.run [] [] rfl (st_assign rfl) .nil) ?_
  refine tr_seq ?_
  refine tr_seq ?_
  refine tr_region rfl (.run [] [] rfl (st_move rfl) (.run [] [] rfl (st_len_row rfl rfl Try.underlying147) (.run [] [] rfl (st_lss rfl rfl rfl) .nil))) ?_
  refine tr_if (t := decide (((pvT l).length : Int) < 2)) rfl (fun h1 => ?_) (fun h1 => ?_)
  · skip
    replace h1 := of_decide_eq_true h1
    refine tr_seq ?_
    have hs : compactF l = l := cpt_short (by omega)
    rw [hs]
    refine tr_region rfl (.run [] [] rfl (st_move rfl) (.run [] [] rfl (st_assign rfl) .nil)) ?_
    refine tr_ret ?_
    exact ends [_] [100000] (.cons (.tmp rfl) .nil) (.cons (.one (.row (len := (pvT l).length) (xs := pvT l) rfl rfl) (.sl _ _ (FlatP.clean (pvT_flat _)))) .nil) (by decide) ⟨trivial, trivial⟩
  · skip
    replace h1 := of_decide_eq_false h1
    refine tr_skip ?_
    refine tr_seq ?_
    refine tr_seq ?_
    refine tr_region rfl (.run [] [] rfl (st_assign rfl) .nil) ?_
    refine tr_block ?_
    refine tr_loopS (σ := Nat) (fun k => mk [(0, .sl 100000 0 ((pvT l).length)), (3, .p none (.v (.int .i64 (k:Int))))] [] [(100000, 1, pvT l)]) (fun k => 1 ≤ k ∧ k ≤ l.length ∧ compactN l k = l.take k) (fun k => l.length - k) 1 ⟨Nat.le_refl _, by omega, cpt_one (by omega)⟩ (wk_mk ⟨rfl, ⟨(int_eq (by omega)), trivial⟩⟩ trivial ⟨rfl, trivial⟩ rfl) ?_
    rintro k hG
    replace hG : 1 ≤ k ∧ k ≤ l.length ∧ compactN l k = l.take k := hG
    obtain ⟨h1k, hkl, hC⟩ := hG
    refine tr_seq ?_
    refine tr_seq ?_
    refine tr_region rfl (.run [] [] rfl (st_move rfl) (.run [] [] rfl (st_move rfl) (.run [] [] rfl (st_len_row rfl rfl Try.underlying147) (.run [] [] rfl (st_lss rfl rfl rfl) .nil)))) ?_
    refine tr_if (t := decide ((k:Int) < ((pvT l).length : Int))) rfl (fun h2 => ?_) (fun h2 => ?_)
    · skip
      replace h2 := of_decide_eq_true h2
      refine tr_skip ?_
      refine tr_seq ?_
      refine tr_block ?_
      refine tr_seq ?_
      obtain ⟨e, he⟩ : ∃ e, l[k]? = some e := ⟨_, List.getElem?_eq_getElem (by (have hL := pvT_length l; omega))⟩
      have hlte := (List.getElem?_eq_some_iff.1 he).1
      obtain ⟨e2, he2⟩ : ∃ e, l[k - 1]? = some e := ⟨_, List.getElem?_eq_getElem (by (have hL := pvT_length l; omega))⟩
      have hlte2 := (List.getElem?_eq_some_iff.1 he2).1
      refine tr_regionD mixed rfl (.run [] [] rfl (st_move rfl) (.run [] [] rfl (st_move rfl) (.run [] [] rfl (st_idx_row0 k rfl rfl rfl rfl Try.underlying147 Try.sizeOf9 rfl rfl (by omega)) (.run [] [] rfl (st_load_ea1 rfl rfl rfl (pvT_get he) Try.isAgg9 rfl) (.run [] [] rfl (st_move rfl) (.run [] [] rfl (st_move rfl) (.run [] [] rfl (st_eq (st_subn rfl rfl rfl (by omega)) ((show (AV.p none (.v (.int .i64 ((k:Int) - 1)))) = AV.p none (.v (.int .i64 ((k - 1 : Nat) : Int))) from int_eq (by omega)))) (.run [] [] rfl (st_idx_row0 (k - 1) rfl rfl rfl rfl Try.underlying147 Try.sizeOf9 rfl rfl (by omega)) (.run [] [] rfl (st_load_ea1 rfl rfl rfl (pvT_get he2) Try.isAgg9 rfl) (.run [] [] rfl (st_seql rfl rfl rfl) .nil)))))))))) (by kernel_rfl) ?_
      refine tr_if (t := decide (e = e2)) rfl (fun h3 => ?_) (fun h3 => ?_)
      · skip
        replace h3 := of_decide_eq_true h3
        refine tr_seq ?_
        have hd0 : compactN l (k + 1) = compactN l k := compactN_dup h1k he2 he h3
        refine tr_wk (s' := mk [(0, .sl 100000 0 ((pvT l).length)), (3, .p none (.v (.int .i64 (k:Int))))] [] [(100000, 1, pvT l)]) ?_ ?_
        · exact wk_mk ⟨rfl, ⟨rfl, trivial⟩⟩ trivial ⟨rfl, trivial⟩ rfl
        refine tr_region rfl (.run [] [] rfl (st_move rfl) (.run [] [] rfl (st_move rfl) (.run [] [] rfl (st_cut_row0 (l := k) (h := (pvT l).length) rfl rfl rfl Try.underlying147 Try.sizeOf9 (.at_ rfl rfl) .no (by omega) (Nat.le_refl _) rfl) (.run [] [] rfl (st_assign rfl) .nil)))) ?_
        refine tr_seq ?_
        refine tr_seq ?_
        refine tr_region rfl (.run [] [] rfl (st_assign rfl) .nil) ?_
        refine tr_block ?_
        refine tr_loopS (σ := Nat) (fun q => mk [(0, .sl 100000 0 ((pvT l).length)), (3, .p none (.v (.int .i64 ((compactN l (k + q)).length : Int)))), (4, .sl 100000 k (((pvT l).length) - k)), (5, .p none (.v (.int .i64 (q:Int))))] [] [(100000, 1, pvT (compactN l (k + q) ++ l.drop (compactN l (k + q)).length))]) (fun q => 1 ≤ q ∧ k + q ≤ l.length ∧ (compactN l (k + q)).length + 1 ≤ k + q) (fun q => l.length - q) 1 ⟨Nat.le_refl _, by omega, by rw [hd0, hC, List.length_take]; omega⟩ (wk_mk ⟨rfl, ⟨(int_eq (by rw [hd0, hC, List.length_take]; omega)), ⟨rfl, ⟨(int_eq (by omega)), trivial⟩⟩⟩⟩ trivial ⟨(congrArg (fun x => some (1, x)) (by rw [hd0, cpt_start hC hkl])), trivial⟩ rfl) ?_
        rintro q hG
        replace hG : 1 ≤ q ∧ k + q ≤ l.length ∧ (compactN l (k + q)).length + 1 ≤ k + q := hG
        obtain ⟨h1q, hql, hcq⟩ := hG
        have hlr := pvT_length (compactN l (k + q) ++ l.drop (compactN l (k + q)).length)
        have hlc : (compactN l (k + q) ++ l.drop (compactN l (k + q)).length).length = l.length := by rw [List.length_append, List.length_drop]; omega
        refine tr_seq ?_
        refine tr_seq ?_
        refine tr_region rfl (.run [] [] rfl (st_move rfl) (.run [] [] rfl (st_move rfl) (.run [] [] rfl (st_len_row rfl rfl Try.underlying147) (.run [] [] rfl (st_lss rfl rfl rfl) .nil)))) ?_
        refine tr_if (t := decide ((q:Int) < ((((pvT l).length) - k : Nat) : Int))) rfl (fun h4 => ?_) (fun h4 => ?_)
        · skip
          replace h4 := of_decide_eq_true h4
          refine tr_skip ?_
          refine tr_seq ?_
          refine tr_block ?_
          refine tr_seq ?_
          obtain ⟨y, hy⟩ : ∃ y, l[k + q]? = some y := ⟨_, List.getElem?_eq_getElem (by omega)⟩
          obtain ⟨x, hx⟩ : ∃ x, l[k + (q - 1)]? = some x := ⟨_, List.getElem?_eq_getElem (by omega)⟩
          have hx2 : l[k + q - 1]? = some x := by rw [show k + q - 1 = k + (q - 1) by omega]; exact hx
          obtain ⟨w, hw⟩ : ∃ w, l[(compactN l (k + q)).length]? = some w := ⟨_, List.getElem?_eq_getElem (by omega)⟩
          refine tr_regionD mixed rfl (.run [] [] rfl (st_move rfl) (.run [] [] rfl (st_move rfl) (.run [] [] rfl (st_idx_rowK q rfl rfl rfl rfl Try.underlying147 Try.sizeOf9 rfl rfl (by omega)) (.run [] [] rfl (st_load_ea1 rfl rfl rfl (by exact pvT_get (by rw [cpt_get (by omega)]; exact hy)) Try.isAgg9 rfl) (.run [] [] rfl (st_move rfl) (.run [] [] rfl (st_move rfl) (.run [] [] rfl (st_eq (st_subn rfl rfl rfl (by omega)) ((show (AV.p none (.v (.int .i64 ((q:Int) - 1)))) = AV.p none (.v (.int .i64 ((q - 1 : Nat) : Int))) from int_eq (by omega)))) (.run [] [] rfl (st_idx_rowK (q - 1) rfl rfl rfl rfl Try.underlying147 Try.sizeOf9 rfl rfl (by omega)) (.run [] [] rfl (st_load_ea1 rfl rfl rfl (by exact pvT_get (by rw [cpt_get (by omega)]; exact hx)) Try.isAgg9 rfl) (.run [] [] rfl (st_sneq rfl rfl rfl) .nil)))))))))) (by kernel_rfl) ?_
          refine tr_if (t := (!(decide (y = x)))) rfl (fun h5 => ?_) (fun h5 => ?_)
          · skip
            replace h5 : ¬ (y = x) := of_decide_eq_false (bnot_t h5)
            refine tr_seq ?_
            refine tr_wk (s' := mk [(0, .sl 100000 0 ((pvT l).length)), (3, .p none (.v (.int .i64 ((compactN l (k + q)).length : Int)))), (4, .sl 100000 k (((pvT l).length) - k)), (5, .p none (.v (.int .i64 (q:Int))))] [] [(100000, 1, pvT (compactN l (k + q) ++ l.drop (compactN l (k + q)).length))]) ?_ ?_
            · exact wk_mk ⟨rfl, ⟨rfl, ⟨rfl, ⟨rfl, trivial⟩⟩⟩⟩ trivial ⟨rfl, trivial⟩ rfl
            refine tr_region rfl (.run [] [] rfl (st_move rfl) (.run [] [] rfl (st_move rfl) (.run [] [] rfl (st_move rfl) (.run [] [] rfl (st_move rfl) (.run [] [] rfl (st_idx_rowK q rfl rfl rfl rfl Try.underlying147 Try.sizeOf9 rfl rfl (by omega)) (.run [] [] rfl (st_load_ea1 rfl rfl rfl (by exact pvT_get (by rw [cpt_get (by omega)]; exact hy)) Try.isAgg9 rfl) (.run [] [] rfl (st_idx_row0 ((compactN l (k + q)).length) rfl rfl rfl rfl Try.underlying147 Try.sizeOf9 rfl rfl (by omega)) (.run [] [] rfl (st_store_row rfl rfl rfl (FlatP.nf (pvT_flat _)) (by exact pvT_get (by rw [cpt_get (Nat.le_refl _)]; exact hw)) rfl rfl (.cons .v .nil) Try.sizeOf9 rfl (nle rfl)) .nil)))))))) ?_
            refine tr_region rfl (.run [] [] rfl (st_move rfl) (.run [] [] rfl (st_addn rfl rfl rfl (by omega)) (.run [] [] rfl (st_assign rfl) .nil))) ?_
            refine tr_region rfl (.run [] [] rfl (st_move rfl) (.run [] [] rfl (st_addn rfl rfl rfl (by omega)) (.run [] [] rfl (st_assign rfl) .nil))) ?_
            refine nxt (Q := fun _ _ => False) (z := q) (q + 1) ?_ ?_ ?_
            · show 1 ≤ (q + 1) ∧ k + (q + 1) ≤ l.length ∧ (compactN l (k + (q + 1))).length + 1 ≤ k + (q + 1)
              exact ⟨by omega, by omega, by rw [show k + (q + 1) = k + q + 1 from rfl, compactN_new hx2 hy h5]; simp only [List.length_append, List.length_cons, List.length_nil]; omega⟩
            · show l.length - (q + 1) < l.length - q
              omega
            · exact wk_mk ⟨rfl, ⟨(int_eq (by rw [show k + (q + 1) = k + q + 1 from rfl, compactN_new hx2 hy h5]; simp)), ⟨rfl, ⟨(int_eq (by omega)), trivial⟩⟩⟩⟩ trivial ⟨(congrArg (fun x => some (1, x)) (by rw [show k + (q + 1) = k + q + 1 from rfl, compactN_new hx2 hy h5, ← cpt_set (by omega)]; simp [pvT, List.map_set, over])), trivial⟩ rfl
          · skip
            replace h5 : y = x := of_decide_eq_true (bnot_f h5)
            refine tr_skip ?_
            refine tr_wk (s' := mk [(0, .sl 100000 0 ((pvT l).length)), (3, .p none (.v (.int .i64 ((compactN l (k + q)).length : Int)))), (4, .sl 100000 k (((pvT l).length) - k)), (5, .p none (.v (.int .i64 (q:Int))))] [] [(100000, 1, pvT (compactN l (k + q) ++ l.drop (compactN l (k + q)).length))]) ?_ ?_
            · exact wk_mk ⟨rfl, ⟨rfl, ⟨rfl, ⟨rfl, trivial⟩⟩⟩⟩ trivial ⟨rfl, trivial⟩ rfl
            refine tr_region rfl (.run [] [] rfl (st_move rfl) (.run [] [] rfl (st_addn rfl rfl rfl (by omega)) (.run [] [] rfl (st_assign rfl) .nil))) ?_
            refine nxt (Q := fun _ _ => False) (z := q) (q + 1) ?_ ?_ ?_
            · show 1 ≤ (q + 1) ∧ k + (q + 1) ≤ l.length ∧ (compactN l (k + (q + 1))).length + 1 ≤ k + (q + 1)
              exact ⟨by omega, by omega, by rw [show k + (q + 1) = k + q + 1 from rfl, compactN_dup (by omega) hx2 hy h5]; omega⟩
            · show l.length - (q + 1) < l.length - q
              omega
            · exact wk_mk ⟨rfl, ⟨(int_eq (by rw [show k + (q + 1) = k + q + 1 from rfl, compactN_dup (by omega) hx2 hy h5])), ⟨rfl, ⟨(int_eq (by omega)), trivial⟩⟩⟩⟩ trivial ⟨(congrArg (fun x => some (1, x)) (by rw [show k + (q + 1) = k + q + 1 from rfl, compactN_dup (by omega) hx2 hy h5])), trivial⟩ rfl
        · skip
          replace h4 := of_decide_eq_false h4
          refine tr_exit ?_
          refine tr_seq ?_
          have hlr0 := pvT_length (compactN l (k + q) ++ l.drop (compactN l (k + q)).length)
          have hlc0 : (compactN l (k + q) ++ l.drop (compactN l (k + q)).length).length = l.length := by rw [List.length_append, List.length_drop]; omega
          have hkq : k + q = l.length := (by omega)
          refine tr_region rfl (.run [] [] rfl (st_move rfl) (.run [] [] rfl (st_move rfl) (.run [] [] rfl (st_cut_row0 (l := (compactN l (k + q)).length) (h := (pvT l).length) rfl rfl rfl Try.underlying147 Try.sizeOf9 (.at_ rfl rfl) .no (by omega) (Nat.le_refl _) rfl) (.run [] [] rfl (st_clear (lo := (compactN l (k + q)).length) (len := (pvT l).length - (compactN l (k + q)).length) rfl rfl rfl (pvT_flat _) Try.underlying147 inf9 rfl rfl (by rw [hlr0, hlc0]; omega)) .nil)))) ?_
          refine tr_seq ?_
          have hs : compactF l = compactN l (k + q) := by rw [compactF, hkq]
          rw [hs]
          refine tr_region rfl (.run [] [] rfl (st_move rfl) (.run [] [] rfl (st_move rfl) (.run [] [] rfl (st_cut_row0 (l := 0) (h := (compactN l (k + q)).length) rfl rfl rfl Try.underlying147 Try.sizeOf9 .no (.at_ rfl rfl) (Nat.zero_le _) (by omega) rfl) (.run [] [] rfl (st_assign rfl) .nil)))) ?_
          refine tr_ret ?_
          exact ends [_] [100000] (.cons (.tmp rfl) .nil) (.cons (.one (gv_eq (.pre (len := ((compactN l (k + q)).length) - 0) (xs := (pvT (compactN l (k + q) ++ l.drop (compactN l (k + q)).length)).take (compactN l (k + q)).length ++ List.replicate ((pvT l).length - (compactN l (k + q)).length) [PV.v (.string ⟨#[]⟩)]) rfl (by rw [List.length_append, List.length_take, hlr0, List.length_replicate]; omega) cpt_flat) (congrArg (PV.sl true 1) (cpt_row rfl))) (.sl _ _ (FlatP.clean (pvT_flat _)))) .nil) (by decide) ⟨trivial, trivial⟩
      · skip
        replace h3 := of_decide_eq_false h3
        refine tr_skip ?_
        refine tr_wk (s' := mk [(0, .sl 100000 0 ((pvT l).length)), (3, .p none (.v (.int .i64 (k:Int))))] [] [(100000, 1, pvT l)]) ?_ ?_
        · exact wk_mk ⟨rfl, ⟨rfl, trivial⟩⟩ trivial ⟨rfl, trivial⟩ rfl
        refine tr_region rfl (.run [] [] rfl (st_move rfl) (.run [] [] rfl (st_addn rfl rfl rfl (by omega)) (.run [] [] rfl (st_assign rfl) .nil))) ?_
        refine nxt (Q := fun _ _ => False) (z := k) (k + 1) ?_ ?_ ?_
        · show 1 ≤ (k + 1) ∧ (k + 1) ≤ l.length ∧ compactN l (k + 1) = l.take (k + 1)
          exact ⟨by omega, by omega, cpt_next hC he2 he h3⟩
        · show l.length - (k + 1) < l.length - k
          omega
        · exact wk_mk ⟨rfl, ⟨(int_eq (by omega)), trivial⟩⟩ trivial ⟨rfl, trivial⟩ rfl
    · skip
      replace h2 := of_decide_eq_false h2
      refine tr_exit ?_
      refine tr_seq ?_
      have hkk : k = l.length := (by omega)
      have hs : compactF l = l := by rw [compactF, ← hkk, hC, List.take_of_length_le (by omega)]
      rw [hs]
      refine tr_region rfl (.run [] [] rfl (st_move rfl) (.run [] [] rfl (st_assign rfl) .nil)) ?_
      refine tr_ret ?_
      exact ends [_] [100000] (.cons (.tmp rfl) .nil) (.cons (.one (.row (len := (pvT l).length) (xs := pvT l) rfl rfl) (.sl _ _ (FlatP.clean (pvT_flat _)))) .nil) (by decide) ⟨trivial, trivial⟩
end Go.Rl

/- Promises of functions, proved by walks over their operations; no conditions beyond those that each theorem states. -/
import Derived.Test.YtiflbeiomdbmiaaRtB
import Derived.Test.YtiflbeiomdbmiaaRlU
import Derived.Test.YtiflbeiomdbmiaaRtE
namespace Go.Rl
open Go.Proofs
theorem en46 : ∀ vs w, (callFunc 46 vs).run Try.prog w = .ok (.enter 46 vs) w := enters Try.func46 (by decide) rfl
theorem en55 : ∀ vs w, (callFunc 55 vs).run Try.prog w = .ok (.enter 55 vs) w := enters Try.func55 (by decide) rfl
theorem en13 : ∀ vs w, (callFunc 13 vs).run Try.prog w = .ok (.enter 13 vs) w := enters Try.func13 (by decide) rfl
theorem en32 : ∀ vs w, (callFunc 32 vs).run Try.prog w = .ok (.enter 32 vs) w := enters Try.func32 (by decide) rfl
theorem en25 : ∀ vs w, (callFunc 25 vs).run Try.prog w = .ok (.enter 25 vs) w := enters Try.func25 (by decide) rfl
theorem en34 : ∀ vs w, (callFunc 34 vs).run Try.prog w = .ok (.enter 34 vs) w := enters Try.func34 (by decide) rfl
theorem en35 : ∀ vs w, (callFunc 35 vs).run Try.prog w = .ok (.enter 35 vs) w := enters Try.func35 (by decide) rfl
theorem shed_con (m : Int) (l : List Slot) (hb : ∀ s ∈ l, 0 ≤ s.size ∧ s.size ≤ 100000) (hl : l.length ≤ 1000) : Con Try.prog 32 [.agg [.v (.int .i64 m), .sl true 3 (pvS l)]] [none] [.agg [.v (.int .i64 m), .sl true 3 (pvS (shedL m l.length l))]] := by
  refine con_of_tr Try.func32 rfl rfl rfl rfl ?_
  have hle := pvS_length l
  refine tr_seq ?_
  refine tr_region rfl (.run [] [1] rfl (st_box rfl 1 rfl rfl (by decide) rfl (by decide)) (.run [] [2] rfl (st_allocZ rfl 2 inf26 rfl (by decide) rfl (by decide)) .nil)) ?_
  refine tr_seq ?_
  refine tr_seq ?_
  refine tr_region rfl (.run [] [] rfl (st_faddr_box rfl rfl Try.underlying26 rfl Try.sizeOf24 (by decide)) (.run [] [] rfl (st_load_box1 rfl rfl rfl Try.isAgg24 rfl) (.run [] [] rfl (st_len_row rfl rfl Try.underlying24) (.run [] [] rfl (st_subn rfl rfl rfl (by omega)) (.run [] [] rfl (st_assign rfl) .nil))))) ?_
  refine tr_block ?_
  refine tr_wk (wk_ren 100001 1 rfl rfl (by decide)) ?_
  refine tr_loopS (σ := Nat × List Slot) (fun (n, l2) => mk [(1, .ptr 1 0), (2, .ptr 2 0), (3, .p none (.v (.int .i64 ((n:Int) - 1))))] [(1, [.p none (.v (.int .i64 m)), .sl 1 0 ((pvS l2).length)]), (2, [.p none (.v (.int .i64 0)), .nils])] [(1, 3, pvS l2)]) (fun (n, l2) => n ≤ l2.length ∧ l2.length ≤ 1000 ∧ (∀ s ∈ l2, 0 ≤ s.size ∧ s.size ≤ 100000) ∧ shedL m n l2 = shedL m l.length l) (fun (n, l2) => n) (l.length, l) ⟨Nat.le_refl _, hl, hb, rfl⟩ (wk_mk ⟨rfl, ⟨rfl, ⟨(int_eq (by simp only [pvS_length])), trivial⟩⟩⟩ ⟨rfl, ⟨rfl, trivial⟩⟩ ⟨(congrArg (fun x => some (3, x)) (by rfl)), trivial⟩ rfl) ?_
  rintro ⟨n, l2⟩ hG
  replace hG : n ≤ l2.length ∧ l2.length ≤ 1000 ∧ (∀ s ∈ l2, 0 ≤ s.size ∧ s.size ≤ 100000) ∧ shedL m n l2 = shedL m l.length l := hG
  obtain ⟨hG, hl2, hb2, hE⟩ := hG
  refine tr_seq ?_
  refine tr_seq ?_
  rcases bfc (decide (0 ≤ ((n:Int) - 1))) with h1 | h1
  · have h1' := h1
    replace h1' := of_decide_eq_false h1'
    refine tr_regionD mixed rfl (.run [] [] rfl (st_move rfl) (.run [] [] rfl (st_eq (st_geq rfl rfl rfl) (congrArg (fun b => AV.p none (.v (.bool b))) h1)) (.run [] [] rfl (st_move rfl) (.not rfl (.not rfl (.not rfl (.not rfl (.not rfl (.run [] [] rfl (st_pick (t := false) rfl rfl) .nil))))))))) (by kernel_rfl) ?_
    refine tr_if (t := false) rfl (fun h => nomatch h) (fun _ => ?_)
    refine tr_exit ?_
    refine tr_seq ?_
    have hfin : l2 = shedL m l.length l := by
      rw [← hE]
      cases n with
      | zero => rfl
      | succ n => exact (shed_done (by simp_all <;> omega)).symm
    rw [← hfin]
    refine tr_region rfl (.run [] [] rfl (st_load_box rfl rfl rfl Try.isAgg26 Try.sizeOf26 (nle rfl)) (.run [] [] rfl (st_store_box rfl rfl rfl rfl rfl Try.sizeOf26 rfl (nle rfl)) .nil)) ?_
    refine tr_ret ?_
    exact ends [_] [1] (.cons (.cell rfl rfl Try.isAgg26 Try.sizeOf26 (nle rfl)) .nil) (.cons (.agg (.cons .v (.cons (.row (len := (pvS l2).length) (xs := pvS l2) rfl rfl) .nil)) (cl_cons (.v _) (cl_cons (.sl _ _ (FlatP.clean (pvS_flat _))) cl_nil))) .nil) (by decide) ⟨trivial, trivial⟩
  · have h1' := h1
    replace h1' := of_decide_eq_true h1'
    refine tr_regionD mixed rfl (.run [] [] rfl (st_move rfl) (.run [] [] rfl (st_eq (st_geq rfl rfl rfl) (congrArg (fun b => AV.p none (.v (.bool b))) h1)) (.run [] [] rfl (st_move rfl) (.run [] [] rfl (st_load_box rfl rfl rfl Try.isAgg26 Try.sizeOf26 (nle rfl)) (.run [1, 1200] [] rfl (st_call rfl 1200 (X := []) en38 rfl (.val nod) (.cons (.agg (.cons (.bor .v) (.cons (.bor (.all (len := (pvS l2).length) (xs := pvS l2) rfl rfl (by decide))) .nil))) .nil) (by decide) all_nil .nil (used_con m l2 hb2 (by omega)) rfl rfl (nle rfl)) (.run [] [] rfl (st_faddr_box rfl rfl Try.underlying26 rfl Try.sizeOf2 (by decide)) (.run [] [] rfl (st_load_box1 rfl rfl rfl Try.isAgg2 rfl) (.run [] [] rfl (st_gtr rfl rfl rfl) (.run [] [] rfl (st_pick (t := true) rfl rfl) .nil))))))))) (by kernel_rfl) ?_
    refine tr_if (t := decide (m < (usedF l2))) rfl (fun h2 => ?_) (fun h2 => ?_)
    · skip
      replace h2 := of_decide_eq_true h2
      refine tr_skip ?_
      refine tr_seq ?_
      refine tr_block ?_
      refine tr_seq ?_
      obtain ⟨k, hnk⟩ : ∃ k, n = k + 1 := ⟨n - 1, by simp_all; omega⟩
      rw [hnk] at hE
      have hkl : k < l2.length := (by omega)
      have hU : m < usedF l2 := (by simp_all)
      have hle2 := pvS_length l2
      refine tr_wk (s' := mk [(1, .ptr 1 0), (2, .ptr 2 0), (3, .p none (.v (.int .i64 (k:Int)))), (8, .p none (.v (.int .i64 ((n:Int) - 1)))), (9, .p none (.v (.bool true))), (10, .p none (.v (.bool true))), (11, .agg [.p none (.v (.int .i64 m)), .sl 1 0 ((pvS l2).length)]), (12, .p none (.v (.int .i64 (usedF l2)))), (13, .ptr 1 0), (14, .p none (.v (.int .i64 m))), (15, .p none (.v (.bool (decide (m < (usedF l2)))))), (16, .p none (.v (.bool (decide (m < (usedF l2))))))] [(1, [.p none (.v (.int .i64 m)), .sl 1 0 ((pvS l2).length)]), (2, [.p none (.v (.int .i64 0)), .nils])] [(1, 3, pvS l2)]) ?_ ?_
      · exact wk_mk ⟨rfl, ⟨rfl, ⟨(int_eq (by omega)), ⟨rfl, ⟨rfl, ⟨rfl, ⟨rfl, ⟨rfl, ⟨rfl, ⟨rfl, ⟨rfl, ⟨rfl, trivial⟩⟩⟩⟩⟩⟩⟩⟩⟩⟩⟩⟩ ⟨rfl, ⟨rfl, trivial⟩⟩ ⟨rfl, trivial⟩ rfl
      obtain ⟨e, he⟩ : ∃ e, l2[k]? = some e := ⟨_, List.getElem?_eq_getElem (by (have hL := pvS_length l2; omega))⟩
      have hlte := (List.getElem?_eq_some_iff.1 he).1
      refine tr_region rfl (.run [] [] rfl (st_faddr_box rfl rfl Try.underlying26 rfl Try.sizeOf24 (by decide)) (.run [] [] rfl (st_load_box1 rfl rfl rfl Try.isAgg24 rfl) (.run [] [] rfl (st_move rfl) (.run [] [] rfl (st_idx_row0 k rfl rfl rfl rfl Try.underlying24 Try.sizeOf33 rfl rfl (by omega)) (.run [] [] rfl (st_load_ea rfl rfl rfl (pvS_get he) Try.isAgg33 Try.sizeOf33 (nle rfl)) (.run [2400] [] rfl (st_call rfl 2400 (X := []) en31 rfl (.val nod) (.cons (.agg (.cons (.bor .v) (.cons (.bor .v) (.cons (.bor .v) .nil)))) .nil) (by decide) all_nil .nil (idle_con e) rfl rfl (nle rfl)) .nil)))))) ?_
      refine tr_if (t := decide (e.pins = 0)) rfl (fun h3 => ?_) (fun h3 => ?_)
      · skip
        refine tr_region rfl (.run [] [] rfl (st_faddr_box rfl rfl Try.underlying26 rfl Try.sizeOf24 (by decide)) (.run [] [] rfl (st_load_box1 rfl rfl rfl Try.isAgg24 rfl) (.run [] [] rfl (st_move rfl) (.run [] [] rfl (st_move rfl) (.run [] [] rfl (st_addn rfl rfl rfl (by omega)) (.run [1, 3000] [] rfl (st_call rfl 3000 (X := [1]) en46 rfl (.val nod) (.cons (.one (.own (len := (pvS l2).length) (xs := pvS l2) rfl rfl)) (.cons (.one (.bor .v)) (.cons (.one (.bor .v)) .nil))) (by decide) (all_cons rfl all_nil) (.gone .nil) (delete_con l2 k hkl (by omega)) rfl rfl (nle rfl)) (.run [] [] rfl (st_faddr_box rfl rfl Try.underlying26 rfl Try.sizeOf24 (by decide)) (.run [] [] rfl (st_store_box rfl rfl rfl rfl rfl Try.sizeOf24 rfl (nle rfl)) .nil)))))))) ?_
        refine tr_region rfl (.run [] [] rfl (st_move rfl) (.run [] [] rfl (st_subn rfl rfl rfl (by omega)) (.run [] [] rfl (st_assign rfl) .nil))) ?_
        refine nxt (Q := fun _ _ => False) (z := (n, l2)) (k, l2.eraseIdx k) ?_ ?_ ?_
        · show k ≤ (l2.eraseIdx k).length ∧ (l2.eraseIdx k).length ≤ 1000 ∧ (∀ s ∈ (l2.eraseIdx k), 0 ≤ s.size ∧ s.size ≤ 100000) ∧ shedL m k (l2.eraseIdx k) = shedL m l.length l
          exact ⟨by have := List.length_eraseIdx_of_lt hkl; omega, by have := List.length_eraseIdx_of_lt hkl; omega, fun s hs => hb2 s (List.mem_of_mem_eraseIdx hs), (shed_go hU he (by simp_all)).symm.trans hE⟩
        · show k < n
          omega
        · exact (wk_ren 3000 1 rfl rfl (by decide)).trans (wk_mk ⟨rfl, ⟨rfl, ⟨rfl, trivial⟩⟩⟩ ⟨rfl, ⟨rfl, trivial⟩⟩ ⟨rfl, trivial⟩ rfl)
      · skip
        refine tr_skip ?_
        refine tr_region rfl (.run [] [] rfl (st_move rfl) (.run [] [] rfl (st_subn rfl rfl rfl (by omega)) (.run [] [] rfl (st_assign rfl) .nil))) ?_
        refine nxt (Q := fun _ _ => False) (z := (n, l2)) (k, l2) ?_ ?_ ?_
        · show k ≤ l2.length ∧ l2.length ≤ 1000 ∧ (∀ s ∈ l2, 0 ≤ s.size ∧ s.size ≤ 100000) ∧ shedL m k l2 = shedL m l.length l
          exact ⟨by omega, hl2, hb2, (shed_pass hU he (by simp_all)).symm.trans hE⟩
        · show k < n
          omega
        · exact wk_mk ⟨rfl, ⟨rfl, ⟨rfl, trivial⟩⟩⟩ ⟨rfl, ⟨rfl, trivial⟩⟩ ⟨rfl, trivial⟩ rfl
    · skip
      replace h2 := of_decide_eq_false h2
      refine tr_exit ?_
      refine tr_seq ?_
      have hfin : l2 = shedL m l.length l := by
        rw [← hE]
        cases n with
        | zero => rfl
        | succ n => exact (shed_done (by simp_all <;> omega)).symm
      rw [← hfin]
      refine tr_region rfl (.run [] [] rfl (st_load_box rfl rfl rfl Try.isAgg26 Try.sizeOf26 (nle rfl)) (.run [] [] rfl (st_store_box rfl rfl rfl rfl rfl Try.sizeOf26 rfl (nle rfl)) .nil)) ?_
      refine tr_ret ?_
      exact ends [_] [1] (.cons (.cell rfl rfl Try.isAgg26 Try.sizeOf26 (nle rfl)) .nil) (.cons (.agg (.cons .v (.cons (.row (len := (pvS l2).length) (xs := pvS l2) rfl rfl) .nil)) (cl_cons (.v _) (cl_cons (.sl _ _ (FlatP.clean (pvS_flat _))) cl_nil))) .nil) (by decide) ⟨trivial, trivial⟩
theorem l11Evict_con (m : Int) (l : List Slot) (hb : ∀ s ∈ l, 0 ≤ s.size ∧ s.size ≤ 100000) (hl : l.length ≤ 1000) : Con Try.prog 35 [.agg [.v (.int .i64 m), .sl true 3 (pvS l)]] [none] [.agg [.v (.int .i64 m), .sl true 3 (pvS (shedL m l.length l))]] := by
  refine con_of_tr Try.func35 rfl rfl rfl rfl ?_
  have hle := pvS_length l
  refine tr_seq ?_
  refine tr_region rfl (.run [] [1] rfl (st_box rfl 1 rfl rfl (by decide) rfl (by decide)) (.run [] [2] rfl (st_allocZ rfl 2 inf26 rfl (by decide) rfl (by decide)) .nil)) ?_
  refine tr_seq ?_
  refine tr_block ?_
  refine tr_wk (wk_ren 100001 1 rfl rfl (by decide)) ?_
  refine tr_loopS (σ := List Slot) (fun l2 => mk [(1, .ptr 1 0), (2, .ptr 2 0)] [(1, [.p none (.v (.int .i64 m)), .sl 1 0 ((pvS l2).length)]), (2, [.p none (.v (.int .i64 0)), .nils])] [(1, 3, pvS l2)]) (fun l2 => l2.length ≤ 1000 ∧ (∀ s ∈ l2, 0 ≤ s.size ∧ s.size ≤ 100000) ∧ shedL m l2.length l2 = shedL m l.length l) (fun l2 => l2.length) l ⟨hl, hb, rfl⟩ (wk_mk ⟨rfl, ⟨rfl, trivial⟩⟩ ⟨rfl, ⟨rfl, trivial⟩⟩ ⟨(congrArg (fun x => some (3, x)) (by rfl)), trivial⟩ rfl) ?_
  rintro l2 hG
  replace hG : l2.length ≤ 1000 ∧ (∀ s ∈ l2, 0 ≤ s.size ∧ s.size ≤ 100000) ∧ shedL m l2.length l2 = shedL m l.length l := hG
  obtain ⟨hl2, hb2, hE⟩ := hG
  have hle2 := pvS_length l2
  refine tr_seq ?_
  refine tr_seq ?_
  refine tr_regionD mixed rfl (.run [] [] rfl (st_load_box rfl rfl rfl Try.isAgg26 Try.sizeOf26 (nle rfl)) (.run [1, 600] [] rfl (st_call rfl 600 (X := []) en55 rfl (.val nod) (.cons (.agg (.cons (.bor .v) (.cons (.bor (.all (len := (pvS l2).length) (xs := pvS l2) rfl rfl (by decide))) .nil))) .nil) (by decide) all_nil .nil (l11Used_con m l2 hb2 (by omega)) rfl rfl (nle rfl)) (.run [] [] rfl (st_faddr_box rfl rfl Try.underlying26 rfl Try.sizeOf2 (by decide)) (.run [] [] rfl (st_load_box1 rfl rfl rfl Try.isAgg2 rfl) (.run [] [] rfl (st_gtr rfl rfl rfl) .nil))))) (by kernel_rfl) ?_
  refine tr_if (t := decide (m < (usedF l2))) rfl (fun h1 => ?_) (fun h1 => ?_)
  · skip
    replace h1 := of_decide_eq_true h1
    refine tr_skip ?_
    refine tr_block ?_
    refine tr_seq ?_
    refine tr_region rfl (.run [] [] rfl (st_assign rfl) .nil) ?_
    refine tr_seq ?_
    refine tr_seq ?_
    refine tr_region rfl (.run [] [] rfl (st_assign rfl) .nil) ?_
    refine tr_block ?_
    refine tr_loopS (σ := Nat) (fun q => mk [(1, .ptr 1 0), (2, .ptr 2 0), (3, .p none (.v (.int .i64 (lastF l2 q)))), (4, .p none (.v (.int .i64 (q:Int))))] [(1, [.p none (.v (.int .i64 m)), .sl 1 0 ((pvS l2).length)]), (2, [.p none (.v (.int .i64 0)), .nils])] [(1, 3, pvS l2)]) (fun q => q ≤ l2.length) (fun q => l2.length - q) 0 (by simp) (wk_mk ⟨rfl, ⟨rfl, ⟨(int_eq (by rfl)), ⟨(int_eq (by rfl)), trivial⟩⟩⟩⟩ ⟨rfl, ⟨rfl, trivial⟩⟩ ⟨rfl, trivial⟩ rfl) ?_
    rintro q hG
    replace hG : q ≤ l2.length := hG
    refine tr_seq ?_
    refine tr_seq ?_
    refine tr_region rfl (.run [] [] rfl (st_move rfl) (.run [] [] rfl (st_faddr_box rfl rfl Try.underlying26 rfl Try.sizeOf24 (by decide)) (.run [] [] rfl (st_load_box1 rfl rfl rfl Try.isAgg24 rfl) (.run [] [] rfl (st_len_row rfl rfl Try.underlying24) (.run [] [] rfl (st_lss rfl rfl rfl) .nil))))) ?_
    refine tr_if (t := decide ((q:Int) < ((pvS l2).length : Int))) rfl (fun h2 => ?_) (fun h2 => ?_)
    · skip
      replace h2 := of_decide_eq_true h2
      refine tr_skip ?_
      refine tr_seq ?_
      refine tr_block ?_
      refine tr_seq ?_
      obtain ⟨e, he⟩ : ∃ e, l2[q]? = some e := ⟨_, List.getElem?_eq_getElem (by (have hL := pvS_length l2; omega))⟩
      have hlte := (List.getElem?_eq_some_iff.1 he).1
      refine tr_region rfl (.run [] [] rfl (st_faddr_box rfl rfl Try.underlying26 rfl Try.sizeOf24 (by decide)) (.run [] [] rfl (st_load_box1 rfl rfl rfl Try.isAgg24 rfl) (.run [] [] rfl (st_move rfl) (.run [] [] rfl (st_idx_row0 q rfl rfl rfl rfl Try.underlying24 Try.sizeOf33 rfl rfl (by omega)) (.run [] [] rfl (st_faddr_ea rfl rfl Try.underlying33 rfl Try.sizeOf2 (by decide)) (.run [] [] rfl (st_load_ea1 rfl rfl rfl (pvS_get he) Try.isAgg2 rfl) (.run [] [] rfl (st_eql rfl rfl rfl) .nil))))))) ?_
      refine tr_if (t := decide (e.pins = 0)) rfl (fun h3 => ?_) (fun h3 => ?_)
      · skip
        replace h3 := of_decide_eq_true h3
        refine tr_region rfl (.run [] [] rfl (st_move rfl) (.run [] [] rfl (st_assign rfl) .nil)) ?_
        refine tr_region rfl (.run [] [] rfl (st_move rfl) (.run [] [] rfl (st_addn rfl rfl rfl (by omega)) (.run [] [] rfl (st_assign rfl) .nil))) ?_
        refine nxt (Q := fun _ _ => False) (z := q) (q + 1) ?_ ?_ ?_
        · show (q + 1) ≤ l2.length
          omega
        · show l2.length - (q + 1) < l2.length - q
          omega
        · exact wk_mk ⟨rfl, ⟨rfl, ⟨(int_eq (by exact (last_hit he h3).symm)), ⟨(int_eq (by omega)), trivial⟩⟩⟩⟩ ⟨rfl, ⟨rfl, trivial⟩⟩ ⟨rfl, trivial⟩ rfl
      · skip
        replace h3 := of_decide_eq_false h3
        refine tr_skip ?_
        refine tr_region rfl (.run [] [] rfl (st_move rfl) (.run [] [] rfl (st_addn rfl rfl rfl (by omega)) (.run [] [] rfl (st_assign rfl) .nil))) ?_
        refine nxt (Q := fun _ _ => False) (z := q) (q + 1) ?_ ?_ ?_
        · show (q + 1) ≤ l2.length
          omega
        · show l2.length - (q + 1) < l2.length - q
          omega
        · exact wk_mk ⟨rfl, ⟨rfl, ⟨(int_eq (by exact (last_pass he h3).symm)), ⟨(int_eq (by omega)), trivial⟩⟩⟩⟩ ⟨rfl, ⟨rfl, trivial⟩⟩ ⟨rfl, trivial⟩ rfl
    · skip
      replace h2 := of_decide_eq_false h2
      refine tr_exit ?_
      refine tr_seq ?_
      refine tr_seq ?_
      have hql : q = l2.length := by omega
      have hsp := last_spec (l := l2) q
      refine tr_region rfl (.run [] [] rfl (st_move rfl) (.run [] [] rfl (st_lss rfl rfl rfl) .nil)) ?_
      refine tr_if (t := decide ((lastF l2 q) < 0)) rfl (fun h4 => ?_) (fun h4 => ?_)
      · skip
        replace h4 := of_decide_eq_true h4
        refine tr_seq ?_
        have hfin : l2 = shedL m l.length l := by
          rw [← hE]
          refine (evict_none (fun j e _ hs => ?_)).symm
          rcases hsp with ⟨_, h⟩ | ⟨k, e, h, _⟩
          · exact h j e (by have := (List.getElem?_eq_some_iff.1 hs).1; omega) hs
          · omega
        rw [← hfin]
        refine tr_region rfl (.run [] [] rfl (st_load_box rfl rfl rfl Try.isAgg26 Try.sizeOf26 (nle rfl)) (.run [] [] rfl (st_store_box rfl rfl rfl rfl rfl Try.sizeOf26 rfl (nle rfl)) .nil)) ?_
        refine tr_ret ?_
        exact ends [_] [1] (.cons (.cell rfl rfl Try.isAgg26 Try.sizeOf26 (nle rfl)) .nil) (.cons (.agg (.cons .v (.cons (.row (len := (pvS l2).length) (xs := pvS l2) rfl rfl) .nil)) (cl_cons (.v _) (cl_cons (.sl _ _ (FlatP.clean (pvS_flat _))) cl_nil))) .nil) (by decide) ⟨trivial, trivial⟩
      · skip
        replace h4 := of_decide_eq_false h4
        refine tr_skip ?_
        obtain ⟨k, ke, hk, hkl, hke, hkp, hkn⟩ : ∃ (k : Nat) (e : Slot), lastF l2 q = (k : Int) ∧ k < q ∧ l2[k]? = some e ∧ e.pins = 0 ∧ ∀ j e', k < j → j < q → l2[j]? = some e' → e'.pins ≠ 0 := by
          rcases hsp with ⟨h, _⟩ | h
          · omega
          · exact h
        rw [hql] at hkl hkn
        refine tr_wk (s' := mk [(1, .ptr 1 0), (2, .ptr 2 0), (3, .p none (.v (.int .i64 (k:Int)))), (4, .p none (.v (.int .i64 (q:Int)))), (10, .p none (.v (.int .i64 (q:Int)))), (11, .ptr 1 1), (12, .sl 1 0 ((pvS l2).length)), (13, .p none (.v (.int .i64 ((pvS l2).length : Int)))), (14, .p none (.v (.bool (decide ((q:Int) < ((pvS l2).length : Int)))))), (25, .p none (.v (.int .i64 (lastF l2 q)))), (26, .p none (.v (.bool (decide ((lastF l2 q) < 0)))))] [(1, [.p none (.v (.int .i64 m)), .sl 1 0 ((pvS l2).length)]), (2, [.p none (.v (.int .i64 0)), .nils])] [(1, 3, pvS l2)]) ?_ ?_
        · exact wk_mk ⟨rfl, ⟨rfl, ⟨(int_eq hk), ⟨rfl, ⟨rfl, ⟨rfl, ⟨rfl, ⟨rfl, ⟨rfl, ⟨rfl, ⟨rfl, trivial⟩⟩⟩⟩⟩⟩⟩⟩⟩⟩⟩ ⟨rfl, ⟨rfl, trivial⟩⟩ ⟨rfl, trivial⟩ rfl
        refine tr_regionD mixed rfl (.run [2800] [] rfl (st_buildSlice rfl 2800 Try.underlying24 inf33 (nle rfl) (by decide) rfl rfl rfl .nil (by decide) rfl (by decide) rfl (by decide) rfl) (.run [] [] rfl (st_faddr_box rfl rfl Try.underlying26 rfl Try.sizeOf24 (by decide)) (.run [] [] rfl (st_load_box1 rfl rfl rfl Try.isAgg24 rfl) (.run [] [] rfl (st_move rfl) (.run [] [] rfl (st_cut_row0 (l := 0) (h := k) rfl rfl rfl Try.underlying24 Try.sizeOf33 .no (.at_ rfl rfl) (Nat.zero_le _) (by omega) rfl) (.run [2800] [] rfl (st_append rfl 2800 (ib := 2800) (len := ([] ++ (((pvS l2).drop 0).take (k - 0))).length) rfl rfl (.row (len := 0) (xs := []) rfl rfl (.inl rfl)) (.row rfl (by omega) (pvS_flat l2)) Try.underlying24 (sk Try.underlying24 rfl) inf33 rfl (by decide) (by decide) (by decide) List.length_append (by simp only [maxLen, List.length_append, List.length_map, List.length_cons, List.length_nil, List.length_take, List.length_drop, pvS_length]; omega) (by simp only [maxLen, List.length_append, List.length_map, List.length_cons, List.length_nil, List.length_take, List.length_drop, pvS_length]; omega)) (.run [] [] rfl (st_faddr_box rfl rfl Try.underlying26 rfl Try.sizeOf24 (by decide)) (.run [] [] rfl (st_load_box1 rfl rfl rfl Try.isAgg24 rfl) (.run [] [] rfl (st_move rfl) (.run [] [] rfl (st_addn rfl rfl rfl (by omega)) (.run [] [] rfl (st_cut_row0 (l := k + 1) (h := (pvS l2).length) rfl rfl rfl Try.underlying24 Try.sizeOf33 (.at_ rfl rfl) .no (by omega) (Nat.le_refl _) rfl) (.run [2800] [] rfl (st_append rfl 2800 (ib := 2800) (len := (([] ++ (((pvS l2).drop 0).take (k - 0))) ++ (((pvS l2).drop (k + 1)).take (((pvS l2).length) - (k + 1)))).length) rfl rfl (.row (len := ([] ++ (((pvS l2).drop 0).take (k - 0))).length) (xs := [] ++ (((pvS l2).drop 0).take (k - 0))) rfl rfl (.inl rfl)) (.row rfl (by omega) (pvS_flat l2)) Try.underlying24 (sk Try.underlying24 rfl) inf33 rfl (by decide) (by decide) (by decide) List.length_append (by simp only [maxLen, List.length_append, List.length_map, List.length_cons, List.length_nil, List.length_take, List.length_drop, pvS_length]; omega) (by simp only [maxLen, List.length_append, List.length_map, List.length_cons, List.length_nil, List.length_take, List.length_drop, pvS_length]; omega)) (.run [] [] rfl (st_faddr_box rfl rfl Try.underlying26 rfl Try.sizeOf24 (by decide)) (.run [] [] rfl (st_store_box rfl rfl rfl rfl rfl Try.sizeOf24 rfl (nle rfl)) .nil)))))))))))))) (by kernel_rfl) ?_
        have hr5 : ([] ++ (((pvS l2).drop 0).take (k - 0))) ++ (((pvS l2).drop (k + 1)).take (((pvS l2).length) - (k + 1))) = pvS (l2.eraseIdx k) := by rw [List.take_of_length_le (l := (pvS l2).drop (k + 1)) (by simp)]; simp [pvS, List.eraseIdx_eq_take_drop_succ, List.map_take, List.map_drop]
        have hp6 : (some [.p none (.v (.int .i64 m)), .sl 2800 0 ((([] ++ (((pvS l2).drop 0).take (k - 0))) ++ (((pvS l2).drop (k + 1)).take (((pvS l2).length) - (k + 1)))).length)] : Option (List AV)) = some [.p none (.v (.int .i64 m)), .sl 2800 0 ((pvS (l2.eraseIdx k)).length)] := by rw [hr5]
        refine nxt (Q := fun _ _ => False) (z := l2) (l2.eraseIdx k) ?_ ?_ ?_
        · show (l2.eraseIdx k).length ≤ 1000 ∧ (∀ s ∈ (l2.eraseIdx k), 0 ≤ s.size ∧ s.size ≤ 100000) ∧ shedL m (l2.eraseIdx k).length (l2.eraseIdx k) = shedL m l.length l
          exact ⟨by have := List.length_eraseIdx_of_lt hkl; omega, fun s hs => hb2 s (List.mem_of_mem_eraseIdx hs), (evict_step h1 hke hkp (fun j e hj hs => hkn j e hj (by have := (List.getElem?_eq_some_iff.1 hs).1; omega) hs)).symm.trans hE⟩
        · show (l2.eraseIdx k).length < l2.length
          have := List.length_eraseIdx_of_lt hkl; omega
        · exact (show Wk _ _ (mk [(1, .ptr 1 0), (2, .ptr 2 0)] [(1, [.p none (.v (.int .i64 m)), .sl 2800 0 ((pvS (l2.eraseIdx k)).length)]), (2, [.p none (.v (.int .i64 0)), .nils])] [(2800, 3, pvS (l2.eraseIdx k))]) from wk_mk ⟨rfl, ⟨rfl, trivial⟩⟩ ⟨hp6, ⟨rfl, trivial⟩⟩ ⟨(congrArg (fun x => some (3, x)) hr5), trivial⟩ rfl).trans ((wk_ren 2800 1 rfl rfl (by decide)).trans (wk_mk ⟨rfl, ⟨rfl, trivial⟩⟩ ⟨rfl, ⟨rfl, trivial⟩⟩ ⟨rfl, trivial⟩ rfl))
  · skip
    replace h1 := of_decide_eq_false h1
    refine tr_exit ?_
    refine tr_seq ?_
    have hfin : l2 = shedL m l.length l := by
      rw [← hE]
      exact (shed_done h1).symm
    rw [← hfin]
    refine tr_region rfl (.run [] [] rfl (st_load_box rfl rfl rfl Try.isAgg26 Try.sizeOf26 (nle rfl)) (.run [] [] rfl (st_store_box rfl rfl rfl rfl rfl Try.sizeOf26 rfl (nle rfl)) .nil)) ?_
    refine tr_ret ?_
    exact ends [_] [1] (.cons (.cell rfl rfl Try.isAgg26 Try.sizeOf26 (nle rfl)) .nil) (.cons (.agg (.cons .v (.cons (.row (len := (pvS l2).length) (xs := pvS l2) rfl rfl) .nil)) (cl_cons (.v _) (cl_cons (.sl _ _ (FlatP.clean (pvS_flat _))) cl_nil))) .nil) (by decide) ⟨trivial, trivial⟩
theorem cacheFree_con (m : Int) (l : List Slot) (name : ByteArray) (hl : l.length ≤ 2000000) : Con Try.prog 10 [.agg [.v (.int .i64 m), .sl false 3 (pvS l)], .one (.v (.string name))] [] [.agg [.v (.int .i64 (freeC m l name).1), .sl true 3 (pvS (freeC m l name).2.1)], .one (.v (.bool (freeC m l name).2.2))] := by
  refine con_of_tr Try.func10 rfl rfl rfl rfl ?_
  have hle := pvS_length l
  refine tr_seq ?_
  refine tr_region rfl (.run [] [2] rfl (st_box rfl 2 rfl rfl (by decide) rfl (by decide)) (.run [] [4] rfl (st_allocZ rfl 4 inf26 rfl (by decide) rfl (by decide)) (.run [] [] rfl (st_assign rfl) .nil))) ?_
  refine tr_seq ?_
  refine tr_seq ?_
  refine tr_region rfl (.run [] [] rfl (st_load_box rfl rfl rfl Try.isAgg26 Try.sizeOf26 (nle rfl)) (.run [900] [] rfl (st_call rfl 900 (X := []) en13 rfl (.val nod) (.cons (.agg (.cons (.bor .v) (.cons (.bor (.sl nod)) .nil))) .nil) (by decide) all_nil .nil (cacheOk_con m l (by omega)) rfl rfl (nle rfl)) (.run [] [] rfl (st_not (b := okC m l) rfl rfl) .nil))) ?_
  refine tr_if (t := (!(okC m l))) rfl (fun h1 => ?_) (fun h1 => ?_)
  · skip
    replace h1 : okC m l = false := by simpa using h1
    refine tr_seq ?_
    rw [free_bad (n := name) (by simpa using h1)]
    refine tr_region rfl (.run [] [] rfl (st_build (pl := [(0, 1), (1, 1)]) rfl Try.underlying26 inf26 (by kernel_rfl) rfl rfl) (.run [] [] rfl (st_store_box rfl rfl rfl rfl rfl Try.sizeOf26 rfl (nle rfl)) (.run [] [] rfl (st_assign rfl) .nil))) ?_
    refine tr_ret ?_
    exact ends [_, _] [] (.cons (.cell rfl rfl Try.isAgg26 Try.sizeOf26 (nle rfl)) (.cons (.tmp rfl) .nil)) (.cons (.agg (.cons .v (.cons (.nil _) .nil)) (cl_cons (.v _) (cl_cons (.sl _ _ (fun _ h => nomatch h)) cl_nil))) (.cons (.one .v (.v _)) .nil)) (by decide) trivial
  · skip
    replace h1 : okC m l = true := by simpa using h1
    refine tr_skip ?_
    refine tr_seq ?_
    have hok : okC m l = true := (by simpa using h1)
    have hlen := okC_len hok
    refine tr_region rfl (.run [] [] rfl (st_load_box rfl rfl rfl Try.isAgg26 Try.sizeOf26 (nle rfl)) (.run [1300, 1301] [] rfl (st_call rfl 1300 (X := []) en29 rfl (.val nod) (.cons (.agg (.cons (.bor .v) (.cons (.bor (.sl nod)) .nil))) .nil) (by decide) all_nil .nil (copied_con m l (by omega)) rfl rfl (nle rfl)) (.run [] [6] rfl (st_allocZ rfl 6 inf26 rfl (by decide) rfl (by decide)) (.run [] [] rfl (st_store_box rfl rfl rfl rfl rfl Try.sizeOf26 rfl (nle rfl)) .nil)))) ?_
    refine tr_seq ?_
    refine tr_region rfl (.run [] [] rfl (st_load_box rfl rfl rfl Try.isAgg26 Try.sizeOf26 (nle rfl)) (.run [] [] rfl (st_move rfl) (.run [1301, 1600] [] rfl (st_call rfl 1600 (X := []) en30 rfl (.val nod) (.cons (.agg (.cons (.bor .v) (.cons (.bor (.all (len := (pvS l).length) (xs := pvS l) rfl rfl (by decide))) .nil))) (.cons (.one (.bor .v)) .nil)) (by decide) all_nil .nil (find_con m l name (by omega)) rfl rfl (nle rfl)) (.run [] [] rfl (st_assign rfl) .nil)))) ?_
    refine tr_seq ?_
    refine tr_seq ?_
    rcases idx_cases (nmP name) l with ⟨hi, hno⟩ | ⟨k, e, hi, he, hnm, hfi⟩
    · skip
      rw [free_none hok hi]
      refine tr_wk (s' := mk [(0, .agg [.p none (.v (.int .i64 m)), .p none (.sl false 3 (pvS l))]), (1, .p none (.v (.string name))), (2, .ptr 2 0), (4, .ptr 4 0), (5, .p none (.v (.bool false))), (6, .ptr 6 0), (7, .p none (.v (.int .i64 (-1)))), (8, .agg [.p none (.v (.int .i64 m)), .p none (.sl false 3 (pvS l))]), (9, .p none (.v (.bool (okC m l)))), (10, .p none (.v (.bool (!(okC m l))))), (12, .agg [.p none (.v (.int .i64 m)), .p none (.sl false 3 (pvS l))]), (13, .agg [.p none (.v (.int .i64 m)), .sl 1301 0 ((pvS l).length)]), (14, .agg [.p none (.v (.int .i64 m)), .sl 1301 0 ((pvS l).length)]), (15, .p none (.v (.string name))), (16, .p none (.v (.int .i64 (idxF (nmP name) l))))] [(2, [.p none (.v (.int .i64 m)), .p none (.sl false 3 (pvS l))]), (4, [.p none (.v (.int .i64 0)), .nils]), (6, [.p none (.v (.int .i64 m)), .sl 1301 0 ((pvS l).length)])] [(1301, 3, pvS l)]) ?_ ?_
      · exact wk_mk ⟨rfl, ⟨rfl, ⟨rfl, ⟨rfl, ⟨rfl, ⟨rfl, ⟨(int_eq hi), ⟨rfl, ⟨rfl, ⟨rfl, ⟨rfl, ⟨rfl, ⟨rfl, ⟨rfl, ⟨rfl, trivial⟩⟩⟩⟩⟩⟩⟩⟩⟩⟩⟩⟩⟩⟩⟩ ⟨rfl, ⟨rfl, ⟨rfl, trivial⟩⟩⟩ ⟨rfl, trivial⟩ rfl
      refine tr_region rfl (.run [] [] rfl (st_move rfl) (.run [] [] rfl (st_eq (st_lss rfl rfl rfl) (bool_eq (decide_eq_true (by omega)))) (.run [] [] rfl (st_move rfl) (.not rfl (.not rfl (.not rfl (.not rfl (.not rfl (.not rfl (.run [] [] rfl (st_pick (t := true) rfl rfl) .nil)))))))))) ?_
      refine tr_if (t := true) rfl (fun _ => ?_) (fun h => nomatch h)
      refine tr_seq ?_
      refine tr_region rfl (.run [] [] rfl (st_load_box rfl rfl rfl Try.isAgg26 Try.sizeOf26 (nle rfl)) (.run [] [] rfl (st_store_box rfl rfl rfl rfl rfl Try.sizeOf26 rfl (nle rfl)) (.run [] [] rfl (st_assign rfl) .nil))) ?_
      refine tr_ret ?_
      exact ends [_, _] [1301] (.cons (.cell rfl rfl Try.isAgg26 Try.sizeOf26 (nle rfl)) (.cons (.tmp rfl) .nil)) (.cons (.agg (.cons .v (.cons (.row (len := (pvS l).length) (xs := pvS l) rfl rfl) .nil)) (cl_cons (.v _) (cl_cons (.sl _ _ (FlatP.clean (pvS_flat l))) cl_nil))) (.cons (.one .v (.v _)) .nil)) (by decide) trivial
    · skip
      have hlte := (List.getElem?_eq_some_iff.1 he).1
      have hpb := okS_pins (okC_s hok) he
      refine tr_wk (s' := mk [(0, .agg [.p none (.v (.int .i64 m)), .p none (.sl false 3 (pvS l))]), (1, .p none (.v (.string name))), (2, .ptr 2 0), (4, .ptr 4 0), (5, .p none (.v (.bool false))), (6, .ptr 6 0), (7, .p none (.v (.int .i64 (k:Int)))), (8, .agg [.p none (.v (.int .i64 m)), .p none (.sl false 3 (pvS l))]), (9, .p none (.v (.bool (okC m l)))), (10, .p none (.v (.bool (!(okC m l))))), (12, .agg [.p none (.v (.int .i64 m)), .p none (.sl false 3 (pvS l))]), (13, .agg [.p none (.v (.int .i64 m)), .sl 1301 0 ((pvS l).length)]), (14, .agg [.p none (.v (.int .i64 m)), .sl 1301 0 ((pvS l).length)]), (15, .p none (.v (.string name))), (16, .p none (.v (.int .i64 (idxF (nmP name) l))))] [(2, [.p none (.v (.int .i64 m)), .p none (.sl false 3 (pvS l))]), (4, [.p none (.v (.int .i64 0)), .nils]), (6, [.p none (.v (.int .i64 m)), .sl 1301 0 ((pvS l).length)])] [(1301, 3, pvS l)]) ?_ ?_
      · exact wk_mk ⟨rfl, ⟨rfl, ⟨rfl, ⟨rfl, ⟨rfl, ⟨rfl, ⟨(int_eq hi), ⟨rfl, ⟨rfl, ⟨rfl, ⟨rfl, ⟨rfl, ⟨rfl, ⟨rfl, ⟨rfl, trivial⟩⟩⟩⟩⟩⟩⟩⟩⟩⟩⟩⟩⟩⟩⟩ ⟨rfl, ⟨rfl, ⟨rfl, trivial⟩⟩⟩ ⟨rfl, trivial⟩ rfl
      refine tr_region rfl (.run [] [] rfl (st_move rfl) (.run [] [] rfl (st_eq (st_lss rfl rfl rfl) (bool_eq (decide_eq_false (by omega)))) (.run [] [] rfl (st_move rfl) (.run [] [] rfl (st_faddr_box rfl rfl Try.underlying26 rfl Try.sizeOf24 (by decide)) (.run [] [] rfl (st_load_box1 rfl rfl rfl Try.isAgg24 rfl) (.run [] [] rfl (st_move rfl) (.run [] [] rfl (st_idx_row0 k rfl rfl rfl rfl Try.underlying24 Try.sizeOf33 rfl rfl (by omega)) (.run [] [] rfl (st_load_ea rfl rfl rfl (pvS_get he) Try.isAgg33 Try.sizeOf33 (nle rfl)) (.run [2500] [] rfl (st_call rfl 2500 (X := []) en31 rfl (.val nod) (.cons (.agg (.cons (.bor .v) (.cons (.bor .v) (.cons (.bor .v) .nil)))) .nil) (by decide) all_nil .nil (idle_con e) rfl rfl (nle rfl)) (.run [] [] rfl (st_pick (t := false) rfl rfl) .nil)))))))))) ?_
      refine tr_if (t := decide (e.pins = 0)) rfl (fun h2 => ?_) (fun h2 => ?_)
      · skip
        replace h2 := of_decide_eq_true h2
        refine tr_seq ?_
        rw [free_idle hok hi he h2]
        refine tr_region rfl (.run [] [] rfl (st_load_box rfl rfl rfl Try.isAgg26 Try.sizeOf26 (nle rfl)) (.run [] [] rfl (st_store_box rfl rfl rfl rfl rfl Try.sizeOf26 rfl (nle rfl)) (.run [] [] rfl (st_assign rfl) .nil))) ?_
        refine tr_ret ?_
        exact ends [_, _] [1301] (.cons (.cell rfl rfl Try.isAgg26 Try.sizeOf26 (nle rfl)) (.cons (.tmp rfl) .nil)) (.cons (.agg (.cons .v (.cons (.row (len := (pvS l).length) (xs := pvS l) rfl rfl) .nil)) (cl_cons (.v _) (cl_cons (.sl _ _ (FlatP.clean (pvS_flat l))) cl_nil))) (.cons (.one .v (.v _)) .nil)) (by decide) trivial
      · skip
        replace h2 := of_decide_eq_false h2
        refine tr_skip ?_
        refine tr_seq ?_
        rw [free_go hok hi he h2]
        refine tr_region rfl (.run [] [] rfl (st_faddr_box rfl rfl Try.underlying26 rfl Try.sizeOf24 (by decide)) (.run [] [] rfl (st_load_box1 rfl rfl rfl Try.isAgg24 rfl) (.run [] [] rfl (st_move rfl) (.run [] [] rfl (st_idx_row0 k rfl rfl rfl rfl Try.underlying24 Try.sizeOf33 rfl rfl (by omega)) (.run [] [] rfl (st_faddr_ea rfl rfl Try.underlying33 rfl Try.sizeOf2 (by decide)) (.run [] [] rfl (st_load_ea1 rfl rfl rfl (pvS_get he) Try.isAgg2 rfl) (.run [] [] rfl (st_subn rfl rfl rfl (by omega)) (.run [] [] rfl (st_idx_row0 k rfl rfl rfl rfl Try.underlying24 Try.sizeOf33 rfl rfl (by omega)) (.run [] [] rfl (st_faddr_ea rfl rfl Try.underlying33 rfl Try.sizeOf2 (by decide)) (.run [] [] rfl (st_store_row rfl rfl rfl (FlatP.nf (pvS_flat l)) (pvS_get he) rfl rfl (.cons .v .nil) Try.sizeOf2 rfl (nle rfl)) .nil)))))))))) ?_
        have hr3 : (pvS l).set k [.v (.string e.name), .v (.int .i64 e.size), .v (.int .i64 (e.pins - 1))] = pvS (l.set k ⟨e.name, e.size, e.pins - 1⟩) := by exact pvS_set (x := ⟨e.name, e.size, e.pins - 1⟩)
        have hl4 : (pvS l).length = (pvS (l.set k ⟨e.name, e.size, e.pins - 1⟩)).length := by simp [pvS_length]
        have hp5 : (.agg [.p none (.v (.int .i64 m)), .sl 1301 0 ((pvS l).length)] : AV) = .agg [.p none (.v (.int .i64 m)), .sl 1301 0 ((pvS (l.set k ⟨e.name, e.size, e.pins - 1⟩)).length)] := by simp only [hr3, hl4]
        have hp6 : (.agg [.p none (.v (.int .i64 m)), .sl 1301 0 ((pvS l).length)] : AV) = .agg [.p none (.v (.int .i64 m)), .sl 1301 0 ((pvS (l.set k ⟨e.name, e.size, e.pins - 1⟩)).length)] := by simp only [hr3, hl4]
        have hp7 : (.sl 1301 0 ((pvS l).length) : AV) = .sl 1301 0 ((pvS (l.set k ⟨e.name, e.size, e.pins - 1⟩)).length) := by simp only [hr3, hl4]
        have hp8 : (.sl 1301 0 ((pvS l).length) : AV) = .sl 1301 0 ((pvS (l.set k ⟨e.name, e.size, e.pins - 1⟩)).length) := by simp only [hr3, hl4]
        have hp9 : (some [.p none (.v (.int .i64 m)), .sl 1301 0 ((pvS l).length)] : Option (List AV)) = some [.p none (.v (.int .i64 m)), .sl 1301 0 ((pvS (l.set k ⟨e.name, e.size, e.pins - 1⟩)).length)] := by simp only [hr3, hl4]
        refine tr_wk (s' := mk [(0, .agg [.p none (.v (.int .i64 m)), .p none (.sl false 3 (pvS l))]), (1, .p none (.v (.string name))), (2, .ptr 2 0), (4, .ptr 4 0), (5, .p none (.v (.bool false))), (6, .ptr 6 0), (7, .p none (.v (.int .i64 (k:Int)))), (8, .agg [.p none (.v (.int .i64 m)), .p none (.sl false 3 (pvS l))]), (9, .p none (.v (.bool (okC m l)))), (10, .p none (.v (.bool (!(okC m l))))), (12, .agg [.p none (.v (.int .i64 m)), .p none (.sl false 3 (pvS l))]), (13, .agg [.p none (.v (.int .i64 m)), .sl 1301 0 ((pvS (l.set k ⟨e.name, e.size, e.pins - 1⟩)).length)]), (14, .agg [.p none (.v (.int .i64 m)), .sl 1301 0 ((pvS (l.set k ⟨e.name, e.size, e.pins - 1⟩)).length)]), (15, .p none (.v (.string name))), (16, .p none (.v (.int .i64 (idxF (nmP name) l)))), (17, .p none (.v (.int .i64 (k:Int)))), (18, .p none (.v (.bool false))), (19, .p none (.v (.bool false))), (20, .ptr 6 1), (21, .sl 1301 0 ((pvS (l.set k ⟨e.name, e.size, e.pins - 1⟩)).length)), (22, .p none (.v (.int .i64 (k:Int)))), (24, .agg [.p none (.v (.string e.name)), .p none (.v (.int .i64 e.size)), .p none (.v (.int .i64 e.pins))]), (25, .p none (.v (.bool (decide (e.pins = 0))))), (26, .p none (.v (.bool (decide (e.pins = 0))))), (28, .ptr 6 1), (29, .sl 1301 0 ((pvS (l.set k ⟨e.name, e.size, e.pins - 1⟩)).length)), (30, .p none (.v (.int .i64 (k:Int)))), (33, .p none (.v (.int .i64 e.pins))), (34, .p none (.v (.int .i64 (e.pins - 1))))] [(2, [.p none (.v (.int .i64 m)), .p none (.sl false 3 (pvS l))]), (4, [.p none (.v (.int .i64 0)), .nils]), (6, [.p none (.v (.int .i64 m)), .sl 1301 0 ((pvS (l.set k ⟨e.name, e.size, e.pins - 1⟩)).length)])] [(1301, 3, pvS (l.set k ⟨e.name, e.size, e.pins - 1⟩))]) ?_ ?_
        · exact wk_mk ⟨rfl, ⟨rfl, ⟨rfl, ⟨rfl, ⟨rfl, ⟨rfl, ⟨rfl, ⟨rfl, ⟨rfl, ⟨rfl, ⟨rfl, ⟨hp5, ⟨hp6, ⟨rfl, ⟨rfl, ⟨rfl, ⟨rfl, ⟨rfl, ⟨rfl, ⟨hp7, ⟨rfl, ⟨rfl, ⟨rfl, ⟨rfl, ⟨rfl, ⟨hp8, ⟨rfl, ⟨rfl, ⟨rfl, trivial⟩⟩⟩⟩⟩⟩⟩⟩⟩⟩⟩⟩⟩⟩⟩⟩⟩⟩⟩⟩⟩⟩⟩⟩⟩⟩⟩⟩⟩ ⟨rfl, ⟨rfl, ⟨hp9, trivial⟩⟩⟩ ⟨(congrArg (fun x => some (3, x)) hr3), trivial⟩ rfl
        refine tr_seq ?_
        refine tr_region rfl (.run [] [] rfl (st_load_box rfl rfl rfl Try.isAgg26 Try.sizeOf26 (nle rfl)) (.run [1301, 3800, 3801] [] rfl (st_call rfl 3800 (X := [1301]) en32 rfl (.val nod) (.cons (.agg (.cons (.bor .v) (.cons (.own (len := (pvS (l.set k ⟨e.name, e.size, e.pins - 1⟩)).length) (xs := pvS (l.set k ⟨e.name, e.size, e.pins - 1⟩)) rfl rfl) .nil))) .nil) (by decide) (all_cons rfl all_nil) (.gone .nil) (shed_con m (l.set k ⟨e.name, e.size, e.pins - 1⟩) (set_bnd (okC_s hok) he) (by simp only [List.length_set]; omega)) rfl rfl (nle rfl)) (.run [] [] rfl (st_store_box rfl rfl rfl rfl rfl Try.sizeOf26 rfl (nle rfl)) (.run [] [] rfl (st_assign rfl) .nil)))) ?_
        refine tr_ret ?_
        exact ends [_, _] [3801] (.cons (.cell rfl rfl Try.isAgg26 Try.sizeOf26 (nle rfl)) (.cons (.tmp rfl) .nil)) (.cons (.agg (.cons .v (.cons (.row (len := (pvS (shedL m (l.set k ⟨e.name, e.size, e.pins - 1⟩).length (l.set k ⟨e.name, e.size, e.pins - 1⟩))).length) (xs := pvS (shedL m (l.set k ⟨e.name, e.size, e.pins - 1⟩).length (l.set k ⟨e.name, e.size, e.pins - 1⟩))) rfl rfl) .nil)) (cl_cons (.v _) (cl_cons (.sl _ _ (FlatP.clean (pvS_flat (shedL m (l.set k ⟨e.name, e.size, e.pins - 1⟩).length (l.set k ⟨e.name, e.size, e.pins - 1⟩))))) cl_nil))) (.cons (.one .v (.v _)) .nil)) (by decide) trivial
theorem specCacheFree_con (m : Int) (l : List Slot) (name : ByteArray) (hl : l.length ≤ 2000000) : Con Try.prog 11 [.agg [.v (.int .i64 m), .sl false 3 (pvS l)], .one (.v (.string name))] [] [.agg [.v (.int .i64 (freeC m l name).1), .sl true 3 (pvS (freeC m l name).2.1)], .one (.v (.bool (freeC m l name).2.2))] := by
  refine con_of_tr Try.func11 rfl rfl rfl rfl ?_
  have hle := pvS_length l
  refine tr_seq ?_
  refine tr_region rfl (.run [] [2] rfl (st_box rfl 2 rfl rfl (by decide) rfl (by decide)) (.run [] [4] rfl (st_allocZ rfl 4 inf26 rfl (by decide) rfl (by decide)) (.run [] [] rfl (st_assign rfl) .nil))) ?_
  refine tr_seq ?_
  refine tr_seq ?_
  refine tr_region rfl (.run [] [] rfl (st_load_box rfl rfl rfl Try.isAgg26 Try.sizeOf26 (nle rfl)) (.run [900] [] rfl (st_call rfl 900 (X := []) en25 rfl (.val nod) (.cons (.agg (.cons (.bor .v) (.cons (.bor (.sl nod)) .nil))) .nil) (by decide) all_nil .nil (specCacheOk_con m l (by omega)) rfl rfl (nle rfl)) (.run [] [] rfl (st_not (b := okC m l) rfl rfl) .nil))) ?_
  refine tr_if (t := (!(okC m l))) rfl (fun h1 => ?_) (fun h1 => ?_)
  · skip
    replace h1 : okC m l = false := by simpa using h1
    refine tr_seq ?_
    rw [free_bad (n := name) (by simpa using h1)]
    refine tr_region rfl (.run [] [] rfl (st_build (pl := [(0, 1), (1, 1)]) rfl Try.underlying26 inf26 (by kernel_rfl) rfl rfl) (.run [] [] rfl (st_store_box rfl rfl rfl rfl rfl Try.sizeOf26 rfl (nle rfl)) (.run [] [] rfl (st_assign rfl) .nil))) ?_
    refine tr_ret ?_
    exact ends [_, _] [] (.cons (.cell rfl rfl Try.isAgg26 Try.sizeOf26 (nle rfl)) (.cons (.tmp rfl) .nil)) (.cons (.agg (.cons .v (.cons (.nil _) .nil)) (cl_cons (.v _) (cl_cons (.sl _ _ (fun _ h => nomatch h)) cl_nil))) (.cons (.one .v (.v _)) .nil)) (by decide) trivial
  · skip
    replace h1 : okC m l = true := by simpa using h1
    refine tr_skip ?_
    refine tr_seq ?_
    have hok : okC m l = true := (by simpa using h1)
    have hlen := okC_len hok
    refine tr_region rfl (.run [] [] rfl (st_load_box rfl rfl rfl Try.isAgg26 Try.sizeOf26 (nle rfl)) (.run [1300, 1301] [] rfl (st_call rfl 1300 (X := []) en33 rfl (.val nod) (.cons (.agg (.cons (.bor .v) (.cons (.bor (.sl nod)) .nil))) .nil) (by decide) all_nil .nil (l11Copy_con m l (by omega)) rfl rfl (nle rfl)) (.run [] [6] rfl (st_allocZ rfl 6 inf26 rfl (by decide) rfl (by decide)) (.run [] [] rfl (st_store_box rfl rfl rfl rfl rfl Try.sizeOf26 rfl (nle rfl)) .nil)))) ?_
    refine tr_seq ?_
    refine tr_region rfl (.run [] [] rfl (st_load_box rfl rfl rfl Try.isAgg26 Try.sizeOf26 (nle rfl)) (.run [] [] rfl (st_move rfl) (.run [1301, 1600] [] rfl (st_call rfl 1600 (X := []) en34 rfl (.val nod) (.cons (.agg (.cons (.bor .v) (.cons (.bor (.all (len := (pvS l).length) (xs := pvS l) rfl rfl (by decide))) .nil))) (.cons (.one (.bor .v)) .nil)) (by decide) all_nil .nil (l11At_con m l name (by omega)) rfl rfl (nle rfl)) (.run [] [] rfl (st_assign rfl) .nil)))) ?_
    refine tr_seq ?_
    refine tr_seq ?_
    rcases idx_cases (nmP name) l with ⟨hi, hno⟩ | ⟨k, e, hi, he, hnm, hfi⟩
    · skip
      rw [free_none hok hi]
      refine tr_wk (s' := mk [(0, .agg [.p none (.v (.int .i64 m)), .p none (.sl false 3 (pvS l))]), (1, .p none (.v (.string name))), (2, .ptr 2 0), (4, .ptr 4 0), (5, .p none (.v (.bool false))), (6, .ptr 6 0), (7, .p none (.v (.int .i64 (-1)))), (8, .agg [.p none (.v (.int .i64 m)), .p none (.sl false 3 (pvS l))]), (9, .p none (.v (.bool (okC m l)))), (10, .p none (.v (.bool (!(okC m l))))), (12, .agg [.p none (.v (.int .i64 m)), .p none (.sl false 3 (pvS l))]), (13, .agg [.p none (.v (.int .i64 m)), .sl 1301 0 ((pvS l).length)]), (14, .agg [.p none (.v (.int .i64 m)), .sl 1301 0 ((pvS l).length)]), (15, .p none (.v (.string name))), (16, .p none (.v (.int .i64 (idxF (nmP name) l))))] [(2, [.p none (.v (.int .i64 m)), .p none (.sl false 3 (pvS l))]), (4, [.p none (.v (.int .i64 0)), .nils]), (6, [.p none (.v (.int .i64 m)), .sl 1301 0 ((pvS l).length)])] [(1301, 3, pvS l)]) ?_ ?_
      · exact wk_mk ⟨rfl, ⟨rfl, ⟨rfl, ⟨rfl, ⟨rfl, ⟨rfl, ⟨(int_eq hi), ⟨rfl, ⟨rfl, ⟨rfl, ⟨rfl, ⟨rfl, ⟨rfl, ⟨rfl, ⟨rfl, trivial⟩⟩⟩⟩⟩⟩⟩⟩⟩⟩⟩⟩⟩⟩⟩ ⟨rfl, ⟨rfl, ⟨rfl, trivial⟩⟩⟩ ⟨rfl, trivial⟩ rfl
      refine tr_region rfl (.run [] [] rfl (st_move rfl) (.run [] [] rfl (st_eq (st_lss rfl rfl rfl) (bool_eq (decide_eq_true (by omega)))) (.run [] [] rfl (st_move rfl) (.not rfl (.not rfl (.not rfl (.not rfl (.not rfl (.not rfl (.not rfl (.run [] [] rfl (st_pick (t := true) rfl rfl) .nil))))))))))) ?_
      refine tr_if (t := true) rfl (fun _ => ?_) (fun h => nomatch h)
      refine tr_seq ?_
      refine tr_region rfl (.run [] [] rfl (st_load_box rfl rfl rfl Try.isAgg26 Try.sizeOf26 (nle rfl)) (.run [] [] rfl (st_store_box rfl rfl rfl rfl rfl Try.sizeOf26 rfl (nle rfl)) (.run [] [] rfl (st_assign rfl) .nil))) ?_
      refine tr_ret ?_
      exact ends [_, _] [1301] (.cons (.cell rfl rfl Try.isAgg26 Try.sizeOf26 (nle rfl)) (.cons (.tmp rfl) .nil)) (.cons (.agg (.cons .v (.cons (.row (len := (pvS l).length) (xs := pvS l) rfl rfl) .nil)) (cl_cons (.v _) (cl_cons (.sl _ _ (FlatP.clean (pvS_flat l))) cl_nil))) (.cons (.one .v (.v _)) .nil)) (by decide) trivial
    · skip
      have hlte := (List.getElem?_eq_some_iff.1 he).1
      have hpb := okS_pins (okC_s hok) he
      refine tr_wk (s' := mk [(0, .agg [.p none (.v (.int .i64 m)), .p none (.sl false 3 (pvS l))]), (1, .p none (.v (.string name))), (2, .ptr 2 0), (4, .ptr 4 0), (5, .p none (.v (.bool false))), (6, .ptr 6 0), (7, .p none (.v (.int .i64 (k:Int)))), (8, .agg [.p none (.v (.int .i64 m)), .p none (.sl false 3 (pvS l))]), (9, .p none (.v (.bool (okC m l)))), (10, .p none (.v (.bool (!(okC m l))))), (12, .agg [.p none (.v (.int .i64 m)), .p none (.sl false 3 (pvS l))]), (13, .agg [.p none (.v (.int .i64 m)), .sl 1301 0 ((pvS l).length)]), (14, .agg [.p none (.v (.int .i64 m)), .sl 1301 0 ((pvS l).length)]), (15, .p none (.v (.string name))), (16, .p none (.v (.int .i64 (idxF (nmP name) l))))] [(2, [.p none (.v (.int .i64 m)), .p none (.sl false 3 (pvS l))]), (4, [.p none (.v (.int .i64 0)), .nils]), (6, [.p none (.v (.int .i64 m)), .sl 1301 0 ((pvS l).length)])] [(1301, 3, pvS l)]) ?_ ?_
      · exact wk_mk ⟨rfl, ⟨rfl, ⟨rfl, ⟨rfl, ⟨rfl, ⟨rfl, ⟨(int_eq hi), ⟨rfl, ⟨rfl, ⟨rfl, ⟨rfl, ⟨rfl, ⟨rfl, ⟨rfl, ⟨rfl, trivial⟩⟩⟩⟩⟩⟩⟩⟩⟩⟩⟩⟩⟩⟩⟩ ⟨rfl, ⟨rfl, ⟨rfl, trivial⟩⟩⟩ ⟨rfl, trivial⟩ rfl
      refine tr_region rfl (.run [] [] rfl (st_move rfl) (.run [] [] rfl (st_eq (st_lss rfl rfl rfl) (bool_eq (decide_eq_false (by omega)))) (.run [] [] rfl (st_move rfl) (.run [] [] rfl (st_faddr_box rfl rfl Try.underlying26 rfl Try.sizeOf24 (by decide)) (.run [] [] rfl (st_load_box1 rfl rfl rfl Try.isAgg24 rfl) (.run [] [] rfl (st_move rfl) (.run [] [] rfl (st_idx_row0 k rfl rfl rfl rfl Try.underlying24 Try.sizeOf33 rfl rfl (by omega)) (.run [] [] rfl (st_faddr_ea rfl rfl Try.underlying33 rfl Try.sizeOf2 (by decide)) (.run [] [] rfl (st_load_ea1 rfl rfl rfl (pvS_get he) Try.isAgg2 rfl) (.run [] [] rfl (st_eql rfl rfl rfl) (.run [] [] rfl (st_pick (t := false) rfl rfl) .nil))))))))))) ?_
      refine tr_if (t := decide (e.pins = 0)) rfl (fun h2 => ?_) (fun h2 => ?_)
      · skip
        replace h2 := of_decide_eq_true h2
        refine tr_seq ?_
        rw [free_idle hok hi he h2]
        refine tr_region rfl (.run [] [] rfl (st_load_box rfl rfl rfl Try.isAgg26 Try.sizeOf26 (nle rfl)) (.run [] [] rfl (st_store_box rfl rfl rfl rfl rfl Try.sizeOf26 rfl (nle rfl)) (.run [] [] rfl (st_assign rfl) .nil))) ?_
        refine tr_ret ?_
        exact ends [_, _] [1301] (.cons (.cell rfl rfl Try.isAgg26 Try.sizeOf26 (nle rfl)) (.cons (.tmp rfl) .nil)) (.cons (.agg (.cons .v (.cons (.row (len := (pvS l).length) (xs := pvS l) rfl rfl) .nil)) (cl_cons (.v _) (cl_cons (.sl _ _ (FlatP.clean (pvS_flat l))) cl_nil))) (.cons (.one .v (.v _)) .nil)) (by decide) trivial
      · skip
        replace h2 := of_decide_eq_false h2
        refine tr_skip ?_
        refine tr_seq ?_
        rw [free_go hok hi he h2]
        refine tr_regionD mixed rfl (.run [] [] rfl (st_faddr_box rfl rfl Try.underlying26 rfl Try.sizeOf24 (by decide)) (.run [] [] rfl (st_load_box1 rfl rfl rfl Try.isAgg24 rfl) (.run [] [] rfl (st_move rfl) (.run [] [] rfl (st_faddr_box rfl rfl Try.underlying26 rfl Try.sizeOf24 (by decide)) (.run [] [] rfl (st_load_box1 rfl rfl rfl Try.isAgg24 rfl) (.run [] [] rfl (st_move rfl) (.run [] [] rfl (st_idx_row0 k rfl rfl rfl rfl Try.underlying24 Try.sizeOf33 rfl rfl (by omega)) (.run [] [] rfl (st_faddr_ea rfl rfl Try.underlying33 rfl Try.sizeOf2 (by decide)) (.run [] [] rfl (st_load_ea1 rfl rfl rfl (pvS_get he) Try.isAgg2 rfl) (.run [] [] rfl (st_subn rfl rfl rfl (by omega)) (.run [] [] rfl (st_idx_row0 k rfl rfl rfl rfl Try.underlying24 Try.sizeOf33 rfl rfl (by omega)) (.run [] [] rfl (st_faddr_ea rfl rfl Try.underlying33 rfl Try.sizeOf2 (by decide)) (.run [] [] rfl (st_store_row rfl rfl rfl (FlatP.nf (pvS_flat l)) (pvS_get he) rfl rfl (.cons .v .nil) Try.sizeOf2 rfl (nle rfl)) .nil))))))))))))) (by kernel_rfl) ?_
        have hr3 : (pvS l).set k [.v (.string e.name), .v (.int .i64 e.size), .v (.int .i64 (e.pins - 1))] = pvS (l.set k ⟨e.name, e.size, e.pins - 1⟩) := by exact pvS_set (x := ⟨e.name, e.size, e.pins - 1⟩)
        have hl4 : (pvS l).length = (pvS (l.set k ⟨e.name, e.size, e.pins - 1⟩)).length := by simp [pvS_length]
        have hp5 : (.agg [.p none (.v (.int .i64 m)), .sl 1301 0 ((pvS l).length)] : AV) = .agg [.p none (.v (.int .i64 m)), .sl 1301 0 ((pvS (l.set k ⟨e.name, e.size, e.pins - 1⟩)).length)] := by simp only [hr3, hl4]
        have hp6 : (.agg [.p none (.v (.int .i64 m)), .sl 1301 0 ((pvS l).length)] : AV) = .agg [.p none (.v (.int .i64 m)), .sl 1301 0 ((pvS (l.set k ⟨e.name, e.size, e.pins - 1⟩)).length)] := by simp only [hr3, hl4]
        have hp7 : (.sl 1301 0 ((pvS l).length) : AV) = .sl 1301 0 ((pvS (l.set k ⟨e.name, e.size, e.pins - 1⟩)).length) := by simp only [hr3, hl4]
        have hp8 : (.sl 1301 0 ((pvS l).length) : AV) = .sl 1301 0 ((pvS (l.set k ⟨e.name, e.size, e.pins - 1⟩)).length) := by simp only [hr3, hl4]
        have hp9 : (.sl 1301 0 ((pvS l).length) : AV) = .sl 1301 0 ((pvS (l.set k ⟨e.name, e.size, e.pins - 1⟩)).length) := by simp only [hr3, hl4]
        have hp10 : (some [.p none (.v (.int .i64 m)), .sl 1301 0 ((pvS l).length)] : Option (List AV)) = some [.p none (.v (.int .i64 m)), .sl 1301 0 ((pvS (l.set k ⟨e.name, e.size, e.pins - 1⟩)).length)] := by simp only [hr3, hl4]
        refine tr_wk (s' := mk [(0, .agg [.p none (.v (.int .i64 m)), .p none (.sl false 3 (pvS l))]), (1, .p none (.v (.string name))), (2, .ptr 2 0), (4, .ptr 4 0), (5, .p none (.v (.bool false))), (6, .ptr 6 0), (7, .p none (.v (.int .i64 (k:Int)))), (8, .agg [.p none (.v (.int .i64 m)), .p none (.sl false 3 (pvS l))]), (9, .p none (.v (.bool (okC m l)))), (10, .p none (.v (.bool (!(okC m l))))), (12, .agg [.p none (.v (.int .i64 m)), .p none (.sl false 3 (pvS l))]), (13, .agg [.p none (.v (.int .i64 m)), .sl 1301 0 ((pvS (l.set k ⟨e.name, e.size, e.pins - 1⟩)).length)]), (14, .agg [.p none (.v (.int .i64 m)), .sl 1301 0 ((pvS (l.set k ⟨e.name, e.size, e.pins - 1⟩)).length)]), (15, .p none (.v (.string name))), (16, .p none (.v (.int .i64 (idxF (nmP name) l)))), (17, .p none (.v (.int .i64 (k:Int)))), (18, .p none (.v (.bool false))), (19, .p none (.v (.bool false))), (20, .ptr 6 1), (21, .sl 1301 0 ((pvS (l.set k ⟨e.name, e.size, e.pins - 1⟩)).length)), (22, .p none (.v (.int .i64 (k:Int)))), (25, .p none (.v (.int .i64 e.pins))), (26, .p none (.v (.bool (decide (e.pins = 0))))), (27, .p none (.v (.bool (decide (e.pins = 0))))), (29, .ptr 6 1), (30, .sl 1301 0 ((pvS (l.set k ⟨e.name, e.size, e.pins - 1⟩)).length)), (31, .p none (.v (.int .i64 (k:Int)))), (32, .ptr 6 1), (33, .sl 1301 0 ((pvS (l.set k ⟨e.name, e.size, e.pins - 1⟩)).length)), (34, .p none (.v (.int .i64 (k:Int)))), (37, .p none (.v (.int .i64 e.pins))), (38, .p none (.v (.int .i64 (e.pins - 1))))] [(2, [.p none (.v (.int .i64 m)), .p none (.sl false 3 (pvS l))]), (4, [.p none (.v (.int .i64 0)), .nils]), (6, [.p none (.v (.int .i64 m)), .sl 1301 0 ((pvS (l.set k ⟨e.name, e.size, e.pins - 1⟩)).length)])] [(1301, 3, pvS (l.set k ⟨e.name, e.size, e.pins - 1⟩))]) ?_ ?_
        · exact wk_mk ⟨rfl, ⟨rfl, ⟨rfl, ⟨rfl, ⟨rfl, ⟨rfl, ⟨rfl, ⟨rfl, ⟨rfl, ⟨rfl, ⟨rfl, ⟨hp5, ⟨hp6, ⟨rfl, ⟨rfl, ⟨rfl, ⟨rfl, ⟨rfl, ⟨rfl, ⟨hp7, ⟨rfl, ⟨rfl, ⟨rfl, ⟨rfl, ⟨rfl, ⟨hp8, ⟨rfl, ⟨rfl, ⟨hp9, ⟨rfl, ⟨rfl, ⟨rfl, trivial⟩⟩⟩⟩⟩⟩⟩⟩⟩⟩⟩⟩⟩⟩⟩⟩⟩⟩⟩⟩⟩⟩⟩⟩⟩⟩⟩⟩⟩⟩⟩⟩ ⟨rfl, ⟨rfl, ⟨hp10, trivial⟩⟩⟩ ⟨(congrArg (fun x => some (3, x)) hr3), trivial⟩ rfl
        refine tr_seq ?_
        refine tr_region rfl (.run [] [] rfl (st_load_box rfl rfl rfl Try.isAgg26 Try.sizeOf26 (nle rfl)) (.run [1301, 4200, 4201] [] rfl (st_call rfl 4200 (X := [1301]) en35 rfl (.val nod) (.cons (.agg (.cons (.bor .v) (.cons (.own (len := (pvS (l.set k ⟨e.name, e.size, e.pins - 1⟩)).length) (xs := pvS (l.set k ⟨e.name, e.size, e.pins - 1⟩)) rfl rfl) .nil))) .nil) (by decide) (all_cons rfl all_nil) (.gone .nil) (l11Evict_con m (l.set k ⟨e.name, e.size, e.pins - 1⟩) (set_bnd (okC_s hok) he) (by simp only [List.length_set]; omega)) rfl rfl (nle rfl)) (.run [] [] rfl (st_store_box rfl rfl rfl rfl rfl Try.sizeOf26 rfl (nle rfl)) (.run [] [] rfl (st_assign rfl) .nil)))) ?_
        refine tr_ret ?_
        exact ends [_, _] [4201] (.cons (.cell rfl rfl Try.isAgg26 Try.sizeOf26 (nle rfl)) (.cons (.tmp rfl) .nil)) (.cons (.agg (.cons .v (.cons (.row (len := (pvS (shedL m (l.set k ⟨e.name, e.size, e.pins - 1⟩).length (l.set k ⟨e.name, e.size, e.pins - 1⟩))).length) (xs := pvS (shedL m (l.set k ⟨e.name, e.size, e.pins - 1⟩).length (l.set k ⟨e.name, e.size, e.pins - 1⟩))) rfl rfl) .nil)) (cl_cons (.v _) (cl_cons (.sl _ _ (FlatP.clean (pvS_flat (shedL m (l.set k ⟨e.name, e.size, e.pins - 1⟩).length (l.set k ⟨e.name, e.size, e.pins - 1⟩))))) cl_nil))) (.cons (.one .v (.v _)) .nil)) (by decide) trivial
end Go.Rl

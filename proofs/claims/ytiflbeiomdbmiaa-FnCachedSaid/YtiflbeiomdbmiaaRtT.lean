/- Promises of functions, proved by walks over their operations; no conditions beyond those that each theorem states. -/
import Derived.Test.YtiflbeiomdbmiaaRtS
namespace Go.Rl
open Go.Proofs
theorem en8 : ∀ vs w, (callFunc 8 vs).run Try.prog w = .ok (.enter 8 vs) w := enters Try.func8 (by decide) rfl
theorem en9 : ∀ vs w, (callFunc 9 vs).run Try.prog w = .ok (.enter 9 vs) w := enters Try.func9 (by decide) rfl
theorem en10 : ∀ vs w, (callFunc 10 vs).run Try.prog w = .ok (.enter 10 vs) w := enters Try.func10 (by decide) rfl
theorem en12 : ∀ vs w, (callFunc 12 vs).run Try.prog w = .ok (.enter 12 vs) w := enters Try.func12 (by decide) rfl
theorem en14 : ∀ vs w, (callFunc 14 vs).run Try.prog w = .ok (.enter 14 vs) w := enters Try.func14 (by decide) rfl
theorem en24 : ∀ vs w, (callFunc 24 vs).run Try.prog w = .ok (.enter 24 vs) w := enters Try.func24 (by decide) rfl
theorem en23 : ∀ vs w, (callFunc 23 vs).run Try.prog w = .ok (.enter 23 vs) w := enters Try.func23 (by decide) rfl
theorem en21 : ∀ vs w, (callFunc 21 vs).run Try.prog w = .ok (.enter 21 vs) w := enters Try.func21 (by decide) rfl
theorem sameSlots_self (a : List Slot) (hl : a.length ≤ 1000000) : Con Try.prog 12 [.one (PV.sl false 3 (pvS a)), .one (PV.sl false 3 (pvS a))] [] [.one (.v (.bool true))] := by
  simpa using sameSlots_con a a hl
theorem pin_hit {x : Option Slot} {s e : Slot} {D1 D2 : Prop} (h : (x = some s ∧ D1) ∨ (x ≠ some s ∧ D2)) (he : x = some e) (hs : e = s) : D1 := by
  rcases h with h | h
  · exact h.2
  · exact absurd (by rw [he, hs]) h.1
theorem pin_miss {x : Option Slot} {s e : Slot} {D1 D2 : Prop} (h : (x = some s ∧ D1) ∨ (x ≠ some s ∧ D2)) (he : x = some e) (hs : ¬ e = s) : D2 := by
  rcases h with h | h
  · rw [he] at h; exact absurd (Option.some.inj h.1) hs
  · exact h.2
theorem pin_out {x : Option Slot} {s : Slot} {D1 D2 : Prop} (h : (x = some s ∧ D1) ∨ (x ≠ some s ∧ D2)) (he : x = none) : D2 := by
  rcases h with h | h
  · rw [he] at h; cases h.1
  · exact h.2
theorem law_pinned_con {γ : Gho} {cv : Value} {bs : List Nat} (hc : CodeAt γ cv bs) : ConG γ Try.prog 3 [.one (PV.v (cv))] [] [.one (.v (.bool true))] := by
  refine con_of_tr Try.func3 rfl rfl rfl rfl ?_
  refine tr_seq ?_
  refine tr_region rfl (.run [] [] rfl (st_assign rfl) .nil) ?_
  refine tr_seq ?_
  refine tr_seq ?_
  refine tr_region rfl (.run [] [] rfl (st_move rfl) (.run [1300] [] rfl (st_callG (.inr rfl) rfl 1300 (X := []) en8 rfl (.val nod) (.cons (.one (.bor .v)) .nil) (by decide) all_nil .nil (big_con hc) rfl rfl (nle rfl)) .nil)) ?_
  refine tr_if (t := decide (1048576 < (bs.length : Int))) rfl (fun h1 => ?_) (fun h1 => ?_)
  · skip
    replace h1 := of_decide_eq_true h1
    refine tr_seq ?_
    refine tr_region rfl (.run [] [] rfl (st_assign rfl) .nil) ?_
    refine tr_ret ?_
    exact ends [_] [] (.cons (.tmp rfl) .nil) (.cons (.one .v (.v _)) .nil) (by decide) trivial
  · skip
    replace h1 := of_decide_eq_false h1
    refine tr_skip ?_
    refine tr_seq ?_
    refine tr_region rfl (.run [] [] rfl (st_move rfl) (.run [1600, 1601, 1602] [] rfl (st_callG (.inr rfl) rfl 1600 (X := []) en9 rfl (.val nod) (.cons (.one (.bor .v)) .nil) (by decide) all_nil .nil (drawFree_con hc (by omega)) rfl rfl (nle rfl)) (.run [] [] rfl (st_move rfl) (.run [] [] rfl (st_extract rfl rfl rfl) (.run [] [] rfl (st_extract rfl rfl rfl) (.run [] [3] rfl (st_allocZ rfl 3 inf26 rfl (by decide) rfl (by decide)) (.run [] [] rfl (st_store_box rfl rfl rfl rfl rfl Try.sizeOf26 rfl (nle rfl)) (.run [] [] rfl (st_assign rfl) .nil)))))))) ?_
    refine tr_seq ?_
    have hcl := (cacheV_ok (bs := bs) (p := 0) (Nat.zero_le _)).1
    generalize userV bs (cacheV bs 0).2.2 = name
    generalize (cacheV bs 0).2.1 = l at hcl ⊢
    generalize (cacheV bs 0).1 = m
    have hle := pvS_length l
    refine tr_wk (s' := mk [(3, .ptr 3 0), (4, .p none (.v (.string name)))] [(3, [.p none (.v (.int .i64 m)), .sl 1601 0 ((pvS l).length)])] [(1601, 3, pvS l)]) ?_ ?_
    · exact wk_mk ⟨rfl, ⟨rfl, trivial⟩⟩ ⟨rfl, trivial⟩ ⟨rfl, trivial⟩ rfl
    refine tr_region rfl (.run [] [] rfl (st_load_box rfl rfl rfl Try.isAgg26 Try.sizeOf26 (nle rfl)) (.run [] [] rfl (st_move rfl) (.run [1601, 2200, 2201, 2202] [] rfl (st_call rfl 2200 (X := []) en10 rfl (.val nod) (.cons (.agg (.cons (.bor .v) (.cons (.bor (.all (len := (pvS l).length) (xs := pvS l) rfl rfl (by decide))) .nil))) (.cons (.one (.bor .v)) .nil)) (by decide) all_nil .nil (cacheFree_con m l name (by omega)) rfl rfl (nle rfl)) (.run [] [] rfl (st_move rfl) (.run [] [] rfl (st_extract rfl rfl rfl) (.run [] [] rfl (st_extract rfl rfl rfl) (.run [] [5] rfl (st_allocZ rfl 5 inf26 rfl (by decide) rfl (by decide)) (.run [] [] rfl (st_store_box rfl rfl rfl rfl rfl Try.sizeOf26 rfl (nle rfl)) (.run [] [] rfl (st_assign rfl) .nil))))))))) ?_
    refine tr_seq ?_
    refine tr_wk (s' := mk [(3, .ptr 3 0), (4, .p none (.v (.string name))), (5, .ptr 5 0), (6, .p none (.v (.bool ((freeC m l name).2.2))))] [(3, [.p none (.v (.int .i64 m)), .sl 1601 0 ((pvS l).length)]), (5, [.p none (.v (.int .i64 ((freeC m l name).1))), .sl 2201 0 ((pvS ((freeC m l name).2.1)).length)])] [(1601, 3, pvS l), (2201, 3, pvS ((freeC m l name).2.1))]) ?_ ?_
    · exact wk_mk ⟨rfl, ⟨rfl, ⟨rfl, ⟨rfl, trivial⟩⟩⟩⟩ ⟨rfl, ⟨rfl, trivial⟩⟩ ⟨rfl, ⟨rfl, trivial⟩⟩ rfl
    refine tr_region rfl (.run [] [] rfl (st_load_box rfl rfl rfl Try.isAgg26 Try.sizeOf26 (nle rfl)) (.run [] [] rfl (st_move rfl) (.run [1601, 2800, 2801, 2802] [] rfl (st_call rfl 2800 (X := []) en11 rfl (.val nod) (.cons (.agg (.cons (.bor .v) (.cons (.bor (.all (len := (pvS l).length) (xs := pvS l) rfl rfl (by decide))) .nil))) (.cons (.one (.bor .v)) .nil)) (by decide) all_nil .nil (specCacheFree_con m l name (by omega)) rfl rfl (nle rfl)) (.run [] [] rfl (st_move rfl) (.run [] [] rfl (st_extract rfl rfl rfl) (.run [] [] rfl (st_extract rfl rfl rfl) (.run [] [7] rfl (st_allocZ rfl 7 inf26 rfl (by decide) rfl (by decide)) (.run [] [] rfl (st_store_box rfl rfl rfl rfl rfl Try.sizeOf26 rfl (nle rfl)) (.run [] [] rfl (st_assign rfl) .nil))))))))) ?_
    refine tr_seq ?_
    refine tr_seq ?_
    have hfl := free_len m l name
    refine tr_wk (s' := mk [(3, .ptr 3 0), (4, .p none (.v (.string name))), (5, .ptr 5 0), (6, .p none (.v (.bool ((freeC m l name).2.2)))), (7, .ptr 7 0), (8, .p none (.v (.bool ((freeC m l name).2.2))))] [(3, [.p none (.v (.int .i64 m)), .sl 1601 0 ((pvS l).length)]), (5, [.p none (.v (.int .i64 ((freeC m l name).1))), .sl 2201 0 ((pvS ((freeC m l name).2.1)).length)]), (7, [.p none (.v (.int .i64 ((freeC m l name).1))), .sl 2801 0 ((pvS ((freeC m l name).2.1)).length)])] [(1601, 3, pvS l), (2201, 3, pvS ((freeC m l name).2.1)), (2801, 3, pvS ((freeC m l name).2.1))]) ?_ ?_
    · exact wk_mk ⟨rfl, ⟨rfl, ⟨rfl, ⟨rfl, ⟨rfl, ⟨rfl, trivial⟩⟩⟩⟩⟩⟩ ⟨rfl, ⟨rfl, ⟨rfl, trivial⟩⟩⟩ ⟨rfl, ⟨rfl, ⟨rfl, trivial⟩⟩⟩ rfl
    refine tr_region rfl (.run [] [] rfl (st_move rfl) (.run [] [] rfl (st_move rfl) (.run [] [] rfl (st_eq (st_bneq rfl rfl rfl Try.underlying4) (bool_eq (show (!(((freeC m l name).2.2) == ((freeC m l name).2.2))) = false from by simp))) (.run [] [] rfl (st_move rfl) (.run [] [] rfl (st_faddr_box rfl rfl Try.underlying26 rfl Try.sizeOf24 (by decide)) (.run [] [] rfl (st_load_box1 rfl rfl rfl Try.isAgg24 rfl) (.run [] [] rfl (st_faddr_box rfl rfl Try.underlying26 rfl Try.sizeOf24 (by decide)) (.run [] [] rfl (st_load_box1 rfl rfl rfl Try.isAgg24 rfl) (.run [2201, 2801, 3900] [] rfl (st_call rfl 3900 (X := []) en12 rfl (.val nod) (.cons (.one (.bor (.all (len := (pvS ((freeC m l name).2.1)).length) (xs := pvS ((freeC m l name).2.1)) rfl rfl (by decide)))) (.cons (.one (.bor (.all (len := (pvS ((freeC m l name).2.1)).length) (xs := pvS ((freeC m l name).2.1)) rfl rfl (by decide)))) .nil)) (by decide) all_nil .nil (sameSlots_self ((freeC m l name).2.1) (by first | omega | (simp only [List.length_cons]; omega))) rfl rfl (nle rfl)) (.run [] [] rfl (st_not (b := true) rfl rfl) (.run [] [] rfl (st_pick (t := false) rfl rfl) (.run [] [] rfl (st_move rfl) (.run [] [] rfl (st_move rfl) (.run [] [] rfl (st_not (b := (freeC m l name).2.2) rfl rfl) (.run [] [] rfl (st_pick (t := false) rfl rfl) .nil))))))))))))))) ?_
    refine tr_if (t := (!((freeC m l name).2.2))) rfl (fun h2 => ?_) (fun h2 => ?_)
    · skip
      replace h2 : (freeC m l name).2.2 = false := by simpa using h2
      refine tr_seq ?_
      refine tr_wk (s' := mk [(5, .ptr 5 0), (6, .p none (.v (.bool ((freeC m l name).2.2)))), (7, .ptr 7 0), (8, .p none (.v (.bool ((freeC m l name).2.2))))] [(5, [.p none (.v (.int .i64 ((freeC m l name).1))), .sl 2201 0 ((pvS ((freeC m l name).2.1)).length)]), (7, [.p none (.v (.int .i64 ((freeC m l name).1))), .sl 2801 0 ((pvS ((freeC m l name).2.1)).length)])] [(2201, 3, pvS ((freeC m l name).2.1)), (2801, 3, pvS ((freeC m l name).2.1))]) ?_ ?_
      · exact wk_mk ⟨rfl, ⟨rfl, ⟨rfl, ⟨rfl, trivial⟩⟩⟩⟩ ⟨rfl, ⟨rfl, trivial⟩⟩ ⟨rfl, ⟨rfl, trivial⟩⟩ rfl
      refine tr_region rfl (.run [] [] rfl (st_move rfl) (.run [] [] rfl (st_move rfl) (.run [] [] rfl (st_eq (st_beql rfl rfl rfl Try.underlying4) (bool_eq (show (((freeC m l name).2.2) == ((freeC m l name).2.2)) = true from by simp))) (.run [] [] rfl (st_move rfl) (.run [] [] rfl (st_faddr_box rfl rfl Try.underlying26 rfl Try.sizeOf24 (by decide)) (.run [] [] rfl (st_load_box1 rfl rfl rfl Try.isAgg24 rfl) (.run [] [] rfl (st_faddr_box rfl rfl Try.underlying26 rfl Try.sizeOf24 (by decide)) (.run [] [] rfl (st_load_box1 rfl rfl rfl Try.isAgg24 rfl) (.run [2201, 2801, 5400] [] rfl (st_call rfl 5400 (X := []) en12 rfl (.val nod) (.cons (.one (.bor (.all (len := (pvS ((freeC m l name).2.1)).length) (xs := pvS ((freeC m l name).2.1)) rfl rfl (by decide)))) (.cons (.one (.bor (.all (len := (pvS ((freeC m l name).2.1)).length) (xs := pvS ((freeC m l name).2.1)) rfl rfl (by decide)))) .nil)) (by decide) all_nil .nil (sameSlots_self ((freeC m l name).2.1) (by first | omega | (simp only [List.length_cons]; omega))) rfl rfl (nle rfl)) (.run [] [] rfl (st_pick (t := true) rfl rfl) (.run [] [] rfl (st_assign rfl) .nil))))))))))) ?_
      refine tr_ret ?_
      exact ends [_] [] (.cons (.tmp rfl) .nil) (.cons (.one .v (.v _)) .nil) (by decide) trivial
    · skip
      replace h2 : (freeC m l name).2.2 = true := by simpa using h2
      refine tr_skip ?_
      refine tr_seq ?_
      obtain ⟨t, l2, hok, hfc, hok2, hl2, hev, hol, hsame, hdiff⟩ := free_true h2
      rw [hfc]
      have hlk := pvS_length (keepF t l2)
      have hkl := okC_len hok2
      refine tr_region rfl (.run [] [] rfl (st_assign rfl) .nil) ?_
      refine tr_seq ?_
      refine tr_seq ?_
      refine tr_wk (s' := mk [(3, .ptr 3 0), (4, .p none (.v (.string name))), (5, .ptr 5 0), (9, .p none (.v (.int .i64 0)))] [(3, [.p none (.v (.int .i64 m)), .sl 1601 0 ((pvS l).length)]), (5, [.p none (.v (.int .i64 m)), .sl 2201 0 ((pvS (keepF t l2)).length)])] [(1601, 3, pvS l), (2201, 3, pvS (keepF t l2))]) ?_ ?_
      · exact wk_mk ⟨rfl, ⟨rfl, ⟨rfl, ⟨rfl, trivial⟩⟩⟩⟩ ⟨rfl, ⟨rfl, trivial⟩⟩ ⟨rfl, ⟨rfl, trivial⟩⟩ rfl
      refine tr_region rfl (.run [] [] rfl (st_assign rfl) .nil) ?_
      refine tr_block ?_
      refine tr_loopS (σ := Nat × Nat) (fun (i, n) => mk [(3, .ptr 3 0), (4, .p none (.v (.string name))), (5, .ptr 5 0), (9, .p none (.v (.int .i64 (n:Int)))), (10, .p none (.v (.int .i64 (i:Int))))] [(3, [.p none (.v (.int .i64 m)), .sl 1601 0 ((pvS l).length)]), (5, [.p none (.v (.int .i64 m)), .sl 2201 0 ((pvS (keepF t l2)).length)])] [(1601, 3, pvS l), (2201, 3, pvS (keepF t l2))]) (fun (i, n) => i ≤ l.length ∧ n ≤ (keepF t l2).length ∧ (keepF t l2).drop n = keepF (t - i) (l2.drop i)) (fun (i, n) => l.length - i) (0, 0) ⟨Nat.zero_le _, Nat.zero_le _, rfl⟩ (wk_mk ⟨rfl, ⟨rfl, ⟨rfl, ⟨(int_eq (by omega)), ⟨(int_eq (by omega)), trivial⟩⟩⟩⟩⟩ ⟨rfl, ⟨rfl, trivial⟩⟩ ⟨rfl, ⟨rfl, trivial⟩⟩ rfl) ?_
      rintro ⟨i, n⟩ hG
      replace hG : i ≤ l.length ∧ n ≤ (keepF t l2).length ∧ (keepF t l2).drop n = keepF (t - i) (l2.drop i) := hG
      obtain ⟨hi, hn, hd⟩ := hG
      refine tr_seq ?_
      refine tr_seq ?_
      refine tr_region rfl (.run [] [] rfl (st_move rfl) (.run [] [] rfl (st_faddr_box rfl rfl Try.underlying26 rfl Try.sizeOf24 (by decide)) (.run [] [] rfl (st_load_box1 rfl rfl rfl Try.isAgg24 rfl) (.run [] [] rfl (st_len_row rfl rfl Try.underlying24) (.run [] [] rfl (st_lss rfl rfl rfl) .nil))))) ?_
      refine tr_if (t := decide ((i:Int) < ((pvS l).length : Int))) rfl (fun h3 => ?_) (fun h3 => ?_)
      · skip
        replace h3 := of_decide_eq_true h3
        refine tr_skip ?_
        refine tr_seq ?_
        refine tr_block ?_
        refine tr_seq ?_
        obtain ⟨e, he⟩ : ∃ e, l[i]? = some e := ⟨_, List.getElem?_eq_getElem (by (have hL := pvS_length l; omega))⟩
        have hlte := (List.getElem?_eq_some_iff.1 he).1
        refine tr_region rfl (.run [] [] rfl (st_faddr_box rfl rfl Try.underlying26 rfl Try.sizeOf24 (by decide)) (.run [] [] rfl (st_load_box1 rfl rfl rfl Try.isAgg24 rfl) (.run [] [] rfl (st_move rfl) (.run [] [] rfl (st_idx_row0 i rfl rfl rfl rfl Try.underlying24 Try.sizeOf33 rfl rfl (by omega)) (.run [] [] rfl (st_load_ea rfl rfl rfl (pvS_get he) Try.isAgg33 Try.sizeOf33 (nle rfl)) (.run [] [11] rfl (st_allocZ rfl 11 inf33 rfl (by decide) rfl (by decide)) (.run [] [] rfl (st_store_box rfl rfl rfl rfl rfl Try.sizeOf33 rfl (nle rfl)) .nil))))))) ?_
        refine tr_seq ?_
        refine tr_seq ?_
        refine tr_region rfl (.run [] [] rfl (st_faddr_box rfl rfl Try.underlying33 rfl Try.sizeOf9 (by decide)) (.run [] [] rfl (st_load_box1 rfl rfl rfl Try.isAgg9 rfl) (.run [] [] rfl (st_move rfl) (.run [] [] rfl (st_seql rfl rfl rfl) .nil)))) ?_
        refine tr_if (t := decide (e.name = name)) rfl (fun h4 => ?_) (fun h4 => ?_)
        · skip
          replace h4 := of_decide_eq_true h4
          obtain ⟨hs2, hpp⟩ := hsame i e he h4
          have hpb := okS_pins (okC_s hok) he
          refine tr_wk (s' := mk [(3, .ptr 3 0), (4, .p none (.v (.string name))), (5, .ptr 5 0), (9, .p none (.v (.int .i64 (n:Int)))), (10, .p none (.v (.int .i64 (i:Int)))), (11, .ptr 11 0)] [(3, [.p none (.v (.int .i64 m)), .sl 1601 0 ((pvS l).length)]), (5, [.p none (.v (.int .i64 m)), .sl 2201 0 ((pvS (keepF t l2)).length)]), (11, [.p none (.v (.string e.name)), .p none (.v (.int .i64 e.size)), .p none (.v (.int .i64 e.pins))])] [(1601, 3, pvS l), (2201, 3, pvS (keepF t l2))]) ?_ ?_
          · exact wk_mk ⟨rfl, ⟨rfl, ⟨rfl, ⟨rfl, ⟨rfl, ⟨rfl, trivial⟩⟩⟩⟩⟩⟩ ⟨rfl, ⟨rfl, ⟨rfl, trivial⟩⟩⟩ ⟨rfl, ⟨rfl, trivial⟩⟩ rfl
          refine tr_region rfl (.run [] [] rfl (st_faddr_box rfl rfl Try.underlying33 rfl Try.sizeOf2 (by decide)) (.run [] [] rfl (st_load_box1 rfl rfl rfl Try.isAgg2 rfl) (.run [] [] rfl (st_subn rfl rfl rfl (by omega)) (.run [] [] rfl (st_faddr_box rfl rfl Try.underlying33 rfl Try.sizeOf2 (by decide)) (.run [] [] rfl (st_store_box rfl rfl rfl rfl rfl Try.sizeOf2 rfl (nle rfl)) .nil))))) ?_
          refine tr_seq ?_
          have hst := pin_step hd hs2
          refine tr_wk (s' := mk [(3, .ptr 3 0), (4, .p none (.v (.string name))), (5, .ptr 5 0), (9, .p none (.v (.int .i64 (n:Int)))), (10, .p none (.v (.int .i64 (i:Int)))), (11, .ptr 11 0)] [(3, [.p none (.v (.int .i64 m)), .sl 1601 0 ((pvS l).length)]), (5, [.p none (.v (.int .i64 m)), .sl 2201 0 ((pvS (keepF t l2)).length)]), (11, [.p none (.v (.string e.name)), .p none (.v (.int .i64 e.size)), .p none (.v (.int .i64 (e.pins - 1)))])] [(1601, 3, pvS l), (2201, 3, pvS (keepF t l2))]) ?_ ?_
          · exact wk_mk ⟨rfl, ⟨rfl, ⟨rfl, ⟨rfl, ⟨rfl, ⟨rfl, trivial⟩⟩⟩⟩⟩⟩ ⟨rfl, ⟨rfl, ⟨rfl, trivial⟩⟩⟩ ⟨rfl, ⟨rfl, trivial⟩⟩ rfl
          rcases bfc (decide ((n:Int) < ((pvS (keepF t l2)).length : Int))) with h5 | h5
          · have h5' := h5
            replace h5' := of_decide_eq_false h5'
            refine tr_regionD mixed rfl (.run [] [] rfl (st_move rfl) (.run [] [] rfl (st_faddr_box rfl rfl Try.underlying26 rfl Try.sizeOf24 (by decide)) (.run [] [] rfl (st_load_box1 rfl rfl rfl Try.isAgg24 rfl) (.run [] [] rfl (st_len_row rfl rfl Try.underlying24) (.run [] [] rfl (st_eq (st_lss rfl rfl rfl) (congrArg (fun b => AV.p none (.v (.bool b))) h5)) (.run [] [] rfl (st_move rfl) (.not rfl (.not rfl (.not rfl (.not rfl (.not rfl (.not rfl (.not rfl (.run [] [] rfl (st_pick (t := false) rfl rfl) .nil)))))))))))))) (by kernel_rfl) ?_
            refine tr_if (t := false) rfl (fun h => nomatch h) (fun _ => ?_)
            refine tr_seq ?_
            obtain ⟨hp0, hd2⟩ := pin_out hst (List.getElem?_eq_none (by omega))
            replace hp0 : e.pins - 1 = 0 := hp0
            refine tr_wk (s' := mk [(3, .ptr 3 0), (4, .p none (.v (.string name))), (5, .ptr 5 0), (9, .p none (.v (.int .i64 (n:Int)))), (10, .p none (.v (.int .i64 (i:Int)))), (11, .ptr 11 0)] [(3, [.p none (.v (.int .i64 m)), .sl 1601 0 ((pvS l).length)]), (5, [.p none (.v (.int .i64 m)), .sl 2201 0 ((pvS (keepF t l2)).length)]), (11, [.p none (.v (.string e.name)), .p none (.v (.int .i64 e.size)), .p none (.v (.int .i64 (e.pins - 1)))])] [(1601, 3, pvS l), (2201, 3, pvS (keepF t l2))]) ?_ ?_
            · exact wk_mk ⟨rfl, ⟨rfl, ⟨rfl, ⟨rfl, ⟨rfl, ⟨rfl, trivial⟩⟩⟩⟩⟩⟩ ⟨rfl, ⟨rfl, ⟨rfl, trivial⟩⟩⟩ ⟨rfl, ⟨rfl, trivial⟩⟩ rfl
            refine tr_region rfl (.run [] [] rfl (st_faddr_box rfl rfl Try.underlying33 rfl Try.sizeOf2 (by decide)) (.run [] [] rfl (st_load_box1 rfl rfl rfl Try.isAgg2 rfl) (.run [] [] rfl (st_gtr rfl rfl rfl) .nil))) ?_
            refine tr_if (t := decide (0 < (e.pins - 1))) rfl (fun h6 => ?_) (fun h6 => ?_)
            · skip
              replace h6 := of_decide_eq_true h6
              omega
            · skip
              replace h6 := of_decide_eq_false h6
              refine tr_skip ?_
              refine tr_region rfl (.run [] [] rfl (st_move rfl) (.run [] [] rfl (st_addn rfl rfl rfl (by omega)) (.run [] [] rfl (st_assign rfl) .nil))) ?_
              refine nxt (Q := fun _ _ => False) (z := (i, n)) (i + 1, n) ?_ ?_ ?_
              · show (i + 1) ≤ l.length ∧ n ≤ (keepF t l2).length ∧ (keepF t l2).drop n = keepF (t - (i + 1)) (l2.drop (i + 1))
                exact ⟨by omega, hn, hd2⟩
              · show l.length - (i + 1) < l.length - i
                omega
              · exact wk_mk ⟨rfl, ⟨rfl, ⟨rfl, ⟨rfl, ⟨(int_eq (by omega)), trivial⟩⟩⟩⟩⟩ ⟨rfl, ⟨rfl, trivial⟩⟩ ⟨rfl, ⟨rfl, trivial⟩⟩ rfl
          · have h5' := h5
            replace h5' := of_decide_eq_true h5'
            obtain ⟨e2, he2⟩ : ∃ e, (keepF t l2)[n]? = some e := ⟨_, List.getElem?_eq_getElem (by (have hL := pvS_length (keepF t l2); omega))⟩
            have hlte2 := (List.getElem?_eq_some_iff.1 he2).1
            refine tr_regionD mixed rfl (.run [] [] rfl (st_move rfl) (.run [] [] rfl (st_faddr_box rfl rfl Try.underlying26 rfl Try.sizeOf24 (by decide)) (.run [] [] rfl (st_load_box1 rfl rfl rfl Try.isAgg24 rfl) (.run [] [] rfl (st_len_row rfl rfl Try.underlying24) (.run [] [] rfl (st_eq (st_lss rfl rfl rfl) (congrArg (fun b => AV.p none (.v (.bool b))) h5)) (.run [] [] rfl (st_move rfl) (.run [] [] rfl (st_faddr_box rfl rfl Try.underlying26 rfl Try.sizeOf24 (by decide)) (.run [] [] rfl (st_load_box1 rfl rfl rfl Try.isAgg24 rfl) (.run [] [] rfl (st_move rfl) (.run [] [] rfl (st_idx_row0 n rfl rfl rfl rfl Try.underlying24 Try.sizeOf33 rfl rfl (by omega)) (.run [] [] rfl (st_load_ea rfl rfl rfl (pvS_get he2) Try.isAgg33 Try.sizeOf33 (nle rfl)) (.run [] [] rfl (st_load_box rfl rfl rfl Try.isAgg33 Try.sizeOf33 (nle rfl)) (.run [] [] rfl (st_aeql rfl rfl rfl rfl rfl Try.eqGuardType33 (fun w => slot_eqIn e2 (⟨e.name, e.size, e.pins - 1⟩ : Slot) w)) (.run [] [] rfl (st_pick (t := true) rfl rfl) .nil)))))))))))))) (by kernel_rfl) ?_
            refine tr_if (t := decide (e2 = (⟨e.name, e.size, e.pins - 1⟩ : Slot))) rfl (fun h7 => ?_) (fun h7 => ?_)
            · skip
              replace h7 := of_decide_eq_true h7
              refine tr_wk (s' := mk [(3, .ptr 3 0), (4, .p none (.v (.string name))), (5, .ptr 5 0), (9, .p none (.v (.int .i64 (n:Int)))), (10, .p none (.v (.int .i64 (i:Int)))), (82, .ptr 5 1), (83, .sl 2201 0 ((pvS (keepF t l2)).length)), (84, .p none (.v (.int .i64 (n:Int)))), (85, .ea 2201 n 0), (86, .agg [.p none (.v (.string e2.name)), .p none (.v (.int .i64 e2.size)), .p none (.v (.int .i64 e2.pins))]), (87, .agg [.p none (.v (.string e.name)), .p none (.v (.int .i64 e.size)), .p none (.v (.int .i64 (e.pins - 1)))]), (88, .p none (.v (.bool (decide (e2 = (⟨e.name, e.size, e.pins - 1⟩ : Slot))))))] [(3, [.p none (.v (.int .i64 m)), .sl 1601 0 ((pvS l).length)]), (5, [.p none (.v (.int .i64 m)), .sl 2201 0 ((pvS (keepF t l2)).length)])] [(1601, 3, pvS l), (2201, 3, pvS (keepF t l2))]) ?_ ?_
              · exact wk_mk ⟨rfl, ⟨rfl, ⟨rfl, ⟨rfl, ⟨rfl, ⟨rfl, ⟨rfl, ⟨rfl, ⟨rfl, ⟨rfl, ⟨rfl, ⟨rfl, trivial⟩⟩⟩⟩⟩⟩⟩⟩⟩⟩⟩⟩ ⟨rfl, ⟨rfl, trivial⟩⟩ ⟨rfl, ⟨rfl, trivial⟩⟩ rfl
              refine tr_region rfl (.run [] [] rfl (st_move rfl) (.run [] [] rfl (st_addn rfl rfl rfl (by omega)) (.run [] [] rfl (st_assign rfl) .nil))) ?_
              refine tr_region rfl (.run [] [] rfl (st_move rfl) (.run [] [] rfl (st_addn rfl rfl rfl (by omega)) (.run [] [] rfl (st_assign rfl) .nil))) ?_
              refine nxt (Q := fun _ _ => False) (z := (i, n)) (i + 1, n + 1) ?_ ?_ ?_
              · show (i + 1) ≤ l.length ∧ (n + 1) ≤ (keepF t l2).length ∧ (keepF t l2).drop (n + 1) = keepF (t - (i + 1)) (l2.drop (i + 1))
                exact ⟨by omega, by omega, pin_hit hst he2 h7⟩
              · show l.length - (i + 1) < l.length - i
                omega
              · exact wk_mk ⟨rfl, ⟨rfl, ⟨rfl, ⟨(int_eq (by omega)), ⟨(int_eq (by omega)), trivial⟩⟩⟩⟩⟩ ⟨rfl, ⟨rfl, trivial⟩⟩ ⟨rfl, ⟨rfl, trivial⟩⟩ rfl
            · skip
              replace h7 := of_decide_eq_false h7
              refine tr_seq ?_
              obtain ⟨hp0, hd2⟩ := pin_miss hst he2 h7
              replace hp0 : e.pins - 1 = 0 := hp0
              refine tr_wk (s' := mk [(3, .ptr 3 0), (4, .p none (.v (.string name))), (5, .ptr 5 0), (9, .p none (.v (.int .i64 (n:Int)))), (10, .p none (.v (.int .i64 (i:Int)))), (11, .ptr 11 0), (82, .ptr 5 1), (83, .sl 2201 0 ((pvS (keepF t l2)).length)), (84, .p none (.v (.int .i64 (n:Int)))), (85, .ea 2201 n 0), (86, .agg [.p none (.v (.string e2.name)), .p none (.v (.int .i64 e2.size)), .p none (.v (.int .i64 e2.pins))]), (87, .agg [.p none (.v (.string e.name)), .p none (.v (.int .i64 e.size)), .p none (.v (.int .i64 (e.pins - 1)))]), (88, .p none (.v (.bool (decide (e2 = (⟨e.name, e.size, e.pins - 1⟩ : Slot))))))] [(3, [.p none (.v (.int .i64 m)), .sl 1601 0 ((pvS l).length)]), (5, [.p none (.v (.int .i64 m)), .sl 2201 0 ((pvS (keepF t l2)).length)]), (11, [.p none (.v (.string e.name)), .p none (.v (.int .i64 e.size)), .p none (.v (.int .i64 (e.pins - 1)))])] [(1601, 3, pvS l), (2201, 3, pvS (keepF t l2))]) ?_ ?_
              · exact wk_mk ⟨rfl, ⟨rfl, ⟨rfl, ⟨rfl, ⟨rfl, ⟨rfl, ⟨rfl, ⟨rfl, ⟨rfl, ⟨rfl, ⟨rfl, ⟨rfl, ⟨rfl, trivial⟩⟩⟩⟩⟩⟩⟩⟩⟩⟩⟩⟩⟩ ⟨rfl, ⟨rfl, ⟨rfl, trivial⟩⟩⟩ ⟨rfl, ⟨rfl, trivial⟩⟩ rfl
              refine tr_region rfl (.run [] [] rfl (st_faddr_box rfl rfl Try.underlying33 rfl Try.sizeOf2 (by decide)) (.run [] [] rfl (st_load_box1 rfl rfl rfl Try.isAgg2 rfl) (.run [] [] rfl (st_gtr rfl rfl rfl) .nil))) ?_
              refine tr_if (t := decide (0 < (e.pins - 1))) rfl (fun h8 => ?_) (fun h8 => ?_)
              · skip
                replace h8 := of_decide_eq_true h8
                omega
              · skip
                replace h8 := of_decide_eq_false h8
                refine tr_skip ?_
                refine tr_region rfl (.run [] [] rfl (st_move rfl) (.run [] [] rfl (st_addn rfl rfl rfl (by omega)) (.run [] [] rfl (st_assign rfl) .nil))) ?_
                refine nxt (Q := fun _ _ => False) (z := (i, n)) (i + 1, n) ?_ ?_ ?_
                · show (i + 1) ≤ l.length ∧ n ≤ (keepF t l2).length ∧ (keepF t l2).drop n = keepF (t - (i + 1)) (l2.drop (i + 1))
                  exact ⟨by omega, hn, hd2⟩
                · show l.length - (i + 1) < l.length - i
                  omega
                · exact wk_mk ⟨rfl, ⟨rfl, ⟨rfl, ⟨rfl, ⟨(int_eq (by omega)), trivial⟩⟩⟩⟩⟩ ⟨rfl, ⟨rfl, trivial⟩⟩ ⟨rfl, ⟨rfl, trivial⟩⟩ rfl
        · skip
          replace h4 := of_decide_eq_false h4
          refine tr_skip ?_
          refine tr_seq ?_
          have hst := pin_step hd (hdiff i e he h4)
          refine tr_wk (s' := mk [(3, .ptr 3 0), (4, .p none (.v (.string name))), (5, .ptr 5 0), (9, .p none (.v (.int .i64 (n:Int)))), (10, .p none (.v (.int .i64 (i:Int)))), (11, .ptr 11 0)] [(3, [.p none (.v (.int .i64 m)), .sl 1601 0 ((pvS l).length)]), (5, [.p none (.v (.int .i64 m)), .sl 2201 0 ((pvS (keepF t l2)).length)]), (11, [.p none (.v (.string e.name)), .p none (.v (.int .i64 e.size)), .p none (.v (.int .i64 e.pins))])] [(1601, 3, pvS l), (2201, 3, pvS (keepF t l2))]) ?_ ?_
          · exact wk_mk ⟨rfl, ⟨rfl, ⟨rfl, ⟨rfl, ⟨rfl, ⟨rfl, trivial⟩⟩⟩⟩⟩⟩ ⟨rfl, ⟨rfl, ⟨rfl, trivial⟩⟩⟩ ⟨rfl, ⟨rfl, trivial⟩⟩ rfl
          rcases bfc (decide ((n:Int) < ((pvS (keepF t l2)).length : Int))) with h9 | h9
          · have h9' := h9
            replace h9' := of_decide_eq_false h9'
            refine tr_regionD mixed rfl (.run [] [] rfl (st_move rfl) (.run [] [] rfl (st_faddr_box rfl rfl Try.underlying26 rfl Try.sizeOf24 (by decide)) (.run [] [] rfl (st_load_box1 rfl rfl rfl Try.isAgg24 rfl) (.run [] [] rfl (st_len_row rfl rfl Try.underlying24) (.run [] [] rfl (st_eq (st_lss rfl rfl rfl) (congrArg (fun b => AV.p none (.v (.bool b))) h9)) (.run [] [] rfl (st_move rfl) (.not rfl (.not rfl (.not rfl (.not rfl (.not rfl (.not rfl (.not rfl (.run [] [] rfl (st_pick (t := false) rfl rfl) .nil)))))))))))))) (by kernel_rfl) ?_
            refine tr_if (t := false) rfl (fun h => nomatch h) (fun _ => ?_)
            refine tr_seq ?_
            obtain ⟨hp0, hd2⟩ := pin_out hst (List.getElem?_eq_none (by omega))
            replace hp0 : e.pins = 0 := hp0
            refine tr_wk (s' := mk [(3, .ptr 3 0), (4, .p none (.v (.string name))), (5, .ptr 5 0), (9, .p none (.v (.int .i64 (n:Int)))), (10, .p none (.v (.int .i64 (i:Int)))), (11, .ptr 11 0)] [(3, [.p none (.v (.int .i64 m)), .sl 1601 0 ((pvS l).length)]), (5, [.p none (.v (.int .i64 m)), .sl 2201 0 ((pvS (keepF t l2)).length)]), (11, [.p none (.v (.string e.name)), .p none (.v (.int .i64 e.size)), .p none (.v (.int .i64 e.pins))])] [(1601, 3, pvS l), (2201, 3, pvS (keepF t l2))]) ?_ ?_
            · exact wk_mk ⟨rfl, ⟨rfl, ⟨rfl, ⟨rfl, ⟨rfl, ⟨rfl, trivial⟩⟩⟩⟩⟩⟩ ⟨rfl, ⟨rfl, ⟨rfl, trivial⟩⟩⟩ ⟨rfl, ⟨rfl, trivial⟩⟩ rfl
            refine tr_region rfl (.run [] [] rfl (st_faddr_box rfl rfl Try.underlying33 rfl Try.sizeOf2 (by decide)) (.run [] [] rfl (st_load_box1 rfl rfl rfl Try.isAgg2 rfl) (.run [] [] rfl (st_gtr rfl rfl rfl) .nil))) ?_
            refine tr_if (t := decide (0 < e.pins)) rfl (fun h10 => ?_) (fun h10 => ?_)
            · skip
              replace h10 := of_decide_eq_true h10
              omega
            · skip
              replace h10 := of_decide_eq_false h10
              refine tr_skip ?_
              refine tr_region rfl (.run [] [] rfl (st_move rfl) (.run [] [] rfl (st_addn rfl rfl rfl (by omega)) (.run [] [] rfl (st_assign rfl) .nil))) ?_
              refine nxt (Q := fun _ _ => False) (z := (i, n)) (i + 1, n) ?_ ?_ ?_
              · show (i + 1) ≤ l.length ∧ n ≤ (keepF t l2).length ∧ (keepF t l2).drop n = keepF (t - (i + 1)) (l2.drop (i + 1))
                exact ⟨by omega, hn, hd2⟩
              · show l.length - (i + 1) < l.length - i
                omega
              · exact wk_mk ⟨rfl, ⟨rfl, ⟨rfl, ⟨rfl, ⟨(int_eq (by omega)), trivial⟩⟩⟩⟩⟩ ⟨rfl, ⟨rfl, trivial⟩⟩ ⟨rfl, ⟨rfl, trivial⟩⟩ rfl
          · have h9' := h9
            replace h9' := of_decide_eq_true h9'
            obtain ⟨e2, he2⟩ : ∃ e, (keepF t l2)[n]? = some e := ⟨_, List.getElem?_eq_getElem (by (have hL := pvS_length (keepF t l2); omega))⟩
            have hlte2 := (List.getElem?_eq_some_iff.1 he2).1
            refine tr_regionD mixed rfl (.run [] [] rfl (st_move rfl) (.run [] [] rfl (st_faddr_box rfl rfl Try.underlying26 rfl Try.sizeOf24 (by decide)) (.run [] [] rfl (st_load_box1 rfl rfl rfl Try.isAgg24 rfl) (.run [] [] rfl (st_len_row rfl rfl Try.underlying24) (.run [] [] rfl (st_eq (st_lss rfl rfl rfl) (congrArg (fun b => AV.p none (.v (.bool b))) h9)) (.run [] [] rfl (st_move rfl) (.run [] [] rfl (st_faddr_box rfl rfl Try.underlying26 rfl Try.sizeOf24 (by decide)) (.run [] [] rfl (st_load_box1 rfl rfl rfl Try.isAgg24 rfl) (.run [] [] rfl (st_move rfl) (.run [] [] rfl (st_idx_row0 n rfl rfl rfl rfl Try.underlying24 Try.sizeOf33 rfl rfl (by omega)) (.run [] [] rfl (st_load_ea rfl rfl rfl (pvS_get he2) Try.isAgg33 Try.sizeOf33 (nle rfl)) (.run [] [] rfl (st_load_box rfl rfl rfl Try.isAgg33 Try.sizeOf33 (nle rfl)) (.run [] [] rfl (st_aeql rfl rfl rfl rfl rfl Try.eqGuardType33 (fun w => slot_eqIn e2 e w)) (.run [] [] rfl (st_pick (t := true) rfl rfl) .nil)))))))))))))) (by kernel_rfl) ?_
            refine tr_if (t := decide (e2 = e)) rfl (fun h11 => ?_) (fun h11 => ?_)
            · skip
              replace h11 := of_decide_eq_true h11
              refine tr_wk (s' := mk [(3, .ptr 3 0), (4, .p none (.v (.string name))), (5, .ptr 5 0), (9, .p none (.v (.int .i64 (n:Int)))), (10, .p none (.v (.int .i64 (i:Int)))), (82, .ptr 5 1), (83, .sl 2201 0 ((pvS (keepF t l2)).length)), (84, .p none (.v (.int .i64 (n:Int)))), (85, .ea 2201 n 0), (86, .agg [.p none (.v (.string e2.name)), .p none (.v (.int .i64 e2.size)), .p none (.v (.int .i64 e2.pins))]), (87, .agg [.p none (.v (.string e.name)), .p none (.v (.int .i64 e.size)), .p none (.v (.int .i64 e.pins))]), (88, .p none (.v (.bool (decide (e2 = e)))))] [(3, [.p none (.v (.int .i64 m)), .sl 1601 0 ((pvS l).length)]), (5, [.p none (.v (.int .i64 m)), .sl 2201 0 ((pvS (keepF t l2)).length)])] [(1601, 3, pvS l), (2201, 3, pvS (keepF t l2))]) ?_ ?_
              · exact wk_mk ⟨rfl, ⟨rfl, ⟨rfl, ⟨rfl, ⟨rfl, ⟨rfl, ⟨rfl, ⟨rfl, ⟨rfl, ⟨rfl, ⟨rfl, ⟨rfl, trivial⟩⟩⟩⟩⟩⟩⟩⟩⟩⟩⟩⟩ ⟨rfl, ⟨rfl, trivial⟩⟩ ⟨rfl, ⟨rfl, trivial⟩⟩ rfl
              refine tr_region rfl (.run [] [] rfl (st_move rfl) (.run [] [] rfl (st_addn rfl rfl rfl (by omega)) (.run [] [] rfl (st_assign rfl) .nil))) ?_
              refine tr_region rfl (.run [] [] rfl (st_move rfl) (.run [] [] rfl (st_addn rfl rfl rfl (by omega)) (.run [] [] rfl (st_assign rfl) .nil))) ?_
              refine nxt (Q := fun _ _ => False) (z := (i, n)) (i + 1, n + 1) ?_ ?_ ?_
              · show (i + 1) ≤ l.length ∧ (n + 1) ≤ (keepF t l2).length ∧ (keepF t l2).drop (n + 1) = keepF (t - (i + 1)) (l2.drop (i + 1))
                exact ⟨by omega, by omega, pin_hit hst he2 h11⟩
              · show l.length - (i + 1) < l.length - i
                omega
              · exact wk_mk ⟨rfl, ⟨rfl, ⟨rfl, ⟨(int_eq (by omega)), ⟨(int_eq (by omega)), trivial⟩⟩⟩⟩⟩ ⟨rfl, ⟨rfl, trivial⟩⟩ ⟨rfl, ⟨rfl, trivial⟩⟩ rfl
            · skip
              replace h11 := of_decide_eq_false h11
              refine tr_seq ?_
              obtain ⟨hp0, hd2⟩ := pin_miss hst he2 h11
              replace hp0 : e.pins = 0 := hp0
              refine tr_wk (s' := mk [(3, .ptr 3 0), (4, .p none (.v (.string name))), (5, .ptr 5 0), (9, .p none (.v (.int .i64 (n:Int)))), (10, .p none (.v (.int .i64 (i:Int)))), (11, .ptr 11 0), (82, .ptr 5 1), (83, .sl 2201 0 ((pvS (keepF t l2)).length)), (84, .p none (.v (.int .i64 (n:Int)))), (85, .ea 2201 n 0), (86, .agg [.p none (.v (.string e2.name)), .p none (.v (.int .i64 e2.size)), .p none (.v (.int .i64 e2.pins))]), (87, .agg [.p none (.v (.string e.name)), .p none (.v (.int .i64 e.size)), .p none (.v (.int .i64 e.pins))]), (88, .p none (.v (.bool (decide (e2 = e)))))] [(3, [.p none (.v (.int .i64 m)), .sl 1601 0 ((pvS l).length)]), (5, [.p none (.v (.int .i64 m)), .sl 2201 0 ((pvS (keepF t l2)).length)]), (11, [.p none (.v (.string e.name)), .p none (.v (.int .i64 e.size)), .p none (.v (.int .i64 e.pins))])] [(1601, 3, pvS l), (2201, 3, pvS (keepF t l2))]) ?_ ?_
              · exact wk_mk ⟨rfl, ⟨rfl, ⟨rfl, ⟨rfl, ⟨rfl, ⟨rfl, ⟨rfl, ⟨rfl, ⟨rfl, ⟨rfl, ⟨rfl, ⟨rfl, ⟨rfl, trivial⟩⟩⟩⟩⟩⟩⟩⟩⟩⟩⟩⟩⟩ ⟨rfl, ⟨rfl, ⟨rfl, trivial⟩⟩⟩ ⟨rfl, ⟨rfl, trivial⟩⟩ rfl
              refine tr_region rfl (.run [] [] rfl (st_faddr_box rfl rfl Try.underlying33 rfl Try.sizeOf2 (by decide)) (.run [] [] rfl (st_load_box1 rfl rfl rfl Try.isAgg2 rfl) (.run [] [] rfl (st_gtr rfl rfl rfl) .nil))) ?_
              refine tr_if (t := decide (0 < e.pins)) rfl (fun h12 => ?_) (fun h12 => ?_)
              · skip
                replace h12 := of_decide_eq_true h12
                omega
              · skip
                replace h12 := of_decide_eq_false h12
                refine tr_skip ?_
                refine tr_region rfl (.run [] [] rfl (st_move rfl) (.run [] [] rfl (st_addn rfl rfl rfl (by omega)) (.run [] [] rfl (st_assign rfl) .nil))) ?_
                refine nxt (Q := fun _ _ => False) (z := (i, n)) (i + 1, n) ?_ ?_ ?_
                · show (i + 1) ≤ l.length ∧ n ≤ (keepF t l2).length ∧ (keepF t l2).drop n = keepF (t - (i + 1)) (l2.drop (i + 1))
                  exact ⟨by omega, hn, hd2⟩
                · show l.length - (i + 1) < l.length - i
                  omega
                · exact wk_mk ⟨rfl, ⟨rfl, ⟨rfl, ⟨rfl, ⟨(int_eq (by omega)), trivial⟩⟩⟩⟩⟩ ⟨rfl, ⟨rfl, trivial⟩⟩ ⟨rfl, ⟨rfl, trivial⟩⟩ rfl
      · skip
        replace h3 := of_decide_eq_false h3
        refine tr_exit ?_
        refine tr_seq ?_
        have hil : i = l.length := (by omega)
        have hnk := pin_end hn (by omega) hd
        refine tr_wk (s' := mk [(3, .ptr 3 0), (5, .ptr 5 0), (9, .p none (.v (.int .i64 (n:Int))))] [(3, [.p none (.v (.int .i64 m)), .sl 1601 0 ((pvS l).length)]), (5, [.p none (.v (.int .i64 m)), .sl 2201 0 ((pvS (keepF t l2)).length)])] [(1601, 3, pvS l), (2201, 3, pvS (keepF t l2))]) ?_ ?_
        · exact wk_mk ⟨rfl, ⟨rfl, ⟨rfl, trivial⟩⟩⟩ ⟨rfl, ⟨rfl, trivial⟩⟩ ⟨rfl, ⟨rfl, trivial⟩⟩ rfl
        rcases bfc (decide ((n:Int) = ((pvS (keepF t l2)).length : Int))) with h13 | h13
        · have h13' := h13
          replace h13' := of_decide_eq_false h13'
          omega
        · have h13' := h13
          replace h13' := of_decide_eq_true h13'
          rcases bfc (decide ((n:Int) = ((pvS l).length : Int))) with h14 | h14
          · have h14' := h14
            replace h14' := of_decide_eq_false h14'
            refine tr_regionD mixed rfl (.run [] [] rfl (st_move rfl) (.run [] [] rfl (st_faddr_box rfl rfl Try.underlying26 rfl Try.sizeOf24 (by decide)) (.run [] [] rfl (st_load_box1 rfl rfl rfl Try.isAgg24 rfl) (.run [] [] rfl (st_len_row rfl rfl Try.underlying24) (.run [] [] rfl (st_eq (st_eql rfl rfl rfl) (congrArg (fun b => AV.p none (.v (.bool b))) h13)) (.run [] [] rfl (st_move rfl) (.run [] [] rfl (st_load_box rfl rfl rfl Try.isAgg26 Try.sizeOf26 (nle rfl)) (.run [2201, 10200] [] rfl (st_call rfl 10200 (X := []) en13 rfl (.val nod) (.cons (.agg (.cons (.bor .v) (.cons (.bor (.all (len := (pvS (keepF t l2)).length) (xs := pvS (keepF t l2)) rfl rfl (by decide))) .nil))) .nil) (by decide) all_nil .nil ((by have h := cacheOk_con m (keepF t l2) (by omega); rw [hok2] at h; exact h)) rfl rfl (nle rfl)) (.run [] [] rfl (st_pick (t := true) rfl rfl) (.run [] [] rfl (st_move rfl) (.run [] [] rfl (st_move rfl) (.run [] [] rfl (st_faddr_box rfl rfl Try.underlying26 rfl Try.sizeOf24 (by decide)) (.run [] [] rfl (st_load_box1 rfl rfl rfl Try.isAgg24 rfl) (.run [] [] rfl (st_len_row rfl rfl Try.underlying24) (.run [] [] rfl (st_eq (st_eql rfl rfl rfl) (congrArg (fun b => AV.p none (.v (.bool b))) h14)) (.run [] [] rfl (st_move rfl) (.run [] [] rfl (st_load_box rfl rfl rfl Try.isAgg26 Try.sizeOf26 (nle rfl)) (.run [1601, 11200] [] rfl (st_call rfl 11200 (X := []) en14 rfl (.val nod) (.cons (.agg (.cons (.bor .v) (.cons (.bor (.all (len := (pvS l).length) (xs := pvS l) rfl rfl (by decide))) .nil))) .nil) (by decide) all_nil .nil (cacheUsed_con m l (by omega) hok) rfl rfl (nle rfl)) (.run [] [] rfl (st_faddr_box rfl rfl Try.underlying26 rfl Try.sizeOf2 (by decide)) (.run [] [] rfl (st_load_box1 rfl rfl rfl Try.isAgg2 rfl) (.run [] [] rfl (st_gtr rfl rfl rfl) (.run [] [] rfl (st_pick (t := false) rfl rfl) (.run [] [] rfl (st_pick (t := true) rfl rfl) (.run [] [] rfl (st_assign rfl) .nil)))))))))))))))))))))))) (by kernel_rfl) ?_
            refine tr_ret ?_
            exact ends [_] [] (.cons (.tmp (bool_eq (decide_eq_true (hev.resolve_left (fun h => by rw [h] at hnk; omega))))) .nil) (.cons (.one .v (.v _)) .nil) (by decide) trivial
          · have h14' := h14
            replace h14' := of_decide_eq_true h14'
            refine tr_regionD mixed rfl (.run [] [] rfl (st_move rfl) (.run [] [] rfl (st_faddr_box rfl rfl Try.underlying26 rfl Try.sizeOf24 (by decide)) (.run [] [] rfl (st_load_box1 rfl rfl rfl Try.isAgg24 rfl) (.run [] [] rfl (st_len_row rfl rfl Try.underlying24) (.run [] [] rfl (st_eq (st_eql rfl rfl rfl) (congrArg (fun b => AV.p none (.v (.bool b))) h13)) (.run [] [] rfl (st_move rfl) (.run [] [] rfl (st_load_box rfl rfl rfl Try.isAgg26 Try.sizeOf26 (nle rfl)) (.run [2201, 10200] [] rfl (st_call rfl 10200 (X := []) en13 rfl (.val nod) (.cons (.agg (.cons (.bor .v) (.cons (.bor (.all (len := (pvS (keepF t l2)).length) (xs := pvS (keepF t l2)) rfl rfl (by decide))) .nil))) .nil) (by decide) all_nil .nil ((by have h := cacheOk_con m (keepF t l2) (by omega); rw [hok2] at h; exact h)) rfl rfl (nle rfl)) (.run [] [] rfl (st_pick (t := true) rfl rfl) (.run [] [] rfl (st_move rfl) (.run [] [] rfl (st_move rfl) (.run [] [] rfl (st_faddr_box rfl rfl Try.underlying26 rfl Try.sizeOf24 (by decide)) (.run [] [] rfl (st_load_box1 rfl rfl rfl Try.isAgg24 rfl) (.run [] [] rfl (st_len_row rfl rfl Try.underlying24) (.run [] [] rfl (st_eq (st_eql rfl rfl rfl) (congrArg (fun b => AV.p none (.v (.bool b))) h14)) (.run [] [] rfl (st_move rfl) (.not rfl (.not rfl (.not rfl (.not rfl (.not rfl (.run [] [] rfl (st_pick (t := true) rfl rfl) (.run [] [] rfl (st_pick (t := true) rfl rfl) (.run [] [] rfl (st_assign rfl) .nil)))))))))))))))))))))))) (by kernel_rfl) ?_
            refine tr_ret ?_
            exact ends [_] [] (.cons (.tmp rfl) .nil) (.cons (.one .v (.v _)) .nil) (by decide) trivial
theorem law_cached_con {γ : Gho} {cv : Value} {bs : List Nat} (hc : CodeAt γ cv bs) : ConG γ Try.prog 7 [.one (PV.v (cv))] [] [.one (.v (.bool true))] := by
  refine con_of_tr Try.func7 rfl rfl rfl rfl ?_
  refine tr_seq ?_
  refine tr_region rfl (.run [] [] rfl (st_assign rfl) .nil) ?_
  refine tr_seq ?_
  refine tr_seq ?_
  refine tr_region rfl (.run [] [] rfl (st_move rfl) (.run [1300] [] rfl (st_callG (.inr rfl) rfl 1300 (X := []) en8 rfl (.val nod) (.cons (.one (.bor .v)) .nil) (by decide) all_nil .nil (big_con hc) rfl rfl (nle rfl)) .nil)) ?_
  refine tr_if (t := decide (1048576 < (bs.length : Int))) rfl (fun h1 => ?_) (fun h1 => ?_)
  · skip
    replace h1 := of_decide_eq_true h1
    refine tr_seq ?_
    refine tr_region rfl (.run [] [] rfl (st_assign rfl) .nil) ?_
    refine tr_ret ?_
    exact ends [_] [] (.cons (.tmp rfl) .nil) (.cons (.one .v (.v _)) .nil) (by decide) trivial
  · skip
    replace h1 := of_decide_eq_false h1
    refine tr_skip ?_
    refine tr_seq ?_
    refine tr_region rfl (.run [] [] rfl (st_move rfl) (.run [1600, 1601, 1602, 1603] [] rfl (st_callG (.inr rfl) rfl 1600 (X := []) en24 rfl (.val nod) (.cons (.one (.bor .v)) .nil) (by decide) all_nil .nil (drawPut_con hc (by omega)) rfl rfl (nle rfl)) (.run [] [] rfl (st_move rfl) (.run [] [] rfl (st_extract rfl rfl rfl) (.run [] [] rfl (st_extract rfl rfl rfl) (.run [] [] rfl (st_extract rfl rfl rfl) (.run [] [3] rfl (st_allocZ rfl 3 inf26 rfl (by decide) rfl (by decide)) (.run [] [] rfl (st_store_box rfl rfl rfl rfl rfl Try.sizeOf26 rfl (nle rfl)) (.run [] [] rfl (st_assign rfl) (.run [] [] rfl (st_assign rfl) .nil)))))))))) ?_
    refine tr_seq ?_
    have hcl := (cacheV_ok (bs := bs) (p := 0) (Nat.zero_le _)).1
    generalize offV bs (userP bs (cacheV bs 0).2.2) 1 40 = size
    generalize userV bs (cacheV bs 0).2.2 = name
    generalize (cacheV bs 0).2.1 = l at hcl ⊢
    generalize (cacheV bs 0).1 = m
    have hle := pvS_length l
    refine tr_wk (s' := mk [(3, .ptr 3 0), (4, .p none (.v (.string name))), (5, .p none (.v (.int .i64 size)))] [(3, [.p none (.v (.int .i64 m)), .sl 1601 0 ((pvS l).length)])] [(1601, 3, pvS l)]) ?_ ?_
    · exact wk_mk ⟨rfl, ⟨rfl, ⟨rfl, trivial⟩⟩⟩ ⟨rfl, trivial⟩ ⟨rfl, trivial⟩ rfl
    refine tr_region rfl (.run [] [] rfl (st_load_box rfl rfl rfl Try.isAgg26 Try.sizeOf26 (nle rfl)) (.run [] [] rfl (st_move rfl) (.run [] [] rfl (st_move rfl) (.run [1601, 2400, 2401, 2402] [] rfl (st_call rfl 2400 (X := []) en23 rfl (.val nod) (.cons (.agg (.cons (.bor .v) (.cons (.bor (.all (len := (pvS l).length) (xs := pvS l) rfl rfl (by decide))) .nil))) (.cons (.one (.bor .v)) (.cons (.one (.bor .v)) .nil))) (by decide) all_nil .nil (cachePut_con m l name size (by omega)) rfl rfl (nle rfl)) (.run [] [] rfl (st_move rfl) (.run [] [] rfl (st_extract rfl rfl rfl) (.run [] [] rfl (st_extract rfl rfl rfl) (.run [] [6] rfl (st_allocZ rfl 6 inf26 rfl (by decide) rfl (by decide)) (.run [] [] rfl (st_store_box rfl rfl rfl rfl rfl Try.sizeOf26 rfl (nle rfl)) (.run [] [] rfl (st_assign rfl) .nil)))))))))) ?_
    refine tr_seq ?_
    refine tr_wk (s' := mk [(3, .ptr 3 0), (4, .p none (.v (.string name))), (5, .p none (.v (.int .i64 size))), (6, .ptr 6 0), (7, .p none (.v (.bool ((putC m l name size).2.2))))] [(3, [.p none (.v (.int .i64 m)), .sl 1601 0 ((pvS l).length)]), (6, [.p none (.v (.int .i64 ((putC m l name size).1))), .sl 2401 0 ((pvS ((putC m l name size).2.1)).length)])] [(1601, 3, pvS l), (2401, 3, pvS ((putC m l name size).2.1))]) ?_ ?_
    · exact wk_mk ⟨rfl, ⟨rfl, ⟨rfl, ⟨rfl, ⟨rfl, trivial⟩⟩⟩⟩⟩ ⟨rfl, ⟨rfl, trivial⟩⟩ ⟨rfl, ⟨rfl, trivial⟩⟩ rfl
    refine tr_region rfl (.run [] [] rfl (st_load_box rfl rfl rfl Try.isAgg26 Try.sizeOf26 (nle rfl)) (.run [] [] rfl (st_move rfl) (.run [] [] rfl (st_move rfl) (.run [1601, 3100, 3101, 3102] [] rfl (st_call rfl 3100 (X := []) en22 rfl (.val nod) (.cons (.agg (.cons (.bor .v) (.cons (.bor (.all (len := (pvS l).length) (xs := pvS l) rfl rfl (by decide))) .nil))) (.cons (.one (.bor .v)) (.cons (.one (.bor .v)) .nil))) (by decide) all_nil .nil (specCachePut_con m l name size (by omega)) rfl rfl (nle rfl)) (.run [] [] rfl (st_move rfl) (.run [] [] rfl (st_extract rfl rfl rfl) (.run [] [] rfl (st_extract rfl rfl rfl) (.run [] [8] rfl (st_allocZ rfl 8 inf26 rfl (by decide) rfl (by decide)) (.run [] [] rfl (st_store_box rfl rfl rfl rfl rfl Try.sizeOf26 rfl (nle rfl)) (.run [] [] rfl (st_assign rfl) .nil)))))))))) ?_
    refine tr_seq ?_
    refine tr_seq ?_
    have hfl := put_len m l name size
    refine tr_wk (s' := mk [(3, .ptr 3 0), (4, .p none (.v (.string name))), (5, .p none (.v (.int .i64 size))), (6, .ptr 6 0), (7, .p none (.v (.bool ((putC m l name size).2.2)))), (8, .ptr 8 0), (9, .p none (.v (.bool ((putC m l name size).2.2))))] [(3, [.p none (.v (.int .i64 m)), .sl 1601 0 ((pvS l).length)]), (6, [.p none (.v (.int .i64 ((putC m l name size).1))), .sl 2401 0 ((pvS ((putC m l name size).2.1)).length)]), (8, [.p none (.v (.int .i64 ((putC m l name size).1))), .sl 3101 0 ((pvS ((putC m l name size).2.1)).length)])] [(1601, 3, pvS l), (2401, 3, pvS ((putC m l name size).2.1)), (3101, 3, pvS ((putC m l name size).2.1))]) ?_ ?_
    · exact wk_mk ⟨rfl, ⟨rfl, ⟨rfl, ⟨rfl, ⟨rfl, ⟨rfl, ⟨rfl, trivial⟩⟩⟩⟩⟩⟩⟩ ⟨rfl, ⟨rfl, ⟨rfl, trivial⟩⟩⟩ ⟨rfl, ⟨rfl, ⟨rfl, trivial⟩⟩⟩ rfl
    refine tr_region rfl (.run [] [] rfl (st_move rfl) (.run [] [] rfl (st_move rfl) (.run [] [] rfl (st_eq (st_bneq rfl rfl rfl Try.underlying4) (bool_eq (show (!(((putC m l name size).2.2) == ((putC m l name size).2.2))) = false from by simp))) (.run [] [] rfl (st_move rfl) (.run [] [] rfl (st_faddr_box rfl rfl Try.underlying26 rfl Try.sizeOf24 (by decide)) (.run [] [] rfl (st_load_box1 rfl rfl rfl Try.isAgg24 rfl) (.run [] [] rfl (st_faddr_box rfl rfl Try.underlying26 rfl Try.sizeOf24 (by decide)) (.run [] [] rfl (st_load_box1 rfl rfl rfl Try.isAgg24 rfl) (.run [2401, 3101, 4200] [] rfl (st_call rfl 4200 (X := []) en12 rfl (.val nod) (.cons (.one (.bor (.all (len := (pvS ((putC m l name size).2.1)).length) (xs := pvS ((putC m l name size).2.1)) rfl rfl (by decide)))) (.cons (.one (.bor (.all (len := (pvS ((putC m l name size).2.1)).length) (xs := pvS ((putC m l name size).2.1)) rfl rfl (by decide)))) .nil)) (by decide) all_nil .nil (sameSlots_self ((putC m l name size).2.1) (by first | omega | (simp only [List.length_cons]; omega))) rfl rfl (nle rfl)) (.run [] [] rfl (st_not (b := true) rfl rfl) (.run [] [] rfl (st_pick (t := false) rfl rfl) (.run [] [] rfl (st_move rfl) (.run [] [] rfl (st_load_box rfl rfl rfl Try.isAgg26 Try.sizeOf26 (nle rfl)) (.run [1601, 4700] [] rfl (st_call rfl 4700 (X := []) en25 rfl (.val nod) (.cons (.agg (.cons (.bor .v) (.cons (.bor (.all (len := (pvS l).length) (xs := pvS l) rfl rfl (by decide))) .nil))) .nil) (by decide) all_nil .nil (specCacheOk_con m l (by omega)) rfl rfl (nle rfl)) (.run [] [] rfl (st_not (b := okC m l) rfl rfl) (.run [] [] rfl (st_pick (t := false) rfl rfl) .nil)))))))))))))))) ?_
    refine tr_if (t := (!(okC m l))) rfl (fun h2 => ?_) (fun h2 => ?_)
    · skip
      replace h2 : okC m l = false := by simpa using h2
      refine tr_seq ?_
      refine tr_wk (s' := mk [(6, .ptr 6 0), (7, .p none (.v (.bool ((putC m l name size).2.2)))), (8, .ptr 8 0), (9, .p none (.v (.bool ((putC m l name size).2.2))))] [(6, [.p none (.v (.int .i64 ((putC m l name size).1))), .sl 2401 0 ((pvS ((putC m l name size).2.1)).length)]), (8, [.p none (.v (.int .i64 ((putC m l name size).1))), .sl 3101 0 ((pvS ((putC m l name size).2.1)).length)])] [(2401, 3, pvS ((putC m l name size).2.1)), (3101, 3, pvS ((putC m l name size).2.1))]) ?_ ?_
      · exact wk_mk ⟨rfl, ⟨rfl, ⟨rfl, ⟨rfl, trivial⟩⟩⟩⟩ ⟨rfl, ⟨rfl, trivial⟩⟩ ⟨rfl, ⟨rfl, trivial⟩⟩ rfl
      refine tr_region rfl (.run [] [] rfl (st_move rfl) (.run [] [] rfl (st_move rfl) (.run [] [] rfl (st_eq (st_beql rfl rfl rfl Try.underlying4) (bool_eq (show (((putC m l name size).2.2) == ((putC m l name size).2.2)) = true from by simp))) (.run [] [] rfl (st_move rfl) (.run [] [] rfl (st_faddr_box rfl rfl Try.underlying26 rfl Try.sizeOf24 (by decide)) (.run [] [] rfl (st_load_box1 rfl rfl rfl Try.isAgg24 rfl) (.run [] [] rfl (st_faddr_box rfl rfl Try.underlying26 rfl Try.sizeOf24 (by decide)) (.run [] [] rfl (st_load_box1 rfl rfl rfl Try.isAgg24 rfl) (.run [2401, 3101, 5800] [] rfl (st_call rfl 5800 (X := []) en12 rfl (.val nod) (.cons (.one (.bor (.all (len := (pvS ((putC m l name size).2.1)).length) (xs := pvS ((putC m l name size).2.1)) rfl rfl (by decide)))) (.cons (.one (.bor (.all (len := (pvS ((putC m l name size).2.1)).length) (xs := pvS ((putC m l name size).2.1)) rfl rfl (by decide)))) .nil)) (by decide) all_nil .nil (sameSlots_self ((putC m l name size).2.1) (by first | omega | (simp only [List.length_cons]; omega))) rfl rfl (nle rfl)) (.run [] [] rfl (st_pick (t := true) rfl rfl) (.run [] [] rfl (st_assign rfl) .nil))))))))))) ?_
      refine tr_ret ?_
      exact ends [_] [] (.cons (.tmp rfl) .nil) (.cons (.one .v (.v _)) .nil) (by decide) trivial
    · skip
      replace h2 : okC m l = true := by simpa using h2
      refine tr_skip ?_
      refine tr_seq ?_
      refine tr_seq ?_
      have hok : okC m l = true := h2
      refine tr_wk (s' := mk [(3, .ptr 3 0), (4, .p none (.v (.string name))), (5, .p none (.v (.int .i64 size))), (6, .ptr 6 0), (7, .p none (.v (.bool ((putC m l name size).2.2))))] [(3, [.p none (.v (.int .i64 m)), .sl 1601 0 ((pvS l).length)]), (6, [.p none (.v (.int .i64 ((putC m l name size).1))), .sl 2401 0 ((pvS ((putC m l name size).2.1)).length)])] [(1601, 3, pvS l), (2401, 3, pvS ((putC m l name size).2.1))]) ?_ ?_
      · exact wk_mk ⟨rfl, ⟨rfl, ⟨rfl, ⟨rfl, ⟨rfl, trivial⟩⟩⟩⟩⟩ ⟨rfl, ⟨rfl, trivial⟩⟩ ⟨rfl, ⟨rfl, trivial⟩⟩ rfl
      refine tr_region rfl (.run [] [] rfl (st_move rfl) (.run [] [] rfl (st_not (b := (putC m l name size).2.2) rfl rfl) .nil)) ?_
      refine tr_if (t := (!((putC m l name size).2.2))) rfl (fun h3 => ?_) (fun h3 => ?_)
      · skip
        replace h3 : (putC m l name size).2.2 = false := by simpa using h3
        refine tr_seq ?_
        rw [put_false hok h3]
        refine tr_region rfl (.run [] [] rfl (st_faddr_box rfl rfl Try.underlying26 rfl Try.sizeOf24 (by decide)) (.run [] [] rfl (st_load_box1 rfl rfl rfl Try.isAgg24 rfl) (.run [] [] rfl (st_faddr_box rfl rfl Try.underlying26 rfl Try.sizeOf24 (by decide)) (.run [] [] rfl (st_load_box1 rfl rfl rfl Try.isAgg24 rfl) (.run [1601, 2401, 6600] [] rfl (st_call rfl 6600 (X := []) en12 rfl (.val nod) (.cons (.one (.bor (.all (len := (pvS l).length) (xs := pvS l) rfl rfl (by decide)))) (.cons (.one (.bor (.all (len := (pvS l).length) (xs := pvS l) rfl rfl (by decide)))) .nil)) (by decide) all_nil .nil (sameSlots_self l (by first | omega | (simp only [List.length_cons]; omega))) rfl rfl (nle rfl)) (.run [] [] rfl (st_move rfl) (.run [] [] rfl (st_faddr_box rfl rfl Try.underlying26 rfl Try.sizeOf2 (by decide)) (.run [] [] rfl (st_load_box1 rfl rfl rfl Try.isAgg2 rfl) (.run [] [] rfl (st_faddr_box rfl rfl Try.underlying26 rfl Try.sizeOf2 (by decide)) (.run [] [] rfl (st_load_box1 rfl rfl rfl Try.isAgg2 rfl) (.run [] [] rfl (st_eq (st_eql rfl rfl rfl) (bool_eq (decide_eq_true (by simp)))) (.run [] [] rfl (st_pick (t := true) rfl rfl) (.run [] [] rfl (st_assign rfl) .nil))))))))))))) ?_
        refine tr_ret ?_
        exact ends [_] [] (.cons (.tmp rfl) .nil) (.cons (.one .v (.v _)) .nil) (by decide) trivial
      · skip
        replace h3 : (putC m l name size).2.2 = true := by simpa using h3
        refine tr_skip ?_
        refine tr_seq ?_
        refine tr_seq ?_
        obtain ⟨rest, _, hpc, hoka, hgc, hokb⟩ := put_true h3
        rw [hpc]
        have hla : (pvS (⟨name, size, 1⟩ :: rest)).length = rest.length + 1 := by simp [pvS]
        have hlb : (pvS (⟨name, size, 2⟩ :: rest)).length = rest.length + 1 := by simp [pvS]
        have hkl := okC_len hoka
        simp only [List.length_cons] at hkl
        refine tr_wk (s' := mk [(4, .p none (.v (.string name))), (5, .p none (.v (.int .i64 size))), (6, .ptr 6 0)] [(6, [.p none (.v (.int .i64 m)), .sl 2401 0 ((pvS (⟨name, size, 1⟩ :: rest)).length)])] [(2401, 3, pvS (⟨name, size, 1⟩ :: rest))]) ?_ ?_
        · exact wk_mk ⟨rfl, ⟨rfl, ⟨rfl, trivial⟩⟩⟩ ⟨rfl, trivial⟩ ⟨rfl, trivial⟩ rfl
        rcases bfc (decide (((pvS (⟨name, size, 1⟩ :: rest)).length : Int) < 1)) with h4 | h4
        · have h4' := h4
          replace h4' := of_decide_eq_false h4'
          refine tr_region rfl (.run [] [] rfl (st_load_box rfl rfl rfl Try.isAgg26 Try.sizeOf26 (nle rfl)) (.run [2401, 7500] [] rfl (st_call rfl 7500 (X := []) en13 rfl (.val nod) (.cons (.agg (.cons (.bor .v) (.cons (.bor (.all (len := (pvS (⟨name, size, 1⟩ :: rest)).length) (xs := pvS (⟨name, size, 1⟩ :: rest)) rfl rfl (by decide))) .nil))) .nil) (by decide) all_nil .nil ((by have h := cacheOk_con m (⟨name, size, 1⟩ :: rest) (by simp only [List.length_cons]; omega); rw [hoka] at h; exact h)) rfl rfl (nle rfl)) (.run [] [] rfl (st_not (b := true) rfl rfl) (.run [] [] rfl (st_move rfl) (.run [] [] rfl (st_faddr_box rfl rfl Try.underlying26 rfl Try.sizeOf24 (by decide)) (.run [] [] rfl (st_load_box1 rfl rfl rfl Try.isAgg24 rfl) (.run [] [] rfl (st_len_row rfl rfl Try.underlying24) (.run [] [] rfl (st_eq (st_lss rfl rfl rfl) (congrArg (fun b => AV.p none (.v (.bool b))) h4)) (.run [] [] rfl (st_pick (t := false) rfl rfl) (.run [] [] rfl (st_move rfl) (.run [] [] rfl (st_faddr_box rfl rfl Try.underlying26 rfl Try.sizeOf24 (by decide)) (.run [] [] rfl (st_load_box1 rfl rfl rfl Try.isAgg24 rfl) (.run [] [] rfl (st_idx_row0 0 rfl rfl rfl rfl Try.underlying24 Try.sizeOf33 rfl rfl (by omega)) (.run [] [] rfl (st_load_ea rfl rfl rfl rfl Try.isAgg33 Try.sizeOf33 (nle rfl)) (.run [] [] rfl (st_move rfl) (.run [] [] rfl (st_move rfl) (.run [] [] rfl (st_build (pl := [(0, 1), (1, 1), (2, 1)]) rfl Try.underlying33 inf33 (by kernel_rfl) rfl rfl) (.run [] [] rfl (st_eq (st_aneq rfl rfl rfl rfl rfl Try.eqGuardType33 (fun w => slot_eqIn (⟨name, size, 1⟩ : Slot) (⟨name, size, 1⟩ : Slot) w)) (bool_eq (congrArg Bool.not (decide_eq_true (by simp))))) (.run [] [] rfl (st_pick (t := false) rfl rfl) .nil))))))))))))))))))) ?_
          refine tr_if (t := false) rfl (fun h => nomatch h) (fun _ => ?_)
          refine tr_skip ?_
          refine tr_seq ?_
          refine tr_wk (s' := mk [(4, .p none (.v (.string name))), (6, .ptr 6 0)] [(6, [.p none (.v (.int .i64 m)), .sl 2401 0 ((pvS (⟨name, size, 1⟩ :: rest)).length)])] [(2401, 3, pvS (⟨name, size, 1⟩ :: rest))]) ?_ ?_
          · exact wk_mk ⟨rfl, ⟨rfl, trivial⟩⟩ ⟨rfl, trivial⟩ ⟨rfl, trivial⟩ rfl
          refine tr_region rfl (.run [] [] rfl (st_load_box rfl rfl rfl Try.isAgg26 Try.sizeOf26 (nle rfl)) (.run [] [] rfl (st_move rfl) (.run [2401, 9600, 9601, 9602] [] rfl (st_call rfl 9600 (X := []) en21 rfl (.val nod) (.cons (.agg (.cons (.bor .v) (.cons (.bor (.all (len := (pvS (⟨name, size, 1⟩ :: rest)).length) (xs := pvS (⟨name, size, 1⟩ :: rest)) rfl rfl (by decide))) .nil))) (.cons (.one (.bor .v)) .nil)) (by decide) all_nil .nil ((by have h := cacheGet_con m (⟨name, size, 1⟩ :: rest) name (by simp only [List.length_cons]; omega); rw [hgc] at h; exact h)) rfl rfl (nle rfl)) (.run [] [] rfl (st_move rfl) (.run [] [] rfl (st_extract rfl rfl rfl) (.run [] [] rfl (st_extract rfl rfl rfl) (.run [] [10] rfl (st_allocZ rfl 10 inf26 rfl (by decide) rfl (by decide)) (.run [] [] rfl (st_store_box rfl rfl rfl rfl rfl Try.sizeOf26 rfl (nle rfl)) (.run [] [] rfl (st_assign rfl) .nil))))))))) ?_
          refine tr_seq ?_
          refine tr_wk (s' := mk [(4, .p none (.v (.string name))), (6, .ptr 6 0), (10, .ptr 10 0), (11, .p none (.v (.bool true)))] [(6, [.p none (.v (.int .i64 m)), .sl 2401 0 ((pvS (⟨name, size, 1⟩ :: rest)).length)]), (10, [.p none (.v (.int .i64 m)), .sl 9601 0 ((pvS (⟨name, size, 2⟩ :: rest)).length)])] [(2401, 3, pvS (⟨name, size, 1⟩ :: rest)), (9601, 3, pvS (⟨name, size, 2⟩ :: rest))]) ?_ ?_
          · exact wk_mk ⟨rfl, ⟨rfl, ⟨rfl, ⟨rfl, trivial⟩⟩⟩⟩ ⟨rfl, ⟨rfl, trivial⟩⟩ ⟨rfl, ⟨rfl, trivial⟩⟩ rfl
          rcases bfc (decide (((pvS (⟨name, size, 2⟩ :: rest)).length : Int) = ((pvS (⟨name, size, 1⟩ :: rest)).length : Int))) with h5 | h5
          · have h5' := h5
            replace h5' := of_decide_eq_false h5'
            omega
          · have h5' := h5
            replace h5' := of_decide_eq_true h5'
            refine tr_regionD mixed rfl (.run [] [] rfl (st_move rfl) (.run [] [] rfl (st_move rfl) (.run [] [] rfl (st_load_box rfl rfl rfl Try.isAgg26 Try.sizeOf26 (nle rfl)) (.run [9601, 10200] [] rfl (st_call rfl 10200 (X := []) en13 rfl (.val nod) (.cons (.agg (.cons (.bor .v) (.cons (.bor (.all (len := (pvS (⟨name, size, 2⟩ :: rest)).length) (xs := pvS (⟨name, size, 2⟩ :: rest)) rfl rfl (by decide))) .nil))) .nil) (by decide) all_nil .nil ((by have h := cacheOk_con m (⟨name, size, 2⟩ :: rest) (by simp only [List.length_cons]; omega); rw [hokb] at h; exact h)) rfl rfl (nle rfl)) (.run [] [] rfl (st_pick (t := true) rfl rfl) (.run [] [] rfl (st_move rfl) (.run [] [] rfl (st_faddr_box rfl rfl Try.underlying26 rfl Try.sizeOf24 (by decide)) (.run [] [] rfl (st_load_box1 rfl rfl rfl Try.isAgg24 rfl) (.run [] [] rfl (st_idx_row0 0 rfl rfl rfl rfl Try.underlying24 Try.sizeOf33 rfl rfl (by omega)) (.run [] [] rfl (st_faddr_ea rfl rfl Try.underlying33 rfl Try.sizeOf2 (by decide)) (.run [] [] rfl (st_load_ea1 rfl rfl rfl rfl Try.isAgg2 rfl) (.run [] [] rfl (st_eq (st_eql rfl rfl rfl) (bool_eq (decide_eq_true (by simp)))) (.run [] [] rfl (st_pick (t := true) rfl rfl) (.run [] [] rfl (st_move rfl) (.run [] [] rfl (st_faddr_box rfl rfl Try.underlying26 rfl Try.sizeOf24 (by decide)) (.run [] [] rfl (st_load_box1 rfl rfl rfl Try.isAgg24 rfl) (.run [] [] rfl (st_idx_row0 0 rfl rfl rfl rfl Try.underlying24 Try.sizeOf33 rfl rfl (by omega)) (.run [] [] rfl (st_faddr_ea rfl rfl Try.underlying33 rfl Try.sizeOf9 (by decide)) (.run [] [] rfl (st_load_ea1 rfl rfl rfl rfl Try.isAgg9 rfl) (.run [] [] rfl (st_move rfl) (.run [] [] rfl (st_eq (st_seql rfl rfl rfl) (bool_eq (decide_eq_true (by simp)))) (.run [] [] rfl (st_pick (t := true) rfl rfl) (.run [] [] rfl (st_move rfl) (.run [] [] rfl (st_faddr_box rfl rfl Try.underlying26 rfl Try.sizeOf24 (by decide)) (.run [] [] rfl (st_load_box1 rfl rfl rfl Try.isAgg24 rfl) (.run [] [] rfl (st_len_row rfl rfl Try.underlying24) (.run [] [] rfl (st_faddr_box rfl rfl Try.underlying26 rfl Try.sizeOf24 (by decide)) (.run [] [] rfl (st_load_box1 rfl rfl rfl Try.isAgg24 rfl) (.run [] [] rfl (st_len_row rfl rfl Try.underlying24) (.run [] [] rfl (st_eq (st_eql rfl rfl rfl) (congrArg (fun b => AV.p none (.v (.bool b))) h5)) (.run [] [] rfl (st_pick (t := true) rfl rfl) (.run [] [] rfl (st_move rfl) (.run [] [] rfl (st_load_box rfl rfl rfl Try.isAgg26 Try.sizeOf26 (nle rfl)) (.run [9601, 13200] [] rfl (st_call rfl 13200 (X := []) en14 rfl (.val nod) (.cons (.agg (.cons (.bor .v) (.cons (.bor (.all (len := (pvS (⟨name, size, 2⟩ :: rest)).length) (xs := pvS (⟨name, size, 2⟩ :: rest)) rfl rfl (by decide))) .nil))) .nil) (by decide) all_nil .nil (cacheUsed_con m (⟨name, size, 2⟩ :: rest) (by simp only [List.length_cons]; omega) hokb) rfl rfl (nle rfl)) (.run [] [] rfl (st_load_box rfl rfl rfl Try.isAgg26 Try.sizeOf26 (nle rfl)) (.run [2401, 13400] [] rfl (st_call rfl 13400 (X := []) en14 rfl (.val nod) (.cons (.agg (.cons (.bor .v) (.cons (.bor (.all (len := (pvS (⟨name, size, 1⟩ :: rest)).length) (xs := pvS (⟨name, size, 1⟩ :: rest)) rfl rfl (by decide))) .nil))) .nil) (by decide) all_nil .nil (cacheUsed_con m (⟨name, size, 1⟩ :: rest) (by simp only [List.length_cons]; omega) hoka) rfl rfl (nle rfl)) (.run [] [] rfl (st_eql rfl rfl rfl) (.run [] [] rfl (st_pick (t := true) rfl rfl) (.run [] [] rfl (st_assign rfl) .nil))))))))))))))))))))))))))))))))))))))) (by kernel_rfl) ?_
            refine tr_ret ?_
            exact ends [_] [] (.cons (.tmp (bool_eq (decide_eq_true rfl))) .nil) (.cons (.one .v (.v _)) .nil) (by decide) trivial
        · have h4' := h4
          replace h4' := of_decide_eq_true h4'
          omega
end Go.Rl

/- Promises of functions, proved by walks over their operations; no conditions beyond those that each theorem states. -/
import Derived.Test.YtmjfdldfaeaolaaRdL
namespace Go.Rl
open Go.Proofs
theorem en47 : ∀ vs w, (callFunc 47 vs).run Try.prog w = .ok (.enter 47 vs) w := enters Try.func47 (by decide) rfl
theorem en16 : ∀ vs w, (callFunc 16 vs).run Try.prog w = .ok (.enter 16 vs) w := enters Try.func16 (by decide) rfl
theorem en19 : ∀ vs w, (callFunc 19 vs).run Try.prog w = .ok (.enter 19 vs) w := enters Try.func19 (by decide) rfl
theorem do_named {f : Nat} {A : List PA} {d : Dsk} {op : DOp} {x : Dsk × Int} (h : doF d op = x) (hc : Con Try.prog f A [] [.agg [.sl true 2 (pvF (doF d op).1.live), .sl true 2 (pvF (doF d op).1.safe), .sl true 4 (pvD (doF d op).1.ops)], .one (.v (.int .i64 (doF d op).2))]) : Con Try.prog f A [] [.agg [.sl true 2 (pvF x.1.live), .sl true 2 (pvF x.1.safe), .sl true 4 (pvD x.1.ops)], .one (.v (.int .i64 x.2))] := by
  subst h
  exact hc
theorem same_named {f : Nat} {A : List PA} {a b : List Fil} (h : a = b) (hc : Con Try.prog f A [] [.one (.v (.bool (decide (a = b))))]) : Con Try.prog f A [] [.one (.v (.bool true))] := by
  subst h
  simpa using hc
set_option maxRecDepth 1000000 in
set_option maxHeartbeats 2000000 in
theorem drawDo_con {γ : Gho} {cv : Value} {bs : List Nat} (hc : CodeAt γ cv bs) (hl : bs.length ≤ 1152921504606846976) : ConSG γ Try.prog 16 [.one (PV.v (cv))] [] [.agg [.sl false 2 (pvF (drawDoV bs).1.live), .sl false 2 (pvF (drawDoV bs).1.safe), .sl false 4 (pvD (drawDoV bs).1.ops)], .agg [.v (.int .i64 (drawDoV bs).2.kind), .v (.string (drawDoV bs).2.name), .v (.string (drawDoV bs).2.dest), .v (.string (drawDoV bs).2.data)]] := by
  refine con_of_trSG Try.func16 rfl rfl rfl rfl ?_
  refine tr_seq ?_
  refine tr_region rfl (.run [] [2] rfl (st_allocZ rfl 2 inf27 rfl (by decide) rfl (by decide)) (.run [] [3] rfl (st_allocZ rfl 3 inf36 rfl (by decide) rfl (by decide)) .nil)) ?_
  refine tr_seq ?_
  refine tr_region rfl (.run [] [] rfl (st_move rfl) (.run [1100] [] rfl (st_callG (.inr rfl) rfl 1100 (X := []) en31 rfl (.val nod) (.cons (.one (.bor .v)) .nil) (by decide) all_nil .nil (open_con cv) rfl rfl (nle rfl)) (.run [] [] rfl (st_assign rfl) .nil))) ?_
  refine tr_seq ?_
  refine tr_region rfl (.run [] [] rfl (st_move rfl) (.run [1100, 1300, 1301, 1302] [] rfl (st_callSG (.inr rfl) rfl 1300 (X := [1100]) en32 rfl (.cons (.rptr rfl) .nil) (by decide) (all_cons rfl all_nil) (.keep (xs := pvRd (cv, 0)) rfl (FlatP.nf (pvRd_flat _)) .nil) (disk_con hc hl 0 (Nat.zero_le _)) rfl (nle rfl)) (.run [] [5] rfl (st_allocZ rfl 5 inf27 rfl (by decide) rfl (by decide)) (.run [] [] rfl (st_store_box rfl rfl rfl rfl rfl Try.sizeOf27 rfl (nle rfl)) .nil)))) ?_
  refine tr_seq ?_
  have hd0 := diskV_ok (bs := bs) (p := 0) (Nat.zero_le _)
  have hp0 := hd0.2
  have hb20 := belowV_lt (bs := bs) (p := (dopP bs (diskV bs 0).2)) (n := 20) (by decide)
  refine tr_region rfl (.run [] [] rfl (st_move rfl) (.run [1100, 1500, 1501, 1502, 1503] [] rfl (st_callG (.inr rfl) rfl 1500 (X := [1100]) en45 rfl (.val nod) (.cons (.rptr rfl) .nil) (by decide) (all_cons rfl all_nil) (.keep (xs := pvRd (cv, (diskV bs 0).2)) rfl (FlatP.nf (pvRd_flat _)) .nil) (dop_con hc hl ((diskV bs 0).2) (diskV_ok (Nat.zero_le _)).2) rfl rfl (nle rfl)) (.run [] [6] rfl (st_allocZ rfl 6 inf36 rfl (by decide) rfl (by decide)) (.run [] [] rfl (st_store_box rfl rfl rfl rfl rfl Try.sizeOf36 rfl (nle rfl)) .nil)))) ?_
  refine tr_seq ?_
  refine tr_seq ?_
  refine tr_region rfl (.run [] [] rfl (st_move rfl) (.run [1100, 1700] [] rfl (st_callG (.inr rfl) rfl 1700 (X := [1100]) en46 rfl (.val nod) (.cons (.rptr rfl) (.cons (.one (.bor .v)) .nil)) (by decide) (all_cons rfl all_nil) (.keep (xs := pvRd (cv, dopP bs ((diskV bs 0).2))) rfl (FlatP.nf (pvRd_flat _)) .nil) (below_con hc hl (dopP bs ((diskV bs 0).2)) (dopP_le (diskV_ok (Nat.zero_le _)).2) 20 (by omega)) rfl rfl (nle rfl)) .nil)) ?_
  refine tr_block ?_
  refine tr_seq ?_
  refine tr_wk (s' := mk [(2, .ptr 2 0), (3, .ptr 3 0), (4, .ea 1100 0 0), (5, .ptr 5 0), (6, .ptr 6 0), (17, .p none (.v (.int .i64 ((belowV bs (dopP bs ((diskV bs 0).2)) 20 : Nat) : Int))))] [(2, [.nils, .nils, .nils]), (3, [.p none (.v (.int .i64 0)), .p none (.v (.string ⟨#[]⟩)), .p none (.v (.string ⟨#[]⟩)), .p none (.v (.string ⟨#[]⟩))]), (5, [.p none (.sl false 2 (pvF (diskV bs 0).1.live)), .p none (.sl false 2 (pvF (diskV bs 0).1.safe)), .p none (.sl false 4 (pvD (diskV bs 0).1.ops))]), (6, [.p none (.v (.int .i64 ((dopV bs ((diskV bs 0).2)).kind))), .p none (.v (.string ((dopV bs ((diskV bs 0).2)).name))), .p none (.v (.string ((dopV bs ((diskV bs 0).2)).dest))), .p none (.v (.string ((dopV bs ((diskV bs 0).2)).data)))])] [(1100, 2, pvRd (cv, belowP bs (dopP bs ((diskV bs 0).2)) 20))]) ?_ ?_
  · exact wk_mk ⟨rfl, ⟨rfl, ⟨rfl, ⟨rfl, ⟨rfl, ⟨rfl, trivial⟩⟩⟩⟩⟩⟩ ⟨rfl, ⟨rfl, ⟨rfl, ⟨rfl, trivial⟩⟩⟩⟩ ⟨rfl, trivial⟩ rfl
  refine tr_region rfl (.run [] [] rfl (st_eql rfl rfl rfl) (.run [] [] rfl (st_assign rfl) .nil)) ?_
  refine tr_if (t := decide (((belowV bs (dopP bs ((diskV bs 0).2)) 20 : Nat) : Int) = 0)) rfl (fun h1 => ?_) (fun h1 => ?_)
  · skip
    replace h1 := of_decide_eq_true h1
    refine tr_region rfl (.run [] [] rfl (st_move rfl) (.run [1100, 2100] [] rfl (st_callG (.inr rfl) rfl 2100 (X := [1100]) en47 rfl (.val nod) (.cons (.rptr rfl) (.cons (.one (.bor .v)) (.cons (.one (.bor .v)) .nil))) (by decide) (all_cons rfl all_nil) (.keep (xs := pvRd (cv, belowP bs (dopP bs ((diskV bs 0).2)) 20)) rfl (FlatP.nf (pvRd_flat _)) .nil) (off_con hc hl (belowP bs (dopP bs ((diskV bs 0).2)) 20) (belowP_le (dopP_le (diskV_ok (Nat.zero_le _)).2)) 1 3 (by omega) (by omega)) rfl rfl (nle rfl)) (.run [] [] rfl (st_faddr_box rfl rfl Try.underlying36 rfl Try.sizeOf2 (by decide)) (.run [] [] rfl (st_store_box rfl rfl rfl rfl rfl Try.sizeOf2 rfl (nle rfl)) .nil)))) ?_
    refine tr_seq ?_
    have hdv : drawDoV bs = ddTail bs (diskV bs 0).1 (dopV bs (diskV bs 0).2) (dopP bs (diskV bs 0).2) := rfl
    rw [ddt_0 (by show belowV bs (dopP bs (diskV bs 0).2) 20 = 0; omega)] at hdv
    rw [hdv]
    refine tr_regionD mixed rfl (.run [] [] rfl (st_load_box rfl rfl rfl Try.isAgg27 Try.sizeOf27 (nle rfl)) (.run [] [] rfl (st_load_box rfl rfl rfl Try.isAgg36 Try.sizeOf36 (nle rfl)) (.run [] [] rfl (st_store_box rfl rfl rfl rfl rfl Try.sizeOf27 rfl (nle rfl)) (.run [] [] rfl (st_store_box rfl rfl rfl rfl rfl Try.sizeOf36 rfl (nle rfl)) .nil)))) (by kernel_rfl) ?_
    refine tr_ret ?_
    exact endsSG [_, _] [] (.cons (.cell rfl rfl Try.isAgg27 Try.sizeOf27 (nle rfl)) (.cons (.cell rfl rfl Try.isAgg36 Try.sizeOf36 (nle rfl)) .nil)) (.cons (.agg (.cons (.of .fro) (.cons (.of .fro) (.cons (.of .fro) .nil)))) (.cons (.agg (.cons (.of .v) (.cons (.of .v) (.cons (.of .v) (.cons (.of .v) .nil))))) .nil)) (by decide) trivial
  · skip
    replace h1 := of_decide_eq_false h1
    refine tr_seq ?_
    refine tr_region rfl (.run [] [] rfl (st_eql rfl rfl rfl) (.run [] [] rfl (st_assign rfl) .nil)) ?_
    refine tr_if (t := decide (((belowV bs (dopP bs ((diskV bs 0).2)) 20 : Nat) : Int) = 1)) rfl (fun h2 => ?_) (fun h2 => ?_)
    · skip
      replace h2 := of_decide_eq_true h2
      refine tr_region rfl (.run [] [] rfl (st_faddr_box rfl rfl Try.underlying36 rfl Try.sizeOf9 (by decide)) (.run [] [] rfl (st_store_box rfl rfl rfl rfl rfl Try.sizeOf9 rfl (nle rfl)) .nil)) ?_
      refine tr_seq ?_
      have hdv : drawDoV bs = ddTail bs (diskV bs 0).1 (dopV bs (diskV bs 0).2) (dopP bs (diskV bs 0).2) := rfl
      rw [ddt_1 (by show belowV bs (dopP bs (diskV bs 0).2) 20 = 1; omega)] at hdv
      rw [hdv]
      refine tr_regionD mixed rfl (.run [] [] rfl (st_load_box rfl rfl rfl Try.isAgg27 Try.sizeOf27 (nle rfl)) (.run [] [] rfl (st_load_box rfl rfl rfl Try.isAgg36 Try.sizeOf36 (nle rfl)) (.run [] [] rfl (st_store_box rfl rfl rfl rfl rfl Try.sizeOf27 rfl (nle rfl)) (.run [] [] rfl (st_store_box rfl rfl rfl rfl rfl Try.sizeOf36 rfl (nle rfl)) .nil)))) (by kernel_rfl) ?_
      refine tr_ret ?_
      exact endsSG [_, _] [] (.cons (.cell rfl rfl Try.isAgg27 Try.sizeOf27 (nle rfl)) (.cons (.cell rfl rfl Try.isAgg36 Try.sizeOf36 (nle rfl)) .nil)) (.cons (.agg (.cons (.of .fro) (.cons (.of .fro) (.cons (.of .fro) .nil)))) (.cons (.agg (.cons (.of .v) (.cons (.of .v) (.cons (.of .v) (.cons (.of .v) .nil))))) .nil)) (by decide) trivial
    · skip
      replace h2 := of_decide_eq_false h2
      refine tr_seq ?_
      refine tr_region rfl (.run [] [] rfl (st_eql rfl rfl rfl) (.run [] [] rfl (st_assign rfl) .nil)) ?_
      refine tr_if (t := decide (((belowV bs (dopP bs ((diskV bs 0).2)) 20 : Nat) : Int) = 2)) rfl (fun h3 => ?_) (fun h3 => ?_)
      · skip
        replace h3 := of_decide_eq_true h3
        refine tr_region rfl (.run [] [] rfl (st_faddr_box rfl rfl Try.underlying36 rfl Try.sizeOf9 (by decide)) (.run [] [] rfl (st_store_box rfl rfl rfl rfl rfl Try.sizeOf9 rfl (nle rfl)) .nil)) ?_
        refine tr_seq ?_
        have hdv : drawDoV bs = ddTail bs (diskV bs 0).1 (dopV bs (diskV bs 0).2) (dopP bs (diskV bs 0).2) := rfl
        rw [ddt_2 (by show belowV bs (dopP bs (diskV bs 0).2) 20 = 2; omega)] at hdv
        rw [hdv]
        refine tr_regionD mixed rfl (.run [] [] rfl (st_load_box rfl rfl rfl Try.isAgg27 Try.sizeOf27 (nle rfl)) (.run [] [] rfl (st_load_box rfl rfl rfl Try.isAgg36 Try.sizeOf36 (nle rfl)) (.run [] [] rfl (st_store_box rfl rfl rfl rfl rfl Try.sizeOf27 rfl (nle rfl)) (.run [] [] rfl (st_store_box rfl rfl rfl rfl rfl Try.sizeOf36 rfl (nle rfl)) .nil)))) (by kernel_rfl) ?_
        refine tr_ret ?_
        exact endsSG [_, _] [] (.cons (.cell rfl rfl Try.isAgg27 Try.sizeOf27 (nle rfl)) (.cons (.cell rfl rfl Try.isAgg36 Try.sizeOf36 (nle rfl)) .nil)) (.cons (.agg (.cons (.of .fro) (.cons (.of .fro) (.cons (.of .fro) .nil)))) (.cons (.agg (.cons (.of .v) (.cons (.of .v) (.cons (.of .v) (.cons (.of .v) .nil))))) .nil)) (by decide) trivial
      · skip
        replace h3 := of_decide_eq_false h3
        refine tr_seq ?_
        refine tr_region rfl (.run [] [] rfl (st_eql rfl rfl rfl) (.run [] [] rfl (st_assign rfl) .nil)) ?_
        refine tr_if (t := decide (((belowV bs (dopP bs ((diskV bs 0).2)) 20 : Nat) : Int) = 3)) rfl (fun h4 => ?_) (fun h4 => ?_)
        · skip
          replace h4 := of_decide_eq_true h4
          refine tr_seq ?_
          refine tr_region rfl (.run [] [] rfl (st_assign rfl) .nil) ?_
          refine tr_block ?_
-- entry row 1100: pvRd (cv, (belowP bs (dopP bs (diskV bs 0).2) 20)) now pvRd (cv, belowP bs (dopP bs (diskV bs 0).2) 20)
          refine tr_loopS (σ := Nat × Dsk × Nat) (fun (i, x, q) => mk [(2, .ptr 2 0), (3, .ptr 3 0), (4, .ea 1100 0 0), (5, .ptr 5 0), (6, .ptr 6 0), (7, .p none (.v (.int .i64 (i:Int))))] [(2, [.nils, .nils, .nils]), (3, [.p none (.v (.int .i64 0)), .p none (.v (.string ⟨#[]⟩)), .p none (.v (.string ⟨#[]⟩)), .p none (.v (.string ⟨#[]⟩))]), (5, [.p none (.sl false 2 (pvF x.live)), .p none (.sl false 2 (pvF x.safe)), .p none (.sl false 4 (pvD x.ops))]), (6, [.p none (.v (.int .i64 ((dopV bs ((diskV bs 0).2)).kind))), .p none (.v (.string ((dopV bs ((diskV bs 0).2)).name))), .p none (.v (.string ((dopV bs ((diskV bs 0).2)).dest))), .p none (.v (.string ((dopV bs ((diskV bs 0).2)).data)))])] [(1100, 2, pvRd (cv, q))]) (fun (i, x, q) => i ≤ 200 ∧ DrE x ∧ q ≤ bs.length ∧ ddLoop bs (200 - i) (x, q) = ddLoop bs 200 ((diskV bs 0).1, belowP bs (dopP bs (diskV bs 0).2) 20)) (fun (i, x, q) => 200 - i) (0, (diskV bs 0).1, belowP bs (dopP bs (diskV bs 0).2) 20) ⟨Nat.zero_le _, hd0.1, belowP_le (dopP_le hd0.2), rfl⟩ (wk_mk ⟨rfl, ⟨rfl, ⟨rfl, ⟨rfl, ⟨rfl, ⟨(int_eq (by omega)), trivial⟩⟩⟩⟩⟩⟩ ⟨rfl, ⟨rfl, ⟨rfl, ⟨rfl, trivial⟩⟩⟩⟩ ⟨rfl, trivial⟩ rfl) ?_
          rintro ⟨i, x, q⟩ hG
          replace hG : i ≤ 200 ∧ DrE x ∧ q ≤ bs.length ∧ ddLoop bs (200 - i) (x, q) = ddLoop bs 200 ((diskV bs 0).1, belowP bs (dopP bs (diskV bs 0).2) 20) := hG
          obtain ⟨hi, hX, hp, hE⟩ := hG
          have hlx1 := pvF_length x.live
          have hlx2 := pvF_length x.safe
          have hlx3 := pvD_length x.ops
          obtain ⟨b1, b2, b3, b4, b5⟩ := id hX.db
          have hb2 := belowV_lt (bs := bs) (p := q) (n := 2) (by decide)
          refine tr_seq ?_
          refine tr_seq ?_
          rcases bfc (decide ((i:Int) < 200)) with h5 | h5
          · have h5' := h5
            replace h5' := of_decide_eq_false h5'
            refine tr_regionD mixed rfl (.run [] [] rfl (st_move rfl) (.run [] [] rfl (st_eq (st_lss rfl rfl rfl) (by exact congrArg (fun b => AV.p none (.v (.bool b))) h5)) (.run [] [] rfl (st_move rfl) (.not rfl (.not rfl (.not rfl (.not rfl (.not rfl (.not rfl (.not rfl (.run [] [] rfl (st_pick (t := false) rfl rfl) .nil))))))))))) (by kernel_rfl) ?_
            refine tr_if (t := false) rfl (fun h => nomatch h) (fun _ => ?_)
            refine tr_exit ?_
            refine tr_seq ?_
            have hdv : drawDoV bs = ddTail bs (diskV bs 0).1 (dopV bs (diskV bs 0).2) (dopP bs (diskV bs 0).2) := rfl
            rw [ddt_3 (by show belowV bs (dopP bs (diskV bs 0).2) 20 = 3; omega)] at hdv
            rw [show ddLoop bs 200 ((diskV bs 0).1, belowP bs (dopP bs (diskV bs 0).2) 20) = x from dd_end (by omega) hE] at hdv
            rw [hdv]
            refine tr_regionD mixed rfl (.run [] [] rfl (st_load_box rfl rfl rfl Try.isAgg27 Try.sizeOf27 (nle rfl)) (.run [] [] rfl (st_load_box rfl rfl rfl Try.isAgg36 Try.sizeOf36 (nle rfl)) (.run [] [] rfl (st_store_box rfl rfl rfl rfl rfl Try.sizeOf27 rfl (nle rfl)) (.run [] [] rfl (st_store_box rfl rfl rfl rfl rfl Try.sizeOf36 rfl (nle rfl)) .nil)))) (by kernel_rfl) ?_
            refine tr_ret ?_
            exact endsSG [_, _] [] (.cons (.cell rfl rfl Try.isAgg27 Try.sizeOf27 (nle rfl)) (.cons (.cell rfl rfl Try.isAgg36 Try.sizeOf36 (nle rfl)) .nil)) (.cons (.agg (.cons (.of .fro) (.cons (.of .fro) (.cons (.of .fro) .nil)))) (.cons (.agg (.cons (.of .v) (.cons (.of .v) (.cons (.of .v) (.cons (.of .v) .nil))))) .nil)) (by decide) trivial
          · have h5' := h5
            replace h5' := of_decide_eq_true h5'
            refine tr_regionD mixed rfl (.run [] [] rfl (st_move rfl) (.run [] [] rfl (st_eq (st_lss rfl rfl rfl) (by exact congrArg (fun b => AV.p none (.v (.bool b))) h5)) (.run [] [] rfl (st_move rfl) (.run [] [] rfl (st_faddr_box rfl rfl Try.underlying27 rfl Try.sizeOf25 (by decide)) (.run [] [] rfl (st_load_box1 rfl rfl rfl Try.isAgg25 rfl) (.run [] [] rfl (st_len_fro rfl rfl Try.underlying25) (.run [] [] rfl (st_move rfl) (.run [1100, 3800] [] rfl (st_callG (.inr rfl) rfl 3800 (X := [1100]) en46 rfl (.val nod) (.cons (.rptr rfl) (.cons (.one (.bor .v)) .nil)) (by decide) (all_cons rfl all_nil) (.keep (xs := pvRd (cv, q)) rfl (FlatP.nf (pvRd_flat _)) .nil) (below_con hc hl q hp 2 (by omega)) rfl rfl (nle rfl)) (.run [] [] rfl (st_addn rfl rfl rfl (by omega)) (.run [] [] rfl (st_lss rfl rfl rfl) (.run [] [] rfl (st_pick (t := true) rfl rfl) .nil))))))))))) (by kernel_rfl) ?_
            refine tr_if (t := decide (((pvD x.ops).length : Int) < (199 + ((belowV bs q 2 : Nat) : Int)))) rfl (fun h6 => ?_) (fun h6 => ?_)
            · skip
              replace h6 := of_decide_eq_true h6
              refine tr_skip ?_
              refine tr_seq ?_
              refine tr_block ?_
              refine tr_seq ?_
              refine tr_wk (s' := mk [(2, .ptr 2 0), (3, .ptr 3 0), (4, .ea 1100 0 0), (5, .ptr 5 0), (6, .ptr 6 0), (7, .p none (.v (.int .i64 (i:Int)))), (34, .ptr 5 2), (35, .p none (.sl false 4 (pvD x.ops))), (36, .p none (.v (.int .i64 ((pvD x.ops).length : Int)))), (37, .ea 1100 0 0), (38, .p none (.v (.int .i64 ((belowV bs q 2 : Nat) : Int)))), (39, .p none (.v (.int .i64 (199 + ((belowV bs q 2 : Nat) : Int))))), (40, .p none (.v (.bool (decide (((pvD x.ops).length : Int) < (199 + ((belowV bs q 2 : Nat) : Int)))))))] [(2, [.nils, .nils, .nils]), (3, [.p none (.v (.int .i64 0)), .p none (.v (.string ⟨#[]⟩)), .p none (.v (.string ⟨#[]⟩)), .p none (.v (.string ⟨#[]⟩))]), (5, [.p none (.sl false 2 (pvF x.live)), .p none (.sl false 2 (pvF x.safe)), .p none (.sl false 4 (pvD x.ops))]), (6, [.p none (.v (.int .i64 ((dopV bs ((diskV bs 0).2)).kind))), .p none (.v (.string ((dopV bs ((diskV bs 0).2)).name))), .p none (.v (.string ((dopV bs ((diskV bs 0).2)).dest))), .p none (.v (.string ((dopV bs ((diskV bs 0).2)).data)))])] [(1100, 2, pvRd (cv, belowP bs q 2))]) ?_ ?_
              · exact wk_mk ⟨rfl, ⟨rfl, ⟨rfl, ⟨rfl, ⟨rfl, ⟨rfl, ⟨rfl, ⟨rfl, ⟨rfl, ⟨rfl, ⟨rfl, ⟨rfl, ⟨rfl, trivial⟩⟩⟩⟩⟩⟩⟩⟩⟩⟩⟩⟩⟩ ⟨rfl, ⟨rfl, ⟨rfl, ⟨rfl, trivial⟩⟩⟩⟩ ⟨rfl, trivial⟩ rfl
              refine tr_region rfl (.run [] [] rfl (st_load_box rfl rfl rfl Try.isAgg27 Try.sizeOf27 (nle rfl)) (.run [] [] rfl (st_build (pl := [(0, 1), (1, 1), (2, 1), (3, 1)]) rfl Try.underlying36 inf36 (by kernel_rfl) rfl rfl) (.run [4700, 4701, 4702, 4703] [] rfl (st_call rfl 4700 (X := []) en18 rfl (.val nod) (.cons (.agg (.cons (.bor (.sl nod)) (.cons (.bor (.sl nod)) (.cons (.bor (.sl nod)) .nil)))) (.cons (.agg (.cons (.bor .v) (.cons (.bor .v) (.cons (.bor .v) (.cons (.bor .v) .nil))))) .nil)) (by decide) all_nil .nil (specDo_con x opB (hX.db.up (by decide)) (fun o ho => Nat.le_trans (hX.op o ho) (by decide)) (by show (0:Nat) ≤ _; omega)) rfl rfl (nle rfl)) (.run [] [] rfl (st_move rfl) (.run [] [] rfl (st_extract rfl rfl rfl) (.run [] [] rfl (st_extract rfl rfl rfl) (.run [] [8] rfl (st_allocZ rfl 8 inf27 rfl (by decide) rfl (by decide)) (.run [] [] rfl (st_store_box rfl rfl rfl rfl rfl Try.sizeOf27 rfl (nle rfl)) (.run [] [] rfl (st_assign rfl) .nil))))))))) ?_
              refine tr_seq ?_
              refine tr_region rfl (.run [] [] rfl (st_move rfl) (.run [] [] rfl (st_eql rfl rfl rfl) .nil)) ?_
              refine tr_if (t := decide (((doF x opB).2) = 0)) rfl (fun h7 => ?_) (fun h7 => ?_)
              · skip
                replace h7 := of_decide_eq_true h7
                refine tr_region rfl (.run [] [] rfl (st_load_box rfl rfl rfl Try.isAgg27 Try.sizeOf27 (nle rfl)) (.run [] [] rfl (st_store_box rfl rfl rfl rfl rfl Try.sizeOf27 rfl (nle rfl)) .nil)) ?_
                refine tr_wk (wk_frz 4700 rfl) ?_
                have hp8 : (some [.p none (.sl false 2 (((pvF ((doF x opB).1.live)).drop 0).take ((pvF ((doF x opB).1.live)).length))), .sl 4701 0 ((pvF ((doF x opB).1.safe)).length), .sl 4702 0 ((pvD ((doF x opB).1.ops)).length)] : Option (List AV)) = some [.p none (.sl false 2 (pvF ((doF x opB).1.live))), .sl 4701 0 ((pvF ((doF x opB).1.safe)).length), .sl 4702 0 ((pvD ((doF x opB).1.ops)).length)] := by simp only [frz_all]
                refine tr_wk (s' := mk [(2, .ptr 2 0), (3, .ptr 3 0), (4, .ea 1100 0 0), (5, .ptr 5 0), (6, .ptr 6 0), (7, .p none (.v (.int .i64 (i:Int)))), (34, .ptr 5 2), (35, .p none (.sl false 4 (pvD x.ops))), (36, .p none (.v (.int .i64 ((pvD x.ops).length : Int)))), (37, .ea 1100 0 0), (38, .p none (.v (.int .i64 ((belowV bs q 2 : Nat) : Int)))), (39, .p none (.v (.int .i64 (199 + ((belowV bs q 2 : Nat) : Int))))), (40, .p none (.v (.bool (decide (((pvD x.ops).length : Int) < (199 + ((belowV bs q 2 : Nat) : Int)))))))] [(2, [.nils, .nils, .nils]), (3, [.p none (.v (.int .i64 0)), .p none (.v (.string ⟨#[]⟩)), .p none (.v (.string ⟨#[]⟩)), .p none (.v (.string ⟨#[]⟩))]), (5, [.p none (.sl false 2 (pvF ((doF x opB).1.live))), .sl 4701 0 ((pvF ((doF x opB).1.safe)).length), .sl 4702 0 ((pvD ((doF x opB).1.ops)).length)]), (6, [.p none (.v (.int .i64 ((dopV bs ((diskV bs 0).2)).kind))), .p none (.v (.string ((dopV bs ((diskV bs 0).2)).name))), .p none (.v (.string ((dopV bs ((diskV bs 0).2)).dest))), .p none (.v (.string ((dopV bs ((diskV bs 0).2)).data)))])] [(1100, 2, pvRd (cv, belowP bs q 2)), (4701, 2, pvF ((doF x opB).1.safe)), (4702, 4, pvD ((doF x opB).1.ops))]) ?_ ?_
                · exact wk_mk ⟨rfl, ⟨rfl, ⟨rfl, ⟨rfl, ⟨rfl, ⟨rfl, ⟨rfl, ⟨rfl, ⟨rfl, ⟨rfl, ⟨rfl, ⟨rfl, ⟨rfl, trivial⟩⟩⟩⟩⟩⟩⟩⟩⟩⟩⟩⟩⟩ ⟨rfl, ⟨rfl, ⟨hp8, ⟨rfl, trivial⟩⟩⟩⟩ ⟨rfl, ⟨rfl, ⟨rfl, trivial⟩⟩⟩ rfl
                refine tr_wk (wk_frz 4701 rfl) ?_
                have hp9 : (some [.p none (.sl false 2 (pvF ((doF x opB).1.live))), .p none (.sl false 2 (((pvF ((doF x opB).1.safe)).drop 0).take ((pvF ((doF x opB).1.safe)).length))), .sl 4702 0 ((pvD ((doF x opB).1.ops)).length)] : Option (List AV)) = some [.p none (.sl false 2 (pvF ((doF x opB).1.live))), .p none (.sl false 2 (pvF ((doF x opB).1.safe))), .sl 4702 0 ((pvD ((doF x opB).1.ops)).length)] := by simp only [frz_all]
                refine tr_wk (s' := mk [(2, .ptr 2 0), (3, .ptr 3 0), (4, .ea 1100 0 0), (5, .ptr 5 0), (6, .ptr 6 0), (7, .p none (.v (.int .i64 (i:Int)))), (34, .ptr 5 2), (35, .p none (.sl false 4 (pvD x.ops))), (36, .p none (.v (.int .i64 ((pvD x.ops).length : Int)))), (37, .ea 1100 0 0), (38, .p none (.v (.int .i64 ((belowV bs q 2 : Nat) : Int)))), (39, .p none (.v (.int .i64 (199 + ((belowV bs q 2 : Nat) : Int))))), (40, .p none (.v (.bool (decide (((pvD x.ops).length : Int) < (199 + ((belowV bs q 2 : Nat) : Int)))))))] [(2, [.nils, .nils, .nils]), (3, [.p none (.v (.int .i64 0)), .p none (.v (.string ⟨#[]⟩)), .p none (.v (.string ⟨#[]⟩)), .p none (.v (.string ⟨#[]⟩))]), (5, [.p none (.sl false 2 (pvF ((doF x opB).1.live))), .p none (.sl false 2 (pvF ((doF x opB).1.safe))), .sl 4702 0 ((pvD ((doF x opB).1.ops)).length)]), (6, [.p none (.v (.int .i64 ((dopV bs ((diskV bs 0).2)).kind))), .p none (.v (.string ((dopV bs ((diskV bs 0).2)).name))), .p none (.v (.string ((dopV bs ((diskV bs 0).2)).dest))), .p none (.v (.string ((dopV bs ((diskV bs 0).2)).data)))])] [(1100, 2, pvRd (cv, belowP bs q 2)), (4702, 4, pvD ((doF x opB).1.ops))]) ?_ ?_
                · exact wk_mk ⟨rfl, ⟨rfl, ⟨rfl, ⟨rfl, ⟨rfl, ⟨rfl, ⟨rfl, ⟨rfl, ⟨rfl, ⟨rfl, ⟨rfl, ⟨rfl, ⟨rfl, trivial⟩⟩⟩⟩⟩⟩⟩⟩⟩⟩⟩⟩⟩ ⟨rfl, ⟨rfl, ⟨hp9, ⟨rfl, trivial⟩⟩⟩⟩ ⟨rfl, ⟨rfl, trivial⟩⟩ rfl
                refine tr_wk (wk_frz 4702 rfl) ?_
                have hp10 : (some [.p none (.sl false 2 (pvF ((doF x opB).1.live))), .p none (.sl false 2 (pvF ((doF x opB).1.safe))), .p none (.sl false 4 (((pvD ((doF x opB).1.ops)).drop 0).take ((pvD ((doF x opB).1.ops)).length)))] : Option (List AV)) = some [.p none (.sl false 2 (pvF ((doF x opB).1.live))), .p none (.sl false 2 (pvF ((doF x opB).1.safe))), .p none (.sl false 4 (pvD ((doF x opB).1.ops)))] := by simp only [frz_all]
                refine tr_wk (s' := mk [(2, .ptr 2 0), (3, .ptr 3 0), (4, .ea 1100 0 0), (5, .ptr 5 0), (6, .ptr 6 0), (7, .p none (.v (.int .i64 (i:Int)))), (34, .ptr 5 2), (35, .p none (.sl false 4 (pvD x.ops))), (36, .p none (.v (.int .i64 ((pvD x.ops).length : Int)))), (37, .ea 1100 0 0), (38, .p none (.v (.int .i64 ((belowV bs q 2 : Nat) : Int)))), (39, .p none (.v (.int .i64 (199 + ((belowV bs q 2 : Nat) : Int))))), (40, .p none (.v (.bool (decide (((pvD x.ops).length : Int) < (199 + ((belowV bs q 2 : Nat) : Int)))))))] [(2, [.nils, .nils, .nils]), (3, [.p none (.v (.int .i64 0)), .p none (.v (.string ⟨#[]⟩)), .p none (.v (.string ⟨#[]⟩)), .p none (.v (.string ⟨#[]⟩))]), (5, [.p none (.sl false 2 (pvF ((doF x opB).1.live))), .p none (.sl false 2 (pvF ((doF x opB).1.safe))), .p none (.sl false 4 (pvD ((doF x opB).1.ops)))]), (6, [.p none (.v (.int .i64 ((dopV bs ((diskV bs 0).2)).kind))), .p none (.v (.string ((dopV bs ((diskV bs 0).2)).name))), .p none (.v (.string ((dopV bs ((diskV bs 0).2)).dest))), .p none (.v (.string ((dopV bs ((diskV bs 0).2)).data)))])] [(1100, 2, pvRd (cv, belowP bs q 2))]) ?_ ?_
                · exact wk_mk ⟨rfl, ⟨rfl, ⟨rfl, ⟨rfl, ⟨rfl, ⟨rfl, ⟨rfl, ⟨rfl, ⟨rfl, ⟨rfl, ⟨rfl, ⟨rfl, ⟨rfl, trivial⟩⟩⟩⟩⟩⟩⟩⟩⟩⟩⟩⟩⟩ ⟨rfl, ⟨rfl, ⟨hp10, ⟨rfl, trivial⟩⟩⟩⟩ ⟨rfl, trivial⟩ rfl
                refine tr_region rfl (.run [] [] rfl (st_move rfl) (.run [] [] rfl (st_addn rfl rfl rfl (by omega)) (.run [] [] rfl (st_assign rfl) .nil))) ?_
                have hds : ddStep x = (doF x opB).1 := ddStep_y h7
-- round row 1100: pvRd (cv, (belowP bs q 2)) now pvRd (cv, belowP bs q 2)
                refine nxt (Q := fun _ _ => False) (z := (i, x, q)) (i + 1, ddStep x, belowP bs q 2) ?_ ?_ ?_
                · show (i + 1) ≤ 200 ∧ DrE (ddStep x) ∧ (belowP bs q 2) ≤ bs.length ∧ ddLoop bs (200 - (i + 1)) ((ddStep x), (belowP bs q 2)) = ddLoop bs 200 ((diskV bs 0).1, belowP bs (dopP bs (diskV bs 0).2) 20)
                  exact ⟨by omega, dre_step hX, belowP_le hp, dd_go (by omega) hE (by omega)⟩
                · show 200 - (i + 1) < 200 - i
                  omega
                · exact wk_mk ⟨rfl, ⟨rfl, ⟨rfl, ⟨rfl, ⟨rfl, ⟨(int_eq (by omega)), trivial⟩⟩⟩⟩⟩⟩ ⟨rfl, ⟨rfl, ⟨(congrArg (fun x : Dsk => some [AV.p none (.sl false 2 (pvF x.live)), AV.p none (.sl false 2 (pvF x.safe)), AV.p none (.sl false 4 (pvD x.ops))]) hds.symm), ⟨rfl, trivial⟩⟩⟩⟩ ⟨rfl, trivial⟩ rfl
              · skip
                replace h7 := of_decide_eq_false h7
                refine tr_skip ?_
                refine tr_region rfl (.run [] [] rfl (st_move rfl) (.run [] [] rfl (st_addn rfl rfl rfl (by omega)) (.run [] [] rfl (st_assign rfl) .nil))) ?_
                have hds : ddStep x = x := ddStep_n h7
-- round row 1100: pvRd (cv, (belowP bs q 2)) now pvRd (cv, belowP bs q 2)
                refine nxt (Q := fun _ _ => False) (z := (i, x, q)) (i + 1, ddStep x, belowP bs q 2) ?_ ?_ ?_
                · show (i + 1) ≤ 200 ∧ DrE (ddStep x) ∧ (belowP bs q 2) ≤ bs.length ∧ ddLoop bs (200 - (i + 1)) ((ddStep x), (belowP bs q 2)) = ddLoop bs 200 ((diskV bs 0).1, belowP bs (dopP bs (diskV bs 0).2) 20)
                  exact ⟨by omega, dre_step hX, belowP_le hp, dd_go (by omega) hE (by omega)⟩
                · show 200 - (i + 1) < 200 - i
                  omega
                · exact wk_mk ⟨rfl, ⟨rfl, ⟨rfl, ⟨rfl, ⟨rfl, ⟨(int_eq (by omega)), trivial⟩⟩⟩⟩⟩⟩ ⟨rfl, ⟨rfl, ⟨(congrArg (fun x : Dsk => some [AV.p none (.sl false 2 (pvF x.live)), AV.p none (.sl false 2 (pvF x.safe)), AV.p none (.sl false 4 (pvD x.ops))]) hds.symm), ⟨rfl, trivial⟩⟩⟩⟩ ⟨rfl, trivial⟩ rfl
            · skip
              replace h6 := of_decide_eq_false h6
              refine tr_exit ?_
              refine tr_seq ?_
              have hdv : drawDoV bs = ddTail bs (diskV bs 0).1 (dopV bs (diskV bs 0).2) (dopP bs (diskV bs 0).2) := rfl
              rw [ddt_3 (by show belowV bs (dopP bs (diskV bs 0).2) 20 = 3; omega)] at hdv
              rw [show ddLoop bs 200 ((diskV bs 0).1, belowP bs (dopP bs (diskV bs 0).2) 20) = x from dd_stop (by omega) hE (by omega)] at hdv
              rw [hdv]
              refine tr_regionD mixed rfl (.run [] [] rfl (st_load_box rfl rfl rfl Try.isAgg27 Try.sizeOf27 (nle rfl)) (.run [] [] rfl (st_load_box rfl rfl rfl Try.isAgg36 Try.sizeOf36 (nle rfl)) (.run [] [] rfl (st_store_box rfl rfl rfl rfl rfl Try.sizeOf27 rfl (nle rfl)) (.run [] [] rfl (st_store_box rfl rfl rfl rfl rfl Try.sizeOf36 rfl (nle rfl)) .nil)))) (by kernel_rfl) ?_
              refine tr_ret ?_
              exact endsSG [_, _] [] (.cons (.cell rfl rfl Try.isAgg27 Try.sizeOf27 (nle rfl)) (.cons (.cell rfl rfl Try.isAgg36 Try.sizeOf36 (nle rfl)) .nil)) (.cons (.agg (.cons (.of .fro) (.cons (.of .fro) (.cons (.of .fro) .nil)))) (.cons (.agg (.cons (.of .v) (.cons (.of .v) (.cons (.of .v) (.cons (.of .v) .nil))))) .nil)) (by decide) trivial
        · skip
          replace h4 := of_decide_eq_false h4
          refine tr_skip ?_
          refine tr_seq ?_
          have hdv : drawDoV bs = ddTail bs (diskV bs 0).1 (dopV bs (diskV bs 0).2) (dopP bs (diskV bs 0).2) := rfl
          rw [ddt_4 (by show ¬ belowV bs (dopP bs (diskV bs 0).2) 20 = 0; omega) (by show ¬ belowV bs (dopP bs (diskV bs 0).2) 20 = 1; omega) (by show ¬ belowV bs (dopP bs (diskV bs 0).2) 20 = 2; omega) (by show ¬ belowV bs (dopP bs (diskV bs 0).2) 20 = 3; omega)] at hdv
          rw [hdv]
          refine tr_regionD mixed rfl (.run [] [] rfl (st_load_box rfl rfl rfl Try.isAgg27 Try.sizeOf27 (nle rfl)) (.run [] [] rfl (st_load_box rfl rfl rfl Try.isAgg36 Try.sizeOf36 (nle rfl)) (.run [] [] rfl (st_store_box rfl rfl rfl rfl rfl Try.sizeOf27 rfl (nle rfl)) (.run [] [] rfl (st_store_box rfl rfl rfl rfl rfl Try.sizeOf36 rfl (nle rfl)) .nil)))) (by kernel_rfl) ?_
          refine tr_ret ?_
          exact endsSG [_, _] [] (.cons (.cell rfl rfl Try.isAgg27 Try.sizeOf27 (nle rfl)) (.cons (.cell rfl rfl Try.isAgg36 Try.sizeOf36 (nle rfl)) .nil)) (.cons (.agg (.cons (.of .fro) (.cons (.of .fro) (.cons (.of .fro) .nil)))) (.cons (.agg (.cons (.of .v) (.cons (.of .v) (.cons (.of .v) (.cons (.of .v) .nil))))) .nil)) (by decide) trivial
set_option maxRecDepth 1000000 in
set_option maxHeartbeats 2000000 in
theorem law_done_con {γ : Gho} {cv : Value} {bs : List Nat} (hc : CodeAt γ cv bs) : ConG γ Try.prog 4 [.one (PV.v (cv))] [] [.one (.v (.bool true))] := by
  refine con_of_tr Try.func4 rfl rfl rfl rfl ?_
  refine tr_seq ?_
  refine tr_region rfl (.run [] [] rfl (st_assign rfl) .nil) ?_
  refine tr_seq ?_
  refine tr_seq ?_
  refine tr_region rfl (.run [] [] rfl (st_move rfl) (.run [1600] [] rfl (st_callG (.inr rfl) rfl 1600 (X := []) en9 rfl (.val nod) (.cons (.one (.bor .v)) .nil) (by decide) all_nil .nil (big_con hc) rfl rfl (nle rfl)) .nil)) ?_
  refine tr_if (t := decide (1048576 < (bs.length : Int))) rfl (fun h1 => ?_) (fun h1 => ?_)
  · skip
    replace h1 := of_decide_eq_true h1
    refine tr_seq ?_
    refine tr_region rfl (.run [] [] rfl (st_assign rfl) .nil) ?_
    refine tr_ret ?_
    exact ends [_] [] (.cons (.tmp rfl) .nil) (.cons (.one .v (.v _)) .nil) (by decide) trivial
  · skip
    replace h1 := of_decide_eq_false h1
    refine tr_skip ?_
    refine tr_seq ?_
    refine tr_region rfl (.run [] [] rfl (st_move rfl) (.run [1900, 1901, 1902, 1903, 1904, 1905, 1906] [] rfl (st_callSG (.inr rfl) rfl 1900 (X := []) en16 rfl (.cons (.one .v) .nil) (by decide) all_nil .nil (drawDo_con hc (by omega)) rfl (nle rfl)) (.run [] [] rfl (st_move rfl) (.run [] [] rfl (st_extract rfl rfl rfl) (.run [] [] rfl (st_extract rfl rfl rfl) (.run [] [3] rfl (st_allocZ rfl 3 inf27 rfl (by decide) rfl (by decide)) (.run [] [4] rfl (st_allocZ rfl 4 inf36 rfl (by decide) rfl (by decide)) (.run [] [] rfl (st_store_box rfl rfl rfl rfl rfl Try.sizeOf27 rfl (nle rfl)) (.run [] [] rfl (st_store_box rfl rfl rfl rfl rfl Try.sizeOf36 rfl (nle rfl)) .nil))))))))) ?_
    refine tr_seq ?_
    rcases bfc (diskOk (drawDoV bs).1) with hok | hok
    · skip
      obtain ⟨⟨hdn, hdb, hdo⟩, hoz⟩ := drawDo_ok bs
      generalize (drawDoV bs).2 = op at hoz ⊢
      generalize (drawDoV bs).1 = d at hok hdn hdb hdo ⊢
      have hd9 : DB 900000000 d := hdb.up (by decide)
      have hop9 : ∀ op ∈ d.ops, op.data.size ≤ 900000000 := fun o ho => Nat.le_trans (hdo o ho) (by decide)
      have ho9 : op.data.size ≤ 900000000 := Nat.le_trans hoz (by decide)
      have ho2 : op.data.size ≤ 200000000 := Nat.le_trans hoz (by decide)
      obtain ⟨b1, b2, b3, b4, b5⟩ := id hdb
      have hld := pvF_length d.live
      have hsd := pvF_length d.safe
      have hod := pvD_length d.ops
      refine tr_wk (s' := mk [(3, .ptr 3 0), (4, .ptr 4 0)] [(3, [.p none (.sl false 2 (pvF d.live)), .p none (.sl false 2 (pvF d.safe)), .p none (.sl false 4 (pvD d.ops))]), (4, [.p none (.v (.int .i64 op.kind)), .p none (.v (.string op.name)), .p none (.v (.string op.dest)), .p none (.v (.string op.data))])] []) ?_ ?_
      · exact wk_mk ⟨rfl, ⟨rfl, trivial⟩⟩ ⟨rfl, ⟨rfl, trivial⟩⟩ trivial rfl
      refine tr_region rfl (.run [] [] rfl (st_load_box rfl rfl rfl Try.isAgg27 Try.sizeOf27 (nle rfl)) (.run [] [] rfl (st_load_box rfl rfl rfl Try.isAgg36 Try.sizeOf36 (nle rfl)) (.run [2500, 2501, 2502, 2503] [] rfl (st_call rfl 2500 (X := []) en17 rfl (.val nod) (.cons (.agg (.cons (.bor (.sl nod)) (.cons (.bor (.sl nod)) (.cons (.bor (.sl nod)) .nil)))) (.cons (.agg (.cons (.bor .v) (.cons (.bor .v) (.cons (.bor .v) (.cons (.bor .v) .nil))))) .nil)) (by decide) all_nil .nil (do_named (doF_bad hok op) (implDo_con d op hd9 hop9 ho2)) rfl rfl (nle rfl)) (.run [] [] rfl (st_move rfl) (.run [] [] rfl (st_extract rfl rfl rfl) (.run [] [] rfl (st_extract rfl rfl rfl) (.run [] [5] rfl (st_allocZ rfl 5 inf27 rfl (by decide) rfl (by decide)) (.run [] [] rfl (st_store_box rfl rfl rfl rfl rfl Try.sizeOf27 rfl (nle rfl)) (.run [] [] rfl (st_assign rfl) .nil))))))))) ?_
      refine tr_seq ?_
      refine tr_wk (s' := mk [(3, .ptr 3 0), (4, .ptr 4 0), (5, .ptr 5 0), (6, .p none (.v (.int .i64 1)))] [(3, [.p none (.sl false 2 (pvF d.live)), .p none (.sl false 2 (pvF d.safe)), .p none (.sl false 4 (pvD d.ops))]), (4, [.p none (.v (.int .i64 op.kind)), .p none (.v (.string op.name)), .p none (.v (.string op.dest)), .p none (.v (.string op.data))]), (5, [.sl 2500 0 ((pvF []).length), .sl 2501 0 ((pvF []).length), .sl 2502 0 ((pvD []).length)])] [(2500, 2, pvF []), (2501, 2, pvF []), (2502, 4, pvD [])]) ?_ ?_
      · exact wk_mk ⟨rfl, ⟨rfl, ⟨rfl, ⟨rfl, trivial⟩⟩⟩⟩ ⟨rfl, ⟨rfl, ⟨rfl, trivial⟩⟩⟩ ⟨rfl, ⟨rfl, ⟨rfl, trivial⟩⟩⟩ rfl
      refine tr_region rfl (.run [] [] rfl (st_load_box rfl rfl rfl Try.isAgg27 Try.sizeOf27 (nle rfl)) (.run [] [] rfl (st_load_box rfl rfl rfl Try.isAgg36 Try.sizeOf36 (nle rfl)) (.run [3100, 3101, 3102, 3103] [] rfl (st_call rfl 3100 (X := []) en18 rfl (.val nod) (.cons (.agg (.cons (.bor (.sl nod)) (.cons (.bor (.sl nod)) (.cons (.bor (.sl nod)) .nil)))) (.cons (.agg (.cons (.bor .v) (.cons (.bor .v) (.cons (.bor .v) (.cons (.bor .v) .nil))))) .nil)) (by decide) all_nil .nil (do_named (doF_bad hok op) (specDo_con d op hd9 hop9 ho9)) rfl rfl (nle rfl)) (.run [] [] rfl (st_move rfl) (.run [] [] rfl (st_extract rfl rfl rfl) (.run [] [] rfl (st_extract rfl rfl rfl) (.run [] [7] rfl (st_allocZ rfl 7 inf27 rfl (by decide) rfl (by decide)) (.run [] [] rfl (st_store_box rfl rfl rfl rfl rfl Try.sizeOf27 rfl (nle rfl)) (.run [] [] rfl (st_assign rfl) .nil))))))))) ?_
      refine tr_seq ?_
      refine tr_seq ?_
      refine tr_wk (s' := mk [(3, .ptr 3 0), (4, .ptr 4 0), (5, .ptr 5 0), (6, .p none (.v (.int .i64 1))), (8, .p none (.v (.int .i64 1)))] [(3, [.p none (.sl false 2 (pvF d.live)), .p none (.sl false 2 (pvF d.safe)), .p none (.sl false 4 (pvD d.ops))]), (4, [.p none (.v (.int .i64 op.kind)), .p none (.v (.string op.name)), .p none (.v (.string op.dest)), .p none (.v (.string op.data))]), (5, [.sl 2500 0 ((pvF []).length), .sl 2501 0 ((pvF []).length), .sl 2502 0 ((pvD []).length)])] [(2500, 2, pvF []), (2501, 2, pvF []), (2502, 4, pvD [])]) ?_ ?_
      · exact wk_mk ⟨rfl, ⟨rfl, ⟨rfl, ⟨rfl, ⟨rfl, trivial⟩⟩⟩⟩⟩ ⟨rfl, ⟨rfl, ⟨rfl, trivial⟩⟩⟩ ⟨rfl, ⟨rfl, ⟨rfl, trivial⟩⟩⟩ rfl
      refine tr_region rfl (.run [] [] rfl (st_move rfl) (.run [] [] rfl (st_move rfl) (.run [] [] rfl (st_eq (st_neq rfl rfl rfl) (bool_eq (congrArg Bool.not (decide_eq_true (by simp))))) (.run [] [] rfl (st_move rfl) (.run [] [] rfl (st_load_box rfl rfl rfl Try.isAgg27 Try.sizeOf27 (nle rfl)) (.run [3900] [] rfl (st_call rfl 3900 (X := []) en12 rfl (.val nod) (.cons (.agg (.cons (.bor (.sl nod)) (.cons (.bor (.sl nod)) (.cons (.bor (.sl nod)) .nil)))) .nil) (by decide) all_nil .nil (ok_named hok (specDiskOk_con d hd9 hop9)) rfl rfl (nle rfl)) (.run [] [] rfl (st_not (b := false) rfl rfl) (.run [] [] rfl (st_pick (t := false) rfl rfl) .nil)))))))) ?_
      refine tr_if (t := true) rfl (fun _ => ?_) (fun h => nomatch h)
      refine tr_seq ?_
      refine tr_region rfl (.run [] [] rfl (st_move rfl) (.run [] [] rfl (st_move rfl) (.run [] [] rfl (st_eq (st_eql rfl rfl rfl) (bool_eq (decide_eq_true (by simp)))) (.run [] [] rfl (st_assign rfl) .nil)))) ?_
      refine tr_ret ?_
      exact ends [_] [] (.cons (.tmp rfl) .nil) (.cons (.one .v (.v _)) .nil) (by decide) trivial
    · skip
      obtain ⟨⟨hdn, hdb, hdo⟩, hoz⟩ := drawDo_ok bs
      generalize (drawDoV bs).2 = op at hoz ⊢
      generalize (drawDoV bs).1 = d at hok hdn hdb hdo ⊢
      have hd9 : DB 900000000 d := hdb.up (by decide)
      have hop9 : ∀ op ∈ d.ops, op.data.size ≤ 900000000 := fun o ho => Nat.le_trans (hdo o ho) (by decide)
      have ho9 : op.data.size ≤ 900000000 := Nat.le_trans hoz (by decide)
      have ho2 : op.data.size ≤ 200000000 := Nat.le_trans hoz (by decide)
      obtain ⟨b1, b2, b3, b4, b5⟩ := id hdb
      have hld := pvF_length d.live
      have hsd := pvF_length d.safe
      have hod := pvD_length d.ops
      refine tr_wk (s' := mk [(3, .ptr 3 0), (4, .ptr 4 0)] [(3, [.p none (.sl false 2 (pvF d.live)), .p none (.sl false 2 (pvF d.safe)), .p none (.sl false 4 (pvD d.ops))]), (4, [.p none (.v (.int .i64 op.kind)), .p none (.v (.string op.name)), .p none (.v (.string op.dest)), .p none (.v (.string op.data))])] []) ?_ ?_
      · exact wk_mk ⟨rfl, ⟨rfl, trivial⟩⟩ ⟨rfl, ⟨rfl, trivial⟩⟩ trivial rfl
      refine tr_region rfl (.run [] [] rfl (st_load_box rfl rfl rfl Try.isAgg27 Try.sizeOf27 (nle rfl)) (.run [] [] rfl (st_load_box rfl rfl rfl Try.isAgg36 Try.sizeOf36 (nle rfl)) (.run [2500, 2501, 2502, 2503] [] rfl (st_call rfl 2500 (X := []) en17 rfl (.val nod) (.cons (.agg (.cons (.bor (.sl nod)) (.cons (.bor (.sl nod)) (.cons (.bor (.sl nod)) .nil)))) (.cons (.agg (.cons (.bor .v) (.cons (.bor .v) (.cons (.bor .v) (.cons (.bor .v) .nil))))) .nil)) (by decide) all_nil .nil (do_named (doF_act hok op) (implDo_con d op hd9 hop9 ho2)) rfl rfl (nle rfl)) (.run [] [] rfl (st_move rfl) (.run [] [] rfl (st_extract rfl rfl rfl) (.run [] [] rfl (st_extract rfl rfl rfl) (.run [] [5] rfl (st_allocZ rfl 5 inf27 rfl (by decide) rfl (by decide)) (.run [] [] rfl (st_store_box rfl rfl rfl rfl rfl Try.sizeOf27 rfl (nle rfl)) (.run [] [] rfl (st_assign rfl) .nil))))))))) ?_
      refine tr_seq ?_
      refine tr_wk (s' := mk [(3, .ptr 3 0), (4, .ptr 4 0), (5, .ptr 5 0), (6, .p none (.v (.int .i64 ((actF d op).2))))] [(3, [.p none (.sl false 2 (pvF d.live)), .p none (.sl false 2 (pvF d.safe)), .p none (.sl false 4 (pvD d.ops))]), (4, [.p none (.v (.int .i64 op.kind)), .p none (.v (.string op.name)), .p none (.v (.string op.dest)), .p none (.v (.string op.data))]), (5, [.sl 2500 0 ((pvF ((actF d op).1.live)).length), .sl 2501 0 ((pvF ((actF d op).1.safe)).length), .sl 2502 0 ((pvD ((actF d op).1.ops)).length)])] [(2500, 2, pvF ((actF d op).1.live)), (2501, 2, pvF ((actF d op).1.safe)), (2502, 4, pvD ((actF d op).1.ops))]) ?_ ?_
      · exact wk_mk ⟨rfl, ⟨rfl, ⟨rfl, ⟨rfl, trivial⟩⟩⟩⟩ ⟨rfl, ⟨rfl, ⟨rfl, trivial⟩⟩⟩ ⟨rfl, ⟨rfl, ⟨rfl, trivial⟩⟩⟩ rfl
      refine tr_region rfl (.run [] [] rfl (st_load_box rfl rfl rfl Try.isAgg27 Try.sizeOf27 (nle rfl)) (.run [] [] rfl (st_load_box rfl rfl rfl Try.isAgg36 Try.sizeOf36 (nle rfl)) (.run [3100, 3101, 3102, 3103] [] rfl (st_call rfl 3100 (X := []) en18 rfl (.val nod) (.cons (.agg (.cons (.bor (.sl nod)) (.cons (.bor (.sl nod)) (.cons (.bor (.sl nod)) .nil)))) (.cons (.agg (.cons (.bor .v) (.cons (.bor .v) (.cons (.bor .v) (.cons (.bor .v) .nil))))) .nil)) (by decide) all_nil .nil (do_named (doF_act hok op) (specDo_con d op hd9 hop9 ho9)) rfl rfl (nle rfl)) (.run [] [] rfl (st_move rfl) (.run [] [] rfl (st_extract rfl rfl rfl) (.run [] [] rfl (st_extract rfl rfl rfl) (.run [] [7] rfl (st_allocZ rfl 7 inf27 rfl (by decide) rfl (by decide)) (.run [] [] rfl (st_store_box rfl rfl rfl rfl rfl Try.sizeOf27 rfl (nle rfl)) (.run [] [] rfl (st_assign rfl) .nil))))))))) ?_
      refine tr_seq ?_
      refine tr_seq ?_
      refine tr_wk (s' := mk [(3, .ptr 3 0), (4, .ptr 4 0), (5, .ptr 5 0), (6, .p none (.v (.int .i64 ((actF d op).2)))), (8, .p none (.v (.int .i64 ((actF d op).2))))] [(3, [.p none (.sl false 2 (pvF d.live)), .p none (.sl false 2 (pvF d.safe)), .p none (.sl false 4 (pvD d.ops))]), (4, [.p none (.v (.int .i64 op.kind)), .p none (.v (.string op.name)), .p none (.v (.string op.dest)), .p none (.v (.string op.data))]), (5, [.sl 2500 0 ((pvF ((actF d op).1.live)).length), .sl 2501 0 ((pvF ((actF d op).1.safe)).length), .sl 2502 0 ((pvD ((actF d op).1.ops)).length)])] [(2500, 2, pvF ((actF d op).1.live)), (2501, 2, pvF ((actF d op).1.safe)), (2502, 4, pvD ((actF d op).1.ops))]) ?_ ?_
      · exact wk_mk ⟨rfl, ⟨rfl, ⟨rfl, ⟨rfl, ⟨rfl, trivial⟩⟩⟩⟩⟩ ⟨rfl, ⟨rfl, ⟨rfl, trivial⟩⟩⟩ ⟨rfl, ⟨rfl, ⟨rfl, trivial⟩⟩⟩ rfl
      refine tr_region rfl (.run [] [] rfl (st_move rfl) (.run [] [] rfl (st_move rfl) (.run [] [] rfl (st_eq (st_neq rfl rfl rfl) (bool_eq (congrArg Bool.not (decide_eq_true (by simp))))) (.run [] [] rfl (st_move rfl) (.run [] [] rfl (st_load_box rfl rfl rfl Try.isAgg27 Try.sizeOf27 (nle rfl)) (.run [3900] [] rfl (st_call rfl 3900 (X := []) en12 rfl (.val nod) (.cons (.agg (.cons (.bor (.sl nod)) (.cons (.bor (.sl nod)) (.cons (.bor (.sl nod)) .nil)))) .nil) (by decide) all_nil .nil (ok_named hok (specDiskOk_con d hd9 hop9)) rfl rfl (nle rfl)) (.run [] [] rfl (st_not (b := true) rfl rfl) (.run [] [] rfl (st_pick (t := false) rfl rfl) .nil)))))))) ?_
      refine tr_if (t := false) rfl (fun h => nomatch h) (fun _ => ?_)
      refine tr_skip ?_
      refine tr_seq ?_
      refine tr_seq ?_
      refine tr_region rfl (.run [] [] rfl (st_move rfl) (.run [] [] rfl (st_neq rfl rfl rfl) .nil)) ?_
      refine tr_if (t := (!(decide (((actF d op).2) = 0)))) rfl (fun h2 => ?_) (fun h2 => ?_)
      · skip
        replace h2 : ¬ (((actF d op).2) = 0) := of_decide_eq_false (bnot_t h2)
        refine tr_seq ?_
        have hsame : (actF d op).1 = d := act_same h2
        rw [hsame]
        refine tr_wk (s' := mk [(3, .ptr 3 0), (5, .ptr 5 0)] [(3, [.p none (.sl false 2 (pvF d.live)), .p none (.sl false 2 (pvF d.safe)), .p none (.sl false 4 (pvD d.ops))]), (5, [.sl 2500 0 ((pvF d.live).length), .sl 2501 0 ((pvF d.safe).length), .sl 2502 0 ((pvD d.ops).length)])] [(2500, 2, pvF d.live), (2501, 2, pvF d.safe), (2502, 4, pvD d.ops)]) ?_ ?_
        · exact wk_mk ⟨rfl, ⟨rfl, trivial⟩⟩ ⟨rfl, ⟨rfl, trivial⟩⟩ ⟨rfl, ⟨rfl, ⟨rfl, trivial⟩⟩⟩ rfl
        refine tr_region rfl (.run [] [] rfl (st_faddr_box rfl rfl Try.underlying27 rfl Try.sizeOf24 (by decide)) (.run [] [] rfl (st_load_box1 rfl rfl rfl Try.isAgg24 rfl) (.run [] [] rfl (st_faddr_box rfl rfl Try.underlying27 rfl Try.sizeOf24 (by decide)) (.run [] [] rfl (st_load_box1 rfl rfl rfl Try.isAgg24 rfl) (.run [2500, 5100] [] rfl (st_call rfl 5100 (X := []) en15 rfl (.val nod) (.cons (.one (.bor (.all (len := (pvF d.live).length) (xs := pvF d.live) rfl rfl (by decide)))) (.cons (.one (.bor (.sl nod))) .nil)) (by decide) all_nil .nil (sameFiles_self d.live (by omega)) rfl rfl (nle rfl)) (.run [] [] rfl (st_move rfl) (.run [] [] rfl (st_faddr_box rfl rfl Try.underlying27 rfl Try.sizeOf24 (by decide)) (.run [] [] rfl (st_load_box1 rfl rfl rfl Try.isAgg24 rfl) (.run [] [] rfl (st_faddr_box rfl rfl Try.underlying27 rfl Try.sizeOf24 (by decide)) (.run [] [] rfl (st_load_box1 rfl rfl rfl Try.isAgg24 rfl) (.run [2501, 5700] [] rfl (st_call rfl 5700 (X := []) en15 rfl (.val nod) (.cons (.one (.bor (.all (len := (pvF d.safe).length) (xs := pvF d.safe) rfl rfl (by decide)))) (.cons (.one (.bor (.sl nod))) .nil)) (by decide) all_nil .nil (sameFiles_self d.safe (by omega)) rfl rfl (nle rfl)) (.run [] [] rfl (st_pick (t := true) rfl rfl) (.run [] [] rfl (st_move rfl) (.run [] [] rfl (st_faddr_box rfl rfl Try.underlying27 rfl Try.sizeOf25 (by decide)) (.run [] [] rfl (st_load_box1 rfl rfl rfl Try.isAgg25 rfl) (.run [] [] rfl (st_len_row rfl rfl Try.underlying25) (.run [] [] rfl (st_faddr_box rfl rfl Try.underlying27 rfl Try.sizeOf25 (by decide)) (.run [] [] rfl (st_load_box1 rfl rfl rfl Try.isAgg25 rfl) (.run [] [] rfl (st_len_fro rfl rfl Try.underlying25) (.run [] [] rfl (st_eq (st_eql rfl rfl rfl) (bool_eq (decide_eq_true (by simp)))) (.run [] [] rfl (st_pick (t := true) rfl rfl) (.run [] [] rfl (st_assign rfl) .nil)))))))))))))))))))))) ?_
        refine tr_ret ?_
        exact ends [_] [] (.cons (.tmp rfl) .nil) (.cons (.one .v (.v _)) .nil) (by decide) trivial
      · skip
        replace h2 : ((actF d op).2) = 0 := of_decide_eq_true (bnot_f h2)
        refine tr_skip ?_
        refine tr_seq ?_
        have hL := done_law hok h2
        have hoa : ∀ o ∈ (actF d op).1.ops, o.data.size ≤ 4 := act_ops hdo hoz
        generalize (actF d op).1 = a at hL hoa ⊢
        have hda : DB 900000000 a := (ok_db hL.ok).up (by decide)
        replace hoa : ∀ o ∈ a.ops, o.data.size ≤ 900000000 := fun o ho => Nat.le_trans (hoa o ho) (by decide)
        obtain ⟨a1, a2, a3, a4, a5⟩ := id hda
        have hal := pvF_length a.live
        have hal2 := pvF_length a.safe
        have hal3 := pvD_length a.ops
        have hrz := read_size hok op.name
        have hlo := hL.ops
        refine tr_wk (s' := mk [(3, .ptr 3 0), (4, .ptr 4 0), (5, .ptr 5 0)] [(3, [.p none (.sl false 2 (pvF d.live)), .p none (.sl false 2 (pvF d.safe)), .p none (.sl false 4 (pvD d.ops))]), (4, [.p none (.v (.int .i64 op.kind)), .p none (.v (.string op.name)), .p none (.v (.string op.dest)), .p none (.v (.string op.data))]), (5, [.sl 2500 0 ((pvF a.live).length), .sl 2501 0 ((pvF a.safe).length), .sl 2502 0 ((pvD a.ops).length)])] [(2500, 2, pvF a.live), (2501, 2, pvF a.safe), (2502, 4, pvD a.ops)]) ?_ ?_
        · exact wk_mk ⟨rfl, ⟨rfl, ⟨rfl, trivial⟩⟩⟩ ⟨rfl, ⟨rfl, ⟨rfl, trivial⟩⟩⟩ ⟨rfl, ⟨rfl, ⟨rfl, trivial⟩⟩⟩ rfl
        refine tr_region rfl (.run [] [] rfl (st_load_box rfl rfl rfl Try.isAgg27 Try.sizeOf27 (nle rfl)) (.run [] [] rfl (st_faddr_box rfl rfl Try.underlying36 rfl Try.sizeOf9 (by decide)) (.run [] [] rfl (st_load_box1 rfl rfl rfl Try.isAgg9 rfl) (.run [2500, 2501, 2502, 7200, 7201] [] rfl (st_call rfl 7200 (X := []) en19 rfl (.val nod) (.cons (.agg (.cons (.bor (.all (len := (pvF a.live).length) (xs := pvF a.live) rfl rfl (by decide))) (.cons (.bor (.all (len := (pvF a.safe).length) (xs := pvF a.safe) rfl rfl (by decide))) (.cons (.bor (.all (len := (pvD a.ops).length) (xs := pvD a.ops) rfl rfl (by decide))) .nil)))) (.cons (.one (.bor .v)) .nil)) (by decide) all_nil .nil (readFile_con a op.name hda hoa) rfl rfl (nle rfl)) (.run [] [] rfl (st_move rfl) (.run [] [] rfl (st_extract rfl rfl rfl) (.run [] [] rfl (st_extract rfl rfl rfl) (.run [] [] rfl (st_assign rfl) (.run [] [] rfl (st_assign rfl) .nil))))))))) ?_
        refine tr_seq ?_
        refine tr_wk (s' := mk [(3, .ptr 3 0), (4, .ptr 4 0), (5, .ptr 5 0), (9, .p none (.v (.string ((readF a op.name).1)))), (10, .p none (.v (.bool ((readF a op.name).2))))] [(3, [.p none (.sl false 2 (pvF d.live)), .p none (.sl false 2 (pvF d.safe)), .p none (.sl false 4 (pvD d.ops))]), (4, [.p none (.v (.int .i64 op.kind)), .p none (.v (.string op.name)), .p none (.v (.string op.dest)), .p none (.v (.string op.data))]), (5, [.sl 2500 0 ((pvF a.live).length), .sl 2501 0 ((pvF a.safe).length), .sl 2502 0 ((pvD a.ops).length)])] [(2500, 2, pvF a.live), (2501, 2, pvF a.safe), (2502, 4, pvD a.ops)]) ?_ ?_
        · exact wk_mk ⟨rfl, ⟨rfl, ⟨rfl, ⟨rfl, ⟨rfl, trivial⟩⟩⟩⟩⟩ ⟨rfl, ⟨rfl, ⟨rfl, trivial⟩⟩⟩ ⟨rfl, ⟨rfl, ⟨rfl, trivial⟩⟩⟩ rfl
        refine tr_region rfl (.run [] [] rfl (st_load_box rfl rfl rfl Try.isAgg27 Try.sizeOf27 (nle rfl)) (.run [] [] rfl (st_faddr_box rfl rfl Try.underlying36 rfl Try.sizeOf9 (by decide)) (.run [] [] rfl (st_load_box1 rfl rfl rfl Try.isAgg9 rfl) (.run [7900, 7901] [] rfl (st_call rfl 7900 (X := []) en19 rfl (.val nod) (.cons (.agg (.cons (.bor (.sl nod)) (.cons (.bor (.sl nod)) (.cons (.bor (.sl nod)) .nil)))) (.cons (.one (.bor .v)) .nil)) (by decide) all_nil .nil (readFile_con d op.name hd9 hop9) rfl rfl (nle rfl)) (.run [] [] rfl (st_move rfl) (.run [] [] rfl (st_extract rfl rfl rfl) (.run [] [] rfl (st_extract rfl rfl rfl) (.run [] [] rfl (st_assign rfl) (.run [] [] rfl (st_assign rfl) .nil))))))))) ?_
        refine tr_seq ?_
        refine tr_seq ?_
        refine tr_region rfl (.run [] [] rfl (st_faddr_box rfl rfl Try.underlying36 rfl Try.sizeOf2 (by decide)) (.run [] [] rfl (st_load_box1 rfl rfl rfl Try.isAgg2 rfl) .nil)) ?_
        refine tr_block ?_
        refine tr_seq ?_
        refine tr_region rfl (.run [] [] rfl (st_eql rfl rfl rfl) (.run [] [] rfl (st_assign rfl) .nil)) ?_
        refine tr_if (t := decide (op.kind = 1)) rfl (fun h3 => ?_) (fun h3 => ?_)
        · skip
          replace h3 := of_decide_eq_true h3
          refine tr_seq ?_
          refine tr_wk (s' := mk [(3, .ptr 3 0), (4, .ptr 4 0), (5, .ptr 5 0), (9, .p none (.v (.string ((readF a op.name).1)))), (10, .p none (.v (.bool ((readF a op.name).2)))), (11, .p none (.v (.string ((readF d op.name).1))))] [(3, [.p none (.sl false 2 (pvF d.live)), .p none (.sl false 2 (pvF d.safe)), .p none (.sl false 4 (pvD d.ops))]), (4, [.p none (.v (.int .i64 op.kind)), .p none (.v (.string op.name)), .p none (.v (.string op.dest)), .p none (.v (.string op.data))]), (5, [.sl 2500 0 ((pvF a.live).length), .sl 2501 0 ((pvF a.safe).length), .sl 2502 0 ((pvD a.ops).length)])] [(2500, 2, pvF a.live), (2501, 2, pvF a.safe), (2502, 4, pvD a.ops)]) ?_ ?_
          · exact wk_mk ⟨rfl, ⟨rfl, ⟨rfl, ⟨rfl, ⟨rfl, ⟨rfl, trivial⟩⟩⟩⟩⟩⟩ ⟨rfl, ⟨rfl, ⟨rfl, trivial⟩⟩⟩ ⟨rfl, ⟨rfl, ⟨rfl, trivial⟩⟩⟩ rfl
          rcases bfc (!((readF a op.name).2)) with h4 | h4
          · have h4' := h4
            replace h4' : ((readF a op.name).2) = true := bnot_f h4'
            refine tr_region rfl (.run [] [] rfl (st_move rfl) (.run [] [] rfl (st_eq (st_not (b := (readF a op.name).2) rfl rfl) (by exact congrArg (fun b => AV.p none (.v (.bool b))) h4)) (.run [] [] rfl (st_move rfl) (.run [] [] rfl (st_move rfl) (.run [] [] rfl (st_move rfl) (.run [] [] rfl (st_faddr_box rfl rfl Try.underlying36 rfl Try.sizeOf9 (by decide)) (.run [] [] rfl (st_load_box1 rfl rfl rfl Try.isAgg9 rfl) (.run [] [] rfl (st_sadd rfl rfl rfl (by omega)) (.run [] [] rfl (st_sneq rfl rfl rfl) (.run [] [] rfl (st_pick (t := false) rfl rfl) .nil)))))))))) ?_
            refine tr_if (t := (!(decide (((readF a op.name).1) = (((readF d op.name).1) ++ op.data))))) rfl (fun h5 => ?_) (fun h5 => ?_)
            · skip
              replace h5 : ¬ (((readF a op.name).1) = (((readF d op.name).1) ++ op.data)) := of_decide_eq_false (bnot_t h5)
              exact absurd (hL.app h3).2 h5
            · skip
              replace h5 : ((readF a op.name).1) = (((readF d op.name).1) ++ op.data) := of_decide_eq_true (bnot_f h5)
              refine tr_skip ?_
              refine tr_seq ?_
              refine tr_wk (s' := mk [(3, .ptr 3 0), (5, .ptr 5 0)] [(3, [.p none (.sl false 2 (pvF d.live)), .p none (.sl false 2 (pvF d.safe)), .p none (.sl false 4 (pvD d.ops))]), (5, [.sl 2500 0 ((pvF a.live).length), .sl 2501 0 ((pvF a.safe).length), .sl 2502 0 ((pvD a.ops).length)])] [(2500, 2, pvF a.live), (2501, 2, pvF a.safe), (2502, 4, pvD a.ops)]) ?_ ?_
              · exact wk_mk ⟨rfl, ⟨rfl, trivial⟩⟩ ⟨rfl, ⟨rfl, trivial⟩⟩ ⟨rfl, ⟨rfl, ⟨rfl, trivial⟩⟩⟩ rfl
              refine tr_region rfl (.run [] [] rfl (st_load_box rfl rfl rfl Try.isAgg27 Try.sizeOf27 (nle rfl)) (.run [2500, 2501, 2502, 12500] [] rfl (st_call rfl 12500 (X := []) en11 rfl (.val nod) (.cons (.agg (.cons (.bor (.all (len := (pvF a.live).length) (xs := pvF a.live) rfl rfl (by decide))) (.cons (.bor (.all (len := (pvF a.safe).length) (xs := pvF a.safe) rfl rfl (by decide))) (.cons (.bor (.all (len := (pvD a.ops).length) (xs := pvD a.ops) rfl rfl (by decide))) .nil)))) .nil) (by decide) all_nil .nil (ok_named hL.ok (diskOk_con a hda hoa)) rfl rfl (nle rfl)) (.run [] [] rfl (st_move rfl) (.run [] [] rfl (st_faddr_box rfl rfl Try.underlying27 rfl Try.sizeOf24 (by decide)) (.run [] [] rfl (st_load_box1 rfl rfl rfl Try.isAgg24 rfl) (.run [] [] rfl (st_faddr_box rfl rfl Try.underlying27 rfl Try.sizeOf24 (by decide)) (.run [] [] rfl (st_load_box1 rfl rfl rfl Try.isAgg24 rfl) (.run [2501, 13100] [] rfl (st_call rfl 13100 (X := []) en15 rfl (.val nod) (.cons (.one (.bor (.all (len := (pvF a.safe).length) (xs := pvF a.safe) rfl rfl (by decide)))) (.cons (.one (.bor (.sl nod))) .nil)) (by decide) all_nil .nil (same_named hL.safe (sameFiles_con a.safe d.safe (by omega))) rfl rfl (nle rfl)) (.run [] [] rfl (st_pick (t := true) rfl rfl) (.run [] [] rfl (st_move rfl) (.run [] [] rfl (st_faddr_box rfl rfl Try.underlying27 rfl Try.sizeOf25 (by decide)) (.run [] [] rfl (st_load_box1 rfl rfl rfl Try.isAgg25 rfl) (.run [] [] rfl (st_len_row rfl rfl Try.underlying25) (.run [] [] rfl (st_faddr_box rfl rfl Try.underlying27 rfl Try.sizeOf25 (by decide)) (.run [] [] rfl (st_load_box1 rfl rfl rfl Try.isAgg25 rfl) (.run [] [] rfl (st_len_fro rfl rfl Try.underlying25) (.run [] [] rfl (st_addn rfl rfl rfl (by omega)) (.run [] [] rfl (st_eql rfl rfl rfl) (.run [] [] rfl (st_pick (t := true) rfl rfl) (.run [] [] rfl (st_assign rfl) .nil)))))))))))))))))))) ?_
              refine tr_ret ?_
              exact ends [_] [] (.cons (.tmp (bool_eq (decide_eq_true (by omega)))) .nil) (.cons (.one .v (.v _)) .nil) (by decide) trivial
          · have h4' := h4
            replace h4' : ((readF a op.name).2) = false := bnot_t h4'
            rw [(hL.app h3).1] at h4'; cases h4'
        · skip
          replace h3 := of_decide_eq_false h3
          refine tr_seq ?_
          refine tr_region rfl (.run [] [] rfl (st_eql rfl rfl rfl) (.run [] [] rfl (st_assign rfl) .nil)) ?_
          refine tr_if (t := decide (op.kind = 2)) rfl (fun h6 => ?_) (fun h6 => ?_)
          · skip
            replace h6 := of_decide_eq_true h6
            refine tr_seq ?_
            refine tr_wk (s' := mk [(3, .ptr 3 0), (4, .ptr 4 0), (5, .ptr 5 0), (10, .p none (.v (.bool ((readF a op.name).2)))), (11, .p none (.v (.string ((readF d op.name).1))))] [(3, [.p none (.sl false 2 (pvF d.live)), .p none (.sl false 2 (pvF d.safe)), .p none (.sl false 4 (pvD d.ops))]), (4, [.p none (.v (.int .i64 op.kind)), .p none (.v (.string op.name)), .p none (.v (.string op.dest)), .p none (.v (.string op.data))]), (5, [.sl 2500 0 ((pvF a.live).length), .sl 2501 0 ((pvF a.safe).length), .sl 2502 0 ((pvD a.ops).length)])] [(2500, 2, pvF a.live), (2501, 2, pvF a.safe), (2502, 4, pvD a.ops)]) ?_ ?_
            · exact wk_mk ⟨rfl, ⟨rfl, ⟨rfl, ⟨rfl, ⟨rfl, trivial⟩⟩⟩⟩⟩ ⟨rfl, ⟨rfl, ⟨rfl, trivial⟩⟩⟩ ⟨rfl, ⟨rfl, ⟨rfl, trivial⟩⟩⟩ rfl
            refine tr_region rfl (.run [] [] rfl (st_load_box rfl rfl rfl Try.isAgg27 Try.sizeOf27 (nle rfl)) (.run [] [] rfl (st_faddr_box rfl rfl Try.underlying36 rfl Try.sizeOf9 (by decide)) (.run [] [] rfl (st_load_box1 rfl rfl rfl Try.isAgg9 rfl) (.run [2500, 2501, 2502, 10200, 10201] [] rfl (st_call rfl 10200 (X := []) en19 rfl (.val nod) (.cons (.agg (.cons (.bor (.all (len := (pvF a.live).length) (xs := pvF a.live) rfl rfl (by decide))) (.cons (.bor (.all (len := (pvF a.safe).length) (xs := pvF a.safe) rfl rfl (by decide))) (.cons (.bor (.all (len := (pvD a.ops).length) (xs := pvD a.ops) rfl rfl (by decide))) .nil)))) (.cons (.one (.bor .v)) .nil)) (by decide) all_nil .nil (readFile_con a op.dest hda hoa) rfl rfl (nle rfl)) (.run [] [] rfl (st_move rfl) (.run [] [] rfl (st_extract rfl rfl rfl) (.run [] [] rfl (st_extract rfl rfl rfl) (.run [] [] rfl (st_assign rfl) (.run [] [] rfl (st_assign rfl) .nil))))))))) ?_
            refine tr_seq ?_
            refine tr_wk (s' := mk [(3, .ptr 3 0), (4, .ptr 4 0), (5, .ptr 5 0), (10, .p none (.v (.bool ((readF a op.name).2)))), (11, .p none (.v (.string ((readF d op.name).1)))), (13, .p none (.v (.string ((readF a op.dest).1)))), (14, .p none (.v (.bool ((readF a op.dest).2))))] [(3, [.p none (.sl false 2 (pvF d.live)), .p none (.sl false 2 (pvF d.safe)), .p none (.sl false 4 (pvD d.ops))]), (4, [.p none (.v (.int .i64 op.kind)), .p none (.v (.string op.name)), .p none (.v (.string op.dest)), .p none (.v (.string op.data))]), (5, [.sl 2500 0 ((pvF a.live).length), .sl 2501 0 ((pvF a.safe).length), .sl 2502 0 ((pvD a.ops).length)])] [(2500, 2, pvF a.live), (2501, 2, pvF a.safe), (2502, 4, pvD a.ops)]) ?_ ?_
            · exact wk_mk ⟨rfl, ⟨rfl, ⟨rfl, ⟨rfl, ⟨rfl, ⟨rfl, ⟨rfl, trivial⟩⟩⟩⟩⟩⟩⟩ ⟨rfl, ⟨rfl, ⟨rfl, trivial⟩⟩⟩ ⟨rfl, ⟨rfl, ⟨rfl, trivial⟩⟩⟩ rfl
            rcases bfc (!((readF a op.dest).2)) with h7 | h7
            · have h7' := h7
              replace h7' : ((readF a op.dest).2) = true := bnot_f h7'
              rcases bfc (!(decide (((readF a op.dest).1) = ((readF d op.name).1)))) with h8 | h8
              · have h8' := h8
                replace h8' : ((readF a op.dest).1) = ((readF d op.name).1) := of_decide_eq_true (bnot_f h8')
                refine tr_region rfl (.run [] [] rfl (st_move rfl) (.run [] [] rfl (st_eq (st_not (b := (readF a op.dest).2) rfl rfl) (by exact congrArg (fun b => AV.p none (.v (.bool b))) h7)) (.run [] [] rfl (st_move rfl) (.run [] [] rfl (st_move rfl) (.run [] [] rfl (st_move rfl) (.run [] [] rfl (st_eq (st_sneq rfl rfl rfl) (by exact congrArg (fun b => AV.p none (.v (.bool b))) h8)) (.run [] [] rfl (st_pick (t := false) rfl rfl) (.run [] [] rfl (st_move rfl) (.run [] [] rfl (st_move rfl) (.run [] [] rfl (st_faddr_box rfl rfl Try.underlying36 rfl Try.sizeOf9 (by decide)) (.run [] [] rfl (st_load_box1 rfl rfl rfl Try.isAgg9 rfl) (.run [] [] rfl (st_faddr_box rfl rfl Try.underlying36 rfl Try.sizeOf9 (by decide)) (.run [] [] rfl (st_load_box1 rfl rfl rfl Try.isAgg9 rfl) (.run [] [] rfl (st_seql rfl rfl rfl) (.run [] [] rfl (st_bneq rfl rfl rfl Try.underlying4) (.run [] [] rfl (st_pick (t := false) rfl rfl) .nil)))))))))))))))) ?_
                refine tr_if (t := !(((readF a op.name).2) == (decide (op.dest = op.name)))) rfl (fun h9 => ?_) (fun h9 => ?_)
                · skip
                  rw [(hL.mv h6).2.2] at h9; simp at h9
                · skip
                  refine tr_skip ?_
                  refine tr_seq ?_
                  refine tr_wk (s' := mk [(3, .ptr 3 0), (5, .ptr 5 0)] [(3, [.p none (.sl false 2 (pvF d.live)), .p none (.sl false 2 (pvF d.safe)), .p none (.sl false 4 (pvD d.ops))]), (5, [.sl 2500 0 ((pvF a.live).length), .sl 2501 0 ((pvF a.safe).length), .sl 2502 0 ((pvD a.ops).length)])] [(2500, 2, pvF a.live), (2501, 2, pvF a.safe), (2502, 4, pvD a.ops)]) ?_ ?_
                  · exact wk_mk ⟨rfl, ⟨rfl, trivial⟩⟩ ⟨rfl, ⟨rfl, trivial⟩⟩ ⟨rfl, ⟨rfl, ⟨rfl, trivial⟩⟩⟩ rfl
                  refine tr_region rfl (.run [] [] rfl (st_load_box rfl rfl rfl Try.isAgg27 Try.sizeOf27 (nle rfl)) (.run [2500, 2501, 2502, 12500] [] rfl (st_call rfl 12500 (X := []) en11 rfl (.val nod) (.cons (.agg (.cons (.bor (.all (len := (pvF a.live).length) (xs := pvF a.live) rfl rfl (by decide))) (.cons (.bor (.all (len := (pvF a.safe).length) (xs := pvF a.safe) rfl rfl (by decide))) (.cons (.bor (.all (len := (pvD a.ops).length) (xs := pvD a.ops) rfl rfl (by decide))) .nil)))) .nil) (by decide) all_nil .nil (ok_named hL.ok (diskOk_con a hda hoa)) rfl rfl (nle rfl)) (.run [] [] rfl (st_move rfl) (.run [] [] rfl (st_faddr_box rfl rfl Try.underlying27 rfl Try.sizeOf24 (by decide)) (.run [] [] rfl (st_load_box1 rfl rfl rfl Try.isAgg24 rfl) (.run [] [] rfl (st_faddr_box rfl rfl Try.underlying27 rfl Try.sizeOf24 (by decide)) (.run [] [] rfl (st_load_box1 rfl rfl rfl Try.isAgg24 rfl) (.run [2501, 13100] [] rfl (st_call rfl 13100 (X := []) en15 rfl (.val nod) (.cons (.one (.bor (.all (len := (pvF a.safe).length) (xs := pvF a.safe) rfl rfl (by decide)))) (.cons (.one (.bor (.sl nod))) .nil)) (by decide) all_nil .nil (same_named hL.safe (sameFiles_con a.safe d.safe (by omega))) rfl rfl (nle rfl)) (.run [] [] rfl (st_pick (t := true) rfl rfl) (.run [] [] rfl (st_move rfl) (.run [] [] rfl (st_faddr_box rfl rfl Try.underlying27 rfl Try.sizeOf25 (by decide)) (.run [] [] rfl (st_load_box1 rfl rfl rfl Try.isAgg25 rfl) (.run [] [] rfl (st_len_row rfl rfl Try.underlying25) (.run [] [] rfl (st_faddr_box rfl rfl Try.underlying27 rfl Try.sizeOf25 (by decide)) (.run [] [] rfl (st_load_box1 rfl rfl rfl Try.isAgg25 rfl) (.run [] [] rfl (st_len_fro rfl rfl Try.underlying25) (.run [] [] rfl (st_addn rfl rfl rfl (by omega)) (.run [] [] rfl (st_eql rfl rfl rfl) (.run [] [] rfl (st_pick (t := true) rfl rfl) (.run [] [] rfl (st_assign rfl) .nil)))))))))))))))))))) ?_
                  refine tr_ret ?_
                  exact ends [_] [] (.cons (.tmp (bool_eq (decide_eq_true (by omega)))) .nil) (.cons (.one .v (.v _)) .nil) (by decide) trivial
              · have h8' := h8
                replace h8' : ¬ (((readF a op.dest).1) = ((readF d op.name).1)) := of_decide_eq_false (bnot_t h8')
                exact absurd (hL.mv h6).2.1 h8'
            · have h7' := h7
              replace h7' : ((readF a op.dest).2) = false := bnot_t h7'
              rw [(hL.mv h6).1] at h7'; cases h7'
          · skip
            replace h6 := of_decide_eq_false h6
            refine tr_seq ?_
            refine tr_wk (s' := mk [(3, .ptr 3 0), (5, .ptr 5 0), (10, .p none (.v (.bool ((readF a op.name).2)))), (83, .p none (.v (.int .i64 op.kind)))] [(3, [.p none (.sl false 2 (pvF d.live)), .p none (.sl false 2 (pvF d.safe)), .p none (.sl false 4 (pvD d.ops))]), (5, [.sl 2500 0 ((pvF a.live).length), .sl 2501 0 ((pvF a.safe).length), .sl 2502 0 ((pvD a.ops).length)])] [(2500, 2, pvF a.live), (2501, 2, pvF a.safe), (2502, 4, pvD a.ops)]) ?_ ?_
            · exact wk_mk ⟨rfl, ⟨rfl, ⟨rfl, ⟨rfl, trivial⟩⟩⟩⟩ ⟨rfl, ⟨rfl, trivial⟩⟩ ⟨rfl, ⟨rfl, ⟨rfl, trivial⟩⟩⟩ rfl
            refine tr_region rfl (.run [] [] rfl (st_eql rfl rfl rfl) (.run [] [] rfl (st_assign rfl) .nil)) ?_
            refine tr_if (t := decide (op.kind = 3)) rfl (fun h10 => ?_) (fun h10 => ?_)
            · skip
              replace h10 := of_decide_eq_true h10
              refine tr_seq ?_
              refine tr_region rfl (.run [] [] rfl (st_move rfl) .nil) ?_
              refine tr_if (t := (readF a op.name).2) rfl (fun h11 => ?_) (fun h11 => ?_)
              · skip
                rw [hL.rm h10] at h11; cases h11
              · skip
                refine tr_skip ?_
                refine tr_seq ?_
                refine tr_wk (s' := mk [(3, .ptr 3 0), (5, .ptr 5 0)] [(3, [.p none (.sl false 2 (pvF d.live)), .p none (.sl false 2 (pvF d.safe)), .p none (.sl false 4 (pvD d.ops))]), (5, [.sl 2500 0 ((pvF a.live).length), .sl 2501 0 ((pvF a.safe).length), .sl 2502 0 ((pvD a.ops).length)])] [(2500, 2, pvF a.live), (2501, 2, pvF a.safe), (2502, 4, pvD a.ops)]) ?_ ?_
                · exact wk_mk ⟨rfl, ⟨rfl, trivial⟩⟩ ⟨rfl, ⟨rfl, trivial⟩⟩ ⟨rfl, ⟨rfl, ⟨rfl, trivial⟩⟩⟩ rfl
                refine tr_region rfl (.run [] [] rfl (st_load_box rfl rfl rfl Try.isAgg27 Try.sizeOf27 (nle rfl)) (.run [2500, 2501, 2502, 12500] [] rfl (st_call rfl 12500 (X := []) en11 rfl (.val nod) (.cons (.agg (.cons (.bor (.all (len := (pvF a.live).length) (xs := pvF a.live) rfl rfl (by decide))) (.cons (.bor (.all (len := (pvF a.safe).length) (xs := pvF a.safe) rfl rfl (by decide))) (.cons (.bor (.all (len := (pvD a.ops).length) (xs := pvD a.ops) rfl rfl (by decide))) .nil)))) .nil) (by decide) all_nil .nil (ok_named hL.ok (diskOk_con a hda hoa)) rfl rfl (nle rfl)) (.run [] [] rfl (st_move rfl) (.run [] [] rfl (st_faddr_box rfl rfl Try.underlying27 rfl Try.sizeOf24 (by decide)) (.run [] [] rfl (st_load_box1 rfl rfl rfl Try.isAgg24 rfl) (.run [] [] rfl (st_faddr_box rfl rfl Try.underlying27 rfl Try.sizeOf24 (by decide)) (.run [] [] rfl (st_load_box1 rfl rfl rfl Try.isAgg24 rfl) (.run [2501, 13100] [] rfl (st_call rfl 13100 (X := []) en15 rfl (.val nod) (.cons (.one (.bor (.all (len := (pvF a.safe).length) (xs := pvF a.safe) rfl rfl (by decide)))) (.cons (.one (.bor (.sl nod))) .nil)) (by decide) all_nil .nil (same_named hL.safe (sameFiles_con a.safe d.safe (by omega))) rfl rfl (nle rfl)) (.run [] [] rfl (st_pick (t := true) rfl rfl) (.run [] [] rfl (st_move rfl) (.run [] [] rfl (st_faddr_box rfl rfl Try.underlying27 rfl Try.sizeOf25 (by decide)) (.run [] [] rfl (st_load_box1 rfl rfl rfl Try.isAgg25 rfl) (.run [] [] rfl (st_len_row rfl rfl Try.underlying25) (.run [] [] rfl (st_faddr_box rfl rfl Try.underlying27 rfl Try.sizeOf25 (by decide)) (.run [] [] rfl (st_load_box1 rfl rfl rfl Try.isAgg25 rfl) (.run [] [] rfl (st_len_fro rfl rfl Try.underlying25) (.run [] [] rfl (st_addn rfl rfl rfl (by omega)) (.run [] [] rfl (st_eql rfl rfl rfl) (.run [] [] rfl (st_pick (t := true) rfl rfl) (.run [] [] rfl (st_assign rfl) .nil)))))))))))))))))))) ?_
                refine tr_ret ?_
                exact ends [_] [] (.cons (.tmp (bool_eq (decide_eq_true (by omega)))) .nil) (.cons (.one .v (.v _)) .nil) (by decide) trivial
            · skip
              replace h10 := of_decide_eq_false h10
              exact absurd hL.kind (by omega)
end Go.Rl

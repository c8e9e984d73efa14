/- Promises of functions, proved by walks over their operations; no conditions beyond those that each theorem states. -/
import Derived.Test.YtiflbeiomdbmiaaRtO
import Derived.Test.YtiflbeiomdbmiaaRtF
import Derived.Test.YtiflbeiomdbmiaaRtRc
namespace Go.Rl
open Go.Proofs
theorem en28 : ∀ vs w, (callFunc 28 vs).run Try.prog w = .ok (.enter 28 vs) w := enters Try.func28 (by decide) rfl
theorem en20 : ∀ vs w, (callFunc 20 vs).run Try.prog w = .ok (.enter 20 vs) w := enters Try.func20 (by decide) rfl
theorem en11 : ∀ vs w, (callFunc 11 vs).run Try.prog w = .ok (.enter 11 vs) w := enters Try.func11 (by decide) rfl
theorem en22 : ∀ vs w, (callFunc 22 vs).run Try.prog w = .ok (.enter 22 vs) w := enters Try.func22 (by decide) rfl
theorem en49 : ∀ vs w, (callFunc 49 vs).run Try.prog w = .ok (.enter 49 vs) w := enters Try.func49 (by decide) rfl
theorem cache_con {γ : Gho} {cv : Value} {bs : List Nat} (hc : CodeAt γ cv bs) (hl : bs.length ≤ 1152921504606846976) (p : Nat) (hp : p ≤ bs.length)  : ConG γ Try.prog 27 [.rptr 2 [PV.v (cv), PV.v (.int .i64 (p:Int))]] [some (pvRd (cv, (cacheV bs p).2.2))] [.agg [.v (.int .i64 (cacheV bs p).1), .sl true 3 (pvS (cacheV bs p).2.1)]] := by
  refine con_of_tr Try.func27 rfl rfl rfl rfl ?_
  refine tr_seq ?_
  refine tr_region rfl (.run [] [2] rfl (st_allocZ rfl 2 inf26 rfl (by decide) rfl (by decide)) .nil) ?_
  refine tr_seq ?_
  refine tr_region rfl (.run [] [] rfl (st_move rfl) (.run [100000, 800] [] rfl (st_callG (.inr rfl) rfl 800 (X := [100000]) en50 rfl (.val nod) (.cons (.rptr rfl) (.cons (.one (.bor .v)) .nil)) (by decide) (all_cons rfl all_nil) (.keep (xs := pvRd (cv, p)) rfl (FlatP.nf (pvRd_flat _)) .nil) (below_con hc hl p hp 30 (by omega)) rfl rfl (nle rfl)) (.run [] [] rfl (st_build (pl := [(0, 1), (1, 1)]) rfl Try.underlying26 inf26 (by kernel_rfl) rfl rfl) (.run [] [3] rfl (st_allocZ rfl 3 inf26 rfl (by decide) rfl (by decide)) (.run [] [] rfl (st_store_box rfl rfl rfl rfl rfl Try.sizeOf26 rfl (nle rfl)) .nil))))) ?_
  refine tr_seq ?_
  refine tr_seq ?_
  refine tr_region rfl (.run [] [] rfl (st_move rfl) (.run [100000, 1100] [] rfl (st_callG (.inr rfl) rfl 1100 (X := [100000]) en50 rfl (.val nod) (.cons (.rptr rfl) (.cons (.one (.bor .v)) .nil)) (by decide) (all_cons rfl all_nil) (.keep (xs := pvRd (cv, belowP bs p 30)) rfl (FlatP.nf (pvRd_flat _)) .nil) (below_con hc hl (belowP bs p 30) (belowP_le hp) 9 (by omega)) rfl rfl (nle rfl)) (.run [] [] rfl (st_assign rfl) .nil))) ?_
  refine tr_block ?_
  refine tr_wk (wk_nil 3 1 1 3 rfl rfl rfl (by decide)) ?_
-- entry row 100000: pvRd (cv, (belowP bs (belowP bs p 30) 9)) now pvRd (cv, belowP bs (belowP bs p 30) 9)
  refine tr_loopS (σ := Nat × Int × List Slot × Nat) (fun (i, m, l, q) => mk [(0, .ea 100000 0 0), (2, .ptr 2 0), (3, .ptr 3 0), (4, .p none (.v (.int .i64 (i:Int))))] [(2, [.p none (.v (.int .i64 0)), .nils]), (3, [.p none (.v (.int .i64 m)), .sl 1 0 ((pvS l).length)])] [(1, 3, pvS l), (100000, 2, pvRd (cv, q))]) (fun (i, m, l, q) => i ≤ 8 ∧ l.length ≤ 41 ∧ q ≤ bs.length ∧ cloop bs i (m, l, q) = cbase bs p) (fun (i, m, l, q) => i) (belowV bs (belowP bs p 30) 9, ((belowV bs p 30 : Nat) : Int), [], belowP bs (belowP bs p 30) 9) ⟨by have := belowV_lt (bs := bs) (p := belowP bs p 30) (n := 9) (by decide); omega, Nat.zero_le _, belowP_le (belowP_le hp), rfl⟩ (wk_mk ⟨rfl, ⟨rfl, ⟨rfl, ⟨(int_eq (by omega)), trivial⟩⟩⟩⟩ ⟨rfl, ⟨rfl, trivial⟩⟩ ⟨(congrArg (fun x => some (3, x)) (by rfl)), ⟨rfl, trivial⟩⟩ rfl) ?_
  rintro ⟨i, m, l, q⟩ hG
  replace hG : i ≤ 8 ∧ l.length ≤ 41 ∧ q ≤ bs.length ∧ cloop bs i (m, l, q) = cbase bs p := hG
  obtain ⟨hi, hll, hp, hE⟩ := hG
  have hle := pvS_length l
  have hb12 := belowV_lt (bs := bs) (p := belowP bs (userP bs q) 3) (n := 12) (by decide)
  refine tr_seq ?_
  refine tr_seq ?_
  refine tr_region rfl (.run [] [] rfl (st_move rfl) (.run [] [] rfl (st_gtr rfl rfl rfl) .nil)) ?_
  refine tr_if (t := decide (0 < (i:Int))) rfl (fun h1 => ?_) (fun h1 => ?_)
  · skip
    replace h1 := of_decide_eq_true h1
    refine tr_skip ?_
    refine tr_seq ?_
    refine tr_block ?_
    refine tr_seq ?_
    refine tr_region rfl (.run [] [] rfl (st_move rfl) (.run [100000, 1700] [] rfl (st_callG (.inr rfl) rfl 1700 (X := [100000]) en28 rfl (.val nod) (.cons (.rptr rfl) .nil) (by decide) (all_cons rfl all_nil) (.keep (xs := pvRd (cv, q)) rfl (FlatP.nf (pvRd_flat _)) .nil) (user_con hc hl q hp) rfl rfl (nle rfl)) (.run [] [] rfl (st_assign rfl) .nil))) ?_
    refine tr_seq ?_
    refine tr_region rfl (.run [] [] rfl (st_load_box rfl rfl rfl Try.isAgg26 Try.sizeOf26 (nle rfl)) (.run [] [6] rfl (st_allocZ rfl 6 inf26 rfl (by decide) rfl (by decide)) (.run [] [] rfl (st_store_box rfl rfl rfl rfl rfl Try.sizeOf26 rfl (nle rfl)) .nil))) ?_
    refine tr_seq ?_
    refine tr_seq ?_
    refine tr_region rfl (.run [] [] rfl (st_move rfl) (.run [100000, 2000] [] rfl (st_callG (.inr rfl) rfl 2000 (X := [100000]) en50 rfl (.val nod) (.cons (.rptr rfl) (.cons (.one (.bor .v)) .nil)) (by decide) (all_cons rfl all_nil) (.keep (xs := pvRd (cv, userP bs q)) rfl (FlatP.nf (pvRd_flat _)) .nil) (below_con hc hl (userP bs q) (belowP_le hp) 3 (by omega)) rfl rfl (nle rfl)) .nil)) ?_
    refine tr_block ?_
    refine tr_seq ?_
    refine tr_region rfl (.run [] [] rfl (st_eql rfl rfl rfl) (.run [] [] rfl (st_assign rfl) .nil)) ?_
    refine tr_if (t := decide (((belowV bs (userP bs q) 3 : Nat) : Int) = 0)) rfl (fun h2 => ?_) (fun h2 => ?_)
    · skip
      replace h2 := of_decide_eq_true h2
      refine tr_wk (s' := mk [(0, .ea 100000 0 0), (2, .ptr 2 0), (3, .ptr 3 0), (4, .p none (.v (.int .i64 (i:Int)))), (5, .p none (.v (.string (userV bs q)))), (6, .ptr 6 0)] [(2, [.p none (.v (.int .i64 0)), .nils]), (3, [.p none (.v (.int .i64 m)), .sl 1 0 ((pvS l).length)]), (6, [.p none (.v (.int .i64 m)), .sl 1 0 ((pvS l).length)])] [(1, 3, pvS l), (100000, 2, pvRd (cv, belowP bs (userP bs q) 3))]) ?_ ?_
      · exact wk_mk ⟨rfl, ⟨rfl, ⟨rfl, ⟨rfl, ⟨rfl, ⟨rfl, trivial⟩⟩⟩⟩⟩⟩ ⟨rfl, ⟨rfl, ⟨rfl, trivial⟩⟩⟩ ⟨rfl, ⟨rfl, trivial⟩⟩ rfl
      refine tr_region rfl (.run [] [] rfl (st_load_box rfl rfl rfl Try.isAgg26 Try.sizeOf26 (nle rfl)) (.run [] [] rfl (st_move rfl) (.run [1, 3500, 3501, 3502] [] rfl (st_call rfl 3500 (X := []) en20 rfl (.val nod) (.cons (.agg (.cons (.bor .v) (.cons (.bor (.all (len := (pvS l).length) (xs := pvS l) rfl rfl (by decide))) .nil))) (.cons (.one (.bor .v)) .nil)) (by decide) all_nil .nil (specCacheGet_con m l (userV bs q) (by omega)) rfl rfl (nle rfl)) (.run [] [] rfl (st_move rfl) (.run [] [] rfl (st_extract rfl rfl rfl) (.run [] [] rfl (st_extract rfl rfl rfl) (.run [] [] rfl (st_store_box rfl rfl rfl rfl rfl Try.sizeOf26 rfl (nle rfl)) .nil))))))) ?_
      refine tr_region rfl (.run [] [] rfl (st_load_box rfl rfl rfl Try.isAgg26 Try.sizeOf26 (nle rfl)) (.run [] [] rfl (st_store_box rfl rfl rfl rfl rfl Try.sizeOf26 rfl (nle rfl)) .nil)) ?_
      refine tr_region rfl (.run [] [] rfl (st_move rfl) (.run [] [] rfl (st_subn rfl rfl rfl (by omega)) (.run [] [] rfl (st_assign rfl) .nil))) ?_
-- round row 100000: pvRd (cv, (belowP bs (userP bs q) 3)) now pvRd (cv, belowP bs (userP bs q) 3)
      refine nxt (Q := fun _ _ => False) (z := (i, m, l, q)) (i - 1, (getC m l (userV bs q)).1, (getC m l (userV bs q)).2.1, belowP bs (userP bs q) 3) ?_ ?_ ?_
      · show (i - 1) ≤ 8 ∧ ((getC m l (userV bs q)).2.1).length ≤ 41 ∧ (belowP bs (userP bs q) 3) ≤ bs.length ∧ cloop bs (i - 1) (((getC m l (userV bs q)).1), ((getC m l (userV bs q)).2.1), (belowP bs (userP bs q) 3)) = cbase bs p
        exact ⟨by omega, Nat.le_trans (get_len _ _ _) (by decide), belowP_le (belowP_le hp), cloop_go (by omega) (cstep_0 (by omega)) hE⟩
      · show (i - 1) < i
        omega
      · exact (show Wk _ _ (mk [(0, .ea 100000 0 0), (2, .ptr 2 0), (3, .ptr 3 0), (4, .p none (.v (.int .i64 ((i:Int) - 1))))] [(2, [.p none (.v (.int .i64 0)), .nils]), (3, [.p none (.v (.int .i64 ((getC m l (userV bs q)).1))), .sl 3501 0 ((pvS ((getC m l (userV bs q)).2.1)).length)])] [(3501, 3, pvS ((getC m l (userV bs q)).2.1)), (100000, 2, pvRd (cv, belowP bs (userP bs q) 3))]) from wk_mk ⟨rfl, ⟨rfl, ⟨rfl, ⟨rfl, trivial⟩⟩⟩⟩ ⟨rfl, ⟨rfl, trivial⟩⟩ ⟨rfl, ⟨rfl, trivial⟩⟩ rfl).trans ((wk_ren 3501 1 rfl rfl (by decide)).trans (wk_mk ⟨rfl, ⟨rfl, ⟨rfl, ⟨(int_eq (by omega)), trivial⟩⟩⟩⟩ ⟨rfl, ⟨rfl, trivial⟩⟩ ⟨rfl, ⟨rfl, trivial⟩⟩ rfl))
    · skip
      replace h2 := of_decide_eq_false h2
      refine tr_seq ?_
      refine tr_region rfl (.run [] [] rfl (st_eql rfl rfl rfl) (.run [] [] rfl (st_assign rfl) .nil)) ?_
      refine tr_if (t := decide (((belowV bs (userP bs q) 3 : Nat) : Int) = 1)) rfl (fun h3 => ?_) (fun h3 => ?_)
      · skip
        replace h3 := of_decide_eq_true h3
        refine tr_wk (s' := mk [(0, .ea 100000 0 0), (2, .ptr 2 0), (3, .ptr 3 0), (4, .p none (.v (.int .i64 (i:Int)))), (5, .p none (.v (.string (userV bs q)))), (6, .ptr 6 0)] [(2, [.p none (.v (.int .i64 0)), .nils]), (3, [.p none (.v (.int .i64 m)), .sl 1 0 ((pvS l).length)]), (6, [.p none (.v (.int .i64 m)), .sl 1 0 ((pvS l).length)])] [(1, 3, pvS l), (100000, 2, pvRd (cv, belowP bs (userP bs q) 3))]) ?_ ?_
        · exact wk_mk ⟨rfl, ⟨rfl, ⟨rfl, ⟨rfl, ⟨rfl, ⟨rfl, trivial⟩⟩⟩⟩⟩⟩ ⟨rfl, ⟨rfl, ⟨rfl, trivial⟩⟩⟩ ⟨rfl, ⟨rfl, trivial⟩⟩ rfl
        refine tr_region rfl (.run [] [] rfl (st_load_box rfl rfl rfl Try.isAgg26 Try.sizeOf26 (nle rfl)) (.run [] [] rfl (st_move rfl) (.run [1, 4300, 4301, 4302] [] rfl (st_call rfl 4300 (X := []) en11 rfl (.val nod) (.cons (.agg (.cons (.bor .v) (.cons (.bor (.all (len := (pvS l).length) (xs := pvS l) rfl rfl (by decide))) .nil))) (.cons (.one (.bor .v)) .nil)) (by decide) all_nil .nil (specCacheFree_con m l (userV bs q) (by omega)) rfl rfl (nle rfl)) (.run [] [] rfl (st_move rfl) (.run [] [] rfl (st_extract rfl rfl rfl) (.run [] [] rfl (st_extract rfl rfl rfl) (.run [] [] rfl (st_store_box rfl rfl rfl rfl rfl Try.sizeOf26 rfl (nle rfl)) .nil))))))) ?_
        refine tr_region rfl (.run [] [] rfl (st_load_box rfl rfl rfl Try.isAgg26 Try.sizeOf26 (nle rfl)) (.run [] [] rfl (st_store_box rfl rfl rfl rfl rfl Try.sizeOf26 rfl (nle rfl)) .nil)) ?_
        refine tr_region rfl (.run [] [] rfl (st_move rfl) (.run [] [] rfl (st_subn rfl rfl rfl (by omega)) (.run [] [] rfl (st_assign rfl) .nil))) ?_
-- round row 100000: pvRd (cv, (belowP bs (userP bs q) 3)) now pvRd (cv, belowP bs (userP bs q) 3)
        refine nxt (Q := fun _ _ => False) (z := (i, m, l, q)) (i - 1, (freeC m l (userV bs q)).1, (freeC m l (userV bs q)).2.1, belowP bs (userP bs q) 3) ?_ ?_ ?_
        · show (i - 1) ≤ 8 ∧ ((freeC m l (userV bs q)).2.1).length ≤ 41 ∧ (belowP bs (userP bs q) 3) ≤ bs.length ∧ cloop bs (i - 1) (((freeC m l (userV bs q)).1), ((freeC m l (userV bs q)).2.1), (belowP bs (userP bs q) 3)) = cbase bs p
          exact ⟨by omega, Nat.le_trans (free_len _ _ _) (by decide), belowP_le (belowP_le hp), cloop_go (by omega) (cstep_1 (by omega)) hE⟩
        · show (i - 1) < i
          omega
        · exact (show Wk _ _ (mk [(0, .ea 100000 0 0), (2, .ptr 2 0), (3, .ptr 3 0), (4, .p none (.v (.int .i64 ((i:Int) - 1))))] [(2, [.p none (.v (.int .i64 0)), .nils]), (3, [.p none (.v (.int .i64 ((freeC m l (userV bs q)).1))), .sl 4301 0 ((pvS ((freeC m l (userV bs q)).2.1)).length)])] [(4301, 3, pvS ((freeC m l (userV bs q)).2.1)), (100000, 2, pvRd (cv, belowP bs (userP bs q) 3))]) from wk_mk ⟨rfl, ⟨rfl, ⟨rfl, ⟨rfl, trivial⟩⟩⟩⟩ ⟨rfl, ⟨rfl, trivial⟩⟩ ⟨rfl, ⟨rfl, trivial⟩⟩ rfl).trans ((wk_ren 4301 1 rfl rfl (by decide)).trans (wk_mk ⟨rfl, ⟨rfl, ⟨rfl, ⟨(int_eq (by omega)), trivial⟩⟩⟩⟩ ⟨rfl, ⟨rfl, trivial⟩⟩ ⟨rfl, ⟨rfl, trivial⟩⟩ rfl))
      · skip
        replace h3 := of_decide_eq_false h3
        refine tr_wk (s' := mk [(0, .ea 100000 0 0), (2, .ptr 2 0), (3, .ptr 3 0), (4, .p none (.v (.int .i64 (i:Int)))), (5, .p none (.v (.string (userV bs q)))), (6, .ptr 6 0)] [(2, [.p none (.v (.int .i64 0)), .nils]), (3, [.p none (.v (.int .i64 m)), .sl 1 0 ((pvS l).length)]), (6, [.p none (.v (.int .i64 m)), .sl 1 0 ((pvS l).length)])] [(1, 3, pvS l), (100000, 2, pvRd (cv, belowP bs (userP bs q) 3))]) ?_ ?_
        · exact wk_mk ⟨rfl, ⟨rfl, ⟨rfl, ⟨rfl, ⟨rfl, ⟨rfl, trivial⟩⟩⟩⟩⟩⟩ ⟨rfl, ⟨rfl, ⟨rfl, trivial⟩⟩⟩ ⟨rfl, ⟨rfl, trivial⟩⟩ rfl
        refine tr_regionD mixed rfl (.run [] [] rfl (st_load_box rfl rfl rfl Try.isAgg26 Try.sizeOf26 (nle rfl)) (.run [] [] rfl (st_move rfl) (.run [] [] rfl (st_move rfl) (.run [100000, 2500] [] rfl (st_callG (.inr rfl) rfl 2500 (X := [100000]) en50 rfl (.val nod) (.cons (.rptr rfl) (.cons (.one (.bor .v)) .nil)) (by decide) (all_cons rfl all_nil) (.keep (xs := pvRd (cv, belowP bs (userP bs q) 3)) rfl (FlatP.nf (pvRd_flat _)) .nil) (below_con hc hl (belowP bs (userP bs q) 3) (belowP_le (belowP_le hp)) 12 (by omega)) rfl rfl (nle rfl)) (.run [] [] rfl (st_addn rfl rfl rfl (by omega)) (.run [1, 2700, 2701, 2702] [] rfl (st_call rfl 2700 (X := []) en22 rfl (.val nod) (.cons (.agg (.cons (.bor .v) (.cons (.bor (.all (len := (pvS l).length) (xs := pvS l) rfl rfl (by decide))) .nil))) (.cons (.one (.bor .v)) (.cons (.one (.bor .v)) .nil))) (by decide) all_nil .nil (specCachePut_con m l (userV bs q) (1 + ((belowV bs (belowP bs (userP bs q) 3) 12 : Nat) : Int)) (by omega)) rfl rfl (nle rfl)) (.run [] [] rfl (st_move rfl) (.run [] [] rfl (st_extract rfl rfl rfl) (.run [] [] rfl (st_extract rfl rfl rfl) (.run [] [] rfl (st_store_box rfl rfl rfl rfl rfl Try.sizeOf26 rfl (nle rfl)) .nil)))))))))) (by kernel_rfl) ?_
        refine tr_region rfl (.run [] [] rfl (st_load_box rfl rfl rfl Try.isAgg26 Try.sizeOf26 (nle rfl)) (.run [] [] rfl (st_store_box rfl rfl rfl rfl rfl Try.sizeOf26 rfl (nle rfl)) .nil)) ?_
        refine tr_region rfl (.run [] [] rfl (st_move rfl) (.run [] [] rfl (st_subn rfl rfl rfl (by omega)) (.run [] [] rfl (st_assign rfl) .nil))) ?_
-- round row 100000: pvRd (cv, (belowP bs (belowP bs (userP bs q) 3) 12)) now pvRd (cv, belowP bs (belowP bs (userP bs q) 3) 12)
        refine nxt (Q := fun _ _ => False) (z := (i, m, l, q)) (i - 1, (putC m l (userV bs q) (1 + ((belowV bs (belowP bs (userP bs q) 3) 12 : Nat) : Int))).1, (putC m l (userV bs q) (1 + ((belowV bs (belowP bs (userP bs q) 3) 12 : Nat) : Int))).2.1, belowP bs (belowP bs (userP bs q) 3) 12) ?_ ?_ ?_
        · show (i - 1) ≤ 8 ∧ ((putC m l (userV bs q) (1 + ((belowV bs (belowP bs (userP bs q) 3) 12 : Nat) : Int))).2.1).length ≤ 41 ∧ (belowP bs (belowP bs (userP bs q) 3) 12) ≤ bs.length ∧ cloop bs (i - 1) (((putC m l (userV bs q) (1 + ((belowV bs (belowP bs (userP bs q) 3) 12 : Nat) : Int))).1), ((putC m l (userV bs q) (1 + ((belowV bs (belowP bs (userP bs q) 3) 12 : Nat) : Int))).2.1), (belowP bs (belowP bs (userP bs q) 3) 12)) = cbase bs p
          exact ⟨by omega, Nat.le_trans (put_len _ _ _ _) (by decide), belowP_le (belowP_le (belowP_le hp)), cloop_go (by omega) (cstep_2 (by omega) (by omega)) hE⟩
        · show (i - 1) < i
          omega
        · exact (show Wk _ _ (mk [(0, .ea 100000 0 0), (2, .ptr 2 0), (3, .ptr 3 0), (4, .p none (.v (.int .i64 ((i:Int) - 1))))] [(2, [.p none (.v (.int .i64 0)), .nils]), (3, [.p none (.v (.int .i64 ((putC m l (userV bs q) (1 + ((belowV bs (belowP bs (userP bs q) 3) 12 : Nat) : Int))).1))), .sl 2701 0 ((pvS ((putC m l (userV bs q) (1 + ((belowV bs (belowP bs (userP bs q) 3) 12 : Nat) : Int))).2.1)).length)])] [(2701, 3, pvS ((putC m l (userV bs q) (1 + ((belowV bs (belowP bs (userP bs q) 3) 12 : Nat) : Int))).2.1)), (100000, 2, pvRd (cv, belowP bs (belowP bs (userP bs q) 3) 12))]) from wk_mk ⟨rfl, ⟨rfl, ⟨rfl, ⟨rfl, trivial⟩⟩⟩⟩ ⟨rfl, ⟨rfl, trivial⟩⟩ ⟨rfl, ⟨rfl, trivial⟩⟩ rfl).trans ((wk_ren 2701 1 rfl rfl (by decide)).trans (wk_mk ⟨rfl, ⟨rfl, ⟨rfl, ⟨(int_eq (by omega)), trivial⟩⟩⟩⟩ ⟨rfl, ⟨rfl, trivial⟩⟩ ⟨rfl, ⟨rfl, trivial⟩⟩ rfl))
  · skip
    replace h1 := of_decide_eq_false h1
    refine tr_exit ?_
    refine tr_seq ?_
    refine tr_seq ?_
    have hi0 : i = 0 := (by omega)
    rw [hi0] at hE
    have hEm : (m, l, q) = cbase bs p := hE
    refine tr_region rfl (.run [] [] rfl (st_move rfl) (.run [100000, 4800] [] rfl (st_callG (.inr rfl) rfl 4800 (X := [100000]) en51 rfl (.val nod) (.cons (.rptr rfl) (.cons (.one (.bor .v)) .nil)) (by decide) (all_cons rfl all_nil) (.keep (xs := pvRd (cv, q)) rfl (FlatP.nf (pvRd_flat _)) .nil) (once_con hc hl q hp 16 (by omega)) rfl rfl (nle rfl)) .nil)) ?_
    refine tr_if (t := onceV bs q 16) rfl (fun h4 => ?_) (fun h4 => ?_)
    · skip
      have hcv : cacheV bs p = (m, l ++ [⟨userV bs (belowP bs q 16), offV bs (userP bs (belowP bs q 16)) 1 9, offV bs (offP bs (userP bs (belowP bs q 16)) 1 9) 0 2⟩], offP bs (offP bs (userP bs (belowP bs q 16)) 1 9) 0 2) := by rw [cacheV, ← hEm, cmore, if_pos h4]
      rw [hcv]
      refine tr_wk (s' := mk [(0, .ea 100000 0 0), (2, .ptr 2 0), (3, .ptr 3 0)] [(2, [.p none (.v (.int .i64 0)), .nils]), (3, [.p none (.v (.int .i64 m)), .sl 1 0 ((pvS l).length)])] [(1, 3, pvS l), (100000, 2, pvRd (cv, belowP bs q 16))]) ?_ ?_
      · exact wk_mk ⟨rfl, ⟨rfl, ⟨rfl, trivial⟩⟩⟩ ⟨rfl, ⟨rfl, trivial⟩⟩ ⟨rfl, ⟨rfl, trivial⟩⟩ rfl
      refine tr_regionD mixed rfl (.run [] [] rfl (st_faddr_box rfl rfl Try.underlying26 rfl Try.sizeOf24 (by decide)) (.run [] [] rfl (st_load_box1 rfl rfl rfl Try.isAgg24 rfl) (.run [] [] rfl (st_move rfl) (.run [100000, 5200] [] rfl (st_callG (.inr rfl) rfl 5200 (X := [100000]) en28 rfl (.val nod) (.cons (.rptr rfl) .nil) (by decide) (all_cons rfl all_nil) (.keep (xs := pvRd (cv, belowP bs q 16)) rfl (FlatP.nf (pvRd_flat _)) .nil) (user_con hc hl (belowP bs q 16) (belowP_le hp)) rfl rfl (nle rfl)) (.run [] [] rfl (st_move rfl) (.run [100000, 5400] [] rfl (st_callG (.inr rfl) rfl 5400 (X := [100000]) en49 rfl (.val nod) (.cons (.rptr rfl) (.cons (.one (.bor .v)) (.cons (.one (.bor .v)) .nil))) (by decide) (all_cons rfl all_nil) (.keep (xs := pvRd (cv, userP bs (belowP bs q 16))) rfl (FlatP.nf (pvRd_flat _)) .nil) (off_con hc hl (userP bs (belowP bs q 16)) (belowP_le (belowP_le hp)) 1 9 (by omega) (by omega)) rfl rfl (nle rfl)) (.run [] [] rfl (st_move rfl) (.run [100000, 5600] [] rfl (st_callG (.inr rfl) rfl 5600 (X := [100000]) en49 rfl (.val nod) (.cons (.rptr rfl) (.cons (.one (.bor .v)) (.cons (.one (.bor .v)) .nil))) (by decide) (all_cons rfl all_nil) (.keep (xs := pvRd (cv, offP bs (userP bs (belowP bs q 16)) 1 9)) rfl (FlatP.nf (pvRd_flat _)) .nil) (off_con hc hl (offP bs (userP bs (belowP bs q 16)) 1 9) (offP_le (belowP_le (belowP_le hp))) 0 2 (by omega) (by omega)) rfl rfl (nle rfl)) (.run [] [] rfl (st_build (pl := [(0, 1), (1, 1), (2, 1)]) rfl Try.underlying33 inf33 (by kernel_rfl) rfl rfl) (.run [5800] [] rfl (st_buildSlice rfl 5800 Try.underlying24 inf33 (nle rfl) (by decide) rfl rfl rfl (.cons .v (.cons .v (.cons .v .nil))) (by decide) rfl (by decide) rfl (by decide) rfl) (.run [1] [] rfl (st_append rfl 1 (ib := 1) (len := ((pvS l) ++ [[PV.v (.string (userV bs (belowP bs q 16))), PV.v (.int .i64 (offV bs (userP bs (belowP bs q 16)) 1 9)), PV.v (.int .i64 (offV bs (offP bs (userP bs (belowP bs q 16)) 1 9) 0 2))]]).length) rfl rfl (.row (len := (pvS l).length) (xs := pvS l) rfl rfl (.inl rfl)) (.give (len := 1) (xs := [[PV.v (.string (userV bs (belowP bs q 16))), PV.v (.int .i64 (offV bs (userP bs (belowP bs q 16)) 1 9)), PV.v (.int .i64 (offV bs (offP bs (userP bs (belowP bs q 16)) 1 9) 0 2))]]) rfl rfl) Try.underlying24 (sk Try.underlying24 rfl) inf33 rfl (by decide) (by decide) (by decide) List.length_append (by simp only [maxLen, List.length_append, List.length_map, List.length_cons, List.length_nil, List.length_take, List.length_drop, pvS_length]; omega) (by simp only [maxLen, List.length_append, List.length_map, List.length_cons, List.length_nil, List.length_take, List.length_drop, pvS_length]; omega)) (.run [] [] rfl (st_faddr_box rfl rfl Try.underlying26 rfl Try.sizeOf24 (by decide)) (.run [] [] rfl (st_store_box rfl rfl rfl rfl rfl Try.sizeOf24 rfl (nle rfl)) .nil))))))))))))) (by kernel_rfl) ?_
      have hr5 : (pvS l) ++ [[PV.v (.string (userV bs (belowP bs q 16))), PV.v (.int .i64 (offV bs (userP bs (belowP bs q 16)) 1 9)), PV.v (.int .i64 (offV bs (offP bs (userP bs (belowP bs q 16)) 1 9) 0 2))]] = pvS (l ++ [⟨userV bs (belowP bs q 16), offV bs (userP bs (belowP bs q 16)) 1 9, offV bs (offP bs (userP bs (belowP bs q 16)) 1 9) 0 2⟩]) := by simp [pvS, Slot.pv]
      have hp6 : (some [.p none (.v (.int .i64 m)), .sl 1 0 (((pvS l) ++ [[PV.v (.string (userV bs (belowP bs q 16))), PV.v (.int .i64 (offV bs (userP bs (belowP bs q 16)) 1 9)), PV.v (.int .i64 (offV bs (offP bs (userP bs (belowP bs q 16)) 1 9) 0 2))]]).length)] : Option (List AV)) = some [.p none (.v (.int .i64 m)), .sl 1 0 ((pvS (l ++ [⟨userV bs (belowP bs q 16), offV bs (userP bs (belowP bs q 16)) 1 9, offV bs (offP bs (userP bs (belowP bs q 16)) 1 9) 0 2⟩])).length)] := by simp only [hr5]
      refine tr_wk (s' := mk [(2, .ptr 2 0), (3, .ptr 3 0)] [(2, [.p none (.v (.int .i64 0)), .nils]), (3, [.p none (.v (.int .i64 m)), .sl 1 0 ((pvS (l ++ [⟨userV bs (belowP bs q 16), offV bs (userP bs (belowP bs q 16)) 1 9, offV bs (offP bs (userP bs (belowP bs q 16)) 1 9) 0 2⟩])).length)])] [(1, 3, pvS (l ++ [⟨userV bs (belowP bs q 16), offV bs (userP bs (belowP bs q 16)) 1 9, offV bs (offP bs (userP bs (belowP bs q 16)) 1 9) 0 2⟩])), (100000, 2, pvRd (cv, offP bs (offP bs (userP bs (belowP bs q 16)) 1 9) 0 2))]) ?_ ?_
      · exact wk_mk ⟨rfl, ⟨rfl, trivial⟩⟩ ⟨rfl, ⟨hp6, trivial⟩⟩ ⟨(congrArg (fun x => some (3, x)) hr5), ⟨rfl, trivial⟩⟩ rfl
      refine tr_seq ?_
      refine tr_region rfl (.run [] [] rfl (st_load_box rfl rfl rfl Try.isAgg26 Try.sizeOf26 (nle rfl)) (.run [] [] rfl (st_store_box rfl rfl rfl rfl rfl Try.sizeOf26 rfl (nle rfl)) .nil)) ?_
      refine tr_ret ?_
      exact ends [_] [1] (.cons (.cell rfl rfl Try.isAgg26 Try.sizeOf26 (nle rfl)) .nil) (.cons (.agg (.cons .v (.cons (.row (len := (pvS (l ++ [⟨userV bs (belowP bs q 16), offV bs (userP bs (belowP bs q 16)) 1 9, offV bs (offP bs (userP bs (belowP bs q 16)) 1 9) 0 2⟩])).length) (xs := pvS (l ++ [⟨userV bs (belowP bs q 16), offV bs (userP bs (belowP bs q 16)) 1 9, offV bs (offP bs (userP bs (belowP bs q 16)) 1 9) 0 2⟩])) rfl rfl) .nil)) (cl_cons (.v _) (cl_cons (.sl _ _ (FlatP.clean (pvS_flat _))) cl_nil))) .nil) (by decide) (outs1 (congrArg (fun x => some (2, x)) (congrArg pvRd (congrArg (Prod.mk cv) rfl))) (pvRd_flat _) (by decide))
    · skip
      refine tr_skip ?_
      refine tr_seq ?_
      have hcv : cacheV bs p = (m, l, belowP bs q 16) := by rw [cacheV, ← hEm, cmore, if_neg (by simp [h4])]
      rw [hcv]
      refine tr_region rfl (.run [] [] rfl (st_load_box rfl rfl rfl Try.isAgg26 Try.sizeOf26 (nle rfl)) (.run [] [] rfl (st_store_box rfl rfl rfl rfl rfl Try.sizeOf26 rfl (nle rfl)) .nil)) ?_
      refine tr_ret ?_
      exact ends [_] [1] (.cons (.cell rfl rfl Try.isAgg26 Try.sizeOf26 (nle rfl)) .nil) (.cons (.agg (.cons .v (.cons (.row (len := (pvS l).length) (xs := pvS l) rfl rfl) .nil)) (cl_cons (.v _) (cl_cons (.sl _ _ (FlatP.clean (pvS_flat _))) cl_nil))) .nil) (by decide) (outs1 (congrArg (fun x => some (2, x)) (congrArg pvRd (congrArg (Prod.mk cv) rfl))) (pvRd_flat _) (by decide))
end Go.Rl

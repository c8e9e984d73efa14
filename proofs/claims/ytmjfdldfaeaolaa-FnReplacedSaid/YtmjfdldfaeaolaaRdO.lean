/- Promises of functions, proved by walks over their operations; no conditions beyond those that each theorem states. -/
import Derived.Test.YtmjfdldfaeaolaaRdN
namespace Go.Rl
open Go.Proofs
theorem en20 : ∀ vs w, (callFunc 20 vs).run Try.prog w = .ok (.enter 20 vs) w := enters Try.func20 (by decide) rfl
theorem st_pickT {γ : Gho} {P : Program} {n : Nat} {o : Oper} {M B : List Nat} {s : St} {c x y : Operand} (ho : o.op = .pick c x y) {d : Option Nat} (hc : s.ev c = .p d (.v (.bool true))) : StepD γ P n o M B s { put := s.ev x } := st_pick ho hc
theorem st_pickF {γ : Gho} {P : Program} {n : Nat} {o : Oper} {M B : List Nat} {s : St} {c x y : Operand} (ho : o.op = .pick c x y) {d : Option Nat} (hc : s.ev c = .p d (.v (.bool false))) : StepD γ P n o M B s { put := s.ev y } := st_pick ho hc
set_option maxRecDepth 1000000 in
set_option maxHeartbeats 2000000 in
theorem drawRepl_con {γ : Gho} {cv : Value} {bs : List Nat} (hc : CodeAt γ cv bs) (hl : bs.length ≤ 1152921504606846976) : ConSG γ Try.prog 20 [.one (PV.v (cv))] [] [.agg [.sl false 2 (pvF (diskV bs 0).1.live), .sl false 2 (pvF (diskV bs 0).1.safe), .sl false 4 (pvD (diskV bs 0).1.ops)], .one (.v (.string ((drR bs (diskV bs 0).2).1))), .one (.v (.string ((drR bs (diskV bs 0).2).2)))] := by
  refine con_of_trSG Try.func20 rfl rfl rfl rfl ?_
  refine tr_seq ?_
  refine tr_region rfl (.run [] [2] rfl (st_allocZ rfl 2 inf27 rfl (by decide) rfl (by decide)) (.run [] [] rfl (st_assign rfl) (.run [] [] rfl (st_assign rfl) .nil))) ?_
  refine tr_seq ?_
  refine tr_region rfl (.run [] [] rfl (st_move rfl) (.run [900] [] rfl (st_callG (.inr rfl) rfl 900 (X := []) en31 rfl (.val nod) (.cons (.one (.bor .v)) .nil) (by decide) all_nil .nil (open_con cv) rfl rfl (nle rfl)) (.run [] [] rfl (st_assign rfl) .nil))) ?_
  refine tr_seq ?_
  refine tr_region rfl (.run [] [] rfl (st_move rfl) (.run [900, 1100, 1101, 1102] [] rfl (st_callSG (.inr rfl) rfl 1100 (X := [900]) en32 rfl (.cons (.rptr rfl) .nil) (by decide) (all_cons rfl all_nil) (.keep (xs := pvRd (cv, 0)) rfl (FlatP.nf (pvRd_flat _)) .nil) (disk_con hc hl 0 (Nat.zero_le _)) rfl (nle rfl)) (.run [] [6] rfl (st_allocZ rfl 6 inf27 rfl (by decide) rfl (by decide)) (.run [] [] rfl (st_store_box rfl rfl rfl rfl rfl Try.sizeOf27 rfl (nle rfl)) .nil)))) ?_
  refine tr_seq ?_
  have hd0 := diskV_ok (bs := bs) (p := 0) (Nat.zero_le _)
  have hp0 := hd0.2
  refine tr_region rfl (.run [1200] [] rfl (st_buildSlice rfl 1200 Try.underlying77 inf9 (nle rfl) (by decide) rfl rfl rfl (.cons .v (.cons .v (.cons .v (.cons .v .nil)))) (by decide) rfl (by decide) rfl (by decide) rfl) (.run [] [] rfl (st_move rfl) (.run [900, 1400] [] rfl (st_callG (.inr rfl) rfl 1400 (X := [900]) en46 rfl (.val nod) (.cons (.rptr rfl) (.cons (.one (.bor .v)) .nil)) (by decide) (all_cons rfl all_nil) (.keep (xs := pvRd (cv, (diskV bs 0).2)) rfl (FlatP.nf (pvRd_flat _)) .nil) (below_con hc hl ((diskV bs 0).2) (diskV_ok (Nat.zero_le _)).2 4 (by omega)) rfl rfl (nle rfl)) (.run [] [] rfl (st_idx_row0 (belowV bs (diskV bs 0).2 4) rfl rfl rfl rfl Try.underlying77 Try.sizeOf9 rfl rfl (belowV_lt (by decide))) (.run [] [] rfl (st_load_ea1 rfl rfl rfl (pvT_get (repl_get bs (diskV bs 0).2)) Try.isAgg9 rfl) (.run [] [] rfl (st_assign rfl) .nil)))))) ?_
  refine tr_seq ?_
  refine tr_seq ?_
  refine tr_wk (s' := mk [(2, .ptr 2 0), (5, .ea 900 0 0), (6, .ptr 6 0), (7, .p none (.v (.string (replName bs (diskV bs 0).2))))] [(2, [.nils, .nils, .nils]), (6, [.p none (.sl false 2 (pvF (diskV bs 0).1.live)), .p none (.sl false 2 (pvF (diskV bs 0).1.safe)), .p none (.sl false 4 (pvD (diskV bs 0).1.ops))])] [(900, 2, pvRd (cv, belowP bs ((diskV bs 0).2) 4))]) ?_ ?_
  · exact wk_mk ⟨rfl, ⟨rfl, ⟨rfl, ⟨rfl, trivial⟩⟩⟩⟩ ⟨rfl, ⟨rfl, trivial⟩⟩ ⟨rfl, trivial⟩ rfl
  refine tr_region rfl (.run [] [] rfl (st_move rfl) (.run [900, 1800] [] rfl (st_callG (.inr rfl) rfl 1800 (X := [900]) en51 rfl (.val nod) (.cons (.rptr rfl) (.cons (.one (.bor .v)) .nil)) (by decide) (all_cons rfl all_nil) (.keep (xs := pvRd (cv, belowP bs ((diskV bs 0).2) 4)) rfl (FlatP.nf (pvRd_flat _)) .nil) (once_con hc hl (belowP bs ((diskV bs 0).2) 4) (belowP_le (diskV_ok (Nat.zero_le _)).2) 12 (by omega)) rfl rfl (nle rfl)) .nil)) ?_
  refine tr_if (t := onceV bs (belowP bs ((diskV bs 0).2) 4) 12) rfl (fun h1 => ?_) (fun h1 => ?_)
  · skip
    have h4 := belowV_lt (bs := bs) (p := (belowP bs (belowP bs (diskV bs 0).2 4) 12)) (n := 4) (by decide)
    obtain ⟨z, hz⟩ : ∃ z, z = 95 + belowV bs (belowP bs (belowP bs (diskV bs 0).2 4) 12) 4 := ⟨_, rfl⟩
    refine tr_region rfl (.run [] [] rfl (st_move rfl) (.run [900, 2000] [] rfl (st_callG (.inr rfl) rfl 2000 (X := [900]) en46 rfl (.val nod) (.cons (.rptr rfl) (.cons (.one (.bor .v)) .nil)) (by decide) (all_cons rfl all_nil) (.keep (xs := pvRd (cv, belowP bs (belowP bs ((diskV bs 0).2) 4) 12)) rfl (FlatP.nf (pvRd_flat _)) .nil) (below_con hc hl (belowP bs (belowP bs ((diskV bs 0).2) 4) 12) (belowP_le (belowP_le (diskV_ok (Nat.zero_le _)).2)) 4 (by omega)) rfl rfl (nle rfl)) (.run [] [] rfl (st_eq (st_addn rfl rfl rfl (by omega)) ((int_eq (by rw [hz]; omega)))) (.run [2200] [] rfl (st_make rfl 2200 (l := z) (c := z) rfl rfl Try.underlying22 inf5 rfl rfl (by decide) rfl (by decide) (Nat.le_refl _) (by omega) (by simp only [maxLen]; omega)) (.run [] [] rfl (st_strN (List.replicate z 0) rfl rfl (.give (len := z) (xs := List.replicate z [PV.v (.int .u8 0)]) rfl (List.length_replicate).symm) rfl (by simp [pvB]) Try.underlying22 Try.underlying9 Try.underlying5) (.run [] [] rfl (st_assign rfl) .nil)))))) ?_
    refine tr_seq ?_
    have hdv := drR_y (bs := bs) (q := (diskV bs 0).2) h1
    rw [hdv, ← hz]
    refine tr_regionD mixed rfl (.run [] [] rfl (st_load_box rfl rfl rfl Try.isAgg27 Try.sizeOf27 (nle rfl)) (.run [] [] rfl (st_move rfl) (.run [] [] rfl (st_move rfl) (.run [900, 2700] [] rfl (st_callG (.inr rfl) rfl 2700 (X := [900]) en52 rfl (.val nod) (.cons (.rptr rfl) .nil) (by decide) (all_cons rfl all_nil) (.keep (xs := pvRd (cv, belowP bs (belowP bs (belowP bs ((diskV bs 0).2) 4) 12) 4)) rfl (FlatP.nf (pvRd_flat _)) .nil) (text_con hc hl (belowP bs (belowP bs (belowP bs ((diskV bs 0).2) 4) 12) 4) (belowP_le (belowP_le (belowP_le (diskV_ok (Nat.zero_le _)).2)))) rfl rfl (nle rfl)) (.run [] [] rfl (st_store_box rfl rfl rfl rfl rfl Try.sizeOf27 rfl (nle rfl)) (.run [] [] rfl (st_assign rfl) (.run [] [] rfl (st_assign rfl) .nil))))))) (by kernel_rfl) ?_
    refine tr_ret ?_
    exact endsSG [_, _, _] [] (.cons (.cell rfl rfl Try.isAgg27 Try.sizeOf27 (nle rfl)) (.cons (.tmp rfl) (.cons (.tmp rfl) .nil))) (.cons (.agg (.cons (.of .fro) (.cons (.of .fro) (.cons (.of .fro) .nil)))) (.cons (.one (.of .v)) (.cons (.one (.of .v)) .nil))) (by decide) trivial
  · skip
    refine tr_skip ?_
    refine tr_seq ?_
    have hdv := drR_n (bs := bs) (q := (diskV bs 0).2) h1
    rw [hdv]
    refine tr_regionD mixed rfl (.run [] [] rfl (st_load_box rfl rfl rfl Try.isAgg27 Try.sizeOf27 (nle rfl)) (.run [] [] rfl (st_move rfl) (.run [] [] rfl (st_move rfl) (.run [900, 2700] [] rfl (st_callG (.inr rfl) rfl 2700 (X := [900]) en52 rfl (.val nod) (.cons (.rptr rfl) .nil) (by decide) (all_cons rfl all_nil) (.keep (xs := pvRd (cv, belowP bs (belowP bs ((diskV bs 0).2) 4) 12)) rfl (FlatP.nf (pvRd_flat _)) .nil) (text_con hc hl (belowP bs (belowP bs ((diskV bs 0).2) 4) 12) (belowP_le (belowP_le (diskV_ok (Nat.zero_le _)).2))) rfl rfl (nle rfl)) (.run [] [] rfl (st_store_box rfl rfl rfl rfl rfl Try.sizeOf27 rfl (nle rfl)) (.run [] [] rfl (st_assign rfl) (.run [] [] rfl (st_assign rfl) .nil))))))) (by kernel_rfl) ?_
    refine tr_ret ?_
    exact endsSG [_, _, _] [] (.cons (.cell rfl rfl Try.isAgg27 Try.sizeOf27 (nle rfl)) (.cons (.tmp rfl) (.cons (.tmp rfl) .nil))) (.cons (.agg (.cons (.of .fro) (.cons (.of .fro) (.cons (.of .fro) .nil)))) (.cons (.one (.of .v)) (.cons (.one (.of .v)) .nil))) (by decide) trivial
set_option maxRecDepth 1000000 in
set_option maxHeartbeats 2000000 in
theorem law_replaced0_con {γ : Gho} (bs : List Nat) (A : Option Addr) (c : Nat) (hc : CodeAt γ (.slice A bs.length c) bs) : ConG γ Try.prog 5 [.one (PV.v (.slice A bs.length c))] [] [.one (.v (.bool true))] := by
  refine con_of_tr Try.func5 rfl rfl rfl rfl ?_
  refine tr_seq ?_
  refine tr_region rfl (.run [] [] rfl (st_assign rfl) .nil) ?_
  refine tr_seq ?_
  refine tr_seq ?_
  refine tr_region rfl (.run [] [] rfl (st_move rfl) (.run [2300] [] rfl (st_callG (.inr rfl) rfl 2300 (X := []) en9 rfl (.val nod) (.cons (.one (.bor .v)) .nil) (by decide) all_nil .nil (big_con hc) rfl rfl (nle rfl)) .nil)) ?_
  refine tr_if (t := decide (1048576 < (bs.length : Int))) rfl (fun h1 => ?_) (fun h1 => ?_)
  · skip
    replace h1 := of_decide_eq_true h1
    refine tr_seq ?_
    refine tr_region rfl (.run [] [] rfl (st_assign rfl) .nil) ?_
    refine tr_ret ?_
    exact ends [_] [] (.cons (.tmp rfl) .nil) (.cons (.one .v (.v _)) .nil) (by decide) trivial
  · skip
    replace h1 := of_decide_eq_false h1
    refine tr_skip ?_
    refine tr_seq ?_
    refine tr_region rfl (.run [] [] rfl (st_move rfl) (.run [2600, 2601, 2602, 2603, 2604] [] rfl (st_callSG (.inr rfl) rfl 2600 (X := []) en20 rfl (.cons (.one .v) .nil) (by decide) all_nil .nil (drawRepl_con hc (by omega)) rfl (nle rfl)) (.run [] [] rfl (st_move rfl) (.run [] [] rfl (st_extract rfl rfl rfl) (.run [] [] rfl (st_extract rfl rfl rfl) (.run [] [] rfl (st_extract rfl rfl rfl) (.run [] [3] rfl (st_allocZ rfl 3 inf27 rfl (by decide) rfl (by decide)) (.run [] [] rfl (st_store_box rfl rfl rfl rfl rfl Try.sizeOf27 rfl (nle rfl)) (.run [] [] rfl (st_assign rfl) (.run [] [] rfl (st_assign rfl) .nil)))))))))) ?_
    refine tr_seq ?_
    obtain ⟨hdn, hdb, hdo⟩ := (diskV_ok (bs := bs) (p := 0) (Nat.zero_le _)).1
    obtain ⟨hnz, htz⟩ := drR_ok bs (diskV bs 0).2
    generalize (drR bs (diskV bs 0).2).1 = nm at hnz ⊢
    generalize (drR bs (diskV bs 0).2).2 = dt at htz ⊢
    generalize (diskV bs 0).1 = d at hdn hdb hdo ⊢
    have hd9 : DB 900000000 d := hdb.up (by decide)
    have hop9 : ∀ op ∈ d.ops, op.data.size ≤ 900000000 := fun o ho => Nat.le_trans (hdo o ho) (by decide)
    obtain ⟨b1, b2, b3, b4, b5⟩ := id hdb
    have hld := pvF_length d.live
    have hsd := pvF_length d.safe
    have hod := pvD_length d.ops
    have hz4 : newB.size = 4 := rfl
    refine tr_region rfl (.run [] [] rfl (st_load_box rfl rfl rfl Try.isAgg27 Try.sizeOf27 (nle rfl)) (.run [3100, 3101, 3102] [] rfl (st_call rfl 3100 (X := []) en14 rfl (.val nod) (.cons (.agg (.cons (.bor (.sl nod)) (.cons (.bor (.sl nod)) (.cons (.bor (.sl nod)) .nil)))) .nil) (by decide) all_nil .nil (implSync_con d hd9 hop9) rfl rfl (nle rfl)) (.run [] [] rfl (st_store_box rfl rfl rfl rfl rfl Try.sizeOf27 rfl (nle rfl)) .nil))) ?_
    refine tr_seq ?_
    obtain ⟨he0, he1, he2⟩ := sync_right d
    generalize syncF d = e at he0 he1 he2 ⊢
    have hde : DB 900000000 e := (ok_db he0).up (by decide)
    have hoe : ∀ o ∈ e.ops, o.data.size ≤ 900000000 := by rw [he1]; simp
    obtain ⟨e1, e2, e3, e4, e5⟩ := id hde
    have hel := pvF_length e.live
    have hes := pvF_length e.safe
    have heo := pvD_length e.ops
    have hre := read_size he0
    refine tr_wk (s' := mk [(0, .p none (.v (.slice A bs.length c))), (3, .ptr 3 0), (4, .p none (.v (.string nm))), (5, .p none (.v (.string dt)))] [(3, [.sl 3100 0 ((pvF (e.live)).length), .sl 3101 0 ((pvF (e.safe)).length), .sl 3102 0 ((pvD (e.ops)).length)])] [(3100, 2, pvF (e.live)), (3101, 2, pvF (e.safe)), (3102, 4, pvD (e.ops))]) ?_ ?_
    · exact wk_mk ⟨rfl, ⟨rfl, ⟨rfl, ⟨rfl, trivial⟩⟩⟩⟩ ⟨rfl, trivial⟩ ⟨rfl, ⟨rfl, ⟨rfl, trivial⟩⟩⟩ rfl
    refine tr_region rfl (.run [] [] rfl (st_load_box rfl rfl rfl Try.isAgg27 Try.sizeOf27 (nle rfl)) (.run [] [] rfl (st_move rfl) (.run [] [] rfl (st_move rfl) (.run [3100, 3101, 3102, 3600, 3601, 3602, 3603] [] rfl (st_call rfl 3600 (X := []) en21 rfl (.val nod) (.cons (.agg (.cons (.bor (.all (len := (pvF (e.live)).length) (xs := pvF (e.live)) rfl rfl (by decide))) (.cons (.bor (.all (len := (pvF (e.safe)).length) (xs := pvF (e.safe)) rfl rfl (by decide))) (.cons (.bor (.all (len := (pvD (e.ops)).length) (xs := pvD (e.ops)) rfl rfl (by decide))) .nil)))) (.cons (.one (.bor .v)) (.cons (.one (.bor .v)) .nil))) (by decide) all_nil .nil (implReplace_con e nm dt hde hoe (by omega) (by omega)) rfl rfl (nle rfl)) (.run [] [] rfl (st_move rfl) (.run [] [] rfl (st_extract rfl rfl rfl) (.run [] [] rfl (st_extract rfl rfl rfl) (.run [] [6] rfl (st_allocZ rfl 6 inf27 rfl (by decide) rfl (by decide)) (.run [] [] rfl (st_store_box rfl rfl rfl rfl rfl Try.sizeOf27 rfl (nle rfl)) (.run [] [] rfl (st_assign rfl) .nil)))))))))) ?_
    refine tr_seq ?_
    refine tr_wk (s' := mk [(0, .p none (.v (.slice A bs.length c))), (3, .ptr 3 0), (4, .p none (.v (.string nm))), (5, .p none (.v (.string dt))), (6, .ptr 6 0), (7, .p none (.v (.int .i64 ((replaceF e nm dt).2))))] [(3, [.sl 3100 0 ((pvF (e.live)).length), .sl 3101 0 ((pvF (e.safe)).length), .sl 3102 0 ((pvD (e.ops)).length)]), (6, [.sl 3600 0 ((pvF ((replaceF e nm dt).1.live)).length), .sl 3601 0 ((pvF ((replaceF e nm dt).1.safe)).length), .sl 3602 0 ((pvD ((replaceF e nm dt).1.ops)).length)])] [(3100, 2, pvF (e.live)), (3101, 2, pvF (e.safe)), (3102, 4, pvD (e.ops)), (3600, 2, pvF ((replaceF e nm dt).1.live)), (3601, 2, pvF ((replaceF e nm dt).1.safe)), (3602, 4, pvD ((replaceF e nm dt).1.ops))]) ?_ ?_
    · exact wk_mk ⟨rfl, ⟨rfl, ⟨rfl, ⟨rfl, ⟨rfl, ⟨rfl, trivial⟩⟩⟩⟩⟩⟩ ⟨rfl, ⟨rfl, trivial⟩⟩ ⟨rfl, ⟨rfl, ⟨rfl, ⟨rfl, ⟨rfl, ⟨rfl, trivial⟩⟩⟩⟩⟩⟩ rfl
    refine tr_region rfl (.run [] [] rfl (st_load_box rfl rfl rfl Try.isAgg27 Try.sizeOf27 (nle rfl)) (.run [] [] rfl (st_move rfl) (.run [] [] rfl (st_move rfl) (.run [3100, 3101, 3102, 4300, 4301, 4302, 4303] [] rfl (st_call rfl 4300 (X := []) en22 rfl (.val nod) (.cons (.agg (.cons (.bor (.all (len := (pvF (e.live)).length) (xs := pvF (e.live)) rfl rfl (by decide))) (.cons (.bor (.all (len := (pvF (e.safe)).length) (xs := pvF (e.safe)) rfl rfl (by decide))) (.cons (.bor (.all (len := (pvD (e.ops)).length) (xs := pvD (e.ops)) rfl rfl (by decide))) .nil)))) (.cons (.one (.bor .v)) (.cons (.one (.bor .v)) .nil))) (by decide) all_nil .nil (specReplace_con e nm dt hde hoe (by omega) (by omega)) rfl rfl (nle rfl)) (.run [] [] rfl (st_move rfl) (.run [] [] rfl (st_extract rfl rfl rfl) (.run [] [] rfl (st_extract rfl rfl rfl) (.run [] [8] rfl (st_allocZ rfl 8 inf27 rfl (by decide) rfl (by decide)) (.run [] [] rfl (st_store_box rfl rfl rfl rfl rfl Try.sizeOf27 rfl (nle rfl)) (.run [] [] rfl (st_assign rfl) .nil)))))))))) ?_
    refine tr_seq ?_
    refine tr_seq ?_
    refine tr_wk (s' := mk [(0, .p none (.v (.slice A bs.length c))), (3, .ptr 3 0), (4, .p none (.v (.string nm))), (5, .p none (.v (.string dt))), (6, .ptr 6 0), (7, .p none (.v (.int .i64 ((replaceF e nm dt).2)))), (9, .p none (.v (.int .i64 ((replaceF e nm dt).2))))] [(3, [.sl 3100 0 ((pvF (e.live)).length), .sl 3101 0 ((pvF (e.safe)).length), .sl 3102 0 ((pvD (e.ops)).length)]), (6, [.sl 3600 0 ((pvF ((replaceF e nm dt).1.live)).length), .sl 3601 0 ((pvF ((replaceF e nm dt).1.safe)).length), .sl 3602 0 ((pvD ((replaceF e nm dt).1.ops)).length)])] [(3100, 2, pvF (e.live)), (3101, 2, pvF (e.safe)), (3102, 4, pvD (e.ops)), (3600, 2, pvF ((replaceF e nm dt).1.live)), (3601, 2, pvF ((replaceF e nm dt).1.safe)), (3602, 4, pvD ((replaceF e nm dt).1.ops))]) ?_ ?_
    · exact wk_mk ⟨rfl, ⟨rfl, ⟨rfl, ⟨rfl, ⟨rfl, ⟨rfl, ⟨rfl, trivial⟩⟩⟩⟩⟩⟩⟩ ⟨rfl, ⟨rfl, trivial⟩⟩ ⟨rfl, ⟨rfl, ⟨rfl, ⟨rfl, ⟨rfl, ⟨rfl, trivial⟩⟩⟩⟩⟩⟩ rfl
    refine tr_region rfl (.run [] [] rfl (st_move rfl) (.run [] [] rfl (st_move rfl) (.run [] [] rfl (st_eq (st_neq rfl rfl rfl) (bool_eq (congrArg Bool.not (decide_eq_true (by simp))))) (.run [] [] rfl (st_move rfl) (.run [] [] rfl (st_move rfl) (.run [] [] rfl (st_neq rfl rfl rfl) (.run [] [] rfl (st_pickF rfl rfl) .nil))))))) ?_
    refine tr_if (t := (!(decide (((replaceF e nm dt).2) = 0)))) rfl (fun h2 => ?_) (fun h2 => ?_)
    · skip
      replace h2 : ¬ (((replaceF e nm dt).2) = 0) := of_decide_eq_false (bnot_t h2)
      refine tr_seq ?_
      refine tr_region rfl (.run [] [] rfl (st_move rfl) (.run [] [] rfl (st_move rfl) (.run [] [] rfl (st_eq (st_eql rfl rfl rfl) (bool_eq (decide_eq_true (by simp)))) (.run [] [] rfl (st_assign rfl) .nil)))) ?_
      refine tr_ret ?_
      exact ends [_] [] (.cons (.tmp rfl) .nil) (.cons (.one .v (.v _)) .nil) (by decide) trivial
    · skip
      replace h2 : ((replaceF e nm dt).2) = 0 := of_decide_eq_true (bnot_f h2)
      refine tr_skip ?_
      refine tr_seq ?_
      refine tr_seq ?_
      refine tr_region rfl (.run [] [] rfl (st_load_box rfl rfl rfl Try.isAgg27 Try.sizeOf27 (nle rfl)) (.run [] [] rfl (st_move rfl) (.run [] [] rfl (st_eq (st_sadd rfl rfl rfl (by have hz : (⟨#[46, 110, 101, 119]⟩ : ByteArray).size = 4 := rfl; omega)) (rfl)) (.run [3100, 3101, 3102, 6000, 6001] [] rfl (st_call rfl 6000 (X := []) en19 rfl (.val nod) (.cons (.agg (.cons (.bor (.all (len := (pvF (e.live)).length) (xs := pvF (e.live)) rfl rfl (by decide))) (.cons (.bor (.all (len := (pvF (e.safe)).length) (xs := pvF (e.safe)) rfl rfl (by decide))) (.cons (.bor (.all (len := (pvD (e.ops)).length) (xs := pvD (e.ops)) rfl rfl (by decide))) .nil)))) (.cons (.one (.bor .v)) .nil)) (by decide) all_nil .nil (readFile_con e (nm ++ newB) hde hoe) rfl rfl (nle rfl)) (.run [] [] rfl (st_move rfl) (.run [] [] rfl (st_extract rfl rfl rfl) (.run [] [] rfl (st_extract rfl rfl rfl) (.run [] [] rfl (st_assign rfl) (.run [] [] rfl (st_assign rfl) .nil))))))))) ?_
      refine tr_seq ?_
      refine tr_wk (s' := mk [(0, .p none (.v (.slice A bs.length c))), (3, .ptr 3 0), (4, .p none (.v (.string nm))), (5, .p none (.v (.string dt))), (6, .ptr 6 0), (11, .p none (.v (.bool ((readF e (nm ++ newB)).2))))] [(3, [.sl 3100 0 ((pvF (e.live)).length), .sl 3101 0 ((pvF (e.safe)).length), .sl 3102 0 ((pvD (e.ops)).length)]), (6, [.sl 3600 0 ((pvF ((replaceF e nm dt).1.live)).length), .sl 3601 0 ((pvF ((replaceF e nm dt).1.safe)).length), .sl 3602 0 ((pvD ((replaceF e nm dt).1.ops)).length)])] [(3100, 2, pvF (e.live)), (3101, 2, pvF (e.safe)), (3102, 4, pvD (e.ops)), (3600, 2, pvF ((replaceF e nm dt).1.live)), (3601, 2, pvF ((replaceF e nm dt).1.safe)), (3602, 4, pvD ((replaceF e nm dt).1.ops))]) ?_ ?_
      · exact wk_mk ⟨rfl, ⟨rfl, ⟨rfl, ⟨rfl, ⟨rfl, ⟨rfl, trivial⟩⟩⟩⟩⟩⟩ ⟨rfl, ⟨rfl, trivial⟩⟩ ⟨rfl, ⟨rfl, ⟨rfl, ⟨rfl, ⟨rfl, ⟨rfl, trivial⟩⟩⟩⟩⟩⟩ rfl
      refine tr_region rfl (.run [] [] rfl (st_move rfl) .nil) ?_
      refine tr_if (t := (readF e (nm ++ newB)).2) rfl (fun h3 => ?_) (fun h3 => ?_)
      · skip
        refine tr_seq ?_
        refine tr_region rfl (.run [] [] rfl (st_assign rfl) .nil) ?_
        refine tr_ret ?_
        exact ends [_] [] (.cons (.tmp rfl) .nil) (.cons (.one .v (.v _)) .nil) (by decide) trivial
      · skip
        refine tr_skip ?_
        refine tr_seq ?_
        have hLL := fun keep t hk ht => replaced_law (name := nm) (data := dt) (keep := keep) (t := t) he0 he1 he2 (by rw [← readF_has he0]; exact h3) h2 hk ht
        generalize (replaceF e nm dt).1 = a at hLL ⊢
        have hL0 := hLL [] 0 (.inl rfl) (Int.le_refl _)
        have hda : DB 900000000 a := (ok_db hL0.ok).up (by decide)
        have hoa : ∀ o ∈ a.ops, o.data.size ≤ 900000000 := fun o ho => Nat.le_trans (hL0.sizes o ho) (by omega)
        have hoa6 : ∀ o ∈ a.ops, o.data.size ≤ 1000000 := fun o ho => Nat.le_trans (hL0.sizes o ho) (by omega)
        obtain ⟨a1, a2, a3, a4, a5⟩ := id hda
        have hal := pvF_length a.live
        have hal2 := pvF_length a.safe
        have hal3 := pvD_length a.ops
        have ha2 := hL0.ops
        refine tr_region rfl (.run [] [] rfl (st_load_box rfl rfl rfl Try.isAgg27 Try.sizeOf27 (nle rfl)) (.run [] [] rfl (st_move rfl) (.run [3100, 3101, 3102, 6700, 6701] [] rfl (st_call rfl 6700 (X := []) en19 rfl (.val nod) (.cons (.agg (.cons (.bor (.all (len := (pvF (e.live)).length) (xs := pvF (e.live)) rfl rfl (by decide))) (.cons (.bor (.all (len := (pvF (e.safe)).length) (xs := pvF (e.safe)) rfl rfl (by decide))) (.cons (.bor (.all (len := (pvD (e.ops)).length) (xs := pvD (e.ops)) rfl rfl (by decide))) .nil)))) (.cons (.one (.bor .v)) .nil)) (by decide) all_nil .nil (readFile_con e nm hde hoe) rfl rfl (nle rfl)) (.run [] [] rfl (st_move rfl) (.run [] [] rfl (st_extract rfl rfl rfl) (.run [] [] rfl (st_extract rfl rfl rfl) (.run [] [] rfl (st_assign rfl) (.run [] [] rfl (st_assign rfl) .nil)))))))) ?_
        refine tr_seq ?_
        refine tr_region rfl (.run [7000] [] rfl (st_buildSlice rfl 7000 Try.underlying30 inf2 (nle rfl) (by decide) rfl rfl rfl .nil (by decide) rfl (by decide) rfl (by decide) rfl) (.run [] [] rfl (st_assign rfl) .nil)) ?_
        refine tr_seq ?_
        refine tr_seq ?_
        refine tr_region rfl (.run [] [] rfl (st_assign rfl) .nil) ?_
        refine tr_block ?_
        refine tr_wk (wk_ren 7000 1 rfl rfl (by decide)) ?_
        refine tr_loopS (σ := Nat × List Int) (fun (i, keep) => mk [(0, .p none (.v (.slice A bs.length c))), (4, .p none (.v (.string nm))), (5, .p none (.v (.string dt))), (6, .ptr 6 0), (12, .p none (.v (.string ((readF e nm).1)))), (13, .p none (.v (.bool ((readF e nm).2)))), (14, .sl 1 0 ((pvI keep).length)), (15, .p none (.v (.int .i64 (i:Int))))] [(6, [.sl 3600 0 ((pvF a.live).length), .sl 3601 0 ((pvF a.safe).length), .sl 3602 0 ((pvD a.ops).length)])] [(1, 1, pvI keep), (3600, 2, pvF a.live), (3601, 2, pvF a.safe), (3602, 4, pvD a.ops)]) (fun (i, keep) => i ≤ 2 ∧ Kp i keep) (fun (i, keep) => 2 - i) (0, []) ⟨Nat.zero_le _, kp_0⟩ (wk_mk ⟨rfl, ⟨rfl, ⟨rfl, ⟨rfl, ⟨rfl, ⟨rfl, ⟨rfl, ⟨(int_eq (by omega)), trivial⟩⟩⟩⟩⟩⟩⟩⟩ ⟨rfl, trivial⟩ ⟨(congrArg (fun x => some (1, x)) (by rfl)), ⟨rfl, ⟨rfl, ⟨rfl, trivial⟩⟩⟩⟩ rfl) ?_
        rintro ⟨i, keep⟩ hG
        replace hG : i ≤ 2 ∧ Kp i keep := hG
        obtain ⟨hi, hK⟩ := hG
        have hki := pvI_length keep
        have hkj := kp_len hK
        refine tr_seq ?_
        refine tr_seq ?_
        refine tr_region rfl (.run [] [] rfl (st_move rfl) (.run [] [] rfl (st_faddr_box rfl rfl Try.underlying27 rfl Try.sizeOf25 (by decide)) (.run [] [] rfl (st_load_box1 rfl rfl rfl Try.isAgg25 rfl) (.run [] [] rfl (st_len_row rfl rfl Try.underlying25) (.run [] [] rfl (st_lss rfl rfl rfl) .nil))))) ?_
        refine tr_if (t := decide ((i:Int) < ((pvD a.ops).length : Int))) rfl (fun h4 => ?_) (fun h4 => ?_)
        · skip
          replace h4 := of_decide_eq_true h4
          refine tr_skip ?_
          refine tr_seq ?_
          refine tr_block ?_
          refine tr_seq ?_
          obtain ⟨k, off, cur, ty, fz, hA, hg, hcur⟩ := code_in hc
          obtain ⟨b, hb⟩ := code_nth (bs := bs) i
          refine tr_wk (s' := mk [(0, .p none (.v (.slice A bs.length c))), (4, .p none (.v (.string nm))), (5, .p none (.v (.string dt))), (6, .ptr 6 0), (12, .p none (.v (.string ((readF e nm).1)))), (13, .p none (.v (.bool ((readF e nm).2)))), (14, .sl 1 0 ((pvI keep).length)), (15, .p none (.v (.int .i64 (i:Int))))] [(6, [.sl 3600 0 ((pvF a.live).length), .sl 3601 0 ((pvF a.safe).length), .sl 3602 0 ((pvD a.ops).length)])] [(1, 1, pvI keep), (3600, 2, pvF a.live), (3601, 2, pvF a.safe), (3602, 4, pvD a.ops)]) ?_ ?_
          · exact wk_mk ⟨rfl, ⟨rfl, ⟨rfl, ⟨rfl, ⟨rfl, ⟨rfl, ⟨rfl, ⟨rfl, trivial⟩⟩⟩⟩⟩⟩⟩⟩ ⟨rfl, trivial⟩ ⟨rfl, ⟨rfl, ⟨rfl, ⟨rfl, trivial⟩⟩⟩⟩ rfl
          rcases bfc (decide (0 < (bs.length : Int))) with h5 | h5
          · have h5' := h5
            replace h5' := of_decide_eq_false h5'
            refine tr_region rfl (.run [] [] rfl (st_move rfl) (.run [] [] rfl (st_len_v rfl rfl Try.underlying22) (.run [] [] rfl (st_eq (st_gtr rfl rfl rfl) (bool_eq h5)) (.run [] [] rfl (st_move rfl) (.not rfl (.not rfl (.not rfl (.not rfl (.not rfl (.not rfl (.not rfl (.not rfl (.not rfl (.not rfl (.not rfl (.not rfl (.not rfl (.run [] [] rfl (st_pickF rfl rfl) .nil)))))))))))))))))) ?_
            refine tr_if (t := false) rfl (fun h => nomatch h) (fun _ => ?_)
            refine tr_skip ?_
            refine tr_wk (s' := mk [(0, .p none (.v (.slice A bs.length c))), (4, .p none (.v (.string nm))), (5, .p none (.v (.string dt))), (6, .ptr 6 0), (12, .p none (.v (.string ((readF e nm).1)))), (13, .p none (.v (.bool ((readF e nm).2)))), (14, .sl 1 0 ((pvI keep).length)), (15, .p none (.v (.int .i64 (i:Int))))] [(6, [.sl 3600 0 ((pvF a.live).length), .sl 3601 0 ((pvF a.safe).length), .sl 3602 0 ((pvD a.ops).length)])] [(1, 1, pvI keep), (3600, 2, pvF a.live), (3601, 2, pvF a.safe), (3602, 4, pvD a.ops)]) ?_ ?_
            · exact wk_mk ⟨rfl, ⟨rfl, ⟨rfl, ⟨rfl, ⟨rfl, ⟨rfl, ⟨rfl, ⟨rfl, trivial⟩⟩⟩⟩⟩⟩⟩⟩ ⟨rfl, trivial⟩ ⟨rfl, ⟨rfl, ⟨rfl, ⟨rfl, trivial⟩⟩⟩⟩ rfl
            refine tr_region rfl (.run [] [] rfl (st_move rfl) (.run [] [] rfl (st_addn rfl rfl rfl (by omega)) (.run [] [] rfl (st_assign rfl) .nil))) ?_
            refine nxt (Q := fun _ _ => False) (z := (i, keep)) (i + 1, keep) ?_ ?_ ?_
            · show (i + 1) ≤ 2 ∧ Kp (i + 1) keep
              exact ⟨by omega, kp_n hK (by omega)⟩
            · show 2 - (i + 1) < 2 - i
              omega
            · exact wk_mk ⟨rfl, ⟨rfl, ⟨rfl, ⟨rfl, ⟨rfl, ⟨rfl, ⟨rfl, ⟨(int_eq (by omega)), trivial⟩⟩⟩⟩⟩⟩⟩⟩ ⟨rfl, trivial⟩ ⟨rfl, ⟨rfl, ⟨rfl, ⟨rfl, trivial⟩⟩⟩⟩ rfl
          · have h5' := h5
            replace h5' := of_decide_eq_true h5'
            refine tr_region rfl (.run [] [] rfl (st_move rfl) (.run [] [] rfl (st_len_v rfl rfl Try.underlying22) (.run [] [] rfl (st_eq (st_gtr rfl rfl rfl) (bool_eq h5)) (.run [] [] rfl (st_move rfl) (.run [] [] rfl (st_eq (st_move rfl) ((congrArg (fun x => AV.p none (.v (Value.slice x bs.length c))) (hA (by omega))))) (.run [] [] rfl (st_move rfl) (.run [] [] rfl (st_move rfl) (.run [] [] rfl (st_len_v rfl rfl Try.underlying22) (.run [] [] rfl (st_eq (st_rem rfl rfl rfl (by omega)) ((int_eq (rem_nat3 i bs.length)))) (.run [] [] rfl (st_idx_v rfl rfl rfl Try.underlying22 Try.sizeOf5 (j := i % bs.length) (by omega) (Nat.mod_lt _ (by omega))) (.run [] [] rfl (st_load_v rfl (hg (by omega)) rfl (hcur _ _ (hb (by omega))).2 rfl Try.isAgg5) (.run [] [] rfl (st_move rfl) (.run [] [] rfl (st_eq (st_rem rfl rfl rfl (by omega)) ((int_eq (rem_nat3 i 8)))) (.run [] [] rfl (st_eq (st_conv rfl rfl Try.underlying3 Try.underlying46) ((int_eq (b := ((i % 8 : Nat) : Int)) (by rw [IntKind.wrap_u64]; omega)))) (.run [] [] rfl (st_shr rfl rfl rfl (by omega)) (.run [] [] rfl (st_rem rfl rfl rfl (by omega)) (.run [] [] rfl (st_eql rfl rfl rfl) (.run [] [] rfl (st_pickT rfl rfl) .nil)))))))))))))))))) ?_
            refine tr_if (t := decide ((((b:Int).fdiv (2 ^ min ((i % 8 : Nat) : Int).toNat IntKind.u8.bits)).tmod 2) = 1)) rfl (fun h6 => ?_) (fun h6 => ?_)
            · skip
              replace h6 := of_decide_eq_true h6
              refine tr_wk (s' := mk [(0, .p none (.v (.slice A bs.length c))), (4, .p none (.v (.string nm))), (5, .p none (.v (.string dt))), (6, .ptr 6 0), (12, .p none (.v (.string ((readF e nm).1)))), (13, .p none (.v (.bool ((readF e nm).2)))), (14, .sl 1 0 ((pvI keep).length)), (15, .p none (.v (.int .i64 (i:Int)))), (82, .p none (.v (.slice (some ⟨k, off, none⟩) bs.length c))), (83, .p none (.v (.int .i64 (i:Int)))), (84, .p none (.v (.slice A bs.length c))), (85, .p none (.v (.int .i64 (bs.length : Int)))), (86, .p none (.v (.int .i64 ((i % bs.length : Nat) : Int)))), (87, .p none (.v (.pointer (some ⟨k, off + i % bs.length, none⟩)))), (88, .p none (.v (.int .u8 (b:Int)))), (89, .p none (.v (.int .i64 (i:Int)))), (90, .p none (.v (.int .i64 ((i % 8 : Nat) : Int)))), (91, .p none (.v (.int .u64 ((i % 8 : Nat) : Int)))), (92, .p none (.v (.int .u8 ((b:Int).fdiv (2 ^ min ((i % 8 : Nat) : Int).toNat IntKind.u8.bits))))), (93, .p none (.v (.int .u8 (((b:Int).fdiv (2 ^ min ((i % 8 : Nat) : Int).toNat IntKind.u8.bits)).tmod 2)))), (94, .p none (.v (.bool (decide ((((b:Int).fdiv (2 ^ min ((i % 8 : Nat) : Int).toNat IntKind.u8.bits)).tmod 2) = 1)))))] [(6, [.sl 3600 0 ((pvF a.live).length), .sl 3601 0 ((pvF a.safe).length), .sl 3602 0 ((pvD a.ops).length)])] [(1, 1, pvI keep), (3600, 2, pvF a.live), (3601, 2, pvF a.safe), (3602, 4, pvD a.ops)]) ?_ ?_
              · exact wk_mk ⟨rfl, ⟨rfl, ⟨rfl, ⟨rfl, ⟨rfl, ⟨rfl, ⟨rfl, ⟨rfl, ⟨rfl, ⟨rfl, ⟨rfl, ⟨rfl, ⟨rfl, ⟨rfl, ⟨rfl, ⟨rfl, ⟨rfl, ⟨rfl, ⟨rfl, ⟨rfl, ⟨rfl, trivial⟩⟩⟩⟩⟩⟩⟩⟩⟩⟩⟩⟩⟩⟩⟩⟩⟩⟩⟩⟩⟩ ⟨rfl, trivial⟩ ⟨rfl, ⟨rfl, ⟨rfl, ⟨rfl, trivial⟩⟩⟩⟩ rfl
              refine tr_region rfl (.run [] [] rfl (st_move rfl) (.run [] [] rfl (st_move rfl) (.run [9800] [] rfl (st_buildSlice rfl 9800 Try.underlying30 inf2 (nle rfl) (by decide) rfl rfl rfl (.cons .v .nil) (by decide) rfl (by decide) rfl (by decide) rfl) (.run [1] [] rfl (st_append rfl 1 (ib := 1) (len := ((pvI keep) ++ [[PV.v (.int .i64 (i:Int))]]).length) rfl rfl (.row (len := (pvI keep).length) (xs := pvI keep) rfl rfl (.inl rfl)) (.give (len := 1) (xs := [[PV.v (.int .i64 (i:Int))]]) rfl rfl) Try.underlying30 (sk Try.underlying30 rfl) inf2 rfl (by decide) (by decide) (by decide) List.length_append (by simp only [maxLen, List.length_append, List.length_map, List.length_cons, List.length_nil, List.length_take, List.length_drop, pvF_length, pvD_length]; omega) (by simp only [maxLen, List.length_append, List.length_map, List.length_cons, List.length_nil, List.length_take, List.length_drop, pvF_length, pvD_length]; omega)) (.run [] [] rfl (st_assign rfl) .nil))))) ?_
              have hr7 : (pvI keep) ++ [[PV.v (.int .i64 (i:Int))]] = pvI (keep ++ [(i:Int)]) := by exact pvI_snoc keep (i:Int)
              have hp8 : (.sl 1 0 (((pvI keep) ++ [[PV.v (.int .i64 (i:Int))]]).length) : AV) = .sl 1 0 ((pvI (keep ++ [(i:Int)])).length) := by simp only [hr7]
              refine tr_wk (s' := mk [(0, .p none (.v (.slice A bs.length c))), (4, .p none (.v (.string nm))), (5, .p none (.v (.string dt))), (6, .ptr 6 0), (12, .p none (.v (.string ((readF e nm).1)))), (13, .p none (.v (.bool ((readF e nm).2)))), (14, .sl 1 0 ((pvI (keep ++ [(i:Int)])).length)), (15, .p none (.v (.int .i64 (i:Int)))), (82, .p none (.v (.slice (some ⟨k, off, none⟩) bs.length c))), (83, .p none (.v (.int .i64 (i:Int)))), (84, .p none (.v (.slice A bs.length c))), (85, .p none (.v (.int .i64 (bs.length : Int)))), (86, .p none (.v (.int .i64 ((i % bs.length : Nat) : Int)))), (87, .p none (.v (.pointer (some ⟨k, off + i % bs.length, none⟩)))), (88, .p none (.v (.int .u8 (b:Int)))), (89, .p none (.v (.int .i64 (i:Int)))), (90, .p none (.v (.int .i64 ((i % 8 : Nat) : Int)))), (91, .p none (.v (.int .u64 ((i % 8 : Nat) : Int)))), (92, .p none (.v (.int .u8 ((b:Int).fdiv (2 ^ min ((i % 8 : Nat) : Int).toNat IntKind.u8.bits))))), (93, .p none (.v (.int .u8 (((b:Int).fdiv (2 ^ min ((i % 8 : Nat) : Int).toNat IntKind.u8.bits)).tmod 2)))), (94, .p none (.v (.bool (decide ((((b:Int).fdiv (2 ^ min ((i % 8 : Nat) : Int).toNat IntKind.u8.bits)).tmod 2) = 1)))))] [(6, [.sl 3600 0 ((pvF a.live).length), .sl 3601 0 ((pvF a.safe).length), .sl 3602 0 ((pvD a.ops).length)])] [(1, 1, pvI (keep ++ [(i:Int)])), (3600, 2, pvF a.live), (3601, 2, pvF a.safe), (3602, 4, pvD a.ops)]) ?_ ?_
              · exact wk_mk ⟨rfl, ⟨rfl, ⟨rfl, ⟨rfl, ⟨rfl, ⟨rfl, ⟨hp8, ⟨rfl, ⟨rfl, ⟨rfl, ⟨rfl, ⟨rfl, ⟨rfl, ⟨rfl, ⟨rfl, ⟨rfl, ⟨rfl, ⟨rfl, ⟨rfl, ⟨rfl, ⟨rfl, trivial⟩⟩⟩⟩⟩⟩⟩⟩⟩⟩⟩⟩⟩⟩⟩⟩⟩⟩⟩⟩⟩ ⟨rfl, trivial⟩ ⟨(congrArg (fun x => some (1, x)) hr7), ⟨rfl, ⟨rfl, ⟨rfl, trivial⟩⟩⟩⟩ rfl
              refine tr_region rfl (.run [] [] rfl (st_move rfl) (.run [] [] rfl (st_addn rfl rfl rfl (by omega)) (.run [] [] rfl (st_assign rfl) .nil))) ?_
              refine nxt (Q := fun _ _ => False) (z := (i, keep)) (i + 1, keep ++ [(i:Int)]) ?_ ?_ ?_
              · show (i + 1) ≤ 2 ∧ Kp (i + 1) (keep ++ [(i:Int)])
                exact ⟨by omega, kp_y hK (by omega)⟩
              · show 2 - (i + 1) < 2 - i
                omega
              · exact wk_mk ⟨rfl, ⟨rfl, ⟨rfl, ⟨rfl, ⟨rfl, ⟨rfl, ⟨rfl, ⟨(int_eq (by omega)), trivial⟩⟩⟩⟩⟩⟩⟩⟩ ⟨rfl, trivial⟩ ⟨rfl, ⟨rfl, ⟨rfl, ⟨rfl, trivial⟩⟩⟩⟩ rfl
            · skip
              replace h6 := of_decide_eq_false h6
              refine tr_skip ?_
              refine tr_wk (s' := mk [(0, .p none (.v (.slice A bs.length c))), (4, .p none (.v (.string nm))), (5, .p none (.v (.string dt))), (6, .ptr 6 0), (12, .p none (.v (.string ((readF e nm).1)))), (13, .p none (.v (.bool ((readF e nm).2)))), (14, .sl 1 0 ((pvI keep).length)), (15, .p none (.v (.int .i64 (i:Int)))), (82, .p none (.v (.slice (some ⟨k, off, none⟩) bs.length c))), (83, .p none (.v (.int .i64 (i:Int)))), (84, .p none (.v (.slice A bs.length c))), (85, .p none (.v (.int .i64 (bs.length : Int)))), (86, .p none (.v (.int .i64 ((i % bs.length : Nat) : Int)))), (87, .p none (.v (.pointer (some ⟨k, off + i % bs.length, none⟩)))), (88, .p none (.v (.int .u8 (b:Int)))), (89, .p none (.v (.int .i64 (i:Int)))), (90, .p none (.v (.int .i64 ((i % 8 : Nat) : Int)))), (91, .p none (.v (.int .u64 ((i % 8 : Nat) : Int)))), (92, .p none (.v (.int .u8 ((b:Int).fdiv (2 ^ min ((i % 8 : Nat) : Int).toNat IntKind.u8.bits))))), (93, .p none (.v (.int .u8 (((b:Int).fdiv (2 ^ min ((i % 8 : Nat) : Int).toNat IntKind.u8.bits)).tmod 2)))), (94, .p none (.v (.bool (decide ((((b:Int).fdiv (2 ^ min ((i % 8 : Nat) : Int).toNat IntKind.u8.bits)).tmod 2) = 1)))))] [(6, [.sl 3600 0 ((pvF a.live).length), .sl 3601 0 ((pvF a.safe).length), .sl 3602 0 ((pvD a.ops).length)])] [(1, 1, pvI keep), (3600, 2, pvF a.live), (3601, 2, pvF a.safe), (3602, 4, pvD a.ops)]) ?_ ?_
              · exact wk_mk ⟨rfl, ⟨rfl, ⟨rfl, ⟨rfl, ⟨rfl, ⟨rfl, ⟨rfl, ⟨rfl, ⟨rfl, ⟨rfl, ⟨rfl, ⟨rfl, ⟨rfl, ⟨rfl, ⟨rfl, ⟨rfl, ⟨rfl, ⟨rfl, ⟨rfl, ⟨rfl, ⟨rfl, trivial⟩⟩⟩⟩⟩⟩⟩⟩⟩⟩⟩⟩⟩⟩⟩⟩⟩⟩⟩⟩⟩ ⟨rfl, trivial⟩ ⟨rfl, ⟨rfl, ⟨rfl, ⟨rfl, trivial⟩⟩⟩⟩ rfl
              refine tr_region rfl (.run [] [] rfl (st_move rfl) (.run [] [] rfl (st_addn rfl rfl rfl (by omega)) (.run [] [] rfl (st_assign rfl) .nil))) ?_
              refine nxt (Q := fun _ _ => False) (z := (i, keep)) (i + 1, keep) ?_ ?_ ?_
              · show (i + 1) ≤ 2 ∧ Kp (i + 1) keep
                exact ⟨by omega, kp_n hK (by omega)⟩
              · show 2 - (i + 1) < 2 - i
                omega
              · exact wk_mk ⟨rfl, ⟨rfl, ⟨rfl, ⟨rfl, ⟨rfl, ⟨rfl, ⟨rfl, ⟨(int_eq (by omega)), trivial⟩⟩⟩⟩⟩⟩⟩⟩ ⟨rfl, trivial⟩ ⟨rfl, ⟨rfl, ⟨rfl, ⟨rfl, trivial⟩⟩⟩⟩ rfl
        · skip
          replace h4 := of_decide_eq_false h4
          refine tr_exit ?_
          refine tr_seq ?_
          have hi2 : i = 2 := by omega
          have hL := hLL keep ((bs.length % 4 : Nat) : Int) (kp_2 (by rw [← hi2]; exact hK)) (by omega)
          obtain ⟨y, hy⟩ : ∃ y, y = (crashD a keep ((bs.length % 4 : Nat) : Int)).1 := ⟨_, rfl⟩
          have hcr : crashD a keep ((bs.length % 4 : Nat) : Int) = (y, true) := by rw [hy]; exact Prod.ext rfl hL.fine
          have hyr : diskOk y = true := by rw [hy]; exact hL.right.1
          have hyo : y.ops = [] := by rw [hy]; exact hL.right.2
          have hrd : ((readF y nm).2 = (readF e nm).2 ∧ (readF y nm).1 = (readF e nm).1) ∨ ((readF y nm).2 = true ∧ (readF y nm).1 = dt) := by rw [hy]; exact hL.read
          clear hLL hL hy
          have hdc : DB 900000000 y := (ok_db hyr).up (by decide)
          have hoc : ∀ o ∈ y.ops, o.data.size ≤ 900000000 := by rw [hyo]; simp
          obtain ⟨y1, y2, y3, y4, y5⟩ := id hdc
          have hyl := pvF_length y.live
          have hys := pvF_length y.safe
          have hyp := pvD_length y.ops
          have hry := read_size hyr nm
          have hrn := read_size he0 nm
          refine tr_wk (s' := mk [(0, .p none (.v (.slice A bs.length c))), (4, .p none (.v (.string nm))), (5, .p none (.v (.string dt))), (6, .ptr 6 0), (12, .p none (.v (.string ((readF e nm).1)))), (13, .p none (.v (.bool ((readF e nm).2)))), (14, .sl 1 0 ((pvI keep).length))] [(6, [.sl 3600 0 ((pvF a.live).length), .sl 3601 0 ((pvF a.safe).length), .sl 3602 0 ((pvD a.ops).length)])] [(1, 1, pvI keep), (3600, 2, pvF a.live), (3601, 2, pvF a.safe), (3602, 4, pvD a.ops)]) ?_ ?_
          · exact wk_mk ⟨rfl, ⟨rfl, ⟨rfl, ⟨rfl, ⟨rfl, ⟨rfl, ⟨rfl, trivial⟩⟩⟩⟩⟩⟩⟩ ⟨rfl, trivial⟩ ⟨rfl, ⟨rfl, ⟨rfl, ⟨rfl, trivial⟩⟩⟩⟩ rfl
          refine tr_region rfl (.run [] [] rfl (st_load_box rfl rfl rfl Try.isAgg27 Try.sizeOf27 (nle rfl)) (.run [] [] rfl (st_move rfl) (.run [] [] rfl (st_move rfl) (.run [] [] rfl (st_len_v rfl rfl Try.underlying22) (.run [] [] rfl (st_eq (st_rem rfl rfl rfl (by omega)) ((int_eq (rem_nat3 bs.length 4)))) (.run [1, 3600, 3601, 3602, 10600, 10601, 10602, 10603] [] rfl (st_call rfl 10600 (X := []) en13 rfl (.val nod) (.cons (.agg (.cons (.bor (.all (len := (pvF a.live).length) (xs := pvF a.live) rfl rfl (by decide))) (.cons (.bor (.all (len := (pvF a.safe).length) (xs := pvF a.safe) rfl rfl (by decide))) (.cons (.bor (.all (len := (pvD a.ops).length) (xs := pvD a.ops) rfl rfl (by decide))) .nil)))) (.cons (.one (.bor (.all (len := (pvI keep).length) (xs := pvI keep) rfl rfl (by decide)))) (.cons (.one (.bor .v)) .nil))) (by decide) all_nil .nil (crash_named hcr (implCrash_con a keep ((bs.length % 4 : Nat) : Int) hda (Nat.le_trans (kp_len hK) (by decide)) hoa6)) rfl rfl (nle rfl)) (.run [] [] rfl (st_move rfl) (.run [] [] rfl (st_extract rfl rfl rfl) (.run [] [] rfl (st_extract rfl rfl rfl) (.run [] [16] rfl (st_allocZ rfl 16 inf27 rfl (by decide) rfl (by decide)) (.run [] [] rfl (st_store_box rfl rfl rfl rfl rfl Try.sizeOf27 rfl (nle rfl)) (.run [] [] rfl (st_assign rfl) .nil)))))))))))) ?_
          refine tr_seq ?_
          refine tr_wk (s' := mk [(4, .p none (.v (.string nm))), (5, .p none (.v (.string dt))), (6, .ptr 6 0), (12, .p none (.v (.string ((readF e nm).1)))), (13, .p none (.v (.bool ((readF e nm).2)))), (16, .ptr 16 0), (17, .p none (.v (.bool true)))] [(6, [.sl 3600 0 ((pvF a.live).length), .sl 3601 0 ((pvF a.safe).length), .sl 3602 0 ((pvD a.ops).length)]), (16, [.sl 10600 0 ((pvF y.live).length), .sl 10601 0 ((pvF y.safe).length), .sl 10602 0 ((pvD y.ops).length)])] [(3600, 2, pvF a.live), (3601, 2, pvF a.safe), (3602, 4, pvD a.ops), (10600, 2, pvF y.live), (10601, 2, pvF y.safe), (10602, 4, pvD y.ops)]) ?_ ?_
          · exact wk_mk ⟨rfl, ⟨rfl, ⟨rfl, ⟨rfl, ⟨rfl, ⟨rfl, ⟨rfl, trivial⟩⟩⟩⟩⟩⟩⟩ ⟨rfl, ⟨rfl, trivial⟩⟩ ⟨rfl, ⟨rfl, ⟨rfl, ⟨rfl, ⟨rfl, ⟨rfl, trivial⟩⟩⟩⟩⟩⟩ rfl
          refine tr_region rfl (.run [] [] rfl (st_load_box rfl rfl rfl Try.isAgg27 Try.sizeOf27 (nle rfl)) (.run [] [] rfl (st_move rfl) (.run [10600, 10601, 10602, 11200, 11201] [] rfl (st_call rfl 11200 (X := []) en19 rfl (.val nod) (.cons (.agg (.cons (.bor (.all (len := (pvF y.live).length) (xs := pvF y.live) rfl rfl (by decide))) (.cons (.bor (.all (len := (pvF y.safe).length) (xs := pvF y.safe) rfl rfl (by decide))) (.cons (.bor (.all (len := (pvD y.ops).length) (xs := pvD y.ops) rfl rfl (by decide))) .nil)))) (.cons (.one (.bor .v)) .nil)) (by decide) all_nil .nil (readFile_con y nm hdc hoc) rfl rfl (nle rfl)) (.run [] [] rfl (st_move rfl) (.run [] [] rfl (st_extract rfl rfl rfl) (.run [] [] rfl (st_extract rfl rfl rfl) (.run [] [] rfl (st_assign rfl) (.run [] [] rfl (st_assign rfl) .nil)))))))) ?_
          refine tr_seq ?_
          refine tr_region rfl (.run [] [] rfl (st_load_box rfl rfl rfl Try.isAgg27 Try.sizeOf27 (nle rfl)) (.run [] [] rfl (st_move rfl) (.run [3600, 3601, 3602, 11800, 11801] [] rfl (st_call rfl 11800 (X := []) en19 rfl (.val nod) (.cons (.agg (.cons (.bor (.all (len := (pvF a.live).length) (xs := pvF a.live) rfl rfl (by decide))) (.cons (.bor (.all (len := (pvF a.safe).length) (xs := pvF a.safe) rfl rfl (by decide))) (.cons (.bor (.all (len := (pvD a.ops).length) (xs := pvD a.ops) rfl rfl (by decide))) .nil)))) (.cons (.one (.bor .v)) .nil)) (by decide) all_nil .nil (readFile_con a nm hda hoa) rfl rfl (nle rfl)) (.run [] [] rfl (st_move rfl) (.run [] [] rfl (st_extract rfl rfl rfl) (.run [] [] rfl (st_extract rfl rfl rfl) (.run [] [] rfl (st_assign rfl) (.run [] [] rfl (st_assign rfl) .nil)))))))) ?_
          refine tr_seq ?_
          rcases hrd with ⟨q1, q2⟩ | ⟨q1, q2⟩
          · skip
            refine tr_wk (s' := mk [(5, .p none (.v (.string dt))), (12, .p none (.v (.string ((readF e nm).1)))), (13, .p none (.v (.bool ((readF e nm).2)))), (17, .p none (.v (.bool true))), (18, .p none (.v (.string ((readF e nm).1)))), (19, .p none (.v (.bool ((readF e nm).2)))), (20, .p none (.v (.string ((readF a nm).1)))), (21, .p none (.v (.bool ((readF a nm).2))))] [] []) ?_ ?_
            · exact wk_mk ⟨rfl, ⟨rfl, ⟨rfl, ⟨rfl, ⟨(str_eq q2), ⟨(bool_eq q1), ⟨rfl, ⟨rfl, trivial⟩⟩⟩⟩⟩⟩⟩⟩ trivial trivial rfl
            rcases bfc ((readF a nm).2) with h9 | h9
            · have h9' := h9
              rw [hL0.now.1] at h9'; cases h9'
            · have h9' := h9
              rcases bfc (decide (((readF a nm).1) = dt)) with h10 | h10
              · have h10' := h10
                replace h10' := of_decide_eq_false h10'
                exact absurd hL0.now.2 h10'
              · have h10' := h10
                replace h10' := of_decide_eq_true h10'
                refine tr_region rfl (.run [] [] rfl (st_move rfl) (.run [] [] rfl (st_move rfl) (.run [] [] rfl (st_eq (st_move rfl) (bool_eq h9)) (.run [] [] rfl (st_pickT rfl rfl) (.run [] [] rfl (st_move rfl) (.run [] [] rfl (st_move rfl) (.run [] [] rfl (st_move rfl) (.run [] [] rfl (st_eq (st_seql rfl rfl rfl) (bool_eq h10)) (.run [] [] rfl (st_pickT rfl rfl) (.run [] [] rfl (st_move rfl) (.run [] [] rfl (st_move rfl) (.run [] [] rfl (st_move rfl) (.run [] [] rfl (st_eq (st_beql rfl rfl rfl Try.underlying4) (bool_eq (show (((readF e nm).2) == ((readF e nm).2)) = true from by simp))) (.run [] [] rfl (st_move rfl) (.run [] [] rfl (st_move rfl) (.run [] [] rfl (st_move rfl) (.run [] [] rfl (st_eq (st_seql rfl rfl rfl) (bool_eq (decide_eq_true (by simp)))) (.run [] [] rfl (st_pickT rfl rfl) (.run [] [] rfl (st_move rfl) (.not rfl (.not rfl (.not rfl (.not rfl (.not rfl (.not rfl (.run [] [] rfl (st_pickT rfl rfl) (.run [] [] rfl (st_pickT rfl rfl) (.run [] [] rfl (st_assign rfl) .nil)))))))))))))))))))))))))))) ?_
                refine tr_ret ?_
                exact ends [_] [] (.cons (.tmp rfl) .nil) (.cons (.one .v (.v _)) .nil) (by decide) trivial
          · skip
            refine tr_wk (s' := mk [(5, .p none (.v (.string dt))), (12, .p none (.v (.string ((readF e nm).1)))), (13, .p none (.v (.bool ((readF e nm).2)))), (17, .p none (.v (.bool true))), (18, .p none (.v (.string dt))), (19, .p none (.v (.bool true))), (20, .p none (.v (.string ((readF a nm).1)))), (21, .p none (.v (.bool ((readF a nm).2))))] [] []) ?_ ?_
            · exact wk_mk ⟨rfl, ⟨rfl, ⟨rfl, ⟨rfl, ⟨(str_eq q2), ⟨(bool_eq q1), ⟨rfl, ⟨rfl, trivial⟩⟩⟩⟩⟩⟩⟩⟩ trivial trivial rfl
            rcases bfc ((readF a nm).2) with h11 | h11
            · have h11' := h11
              rw [hL0.now.1] at h11'; cases h11'
            · have h11' := h11
              rcases bfc (decide (((readF a nm).1) = dt)) with h12 | h12
              · have h12' := h12
                replace h12' := of_decide_eq_false h12'
                exact absurd hL0.now.2 h12'
              · have h12' := h12
                replace h12' := of_decide_eq_true h12'
                rcases bfc (true == ((readF e nm).2)) with h13 | h13
                · have h13' := h13
                  refine tr_region rfl (.run [] [] rfl (st_move rfl) (.run [] [] rfl (st_move rfl) (.run [] [] rfl (st_eq (st_move rfl) (bool_eq h11)) (.run [] [] rfl (st_pickT rfl rfl) (.run [] [] rfl (st_move rfl) (.run [] [] rfl (st_move rfl) (.run [] [] rfl (st_move rfl) (.run [] [] rfl (st_eq (st_seql rfl rfl rfl) (bool_eq h12)) (.run [] [] rfl (st_pickT rfl rfl) (.run [] [] rfl (st_move rfl) (.run [] [] rfl (st_move rfl) (.run [] [] rfl (st_move rfl) (.run [] [] rfl (st_eq (st_beql rfl rfl rfl Try.underlying4) (bool_eq h13)) (.run [] [] rfl (st_move rfl) (.not rfl (.not rfl (.not rfl (.run [] [] rfl (st_pickF rfl rfl) (.run [] [] rfl (st_move rfl) (.run [] [] rfl (st_move rfl) (.run [] [] rfl (st_move rfl) (.run [] [] rfl (st_move rfl) (.run [] [] rfl (st_move rfl) (.run [] [] rfl (st_eq (st_seql rfl rfl rfl) (bool_eq (decide_eq_true (by simp)))) (.run [] [] rfl (st_pickT rfl rfl) (.run [] [] rfl (st_pickF rfl rfl) (.run [] [] rfl (st_pickT rfl rfl) (.run [] [] rfl (st_assign rfl) .nil)))))))))))))))))))))))))))) ?_
                  refine tr_ret ?_
                  exact ends [_] [] (.cons (.tmp rfl) .nil) (.cons (.one .v (.v _)) .nil) (by decide) trivial
                · have h13' := h13
                  rcases bfc (decide (dt = ((readF e nm).1))) with h14 | h14
                  · have h14' := h14
                    replace h14' := of_decide_eq_false h14'
                    refine tr_region rfl (.run [] [] rfl (st_move rfl) (.run [] [] rfl (st_move rfl) (.run [] [] rfl (st_eq (st_move rfl) (bool_eq h11)) (.run [] [] rfl (st_pickT rfl rfl) (.run [] [] rfl (st_move rfl) (.run [] [] rfl (st_move rfl) (.run [] [] rfl (st_move rfl) (.run [] [] rfl (st_eq (st_seql rfl rfl rfl) (bool_eq h12)) (.run [] [] rfl (st_pickT rfl rfl) (.run [] [] rfl (st_move rfl) (.run [] [] rfl (st_move rfl) (.run [] [] rfl (st_move rfl) (.run [] [] rfl (st_eq (st_beql rfl rfl rfl Try.underlying4) (bool_eq h13)) (.run [] [] rfl (st_move rfl) (.run [] [] rfl (st_move rfl) (.run [] [] rfl (st_move rfl) (.run [] [] rfl (st_eq (st_seql rfl rfl rfl) (bool_eq h14)) (.run [] [] rfl (st_pickT rfl rfl) (.run [] [] rfl (st_move rfl) (.run [] [] rfl (st_move rfl) (.run [] [] rfl (st_move rfl) (.run [] [] rfl (st_move rfl) (.run [] [] rfl (st_move rfl) (.run [] [] rfl (st_eq (st_seql rfl rfl rfl) (bool_eq (decide_eq_true (by simp)))) (.run [] [] rfl (st_pickT rfl rfl) (.run [] [] rfl (st_pickF rfl rfl) (.run [] [] rfl (st_pickT rfl rfl) (.run [] [] rfl (st_assign rfl) .nil)))))))))))))))))))))))))))) ?_
                    refine tr_ret ?_
                    exact ends [_] [] (.cons (.tmp rfl) .nil) (.cons (.one .v (.v _)) .nil) (by decide) trivial
                  · have h14' := h14
                    replace h14' := of_decide_eq_true h14'
                    refine tr_region rfl (.run [] [] rfl (st_move rfl) (.run [] [] rfl (st_move rfl) (.run [] [] rfl (st_eq (st_move rfl) (bool_eq h11)) (.run [] [] rfl (st_pickT rfl rfl) (.run [] [] rfl (st_move rfl) (.run [] [] rfl (st_move rfl) (.run [] [] rfl (st_move rfl) (.run [] [] rfl (st_eq (st_seql rfl rfl rfl) (bool_eq h12)) (.run [] [] rfl (st_pickT rfl rfl) (.run [] [] rfl (st_move rfl) (.run [] [] rfl (st_move rfl) (.run [] [] rfl (st_move rfl) (.run [] [] rfl (st_eq (st_beql rfl rfl rfl Try.underlying4) (bool_eq h13)) (.run [] [] rfl (st_move rfl) (.run [] [] rfl (st_move rfl) (.run [] [] rfl (st_move rfl) (.run [] [] rfl (st_eq (st_seql rfl rfl rfl) (bool_eq h14)) (.run [] [] rfl (st_pickT rfl rfl) (.run [] [] rfl (st_move rfl) (.not rfl (.not rfl (.not rfl (.not rfl (.not rfl (.not rfl (.run [] [] rfl (st_pickT rfl rfl) (.run [] [] rfl (st_pickT rfl rfl) (.run [] [] rfl (st_assign rfl) .nil)))))))))))))))))))))))))))) ?_
                    refine tr_ret ?_
                    exact ends [_] [] (.cons (.tmp rfl) .nil) (.cons (.one .v (.v _)) .nil) (by decide) trivial
theorem law_replaced_con {γ : Gho} {cv : Value} {bs : List Nat} (hc : CodeAt γ cv bs) : ConG γ Try.prog 5 [.one (.v cv)] [] [.one (.v (.bool true))] := by
  obtain ⟨A, c, rfl, hcc⟩ := id hc
  exact law_replaced0_con bs A c hc
end Go.Rl

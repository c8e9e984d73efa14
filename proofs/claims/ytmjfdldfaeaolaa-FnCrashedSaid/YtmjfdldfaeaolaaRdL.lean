/- Promises of functions, proved by walks over their operations; no conditions beyond those that each theorem states. -/
import Derived.Test.YtmjfdldfaeaolaaRdK
import Derived.Test.YtmjfdldfaeaolaaRtDl
import Derived.Test.YtmjfdldfaeaolaaRmE
namespace Go.Rl
open Go.Proofs
theorem en42 : ∀ vs w, (callFunc 42 vs).run Try.prog w = .ok (.enter 42 vs) w := enters Try.func42 (by decide) rfl
theorem done_named {f : Nat} {A : List PA} {l : List Fil} {c op : DOp} (h : c = op) (hc : Con Try.prog f A [] [.one (.sl true 2 (pvF (doneF l op).1)), .one (.v (.bool (doneF l op).2))]) : Con Try.prog f A [] [.one (.sl true 2 (pvF (doneF l c).1)), .one (.v (.bool (doneF l c).2))] := by
  subst h
  exact hc
theorem crash_named {f : Nat} {A : List PA} {d : Dsk} {keep : List Int} {torn : Int} {x : Dsk × Bool} (h : crashD d keep torn = x) (hc : Con Try.prog f A [] [.agg [.sl true 2 (pvF (crashD d keep torn).1.live), .sl true 2 (pvF (crashD d keep torn).1.safe), .sl true 4 (pvD (crashD d keep torn).1.ops)], .one (.v (.bool (crashD d keep torn).2))]) : Con Try.prog f A [] [.agg [.sl true 2 (pvF x.1.live), .sl true 2 (pvF x.1.safe), .sl true 4 (pvD x.1.ops)], .one (.v (.bool x.2))] := by
  subst h
  exact hc
theorem pvI_snoc (l : List Int) (n : Int) : pvI l ++ [[PV.v (.int .i64 n)]] = pvI (l ++ [n]) := by simp [pvI]
set_option maxRecDepth 1000000 in
set_option maxHeartbeats 2000000 in
theorem crash_con (d : Dsk) (keep : List Int) (torn : Int) (hok : diskOk d = true) (hk : keep.length ≤ 1000) (hop : ∀ op ∈ d.ops, op.data.size ≤ 1000000) : Con Try.prog 42 [.agg [PV.sl false 2 (pvF d.live), PV.sl false 2 (pvF d.safe), PV.sl false 4 (pvD d.ops)], .one (PV.sl false 1 (pvI keep)), .one (PV.v (.int .i64 torn))] [] [.agg [.sl true 2 (pvF (crashF d keep torn).1.live), .sl true 2 (pvF (crashF d keep torn).1.safe), .sl true 4 (pvD (crashF d keep torn).1.ops)], .one (.v (.bool (crashF d keep torn).2))] := by
  refine con_of_tr Try.func42 rfl rfl rfl rfl ?_
  have hld := pvF_length d.live
  have hsd := pvF_length d.safe
  have hod := pvD_length d.ops
  obtain ⟨hb1, hb2, hb3, hb4, hb5⟩ := ok_db hok
  have hlv := files_fit (ok_live hok)
  have hkl := pvI_length keep
  refine tr_seq ?_
  refine tr_region rfl (.run [] [3] rfl (st_box rfl 3 rfl rfl (by decide) rfl (by decide)) (.run [] [6] rfl (st_allocZ rfl 6 inf27 rfl (by decide) rfl (by decide)) (.run [] [] rfl (st_assign rfl) .nil))) ?_
  refine tr_seq ?_
  refine tr_seq ?_
  refine tr_region rfl (.run [] [] rfl (st_move rfl) (.run [] [] rfl (st_lss rfl rfl rfl) .nil)) ?_
  refine tr_if (t := decide (torn < 0)) rfl (fun h1 => ?_) (fun h1 => ?_)
  · skip
    replace h1 := of_decide_eq_true h1
    refine tr_seq ?_
    rw [show crashF d keep torn = (dskZ, false) from if_pos h1]
    refine tr_region rfl (.run [] [] rfl (st_build (pl := [(0, 1), (1, 1), (2, 1)]) rfl Try.underlying27 inf27 (by kernel_rfl) rfl rfl) (.run [] [] rfl (st_store_box rfl rfl rfl rfl rfl Try.sizeOf27 rfl (nle rfl)) (.run [] [] rfl (st_assign rfl) .nil))) ?_
    refine tr_ret ?_
    exact ends [_, _] [] (.cons (.cell rfl rfl Try.isAgg27 Try.sizeOf27 (nle rfl)) (.cons (.tmp rfl) .nil)) (.cons (.agg (.cons (.nil _) (.cons (.nil _) (.cons (.nil _) .nil))) (cl_cons (.sl _ _ (fun _ h => nomatch h)) (cl_cons (.sl _ _ (fun _ h => nomatch h)) (cl_cons (.sl _ _ (fun _ h => nomatch h)) cl_nil)))) (.cons (.one .v (.v _)) .nil)) (by decide) trivial
  · skip
    replace h1 := of_decide_eq_false h1
    refine tr_skip ?_
    refine tr_seq ?_
    have htn := h1
    have hsf := files_fit (ok_safe hok)
    refine tr_region rfl (.run [] [] rfl (st_faddr_box rfl rfl Try.underlying27 rfl Try.sizeOf24 (by decide)) (.run [] [] rfl (st_load_box1 rfl rfl rfl Try.isAgg24 rfl) (.run [] [] rfl (st_assign rfl) .nil))) ?_
    refine tr_seq ?_
    refine tr_seq ?_
    refine tr_region rfl (.run [] [] rfl (st_move rfl) (.run [] [] rfl (st_len_fro rfl rfl Try.underlying30) (.run [] [] rfl (st_move rfl) .nil))) ?_
    refine tr_block ?_
    refine tr_loopS (σ := Nat × List Fil) (fun (i, f) => mk [(1, .p none (.sl false 1 (pvI keep))), (2, .p none (.v (.int .i64 torn))), (3, .ptr 3 0), (6, .ptr 6 0), (8, .p none (.sl false 2 (pvF f))), (17, .p none (.sl false 1 (pvI keep))), (18, .p none (.v (.int .i64 ((pvI keep).length : Int)))), (19, .p none (.v (.int .i64 (i:Int))))] [(3, [.p none (.sl false 2 (pvF d.live)), .p none (.sl false 2 (pvF d.safe)), .p none (.sl false 4 (pvD d.ops))]), (6, [.nils, .nils, .nils])] []) (fun (i, f) => i ≤ keep.length ∧ (namesOk f = true ∧ f.length ≤ 60 + i ∧ totF f ≤ 200000 + i * 1000000) ∧ crashRun d keep torn i (keep.drop i) f = crashRun d keep torn 0 keep d.safe) (fun (i, f) => keep.length - i) (0, d.safe) ⟨Nat.zero_le _, ⟨files_names (ok_safe hok), by omega, by omega⟩, rfl⟩ (wk_mk ⟨rfl, ⟨rfl, ⟨rfl, ⟨rfl, ⟨rfl, ⟨rfl, ⟨rfl, ⟨(int_eq (by omega)), trivial⟩⟩⟩⟩⟩⟩⟩⟩ ⟨rfl, ⟨rfl, trivial⟩⟩ trivial rfl) ?_
    rintro ⟨i, f⟩ hG
    replace hG : i ≤ keep.length ∧ (namesOk f = true ∧ f.length ≤ 60 + i ∧ totF f ≤ 200000 + i * 1000000) ∧ crashRun d keep torn i (keep.drop i) f = crashRun d keep torn 0 keep d.safe := hG
    obtain ⟨hi, ⟨hN, hL, hT⟩, hR⟩ := hG
    have hfl := pvF_length f
    refine tr_seq ?_
    refine tr_region rfl (.run [] [] rfl (st_lss rfl rfl rfl) .nil) ?_
    refine tr_seq ?_
    refine tr_if (t := decide ((i:Int) < ((pvI keep).length : Int))) rfl (fun h2 => ?_) (fun h2 => ?_)
    · skip
      replace h2 := of_decide_eq_true h2
      refine tr_skip ?_
      refine tr_seq ?_
      refine tr_block ?_
      refine tr_seq ?_
      obtain ⟨e, he⟩ : ∃ e, keep[i]? = some e := ⟨_, List.getElem?_eq_getElem (by (have hL := pvI_length keep; omega))⟩
      have hlte := (List.getElem?_eq_some_iff.1 he).1
      refine tr_region rfl (.run [] [] rfl (st_move rfl) (.run [] [] rfl (st_idx_fro rfl rfl rfl Try.underlying30 Try.sizeOf2 rfl (by omega) (pvI_get he)) (.run [] [] rfl (st_load_fea1 rfl rfl Try.isAgg2 rfl) (.run [] [] rfl (st_assign rfl) (.run [] [] rfl (st_assign rfl) .nil))))) ?_
      refine tr_seq ?_
      refine tr_seq ?_
      refine tr_wk (s' := mk [(1, .p none (.sl false 1 (pvI keep))), (2, .p none (.v (.int .i64 torn))), (3, .ptr 3 0), (6, .ptr 6 0), (8, .p none (.sl false 2 (pvF f))), (9, .p none (.v (.int .i64 (i:Int)))), (10, .p none (.v (.int .i64 e))), (17, .p none (.sl false 1 (pvI keep))), (18, .p none (.v (.int .i64 ((pvI keep).length : Int)))), (19, .p none (.v (.int .i64 (i:Int))))] [(3, [.p none (.sl false 2 (pvF d.live)), .p none (.sl false 2 (pvF d.safe)), .p none (.sl false 4 (pvD d.ops))]), (6, [.nils, .nils, .nils])] []) ?_ ?_
      · exact wk_mk ⟨rfl, ⟨rfl, ⟨rfl, ⟨rfl, ⟨rfl, ⟨rfl, ⟨rfl, ⟨rfl, ⟨rfl, ⟨rfl, trivial⟩⟩⟩⟩⟩⟩⟩⟩⟩⟩ ⟨rfl, ⟨rfl, trivial⟩⟩ trivial rfl
      rcases bfc (!(within e 0 ((d.ops.length : Int) - 1))) with h3 | h3
      · have h3' := h3
        replace h3' : (within e 0 ((d.ops.length : Int) - 1)) = true := bnot_f h3'
        rcases bfc (decide (0 < (i:Int))) with h4 | h4
        · have h4' := h4
          replace h4' := of_decide_eq_false h4'
          refine tr_region rfl (.run [] [] rfl (st_move rfl) (.run [] [] rfl (st_faddr_box rfl rfl Try.underlying27 rfl Try.sizeOf25 (by decide)) (.run [] [] rfl (st_load_box1 rfl rfl rfl Try.isAgg25 rfl) (.run [] [] rfl (st_len_fro rfl rfl Try.underlying25) (.run [] [] rfl (st_eq (st_subn rfl rfl rfl (by omega)) ((int_eq (by omega)))) (.run [2900] [] rfl (st_call rfl 2900 (X := []) en68 rfl (.val nod) (.cons (.one (.bor .v)) (.cons (.one (.bor .v)) (.cons (.one (.bor .v)) .nil))) (by decide) all_nil .nil (within_con e 0 ((d.ops.length : Int) - 1)) rfl rfl (nle rfl)) (.run [] [] rfl (st_eq (st_not (b := within e 0 ((d.ops.length : Int) - 1)) rfl rfl) (by exact congrArg (fun b => AV.p none (.v (.bool b))) h3)) (.run [] [] rfl (st_move rfl) (.run [] [] rfl (st_move rfl) (.run [] [] rfl (st_eq (st_gtr rfl rfl rfl) (by exact congrArg (fun b => AV.p none (.v (.bool b))) h4)) (.run [] [] rfl (st_move rfl) (.not rfl (.not rfl (.not rfl (.not rfl (.not rfl (.not rfl (.not rfl (.run [] [] rfl (st_pick (t := false) rfl rfl) (.run [] [] rfl (st_pick (t := false) rfl rfl) .nil)))))))))))))))))))) ?_
          refine tr_if (t := false) rfl (fun h => nomatch h) (fun _ => ?_)
          refine tr_skip ?_
          refine tr_seq ?_
          have hb : keepBad d keep i e = false := keep_fst h3' (by omega)
          obtain ⟨hk0, hk1⟩ := keep_ok hb
          obtain ⟨o, ho⟩ : ∃ o, d.ops[e.toNat]? = some o := ⟨_, List.getElem?_eq_getElem (by omega)⟩
          have hof := ok_form hok o (List.mem_of_getElem? ho)
          have hoz := hop o (List.mem_of_getElem? ho)
          have hoa : opAt d e = o := opAt_mem ho
          refine tr_wk (s' := mk [(1, .p none (.sl false 1 (pvI keep))), (2, .p none (.v (.int .i64 torn))), (3, .ptr 3 0), (6, .ptr 6 0), (8, .p none (.sl false 2 (pvF f))), (9, .p none (.v (.int .i64 (i:Int)))), (10, .p none (.v (.int .i64 e))), (17, .p none (.sl false 1 (pvI keep))), (18, .p none (.v (.int .i64 ((pvI keep).length : Int)))), (19, .p none (.v (.int .i64 (i:Int)))), (32, .p none (.v (.int .i64 (i:Int)))), (33, .p none (.v (.bool false))), (34, .p none (.v (.bool false))), (42, .p none (.v (.bool false)))] [(3, [.p none (.sl false 2 (pvF d.live)), .p none (.sl false 2 (pvF d.safe)), .p none (.sl false 4 (pvD d.ops))]), (6, [.nils, .nils, .nils])] []) ?_ ?_
          · exact wk_mk ⟨rfl, ⟨rfl, ⟨rfl, ⟨rfl, ⟨rfl, ⟨rfl, ⟨rfl, ⟨rfl, ⟨rfl, ⟨rfl, ⟨rfl, ⟨rfl, ⟨rfl, ⟨rfl, trivial⟩⟩⟩⟩⟩⟩⟩⟩⟩⟩⟩⟩⟩⟩ ⟨rfl, ⟨rfl, trivial⟩⟩ trivial rfl
          refine tr_region rfl (.run [] [] rfl (st_faddr_box rfl rfl Try.underlying27 rfl Try.sizeOf25 (by decide)) (.run [] [] rfl (st_load_box1 rfl rfl rfl Try.isAgg25 rfl) (.run [] [] rfl (st_move rfl) (.run [] [] rfl (st_idx_fro rfl rfl rfl Try.underlying25 Try.sizeOf36 rfl (by omega) (pvD_get ho)) (.run [] [] rfl (st_load_fea rfl rfl Try.isAgg36 Try.sizeOf36 (nle rfl)) (.run [] [11] rfl (st_allocZ rfl 11 inf36 rfl (by decide) rfl (by decide)) (.run [] [] rfl (st_store_box rfl rfl rfl rfl rfl Try.sizeOf36 rfl (nle rfl)) .nil))))))) ?_
          refine tr_seq ?_
          refine tr_seq ?_
          refine tr_region rfl (.run [] [] rfl (st_move rfl) (.run [] [] rfl (st_move rfl) (.run [] [] rfl (st_len_fro rfl rfl Try.underlying30) (.run [] [] rfl (st_subn rfl rfl rfl (by omega)) (.run [] [] rfl (st_eql rfl rfl rfl) .nil))))) ?_
          refine tr_if (t := decide ((i:Int) = (((pvI keep).length : Int) - 1))) rfl (fun h5 => ?_) (fun h5 => ?_)
          · skip
            replace h5 := of_decide_eq_true h5
            refine tr_wk (s' := mk [(1, .p none (.sl false 1 (pvI keep))), (2, .p none (.v (.int .i64 torn))), (3, .ptr 3 0), (6, .ptr 6 0), (8, .p none (.sl false 2 (pvF f))), (11, .ptr 11 0), (17, .p none (.sl false 1 (pvI keep))), (18, .p none (.v (.int .i64 ((pvI keep).length : Int)))), (19, .p none (.v (.int .i64 (i:Int)))), (32, .p none (.v (.int .i64 (i:Int)))), (33, .p none (.v (.bool false))), (34, .p none (.v (.bool false))), (42, .p none (.v (.bool false)))] [(3, [.p none (.sl false 2 (pvF d.live)), .p none (.sl false 2 (pvF d.safe)), .p none (.sl false 4 (pvD d.ops))]), (6, [.nils, .nils, .nils]), (11, [.p none (.v (.int .i64 o.kind)), .p none (.v (.string o.name)), .p none (.v (.string o.dest)), .p none (.v (.string o.data))])] []) ?_ ?_
            · exact wk_mk ⟨rfl, ⟨rfl, ⟨rfl, ⟨rfl, ⟨rfl, ⟨rfl, ⟨rfl, ⟨rfl, ⟨rfl, ⟨rfl, ⟨rfl, ⟨rfl, ⟨rfl, trivial⟩⟩⟩⟩⟩⟩⟩⟩⟩⟩⟩⟩⟩ ⟨rfl, ⟨rfl, ⟨rfl, trivial⟩⟩⟩ trivial rfl
            refine tr_region rfl (.run [] [] rfl (st_faddr_box rfl rfl Try.underlying36 rfl Try.sizeOf9 (by decide)) (.run [] [] rfl (st_load_box1 rfl rfl rfl Try.isAgg9 rfl) (.run [] [] rfl (st_move rfl) (.run [] [] rfl (st_faddr_box rfl rfl Try.underlying36 rfl Try.sizeOf9 (by decide)) (.run [] [] rfl (st_load_box1 rfl rfl rfl Try.isAgg9 rfl) (.run [] [] rfl (st_len_str rfl rfl Try.underlying9) (.run [] [] rfl (st_eq (st_min rfl rfl rfl) ((int_eq (b := ((min torn (o.data.size : Int)).toNat : Int)) (by omega)))) (.run [] [] rfl (st_cut_str rfl rfl Try.underlying9 .no (.at_ rfl rfl) (Nat.zero_le _) (by omega)) (.run [] [] rfl (st_faddr_box rfl rfl Try.underlying36 rfl Try.sizeOf9 (by decide)) (.run [] [] rfl (st_store_box rfl rfl rfl rfl rfl Try.sizeOf9 rfl (nle rfl)) .nil)))))))))) ?_
            obtain ⟨c, hc⟩ : ∃ c, c = crashOp d keep torn i e := ⟨_, rfl⟩
            have hcc : c = (⟨o.kind, o.name, o.dest, o.data.extract 0 ((min torn (o.data.size : Int)).toNat)⟩ : DOp) := by rw [hc, crashOp, if_pos (by omega), hoa]; rfl
            have hcf : formF c = true := by rw [hc, crashOp, if_pos (by omega), hoa]; exact torn_form torn hof
            have hcz : c.data.size ≤ 1000000 := by rw [hc, crashOp, if_pos (by omega), hoa]; exact Nat.le_trans (torn_size torn) hoz
            have hcz2 : ((⟨o.kind, o.name, o.dest, o.data.extract 0 ((min torn (o.data.size : Int)).toNat)⟩ : DOp)).data.size ≤ 1000000 := by rw [← hcc]; exact hcz
            refine tr_wk (s' := mk [(1, .p none (.sl false 1 (pvI keep))), (2, .p none (.v (.int .i64 torn))), (3, .ptr 3 0), (6, .ptr 6 0), (8, .p none (.sl false 2 (pvF f))), (11, .ptr 11 0), (17, .p none (.sl false 1 (pvI keep))), (18, .p none (.v (.int .i64 ((pvI keep).length : Int)))), (19, .p none (.v (.int .i64 (i:Int)))), (32, .p none (.v (.int .i64 (i:Int)))), (33, .p none (.v (.bool false))), (34, .p none (.v (.bool false))), (42, .p none (.v (.bool false)))] [(3, [.p none (.sl false 2 (pvF d.live)), .p none (.sl false 2 (pvF d.safe)), .p none (.sl false 4 (pvD d.ops))]), (6, [.nils, .nils, .nils]), (11, [.p none (.v (.int .i64 o.kind)), .p none (.v (.string o.name)), .p none (.v (.string o.dest)), .p none (.v (.string (o.data.extract 0 ((min torn (o.data.size : Int)).toNat))))])] []) ?_ ?_
            · exact wk_mk ⟨rfl, ⟨rfl, ⟨rfl, ⟨rfl, ⟨rfl, ⟨rfl, ⟨rfl, ⟨rfl, ⟨rfl, ⟨rfl, ⟨rfl, ⟨rfl, ⟨rfl, trivial⟩⟩⟩⟩⟩⟩⟩⟩⟩⟩⟩⟩⟩ ⟨rfl, ⟨rfl, ⟨rfl, trivial⟩⟩⟩ trivial rfl
            refine tr_region rfl (.run [] [] rfl (st_move rfl) (.run [] [] rfl (st_load_box rfl rfl rfl Try.isAgg36 Try.sizeOf36 (nle rfl)) (.run [6700, 6701] [] rfl (st_call rfl 6700 (X := []) en35 rfl (.val nod) (.cons (.one (.bor (.sl nod))) (.cons (.agg (.cons (.bor .v) (.cons (.bor .v) (.cons (.bor .v) (.cons (.bor .v) .nil))))) .nil)) (by decide) all_nil .nil (done_named hcc (done_con f (⟨o.kind, o.name, o.dest, o.data.extract 0 ((min torn (o.data.size : Int)).toNat)⟩ : DOp) (namesOk_srt hN) (by omega) (by omega) (by omega))) rfl rfl (nle rfl)) (.run [] [] rfl (st_move rfl) (.run [] [] rfl (st_extract rfl rfl rfl) (.run [] [] rfl (st_extract rfl rfl rfl) (.run [] [] rfl (st_assign rfl) .nil))))))) ?_
            refine tr_wk (wk_frz 6700 rfl) ?_
            have hp6 : (.p none (.sl false 2 (((pvF ((doneF f c).1)).drop 0).take ((pvF ((doneF f c).1)).length))) : AV) = .p none (.sl false 2 (pvF ((doneF f c).1))) := by simp only [frz_all]
            refine tr_wk (s' := mk [(1, .p none (.sl false 1 (pvI keep))), (2, .p none (.v (.int .i64 torn))), (3, .ptr 3 0), (6, .ptr 6 0), (8, .p none (.sl false 2 (pvF ((doneF f c).1)))), (17, .p none (.sl false 1 (pvI keep))), (18, .p none (.v (.int .i64 ((pvI keep).length : Int)))), (19, .p none (.v (.int .i64 (i:Int)))), (32, .p none (.v (.int .i64 (i:Int)))), (33, .p none (.v (.bool false))), (34, .p none (.v (.bool false))), (42, .p none (.v (.bool false)))] [(3, [.p none (.sl false 2 (pvF d.live)), .p none (.sl false 2 (pvF d.safe)), .p none (.sl false 4 (pvD d.ops))]), (6, [.nils, .nils, .nils])] []) ?_ ?_
            · exact wk_mk ⟨rfl, ⟨rfl, ⟨rfl, ⟨rfl, ⟨hp6, ⟨rfl, ⟨rfl, ⟨rfl, ⟨rfl, ⟨rfl, ⟨rfl, ⟨rfl, trivial⟩⟩⟩⟩⟩⟩⟩⟩⟩⟩⟩⟩ ⟨rfl, ⟨rfl, trivial⟩⟩ trivial rfl
            refine tr_region rfl (.run [] [] rfl (st_addn rfl rfl rfl (by omega)) (.run [] [] rfl (st_move rfl) .nil)) ?_
            refine nxt (Q := fun _ _ => False) (z := (i, f)) (i + 1, (doneF f c).1) ?_ ?_ ?_
            · show (i + 1) ≤ keep.length ∧ (namesOk ((doneF f c).1) = true ∧ ((doneF f c).1).length ≤ 60 + (i + 1) ∧ totF ((doneF f c).1) ≤ 200000 + (i + 1) * 1000000) ∧ crashRun d keep torn (i + 1) (keep.drop (i + 1)) ((doneF f c).1) = crashRun d keep torn 0 keep d.safe
              exact ⟨by omega, ⟨names_done hN hcf, by have := done_len f c; omega, by have := done_tot1 f c; omega⟩, by rw [hc]; exact crash_step hR he hb⟩
            · show keep.length - (i + 1) < keep.length - i
              omega
            · exact wk_mk ⟨rfl, ⟨rfl, ⟨rfl, ⟨rfl, ⟨rfl, ⟨rfl, ⟨rfl, ⟨(int_eq (by omega)), trivial⟩⟩⟩⟩⟩⟩⟩⟩ ⟨rfl, ⟨rfl, trivial⟩⟩ trivial rfl
          · skip
            replace h5 := of_decide_eq_false h5
            refine tr_skip ?_
            obtain ⟨c, hc⟩ : ∃ c, c = crashOp d keep torn i e := ⟨_, rfl⟩
            have hcc : c = o := by rw [hc, crashOp, if_neg (by omega), hoa]
            have hcf : formF c = true := by rw [hcc]; exact hof
            have hcz : c.data.size ≤ 1000000 := by rw [hcc]; exact hoz
            have hcz2 : (o).data.size ≤ 1000000 := by rw [← hcc]; exact hcz
            refine tr_wk (s' := mk [(1, .p none (.sl false 1 (pvI keep))), (2, .p none (.v (.int .i64 torn))), (3, .ptr 3 0), (6, .ptr 6 0), (8, .p none (.sl false 2 (pvF f))), (11, .ptr 11 0), (17, .p none (.sl false 1 (pvI keep))), (18, .p none (.v (.int .i64 ((pvI keep).length : Int)))), (19, .p none (.v (.int .i64 (i:Int)))), (32, .p none (.v (.int .i64 (i:Int)))), (33, .p none (.v (.bool false))), (34, .p none (.v (.bool false))), (42, .p none (.v (.bool false)))] [(3, [.p none (.sl false 2 (pvF d.live)), .p none (.sl false 2 (pvF d.safe)), .p none (.sl false 4 (pvD d.ops))]), (6, [.nils, .nils, .nils]), (11, [.p none (.v (.int .i64 o.kind)), .p none (.v (.string o.name)), .p none (.v (.string o.dest)), .p none (.v (.string o.data))])] []) ?_ ?_
            · exact wk_mk ⟨rfl, ⟨rfl, ⟨rfl, ⟨rfl, ⟨rfl, ⟨rfl, ⟨rfl, ⟨rfl, ⟨rfl, ⟨rfl, ⟨rfl, ⟨rfl, ⟨rfl, trivial⟩⟩⟩⟩⟩⟩⟩⟩⟩⟩⟩⟩⟩ ⟨rfl, ⟨rfl, ⟨rfl, trivial⟩⟩⟩ trivial rfl
            refine tr_region rfl (.run [] [] rfl (st_move rfl) (.run [] [] rfl (st_load_box rfl rfl rfl Try.isAgg36 Try.sizeOf36 (nle rfl)) (.run [6700, 6701] [] rfl (st_call rfl 6700 (X := []) en35 rfl (.val nod) (.cons (.one (.bor (.sl nod))) (.cons (.agg (.cons (.bor .v) (.cons (.bor .v) (.cons (.bor .v) (.cons (.bor .v) .nil))))) .nil)) (by decide) all_nil .nil (done_named hcc (done_con f o (namesOk_srt hN) (by omega) (by omega) (by omega))) rfl rfl (nle rfl)) (.run [] [] rfl (st_move rfl) (.run [] [] rfl (st_extract rfl rfl rfl) (.run [] [] rfl (st_extract rfl rfl rfl) (.run [] [] rfl (st_assign rfl) .nil))))))) ?_
            refine tr_wk (wk_frz 6700 rfl) ?_
            have hp7 : (.p none (.sl false 2 (((pvF ((doneF f c).1)).drop 0).take ((pvF ((doneF f c).1)).length))) : AV) = .p none (.sl false 2 (pvF ((doneF f c).1))) := by simp only [frz_all]
            refine tr_wk (s' := mk [(1, .p none (.sl false 1 (pvI keep))), (2, .p none (.v (.int .i64 torn))), (3, .ptr 3 0), (6, .ptr 6 0), (8, .p none (.sl false 2 (pvF ((doneF f c).1)))), (17, .p none (.sl false 1 (pvI keep))), (18, .p none (.v (.int .i64 ((pvI keep).length : Int)))), (19, .p none (.v (.int .i64 (i:Int)))), (32, .p none (.v (.int .i64 (i:Int)))), (33, .p none (.v (.bool false))), (34, .p none (.v (.bool false))), (42, .p none (.v (.bool false)))] [(3, [.p none (.sl false 2 (pvF d.live)), .p none (.sl false 2 (pvF d.safe)), .p none (.sl false 4 (pvD d.ops))]), (6, [.nils, .nils, .nils])] []) ?_ ?_
            · exact wk_mk ⟨rfl, ⟨rfl, ⟨rfl, ⟨rfl, ⟨hp7, ⟨rfl, ⟨rfl, ⟨rfl, ⟨rfl, ⟨rfl, ⟨rfl, ⟨rfl, trivial⟩⟩⟩⟩⟩⟩⟩⟩⟩⟩⟩⟩ ⟨rfl, ⟨rfl, trivial⟩⟩ trivial rfl
            refine tr_region rfl (.run [] [] rfl (st_addn rfl rfl rfl (by omega)) (.run [] [] rfl (st_move rfl) .nil)) ?_
            refine nxt (Q := fun _ _ => False) (z := (i, f)) (i + 1, (doneF f c).1) ?_ ?_ ?_
            · show (i + 1) ≤ keep.length ∧ (namesOk ((doneF f c).1) = true ∧ ((doneF f c).1).length ≤ 60 + (i + 1) ∧ totF ((doneF f c).1) ≤ 200000 + (i + 1) * 1000000) ∧ crashRun d keep torn (i + 1) (keep.drop (i + 1)) ((doneF f c).1) = crashRun d keep torn 0 keep d.safe
              exact ⟨by omega, ⟨names_done hN hcf, by have := done_len f c; omega, by have := done_tot1 f c; omega⟩, by rw [hc]; exact crash_step hR he hb⟩
            · show keep.length - (i + 1) < keep.length - i
              omega
            · exact wk_mk ⟨rfl, ⟨rfl, ⟨rfl, ⟨rfl, ⟨rfl, ⟨rfl, ⟨rfl, ⟨(int_eq (by omega)), trivial⟩⟩⟩⟩⟩⟩⟩⟩ ⟨rfl, ⟨rfl, trivial⟩⟩ trivial rfl
        · have h4' := h4
          replace h4' := of_decide_eq_true h4'
          obtain ⟨e2, he2⟩ : ∃ e, keep[(i - 1 : Nat)]? = some e := ⟨_, List.getElem?_eq_getElem (by (have hL := pvI_length keep; omega))⟩
          have hlte2 := (List.getElem?_eq_some_iff.1 he2).1
          refine tr_region rfl (.run [] [] rfl (st_move rfl) (.run [] [] rfl (st_faddr_box rfl rfl Try.underlying27 rfl Try.sizeOf25 (by decide)) (.run [] [] rfl (st_load_box1 rfl rfl rfl Try.isAgg25 rfl) (.run [] [] rfl (st_len_fro rfl rfl Try.underlying25) (.run [] [] rfl (st_eq (st_subn rfl rfl rfl (by omega)) ((int_eq (by omega)))) (.run [2900] [] rfl (st_call rfl 2900 (X := []) en68 rfl (.val nod) (.cons (.one (.bor .v)) (.cons (.one (.bor .v)) (.cons (.one (.bor .v)) .nil))) (by decide) all_nil .nil (within_con e 0 ((d.ops.length : Int) - 1)) rfl rfl (nle rfl)) (.run [] [] rfl (st_eq (st_not (b := within e 0 ((d.ops.length : Int) - 1)) rfl rfl) (by exact congrArg (fun b => AV.p none (.v (.bool b))) h3)) (.run [] [] rfl (st_move rfl) (.run [] [] rfl (st_move rfl) (.run [] [] rfl (st_eq (st_gtr rfl rfl rfl) (by exact congrArg (fun b => AV.p none (.v (.bool b))) h4)) (.run [] [] rfl (st_move rfl) (.run [] [] rfl (st_move rfl) (.run [] [] rfl (st_move rfl) (.run [] [] rfl (st_move rfl) (.run [] [] rfl (st_eq (st_subn rfl rfl rfl (by omega)) (((show (AV.p none (.v (.int .i64 ((i:Int) - 1)))) = AV.p none (.v (.int .i64 ((i - 1 : Nat) : Int))) from int_eq (by omega))))) (.run [] [] rfl (st_idx_fro rfl rfl rfl Try.underlying30 Try.sizeOf2 rfl (by omega) (pvI_get he2)) (.run [] [] rfl (st_load_fea1 rfl rfl Try.isAgg2 rfl) (.run [] [] rfl (st_leq rfl rfl rfl) (.run [] [] rfl (st_pick (t := true) rfl rfl) (.run [] [] rfl (st_pick (t := false) rfl rfl) .nil)))))))))))))))))))) ?_
          refine tr_if (t := decide (e ≤ e2)) rfl (fun h8 => ?_) (fun h8 => ?_)
          · skip
            replace h8 := of_decide_eq_true h8
            refine tr_seq ?_
            have hb : keepBad d keep i e = true := keep_le (by omega) he2 h8
            rw [show crashF d keep torn = (dskZ, false) from crash_bad htn hR he hb]
            refine tr_wk (s' := mk [(6, .ptr 6 0)] [(6, [.nils, .nils, .nils])] []) ?_ ?_
            · exact wk_mk ⟨rfl, trivial⟩ ⟨rfl, trivial⟩ trivial rfl
            refine tr_region rfl (.run [] [] rfl (st_build (pl := [(0, 1), (1, 1), (2, 1)]) rfl Try.underlying27 inf27 (by kernel_rfl) rfl rfl) (.run [] [] rfl (st_store_box rfl rfl rfl rfl rfl Try.sizeOf27 rfl (nle rfl)) (.run [] [] rfl (st_assign rfl) .nil))) ?_
            refine tr_ret ?_
            exact ends [_, _] [] (.cons (.cell rfl rfl Try.isAgg27 Try.sizeOf27 (nle rfl)) (.cons (.tmp rfl) .nil)) (.cons (.agg (.cons (.nil _) (.cons (.nil _) (.cons (.nil _) .nil))) (cl_cons (.sl _ _ (fun _ h => nomatch h)) (cl_cons (.sl _ _ (fun _ h => nomatch h)) (cl_cons (.sl _ _ (fun _ h => nomatch h)) cl_nil)))) (.cons (.one .v (.v _)) .nil)) (by decide) trivial
          · skip
            replace h8 := of_decide_eq_false h8
            refine tr_skip ?_
            refine tr_seq ?_
            have hb : keepBad d keep i e = false := keep_nxt h3' he2 h8
            obtain ⟨hk0, hk1⟩ := keep_ok hb
            obtain ⟨o, ho⟩ : ∃ o, d.ops[e.toNat]? = some o := ⟨_, List.getElem?_eq_getElem (by omega)⟩
            have hof := ok_form hok o (List.mem_of_getElem? ho)
            have hoz := hop o (List.mem_of_getElem? ho)
            have hoa : opAt d e = o := opAt_mem ho
            refine tr_wk (s' := mk [(1, .p none (.sl false 1 (pvI keep))), (2, .p none (.v (.int .i64 torn))), (3, .ptr 3 0), (6, .ptr 6 0), (8, .p none (.sl false 2 (pvF f))), (9, .p none (.v (.int .i64 (i:Int)))), (10, .p none (.v (.int .i64 e))), (17, .p none (.sl false 1 (pvI keep))), (18, .p none (.v (.int .i64 ((pvI keep).length : Int)))), (19, .p none (.v (.int .i64 (i:Int)))), (32, .p none (.v (.int .i64 (i:Int)))), (33, .p none (.v (.bool true))), (34, .p none (.v (.bool true))), (35, .p none (.v (.int .i64 e))), (36, .p none (.sl false 1 (pvI keep))), (37, .p none (.v (.int .i64 (i:Int)))), (38, .p none (.v (.int .i64 ((i - 1 : Nat):Int)))), (39, .fea none [PV.v (.int .i64 e2)]), (40, .p none (.v (.int .i64 e2))), (41, .p none (.v (.bool (decide (e ≤ e2))))), (42, .p none (.v (.bool (decide (e ≤ e2)))))] [(3, [.p none (.sl false 2 (pvF d.live)), .p none (.sl false 2 (pvF d.safe)), .p none (.sl false 4 (pvD d.ops))]), (6, [.nils, .nils, .nils])] []) ?_ ?_
            · exact wk_mk ⟨rfl, ⟨rfl, ⟨rfl, ⟨rfl, ⟨rfl, ⟨rfl, ⟨rfl, ⟨rfl, ⟨rfl, ⟨rfl, ⟨rfl, ⟨rfl, ⟨rfl, ⟨rfl, ⟨rfl, ⟨rfl, ⟨rfl, ⟨rfl, ⟨rfl, ⟨rfl, ⟨rfl, trivial⟩⟩⟩⟩⟩⟩⟩⟩⟩⟩⟩⟩⟩⟩⟩⟩⟩⟩⟩⟩⟩ ⟨rfl, ⟨rfl, trivial⟩⟩ trivial rfl
            refine tr_region rfl (.run [] [] rfl (st_faddr_box rfl rfl Try.underlying27 rfl Try.sizeOf25 (by decide)) (.run [] [] rfl (st_load_box1 rfl rfl rfl Try.isAgg25 rfl) (.run [] [] rfl (st_move rfl) (.run [] [] rfl (st_idx_fro rfl rfl rfl Try.underlying25 Try.sizeOf36 rfl (by omega) (pvD_get ho)) (.run [] [] rfl (st_load_fea rfl rfl Try.isAgg36 Try.sizeOf36 (nle rfl)) (.run [] [11] rfl (st_allocZ rfl 11 inf36 rfl (by decide) rfl (by decide)) (.run [] [] rfl (st_store_box rfl rfl rfl rfl rfl Try.sizeOf36 rfl (nle rfl)) .nil))))))) ?_
            refine tr_seq ?_
            refine tr_seq ?_
            refine tr_region rfl (.run [] [] rfl (st_move rfl) (.run [] [] rfl (st_move rfl) (.run [] [] rfl (st_len_fro rfl rfl Try.underlying30) (.run [] [] rfl (st_subn rfl rfl rfl (by omega)) (.run [] [] rfl (st_eql rfl rfl rfl) .nil))))) ?_
            refine tr_if (t := decide ((i:Int) = (((pvI keep).length : Int) - 1))) rfl (fun h9 => ?_) (fun h9 => ?_)
            · skip
              replace h9 := of_decide_eq_true h9
              refine tr_wk (s' := mk [(1, .p none (.sl false 1 (pvI keep))), (2, .p none (.v (.int .i64 torn))), (3, .ptr 3 0), (6, .ptr 6 0), (8, .p none (.sl false 2 (pvF f))), (11, .ptr 11 0), (17, .p none (.sl false 1 (pvI keep))), (18, .p none (.v (.int .i64 ((pvI keep).length : Int)))), (19, .p none (.v (.int .i64 (i:Int)))), (32, .p none (.v (.int .i64 (i:Int)))), (33, .p none (.v (.bool true))), (34, .p none (.v (.bool true))), (35, .p none (.v (.int .i64 e))), (36, .p none (.sl false 1 (pvI keep))), (37, .p none (.v (.int .i64 (i:Int)))), (38, .p none (.v (.int .i64 ((i - 1 : Nat):Int)))), (39, .fea none [PV.v (.int .i64 e2)]), (40, .p none (.v (.int .i64 e2))), (41, .p none (.v (.bool (decide (e ≤ e2))))), (42, .p none (.v (.bool (decide (e ≤ e2)))))] [(3, [.p none (.sl false 2 (pvF d.live)), .p none (.sl false 2 (pvF d.safe)), .p none (.sl false 4 (pvD d.ops))]), (6, [.nils, .nils, .nils]), (11, [.p none (.v (.int .i64 o.kind)), .p none (.v (.string o.name)), .p none (.v (.string o.dest)), .p none (.v (.string o.data))])] []) ?_ ?_
              · exact wk_mk ⟨rfl, ⟨rfl, ⟨rfl, ⟨rfl, ⟨rfl, ⟨rfl, ⟨rfl, ⟨rfl, ⟨rfl, ⟨rfl, ⟨rfl, ⟨rfl, ⟨rfl, ⟨rfl, ⟨rfl, ⟨rfl, ⟨rfl, ⟨rfl, ⟨rfl, ⟨rfl, trivial⟩⟩⟩⟩⟩⟩⟩⟩⟩⟩⟩⟩⟩⟩⟩⟩⟩⟩⟩⟩ ⟨rfl, ⟨rfl, ⟨rfl, trivial⟩⟩⟩ trivial rfl
              refine tr_region rfl (.run [] [] rfl (st_faddr_box rfl rfl Try.underlying36 rfl Try.sizeOf9 (by decide)) (.run [] [] rfl (st_load_box1 rfl rfl rfl Try.isAgg9 rfl) (.run [] [] rfl (st_move rfl) (.run [] [] rfl (st_faddr_box rfl rfl Try.underlying36 rfl Try.sizeOf9 (by decide)) (.run [] [] rfl (st_load_box1 rfl rfl rfl Try.isAgg9 rfl) (.run [] [] rfl (st_len_str rfl rfl Try.underlying9) (.run [] [] rfl (st_eq (st_min rfl rfl rfl) ((int_eq (b := ((min torn (o.data.size : Int)).toNat : Int)) (by omega)))) (.run [] [] rfl (st_cut_str rfl rfl Try.underlying9 .no (.at_ rfl rfl) (Nat.zero_le _) (by omega)) (.run [] [] rfl (st_faddr_box rfl rfl Try.underlying36 rfl Try.sizeOf9 (by decide)) (.run [] [] rfl (st_store_box rfl rfl rfl rfl rfl Try.sizeOf9 rfl (nle rfl)) .nil)))))))))) ?_
              obtain ⟨c, hc⟩ : ∃ c, c = crashOp d keep torn i e := ⟨_, rfl⟩
              have hcc : c = (⟨o.kind, o.name, o.dest, o.data.extract 0 ((min torn (o.data.size : Int)).toNat)⟩ : DOp) := by rw [hc, crashOp, if_pos (by omega), hoa]; rfl
              have hcf : formF c = true := by rw [hc, crashOp, if_pos (by omega), hoa]; exact torn_form torn hof
              have hcz : c.data.size ≤ 1000000 := by rw [hc, crashOp, if_pos (by omega), hoa]; exact Nat.le_trans (torn_size torn) hoz
              have hcz2 : ((⟨o.kind, o.name, o.dest, o.data.extract 0 ((min torn (o.data.size : Int)).toNat)⟩ : DOp)).data.size ≤ 1000000 := by rw [← hcc]; exact hcz
              refine tr_wk (s' := mk [(1, .p none (.sl false 1 (pvI keep))), (2, .p none (.v (.int .i64 torn))), (3, .ptr 3 0), (6, .ptr 6 0), (8, .p none (.sl false 2 (pvF f))), (11, .ptr 11 0), (17, .p none (.sl false 1 (pvI keep))), (18, .p none (.v (.int .i64 ((pvI keep).length : Int)))), (19, .p none (.v (.int .i64 (i:Int)))), (32, .p none (.v (.int .i64 (i:Int)))), (33, .p none (.v (.bool true))), (34, .p none (.v (.bool true))), (35, .p none (.v (.int .i64 e))), (36, .p none (.sl false 1 (pvI keep))), (37, .p none (.v (.int .i64 (i:Int)))), (38, .p none (.v (.int .i64 ((i - 1 : Nat):Int)))), (39, .fea none [PV.v (.int .i64 e2)]), (40, .p none (.v (.int .i64 e2))), (41, .p none (.v (.bool (decide (e ≤ e2))))), (42, .p none (.v (.bool (decide (e ≤ e2)))))] [(3, [.p none (.sl false 2 (pvF d.live)), .p none (.sl false 2 (pvF d.safe)), .p none (.sl false 4 (pvD d.ops))]), (6, [.nils, .nils, .nils]), (11, [.p none (.v (.int .i64 o.kind)), .p none (.v (.string o.name)), .p none (.v (.string o.dest)), .p none (.v (.string (o.data.extract 0 ((min torn (o.data.size : Int)).toNat))))])] []) ?_ ?_
              · exact wk_mk ⟨rfl, ⟨rfl, ⟨rfl, ⟨rfl, ⟨rfl, ⟨rfl, ⟨rfl, ⟨rfl, ⟨rfl, ⟨rfl, ⟨rfl, ⟨rfl, ⟨rfl, ⟨rfl, ⟨rfl, ⟨rfl, ⟨rfl, ⟨rfl, ⟨rfl, ⟨rfl, trivial⟩⟩⟩⟩⟩⟩⟩⟩⟩⟩⟩⟩⟩⟩⟩⟩⟩⟩⟩⟩ ⟨rfl, ⟨rfl, ⟨rfl, trivial⟩⟩⟩ trivial rfl
              refine tr_region rfl (.run [] [] rfl (st_move rfl) (.run [] [] rfl (st_load_box rfl rfl rfl Try.isAgg36 Try.sizeOf36 (nle rfl)) (.run [6700, 6701] [] rfl (st_call rfl 6700 (X := []) en35 rfl (.val nod) (.cons (.one (.bor (.sl nod))) (.cons (.agg (.cons (.bor .v) (.cons (.bor .v) (.cons (.bor .v) (.cons (.bor .v) .nil))))) .nil)) (by decide) all_nil .nil (done_named hcc (done_con f (⟨o.kind, o.name, o.dest, o.data.extract 0 ((min torn (o.data.size : Int)).toNat)⟩ : DOp) (namesOk_srt hN) (by omega) (by omega) (by omega))) rfl rfl (nle rfl)) (.run [] [] rfl (st_move rfl) (.run [] [] rfl (st_extract rfl rfl rfl) (.run [] [] rfl (st_extract rfl rfl rfl) (.run [] [] rfl (st_assign rfl) .nil))))))) ?_
              refine tr_wk (wk_frz 6700 rfl) ?_
              have hp10 : (.p none (.sl false 2 (((pvF ((doneF f c).1)).drop 0).take ((pvF ((doneF f c).1)).length))) : AV) = .p none (.sl false 2 (pvF ((doneF f c).1))) := by simp only [frz_all]
              refine tr_wk (s' := mk [(1, .p none (.sl false 1 (pvI keep))), (2, .p none (.v (.int .i64 torn))), (3, .ptr 3 0), (6, .ptr 6 0), (8, .p none (.sl false 2 (pvF ((doneF f c).1)))), (17, .p none (.sl false 1 (pvI keep))), (18, .p none (.v (.int .i64 ((pvI keep).length : Int)))), (19, .p none (.v (.int .i64 (i:Int)))), (32, .p none (.v (.int .i64 (i:Int)))), (33, .p none (.v (.bool true))), (34, .p none (.v (.bool true))), (35, .p none (.v (.int .i64 e))), (36, .p none (.sl false 1 (pvI keep))), (37, .p none (.v (.int .i64 (i:Int)))), (38, .p none (.v (.int .i64 ((i - 1 : Nat):Int)))), (39, .fea none [PV.v (.int .i64 e2)]), (40, .p none (.v (.int .i64 e2))), (41, .p none (.v (.bool (decide (e ≤ e2))))), (42, .p none (.v (.bool (decide (e ≤ e2)))))] [(3, [.p none (.sl false 2 (pvF d.live)), .p none (.sl false 2 (pvF d.safe)), .p none (.sl false 4 (pvD d.ops))]), (6, [.nils, .nils, .nils])] []) ?_ ?_
              · exact wk_mk ⟨rfl, ⟨rfl, ⟨rfl, ⟨rfl, ⟨hp10, ⟨rfl, ⟨rfl, ⟨rfl, ⟨rfl, ⟨rfl, ⟨rfl, ⟨rfl, ⟨rfl, ⟨rfl, ⟨rfl, ⟨rfl, ⟨rfl, ⟨rfl, ⟨rfl, trivial⟩⟩⟩⟩⟩⟩⟩⟩⟩⟩⟩⟩⟩⟩⟩⟩⟩⟩⟩ ⟨rfl, ⟨rfl, trivial⟩⟩ trivial rfl
              refine tr_region rfl (.run [] [] rfl (st_addn rfl rfl rfl (by omega)) (.run [] [] rfl (st_move rfl) .nil)) ?_
              refine nxt (Q := fun _ _ => False) (z := (i, f)) (i + 1, (doneF f c).1) ?_ ?_ ?_
              · show (i + 1) ≤ keep.length ∧ (namesOk ((doneF f c).1) = true ∧ ((doneF f c).1).length ≤ 60 + (i + 1) ∧ totF ((doneF f c).1) ≤ 200000 + (i + 1) * 1000000) ∧ crashRun d keep torn (i + 1) (keep.drop (i + 1)) ((doneF f c).1) = crashRun d keep torn 0 keep d.safe
                exact ⟨by omega, ⟨names_done hN hcf, by have := done_len f c; omega, by have := done_tot1 f c; omega⟩, by rw [hc]; exact crash_step hR he hb⟩
              · show keep.length - (i + 1) < keep.length - i
                omega
              · exact wk_mk ⟨rfl, ⟨rfl, ⟨rfl, ⟨rfl, ⟨rfl, ⟨rfl, ⟨rfl, ⟨(int_eq (by omega)), trivial⟩⟩⟩⟩⟩⟩⟩⟩ ⟨rfl, ⟨rfl, trivial⟩⟩ trivial rfl
            · skip
              replace h9 := of_decide_eq_false h9
              refine tr_skip ?_
              obtain ⟨c, hc⟩ : ∃ c, c = crashOp d keep torn i e := ⟨_, rfl⟩
              have hcc : c = o := by rw [hc, crashOp, if_neg (by omega), hoa]
              have hcf : formF c = true := by rw [hcc]; exact hof
              have hcz : c.data.size ≤ 1000000 := by rw [hcc]; exact hoz
              have hcz2 : (o).data.size ≤ 1000000 := by rw [← hcc]; exact hcz
              refine tr_wk (s' := mk [(1, .p none (.sl false 1 (pvI keep))), (2, .p none (.v (.int .i64 torn))), (3, .ptr 3 0), (6, .ptr 6 0), (8, .p none (.sl false 2 (pvF f))), (11, .ptr 11 0), (17, .p none (.sl false 1 (pvI keep))), (18, .p none (.v (.int .i64 ((pvI keep).length : Int)))), (19, .p none (.v (.int .i64 (i:Int)))), (32, .p none (.v (.int .i64 (i:Int)))), (33, .p none (.v (.bool true))), (34, .p none (.v (.bool true))), (35, .p none (.v (.int .i64 e))), (36, .p none (.sl false 1 (pvI keep))), (37, .p none (.v (.int .i64 (i:Int)))), (38, .p none (.v (.int .i64 ((i - 1 : Nat):Int)))), (39, .fea none [PV.v (.int .i64 e2)]), (40, .p none (.v (.int .i64 e2))), (41, .p none (.v (.bool (decide (e ≤ e2))))), (42, .p none (.v (.bool (decide (e ≤ e2)))))] [(3, [.p none (.sl false 2 (pvF d.live)), .p none (.sl false 2 (pvF d.safe)), .p none (.sl false 4 (pvD d.ops))]), (6, [.nils, .nils, .nils]), (11, [.p none (.v (.int .i64 o.kind)), .p none (.v (.string o.name)), .p none (.v (.string o.dest)), .p none (.v (.string o.data))])] []) ?_ ?_
              · exact wk_mk ⟨rfl, ⟨rfl, ⟨rfl, ⟨rfl, ⟨rfl, ⟨rfl, ⟨rfl, ⟨rfl, ⟨rfl, ⟨rfl, ⟨rfl, ⟨rfl, ⟨rfl, ⟨rfl, ⟨rfl, ⟨rfl, ⟨rfl, ⟨rfl, ⟨rfl, ⟨rfl, trivial⟩⟩⟩⟩⟩⟩⟩⟩⟩⟩⟩⟩⟩⟩⟩⟩⟩⟩⟩⟩ ⟨rfl, ⟨rfl, ⟨rfl, trivial⟩⟩⟩ trivial rfl
              refine tr_region rfl (.run [] [] rfl (st_move rfl) (.run [] [] rfl (st_load_box rfl rfl rfl Try.isAgg36 Try.sizeOf36 (nle rfl)) (.run [6700, 6701] [] rfl (st_call rfl 6700 (X := []) en35 rfl (.val nod) (.cons (.one (.bor (.sl nod))) (.cons (.agg (.cons (.bor .v) (.cons (.bor .v) (.cons (.bor .v) (.cons (.bor .v) .nil))))) .nil)) (by decide) all_nil .nil (done_named hcc (done_con f o (namesOk_srt hN) (by omega) (by omega) (by omega))) rfl rfl (nle rfl)) (.run [] [] rfl (st_move rfl) (.run [] [] rfl (st_extract rfl rfl rfl) (.run [] [] rfl (st_extract rfl rfl rfl) (.run [] [] rfl (st_assign rfl) .nil))))))) ?_
              refine tr_wk (wk_frz 6700 rfl) ?_
              have hp11 : (.p none (.sl false 2 (((pvF ((doneF f c).1)).drop 0).take ((pvF ((doneF f c).1)).length))) : AV) = .p none (.sl false 2 (pvF ((doneF f c).1))) := by simp only [frz_all]
              refine tr_wk (s' := mk [(1, .p none (.sl false 1 (pvI keep))), (2, .p none (.v (.int .i64 torn))), (3, .ptr 3 0), (6, .ptr 6 0), (8, .p none (.sl false 2 (pvF ((doneF f c).1)))), (17, .p none (.sl false 1 (pvI keep))), (18, .p none (.v (.int .i64 ((pvI keep).length : Int)))), (19, .p none (.v (.int .i64 (i:Int)))), (32, .p none (.v (.int .i64 (i:Int)))), (33, .p none (.v (.bool true))), (34, .p none (.v (.bool true))), (35, .p none (.v (.int .i64 e))), (36, .p none (.sl false 1 (pvI keep))), (37, .p none (.v (.int .i64 (i:Int)))), (38, .p none (.v (.int .i64 ((i - 1 : Nat):Int)))), (39, .fea none [PV.v (.int .i64 e2)]), (40, .p none (.v (.int .i64 e2))), (41, .p none (.v (.bool (decide (e ≤ e2))))), (42, .p none (.v (.bool (decide (e ≤ e2)))))] [(3, [.p none (.sl false 2 (pvF d.live)), .p none (.sl false 2 (pvF d.safe)), .p none (.sl false 4 (pvD d.ops))]), (6, [.nils, .nils, .nils])] []) ?_ ?_
              · exact wk_mk ⟨rfl, ⟨rfl, ⟨rfl, ⟨rfl, ⟨hp11, ⟨rfl, ⟨rfl, ⟨rfl, ⟨rfl, ⟨rfl, ⟨rfl, ⟨rfl, ⟨rfl, ⟨rfl, ⟨rfl, ⟨rfl, ⟨rfl, ⟨rfl, ⟨rfl, trivial⟩⟩⟩⟩⟩⟩⟩⟩⟩⟩⟩⟩⟩⟩⟩⟩⟩⟩⟩ ⟨rfl, ⟨rfl, trivial⟩⟩ trivial rfl
              refine tr_region rfl (.run [] [] rfl (st_addn rfl rfl rfl (by omega)) (.run [] [] rfl (st_move rfl) .nil)) ?_
              refine nxt (Q := fun _ _ => False) (z := (i, f)) (i + 1, (doneF f c).1) ?_ ?_ ?_
              · show (i + 1) ≤ keep.length ∧ (namesOk ((doneF f c).1) = true ∧ ((doneF f c).1).length ≤ 60 + (i + 1) ∧ totF ((doneF f c).1) ≤ 200000 + (i + 1) * 1000000) ∧ crashRun d keep torn (i + 1) (keep.drop (i + 1)) ((doneF f c).1) = crashRun d keep torn 0 keep d.safe
                exact ⟨by omega, ⟨names_done hN hcf, by have := done_len f c; omega, by have := done_tot1 f c; omega⟩, by rw [hc]; exact crash_step hR he hb⟩
              · show keep.length - (i + 1) < keep.length - i
                omega
              · exact wk_mk ⟨rfl, ⟨rfl, ⟨rfl, ⟨rfl, ⟨rfl, ⟨rfl, ⟨rfl, ⟨(int_eq (by omega)), trivial⟩⟩⟩⟩⟩⟩⟩⟩ ⟨rfl, ⟨rfl, trivial⟩⟩ trivial rfl
      · have h3' := h3
        replace h3' : (within e 0 ((d.ops.length : Int) - 1)) = false := bnot_t h3'
        refine tr_region rfl (.run [] [] rfl (st_move rfl) (.run [] [] rfl (st_faddr_box rfl rfl Try.underlying27 rfl Try.sizeOf25 (by decide)) (.run [] [] rfl (st_load_box1 rfl rfl rfl Try.isAgg25 rfl) (.run [] [] rfl (st_len_fro rfl rfl Try.underlying25) (.run [] [] rfl (st_eq (st_subn rfl rfl rfl (by omega)) ((int_eq (by omega)))) (.run [2900] [] rfl (st_call rfl 2900 (X := []) en68 rfl (.val nod) (.cons (.one (.bor .v)) (.cons (.one (.bor .v)) (.cons (.one (.bor .v)) .nil))) (by decide) all_nil .nil (within_con e 0 ((d.ops.length : Int) - 1)) rfl rfl (nle rfl)) (.run [] [] rfl (st_eq (st_not (b := within e 0 ((d.ops.length : Int) - 1)) rfl rfl) (by exact congrArg (fun b => AV.p none (.v (.bool b))) h3)) (.run [] [] rfl (st_move rfl) (.not rfl (.not rfl (.not rfl (.not rfl (.not rfl (.not rfl (.not rfl (.not rfl (.not rfl (.not rfl (.not rfl (.run [] [] rfl (st_pick (t := true) rfl rfl) .nil)))))))))))))))))))) ?_
        refine tr_if (t := true) rfl (fun _ => ?_) (fun h => nomatch h)
        refine tr_seq ?_
        have hb : keepBad d keep i e = true := keep_win h3'
        rw [show crashF d keep torn = (dskZ, false) from crash_bad htn hR he hb]
        refine tr_wk (s' := mk [(6, .ptr 6 0)] [(6, [.nils, .nils, .nils])] []) ?_ ?_
        · exact wk_mk ⟨rfl, trivial⟩ ⟨rfl, trivial⟩ trivial rfl
        refine tr_region rfl (.run [] [] rfl (st_build (pl := [(0, 1), (1, 1), (2, 1)]) rfl Try.underlying27 inf27 (by kernel_rfl) rfl rfl) (.run [] [] rfl (st_store_box rfl rfl rfl rfl rfl Try.sizeOf27 rfl (nle rfl)) (.run [] [] rfl (st_assign rfl) .nil))) ?_
        refine tr_ret ?_
        exact ends [_, _] [] (.cons (.cell rfl rfl Try.isAgg27 Try.sizeOf27 (nle rfl)) (.cons (.tmp rfl) .nil)) (.cons (.agg (.cons (.nil _) (.cons (.nil _) (.cons (.nil _) .nil))) (cl_cons (.sl _ _ (fun _ h => nomatch h)) (cl_cons (.sl _ _ (fun _ h => nomatch h)) (cl_cons (.sl _ _ (fun _ h => nomatch h)) cl_nil)))) (.cons (.one .v (.v _)) .nil)) (by decide) trivial
    · skip
      replace h2 := of_decide_eq_false h2
      refine tr_exit ?_
      refine tr_seq ?_
      refine tr_seq ?_
      refine tr_region rfl (.run [] [] rfl (st_move rfl) (.run [7200] [] rfl (st_call rfl 7200 (X := []) en36 rfl (.val nod) (.cons (.one (.bor (.sl nod))) .nil) (by decide) all_nil .nil (fit_con f (by omega) (by omega)) rfl rfl (nle rfl)) (.run [] [] rfl (st_not (b := fitF f) rfl rfl) .nil))) ?_
      refine tr_if (t := (!(fitF f))) rfl (fun h12 => ?_) (fun h12 => ?_)
      · skip
        replace h12 : (fitF f) = false := bnot_t h12
        refine tr_seq ?_
        rw [show crashF d keep torn = (dskZ, false) by rw [crash_end htn hR (by omega), if_neg (by simp [h12])]]
        refine tr_region rfl (.run [] [] rfl (st_build (pl := [(0, 1), (1, 1), (2, 1)]) rfl Try.underlying27 inf27 (by kernel_rfl) rfl rfl) (.run [] [] rfl (st_store_box rfl rfl rfl rfl rfl Try.sizeOf27 rfl (nle rfl)) (.run [] [] rfl (st_assign rfl) .nil))) ?_
        refine tr_ret ?_
        exact ends [_, _] [] (.cons (.cell rfl rfl Try.isAgg27 Try.sizeOf27 (nle rfl)) (.cons (.tmp rfl) .nil)) (.cons (.agg (.cons (.nil _) (.cons (.nil _) (.cons (.nil _) .nil))) (cl_cons (.sl _ _ (fun _ h => nomatch h)) (cl_cons (.sl _ _ (fun _ h => nomatch h)) (cl_cons (.sl _ _ (fun _ h => nomatch h)) cl_nil)))) (.cons (.one .v (.v _)) .nil)) (by decide) trivial
      · skip
        replace h12 : (fitF f) = true := bnot_f h12
        refine tr_skip ?_
        refine tr_seq ?_
        rw [show crashF d keep torn = (⟨f, f, []⟩, true) by rw [crash_end htn hR (by omega), if_pos h12]]
        refine tr_region rfl (.run [] [] rfl (st_move rfl) (.run [7600] [] rfl (st_call rfl 7600 (X := []) en69 rfl (.val nod) (.cons (.one (.bor (.sl nod))) .nil) (by decide) all_nil .nil (cloneF_con f (by omega)) rfl rfl (nle rfl)) (.run [] [] rfl (st_move rfl) (.run [7800] [] rfl (st_call rfl 7800 (X := []) en69 rfl (.val nod) (.cons (.one (.bor (.sl nod))) .nil) (by decide) all_nil .nil (cloneF_con f (by omega)) rfl rfl (nle rfl)) (.run [] [] rfl (st_build (pl := [(0, 1), (1, 1), (2, 1)]) rfl Try.underlying27 inf27 (by kernel_rfl) rfl rfl) (.run [] [] rfl (st_store_box rfl rfl rfl rfl rfl Try.sizeOf27 rfl (nle rfl)) (.run [] [] rfl (st_assign rfl) .nil))))))) ?_
        refine tr_ret ?_
        exact ends [_, _] [7600, 7800] (.cons (.cell rfl rfl Try.isAgg27 Try.sizeOf27 (nle rfl)) (.cons (.tmp rfl) .nil)) (.cons (.agg (.cons (.row (len := (pvF f).length) (xs := pvF f) rfl rfl) (.cons (.row (len := (pvF f).length) (xs := pvF f) rfl rfl) (.cons (.nil _) .nil))) (cl_cons (.sl _ _ (FlatP.clean (pvF_flat _))) (cl_cons (.sl _ _ (FlatP.clean (pvF_flat _))) (cl_cons (.sl _ _ (fun _ h => nomatch h)) cl_nil)))) (.cons (.one .v (.v _)) .nil)) (by decide) trivial
set_option maxRecDepth 1000000 in
set_option maxHeartbeats 2000000 in
theorem implCrash_con (d : Dsk) (keep : List Int) (torn : Int) (hd : DB 900000000 d) (hk : keep.length ≤ 1000) (hop : ∀ op ∈ d.ops, op.data.size ≤ 1000000) : Con Try.prog 13 [.agg [PV.sl false 2 (pvF d.live), PV.sl false 2 (pvF d.safe), PV.sl false 4 (pvD d.ops)], .one (PV.sl false 1 (pvI keep)), .one (PV.v (.int .i64 torn))] [] [.agg [.sl true 2 (pvF (crashD d keep torn).1.live), .sl true 2 (pvF (crashD d keep torn).1.safe), .sl true 4 (pvD (crashD d keep torn).1.ops)], .one (.v (.bool (crashD d keep torn).2))] := by
  refine con_of_tr Try.func13 rfl rfl rfl rfl ?_
  have hld := pvF_length d.live
  have hsd := pvF_length d.safe
  have hod := pvD_length d.ops
  have hkl := pvI_length keep
  refine tr_seq ?_
  refine tr_region rfl (.run [] [3] rfl (st_box rfl 3 rfl rfl (by decide) rfl (by decide)) (.run [] [6] rfl (st_allocZ rfl 6 inf27 rfl (by decide) rfl (by decide)) (.run [] [] rfl (st_assign rfl) .nil))) ?_
  refine tr_seq ?_
  refine tr_seq ?_
  have hop9 : ∀ op ∈ d.ops, op.data.size ≤ 900000000 := fun o ho => Nat.le_trans (hop o ho) (by decide)
  refine tr_region rfl (.run [] [] rfl (st_load_box rfl rfl rfl Try.isAgg27 Try.sizeOf27 (nle rfl)) (.run [900] [] rfl (st_call rfl 900 (X := []) en11 rfl (.val nod) (.cons (.agg (.cons (.bor (.sl nod)) (.cons (.bor (.sl nod)) (.cons (.bor (.sl nod)) .nil)))) .nil) (by decide) all_nil .nil (diskOk_con d (by assumption) (by assumption)) rfl rfl (nle rfl)) (.run [] [] rfl (st_not (b := diskOk d) rfl rfl) .nil))) ?_
  refine tr_if (t := (!(diskOk d))) rfl (fun h1 => ?_) (fun h1 => ?_)
  · skip
    replace h1 : (diskOk d) = false := bnot_t h1
    refine tr_seq ?_
    rw [show crashD d keep torn = (dskZ, false) from crash_off h1]
    refine tr_region rfl (.run [] [] rfl (st_build (pl := [(0, 1), (1, 1), (2, 1)]) rfl Try.underlying27 inf27 (by kernel_rfl) rfl rfl) (.run [] [] rfl (st_store_box rfl rfl rfl rfl rfl Try.sizeOf27 rfl (nle rfl)) (.run [] [] rfl (st_assign rfl) .nil))) ?_
    refine tr_ret ?_
    exact ends [_, _] [] (.cons (.cell rfl rfl Try.isAgg27 Try.sizeOf27 (nle rfl)) (.cons (.tmp rfl) .nil)) (.cons (.agg (.cons (.nil _) (.cons (.nil _) (.cons (.nil _) .nil))) (cl_cons (.sl _ _ (fun _ h => nomatch h)) (cl_cons (.sl _ _ (fun _ h => nomatch h)) (cl_cons (.sl _ _ (fun _ h => nomatch h)) cl_nil)))) (.cons (.one .v (.v _)) .nil)) (by decide) trivial
  · skip
    replace h1 : (diskOk d) = true := bnot_f h1
    refine tr_skip ?_
    refine tr_seq ?_
    rw [show crashD d keep torn = crashF d keep torn by rw [crashD, if_pos h1]]
    refine tr_region rfl (.run [] [] rfl (st_load_box rfl rfl rfl Try.isAgg27 Try.sizeOf27 (nle rfl)) (.run [] [] rfl (st_move rfl) (.run [] [] rfl (st_move rfl) (.run [1500, 1501, 1502, 1503] [] rfl (st_call rfl 1500 (X := []) en42 rfl (.val nod) (.cons (.agg (.cons (.bor (.sl nod)) (.cons (.bor (.sl nod)) (.cons (.bor (.sl nod)) .nil)))) (.cons (.one (.bor (.sl nod))) (.cons (.one (.bor .v)) .nil))) (by decide) all_nil .nil (crash_con d keep torn h1 hk hop) rfl rfl (nle rfl)) (.run [] [] rfl (st_extract rfl rfl rfl) (.run [] [] rfl (st_extract rfl rfl rfl) (.run [] [] rfl (st_store_box rfl rfl rfl rfl rfl Try.sizeOf27 rfl (nle rfl)) (.run [] [] rfl (st_assign rfl) .nil)))))))) ?_
    refine tr_ret ?_
    exact ends [_, _] [1500, 1501, 1502] (.cons (.cell rfl rfl Try.isAgg27 Try.sizeOf27 (nle rfl)) (.cons (.tmp rfl) .nil)) (.cons (.agg (.cons (.row (len := (pvF ((crashF d keep torn).1.live)).length) (xs := pvF ((crashF d keep torn).1.live)) rfl rfl) (.cons (.row (len := (pvF ((crashF d keep torn).1.safe)).length) (xs := pvF ((crashF d keep torn).1.safe)) rfl rfl) (.cons (.row (len := (pvD ((crashF d keep torn).1.ops)).length) (xs := pvD ((crashF d keep torn).1.ops)) rfl rfl) .nil))) (cl_cons (.sl _ _ (FlatP.clean (pvF_flat _))) (cl_cons (.sl _ _ (FlatP.clean (pvF_flat _))) (cl_cons (.sl _ _ (FlatP.clean (pvD_flat _))) cl_nil)))) (.cons (.one .v (.v _)) .nil)) (by decide) trivial
set_option maxRecDepth 1000000 in
set_option maxHeartbeats 2000000 in
theorem sameFiles_con (a b : List Fil) (hl : a.length ≤ 1000000000) : Con Try.prog 15 [.one (PV.sl false 2 (pvF a)), .one (PV.sl false 2 (pvF b))] [] [.one (.v (.bool (decide (a = b))))] := by
  refine con_of_tr Try.func15 rfl rfl rfl rfl ?_
  have hla := pvF_length a
  have hlb := pvF_length b
  refine tr_seq ?_
  refine tr_region rfl (.run [] [] rfl (st_assign rfl) .nil) ?_
  refine tr_seq ?_
  refine tr_seq ?_
  refine tr_region rfl (.run [] [] rfl (st_move rfl) (.run [] [] rfl (st_len_fro rfl rfl Try.underlying24) (.run [] [] rfl (st_move rfl) (.run [] [] rfl (st_len_fro rfl rfl Try.underlying24) (.run [] [] rfl (st_neq rfl rfl rfl) .nil))))) ?_
  refine tr_if (t := (!(decide (((pvF a).length : Int) = ((pvF b).length : Int))))) rfl (fun h1 => ?_) (fun h1 => ?_)
  · skip
    replace h1 : ¬ (((pvF a).length : Int) = ((pvF b).length : Int)) := of_decide_eq_false (bnot_t h1)
    refine tr_seq ?_
    refine tr_region rfl (.run [] [] rfl (st_assign rfl) .nil) ?_
    refine tr_ret ?_
    exact ends [_] [] (.cons (.tmp (bool_eq (decide_eq_false (fun e => by subst e; omega)).symm)) .nil) (.cons (.one .v (.v _)) .nil) (by decide) trivial
  · skip
    replace h1 : ((pvF a).length : Int) = ((pvF b).length : Int) := of_decide_eq_true (bnot_f h1)
    refine tr_skip ?_
    refine tr_seq ?_
    refine tr_seq ?_
    refine tr_region rfl (.run [] [] rfl (st_assign rfl) .nil) ?_
    refine tr_block ?_
    refine tr_loopS (σ := Nat) (fun i => mk [(0, .p none (.sl false 2 (pvF a))), (1, .p none (.sl false 2 (pvF b))), (5, .p none (.v (.int .i64 (i:Int))))] [] []) (fun i => i ≤ a.length ∧ ∀ j, j < i → a[j]? = b[j]?) (fun i => a.length - i) 0 ⟨Nat.zero_le _, fun j hj => absurd hj (Nat.not_lt_zero j)⟩ (wk_mk ⟨rfl, ⟨rfl, ⟨(int_eq (by omega)), trivial⟩⟩⟩ trivial trivial rfl) ?_
    rintro i hG
    replace hG : i ≤ a.length ∧ ∀ j, j < i → a[j]? = b[j]? := hG
    obtain ⟨hi, hG⟩ := hG
    refine tr_seq ?_
    refine tr_seq ?_
    refine tr_region rfl (.run [] [] rfl (st_move rfl) (.run [] [] rfl (st_move rfl) (.run [] [] rfl (st_len_fro rfl rfl Try.underlying24) (.run [] [] rfl (st_lss rfl rfl rfl) .nil)))) ?_
    refine tr_if (t := decide ((i:Int) < ((pvF a).length : Int))) rfl (fun h2 => ?_) (fun h2 => ?_)
    · skip
      replace h2 := of_decide_eq_true h2
      refine tr_skip ?_
      refine tr_seq ?_
      refine tr_block ?_
      refine tr_seq ?_
      obtain ⟨e, he⟩ : ∃ e, a[i]? = some e := ⟨_, List.getElem?_eq_getElem (by (have hL := pvF_length a; omega))⟩
      have hlte := (List.getElem?_eq_some_iff.1 he).1
      obtain ⟨e2, he2⟩ : ∃ e, b[i]? = some e := ⟨_, List.getElem?_eq_getElem (by (have hL := pvF_length b; omega))⟩
      have hlte2 := (List.getElem?_eq_some_iff.1 he2).1
      refine tr_regionD mixed rfl (.run [] [] rfl (st_move rfl) (.run [] [] rfl (st_move rfl) (.run [] [] rfl (st_idx_fro rfl rfl rfl Try.underlying24 Try.sizeOf69 rfl (by omega) (pvF_get he)) (.run [] [] rfl (st_load_fea rfl rfl Try.isAgg69 Try.sizeOf69 (nle rfl)) (.run [] [] rfl (st_move rfl) (.run [] [] rfl (st_move rfl) (.run [] [] rfl (st_idx_fro rfl rfl rfl Try.underlying24 Try.sizeOf69 rfl (by omega) (pvF_get he2)) (.run [] [] rfl (st_load_fea rfl rfl Try.isAgg69 Try.sizeOf69 (nle rfl)) (.run [] [] rfl (st_aneq rfl rfl rfl rfl rfl Try.eqGuardType69 (fun w => Fil_eqIn e e2 w)) .nil))))))))) (by kernel_rfl) ?_
      refine tr_if (t := (!(decide (e = e2)))) rfl (fun h3 => ?_) (fun h3 => ?_)
      · skip
        replace h3 : ¬ (e = e2) := of_decide_eq_false (bnot_t h3)
        refine tr_seq ?_
        refine tr_region rfl (.run [] [] rfl (st_assign rfl) .nil) ?_
        refine tr_ret ?_
        exact ends [_] [] (.cons (.tmp (bool_eq (decide_eq_false (glist_ne he he2 h3)).symm)) .nil) (.cons (.one .v (.v _)) .nil) (by decide) trivial
      · skip
        replace h3 : e = e2 := of_decide_eq_true (bnot_f h3)
        refine tr_skip ?_
        refine tr_region rfl (.run [] [] rfl (st_move rfl) (.run [] [] rfl (st_addn rfl rfl rfl (by omega)) (.run [] [] rfl (st_assign rfl) .nil))) ?_
        refine nxt (Q := fun _ _ => False) (z := i) (i + 1) ?_ ?_ ?_
        · show (i + 1) ≤ a.length ∧ ∀ j, j < (i + 1) → a[j]? = b[j]?
          exact ⟨by omega, glist_step hG he he2 h3⟩
        · show a.length - (i + 1) < a.length - i
          omega
        · exact wk_mk ⟨rfl, ⟨rfl, ⟨(int_eq (by omega)), trivial⟩⟩⟩ trivial trivial rfl
    · skip
      replace h2 := of_decide_eq_false h2
      refine tr_exit ?_
      refine tr_seq ?_
      refine tr_region rfl (.run [] [] rfl (st_assign rfl) .nil) ?_
      refine tr_ret ?_
      exact ends [_] [] (.cons (.tmp (bool_eq (decide_eq_true (glist_all (by omega) (by omega) hG)).symm)) .nil) (.cons (.one .v (.v _)) .nil) (by decide) trivial
theorem sameFiles_self (a : List Fil) (hl : a.length ≤ 1000000000) : Con Try.prog 15 [.one (PV.sl false 2 (pvF a)), .one (PV.sl false 2 (pvF a))] [] [.one (.v (.bool true))] := by
  simpa using sameFiles_con a a hl
end Go.Rl

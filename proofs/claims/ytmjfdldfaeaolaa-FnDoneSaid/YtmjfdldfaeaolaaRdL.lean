/- Promises of functions, proved by walks over their operations; no conditions beyond those that each theorem states. -/
import Derived.Test.YtmjfdldfaeaolaaRdK
import Derived.Test.YtmjfdldfaeaolaaRtDk
namespace Go.Rl
open Go.Proofs
theorem en42 : ∀ vs w, (callFunc 42 vs).run Try.prog w = .ok (.enter 42 vs) w := enters Try.func42 (by decide) rfl
theorem done_named {f : Nat} {A : List PA} {l : List Fil} {c op : DOp} (h : c = op) (hc : Con Try.prog f A [] [.one (.sl true 2 (pvF (doneF l op).1)), .one (.v (.bool (doneF l op).2))]) : Con Try.prog f A [] [.one (.sl true 2 (pvF (doneF l c).1)), .one (.v (.bool (doneF l c).2))] := by
  subst h
  exact hc
theorem crash_named {f : Nat} {A : List PA} {d : Dsk} {keep : List Int} {torn : Int} {x : Dsk × Bool} (h : crashD d keep torn = x) (hc : Con Try.prog f A [] [.agg [.sl true 2 (pvF (crashD d keep torn).1.live), .sl true 2 (pvF (crashD d keep torn).1.safe), .sl true 4 (pvD (crashD d keep torn).1.ops)], .one (.v (.bool (crashD d keep torn).2))]) : Con Try.prog f A [] [.agg [.sl true 2 (pvF x.1.live), .sl true 2 (pvF x.1.safe), .sl true 4 (pvD x.1.ops)], .one (.v (.bool x.2))] := by
  subst h
  exact hc
theorem pvI_snoc (l : List Int) (n : Int) : pvI l ++ [[PV.v (.int .i64 n)]] = pvI (l ++ [n]) := by simp [pvI]
set_option maxRecDepth 1000000 in
set_option maxHeartbeats 2000000 in
theorem crash_con (d : Dsk) (keep : List Int) (torn : Int) (hok : diskOk d = true) (hk : keep.length ≤ 1000) (hop : ∀ op ∈ d.ops, op.data.size ≤ 1000000) : Con Try.prog 42 [.agg [PV.sl false 2 (pvF d.live), PV.sl false 2 (pvF d.safe), PV.sl false 4 (pvD d.ops)], .one (PV.sl false 1 (pvI keep)), .one (PV.v (.int .i64 torn))] [] [.agg [.sl true 2 (pvF (crashF d keep torn).1.live), .sl true 2 (pvF (crashF d keep torn).1.safe), .sl true 4 (pvD (crashF d keep torn).1.ops)], .one (.v (.bool (crashF d keep torn).2))] := by
  refine con_of_tr Try.func42 rfl rfl rfl rfl ?_
  have hld := pvF_length d.live
  have hsd := pvF_length d.safe
  have hod := pvD_length d.ops
  obtain ⟨hb1, hb2, hb3, hb4, hb5⟩ := ok_db hok
  have hlv := files_fit (ok_live hok)
  have hkl := pvI_length keep
  refine tr_seq ?_
  refine tr_region rfl (.run [] [3] rfl (st_box rfl 3 rfl rfl (by decide) rfl (by decide)) (.run [] [6] rfl (st_allocZ rfl 6 inf27 rfl (by decide) rfl (by decide)) (.run [] [] rfl (st_assign rfl) .nil))) ?_
  refine tr_seq ?_
  refine tr_seq ?_
  refine tr_region rfl (.run [] [] rfl (st_move rfl) (.run [] [] rfl (st_lss rfl rfl rfl) .nil)) ?_
  refine tr_if (t := decide (torn < 0)) rfl (fun h1 => ?_) (fun h1 => ?_)
  · skip
    replace h1 := of_decide_eq_true h1
    refine tr_seq ?_
    rw [show crashF d keep torn = (dskZ, false) from if_pos h1]
    refine tr_region rfl (.run [] [] rfl (st_build (pl := [(0, 1), (1, 1), (2, 1)]) rfl Try.underlying27 inf27 (by kernel_rfl) rfl rfl) (.run [] [] rfl (st_store_box rfl rfl rfl rfl rfl Try.sizeOf27 rfl (nle rfl)) (.run [] [] rfl (st_assign rfl) .nil))) ?_
    refine tr_ret ?_
    exact ends [_, _] [] (.cons (.cell rfl rfl Try.isAgg27 Try.sizeOf27 (nle rfl)) (.cons (.tmp rfl) .nil)) (.cons (.agg (.cons (.nil _) (.cons (.nil _) (.cons (.nil _) .nil))) (cl_cons (.sl _ _ (fun _ h => nomatch h)) (cl_cons (.sl _ _ (fun _ h => nomatch h)) (cl_cons (.sl _ _ (fun _ h => nomatch h)) cl_nil)))) (.cons (.one .v (.v _)) .nil)) (by decide) trivial
  · skip
    replace h1 := of_decide_eq_false h1
    refine tr_skip ?_
    refine tr_seq ?_
    have htn := h1
    have hsf := files_fit (ok_safe hok)
    refine tr_region rfl (.run [] [] rfl (st_faddr_box rfl rfl Try.underlying27 rfl Try.sizeOf24 (by decide)) (.run [] [] rfl (st_load_box1 rfl rfl rfl Try.isAgg24 rfl) (.run [] [] rfl (st_assign rfl) .nil))) ?_
    refine tr_seq ?_
    refine tr_seq ?_
    refine tr_region rfl (.run [] [] rfl (st_move rfl) (.run [] [] rfl (st_len_fro rfl rfl Try.underlying30) (.run [] [] rfl (st_move rfl) .nil))) ?_
    refine tr_block ?_
    refine tr_loopS (σ := Nat × List Fil) (fun (i, f) => mk [(1, .p none (.sl false 1 (pvI keep))), (2, .p none (.v (.int .i64 torn))), (3, .ptr 3 0), (6, .ptr 6 0), (8, .p none (.sl false 2 (pvF f))), (17, .p none (.sl false 1 (pvI keep))), (18, .p none (.v (.int .i64 ((pvI keep).length : Int)))), (19, .p none (.v (.int .i64 (i:Int))))] [(3, [.p none (.sl false 2 (pvF d.live)), .p none (.sl false 2 (pvF d.safe)), .p none (.sl false 4 (pvD d.ops))]), (6, [.nils, .nils, .nils])] []) (fun (i, f) => i ≤ keep.length ∧ (namesOk f = true ∧ f.length ≤ 60 + i ∧ totF f ≤ 200000 + i * 1000000) ∧ crashRun d keep torn i (keep.drop i) f = crashRun d keep torn 0 keep d.safe) (fun (i, f) => keep.length - i) (0, d.safe) ⟨Nat.zero_le _, ⟨files_names (ok_safe hok), by omega, by omega⟩, rfl⟩ (wk_mk ⟨rfl, ⟨rfl, ⟨rfl, ⟨rfl, ⟨rfl, ⟨rfl, ⟨rfl, ⟨(int_eq (by omega)), trivial⟩⟩⟩⟩⟩⟩⟩⟩ ⟨rfl, ⟨rfl, trivial⟩⟩ trivial rfl) ?_
    rintro ⟨i, f⟩ hG
    replace hG : i ≤ keep.length ∧ (namesOk f = true ∧ f.length ≤ 60 + i ∧ totF f ≤ 200000 + i * 1000000) ∧ crashRun d keep torn i (keep.drop i) f = crashRun d keep torn 0 keep d.safe := hG
    obtain ⟨hi, ⟨hN, hL, hT⟩, hR⟩ := hG
    have hfl := pvF_length f
    refine tr_seq ?_
    refine tr_region rfl (.run [] [] rfl (st_lss rfl rfl rfl) .nil) ?_
    refine tr_seq ?_
    refine tr_if (t := decide ((i:Int) < ((pvI keep).length : Int))) rfl (fun h2 => ?_) (fun h2 => ?_)
    · skip
      replace h2 := of_decide_eq_true h2
      refine tr_skip ?_
      refine tr_seq ?_
      refine tr_block ?_
      refine tr_seq ?_
      obtain ⟨e, he⟩ : ∃ e, keep[i]? = some e := ⟨_, List.getElem?_eq_getElem (by (have hL := pvI_length keep; omega))⟩
      have hlte := (List.getElem?_eq_some_iff.1 he).1
      refine tr_region rfl (.run [] [] rfl (st_move rfl) (.run [] [] rfl (st_idx_fro rfl rfl rfl Try.underlying30 Try.sizeOf2 rfl (by omega) (pvI_get he)) (.run [] [] rfl (st_load_fea1 rfl rfl Try.isAgg2 rfl) (.run [] [] rfl (st_assign rfl) (.run [] [] rfl (st_assign rfl) .nil))))) ?_
      refine tr_seq ?_
      refine tr_seq ?_
      refine tr_wk (s' := mk [(1, .p none (.sl false 1 (pvI keep))), (2, .p none (.v (.int .i64 torn))), (3, .ptr 3 0), (6, .ptr 6 0), (8, .p none (.sl false 2 (pvF f))), (9, .p none (.v (.int .i64 (i:Int)))), (10, .p none (.v (.int .i64 e))), (17, .p none (.sl false 1 (pvI keep))), (18, .p none (.v (.int .i64 ((pvI keep).length : Int)))), (19, .p none (.v (.int .i64 (i:Int))))] [(3, [.p none (.sl false 2 (pvF d.live)), .p none (.sl false 2 (pvF d.safe)), .p none (.sl false 4 (pvD d.ops))]), (6, [.nils, .nils, .nils])] []) ?_ ?_
      · exact wk_mk ⟨rfl, ⟨rfl, ⟨rfl, ⟨rfl, ⟨rfl, ⟨rfl, ⟨rfl, ⟨rfl, ⟨rfl, ⟨rfl, trivial⟩⟩⟩⟩⟩⟩⟩⟩⟩⟩ ⟨rfl, ⟨rfl, trivial⟩⟩ trivial rfl
      rcases bfc (!(within e 0 ((d.ops.length : Int) - 1))) with h3 | h3
      · have h3' := h3
        replace h3' : (within e 0 ((d.ops.length : Int) - 1)) = true := bnot_f h3'
        rcases bfc (decide (0 < (i:Int))) with h4 | h4
        · have h4' := h4
          replace h4' := of_decide_eq_false h4'
          refine tr_region rfl (.run [] [] rfl (st_move rfl) (.run [] [] rfl (st_faddr_box rfl rfl Try.underlying27 rfl Try.sizeOf25 (by decide)) (.run [] [] rfl (st_load_box1 rfl rfl rfl Try.isAgg25 rfl) (.run [] [] rfl (st_len_fro rfl rfl Try.underlying25) (.run [] [] rfl (st_eq (st_subn rfl rfl rfl (by omega)) ((int_eq (by omega)))) (.run [2900] [] rfl (st_call rfl 2900 (X := []) en68 rfl (.val nod) (.cons (.one (.bor .v)) (.cons (.one (.bor .v)) (.cons (.one (.bor .v)) .nil))) (by decide) all_nil .nil (within_con e 0 ((d.ops.length : Int) - 1)) rfl rfl (nle rfl)) (.run [] [] rfl (st_eq (st_not (b := within e 0 ((d.ops.length : Int) - 1)) rfl rfl) (by exact congrArg (fun b => AV.p none (.v (.bool b))) h3)) (.run [] [] rfl (st_move rfl) (.run [] [] rfl (st_move rfl) (.run [] [] rfl (st_eq (st_gtr rfl rfl rfl) (by exact congrArg (fun b => AV.p none (.v (.bool b))) h4)) (.run [] [] rfl (st_move rfl) (.not rfl (.not rfl (.not rfl (.not rfl (.not rfl (.not rfl (.not rfl (.run [] [] rfl (st_pick (t := false) rfl rfl) (.run [] [] rfl (st_pick (t := false) rfl rfl) .nil)))))))))))))))))))) ?_
          refine tr_if (t := false) rfl (fun h => nomatch h) (fun _ => ?_)
          refine tr_skip ?_
          refine tr_seq ?_
          have hb : keepBad d keep i e = false := keep_fst h3' (by omega)
          obtain ⟨hk0, hk1⟩ := keep_ok hb
          obtain ⟨o, ho⟩ : ∃ o, d.ops[e.toNat]? = some o := ⟨_, List.getElem?_eq_getElem (by omega)⟩
          have hof := ok_form hok o (List.mem_of_getElem? ho)
          have hoz := hop o (List.mem_of_getElem? ho)
          have hoa : opAt d e = o := opAt_mem ho
          refine tr_wk (s' := mk [(1, .p none (.sl false 1 (pvI keep))), (2, .p none (.v (.int .i64 torn))), (3, .ptr 3 0), (6, .ptr 6 0), (8, .p none (.sl false 2 (pvF f))), (9, .p none (.v (.int .i64 (i:Int)))), (10, .p none (.v (.int .i64 e))), (17, .p none (.sl false 1 (pvI keep))), (18, .p none (.v (.int .i64 ((pvI keep).length : Int)))), (19, .p none (.v (.int .i64 (i:Int)))), (32, .p none (.v (.int .i64 (i:Int)))), (33, .p none (.v (.bool false))), (34, .p none (.v (.bool false))), (42, .p none (.v (.bool false)))] [(3, [.p none (.sl false 2 (pvF d.live)), .p none (.sl false 2 (pvF d.safe)), .p none (.sl false 4 (pvD d.ops))]), (6, [.nils, .nils, .nils])] []) ?_ ?_
          · exact wk_mk ⟨rfl, ⟨rfl, ⟨rfl, ⟨rfl, ⟨rfl, ⟨rfl, ⟨rfl, ⟨rfl, ⟨rfl, ⟨rfl, ⟨rfl, ⟨rfl, ⟨rfl, ⟨rfl, trivial⟩⟩⟩⟩⟩⟩⟩⟩⟩⟩⟩⟩⟩⟩ ⟨rfl, ⟨rfl, trivial⟩⟩ trivial rfl
          refine tr_region rfl (.run [] [] rfl (st_faddr_box rfl rfl Try.underlying27 rfl Try.sizeOf25 (by decide)) (.run [] [] rfl (st_load_box1 rfl rfl rfl Try.isAgg25 rfl) (.run [] [] rfl (st_move rfl) (.run [] [] rfl (st_idx_fro rfl rfl rfl Try.underlying25 Try.sizeOf36 rfl (by omega) (pvD_get ho)) (.run [] [] rfl (st_load_fea rfl rfl Try.isAgg36 Try.sizeOf36 (nle rfl)) (.run [] [11] rfl (st_allocZ rfl 11 inf36 rfl (by decide) rfl (by decide)) (.run [] [] rfl (st_store_box rfl rfl rfl rfl rfl Try.sizeOf36 rfl (nle rfl)) .nil))))))) ?_
          refine tr_seq ?_
          refine tr_seq ?_
          refine tr_region rfl (.run [] [] rfl (st_move rfl) (.run [] [] rfl (st_move rfl) (.run [] [] rfl (st_len_fro rfl rfl Try.underlying30) (.run [] [] rfl (st_subn rfl rfl rfl (by omega)) (.run [] [] rfl (st_eql rfl rfl rfl) .nil))))) ?_
          refine tr_if (t := decide ((i:Int) = (((pvI keep).length : Int) - 1))) rfl (fun h5 => ?_) (fun h5 => ?_)
          · skip
            replace h5 := of_decide_eq_true h5
            refine tr_wk (s' := mk [(1, .p none (.sl false 1 (pvI keep))), (2, .p none (.v (.int .i64 torn))), (3, .ptr 3 0), (6, .ptr 6 0), (8, .p none (.sl false 2 (pvF f))), (11, .ptr 11 0), (17, .p none (.sl false 1 (pvI keep))), (18, .p none (.v (.int .i64 ((pvI keep).length : Int)))), (19, .p none (.v (.int .i64 (i:Int)))), (32, .p none (.v (.int .i64 (i:Int)))), (33, .p none (.v (.bool false))), (34, .p none (.v (.bool false))), (42, .p none (.v (.bool false)))] [(3, [.p none (.sl false 2 (pvF d.live)), .p none (.sl false 2 (pvF d.safe)), .p none (.sl false 4 (pvD d.ops))]), (6, [.nils, .nils, .nils]), (11, [.p none (.v (.int .i64 o.kind)), .p none (.v (.string o.name)), .p none (.v (.string o.dest)), .p none (.v (.string o.data))])] []) ?_ ?_
            · exact wk_mk ⟨rfl, ⟨rfl, ⟨rfl, ⟨rfl, ⟨rfl, ⟨rfl, ⟨rfl, ⟨rfl, ⟨rfl, ⟨rfl, ⟨rfl, ⟨rfl, ⟨rfl, trivial⟩⟩⟩⟩⟩⟩⟩⟩⟩⟩⟩⟩⟩ ⟨rfl, ⟨rfl, ⟨rfl, trivial⟩⟩⟩ trivial rfl
            refine tr_region rfl (.run [] [] rfl (st_faddr_box rfl rfl Try.underlying36 rfl Try.sizeOf9 (by decide)) (.run [] [] rfl (st_load_box1 rfl rfl rfl Try.isAgg9 rfl) (.run [] [] rfl (st_move rfl) (.run [] [] rfl (st_faddr_box rfl rfl Try.underlying36 rfl Try.sizeOf9 (by decide)) (.run [] [] rfl (st_load_box1 rfl rfl rfl Try.isAgg9 rfl) (.run [] [] rfl (st_len_str rfl rfl Try.underlying9) (.run [] [] rfl (st_eq (st_min rfl rfl rfl) ((int_eq (b := ((min torn (o.data.size : Int)).toNat : Int)) (by omega)))) (.run [] [] rfl (st_cut_str rfl rfl Try.underlying9 .no (.at_ rfl rfl) (Nat.zero_le _) (by omega)) (.run [] [] rfl (st_faddr_box rfl rfl Try.underlying36 rfl Try.sizeOf9 (by decide)) (.run [] [] rfl (st_store_box rfl rfl rfl rfl rfl Try.sizeOf9 rfl (nle rfl)) .nil)))))))))) ?_
            obtain ⟨c, hc⟩ : ∃ c, c = crashOp d keep torn i e := ⟨_, rfl⟩
            have hcc : c = (⟨o.kind, o.name, o.dest, o.data.extract 0 ((min torn (o.data.size : Int)).toNat)⟩ : DOp) := by rw [hc, crashOp, if_pos (by omega), hoa]; rfl
            have hcf : formF c = true := by rw [hc, crashOp, if_pos (by omega), hoa]; exact torn_form torn hof
            have hcz : c.data.size ≤ 1000000 := by rw [hc, crashOp, if_pos (by omega), hoa]; exact Nat.le_trans (torn_size torn) hoz
            have hcz2 : ((⟨o.kind, o.name, o.dest, o.data.extract 0 ((min torn (o.data.size : Int)).toNat)⟩ : DOp)).data.size ≤ 1000000 := by rw [← hcc]; exact hcz
            refine tr_wk (s' := mk [(1, .p none (.sl false 1 (pvI keep))), (2, .p none (.v (.int .i64 torn))), (3, .ptr 3 0), (6, .ptr 6 0), (8, .p none (.sl false 2 (pvF f))), (11, .ptr 11 0), (17, .p none (.sl false 1 (pvI keep))), (18, .p none (.v (.int .i64 ((pvI keep).length : Int)))), (19, .p none (.v (.int .i64 (i:Int)))), (32, .p none (.v (.int .i64 (i:Int)))), (33, .p none (.v (.bool false))), (34, .p none (.v (.bool false))), (42, .p none (.v (.bool false)))] [(3, [.p none (.sl false 2 (pvF d.live)), .p none (.sl false 2 (pvF d.safe)), .p none (.sl false 4 (pvD d.ops))]), (6, [.nils, .nils, .nils]), (11, [.p none (.v (.int .i64 o.kind)), .p none (.v (.string o.name)), .p none (.v (.string o.dest)), .p none (.v (.string (o.data.extract 0 ((min torn (o.data.size : Int)).toNat))))])] []) ?_ ?_
            · exact wk_mk ⟨rfl, ⟨rfl, ⟨rfl, ⟨rfl, ⟨rfl, ⟨rfl, ⟨rfl, ⟨rfl, ⟨rfl, ⟨rfl, ⟨rfl, ⟨rfl, ⟨rfl, trivial⟩⟩⟩⟩⟩⟩⟩⟩⟩⟩⟩⟩⟩ ⟨rfl, ⟨rfl, ⟨rfl, trivial⟩⟩⟩ trivial rfl
            refine tr_region rfl (.run [] [] rfl (st_move rfl) (.run [] [] rfl (st_load_box rfl rfl rfl Try.isAgg36 Try.sizeOf36 (nle rfl)) (.run [6700, 6701] [] rfl (st_call rfl 6700 (X := []) en35 rfl (.val nod) (.cons (.one (.bor (.sl nod))) (.cons (.agg (.cons (.bor .v) (.cons (.bor .v) (.cons (.bor .v) (.cons (.bor .v) .nil))))) .nil)) (by decide) all_nil .nil (done_named hcc (done_con f (⟨o.kind, o.name, o.dest, o.data.extract 0 ((min torn (o.data.size : Int)).toNat)⟩ : DOp) (namesOk_srt hN) (by omega) (by omega) (by omega))) rfl rfl (nle rfl)) (.run [] [] rfl (st_move rfl) (.run [] [] rfl (st_extract rfl rfl rfl) (.run [] [] rfl (st_extract rfl rfl rfl) (.run [] [] rfl (st_assign rfl) .nil))))))) ?_
            refine tr_wk (wk_frz 6700 rfl) ?_
            have hp6 : (.p none (.sl false 2 (((pvF ((doneF f c).1)).drop 0).take ((pvF ((doneF f c).1)).length))) : AV) = .p none (.sl false 2 (pvF ((doneF f c).1))) := by simp only [frz_all]
            refine tr_wk (s' := mk [(1, .p none (.sl false 1 (pvI keep))), (2, .p none (.v (.int .i64 torn))), (3, .ptr 3 0), (6, .ptr 6 0), (8, .p none (.sl false 2 (pvF ((doneF f c).1)))), (17, .p none (.sl false 1 (pvI keep))), (18, .p none (.v (.int .i64 ((pvI keep).length : Int)))), (19, .p none (.v (.int .i64 (i:Int)))), (32, .p none (.v (.int .i64 (i:Int)))), (33, .p none (.v (.bool false))), (34, .p none (.v (.bool false))), (42, .p none (.v (.bool false)))] [(3, [.p none (.sl false 2 (pvF d.live)), .p none (.sl false 2 (pvF d.safe)), .p none (.sl false 4 (pvD d.ops))]), (6, [.nils, .nils, .nils])] []) ?_ ?_
            · exact wk_mk ⟨rfl, ⟨rfl, ⟨rfl, ⟨rfl, ⟨hp6, ⟨rfl, ⟨rfl, ⟨rfl, ⟨rfl, ⟨rfl, ⟨rfl, ⟨rfl, trivial⟩⟩⟩⟩⟩⟩⟩⟩⟩⟩⟩⟩ ⟨rfl, ⟨rfl, trivial⟩⟩ trivial rfl
            refine tr_region rfl (.run [] [] rfl (st_addn rfl rfl rfl (by omega)) (.run [] [] rfl (st_move rfl) .nil)) ?_
            refine nxt (Q := fun _ _ => False) (z := (i, f)) (i + 1, (doneF f c).1) ?_ ?_ ?_
            · show (i + 1) ≤ keep.length ∧ (namesOk ((doneF f c).1) = true ∧ ((doneF f c).1).length ≤ 60 + (i + 1) ∧ totF ((doneF f c).1) ≤ 200000 + (i + 1) * 1000000) ∧ crashRun d keep torn (i + 1) (keep.drop (i + 1)) ((doneF f c).1) = crashRun d keep torn 0 keep d.safe
              exact ⟨by omega, ⟨names_done hN hcf, by have := done_len f c; omega, by have := done_tot1 f c; omega⟩, by rw [hc]; exact crash_step hR he hb⟩
            · show keep.length - (i + 1) < keep.length - i
              omega
            · exact wk_mk ⟨rfl, ⟨rfl, ⟨rfl, ⟨rfl, ⟨rfl, ⟨rfl, ⟨rfl, ⟨(int_eq (by omega)), trivial⟩⟩⟩⟩⟩⟩⟩⟩ ⟨rfl, ⟨rfl, trivial⟩⟩ trivial rfl
          · skip
            replace h5 := of_decide_eq_false h5
            refine tr_skip ?_
            obtain ⟨c, hc⟩ : ∃ c, c = crashOp d keep torn i e := ⟨_, rfl⟩
            have hcc : c = o := by rw [hc, crashOp, if_neg (by omega), hoa]
            have hcf : formF c = true := by rw [hcc]; exact hof
            have hcz : c.data.size ≤ 1000000 := by rw [hcc]; exact hoz
            have hcz2 : (o).data.size ≤ 1000000 := by rw [← hcc]; exact hcz
            refine tr_wk (s' := mk [(1, .p none (.sl false 1 (pvI keep))), (2, .p none (.v (.int .i64 torn))), (3, .ptr 3 0), (6, .ptr 6 0), (8, .p none (.sl false 2 (pvF f))), (11, .ptr 11 0), (17, .p none (.sl false 1 (pvI keep))), (18, .p none (.v (.int .i64 ((pvI keep).length : Int)))), (19, .p none (.v (.int .i64 (i:Int)))), (32, .p none (.v (.int .i64 (i:Int)))), (33, .p none (.v (.bool false))), (34, .p none (.v (.bool false))), (42, .p none (.v (.bool false)))] [(3, [.p none (.sl false 2 (pvF d.live)), .p none (.sl false 2 (pvF d.safe)), .p none (.sl false 4 (pvD d.ops))]), (6, [.nils, .nils, .nils]), (11, [.p none (.v (.int .i64 o.kind)), .p none (.v (.string o.name)), .p none (.v (.string o.dest)), .p none (.v (.string o.data))])] []) ?_ ?_
            · exact wk_mk ⟨rfl, ⟨rfl, ⟨rfl, ⟨rfl, ⟨rfl, ⟨rfl, ⟨rfl, ⟨rfl, ⟨rfl, ⟨rfl, ⟨rfl, ⟨rfl, ⟨rfl, trivial⟩⟩⟩⟩⟩⟩⟩⟩⟩⟩⟩⟩⟩ ⟨rfl, ⟨rfl, ⟨rfl, trivial⟩⟩⟩ trivial rfl
            refine tr_region rfl (.run [] [] rfl (st_move rfl) (.run [] [] rfl (st_load_box rfl rfl rfl Try.isAgg36 Try.sizeOf36 (nle rfl)) (.run [6700, 6701] [] rfl (st_call rfl 6700 (X := []) en35 rfl (.val nod) (.cons (.one (.bor (.sl nod))) (.cons (.agg (.cons (.bor .v) (.cons (.bor .v) (.cons (.bor .v) (.cons (.bor .v) .nil))))) .nil)) (by decide) all_nil .nil (done_named hcc (done_con f o (namesOk_srt hN) (by omega) (by omega) (by omega))) rfl rfl (nle rfl)) (.run [] [] rfl (st_move rfl) (.run [] [] rfl (st_extract rfl rfl rfl) (.run [] [] rfl (st_extract rfl rfl rfl) (.run [] [] rfl (st_assign rfl) .nil))))))) ?_
            refine tr_wk (wk_frz 6700 rfl) ?_
            have hp7 : (.p none (.sl false 2 (((pvF ((doneF f c).1)).drop 0).take ((pvF ((doneF f c).1)).length))) : AV) = .p none (.sl false 2 (pvF ((doneF f c).1))) := by simp only [frz_all]
            refine tr_wk (s' := mk [(1, .p none (.sl false 1 (pvI keep))), (2, .p none (.v (.int .i64 torn))), (3, .ptr 3 0), (6, .ptr 6 0), (8, .p none (.sl false 2 (pvF ((doneF f c).1)))), (17, .p none (.sl false 1 (pvI keep))), (18, .p none (.v (.int .i64 ((pvI keep).length : Int)))), (19, .p none (.v (.int .i64 (i:Int)))), (32, .p none (.v (.int .i64 (i:Int)))), (33, .p none (.v (.bool false))), (34, .p none (.v (.bool false))), (42, .p none (.v (.bool false)))] [(3, [.p none (.sl false 2 (pvF d.live)), .p none (.sl false 2 (pvF d.safe)), .p none (.sl false 4 (pvD d.ops))]), (6, [.nils, .nils, .nils])] []) ?_ ?_
            · exact wk_mk ⟨rfl, ⟨rfl, ⟨rfl, ⟨rfl, ⟨hp7, ⟨rfl, ⟨rfl, ⟨rfl, ⟨rfl, ⟨rfl, ⟨rfl, ⟨rfl, trivial⟩⟩⟩⟩⟩⟩⟩⟩⟩⟩⟩⟩ ⟨rfl, ⟨rfl, trivial⟩⟩ trivial rfl
            refine tr_region rfl (.run [] [] rfl (st_addn rfl rfl rfl (by omega)) (.run [] [] rfl (st_move rfl) .nil)) ?_
            refine nxt (Q := fun _ _ => False) (z := (i, f)) (i + 1, (doneF f c).1) ?_ ?_ ?_
            · show (i + 1) ≤ keep.length ∧ (namesOk ((doneF f c).1) = true ∧ ((doneF f c).1).length ≤ 60 + (i + 1) ∧ totF ((doneF f c).1) ≤ 200000 + (i + 1) * 1000000) ∧ crashRun d keep torn (i + 1) (keep.drop (i + 1)) ((doneF f c).1) = crashRun d keep torn 0 keep d.safe
              exact ⟨by omega, ⟨names_done hN hcf, by have := done_len f c; omega, by have := done_tot1 f c; omega⟩, by rw [hc]; exact crash_step hR he hb⟩
            · show keep.length - (i + 1) < keep.length - i
              omega
            · exact wk_mk ⟨rfl, ⟨rfl, ⟨rfl, ⟨rfl, ⟨rfl, ⟨rfl, ⟨rfl, ⟨(int_eq (by omega)), trivial⟩⟩⟩⟩⟩⟩⟩⟩ ⟨rfl, ⟨rfl, trivial⟩⟩ trivial rfl
        · have h4' := h4
          replace h4' := of_decide_eq_true h4'
          obtain ⟨e2, he2⟩ : ∃ e, keep[(i - 1 : Nat)]? = some e := ⟨_, List.getElem?_eq_getElem (by (have hL := pvI_length keep; omega))⟩
          have hlte2 := (List.getElem?_eq_some_iff.1 he2).1
          refine tr_region rfl (.run [] [] rfl (st_move rfl) (.run [] [] rfl (st_faddr_box rfl rfl Try.underlying27 rfl Try.sizeOf25 (by decide)) (.run [] [] rfl (st_load_box1 rfl rfl rfl Try.isAgg25 rfl) (.run [] [] rfl (st_len_fro rfl rfl Try.underlying25) (.run [] [] rfl (st_eq (st_subn rfl rfl rfl (by omega)) ((int_eq (by omega)))) (.run [2900] [] rfl (st_call rfl 2900 (X := []) en68 rfl (.val nod) (.cons (.one (.bor .v)) (.cons (.one (.bor .v)) (.cons (.one (.bor .v)) .nil))) (by decide) all_nil .nil (within_con e 0 ((d.ops.length : Int) - 1)) rfl rfl (nle rfl)) (.run [] [] rfl (st_eq (st_not (b := within e 0 ((d.ops.length : Int) - 1)) rfl rfl) (by exact congrArg (fun b => AV.p none (.v (.bool b))) h3)) (.run [] [] rfl (st_move rfl) (.run [] [] rfl (st_move rfl) (.run [] [] rfl (st_eq (st_gtr rfl rfl rfl) (by exact congrArg (fun b => AV.p none (.v (.bool b))) h4)) (.run [] [] rfl (st_move rfl) (.run [] [] rfl (st_move rfl) (.run [] [] rfl (st_move rfl) (.run [] [] rfl (st_move rfl) (.run [] [] rfl (st_eq (st_subn rfl rfl rfl (by omega)) (((show (AV.p none (.v (.int .i64 ((i:Int) - 1)))) = AV.p none (.v (.int .i64 ((i - 1 : Nat) : Int))) from int_eq (by omega))))) (.run [] [] rfl (st_idx_fro rfl rfl rfl Try.underlying30 Try.sizeOf2 rfl (by omega) (pvI_get he2)) (.run [] [] rfl (st_load_fea1 rfl rfl Try.isAgg2 rfl) (.run [] [] rfl (st_leq rfl rfl rfl) (.run [] [] rfl (st_pick (t := true) rfl rfl) (.run [] [] rfl (st_pick (t := false) rfl rfl) .nil)))))))))))))))))))) ?_
          refine tr_if (t := decide (e ≤ e2)) rfl (fun h8 => ?_) (fun h8 => ?_)
          · skip
            replace h8 := of_decide_eq_true h8
            refine tr_seq ?_
            have hb : keepBad d keep i e = true := keep_le (by omega) he2 h8
            rw [show crashF d keep torn = (dskZ, false) from crash_bad htn hR he hb]
            refine tr_wk (s' := mk [(6, .ptr 6 0)] [(6, [.nils, .nils, .nils])] []) ?_ ?_
            · exact wk_mk ⟨rfl, trivial⟩ ⟨rfl, trivial⟩ trivial rfl
            refine tr_region rfl (.run [] [] rfl (st_build (pl := [(0, 1), (1, 1), (2, 1)]) rfl Try.underlying27 inf27 (by kernel_rfl) rfl rfl) (.run [] [] rfl (st_store_box rfl rfl rfl rfl rfl Try.sizeOf27 rfl (nle rfl)) (.run [] [] rfl (st_assign rfl) .nil))) ?_
            refine tr_ret ?_
            exact ends [_, _] [] (.cons (.cell rfl rfl Try.isAgg27 Try.sizeOf27 (nle rfl)) (.cons (.tmp rfl) .nil)) (.cons (.agg (.cons (.nil _) (.cons (.nil _) (.cons (.nil _) .nil))) (cl_cons (.sl _ _ (fun _ h => nomatch h)) (cl_cons (.sl _ _ (fun _ h => nomatch h)) (cl_cons (.sl _ _ (fun _ h => nomatch h)) cl_nil)))) (.cons (.one .v (.v _)) .nil)) (by decide) trivial
          · skip
            replace h8 := of_decide_eq_false h8
            refine tr_skip ?_
            refine tr_seq ?_
            have hb : keepBad d keep i e = false := keep_nxt h3' he2 h8
            obtain ⟨hk0, hk1⟩ := keep_ok hb
            obtain ⟨o, ho⟩ : ∃ o, d.ops[e.toNat]? = some o := ⟨_, List.getElem?_eq_getElem (by omega)⟩
            have hof := ok_form hok o (List.mem_of_getElem? ho)
            have hoz := hop o (List.mem_of_getElem? ho)
            have hoa : opAt d e = o := opAt_mem ho
            refine tr_wk (s' := mk [(1, .p none (.sl false 1 (pvI keep))), (2, .p none (.v (.int .i64 torn))), (3, .ptr 3 0), (6, .ptr 6 0), (8, .p none (.sl false 2 (pvF f))), (9, .p none (.v (.int .i64 (i:Int)))), (10, .p none (.v (.int .i64 e))), (17, .p none (.sl false 1 (pvI keep))), (18, .p none (.v (.int .i64 ((pvI keep).length : Int)))), (19, .p none (.v (.int .i64 (i:Int)))), (32, .p none (.v (.int .i64 (i:Int)))), (33, .p none (.v (.bool true))), (34, .p none (.v (.bool true))), (35, .p none (.v (.int .i64 e))), (36, .p none (.sl false 1 (pvI keep))), (37, .p none (.v (.int .i64 (i:Int)))), (38, .p none (.v (.int .i64 ((i - 1 : Nat):Int)))), (39, .fea none [PV.v (.int .i64 e2)]), (40, .p none (.v (.int .i64 e2))), (41, .p none (.v (.bool (decide (e ≤ e2))))), (42, .p none (.v (.bool (decide (e ≤ e2)))))] [(3, [.p none (.sl false 2 (pvF d.live)), .p none (.sl false 2 (pvF d.safe)), .p none (.sl false 4 (pvD d.ops))]), (6, [.nils, .nils, .nils])] []) ?_ ?_
            · exact wk_mk ⟨rfl, ⟨rfl, ⟨rfl, ⟨rfl, ⟨rfl, ⟨rfl, ⟨rfl, ⟨rfl, ⟨rfl, ⟨rfl, ⟨rfl, ⟨rfl, ⟨rfl, ⟨rfl, ⟨rfl, ⟨rfl, ⟨rfl, ⟨rfl, ⟨rfl, ⟨rfl, ⟨rfl, trivial⟩⟩⟩⟩⟩⟩⟩⟩⟩⟩⟩⟩⟩⟩⟩⟩⟩⟩⟩⟩⟩ ⟨rfl, ⟨rfl, trivial⟩⟩ trivial rfl
            refine tr_region rfl (.run [] [] rfl (st_faddr_box rfl rfl Try.underlying27 rfl Try.sizeOf25 (by decide)) (.run [] [] rfl (st_load_box1 rfl rfl rfl Try.isAgg25 rfl) (.run [] [] rfl (st_move rfl) (.run [] [] rfl (st_idx_fro rfl rfl rfl Try.underlying25 Try.sizeOf36 rfl (by omega) (pvD_get ho)) (.run [] [] rfl (st_load_fea rfl rfl Try.isAgg36 Try.sizeOf36 (nle rfl)) (.run [] [11] rfl (st_allocZ rfl 11 inf36 rfl (by decide) rfl (by decide)) (.run [] [] rfl (st_store_box rfl rfl rfl rfl rfl Try.sizeOf36 rfl (nle rfl)) .nil))))))) ?_
            refine tr_seq ?_
            refine tr_seq ?_
            refine tr_region rfl (.run [] [] rfl (st_move rfl) (.run [] [] rfl (st_move rfl) (.run [] [] rfl (st_len_fro rfl rfl Try.underlying30) (.run [] [] rfl (st_subn rfl rfl rfl (by omega)) (.run [] [] rfl (st_eql rfl rfl rfl) .nil))))) ?_
            refine tr_if (t := decide ((i:Int) = (((pvI keep).length : Int) - 1))) rfl (fun h9 => ?_) (fun h9 => ?_)
            · skip
              replace h9 := of_decide_eq_true h9
              refine tr_wk (s' := mk [(1, .p none (.sl false 1 (pvI keep))), (2, .p none (.v (.int .i64 torn))), (3, .ptr 3 0), (6, .ptr 6 0), (8, .p none (.sl false 2 (pvF f))), (11, .ptr 11 0), (17, .p none (.sl false 1 (pvI keep))), (18, .p none (.v (.int .i64 ((pvI keep).length : Int)))), (19, .p none (.v (.int .i64 (i:Int)))), (32, .p none (.v (.int .i64 (i:Int)))), (33, .p none (.v (.bool true))), (34, .p none (.v (.bool true))), (35, .p none (.v (.int .i64 e))), (36, .p none (.sl false 1 (pvI keep))), (37, .p none (.v (.int .i64 (i:Int)))), (38, .p none (.v (.int .i64 ((i - 1 : Nat):Int)))), (39, .fea none [PV.v (.int .i64 e2)]), (40, .p none (.v (.int .i64 e2))), (41, .p none (.v (.bool (decide (e ≤ e2))))), (42, .p none (.v (.bool (decide (e ≤ e2)))))] [(3, [.p none (.sl false 2 (pvF d.live)), .p none (.sl false 2 (pvF d.safe)), .p none (.sl false 4 (pvD d.ops))]), (6, [.nils, .nils, .nils]), (11, [.p none (.v (.int .i64 o.kind)), .p none (.v (.string o.name)), .p none (.v (.string o.dest)), .p none (.v (.string o.data))])] []) ?_ ?_
              · exact wk_mk ⟨rfl, ⟨rfl, ⟨rfl, ⟨rfl, ⟨rfl, ⟨rfl, ⟨rfl, ⟨rfl, ⟨rfl, ⟨rfl, ⟨rfl, ⟨rfl, ⟨rfl, ⟨rfl, ⟨rfl, ⟨rfl, ⟨rfl, ⟨rfl, ⟨rfl, ⟨rfl, trivial⟩⟩⟩⟩⟩⟩⟩⟩⟩⟩⟩⟩⟩⟩⟩⟩⟩⟩⟩⟩ ⟨rfl, ⟨rfl, ⟨rfl, trivial⟩⟩⟩ trivial rfl
              refine tr_region rfl (.run [] [] rfl (st_faddr_box rfl rfl Try.underlying36 rfl Try.sizeOf9 (by decide)) (.run [] [] rfl (st_load_box1 rfl rfl rfl Try.isAgg9 rfl) (.run [] [] rfl (st_move rfl) (.run [] [] rfl (st_faddr_box rfl rfl Try.underlying36 rfl Try.sizeOf9 (by decide)) (.run [] [] rfl (st_load_box1 rfl rfl rfl Try.isAgg9 rfl) (.run [] [] rfl (st_len_str rfl rfl Try.underlying9) (.run [] [] rfl (st_eq (st_min rfl rfl rfl) ((int_eq (b := ((min torn (o.data.size : Int)).toNat : Int)) (by omega)))) (.run [] [] rfl (st_cut_str rfl rfl Try.underlying9 .no (.at_ rfl rfl) (Nat.zero_le _) (by omega)) (.run [] [] rfl (st_faddr_box rfl rfl Try.underlying36 rfl Try.sizeOf9 (by decide)) (.run [] [] rfl (st_store_box rfl rfl rfl rfl rfl Try.sizeOf9 rfl (nle rfl)) .nil)))))))))) ?_
              obtain ⟨c, hc⟩ : ∃ c, c = crashOp d keep torn i e := ⟨_, rfl⟩
              have hcc : c = (⟨o.kind, o.name, o.dest, o.data.extract 0 ((min torn (o.data.size : Int)).toNat)⟩ : DOp) := by rw [hc, crashOp, if_pos (by omega), hoa]; rfl
              have hcf : formF c = true := by rw [hc, crashOp, if_pos (by omega), hoa]; exact torn_form torn hof
              have hcz : c.data.size ≤ 1000000 := by rw [hc, crashOp, if_pos (by omega), hoa]; exact Nat.le_trans (torn_size torn) hoz
              have hcz2 : ((⟨o.kind, o.name, o.dest, o.data.extract 0 ((min torn (o.data.size : Int)).toNat)⟩ : DOp)).data.size ≤ 1000000 := by rw [← hcc]; exact hcz
              refine tr_wk (s' := mk [(1, .p none (.sl false 1 (pvI keep))), (2, .p none (.v (.int .i64 torn))), (3, .ptr 3 0), (6, .ptr 6 0), (8, .p none (.sl false 2 (pvF f))), (11, .ptr 11 0), (17, .p none (.sl false 1 (pvI keep))), (18, .p none (.v (.int .i64 ((pvI keep).length : Int)))), (19, .p none (.v (.int .i64 (i:Int)))), (32, .p none (.v (.int .i64 (i:Int)))), (33, .p none (.v (.bool true))), (34, .p none (.v (.bool true))), (35, .p none (.v (.int .i64 e))), (36, .p none (.sl false 1 (pvI keep))), (37, .p none (.v (.int .i64 (i:Int)))), (38, .p none (.v (.int .i64 ((i - 1 : Nat):Int)))), (39, .fea none [PV.v (.int .i64 e2)]), (40, .p none (.v (.int .i64 e2))), (41, .p none (.v (.bool (decide (e ≤ e2))))), (42, .p none (.v (.bool (decide (e ≤ e2)))))] [(3, [.p none (.sl false 2 (pvF d.live)), .p none (.sl false 2 (pvF d.safe)), .p none (.sl false 4 (pvD d.ops))]), (6, [.nils, .nils, .nils]), (11, [.p none (.v (.int .i64 o.kind)), .p none (.v (.string o.name)), .p none (.v (.string o.dest)), .p none (.v (.string (o.data.extract 0 ((min torn (o.data.size : Int)).toNat))))])] []) ?_ ?_
              · exact wk_mk ⟨rfl, ⟨rfl, ⟨rfl, ⟨rfl, ⟨rfl, ⟨rfl, ⟨rfl, ⟨rfl, ⟨rfl, ⟨rfl, ⟨rfl, ⟨rfl, ⟨rfl, ⟨rfl, ⟨rfl, ⟨rfl, ⟨rfl, ⟨rfl, ⟨rfl, ⟨rfl, trivial⟩⟩⟩⟩⟩⟩⟩⟩⟩⟩⟩⟩⟩⟩⟩⟩⟩⟩⟩⟩ ⟨rfl, ⟨rfl, ⟨rfl, trivial⟩⟩⟩ trivial rfl
              refine tr_region rfl (.run [] [] rfl (st_move rfl) (.run [] [] rfl (st_load_box rfl rfl rfl Try.isAgg36 Try.sizeOf36 (nle rfl)) (.run [6700, 6701] [] rfl (st_call rfl 6700 (X := []) en35 rfl (.val nod) (.cons (.one (.bor (.sl nod))) (.cons (.agg (.cons (.bor .v) (.cons (.bor .v) (.cons (.bor .v) (.cons (.bor .v) .nil))))) .nil)) (by decide) all_nil .nil (done_named hcc (done_con f (⟨o.kind, o.name, o.dest, o.data.extract 0 ((min torn (o.data.size : Int)).toNat)⟩ : DOp) (namesOk_srt hN) (by omega) (by omega) (by omega))) rfl rfl (nle rfl)) (.run [] [] rfl (st_move rfl) (.run [] [] rfl (st_extract rfl rfl rfl) (.run [] [] rfl (st_extract rfl rfl rfl) (.run [] [] rfl (st_assign rfl) .nil))))))) ?_
              refine tr_wk (wk_frz 6700 rfl) ?_
              have hp10 : (.p none (.sl false 2 (((pvF ((doneF f c).1)).drop 0).take ((pvF ((doneF f c).1)).length))) : AV) = .p none (.sl false 2 (pvF ((doneF f c).1))) := by simp only [frz_all]
              refine tr_wk (s' := mk [(1, .p none (.sl false 1 (pvI keep))), (2, .p none (.v (.int .i64 torn))), (3, .ptr 3 0), (6, .ptr 6 0), (8, .p none (.sl false 2 (pvF ((doneF f c).1)))), (17, .p none (.sl false 1 (pvI keep))), (18, .p none (.v (.int .i64 ((pvI keep).length : Int)))), (19, .p none (.v (.int .i64 (i:Int)))), (32, .p none (.v (.int .i64 (i:Int)))), (33, .p none (.v (.bool true))), (34, .p none (.v (.bool true))), (35, .p none (.v (.int .i64 e))), (36, .p none (.sl false 1 (pvI keep))), (37, .p none (.v (.int .i64 (i:Int)))), (38, .p none (.v (.int .i64 ((i - 1 : Nat):Int)))), (39, .fea none [PV.v (.int .i64 e2)]), (40, .p none (.v (.int .i64 e2))), (41, .p none (.v (.bool (decide (e ≤ e2))))), (42, .p none (.v (.bool (decide (e ≤ e2)))))] [(3, [.p none (.sl false 2 (pvF d.live)), .p none (.sl false 2 (pvF d.safe)), .p none (.sl false 4 (pvD d.ops))]), (6, [.nils, .nils, .nils])] []) ?_ ?_
              · exact wk_mk ⟨rfl, ⟨rfl, ⟨rfl, ⟨rfl, ⟨hp10, ⟨rfl, ⟨rfl, ⟨rfl, ⟨rfl, ⟨rfl, ⟨rfl, ⟨rfl, ⟨rfl, ⟨rfl, ⟨rfl, ⟨rfl, ⟨rfl, ⟨rfl, ⟨rfl, trivial⟩⟩⟩⟩⟩⟩⟩⟩⟩⟩⟩⟩⟩⟩⟩⟩⟩⟩⟩ ⟨rfl, ⟨rfl, trivial⟩⟩ trivial rfl
              refine tr_region rfl (.run [] [] rfl (st_addn rfl rfl rfl (by omega)) (.run [] [] rfl (st_move rfl) .nil)) ?_
              refine nxt (Q := fun _ _ => False) (z := (i, f)) (i + 1, (doneF f c).1) ?_ ?_ ?_
              · show (i + 1) ≤ keep.length ∧ (namesOk ((doneF f c).1) = true ∧ ((doneF f c).1).length ≤ 60 + (i + 1) ∧ totF ((doneF f c).1) ≤ 200000 + (i + 1) * 1000000) ∧ crashRun d keep torn (i + 1) (keep.drop (i + 1)) ((doneF f c).1) = crashRun d keep torn 0 keep d.safe
                exact ⟨by omega, ⟨names_done hN hcf, by have := done_len f c; omega, by have := done_tot1 f c; omega⟩, by rw [hc]; exact crash_step hR he hb⟩
              · show keep.length - (i + 1) < keep.length - i
                omega
              · exact wk_mk ⟨rfl, ⟨rfl, ⟨rfl, ⟨rfl, ⟨rfl, ⟨rfl, ⟨rfl, ⟨(int_eq (by omega)), trivial⟩⟩⟩⟩⟩⟩⟩⟩ ⟨rfl, ⟨rfl, trivial⟩⟩ trivial rfl
            · skip
              replace h9 := of_decide_eq_false h9
              refine tr_skip ?_
              obtain ⟨c, hc⟩ : ∃ c, c = crashOp d keep torn i e := ⟨_, rfl⟩
              have hcc : c = o := by rw [hc, crashOp, if_neg (by omega), hoa]
              have hcf : formF c = true := by rw [hcc]; exact hof
              have hcz : c.data.size ≤ 1000000 := by rw [hcc]; exact hoz
              have hcz2 : (o).data.size ≤ 1000000 := by rw [← hcc]; exact hcz
              refine tr_wk (s' := mk [(1, .p none (.sl false 1 (pvI keep))), (2, .p none (.v (.int .i64 torn))), (3, .ptr 3 0), (6, .ptr 6 0), (8, .p none (.sl false 2 (pvF f))), (11, .ptr 11 0), (17, .p none (.sl false 1 (pvI keep))), (18, .p none (.v (.int .i64 ((pvI keep).length : Int)))), (19, .p none (.v (.int .i64 (i:Int)))), (32, .p none (.v (.int .i64 (i:Int)))), (33, .p none (.v (.bool true))), (34, .p none (.v (.bool true))), (35, .p none (.v (.int .i64 e))), (36, .p none (.sl false 1 (pvI keep))), (37, .p none (.v (.int .i64 (i:Int)))), (38, .p none (.v (.int .i64 ((i - 1 : Nat):Int)))), (39, .fea none [PV.v (.int .i64 e2)]), (40, .p none (.v (.int .i64 e2))), (41, .p none (.v (.bool (decide (e ≤ e2))))), (42, .p none (.v (.bool (decide (e ≤ e2)))))] [(3, [.p none (.sl false 2 (pvF d.live)), .p none (.sl false 2 (pvF d.safe)), .p none (.sl false 4 (pvD d.ops))]), (6, [.nils, .nils, .nils]), (11, [.p none (.v (.int .i64 o.kind)), .p none (.v (.string o.name)), .p none (.v (.string o.dest)), .p none (.v (.string o.data))])] []) ?_ ?_
              · exact wk_mk ⟨rfl, ⟨rfl, ⟨rfl, ⟨rfl, ⟨rfl, ⟨rfl, ⟨rfl, ⟨rfl, ⟨rfl, ⟨rfl, ⟨rfl, ⟨rfl, ⟨rfl, ⟨rfl, ⟨rfl, ⟨rfl, ⟨rfl, ⟨rfl, ⟨rfl, ⟨rfl, trivial⟩⟩⟩⟩⟩⟩⟩⟩⟩⟩⟩⟩⟩⟩⟩⟩⟩⟩⟩⟩ ⟨rfl, ⟨rfl, ⟨rfl, trivial⟩⟩⟩ trivial rfl
              refine tr_region rfl (.run [] [] rfl (st_move rfl) (.run [] [] rfl (st_load_box rfl rfl rfl Try.isAgg36 Try.sizeOf36 (nle rfl)) (.run [6700, 6701] [] rfl (st_call rfl 6700 (X := []) en35 rfl (.val nod) (.cons (.one (.bor (.sl nod))) (.cons (.agg (.cons (.bor .v) (.cons (.bor .v) (.cons (.bor .v) (.cons (.bor .v) .nil))))) .nil)) (by decide) all_nil .nil (done_named hcc (done_con f o (namesOk_srt hN) (by omega) (by omega) (by omega))) rfl rfl (nle rfl)) (.run [] [] rfl (st_move rfl) (.run [] [] rfl (st_extract rfl rfl rfl) (.run [] [] rfl (st_extract rfl rfl rfl) (.run [] [] rfl (st_assign rfl) .nil))))))) ?_
              refine tr_wk (wk_frz 6700 rfl) ?_
              have hp11 : (.p none (.sl false 2 (((pvF ((doneF f c).1)).drop 0).take ((pvF ((doneF f c).1)).length))) : AV) = .p none (.sl false 2 (pvF ((doneF f c).1))) := by simp only [frz_all]
              refine tr_wk (s' := mk [(1, .p none (.sl false 1 (pvI keep))), (2, .p none (.v (.int .i64 torn))), (3, .ptr 3 0), (6, .ptr 6 0), (8, .p none (.sl false 2 (pvF ((doneF f c).1)))), (17, .p none (.sl false 1 (pvI keep))), (18, .p none (.v (.int .i64 ((pvI keep).length : Int)))), (19, .p none (.v (.int .i64 (i:Int)))), (32, .p none (.v (.int .i64 (i:Int)))), (33, .p none (.v (.bool true))), (34, .p none (.v (.bool true))), (35, .p none (.v (.int .i64 e))), (36, .p none (.sl false 1 (pvI keep))), (37, .p none (.v (.int .i64 (i:Int)))), (38, .p none (.v (.int .i64 ((i - 1 : Nat):Int)))), (39, .fea none [PV.v (.int .i64 e2)]), (40, .p none (.v (.int .i64 e2))), (41, .p none (.v (.bool (decide (e ≤ e2))))), (42, .p none (.v (.bool (decide (e ≤ e2)))))] [(3, [.p none (.sl false 2 (pvF d.live)), .p none (.sl false 2 (pvF d.safe)), .p none (.sl false 4 (pvD d.ops))]), (6, [.nils, .nils, .nils])] []) ?_ ?_
              · exact wk_mk ⟨rfl, ⟨rfl, ⟨rfl, ⟨rfl, ⟨hp11, ⟨rfl, ⟨rfl, ⟨rfl, ⟨rfl, ⟨rfl, ⟨rfl, ⟨rfl, ⟨rfl, ⟨rfl, ⟨rfl, ⟨rfl, ⟨rfl, ⟨rfl, ⟨rfl, trivial⟩⟩⟩⟩⟩⟩⟩⟩⟩⟩⟩⟩⟩⟩⟩⟩⟩⟩⟩ ⟨rfl, ⟨rfl, trivial⟩⟩ trivial rfl
              refine tr_region rfl (.run [] [] rfl (st_addn rfl rfl rfl (by omega)) (.run [] [] rfl (st_move rfl) .nil)) ?_
              refine nxt (Q := fun _ _ => False) (z := (i, f)) (i + 1, (doneF f c).1) ?_ ?_ ?_
              · show (i + 1) ≤ keep.length ∧ (namesOk ((doneF f c).1) = true ∧ ((doneF f c).1).length ≤ 60 + (i + 1) ∧ totF ((doneF f c).1) ≤ 200000 + (i + 1) * 1000000) ∧ crashRun d keep torn (i + 1) (keep.drop (i + 1)) ((doneF f c).1) = crashRun d keep torn 0 keep d.safe
                exact ⟨by omega, ⟨names_done hN hcf, by have := done_len f c; omega, by have := done_tot1 f c; omega⟩, by rw [hc]; exact crash_step hR he hb⟩
              · show keep.length - (i + 1) < keep.length - i
                omega
              · exact wk_mk ⟨rfl, ⟨rfl, ⟨rfl, ⟨rfl, ⟨rfl, ⟨rfl, ⟨rfl, ⟨(int_eq (by omega)), trivial⟩⟩⟩⟩⟩⟩⟩⟩ ⟨rfl, ⟨rfl, trivial⟩⟩ trivial rfl
      · have h3' := h3
        replace h3' : (within e 0 ((d.ops.length : Int) - 1)) = false := bnot_t h3'
        refine tr_region rfl (.run [] [] rfl (st_move rfl) (.run [] [] rfl (st_faddr_box rfl rfl Try.underlying27 rfl Try.sizeOf25 (by decide)) (.run [] [] rfl (st_load_box1 rfl rfl rfl Try.isAgg25 rfl) (.run [] [] rfl (st_len_fro rfl rfl Try.underlying25) (.run [] [] rfl (st_eq (st_subn rfl rfl rfl (by omega)) ((int_eq (by omega)))) (.run [2900] [] rfl (st_call rfl 2900 (X := []) en68 rfl (.val nod) (.cons (.one (.bor .v)) (.cons (.one (.bor .v)) (.cons (.one (.bor .v)) .nil))) (by decide) all_nil .nil (within_con e 0 ((d.ops.length : Int) - 1)) rfl rfl (nle rfl)) (.run [] [] rfl (st_eq (st_not (b := within e 0 ((d.ops.length : Int) - 1)) rfl rfl) (by exact congrArg (fun b => AV.p none (.v (.bool b))) h3)) (.run [] [] rfl (st_move rfl) (.not rfl (.not rfl (.not rfl (.not rfl (.not rfl (.not rfl (.not rfl (.not rfl (.not rfl (.not rfl (.not rfl (.run [] [] rfl (st_pick (t := true) rfl rfl) .nil)))))))))))))))))))) ?_
        refine tr_if (t := true) rfl (fun _ => ?_) (fun h => nomatch h)
        refine tr_seq ?_
        have hb : keepBad d keep i e = true := keep_win h3'
        rw [show crashF d keep torn = (dskZ, false) from crash_bad htn hR he hb]
        refine tr_wk (s' := mk [(6, .ptr 6 0)] [(6, [.nils, .nils, .nils])] []) ?_ ?_
        · exact wk_mk ⟨rfl, trivial⟩ ⟨rfl, trivial⟩ trivial rfl
        refine tr_region rfl (.run [] [] rfl (st_build (pl := [(0, 1), (1, 1), (2, 1)]) rfl Try.underlying27 inf27 (by kernel_rfl) rfl rfl) (.run [] [] rfl (st_store_box rfl rfl rfl rfl rfl Try.sizeOf27 rfl (nle rfl)) (.run [] [] rfl (st_assign rfl) .nil))) ?_
        refine tr_ret ?_
        exact ends [_, _] [] (.cons (.cell rfl rfl Try.isAgg27 Try.sizeOf27 (nle rfl)) (.cons (.tmp rfl) .nil)) (.cons (.agg (.cons (.nil _) (.cons (.nil _) (.cons (.nil _) .nil))) (cl_cons (.sl _ _ (fun _ h => nomatch h)) (cl_cons (.sl _ _ (fun _ h => nomatch h)) (cl_cons (.sl _ _ (fun _ h => nomatch h)) cl_nil)))) (.cons (.one .v (.v _)) .nil)) (by decide) trivial
    · skip
      replace h2 := of_decide_eq_false h2
      refine tr_exit ?_
      refine tr_seq ?_
      refine tr_seq ?_
      refine tr_region rfl (.run [] [] rfl (st_move rfl) (.run [7200] [] rfl (st_call rfl 7200 (X := []) en36 rfl (.val nod) (.cons (.one (.bor (.sl nod))) .nil) (by decide) all_nil .nil (fit_con f (by omega) (by omega)) rfl rfl (nle rfl)) (.run [] [] rfl (st_not (b := fitF f) rfl rfl) .nil))) ?_
      refine tr_if (t := (!(fitF f))) rfl (fun h12 => ?_) (fun h12 => ?_)
      · skip
        replace h12 : (fitF f) = false := bnot_t h12
        refine tr_seq ?_
        rw [show crashF d keep torn = (dskZ, false) by rw [crash_end htn hR (by omega), if_neg (by simp [h12])]]
        refine tr_region rfl (.run [] [] rfl (st_build (pl := [(0, 1), (1, 1), (2, 1)]) rfl Try.underlying27 inf27 (by kernel_rfl) rfl rfl) (.run [] [] rfl (st_store_box rfl rfl rfl rfl rfl Try.sizeOf27 rfl (nle rfl)) (.run [] [] rfl (st_assign rfl) .nil))) ?_
        refine tr_ret ?_
        exact ends [_, _] [] (.cons (.cell rfl rfl Try.isAgg27 Try.sizeOf27 (nle rfl)) (.cons (.tmp rfl) .nil)) (.cons (.agg (.cons (.nil _) (.cons (.nil _) (.cons (.nil _) .nil))) (cl_cons (.sl _ _ (fun _ h => nomatch h)) (cl_cons (.sl _ _ (fun _ h => nomatch h)) (cl_cons (.sl _ _ (fun _ h => nomatch h)) cl_nil)))) (.cons (.one .v (.v _)) .nil)) (by decide) trivial
      · skip
        replace h12 : (fitF f) = true := bnot_f h12
        refine tr_skip ?_
        refine tr_seq ?_
        rw [show crashF d keep torn = (⟨f, f, []⟩, true) by rw [crash_end htn hR (by omega), if_pos h12]]
        refine tr_region rfl (.run [] [] rfl (st_move rfl) (.run [7600] [] rfl (st_call rfl 7600 (X := []) en69 rfl (.val nod) (.cons (.one (.bor (.sl nod))) .nil) (by decide) all_nil .nil (cloneF_con f (by omega)) rfl rfl (nle rfl)) (.run [] [] rfl (st_move rfl) (.run [7800] [] rfl (st_call rfl 7800 (X := []) en69 rfl (.val nod) (.cons (.one (.bor (.sl nod))) .nil) (by decide) all_nil .nil (cloneF_con f (by omega)) rfl rfl (nle rfl)) (.run [] [] rfl (st_build (pl := [(0, 1), (1, 1), (2, 1)]) rfl Try.underlying27 inf27 (by kernel_rfl) rfl rfl) (.run [] [] rfl (st_store_box rfl rfl rfl rfl rfl Try.sizeOf27 rfl (nle rfl)) (.run [] [] rfl (st_assign rfl) .nil))))))) ?_
        refine tr_ret ?_
        exact ends [_, _] [7600, 7800] (.cons (.cell rfl rfl Try.isAgg27 Try.sizeOf27 (nle rfl)) (.cons (.tmp rfl) .nil)) (.cons (.agg (.cons (.row (len := (pvF f).length) (xs := pvF f) rfl rfl) (.cons (.row (len := (pvF f).length) (xs := pvF f) rfl rfl) (.cons (.nil _) .nil))) (cl_cons (.sl _ _ (FlatP.clean (pvF_flat _))) (cl_cons (.sl _ _ (FlatP.clean (pvF_flat _))) (cl_cons (.sl _ _ (fun _ h => nomatch h)) cl_nil)))) (.cons (.one .v (.v _)) .nil)) (by decide) trivial
set_option maxRecDepth 1000000 in
set_option maxHeartbeats 2000000 in
theorem implCrash_con (d : Dsk) (keep : List Int) (torn : Int) (hd : DB 900000000 d) (hk : keep.length ≤ 1000) (hop : ∀ op ∈ d.ops, op.data.size ≤ 1000000) : Con Try.prog 13 [.agg [PV.sl false 2 (pvF d.live), PV.sl false 2 (pvF d.safe), PV.sl false 4 (pvD d.ops)], .one (PV.sl false 1 (pvI keep)), .one (PV.v (.int .i64 torn))] [] [.agg [.sl true 2 (pvF (crashD d keep torn).1.live), .sl true 2 (pvF (crashD d keep torn).1.safe), .sl true 4 (pvD (crashD d keep torn).1.ops)], .one (.v (.bool (crashD d keep torn).2))] := by
  refine con_of_tr Try.func13 rfl rfl rfl rfl ?_
  have hld := pvF_length d.live
  have hsd := pvF_length d.safe
  have hod := pvD_length d.ops
  have hkl := pvI_length keep
  refine tr_seq ?_
  refine tr_region rfl (.run [] [3] rfl (st_box rfl 3 rfl rfl (by decide) rfl (by decide)) (.run [] [6] rfl (st_allocZ rfl 6 inf27 rfl (by decide) rfl (by decide)) (.run [] [] rfl (st_assign rfl) .nil))) ?_
  refine tr_seq ?_
  refine tr_seq ?_
  have hop9 : ∀ op ∈ d.ops, op.data.size ≤ 900000000 := fun o ho => Nat.le_trans (hop o ho) (by decide)
  refine tr_region rfl (.run [] [] rfl (st_load_box rfl rfl rfl Try.isAgg27 Try.sizeOf27 (nle rfl)) (.run [900] [] rfl (st_call rfl 900 (X := []) en11 rfl (.val nod) (.cons (.agg (.cons (.bor (.sl nod)) (.cons (.bor (.sl nod)) (.cons (.bor (.sl nod)) .nil)))) .nil) (by decide) all_nil .nil (diskOk_con d (by assumption) (by assumption)) rfl rfl (nle rfl)) (.run [] [] rfl (st_not (b := diskOk d) rfl rfl) .nil))) ?_
  refine tr_if (t := (!(diskOk d))) rfl (fun h1 => ?_) (fun h1 => ?_)
  · skip
    replace h1 : (diskOk d) = false := bnot_t h1
    refine tr_seq ?_
    rw [show crashD d keep torn = (dskZ, false) from crash_off h1]
    refine tr_region rfl (.run [] [] rfl (st_build (pl := [(0, 1), (1, 1), (2, 1)]) rfl Try.underlying27 inf27 (by kernel_rfl) rfl rfl) (.run [] [] rfl (st_store_box rfl rfl rfl rfl rfl Try.sizeOf27 rfl (nle rfl)) (.run [] [] rfl (st_assign rfl) .nil))) ?_
    refine tr_ret ?_
    exact ends [_, _] [] (.cons (.cell rfl rfl Try.isAgg27 Try.sizeOf27 (nle rfl)) (.cons (.tmp rfl) .nil)) (.cons (.agg (.cons (.nil _) (.cons (.nil _) (.cons (.nil _) .nil))) (cl_cons (.sl _ _ (fun _ h => nomatch h)) (cl_cons (.sl _ _ (fun _ h => nomatch h)) (cl_cons (.sl _ _ (fun _ h => nomatch h)) cl_nil)))) (.cons (.one .v (.v _)) .nil)) (by decide) trivial
  · skip
    replace h1 : (diskOk d) = true := bnot_f h1
    refine tr_skip ?_
    refine tr_seq ?_
    rw [show crashD d keep torn = crashF d keep torn by rw [crashD, if_pos h1]]
    refine tr_region rfl (.run [] [] rfl (st_load_box rfl rfl rfl Try.isAgg27 Try.sizeOf27 (nle rfl)) (.run [] [] rfl (st_move rfl) (.run [] [] rfl (st_move rfl) (.run [1500, 1501, 1502, 1503] [] rfl (st_call rfl 1500 (X := []) en42 rfl (.val nod) (.cons (.agg (.cons (.bor (.sl nod)) (.cons (.bor (.sl nod)) (.cons (.bor (.sl nod)) .nil)))) (.cons (.one (.bor (.sl nod))) (.cons (.one (.bor .v)) .nil))) (by decide) all_nil .nil (crash_con d keep torn h1 hk hop) rfl rfl (nle rfl)) (.run [] [] rfl (st_extract rfl rfl rfl) (.run [] [] rfl (st_extract rfl rfl rfl) (.run [] [] rfl (st_store_box rfl rfl rfl rfl rfl Try.sizeOf27 rfl (nle rfl)) (.run [] [] rfl (st_assign rfl) .nil)))))))) ?_
    refine tr_ret ?_
    exact ends [_, _] [1500, 1501, 1502] (.cons (.cell rfl rfl Try.isAgg27 Try.sizeOf27 (nle rfl)) (.cons (.tmp rfl) .nil)) (.cons (.agg (.cons (.row (len := (pvF ((crashF d keep torn).1.live)).length) (xs := pvF ((crashF d keep torn).1.live)) rfl rfl) (.cons (.row (len := (pvF ((crashF d keep torn).1.safe)).length) (xs := pvF ((crashF d keep torn).1.safe)) rfl rfl) (.cons (.row (len := (pvD ((crashF d keep torn).1.ops)).length) (xs := pvD ((crashF d keep torn).1.ops)) rfl rfl) .nil))) (cl_cons (.sl _ _ (FlatP.clean (pvF_flat _))) (cl_cons (.sl _ _ (FlatP.clean (pvF_flat _))) (cl_cons (.sl _ _ (FlatP.clean (pvD_flat _))) cl_nil)))) (.cons (.one .v (.v _)) .nil)) (by decide) trivial
set_option maxRecDepth 1000000 in
set_option maxHeartbeats 2000000 in
theorem sameFiles_con (a b : List Fil) (hl : a.length ≤ 1000000000) : Con Try.prog 15 [.one (PV.sl false 2 (pvF a)), .one (PV.sl false 2 (pvF b))] [] [.one (.v (.bool (decide (a = b))))] := by
  refine con_of_tr Try.func15 rfl rfl rfl rfl ?_
  have hla := pvF_length a
  have hlb := pvF_length b
  refine tr_seq ?_
  refine tr_region rfl (.run [] [] rfl (st_assign rfl) .nil) ?_
  refine tr_seq ?_
  refine tr_seq ?_
  refine tr_region rfl (.run [] [] rfl (st_move rfl) (.run [] [] rfl (st_len_fro rfl rfl Try.underlying24) (.run [] [] rfl (st_move rfl) (.run [] [] rfl (st_len_fro rfl rfl Try.underlying24) (.run [] [] rfl (st_neq rfl rfl rfl) .nil))))) ?_
  refine tr_if (t := (!(decide (((pvF a).length : Int) = ((pvF b).length : Int))))) rfl (fun h1 => ?_) (fun h1 => ?_)
  · skip
    replace h1 : ¬ (((pvF a).length : Int) = ((pvF b).length : Int)) := of_decide_eq_false (bnot_t h1)
    refine tr_seq ?_
    refine tr_region rfl (.run [] [] rfl (st_assign rfl) .nil) ?_
    refine tr_ret ?_
    exact ends [_] [] (.cons (.tmp (bool_eq (decide_eq_false (fun e => by subst e; omega)).symm)) .nil) (.cons (.one .v (.v _)) .nil) (by decide) trivial
  · skip
    replace h1 : ((pvF a).length : Int) = ((pvF b).length : Int) := of_decide_eq_true (bnot_f h1)
    refine tr_skip ?_
    refine tr_seq ?_
    refine tr_seq ?_
    refine tr_region rfl (.run [] [] rfl (st_assign rfl) .nil) ?_
    refine tr_block ?_
    refine tr_loopS (σ := Nat) (fun i => mk [(0, .p none (.sl false 2 (pvF a))), (1, .p none (.sl false 2 (pvF b))), (5, .p none (.v (.int .i64 (i:Int))))] [] []) (fun i => i ≤ a.length ∧ ∀ j, j < i → a[j]? = b[j]?) (fun i => a.length - i) 0 ⟨Nat.zero_le _, fun j hj => absurd hj (Nat.not_lt_zero j)⟩ (wk_mk ⟨rfl, ⟨rfl, ⟨(int_eq (by omega)), trivial⟩⟩⟩ trivial trivial rfl) ?_
    rintro i hG
    replace hG : i ≤ a.length ∧ ∀ j, j < i → a[j]? = b[j]? := hG
    obtain ⟨hi, hG⟩ := hG
    refine tr_seq ?_
    refine tr_seq ?_
    refine tr_region rfl (.run [] [] rfl (st_move rfl) (.run [] [] rfl (st_move rfl) (.run [] [] rfl (st_len_fro rfl rfl Try.underlying24) (.run [] [] rfl (st_lss rfl rfl rfl) .nil)))) ?_
    refine tr_if (t := decide ((i:Int) < ((pvF a).length : Int))) rfl (fun h2 => ?_) (fun h2 => ?_)
    · skip
      replace h2 := of_decide_eq_true h2
      refine tr_skip ?_
      refine tr_seq ?_
      refine tr_block ?_
      refine tr_seq ?_
      obtain ⟨e, he⟩ : ∃ e, a[i]? = some e := ⟨_, List.getElem?_eq_getElem (by (have hL := pvF_length a; omega))⟩
      have hlte := (List.getElem?_eq_some_iff.1 he).1
      obtain ⟨e2, he2⟩ : ∃ e, b[i]? = some e := ⟨_, List.getElem?_eq_getElem (by (have hL := pvF_length b; omega))⟩
      have hlte2 := (List.getElem?_eq_some_iff.1 he2).1
      refine tr_regionD mixed rfl (.run [] [] rfl (st_move rfl) (.run [] [] rfl (st_move rfl) (.run [] [] rfl (st_idx_fro rfl rfl rfl Try.underlying24 Try.sizeOf69 rfl (by omega) (pvF_get he)) (.run [] [] rfl (st_load_fea rfl rfl Try.isAgg69 Try.sizeOf69 (nle rfl)) (.run [] [] rfl (st_move rfl) (.run [] [] rfl (st_move rfl) (.run [] [] rfl (st_idx_fro rfl rfl rfl Try.underlying24 Try.sizeOf69 rfl (by omega) (pvF_get he2)) (.run [] [] rfl (st_load_fea rfl rfl Try.isAgg69 Try.sizeOf69 (nle rfl)) (.run [] [] rfl (st_aneq rfl rfl rfl rfl rfl Try.eqGuardType69 (fun w => Fil_eqIn e e2 w)) .nil))))))))) (by kernel_rfl) ?_
      refine tr_if (t := (!(decide (e = e2)))) rfl (fun h3 => ?_) (fun h3 => ?_)
      · skip
        replace h3 : ¬ (e = e2) := of_decide_eq_false (bnot_t h3)
        refine tr_seq ?_
        refine tr_region rfl (.run [] [] rfl (st_assign rfl) .nil) ?_
        refine tr_ret ?_
        exact ends [_] [] (.cons (.tmp (bool_eq (decide_eq_false (glist_ne he he2 h3)).symm)) .nil) (.cons (.one .v (.v _)) .nil) (by decide) trivial
      · skip
        replace h3 : e = e2 := of_decide_eq_true (bnot_f h3)
        refine tr_skip ?_
        refine tr_region rfl (.run [] [] rfl (st_move rfl) (.run [] [] rfl (st_addn rfl rfl rfl (by omega)) (.run [] [] rfl (st_assign rfl) .nil))) ?_
        refine nxt (Q := fun _ _ => False) (z := i) (i + 1) ?_ ?_ ?_
        · show (i + 1) ≤ a.length ∧ ∀ j, j < (i + 1) → a[j]? = b[j]?
          exact ⟨by omega, glist_step hG he he2 h3⟩
        · show a.length - (i + 1) < a.length - i
          omega
        · exact wk_mk ⟨rfl, ⟨rfl, ⟨(int_eq (by omega)), trivial⟩⟩⟩ trivial trivial rfl
    · skip
      replace h2 := of_decide_eq_false h2
      refine tr_exit ?_
      refine tr_seq ?_
      refine tr_region rfl (.run [] [] rfl (st_assign rfl) .nil) ?_
      refine tr_ret ?_
      exact ends [_] [] (.cons (.tmp (bool_eq (decide_eq_true (glist_all (by omega) (by omega) hG)).symm)) .nil) (.cons (.one .v (.v _)) .nil) (by decide) trivial
theorem sameFiles_self (a : List Fil) (hl : a.length ≤ 1000000000) : Con Try.prog 15 [.one (PV.sl false 2 (pvF a)), .one (PV.sl false 2 (pvF a))] [] [.one (.v (.bool true))] := by
  simpa using sameFiles_con a a hl
end Go.Rl
namespace Go.Rl
open Go.Proofs
theorem inf90 : (Try.prog.info? 90).map (fun i => (i.zero, i.size, i.bytes)) = some (some (.agg #[.slice none 0 0, .int .i64 0]), 2, 32) := by kernel_rfl
theorem en31 : ∀ vs w, (callFunc 31 vs).run Try.prog w = .ok (.enter 31 vs) w := enters Try.func31 (by decide) rfl
theorem en32 : ∀ vs w, (callFunc 32 vs).run Try.prog w = .ok (.enter 32 vs) w := enters Try.func32 (by decide) rfl
theorem en9 : ∀ vs w, (callFunc 9 vs).run Try.prog w = .ok (.enter 9 vs) w := enters Try.func9 (by decide) rfl
theorem en13 : ∀ vs w, (callFunc 13 vs).run Try.prog w = .ok (.enter 13 vs) w := enters Try.func13 (by decide) rfl
theorem en15 : ∀ vs w, (callFunc 15 vs).run Try.prog w = .ok (.enter 15 vs) w := enters Try.func15 (by decide) rfl
theorem ok_named {f : Nat} {A : List PA} {d : Dsk} {b : Bool} (h : diskOk d = b) (hc : Con Try.prog f A [] [.one (.v (.bool (diskOk d)))]) : Con Try.prog f A [] [.one (.v (.bool b))] := by
  subst h
  exact hc
set_option maxRecDepth 1000000 in
set_option maxHeartbeats 2000000 in
theorem big0_con {γ : Gho} (bs : List Nat) (A : Option Addr) (c : Nat) : ConG γ Try.prog 9 [.one (PV.v (.slice A bs.length c))] [] [.one (.v (.bool (decide ((1048576 : Int) < (bs.length : Int)))))] := by
  refine con_of_tr Try.func9 rfl rfl rfl rfl ?_
  refine tr_seq ?_
  refine tr_region rfl (.run [] [] rfl (st_assign rfl) .nil) ?_
  refine tr_seq ?_
  refine tr_region rfl (.run [] [] rfl (st_move rfl) (.run [] [] rfl (st_len_v rfl rfl Try.underlying22) (.run [] [] rfl (st_gtr rfl rfl rfl) (.run [] [] rfl (st_assign rfl) .nil)))) ?_
  refine tr_ret ?_
  exact ends [_] [] (.cons (.tmp rfl) .nil) (.cons (.one .v (.v _)) .nil) (by decide) trivial
theorem big_con {γ : Gho} {cv : Value} {bs : List Nat} (hc : CodeAt γ cv bs) : ConG γ Try.prog 9 [.one (.v cv)] [] [.one (.v (.bool (decide ((1048576 : Int) < (bs.length : Int)))))] := by
  obtain ⟨A, c, rfl, hcc⟩ := hc
  exact big0_con bs A c
set_option maxRecDepth 1000000 in
set_option maxHeartbeats 2000000 in
theorem open_con {γ : Gho} (cv : Value) : ConG γ Try.prog 31 [.one (PV.v (cv))] [] [.rptr 2 [.v cv, .v (.int .i64 (0:Int))]] := by
  refine con_of_tr Try.func31 rfl rfl rfl rfl ?_
  refine tr_seq ?_
  refine tr_region rfl (.run [] [] rfl (st_assign rfl) .nil) ?_
  refine tr_seq ?_
  refine tr_region rfl (.run [] [] rfl (st_move rfl) (.run [] [] rfl (st_build (pl := [(0, 1), (1, 1)]) rfl Try.underlying90 inf90 (by kernel_rfl) rfl rfl) (.run [500] [] rfl (st_box_row rfl 500 rfl rfl rfl (by decide) rfl (by decide)) (.run [] [] rfl (st_assign rfl) .nil)))) ?_
  refine tr_ret ?_
  exact ends [_] [500] (.cons (.tmp rfl) .nil) (.cons (.rptr rfl pvRd_clean) .nil) (by decide) trivial
end Go.Rl
namespace Go.Rl
theorem has_mem {l : List Fil} {n : ByteArray} : hasF l n = true ↔ ∃ f ∈ l, f.name = n := by simp [hasF]
theorem has_cut (l : List Fil) (n m : ByteArray) : hasF (cutF l n) m = (hasF l m && !decide (m = n)) := by
  rw [Bool.eq_iff_iff]
  simp only [has_mem, cutF, List.mem_filter, Bool.and_eq_true, Bool.not_eq_true', decide_eq_false_iff_not]
  constructor
  · rintro ⟨f, ⟨h1, h2⟩, rfl⟩; exact ⟨⟨f, h1, rfl⟩, h2⟩
  · rintro ⟨⟨f, h1, rfl⟩, h2⟩; exact ⟨f, ⟨h1, h2⟩, rfl⟩
theorem put_mem {l : List Fil} (h : Srt l) (n d : ByteArray) (f : Fil) : f ∈ putF l n d ↔ f = ⟨n, d⟩ ∨ (f ∈ l ∧ f.name ≠ n) := by
  cases srt_at h n with
  | yes A g C e hn hA hC hp hh hd =>
    subst e
    rw [put_yes hn hA hC]
    simp only [List.mem_append, List.mem_cons]
    constructor
    · rintro (h1 | rfl | h1)
      · exact .inr ⟨.inl h1, lt_ne (hA f h1)⟩
      · exact .inl rfl
      · exact .inr ⟨.inr (.inr h1), gt_ne (hC f h1)⟩
    · rintro (rfl | ⟨h1 | rfl | h1, h2⟩)
      · exact .inr (.inl rfl)
      · exact .inl h1
      · exact absurd hn h2
      · exact .inr (.inr h1)
  | no A B e hA hB hp hh hd =>
    subst e
    rw [put_no hA hB]
    simp only [List.mem_append, List.mem_cons]
    constructor
    · rintro (h1 | rfl | h1)
      · exact .inr ⟨.inl h1, lt_ne (hA f h1)⟩
      · exact .inl rfl
      · exact .inr ⟨.inr h1, gt_ne (hB f h1)⟩
    · rintro (rfl | ⟨h1 | h1, h2⟩)
      · exact .inr (.inl rfl)
      · exact .inl h1
      · exact .inr (.inr h1)
theorem has_put {l : List Fil} (h : Srt l) (n d m : ByteArray) : hasF (putF l n d) m = (decide (m = n) || hasF l m) := by
  rw [Bool.eq_iff_iff]
  simp only [has_mem, put_mem h, Bool.or_eq_true, decide_eq_true_eq]
  constructor
  · rintro ⟨f, h1 | ⟨h1, h2⟩, rfl⟩
    · subst h1; exact .inl rfl
    · exact .inr ⟨f, h1, rfl⟩
  · rintro (rfl | ⟨f, h1, rfl⟩)
    · exact ⟨⟨m, d⟩, .inl rfl, rfl⟩
    · by_cases hn : f.name = n
      · exact ⟨⟨n, d⟩, .inl rfl, hn.symm⟩
      · exact ⟨f, .inr ⟨h1, hn⟩, rfl⟩
/-- In a row in order a name tells its file. -/
theorem srt_one {l : List Fil} (h : Srt l) {f g : Fil} (hf : f ∈ l) (hg : g ∈ l) (hn : f.name = g.name) : f = g := by
  obtain ⟨i, hi⟩ := List.getElem?_of_mem hf
  obtain ⟨j, hj⟩ := List.getElem?_of_mem hg
  obtain ⟨h1, rfl⟩ := List.getElem?_eq_some_iff.1 hi
  obtain ⟨h2, rfl⟩ := List.getElem?_eq_some_iff.1 hj
  rcases Nat.lt_trichotomy i j with hij | rfl | hij
  · exact absurd hn (lt_ne ((List.pairwise_iff_getElem.1 h) i j h1 h2 hij))
  · rfl
  · exact absurd hn.symm (lt_ne ((List.pairwise_iff_getElem.1 h) j i h2 h1 hij))
theorem dat_mem {l : List Fil} (h : Srt l) {f : Fil} (hf : f ∈ l) : datF l f.name = f.data := by
  obtain ⟨e, h1, h2, h3⟩ := has_at h (has_mem.2 ⟨f, hf, rfl⟩)
  rw [h3, srt_one h hf (List.mem_of_getElem? h1) h2.symm]
theorem srt_put {l : List Fil} (h : Srt l) (n d : ByteArray) : Srt (putF l n d) := by
  cases srt_at h n with
  | yes A g C e hn hA hC hp hh hd =>
    subst e
    rw [put_yes hn hA hC]
    obtain ⟨h1, h2, h3⟩ := List.pairwise_append.1 h
    refine List.pairwise_append.2 ⟨h1, List.pairwise_cons.2 ⟨fun x hx => hC x hx, (List.pairwise_cons.1 h2).2⟩, fun a ha b hb => ?_⟩
    rcases List.mem_cons.1 hb with rfl | hb
    · exact hA a ha
    · exact h3 a ha b (List.mem_cons_of_mem _ hb)
  | no A B e hA hB hp hh hd =>
    subst e
    rw [put_no hA hB]
    obtain ⟨h1, h2, h3⟩ := List.pairwise_append.1 h
    refine List.pairwise_append.2 ⟨h1, List.pairwise_cons.2 ⟨fun x hx => hB x hx, h2⟩, fun a ha b hb => ?_⟩
    rcases List.mem_cons.1 hb with rfl | hb
    · exact hA a ha
    · exact h3 a ha b hb
theorem dat_put {l : List Fil} (h : Srt l) (n d : ByteArray) : datF (putF l n d) n = d := dat_mem (f := ⟨n, d⟩) (srt_put h n d) ((put_mem h n d ⟨n, d⟩).2 (.inl rfl))
theorem dat_put_ne {l : List Fil} (h : Srt l) {n d m : ByteArray} (hm : m ≠ n) : datF (putF l n d) m = datF l m := by
  cases hh : hasF l m with
  | false =>
    have : hasF (putF l n d) m = false := by rw [has_put h, hh]; simp [hm]
    rw [dat_no this, dat_no hh]
  | true =>
    obtain ⟨f, h1, rfl⟩ := has_mem.1 hh
    rw [dat_mem (f := f) (srt_put h n d) ((put_mem h n d f).2 (.inr ⟨h1, hm⟩)), dat_mem h h1]
end Go.Rl
namespace Go.Rl
theorem act_inv {d : Dsk} {op : DOp} (hc : (actF d op).2 = 0) : formF op = true ∧ (doneF d.live op).2 = true ∧ (actF d op).1 = ⟨(doneF d.live op).1, d.safe, d.ops ++ [op]⟩ := by
  unfold actF at hc ⊢
  by_cases h1 : formF op = false
  · rw [if_pos h1] at hc; cases hc
  · rw [if_neg h1] at hc ⊢
    by_cases h2 : (doneF d.live op).2 = false
    · rw [if_pos h2] at hc; cases hc
    · rw [if_neg h2] at hc ⊢
      by_cases h3 : d.ops.length = 200 ∨ filesOk (doneF d.live op).1 = false
      · rw [if_pos h3] at hc; cases hc
      · rw [if_neg h3]
        exact ⟨by simpa using h1, by simpa using h2, rfl⟩
theorem act_same {d : Dsk} {op : DOp} (hc : ¬ (actF d op).2 = 0) : (actF d op).1 = d := by
  unfold actF at hc ⊢
  split
  · rfl
  · rename_i h1
    rw [if_neg h1] at hc
    split
    · rfl
    · rename_i h2
      rw [if_neg h2] at hc
      split
      · rfl
      · rename_i h3
        rw [if_neg h3] at hc
        exact absurd rfl hc
theorem read_eq {d : Dsk} (h : diskOk d = true) (n : ByteArray) : readF d n = (datF d.live n, hasF d.live n) := by
  unfold readF
  cases hh : hasF d.live n with
  | true => rw [if_pos ⟨h, rfl⟩]
  | false => rw [if_neg (fun x => by cases x.2), dat_no hh]
theorem form_kind {op : DOp} (h : formF op = true) : op.kind = 1 ∨ op.kind = 2 ∨ op.kind = 3 := by
  simp only [formF, within, Bool.and_eq_true, decide_eq_true_eq] at h
  omega
structure DoneLaw (d a : Dsk) (op : DOp) : Prop where
  ok : diskOk a = true
  safe : a.safe = d.safe
  ops : a.ops.length = d.ops.length + 1
  kind : op.kind = 1 ∨ op.kind = 2 ∨ op.kind = 3
  app : op.kind = 1 → (readF a op.name).2 = true ∧ (readF a op.name).1 = (readF d op.name).1 ++ op.data
  mv : op.kind = 2 → (readF a op.dest).2 = true ∧ (readF a op.dest).1 = (readF d op.name).1 ∧ (readF a op.name).2 = decide (op.dest = op.name)
  rm : op.kind = 3 → (readF a op.name).2 = false
theorem done_law {d : Dsk} {op : DOp} (h : diskOk d = true) (hc : (actF d op).2 = 0) : DoneLaw d (actF d op).1 op := by
  have hok := act_ok h hc
  obtain ⟨hf, hd, ha⟩ := act_inv hc
  have hs := namesOk_srt (files_names (ok_live h))
  rw [ha] at hok ⊢
  refine ⟨hok, rfl, by simp, form_kind hf, fun hk => ?_, fun hk => ?_, fun hk => ?_⟩
  · have hdone : (doneF d.live op).1 = putF d.live op.name (datF d.live op.name ++ op.data) := by rw [done_1 hk]
    rw [read_eq hok, read_eq h]
    simp only [hdone]
    exact ⟨by rw [has_put hs]; simp, dat_put hs _ _⟩
  · have hh : hasF d.live op.name = true := by
      cases hx : hasF d.live op.name with
      | true => rfl
      | false => rw [done_2 (by omega) hx] at hd; cases hd
    have hdone : (doneF d.live op).1 = putF (cutF d.live op.name) op.dest (datF d.live op.name) := by rw [done_3 hk hh]
    have hs2 := srt_cutF hs op.name
    rw [read_eq hok, read_eq hok, read_eq h]
    simp only [hdone]
    refine ⟨by rw [has_put hs2]; simp, dat_put hs2 _ _, ?_⟩
    rw [has_put hs2, has_cut]
    by_cases e : op.dest = op.name
    · simp [e]
    · have e2 : ¬ op.name = op.dest := fun x => e x.symm
      simp [e, e2]
  · have hh : hasF d.live op.name = true := by
      cases hx : hasF d.live op.name with
      | true => rfl
      | false => rw [done_2 (by omega) hx] at hd; cases hd
    have hdone : (doneF d.live op).1 = cutF d.live op.name := by rw [done_4 (by omega) (by omega) hh]
    rw [read_eq hok]
    simp only [hdone]
    rw [has_cut]
    simp
end Go.Rl
namespace Go.Rl
def opB : DOp := ⟨1, ⟨#[98]⟩, ⟨#[]⟩, ⟨#[]⟩⟩
def ddStep (d : Dsk) : Dsk := if (doF d opB).2 = 0 then (doF d opB).1 else d
def ddLoop (bs : List Nat) : Nat → Dsk × Nat → Dsk
  | 0, x => x.1
  | n + 1, x => if x.1.ops.length < 199 + belowV bs x.2 2 then ddLoop bs n (ddStep x.1, belowP bs x.2 2) else x.1
theorem dre_do {d : Dsk} {op : DOp} (h : DrE d) (ho : op.data.size ≤ 4) (hc : (doF d op).2 = 0) : DrE (doF d op).1 := by
  unfold doF at hc ⊢
  by_cases hk : diskOk d = true
  · rw [if_pos hk] at hc ⊢
    have ha := act_ok hk hc
    exact ⟨ok_ops ha, (ok_db ha).up (by decide), act_ops h.op ho⟩
  · rw [if_neg hk] at hc
    cases hc
theorem dre_step {d : Dsk} (h : DrE d) : DrE (ddStep d) := by
  unfold ddStep
  split
  · rename_i hc; exact dre_do h (Nat.zero_le _) hc
  · exact h
theorem ddLoop_ok {bs : List Nat} : ∀ {n : Nat} {x : Dsk × Nat}, DrE x.1 → DrE (ddLoop bs n x)
  | 0, _, h => h
  | n + 1, x, h => by
    rw [ddLoop]
    split
    · exact ddLoop_ok (dre_step h)
    · exact h
theorem dd_go {bs : List Nat} {i : Nat} {d r : Dsk} {q : Nat} (hi : i < 200) (h : ddLoop bs (200 - i) (d, q) = r) (hc : d.ops.length < 199 + belowV bs q 2) : ddLoop bs (200 - (i + 1)) (ddStep d, belowP bs q 2) = r := by
  obtain ⟨n, hn⟩ : ∃ n, 200 - i = n + 1 := ⟨199 - i, by omega⟩
  rw [hn, ddLoop, if_pos hc] at h
  rw [show 200 - (i + 1) = n by omega]
  exact h
theorem dd_stop {bs : List Nat} {i : Nat} {d r : Dsk} {q : Nat} (hi : i < 200) (h : ddLoop bs (200 - i) (d, q) = r) (hc : ¬ d.ops.length < 199 + belowV bs q 2) : r = d := by
  obtain ⟨n, hn⟩ : ∃ n, 200 - i = n + 1 := ⟨199 - i, by omega⟩
  rw [hn, ddLoop, if_neg hc] at h
  exact h.symm
theorem dd_end {bs : List Nat} {i : Nat} {d r : Dsk} {q : Nat} (hi : 200 ≤ i) (h : ddLoop bs (200 - i) (d, q) = r) : r = d := by
  rw [show 200 - i = 0 by omega, ddLoop] at h
  exact h.symm
theorem ddStep_y {d : Dsk} (h : (doF d opB).2 = 0) : ddStep d = (doF d opB).1 := if_pos h
theorem ddStep_n {d : Dsk} (h : ¬ (doF d opB).2 = 0) : ddStep d = d := if_neg h
/-- The end of the draw. -/
def ddTail (bs : List Nat) (d : Dsk) (op : DOp) (q : Nat) : Dsk × DOp :=
  if belowV bs q 20 = 0 then (d, ⟨offV bs (belowP bs q 20) 1 3, op.name, op.dest, op.data⟩)
  else if belowV bs q 20 = 1 then (d, ⟨op.kind, ⟨#[]⟩, op.dest, op.data⟩)
  else if belowV bs q 20 = 2 then (d, ⟨op.kind, op.name, ⟨#[120]⟩, op.data⟩)
  else if belowV bs q 20 = 3 then (ddLoop bs 200 (d, belowP bs q 20), op)
  else (d, op)
def drawDoV (bs : List Nat) : Dsk × DOp := ddTail bs (diskV bs 0).1 (dopV bs (diskV bs 0).2) (dopP bs (diskV bs 0).2)
theorem drawDo_ok (bs : List Nat) : DrE (drawDoV bs).1 ∧ (drawDoV bs).2.data.size ≤ 4 := by
  have h1 := (diskV_ok (bs := bs) (p := 0) (Nat.zero_le _)).1
  have h2 := dop_data bs (diskV bs 0).2
  unfold drawDoV ddTail
  split
  · exact ⟨h1, h2⟩
  · split
    · exact ⟨h1, h2⟩
    · split
      · exact ⟨h1, h2⟩
      · split
        · exact ⟨ddLoop_ok (x := ((diskV bs 0).1, belowP bs (dopP bs (diskV bs 0).2) 20)) h1, h2⟩
        · exact ⟨h1, h2⟩
theorem ddt_0 {bs : List Nat} {d : Dsk} {op : DOp} {q : Nat} (h : belowV bs q 20 = 0) : ddTail bs d op q = (d, ⟨offV bs (belowP bs q 20) 1 3, op.name, op.dest, op.data⟩) := by simp [ddTail, h]
theorem ddt_1 {bs : List Nat} {d : Dsk} {op : DOp} {q : Nat} (h : belowV bs q 20 = 1) : ddTail bs d op q = (d, ⟨op.kind, ⟨#[]⟩, op.dest, op.data⟩) := by simp [ddTail, h]
theorem ddt_2 {bs : List Nat} {d : Dsk} {op : DOp} {q : Nat} (h : belowV bs q 20 = 2) : ddTail bs d op q = (d, ⟨op.kind, op.name, ⟨#[120]⟩, op.data⟩) := by simp [ddTail, h]
theorem ddt_3 {bs : List Nat} {d : Dsk} {op : DOp} {q : Nat} (h : belowV bs q 20 = 3) : ddTail bs d op q = (ddLoop bs 200 (d, belowP bs q 20), op) := by simp [ddTail, h]
theorem ddt_4 {bs : List Nat} {d : Dsk} {op : DOp} {q : Nat} (h0 : belowV bs q 20 ≠ 0) (h1 : belowV bs q 20 ≠ 1) (h2 : belowV bs q 20 ≠ 2) (h3 : belowV bs q 20 ≠ 3) : ddTail bs d op q = (d, op) := by simp [ddTail, h0, h1, h2, h3]
theorem read_size {d : Dsk} (h : diskOk d = true) (n : ByteArray) : (readF d n).1.size ≤ 200000 := by
  rw [read_eq h]
  exact Nat.le_trans (dat_tot _ _) (files_fit (ok_live h)).2
theorem doF_act {d : Dsk} (h : diskOk d = true) (op : DOp) : doF d op = actF d op := if_pos h
theorem doF_bad {d : Dsk} (h : diskOk d = false) (op : DOp) : doF d op = (dskZ, 1) := if_neg (by simp [h])
end Go.Rl

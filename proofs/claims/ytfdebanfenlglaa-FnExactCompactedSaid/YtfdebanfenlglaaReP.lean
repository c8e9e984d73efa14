/- Promises of functions, proved by walks over their operations; no conditions beyond those that each theorem states. -/
import Derived.Test.YtfdebanfenlglaaReN
set_option linter.unusedSimpArgs false
set_option linter.unusedVariables false
namespace Go.Rl
open Go.Proofs
theorem en33 : ∀ vs w, (callFunc 33 vs).run Try.prog w = .ok (.enter 33 vs) w := enters Try.func33 (by decide) rfl
theorem en29 : ∀ vs w, (callFunc 29 vs).run Try.prog w = .ok (.enter 29 vs) w := enters Try.func29 (by decide) rfl
theorem en34 : ∀ vs w, (callFunc 34 vs).run Try.prog w = .ok (.enter 34 vs) w := enters Try.func34 (by decide) rfl
theorem markE_ext {e : Ent} {x0 x1 x2 x3} (h0 : e.user = x0) (h1 : e.seq = x1) (h2 : e.kind = x2) (h3 : e.value = x3) : e = ⟨x0, x1, x2, x3⟩ := by cases e; simp_all
theorem open_boo {ps : List PV} (h : Fits [.bool] ps) : ∃ b : Bool, ps = [.v (.bool b)] := by
  obtain ⟨p0, e0, rfl, f0, h⟩ := fits_cons h
  obtain rfl := fits_nil h
  obtain ⟨b, rfl⟩ := fit_bool f0
  exact ⟨b, rfl⟩
set_option maxRecDepth 1000000 in
set_option maxHeartbeats 2000000 in
theorem heldEntryS_con (l : List Ent) (k : Nat) (hk : k + 4 * l.length ≤ 1099511627776) : Con Try.prog 34 [.one (PV.sl false 4 (pvE l)), .one (PV.v (.int .i64 (k:Int)))] [] [.one (.v (.int .i64 (heldG markE 4 k l)))] := by
  refine con_of_tr Try.func34 rfl rfl rfl rfl ?_
  have hle := pvE_length l
  refine tr_seq ?_
  refine tr_region rfl (.run [] [] rfl (st_assign rfl) .nil) ?_
  refine tr_seq ?_
  refine tr_seq ?_
  refine tr_region rfl (.run [] [] rfl (st_assign rfl) .nil) ?_
  refine tr_block ?_
  refine tr_loopS (σ := Nat) (fun i => mk [(0, .p none (.sl false 4 (pvE l))), (1, .p none (.v (.int .i64 ((k + 4 * i : Nat) : Int)))), (5, .p none (.v (.int .i64 (i:Int))))] [] []) (fun i => i ≤ l.length ∧ ∀ j (e : Ent), j < i → l[j]? = some e → e = markE k j) (fun i => l.length - i) 0 ⟨Nat.zero_le _, fun _ _ h => absurd h (Nat.not_lt_zero _)⟩ (wk_mk ⟨rfl, ⟨(int_eq (by omega)), ⟨(int_eq (by omega)), trivial⟩⟩⟩ trivial trivial rfl) ?_
  rintro i hG
  replace hG : i ≤ l.length ∧ ∀ j (e : Ent), j < i → l[j]? = some e → e = markE k j := hG
  obtain ⟨hi, hG⟩ := hG
  refine tr_seq ?_
  refine tr_seq ?_
  refine tr_region rfl (.run [] [] rfl (st_move rfl) (.run [] [] rfl (st_move rfl) (.run [] [] rfl (st_len_fro rfl rfl Try.underlying26) (.run [] [] rfl (st_lss rfl rfl rfl) .nil)))) ?_
  refine tr_if (t := decide ((i:Int) < ((pvE l).length : Int))) rfl (fun h1 => ?_) (fun h1 => ?_)
  · skip
    replace h1 := of_decide_eq_true h1
    refine tr_skip ?_
    refine tr_seq ?_
    refine tr_block ?_
    refine tr_seq ?_
    refine tr_seq ?_
    obtain ⟨e, he⟩ : ∃ e, l[i]? = some e := ⟨_, List.getElem?_eq_getElem (by (have hL := pvE_length l; omega))⟩
    have hlte := (List.getElem?_eq_some_iff.1 he).1
    refine tr_regionD mixed rfl (.run [] [] rfl (st_move rfl) (.run [] [] rfl (st_move rfl) (.run [] [] rfl (st_idx_fro rfl rfl rfl Try.underlying26 Try.sizeOf44 rfl (by omega) (pvE_get he)) (.run [] [] rfl (st_faddr_fea rfl rfl Try.underlying44 rfl Try.sizeOf42 (by decide)) (.run [] [] rfl (st_faddr_fea rfl rfl Try.underlying42 rfl Try.sizeOf9 (by decide)) (.run [] [] rfl (st_load_fea1 rfl rfl Try.isAgg9 rfl) (.run [] [] rfl (st_move rfl) (.run [1900] [] rfl (st_call rfl 1900 (X := []) en76 rfl (.val nod) (.cons (.one (.bor .v)) .nil) (by decide) all_nil .nil (markText_con (k + 4 * i) (by omega)) rfl rfl (nle rfl)) (.run [] [] rfl (st_sneq rfl rfl rfl) .nil))))))))) (by kernel_rfl) ?_
    refine tr_if (t := (!(decide (e.user = (markT (k + 4 * i)))))) rfl (fun h2 => ?_) (fun h2 => ?_)
    · skip
      replace h2 : ¬ (e.user = (markT (k + 4 * i))) := of_decide_eq_false (bnot_t h2)
      refine tr_seq ?_
      refine tr_region rfl (.run [] [] rfl (st_assign rfl) .nil) ?_
      refine tr_ret ?_
      exact ends [_] [] (.cons (.tmp (int_eq (by rw [heldG, if_neg (gheld_ne he (fun h => h2 (congrArg Ent.user h)))]))) .nil) (.cons (.one .v (.v _)) .nil) (by decide) trivial
    · skip
      replace h2 : e.user = (markT (k + 4 * i)) := of_decide_eq_true (bnot_f h2)
      refine tr_skip ?_
      refine tr_seq ?_
      refine tr_region rfl (.run [] [] rfl (st_move rfl) (.run [] [] rfl (st_addn rfl rfl rfl (by omega)) (.run [] [] rfl (st_assign rfl) .nil))) ?_
      refine tr_seq ?_
      refine tr_seq ?_
      refine tr_wk (s' := mk [(0, .p none (.sl false 4 (pvE l))), (1, .p none (.v (.int .i64 (((k + 4 * i : Nat) : Int) + 1)))), (5, .p none (.v (.int .i64 (i:Int))))] [] []) ?_ ?_
      · exact wk_mk ⟨rfl, ⟨rfl, ⟨rfl, trivial⟩⟩⟩ trivial trivial rfl
      refine tr_region rfl (.run [] [] rfl (st_move rfl) (.run [] [] rfl (st_move rfl) (.run [] [] rfl (st_idx_fro rfl rfl rfl Try.underlying26 Try.sizeOf44 rfl (by omega) (pvE_get he)) (.run [] [] rfl (st_faddr_fea rfl rfl Try.underlying44 rfl Try.sizeOf42 (by decide)) (.run [] [] rfl (st_faddr_fea rfl rfl Try.underlying42 rfl Try.sizeOf2 (by decide)) (.run [] [] rfl (st_load_fea1 rfl rfl Try.isAgg2 rfl) (.run [] [] rfl (st_move rfl) (.run [] [] rfl (st_neq rfl rfl rfl) .nil)))))))) ?_
      refine tr_if (t := (!(decide (e.seq = (((k + 4 * i : Nat) : Int) + 1))))) rfl (fun h3 => ?_) (fun h3 => ?_)
      · skip
        replace h3 : ¬ (e.seq = (((k + 4 * i : Nat) : Int) + 1)) := of_decide_eq_false (bnot_t h3)
        refine tr_seq ?_
        refine tr_region rfl (.run [] [] rfl (st_assign rfl) .nil) ?_
        refine tr_ret ?_
        exact ends [_] [] (.cons (.tmp (int_eq (by rw [heldG, if_neg (gheld_ne he (fun h => h3 (congrArg Ent.seq h)))]))) .nil) (.cons (.one .v (.v _)) .nil) (by decide) trivial
      · skip
        replace h3 : e.seq = (((k + 4 * i : Nat) : Int) + 1) := of_decide_eq_true (bnot_f h3)
        refine tr_skip ?_
        refine tr_seq ?_
        refine tr_region rfl (.run [] [] rfl (st_move rfl) (.run [] [] rfl (st_addn rfl rfl rfl (by omega)) (.run [] [] rfl (st_assign rfl) .nil))) ?_
        refine tr_seq ?_
        refine tr_seq ?_
        refine tr_wk (s' := mk [(0, .p none (.sl false 4 (pvE l))), (1, .p none (.v (.int .i64 ((((k + 4 * i : Nat) : Int) + 1) + 1)))), (5, .p none (.v (.int .i64 (i:Int))))] [] []) ?_ ?_
        · exact wk_mk ⟨rfl, ⟨rfl, ⟨rfl, trivial⟩⟩⟩ trivial trivial rfl
        refine tr_region rfl (.run [] [] rfl (st_move rfl) (.run [] [] rfl (st_move rfl) (.run [] [] rfl (st_idx_fro rfl rfl rfl Try.underlying26 Try.sizeOf44 rfl (by omega) (pvE_get he)) (.run [] [] rfl (st_faddr_fea rfl rfl Try.underlying44 rfl Try.sizeOf42 (by decide)) (.run [] [] rfl (st_faddr_fea rfl rfl Try.underlying42 rfl Try.sizeOf2 (by decide)) (.run [] [] rfl (st_load_fea1 rfl rfl Try.isAgg2 rfl) (.run [] [] rfl (st_move rfl) (.run [] [] rfl (st_neq rfl rfl rfl) .nil)))))))) ?_
        refine tr_if (t := (!(decide (e.kind = ((((k + 4 * i : Nat) : Int) + 1) + 1))))) rfl (fun h4 => ?_) (fun h4 => ?_)
        · skip
          replace h4 : ¬ (e.kind = ((((k + 4 * i : Nat) : Int) + 1) + 1)) := of_decide_eq_false (bnot_t h4)
          refine tr_seq ?_
          refine tr_region rfl (.run [] [] rfl (st_assign rfl) .nil) ?_
          refine tr_ret ?_
          exact ends [_] [] (.cons (.tmp (int_eq (by rw [heldG, if_neg (gheld_ne he (fun h => h4 (congrArg Ent.kind h)))]))) .nil) (.cons (.one .v (.v _)) .nil) (by decide) trivial
        · skip
          replace h4 : e.kind = ((((k + 4 * i : Nat) : Int) + 1) + 1) := of_decide_eq_true (bnot_f h4)
          refine tr_skip ?_
          refine tr_seq ?_
          refine tr_region rfl (.run [] [] rfl (st_move rfl) (.run [] [] rfl (st_eq (st_addn rfl rfl rfl (by omega)) ((show (AV.p none (.v (.int .i64 (((k + 4 * i : Nat) : Int) + 1 + 1 + 1)))) = AV.p none (.v (.int .i64 ((k + 4 * i + 3 : Nat) : Int))) from int_eq (by omega)))) (.run [] [] rfl (st_assign rfl) .nil))) ?_
          refine tr_seq ?_
          refine tr_seq ?_
          refine tr_wk (s' := mk [(0, .p none (.sl false 4 (pvE l))), (1, .p none (.v (.int .i64 ((k + 4 * i + 3 : Nat) : Int)))), (5, .p none (.v (.int .i64 (i:Int))))] [] []) ?_ ?_
          · exact wk_mk ⟨rfl, ⟨rfl, ⟨rfl, trivial⟩⟩⟩ trivial trivial rfl
          refine tr_regionD mixed rfl (.run [] [] rfl (st_move rfl) (.run [] [] rfl (st_move rfl) (.run [] [] rfl (st_idx_fro rfl rfl rfl Try.underlying26 Try.sizeOf44 rfl (by omega) (pvE_get he)) (.run [] [] rfl (st_faddr_fea rfl rfl Try.underlying44 rfl Try.sizeOf9 (by decide)) (.run [] [] rfl (st_load_fea1 rfl rfl Try.isAgg9 rfl) (.run [] [] rfl (st_move rfl) (.run [4900] [] rfl (st_call rfl 4900 (X := []) en76 rfl (.val nod) (.cons (.one (.bor .v)) .nil) (by decide) all_nil .nil (markText_con (k + 4 * i + 3) (by omega)) rfl rfl (nle rfl)) (.run [] [] rfl (st_sneq rfl rfl rfl) .nil)))))))) (by kernel_rfl) ?_
          refine tr_if (t := (!(decide (e.value = (markT (k + 4 * i + 3)))))) rfl (fun h5 => ?_) (fun h5 => ?_)
          · skip
            replace h5 : ¬ (e.value = (markT (k + 4 * i + 3))) := of_decide_eq_false (bnot_t h5)
            refine tr_seq ?_
            refine tr_region rfl (.run [] [] rfl (st_assign rfl) .nil) ?_
            refine tr_ret ?_
            exact ends [_] [] (.cons (.tmp (int_eq (by rw [heldG, if_neg (gheld_ne he (fun h => h5 (congrArg Ent.value h)))]))) .nil) (.cons (.one .v (.v _)) .nil) (by decide) trivial
          · skip
            replace h5 : e.value = (markT (k + 4 * i + 3)) := of_decide_eq_true (bnot_f h5)
            refine tr_skip ?_
            refine tr_region rfl (.run [] [] rfl (st_move rfl) (.run [] [] rfl (st_addn rfl rfl rfl (by omega)) (.run [] [] rfl (st_assign rfl) .nil))) ?_
            refine tr_region rfl (.run [] [] rfl (st_move rfl) (.run [] [] rfl (st_addn rfl rfl rfl (by omega)) (.run [] [] rfl (st_assign rfl) .nil))) ?_
            refine nxt (Q := fun _ _ => False) (z := i) (i + 1) ?_ ?_ ?_
            · show (i + 1) ≤ l.length ∧ ∀ j (e : Ent), j < (i + 1) → l[j]? = some e → e = markE k j
              exact ⟨by omega, gheld_step hG he (markE_ext h2 h3 h4 h5)⟩
            · show l.length - (i + 1) < l.length - i
              omega
            · exact wk_mk ⟨rfl, ⟨(int_eq (by omega)), ⟨(int_eq (by omega)), trivial⟩⟩⟩ trivial trivial rfl
  · skip
    replace h1 := of_decide_eq_false h1
    refine tr_exit ?_
    refine tr_seq ?_
    refine tr_region rfl (.run [] [] rfl (st_move rfl) (.run [] [] rfl (st_assign rfl) .nil)) ?_
    refine tr_ret ?_
    exact ends [_] [] (.cons (.tmp (int_eq (by rw [heldG, if_pos (gheld_all (by omega) hG)]; omega))) .nil) (.cons (.one .v (.v _)) .nil) (by decide) trivial
theorem heldE_self (k n : Nat) (hk : k + 4 * n ≤ 1099511627776) : Con Try.prog 34 [.one (PV.sl false 4 (pvE (marksG markE k n))), .one (.v (.int .i64 (k:Int)))] [] [.one (.v (.int .i64 ((k + 4 * n : Nat) : Int)))] := by
  have := heldEntryS_con (marksG markE k n) k (by rw [gm_len]; exact hk)
  rwa [gheld_self] at this
set_option maxRecDepth 1000000 in
set_option maxHeartbeats 2000000 in
theorem law_compacted_con (l : List Ent) (s : List Int) (b : Bool) (hl : l.length ≤ 9223372036854775807) (hn : ∀ e ∈ l, e.user.size ≤ 9223372036854775807 ∧ e.value.size ≤ 9223372036854775807) : Con Try.prog 5 [.one (PV.sl false 4 (pvE l)), .one (PV.sl false 1 (pvI s)), .one (PV.v (.bool b))] [] [.one (.v (.bool true))] := by
  refine con_of_tr Try.func5 rfl rfl rfl rfl ?_
  have hle := pvE_length l
  have hls := pvI_length s
  refine tr_seq ?_
  refine tr_region rfl (.run [] [] rfl (st_assign rfl) .nil) ?_
  refine tr_seq ?_
  refine tr_seq ?_
  refine tr_region rfl (.run [] [] rfl (st_move rfl) (.run [] [] rfl (st_len_fro rfl rfl Try.underlying23) (.run [] [] rfl (st_gtr rfl rfl rfl) .nil))) ?_
  refine tr_if (t := decide (1048576 < ((pvI s).length : Int))) rfl (fun h1 => ?_) (fun h1 => ?_)
  · skip
    replace h1 := of_decide_eq_true h1
    refine tr_seq ?_
    refine tr_region rfl (.run [] [] rfl (st_assign rfl) .nil) ?_
    refine tr_ret ?_
    exact ends [_] [] (.cons (.tmp rfl) .nil) (.cons (.one .v (.v _)) .nil) (by decide) trivial
  · skip
    replace h1 := of_decide_eq_false h1
    refine tr_skip ?_
    refine tr_seq ?_
    refine tr_region rfl (.run [] [] rfl (st_assign rfl) .nil) ?_
    refine tr_seq ?_
    refine tr_region rfl (.run [] [] rfl (st_move rfl) (.run [] [] rfl (st_move rfl) (.run [2100] [] rfl (st_call rfl 2100 (X := []) en17 rfl (.val nod) (.cons (.one (.bor (.sl nod))) (.cons (.one (.bor .v)) .nil)) (by decide) all_nil .nil (szEntryS_con l 1048576 (by omega) hl hn) rfl rfl (nle rfl)) (.run [] [] rfl (st_assign rfl) .nil)))) ?_
    refine tr_seq ?_
    refine tr_seq ?_
    refine tr_region rfl (.run [] [] rfl (st_move rfl) (.run [] [] rfl (st_lss rfl rfl rfl) .nil)) ?_
    refine tr_if (t := decide ((szS wE l 1048576) < 0)) rfl (fun h2 => ?_) (fun h2 => ?_)
    · skip
      replace h2 := of_decide_eq_true h2
      refine tr_seq ?_
      refine tr_region rfl (.run [] [] rfl (st_assign rfl) .nil) ?_
      refine tr_ret ?_
      exact ends [_] [] (.cons (.tmp rfl) .nil) (.cons (.one .v (.v _)) .nil) (by decide) trivial
    · skip
      replace h2 := of_decide_eq_false h2
      refine tr_skip ?_
      refine tr_seq ?_
      have hl2 := gsz_len h2
      have hnd := compactedF_len l s b
      have hln := pvE_length (compactedF l s b)
      refine tr_wk (s' := mk [(0, .p none (.sl false 4 (pvE l))), (1, .p none (.sl false 1 (pvI s))), (2, .p none (.v (.bool b)))] [] []) ?_ ?_
      · exact wk_mk ⟨rfl, ⟨rfl, ⟨rfl, trivial⟩⟩⟩ trivial trivial rfl
      refine tr_region rfl (.run [] [] rfl (st_move rfl) (.run [2500] [] rfl (st_call rfl 2500 (X := []) en19 rfl (.val nod) (.cons (.one (.bor (.sl nod))) .nil) (by decide) all_nil .nil (toEntryS_con l (by omega)) rfl rfl (nle rfl)) (.run [] [] rfl (st_move rfl) (.run [2700] [] rfl (st_call rfl 2700 (X := []) en20 rfl (.val nod) (.cons (.one (.bor (.sl nod))) .nil) (by decide) all_nil .nil (toInt64S_con s (by omega)) rfl rfl (nle rfl)) (.run [] [] rfl (st_move rfl) (.run [2500, 2700, 2900] [] rfl (st_call rfl 2900 (X := []) en33 rfl (.val nod) (.cons (.one (.bor (.all (len := (pvE l).length) (xs := pvE l) rfl rfl (by decide)))) (.cons (.one (.bor (.all (len := (pvI s).length) (xs := pvI s) rfl rfl (by decide)))) (.cons (.one (.bor .v)) .nil))) (by decide) all_nil .nil (specCompacted_con l s b (by omega) (by omega)) rfl rfl (nle rfl)) (.run [] [] rfl (st_assign rfl) .nil))))))) ?_
      refine tr_seq ?_
      refine tr_region rfl (.run [] [] rfl (st_move rfl) (.run [3100] [] rfl (st_call rfl 3100 (X := []) en19 rfl (.val nod) (.cons (.one (.bor (.sl nod))) .nil) (by decide) all_nil .nil (toEntryS_con l (by omega)) rfl rfl (nle rfl)) (.run [] [] rfl (st_assign rfl) .nil))) ?_
      refine tr_seq ?_
      refine tr_region rfl (.run [] [] rfl (st_move rfl) (.run [3300] [] rfl (st_call rfl 3300 (X := []) en20 rfl (.val nod) (.cons (.one (.bor (.sl nod))) .nil) (by decide) all_nil .nil (toInt64S_con s (by omega)) rfl rfl (nle rfl)) (.run [] [] rfl (st_assign rfl) .nil))) ?_
      refine tr_seq ?_
      refine tr_wk (s' := mk [(0, .p none (.sl false 4 (pvE l))), (1, .p none (.sl false 1 (pvI s))), (2, .p none (.v (.bool b))), (8, .sl 2900 0 ((pvE (compactedF l s b)).length)), (9, .sl 3100 0 ((pvE l).length)), (10, .sl 3300 0 ((pvI s).length))] [] [(2900, 4, pvE (compactedF l s b)), (3100, 4, pvE l), (3300, 1, pvI s)]) ?_ ?_
      · exact wk_mk ⟨rfl, ⟨rfl, ⟨rfl, ⟨rfl, ⟨rfl, ⟨rfl, trivial⟩⟩⟩⟩⟩⟩ trivial ⟨rfl, ⟨rfl, ⟨rfl, trivial⟩⟩⟩ rfl
      refine tr_region rfl (.run [] [] rfl (st_move rfl) (.run [] [] rfl (st_move rfl) (.run [] [] rfl (st_move rfl) (.run [3100, 3300, 3700] [] rfl (st_call rfl 3700 (X := []) en29 rfl (.val nod) (.cons (.one (.bor (.all (len := (pvE l).length) (xs := pvE l) rfl rfl (by decide)))) (.cons (.one (.bor (.all (len := (pvI s).length) (xs := pvI s) rfl rfl (by decide)))) (.cons (.one (.bor .v)) .nil))) (by decide) all_nil .nil (progCompacted_con2 l s b (by omega) (by omega)) rfl rfl (nle rfl)) (.run [] [] rfl (st_assign rfl) .nil))))) ?_
      refine tr_seq ?_
      refine tr_seq ?_
      refine tr_region rfl (.run [] [] rfl (st_move rfl) (.run [] [] rfl (st_move rfl) (.run [2900, 3700, 4000] [] rfl (st_call rfl 4000 (X := []) en23 rfl (.val nod) (.cons (.one (.bor (.all (len := (pvE (compactedF l s b)).length) (xs := pvE (compactedF l s b)) rfl rfl (by decide)))) (.cons (.one (.bor (.all (len := (pvE (compactedF l s b)).length) (xs := pvE (compactedF l s b)) rfl rfl (by decide)))) .nil)) (by decide) all_nil .nil (eqE_self (compactedF l s b) (by omega)) rfl rfl (nle rfl)) (.run [] [] rfl (st_not (b := true) rfl rfl) .nil)))) ?_
      refine tr_if (t := false) rfl (fun h => nomatch h) (fun _ => ?_)
      refine tr_skip ?_
      refine tr_seq ?_
      refine tr_seq ?_
      refine tr_region rfl (.run [] [] rfl (st_move rfl) (.run [] [] rfl (st_move rfl) (.run [4400] [] rfl (st_call rfl 4400 (X := []) en19 rfl (.val nod) (.cons (.one (.bor (.sl nod))) .nil) (by decide) all_nil .nil (toEntryS_con l (by omega)) rfl rfl (nle rfl)) (.run [3100, 4400, 4500] [] rfl (st_call rfl 4500 (X := []) en23 rfl (.val nod) (.cons (.one (.bor (.all (len := (pvE l).length) (xs := pvE l) rfl rfl (by decide)))) (.cons (.one (.bor (.all (len := (pvE l).length) (xs := pvE l) rfl rfl (by decide)))) .nil)) (by decide) all_nil .nil (eqE_self l (by omega)) rfl rfl (nle rfl)) (.run [] [] rfl (st_not (b := true) rfl rfl) .nil))))) ?_
      refine tr_if (t := false) rfl (fun h => nomatch h) (fun _ => ?_)
      refine tr_skip ?_
      refine tr_seq ?_
      refine tr_seq ?_
      refine tr_wk (s' := mk [(0, .p none (.sl false 4 (pvE l))), (1, .p none (.sl false 1 (pvI s))), (2, .p none (.v (.bool b))), (8, .sl 2900 0 ((pvE (compactedF l s b)).length)), (9, .sl 3100 0 ((pvE l).length)), (10, .sl 3300 0 ((pvI s).length)), (11, .sl 3700 0 ((pvE (compactedF l s b)).length))] [] [(2900, 4, pvE (compactedF l s b)), (3100, 4, pvE l), (3300, 1, pvI s), (3700, 4, pvE (compactedF l s b))]) ?_ ?_
      · exact wk_mk ⟨rfl, ⟨rfl, ⟨rfl, ⟨rfl, ⟨rfl, ⟨rfl, ⟨rfl, trivial⟩⟩⟩⟩⟩⟩⟩ trivial ⟨rfl, ⟨rfl, ⟨rfl, ⟨rfl, trivial⟩⟩⟩⟩ rfl
      refine tr_region rfl (.run [] [] rfl (st_move rfl) (.run [] [] rfl (st_move rfl) (.run [4900] [] rfl (st_call rfl 4900 (X := []) en20 rfl (.val nod) (.cons (.one (.bor (.sl nod))) .nil) (by decide) all_nil .nil (toInt64S_con s (by omega)) rfl rfl (nle rfl)) (.run [3300, 4900, 5000] [] rfl (st_call rfl 5000 (X := []) en22 rfl (.val nod) (.cons (.one (.bor (.all (len := (pvI s).length) (xs := pvI s) rfl rfl (by decide)))) (.cons (.one (.bor (.all (len := (pvI s).length) (xs := pvI s) rfl rfl (by decide)))) .nil)) (by decide) all_nil .nil (eqI_self s (by omega)) rfl rfl (nle rfl)) (.run [] [] rfl (st_not (b := true) rfl rfl) .nil))))) ?_
      refine tr_if (t := false) rfl (fun h => nomatch h) (fun _ => ?_)
      refine tr_skip ?_
      refine tr_seq ?_
      refine tr_region rfl (.run [] [] rfl (st_assign rfl) .nil) ?_
      refine tr_seq ?_
      refine tr_region rfl (.run [] [] rfl (st_move rfl) (.run [] [] rfl (st_move rfl) (.run [3100, 5400] [] rfl (st_call rfl 5400 (X := [3100]) en24 rfl (.val nod) (.cons (.one (.own (len := (pvE l).length) (xs := pvE l) rfl rfl)) (.cons (.one (.bor .v)) .nil)) (by decide) (all_cons rfl all_nil) (.keep (xs := pvE l) rfl (FlatP.nf (pvE_flat _)) .nil) (markEntryS_con l 1 (by omega)) rfl rfl (nle rfl)) (.run [] [] rfl (st_assign rfl) .nil)))) ?_
      refine tr_seq ?_
      refine tr_region rfl (.run [] [] rfl (st_move rfl) (.run [] [] rfl (st_move rfl) (.run [3300, 5700] [] rfl (st_call rfl 5700 (X := [3300]) en25 rfl (.val nod) (.cons (.one (.own (len := (pvI s).length) (xs := pvI s) rfl rfl)) (.cons (.one (.bor .v)) .nil)) (by decide) (all_cons rfl all_nil) (.keep (xs := pvI s) rfl (FlatP.nf (pvI_flat _)) .nil) (markInt64S_con s (1 + 4 * l.length) (by omega)) rfl rfl (nle rfl)) (.run [] [] rfl (st_assign rfl) .nil)))) ?_
      refine tr_seq ?_
      refine tr_seq ?_
      refine tr_wk (s' := mk [(0, .p none (.sl false 4 (pvE l))), (1, .p none (.sl false 1 (pvI s))), (2, .p none (.v (.bool b))), (8, .sl 2900 0 ((pvE (compactedF l s b)).length)), (11, .sl 3700 0 ((pvE (compactedF l s b)).length)), (12, .p none (.v (.int .i64 (((1 + 4 * l.length) + 1 * s.length : Nat) : Int))))] [] [(2900, 4, pvE (compactedF l s b)), (3700, 4, pvE (compactedF l s b))]) ?_ ?_
      · exact wk_mk ⟨rfl, ⟨rfl, ⟨rfl, ⟨rfl, ⟨rfl, ⟨rfl, trivial⟩⟩⟩⟩⟩⟩ trivial ⟨rfl, ⟨rfl, trivial⟩⟩ rfl
      refine tr_region rfl (.run [] [] rfl (st_move rfl) (.run [] [] rfl (st_eq (st_lss rfl rfl rfl) (bool_eq (decide_eq_false (by omega)))) (.run [] [] rfl (st_move rfl) (.run [] [] rfl (st_move rfl) (.run [] [] rfl (st_move rfl) (.run [2900, 3700, 6300] [] rfl (st_call rfl 6300 (X := []) en23 rfl (.val nod) (.cons (.one (.bor (.all (len := (pvE (compactedF l s b)).length) (xs := pvE (compactedF l s b)) rfl rfl (by decide)))) (.cons (.one (.bor (.all (len := (pvE (compactedF l s b)).length) (xs := pvE (compactedF l s b)) rfl rfl (by decide)))) .nil)) (by decide) all_nil .nil (eqE_self (compactedF l s b) (by omega)) rfl rfl (nle rfl)) (.run [] [] rfl (st_not (b := true) rfl rfl) (.run [] [] rfl (st_pick (t := false) rfl rfl) .nil)))))))) ?_
      refine tr_if (t := false) rfl (fun h => nomatch h) (fun _ => ?_)
      refine tr_skip ?_
      refine tr_seq ?_
      refine tr_region rfl (.run [] [] rfl (st_assign rfl) .nil) ?_
      refine tr_seq ?_
      refine tr_region rfl (.run [] [] rfl (st_move rfl) (.run [] [] rfl (st_move rfl) (.run [3700, 6800] [] rfl (st_call rfl 6800 (X := [3700]) en24 rfl (.val nod) (.cons (.one (.own (len := (pvE (compactedF l s b)).length) (xs := pvE (compactedF l s b)) rfl rfl)) (.cons (.one (.bor .v)) .nil)) (by decide) (all_cons rfl all_nil) (.keep (xs := pvE (compactedF l s b)) rfl (FlatP.nf (pvE_flat _)) .nil) (markEntryS_con (compactedF l s b) 1 (by omega)) rfl rfl (nle rfl)) (.run [] [] rfl (st_assign rfl) .nil)))) ?_
      have hr3 : pvE (marksG markE 1 (compactedF l s b).length) = pvE (marksG markE 1 (compactedF l s b).length) := by rfl
      have hl4 : (pvE (compactedF l s b)).length = (pvE (marksG markE 1 (compactedF l s b).length)).length := by first | (rw [← hr3, List.length_set]; done) | simp [pvE_length, gm_len]
      have hp5 : (.sl 3700 0 ((pvE (compactedF l s b)).length) : AV) = .sl 3700 0 ((pvE (marksG markE 1 (compactedF l s b).length)).length) := by simp only [hr3, hl4]
      refine tr_wk (s' := mk [(0, .p none (.sl false 4 (pvE l))), (1, .p none (.sl false 1 (pvI s))), (2, .p none (.v (.bool b))), (8, .sl 2900 0 ((pvE (compactedF l s b)).length)), (11, .sl 3700 0 ((pvE (marksG markE 1 (compactedF l s b).length)).length)), (13, .p none (.v (.int .i64 ((1 + 4 * (compactedF l s b).length : Nat) : Int))))] [] [(2900, 4, pvE (compactedF l s b)), (3700, 4, pvE (marksG markE 1 (compactedF l s b).length))]) ?_ ?_
      · exact wk_mk ⟨rfl, ⟨rfl, ⟨rfl, ⟨rfl, ⟨hp5, ⟨rfl, trivial⟩⟩⟩⟩⟩⟩ trivial ⟨rfl, ⟨(congrArg (fun x => some (4, x)) hr3), trivial⟩⟩ rfl
      refine tr_seq ?_
      refine tr_region rfl (.run [] [] rfl (st_assign rfl) .nil) ?_
      refine tr_seq ?_
      refine tr_region rfl (.run [] [] rfl (st_move rfl) (.run [] [] rfl (st_move rfl) (.run [3700, 7100] [] rfl (st_call rfl 7100 (X := []) en34 rfl (.val nod) (.cons (.one (.bor (.all (len := (pvE (marksG markE 1 (compactedF l s b).length)).length) (xs := pvE (marksG markE 1 (compactedF l s b).length)) rfl rfl (by decide)))) (.cons (.one (.bor .v)) .nil)) (by decide) all_nil .nil (heldE_self 1 (compactedF l s b).length (by omega)) rfl rfl (nle rfl)) (.run [] [] rfl (st_assign rfl) .nil)))) ?_
      refine tr_seq ?_
      refine tr_seq ?_
      refine tr_region rfl (.run [] [] rfl (st_move rfl) (.run [] [] rfl (st_eq (st_lss rfl rfl rfl) (bool_eq (decide_eq_false (by omega)))) .nil)) ?_
      refine tr_if (t := false) rfl (fun h => nomatch h) (fun _ => ?_)
      refine tr_skip ?_
      refine tr_seq ?_
      refine tr_seq ?_
      refine tr_region rfl (.run [] [] rfl (st_move rfl) (.run [] [] rfl (st_move rfl) (.run [] [] rfl (st_eq (st_neq rfl rfl rfl) (bool_eq (congrArg Bool.not (decide_eq_true (by simp))))) .nil))) ?_
      refine tr_if (t := false) rfl (fun h => nomatch h) (fun _ => ?_)
      refine tr_skip ?_
      refine tr_seq ?_
      refine tr_wk (s' := mk [(0, .p none (.sl false 4 (pvE l))), (1, .p none (.sl false 1 (pvI s))), (2, .p none (.v (.bool b))), (8, .sl 2900 0 ((pvE (compactedF l s b)).length)), (11, .sl 3700 0 ((pvE (marksG markE 1 (compactedF l s b).length)).length)), (13, .p none (.v (.int .i64 ((1 + 4 * (compactedF l s b).length : Nat) : Int))))] [] [(2900, 4, pvE (compactedF l s b)), (3700, 4, pvE (marksG markE 1 (compactedF l s b).length))]) ?_ ?_
      · exact wk_mk ⟨rfl, ⟨rfl, ⟨rfl, ⟨rfl, ⟨rfl, ⟨rfl, trivial⟩⟩⟩⟩⟩⟩ trivial ⟨rfl, ⟨rfl, trivial⟩⟩ rfl
      refine tr_region rfl (.run [] [] rfl (st_move rfl) (.run [7800] [] rfl (st_call rfl 7800 (X := []) en19 rfl (.val nod) (.cons (.one (.bor (.sl nod))) .nil) (by decide) all_nil .nil (toEntryS_con l (by omega)) rfl rfl (nle rfl)) (.run [] [] rfl (st_move rfl) (.run [8000] [] rfl (st_call rfl 8000 (X := []) en20 rfl (.val nod) (.cons (.one (.bor (.sl nod))) .nil) (by decide) all_nil .nil (toInt64S_con s (by omega)) rfl rfl (nle rfl)) (.run [] [] rfl (st_move rfl) (.run [7800, 8000, 8200] [] rfl (st_call rfl 8200 (X := []) en29 rfl (.val nod) (.cons (.one (.bor (.all (len := (pvE l).length) (xs := pvE l) rfl rfl (by decide)))) (.cons (.one (.bor (.all (len := (pvI s).length) (xs := pvI s) rfl rfl (by decide)))) (.cons (.one (.bor .v)) .nil))) (by decide) all_nil .nil (progCompacted_con2 l s b (by omega) (by omega)) rfl rfl (nle rfl)) (.run [] [] rfl (st_assign rfl) .nil))))))) ?_
      refine tr_seq ?_
      refine tr_seq ?_
      refine tr_region rfl (.run [] [] rfl (st_move rfl) (.run [] [] rfl (st_move rfl) (.run [2900, 8200, 8500] [] rfl (st_call rfl 8500 (X := []) en23 rfl (.val nod) (.cons (.one (.bor (.all (len := (pvE (compactedF l s b)).length) (xs := pvE (compactedF l s b)) rfl rfl (by decide)))) (.cons (.one (.bor (.all (len := (pvE (compactedF l s b)).length) (xs := pvE (compactedF l s b)) rfl rfl (by decide)))) .nil)) (by decide) all_nil .nil (eqE_self (compactedF l s b) (by omega)) rfl rfl (nle rfl)) (.run [] [] rfl (st_not (b := true) rfl rfl) .nil)))) ?_
      refine tr_if (t := false) rfl (fun h => nomatch h) (fun _ => ?_)
      refine tr_skip ?_
      refine tr_seq ?_
      refine tr_region rfl (.run [] [] rfl (st_assign rfl) .nil) ?_
      refine tr_seq ?_
      refine tr_region rfl (.run [] [] rfl (st_move rfl) (.run [] [] rfl (st_move rfl) (.run [3700, 8900] [] rfl (st_call rfl 8900 (X := []) en34 rfl (.val nod) (.cons (.one (.bor (.all (len := (pvE (marksG markE 1 (compactedF l s b).length)).length) (xs := pvE (marksG markE 1 (compactedF l s b).length)) rfl rfl (by decide)))) (.cons (.one (.bor .v)) .nil)) (by decide) all_nil .nil (heldE_self 1 (compactedF l s b).length (by omega)) rfl rfl (nle rfl)) (.run [] [] rfl (st_assign rfl) .nil)))) ?_
      refine tr_seq ?_
      refine tr_seq ?_
      refine tr_wk (s' := mk [(13, .p none (.v (.int .i64 ((1 + 4 * (compactedF l s b).length : Nat) : Int)))), (14, .p none (.v (.int .i64 ((1 + 4 * (compactedF l s b).length : Nat) : Int))))] [] []) ?_ ?_
      · exact wk_mk ⟨rfl, ⟨rfl, trivial⟩⟩ trivial trivial rfl
      refine tr_region rfl (.run [] [] rfl (st_move rfl) (.run [] [] rfl (st_eq (st_lss rfl rfl rfl) (bool_eq (decide_eq_false (by omega)))) .nil)) ?_
      refine tr_if (t := false) rfl (fun h => nomatch h) (fun _ => ?_)
      refine tr_skip ?_
      refine tr_seq ?_
      refine tr_seq ?_
      refine tr_region rfl (.run [] [] rfl (st_move rfl) (.run [] [] rfl (st_move rfl) (.run [] [] rfl (st_eq (st_neq rfl rfl rfl) (bool_eq (congrArg Bool.not (decide_eq_true (by simp))))) .nil))) ?_
      refine tr_if (t := false) rfl (fun h => nomatch h) (fun _ => ?_)
      refine tr_skip ?_
      refine tr_seq ?_
      refine tr_region rfl (.run [] [] rfl (st_assign rfl) .nil) ?_
      refine tr_ret ?_
      exact ends [_] [] (.cons (.tmp rfl) .nil) (.cons (.one .v (.v _)) .nil) (by decide) trivial
end Go.Rl

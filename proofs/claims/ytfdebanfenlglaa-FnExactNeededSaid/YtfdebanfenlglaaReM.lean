/- Promises of functions, proved by walks over their operations; no conditions beyond those that each theorem states. -/
import Derived.Test.YtfdebanfenlglaaReL
namespace Go.Rl
open Go.Proofs
theorem en17 : ∀ vs w, (callFunc 17 vs).run Try.prog w = .ok (.enter 17 vs) w := enters Try.func17 (by decide) rfl
theorem en19 : ∀ vs w, (callFunc 19 vs).run Try.prog w = .ok (.enter 19 vs) w := enters Try.func19 (by decide) rfl
theorem en20 : ∀ vs w, (callFunc 20 vs).run Try.prog w = .ok (.enter 20 vs) w := enters Try.func20 (by decide) rfl
theorem en18 : ∀ vs w, (callFunc 18 vs).run Try.prog w = .ok (.enter 18 vs) w := enters Try.func18 (by decide) rfl
theorem en21 : ∀ vs w, (callFunc 21 vs).run Try.prog w = .ok (.enter 21 vs) w := enters Try.func21 (by decide) rfl
theorem en22 : ∀ vs w, (callFunc 22 vs).run Try.prog w = .ok (.enter 22 vs) w := enters Try.func22 (by decide) rfl
theorem en23 : ∀ vs w, (callFunc 23 vs).run Try.prog w = .ok (.enter 23 vs) w := enters Try.func23 (by decide) rfl
theorem en24 : ∀ vs w, (callFunc 24 vs).run Try.prog w = .ok (.enter 24 vs) w := enters Try.func24 (by decide) rfl
theorem en25 : ∀ vs w, (callFunc 25 vs).run Try.prog w = .ok (.enter 25 vs) w := enters Try.func25 (by decide) rfl
theorem en26 : ∀ vs w, (callFunc 26 vs).run Try.prog w = .ok (.enter 26 vs) w := enters Try.func26 (by decide) rfl
theorem eqI_self (a : List Int) (hl : a.length ≤ 1000000000) : Con Try.prog 22 [.one (PV.sl false 1 (pvI a)), .one (PV.sl false 1 (pvI a))] [] [.one (.v (.bool true))] := by
  simpa using eqInt64S_con a a hl
theorem eqE_self (a : List Ent) (hl : a.length ≤ 1000000000) : Con Try.prog 23 [.one (PV.sl false 4 (pvE a)), .one (PV.sl false 4 (pvE a))] [] [.one (.v (.bool true))] := by
  simpa using eqEntryS_con a a hl
theorem heldI_self (k n : Nat) (hk : k + 1 * n ≤ 1099511627776) : Con Try.prog 26 [.one (PV.sl false 1 (pvI (marksG markN k n))), .one (.v (.int .i64 (k:Int)))] [] [.one (.v (.int .i64 ((k + 1 * n : Nat) : Int)))] := by
  have := heldInt64S_con (marksG markN k n) k (by rw [gm_len]; exact hk)
  rwa [gheld_self] at this
theorem needed_len (l : List Ent) (s : List Int) : (neededF l s).length ≤ l.length := by
  unfold neededF
  split
  · exact needF_len _ _ _
  · exact Nat.zero_le _
theorem open_ent {es : List PV} (h : Fits [.str, .int .i64, .int .i64, .str] es) : ∃ e : Ent, es = e.pv ∧ (e.user.size ≤ reachBytes ∧ e.value.size ≤ reachBytes) := by
  obtain ⟨p0, e0, rfl, f0, h⟩ := fits_cons h
  obtain ⟨p1, e1, rfl, f1, h⟩ := fits_cons h
  obtain ⟨p2, e2, rfl, f2, h⟩ := fits_cons h
  obtain ⟨p3, e3, rfl, f3, h⟩ := fits_cons h
  obtain rfl := fits_nil h
  obtain ⟨b, rfl, hb⟩ := fit_str f0
  obtain ⟨n, rfl, hn⟩ := fit_int f1
  obtain ⟨k, rfl, hk⟩ := fit_int f2
  obtain ⟨v, rfl, hv⟩ := fit_str f3
  exact ⟨⟨b, n, k, v⟩, rfl, hb, hv⟩
theorem open_num {es : List PV} (h : Fits [.int .i64] es) : ∃ n : Int, es = [.v (.int .i64 n)] ∧ True := by
  obtain ⟨p0, e0, rfl, f0, h⟩ := fits_cons h
  obtain rfl := fits_nil h
  obtain ⟨n, rfl, hn⟩ := fit_int f0
  exact ⟨n, rfl, trivial⟩
theorem open_ents {ps : List PV} (h : Fits [.sl [.str, .int .i64, .int .i64, .str]] ps) : ∃ l : List Ent, ps = [.sl false 4 (pvE l)] ∧ l.length ≤ maxLen ∧ ∀ e ∈ l, e.user.size ≤ reachBytes ∧ e.value.size ≤ reachBytes := by
  obtain ⟨x1, e1, rfl, f1, z1⟩ := fits_cons h
  obtain rfl := fits_nil z1
  obtain ⟨xs, rfl, hl, hx⟩ := fit_sl f1
  obtain ⟨l, rfl, hB⟩ := fits_list (f := Ent.pv) (fun es he => open_ent he) hx
  exact ⟨l, rfl, by simpa using hl, hB⟩
theorem open_nums {ps : List PV} (h : Fits [.sl [.int .i64]] ps) : ∃ l : List Int, ps = [.sl false 1 (pvI l)] := by
  obtain ⟨x1, e1, rfl, f1, z1⟩ := fits_cons h
  obtain rfl := fits_nil z1
  obtain ⟨xs, rfl, hl, hx⟩ := fit_sl f1
  obtain ⟨l, rfl, hB⟩ := fits_list (f := fun n : Int => [PV.v (.int .i64 n)]) (fun es he => open_num he) hx
  exact ⟨l, rfl⟩
theorem maxLen_le2 : maxLen ≤ 9223372036854775807 := by decide
theorem reach_le2 : reachBytes ≤ 9223372036854775807 := by decide
set_option maxRecDepth 1000000 in
theorem law_needed_con (l : List Ent) (s : List Int) (hl : l.length ≤ 9223372036854775807) (hn : ∀ e ∈ l, e.user.size ≤ 9223372036854775807 ∧ e.value.size ≤ 9223372036854775807) : Con Try.prog 3 [.one (PV.sl false 4 (pvE l)), .one (PV.sl false 1 (pvI s))] [] [.one (.v (.bool true))] := by
  refine con_of_tr Try.func3 rfl rfl rfl rfl ?_
  have hle := pvE_length l
  have hls := pvI_length s
  refine tr_seq ?_
  refine tr_region rfl (.run [] [] rfl (st_assign rfl) .nil) ?_
  refine tr_seq ?_
  refine tr_seq ?_
  refine tr_region rfl (.run [] [] rfl (st_move rfl) (.run [] [] rfl (st_len_fro rfl rfl Try.underlying23) (.run [] [] rfl (st_gtr rfl rfl rfl) .nil))) ?_
  refine tr_if (t := decide (1048576 < ((pvI s).length : Int))) rfl (fun h1 => ?_) (fun h1 => ?_)
  · skip
    replace h1 := of_decide_eq_true h1
    refine tr_seq ?_
    refine tr_region rfl (.run [] [] rfl (st_assign rfl) .nil) ?_
    refine tr_ret ?_
    exact ends [_] [] (.cons (.tmp rfl) .nil) (.cons (.one .v (.v _)) .nil) (by decide) trivial
  · skip
    replace h1 := of_decide_eq_false h1
    refine tr_skip ?_
    refine tr_seq ?_
    refine tr_region rfl (.run [] [] rfl (st_assign rfl) .nil) ?_
    refine tr_seq ?_
    refine tr_region rfl (.run [] [] rfl (st_move rfl) (.run [] [] rfl (st_move rfl) (.run [1900] [] rfl (st_call rfl 1900 (X := []) en17 rfl (.val nod) (.cons (.one (.bor (.sl nod))) (.cons (.one (.bor .v)) .nil)) (by decide) all_nil .nil (szEntryS_con l 1048576 (by omega) hl hn) rfl rfl (nle rfl)) (.run [] [] rfl (st_assign rfl) .nil)))) ?_
    refine tr_seq ?_
    refine tr_seq ?_
    refine tr_region rfl (.run [] [] rfl (st_move rfl) (.run [] [] rfl (st_lss rfl rfl rfl) .nil)) ?_
    refine tr_if (t := decide ((szS wE l 1048576) < 0)) rfl (fun h2 => ?_) (fun h2 => ?_)
    · skip
      replace h2 := of_decide_eq_true h2
      refine tr_seq ?_
      refine tr_region rfl (.run [] [] rfl (st_assign rfl) .nil) ?_
      refine tr_ret ?_
      exact ends [_] [] (.cons (.tmp rfl) .nil) (.cons (.one .v (.v _)) .nil) (by decide) trivial
    · skip
      replace h2 := of_decide_eq_false h2
      refine tr_skip ?_
      refine tr_seq ?_
      have hl2 := gsz_len h2
      have hnd := needed_len l s
      have hln := pvI_length (neededF l s)
      refine tr_wk (s' := mk [(0, .p none (.sl false 4 (pvE l))), (1, .p none (.sl false 1 (pvI s)))] [] []) ?_ ?_
      · exact wk_mk ⟨rfl, ⟨rfl, trivial⟩⟩ trivial trivial rfl
      refine tr_region rfl (.run [] [] rfl (st_move rfl) (.run [2300] [] rfl (st_call rfl 2300 (X := []) en19 rfl (.val nod) (.cons (.one (.bor (.sl nod))) .nil) (by decide) all_nil .nil (toEntryS_con l (by omega)) rfl rfl (nle rfl)) (.run [] [] rfl (st_move rfl) (.run [2500] [] rfl (st_call rfl 2500 (X := []) en20 rfl (.val nod) (.cons (.one (.bor (.sl nod))) .nil) (by decide) all_nil .nil (toInt64S_con s (by omega)) rfl rfl (nle rfl)) (.run [2300, 2500, 2600] [] rfl (st_call rfl 2600 (X := []) en18 rfl (.val nod) (.cons (.one (.bor (.all (len := (pvE l).length) (xs := pvE l) rfl rfl (by decide)))) (.cons (.one (.bor (.all (len := (pvI s).length) (xs := pvI s) rfl rfl (by decide)))) .nil)) (by decide) all_nil .nil (specNeeded_con l s (by omega) (by omega)) rfl rfl (nle rfl)) (.run [] [] rfl (st_assign rfl) .nil)))))) ?_
      refine tr_seq ?_
      refine tr_region rfl (.run [] [] rfl (st_move rfl) (.run [2800] [] rfl (st_call rfl 2800 (X := []) en19 rfl (.val nod) (.cons (.one (.bor (.sl nod))) .nil) (by decide) all_nil .nil (toEntryS_con l (by omega)) rfl rfl (nle rfl)) (.run [] [] rfl (st_assign rfl) .nil))) ?_
      refine tr_seq ?_
      refine tr_region rfl (.run [] [] rfl (st_move rfl) (.run [3000] [] rfl (st_call rfl 3000 (X := []) en20 rfl (.val nod) (.cons (.one (.bor (.sl nod))) .nil) (by decide) all_nil .nil (toInt64S_con s (by omega)) rfl rfl (nle rfl)) (.run [] [] rfl (st_assign rfl) .nil))) ?_
      refine tr_seq ?_
      refine tr_region rfl (.run [] [] rfl (st_move rfl) (.run [] [] rfl (st_move rfl) (.run [2800, 3000, 3300] [] rfl (st_call rfl 3300 (X := []) en21 rfl (.val nod) (.cons (.one (.bor (.all (len := (pvE l).length) (xs := pvE l) rfl rfl (by decide)))) (.cons (.one (.bor (.all (len := (pvI s).length) (xs := pvI s) rfl rfl (by decide)))) .nil)) (by decide) all_nil .nil (progNeeded_con l s (by omega) (by omega)) rfl rfl (nle rfl)) (.run [] [] rfl (st_assign rfl) .nil)))) ?_
      refine tr_seq ?_
      refine tr_seq ?_
      refine tr_wk (s' := mk [(0, .p none (.sl false 4 (pvE l))), (1, .p none (.sl false 1 (pvI s))), (6, .sl 2600 0 ((pvI (neededF l s)).length)), (7, .sl 2800 0 ((pvE l).length)), (8, .sl 3000 0 ((pvI s).length)), (9, .sl 3300 0 ((pvI (neededF l s)).length))] [] [(2600, 1, pvI (neededF l s)), (2800, 4, pvE l), (3000, 1, pvI s), (3300, 1, pvI (neededF l s))]) ?_ ?_
      · exact wk_mk ⟨rfl, ⟨rfl, ⟨rfl, ⟨rfl, ⟨rfl, ⟨rfl, trivial⟩⟩⟩⟩⟩⟩ trivial ⟨rfl, ⟨rfl, ⟨rfl, ⟨rfl, trivial⟩⟩⟩⟩ rfl
      refine tr_region rfl (.run [] [] rfl (st_move rfl) (.run [] [] rfl (st_move rfl) (.run [2600, 3300, 3600] [] rfl (st_call rfl 3600 (X := []) en22 rfl (.val nod) (.cons (.one (.bor (.all (len := (pvI (neededF l s)).length) (xs := pvI (neededF l s)) rfl rfl (by decide)))) (.cons (.one (.bor (.all (len := (pvI (neededF l s)).length) (xs := pvI (neededF l s)) rfl rfl (by decide)))) .nil)) (by decide) all_nil .nil (eqI_self (neededF l s) (by omega)) rfl rfl (nle rfl)) (.run [] [] rfl (st_not (b := true) rfl rfl) .nil)))) ?_
      refine tr_if (t := false) rfl (fun h => nomatch h) (fun _ => ?_)
      refine tr_skip ?_
      refine tr_seq ?_
      refine tr_seq ?_
      refine tr_region rfl (.run [] [] rfl (st_move rfl) (.run [] [] rfl (st_move rfl) (.run [4000] [] rfl (st_call rfl 4000 (X := []) en19 rfl (.val nod) (.cons (.one (.bor (.sl nod))) .nil) (by decide) all_nil .nil (toEntryS_con l (by omega)) rfl rfl (nle rfl)) (.run [2800, 4000, 4100] [] rfl (st_call rfl 4100 (X := []) en23 rfl (.val nod) (.cons (.one (.bor (.all (len := (pvE l).length) (xs := pvE l) rfl rfl (by decide)))) (.cons (.one (.bor (.all (len := (pvE l).length) (xs := pvE l) rfl rfl (by decide)))) .nil)) (by decide) all_nil .nil (eqE_self l (by omega)) rfl rfl (nle rfl)) (.run [] [] rfl (st_not (b := true) rfl rfl) .nil))))) ?_
      refine tr_if (t := false) rfl (fun h => nomatch h) (fun _ => ?_)
      refine tr_skip ?_
      refine tr_seq ?_
      refine tr_seq ?_
      refine tr_region rfl (.run [] [] rfl (st_move rfl) (.run [] [] rfl (st_move rfl) (.run [4500] [] rfl (st_call rfl 4500 (X := []) en20 rfl (.val nod) (.cons (.one (.bor (.sl nod))) .nil) (by decide) all_nil .nil (toInt64S_con s (by omega)) rfl rfl (nle rfl)) (.run [3000, 4500, 4600] [] rfl (st_call rfl 4600 (X := []) en22 rfl (.val nod) (.cons (.one (.bor (.all (len := (pvI s).length) (xs := pvI s) rfl rfl (by decide)))) (.cons (.one (.bor (.all (len := (pvI s).length) (xs := pvI s) rfl rfl (by decide)))) .nil)) (by decide) all_nil .nil (eqI_self s (by omega)) rfl rfl (nle rfl)) (.run [] [] rfl (st_not (b := true) rfl rfl) .nil))))) ?_
      refine tr_if (t := false) rfl (fun h => nomatch h) (fun _ => ?_)
      refine tr_skip ?_
      refine tr_seq ?_
      refine tr_region rfl (.run [] [] rfl (st_assign rfl) .nil) ?_
      refine tr_seq ?_
      refine tr_wk (s' := mk [(0, .p none (.sl false 4 (pvE l))), (1, .p none (.sl false 1 (pvI s))), (6, .sl 2600 0 ((pvI (neededF l s)).length)), (7, .sl 2800 0 ((pvE l).length)), (8, .sl 3000 0 ((pvI s).length)), (9, .sl 3300 0 ((pvI (neededF l s)).length)), (10, .p none (.v (.int .i64 1)))] [] [(2600, 1, pvI (neededF l s)), (2800, 4, pvE l), (3000, 1, pvI s), (3300, 1, pvI (neededF l s))]) ?_ ?_
      · exact wk_mk ⟨rfl, ⟨rfl, ⟨rfl, ⟨rfl, ⟨rfl, ⟨rfl, ⟨rfl, trivial⟩⟩⟩⟩⟩⟩⟩ trivial ⟨rfl, ⟨rfl, ⟨rfl, ⟨rfl, trivial⟩⟩⟩⟩ rfl
      refine tr_region rfl (.run [] [] rfl (st_move rfl) (.run [] [] rfl (st_move rfl) (.run [2800, 5000] [] rfl (st_call rfl 5000 (X := [2800]) en24 rfl (.val nod) (.cons (.one (.own (len := (pvE l).length) (xs := pvE l) rfl rfl)) (.cons (.one (.bor .v)) .nil)) (by decide) (all_cons rfl all_nil) (.keep (xs := pvE l) rfl (FlatP.nf (pvE_flat l)) .nil) (markEntryS_con l 1 (by omega)) rfl rfl (nle rfl)) (.run [] [] rfl (st_assign rfl) .nil)))) ?_
      refine tr_seq ?_
      refine tr_region rfl (.run [] [] rfl (st_move rfl) (.run [] [] rfl (st_move rfl) (.run [3000, 5300] [] rfl (st_call rfl 5300 (X := [3000]) en25 rfl (.val nod) (.cons (.one (.own (len := (pvI s).length) (xs := pvI s) rfl rfl)) (.cons (.one (.bor .v)) .nil)) (by decide) (all_cons rfl all_nil) (.keep (xs := pvI s) rfl (FlatP.nf (pvI_flat _)) .nil) (markInt64S_con s (1 + 4 * l.length) (by omega)) rfl rfl (nle rfl)) (.run [] [] rfl (st_assign rfl) .nil)))) ?_
      refine tr_seq ?_
      refine tr_seq ?_
      refine tr_region rfl (.run [] [] rfl (st_move rfl) (.run [] [] rfl (st_eq (st_lss rfl rfl rfl) (bool_eq (decide_eq_false (by omega)))) (.run [] [] rfl (st_move rfl) (.run [] [] rfl (st_move rfl) (.run [] [] rfl (st_move rfl) (.run [2600, 3300, 5900] [] rfl (st_call rfl 5900 (X := []) en22 rfl (.val nod) (.cons (.one (.bor (.all (len := (pvI (neededF l s)).length) (xs := pvI (neededF l s)) rfl rfl (by decide)))) (.cons (.one (.bor (.all (len := (pvI (neededF l s)).length) (xs := pvI (neededF l s)) rfl rfl (by decide)))) .nil)) (by decide) all_nil .nil (eqI_self (neededF l s) (by omega)) rfl rfl (nle rfl)) (.run [] [] rfl (st_not (b := true) rfl rfl) (.run [] [] rfl (st_pick (t := false) rfl rfl) .nil)))))))) ?_
      refine tr_if (t := false) rfl (fun h => nomatch h) (fun _ => ?_)
      refine tr_skip ?_
      refine tr_seq ?_
      refine tr_wk (s' := mk [(0, .p none (.sl false 4 (pvE l))), (1, .p none (.sl false 1 (pvI s))), (6, .sl 2600 0 ((pvI (neededF l s)).length)), (9, .sl 3300 0 ((pvI (neededF l s)).length))] [] [(2600, 1, pvI (neededF l s)), (3300, 1, pvI (neededF l s))]) ?_ ?_
      · exact wk_mk ⟨rfl, ⟨rfl, ⟨rfl, ⟨rfl, trivial⟩⟩⟩⟩ trivial ⟨rfl, ⟨rfl, trivial⟩⟩ rfl
      refine tr_region rfl (.run [] [] rfl (st_assign rfl) .nil) ?_
      refine tr_seq ?_
      refine tr_region rfl (.run [] [] rfl (st_move rfl) (.run [] [] rfl (st_move rfl) (.run [3300, 6400] [] rfl (st_call rfl 6400 (X := [3300]) en25 rfl (.val nod) (.cons (.one (.own (len := (pvI (neededF l s)).length) (xs := pvI (neededF l s)) rfl rfl)) (.cons (.one (.bor .v)) .nil)) (by decide) (all_cons rfl all_nil) (.keep (xs := pvI (neededF l s)) rfl (FlatP.nf (pvI_flat _)) .nil) (markInt64S_con (neededF l s) 1 (by omega)) rfl rfl (nle rfl)) (.run [] [] rfl (st_assign rfl) .nil)))) ?_
      have hr3 : pvI (marksG markN 1 (neededF l s).length) = pvI (marksG markN 1 (neededF l s).length) := by rfl
      have hl4 : (pvI (neededF l s)).length = (pvI (marksG markN 1 (neededF l s).length)).length := by simp [pvI_length, gm_len]
      have hp5 : (.sl 3300 0 ((pvI (neededF l s)).length) : AV) = .sl 3300 0 ((pvI (marksG markN 1 (neededF l s).length)).length) := by simp only [hr3, hl4]
      refine tr_wk (s' := mk [(0, .p none (.sl false 4 (pvE l))), (1, .p none (.sl false 1 (pvI s))), (6, .sl 2600 0 ((pvI (neededF l s)).length)), (9, .sl 3300 0 ((pvI (marksG markN 1 (neededF l s).length)).length)), (11, .p none (.v (.int .i64 ((1 + 1 * (neededF l s).length : Nat) : Int))))] [] [(2600, 1, pvI (neededF l s)), (3300, 1, pvI (marksG markN 1 (neededF l s).length))]) ?_ ?_
      · exact wk_mk ⟨rfl, ⟨rfl, ⟨rfl, ⟨hp5, ⟨rfl, trivial⟩⟩⟩⟩⟩ trivial ⟨rfl, ⟨(congrArg (fun x => some (1, x)) hr3), trivial⟩⟩ rfl
      refine tr_seq ?_
      refine tr_region rfl (.run [] [] rfl (st_assign rfl) .nil) ?_
      refine tr_seq ?_
      refine tr_region rfl (.run [] [] rfl (st_move rfl) (.run [] [] rfl (st_move rfl) (.run [3300, 6700] [] rfl (st_call rfl 6700 (X := []) en26 rfl (.val nod) (.cons (.one (.bor (.all (len := (pvI (marksG markN 1 (neededF l s).length)).length) (xs := pvI (marksG markN 1 (neededF l s).length)) rfl rfl (by decide)))) (.cons (.one (.bor .v)) .nil)) (by decide) all_nil .nil (heldI_self 1 (neededF l s).length (by omega)) rfl rfl (nle rfl)) (.run [] [] rfl (st_assign rfl) .nil)))) ?_
      refine tr_seq ?_
      refine tr_seq ?_
      refine tr_region rfl (.run [] [] rfl (st_move rfl) (.run [] [] rfl (st_eq (st_lss rfl rfl rfl) (bool_eq (decide_eq_false (by omega)))) .nil)) ?_
      refine tr_if (t := false) rfl (fun h => nomatch h) (fun _ => ?_)
      refine tr_skip ?_
      refine tr_seq ?_
      refine tr_seq ?_
      refine tr_region rfl (.run [] [] rfl (st_move rfl) (.run [] [] rfl (st_move rfl) (.run [] [] rfl (st_eq (st_neq rfl rfl rfl) (bool_eq (congrArg Bool.not (decide_eq_true (by simp))))) .nil))) ?_
      refine tr_if (t := false) rfl (fun h => nomatch h) (fun _ => ?_)
      refine tr_skip ?_
      refine tr_seq ?_
      refine tr_region rfl (.run [] [] rfl (st_move rfl) (.run [7400] [] rfl (st_call rfl 7400 (X := []) en19 rfl (.val nod) (.cons (.one (.bor (.sl nod))) .nil) (by decide) all_nil .nil (toEntryS_con l (by omega)) rfl rfl (nle rfl)) (.run [] [] rfl (st_move rfl) (.run [7600] [] rfl (st_call rfl 7600 (X := []) en20 rfl (.val nod) (.cons (.one (.bor (.sl nod))) .nil) (by decide) all_nil .nil (toInt64S_con s (by omega)) rfl rfl (nle rfl)) (.run [7400, 7600, 7700] [] rfl (st_call rfl 7700 (X := []) en21 rfl (.val nod) (.cons (.one (.bor (.all (len := (pvE l).length) (xs := pvE l) rfl rfl (by decide)))) (.cons (.one (.bor (.all (len := (pvI s).length) (xs := pvI s) rfl rfl (by decide)))) .nil)) (by decide) all_nil .nil (progNeeded_con l s (by omega) (by omega)) rfl rfl (nle rfl)) (.run [] [] rfl (st_assign rfl) .nil)))))) ?_
      refine tr_seq ?_
      refine tr_seq ?_
      refine tr_wk (s' := mk [(6, .sl 2600 0 ((pvI (neededF l s)).length)), (9, .sl 3300 0 ((pvI (marksG markN 1 (neededF l s).length)).length)), (11, .p none (.v (.int .i64 ((1 + 1 * (neededF l s).length : Nat) : Int)))), (13, .sl 7700 0 ((pvI (neededF l s)).length))] [] [(2600, 1, pvI (neededF l s)), (3300, 1, pvI (marksG markN 1 (neededF l s).length)), (7700, 1, pvI (neededF l s))]) ?_ ?_
      · exact wk_mk ⟨rfl, ⟨rfl, ⟨rfl, ⟨rfl, trivial⟩⟩⟩⟩ trivial ⟨rfl, ⟨rfl, ⟨rfl, trivial⟩⟩⟩ rfl
      refine tr_region rfl (.run [] [] rfl (st_move rfl) (.run [] [] rfl (st_move rfl) (.run [2600, 7700, 8000] [] rfl (st_call rfl 8000 (X := []) en22 rfl (.val nod) (.cons (.one (.bor (.all (len := (pvI (neededF l s)).length) (xs := pvI (neededF l s)) rfl rfl (by decide)))) (.cons (.one (.bor (.all (len := (pvI (neededF l s)).length) (xs := pvI (neededF l s)) rfl rfl (by decide)))) .nil)) (by decide) all_nil .nil (eqI_self (neededF l s) (by omega)) rfl rfl (nle rfl)) (.run [] [] rfl (st_not (b := true) rfl rfl) .nil)))) ?_
      refine tr_if (t := false) rfl (fun h => nomatch h) (fun _ => ?_)
      refine tr_skip ?_
      refine tr_seq ?_
      refine tr_region rfl (.run [] [] rfl (st_assign rfl) .nil) ?_
      refine tr_seq ?_
      refine tr_region rfl (.run [] [] rfl (st_move rfl) (.run [] [] rfl (st_move rfl) (.run [3300, 8400] [] rfl (st_call rfl 8400 (X := []) en26 rfl (.val nod) (.cons (.one (.bor (.all (len := (pvI (marksG markN 1 (neededF l s).length)).length) (xs := pvI (marksG markN 1 (neededF l s).length)) rfl rfl (by decide)))) (.cons (.one (.bor .v)) .nil)) (by decide) all_nil .nil (heldI_self 1 (neededF l s).length (by omega)) rfl rfl (nle rfl)) (.run [] [] rfl (st_assign rfl) .nil)))) ?_
      refine tr_seq ?_
      refine tr_seq ?_
      refine tr_region rfl (.run [] [] rfl (st_move rfl) (.run [] [] rfl (st_eq (st_lss rfl rfl rfl) (bool_eq (decide_eq_false (by omega)))) .nil)) ?_
      refine tr_if (t := false) rfl (fun h => nomatch h) (fun _ => ?_)
      refine tr_skip ?_
      refine tr_seq ?_
      refine tr_seq ?_
      refine tr_region rfl (.run [] [] rfl (st_move rfl) (.run [] [] rfl (st_move rfl) (.run [] [] rfl (st_eq (st_neq rfl rfl rfl) (bool_eq (congrArg Bool.not (decide_eq_true (by simp))))) .nil))) ?_
      refine tr_if (t := false) rfl (fun h => nomatch h) (fun _ => ?_)
      refine tr_skip ?_
      refine tr_seq ?_
      refine tr_region rfl (.run [] [] rfl (st_assign rfl) .nil) ?_
      refine tr_ret ?_
      exact ends [_] [] (.cons (.tmp rfl) .nil) (.cons (.one .v (.v _)) .nil) (by decide) trivial
end Go.Rl

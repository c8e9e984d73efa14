/- Promises of functions, proved by walks over their operations; no conditions beyond those that each theorem states. -/
import Derived.Test.YtfdebanfenlglaaReV
import Derived.Test.YtfdebanfenlglaaRmC
set_option linter.unusedSimpArgs false
set_option linter.unusedVariables false
namespace Go.Rl
open Go.Proofs
theorem inf108 : (Try.prog.info? 108).map (fun i => (i.zero, i.size, i.bytes)) = some (some (.agg #[.slice none 0 0]), 1, 24) := by kernel_rfl
theorem en151 : ∀ vs w, (callFunc 151 vs).run Try.prog w = .ok (.enter 151 vs) w := enters Try.func151 (by decide) rfl
theorem en176 : ∀ vs w, (callFunc 176 vs).run Try.prog w = .ok (.enter 176 vs) w := enters Try.func176 (by decide) rfl
theorem en150 : ∀ vs w, (callFunc 150 vs).run Try.prog w = .ok (.enter 150 vs) w := enters Try.func150 (by decide) rfl
theorem en96 : ∀ vs w, (callFunc 96 vs).run Try.prog w = .ok (.enter 96 vs) w := enters Try.func96 (by decide) rfl
theorem en116 : ∀ vs w, (callFunc 116 vs).run Try.prog w = .ok (.enter 116 vs) w := enters Try.func116 (by decide) rfl
theorem en131 : ∀ vs w, (callFunc 131 vs).run Try.prog w = .ok (.enter 131 vs) w := enters Try.func131 (by decide) rfl
set_option maxRecDepth 1000000 in
set_option maxHeartbeats 2000000 in
theorem joined_con (rs : RunL) (hn : (ents rs).length ≤ 2000000) (hl : rs.length ≤ 2000000) : Con Try.prog 96 [.one (PV.sl false 1 (pvR rs))] [] [.one (.sl true 4 (pvE (ents rs)))] := by
  refine con_of_tr Try.func96 rfl rfl rfl rfl ?_
  have hle := pvR_length rs
  refine tr_seq ?_
  refine tr_region rfl (.run [] [] rfl (st_assign rfl) .nil) ?_
  refine tr_seq ?_
  refine tr_region rfl (.run [600] [] rfl (st_buildSlice rfl 600 Try.underlying26 inf44 (nle rfl) (by decide) rfl rfl rfl .nil (by decide) rfl (by decide) rfl (by decide) rfl) (.run [] [] rfl (st_assign rfl) .nil)) ?_
  refine tr_seq ?_
  refine tr_seq ?_
  refine tr_region rfl (.run [] [] rfl (st_move rfl) (.run [] [] rfl (st_len_fro rfl rfl Try.underlying54) (.run [] [] rfl (st_move rfl) .nil))) ?_
  refine tr_block ?_
  refine tr_wk (wk_ren 600 1 rfl rfl (by decide)) ?_
  refine tr_loopS (σ := Nat) (fun i => mk [(3, .sl 1 0 ((pvE (ents (rs.take i))).length)), (7, .p none (.sl false 1 (pvR rs))), (8, .p none (.v (.int .i64 ((pvR rs).length : Int)))), (9, .p none (.v (.int .i64 (i:Int))))] [] [(1, 4, pvE (ents (rs.take i)))]) (fun i => i ≤ rs.length) (fun i => rs.length - i) 0 (by simp) (wk_mk ⟨rfl, ⟨rfl, ⟨rfl, ⟨(int_eq (by omega)), trivial⟩⟩⟩⟩ trivial ⟨(congrArg (fun x => some (4, x)) (by rfl)), trivial⟩ rfl) ?_
  rintro i hG
  replace hG : i ≤ rs.length := hG
  have hti := ents_take_len rs i
  have hvi := pvE_length (ents (rs.take i))
  refine tr_seq ?_
  refine tr_region rfl (.run [] [] rfl (st_lss rfl rfl rfl) .nil) ?_
  refine tr_seq ?_
  refine tr_if (t := decide ((i:Int) < ((pvR rs).length : Int))) rfl (fun h1 => ?_) (fun h1 => ?_)
  · skip
    replace h1 := of_decide_eq_true h1
    refine tr_skip ?_
    refine tr_seq ?_
    refine tr_block ?_
    refine tr_seq ?_
    obtain ⟨e, he⟩ : ∃ e, rs[i]? = some e := ⟨_, List.getElem?_eq_getElem (by (have hL := pvR_length rs; omega))⟩
    have hlte := (List.getElem?_eq_some_iff.1 he).1
    refine tr_region rfl (.run [] [] rfl (st_idx_fro rfl rfl rfl Try.underlying54 Try.sizeOf108 rfl (by omega) (pvR_get he)) (.run [] [] rfl (st_load_fea rfl rfl Try.isAgg108 Try.sizeOf108 (nle rfl)) (.run [] [5] rfl (st_allocZ rfl 5 inf108 rfl (by decide) rfl (by decide)) (.run [] [] rfl (st_store_box rfl rfl rfl rfl rfl Try.sizeOf108 rfl (nle rfl)) .nil)))) ?_
    have hrl := run_len he
    have hrv := pvE_length e.2
    refine tr_region rfl (.run [] [] rfl (st_move rfl) (.run [] [] rfl (st_faddr_box rfl rfl Try.underlying108 rfl Try.sizeOf26 (by decide)) (.run [] [] rfl (st_load_box1 rfl rfl rfl Try.isAgg26 rfl) (.run [1] [] rfl (st_append rfl 1 (ib := 1) (len := ((pvE (ents (rs.take i))) ++ (pvE e.2)).length) rfl rfl (.row (len := (pvE (ents (rs.take i))).length) (xs := pvE (ents (rs.take i))) rfl rfl (.inl rfl)) (.fro (pvE_flat _)) Try.underlying26 (sk Try.underlying26 rfl) inf44 rfl (by decide) (by decide) (by decide) List.length_append (by simp only [maxLen, List.length_append, List.length_map, List.length_cons, List.length_nil, List.length_take, List.length_drop, pvE_length, pvI_length, pvT_length, pvU_length, pvP_length, pvR_length]; omega) (by simp only [maxLen, List.length_append, List.length_map, List.length_cons, List.length_nil, List.length_take, List.length_drop, pvE_length, pvI_length, pvT_length, pvU_length, pvP_length, pvR_length]; omega)) (.run [] [] rfl (st_assign rfl) .nil))))) ?_
    have hr2 : (pvE (ents (rs.take i))) ++ (pvE e.2) = pvE (ents (rs.take (i + 1))) := by rw [ents_step he, ← pvE_app]
    have hp3 : (.sl 1 0 (((pvE (ents (rs.take i))) ++ (pvE e.2)).length) : AV) = .sl 1 0 ((pvE (ents (rs.take (i + 1)))).length) := by simp only [hr2]
    refine tr_wk (s' := mk [(3, .sl 1 0 ((pvE (ents (rs.take (i + 1)))).length)), (7, .p none (.sl false 1 (pvR rs))), (8, .p none (.v (.int .i64 ((pvR rs).length : Int)))), (9, .p none (.v (.int .i64 (i:Int))))] [] [(1, 4, pvE (ents (rs.take (i + 1))))]) ?_ ?_
    · exact wk_mk ⟨hp3, ⟨rfl, ⟨rfl, ⟨rfl, trivial⟩⟩⟩⟩ trivial ⟨(congrArg (fun x => some (4, x)) hr2), trivial⟩ rfl
    refine tr_region rfl (.run [] [] rfl (st_addn rfl rfl rfl (by omega)) (.run [] [] rfl (st_move rfl) .nil)) ?_
    refine nxt (Q := fun _ _ => False) (z := i) (i + 1) ?_ ?_ ?_
    · show (i + 1) ≤ rs.length
      omega
    · show rs.length - (i + 1) < rs.length - i
      omega
    · exact wk_mk ⟨rfl, ⟨rfl, ⟨rfl, ⟨(int_eq (by omega)), trivial⟩⟩⟩⟩ trivial ⟨rfl, trivial⟩ rfl
  · skip
    replace h1 := of_decide_eq_false h1
    refine tr_exit ?_
    refine tr_seq ?_
    refine tr_region rfl (.run [] [] rfl (st_move rfl) (.run [] [] rfl (st_assign rfl) .nil)) ?_
    have hr4 : pvE (ents (rs.take i)) = pvE (ents rs) := by rw [List.take_of_length_le (by omega)]
    have hp5 : (.sl 1 0 ((pvE (ents (rs.take i))).length) : AV) = .sl 1 0 ((pvE (ents rs)).length) := by simp only [hr4]
    refine tr_wk (s' := mk [(2, .sl 1 0 ((pvE (ents rs)).length))] [] [(1, 4, pvE (ents rs))]) ?_ ?_
    · exact wk_mk ⟨hp5, trivial⟩ trivial ⟨(congrArg (fun x => some (4, x)) hr4), trivial⟩ rfl
    refine tr_ret ?_
    exact ends [_] [1] (.cons (.tmp rfl) .nil) (.cons (.one (.row (len := (pvE (ents rs)).length) (xs := pvE (ents rs)) rfl rfl) (.sl _ _ (FlatP.clean (pvE_flat _)))) .nil) (by decide) trivial
set_option maxRecDepth 1000000 in
set_option maxHeartbeats 2000000 in
theorem specRunsOk_con (rs : RunL) (hl : rs.length ≤ 2000000) (hb : ∀ r ∈ rs, r.2.length ≤ 2000000) : Con Try.prog 91 [.one (PV.sl false 1 (pvR rs))] [] [.one (.v (.bool (runsOkF rs)))] := by
  refine con_of_tr Try.func91 rfl rfl rfl rfl ?_
  have hle := pvR_length rs
  refine tr_seq ?_
  refine tr_region rfl (.run [] [] rfl (st_assign rfl) .nil) ?_
  refine tr_seq ?_
  refine tr_seq ?_
  refine tr_region rfl (.run [] [] rfl (st_move rfl) (.run [] [] rfl (st_len_fro rfl rfl Try.underlying54) (.run [] [] rfl (st_gtr rfl rfl rfl) .nil))) ?_
  refine tr_if (t := decide (20 < ((pvR rs).length : Int))) rfl (fun h1 => ?_) (fun h1 => ?_)
  · skip
    replace h1 := of_decide_eq_true h1
    refine tr_seq ?_
    refine tr_region rfl (.run [] [] rfl (st_assign rfl) .nil) ?_
    refine tr_ret ?_
    exact ends [_] [] (.cons (.tmp (bool_eq (by simp [runsOkF]; omega))) .nil) (.cons (.one .v (.v _)) .nil) (by decide) trivial
  · skip
    replace h1 := of_decide_eq_false h1
    refine tr_skip ?_
    refine tr_seq ?_
    refine tr_region rfl (.run [] [] rfl (st_assign rfl) .nil) ?_
    refine tr_seq ?_
    refine tr_seq ?_
    refine tr_region rfl (.run [] [] rfl (st_assign rfl) .nil) ?_
    refine tr_block ?_
    refine tr_loopS (σ := Nat) (fun i => mk [(0, .p none (.sl false 1 (pvR rs))), (3, .p none (.v (.int .i64 ((ents (rs.take i)).length : Int)))), (4, .p none (.v (.int .i64 (i:Int))))] [] []) (fun i => i ≤ rs.length ∧ ∀ j e, j < i → rs[j]? = some e → (!entsOk e.2) = false) (fun i => rs.length - i) 0 ⟨Nat.zero_le _, fun _ _ h => absurd h (Nat.not_lt_zero _)⟩ (wk_mk ⟨rfl, ⟨(int_eq (by rfl)), ⟨(int_eq (by omega)), trivial⟩⟩⟩ trivial trivial rfl) ?_
    rintro i hG
    replace hG : i ≤ rs.length ∧ ∀ j e, j < i → rs[j]? = some e → (!entsOk e.2) = false := hG
    obtain ⟨hi, hG⟩ := hG
    have hbi := ents_bound i hG
    refine tr_seq ?_
    refine tr_seq ?_
    refine tr_region rfl (.run [] [] rfl (st_move rfl) (.run [] [] rfl (st_move rfl) (.run [] [] rfl (st_len_fro rfl rfl Try.underlying54) (.run [] [] rfl (st_lss rfl rfl rfl) .nil)))) ?_
    refine tr_if (t := decide ((i:Int) < ((pvR rs).length : Int))) rfl (fun h2 => ?_) (fun h2 => ?_)
    · skip
      replace h2 := of_decide_eq_true h2
      refine tr_skip ?_
      refine tr_seq ?_
      refine tr_block ?_
      refine tr_seq ?_
      refine tr_seq ?_
      obtain ⟨e, he⟩ : ∃ e, rs[i]? = some e := ⟨_, List.getElem?_eq_getElem (by omega)⟩
      have hb1 := hb _ (List.mem_of_getElem? he)
      refine tr_region rfl (.run [] [] rfl (st_move rfl) (.run [] [] rfl (st_move rfl) (.run [] [] rfl (st_idx_fro rfl rfl rfl Try.underlying54 Try.sizeOf108 rfl (by omega) (pvR_get he)) (.run [] [] rfl (st_faddr_fea rfl rfl Try.underlying108 rfl Try.sizeOf26 (by decide)) (.run [] [] rfl (st_load_fea1 rfl rfl Try.isAgg26 rfl) (.run [1900] [] rfl (st_call rfl 1900 (X := []) en31 rfl (.val nod) (.cons (.one (.bor (.sl nod))) .nil) (by decide) all_nil .nil (specEntriesOk_con e.2 (by omega)) rfl rfl (nle rfl)) (.run [] [] rfl (st_not (b := entsOk e.2) rfl rfl) .nil))))))) ?_
      refine tr_if (t := (!(entsOk e.2))) rfl (fun h3 => ?_) (fun h3 => ?_)
      · skip
        replace h3 : (entsOk e.2) = false := bnot_t h3
        refine tr_seq ?_
        refine tr_region rfl (.run [] [] rfl (st_assign rfl) .nil) ?_
        refine tr_ret ?_
        exact ends [_] [] (.cons (.tmp (bool_eq (by rw [runs_bad he hG h3]))) .nil) (.cons (.one .v (.v _)) .nil) (by decide) trivial
      · skip
        replace h3 : (entsOk e.2) = true := bnot_f h3
        refine tr_skip ?_
        have hrv := pvE_length e.2
        refine tr_wk (s' := mk [(0, .p none (.sl false 1 (pvR rs))), (3, .p none (.v (.int .i64 ((ents (rs.take i)).length : Int)))), (4, .p none (.v (.int .i64 (i:Int))))] [] []) ?_ ?_
        · exact wk_mk ⟨rfl, ⟨rfl, ⟨rfl, trivial⟩⟩⟩ trivial trivial rfl
        refine tr_region rfl (.run [] [] rfl (st_move rfl) (.run [] [] rfl (st_move rfl) (.run [] [] rfl (st_move rfl) (.run [] [] rfl (st_idx_fro rfl rfl rfl Try.underlying54 Try.sizeOf108 rfl (by omega) (pvR_get he)) (.run [] [] rfl (st_faddr_fea rfl rfl Try.underlying108 rfl Try.sizeOf26 (by decide)) (.run [] [] rfl (st_load_fea1 rfl rfl Try.isAgg26 rfl) (.run [] [] rfl (st_len_fro rfl rfl Try.underlying26) (.run [] [] rfl (st_addn rfl rfl rfl (by omega)) (.run [] [] rfl (st_assign rfl) .nil))))))))) ?_
        refine tr_region rfl (.run [] [] rfl (st_move rfl) (.run [] [] rfl (st_addn rfl rfl rfl (by omega)) (.run [] [] rfl (st_assign rfl) .nil))) ?_
        refine nxt (Q := fun _ _ => False) (z := i) (i + 1) ?_ ?_ ?_
        · show (i + 1) ≤ rs.length ∧ ∀ j e, j < (i + 1) → rs[j]? = some e → (!entsOk e.2) = false
          exact ⟨by omega, idx_step hG he (by simp [h3])⟩
        · show rs.length - (i + 1) < rs.length - i
          omega
        · exact wk_mk ⟨rfl, ⟨(int_eq (by rw [ents_step he, List.length_append, pvE_length]; omega)), ⟨(int_eq (by omega)), trivial⟩⟩⟩ trivial trivial rfl
    · skip
      replace h2 := of_decide_eq_false h2
      refine tr_exit ?_
      refine tr_seq ?_
      refine tr_region rfl (.run [] [] rfl (st_move rfl) (.run [] [] rfl (st_leq rfl rfl rfl) (.run [] [] rfl (st_assign rfl) .nil))) ?_
      refine tr_ret ?_
      exact ends [_] [] (.cons (.tmp (bool_eq (by rw [runs_good (by omega) hG (by omega), List.take_of_length_le (by omega)]; simp only [decide_eq_decide]; omega))) .nil) (.cons (.one .v (.v _)) .nil) (by decide) trivial
set_option maxRecDepth 1000000 in
set_option maxHeartbeats 2000000 in
theorem runsOkc_con (r : Bool × List Ent) (hb : r.2.length ≤ 2000000) : Con Try.prog 151 [.agg [PV.sl false 4 (pvE r.2)]] [] [.one (.v (.bool (!entsOk r.2)))] := by
  refine con_of_tr Try.func151 rfl rfl rfl rfl ?_
  have hle := pvE_length r.2
  refine tr_seq ?_
  refine tr_region rfl (.run [] [1] rfl (st_box rfl 1 rfl rfl (by decide) rfl (by decide)) (.run [] [] rfl (st_assign rfl) .nil)) ?_
  refine tr_seq ?_
  refine tr_region rfl (.run [] [] rfl (st_faddr_box rfl rfl Try.underlying108 rfl Try.sizeOf26 (by decide)) (.run [] [] rfl (st_load_box1 rfl rfl rfl Try.isAgg26 rfl) (.run [500] [] rfl (st_call rfl 500 (X := []) en38 rfl (.val nod) (.cons (.one (.bor (.sl nod))) .nil) (by decide) all_nil .nil (entriesOk_con r.2 (by omega)) rfl rfl (nle rfl)) (.run [] [] rfl (st_not (b := entsOk r.2) rfl rfl) (.run [] [] rfl (st_assign rfl) .nil))))) ?_
  refine tr_ret ?_
  exact ends [_] [] (.cons (.tmp rfl) .nil) (.cons (.one .v (.v _)) .nil) (by decide) trivial
set_option maxRecDepth 1000000 in
set_option maxHeartbeats 2000000 in
theorem indexFuncR_con (rs : RunL) (hl : rs.length ≤ 2000000) (f : Nat) (pss : List (List PV)) (p : Bool × List Ent → Bool) (hE : ∀ vs w, (callFunc f vs).run Try.prog w = .ok (.enter f vs) w) (hp : ∀ r ∈ rs, Con Try.prog f ([.agg [.sl false 4 (pvE r.2)]] ++ pss.map .fbox) [] [.one (.v (.bool (p r)))]) : Con Try.prog 176 [.one (PV.sl false 1 (pvR rs)), .one (PV.clo f pss)] [] [.one (.v (.int .i64 (idxF p rs)))] := by
  refine con_of_tr Try.func176 rfl rfl rfl rfl ?_
  have hle := pvR_length rs
  refine tr_seq ?_
  refine tr_region rfl (.run [] [] rfl (st_assign rfl) .nil) ?_
  refine tr_seq ?_
  refine tr_seq ?_
  refine tr_region rfl (.run [] [] rfl (st_move rfl) (.run [] [] rfl (st_len_fro rfl rfl Try.underlying54) (.run [] [] rfl (st_move rfl) .nil))) ?_
  refine tr_block ?_
  refine tr_loopS (σ := Nat) (fun i => mk [(0, .p none (.sl false 1 (pvR rs))), (1, .p none (.clo f pss)), (7, .p none (.v (.int .i64 ((pvR rs).length : Int)))), (8, .p none (.v (.int .i64 (i:Int))))] [] []) (fun i => i ≤ rs.length ∧ ∀ j e, j < i → rs[j]? = some e → p e = false) (fun i => rs.length - i) 0 ⟨Nat.zero_le _, fun _ _ h => absurd h (Nat.not_lt_zero _)⟩ (wk_mk ⟨rfl, ⟨rfl, ⟨rfl, ⟨(int_eq (by omega)), trivial⟩⟩⟩⟩ trivial trivial rfl) ?_
  rintro i hG
  replace hG : i ≤ rs.length ∧ ∀ j e, j < i → rs[j]? = some e → p e = false := hG
  obtain ⟨hi, hG⟩ := hG
  refine tr_seq ?_
  refine tr_region rfl (.run [] [] rfl (st_lss rfl rfl rfl) .nil) ?_
  refine tr_seq ?_
  refine tr_if (t := decide ((i:Int) < ((pvR rs).length : Int))) rfl (fun h1 => ?_) (fun h1 => ?_)
  · skip
    replace h1 := of_decide_eq_true h1
    refine tr_skip ?_
    refine tr_seq ?_
    refine tr_block ?_
    refine tr_seq ?_
    refine tr_region rfl (.run [] [] rfl (st_move rfl) (.run [] [] rfl (st_assign rfl) .nil)) ?_
    refine tr_seq ?_
    obtain ⟨e, he⟩ : ∃ e, rs[i]? = some e := ⟨_, List.getElem?_eq_getElem (by (have hL := pvR_length rs; omega))⟩
    have hlte := (List.getElem?_eq_some_iff.1 he).1
    refine tr_region rfl (.run [] [] rfl (st_move rfl) (.run [] [] rfl (st_move rfl) (.run [] [] rfl (st_move rfl) (.run [] [] rfl (st_idx_fro rfl rfl rfl Try.underlying54 Try.sizeOf108 rfl (by omega) (pvR_get he)) (.run [] [] rfl (st_load_fea rfl rfl Try.isAgg108 Try.sizeOf108 (nle rfl)) (.run [1600] [] rfl (st_call rfl 1600 (X := []) hE rfl (.val nod) (.cons (.agg (.cons (.bor (.sl nod)) .nil)) .nil) (by decide) all_nil .nil (hp e (List.mem_of_getElem? he)) rfl rfl (nle rfl)) .nil)))))) ?_
    refine tr_if (t := p e) rfl (fun h2 => ?_) (fun h2 => ?_)
    · skip
      refine tr_seq ?_
      refine tr_region rfl (.run [] [] rfl (st_move rfl) (.run [] [] rfl (st_assign rfl) .nil)) ?_
      refine tr_ret ?_
      exact ends [_] [] (.cons (.tmp (int_eq (idx_hit hG he h2).symm)) .nil) (.cons (.one .v (.v _)) .nil) (by decide) trivial
    · skip
      refine tr_skip ?_
      refine tr_region rfl (.run [] [] rfl (st_addn rfl rfl rfl (by omega)) (.run [] [] rfl (st_move rfl) .nil)) ?_
      refine nxt (Q := fun _ _ => False) (z := i) (i + 1) ?_ ?_ ?_
      · show (i + 1) ≤ rs.length ∧ ∀ j e, j < (i + 1) → rs[j]? = some e → p e = false
        exact ⟨by omega, idx_step hG he h2⟩
      · show rs.length - (i + 1) < rs.length - i
        omega
      · exact wk_mk ⟨rfl, ⟨rfl, ⟨rfl, ⟨(int_eq (by omega)), trivial⟩⟩⟩⟩ trivial trivial rfl
  · skip
    replace h1 := of_decide_eq_false h1
    refine tr_exit ?_
    refine tr_seq ?_
    refine tr_region rfl (.run [] [] rfl (st_assign rfl) .nil) ?_
    refine tr_ret ?_
    exact ends [_] [] (.cons (.tmp (int_eq (idx_none (by omega) hG).symm)) .nil) (.cons (.one .v (.v _)) .nil) (by decide) trivial
set_option maxRecDepth 1000000 in
set_option maxHeartbeats 2000000 in
theorem containsFuncR_con (rs : RunL) (hl : rs.length ≤ 2000000) (f : Nat) (pss : List (List PV)) (p : Bool × List Ent → Bool) (hE : ∀ vs w, (callFunc f vs).run Try.prog w = .ok (.enter f vs) w) (hp : ∀ r ∈ rs, Con Try.prog f ([.agg [.sl false 4 (pvE r.2)]] ++ pss.map .fbox) [] [.one (.v (.bool (p r)))]) : Con Try.prog 150 [.one (PV.sl false 1 (pvR rs)), .one (PV.clo f pss)] [] [.one (.v (.bool (decide (0 ≤ idxF p rs))))] := by
  refine con_of_tr Try.func150 rfl rfl rfl rfl ?_
  have hle := pvR_length rs
  refine tr_seq ?_
  refine tr_region rfl (.run [] [] rfl (st_assign rfl) .nil) ?_
  refine tr_seq ?_
  refine tr_region rfl (.run [] [] rfl (st_move rfl) (.run [] [] rfl (st_move rfl) (.run [700] [] rfl (st_call rfl 700 (X := []) en176 rfl (.val nod) (.cons (.one (.bor (.sl nod))) (.cons (.one (.bor (.cl nod))) .nil)) (by decide) all_nil .nil (indexFuncR_con rs hl f pss p hE hp) rfl rfl (nle rfl)) (.run [] [] rfl (st_geq rfl rfl rfl) (.run [] [] rfl (st_assign rfl) .nil))))) ?_
  refine tr_ret ?_
  exact ends [_] [] (.cons (.tmp rfl) .nil) (.cons (.one .v (.v _)) .nil) (by decide) trivial
set_option maxRecDepth 1000000 in
set_option maxHeartbeats 2000000 in
theorem runsOk_con (rs : RunL) (hl : rs.length ≤ 2000000) (hb : ∀ r ∈ rs, r.2.length ≤ 2000000) : Con Try.prog 95 [.one (PV.sl false 1 (pvR rs))] [] [.one (.v (.bool (runsOkF rs)))] := by
  refine con_of_tr Try.func95 rfl rfl rfl rfl ?_
  have hle := pvR_length rs
  have hje := pvE_length (ents rs)
  refine tr_seq ?_
  refine tr_region rfl (.run [] [] rfl (st_assign rfl) .nil) ?_
  refine tr_seq ?_
  rcases bfc (decide (((pvR rs).length : Int) ≤ 20)) with h1 | h1
  · have h1' := h1
    replace h1' := of_decide_eq_false h1'
    refine tr_region rfl (.run [] [] rfl (st_move rfl) (.run [] [] rfl (st_len_fro rfl rfl Try.underlying54) (.run [] [] rfl (st_eq (st_leq rfl rfl rfl) (bool_eq h1)) (.run [] [] rfl (st_move rfl) (.not rfl (.not rfl (.not rfl (.run [] [] rfl (st_pick (t := false) rfl rfl) (.run [] [] rfl (st_move rfl) (.not rfl (.not rfl (.not rfl (.not rfl (.run [] [] rfl (st_pick (t := false) rfl rfl) (.run [] [] rfl (st_assign rfl) .nil))))))))))))))) ?_
    refine tr_ret ?_
    exact ends [_] [] (.cons (.tmp (bool_eq (by first | exact runs_f1 (by omega) | exact runs_f2 (by omega) | exact runs_f3 (by omega) (by omega) (by omega)))) .nil) (.cons (.one .v (.v _)) .nil) (by decide) trivial
  · have h1' := h1
    replace h1' := of_decide_eq_true h1'
    rcases bfc (!(decide (0 ≤ idxF (fun r : Bool × List Ent => !entsOk r.2) rs))) with h2 | h2
    · have h2' := h2
      replace h2' : 0 ≤ idxF (fun r : Bool × List Ent => !entsOk r.2) rs := of_decide_eq_true (bnot_f h2')
      refine tr_region rfl (.run [] [] rfl (st_move rfl) (.run [] [] rfl (st_len_fro rfl rfl Try.underlying54) (.run [] [] rfl (st_eq (st_leq rfl rfl rfl) (bool_eq h1)) (.run [] [] rfl (st_move rfl) (.run [] [] rfl (st_move rfl) (.run [800] [] rfl (st_call rfl 800 (X := []) en150 rfl (.val nod) (.cons (.one (.bor (.sl nod))) (.cons (.one (.bor (.cl nod))) .nil)) (by decide) all_nil .nil (containsFuncR_con rs hl 151 [] (fun r : Bool × List Ent => !entsOk r.2) en151 (fun r hr => runsOkc_con r (hb r hr))) rfl rfl (nle rfl)) (.run [] [] rfl (st_eq (st_not (b := decide (0 ≤ idxF (fun r : Bool × List Ent => !entsOk r.2) rs)) rfl rfl) (bool_eq h2)) (.run [] [] rfl (st_pick (t := true) rfl rfl) (.run [] [] rfl (st_move rfl) (.not rfl (.not rfl (.not rfl (.not rfl (.run [] [] rfl (st_pick (t := false) rfl rfl) (.run [] [] rfl (st_assign rfl) .nil))))))))))))))) ?_
      refine tr_ret ?_
      exact ends [_] [] (.cons (.tmp (bool_eq (by first | exact runs_f1 (by omega) | exact runs_f2 (by omega) | exact runs_f3 (by omega) (by omega) (by omega)))) .nil) (.cons (.one .v (.v _)) .nil) (by decide) trivial
    · have h2' := h2
      replace h2' : ¬ (0 ≤ idxF (fun r : Bool × List Ent => !entsOk r.2) rs) := of_decide_eq_false (bnot_t h2')
      refine tr_region rfl (.run [] [] rfl (st_move rfl) (.run [] [] rfl (st_len_fro rfl rfl Try.underlying54) (.run [] [] rfl (st_eq (st_leq rfl rfl rfl) (bool_eq h1)) (.run [] [] rfl (st_move rfl) (.run [] [] rfl (st_move rfl) (.run [800] [] rfl (st_call rfl 800 (X := []) en150 rfl (.val nod) (.cons (.one (.bor (.sl nod))) (.cons (.one (.bor (.cl nod))) .nil)) (by decide) all_nil .nil (containsFuncR_con rs hl 151 [] (fun r : Bool × List Ent => !entsOk r.2) en151 (fun r hr => runsOkc_con r (hb r hr))) rfl rfl (nle rfl)) (.run [] [] rfl (st_eq (st_not (b := decide (0 ≤ idxF (fun r : Bool × List Ent => !entsOk r.2) rs)) rfl rfl) (bool_eq h2)) (.run [] [] rfl (st_pick (t := true) rfl rfl) (.run [] [] rfl (st_move rfl) (.run [] [] rfl (st_move rfl) (.run [1300] [] rfl (st_call rfl 1300 (X := []) en96 rfl (.val nod) (.cons (.one (.bor (.sl nod))) .nil) (by decide) all_nil .nil (joined_con rs (runs_bound (by omega) hb (by omega)) hl) rfl rfl (nle rfl)) (.run [] [] rfl (st_len_row rfl rfl Try.underlying26) (.run [] [] rfl (st_leq rfl rfl rfl) (.run [] [] rfl (st_pick (t := true) rfl rfl) (.run [] [] rfl (st_assign rfl) .nil))))))))))))))) ?_
      refine tr_ret ?_
      exact ends [_] [] (.cons (.tmp (bool_eq (by first | exact runs_f1 (by omega) | exact runs_f2 (by omega) | exact runs_f3 (by omega) (by omega) (by omega)))) .nil) (.cons (.one .v (.v _)) .nil) (by decide) trivial
set_option maxRecDepth 1000000 in
set_option maxHeartbeats 2000000 in
theorem l13Merge_con (rs : RunL) (hn : (ents rs).length ≤ 900000) (hl : rs.length ≤ 2000000) : Con Try.prog 131 [.one (PV.sl false 1 (pvR rs))] [] [.one (.sl true 4 (pvE (mergeL (rows rs))))] := by
  refine con_of_tr Try.func131 rfl rfl rfl rfl ?_
  have hle := pvR_length rs
  refine tr_seq ?_
  refine tr_region rfl (.run [] [] rfl (st_assign rfl) .nil) ?_
  refine tr_seq ?_
  refine tr_region rfl (.run [600] [] rfl (st_buildSlice rfl 600 Try.underlying26 inf44 (nle rfl) (by decide) rfl rfl rfl .nil (by decide) rfl (by decide) rfl (by decide) rfl) (.run [] [] rfl (st_assign rfl) .nil)) ?_
  refine tr_seq ?_
  refine tr_seq ?_
  refine tr_region rfl (.run [] [] rfl (st_move rfl) (.run [] [] rfl (st_len_fro rfl rfl Try.underlying54) (.run [] [] rfl (st_subn rfl rfl rfl (by omega)) (.run [] [] rfl (st_assign rfl) .nil)))) ?_
  refine tr_block ?_
  refine tr_wk (wk_ren 600 1 rfl rfl (by decide)) ?_
  refine tr_loopS (σ := Nat) (fun i => mk [(0, .p none (.sl false 1 (pvR rs))), (3, .sl 1 0 ((pvE (mergeL (rows (rs.drop i)))).length)), (4, .p none (.v (.int .i64 ((i:Int) - 1))))] [] [(1, 4, pvE (mergeL (rows (rs.drop i))))]) (fun i => i ≤ rs.length) (fun i => i) rs.length (by simp) (wk_mk ⟨rfl, ⟨(congrArg (AV.sl 1 0) (show 0 = (pvE (mergeL (rows (rs.drop rs.length)))).length by rw [List.drop_length] <;> rfl)), ⟨(int_eq (by omega)), trivial⟩⟩⟩ trivial ⟨(congrArg (fun x => some (4, x)) (by rw [List.drop_length] <;> rfl)), trivial⟩ rfl) ?_
  rintro i hG
  replace hG : i ≤ rs.length := hG
  refine tr_seq ?_
  refine tr_seq ?_
  refine tr_region rfl (.run [] [] rfl (st_move rfl) (.run [] [] rfl (st_geq rfl rfl rfl) .nil)) ?_
  refine tr_if (t := decide (0 ≤ ((i:Int) - 1))) rfl (fun h1 => ?_) (fun h1 => ?_)
  · skip
    replace h1 := of_decide_eq_true h1
    refine tr_skip ?_
    refine tr_seq ?_
    refine tr_block ?_
    refine tr_seq ?_
    obtain ⟨r, hr⟩ : ∃ r, rs[i - 1]? = some r := ⟨_, List.getElem?_eq_getElem (by omega)⟩
    have hrl := run_len hr
    have hrv := pvE_length r.2
    have hml := mergeL_len (rows (rs.drop i))
    have hdl := rows_drop_len rs i
    refine tr_region rfl (.run [] [] rfl (st_assign rfl) .nil) ?_
    refine tr_block ?_
    refine tr_loopS (σ := Nat) (fun k => mk [(0, .p none (.sl false 1 (pvR rs))), (3, .sl 1 0 ((pvE (putsF (mergeL (rows (rs.drop i))) (r.2.take k))).length)), (4, .p none (.v (.int .i64 ((i:Int) - 1)))), (5, .p none (.v (.int .i64 (k:Int))))] [] [(1, 4, pvE (putsF (mergeL (rows (rs.drop i))) (r.2.take k)))]) (fun k => k ≤ r.2.length) (fun k => r.2.length - k) 0 (by simp) (wk_mk ⟨rfl, ⟨rfl, ⟨rfl, ⟨(int_eq (by omega)), trivial⟩⟩⟩⟩ trivial ⟨(congrArg (fun x => some (4, x)) (by rfl)), trivial⟩ rfl) ?_
    rintro k hG
    replace hG : k ≤ r.2.length := hG
    have hpl := puts_len (r.2.take k) (mergeL (rows (rs.drop i)))
    have htl := List.length_take_le k r.2
    have hpv := pvE_length (putsF (mergeL (rows (rs.drop i))) (r.2.take k))
    refine tr_seq ?_
    refine tr_seq ?_
    refine tr_region rfl (.run [] [] rfl (st_move rfl) (.run [] [] rfl (st_move rfl) (.run [] [] rfl (st_eq (st_move rfl) (((show (AV.p none (.v (.int .i64 ((i:Int) - 1)))) = AV.p none (.v (.int .i64 ((i - 1 : Nat) : Int))) from int_eq (by omega))))) (.run [] [] rfl (st_idx_fro rfl rfl rfl Try.underlying54 Try.sizeOf108 rfl (by omega) (pvR_get hr)) (.run [] [] rfl (st_faddr_fea rfl rfl Try.underlying108 rfl Try.sizeOf26 (by decide)) (.run [] [] rfl (st_load_fea1 rfl rfl Try.isAgg26 rfl) (.run [] [] rfl (st_len_fro rfl rfl Try.underlying26) (.run [] [] rfl (st_lss rfl rfl rfl) .nil)))))))) ?_
    refine tr_if (t := decide ((k:Int) < ((pvE r.2).length : Int))) rfl (fun h2 => ?_) (fun h2 => ?_)
    · skip
      replace h2 := of_decide_eq_true h2
      refine tr_skip ?_
      refine tr_seq ?_
      refine tr_block ?_
      refine tr_wk (s' := mk [(0, .p none (.sl false 1 (pvR rs))), (3, .sl 1 0 ((pvE (putsF (mergeL (rows (rs.drop i))) (r.2.take k))).length)), (4, .p none (.v (.int .i64 ((i:Int) - 1)))), (5, .p none (.v (.int .i64 (k:Int))))] [] [(1, 4, pvE (putsF (mergeL (rows (rs.drop i))) (r.2.take k)))]) ?_ ?_
      · exact wk_mk ⟨rfl, ⟨rfl, ⟨rfl, ⟨rfl, trivial⟩⟩⟩⟩ trivial ⟨rfl, trivial⟩ rfl
      obtain ⟨e, he⟩ : ∃ e, r.2[k]? = some e := ⟨_, List.getElem?_eq_getElem (by (have hL := pvE_length r.2; omega))⟩
      have hlte := (List.getElem?_eq_some_iff.1 he).1
      refine tr_region rfl (.run [] [] rfl (st_move rfl) (.run [] [] rfl (st_move rfl) (.run [] [] rfl (st_eq (st_move rfl) (((show (AV.p none (.v (.int .i64 ((i:Int) - 1)))) = AV.p none (.v (.int .i64 ((i - 1 : Nat) : Int))) from int_eq (by omega))))) (.run [] [] rfl (st_idx_fro rfl rfl rfl Try.underlying54 Try.sizeOf108 rfl (by omega) (pvR_get hr)) (.run [] [] rfl (st_faddr_fea rfl rfl Try.underlying108 rfl Try.sizeOf26 (by decide)) (.run [] [] rfl (st_load_fea1 rfl rfl Try.isAgg26 rfl) (.run [] [] rfl (st_move rfl) (.run [] [] rfl (st_idx_fro rfl rfl rfl Try.underlying26 Try.sizeOf44 rfl (by omega) (pvE_get he)) (.run [] [] rfl (st_load_fea rfl rfl Try.isAgg44 Try.sizeOf44 (nle rfl)) (.run [1, 3300] [] rfl (st_call rfl 3300 (X := []) en116 rfl (.val nod) (.cons (.one (.bor (.all (len := (pvE (putsF (mergeL (rows (rs.drop i))) (r.2.take k))).length) (xs := pvE (putsF (mergeL (rows (rs.drop i))) (r.2.take k))) rfl rfl (by decide)))) (.cons (.agg (.cons (.bor .v) (.cons (.bor .v) (.cons (.bor .v) (.cons (.bor .v) .nil))))) .nil)) (by decide) all_nil .nil (l8Put_con (putsF (mergeL (rows (rs.drop i))) (r.2.take k)) e (by omega)) rfl rfl (nle rfl)) (.run [] [] rfl (st_assign rfl) .nil))))))))))) ?_
      refine tr_region rfl (.run [] [] rfl (st_move rfl) (.run [] [] rfl (st_addn rfl rfl rfl (by omega)) (.run [] [] rfl (st_assign rfl) .nil))) ?_
      refine nxt (Q := fun _ _ => False) (z := k) (k + 1) ?_ ?_ ?_
      · show (k + 1) ≤ r.2.length
        omega
      · show r.2.length - (k + 1) < r.2.length - k
        omega
      · exact (show Wk _ _ (mk [(0, .p none (.sl false 1 (pvR rs))), (3, .sl 3300 0 ((pvE (putF (putsF (mergeL (rows (rs.drop i))) (r.2.take k)) e)).length)), (4, .p none (.v (.int .i64 ((i:Int) - 1)))), (5, .p none (.v (.int .i64 ((k:Int) + 1))))] [] [(3300, 4, pvE (putF (putsF (mergeL (rows (rs.drop i))) (r.2.take k)) e))]) from wk_mk ⟨rfl, ⟨rfl, ⟨rfl, ⟨rfl, trivial⟩⟩⟩⟩ trivial ⟨rfl, trivial⟩ rfl).trans ((wk_ren 3300 1 rfl rfl (by decide)).trans (wk_mk ⟨rfl, ⟨(congrArg (fun z => AV.sl 1 0 (pvE z).length) (putsF_step he).symm), ⟨rfl, ⟨(int_eq (by omega)), trivial⟩⟩⟩⟩ trivial ⟨(congrArg (fun x => some (4, x)) (by rw [putsF_step he])), trivial⟩ rfl))
    · skip
      replace h2 := of_decide_eq_false h2
      refine tr_exit ?_
      refine tr_region rfl (.run [] [] rfl (st_move rfl) (.run [] [] rfl (st_subn rfl rfl rfl (by omega)) (.run [] [] rfl (st_assign rfl) .nil))) ?_
      have hend : (putsF (mergeL (rows (rs.drop i))) (r.2.take k)) = (mergeL (rows (rs.drop (i - 1)))) := by rw [List.take_of_length_le (by omega), mergeL_step hr, Nat.sub_add_cancel (by omega)]
      refine nxt (Q := fun _ _ => False) (z := i) (i - 1) ?_ ?_ ?_
      · show (i - 1) ≤ rs.length
        omega
      · show (i - 1) < i
        omega
      · exact wk_mk ⟨rfl, ⟨(congrArg (fun z => AV.sl 1 0 (pvE z).length) hend), ⟨(int_eq (by omega)), trivial⟩⟩⟩ trivial ⟨(congrArg (fun x => some (4, x)) (by rw [hend])), trivial⟩ rfl
  · skip
    replace h1 := of_decide_eq_false h1
    refine tr_exit ?_
    refine tr_seq ?_
    refine tr_region rfl (.run [] [] rfl (st_move rfl) (.run [] [] rfl (st_assign rfl) .nil)) ?_
    have hr3 : pvE (mergeL (rows (rs.drop i))) = pvE (mergeL (rows rs)) := by rw [show i = 0 by omega, List.drop_zero]
    have hp4 : (.sl 1 0 ((pvE (mergeL (rows (rs.drop i)))).length) : AV) = .sl 1 0 ((pvE (mergeL (rows rs))).length) := by simp only [hr3]
    refine tr_wk (s' := mk [(2, .sl 1 0 ((pvE (mergeL (rows rs))).length))] [] [(1, 4, pvE (mergeL (rows rs)))]) ?_ ?_
    · exact wk_mk ⟨hp4, trivial⟩ trivial ⟨(congrArg (fun x => some (4, x)) hr3), trivial⟩ rfl
    refine tr_ret ?_
    exact ends [_] [1] (.cons (.tmp rfl) .nil) (.cons (.one (.row (len := (pvE (mergeL (rows rs))).length) (xs := pvE (mergeL (rows rs))) rfl rfl) (.sl _ _ (FlatP.clean (pvE_flat _)))) .nil) (by decide) trivial
theorem l13Merge_all (mem : List Ent) (rs : RunL) (hn : mem.length + (ents rs).length ≤ 900000) (hl : rs.length ≤ 1000000) : Con Try.prog 131 [.one (PV.sl false 1 ([[PV.sl false 4 (pvE mem)]] ++ ((pvR rs).map fun es => es.map PV.shr)))] [] [.one (.sl true 4 (pvE (allS mem rs)))] := by
  rw [pvR_all]
  have h := l13Merge_con ((false, mem) :: rs.map fun r => (false, r.2)) (by rw [ents, rows_all]; simpa [entsL, ents] using hn) (by simp; omega)
  rw [rows_all] at h
  exact h
set_option maxRecDepth 1000000 in
set_option maxHeartbeats 2000000 in
theorem l15All_con (sq : Int) (mem : List Ent) (rs : RunL) (sn : List Int) (hn : mem.length + (ents rs).length ≤ 900000) (hl : rs.length ≤ 1000000) : Con Try.prog 92 [.agg [PV.v (.int .i64 sq), PV.sl false 4 (pvE mem), PV.sl false 1 (pvR rs), PV.sl false 1 (pvI sn)]] [] [.one (.sl true 4 (pvE (allS mem rs)))] := by
  refine con_of_tr Try.func92 rfl rfl rfl rfl ?_
  have hle := pvR_length rs
  refine tr_seq ?_
  refine tr_region rfl (.run [] [1] rfl (st_box rfl 1 rfl rfl (by decide) rfl (by decide)) (.run [] [] rfl (st_assign rfl) .nil)) ?_
  refine tr_seq ?_
  refine tr_region rfl (.run [] [] rfl (st_faddr_box rfl rfl Try.underlying56 rfl Try.sizeOf26 (by decide)) (.run [] [] rfl (st_load_box1 rfl rfl rfl Try.isAgg26 rfl) (.run [] [] rfl (st_build (pl := [(0, 1)]) rfl Try.underlying108 inf108 (by kernel_rfl) rfl rfl) (.run [600] [] rfl (st_buildSlice rfl 600 Try.underlying54 inf108 (nle rfl) (by decide) rfl rfl rfl (.cons .fro .nil) (by decide) rfl (by decide) rfl (by decide) rfl) (.run [] [] rfl (st_faddr_box rfl rfl Try.underlying56 rfl Try.sizeOf54 (by decide)) (.run [] [] rfl (st_load_box1 rfl rfl rfl Try.isAgg54 rfl) (.run [600] [] rfl (st_append rfl 600 (ib := 600) (len := ([[PV.sl false 4 (pvE mem)]] ++ ((pvR rs).map fun es => es.map PV.shr)).length) rfl rfl (.row (len := 1) (xs := [[PV.sl false 4 (pvE mem)]]) rfl rfl (.inl rfl)) .frn Try.underlying54 (sk Try.underlying54 rfl) inf108 rfl (by decide) (by decide) (by decide) List.length_append (by simp only [maxLen, List.length_append, List.length_map, List.length_cons, List.length_nil, List.length_take, List.length_drop, pvE_length, pvI_length, pvT_length, pvU_length, pvP_length, pvR_length]; omega) (by simp only [maxLen, List.length_append, List.length_map, List.length_cons, List.length_nil, List.length_take, List.length_drop, pvE_length, pvI_length, pvT_length, pvU_length, pvP_length, pvR_length]; omega)) (.run [600, 1000] [] rfl (st_call rfl 1000 (X := []) en131 rfl (.val nod) (.cons (.one (.bor (.all (len := ([[PV.sl false 4 (pvE mem)]] ++ ((pvR rs).map fun es => es.map PV.shr)).length) (xs := [[PV.sl false 4 (pvE mem)]] ++ ((pvR rs).map fun es => es.map PV.shr)) rfl rfl (by decide)))) .nil) (by decide) all_nil .nil (l13Merge_all mem rs hn hl) rfl rfl (nle rfl)) (.run [] [] rfl (st_assign rfl) .nil))))))))) ?_
  refine tr_ret ?_
  exact ends [_] [1000] (.cons (.tmp rfl) .nil) (.cons (.one (.row (len := (pvE (allS mem rs)).length) (xs := pvE (allS mem rs)) rfl rfl) (.sl _ _ (FlatP.clean (pvE_flat _)))) .nil) (by decide) trivial
end Go.Rl
namespace Go.Rl
structure Bop where
  kind : Int
  user : ByteArray
  value : ByteArray
def Bop.pv (e : Bop) : List PV := [.v (.int .i64 e.kind), .v (.string e.user), .v (.string e.value)]
def pvO (l : List Bop) : List (List PV) := l.map Bop.pv
theorem pvO_length (l : List Bop) : (pvO l).length = l.length := by simp [pvO]
theorem pvO_get {l : List Bop} {i : Nat} {e : Bop} (h : l[i]? = some e) : (pvO l)[i]? = some [.v (.int .i64 e.kind), .v (.string e.user), .v (.string e.value)] := by simp [pvO, h, Bop.pv]
theorem pvO_flat (l : List Bop) : FlatP (pvO l) := fun es he p hp => by
  obtain ⟨e, _, rfl⟩ := List.mem_map.1 he
  simp only [Bop.pv, List.mem_cons, List.not_mem_nil, or_false] at hp
  rcases hp with rfl | rfl | rfl <;> rfl
theorem pvO_snoc (l : List Bop) (e : Bop) : pvO l ++ [e.pv] = pvO (l ++ [e]) := by simp [pvO]
/-- The entry that an op of a batch becomes. -/
def bent (s : Int) (i : Nat) (o : Bop) : Ent := ⟨o.user, s + (i : Int), o.kind, o.value⟩
def batchE (s : Int) (ops : List Bop) : List Ent := ops.mapIdx (bent s)
theorem batchE_len (s : Int) (ops : List Bop) : (batchE s ops).length = ops.length := by simp [batchE]
theorem batchE_get {s : Int} {ops : List Bop} {i : Nat} {o : Bop} (h : ops[i]? = some o) : (batchE s ops)[i]? = some (bent s i o) := by simp [batchE, h]
theorem batchE_step {s : Int} {ops : List Bop} {i : Nat} {o : Bop} (h : ops[i]? = some o) : batchE s (ops.take (i + 1)) = batchE s (ops.take i) ++ [bent s i o] := by
  have hi := (List.getElem?_eq_some_iff.1 h).1
  rw [List.take_add_one, h]
  simp only [batchE, Option.toList_some, List.mapIdx_append, List.mapIdx_cons, List.mapIdx_nil, List.length_take]
  rw [Nat.min_eq_left (by omega), Nat.zero_add]
def batchOkF (s : Int) (ops : List Bop) : Bool := within (ops.length : Int) 1 20 && (within s 1 999999999980 && decide (idxF (fun e => !entOk e) (batchE s ops) < 0))
theorem batch_bad {s : Int} {ops : List Bop} {i : Nat} {o : Bop} (h : ops[i]? = some o) (hG : ∀ j o, j < i → ops[j]? = some o → entOk (bent s j o) = true) (hr : entOk (bent s i o) = false) : batchOkF s ops = false := by
  have := idx_hit (p := fun e => !entOk e) (l := batchE s ops) (i := i) (fun j e hj he => by
    have hi := (List.getElem?_eq_some_iff.1 h).1
    have h2 := batchE_get (s := s) (List.getElem?_eq_getElem (show j < ops.length by omega))
    rw [h2] at he
    cases he
    rw [hG j _ hj (List.getElem?_eq_getElem (by omega))]; rfl) (batchE_get h) (by simp [hr])
  have h2 : ¬ ((i : Int) < 0) := by omega
  unfold batchOkF
  rw [this, decide_eq_false h2, Bool.and_false, Bool.and_false]
theorem batch_good {s : Int} {ops : List Bop} {i : Nat} (hi : ops.length ≤ i) (hG : ∀ j o, j < i → ops[j]? = some o → entOk (bent s j o) = true) (h1 : within (ops.length : Int) 1 20 = true) (h2 : within s 1 999999999980 = true) : batchOkF s ops = true := by
  have := idx_none (p := fun e => !entOk e) (l := batchE s ops) (i := i) (by rw [batchE_len]; exact hi) (fun j e hj he => by
    have hl := (List.getElem?_eq_some_iff.1 he).1
    rw [batchE_len] at hl
    have h2 := batchE_get (s := s) (List.getElem?_eq_getElem hl)
    rw [h2] at he
    cases he
    rw [hG j _ hj (List.getElem?_eq_getElem hl)]; rfl)
  unfold batchOkF
  rw [this, h1, h2]
  rfl
theorem batch_f1 {s : Int} {ops : List Bop} (h : within (ops.length : Int) 1 20 = false) : false = batchOkF s ops := by unfold batchOkF; rw [h]; rfl
theorem batch_f2 {s : Int} {ops : List Bop} (h : within s 1 999999999980 = false) : false = batchOkF s ops := by unfold batchOkF; rw [h, Bool.false_and, Bool.and_false]
theorem batch_f3 {s : Int} {ops : List Bop} (h1 : within (ops.length : Int) 1 20 = true) (h2 : within s 1 999999999980 = true) : (!decide (0 ≤ idxF (fun e => !entOk e) (batchE s ops))) = batchOkF s ops := by
  unfold batchOkF
  rw [h1, h2, Bool.true_and, Bool.true_and]
  by_cases h : idxF (fun e => !entOk e) (batchE s ops) < 0
  · rw [decide_eq_true h, decide_eq_false (by omega)]; rfl
  · rw [decide_eq_false h, decide_eq_true (by omega)]; rfl
theorem within_len {n : Nat} : within (n : Int) 1 20 = true ↔ 1 ≤ n ∧ n ≤ 20 := by
  simp only [within, Bool.and_eq_true, decide_eq_true_eq]; omega
/-! #### copies -/
def ownR (rs : RunL) : RunL := rs.map fun r => (true, r.2)
theorem ownR_len (rs : RunL) : (ownR rs).length = rs.length := by simp [ownR]
theorem ownR_step {rs : RunL} {i : Nat} {r : Bool × List Ent} (h : rs[i]? = some r) : pvR (ownR (rs.take i)) ++ [[.sl true 4 (pvE r.2)]] = pvR (ownR (rs.take (i + 1))) := by
  rw [List.take_add_one, h]
  simp [pvR, ownR]
theorem pvR_own_clean (rs : RunL) : Clean (.sl true 1 (pvR (ownR rs))) := by
  refine .sl _ _ (fun es he p hp => ?_)
  obtain ⟨r, hr, rfl⟩ := List.mem_map.1 he
  obtain ⟨r', _, rfl⟩ := List.mem_map.1 hr
  simp only [List.mem_singleton] at hp
  subst hp
  exact .sl _ _ (FlatP.clean (pvE_flat _))
/-! #### as of what is read -/
def atI (sn : List Int) (at_ : Int) : Bool := decide (0 ≤ idxF (fun x => decide (at_ = x)) sn)
end Go.Rl
namespace Go.Rl
open Go.Proofs
theorem inf136 : (Try.prog.info? 136).map (fun i => (i.zero, i.size, i.bytes)) = some (some (.agg #[.int .i64 0, .string ⟨#[]⟩, .string ⟨#[]⟩]), 3, 40) := by kernel_rfl
theorem inf56 : (Try.prog.info? 56).map (fun i => (i.zero, i.size, i.bytes)) = some (some (.agg #[.int .i64 0, .slice none 0 0, .slice none 0 0, .slice none 0 0]), 4, 80) := by kernel_rfl
theorem en157 : ∀ vs w, (callFunc 157 vs).run Try.prog w = .ok (.enter 157 vs) w := enters Try.func157 (by decide) rfl
theorem en121 : ∀ vs w, (callFunc 121 vs).run Try.prog w = .ok (.enter 121 vs) w := enters Try.func121 (by decide) rfl
theorem en98 : ∀ vs w, (callFunc 98 vs).run Try.prog w = .ok (.enter 98 vs) w := enters Try.func98 (by decide) rfl
theorem en117 : ∀ vs w, (callFunc 117 vs).run Try.prog w = .ok (.enter 117 vs) w := enters Try.func117 (by decide) rfl
theorem en103 : ∀ vs w, (callFunc 103 vs).run Try.prog w = .ok (.enter 103 vs) w := enters Try.func103 (by decide) rfl
theorem en154 : ∀ vs w, (callFunc 154 vs).run Try.prog w = .ok (.enter 154 vs) w := enters Try.func154 (by decide) rfl
theorem within_of1 {s : Int} (h : within s 1 999999999980 = true) : 1 ≤ s ∧ s ≤ 999999999980 := by simpa [within] using h
theorem bent_step {s : Int} {ops : List Bop} {i : Nat} {o : Bop} (hG : ∀ j o, j < i → ops[j]? = some o → entOk (bent s j o) = true) (ho : ops[i]? = some o) (h : entOk (bent s i o) = true) : ∀ j o, j < i + 1 → ops[j]? = some o → entOk (bent s j o) = true := fun j o2 hj h2 => by
  by_cases hji : j = i
  · subst hji; rw [ho] at h2; cases h2; exact h
  · exact hG j o2 (by omega) h2
set_option maxRecDepth 1000000 in
set_option maxHeartbeats 2000000 in
theorem batchEntries_con (s : Int) (ops : List Bop) (hl : ops.length ≤ 2000) (hs : within s 1 999999999980 = true) : Con Try.prog 121 [.agg [PV.v (.int .i64 s), PV.sl false 3 (pvO ops)]] [] [.one (.sl true 4 (pvE (batchE s ops)))] := by
  refine con_of_tr Try.func121 rfl rfl rfl rfl ?_
  have hle := pvO_length ops
  have hs2 := within_of1 hs
  refine tr_seq ?_
  refine tr_region rfl (.run [] [1] rfl (st_box rfl 1 rfl rfl (by decide) rfl (by decide)) (.run [] [] rfl (st_assign rfl) .nil)) ?_
  refine tr_seq ?_
  refine tr_region rfl (.run [600] [] rfl (st_buildSlice rfl 600 Try.underlying26 inf44 (nle rfl) (by decide) rfl rfl rfl .nil (by decide) rfl (by decide) rfl (by decide) rfl) (.run [] [] rfl (st_assign rfl) .nil)) ?_
  refine tr_seq ?_
  refine tr_seq ?_
  refine tr_region rfl (.run [] [] rfl (st_faddr_box rfl rfl Try.underlying132 rfl Try.sizeOf73 (by decide)) (.run [] [] rfl (st_load_box1 rfl rfl rfl Try.isAgg73 rfl) (.run [] [] rfl (st_len_fro rfl rfl Try.underlying73) (.run [] [] rfl (st_move rfl) .nil)))) ?_
  refine tr_block ?_
  refine tr_wk (wk_ren 600 1 rfl rfl (by decide)) ?_
  refine tr_loopS (σ := Nat) (fun i => mk [(1, .ptr 1 0), (3, .sl 1 0 ((pvE (batchE s (ops.take i))).length)), (8, .p none (.sl false 3 (pvO ops))), (9, .p none (.v (.int .i64 ((pvO ops).length : Int)))), (10, .p none (.v (.int .i64 (i:Int))))] [(1, [.p none (.v (.int .i64 s)), .p none (.sl false 3 (pvO ops))])] [(1, 4, pvE (batchE s (ops.take i)))]) (fun i => i ≤ ops.length) (fun i => ops.length - i) 0 (by simp) (wk_mk ⟨rfl, ⟨rfl, ⟨rfl, ⟨rfl, ⟨(int_eq (by omega)), trivial⟩⟩⟩⟩⟩ ⟨rfl, trivial⟩ ⟨(congrArg (fun x => some (4, x)) (by rfl)), trivial⟩ rfl) ?_
  rintro i hG
  replace hG : i ≤ ops.length := hG
  have hbl := batchE_len s (ops.take i)
  have hvi := pvE_length (batchE s (ops.take i))
  have htl := List.length_take_le i ops
  refine tr_seq ?_
  refine tr_region rfl (.run [] [] rfl (st_lss rfl rfl rfl) .nil) ?_
  refine tr_seq ?_
  refine tr_if (t := decide ((i:Int) < ((pvO ops).length : Int))) rfl (fun h1 => ?_) (fun h1 => ?_)
  · skip
    replace h1 := of_decide_eq_true h1
    refine tr_skip ?_
    refine tr_seq ?_
    refine tr_block ?_
    refine tr_seq ?_
    obtain ⟨e, he⟩ : ∃ e, ops[i]? = some e := ⟨_, List.getElem?_eq_getElem (by (have hL := pvO_length ops; omega))⟩
    have hlte := (List.getElem?_eq_some_iff.1 he).1
    refine tr_region rfl (.run [] [] rfl (st_move rfl) (.run [] [] rfl (st_idx_fro rfl rfl rfl Try.underlying73 Try.sizeOf136 rfl (by omega) (pvO_get he)) (.run [] [] rfl (st_load_fea rfl rfl Try.isAgg136 Try.sizeOf136 (nle rfl)) (.run [] [5] rfl (st_allocZ rfl 5 inf136 rfl (by decide) rfl (by decide)) (.run [] [] rfl (st_assign rfl) (.run [] [] rfl (st_store_box rfl rfl rfl rfl rfl Try.sizeOf136 rfl (nle rfl)) .nil)))))) ?_
    refine tr_wk (s' := mk [(1, .ptr 1 0), (3, .sl 1 0 ((pvE (batchE s (ops.take i))).length)), (4, .p none (.v (.int .i64 (i:Int)))), (5, .ptr 5 0), (8, .p none (.sl false 3 (pvO ops))), (9, .p none (.v (.int .i64 ((pvO ops).length : Int)))), (10, .p none (.v (.int .i64 (i:Int))))] [(1, [.p none (.v (.int .i64 s)), .p none (.sl false 3 (pvO ops))]), (5, [.p none (.v (.int .i64 e.kind)), .p none (.v (.string e.user)), .p none (.v (.string e.value))])] [(1, 4, pvE (batchE s (ops.take i)))]) ?_ ?_
    · exact wk_mk ⟨rfl, ⟨rfl, ⟨rfl, ⟨rfl, ⟨rfl, ⟨rfl, ⟨rfl, trivial⟩⟩⟩⟩⟩⟩⟩ ⟨rfl, ⟨rfl, trivial⟩⟩ ⟨rfl, trivial⟩ rfl
    refine tr_region rfl (.run [] [] rfl (st_move rfl) (.run [] [] rfl (st_faddr_box rfl rfl Try.underlying136 rfl Try.sizeOf9 (by decide)) (.run [] [] rfl (st_load_box1 rfl rfl rfl Try.isAgg9 rfl) (.run [] [] rfl (st_faddr_box rfl rfl Try.underlying132 rfl Try.sizeOf2 (by decide)) (.run [] [] rfl (st_load_box1 rfl rfl rfl Try.isAgg2 rfl) (.run [] [] rfl (st_move rfl) (.run [] [] rfl (st_addn rfl rfl rfl (by omega)) (.run [] [] rfl (st_faddr_box rfl rfl Try.underlying136 rfl Try.sizeOf2 (by decide)) (.run [] [] rfl (st_load_box1 rfl rfl rfl Try.isAgg2 rfl) (.run [] [] rfl (st_build (pl := [(0, 1), (1, 1), (2, 1)]) rfl Try.underlying42 inf42 (by kernel_rfl) rfl rfl) (.run [] [] rfl (st_faddr_box rfl rfl Try.underlying136 rfl Try.sizeOf9 (by decide)) (.run [] [] rfl (st_load_box1 rfl rfl rfl Try.isAgg9 rfl) (.run [] [] rfl (st_build (pl := [(0, 3), (3, 1)]) rfl Try.underlying44 inf44 (by kernel_rfl) rfl rfl) (.run [2800] [] rfl (st_buildSlice rfl 2800 Try.underlying26 inf44 (nle rfl) (by decide) rfl rfl rfl (.cons .v (.cons .v (.cons .v (.cons .v .nil)))) (by decide) rfl (by decide) rfl (by decide) rfl) (.run [1] [] rfl (st_append rfl 1 (ib := 1) (len := ((pvE (batchE s (ops.take i))) ++ [[PV.v (.string e.user), PV.v (.int .i64 (s + (i:Int))), PV.v (.int .i64 e.kind), PV.v (.string e.value)]]).length) rfl rfl (.row (len := (pvE (batchE s (ops.take i))).length) (xs := pvE (batchE s (ops.take i))) rfl rfl (.inl rfl)) (.give (len := 1) (xs := [[PV.v (.string e.user), PV.v (.int .i64 (s + (i:Int))), PV.v (.int .i64 e.kind), PV.v (.string e.value)]]) rfl rfl) Try.underlying26 (sk Try.underlying26 rfl) inf44 rfl (by decide) (by decide) (by decide) List.length_append (by simp only [maxLen, List.length_append, List.length_map, List.length_cons, List.length_nil, List.length_take, List.length_drop, pvE_length, pvI_length, pvT_length, pvU_length, pvP_length, pvR_length, pvO_length]; omega) (by simp only [maxLen, List.length_append, List.length_map, List.length_cons, List.length_nil, List.length_take, List.length_drop, pvE_length, pvI_length, pvT_length, pvU_length, pvP_length, pvR_length, pvO_length]; omega)) (.run [] [] rfl (st_assign rfl) .nil)))))))))))))))) ?_
    have hr2 : (pvE (batchE s (ops.take i))) ++ [[PV.v (.string e.user), PV.v (.int .i64 (s + (i:Int))), PV.v (.int .i64 e.kind), PV.v (.string e.value)]] = pvE (batchE s (ops.take (i + 1))) := by rw [batchE_step he]; exact pvE_snoc _ (bent s i e)
    have hp3 : (.sl 1 0 (((pvE (batchE s (ops.take i))) ++ [[PV.v (.string e.user), PV.v (.int .i64 (s + (i:Int))), PV.v (.int .i64 e.kind), PV.v (.string e.value)]]).length) : AV) = .sl 1 0 ((pvE (batchE s (ops.take (i + 1)))).length) := by simp only [hr2]
    refine tr_wk (s' := mk [(1, .ptr 1 0), (3, .sl 1 0 ((pvE (batchE s (ops.take (i + 1)))).length)), (8, .p none (.sl false 3 (pvO ops))), (9, .p none (.v (.int .i64 ((pvO ops).length : Int)))), (10, .p none (.v (.int .i64 (i:Int))))] [(1, [.p none (.v (.int .i64 s)), .p none (.sl false 3 (pvO ops))])] [(1, 4, pvE (batchE s (ops.take (i + 1))))]) ?_ ?_
    · exact wk_mk ⟨rfl, ⟨hp3, ⟨rfl, ⟨rfl, ⟨rfl, trivial⟩⟩⟩⟩⟩ ⟨rfl, trivial⟩ ⟨(congrArg (fun x => some (4, x)) hr2), trivial⟩ rfl
    refine tr_region rfl (.run [] [] rfl (st_addn rfl rfl rfl (by omega)) (.run [] [] rfl (st_move rfl) .nil)) ?_
    refine nxt (Q := fun _ _ => False) (z := i) (i + 1) ?_ ?_ ?_
    · show (i + 1) ≤ ops.length
      omega
    · show ops.length - (i + 1) < ops.length - i
      omega
    · exact wk_mk ⟨rfl, ⟨rfl, ⟨rfl, ⟨rfl, ⟨(int_eq (by omega)), trivial⟩⟩⟩⟩⟩ ⟨rfl, trivial⟩ ⟨rfl, trivial⟩ rfl
  · skip
    replace h1 := of_decide_eq_false h1
    refine tr_exit ?_
    refine tr_seq ?_
    refine tr_region rfl (.run [] [] rfl (st_move rfl) (.run [] [] rfl (st_assign rfl) .nil)) ?_
    have hr4 : pvE (batchE s (ops.take i)) = pvE (batchE s ops) := by rw [List.take_of_length_le (by omega)]
    have hp5 : (.sl 1 0 ((pvE (batchE s (ops.take i))).length) : AV) = .sl 1 0 ((pvE (batchE s ops)).length) := by simp only [hr4]
    refine tr_wk (s' := mk [(2, .sl 1 0 ((pvE (batchE s ops)).length))] [] [(1, 4, pvE (batchE s ops))]) ?_ ?_
    · exact wk_mk ⟨hp5, trivial⟩ trivial ⟨(congrArg (fun x => some (4, x)) hr4), trivial⟩ rfl
    refine tr_ret ?_
    exact ends [_] [1] (.cons (.tmp rfl) .nil) (.cons (.one (.row (len := (pvE (batchE s ops)).length) (xs := pvE (batchE s ops)) rfl rfl) (.sl _ _ (FlatP.clean (pvE_flat _)))) .nil) (by decide) trivial
set_option maxRecDepth 1000000 in
set_option maxHeartbeats 2000000 in
theorem l7Entry_con (s : Int) (ops : List Bop) (i : Nat) (o : Bop) (ho : ops[i]? = some o) (hl : ops.length ≤ 2000) (hs : within s 1 999999999980 = true) : Con Try.prog 117 [.agg [PV.v (.int .i64 s), PV.sl false 3 (pvO ops)], .one (PV.v (.int .i64 (i:Int)))] [] [.agg [.v (.string (bent s i o).user), .v (.int .i64 (bent s i o).seq), .v (.int .i64 (bent s i o).kind), .v (.string (bent s i o).value)]] := by
  refine con_of_tr Try.func117 rfl rfl rfl rfl ?_
  have hle := pvO_length ops
  have hs2 := within_of1 hs
  have hil := (List.getElem?_eq_some_iff.1 ho).1
  refine tr_seq ?_
  refine tr_region rfl (.run [] [2] rfl (st_box rfl 2 rfl rfl (by decide) rfl (by decide)) (.run [] [4] rfl (st_allocZ rfl 4 inf44 rfl (by decide) rfl (by decide)) .nil)) ?_
  refine tr_seq ?_
  refine tr_wk (s' := mk [(1, .p none (.v (.int .i64 (i:Int)))), (2, .ptr 2 0), (4, .ptr 4 0)] [(2, [.p none (.v (.int .i64 s)), .p none (.sl false 3 (pvO ops))]), (4, [.p none (.v (.string ⟨#[]⟩)), .p none (.v (.int .i64 0)), .p none (.v (.int .i64 0)), .p none (.v (.string ⟨#[]⟩))])] []) ?_ ?_
  · exact wk_mk ⟨rfl, ⟨rfl, ⟨rfl, trivial⟩⟩⟩ ⟨rfl, ⟨rfl, trivial⟩⟩ trivial rfl
  refine tr_regionD mixed rfl (.run [] [] rfl (st_faddr_box rfl rfl Try.underlying132 rfl Try.sizeOf73 (by decide)) (.run [] [] rfl (st_load_box1 rfl rfl rfl Try.isAgg73 rfl) (.run [] [] rfl (st_move rfl) (.run [] [] rfl (st_idx_fro rfl rfl rfl Try.underlying73 Try.sizeOf136 rfl (by omega) (pvO_get ho)) (.run [] [] rfl (st_faddr_fea rfl rfl Try.underlying136 rfl Try.sizeOf9 (by decide)) (.run [] [] rfl (st_load_fea1 rfl rfl Try.isAgg9 rfl) (.run [] [] rfl (st_faddr_box rfl rfl Try.underlying132 rfl Try.sizeOf2 (by decide)) (.run [] [] rfl (st_load_box1 rfl rfl rfl Try.isAgg2 rfl) (.run [] [] rfl (st_move rfl) (.run [] [] rfl (st_addn rfl rfl rfl (by omega)) (.run [] [] rfl (st_faddr_box rfl rfl Try.underlying132 rfl Try.sizeOf73 (by decide)) (.run [] [] rfl (st_load_box1 rfl rfl rfl Try.isAgg73 rfl) (.run [] [] rfl (st_move rfl) (.run [] [] rfl (st_idx_fro rfl rfl rfl Try.underlying73 Try.sizeOf136 rfl (by omega) (pvO_get ho)) (.run [] [] rfl (st_faddr_fea rfl rfl Try.underlying136 rfl Try.sizeOf2 (by decide)) (.run [] [] rfl (st_load_fea1 rfl rfl Try.isAgg2 rfl) (.run [] [] rfl (st_build (pl := [(0, 1), (1, 1), (2, 1)]) rfl Try.underlying42 inf42 (by kernel_rfl) rfl rfl) (.run [] [] rfl (st_faddr_box rfl rfl Try.underlying132 rfl Try.sizeOf73 (by decide)) (.run [] [] rfl (st_load_box1 rfl rfl rfl Try.isAgg73 rfl) (.run [] [] rfl (st_move rfl) (.run [] [] rfl (st_idx_fro rfl rfl rfl Try.underlying73 Try.sizeOf136 rfl (by omega) (pvO_get ho)) (.run [] [] rfl (st_faddr_fea rfl rfl Try.underlying136 rfl Try.sizeOf9 (by decide)) (.run [] [] rfl (st_load_fea1 rfl rfl Try.isAgg9 rfl) (.run [] [] rfl (st_build (pl := [(0, 3), (3, 1)]) rfl Try.underlying44 inf44 (by kernel_rfl) rfl rfl) (.run [] [] rfl (st_store_box rfl rfl rfl rfl rfl Try.sizeOf44 rfl (nle rfl)) .nil))))))))))))))))))))))))) (by kernel_rfl) ?_
  refine tr_ret ?_
  exact ends [_] [] (.cons (.cell rfl rfl Try.isAgg44 Try.sizeOf44 (nle rfl)) .nil) (.cons (.agg (.cons .v (.cons .v (.cons .v (.cons .v .nil)))) (cl_cons (.v _) (cl_cons (.v _) (cl_cons (.v _) (cl_cons (.v _) cl_nil))))) .nil) (by decide) trivial
set_option maxRecDepth 1000000 in
set_option maxHeartbeats 2000000 in
theorem batchOkc_con (e : Ent) : Con Try.prog 157 [.agg [PV.v (.string e.user), PV.v (.int .i64 e.seq), PV.v (.int .i64 e.kind), PV.v (.string e.value)]] [] [.one (.v (.bool (!entOk e)))] := by
  refine con_of_tr Try.func157 rfl rfl rfl rfl ?_
  refine tr_seq ?_
  refine tr_region rfl (.run [] [1] rfl (st_box rfl 1 rfl rfl (by decide) rfl (by decide)) (.run [] [] rfl (st_assign rfl) .nil)) ?_
  refine tr_seq ?_
  refine tr_region rfl (.run [] [] rfl (st_load_box rfl rfl rfl Try.isAgg44 Try.sizeOf44 (nle rfl)) (.run [400] [] rfl (st_call rfl 400 (X := []) en87 rfl (.val nod) (.cons (.agg (.cons (.bor .v) (.cons (.bor .v) (.cons (.bor .v) (.cons (.bor .v) .nil))))) .nil) (by decide) all_nil .nil (entryOk_con e) rfl rfl (nle rfl)) (.run [] [] rfl (st_not (b := entOk e) rfl rfl) (.run [] [] rfl (st_assign rfl) .nil)))) ?_
  refine tr_ret ?_
  exact ends [_] [] (.cons (.tmp rfl) .nil) (.cons (.one .v (.v _)) .nil) (by decide) trivial
set_option maxRecDepth 1000000 in
set_option maxHeartbeats 2000000 in
theorem batchOk_con (s : Int) (ops : List Bop) (hl : ops.length ≤ 2000000) : Con Try.prog 119 [.agg [PV.v (.int .i64 s), PV.sl false 3 (pvO ops)]] [] [.one (.v (.bool (batchOkF s ops)))] := by
  refine con_of_tr Try.func119 rfl rfl rfl rfl ?_
  have hle := pvO_length ops
  refine tr_seq ?_
  refine tr_region rfl (.run [] [1] rfl (st_box rfl 1 rfl rfl (by decide) rfl (by decide)) (.run [] [] rfl (st_assign rfl) .nil)) ?_
  refine tr_seq ?_
  refine tr_wk (s' := mk [(1, .ptr 1 0)] [(1, [.p none (.v (.int .i64 s)), .p none (.sl false 3 (pvO ops))])] []) ?_ ?_
  · exact wk_mk ⟨rfl, trivial⟩ ⟨rfl, trivial⟩ trivial rfl
  rcases bfc (within (ops.length : Int) 1 20) with h1 | h1
  · have h1' := h1
    refine tr_region rfl (.run [] [] rfl (st_faddr_box rfl rfl Try.underlying132 rfl Try.sizeOf73 (by decide)) (.run [] [] rfl (st_load_box1 rfl rfl rfl Try.isAgg73 rfl) (.run [] [] rfl (st_eq (st_len_fro rfl rfl Try.underlying73) ((show (AV.p none (.v (.int .i64 ((pvO ops).length : Int)))) = AV.p none (.v (.int .i64 (ops.length : Int))) from int_eq (by omega)))) (.run [600] [] rfl (st_call rfl 600 (X := []) en94 rfl (.val nod) (.cons (.one (.bor .v)) (.cons (.one (.bor .v)) (.cons (.one (.bor .v)) .nil))) (by decide) all_nil .nil (within_con (ops.length : Int) 1 20) rfl rfl (nle rfl)) (.run [] [] rfl (st_eq (st_move rfl) (bool_eq h1)) (.not rfl (.not rfl (.not rfl (.run [] [] rfl (st_pickF rfl rfl) (.run [] [] rfl (st_move rfl) (.not rfl (.not rfl (.not rfl (.not rfl (.run [] [] rfl (st_pickF rfl rfl) (.run [] [] rfl (st_assign rfl) .nil)))))))))))))))) ?_
    refine tr_ret ?_
    exact ends [_] [] (.cons (.tmp (bool_eq (batch_f1 h1))) .nil) (.cons (.one .v (.v _)) .nil) (by decide) trivial
  · have h1' := h1
    rcases bfc (within s 1 999999999980) with h2 | h2
    · have h2' := h2
      refine tr_region rfl (.run [] [] rfl (st_faddr_box rfl rfl Try.underlying132 rfl Try.sizeOf73 (by decide)) (.run [] [] rfl (st_load_box1 rfl rfl rfl Try.isAgg73 rfl) (.run [] [] rfl (st_eq (st_len_fro rfl rfl Try.underlying73) ((show (AV.p none (.v (.int .i64 ((pvO ops).length : Int)))) = AV.p none (.v (.int .i64 (ops.length : Int))) from int_eq (by omega)))) (.run [600] [] rfl (st_call rfl 600 (X := []) en94 rfl (.val nod) (.cons (.one (.bor .v)) (.cons (.one (.bor .v)) (.cons (.one (.bor .v)) .nil))) (by decide) all_nil .nil (within_con (ops.length : Int) 1 20) rfl rfl (nle rfl)) (.run [] [] rfl (st_eq (st_move rfl) (bool_eq h1)) (.run [] [] rfl (st_faddr_box rfl rfl Try.underlying132 rfl Try.sizeOf2 (by decide)) (.run [] [] rfl (st_load_box1 rfl rfl rfl Try.isAgg2 rfl) (.run [1000] [] rfl (st_call rfl 1000 (X := []) en94 rfl (.val nod) (.cons (.one (.bor .v)) (.cons (.one (.bor .v)) (.cons (.one (.bor .v)) .nil))) (by decide) all_nil .nil (within_con s 1 999999999980) rfl rfl (nle rfl)) (.run [] [] rfl (st_pickT rfl rfl) (.run [] [] rfl (st_eq (st_move rfl) (bool_eq h2)) (.not rfl (.not rfl (.not rfl (.not rfl (.run [] [] rfl (st_pickF rfl rfl) (.run [] [] rfl (st_assign rfl) .nil)))))))))))))))) ?_
      refine tr_ret ?_
      exact ends [_] [] (.cons (.tmp (bool_eq (batch_f2 h2))) .nil) (.cons (.one .v (.v _)) .nil) (by decide) trivial
    · have h2' := h2
      refine tr_region rfl (.run [] [] rfl (st_faddr_box rfl rfl Try.underlying132 rfl Try.sizeOf73 (by decide)) (.run [] [] rfl (st_load_box1 rfl rfl rfl Try.isAgg73 rfl) (.run [] [] rfl (st_eq (st_len_fro rfl rfl Try.underlying73) ((show (AV.p none (.v (.int .i64 ((pvO ops).length : Int)))) = AV.p none (.v (.int .i64 (ops.length : Int))) from int_eq (by omega)))) (.run [600] [] rfl (st_call rfl 600 (X := []) en94 rfl (.val nod) (.cons (.one (.bor .v)) (.cons (.one (.bor .v)) (.cons (.one (.bor .v)) .nil))) (by decide) all_nil .nil (within_con (ops.length : Int) 1 20) rfl rfl (nle rfl)) (.run [] [] rfl (st_eq (st_move rfl) (bool_eq h1)) (.run [] [] rfl (st_faddr_box rfl rfl Try.underlying132 rfl Try.sizeOf2 (by decide)) (.run [] [] rfl (st_load_box1 rfl rfl rfl Try.isAgg2 rfl) (.run [1000] [] rfl (st_call rfl 1000 (X := []) en94 rfl (.val nod) (.cons (.one (.bor .v)) (.cons (.one (.bor .v)) (.cons (.one (.bor .v)) .nil))) (by decide) all_nil .nil (within_con s 1 999999999980) rfl rfl (nle rfl)) (.run [] [] rfl (st_pickT rfl rfl) (.run [] [] rfl (st_eq (st_move rfl) (bool_eq h2)) (.run [] [] rfl (st_load_box rfl rfl rfl Try.isAgg132 Try.sizeOf132 (nle rfl)) (.run [1400] [] rfl (st_call rfl 1400 (X := []) en121 rfl (.val nod) (.cons (.agg (.cons (.bor .v) (.cons (.bor (.sl nod)) .nil))) .nil) (by decide) all_nil .nil (batchEntries_con s ops (by have q := within_len.1 h1; omega) h2) rfl rfl (nle rfl)) (.run [1400, 1500] [] rfl (st_call rfl 1500 (X := []) en98 rfl (.val nod) (.cons (.one (.bor (.all (len := (pvE (batchE s ops)).length) (xs := pvE (batchE s ops)) rfl rfl (by decide)))) (.cons (.one (.bor (.cl nod))) .nil)) (by decide) all_nil .nil (containsFuncE_con (batchE s ops) (by rw [batchE_len]; omega) 157 [] (fun e => !entOk e) en157 (fun e _ => batchOkc_con e)) rfl rfl (nle rfl)) (.run [] [] rfl (st_not (b := decide (0 ≤ idxF (fun e => !entOk e) (batchE s ops))) rfl rfl) (.run [] [] rfl (st_pickT rfl rfl) (.run [] [] rfl (st_assign rfl) .nil)))))))))))))))) ?_
      refine tr_ret ?_
      exact ends [_] [] (.cons (.tmp (bool_eq (batch_f3 h1 h2))) .nil) (.cons (.one .v (.v _)) .nil) (by decide) trivial
set_option maxRecDepth 1000000 in
set_option maxHeartbeats 2000000 in
theorem specBatchOk_con (s : Int) (ops : List Bop) (hl : ops.length ≤ 2000000) : Con Try.prog 115 [.agg [PV.v (.int .i64 s), PV.sl false 3 (pvO ops)]] [] [.one (.v (.bool (batchOkF s ops)))] := by
  refine con_of_tr Try.func115 rfl rfl rfl rfl ?_
  have hle := pvO_length ops
  refine tr_seq ?_
  refine tr_region rfl (.run [] [1] rfl (st_box rfl 1 rfl rfl (by decide) rfl (by decide)) (.run [] [] rfl (st_assign rfl) .nil)) ?_
  refine tr_seq ?_
  refine tr_seq ?_
  refine tr_wk (s' := mk [(1, .ptr 1 0)] [(1, [.p none (.v (.int .i64 s)), .p none (.sl false 3 (pvO ops))])] []) ?_ ?_
  · exact wk_mk ⟨rfl, trivial⟩ ⟨rfl, trivial⟩ trivial rfl
  rcases bfc (decide (((pvO ops).length : Int) < 1)) with h1 | h1
  · have h1' := h1
    replace h1' := of_decide_eq_false h1'
    rcases bfc (decide (20 < ((pvO ops).length : Int))) with h2 | h2
    · have h2' := h2
      replace h2' := of_decide_eq_false h2'
      refine tr_region rfl (.run [] [] rfl (st_faddr_box rfl rfl Try.underlying132 rfl Try.sizeOf73 (by decide)) (.run [] [] rfl (st_load_box1 rfl rfl rfl Try.isAgg73 rfl) (.run [] [] rfl (st_len_fro rfl rfl Try.underlying73) (.run [] [] rfl (st_eq (st_lss rfl rfl rfl) (bool_eq h1)) (.run [] [] rfl (st_move rfl) (.run [] [] rfl (st_faddr_box rfl rfl Try.underlying132 rfl Try.sizeOf73 (by decide)) (.run [] [] rfl (st_load_box1 rfl rfl rfl Try.isAgg73 rfl) (.run [] [] rfl (st_len_fro rfl rfl Try.underlying73) (.run [] [] rfl (st_eq (st_gtr rfl rfl rfl) (bool_eq h2)) (.run [] [] rfl (st_pickF rfl rfl) (.run [] [] rfl (st_move rfl) (.run [] [] rfl (st_faddr_box rfl rfl Try.underlying132 rfl Try.sizeOf2 (by decide)) (.run [] [] rfl (st_load_box1 rfl rfl rfl Try.isAgg2 rfl) (.run [1700] [] rfl (st_call rfl 1700 (X := []) en84 rfl (.val nod) (.cons (.one (.bor .v)) (.cons (.one (.bor .v)) (.cons (.one (.bor .v)) .nil))) (by decide) all_nil .nil (l1In_con s 1 999999999980) rfl rfl (nle rfl)) (.run [] [] rfl (st_not (b := within s 1 999999999980) rfl rfl) (.run [] [] rfl (st_pickF rfl rfl) .nil)))))))))))))))) ?_
      refine tr_if (t := (!(within s 1 999999999980))) rfl (fun h3 => ?_) (fun h3 => ?_)
      · skip
        replace h3 : (within s 1 999999999980) = false := bnot_t h3
        refine tr_seq ?_
        refine tr_wk (s' := mk [] [] []) ?_ ?_
        · exact wk_mk trivial trivial trivial rfl
        refine tr_region rfl (.run [] [] rfl (st_assign rfl) .nil) ?_
        refine tr_ret ?_
        exact ends [_] [] (.cons (.tmp (bool_eq (batch_f2 h3))) .nil) (.cons (.one .v (.v _)) .nil) (by decide) trivial
      · skip
        replace h3 : (within s 1 999999999980) = true := bnot_f h3
        refine tr_skip ?_
        refine tr_seq ?_
        refine tr_seq ?_
        have hs : within s 1 999999999980 = true := by assumption
        have hwl : within (ops.length : Int) 1 20 = true := within_len.2 ⟨by omega, by omega⟩
        refine tr_wk (s' := mk [(1, .ptr 1 0)] [(1, [.p none (.v (.int .i64 s)), .p none (.sl false 3 (pvO ops))])] []) ?_ ?_
        · exact wk_mk ⟨rfl, trivial⟩ ⟨rfl, trivial⟩ trivial rfl
        refine tr_region rfl (.run [] [] rfl (st_assign rfl) .nil) ?_
        refine tr_block ?_
        refine tr_loopS (σ := Nat) (fun i => mk [(1, .ptr 1 0), (3, .p none (.v (.int .i64 (i:Int))))] [(1, [.p none (.v (.int .i64 s)), .p none (.sl false 3 (pvO ops))])] []) (fun i => i ≤ ops.length ∧ ∀ j o, j < i → ops[j]? = some o → entOk (bent s j o) = true) (fun i => ops.length - i) 0 ⟨Nat.zero_le _, fun _ _ h => absurd h (Nat.not_lt_zero _)⟩ (wk_mk ⟨rfl, ⟨(int_eq (by omega)), trivial⟩⟩ ⟨rfl, trivial⟩ trivial rfl) ?_
        rintro i hG
        replace hG : i ≤ ops.length ∧ ∀ j o, j < i → ops[j]? = some o → entOk (bent s j o) = true := hG
        obtain ⟨hi, hG⟩ := hG
        refine tr_seq ?_
        refine tr_seq ?_
        refine tr_region rfl (.run [] [] rfl (st_move rfl) (.run [] [] rfl (st_faddr_box rfl rfl Try.underlying132 rfl Try.sizeOf73 (by decide)) (.run [] [] rfl (st_load_box1 rfl rfl rfl Try.isAgg73 rfl) (.run [] [] rfl (st_len_fro rfl rfl Try.underlying73) (.run [] [] rfl (st_lss rfl rfl rfl) .nil))))) ?_
        refine tr_if (t := decide ((i:Int) < ((pvO ops).length : Int))) rfl (fun h4 => ?_) (fun h4 => ?_)
        · skip
          replace h4 := of_decide_eq_true h4
          refine tr_skip ?_
          refine tr_seq ?_
          refine tr_block ?_
          refine tr_seq ?_
          obtain ⟨o, ho⟩ : ∃ o, ops[i]? = some o := ⟨_, List.getElem?_eq_getElem (by omega)⟩
          refine tr_region rfl (.run [] [] rfl (st_load_box rfl rfl rfl Try.isAgg132 Try.sizeOf132 (nle rfl)) (.run [] [] rfl (st_move rfl) (.run [2900, 2901, 2902, 2903] [] rfl (st_call rfl 2900 (X := []) en117 rfl (.val nod) (.cons (.agg (.cons (.bor .v) (.cons (.bor (.sl nod)) .nil))) (.cons (.one (.bor .v)) .nil)) (by decide) all_nil .nil (l7Entry_con s ops i o ho (by omega) hs) rfl rfl (nle rfl)) (.run [3000] [] rfl (st_call rfl 3000 (X := []) en82 rfl (.val nod) (.cons (.agg (.cons (.bor .v) (.cons (.bor .v) (.cons (.bor .v) (.cons (.bor .v) .nil))))) .nil) (by decide) all_nil .nil (specEntryOk_con (bent s i o)) rfl rfl (nle rfl)) (.run [] [] rfl (st_not (b := entOk (bent s i o)) rfl rfl) .nil))))) ?_
          refine tr_if (t := (!(entOk (bent s i o)))) rfl (fun h5 => ?_) (fun h5 => ?_)
          · skip
            replace h5 : (entOk (bent s i o)) = false := bnot_t h5
            refine tr_seq ?_
            refine tr_region rfl (.run [] [] rfl (st_assign rfl) .nil) ?_
            refine tr_ret ?_
            exact ends [_] [] (.cons (.tmp (bool_eq ((batch_bad ho hG h5).symm))) .nil) (.cons (.one .v (.v _)) .nil) (by decide) trivial
          · skip
            replace h5 : (entOk (bent s i o)) = true := bnot_f h5
            refine tr_skip ?_
            refine tr_region rfl (.run [] [] rfl (st_move rfl) (.run [] [] rfl (st_addn rfl rfl rfl (by omega)) (.run [] [] rfl (st_assign rfl) .nil))) ?_
            refine nxt (Q := fun _ _ => False) (z := i) (i + 1) ?_ ?_ ?_
            · show (i + 1) ≤ ops.length ∧ ∀ j o, j < (i + 1) → ops[j]? = some o → entOk (bent s j o) = true
              exact ⟨by omega, bent_step hG ho h5⟩
            · show ops.length - (i + 1) < ops.length - i
              omega
            · exact wk_mk ⟨rfl, ⟨(int_eq (by omega)), trivial⟩⟩ ⟨rfl, trivial⟩ trivial rfl
        · skip
          replace h4 := of_decide_eq_false h4
          refine tr_exit ?_
          refine tr_seq ?_
          refine tr_region rfl (.run [] [] rfl (st_assign rfl) .nil) ?_
          refine tr_ret ?_
          exact ends [_] [] (.cons (.tmp (bool_eq ((batch_good (by omega) hG hwl hs).symm))) .nil) (.cons (.one .v (.v _)) .nil) (by decide) trivial
    · have h2' := h2
      replace h2' := of_decide_eq_true h2'
      refine tr_region rfl (.run [] [] rfl (st_faddr_box rfl rfl Try.underlying132 rfl Try.sizeOf73 (by decide)) (.run [] [] rfl (st_load_box1 rfl rfl rfl Try.isAgg73 rfl) (.run [] [] rfl (st_len_fro rfl rfl Try.underlying73) (.run [] [] rfl (st_eq (st_lss rfl rfl rfl) (bool_eq h1)) (.run [] [] rfl (st_move rfl) (.run [] [] rfl (st_faddr_box rfl rfl Try.underlying132 rfl Try.sizeOf73 (by decide)) (.run [] [] rfl (st_load_box1 rfl rfl rfl Try.isAgg73 rfl) (.run [] [] rfl (st_len_fro rfl rfl Try.underlying73) (.run [] [] rfl (st_eq (st_gtr rfl rfl rfl) (bool_eq h2)) (.run [] [] rfl (st_pickF rfl rfl) (.run [] [] rfl (st_move rfl) (.not rfl (.not rfl (.not rfl (.not rfl (.run [] [] rfl (st_pickT rfl rfl) .nil)))))))))))))))) ?_
      refine tr_if (t := true) rfl (fun _ => ?_) (fun h => nomatch h)
      refine tr_seq ?_
      refine tr_wk (s' := mk [] [] []) ?_ ?_
      · exact wk_mk trivial trivial trivial rfl
      refine tr_region rfl (.run [] [] rfl (st_assign rfl) .nil) ?_
      refine tr_ret ?_
      exact ends [_] [] (.cons (.tmp (bool_eq (batch_f1 (by cases q : within (ops.length : Int) 1 20 with | false => rfl | true => have := within_len.1 q; omega)))) .nil) (.cons (.one .v (.v _)) .nil) (by decide) trivial
  · have h1' := h1
    replace h1' := of_decide_eq_true h1'
    refine tr_region rfl (.run [] [] rfl (st_faddr_box rfl rfl Try.underlying132 rfl Try.sizeOf73 (by decide)) (.run [] [] rfl (st_load_box1 rfl rfl rfl Try.isAgg73 rfl) (.run [] [] rfl (st_len_fro rfl rfl Try.underlying73) (.run [] [] rfl (st_eq (st_lss rfl rfl rfl) (bool_eq h1)) (.run [] [] rfl (st_move rfl) (.not rfl (.not rfl (.not rfl (.not rfl (.run [] [] rfl (st_pickT rfl rfl) (.run [] [] rfl (st_move rfl) (.not rfl (.not rfl (.not rfl (.not rfl (.run [] [] rfl (st_pickT rfl rfl) .nil)))))))))))))))) ?_
    refine tr_if (t := true) rfl (fun _ => ?_) (fun h => nomatch h)
    refine tr_seq ?_
    refine tr_wk (s' := mk [] [] []) ?_ ?_
    · exact wk_mk trivial trivial trivial rfl
    refine tr_region rfl (.run [] [] rfl (st_assign rfl) .nil) ?_
    refine tr_ret ?_
    exact ends [_] [] (.cons (.tmp (bool_eq (batch_f1 (by cases q : within (ops.length : Int) 1 20 with | false => rfl | true => have := within_len.1 q; omega)))) .nil) (.cons (.one .v (.v _)) .nil) (by decide) trivial
set_option maxRecDepth 1000000 in
set_option maxHeartbeats 2000000 in
theorem asOf_con (sq : Int) (mem : List Ent) (rs : RunL) (sn : List Int) (a : Int) (hl : sn.length ≤ 2000000) : Con Try.prog 110 [.agg [PV.v (.int .i64 sq), PV.sl false 4 (pvE mem), PV.sl false 1 (pvR rs), PV.sl false 1 (pvI sn)], .one (PV.v (.int .i64 a))] [] [.one (.v (.int .i64 (if a = -1 then sq else a))), .one (.v (.bool (decide (a = -1) || atI sn a)))] := by
  refine con_of_tr Try.func110 rfl rfl rfl rfl ?_
  have hle := pvI_length sn
  refine tr_seq ?_
  refine tr_region rfl (.run [] [2] rfl (st_box rfl 2 rfl rfl (by decide) rfl (by decide)) (.run [] [] rfl (st_assign rfl) (.run [] [] rfl (st_assign rfl) .nil))) ?_
  refine tr_seq ?_
  refine tr_seq ?_
  refine tr_region rfl (.run [] [] rfl (st_move rfl) (.run [] [] rfl (st_eql rfl rfl rfl) .nil)) ?_
  refine tr_if (t := decide (a = (-1))) rfl (fun h1 => ?_) (fun h1 => ?_)
  · skip
    replace h1 := of_decide_eq_true h1
    refine tr_seq ?_
    refine tr_region rfl (.run [] [] rfl (st_faddr_box rfl rfl Try.underlying56 rfl Try.sizeOf2 (by decide)) (.run [] [] rfl (st_load_box1 rfl rfl rfl Try.isAgg2 rfl) (.run [] [] rfl (st_assign rfl) (.run [] [] rfl (st_assign rfl) .nil)))) ?_
    refine tr_ret ?_
    exact ends [_, _] [] (.cons (.tmp (int_eq (if_pos h1).symm)) (.cons (.tmp (bool_eq (by simp [h1]))) .nil)) (.cons (.one .v (.v _)) (.cons (.one .v (.v _)) .nil)) (by decide) trivial
  · skip
    replace h1 := of_decide_eq_false h1
    refine tr_skip ?_
    refine tr_seq ?_
    refine tr_region rfl (.run [] [] rfl (st_move rfl) (.run [] [] rfl (st_faddr_box rfl rfl Try.underlying56 rfl Try.sizeOf23 (by decide)) (.run [] [] rfl (st_load_box1 rfl rfl rfl Try.isAgg23 rfl) (.run [] [] rfl (st_move rfl) (.run [1400] [] rfl (st_call rfl 1400 (X := []) en103 rfl (.val nod) (.cons (.one (.bor (.sl nod))) (.cons (.one (.bor .v)) .nil)) (by decide) all_nil .nil (containsI_con sn a (by omega)) rfl rfl (nle rfl)) (.run [] [] rfl (st_assign rfl) (.run [] [] rfl (st_assign rfl) .nil))))))) ?_
    refine tr_ret ?_
    exact ends [_, _] [] (.cons (.tmp (int_eq (if_neg h1).symm)) (.cons (.tmp (bool_eq (by simp [h1, atI]))) .nil)) (.cons (.one .v (.v _)) (.cons (.one .v (.v _)) .nil)) (by decide) trivial
set_option maxRecDepth 1000000 in
set_option maxHeartbeats 2000000 in
theorem l15Runs_con (rs : RunL) (hn : (ents rs).length ≤ 900000) (hl : rs.length ≤ 1000000) : Con Try.prog 154 [.one (PV.sl false 1 (pvR rs))] [] [.one (.sl true 1 (pvR (ownR rs)))] := by
  refine con_of_tr Try.func154 rfl rfl rfl rfl ?_
  have hle := pvR_length rs
  refine tr_seq ?_
  refine tr_region rfl (.run [] [] rfl (st_assign rfl) .nil) ?_
  refine tr_seq ?_
  refine tr_region rfl (.run [500] [] rfl (st_buildSlice rfl 500 Try.underlying54 inf108 (nle rfl) (by decide) rfl rfl rfl .nil (by decide) rfl (by decide) rfl (by decide) rfl) (.run [] [] rfl (st_assign rfl) .nil)) ?_
  refine tr_seq ?_
  refine tr_seq ?_
  refine tr_region rfl (.run [] [] rfl (st_assign rfl) .nil) ?_
  refine tr_block ?_
  refine tr_wk (wk_ren 500 1 rfl rfl (by decide)) ?_
  refine tr_loopS (σ := Nat) (fun i => mk [(0, .p none (.sl false 1 (pvR rs))), (3, .sl 1 0 ((pvR (ownR (rs.take i))).length)), (4, .p none (.v (.int .i64 (i:Int))))] [] [(1, 1, pvR (ownR (rs.take i)))]) (fun i => i ≤ rs.length) (fun i => rs.length - i) 0 (by simp) (wk_mk ⟨rfl, ⟨rfl, ⟨(int_eq (by omega)), trivial⟩⟩⟩ trivial ⟨(congrArg (fun x => some (1, x)) (by rfl)), trivial⟩ rfl) ?_
  rintro i hG
  replace hG : i ≤ rs.length := hG
  have hol := ownR_len (rs.take i)
  have hvi := pvR_length (ownR (rs.take i))
  have htl := List.length_take_le i rs
  refine tr_seq ?_
  refine tr_seq ?_
  refine tr_region rfl (.run [] [] rfl (st_move rfl) (.run [] [] rfl (st_move rfl) (.run [] [] rfl (st_len_fro rfl rfl Try.underlying54) (.run [] [] rfl (st_lss rfl rfl rfl) .nil)))) ?_
  refine tr_if (t := decide ((i:Int) < ((pvR rs).length : Int))) rfl (fun h1 => ?_) (fun h1 => ?_)
  · skip
    replace h1 := of_decide_eq_true h1
    refine tr_skip ?_
    refine tr_seq ?_
    refine tr_block ?_
    obtain ⟨e, he⟩ : ∃ e, rs[i]? = some e := ⟨_, List.getElem?_eq_getElem (by omega)⟩
    have hrl := run_len he
    have hrv := pvE_length e.2
    refine tr_region rfl (.run [] [] rfl (st_move rfl) (.run [1300] [] rfl (st_buildSlice rfl 1300 Try.underlying26 inf44 (nle rfl) (by decide) rfl rfl rfl .nil (by decide) rfl (by decide) rfl (by decide) rfl) (.run [] [] rfl (st_move rfl) (.run [] [] rfl (st_move rfl) (.run [] [] rfl (st_idx_fro rfl rfl rfl Try.underlying54 Try.sizeOf108 rfl (by omega) (pvR_get he)) (.run [] [] rfl (st_faddr_fea rfl rfl Try.underlying108 rfl Try.sizeOf26 (by decide)) (.run [] [] rfl (st_load_fea1 rfl rfl Try.isAgg26 rfl) (.run [1300] [] rfl (st_append rfl 1300 (ib := 1300) (len := ([] ++ (pvE e.2)).length) rfl rfl (.row (len := 0) (xs := []) rfl rfl (.inl rfl)) (.fro (pvE_flat _)) Try.underlying26 (sk Try.underlying26 rfl) inf44 rfl (by decide) (by decide) (by decide) List.length_append (by simp only [maxLen, List.length_append, List.length_map, List.length_cons, List.length_nil, List.length_take, List.length_drop, pvE_length, pvI_length, pvT_length, pvU_length, pvP_length, pvR_length, pvO_length]; omega) (by simp only [maxLen, List.length_append, List.length_map, List.length_cons, List.length_nil, List.length_take, List.length_drop, pvE_length, pvI_length, pvT_length, pvU_length, pvP_length, pvR_length, pvO_length]; omega)) (.run [] [] rfl (st_build (pl := [(0, 1)]) rfl Try.underlying108 inf108 (by kernel_rfl) rfl rfl) (.run [2100, 1300] [] rfl (st_buildSlice rfl 2100 Try.underlying54 inf108 (nle rfl) (by decide) rfl rfl rfl (.cons (.row rfl rfl) .nil) (by decide) rfl (by decide) rfl (by decide) rfl) (.run [1] [] rfl (st_append rfl 1 (ib := 1) (len := ((pvR (ownR (rs.take i))) ++ [[PV.sl true 4 ([] ++ (pvE e.2))]]).length) rfl rfl (.row (len := (pvR (ownR (rs.take i))).length) (xs := pvR (ownR (rs.take i))) rfl rfl (.inl rfl)) (.give (len := 1) (xs := [[PV.sl true 4 ([] ++ (pvE e.2))]]) rfl rfl) Try.underlying54 (sk Try.underlying54 rfl) inf108 rfl (by decide) (by decide) (by decide) List.length_append (by simp only [maxLen, List.length_append, List.length_map, List.length_cons, List.length_nil, List.length_take, List.length_drop, pvE_length, pvI_length, pvT_length, pvU_length, pvP_length, pvR_length, pvO_length]; omega) (by simp only [maxLen, List.length_append, List.length_map, List.length_cons, List.length_nil, List.length_take, List.length_drop, pvE_length, pvI_length, pvT_length, pvU_length, pvP_length, pvR_length, pvO_length]; omega)) (.run [] [] rfl (st_assign rfl) .nil)))))))))))) ?_
    have hr2 : (pvR (ownR (rs.take i))) ++ [[PV.sl true 4 ([] ++ (pvE e.2))]] = pvR (ownR (rs.take (i + 1))) := by exact ownR_step he
    have hp3 : (.sl 1 0 (((pvR (ownR (rs.take i))) ++ [[PV.sl true 4 ([] ++ (pvE e.2))]]).length) : AV) = .sl 1 0 ((pvR (ownR (rs.take (i + 1)))).length) := by simp only [hr2]
    refine tr_wk (s' := mk [(0, .p none (.sl false 1 (pvR rs))), (3, .sl 1 0 ((pvR (ownR (rs.take (i + 1)))).length)), (4, .p none (.v (.int .i64 (i:Int))))] [] [(1, 1, pvR (ownR (rs.take (i + 1))))]) ?_ ?_
    · exact wk_mk ⟨rfl, ⟨hp3, ⟨rfl, trivial⟩⟩⟩ trivial ⟨(congrArg (fun x => some (1, x)) hr2), trivial⟩ rfl
    refine tr_region rfl (.run [] [] rfl (st_move rfl) (.run [] [] rfl (st_addn rfl rfl rfl (by omega)) (.run [] [] rfl (st_assign rfl) .nil))) ?_
    refine nxt (Q := fun _ _ => False) (z := i) (i + 1) ?_ ?_ ?_
    · show (i + 1) ≤ rs.length
      omega
    · show rs.length - (i + 1) < rs.length - i
      omega
    · exact wk_mk ⟨rfl, ⟨rfl, ⟨(int_eq (by omega)), trivial⟩⟩⟩ trivial ⟨rfl, trivial⟩ rfl
  · skip
    replace h1 := of_decide_eq_false h1
    refine tr_exit ?_
    refine tr_seq ?_
    refine tr_region rfl (.run [] [] rfl (st_move rfl) (.run [] [] rfl (st_assign rfl) .nil)) ?_
    have hr4 : pvR (ownR (rs.take i)) = pvR (ownR rs) := by rw [List.take_of_length_le (by omega)]
    have hp5 : (.sl 1 0 ((pvR (ownR (rs.take i))).length) : AV) = .sl 1 0 ((pvR (ownR rs)).length) := by simp only [hr4]
    refine tr_wk (s' := mk [(2, .sl 1 0 ((pvR (ownR rs)).length))] [] [(1, 1, pvR (ownR rs))]) ?_ ?_
    · exact wk_mk ⟨hp5, trivial⟩ trivial ⟨(congrArg (fun x => some (1, x)) hr4), trivial⟩ rfl
    refine tr_ret ?_
    exact ends [_] [1] (.cons (.tmp rfl) .nil) (.cons (.one (.row (len := (pvR (ownR rs)).length) (xs := pvR (ownR rs)) rfl rfl) (pvR_own_clean _)) .nil) (by decide) trivial
set_option maxRecDepth 1000000 in
set_option maxHeartbeats 2000000 in
theorem l15Copy_con (sq : Int) (mem : List Ent) (rs : RunL) (sn : List Int) (hn : mem.length + (ents rs).length ≤ 900000) (hl : rs.length ≤ 1000000) (hsn : sn.length ≤ 1000000) : Con Try.prog 101 [.agg [PV.v (.int .i64 sq), PV.sl false 4 (pvE mem), PV.sl false 1 (pvR rs), PV.sl false 1 (pvI sn)]] [] [.agg [.v (.int .i64 sq), .sl true 4 (pvE mem), .sl true 1 (pvR (ownR rs)), .sl true 1 (pvI sn)]] := by
  refine con_of_tr Try.func101 rfl rfl rfl rfl ?_
  have hle := pvR_length rs
  have hlm := pvE_length mem
  have hls := pvI_length sn
  refine tr_seq ?_
  refine tr_region rfl (.run [] [1] rfl (st_box rfl 1 rfl rfl (by decide) rfl (by decide)) (.run [] [2] rfl (st_allocZ rfl 2 inf56 rfl (by decide) rfl (by decide)) .nil)) ?_
  refine tr_seq ?_
  refine tr_wk (s' := mk [(1, .ptr 1 0), (2, .ptr 2 0)] [(1, [.p none (.v (.int .i64 sq)), .p none (.sl false 4 (pvE mem)), .p none (.sl false 1 (pvR rs)), .p none (.sl false 1 (pvI sn))]), (2, [.p none (.v (.int .i64 0)), .nils, .nils, .nils])] []) ?_ ?_
  · exact wk_mk ⟨rfl, ⟨rfl, trivial⟩⟩ ⟨rfl, ⟨rfl, trivial⟩⟩ trivial rfl
  refine tr_regionD mixed rfl (.run [] [] rfl (st_faddr_box rfl rfl Try.underlying56 rfl Try.sizeOf2 (by decide)) (.run [] [] rfl (st_load_box1 rfl rfl rfl Try.isAgg2 rfl) (.run [500] [] rfl (st_buildSlice rfl 500 Try.underlying26 inf44 (nle rfl) (by decide) rfl rfl rfl .nil (by decide) rfl (by decide) rfl (by decide) rfl) (.run [] [] rfl (st_faddr_box rfl rfl Try.underlying56 rfl Try.sizeOf26 (by decide)) (.run [] [] rfl (st_load_box1 rfl rfl rfl Try.isAgg26 rfl) (.run [500] [] rfl (st_append rfl 500 (ib := 500) (len := ([] ++ (pvE mem)).length) rfl rfl (.row (len := 0) (xs := []) rfl rfl (.inl rfl)) (.fro (pvE_flat _)) Try.underlying26 (sk Try.underlying26 rfl) inf44 rfl (by decide) (by decide) (by decide) List.length_append (by simp only [maxLen, List.length_append, List.length_map, List.length_cons, List.length_nil, List.length_take, List.length_drop, pvE_length, pvI_length, pvT_length, pvU_length, pvP_length, pvR_length, pvO_length]; omega) (by simp only [maxLen, List.length_append, List.length_map, List.length_cons, List.length_nil, List.length_take, List.length_drop, pvE_length, pvI_length, pvT_length, pvU_length, pvP_length, pvR_length, pvO_length]; omega)) (.run [] [] rfl (st_faddr_box rfl rfl Try.underlying56 rfl Try.sizeOf54 (by decide)) (.run [] [] rfl (st_load_box1 rfl rfl rfl Try.isAgg54 rfl) (.run [1100] [] rfl (st_call rfl 1100 (X := []) en154 rfl (.val nod) (.cons (.one (.bor (.sl nod))) .nil) (by decide) all_nil .nil (l15Runs_con rs (by omega) (by omega)) rfl rfl (nle rfl)) (.run [1200] [] rfl (st_buildSlice rfl 1200 Try.underlying23 inf2 (nle rfl) (by decide) rfl rfl rfl .nil (by decide) rfl (by decide) rfl (by decide) rfl) (.run [] [] rfl (st_faddr_box rfl rfl Try.underlying56 rfl Try.sizeOf23 (by decide)) (.run [] [] rfl (st_load_box1 rfl rfl rfl Try.isAgg23 rfl) (.run [1200] [] rfl (st_append rfl 1200 (ib := 1200) (len := ([] ++ (pvI sn)).length) rfl rfl (.row (len := 0) (xs := []) rfl rfl (.inl rfl)) (.fro (pvI_flat _)) Try.underlying23 (sk Try.underlying23 rfl) inf2 rfl (by decide) (by decide) (by decide) List.length_append (by simp only [maxLen, List.length_append, List.length_map, List.length_cons, List.length_nil, List.length_take, List.length_drop, pvE_length, pvI_length, pvT_length, pvU_length, pvP_length, pvR_length, pvO_length]; omega) (by simp only [maxLen, List.length_append, List.length_map, List.length_cons, List.length_nil, List.length_take, List.length_drop, pvE_length, pvI_length, pvT_length, pvU_length, pvP_length, pvR_length, pvO_length]; omega)) (.run [] [] rfl (st_build (pl := [(0, 1), (1, 1), (2, 1), (3, 1)]) rfl Try.underlying56 inf56 (by kernel_rfl) rfl rfl) (.run [] [] rfl (st_store_box rfl rfl rfl rfl rfl Try.sizeOf56 rfl (nle rfl)) .nil))))))))))))))) (by kernel_rfl) ?_
  refine tr_ret ?_
  exact ends [_] [500, 1100, 1200] (.cons (.cell rfl rfl Try.isAgg56 Try.sizeOf56 (nle rfl)) .nil) (.cons (.agg (.cons .v (.cons (.row (len := ([] ++ (pvE mem)).length) (xs := [] ++ (pvE mem)) rfl rfl) (.cons (.row (len := (pvR (ownR rs)).length) (xs := pvR (ownR rs)) rfl rfl) (.cons (.row (len := ([] ++ (pvI sn)).length) (xs := [] ++ (pvI sn)) rfl rfl) .nil)))) (cl_cons (.v _) (cl_cons (.sl _ _ (FlatP.clean (pvE_flat _))) (cl_cons (pvR_own_clean _) (cl_cons (.sl _ _ (FlatP.clean (pvI_flat _))) cl_nil))))) .nil) (by decide) trivial
end Go.Rl
namespace Go.Rl
def dbBase (sq : Int) (mem : List Ent) (rs : RunL) (sn : List Int) : Bool := within sq 0 1000000000000 && (entsOk mem && (runsOkF rs && snapsOk sn))
theorem base_of {sq : Int} {mem : List Ent} {rs : RunL} {sn : List Int} (h1 : within sq 0 1000000000000 = true) (h2 : entsOk mem = true) (h3 : runsOkF rs = true) (h4 : snapsOk sn = true) : dbBase sq mem rs sn = true := by simp [dbBase, h1, h2, h3, h4]
theorem base_n1 {sq : Int} {mem : List Ent} {rs : RunL} {sn : List Int} (h : within sq 0 1000000000000 = false) : dbBase sq mem rs sn = false := by simp [dbBase, h]
theorem base_n2 {sq : Int} {mem : List Ent} {rs : RunL} {sn : List Int} (h : entsOk mem = false) : dbBase sq mem rs sn = false := by simp [dbBase, h]
theorem base_n3 {sq : Int} {mem : List Ent} {rs : RunL} {sn : List Int} (h : runsOkF rs = false) : dbBase sq mem rs sn = false := by simp [dbBase, h]
theorem base_n4 {sq : Int} {mem : List Ent} {rs : RunL} {sn : List Int} (h : snapsOk sn = false) : dbBase sq mem rs sn = false := by simp [dbBase, h]
theorem runs_len {rs : RunL} (h : runsOkF rs = true) : rs.length ≤ 20 ∧ (ents rs).length ≤ 400 := by
  simp only [runsOkF, Bool.and_eq_true, decide_eq_true_eq] at h
  exact ⟨h.1, h.2.2⟩
theorem snaps_len {sn : List Int} (h : snapsOk sn = true) : sn.length ≤ 20 := by
  simp only [snapsOk, Bool.and_eq_true, decide_eq_true_eq] at h
  exact h.1
def leastN (mem : List Ent) : Int := mem.foldl (fun a e => min a e.seq) 1000000000000
theorem least_step {mem : List Ent} {i : Nat} {e : Ent} (h : mem[i]? = some e) : leastN (mem.take (i + 1)) = min (leastN (mem.take i)) e.seq := by
  unfold leastN
  rw [List.take_add_one, h]
  simp [List.foldl_append]
/-- Numbers are at most the engine's, and no two are alike. -/
def Seqs (sq : Int) (l : List Ent) (i : Nat) : Prop := ∀ (j : Nat) (x : Ent), j < i → l[j]? = some x → x.seq ≤ sq ∧ ∀ (k : Nat) (y : Ent), k < j → l[k]? = some y → y.seq ≠ x.seq
theorem seqs_zero (sq : Int) (l : List Ent) : Seqs sq l 0 := fun _ _ h => absurd h (Nat.not_lt_zero _)
/-- None of the first k has this number. -/
def Unlike (l : List Ent) (x : Ent) (k : Nat) : Prop := ∀ (k' : Nat) (y : Ent), k' < k → l[k']? = some y → y.seq ≠ x.seq
theorem unlike_zero (l : List Ent) (x : Ent) : Unlike l x 0 := fun _ _ h => absurd h (Nat.not_lt_zero _)
theorem unlike_step {l : List Ent} {x y : Ent} {k : Nat} (h : Unlike l x k) (hy : l[k]? = some y) (hn : ¬ y.seq = x.seq) : Unlike l x (k + 1) := fun k' z hk hz => by
  by_cases e : k' = k
  · subst e; rw [hy] at hz; cases hz; exact hn
  · exact h k' z (by omega) hz
theorem seqs_step {sq : Int} {l : List Ent} {x : Ent} {i : Nat} (h : Seqs sq l i) (hx : l[i]? = some x) (h1 : ¬ sq < x.seq) (h2 : Unlike l x i) : Seqs sq l (i + 1) := fun j y hj hy => by
  by_cases e : j = i
  · subst e; rw [hx] at hy; cases hy; exact ⟨by omega, h2⟩
  · exact h j y (by omega) hy
/-- The first i numbers are at most the engine's. -/
def UpTo (sq : Int) (sn : List Int) (i : Nat) : Prop := ∀ (j : Nat) (x : Int), j < i → sn[j]? = some x → x ≤ sq
theorem upto_zero (sq : Int) (sn : List Int) : UpTo sq sn 0 := fun _ _ h => absurd h (Nat.not_lt_zero _)
theorem upto_step {sq : Int} {sn : List Int} {i : Nat} {x : Int} (h : UpTo sq sn i) (hx : sn[i]? = some x) (hn : ¬ sq < x) : UpTo sq sn (i + 1) := fun j y hj hy => by
  by_cases e : j = i
  · subst e; rw [hx] at hy; cases hy; omega
  · exact h j y (by omega) hy
/-- The first k entries are below. -/
def Below1 (z : Int) (l : List Ent) (k : Nat) : Prop := ∀ (j : Nat) (x : Ent), j < k → l[j]? = some x → x.seq < z
theorem below1_zero (z : Int) (l : List Ent) : Below1 z l 0 := fun _ _ h => absurd h (Nat.not_lt_zero _)
theorem below1_step {z : Int} {l : List Ent} {k : Nat} {x : Ent} (h : Below1 z l k) (hx : l[k]? = some x) (hn : ¬ z ≤ x.seq) : Below1 z l (k + 1) := fun j y hj hy => by
  by_cases e : j = k
  · subst e; rw [hx] at hy; cases hy; omega
  · exact h j y (by omega) hy
def BelowR (z : Int) (rs : RunL) (i : Nat) : Prop := ∀ (j : Nat) (r : Bool × List Ent), j < i → rs[j]? = some r → Below1 z r.2 r.2.length
theorem belowR_zero (z : Int) (rs : RunL) : BelowR z rs 0 := fun _ _ h => absurd h (Nat.not_lt_zero _)
theorem belowR_step {z : Int} {rs : RunL} {i k : Nat} {r : Bool × List Ent} (h : BelowR z rs i) (hr : rs[i]? = some r) (hk : Below1 z r.2 k) (hl : r.2.length ≤ k) : BelowR z rs (i + 1) := fun j y hj hy => by
  by_cases e : j = i
  · subst e; rw [hr] at hy; cases hy; exact fun q x hq hx => hk q x (by omega) hx
  · exact h j y (by omega) hy
structure SOk (sq : Int) (mem : List Ent) (rs : RunL) (sn : List Int) : Prop where
  few : mem.length + (ents rs).length ≤ 400
  all : mem.length + (ents rs).length = (allS mem rs).length
  seqs : Seqs sq (allS mem rs) (allS mem rs).length
  upto : UpTo sq sn sn.length
  below : BelowR (leastN mem) rs rs.length
noncomputable instance decSOk (sq : Int) (mem : List Ent) (rs : RunL) (sn : List Int) : Decidable (SOk sq mem rs sn) := Classical.propDecidable _
noncomputable def dbOkS (sq : Int) (mem : List Ent) (rs : RunL) (sn : List Int) : Bool := dbBase sq mem rs sn && decide (SOk sq mem rs sn)
variable {sq : Int} {mem : List Ent} {rs : RunL} {sn : List Int}
theorem dbs_base (h : dbBase sq mem rs sn = false) : false = dbOkS sq mem rs sn := by unfold dbOkS; rw [h]; rfl
theorem dbs_no (h : ¬ SOk sq mem rs sn) : false = dbOkS sq mem rs sn := by unfold dbOkS; rw [decide_eq_false h, Bool.and_false]
theorem dbs_yes (hb : dbBase sq mem rs sn = true) (h : SOk sq mem rs sn) : true = dbOkS sq mem rs sn := by unfold dbOkS; rw [decide_eq_true h, hb]; rfl
theorem dbs_of (h : dbOkS sq mem rs sn = true) : dbBase sq mem rs sn = true ∧ SOk sq mem rs sn := by
  unfold dbOkS at h
  rw [Bool.and_eq_true] at h
  exact ⟨h.1, of_decide_eq_true h.2⟩
theorem no_seq {i : Nat} {x : Ent} (hx : (allS mem rs)[i]? = some x) (h : sq < x.seq) : ¬ SOk sq mem rs sn := fun q => by
  have := (q.seqs i x (List.getElem?_eq_some_iff.1 hx).1 hx).1
  omega
theorem no_like {i k : Nat} {x y : Ent} (hx : (allS mem rs)[i]? = some x) (hy : (allS mem rs)[k]? = some y) (hk : k < i) (h : y.seq = x.seq) : ¬ SOk sq mem rs sn := fun q => (q.seqs i x (List.getElem?_eq_some_iff.1 hx).1 hx).2 k y hk hy h
theorem no_snap {i : Nat} {x : Int} (hx : sn[i]? = some x) (h : sq < x) : ¬ SOk sq mem rs sn := fun q => by
  have := q.upto i x (List.getElem?_eq_some_iff.1 hx).1 hx
  omega
theorem no_below {i k : Nat} {r : Bool × List Ent} {x : Ent} (hr : rs[i]? = some r) (hx : r.2[k]? = some x) (h : leastN mem ≤ x.seq) : ¬ SOk sq mem rs sn := fun q => by
  have := q.below i r (List.getElem?_eq_some_iff.1 hr).1 hr k x (List.getElem?_eq_some_iff.1 hx).1 hx
  omega
end Go.Rl
namespace Go.Rl
open Go.RowKit
section
variable {γ : Gho} {P : Program} {n : Nat} {o : Oper} {M B : List Nat} {s : St}
theorem st_min {x y : Operand} {ats : Array TypeId} (ho : o.op = .call { callee := .builtin .min, args := #[x, y], argTypes := ats }) {d d' : Option Nat} {k : IntKind} {a b : Int} (hx : s.ev x = .p d (.v (.int k a))) (hy : s.ev y = .p d' (.v (.int k b))) :
    StepD γ P n o M B s { put := .p none (.v (.int k (min a b))) } :=
  stepD_pure fun s' ag w0 I L ac w hr => by
    have h1 := hr.evv ((ag.ev1 ho (by simp [Op.operands, Call.operands])).trans hx)
    have h2 := hr.evv ((ag.ev1 ho (by simp [Op.operands, Call.operands])).trans hy)
    refine ⟨_, ?_, avr_flat L w s' rfl⟩
    by_cases hlt : b < a
    · have : min a b = b := by omega
      simp [execOp, ho, resolve, invoke, builtin, Builtin.min_, Builtin.min2, h1, h2, hlt, this]
    · have : min a b = a := by omega
      simp [execOp, ho, resolve, invoke, builtin, Builtin.min_, Builtin.min2, h1, h2, hlt, this]
theorem st_max {x y : Operand} {ats : Array TypeId} (ho : o.op = .call { callee := .builtin .max, args := #[x, y], argTypes := ats }) {d d' : Option Nat} {k : IntKind} {a b : Int} (hx : s.ev x = .p d (.v (.int k a))) (hy : s.ev y = .p d' (.v (.int k b))) :
    StepD γ P n o M B s { put := .p none (.v (.int k (max a b))) } :=
  stepD_pure fun s' ag w0 I L ac w hr => by
    have h1 := hr.evv ((ag.ev1 ho (by simp [Op.operands, Call.operands])).trans hx)
    have h2 := hr.evv ((ag.ev1 ho (by simp [Op.operands, Call.operands])).trans hy)
    refine ⟨_, ?_, avr_flat L w s' rfl⟩
    by_cases hlt : a < b
    · have : max a b = b := by omega
      simp [execOp, ho, resolve, invoke, builtin, Builtin.max_, Builtin.max2, h1, h2, hlt, this]
    · have : max a b = a := by omega
      simp [execOp, ho, resolve, invoke, builtin, Builtin.max_, Builtin.max2, h1, h2, hlt, this]
end
end Go.Rl

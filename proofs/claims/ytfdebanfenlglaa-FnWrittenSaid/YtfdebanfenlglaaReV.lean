/- Promises of functions, proved by walks over their operations; no conditions beyond those that each theorem states. -/
import Derived.Test.YtfdebanfenlglaaReU
set_option linter.unusedSimpArgs false
set_option linter.unusedVariables false
namespace Go.Rl
open Go.Proofs
theorem en159 : ∀ vs w, (callFunc 159 vs).run Try.prog w = .ok (.enter 159 vs) w := enters Try.func159 (by decide) rfl
theorem en97 : ∀ vs w, (callFunc 97 vs).run Try.prog w = .ok (.enter 97 vs) w := enters Try.func97 (by decide) rfl
theorem en158 : ∀ vs w, (callFunc 158 vs).run Try.prog w = .ok (.enter 158 vs) w := enters Try.func158 (by decide) rfl
theorem en165 : ∀ vs w, (callFunc 165 vs).run Try.prog w = .ok (.enter 165 vs) w := enters Try.func165 (by decide) rfl
theorem en120 : ∀ vs w, (callFunc 120 vs).run Try.prog w = .ok (.enter 120 vs) w := enters Try.func120 (by decide) rfl
theorem en164 : ∀ vs w, (callFunc 164 vs).run Try.prog w = .ok (.enter 164 vs) w := enters Try.func164 (by decide) rfl
theorem en106 : ∀ vs w, (callFunc 106 vs).run Try.prog w = .ok (.enter 106 vs) w := enters Try.func106 (by decide) rfl
set_option maxRecDepth 1000000 in
set_option maxHeartbeats 2000000 in
theorem cloneE_con (l : List Ent) (hl : l.length ≤ 1000000000) : Con Try.prog 97 [.one (PV.sl false 4 (pvE l))] [] [.one (.sl true 4 (pvE l))] := by
  refine con_of_tr Try.func97 rfl rfl rfl rfl ?_
  have hle := pvE_length l
  refine tr_seq ?_
  refine tr_region rfl (.run [] [] rfl (st_assign rfl) .nil) ?_
  refine tr_seq ?_
  refine tr_seq ?_
  refine tr_region rfl (.run [] [] rfl (st_move rfl) (.run [] [] rfl (st_isnil (v := .slice none 0 0) rfl rfl (.inl ⟨_, _, _, _, rfl, rfl⟩) Try.underlying26) .nil)) ?_
  refine tr_ifs rfl (fun v h => ⟨_, h.choose_spec.1⟩) (fun h1 => ?_) (fun h1 => ?_)
  · replace h1 : (pvE l).length = 0 := by obtain ⟨b, e, h⟩ := h1; cases e; exact h rfl
    have hl0 : l = [] := List.eq_nil_of_length_eq_zero (by rw [pvE_length] at h1; exact h1)
    subst hl0
    refine tr_seq ?_
    refine tr_region rfl (.run [] [] rfl (st_assign rfl) .nil) ?_
    refine tr_ret ?_
    exact ends [_] [] (.cons (.tmp rfl) .nil) (.cons (.one (.nil _) (.sl _ _ (fun _ h => nomatch h))) .nil) (by decide) trivial
  · skip
    refine tr_skip ?_
    refine tr_seq ?_
    refine tr_region rfl (.run [500] [] rfl (st_buildSlice rfl 500 Try.underlying26 inf44 (nle rfl) (by decide) rfl rfl rfl .nil (by decide) rfl (by decide) rfl (by decide) rfl) (.run [] [] rfl (st_move rfl) (.run [500] [] rfl (st_append rfl 500 (ib := 500) (len := ([] ++ (pvE l)).length) rfl rfl (.row (len := 0) (xs := []) rfl rfl (.inl rfl)) (.fro (pvE_flat _)) Try.underlying26 (sk Try.underlying26 rfl) inf44 rfl (by decide) (by decide) (by decide) List.length_append (by simp only [maxLen, List.length_append, List.length_map, List.length_cons, List.length_nil, List.length_take, List.length_drop, pvE_length, pvI_length, pvT_length, pvU_length, pvP_length]; omega) (by simp only [maxLen, List.length_append, List.length_map, List.length_cons, List.length_nil, List.length_take, List.length_drop, pvE_length, pvI_length, pvT_length, pvU_length, pvP_length]; omega)) (.run [] [] rfl (st_assign rfl) .nil)))) ?_
    refine tr_ret ?_
    exact ends [_] [500] (.cons (.tmp rfl) .nil) (.cons (.one (.row (len := ([] ++ (pvE l)).length) (xs := [] ++ (pvE l)) rfl rfl) (.sl _ _ (FlatP.clean (pvE_flat l)))) .nil) (by decide) trivial
set_option maxRecDepth 1000000 in
set_option maxHeartbeats 2000000 in
theorem cmpEntries_con (a b : Ent) : Con Try.prog 159 [.agg [PV.v (.string a.user), PV.v (.int .i64 a.seq), PV.v (.int .i64 a.kind), PV.v (.string a.value)], .agg [PV.v (.string b.user), PV.v (.int .i64 b.seq), PV.v (.int .i64 b.kind), PV.v (.string b.value)]] [] [.one (.v (.int .i64 (cmpK a b)))] := by
  refine con_of_tr Try.func159 rfl rfl rfl rfl ?_
  refine tr_seq ?_
  refine tr_region rfl (.run [] [2] rfl (st_box rfl 2 rfl rfl (by decide) rfl (by decide)) (.run [] [3] rfl (st_box rfl 3 rfl rfl (by decide) rfl (by decide)) (.run [] [] rfl (st_assign rfl) .nil))) ?_
  refine tr_seq ?_
  refine tr_region rfl (.run [] [] rfl (st_faddr_box rfl rfl Try.underlying44 rfl Try.sizeOf42 (by decide)) (.run [] [] rfl (st_load_box rfl rfl rfl Try.isAgg42 Try.sizeOf42 (nle rfl)) (.run [] [] rfl (st_faddr_box rfl rfl Try.underlying44 rfl Try.sizeOf42 (by decide)) (.run [] [] rfl (st_load_box rfl rfl rfl Try.isAgg42 Try.sizeOf42 (nle rfl)) (.run [900] [] rfl (st_call rfl 900 (X := []) en88 rfl (.val nod) (.cons (.agg (.cons (.bor .v) (.cons (.bor .v) (.cons (.bor .v) .nil)))) (.cons (.agg (.cons (.bor .v) (.cons (.bor .v) (.cons (.bor .v) .nil)))) .nil)) (by decide) all_nil .nil (cmpKeys_con a b) rfl rfl (nle rfl)) (.run [] [] rfl (st_assign rfl) .nil)))))) ?_
  refine tr_ret ?_
  exact ends [_] [] (.cons (.tmp rfl) .nil) (.cons (.one .v (.v _)) .nil) (by decide) trivial
set_option maxRecDepth 1000000 in
set_option maxHeartbeats 2000000 in
theorem ordered_con (l : List Ent) (hl : l.length ≤ 2000000) (hd : Dist cmpK l) : Con Try.prog 120 [.one (PV.sl false 4 (pvE l))] [] [.one (.sl true 4 (pvE (isort cmpK l)))] := by
  refine con_of_tr Try.func120 rfl rfl rfl rfl ?_
  have hle := pvE_length l
  have hli := pvE_length (isort cmpK l)
  have hli2 := isort_len (c := cmpK) l
  refine tr_seq ?_
  refine tr_region rfl (.run [] [] rfl (st_assign rfl) .nil) ?_
  refine tr_seq ?_
  refine tr_region rfl (.run [] [] rfl (st_move rfl) (.run [500] [] rfl (st_call rfl 500 (X := []) en97 rfl (.val nod) (.cons (.one (.bor (.sl nod))) .nil) (by decide) all_nil .nil (cloneE_con l (by omega)) rfl rfl (nle rfl)) (.run [] [] rfl (st_assign rfl) .nil))) ?_
  refine tr_seq ?_
  refine tr_region rfl (.run [] [] rfl (st_move rfl) (.run [500] [] rfl (st_call rfl 700 (X := [500]) en158 rfl (.val nod) (.cons (.one (.own (len := (pvE l).length) (xs := pvE l) rfl rfl)) (.cons (.one (.bor (.cl nod))) .nil)) (by decide) (all_cons rfl all_nil) (.keep (xs := pvE l) rfl (FlatP.nf (pvE_flat _)) .nil) (sortStableEntry_con l (by omega) cmpK cmpK_ok 159 [] en159 (fun x y => cmpEntries_con x y) hd) rfl rfl (nle rfl)) .nil)) ?_
  refine tr_seq ?_
  refine tr_region rfl (.run [] [] rfl (st_move rfl) (.run [] [] rfl (st_assign rfl) .nil)) ?_
  refine tr_ret ?_
  exact ends [_] [500] (.cons (.tmp rfl) .nil) (.cons (.one (.row (len := (pvE l).length) (xs := pvE (isort cmpK l)) rfl (by omega)) (.sl _ _ (FlatP.clean (pvE_flat _)))) .nil) (by decide) trivial
set_option maxRecDepth 1000000 in
set_option maxHeartbeats 2000000 in
theorem compactFuncE_con (l : List Ent) (hl : l.length ≤ 2000000) (f : Nat) (pss : List (List PV)) (p : Ent → Ent → Bool) (hE : ∀ vs w, (callFunc f vs).run Try.prog w = .ok (.enter f vs) w) (hp : ∀ x y : Ent, Con Try.prog f ([.agg x.pv, .agg y.pv] ++ pss.map .fbox) [] [.one (.v (.bool (p x y)))]) (hn : ∀ i x y, l[i]? = some x → l[i + 1]? = some y → p y x = false) : Con Try.prog 164 [.one (.sl true 4 (pvE l)), .one (PV.clo f pss)] [none] [.one (.sl true 4 (pvE l))] := by
  refine con_of_tr Try.func164 rfl rfl rfl rfl ?_
  have hle := pvE_length l
  refine tr_seq ?_
  refine tr_region rfl (.run [] [] rfl (st_assign rfl) .nil) ?_
  refine tr_seq ?_
  refine tr_seq ?_
  refine tr_region rfl (.run [] [] rfl (st_move rfl) (.run [] [] rfl (st_len_row rfl rfl Try.underlying26) (.run [] [] rfl (st_lss rfl rfl rfl) .nil))) ?_
  refine tr_if (t := decide (((pvE l).length : Int) < 2)) rfl (fun h1 => ?_) (fun h1 => ?_)
  · skip
    replace h1 := of_decide_eq_true h1
    refine tr_seq ?_
    refine tr_region rfl (.run [] [] rfl (st_move rfl) (.run [] [] rfl (st_assign rfl) .nil)) ?_
    refine tr_ret ?_
    exact ends [_] [100000] (.cons (.tmp rfl) .nil) (.cons (.one (.row (len := (pvE l).length) (xs := pvE l) rfl rfl) (.sl _ _ (FlatP.clean (pvE_flat _)))) .nil) (by decide) ⟨trivial, trivial⟩
  · skip
    replace h1 := of_decide_eq_false h1
    refine tr_skip ?_
    refine tr_seq ?_
    refine tr_seq ?_
    refine tr_region rfl (.run [] [] rfl (st_assign rfl) .nil) ?_
    refine tr_block ?_
    refine tr_loopS (σ := Nat) (fun k => mk [(0, .sl 100000 0 ((pvE l).length)), (1, .p none (.clo f pss)), (5, .p none (.v (.int .i64 (k:Int))))] [] [(100000, 4, pvE l)]) (fun k => 1 ≤ k ∧ k ≤ l.length) (fun k => l.length - k) 1 ⟨Nat.le_refl _, by omega⟩ (wk_mk ⟨rfl, ⟨rfl, ⟨(int_eq (by omega)), trivial⟩⟩⟩ trivial ⟨rfl, trivial⟩ rfl) ?_
    rintro k hG
    replace hG : 1 ≤ k ∧ k ≤ l.length := hG
    obtain ⟨h1k, hkl⟩ := hG
    refine tr_seq ?_
    refine tr_seq ?_
    refine tr_region rfl (.run [] [] rfl (st_move rfl) (.run [] [] rfl (st_move rfl) (.run [] [] rfl (st_len_row rfl rfl Try.underlying26) (.run [] [] rfl (st_lss rfl rfl rfl) .nil)))) ?_
    refine tr_if (t := decide ((k:Int) < ((pvE l).length : Int))) rfl (fun h2 => ?_) (fun h2 => ?_)
    · skip
      replace h2 := of_decide_eq_true h2
      refine tr_skip ?_
      refine tr_seq ?_
      refine tr_block ?_
      refine tr_seq ?_
      obtain ⟨y, hy⟩ : ∃ y, l[k]? = some y := ⟨_, List.getElem?_eq_getElem (by omega)⟩
      obtain ⟨x, hx⟩ : ∃ x, l[k - 1]? = some x := ⟨_, List.getElem?_eq_getElem (by omega)⟩
      have hpn : p y x = false := hn (k - 1) x y hx (by rw [Nat.sub_add_cancel h1k]; exact hy)
      refine tr_regionD mixed rfl (.run [] [] rfl (st_move rfl) (.run [] [] rfl (st_move rfl) (.run [] [] rfl (st_move rfl) (.run [] [] rfl (st_idx_row0 k rfl rfl rfl rfl Try.underlying26 Try.sizeOf44 rfl rfl (by omega)) (.run [] [] rfl (st_load_ea rfl rfl rfl (pvE_get hy) Try.isAgg44 Try.sizeOf44 (nle rfl)) (.run [] [] rfl (st_move rfl) (.run [] [] rfl (st_move rfl) (.run [] [] rfl (st_eq (st_subn rfl rfl rfl (by omega)) (((show (AV.p none (.v (.int .i64 ((k:Int) - 1)))) = AV.p none (.v (.int .i64 ((k - 1 : Nat) : Int))) from int_eq (by omega))))) (.run [] [] rfl (st_idx_row0 (k - 1) rfl rfl rfl rfl Try.underlying26 Try.sizeOf44 rfl rfl (by omega)) (.run [] [] rfl (st_load_ea rfl rfl rfl (pvE_get hx) Try.isAgg44 Try.sizeOf44 (nle rfl)) (.run [2800] [] rfl (st_call rfl 2800 (X := []) hE rfl (.val nod) (.cons (.agg (.cons (.bor .v) (.cons (.bor .v) (.cons (.bor .v) (.cons (.bor .v) .nil))))) (.cons (.agg (.cons (.bor .v) (.cons (.bor .v) (.cons (.bor .v) (.cons (.bor .v) .nil))))) .nil)) (by decide) all_nil .nil (hp y x) rfl rfl (nle rfl)) .nil))))))))))) (by kernel_rfl) ?_
      refine tr_if (t := p y x) rfl (fun h3 => ?_) (fun h3 => ?_)
      · skip
        exact absurd (hpn.symm.trans h3) (by decide)
      · skip
        refine tr_skip ?_
        refine tr_wk (s' := mk [(0, .sl 100000 0 ((pvE l).length)), (1, .p none (.clo f pss)), (5, .p none (.v (.int .i64 (k:Int))))] [] [(100000, 4, pvE l)]) ?_ ?_
        · exact wk_mk ⟨rfl, ⟨rfl, ⟨rfl, trivial⟩⟩⟩ trivial ⟨rfl, trivial⟩ rfl
        refine tr_region rfl (.run [] [] rfl (st_move rfl) (.run [] [] rfl (st_addn rfl rfl rfl (by omega)) (.run [] [] rfl (st_assign rfl) .nil))) ?_
        refine nxt (Q := fun _ _ => False) (z := k) (k + 1) ?_ ?_ ?_
        · show 1 ≤ (k + 1) ∧ (k + 1) ≤ l.length
          exact ⟨by omega, by omega⟩
        · show l.length - (k + 1) < l.length - k
          omega
        · exact wk_mk ⟨rfl, ⟨rfl, ⟨(int_eq (by omega)), trivial⟩⟩⟩ trivial ⟨rfl, trivial⟩ rfl
    · skip
      replace h2 := of_decide_eq_false h2
      refine tr_exit ?_
      refine tr_seq ?_
      refine tr_region rfl (.run [] [] rfl (st_move rfl) (.run [] [] rfl (st_assign rfl) .nil)) ?_
      refine tr_ret ?_
      exact ends [_] [100000] (.cons (.tmp rfl) .nil) (.cons (.one (.row (len := (pvE l).length) (xs := pvE l) rfl rfl) (.sl _ _ (FlatP.clean (pvE_flat _)))) .nil) (by decide) ⟨trivial, trivial⟩
set_option maxRecDepth 1000000 in
set_option maxHeartbeats 2000000 in
theorem mergedc_con (a b : Ent) : Con Try.prog 165 [.agg [PV.v (.string a.user), PV.v (.int .i64 a.seq), PV.v (.int .i64 a.kind), PV.v (.string a.value)], .agg [PV.v (.string b.user), PV.v (.int .i64 b.seq), PV.v (.int .i64 b.kind), PV.v (.string b.value)]] [] [.one (.v (.bool (sameKey a b)))] := by
  refine con_of_tr Try.func165 rfl rfl rfl rfl ?_
  refine tr_seq ?_
  refine tr_region rfl (.run [] [2] rfl (st_box rfl 2 rfl rfl (by decide) rfl (by decide)) (.run [] [3] rfl (st_box rfl 3 rfl rfl (by decide) rfl (by decide)) (.run [] [] rfl (st_assign rfl) .nil))) ?_
  refine tr_seq ?_
  refine tr_region rfl (.run [] [] rfl (st_faddr_box rfl rfl Try.underlying44 rfl Try.sizeOf42 (by decide)) (.run [] [] rfl (st_load_box rfl rfl rfl Try.isAgg42 Try.sizeOf42 (nle rfl)) (.run [] [] rfl (st_faddr_box rfl rfl Try.underlying44 rfl Try.sizeOf42 (by decide)) (.run [] [] rfl (st_load_box rfl rfl rfl Try.isAgg42 Try.sizeOf42 (nle rfl)) (.run [] [] rfl (st_aeql rfl rfl rfl rfl rfl Try.eqGuardType42 (fun w => key_eqIn (a.user, a.seq, a.kind) (b.user, b.seq, b.kind) w)) (.run [] [] rfl (st_assign rfl) .nil)))))) ?_
  refine tr_ret ?_
  exact ends [_] [] (.cons (.tmp (bool_eq (by simp [sameKey]))) .nil) (.cons (.one .v (.v _)) .nil) (by decide) trivial
set_option maxRecDepth 1000000 in
set_option maxHeartbeats 2000000 in
theorem merged_con (l : List Ent) (hl : l.length ≤ 2000000) (hd : Dist cmpK l) : Con Try.prog 132 [.one (PV.sl false 4 (pvE l))] [] [.one (.sl true 4 (pvE (isort cmpK l)))] := by
  refine con_of_tr Try.func132 rfl rfl rfl rfl ?_
  have hle := pvE_length l
  have hli := pvE_length (isort cmpK l)
  have hli2 := isort_len (c := cmpK) l
  refine tr_seq ?_
  refine tr_region rfl (.run [] [] rfl (st_assign rfl) .nil) ?_
  refine tr_seq ?_
  refine tr_region rfl (.run [] [] rfl (st_move rfl) (.run [400] [] rfl (st_call rfl 400 (X := []) en120 rfl (.val nod) (.cons (.one (.bor (.sl nod))) .nil) (by decide) all_nil .nil (ordered_con l (by omega) hd) rfl rfl (nle rfl)) (.run [400, 500] [] rfl (st_call rfl 500 (X := [400]) en164 rfl (.val nod) (.cons (.one (.own (len := (pvE (isort cmpK l)).length) (xs := pvE (isort cmpK l)) rfl rfl)) (.cons (.one (.bor (.cl nod))) .nil)) (by decide) (all_cons rfl all_nil) (.gone .nil) (compactFuncE_con (isort cmpK l) (by rw [isort_len]; exact hl) 165 [] sameKey en165 (fun x y => mergedc_con x y) (fun i x y hx hy => srt_next (isort_srt cmpK_ok hd) hx hy)) rfl rfl (nle rfl)) (.run [] [] rfl (st_assign rfl) .nil)))) ?_
  refine tr_ret ?_
  exact ends [_] [500] (.cons (.tmp rfl) .nil) (.cons (.one (.row (len := (pvE (isort cmpK l)).length) (xs := pvE (isort cmpK l)) rfl rfl) (.sl _ _ (FlatP.clean (pvE_flat _)))) .nil) (by decide) trivial
set_option maxRecDepth 1000000 in
set_option maxHeartbeats 2000000 in
theorem containsFuncE_con (l : List Ent) (hl : l.length ≤ 2000000) (f : Nat) (pss : List (List PV)) (p : Ent → Bool) (hE : ∀ vs w, (callFunc f vs).run Try.prog w = .ok (.enter f vs) w) (hp : ∀ s ∈ l, Con Try.prog f ([.agg s.pv] ++ pss.map .fbox) [] [.one (.v (.bool (p s)))]) : Con Try.prog 98 [.one (PV.sl false 4 (pvE l)), .one (PV.clo f pss)] [] [.one (.v (.bool (decide (0 ≤ idxF p l))))] := by
  refine con_of_tr Try.func98 rfl rfl rfl rfl ?_
  have hle := pvE_length l
  refine tr_seq ?_
  refine tr_region rfl (.run [] [] rfl (st_assign rfl) .nil) ?_
  refine tr_seq ?_
  refine tr_region rfl (.run [] [] rfl (st_move rfl) (.run [] [] rfl (st_move rfl) (.run [700] [] rfl (st_call rfl 700 (X := []) en152 rfl (.val nod) (.cons (.one (.bor (.sl nod))) (.cons (.one (.bor (.cl nod))) .nil)) (by decide) all_nil .nil (indexFuncE_con l hl f pss p hE hp) rfl rfl (nle rfl)) (.run [] [] rfl (st_geq rfl rfl rfl) (.run [] [] rfl (st_assign rfl) .nil))))) ?_
  refine tr_ret ?_
  exact ends [_] [] (.cons (.tmp rfl) .nil) (.cons (.one .v (.v _)) .nil) (by decide) trivial
set_option maxRecDepth 1000000 in
set_option maxHeartbeats 2000000 in
theorem indexI_con (l : List Int) (v : Int) (hl : l.length ≤ 2000000) : Con Try.prog 106 [.one (PV.sl false 1 (pvI l)), .one (PV.v (.int .i64 v))] [] [.one (.v (.int .i64 (idxF (fun x => decide (v = x)) l)))] := by
  refine con_of_tr Try.func106 rfl rfl rfl rfl ?_
  have hle := pvI_length l
  refine tr_seq ?_
  refine tr_region rfl (.run [] [] rfl (st_assign rfl) .nil) ?_
  refine tr_seq ?_
  refine tr_seq ?_
  refine tr_region rfl (.run [] [] rfl (st_move rfl) (.run [] [] rfl (st_len_fro rfl rfl Try.underlying23) (.run [] [] rfl (st_move rfl) .nil))) ?_
  refine tr_block ?_
  refine tr_loopS (σ := Nat) (fun i => mk [(0, .p none (.sl false 1 (pvI l))), (1, .p none (.v (.int .i64 v))), (7, .p none (.v (.int .i64 ((pvI l).length : Int)))), (8, .p none (.v (.int .i64 (i:Int))))] [] []) (fun i => i ≤ l.length ∧ ∀ j e, j < i → l[j]? = some e → decide (v = e) = false) (fun i => l.length - i) 0 ⟨Nat.zero_le _, fun _ _ h => absurd h (Nat.not_lt_zero _)⟩ (wk_mk ⟨rfl, ⟨rfl, ⟨rfl, ⟨(int_eq (by omega)), trivial⟩⟩⟩⟩ trivial trivial rfl) ?_
  rintro i hG
  replace hG : i ≤ l.length ∧ ∀ j e, j < i → l[j]? = some e → decide (v = e) = false := hG
  obtain ⟨hi, hG⟩ := hG
  refine tr_seq ?_
  refine tr_region rfl (.run [] [] rfl (st_lss rfl rfl rfl) .nil) ?_
  refine tr_seq ?_
  refine tr_if (t := decide ((i:Int) < ((pvI l).length : Int))) rfl (fun h1 => ?_) (fun h1 => ?_)
  · skip
    replace h1 := of_decide_eq_true h1
    refine tr_skip ?_
    refine tr_seq ?_
    refine tr_block ?_
    refine tr_seq ?_
    refine tr_region rfl (.run [] [] rfl (st_move rfl) (.run [] [] rfl (st_assign rfl) .nil)) ?_
    refine tr_seq ?_
    obtain ⟨e, he⟩ : ∃ e, l[i]? = some e := ⟨_, List.getElem?_eq_getElem (by (have hL := pvI_length l; omega))⟩
    have hlte := (List.getElem?_eq_some_iff.1 he).1
    refine tr_region rfl (.run [] [] rfl (st_move rfl) (.run [] [] rfl (st_move rfl) (.run [] [] rfl (st_move rfl) (.run [] [] rfl (st_idx_fro rfl rfl rfl Try.underlying23 Try.sizeOf2 rfl (by omega) (pvI_get he)) (.run [] [] rfl (st_load_fea1 rfl rfl Try.isAgg2 rfl) (.run [] [] rfl (st_eql rfl rfl rfl) .nil)))))) ?_
    refine tr_if (t := decide (v = e)) rfl (fun h2 => ?_) (fun h2 => ?_)
    · skip
      replace h2 := of_decide_eq_true h2
      refine tr_seq ?_
      refine tr_region rfl (.run [] [] rfl (st_move rfl) (.run [] [] rfl (st_assign rfl) .nil)) ?_
      refine tr_ret ?_
      exact ends [_] [] (.cons (.tmp (int_eq (idx_hit hG he (decide_eq_true h2)).symm)) .nil) (.cons (.one .v (.v _)) .nil) (by decide) trivial
    · skip
      replace h2 := of_decide_eq_false h2
      refine tr_skip ?_
      refine tr_region rfl (.run [] [] rfl (st_addn rfl rfl rfl (by omega)) (.run [] [] rfl (st_move rfl) .nil)) ?_
      refine nxt (Q := fun _ _ => False) (z := i) (i + 1) ?_ ?_ ?_
      · show (i + 1) ≤ l.length ∧ ∀ j e, j < (i + 1) → l[j]? = some e → decide (v = e) = false
        exact ⟨by omega, idx_step hG he (decide_eq_false h2)⟩
      · show l.length - (i + 1) < l.length - i
        omega
      · exact wk_mk ⟨rfl, ⟨rfl, ⟨rfl, ⟨(int_eq (by omega)), trivial⟩⟩⟩⟩ trivial trivial rfl
  · skip
    replace h1 := of_decide_eq_false h1
    refine tr_exit ?_
    refine tr_seq ?_
    refine tr_region rfl (.run [] [] rfl (st_assign rfl) .nil) ?_
    refine tr_ret ?_
    exact ends [_] [] (.cons (.tmp (int_eq (idx_none (by omega) hG).symm)) .nil) (.cons (.one .v (.v _)) .nil) (by decide) trivial
set_option maxRecDepth 1000000 in
set_option maxHeartbeats 2000000 in
theorem containsI_con (l : List Int) (v : Int) (hl : l.length ≤ 2000000) : Con Try.prog 103 [.one (PV.sl false 1 (pvI l)), .one (PV.v (.int .i64 v))] [] [.one (.v (.bool (decide (0 ≤ idxF (fun x => decide (v = x)) l))))] := by
  refine con_of_tr Try.func103 rfl rfl rfl rfl ?_
  have hle := pvI_length l
  refine tr_seq ?_
  refine tr_region rfl (.run [] [] rfl (st_assign rfl) .nil) ?_
  refine tr_seq ?_
  refine tr_region rfl (.run [] [] rfl (st_move rfl) (.run [] [] rfl (st_move rfl) (.run [700] [] rfl (st_call rfl 700 (X := []) en106 rfl (.val nod) (.cons (.one (.bor (.sl nod))) (.cons (.one (.bor .v)) .nil)) (by decide) all_nil .nil (indexI_con l v (by omega)) rfl rfl (nle rfl)) (.run [] [] rfl (st_geq rfl rfl rfl) (.run [] [] rfl (st_assign rfl) .nil))))) ?_
  refine tr_ret ?_
  exact ends [_] [] (.cons (.tmp rfl) .nil) (.cons (.one .v (.v _)) .nil) (by decide) trivial
set_option maxRecDepth 1000000 in
set_option maxHeartbeats 2000000 in
theorem l8Put_con (l : List Ent) (e : Ent) (hl : l.length ≤ 2000000) : Con Try.prog 116 [.one (PV.sl false 4 (pvE l)), .agg [PV.v (.string e.user), PV.v (.int .i64 e.seq), PV.v (.int .i64 e.kind), PV.v (.string e.value)]] [] [.one (.sl true 4 (pvE (putF l e)))] := by
  refine con_of_tr Try.func116 rfl rfl rfl rfl ?_
  have hle := pvE_length l
  refine tr_seq ?_
  refine tr_region rfl (.run [] [3] rfl (st_box rfl 3 rfl rfl (by decide) rfl (by decide)) (.run [] [] rfl (st_assign rfl) .nil)) ?_
  refine tr_seq ?_
  refine tr_region rfl (.run [900] [] rfl (st_buildSlice rfl 900 Try.underlying26 inf44 (nle rfl) (by decide) rfl rfl rfl .nil (by decide) rfl (by decide) rfl (by decide) rfl) (.run [] [] rfl (st_assign rfl) .nil)) ?_
  refine tr_seq ?_
  refine tr_region rfl (.run [] [] rfl (st_assign rfl) .nil) ?_
  refine tr_seq ?_
  refine tr_seq ?_
  refine tr_region rfl (.run [] [] rfl (st_assign rfl) .nil) ?_
  refine tr_block ?_
  refine tr_wk (wk_ren 900 1 rfl rfl (by decide)) ?_
  refine tr_loopS (σ := Nat) (fun i => mk [(0, .p none (.sl false 4 (pvE l))), (3, .ptr 3 0), (5, .sl 1 0 ((pvE (putN l e i).1).length)), (6, .p none (.v (.bool ((putN l e i).2)))), (7, .p none (.v (.int .i64 (i:Int))))] [(3, [.p none (.v (.string e.user)), .p none (.v (.int .i64 e.seq)), .p none (.v (.int .i64 e.kind)), .p none (.v (.string e.value))])] [(1, 4, pvE (putN l e i).1)]) (fun i => i ≤ l.length) (fun i => l.length - i) 0 (by simp) (wk_mk ⟨rfl, ⟨rfl, ⟨rfl, ⟨(bool_eq (by rfl)), ⟨(int_eq (by omega)), trivial⟩⟩⟩⟩⟩ ⟨rfl, trivial⟩ ⟨(congrArg (fun x => some (4, x)) (by rfl)), trivial⟩ rfl) ?_
  rintro i hG
  replace hG : i ≤ l.length := hG
  have hpl := putN_len l e i
  have hpq : (putN l e i).1.length ≤ i + 1 := by omega
  have hpv := pvE_length (putN l e i).1
  refine tr_seq ?_
  refine tr_seq ?_
  refine tr_region rfl (.run [] [] rfl (st_move rfl) (.run [] [] rfl (st_move rfl) (.run [] [] rfl (st_len_fro rfl rfl Try.underlying26) (.run [] [] rfl (st_lss rfl rfl rfl) .nil)))) ?_
  refine tr_if (t := decide ((i:Int) < ((pvE l).length : Int))) rfl (fun h1 => ?_) (fun h1 => ?_)
  · skip
    replace h1 := of_decide_eq_true h1
    refine tr_skip ?_
    refine tr_seq ?_
    refine tr_block ?_
    refine tr_seq ?_
    obtain ⟨x, hx⟩ : ∃ x, l[i]? = some x := ⟨_, List.getElem?_eq_getElem (by omega)⟩
    refine tr_regionD mixed rfl (.run [] [] rfl (st_move rfl) (.run [] [] rfl (st_move rfl) (.run [] [] rfl (st_idx_fro rfl rfl rfl Try.underlying26 Try.sizeOf44 rfl (by omega) (pvE_get hx)) (.run [] [] rfl (st_faddr_fea rfl rfl Try.underlying44 rfl Try.sizeOf42 (by decide)) (.run [] [] rfl (st_load_fea rfl rfl Try.isAgg42 Try.sizeOf42 (nle rfl)) (.run [] [] rfl (st_faddr_box rfl rfl Try.underlying44 rfl Try.sizeOf42 (by decide)) (.run [] [] rfl (st_load_box rfl rfl rfl Try.isAgg42 Try.sizeOf42 (nle rfl)) (.run [2300] [] rfl (st_call rfl 2300 (X := []) en83 rfl (.val nod) (.cons (.agg (.cons (.bor .v) (.cons (.bor .v) (.cons (.bor .v) .nil)))) (.cons (.agg (.cons (.bor .v) (.cons (.bor .v) (.cons (.bor .v) .nil)))) .nil)) (by decide) all_nil .nil (specKeyCmp_con x e) rfl rfl (nle rfl)) (.run [] [] rfl (st_assign rfl) .nil))))))))) (by kernel_rfl) ?_
    refine tr_join (σ := List Ent × Bool) (fun (o, dn) => mk [(0, .p none (.sl false 4 (pvE l))), (3, .ptr 3 0), (5, .sl 1 0 ((pvE o).length)), (6, .p none (.v (.bool dn))), (7, .p none (.v (.int .i64 (i:Int)))), (8, .p none (.v (.int .i64 (kcmp x e))))] [(3, [.p none (.v (.string e.user)), .p none (.v (.int .i64 e.seq)), .p none (.v (.int .i64 e.kind)), .p none (.v (.string e.value))])] [(1, 4, pvE o)]) (fun (o, dn) => (o, dn) = (if (!(putN l e i).2 && decide (0 ≤ kcmp x e)) = true then ((putN l e i).1 ++ [e], true) else (putN l e i))) ?_ ?_
    · skip
      refine tr_seq ?_
      refine tr_wk (s' := mk [(0, .p none (.sl false 4 (pvE l))), (3, .ptr 3 0), (5, .sl 1 0 ((pvE (putN l e i).1).length)), (6, .p none (.v (.bool ((putN l e i).2)))), (7, .p none (.v (.int .i64 (i:Int)))), (8, .p none (.v (.int .i64 (kcmp x e))))] [(3, [.p none (.v (.string e.user)), .p none (.v (.int .i64 e.seq)), .p none (.v (.int .i64 e.kind)), .p none (.v (.string e.value))])] [(1, 4, pvE (putN l e i).1)]) ?_ ?_
      · exact wk_mk ⟨rfl, ⟨rfl, ⟨rfl, ⟨rfl, ⟨rfl, ⟨rfl, trivial⟩⟩⟩⟩⟩⟩ ⟨rfl, trivial⟩ ⟨rfl, trivial⟩ rfl
      rcases bfc (!((putN l e i).2)) with h2 | h2
      · have h2' := h2
        replace h2' : ((putN l e i).2) = true := bnot_f h2'
        refine tr_region rfl (.run [] [] rfl (st_move rfl) (.run [] [] rfl (st_eq (st_not (b := (putN l e i).2) rfl rfl) (bool_eq h2)) (.run [] [] rfl (st_move rfl) (.not rfl (.not rfl (.run [] [] rfl (st_pick (t := false) rfl rfl) .nil)))))) ?_
        refine tr_if (t := false) rfl (fun h => nomatch h) (fun _ => ?_)
        refine tr_skip ?_
        refine ⟨((putN l e i).1, (putN l e i).2), ?_, ?_⟩
        · show (((putN l e i).1), ((putN l e i).2)) = (if (!(putN l e i).2 && decide (0 ≤ kcmp x e)) = true then ((putN l e i).1 ++ [e], true) else (putN l e i))
          first | exact put_a (by assumption) | exact put_b (by omega) | exact put_c (by assumption) (by omega)
        · exact wk_mk ⟨rfl, ⟨rfl, ⟨rfl, ⟨rfl, ⟨rfl, ⟨rfl, trivial⟩⟩⟩⟩⟩⟩ ⟨rfl, trivial⟩ ⟨rfl, trivial⟩ rfl
      · have h2' := h2
        replace h2' : ((putN l e i).2) = false := bnot_t h2'
        refine tr_region rfl (.run [] [] rfl (st_move rfl) (.run [] [] rfl (st_eq (st_not (b := (putN l e i).2) rfl rfl) (bool_eq h2)) (.run [] [] rfl (st_move rfl) (.run [] [] rfl (st_move rfl) (.run [] [] rfl (st_geq rfl rfl rfl) (.run [] [] rfl (st_pick (t := true) rfl rfl) .nil)))))) ?_
        refine tr_if (t := decide (0 ≤ (kcmp x e))) rfl (fun h3 => ?_) (fun h3 => ?_)
        · skip
          replace h3 := of_decide_eq_true h3
          refine tr_seq ?_
          refine tr_region rfl (.run [] [] rfl (st_move rfl) (.run [] [] rfl (st_load_box rfl rfl rfl Try.isAgg44 Try.sizeOf44 (nle rfl)) (.run [3200] [] rfl (st_buildSlice rfl 3200 Try.underlying26 inf44 (nle rfl) (by decide) rfl rfl rfl (.cons .v (.cons .v (.cons .v (.cons .v .nil)))) (by decide) rfl (by decide) rfl (by decide) rfl) (.run [1] [] rfl (st_append rfl 1 (ib := 1) (len := ((pvE (putN l e i).1) ++ [[PV.v (.string e.user), PV.v (.int .i64 e.seq), PV.v (.int .i64 e.kind), PV.v (.string e.value)]]).length) rfl rfl (.row (len := (pvE (putN l e i).1).length) (xs := pvE (putN l e i).1) rfl rfl (.inl rfl)) (.give (len := 1) (xs := [[PV.v (.string e.user), PV.v (.int .i64 e.seq), PV.v (.int .i64 e.kind), PV.v (.string e.value)]]) rfl rfl) Try.underlying26 (sk Try.underlying26 rfl) inf44 rfl (by decide) (by decide) (by decide) List.length_append (by simp only [maxLen, List.length_append, List.length_map, List.length_cons, List.length_nil, List.length_take, List.length_drop, pvE_length, pvI_length, pvT_length, pvU_length, pvP_length]; omega) (by simp only [maxLen, List.length_append, List.length_map, List.length_cons, List.length_nil, List.length_take, List.length_drop, pvE_length, pvI_length, pvT_length, pvU_length, pvP_length]; omega)) (.run [] [] rfl (st_assign rfl) .nil))))) ?_
          have hr4 : (pvE (putN l e i).1) ++ [[PV.v (.string e.user), PV.v (.int .i64 e.seq), PV.v (.int .i64 e.kind), PV.v (.string e.value)]] = pvE ((putN l e i).1 ++ [e]) := by exact pvE_snoc _ _
          have hp5 : (.sl 1 0 (((pvE (putN l e i).1) ++ [[PV.v (.string e.user), PV.v (.int .i64 e.seq), PV.v (.int .i64 e.kind), PV.v (.string e.value)]]).length) : AV) = .sl 1 0 ((pvE ((putN l e i).1 ++ [e])).length) := by simp only [hr4]
          refine tr_wk (s' := mk [(0, .p none (.sl false 4 (pvE l))), (3, .ptr 3 0), (5, .sl 1 0 ((pvE ((putN l e i).1 ++ [e])).length)), (7, .p none (.v (.int .i64 (i:Int)))), (8, .p none (.v (.int .i64 (kcmp x e)))), (27, .p none (.v (.int .i64 (kcmp x e)))), (28, .p none (.v (.bool (decide (0 ≤ (kcmp x e))))))] [(3, [.p none (.v (.string e.user)), .p none (.v (.int .i64 e.seq)), .p none (.v (.int .i64 e.kind)), .p none (.v (.string e.value))])] [(1, 4, pvE ((putN l e i).1 ++ [e]))]) ?_ ?_
          · exact wk_mk ⟨rfl, ⟨rfl, ⟨hp5, ⟨rfl, ⟨rfl, ⟨rfl, ⟨rfl, trivial⟩⟩⟩⟩⟩⟩⟩ ⟨rfl, trivial⟩ ⟨(congrArg (fun x => some (4, x)) hr4), trivial⟩ rfl
          refine tr_region rfl (.run [] [] rfl (st_assign rfl) .nil) ?_
          refine ⟨((putN l e i).1 ++ [e], true), ?_, ?_⟩
          · show (((putN l e i).1 ++ [e]), true) = (if (!(putN l e i).2 && decide (0 ≤ kcmp x e)) = true then ((putN l e i).1 ++ [e], true) else (putN l e i))
            first | exact put_a (by assumption) | exact put_b (by omega) | exact put_c (by assumption) (by omega)
          · exact wk_mk ⟨rfl, ⟨rfl, ⟨rfl, ⟨rfl, ⟨rfl, ⟨rfl, trivial⟩⟩⟩⟩⟩⟩ ⟨rfl, trivial⟩ ⟨rfl, trivial⟩ rfl
        · skip
          replace h3 := of_decide_eq_false h3
          refine tr_skip ?_
          refine ⟨((putN l e i).1, (putN l e i).2), ?_, ?_⟩
          · show (((putN l e i).1), ((putN l e i).2)) = (if (!(putN l e i).2 && decide (0 ≤ kcmp x e)) = true then ((putN l e i).1 ++ [e], true) else (putN l e i))
            first | exact put_a (by assumption) | exact put_b (by omega) | exact put_c (by assumption) (by omega)
          · exact wk_mk ⟨rfl, ⟨rfl, ⟨rfl, ⟨rfl, ⟨rfl, ⟨rfl, trivial⟩⟩⟩⟩⟩⟩ ⟨rfl, trivial⟩ ⟨rfl, trivial⟩ rfl
    · rintro ⟨o, dn⟩ hG
      replace hG : (o, dn) = (if (!(putN l e i).2 && decide (0 ≤ kcmp x e)) = true then ((putN l e i).1 ++ [e], true) else (putN l e i)) := hG
      have hst := putN_next hx hG
      have hol := put_olen hG hpl
      have hov := pvE_length o
      refine tr_seq ?_
      refine tr_region rfl (.run [] [] rfl (st_move rfl) (.run [] [] rfl (st_neq rfl rfl rfl) .nil)) ?_
      refine tr_if (t := (!(decide ((kcmp x e) = 0)))) rfl (fun h6 => ?_) (fun h6 => ?_)
      · skip
        replace h6 : ¬ ((kcmp x e) = 0) := of_decide_eq_false (bnot_t h6)
        refine tr_region rfl (.run [] [] rfl (st_move rfl) (.run [] [] rfl (st_move rfl) (.run [] [] rfl (st_move rfl) (.run [] [] rfl (st_idx_fro rfl rfl rfl Try.underlying26 Try.sizeOf44 rfl (by omega) (pvE_get hx)) (.run [] [] rfl (st_load_fea rfl rfl Try.isAgg44 Try.sizeOf44 (nle rfl)) (.run [4100] [] rfl (st_buildSlice rfl 4100 Try.underlying26 inf44 (nle rfl) (by decide) rfl rfl rfl (.cons .v (.cons .v (.cons .v (.cons .v .nil)))) (by decide) rfl (by decide) rfl (by decide) rfl) (.run [1] [] rfl (st_append rfl 1 (ib := 1) (len := ((pvE o) ++ [[PV.v (.string x.user), PV.v (.int .i64 x.seq), PV.v (.int .i64 x.kind), PV.v (.string x.value)]]).length) rfl rfl (.row (len := (pvE o).length) (xs := pvE o) rfl rfl (.inl rfl)) (.give (len := 1) (xs := [[PV.v (.string x.user), PV.v (.int .i64 x.seq), PV.v (.int .i64 x.kind), PV.v (.string x.value)]]) rfl rfl) Try.underlying26 (sk Try.underlying26 rfl) inf44 rfl (by decide) (by decide) (by decide) List.length_append (by simp only [maxLen, List.length_append, List.length_map, List.length_cons, List.length_nil, List.length_take, List.length_drop, pvE_length, pvI_length, pvT_length, pvU_length, pvP_length]; omega) (by simp only [maxLen, List.length_append, List.length_map, List.length_cons, List.length_nil, List.length_take, List.length_drop, pvE_length, pvI_length, pvT_length, pvU_length, pvP_length]; omega)) (.run [] [] rfl (st_assign rfl) .nil)))))))) ?_
        have hr7 : (pvE o) ++ [[PV.v (.string x.user), PV.v (.int .i64 x.seq), PV.v (.int .i64 x.kind), PV.v (.string x.value)]] = pvE (o ++ [x]) := by exact pvE_snoc _ _
        have hp8 : (.sl 1 0 (((pvE o) ++ [[PV.v (.string x.user), PV.v (.int .i64 x.seq), PV.v (.int .i64 x.kind), PV.v (.string x.value)]]).length) : AV) = .sl 1 0 ((pvE (o ++ [x])).length) := by simp only [hr7]
        refine tr_wk (s' := mk [(0, .p none (.sl false 4 (pvE l))), (3, .ptr 3 0), (5, .sl 1 0 ((pvE (o ++ [x])).length)), (6, .p none (.v (.bool dn))), (7, .p none (.v (.int .i64 (i:Int))))] [(3, [.p none (.v (.string e.user)), .p none (.v (.int .i64 e.seq)), .p none (.v (.int .i64 e.kind)), .p none (.v (.string e.value))])] [(1, 4, pvE (o ++ [x]))]) ?_ ?_
        · exact wk_mk ⟨rfl, ⟨rfl, ⟨hp8, ⟨rfl, ⟨rfl, trivial⟩⟩⟩⟩⟩ ⟨rfl, trivial⟩ ⟨(congrArg (fun x => some (4, x)) hr7), trivial⟩ rfl
        refine tr_region rfl (.run [] [] rfl (st_move rfl) (.run [] [] rfl (st_addn rfl rfl rfl (by omega)) (.run [] [] rfl (st_assign rfl) .nil))) ?_
        refine nxt (Q := fun _ _ => False) (z := i) (i + 1) ?_ ?_ ?_
        · show (i + 1) ≤ l.length
          omega
        · show l.length - (i + 1) < l.length - i
          omega
        · exact wk_mk ⟨rfl, ⟨rfl, ⟨(congrArg (fun z => AV.sl 1 0 (pvE z).length) (show _ = (putN l e (i + 1)).1 by rw [hst, if_pos h6])), ⟨(bool_eq (by rw [hst, if_pos h6])), ⟨(int_eq (by omega)), trivial⟩⟩⟩⟩⟩ ⟨rfl, trivial⟩ ⟨(congrArg (fun x => some (4, x)) (by rw [hst, if_pos h6])), trivial⟩ rfl
      · skip
        replace h6 : (kcmp x e) = 0 := of_decide_eq_true (bnot_f h6)
        refine tr_skip ?_
        refine tr_region rfl (.run [] [] rfl (st_move rfl) (.run [] [] rfl (st_addn rfl rfl rfl (by omega)) (.run [] [] rfl (st_assign rfl) .nil))) ?_
        refine nxt (Q := fun _ _ => False) (z := i) (i + 1) ?_ ?_ ?_
        · show (i + 1) ≤ l.length
          omega
        · show l.length - (i + 1) < l.length - i
          omega
        · exact wk_mk ⟨rfl, ⟨rfl, ⟨(congrArg (fun z => AV.sl 1 0 (pvE z).length) (show _ = (putN l e (i + 1)).1 by rw [hst, if_neg (fun hh => hh h6)])), ⟨(bool_eq (by rw [hst, if_neg (fun hh => hh h6)])), ⟨(int_eq (by omega)), trivial⟩⟩⟩⟩⟩ ⟨rfl, trivial⟩ ⟨(congrArg (fun x => some (4, x)) (by rw [hst, if_neg (fun hh => hh h6)])), trivial⟩ rfl
  · skip
    replace h1 := of_decide_eq_false h1
    refine tr_exit ?_
    refine tr_join (σ := Unit) (fun _ => mk [(5, .sl 1 0 ((pvE (putF l e)).length))] [] [(1, 4, pvE (putF l e))]) (fun _ => True) ?_ ?_
    · skip
      refine tr_seq ?_
      have hil : i = l.length := (by omega)
      refine tr_region rfl (.run [] [] rfl (st_move rfl) (.run [] [] rfl (st_not (b := (putN l e i).2) rfl rfl) .nil)) ?_
      refine tr_if (t := (!((putN l e i).2))) rfl (fun h9 => ?_) (fun h9 => ?_)
      · skip
        replace h9 : ((putN l e i).2) = false := bnot_t h9
        refine tr_region rfl (.run [] [] rfl (st_move rfl) (.run [] [] rfl (st_load_box rfl rfl rfl Try.isAgg44 Try.sizeOf44 (nle rfl)) (.run [4700] [] rfl (st_buildSlice rfl 4700 Try.underlying26 inf44 (nle rfl) (by decide) rfl rfl rfl (.cons .v (.cons .v (.cons .v (.cons .v .nil)))) (by decide) rfl (by decide) rfl (by decide) rfl) (.run [1] [] rfl (st_append rfl 1 (ib := 1) (len := ((pvE (putN l e i).1) ++ [[PV.v (.string e.user), PV.v (.int .i64 e.seq), PV.v (.int .i64 e.kind), PV.v (.string e.value)]]).length) rfl rfl (.row (len := (pvE (putN l e i).1).length) (xs := pvE (putN l e i).1) rfl rfl (.inl rfl)) (.give (len := 1) (xs := [[PV.v (.string e.user), PV.v (.int .i64 e.seq), PV.v (.int .i64 e.kind), PV.v (.string e.value)]]) rfl rfl) Try.underlying26 (sk Try.underlying26 rfl) inf44 rfl (by decide) (by decide) (by decide) List.length_append (by simp only [maxLen, List.length_append, List.length_map, List.length_cons, List.length_nil, List.length_take, List.length_drop, pvE_length, pvI_length, pvT_length, pvU_length, pvP_length]; omega) (by simp only [maxLen, List.length_append, List.length_map, List.length_cons, List.length_nil, List.length_take, List.length_drop, pvE_length, pvI_length, pvT_length, pvU_length, pvP_length]; omega)) (.run [] [] rfl (st_assign rfl) .nil))))) ?_
        refine ⟨(), ?_, ?_⟩
        · show True
          trivial
        · exact wk_mk ⟨(congrArg (fun z => AV.sl 1 0 (List.length z)) ((pvE_snoc _ e).trans (congrArg pvE (show _ = putF l e by rw [putF, ← hil, if_neg (by simp_all)])))), trivial⟩ trivial ⟨(congrArg (fun x => some (4, x)) (by exact (pvE_snoc _ e).trans (congrArg pvE (show _ = putF l e by rw [putF, ← hil, if_neg (by simp_all)])))), trivial⟩ rfl
      · skip
        replace h9 : ((putN l e i).2) = true := bnot_f h9
        refine tr_skip ?_
        refine ⟨(), ?_, ?_⟩
        · show True
          trivial
        · exact wk_mk ⟨(congrArg (fun z => AV.sl 1 0 (List.length z)) (congrArg pvE (show _ = putF l e by rw [putF, ← hil, if_pos (by simp_all)]))), trivial⟩ trivial ⟨(congrArg (fun x => some (4, x)) (by exact congrArg pvE (show _ = putF l e by rw [putF, ← hil, if_pos (by simp_all)]))), trivial⟩ rfl
    · rintro _ hG
      replace hG : True := hG
      refine tr_seq ?_
      refine tr_region rfl (.run [] [] rfl (st_move rfl) (.run [] [] rfl (st_assign rfl) .nil)) ?_
      refine tr_ret ?_
      exact ends [_] [1] (.cons (.tmp rfl) .nil) (.cons (.one (.row (len := (pvE (putF l e)).length) (xs := pvE (putF l e)) rfl rfl) (.sl _ _ (FlatP.clean (pvE_flat _)))) .nil) (by decide) trivial
end Go.Rl
namespace Go.Rl
open Go.Proofs
theorem en179 : ∀ vs w, (callFunc 179 vs).run Try.prog w = .ok (.enter 179 vs) w := enters Try.func179 (by decide) rfl
theorem en161 : ∀ vs w, (callFunc 161 vs).run Try.prog w = .ok (.enter 161 vs) w := enters Try.func161 (by decide) rfl
theorem en160 : ∀ vs w, (callFunc 160 vs).run Try.prog w = .ok (.enter 160 vs) w := enters Try.func160 (by decide) rfl
set_option maxRecDepth 1000000 in
set_option maxHeartbeats 2000000 in
theorem indexFuncP_con (l : List Pr) (hl : l.length ≤ 2000000) (f : Nat) (pss : List (List PV)) (p : Pr → Bool) (hE : ∀ vs w, (callFunc f vs).run Try.prog w = .ok (.enter f vs) w) (hp : ∀ s : Pr, Con Try.prog f ([.agg s.pv] ++ pss.map .fbox) [] [.one (.v (.bool (p s)))]) : Con Try.prog 179 [.one (PV.sl false 2 (pvP l)), .one (PV.clo f pss)] [] [.one (.v (.int .i64 (idxF p l)))] := by
  refine con_of_tr Try.func179 rfl rfl rfl rfl ?_
  have hle := pvP_length l
  refine tr_seq ?_
  refine tr_region rfl (.run [] [] rfl (st_assign rfl) .nil) ?_
  refine tr_seq ?_
  refine tr_seq ?_
  refine tr_region rfl (.run [] [] rfl (st_move rfl) (.run [] [] rfl (st_len_fro rfl rfl Try.underlying47) (.run [] [] rfl (st_move rfl) .nil))) ?_
  refine tr_block ?_
  refine tr_loopS (σ := Nat) (fun i => mk [(0, .p none (.sl false 2 (pvP l))), (1, .p none (.clo f pss)), (7, .p none (.v (.int .i64 ((pvP l).length : Int)))), (8, .p none (.v (.int .i64 (i:Int))))] [] []) (fun i => i ≤ l.length ∧ ∀ j e, j < i → l[j]? = some e → p e = false) (fun i => l.length - i) 0 ⟨Nat.zero_le _, fun _ _ h => absurd h (Nat.not_lt_zero _)⟩ (wk_mk ⟨rfl, ⟨rfl, ⟨rfl, ⟨(int_eq (by omega)), trivial⟩⟩⟩⟩ trivial trivial rfl) ?_
  rintro i hG
  replace hG : i ≤ l.length ∧ ∀ j e, j < i → l[j]? = some e → p e = false := hG
  obtain ⟨hi, hG⟩ := hG
  refine tr_seq ?_
  refine tr_region rfl (.run [] [] rfl (st_lss rfl rfl rfl) .nil) ?_
  refine tr_seq ?_
  refine tr_if (t := decide ((i:Int) < ((pvP l).length : Int))) rfl (fun h1 => ?_) (fun h1 => ?_)
  · skip
    replace h1 := of_decide_eq_true h1
    refine tr_skip ?_
    refine tr_seq ?_
    refine tr_block ?_
    refine tr_seq ?_
    refine tr_region rfl (.run [] [] rfl (st_move rfl) (.run [] [] rfl (st_assign rfl) .nil)) ?_
    refine tr_seq ?_
    obtain ⟨e, he⟩ : ∃ e, l[i]? = some e := ⟨_, List.getElem?_eq_getElem (by omega)⟩
    refine tr_region rfl (.run [] [] rfl (st_move rfl) (.run [] [] rfl (st_move rfl) (.run [] [] rfl (st_move rfl) (.run [] [] rfl (st_idx_fro rfl rfl rfl Try.underlying47 Try.sizeOf85 rfl (by omega) (pvP_get he)) (.run [] [] rfl (st_load_fea rfl rfl Try.isAgg85 Try.sizeOf85 (nle rfl)) (.run [1600] [] rfl (st_call rfl 1600 (X := []) hE rfl (.val nod) (.cons (.agg (.cons (.bor .v) (.cons (.bor .v) .nil))) .nil) (by decide) all_nil .nil (hp e) rfl rfl (nle rfl)) .nil)))))) ?_
    refine tr_if (t := p e) rfl (fun h2 => ?_) (fun h2 => ?_)
    · skip
      refine tr_seq ?_
      refine tr_region rfl (.run [] [] rfl (st_move rfl) (.run [] [] rfl (st_assign rfl) .nil)) ?_
      refine tr_ret ?_
      exact ends [_] [] (.cons (.tmp (int_eq (idx_hit hG he h2).symm)) .nil) (.cons (.one .v (.v _)) .nil) (by decide) trivial
    · skip
      refine tr_skip ?_
      refine tr_region rfl (.run [] [] rfl (st_addn rfl rfl rfl (by omega)) (.run [] [] rfl (st_move rfl) .nil)) ?_
      refine nxt (Q := fun _ _ => False) (z := i) (i + 1) ?_ ?_ ?_
      · show (i + 1) ≤ l.length ∧ ∀ j e, j < (i + 1) → l[j]? = some e → p e = false
        exact ⟨by omega, idx_step hG he h2⟩
      · show l.length - (i + 1) < l.length - i
        omega
      · exact wk_mk ⟨rfl, ⟨rfl, ⟨rfl, ⟨(int_eq (by omega)), trivial⟩⟩⟩⟩ trivial trivial rfl
  · skip
    replace h1 := of_decide_eq_false h1
    refine tr_exit ?_
    refine tr_seq ?_
    refine tr_region rfl (.run [] [] rfl (st_assign rfl) .nil) ?_
    refine tr_ret ?_
    exact ends [_] [] (.cons (.tmp (int_eq (idx_none (by omega) hG).symm)) .nil) (.cons (.one .v (.v _)) .nil) (by decide) trivial
set_option maxRecDepth 1000000 in
set_option maxHeartbeats 2000000 in
theorem deleteFuncP_con (l : List Pr) (hl : l.length ≤ 2000000) (f : Nat) (pss : List (List PV)) (p : Pr → Bool) (hE : ∀ vs w, (callFunc f vs).run Try.prog w = .ok (.enter f vs) w) (hp : ∀ s : Pr, Con Try.prog f ([.agg s.pv] ++ pss.map .fbox) [] [.one (.v (.bool (p s)))]) : Con Try.prog 160 [.one (.sl true 2 (pvP l)), .one (PV.clo f pss)] [none] [.one (.sl true 2 (pvP (l.filter (fun x => !p x))))] := by
  refine con_of_tr Try.func160 rfl rfl rfl rfl ?_
  have hle := pvP_length l
  refine tr_seq ?_
  refine tr_region rfl (.run [] [] rfl (st_assign rfl) .nil) ?_
  refine tr_seq ?_
  refine tr_region rfl (.run [] [] rfl (st_move rfl) (.run [] [] rfl (st_move rfl) (.run [100000, 1000] [] rfl (st_call rfl 1000 (X := []) en179 rfl (.val nod) (.cons (.one (.bor (.all (len := (pvP l).length) (xs := pvP l) rfl rfl (by decide)))) (.cons (.one (.bor (.cl nod))) .nil)) (by decide) all_nil .nil (indexFuncP_con l hl f pss p hE hp) rfl rfl (nle rfl)) (.run [] [] rfl (st_assign rfl) .nil)))) ?_
  refine tr_seq ?_
  refine tr_seq ?_
  refine tr_region rfl (.run [] [] rfl (st_move rfl) (.run [] [] rfl (st_eql rfl rfl rfl) .nil)) ?_
  refine tr_if (t := decide ((idxF p l) = (-1))) rfl (fun h1 => ?_) (fun h1 => ?_)
  · skip
    replace h1 := of_decide_eq_true h1
    refine tr_seq ?_
    rw [filter_none h1]
    refine tr_region rfl (.run [] [] rfl (st_move rfl) (.run [] [] rfl (st_assign rfl) .nil)) ?_
    refine tr_ret ?_
    exact ends [_] [100000] (.cons (.tmp rfl) .nil) (.cons (.one (.row (len := (pvP l).length) (xs := pvP l) rfl rfl) (.sl _ _ (FlatP.clean (pvP_flat _)))) .nil) (by decide) ⟨trivial, trivial⟩
  · skip
    replace h1 := of_decide_eq_false h1
    refine tr_skip ?_
    refine tr_seq ?_
    refine tr_seq ?_
    obtain ⟨k, hk, hkl, hfirst, x0, hx0, hp0⟩ := idx_found h1
    have hk1 : keepN p l (k + 1) = l.take k := (keepN_no hx0 hp0).trans (keepN_first hfirst)
    refine tr_wk (s' := mk [(0, .sl 100000 0 ((pvP l).length)), (1, .p none (.clo f pss)), (5, .p none (.v (.int .i64 (k:Int))))] [] [(100000, 2, pvP l)]) ?_ ?_
    · exact wk_mk ⟨rfl, ⟨rfl, ⟨(int_eq hk), trivial⟩⟩⟩ trivial ⟨rfl, trivial⟩ rfl
    refine tr_region rfl (.run [] [] rfl (st_move rfl) (.run [] [] rfl (st_addn rfl rfl rfl (by omega)) (.run [] [] rfl (st_assign rfl) .nil))) ?_
    refine tr_block ?_
    refine tr_loopS (σ := Nat) (fun j => mk [(0, .sl 100000 0 ((pvP l).length)), (1, .p none (.clo f pss)), (5, .p none (.v (.int .i64 ((keepN p l j).length : Int)))), (6, .p none (.v (.int .i64 (j:Int))))] [] [(100000, 2, pvP (keepN p l j ++ l.drop (keepN p l j).length))]) (fun j => k < j ∧ j ≤ l.length ∧ (keepN p l j).length + 1 ≤ j) (fun j => l.length - j) (k + 1) ⟨by omega, by omega, by rw [hk1, List.length_take]; omega⟩ (wk_mk ⟨rfl, ⟨rfl, ⟨(int_eq (by rw [hk1, List.length_take]; omega)), ⟨(int_eq (by omega)), trivial⟩⟩⟩⟩ trivial ⟨(congrArg (fun x => some (2, x)) (by rw [hk1, List.length_take, Nat.min_eq_left (by omega), List.take_append_drop])), trivial⟩ rfl) ?_
    rintro j hG
    replace hG : k < j ∧ j ≤ l.length ∧ (keepN p l j).length + 1 ≤ j := hG
    obtain ⟨hkj, hjl, hcj⟩ := hG
    have hkn := keepN_len p l j
    have hlr := pvP_length (keepN p l j ++ l.drop (keepN p l j).length)
    have hlc : (keepN p l j ++ l.drop (keepN p l j).length).length = l.length := by rw [List.length_append, List.length_drop]; omega
    refine tr_seq ?_
    refine tr_seq ?_
    refine tr_region rfl (.run [] [] rfl (st_move rfl) (.run [] [] rfl (st_move rfl) (.run [] [] rfl (st_len_row rfl rfl Try.underlying47) (.run [] [] rfl (st_lss rfl rfl rfl) .nil)))) ?_
    refine tr_if (t := decide ((j:Int) < ((pvP l).length : Int))) rfl (fun h2 => ?_) (fun h2 => ?_)
    · skip
      replace h2 := of_decide_eq_true h2
      refine tr_skip ?_
      refine tr_seq ?_
      refine tr_block ?_
      refine tr_seq ?_
      obtain ⟨x, hx⟩ : ∃ x, l[j]? = some x := ⟨_, List.getElem?_eq_getElem (by omega)⟩
      obtain ⟨w, hw⟩ : ∃ w, l[(keepN p l j).length]? = some w := ⟨_, List.getElem?_eq_getElem (by omega)⟩
      refine tr_region rfl (.run [] [] rfl (st_move rfl) (.run [] [] rfl (st_move rfl) (.run [] [] rfl (st_idx_row0 j rfl rfl rfl rfl Try.underlying47 Try.sizeOf85 rfl rfl (by omega)) (.run [] [] rfl (st_load_ea rfl rfl rfl (by exact pvP_get (by rw [del_get (by omega)]; exact hx)) Try.isAgg85 Try.sizeOf85 (nle rfl)) (.run [] [7] rfl (st_allocZ rfl 7 inf85 rfl (by decide) rfl (by decide)) (.run [] [] rfl (st_store_box rfl rfl rfl rfl rfl Try.sizeOf85 rfl (nle rfl)) .nil)))))) ?_
      refine tr_seq ?_
      refine tr_region rfl (.run [] [] rfl (st_move rfl) (.run [] [] rfl (st_load_box rfl rfl rfl Try.isAgg85 Try.sizeOf85 (nle rfl)) (.run [2800] [] rfl (st_call rfl 2800 (X := []) hE rfl (.val nod) (.cons (.agg (.cons (.bor .v) (.cons (.bor .v) .nil))) .nil) (by decide) all_nil .nil (hp x) rfl rfl (nle rfl)) (.run [] [] rfl (st_not (b := p x) rfl rfl) .nil)))) ?_
      refine tr_if (t := (!(p x))) rfl (fun h3 => ?_) (fun h3 => ?_)
      · skip
        replace h3 : (p x) = false := bnot_t h3
        refine tr_seq ?_
        refine tr_wk (s' := mk [(0, .sl 100000 0 ((pvP l).length)), (1, .p none (.clo f pss)), (5, .p none (.v (.int .i64 ((keepN p l j).length : Int)))), (6, .p none (.v (.int .i64 (j:Int)))), (7, .ptr 7 0)] [(7, [.p none (.v (.string x.user)), .p none (.v (.string x.value))])] [(100000, 2, pvP (keepN p l j ++ l.drop (keepN p l j).length))]) ?_ ?_
        · exact wk_mk ⟨rfl, ⟨rfl, ⟨rfl, ⟨rfl, ⟨rfl, trivial⟩⟩⟩⟩⟩ ⟨rfl, trivial⟩ ⟨rfl, trivial⟩ rfl
        refine tr_region rfl (.run [] [] rfl (st_move rfl) (.run [] [] rfl (st_move rfl) (.run [] [] rfl (st_load_box rfl rfl rfl Try.isAgg85 Try.sizeOf85 (nle rfl)) (.run [] [] rfl (st_idx_row0 ((keepN p l j).length) rfl rfl rfl rfl Try.underlying47 Try.sizeOf85 rfl rfl (by omega)) (.run [] [] rfl (st_store_row rfl rfl rfl (FlatP.nf (pvP_flat _)) (by exact pvP_get (by rw [del_get (Nat.le_refl _)]; exact hw)) rfl rfl (.cons .v (.cons .v .nil)) Try.sizeOf85 rfl (nle rfl)) .nil))))) ?_
        refine tr_region rfl (.run [] [] rfl (st_move rfl) (.run [] [] rfl (st_addn rfl rfl rfl (by omega)) (.run [] [] rfl (st_assign rfl) .nil))) ?_
        refine tr_region rfl (.run [] [] rfl (st_move rfl) (.run [] [] rfl (st_addn rfl rfl rfl (by omega)) (.run [] [] rfl (st_assign rfl) .nil))) ?_
        refine nxt (Q := fun _ _ => False) (z := j) (j + 1) ?_ ?_ ?_
        · show k < (j + 1) ∧ (j + 1) ≤ l.length ∧ (keepN p l (j + 1)).length + 1 ≤ (j + 1)
          exact ⟨by omega, by omega, by rw [keepN_yes hx h3]; simp only [List.length_append, List.length_cons, List.length_nil]; omega⟩
        · show l.length - (j + 1) < l.length - j
          omega
        · exact wk_mk ⟨rfl, ⟨rfl, ⟨(int_eq (by rw [keepN_yes hx h3]; simp)), ⟨(int_eq (by omega)), trivial⟩⟩⟩⟩ trivial ⟨(congrArg (fun x => some (2, x)) (by rw [keepN_yes hx h3, ← del_set (by omega)]; exact pvP_set)), trivial⟩ rfl
      · skip
        replace h3 : (p x) = true := bnot_f h3
        refine tr_skip ?_
        refine tr_wk (s' := mk [(0, .sl 100000 0 ((pvP l).length)), (1, .p none (.clo f pss)), (5, .p none (.v (.int .i64 ((keepN p l j).length : Int)))), (6, .p none (.v (.int .i64 (j:Int))))] [] [(100000, 2, pvP (keepN p l j ++ l.drop (keepN p l j).length))]) ?_ ?_
        · exact wk_mk ⟨rfl, ⟨rfl, ⟨rfl, ⟨rfl, trivial⟩⟩⟩⟩ trivial ⟨rfl, trivial⟩ rfl
        refine tr_region rfl (.run [] [] rfl (st_move rfl) (.run [] [] rfl (st_addn rfl rfl rfl (by omega)) (.run [] [] rfl (st_assign rfl) .nil))) ?_
        refine nxt (Q := fun _ _ => False) (z := j) (j + 1) ?_ ?_ ?_
        · show k < (j + 1) ∧ (j + 1) ≤ l.length ∧ (keepN p l (j + 1)).length + 1 ≤ (j + 1)
          exact ⟨by omega, by omega, by rw [keepN_no hx h3]; omega⟩
        · show l.length - (j + 1) < l.length - j
          omega
        · exact wk_mk ⟨rfl, ⟨rfl, ⟨(int_eq (by rw [keepN_no hx h3])), ⟨(int_eq (by omega)), trivial⟩⟩⟩⟩ trivial ⟨(congrArg (fun x => some (2, x)) (by rw [keepN_no hx h3])), trivial⟩ rfl
    · skip
      replace h2 := of_decide_eq_false h2
      refine tr_exit ?_
      refine tr_seq ?_
      have hjl2 : j = l.length := (by omega)
      have hkn0 := keepN_len p l j
      have hlr0 := pvP_length (keepN p l j ++ l.drop (keepN p l j).length)
      have hlc0 : (keepN p l j ++ l.drop (keepN p l j).length).length = l.length := by rw [List.length_append, List.length_drop]; omega
      refine tr_region rfl (.run [] [] rfl (st_move rfl) (.run [] [] rfl (st_move rfl) (.run [] [] rfl (st_cut_row0 (l := (keepN p l j).length) (h := (pvP l).length) rfl rfl rfl Try.underlying47 Try.sizeOf85 (.at_ rfl rfl) .no (by omega) (Nat.le_refl _) rfl) (.run [] [] rfl (st_clear (lo := (keepN p l j).length) (len := (pvP l).length - (keepN p l j).length) rfl rfl rfl (pvP_flat _) Try.underlying47 inf85 rfl rfl (by rw [hlr0, hlc0]; omega)) .nil)))) ?_
      refine tr_seq ?_
      have hfin : l.filter (fun x => !p x) = keepN p l j := (keepN_all (by omega)).symm
      rw [hfin]
      refine tr_region rfl (.run [] [] rfl (st_move rfl) (.run [] [] rfl (st_move rfl) (.run [] [] rfl (st_cut_row0 (l := 0) (h := (keepN p l j).length) rfl rfl rfl Try.underlying47 Try.sizeOf85 .no (.at_ rfl rfl) (Nat.zero_le _) (by omega) rfl) (.run [] [] rfl (st_assign rfl) .nil)))) ?_
      refine tr_ret ?_
      exact ends [_] [100000] (.cons (.tmp rfl) .nil) (.cons (.one (gv_eq (.pre (len := ((keepN p l j).length) - 0) (xs := (pvP (keepN p l j ++ l.drop (keepN p l j).length)).take (keepN p l j).length ++ List.replicate ((pvP l).length - (keepN p l j).length) [PV.v (.string ⟨#[]⟩), PV.v (.string ⟨#[]⟩)]) rfl (by rw [List.length_append, List.length_take, hlr0, List.length_replicate]; omega) (pr_flat (by simp [PV.isV]))) (congrArg (PV.sl true 2) (pr_row rfl))) (.sl _ _ (FlatP.clean (pvP_flat _)))) .nil) (by decide) ⟨trivial, trivial⟩
set_option maxRecDepth 1000000 in
set_option maxHeartbeats 2000000 in
theorem boundedc_con (q : Pr) (f t : ByteArray) : Con Try.prog 161 [.agg [PV.v (.string q.user), PV.v (.string q.value)], .fbox [PV.v (.string f)], .fbox [PV.v (.string t)]] [] [.one (.v (.bool (outP f t q)))] := by
  refine con_of_tr Try.func161 rfl rfl rfl rfl ?_
  refine tr_seq ?_
  refine tr_region rfl (.run [] [3] rfl (st_box rfl 3 rfl rfl (by decide) rfl (by decide)) (.run [] [] rfl (st_assign rfl) .nil)) ?_
  refine tr_seq ?_
  refine tr_wk (s' := mk [(1, .fea none [PV.v (.string f)]), (2, .fea none [PV.v (.string t)]), (3, .ptr 3 0)] [(3, [.p none (.v (.string q.user)), .p none (.v (.string q.value))])] []) ?_ ?_
  · exact wk_mk ⟨rfl, ⟨rfl, ⟨rfl, trivial⟩⟩⟩ ⟨rfl, trivial⟩ trivial rfl
  rcases bfc (ltB q.user f) with h1 | h1
  · have h1' := h1
    rcases bfc (!(decide (t = ⟨#[]⟩))) with h2 | h2
    · have h2' := h2
      replace h2' : t = ⟨#[]⟩ := of_decide_eq_true (bnot_f h2')
      refine tr_region rfl (.run [] [] rfl (st_faddr_box rfl rfl Try.underlying85 rfl Try.sizeOf9 (by decide)) (.run [] [] rfl (st_load_box1 rfl rfl rfl Try.isAgg9 rfl) (.run [] [] rfl (st_load_fea1 rfl rfl Try.isAgg9 rfl) (.run [] [] rfl (st_eq (st_slss rfl rfl rfl) (bool_eq h1)) (.run [] [] rfl (st_move rfl) (.run [] [] rfl (st_load_fea1 rfl rfl Try.isAgg9 rfl) (.run [] [] rfl (st_eq (st_sneq rfl rfl rfl) (bool_eq h2)) (.run [] [] rfl (st_move rfl) (.not rfl (.not rfl (.not rfl (.not rfl (.run [] [] rfl (st_pick (t := false) rfl rfl) (.run [] [] rfl (st_pick (t := false) rfl rfl) (.run [] [] rfl (st_assign rfl) .nil))))))))))))))) ?_
      refine tr_ret ?_
      exact ends [_] [] (.cons (.tmp (bool_eq (by simp [outP, h1, h2]))) .nil) (.cons (.one .v (.v _)) .nil) (by decide) trivial
    · have h2' := h2
      replace h2' : ¬ (t = ⟨#[]⟩) := of_decide_eq_false (bnot_t h2')
      refine tr_region rfl (.run [] [] rfl (st_faddr_box rfl rfl Try.underlying85 rfl Try.sizeOf9 (by decide)) (.run [] [] rfl (st_load_box1 rfl rfl rfl Try.isAgg9 rfl) (.run [] [] rfl (st_load_fea1 rfl rfl Try.isAgg9 rfl) (.run [] [] rfl (st_eq (st_slss rfl rfl rfl) (bool_eq h1)) (.run [] [] rfl (st_move rfl) (.run [] [] rfl (st_load_fea1 rfl rfl Try.isAgg9 rfl) (.run [] [] rfl (st_eq (st_sneq rfl rfl rfl) (bool_eq h2)) (.run [] [] rfl (st_move rfl) (.run [] [] rfl (st_faddr_box rfl rfl Try.underlying85 rfl Try.sizeOf9 (by decide)) (.run [] [] rfl (st_load_box1 rfl rfl rfl Try.isAgg9 rfl) (.run [] [] rfl (st_load_fea1 rfl rfl Try.isAgg9 rfl) (.run [] [] rfl (st_sgeq rfl rfl rfl) (.run [] [] rfl (st_pick (t := true) rfl rfl) (.run [] [] rfl (st_pick (t := false) rfl rfl) (.run [] [] rfl (st_assign rfl) .nil))))))))))))))) ?_
      refine tr_ret ?_
      exact ends [_] [] (.cons (.tmp (bool_eq (by simp [outP, h1, h2]))) .nil) (.cons (.one .v (.v _)) .nil) (by decide) trivial
  · have h1' := h1
    refine tr_region rfl (.run [] [] rfl (st_faddr_box rfl rfl Try.underlying85 rfl Try.sizeOf9 (by decide)) (.run [] [] rfl (st_load_box1 rfl rfl rfl Try.isAgg9 rfl) (.run [] [] rfl (st_load_fea1 rfl rfl Try.isAgg9 rfl) (.run [] [] rfl (st_eq (st_slss rfl rfl rfl) (bool_eq h1)) (.run [] [] rfl (st_move rfl) (.not rfl (.not rfl (.not rfl (.not rfl (.not rfl (.not rfl (.not rfl (.not rfl (.run [] [] rfl (st_pick (t := true) rfl rfl) (.run [] [] rfl (st_assign rfl) .nil))))))))))))))) ?_
    refine tr_ret ?_
    exact ends [_] [] (.cons (.tmp (bool_eq (by simp [outP, h1]))) .nil) (.cons (.one .v (.v _)) .nil) (by decide) trivial
set_option maxRecDepth 1000000 in
set_option maxHeartbeats 2000000 in
theorem bounded_con (l : List Pr) (a b : ByteArray) (hl : l.length ≤ 2000000) : Con Try.prog 125 [.one (.sl true 2 (pvP l)), .one (PV.v (.string a)), .one (PV.v (.string b))] [none] [.one (.sl true 2 (pvP (l.filter (fun x => !outP a b x))))] := by
  refine con_of_tr Try.func125 rfl rfl rfl rfl ?_
  have hle := pvP_length l
  refine tr_seq ?_
  refine tr_region rfl (.run [] [4] rfl (st_box rfl 4 rfl rfl (by decide) rfl (by decide)) (.run [] [5] rfl (st_box rfl 5 rfl rfl (by decide) rfl (by decide)) (.run [] [] rfl (st_assign rfl) .nil))) ?_
  refine tr_seq ?_
  refine tr_region rfl (.run [] [] rfl (st_move rfl) (.run [] [] rfl (st_func (bs := [4, 5]) rfl rfl) (.run [100000, 900] [4, 5] rfl (st_call rfl 900 (X := [100000]) en160 rfl (.val nod) (.cons (.one (.own (len := (pvP l).length) (xs := pvP l) rfl rfl)) (.cons (.one (.bor (.clo (.cons rfl (.cons .v .nil) (.cons rfl (.cons .v .nil) .nil))))) .nil)) (by decide) (all_cons rfl all_nil) (.gone .nil) (deleteFuncP_con l hl 161 [[.v (.string a)], [.v (.string b)]] (outP a b) en161 (fun q => boundedc_con q a b)) rfl rfl (nle rfl)) (.run [] [] rfl (st_assign rfl) .nil)))) ?_
  refine tr_ret ?_
  exact ends [_] [900] (.cons (.tmp rfl) .nil) (.cons (.one (.row (len := (pvP (l.filter (fun x => !outP a b x))).length) (xs := pvP (l.filter (fun x => !outP a b x))) rfl rfl) (.sl _ _ (FlatP.clean (pvP_flat _)))) .nil) (by decide) ⟨trivial, trivial⟩
end Go.Rl
namespace Go.Rl
/-- Runs, each with the mark whether its row is the engine's own. -/
abbrev RunL := List (Bool × List Ent)
def pvR (rs : RunL) : List (List PV) := rs.map fun r => [.sl r.1 4 (pvE r.2)]
theorem pvR_length (rs : RunL) : (pvR rs).length = rs.length := by simp [pvR]
theorem pvR_get {rs : RunL} {i : Nat} {r : Bool × List Ent} (h : rs[i]? = some r) : (pvR rs)[i]? = some [.sl r.1 4 (pvE r.2)] := by simp [pvR, h]
def rows (rs : RunL) : List (List Ent) := rs.map (·.2)
def entsL (ls : List (List Ent)) : List Ent := ls.flatten
def ents (rs : RunL) : List Ent := entsL (rows rs)
theorem pvE_app (a b : List Ent) : pvE a ++ pvE b = pvE (a ++ b) := by simp [pvE]
theorem ents_step {rs : RunL} {i : Nat} {r : Bool × List Ent} (h : rs[i]? = some r) : ents (rs.take (i + 1)) = ents (rs.take i) ++ r.2 := by
  rw [List.take_add_one, h]
  simp [ents, rows, entsL]
theorem ents_take_len (rs : RunL) (i : Nat) : (ents (rs.take i)).length ≤ (ents rs).length := by
  have : ents rs = ents (rs.take i) ++ ents (rs.drop i) := by rw [ents, ents, ents, rows, rows, rows, entsL, entsL, entsL, ← List.flatten_append, ← List.map_append, List.take_append_drop]
  rw [this, List.length_append]; omega
def runsOkF (rs : RunL) : Bool := decide (rs.length ≤ 20) && (decide (idxF (fun r : Bool × List Ent => !entsOk r.2) rs < 0) && decide ((ents rs).length ≤ 400))
theorem runs_bad {rs : RunL} {i : Nat} {r : Bool × List Ent} (h : rs[i]? = some r) (hG : ∀ j e, j < i → rs[j]? = some e → (!entsOk e.2) = false) (hr : entsOk r.2 = false) : runsOkF rs = false := by
  have := idx_hit (p := fun r : Bool × List Ent => !entsOk r.2) hG h (by simp [hr])
  have h2 : ¬ ((i : Int) < 0) := by omega
  unfold runsOkF
  rw [this, decide_eq_false h2, Bool.false_and, Bool.and_false]
theorem runs_good {rs : RunL} {i : Nat} (hi : rs.length ≤ i) (hG : ∀ j e, j < i → rs[j]? = some e → (!entsOk e.2) = false) (h : rs.length ≤ 20) : runsOkF rs = decide ((ents rs).length ≤ 400) := by
  have := idx_none (p := fun r : Bool × List Ent => !entsOk r.2) hi hG
  simp [runsOkF, this, h]
theorem entsOk_len {l : List Ent} (h : entsOk l = true) : l.length ≤ 400 := by
  simp only [entsOk, Bool.and_eq_true, decide_eq_true_eq] at h
  exact h.1
theorem ents_bound {rs : RunL} : ∀ i, (∀ j e, j < i → rs[j]? = some e → (!entsOk e.2) = false) → (ents (rs.take i)).length ≤ 400 * i
  | 0, _ => by simp [ents, rows, entsL]
  | i + 1, h => by
    have ih := ents_bound i (fun j e hj => h j e (by omega))
    cases hx : rs[i]? with
    | none =>
      rw [List.take_add_one, hx]
      simpa using Nat.le_trans ih (by omega)
    | some r =>
      rw [ents_step hx, List.length_append]
      have := entsOk_len (l := r.2) (by simpa using h i r (by omega) hx)
      omega
theorem runs_bound {rs : RunL} (h : rs.length ≤ 20) (_ : ∀ r ∈ rs, r.2.length ≤ 2000000) (hn : ¬ 0 ≤ idxF (fun r : Bool × List Ent => !entsOk r.2) rs) : (ents rs).length ≤ 2000000 := by
  have h1 : ∀ j e, j < rs.length → rs[j]? = some e → (!entsOk e.2) = false := fun j e hj he => by
    cases hc : (!entsOk e.2) with
    | false => rfl
    | true =>
      exfalso
      have hm := List.mem_of_getElem? he
      have : idxF (fun r : Bool × List Ent => !entsOk r.2) rs ≠ -1 := by
        unfold idxF
        cases e2 : rs.findIdx? (fun r : Bool × List Ent => !entsOk r.2) with
        | some k => simp
        | none => rw [List.findIdx?_eq_none_iff] at e2; have := e2 _ hm; rw [hc] at this; cases this
      obtain ⟨k, hk, _⟩ := idx_found this
      omega
  have := ents_bound rs.length h1
  rw [List.take_length] at this
  omega
theorem runs_f1 {rs : RunL} (h : ¬ rs.length ≤ 20) : false = runsOkF rs := by unfold runsOkF; rw [decide_eq_false h, Bool.false_and]
theorem runs_f2 {rs : RunL} (h : 0 ≤ idxF (fun r : Bool × List Ent => !entsOk r.2) rs) : false = runsOkF rs := by
  have h2 : ¬ idxF (fun r : Bool × List Ent => !entsOk r.2) rs < 0 := by omega
  unfold runsOkF; rw [decide_eq_false h2, Bool.false_and, Bool.and_false]
theorem runs_f3 {rs : RunL} (h1 : rs.length ≤ 20) (h : ¬ 0 ≤ idxF (fun r : Bool × List Ent => !entsOk r.2) rs) {m : Int} (hm : m = ((ents rs).length : Int)) : decide (m ≤ 400) = runsOkF rs := by
  have h2 : idxF (fun r : Bool × List Ent => !entsOk r.2) rs < 0 := by omega
  unfold runsOkF; rw [decide_eq_true h2, decide_eq_true h1, Bool.true_and, Bool.true_and, hm]
  simp only [decide_eq_decide]; omega
/-! #### the specification's merge -/
def putsF (out l : List Ent) : List Ent := l.foldl putF out
def mergeL : List (List Ent) → List Ent
  | [] => []
  | l :: ls => putsF (mergeL ls) l
theorem putsF_step {out l : List Ent} {k : Nat} {e : Ent} (h : l[k]? = some e) : putsF out (l.take (k + 1)) = putF (putsF out (l.take k)) e := by
  unfold putsF
  rw [List.take_add_one, h]
  simp [List.foldl_append]
theorem puts_len : ∀ (l out : List Ent), (putsF out l).length ≤ out.length + l.length
  | [], out => by simp [putsF]
  | e :: l, out => by
    have := puts_len l (putF out e)
    have h2 := putF_len out e
    show (putsF (putF out e) l).length ≤ _
    simp only [List.length_cons]
    omega
theorem mergeL_len : ∀ ls, (mergeL ls).length ≤ (entsL ls).length
  | [] => by simp [mergeL]
  | l :: ls => by
    have := mergeL_len ls
    have h2 := puts_len l (mergeL ls)
    simp only [mergeL, entsL, List.flatten_cons, List.length_append] at this h2 ⊢
    omega
theorem mergeL_step {rs : RunL} {i : Nat} {r : Bool × List Ent} (h : rs[i]? = some r) : mergeL (rows (rs.drop i)) = putsF (mergeL (rows (rs.drop (i + 1)))) r.2 := by
  obtain ⟨hi, rfl⟩ := List.getElem?_eq_some_iff.1 h
  rw [List.drop_eq_getElem_cons hi]
  rfl
theorem rows_drop_len (rs : RunL) (i : Nat) : (entsL (rows (rs.drop i))).length ≤ (ents rs).length := by
  have : ents rs = ents (rs.take i) ++ ents (rs.drop i) := by rw [ents, ents, ents, rows, rows, rows, entsL, entsL, entsL, ← List.flatten_append, ← List.map_append, List.take_append_drop]
  rw [this, List.length_append]
  show _ ≤ (ents (rs.take i)).length + (entsL (rows (rs.drop i))).length
  omega
theorem run_len {rs : RunL} {i : Nat} {r : Bool × List Ent} (h : rs[i]? = some r) : r.2.length ≤ (ents rs).length := by
  have h1 := ents_step h
  have h2 := ents_take_len rs (i + 1)
  rw [h1, List.length_append] at h2
  omega
def allS (mem : List Ent) (rs : RunL) : List Ent := mergeL (mem :: rows rs)
theorem pvR_all (mem : List Ent) (rs : RunL) : [[PV.sl false 4 (pvE mem)]] ++ (pvR rs).map (fun es => es.map PV.shr) = pvR ((false, mem) :: rs.map fun r => (false, r.2)) := by
  simp [pvR, PV.shr]
theorem rows_all (mem : List Ent) (rs : RunL) : rows ((false, mem) :: rs.map fun r => (false, r.2)) = mem :: rows rs := by simp [rows]
end Go.Rl

/- Promises of functions, proved by walks over their operations; no conditions beyond those that each theorem states. -/
import Derived.Test.YtfdebanfenlglaaRtSo
import Derived.Test.YtfdebanfenlglaaReQ
import Derived.Test.YtfdebanfenlglaaRmC
set_option linter.unusedSimpArgs false
set_option linter.unusedVariables false
namespace Go.Rl
open Go.Proofs
theorem en186 : ∀ vs w, (callFunc 186 vs).run Try.prog w = .ok (.enter 186 vs) w := enters Try.func186 (by decide) rfl
theorem en184 : ∀ vs w, (callFunc 184 vs).run Try.prog w = .ok (.enter 184 vs) w := enters Try.func184 (by decide) rfl
theorem en183 : ∀ vs w, (callFunc 183 vs).run Try.prog w = .ok (.enter 183 vs) w := enters Try.func183 (by decide) rfl
theorem en178 : ∀ vs w, (callFunc 178 vs).run Try.prog w = .ok (.enter 178 vs) w := enters Try.func178 (by decide) rfl
theorem turn_left {c : Ent → Ent → Int} {l : List Ent} {a s b : Nat} (h1 : SrtI c l a s) (h2 : SrtI c l s b) (h : a = s ∨ s = b) : SrtI c l a b := by
  rcases h with rfl | rfl
  · exact h2
  · exact h1
theorem turn_right {c : Ent → Ent → Int} {l : List Ent} {a s b : Nat} (h1 : SrtI c l a s) (h2 : SrtI c l s b) (h : a = s ∨ s = b) : SrtI c l a b := turn_left h1 h2 h
set_option maxRecDepth 1000000 in
set_option maxHeartbeats 2000000 in
theorem symMergeEntry_step (l : List Ent) (hl : l.length ≤ 2000000) (a m b : Nat) (ga : a < m) (gb : m < b) (gc : b ≤ l.length) (c : Ent → Ent → Int) (hc : CmpOk c) (f : Nat) (pss : List (List PV)) (hE : ∀ vs w, (callFunc f vs).run Try.prog w = .ok (.enter f vs) w) (hp : ∀ x y : Ent, Con Try.prog f ([.agg x.pv, .agg y.pv] ++ pss.map .fbox) [] [.one (.v (.int .i64 (c x y)))]) (hd : Dist c l) (hS1 : SrtI c l a m) (hS2 : SrtI c l m b) (ih : ∀ (l' : List Ent) (a' m' b' : Nat), b' - a' < b - a → l'.length ≤ 2000000 → a' < m' → m' < b' → b' ≤ l'.length → Dist c l' → SrtI c l' a' m' → SrtI c l' m' b' → Con Try.prog 184 [.one (.sl true 4 (pvE l')), .one (PV.v (.int .i64 (a':Int))), .one (PV.v (.int .i64 (m':Int))), .one (PV.v (.int .i64 (b':Int))), .one (PV.clo f pss)] [some (pvE (srtS c l' a' b'))] []) : Con Try.prog 184 [.one (.sl true 4 (pvE l)), .one (PV.v (.int .i64 (a:Int))), .one (PV.v (.int .i64 (m:Int))), .one (PV.v (.int .i64 (b:Int))), .one (PV.clo f pss)] [some (pvE (srtS c l a b))] [] := by
  refine con_of_tr Try.func184 rfl rfl rfl rfl ?_
  have hle := pvE_length l
  obtain ⟨x, hx⟩ : ∃ x, l[a]? = some x := ⟨_, List.getElem?_eq_getElem (by omega)⟩
  obtain ⟨z, hz⟩ : ∃ z, l[m]? = some z := ⟨_, List.getElem?_eq_getElem (by omega)⟩
  refine tr_seq ?_
  refine tr_seq ?_
  refine tr_region rfl (.run [] [] rfl (st_move rfl) (.run [] [] rfl (st_move rfl) (.run [] [] rfl (st_subn rfl rfl rfl (by omega)) (.run [] [] rfl (st_eql rfl rfl rfl) .nil)))) ?_
  refine tr_if (t := decide (((m:Int) - (a:Int)) = 1)) rfl (fun h1 => ?_) (fun h1 => ?_)
  · skip
    replace h1 := of_decide_eq_true h1
    refine tr_seq ?_
    have hS2a : SrtI c l (a + 1) b := by have q : m = a + 1 := (by omega); rw [← q]; exact hS2
    refine tr_region rfl (.run [] [] rfl (st_move rfl) (.run [] [] rfl (st_assign rfl) .nil)) ?_
    refine tr_seq ?_
    refine tr_region rfl (.run [] [] rfl (st_move rfl) (.run [] [] rfl (st_assign rfl) .nil)) ?_
    refine tr_seq ?_
    refine tr_block ?_
    refine tr_loopS (σ := Nat × Nat) (fun (i, j) => mk [(0, .sl 100000 0 ((pvE l).length)), (1, .p none (.v (.int .i64 (a:Int)))), (4, .p none (.clo f pss)), (10, .p none (.v (.int .i64 (i:Int)))), (11, .p none (.v (.int .i64 (j:Int))))] [] [(100000, 4, pvE l)]) (fun (i, j) => m ≤ i ∧ i ≤ j ∧ j ≤ b ∧ BetU c l x (a + 1) b i j) (fun (i, j) => j - i) (m, b) ⟨Nat.le_refl _, by omega, Nat.le_refl _, ⟨.inl (by omega), .inl rfl⟩⟩ (wk_mk ⟨rfl, ⟨rfl, ⟨rfl, ⟨rfl, ⟨rfl, trivial⟩⟩⟩⟩⟩ trivial ⟨rfl, trivial⟩ rfl) ?_
    rintro ⟨i, j⟩ hG
    replace hG : m ≤ i ∧ i ≤ j ∧ j ≤ b ∧ BetU c l x (a + 1) b i j := hG
    obtain ⟨hmi, hij, hjb, hB⟩ := hG
    refine tr_seq ?_
    refine tr_seq ?_
    refine tr_region rfl (.run [] [] rfl (st_move rfl) (.run [] [] rfl (st_move rfl) (.run [] [] rfl (st_lss rfl rfl rfl) .nil))) ?_
    refine tr_if (t := decide ((i:Int) < (j:Int))) rfl (fun h2 => ?_) (fun h2 => ?_)
    · skip
      replace h2 := of_decide_eq_true h2
      refine tr_skip ?_
      refine tr_block ?_
      refine tr_seq ?_
      obtain ⟨h, hh⟩ : ∃ h : Nat, h = (i + j) / 2 := ⟨_, rfl⟩
      refine tr_region rfl (.run [] [] rfl (st_move rfl) (.run [] [] rfl (st_move rfl) (.run [] [] rfl (st_addn rfl rfl rfl (by omega)) (.run [] [] rfl (st_conv rfl rfl Try.underlying3 Try.underlying195) (.run [] [] rfl (st_shr rfl rfl rfl (by omega)) (.run [] [] rfl (st_eq (st_conv rfl rfl Try.underlying195 Try.underlying3) ((int_eq (b := (h:Int)) (by rw [hh, show (i:Int) + (j:Int) = ((i + j : Nat) : Int) from (Int.natCast_add i j).symm]; exact shr_one (i + j) (by omega))))) (.run [] [] rfl (st_assign rfl) .nil))))))) ?_
      refine tr_seq ?_
      obtain ⟨y, hy⟩ : ∃ y, l[h]? = some y := ⟨_, List.getElem?_eq_getElem (by omega)⟩
      refine tr_wk (s' := mk [(0, .sl 100000 0 ((pvE l).length)), (1, .p none (.v (.int .i64 (a:Int)))), (4, .p none (.clo f pss)), (10, .p none (.v (.int .i64 (i:Int)))), (11, .p none (.v (.int .i64 (j:Int)))), (12, .p none (.v (.int .i64 (h:Int))))] [] [(100000, 4, pvE l)]) ?_ ?_
      · exact wk_mk ⟨rfl, ⟨rfl, ⟨rfl, ⟨rfl, ⟨rfl, ⟨rfl, trivial⟩⟩⟩⟩⟩⟩ trivial ⟨rfl, trivial⟩ rfl
      refine tr_regionD mixed rfl (.run [] [] rfl (st_move rfl) (.run [] [] rfl (st_move rfl) (.run [] [] rfl (st_move rfl) (.run [] [] rfl (st_idx_row0 h rfl rfl rfl rfl Try.underlying26 Try.sizeOf44 rfl rfl (by omega)) (.run [] [] rfl (st_load_ea rfl rfl rfl (pvE_get hy) Try.isAgg44 Try.sizeOf44 (nle rfl)) (.run [] [] rfl (st_move rfl) (.run [] [] rfl (st_move rfl) (.run [] [] rfl (st_idx_row0 a rfl rfl rfl rfl Try.underlying26 Try.sizeOf44 rfl rfl (by omega)) (.run [] [] rfl (st_load_ea rfl rfl rfl (pvE_get hx) Try.isAgg44 Try.sizeOf44 (nle rfl)) (.run [4900] [] rfl (st_call rfl 4900 (X := []) hE rfl (.val nod) (.cons (.agg (.cons (.bor .v) (.cons (.bor .v) (.cons (.bor .v) (.cons (.bor .v) .nil))))) (.cons (.agg (.cons (.bor .v) (.cons (.bor .v) (.cons (.bor .v) (.cons (.bor .v) .nil))))) .nil)) (by decide) all_nil .nil (hp y x) rfl rfl (nle rfl)) (.run [] [] rfl (st_lss rfl rfl rfl) .nil))))))))))) (by kernel_rfl) ?_
      refine tr_if (t := decide ((c y x) < 0)) rfl (fun h3 => ?_) (fun h3 => ?_)
      · skip
        replace h3 := of_decide_eq_true h3
        refine tr_region rfl (.run [] [] rfl (st_move rfl) (.run [] [] rfl (st_addn rfl rfl rfl (by omega)) (.run [] [] rfl (st_assign rfl) .nil))) ?_
        refine nxt (Q := fun _ _ => False) (z := (i, j)) (h + 1, j) ?_ ?_ ?_
        · show m ≤ (h + 1) ∧ (h + 1) ≤ j ∧ j ≤ b ∧ BetU c l x (a + 1) b (h + 1) j
          exact ⟨by omega, by omega, by omega, ⟨.inr ⟨y, by rw [Nat.add_sub_cancel]; exact hy, h3⟩, hB.2⟩⟩
        · show j - (h + 1) < j - i
          omega
        · exact wk_mk ⟨rfl, ⟨rfl, ⟨rfl, ⟨(int_eq (by omega)), ⟨rfl, trivial⟩⟩⟩⟩⟩ trivial ⟨rfl, trivial⟩ rfl
      · skip
        replace h3 := of_decide_eq_false h3
        refine tr_region rfl (.run [] [] rfl (st_move rfl) (.run [] [] rfl (st_assign rfl) .nil)) ?_
        refine nxt (Q := fun _ _ => False) (z := (i, j)) (i, h) ?_ ?_ ?_
        · show m ≤ i ∧ i ≤ h ∧ h ≤ b ∧ BetU c l x (a + 1) b i h
          exact ⟨by omega, by omega, by omega, ⟨hB.1, .inr ⟨y, hy, h3⟩⟩⟩
        · show h - i < j - i
          omega
        · exact wk_mk ⟨rfl, ⟨rfl, ⟨rfl, ⟨rfl, ⟨rfl, trivial⟩⟩⟩⟩⟩ trivial ⟨rfl, trivial⟩ rfl
    · skip
      replace h2 := of_decide_eq_false h2
      refine tr_exit ?_
      refine tr_seq ?_
      refine tr_seq ?_
      have hB2 : BetU c l x (a + 1) b i i := by have q : j = i := (by omega); rw [q] at hB; exact hB
      refine tr_region rfl (.run [] [] rfl (st_move rfl) (.run [] [] rfl (st_assign rfl) .nil)) ?_
      refine tr_block ?_
      refine tr_loopS (σ := Nat × List Ent) (fun (k, dA) => mk [(0, .sl 100000 0 ((pvE l).length)), (10, .p none (.v (.int .i64 (i:Int)))), (13, .p none (.v (.int .i64 (k:Int))))] [] [(100000, 4, pvE dA)]) (fun (k, dA) => a ≤ k ∧ k + 1 ≤ i ∧ Res l dA a b ∧ MovU l dA a k x) (fun (k, dA) => i - k) (a, l) ⟨Nat.le_refl _, by omega, Res.refl l a b, movU_start hx⟩ (wk_mk ⟨rfl, ⟨rfl, ⟨rfl, trivial⟩⟩⟩ trivial ⟨(congrArg (fun x => some (4, x)) (by rfl)), trivial⟩ rfl) ?_
      rintro ⟨k, dA⟩ hG
      replace hG : a ≤ k ∧ k + 1 ≤ i ∧ Res l dA a b ∧ MovU l dA a k x := hG
      obtain ⟨hak, hki, hR, hM⟩ := hG
      have hml := hR.len
      have hle2 := pvE_length dA
      refine tr_seq ?_
      refine tr_seq ?_
      refine tr_region rfl (.run [] [] rfl (st_move rfl) (.run [] [] rfl (st_move rfl) (.run [] [] rfl (st_subn rfl rfl rfl (by omega)) (.run [] [] rfl (st_lss rfl rfl rfl) .nil)))) ?_
      refine tr_if (t := decide ((k:Int) < ((i:Int) - 1))) rfl (fun h4 => ?_) (fun h4 => ?_)
      · skip
        replace h4 := of_decide_eq_true h4
        refine tr_skip ?_
        refine tr_seq ?_
        refine tr_block ?_
        have hxk : dA[k]? = some x := (hM k).trans (by rw [if_neg (by omega), if_pos rfl])
        obtain ⟨v, hv⟩ : ∃ v, dA[k + 1]? = some v := ⟨_, List.getElem?_eq_getElem (by omega)⟩
        refine tr_wk (s' := mk [(0, .sl 100000 0 ((pvE l).length)), (10, .p none (.v (.int .i64 (i:Int)))), (13, .p none (.v (.int .i64 (k:Int))))] [] [(100000, 4, pvE dA)]) ?_ ?_
        · exact wk_mk ⟨rfl, ⟨rfl, ⟨rfl, trivial⟩⟩⟩ trivial ⟨rfl, trivial⟩ rfl
        refine tr_regionD mixed rfl (.run [] [] rfl (st_move rfl) (.run [] [] rfl (st_move rfl) (.run [] [] rfl (st_move rfl) (.run [] [] rfl (st_move rfl) (.run [] [] rfl (st_eq (st_addn rfl rfl rfl (by omega)) ((show AV.p none (.v (.int .i64 (((k : Nat):Int) + 1))) = AV.p none (.v (.int .i64 ((k + 1 : Nat):Int))) from int_eq (by omega)))) (.run [] [] rfl (st_move rfl) (.run [] [] rfl (st_move rfl) (.run [] [] rfl (st_eq (st_addn rfl rfl rfl (by omega)) ((show AV.p none (.v (.int .i64 (((k : Nat):Int) + 1))) = AV.p none (.v (.int .i64 ((k + 1 : Nat):Int))) from int_eq (by omega)))) (.run [] [] rfl (st_idx_row0 (k + 1) rfl rfl rfl rfl Try.underlying26 Try.sizeOf44 rfl rfl (by omega)) (.run [] [] rfl (st_load_ea rfl rfl rfl (pvE_get hv) Try.isAgg44 Try.sizeOf44 (nle rfl)) (.run [] [] rfl (st_move rfl) (.run [] [] rfl (st_move rfl) (.run [] [] rfl (st_idx_row0 k rfl rfl rfl rfl Try.underlying26 Try.sizeOf44 rfl rfl (by omega)) (.run [] [] rfl (st_load_ea rfl rfl rfl (pvE_get hxk) Try.isAgg44 Try.sizeOf44 (nle rfl)) (.run [] [] rfl (st_idx_row0 k rfl rfl rfl rfl Try.underlying26 Try.sizeOf44 rfl rfl (by omega)) (.run [] [] rfl (st_store_row rfl rfl rfl (FlatP.nf (pvE_flat _)) (pvE_get hxk) rfl rfl (.cons .v (.cons .v (.cons .v (.cons .v .nil)))) Try.sizeOf44 rfl (nle rfl)) (.run [] [] rfl (st_idx_row0 (k + 1) rfl rfl rfl rfl Try.underlying26 Try.sizeOf44 rfl rfl (by omega)) (.run [] [] rfl (st_store_row rfl rfl rfl (FlatP.nf (FlatP.set (i := k) (cs := [PV.v (.string v.user), PV.v (.int .i64 v.seq), PV.v (.int .i64 v.kind), PV.v (.string v.value)]) (pvE_flat dA) rfl)) (by rw [List.getElem?_set_ne (by omega)]; exact pvE_get hv) rfl rfl (.cons .v (.cons .v (.cons .v (.cons .v .nil)))) Try.sizeOf44 rfl (nle rfl)) .nil)))))))))))))))))) (by kernel_rfl) ?_
        refine tr_wk (s' := mk [(0, .sl 100000 0 ((pvE l).length)), (10, .p none (.v (.int .i64 (i:Int)))), (13, .p none (.v (.int .i64 (k:Int))))] [] [(100000, 4, ((pvE dA).set k [PV.v (.string v.user), PV.v (.int .i64 v.seq), PV.v (.int .i64 v.kind), PV.v (.string v.value)]).set (k + 1) [PV.v (.string x.user), PV.v (.int .i64 x.seq), PV.v (.int .i64 x.kind), PV.v (.string x.value)])]) ?_ ?_
        · exact wk_mk ⟨rfl, ⟨rfl, ⟨rfl, trivial⟩⟩⟩ trivial ⟨rfl, trivial⟩ rfl
        refine tr_region rfl (.run [] [] rfl (st_move rfl) (.run [] [] rfl (st_addn rfl rfl rfl (by omega)) (.run [] [] rfl (st_assign rfl) .nil))) ?_
        refine nxt (Q := fun _ _ => False) (z := (k, dA)) (k + 1, (dA.set k v).set (k + 1) x) ?_ ?_ ?_
        · show a ≤ (k + 1) ∧ (k + 1) + 1 ≤ i ∧ Res l ((dA.set k v).set (k + 1) x) a b ∧ MovU l ((dA.set k v).set (k + 1) x) a (k + 1) x
          exact ⟨by omega, by omega, hR.swap hxk hv (by omega) (by omega), movU_step hM (by omega) hxk hv⟩
        · show i - (k + 1) < i - k
          omega
        · exact wk_mk ⟨rfl, ⟨rfl, ⟨(int_eq (by omega)), trivial⟩⟩⟩ trivial ⟨(congrArg (fun x => some (4, x)) (by exact pvEq_set2)), trivial⟩ rfl
      · skip
        replace h4 := of_decide_eq_false h4
        refine tr_exit ?_
        refine tr_ret ?_
        exact ends [] [] .nil .nil (by decide) (outs1 (congrArg (fun x => some (4, x)) (congrArg pvE (srtS_unique hc (by omega) hR (merge_one hc hS2a (distI_of hd) hx ⟨by omega, by omega⟩ hB2 (by have q : k = i - 1 := (by omega); rw [q] at hM; exact hM)) hd))) (pvE_flat _) (by decide))
  · skip
    replace h1 := of_decide_eq_false h1
    refine tr_skip ?_
    refine tr_seq ?_
    refine tr_seq ?_
    refine tr_region rfl (.run [] [] rfl (st_move rfl) (.run [] [] rfl (st_move rfl) (.run [] [] rfl (st_subn rfl rfl rfl (by omega)) (.run [] [] rfl (st_eql rfl rfl rfl) .nil)))) ?_
    refine tr_if (t := decide (((b:Int) - (m:Int)) = 1)) rfl (fun h5 => ?_) (fun h5 => ?_)
    · skip
      replace h5 := of_decide_eq_true h5
      refine tr_seq ?_
      have hb1 : m + 1 = b := (by omega)
      refine tr_region rfl (.run [] [] rfl (st_move rfl) (.run [] [] rfl (st_assign rfl) .nil)) ?_
      refine tr_seq ?_
      refine tr_region rfl (.run [] [] rfl (st_move rfl) (.run [] [] rfl (st_assign rfl) .nil)) ?_
      refine tr_seq ?_
      refine tr_block ?_
      refine tr_loopS (σ := Nat × Nat) (fun (i, j) => mk [(0, .sl 100000 0 ((pvE l).length)), (2, .p none (.v (.int .i64 (m:Int)))), (4, .p none (.clo f pss)), (14, .p none (.v (.int .i64 (i:Int)))), (15, .p none (.v (.int .i64 (j:Int))))] [] [(100000, 4, pvE l)]) (fun (i, j) => a ≤ i ∧ i ≤ j ∧ j ≤ m ∧ BetD c l z a m i j) (fun (i, j) => j - i) (a, m) ⟨Nat.le_refl _, by omega, Nat.le_refl _, ⟨.inl rfl, .inl rfl⟩⟩ (wk_mk ⟨rfl, ⟨rfl, ⟨rfl, ⟨rfl, ⟨rfl, trivial⟩⟩⟩⟩⟩ trivial ⟨rfl, trivial⟩ rfl) ?_
      rintro ⟨i, j⟩ hG
      replace hG : a ≤ i ∧ i ≤ j ∧ j ≤ m ∧ BetD c l z a m i j := hG
      obtain ⟨hai, hij, hjm, hB⟩ := hG
      refine tr_seq ?_
      refine tr_seq ?_
      refine tr_region rfl (.run [] [] rfl (st_move rfl) (.run [] [] rfl (st_move rfl) (.run [] [] rfl (st_lss rfl rfl rfl) .nil))) ?_
      refine tr_if (t := decide ((i:Int) < (j:Int))) rfl (fun h6 => ?_) (fun h6 => ?_)
      · skip
        replace h6 := of_decide_eq_true h6
        refine tr_skip ?_
        refine tr_block ?_
        refine tr_seq ?_
        obtain ⟨h, hh⟩ : ∃ h : Nat, h = (i + j) / 2 := ⟨_, rfl⟩
        refine tr_region rfl (.run [] [] rfl (st_move rfl) (.run [] [] rfl (st_move rfl) (.run [] [] rfl (st_addn rfl rfl rfl (by omega)) (.run [] [] rfl (st_conv rfl rfl Try.underlying3 Try.underlying195) (.run [] [] rfl (st_shr rfl rfl rfl (by omega)) (.run [] [] rfl (st_eq (st_conv rfl rfl Try.underlying195 Try.underlying3) ((int_eq (b := (h:Int)) (by rw [hh, show (i:Int) + (j:Int) = ((i + j : Nat) : Int) from (Int.natCast_add i j).symm]; exact shr_one (i + j) (by omega))))) (.run [] [] rfl (st_assign rfl) .nil))))))) ?_
        refine tr_seq ?_
        obtain ⟨y, hy⟩ : ∃ y, l[h]? = some y := ⟨_, List.getElem?_eq_getElem (by omega)⟩
        refine tr_wk (s' := mk [(0, .sl 100000 0 ((pvE l).length)), (2, .p none (.v (.int .i64 (m:Int)))), (4, .p none (.clo f pss)), (14, .p none (.v (.int .i64 (i:Int)))), (15, .p none (.v (.int .i64 (j:Int)))), (16, .p none (.v (.int .i64 (h:Int))))] [] [(100000, 4, pvE l)]) ?_ ?_
        · exact wk_mk ⟨rfl, ⟨rfl, ⟨rfl, ⟨rfl, ⟨rfl, ⟨rfl, trivial⟩⟩⟩⟩⟩⟩ trivial ⟨rfl, trivial⟩ rfl
        refine tr_regionD mixed rfl (.run [] [] rfl (st_move rfl) (.run [] [] rfl (st_move rfl) (.run [] [] rfl (st_move rfl) (.run [] [] rfl (st_idx_row0 m rfl rfl rfl rfl Try.underlying26 Try.sizeOf44 rfl rfl (by omega)) (.run [] [] rfl (st_load_ea rfl rfl rfl (pvE_get hz) Try.isAgg44 Try.sizeOf44 (nle rfl)) (.run [] [] rfl (st_move rfl) (.run [] [] rfl (st_move rfl) (.run [] [] rfl (st_idx_row0 h rfl rfl rfl rfl Try.underlying26 Try.sizeOf44 rfl rfl (by omega)) (.run [] [] rfl (st_load_ea rfl rfl rfl (pvE_get hy) Try.isAgg44 Try.sizeOf44 (nle rfl)) (.run [10100] [] rfl (st_call rfl 10100 (X := []) hE rfl (.val nod) (.cons (.agg (.cons (.bor .v) (.cons (.bor .v) (.cons (.bor .v) (.cons (.bor .v) .nil))))) (.cons (.agg (.cons (.bor .v) (.cons (.bor .v) (.cons (.bor .v) (.cons (.bor .v) .nil))))) .nil)) (by decide) all_nil .nil (hp z y) rfl rfl (nle rfl)) (.run [] [] rfl (st_lss rfl rfl rfl) (.run [] [] rfl (st_not (b := decide ((c z y) < 0)) rfl rfl) .nil)))))))))))) (by kernel_rfl) ?_
        refine tr_if (t := (!(decide ((c z y) < 0)))) rfl (fun h7 => ?_) (fun h7 => ?_)
        · skip
          replace h7 : ¬ ((c z y) < 0) := of_decide_eq_false (bnot_t h7)
          refine tr_region rfl (.run [] [] rfl (st_move rfl) (.run [] [] rfl (st_addn rfl rfl rfl (by omega)) (.run [] [] rfl (st_assign rfl) .nil))) ?_
          refine nxt (Q := fun _ _ => False) (z := (i, j)) (h + 1, j) ?_ ?_ ?_
          · show a ≤ (h + 1) ∧ (h + 1) ≤ j ∧ j ≤ m ∧ BetD c l z a m (h + 1) j
            exact ⟨by omega, by omega, by omega, ⟨.inr ⟨y, by rw [Nat.add_sub_cancel]; exact hy, h7⟩, hB.2⟩⟩
          · show j - (h + 1) < j - i
            omega
          · exact wk_mk ⟨rfl, ⟨rfl, ⟨rfl, ⟨(int_eq (by omega)), ⟨rfl, trivial⟩⟩⟩⟩⟩ trivial ⟨rfl, trivial⟩ rfl
        · skip
          replace h7 : (c z y) < 0 := of_decide_eq_true (bnot_f h7)
          refine tr_region rfl (.run [] [] rfl (st_move rfl) (.run [] [] rfl (st_assign rfl) .nil)) ?_
          refine nxt (Q := fun _ _ => False) (z := (i, j)) (i, h) ?_ ?_ ?_
          · show a ≤ i ∧ i ≤ h ∧ h ≤ m ∧ BetD c l z a m i h
            exact ⟨by omega, by omega, by omega, ⟨hB.1, .inr ⟨y, hy, h7⟩⟩⟩
          · show h - i < j - i
            omega
          · exact wk_mk ⟨rfl, ⟨rfl, ⟨rfl, ⟨rfl, ⟨rfl, trivial⟩⟩⟩⟩⟩ trivial ⟨rfl, trivial⟩ rfl
      · skip
        replace h6 := of_decide_eq_false h6
        refine tr_exit ?_
        refine tr_seq ?_
        refine tr_seq ?_
        have hB2 : BetD c l z a m i i := by have q : j = i := (by omega); rw [q] at hB; exact hB
        refine tr_region rfl (.run [] [] rfl (st_move rfl) (.run [] [] rfl (st_assign rfl) .nil)) ?_
        refine tr_block ?_
        refine tr_loopS (σ := Nat × List Ent) (fun (k, dB) => mk [(0, .sl 100000 0 ((pvE l).length)), (14, .p none (.v (.int .i64 (i:Int)))), (17, .p none (.v (.int .i64 (k:Int))))] [] [(100000, 4, pvE dB)]) (fun (k, dB) => i ≤ k ∧ k ≤ m ∧ Res l dB a b ∧ MovD l dB m k z) (fun (k, dB) => k) (m, l) ⟨by omega, Nat.le_refl _, Res.refl l a b, movD_start hz⟩ (wk_mk ⟨rfl, ⟨rfl, ⟨rfl, trivial⟩⟩⟩ trivial ⟨(congrArg (fun x => some (4, x)) (by rfl)), trivial⟩ rfl) ?_
        rintro ⟨k, dB⟩ hG
        replace hG : i ≤ k ∧ k ≤ m ∧ Res l dB a b ∧ MovD l dB m k z := hG
        obtain ⟨hik, hkm, hR, hM⟩ := hG
        have hml := hR.len
        have hle2 := pvE_length dB
        refine tr_seq ?_
        refine tr_seq ?_
        refine tr_region rfl (.run [] [] rfl (st_move rfl) (.run [] [] rfl (st_move rfl) (.run [] [] rfl (st_gtr rfl rfl rfl) .nil))) ?_
        refine tr_if (t := decide ((i:Int) < (k:Int))) rfl (fun h8 => ?_) (fun h8 => ?_)
        · skip
          replace h8 := of_decide_eq_true h8
          refine tr_skip ?_
          refine tr_seq ?_
          refine tr_block ?_
          have hzk : dB[k]? = some z := (hM k).trans (by rw [if_neg (by omega), if_pos rfl])
          obtain ⟨v, hv⟩ : ∃ v, dB[k - 1]? = some v := ⟨_, List.getElem?_eq_getElem (by omega)⟩
          refine tr_wk (s' := mk [(0, .sl 100000 0 ((pvE l).length)), (14, .p none (.v (.int .i64 (i:Int)))), (17, .p none (.v (.int .i64 (k:Int))))] [] [(100000, 4, pvE dB)]) ?_ ?_
          · exact wk_mk ⟨rfl, ⟨rfl, ⟨rfl, trivial⟩⟩⟩ trivial ⟨rfl, trivial⟩ rfl
          refine tr_regionD mixed rfl (.run [] [] rfl (st_move rfl) (.run [] [] rfl (st_move rfl) (.run [] [] rfl (st_move rfl) (.run [] [] rfl (st_move rfl) (.run [] [] rfl (st_eq (st_subn rfl rfl rfl (by omega)) ((show AV.p none (.v (.int .i64 (((k : Nat):Int) - 1))) = AV.p none (.v (.int .i64 ((k - 1 : Nat):Int))) from int_eq (by omega)))) (.run [] [] rfl (st_move rfl) (.run [] [] rfl (st_move rfl) (.run [] [] rfl (st_eq (st_subn rfl rfl rfl (by omega)) ((show AV.p none (.v (.int .i64 (((k : Nat):Int) - 1))) = AV.p none (.v (.int .i64 ((k - 1 : Nat):Int))) from int_eq (by omega)))) (.run [] [] rfl (st_idx_row0 (k - 1) rfl rfl rfl rfl Try.underlying26 Try.sizeOf44 rfl rfl (by omega)) (.run [] [] rfl (st_load_ea rfl rfl rfl (pvE_get hv) Try.isAgg44 Try.sizeOf44 (nle rfl)) (.run [] [] rfl (st_move rfl) (.run [] [] rfl (st_move rfl) (.run [] [] rfl (st_idx_row0 k rfl rfl rfl rfl Try.underlying26 Try.sizeOf44 rfl rfl (by omega)) (.run [] [] rfl (st_load_ea rfl rfl rfl (pvE_get hzk) Try.isAgg44 Try.sizeOf44 (nle rfl)) (.run [] [] rfl (st_idx_row0 k rfl rfl rfl rfl Try.underlying26 Try.sizeOf44 rfl rfl (by omega)) (.run [] [] rfl (st_store_row rfl rfl rfl (FlatP.nf (pvE_flat _)) (pvE_get hzk) rfl rfl (.cons .v (.cons .v (.cons .v (.cons .v .nil)))) Try.sizeOf44 rfl (nle rfl)) (.run [] [] rfl (st_idx_row0 (k - 1) rfl rfl rfl rfl Try.underlying26 Try.sizeOf44 rfl rfl (by omega)) (.run [] [] rfl (st_store_row rfl rfl rfl (FlatP.nf (FlatP.set (i := k) (cs := [PV.v (.string v.user), PV.v (.int .i64 v.seq), PV.v (.int .i64 v.kind), PV.v (.string v.value)]) (pvE_flat dB) rfl)) (by rw [List.getElem?_set_ne (by omega)]; exact pvE_get hv) rfl rfl (.cons .v (.cons .v (.cons .v (.cons .v .nil)))) Try.sizeOf44 rfl (nle rfl)) .nil)))))))))))))))))) (by kernel_rfl) ?_
          refine tr_wk (s' := mk [(0, .sl 100000 0 ((pvE l).length)), (14, .p none (.v (.int .i64 (i:Int)))), (17, .p none (.v (.int .i64 (k:Int))))] [] [(100000, 4, ((pvE dB).set k [PV.v (.string v.user), PV.v (.int .i64 v.seq), PV.v (.int .i64 v.kind), PV.v (.string v.value)]).set (k - 1) [PV.v (.string z.user), PV.v (.int .i64 z.seq), PV.v (.int .i64 z.kind), PV.v (.string z.value)])]) ?_ ?_
          · exact wk_mk ⟨rfl, ⟨rfl, ⟨rfl, trivial⟩⟩⟩ trivial ⟨rfl, trivial⟩ rfl
          refine tr_region rfl (.run [] [] rfl (st_move rfl) (.run [] [] rfl (st_subn rfl rfl rfl (by omega)) (.run [] [] rfl (st_assign rfl) .nil))) ?_
          refine nxt (Q := fun _ _ => False) (z := (k, dB)) (k - 1, (dB.set k v).set (k - 1) z) ?_ ?_ ?_
          · show i ≤ (k - 1) ∧ (k - 1) ≤ m ∧ Res l ((dB.set k v).set (k - 1) z) a b ∧ MovD l ((dB.set k v).set (k - 1) z) m (k - 1) z
            exact ⟨by omega, by omega, hR.swap hzk hv (by omega) (by omega), movD_step hM (by omega) (by omega) hzk hv⟩
          · show (k - 1) < k
            omega
          · exact wk_mk ⟨rfl, ⟨rfl, ⟨(int_eq (by omega)), trivial⟩⟩⟩ trivial ⟨(congrArg (fun x => some (4, x)) (by exact pvEq_set2)), trivial⟩ rfl
        · skip
          replace h8 := of_decide_eq_false h8
          refine tr_exit ?_
          refine tr_ret ?_
          exact ends [] [] .nil .nil (by decide) (outs1 (congrArg (fun x => some (4, x)) (congrArg pvE (srtS_unique hc (by omega) hR (hb1 ▸ merge_last hc hS1 (distI_of hd) hz ⟨by omega, by omega⟩ hB2 (by have q : k = i := (by omega); rw [q] at hM; exact hM)) hd))) (pvE_flat _) (by decide))
    · skip
      replace h5 := of_decide_eq_false h5
      refine tr_skip ?_
      refine tr_seq ?_
      obtain ⟨mid, hmid⟩ : ∃ mid : Nat, mid = (a + b) / 2 := ⟨_, rfl⟩
      refine tr_region rfl (.run [] [] rfl (st_move rfl) (.run [] [] rfl (st_move rfl) (.run [] [] rfl (st_addn rfl rfl rfl (by omega)) (.run [] [] rfl (st_conv rfl rfl Try.underlying3 Try.underlying195) (.run [] [] rfl (st_shr rfl rfl rfl (by omega)) (.run [] [] rfl (st_eq (st_conv rfl rfl Try.underlying195 Try.underlying3) ((int_eq (b := (mid:Int)) (by rw [hmid, show (a:Int) + (b:Int) = ((a + b : Nat) : Int) from (Int.natCast_add a b).symm]; exact shr_one (a + b) (by omega))))) (.run [] [] rfl (st_assign rfl) .nil))))))) ?_
      refine tr_seq ?_
      refine tr_wk (s' := mk [(0, .sl 100000 0 ((pvE l).length)), (1, .p none (.v (.int .i64 (a:Int)))), (2, .p none (.v (.int .i64 (m:Int)))), (3, .p none (.v (.int .i64 (b:Int)))), (4, .p none (.clo f pss)), (18, .p none (.v (.int .i64 (mid:Int))))] [] [(100000, 4, pvE l)]) ?_ ?_
      · exact wk_mk ⟨rfl, ⟨rfl, ⟨rfl, ⟨rfl, ⟨rfl, ⟨rfl, trivial⟩⟩⟩⟩⟩⟩ trivial ⟨rfl, trivial⟩ rfl
      refine tr_region rfl (.run [] [] rfl (st_move rfl) (.run [] [] rfl (st_move rfl) (.run [] [] rfl (st_eq (st_addn rfl rfl rfl (by omega)) ((show AV.p none (.v (.int .i64 (((mid : Nat):Int) + ((m : Nat):Int)))) = AV.p none (.v (.int .i64 ((mid + m : Nat):Int))) from int_eq (by omega)))) (.run [] [] rfl (st_assign rfl) .nil)))) ?_
      refine tr_seq ?_
      obtain ⟨s0, r0, hs0, hr0, hsr⟩ : ∃ s0 r0 : Nat, s0 = (if mid < m then mid + m - b else a) ∧ r0 = (if mid < m then mid else m) ∧ ((mid < m ∧ s0 = mid + m - b ∧ r0 = mid) ∨ (m ≤ mid ∧ s0 = a ∧ r0 = m)) := ⟨_, _, rfl, rfl, (by by_cases q : mid < m; { rw [if_pos q, if_pos q]; omega }; { rw [if_neg q, if_neg q]; omega })⟩
      refine tr_region rfl (.run [] [] rfl (st_assign rfl) (.run [] [] rfl (st_assign rfl) .nil)) ?_
      refine tr_join (σ := Unit) (fun _ => mk [(0, .sl 100000 0 ((pvE l).length)), (1, .p none (.v (.int .i64 (a:Int)))), (2, .p none (.v (.int .i64 (m:Int)))), (3, .p none (.v (.int .i64 (b:Int)))), (4, .p none (.clo f pss)), (18, .p none (.v (.int .i64 (mid:Int)))), (19, .p none (.v (.int .i64 ((mid + m : Nat):Int)))), (20, .p none (.v (.int .i64 (s0:Int)))), (21, .p none (.v (.int .i64 (r0:Int))))] [] [(100000, 4, pvE l)]) (fun _ => True) ?_ ?_
      · skip
        refine tr_seq ?_
        refine tr_region rfl (.run [] [] rfl (st_move rfl) (.run [] [] rfl (st_move rfl) (.run [] [] rfl (st_gtr rfl rfl rfl) .nil))) ?_
        refine tr_if (t := decide ((mid:Int) < (m:Int))) rfl (fun h9 => ?_) (fun h9 => ?_)
        · skip
          replace h9 := of_decide_eq_true h9
          refine tr_seq ?_
          refine tr_region rfl (.run [] [] rfl (st_move rfl) (.run [] [] rfl (st_move rfl) (.run [] [] rfl (st_eq (st_subn rfl rfl rfl (by omega)) ((show AV.p none (.v (.int .i64 (((mid + m : Nat):Int) - ((b : Nat):Int)))) = AV.p none (.v (.int .i64 ((mid + m - b : Nat):Int))) from int_eq (by omega)))) (.run [] [] rfl (st_assign rfl) .nil)))) ?_
          refine tr_region rfl (.run [] [] rfl (st_move rfl) (.run [] [] rfl (st_assign rfl) .nil)) ?_
          refine ⟨(), ?_, ?_⟩
          · show True
            trivial
          · exact wk_mk ⟨rfl, ⟨rfl, ⟨rfl, ⟨rfl, ⟨rfl, ⟨rfl, ⟨rfl, ⟨(int_eq (by omega)), ⟨(int_eq (by omega)), trivial⟩⟩⟩⟩⟩⟩⟩⟩⟩ trivial ⟨rfl, trivial⟩ rfl
        · skip
          replace h9 := of_decide_eq_false h9
          refine tr_seq ?_
          refine tr_region rfl (.run [] [] rfl (st_move rfl) (.run [] [] rfl (st_assign rfl) .nil)) ?_
          refine tr_region rfl (.run [] [] rfl (st_move rfl) (.run [] [] rfl (st_assign rfl) .nil)) ?_
          refine ⟨(), ?_, ?_⟩
          · show True
            trivial
          · exact wk_mk ⟨rfl, ⟨rfl, ⟨rfl, ⟨rfl, ⟨rfl, ⟨rfl, ⟨rfl, ⟨(int_eq (by omega)), ⟨(int_eq (by omega)), trivial⟩⟩⟩⟩⟩⟩⟩⟩⟩ trivial ⟨rfl, trivial⟩ rfl
      · rintro _ hG
        replace hG : True := hG
        refine tr_seq ?_
        refine tr_region rfl (.run [] [] rfl (st_move rfl) (.run [] [] rfl (st_eq (st_subn rfl rfl rfl (by omega)) ((show AV.p none (.v (.int .i64 (((mid + m : Nat):Int) - 1))) = AV.p none (.v (.int .i64 ((mid + m - 1 : Nat):Int))) from int_eq (by omega)))) (.run [] [] rfl (st_assign rfl) .nil))) ?_
        refine tr_seq ?_
        refine tr_block ?_
        refine tr_loopS (σ := Nat × Nat) (fun (s, r) => mk [(0, .sl 100000 0 ((pvE l).length)), (1, .p none (.v (.int .i64 (a:Int)))), (2, .p none (.v (.int .i64 (m:Int)))), (3, .p none (.v (.int .i64 (b:Int)))), (4, .p none (.clo f pss)), (18, .p none (.v (.int .i64 (mid:Int)))), (19, .p none (.v (.int .i64 ((mid + m : Nat):Int)))), (20, .p none (.v (.int .i64 (s:Int)))), (21, .p none (.v (.int .i64 (r:Int)))), (22, .p none (.v (.int .i64 ((mid + m - 1 : Nat):Int))))] [] [(100000, 4, pvE l)]) (fun (s, r) => s0 ≤ s ∧ s ≤ r ∧ r ≤ r0 ∧ BetS c l (mid + m - 1) s0 r0 s r) (fun (s, r) => r - s) (s0, r0) ⟨Nat.le_refl _, by omega, Nat.le_refl _, ⟨.inl rfl, .inl rfl⟩⟩ (wk_mk ⟨rfl, ⟨rfl, ⟨rfl, ⟨rfl, ⟨rfl, ⟨rfl, ⟨rfl, ⟨rfl, ⟨rfl, ⟨rfl, trivial⟩⟩⟩⟩⟩⟩⟩⟩⟩⟩ trivial ⟨rfl, trivial⟩ rfl) ?_
        rintro ⟨s, r⟩ hG
        replace hG : s0 ≤ s ∧ s ≤ r ∧ r ≤ r0 ∧ BetS c l (mid + m - 1) s0 r0 s r := hG
        obtain ⟨hs0s, hsr1, hrr0, hB⟩ := hG
        refine tr_seq ?_
        refine tr_seq ?_
        refine tr_region rfl (.run [] [] rfl (st_move rfl) (.run [] [] rfl (st_move rfl) (.run [] [] rfl (st_lss rfl rfl rfl) .nil))) ?_
        refine tr_if (t := decide ((s:Int) < (r:Int))) rfl (fun h10 => ?_) (fun h10 => ?_)
        · skip
          replace h10 := of_decide_eq_true h10
          refine tr_skip ?_
          refine tr_block ?_
          refine tr_seq ?_
          obtain ⟨h, hh⟩ : ∃ h : Nat, h = (s + r) / 2 := ⟨_, rfl⟩
          refine tr_region rfl (.run [] [] rfl (st_move rfl) (.run [] [] rfl (st_move rfl) (.run [] [] rfl (st_addn rfl rfl rfl (by omega)) (.run [] [] rfl (st_conv rfl rfl Try.underlying3 Try.underlying195) (.run [] [] rfl (st_shr rfl rfl rfl (by omega)) (.run [] [] rfl (st_eq (st_conv rfl rfl Try.underlying195 Try.underlying3) ((int_eq (b := (h:Int)) (by rw [hh, show (s:Int) + (r:Int) = ((s + r : Nat) : Int) from (Int.natCast_add s r).symm]; exact shr_one (s + r) (by omega))))) (.run [] [] rfl (st_assign rfl) .nil))))))) ?_
          refine tr_seq ?_
          obtain ⟨y, hy⟩ : ∃ y, l[h]? = some y := ⟨_, List.getElem?_eq_getElem (by omega)⟩
          obtain ⟨u, hu⟩ : ∃ u, l[mid + m - 1 - h]? = some u := ⟨_, List.getElem?_eq_getElem (by omega)⟩
          refine tr_wk (s' := mk [(0, .sl 100000 0 ((pvE l).length)), (1, .p none (.v (.int .i64 (a:Int)))), (2, .p none (.v (.int .i64 (m:Int)))), (3, .p none (.v (.int .i64 (b:Int)))), (4, .p none (.clo f pss)), (18, .p none (.v (.int .i64 (mid:Int)))), (19, .p none (.v (.int .i64 ((mid + m : Nat):Int)))), (20, .p none (.v (.int .i64 (s:Int)))), (21, .p none (.v (.int .i64 (r:Int)))), (22, .p none (.v (.int .i64 ((mid + m - 1 : Nat):Int)))), (23, .p none (.v (.int .i64 (h:Int))))] [] [(100000, 4, pvE l)]) ?_ ?_
          · exact wk_mk ⟨rfl, ⟨rfl, ⟨rfl, ⟨rfl, ⟨rfl, ⟨rfl, ⟨rfl, ⟨rfl, ⟨rfl, ⟨rfl, ⟨rfl, trivial⟩⟩⟩⟩⟩⟩⟩⟩⟩⟩⟩ trivial ⟨rfl, trivial⟩ rfl
          refine tr_regionD mixed rfl (.run [] [] rfl (st_move rfl) (.run [] [] rfl (st_move rfl) (.run [] [] rfl (st_move rfl) (.run [] [] rfl (st_move rfl) (.run [] [] rfl (st_eq (st_subn rfl rfl rfl (by omega)) ((show AV.p none (.v (.int .i64 (((mid + m - 1 : Nat):Int) - ((h : Nat):Int)))) = AV.p none (.v (.int .i64 ((mid + m - 1 - h : Nat):Int))) from int_eq (by omega)))) (.run [] [] rfl (st_idx_row0 (mid + m - 1 - h) rfl rfl rfl rfl Try.underlying26 Try.sizeOf44 rfl rfl (by omega)) (.run [] [] rfl (st_load_ea rfl rfl rfl (pvE_get hu) Try.isAgg44 Try.sizeOf44 (nle rfl)) (.run [] [] rfl (st_move rfl) (.run [] [] rfl (st_move rfl) (.run [] [] rfl (st_idx_row0 h rfl rfl rfl rfl Try.underlying26 Try.sizeOf44 rfl rfl (by omega)) (.run [] [] rfl (st_load_ea rfl rfl rfl (pvE_get hy) Try.isAgg44 Try.sizeOf44 (nle rfl)) (.run [16900] [] rfl (st_call rfl 16900 (X := []) hE rfl (.val nod) (.cons (.agg (.cons (.bor .v) (.cons (.bor .v) (.cons (.bor .v) (.cons (.bor .v) .nil))))) (.cons (.agg (.cons (.bor .v) (.cons (.bor .v) (.cons (.bor .v) (.cons (.bor .v) .nil))))) .nil)) (by decide) all_nil .nil (hp u y) rfl rfl (nle rfl)) (.run [] [] rfl (st_lss rfl rfl rfl) (.run [] [] rfl (st_not (b := decide ((c u y) < 0)) rfl rfl) .nil)))))))))))))) (by kernel_rfl) ?_
          refine tr_if (t := (!(decide ((c u y) < 0)))) rfl (fun h11 => ?_) (fun h11 => ?_)
          · skip
            replace h11 : ¬ ((c u y) < 0) := of_decide_eq_false (bnot_t h11)
            refine tr_wk (s' := mk [(0, .sl 100000 0 ((pvE l).length)), (1, .p none (.v (.int .i64 (a:Int)))), (2, .p none (.v (.int .i64 (m:Int)))), (3, .p none (.v (.int .i64 (b:Int)))), (4, .p none (.clo f pss)), (18, .p none (.v (.int .i64 (mid:Int)))), (19, .p none (.v (.int .i64 ((mid + m : Nat):Int)))), (21, .p none (.v (.int .i64 (r:Int)))), (22, .p none (.v (.int .i64 ((mid + m - 1 : Nat):Int)))), (23, .p none (.v (.int .i64 (h:Int))))] [] [(100000, 4, pvE l)]) ?_ ?_
            · exact wk_mk ⟨rfl, ⟨rfl, ⟨rfl, ⟨rfl, ⟨rfl, ⟨rfl, ⟨rfl, ⟨rfl, ⟨rfl, ⟨rfl, trivial⟩⟩⟩⟩⟩⟩⟩⟩⟩⟩ trivial ⟨rfl, trivial⟩ rfl
            refine tr_region rfl (.run [] [] rfl (st_move rfl) (.run [] [] rfl (st_addn rfl rfl rfl (by omega)) (.run [] [] rfl (st_assign rfl) .nil))) ?_
            refine nxt (Q := fun _ _ => False) (z := (s, r)) (h + 1, r) ?_ ?_ ?_
            · show s0 ≤ (h + 1) ∧ (h + 1) ≤ r ∧ r ≤ r0 ∧ BetS c l (mid + m - 1) s0 r0 (h + 1) r
              exact ⟨by omega, by omega, by omega, ⟨.inr ⟨u, y, by rw [Nat.add_sub_cancel]; exact hu, by rw [Nat.add_sub_cancel]; exact hy, h11⟩, hB.2⟩⟩
            · show r - (h + 1) < r - s
              omega
            · exact wk_mk ⟨rfl, ⟨rfl, ⟨rfl, ⟨rfl, ⟨rfl, ⟨rfl, ⟨rfl, ⟨(int_eq (by omega)), ⟨rfl, ⟨rfl, trivial⟩⟩⟩⟩⟩⟩⟩⟩⟩⟩ trivial ⟨rfl, trivial⟩ rfl
          · skip
            replace h11 : (c u y) < 0 := of_decide_eq_true (bnot_f h11)
            refine tr_region rfl (.run [] [] rfl (st_move rfl) (.run [] [] rfl (st_assign rfl) .nil)) ?_
            refine nxt (Q := fun _ _ => False) (z := (s, r)) (s, h) ?_ ?_ ?_
            · show s0 ≤ s ∧ s ≤ h ∧ h ≤ r0 ∧ BetS c l (mid + m - 1) s0 r0 s h
              exact ⟨by omega, by omega, by omega, ⟨hB.1, .inr ⟨u, y, hu, hy, h11⟩⟩⟩
            · show h - s < r - s
              omega
            · exact wk_mk ⟨rfl, ⟨rfl, ⟨rfl, ⟨rfl, ⟨rfl, ⟨rfl, ⟨rfl, ⟨rfl, ⟨rfl, ⟨rfl, trivial⟩⟩⟩⟩⟩⟩⟩⟩⟩⟩ trivial ⟨rfl, trivial⟩ rfl
        · skip
          replace h10 := of_decide_eq_false h10
          refine tr_exit ?_
          refine tr_seq ?_
          have hB2 : BetS c l (mid + m - 1) s0 r0 s s := by have q : r = s := (by omega); rw [q] at hB; exact hB
          have hT : Turned c l (rotL l s m (mid + m - s)) a s mid (mid + m - s) b := turned_of hc hS1 hS2 (distI_of hd) ga gb gc hmid ⟨by omega, by omega, by omega, by omega⟩ (by rw [← hs0, ← hr0]; exact hB2)
          have hdl : (rotL l s m (mid + m - s)).length = l.length := hT.res.len
          have hdd := dist_perm hT.res.perm hd
          have hR1 := srtS_res (c := c) (rotL l s m (mid + m - s)) (a := a) (b := mid) (by omega) (by omega)
          have hdl1 : (srtS c (rotL l s m (mid + m - s)) a mid).length = l.length := hR1.len.trans hdl
          have hdd1 := dist_perm hR1.perm hdd
          have hP3 : SrtI c (srtS c (rotL l s m (mid + m - s)) a mid) mid (mid + m - s) := srtI_same hT.p3 (fun q h1 h2 => hR1.out q (.inr h1))
          have hP4 : SrtI c (srtS c (rotL l s m (mid + m - s)) a mid) (mid + m - s) b := srtI_same hT.p4 (fun q h1 h2 => hR1.out q (.inr (by omega)))
          have hz1 := pvE_length (rotL l s m (mid + m - s))
          have hz2 := pvE_length (srtS c (rotL l s m (mid + m - s)) a mid)
          refine tr_region rfl (.run [] [] rfl (st_move rfl) (.run [] [] rfl (st_move rfl) (.run [] [] rfl (st_eq (st_subn rfl rfl rfl (by omega)) ((show AV.p none (.v (.int .i64 (((mid + m : Nat):Int) - ((s : Nat):Int)))) = AV.p none (.v (.int .i64 ((mid + m - s : Nat):Int))) from int_eq (by omega)))) (.run [] [] rfl (st_assign rfl) .nil)))) ?_
          refine tr_join (σ := Unit) (fun _ => mk [(0, .sl 100000 0 ((pvE l).length)), (1, .p none (.v (.int .i64 (a:Int)))), (3, .p none (.v (.int .i64 (b:Int)))), (4, .p none (.clo f pss)), (18, .p none (.v (.int .i64 (mid:Int)))), (20, .p none (.v (.int .i64 (s:Int)))), (24, .p none (.v (.int .i64 ((mid + m - s : Nat):Int))))] [] [(100000, 4, pvE (rotL l s m (mid + m - s)))]) (fun _ => True) ?_ ?_
          · skip
            refine tr_seq ?_
            rcases bfc (decide ((s:Int) < (m:Int))) with h12 | h12
            · have h12' := h12
              replace h12' := of_decide_eq_false h12'
              refine tr_region rfl (.run [] [] rfl (st_move rfl) (.run [] [] rfl (st_move rfl) (.run [] [] rfl (st_eq (st_lss rfl rfl rfl) (bool_eq h12)) (.run [] [] rfl (st_move rfl) (.not rfl (.not rfl (.not rfl (.run [] [] rfl (st_pick (t := false) rfl rfl) .nil)))))))) ?_
              refine tr_if (t := false) rfl (fun h => nomatch h) (fun _ => ?_)
              refine tr_skip ?_
              refine ⟨(), ?_, ?_⟩
              · show True
                trivial
              · exact wk_mk ⟨rfl, ⟨rfl, ⟨rfl, ⟨rfl, ⟨rfl, ⟨rfl, ⟨rfl, trivial⟩⟩⟩⟩⟩⟩⟩ trivial ⟨(congrArg (fun x => some (4, x)) (by exact congrArg pvE (rot_left (l := l) (by omega) (by omega) (by omega) (by omega)).symm)), trivial⟩ rfl
            · have h12' := h12
              replace h12' := of_decide_eq_true h12'
              refine tr_region rfl (.run [] [] rfl (st_move rfl) (.run [] [] rfl (st_move rfl) (.run [] [] rfl (st_eq (st_lss rfl rfl rfl) (bool_eq h12)) (.run [] [] rfl (st_move rfl) (.run [] [] rfl (st_move rfl) (.run [] [] rfl (st_move rfl) (.run [] [] rfl (st_lss rfl rfl rfl) (.run [] [] rfl (st_pick (t := true) rfl rfl) .nil)))))))) ?_
              refine tr_if (t := decide ((m:Int) < ((mid + m - s : Nat):Int))) rfl (fun h13 => ?_) (fun h13 => ?_)
              · skip
                replace h13 := of_decide_eq_true h13
                refine tr_wk (s' := mk [(0, .sl 100000 0 ((pvE l).length)), (1, .p none (.v (.int .i64 (a:Int)))), (2, .p none (.v (.int .i64 (m:Int)))), (3, .p none (.v (.int .i64 (b:Int)))), (4, .p none (.clo f pss)), (18, .p none (.v (.int .i64 (mid:Int)))), (20, .p none (.v (.int .i64 (s:Int)))), (24, .p none (.v (.int .i64 ((mid + m - s : Nat):Int))))] [] [(100000, 4, pvE l)]) ?_ ?_
                · exact wk_mk ⟨rfl, ⟨rfl, ⟨rfl, ⟨rfl, ⟨rfl, ⟨rfl, ⟨rfl, ⟨rfl, trivial⟩⟩⟩⟩⟩⟩⟩⟩ trivial ⟨rfl, trivial⟩ rfl
                refine tr_region rfl (.run [] [] rfl (st_move rfl) (.run [] [] rfl (st_move rfl) (.run [] [] rfl (st_move rfl) (.run [] [] rfl (st_move rfl) (.run [] [] rfl (st_move rfl) (.run [100000] [] rfl (st_call rfl 19100 (X := [100000]) en186 rfl (.val nod) (.cons (.one (.own (len := (pvE l).length) (xs := pvE l) rfl rfl)) (.cons (.one (.bor .v)) (.cons (.one (.bor .v)) (.cons (.one (.bor .v)) (.cons (.one (.bor (.cl nod))) .nil))))) (by decide) (all_cons rfl all_nil) (.keep (xs := pvE l) rfl (FlatP.nf (pvE_flat _)) .nil) (rotateEntry_con l (by omega) s m (mid + m - s) (by omega) (by omega) (by omega) _ _) rfl rfl (nle rfl)) .nil)))))) ?_
                refine ⟨(), ?_, ?_⟩
                · show True
                  trivial
                · exact wk_mk ⟨rfl, ⟨rfl, ⟨rfl, ⟨rfl, ⟨rfl, ⟨rfl, ⟨rfl, trivial⟩⟩⟩⟩⟩⟩⟩ trivial ⟨rfl, trivial⟩ rfl
              · skip
                replace h13 := of_decide_eq_false h13
                refine tr_skip ?_
                refine ⟨(), ?_, ?_⟩
                · show True
                  trivial
                · exact wk_mk ⟨rfl, ⟨rfl, ⟨rfl, ⟨rfl, ⟨rfl, ⟨rfl, ⟨rfl, trivial⟩⟩⟩⟩⟩⟩⟩ trivial ⟨(congrArg (fun x => some (4, x)) (by exact congrArg pvE (rot_left (l := l) (by omega) (by omega) (by omega) (by omega)).symm)), trivial⟩ rfl
          · rintro _ hG
            replace hG : True := hG
            refine tr_join (σ := Unit) (fun _ => mk [(0, .sl 100000 0 ((pvE l).length)), (3, .p none (.v (.int .i64 (b:Int)))), (4, .p none (.clo f pss)), (18, .p none (.v (.int .i64 (mid:Int)))), (24, .p none (.v (.int .i64 ((mid + m - s : Nat):Int))))] [] [(100000, 4, pvE (srtS c (rotL l s m (mid + m - s)) a mid))]) (fun _ => True) ?_ ?_
            · skip
              refine tr_seq ?_
              rcases bfc (decide ((a:Int) < (s:Int))) with h14 | h14
              · have h14' := h14
                replace h14' := of_decide_eq_false h14'
                refine tr_region rfl (.run [] [] rfl (st_move rfl) (.run [] [] rfl (st_move rfl) (.run [] [] rfl (st_eq (st_lss rfl rfl rfl) (bool_eq h14)) (.run [] [] rfl (st_move rfl) (.not rfl (.not rfl (.not rfl (.run [] [] rfl (st_pick (t := false) rfl rfl) .nil)))))))) ?_
                refine tr_if (t := false) rfl (fun h => nomatch h) (fun _ => ?_)
                refine tr_skip ?_
                refine ⟨(), ?_, ?_⟩
                · show True
                  trivial
                · exact wk_mk ⟨rfl, ⟨rfl, ⟨rfl, ⟨rfl, ⟨rfl, trivial⟩⟩⟩⟩⟩ trivial ⟨(congrArg (fun x => some (4, x)) (by exact congrArg pvE (srtS_id hc (by omega) (turn_left hT.p1 hT.p2 (by omega)) hdd).symm)), trivial⟩ rfl
              · have h14' := h14
                replace h14' := of_decide_eq_true h14'
                refine tr_region rfl (.run [] [] rfl (st_move rfl) (.run [] [] rfl (st_move rfl) (.run [] [] rfl (st_eq (st_lss rfl rfl rfl) (bool_eq h14)) (.run [] [] rfl (st_move rfl) (.run [] [] rfl (st_move rfl) (.run [] [] rfl (st_move rfl) (.run [] [] rfl (st_lss rfl rfl rfl) (.run [] [] rfl (st_pick (t := true) rfl rfl) .nil)))))))) ?_
                refine tr_if (t := decide ((s:Int) < (mid:Int))) rfl (fun h15 => ?_) (fun h15 => ?_)
                · skip
                  replace h15 := of_decide_eq_true h15
                  refine tr_region rfl (.run [] [] rfl (st_move rfl) (.run [] [] rfl (st_move rfl) (.run [] [] rfl (st_move rfl) (.run [] [] rfl (st_move rfl) (.run [] [] rfl (st_move rfl) (.run [100000] [] rfl (st_call rfl 20500 (X := [100000]) en184 rfl (.val nod) (.cons (.one (.own (len := (pvE l).length) (xs := pvE (rotL l s m (mid + m - s))) rfl (by first | rfl | omega))) (.cons (.one (.bor .v)) (.cons (.one (.bor .v)) (.cons (.one (.bor .v)) (.cons (.one (.bor (.cl nod))) .nil))))) (by decide) (all_cons rfl all_nil) (.keep (xs := pvE (rotL l s m (mid + m - s))) rfl (FlatP.nf (pvE_flat _)) .nil) (ih (rotL l s m (mid + m - s)) a s mid (by omega) (by omega) (by omega) (by omega) (by omega) hdd hT.p1 hT.p2) rfl rfl (nle rfl)) .nil)))))) ?_
                  refine ⟨(), ?_, ?_⟩
                  · show True
                    trivial
                  · exact wk_mk ⟨rfl, ⟨rfl, ⟨rfl, ⟨rfl, ⟨rfl, trivial⟩⟩⟩⟩⟩ trivial ⟨rfl, trivial⟩ rfl
                · skip
                  replace h15 := of_decide_eq_false h15
                  refine tr_skip ?_
                  refine ⟨(), ?_, ?_⟩
                  · show True
                    trivial
                  · exact wk_mk ⟨rfl, ⟨rfl, ⟨rfl, ⟨rfl, ⟨rfl, trivial⟩⟩⟩⟩⟩ trivial ⟨(congrArg (fun x => some (4, x)) (by exact congrArg pvE (srtS_id hc (by omega) (turn_left hT.p1 hT.p2 (by omega)) hdd).symm)), trivial⟩ rfl
            · rintro _ hG
              replace hG : True := hG
              refine tr_seq ?_
              rcases bfc (decide ((mid:Int) < ((mid + m - s : Nat):Int))) with h16 | h16
              · have h16' := h16
                replace h16' := of_decide_eq_false h16'
                refine tr_region rfl (.run [] [] rfl (st_move rfl) (.run [] [] rfl (st_move rfl) (.run [] [] rfl (st_eq (st_lss rfl rfl rfl) (bool_eq h16)) (.run [] [] rfl (st_move rfl) (.not rfl (.not rfl (.not rfl (.run [] [] rfl (st_pick (t := false) rfl rfl) .nil)))))))) ?_
                refine tr_if (t := false) rfl (fun h => nomatch h) (fun _ => ?_)
                refine tr_skip ?_
                exact ends' [] [] .nil .nil (by decide) (outs1 (congrArg (fun x => some (4, x)) (congrArg pvE ((srtS_id hc (by omega) (turn_right hP3 hP4 (by omega)) hdd1).symm.trans (merged_of hc hd hT (by omega) (by omega) gc)))) (pvE_flat _) (by decide))
              · have h16' := h16
                replace h16' := of_decide_eq_true h16'
                refine tr_region rfl (.run [] [] rfl (st_move rfl) (.run [] [] rfl (st_move rfl) (.run [] [] rfl (st_eq (st_lss rfl rfl rfl) (bool_eq h16)) (.run [] [] rfl (st_move rfl) (.run [] [] rfl (st_move rfl) (.run [] [] rfl (st_move rfl) (.run [] [] rfl (st_lss rfl rfl rfl) (.run [] [] rfl (st_pick (t := true) rfl rfl) .nil)))))))) ?_
                refine tr_if (t := decide (((mid + m - s : Nat):Int) < (b:Int))) rfl (fun h17 => ?_) (fun h17 => ?_)
                · skip
                  replace h17 := of_decide_eq_true h17
                  refine tr_region rfl (.run [] [] rfl (st_move rfl) (.run [] [] rfl (st_move rfl) (.run [] [] rfl (st_move rfl) (.run [] [] rfl (st_move rfl) (.run [] [] rfl (st_move rfl) (.run [100000] [] rfl (st_call rfl 21900 (X := [100000]) en184 rfl (.val nod) (.cons (.one (.own (len := (pvE l).length) (xs := pvE (srtS c (rotL l s m (mid + m - s)) a mid)) rfl (by first | rfl | omega))) (.cons (.one (.bor .v)) (.cons (.one (.bor .v)) (.cons (.one (.bor .v)) (.cons (.one (.bor (.cl nod))) .nil))))) (by decide) (all_cons rfl all_nil) (.keep (xs := pvE (srtS c (rotL l s m (mid + m - s)) a mid)) rfl (FlatP.nf (pvE_flat _)) .nil) (ih (srtS c (rotL l s m (mid + m - s)) a mid) mid (mid + m - s) b (by omega) (by omega) (by omega) (by omega) (by omega) hdd1 hP3 hP4) rfl rfl (nle rfl)) .nil)))))) ?_
                  exact ends' [] [] .nil .nil (by decide) (outs1 (congrArg (fun x => some (4, x)) (congrArg pvE (merged_of hc hd hT (by omega) (by omega) gc))) (pvE_flat _) (by decide))
                · skip
                  replace h17 := of_decide_eq_false h17
                  refine tr_skip ?_
                  exact ends' [] [] .nil .nil (by decide) (outs1 (congrArg (fun x => some (4, x)) (congrArg pvE ((srtS_id hc (by omega) (turn_right hP3 hP4 (by omega)) hdd1).symm.trans (merged_of hc hd hT (by omega) (by omega) gc)))) (pvE_flat _) (by decide))
theorem symMergeEntry_con (c : Ent → Ent → Int) (hc : CmpOk c) (f : Nat) (pss : List (List PV)) (hE : ∀ vs w, (callFunc f vs).run Try.prog w = .ok (.enter f vs) w) (hp : ∀ x y : Ent, Con Try.prog f ([.agg x.pv, .agg y.pv] ++ pss.map .fbox) [] [.one (.v (.int .i64 (c x y)))]) : ∀ (n : Nat) (l : List Ent) (a m b : Nat), b - a < n → l.length ≤ 2000000 → a < m → m < b → b ≤ l.length → Dist c l → SrtI c l a m → SrtI c l m b → Con Try.prog 184 [.one (.sl true 4 (pvE l)), .one (PV.v (.int .i64 (a:Int))), .one (PV.v (.int .i64 (m:Int))), .one (PV.v (.int .i64 (b:Int))), .one (PV.clo f pss)] [some (pvE (srtS c l a b))] []
  | 0, _, _, _, _, h, _, _, _, _, _, _, _ => absurd h (Nat.not_lt_zero _)
  | n + 1, l, a, m, b, h, hl, ga, gb, gc, hd, h1, h2 => symMergeEntry_step l hl a m b ga gb gc c hc f pss hE hp hd h1 h2 (fun l' a' m' b' hlt => symMergeEntry_con c hc f pss hE hp n l' a' m' b' (by omega))
set_option maxRecDepth 1000000 in
set_option maxHeartbeats 2000000 in
theorem stableEntry_con (l : List Ent) (hl : l.length ≤ 2000000) (c : Ent → Ent → Int) (hc : CmpOk c) (f : Nat) (pss : List (List PV)) (hE : ∀ vs w, (callFunc f vs).run Try.prog w = .ok (.enter f vs) w) (hp : ∀ x y : Ent, Con Try.prog f ([.agg x.pv, .agg y.pv] ++ pss.map .fbox) [] [.one (.v (.int .i64 (c x y)))]) (hd : Dist c l) : Con Try.prog 178 [.one (.sl true 4 (pvE l)), .one (PV.v (.int .i64 (l.length:Int))), .one (PV.clo f pss)] [some (pvE (isort c l))] [] := by
  refine con_of_tr Try.func178 rfl rfl rfl rfl ?_
  have hle := pvE_length l
  refine tr_seq ?_
  refine tr_region rfl (.run [] [] rfl (st_assign rfl) .nil) ?_
  refine tr_seq ?_
  refine tr_region rfl (.run [] [] rfl (st_move rfl) (.run [] [] rfl (st_assign rfl) (.run [] [] rfl (st_assign rfl) .nil))) ?_
  refine tr_seq ?_
  refine tr_block ?_
  refine tr_loopS (σ := Nat × List Ent) (fun (a, d) => mk [(0, .sl 100000 0 ((pvE l).length)), (1, .p none (.v (.int .i64 (l.length:Int)))), (2, .p none (.clo f pss)), (6, .p none (.v (.int .i64 20))), (7, .p none (.v (.int .i64 (a:Int)))), (8, .p none (.v (.int .i64 ((a + 20 : Nat):Int))))] [] [(100000, 4, pvE d)]) (fun (a, d) => a ≤ l.length ∧ Al 20 a ∧ Res l d 0 l.length ∧ BlkTo c d 20 a) (fun (a, d) => l.length - a) (0, l) ⟨Nat.zero_le _, al_zero 20, Res.refl _ _ _, blkTo_zero l (by decide)⟩ (wk_mk ⟨rfl, ⟨rfl, ⟨rfl, ⟨rfl, ⟨(int_eq (by rfl)), ⟨(int_eq (by rfl)), trivial⟩⟩⟩⟩⟩⟩ trivial ⟨(congrArg (fun x => some (4, x)) (by rfl)), trivial⟩ rfl) ?_
  rintro ⟨a, d⟩ hG
  replace hG : a ≤ l.length ∧ Al 20 a ∧ Res l d 0 l.length ∧ BlkTo c d 20 a := hG
  obtain ⟨han, hA, hR, hT⟩ := hG
  have hml := hR.len
  have hdd := dist_perm hR.perm hd
  have hle2 := pvE_length d
  refine tr_seq ?_
  refine tr_seq ?_
  refine tr_region rfl (.run [] [] rfl (st_move rfl) (.run [] [] rfl (st_move rfl) (.run [] [] rfl (st_leq rfl rfl rfl) .nil))) ?_
  refine tr_if (t := decide (((a + 20 : Nat):Int) ≤ (l.length:Int))) rfl (fun h1 => ?_) (fun h1 => ?_)
  · skip
    replace h1 := of_decide_eq_true h1
    refine tr_skip ?_
    refine tr_block ?_
    refine tr_seq ?_
    refine tr_region rfl (.run [] [] rfl (st_move rfl) (.run [] [] rfl (st_move rfl) (.run [] [] rfl (st_move rfl) (.run [] [] rfl (st_move rfl) (.run [100000] [] rfl (st_call rfl 1800 (X := [100000]) en183 rfl (.val nod) (.cons (.one (.own (len := (pvE l).length) (xs := pvE d) rfl (by first | rfl | omega))) (.cons (.one (.bor .v)) (.cons (.one (.bor .v)) (.cons (.one (.bor (.cl nod))) .nil)))) (by decide) (all_cons rfl all_nil) (.keep (xs := pvE d) rfl (FlatP.nf (pvE_flat _)) .nil) (insSortEntry_con d (by omega) a (a + 20) (by omega) (by omega) c hc f pss hE hp (dist_perm hR.perm hd)) rfl rfl (nle rfl)) .nil))))) ?_
    refine tr_seq ?_
    refine tr_region rfl (.run [] [] rfl (st_move rfl) (.run [] [] rfl (st_assign rfl) .nil)) ?_
    refine tr_region rfl (.run [] [] rfl (st_move rfl) (.run [] [] rfl (st_move rfl) (.run [] [] rfl (st_addn rfl rfl rfl (by omega)) (.run [] [] rfl (st_assign rfl) .nil)))) ?_
    refine nxt (Q := fun _ _ => False) (z := (a, d)) (a + 20, srtS c d a (a + 20)) ?_ ?_ ?_
    · show (a + 20) ≤ l.length ∧ Al 20 (a + 20) ∧ Res l (srtS c d a (a + 20)) 0 l.length ∧ BlkTo c (srtS c d a (a + 20)) 20 (a + 20)
      exact ⟨by omega, al_next hA, hR.trans ((srtS_res d (by omega) (by omega)).wide (Nat.zero_le _) (by omega)), blkTo_step hA hT (fun q hq => (srtS_res d (by omega) (by omega)).out q (.inl hq)) (srtS_srt hc (by omega) (by omega) hdd)⟩
    · show l.length - (a + 20) < l.length - a
      omega
    · exact wk_mk ⟨rfl, ⟨rfl, ⟨rfl, ⟨rfl, ⟨(int_eq (by rfl)), ⟨(int_eq (by omega)), trivial⟩⟩⟩⟩⟩⟩ trivial ⟨(congrArg (fun x => some (4, x)) (by rfl)), trivial⟩ rfl
  · skip
    replace h1 := of_decide_eq_false h1
    refine tr_exit ?_
    refine tr_seq ?_
    refine tr_region rfl (.run [] [] rfl (st_move rfl) (.run [] [] rfl (st_move rfl) (.run [] [] rfl (st_move rfl) (.run [] [] rfl (st_move rfl) (.run [100000] [] rfl (st_call rfl 2700 (X := [100000]) en183 rfl (.val nod) (.cons (.one (.own (len := (pvE l).length) (xs := pvE d) rfl (by first | rfl | omega))) (.cons (.one (.bor .v)) (.cons (.one (.bor .v)) (.cons (.one (.bor (.cl nod))) .nil)))) (by decide) (all_cons rfl all_nil) (.keep (xs := pvE d) rfl (FlatP.nf (pvE_flat _)) .nil) (insSortEntry_con d (by omega) a l.length (by omega) (by omega) c hc f pss hE hp (dist_perm hR.perm hd)) rfl rfl (nle rfl)) .nil))))) ?_
    refine tr_block ?_
    refine tr_loopS (σ := Nat × List Ent) (fun (z, d2) => mk [(0, .sl 100000 0 ((pvE l).length)), (1, .p none (.v (.int .i64 (l.length:Int)))), (2, .p none (.clo f pss)), (6, .p none (.v (.int .i64 (z:Int))))] [] [(100000, 4, pvE d2)]) (fun (z, d2) => 20 ≤ z ∧ z ≤ 4000000 ∧ Res l d2 0 l.length ∧ BlkFrom c d2 z 0) (fun (z, d2) => l.length - z) (20, srtS c d a l.length) ⟨Nat.le_refl _, by decide, hR.trans ((srtS_res d (by omega) (by omega)).wide (Nat.zero_le _) (Nat.le_refl _)), blkTo_all (by decide) hA (by rw [(srtS_res d (by omega) (by omega)).len]; omega) hT (fun q hq => (srtS_res d (by omega) (by omega)).out q (.inl hq)) (srtI_long (srtS_srt hc (by omega) (by omega) hdd) (by rw [(srtS_res d (by omega) (by omega)).len]; omega))⟩ (wk_mk ⟨rfl, ⟨rfl, ⟨rfl, ⟨(int_eq (by rfl)), trivial⟩⟩⟩⟩ trivial ⟨(congrArg (fun x => some (4, x)) (by rfl)), trivial⟩ rfl) ?_
    rintro ⟨z, d2⟩ hG
    replace hG : 20 ≤ z ∧ z ≤ 4000000 ∧ Res l d2 0 l.length ∧ BlkFrom c d2 z 0 := hG
    obtain ⟨hz20, hzm, hR, hF0⟩ := hG
    have hml := hR.len
    have hdd := dist_perm hR.perm hd
    have hle3 := pvE_length d2
    refine tr_seq ?_
    refine tr_seq ?_
    refine tr_region rfl (.run [] [] rfl (st_move rfl) (.run [] [] rfl (st_move rfl) (.run [] [] rfl (st_lss rfl rfl rfl) .nil))) ?_
    refine tr_if (t := decide ((z:Int) < (l.length:Int))) rfl (fun h2 => ?_) (fun h2 => ?_)
    · skip
      replace h2 := of_decide_eq_true h2
      refine tr_skip ?_
      refine tr_block ?_
      refine tr_seq ?_
      refine tr_region rfl (.run [] [] rfl (st_move rfl) (.run [] [] rfl (st_muln rfl rfl rfl (by omega)) (.run [] [] rfl (st_assign rfl) (.run [] [] rfl (st_assign rfl) .nil)))) ?_
      refine tr_seq ?_
      refine tr_block ?_
      refine tr_loopS (σ := Nat × List Ent) (fun (p, d3) => mk [(0, .sl 100000 0 ((pvE l).length)), (1, .p none (.v (.int .i64 (l.length:Int)))), (2, .p none (.clo f pss)), (6, .p none (.v (.int .i64 (z:Int)))), (7, .p none (.v (.int .i64 (p:Int)))), (8, .p none (.v (.int .i64 ((p + 2 * z : Nat):Int))))] [] [(100000, 4, pvE d3)]) (fun (p, d3) => p ≤ l.length ∧ Al (2 * z) p ∧ Res l d3 0 l.length ∧ BlkTo c d3 (2 * z) p ∧ BlkFrom c d3 z p) (fun (p, d3) => l.length - p) (0, d2) ⟨Nat.zero_le _, al_zero _, hR, blkTo_zero d2 (by omega), hF0⟩ (wk_mk ⟨rfl, ⟨rfl, ⟨rfl, ⟨rfl, ⟨(int_eq (by rfl)), ⟨(int_eq (by omega)), trivial⟩⟩⟩⟩⟩⟩ trivial ⟨(congrArg (fun x => some (4, x)) (by rfl)), trivial⟩ rfl) ?_
      rintro ⟨p, d3⟩ hG
      replace hG : p ≤ l.length ∧ Al (2 * z) p ∧ Res l d3 0 l.length ∧ BlkTo c d3 (2 * z) p ∧ BlkFrom c d3 z p := hG
      obtain ⟨hpn, hA, hR, hT, hF⟩ := hG
      have hml := hR.len
      have hdd := dist_perm hR.perm hd
      have hle4 := pvE_length d3
      have hps := @pass_step _ c hc l d3 z p (by omega) hA hR hd hT hF
      refine tr_seq ?_
      refine tr_seq ?_
      refine tr_region rfl (.run [] [] rfl (st_move rfl) (.run [] [] rfl (st_move rfl) (.run [] [] rfl (st_leq rfl rfl rfl) .nil))) ?_
      refine tr_if (t := decide (((p + 2 * z : Nat):Int) ≤ (l.length:Int))) rfl (fun h3 => ?_) (fun h3 => ?_)
      · skip
        replace h3 := of_decide_eq_true h3
        refine tr_skip ?_
        refine tr_block ?_
        refine tr_seq ?_
        have hH1 := (pass_halves hA hF).1
        have hH2 : SrtI c d3 (p + z) (p + 2 * z) := by have q := (pass_halves hA hF).2; rwa [show p + z + z = p + 2 * z by omega] at q
        refine tr_region rfl (.run [] [] rfl (st_move rfl) (.run [] [] rfl (st_move rfl) (.run [] [] rfl (st_move rfl) (.run [] [] rfl (st_move rfl) (.run [] [] rfl (st_eq (st_addn rfl rfl rfl (by omega)) ((show AV.p none (.v (.int .i64 (((p : Nat):Int) + ((z : Nat):Int)))) = AV.p none (.v (.int .i64 ((p + z : Nat):Int))) from int_eq (by omega)))) (.run [] [] rfl (st_move rfl) (.run [] [] rfl (st_move rfl) (.run [100000] [] rfl (st_call rfl 4300 (X := [100000]) en184 rfl (.val nod) (.cons (.one (.own (len := (pvE l).length) (xs := pvE d3) rfl (by first | rfl | omega))) (.cons (.one (.bor .v)) (.cons (.one (.bor .v)) (.cons (.one (.bor .v)) (.cons (.one (.bor (.cl nod))) .nil))))) (by decide) (all_cons rfl all_nil) (.keep (xs := pvE d3) rfl (FlatP.nf (pvE_flat _)) .nil) (symMergeEntry_con c hc f pss hE hp ((p + 2 * z) - p + 1) d3 p (p + z) (p + 2 * z) (by omega) (by omega) (by omega) (by omega) (by omega) (dist_perm hR.perm hd) hH1 hH2) rfl rfl (nle rfl)) .nil)))))))) ?_
        refine tr_seq ?_
        refine tr_region rfl (.run [] [] rfl (st_move rfl) (.run [] [] rfl (st_assign rfl) .nil)) ?_
        refine tr_wk (s' := mk [(0, .sl 100000 0 ((pvE l).length)), (1, .p none (.v (.int .i64 (l.length:Int)))), (2, .p none (.clo f pss)), (6, .p none (.v (.int .i64 (z:Int)))), (7, .p none (.v (.int .i64 ((p + 2 * z : Nat):Int)))), (8, .p none (.v (.int .i64 ((p + 2 * z : Nat):Int))))] [] [(100000, 4, pvE (srtS c d3 p (p + 2 * z)))]) ?_ ?_
        · exact wk_mk ⟨rfl, ⟨rfl, ⟨rfl, ⟨rfl, ⟨rfl, ⟨rfl, trivial⟩⟩⟩⟩⟩⟩ trivial ⟨rfl, trivial⟩ rfl
        refine tr_region rfl (.run [] [] rfl (st_move rfl) (.run [] [] rfl (st_move rfl) (.run [] [] rfl (st_muln rfl rfl rfl (by omega)) (.run [] [] rfl (st_addn rfl rfl rfl (by omega)) (.run [] [] rfl (st_assign rfl) .nil))))) ?_
        refine nxt (Q := fun _ _ => False) (z := (p, d3)) (p + 2 * z, srtS c d3 p (p + 2 * z)) ?_ ?_ ?_
        · show (p + 2 * z) ≤ l.length ∧ Al (2 * z) (p + 2 * z) ∧ Res l (srtS c d3 p (p + 2 * z)) 0 l.length ∧ BlkTo c (srtS c d3 p (p + 2 * z)) (2 * z) (p + 2 * z) ∧ BlkFrom c (srtS c d3 p (p + 2 * z)) z (p + 2 * z)
          exact ⟨by omega, al_next hA, hps (by omega)⟩
        · show l.length - (p + 2 * z) < l.length - p
          omega
        · exact wk_mk ⟨rfl, ⟨rfl, ⟨rfl, ⟨rfl, ⟨(int_eq (by rfl)), ⟨(int_eq (by omega)), trivial⟩⟩⟩⟩⟩⟩ trivial ⟨(congrArg (fun x => some (4, x)) (by rfl)), trivial⟩ rfl
      · skip
        replace h3 := of_decide_eq_false h3
        refine tr_exit ?_
        refine tr_join (σ := List Ent) (fun d4 => mk [(0, .sl 100000 0 ((pvE l).length)), (1, .p none (.v (.int .i64 (l.length:Int)))), (2, .p none (.clo f pss)), (6, .p none (.v (.int .i64 (z:Int))))] [] [(100000, 4, pvE d4)]) (fun d4 => Res l d4 0 l.length ∧ BlkFrom c d4 (2 * z) 0) ?_ ?_
        · skip
          refine tr_seq ?_
          refine tr_region rfl (.run [] [] rfl (st_move rfl) (.run [] [] rfl (st_move rfl) (.run [] [] rfl (st_eq (st_addn rfl rfl rfl (by omega)) ((show AV.p none (.v (.int .i64 (((p : Nat):Int) + ((z : Nat):Int)))) = AV.p none (.v (.int .i64 ((p + z : Nat):Int))) from int_eq (by omega)))) (.run [] [] rfl (st_assign rfl) .nil)))) ?_
          refine tr_seq ?_
          refine tr_region rfl (.run [] [] rfl (st_move rfl) (.run [] [] rfl (st_move rfl) (.run [] [] rfl (st_lss rfl rfl rfl) .nil))) ?_
          refine tr_if (t := decide (((p + z : Nat):Int) < (l.length:Int))) rfl (fun h4 => ?_) (fun h4 => ?_)
          · skip
            replace h4 := of_decide_eq_true h4
            have hH1 := (pass_halves hA hF).1
            have hH2 : SrtI c d3 (p + z) l.length := srtI_less (pass_halves hA hF).2 (Nat.le_refl _) (by omega)
            refine tr_region rfl (.run [] [] rfl (st_move rfl) (.run [] [] rfl (st_move rfl) (.run [] [] rfl (st_move rfl) (.run [] [] rfl (st_move rfl) (.run [] [] rfl (st_move rfl) (.run [100000] [] rfl (st_call rfl 6000 (X := [100000]) en184 rfl (.val nod) (.cons (.one (.own (len := (pvE l).length) (xs := pvE d3) rfl (by first | rfl | omega))) (.cons (.one (.bor .v)) (.cons (.one (.bor .v)) (.cons (.one (.bor .v)) (.cons (.one (.bor (.cl nod))) .nil))))) (by decide) (all_cons rfl all_nil) (.keep (xs := pvE d3) rfl (FlatP.nf (pvE_flat _)) .nil) (symMergeEntry_con c hc f pss hE hp (l.length - p + 1) d3 p (p + z) l.length (by omega) (by omega) (by omega) (by omega) (by omega) (dist_perm hR.perm hd) hH1 hH2) rfl rfl (nle rfl)) .nil)))))) ?_
            refine ⟨srtS c d3 p l.length, ?_, ?_⟩
            · show Res l (srtS c d3 p l.length) 0 l.length ∧ BlkFrom c (srtS c d3 p l.length) (2 * z) 0
              exact pass_end hc (by omega) hA hR hd hT (by omega) (by omega)
            · exact wk_mk ⟨rfl, ⟨rfl, ⟨rfl, ⟨rfl, trivial⟩⟩⟩⟩ trivial ⟨(congrArg (fun x => some (4, x)) (by rfl)), trivial⟩ rfl
          · skip
            replace h4 := of_decide_eq_false h4
            refine tr_skip ?_
            refine ⟨d3, ?_, ?_⟩
            · show Res l d3 0 l.length ∧ BlkFrom c d3 (2 * z) 0
              exact ⟨hR, pass_none (by omega) hA hR hT hF (by omega) (by omega)⟩
            · exact wk_mk ⟨rfl, ⟨rfl, ⟨rfl, ⟨rfl, trivial⟩⟩⟩⟩ trivial ⟨(congrArg (fun x => some (4, x)) (by rfl)), trivial⟩ rfl
        · rintro d4 hG
          replace hG : Res l d4 0 l.length ∧ BlkFrom c d4 (2 * z) 0 := hG
          obtain ⟨hR4, hF4⟩ := hG
          have hml4 := hR4.len
          have hle5 := pvE_length d4
          refine tr_region rfl (.run [] [] rfl (st_move rfl) (.run [] [] rfl (st_muln rfl rfl rfl (by omega)) (.run [] [] rfl (st_assign rfl) .nil))) ?_
          refine nxt (Q := fun _ _ => False) (z := (z, d2)) (2 * z, d4) ?_ ?_ ?_
          · show 20 ≤ (2 * z) ∧ (2 * z) ≤ 4000000 ∧ Res l d4 0 l.length ∧ BlkFrom c d4 (2 * z) 0
            exact ⟨by omega, by omega, hR4, hF4⟩
          · show l.length - (2 * z) < l.length - z
            omega
          · exact wk_mk ⟨rfl, ⟨rfl, ⟨rfl, ⟨(int_eq (by omega)), trivial⟩⟩⟩⟩ trivial ⟨(congrArg (fun x => some (4, x)) (by rfl)), trivial⟩ rfl
    · skip
      replace h2 := of_decide_eq_false h2
      refine tr_exit ?_
      exact ends' [] [] .nil .nil (by decide) (outs1 (congrArg (fun x => some (4, x)) (congrArg pvE (blk_all hc hF0 (by omega) hR.perm hd))) (pvE_flat _) (by decide))
set_option maxRecDepth 1000000 in
set_option maxHeartbeats 2000000 in
theorem sortStableEntry_con (l : List Ent) (hl : l.length ≤ 2000000) (c : Ent → Ent → Int) (hc : CmpOk c) (f : Nat) (pss : List (List PV)) (hE : ∀ vs w, (callFunc f vs).run Try.prog w = .ok (.enter f vs) w) (hp : ∀ x y : Ent, Con Try.prog f ([.agg x.pv, .agg y.pv] ++ pss.map .fbox) [] [.one (.v (.int .i64 (c x y)))]) (hd : Dist c l) : Con Try.prog 158 [.one (.sl true 4 (pvE l)), .one (PV.clo f pss)] [some (pvE (isort c l))] [] := by
  refine con_of_tr Try.func158 rfl rfl rfl rfl ?_
  have hle := pvE_length l
  refine tr_region rfl (.run [] [] rfl (st_move rfl) (.run [] [] rfl (st_move rfl) (.run [] [] rfl (st_eq (st_len_row rfl rfl Try.underlying26) ((show (AV.p none (.v (.int .i64 ((pvE l).length : Int)))) = AV.p none (.v (.int .i64 (l.length : Int))) from int_eq (by omega)))) (.run [] [] rfl (st_move rfl) (.run [100000] [] rfl (st_call rfl 800 (X := [100000]) en178 rfl (.val nod) (.cons (.one (.own (len := (pvE l).length) (xs := pvE l) rfl rfl)) (.cons (.one (.bor .v)) (.cons (.one (.bor (.cl nod))) .nil))) (by decide) (all_cons rfl all_nil) (.keep (xs := pvE l) rfl (FlatP.nf (pvE_flat _)) .nil) (stableEntry_con l (by omega) c hc f pss hE hp hd) rfl rfl (nle rfl)) .nil))))) ?_
  exact ends' [] [] .nil .nil (by decide) (outs1 (congrArg (fun x => some (4, x)) (congrArg pvE rfl)) (pvE_flat _) (by decide))
end Go.Rl
namespace Go.Rl
theorem cmpK_ok : CmpOk cmpK where
  tr := fun x y z h1 h2 => by rw [cmpK_lt ((lessE_of h1).trans (lessE_of h2))]; decide
  asy := fun x y h1 h2 => ((lessE_of h1).trans (lessE_of h2)).irrefl
/-- Entries of different numbers are not alike. -/
theorem cmpK_seq {x y : Ent} (h : x.seq ≠ y.seq) : cmpK x y < 0 ∨ cmpK y x < 0 := by
  by_cases h1 : LessE x y
  · exact .inl (by rw [cmpK_lt h1]; decide)
  · refine .inr ?_
    by_cases h2 : LessE y x
    · rw [cmpK_lt h2]; decide
    · exfalso
      unfold LessE at h1 h2
      cases ha : ltB x.user y.user with
      | true => exact h1 (.inl ha)
      | false =>
        cases hb : ltB y.user x.user with
        | true => exact h2 (.inl hb)
        | false =>
          have he := ltB_tot ha hb
          by_cases h3 : y.seq < x.seq
          · exact h1 (.inr ⟨he, .inl h3⟩)
          · exact h2 (.inr ⟨he.symm, .inl (by omega)⟩)
theorem dist_seqs {l : List Ent} (h : l.Pairwise (fun x y => x.seq ≠ y.seq)) : Dist cmpK l := h.imp cmpK_seq
theorem isort_len {α : Type} {c : α → α → Int} (l : List α) : (isort c l).length = l.length := (isort_perm l).length_eq
/-- No neighbours are alike. -/
theorem srt_next {l : List Ent} (h : Srt cmpK l) {i : Nat} {x y : Ent} (hx : l[i]? = some x) (hy : l[i + 1]? = some y) : sameKey y x = false := by
  have := List.pairwise_iff_getElem.1 h i (i + 1) (List.getElem?_eq_some_iff.1 hx).1 (List.getElem?_eq_some_iff.1 hy).1 (by omega)
  rw [(List.getElem?_eq_some_iff.1 hx).2, (List.getElem?_eq_some_iff.1 hy).2] at this
  cases e : sameKey y x with
  | false => rfl
  | true =>
    simp only [sameKey, decide_eq_true_eq] at e
    rw [cmpK_eq e.1.symm e.2.1.symm e.2.2.symm] at this
    exact absurd this (by decide)
/-! #### the specification's put -/
def putS (e : Ent) (r : List Ent × Bool) (x : Ent) : List Ent × Bool :=
  let c := kcmp x e
  let r1 := if (!r.2 && decide (0 ≤ c)) = true then (r.1 ++ [e], true) else r
  if c ≠ 0 then (r1.1 ++ [x], r1.2) else r1
def putN (l : List Ent) (e : Ent) (i : Nat) : List Ent × Bool := (l.take i).foldl (putS e) ([], false)
def putF (l : List Ent) (e : Ent) : List Ent := if (putN l e l.length).2 = true then (putN l e l.length).1 else (putN l e l.length).1 ++ [e]
theorem putN_step {l : List Ent} {e x : Ent} {i : Nat} (hx : l[i]? = some x) : putN l e (i + 1) = putS e (putN l e i) x := by
  unfold putN
  rw [List.take_add_one, hx]
  simp [List.foldl_append]
theorem putS_len (e : Ent) (r : List Ent × Bool) (x : Ent) : (putS e r x).1.length + (if (putS e r x).2 = true then 0 else 1) ≤ r.1.length + (if r.2 = true then 0 else 1) + 1 := by
  obtain ⟨l, d⟩ := r
  unfold putS
  cases d <;> by_cases h : 0 ≤ kcmp x e <;> by_cases h2 : kcmp x e = 0 <;> simp [h, h2]
theorem putN_len (l : List Ent) (e : Ent) : ∀ i, (putN l e i).1.length + (if (putN l e i).2 = true then 0 else 1) ≤ i + 1
  | 0 => by simp [putN]
  | i + 1 => by
    have ih := putN_len l e i
    cases hx : l[i]? with
    | none =>
      have : putN l e (i + 1) = putN l e i := by unfold putN; rw [List.take_add_one, hx]; simp
      rw [this]; omega
    | some x => rw [putN_step hx]; have := putS_len e (putN l e i) x; omega
theorem putF_len (l : List Ent) (e : Ent) : (putF l e).length ≤ l.length + 1 := by
  have := putN_len l e l.length
  unfold putF
  split
  · rename_i h; rw [if_pos h] at this; omega
  · rename_i h; rw [if_neg h] at this; simp; omega
theorem insC_mid {α : Type} {c : α → α → Int} {e x : α} : ∀ {p : List α}, (∀ y ∈ p, ¬ c e y < 0) → c e x < 0 → insC c e (p ++ [x]) = p ++ [e, x]
  | [], _, h => by simp [insC, h]
  | y :: p, hp, h => by
    rw [List.cons_append, insC, if_neg (hp y (by simp)), insC_mid (fun z hz => hp z (by simp [hz])) h]
    rfl
theorem insC_end {α : Type} {c : α → α → Int} {e : α} : ∀ {p : List α}, (∀ y ∈ p, ¬ c e y < 0) → insC c e p = p ++ [e]
  | [], _ => rfl
  | y :: p, hp => by rw [insC, if_neg (hp y (by simp)), insC_end (fun z hz => hp z (by simp [hz]))]; rfl
theorem insC_past {α : Type} {c : α → α → Int} {e x : α} : ∀ {p : List α}, (∃ y ∈ p, c e y < 0) → insC c e (p ++ [x]) = insC c e p ++ [x]
  | [], h => by obtain ⟨y, hy, _⟩ := h; simp at hy
  | y :: p, h => by
    rw [List.cons_append, insC, insC]
    split
    · rfl
    · rename_i hn
      rw [insC_past (by
        obtain ⟨z, hz, hc⟩ := h
        rcases List.mem_cons.1 hz with rfl | hz
        · exact absurd hc hn
        · exact ⟨z, hz, hc⟩)]
      rfl
/-- Where nothing is alike, put is the place in order. -/
theorem putF_ins {l : List Ent} {e : Ent} (he : keyOk e.user e.seq e.kind = true) (hk : ∀ x ∈ l, keyOk x.user x.seq x.kind = true) (hd : ∀ x ∈ l, cmpK x e < 0 ∨ cmpK e x < 0) : putF l e = insC cmpK e l := by
  have key : ∀ i, i ≤ l.length → (((putN l e i).2 = false ∧ (putN l e i).1 = l.take i ∧ ∀ y ∈ l.take i, ¬ cmpK e y < 0) ∨ ((putN l e i).2 = true ∧ (putN l e i).1 = insC cmpK e (l.take i) ∧ ∃ y ∈ l.take i, cmpK e y < 0)) := by
    intro i
    induction i with
    | zero => intro _; exact .inl ⟨rfl, rfl, by simp⟩
    | succ i ih =>
      intro hi
      obtain ⟨x, hx⟩ : ∃ x, l[i]? = some x := ⟨_, List.getElem?_eq_getElem (by omega)⟩
      have hm := List.mem_of_getElem? hx
      have ht : l.take (i + 1) = l.take i ++ [x] := by rw [List.take_add_one, hx]; rfl
      have hc : kcmp x e = cmpK x e := kcmp_ok (hk x hm) he
      rw [putN_step hx, ht]
      have hne : cmpK x e ≠ 0 := by
        rcases hd x hm with h | h
        · omega
        · intro h0
          have hl := lessE_of h
          by_cases h1 : LessE x e
          · exact (h1.trans hl).irrefl
          · have hn : ¬ (x.user = e.user ∧ x.seq = e.seq ∧ x.kind = e.kind) := fun ⟨a, b, c⟩ => by rw [cmpK_eq a.symm b.symm c.symm] at h; exact absurd h (by decide)
            rw [cmpK_gt h1 hn] at h0; cases h0
      rcases ih (by omega) with ⟨h1, h2, h3⟩ | ⟨h1, h2, h3⟩
      · by_cases hlt : cmpK x e < 0
        · refine .inl ?_
          have hna : ¬ 0 ≤ cmpK x e := by omega
          have hs : putS e (putN l e i) x = ((putN l e i).1 ++ [x], (putN l e i).2) := by unfold putS; simp [hc, hne, hna]
          rw [hs]
          refine ⟨h1, by rw [h2], fun y hy => ?_⟩
          rcases List.mem_append.1 hy with hy | hy
          · exact h3 y hy
          · rw [List.mem_singleton.1 hy]; exact cmpK_ok.asy _ _ hlt
        · refine .inr ?_
          have hge : 0 ≤ cmpK x e := by omega
          have hgt : cmpK e x < 0 := (hd x hm).resolve_left hlt
          have hs : putS e (putN l e i) x = ((putN l e i).1 ++ [e] ++ [x], true) := by unfold putS; simp [hc, hne, hge, h1]
          rw [hs]
          refine ⟨rfl, by rw [h2, insC_mid h3 hgt]; simp, x, by simp, hgt⟩
      · refine .inr ?_
        have hs : putS e (putN l e i) x = ((putN l e i).1 ++ [x], (putN l e i).2) := by unfold putS; simp [hc, hne, h1]
        rw [hs]
        obtain ⟨y, hy, hc'⟩ := h3
        exact ⟨h1, by rw [h2, insC_past ⟨y, hy, hc'⟩], y, by simp [hy], hc'⟩
  rcases key l.length (Nat.le_refl _) with ⟨h1, h2, h3⟩ | ⟨h1, h2, h3⟩
  · unfold putF
    rw [if_neg (by rw [h1]; decide), h2]
    rw [List.take_length] at h3 ⊢
    exact (insC_end h3).symm
  · unfold putF
    rw [if_pos h1, h2, List.take_length]
theorem putN_next {l o : List Ent} {e x : Ent} {dn : Bool} {i : Nat} (hx : l[i]? = some x) (h : (o, dn) = (if (!(putN l e i).2 && decide (0 ≤ kcmp x e)) = true then ((putN l e i).1 ++ [e], true) else putN l e i)) : putN l e (i + 1) = if kcmp x e ≠ 0 then (o ++ [x], dn) else (o, dn) := by
  rw [putN_step hx]
  unfold putS
  simp only [← h]
theorem pvE_snoc (l : List Ent) (e : Ent) : pvE l ++ [e.pv] = pvE (l ++ [e]) := by simp [pvE]
theorem put_a {r : List Ent × Bool} {e : Ent} {c : Int} (h : r.2 = true) : (r.1, r.2) = (if (!r.2 && decide (0 ≤ c)) = true then (r.1 ++ [e], true) else r) := by rw [if_neg (by simp [h])]
theorem put_b {r : List Ent × Bool} {e : Ent} {c : Int} (h : c < 0) : (r.1, r.2) = (if (!r.2 && decide (0 ≤ c)) = true then (r.1 ++ [e], true) else r) := by rw [if_neg (by simp; omega)]
theorem put_c {r : List Ent × Bool} {e : Ent} {c : Int} (h1 : r.2 = false) (h : 0 ≤ c) : (r.1 ++ [e], true) = (if (!r.2 && decide (0 ≤ c)) = true then (r.1 ++ [e], true) else r) := by rw [if_pos (by simp [h1, h])]
theorem put_olen {r : List Ent × Bool} {e : Ent} {c : Int} {o : List Ent} {dn : Bool} {i : Nat} (h : (o, dn) = (if (!r.2 && decide (0 ≤ c)) = true then (r.1 ++ [e], true) else r)) (hr : r.1.length + (if r.2 = true then 0 else 1) ≤ i + 1) : o.length ≤ i + 1 := by
  split at h
  · rename_i hc
    simp only [Bool.and_eq_true, Bool.not_eq_true'] at hc
    rw [hc.1] at hr
    cases h
    simpa using hr
  · have : o = r.1 := congrArg Prod.fst h
    rw [this]; omega
/-! #### deleting in place -/
def keepN {α : Type} (p : α → Bool) (l : List α) (j : Nat) : List α := (l.take j).filter (fun x => !p x)
theorem keepN_len {α : Type} (p : α → Bool) (l : List α) (j : Nat) : (keepN p l j).length ≤ j := Nat.le_trans (List.length_filter_le _ _) (by rw [List.length_take]; omega)
theorem keepN_yes {α : Type} {p : α → Bool} {l : List α} {j : Nat} {x : α} (hx : l[j]? = some x) (h : p x = false) : keepN p l (j + 1) = keepN p l j ++ [x] := by
  unfold keepN
  rw [List.take_add_one, hx, List.filter_append]
  simp [h]
theorem keepN_no {α : Type} {p : α → Bool} {l : List α} {j : Nat} {x : α} (hx : l[j]? = some x) (h : p x = true) : keepN p l (j + 1) = keepN p l j := by
  unfold keepN
  rw [List.take_add_one, hx, List.filter_append]
  simp [h]
theorem keepN_all {α : Type} {p : α → Bool} {l : List α} {j : Nat} (hj : l.length ≤ j) : keepN p l j = l.filter (fun x => !p x) := by
  unfold keepN
  rw [List.take_of_length_le hj]
theorem keepN_first {α : Type} {p : α → Bool} {l : List α} {j : Nat} (h : ∀ k x, k < j → l[k]? = some x → p x = false) : keepN p l j = l.take j := by
  unfold keepN
  rw [List.filter_eq_self]
  intro x hx
  obtain ⟨k, hk⟩ := List.getElem?_of_mem hx
  rw [List.getElem?_take] at hk
  split at hk
  · rw [h k x (by assumption) hk]; rfl
  · cases hk
theorem del_get {α : Type} {F l : List α} {k : Nat} (h : F.length ≤ k) : (F ++ l.drop F.length)[k]? = l[k]? := by
  rw [List.getElem?_append_right h, List.getElem?_drop]
  congr 1; omega
theorem del_set {α : Type} {F l : List α} {x : α} (h : F.length < l.length) : (F ++ l.drop F.length).set F.length x = (F ++ [x]) ++ l.drop (F ++ [x]).length := by
  rw [List.set_append_right _ _ (Nat.le_refl _), Nat.sub_self, List.append_assoc]
  congr 1
  rw [List.drop_eq_getElem_cons h, List.set_cons_zero, List.length_append]
  rfl
theorem pr_row {c r : List Pr} {n m : Nat} {z : List PV} (h : n = c.length) : ((((pvP (c ++ r)).take n) ++ List.replicate m z).take (n - 0)) = pvP c := by
  subst h
  rw [Nat.sub_zero, List.take_append_of_le_length (by rw [List.length_take, pvP_length]; simp), List.take_take, Nat.min_self]
  simp [pvP, List.map_append]
theorem pr_flat {c : List Pr} {n m : Nat} {z : List PV} (hz : ∀ p ∈ z, PV.isV p = true) : ∀ es ∈ ((pvP c).take n ++ List.replicate m z), ∀ p ∈ es, (match p with | .v _ => true | _ => false) = true := fun es he p hp => by
  have : PV.isV p = true := by
    rcases List.mem_append.1 he with he | he
    · exact pvP_flat c es (List.mem_of_mem_take he) p hp
    · rw [List.eq_of_mem_replicate he] at hp
      exact hz p hp
  cases p <;> first | rfl | cases this
/-- Where it is, if there is one. -/
theorem idx_found {α : Type} {p : α → Bool} {l : List α} (h : idxF p l ≠ -1) : ∃ k : Nat, idxF p l = (k : Int) ∧ k < l.length ∧ (∀ j x, j < k → l[j]? = some x → p x = false) ∧ ∃ x, l[k]? = some x ∧ p x = true := by
  unfold idxF at h ⊢
  cases e : l.findIdx? p with
  | none => rw [e] at h; exact absurd rfl h
  | some k =>
    rw [List.findIdx?_eq_some_iff_getElem] at e
    obtain ⟨hk, h1, h2⟩ := e
    refine ⟨k, rfl, hk, fun j x hj hx => ?_, _, List.getElem?_eq_getElem hk, h1⟩
    have := h2 j hj
    rw [(List.getElem?_eq_some_iff.1 hx).2] at this
    simpa using this
theorem filter_none {α : Type} {p : α → Bool} {l : List α} (h : idxF p l = -1) : l.filter (fun x => !p x) = l := by
  unfold idxF at h
  cases e : l.findIdx? p with
  | some k => rw [e] at h; exact absurd h (by simp)
  | none =>
    rw [List.findIdx?_eq_none_iff] at e
    rw [List.filter_eq_self]
    intro x hx
    rw [e x hx]; rfl
def outP (f t : ByteArray) (q : Pr) : Bool := ltB q.user f || (!decide (t = ⟨#[]⟩) && !ltB q.user t)
theorem pvP_set {l : List Pr} {k : Nat} {x : Pr} : (pvP l).set k [PV.v (.string x.user), PV.v (.string x.value)] = pvP (l.set k x) := by simp [pvP, Pr.pv, List.map_set]
end Go.Rl

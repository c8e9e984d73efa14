/- Promises of functions, proved by walks over their operations; no conditions beyond those that each theorem states. -/
import Derived.Test.YtfdebanfenlglaaReG
namespace Go.Rl
open Go.Proofs
theorem inf5 : (Try.prog.info? 5).map (fun i => (i.zero, i.size, i.bytes)) = some (some (.int .u8 0), 1, 1) := by kernel_rfl
theorem en76 : ∀ vs w, (callFunc 76 vs).run Try.prog w = .ok (.enter 76 vs) w := enters Try.func76 (by decide) rfl
def markE (k i : Nat) : Ent := ⟨markT (k + 4 * i), ((k + 4 * i : Nat) : Int) + 1, ((k + 4 * i : Nat) : Int) + 1 + 1, markT (k + 4 * i + 3)⟩
set_option maxRecDepth 1000000 in
theorem markText_con (k : Nat) (hk : k ≤ 1099511627776) : Con Try.prog 76 [.one (PV.v (.int .i64 (k:Int)))] [] [.one (.v (.string (markT k)))] := by
  refine con_of_tr Try.func76 rfl rfl rfl rfl ?_
  refine tr_seq ?_
  refine tr_region rfl (.run [] [] rfl (st_assign rfl) .nil) ?_
  refine tr_seq ?_
  refine tr_seq ?_
  refine tr_region rfl (.run [] [] rfl (st_move rfl) (.run [] [] rfl (st_leq rfl rfl rfl) .nil)) ?_
  refine tr_if (t := decide ((k:Int) ≤ 0)) rfl (fun h1 => ?_) (fun h1 => ?_)
  · skip
    replace h1 := of_decide_eq_true h1
    refine tr_seq ?_
    refine tr_region rfl (.run [] [] rfl (st_assign rfl) .nil) ?_
    refine tr_ret ?_
    exact ends [_] [] (.cons (.tmp (str_eq (by simp [markT, show k = 0 by omega]))) .nil) (.cons (.one .v (.v _)) .nil) (by decide) trivial
  · skip
    replace h1 := of_decide_eq_false h1
    refine tr_skip ?_
    refine tr_seq ?_
    refine tr_region rfl (.run [] [] rfl (st_assign rfl) .nil) ?_
    refine tr_seq ?_
    refine tr_block ?_
    refine tr_loopS (σ := Nat × ByteArray × Nat) (fun (n, acc, f) => mk [(0, .p none (.v (.int .i64 (n:Int)))), (3, .p none (.v (.string acc)))] [] []) (fun (n, acc, f) => n ≤ f ∧ n + acc.size ≤ k ∧ dig k k ⟨#[]⟩ = dig f n acc) (fun (n, acc, f) => n) (k, ⟨#[]⟩, k) ⟨Nat.le_refl _, Nat.le_refl _, rfl⟩ (wk_mk ⟨rfl, ⟨rfl, trivial⟩⟩ trivial trivial rfl) ?_
    rintro ⟨n, acc, f⟩ hG
    replace hG : n ≤ f ∧ n + acc.size ≤ k ∧ dig k k ⟨#[]⟩ = dig f n acc := hG
    obtain ⟨hG, hG2, hG3⟩ := hG
    refine tr_seq ?_
    refine tr_seq ?_
    refine tr_region rfl (.run [] [] rfl (st_move rfl) (.run [] [] rfl (st_gtr rfl rfl rfl) .nil)) ?_
    refine tr_if (t := decide (0 < (n:Int))) rfl (fun h2 => ?_) (fun h2 => ?_)
    · skip
      replace h2 := of_decide_eq_true h2
      refine tr_skip ?_
      refine tr_block ?_
      refine tr_seq ?_
      refine tr_region rfl (.run [] [] rfl (st_move rfl) (.run [] [] rfl (st_rem rfl rfl rfl (by decide)) (.run [] [] rfl (st_addn rfl rfl rfl (by have h1 := Int.tmod_lt_of_pos (n : Int) (show (0:Int) < 10 by decide); have h2 := Int.tmod_nonneg 10 (show (0:Int) ≤ (n:Int) by omega); omega)) (.run [] [] rfl (st_conv rfl rfl Try.underlying3 Try.underlying5) (.run [1200] [] rfl (st_buildSlice rfl 1200 Try.underlying34 inf5 (nle rfl) (by decide) rfl rfl rfl (.cons .v .nil) (by decide) rfl (by decide) rfl (by decide) rfl) (.run [] [] rfl (st_strN [IntKind.u8.wrap (48 + (n:Int).tmod 10)] rfl rfl (.give (len := 1) (xs := [[PV.v (.int .u8 (IntKind.u8.wrap (48 + ((n:Int).tmod 10))))]]) rfl rfl) rfl rfl Try.underlying34 Try.underlying9 Try.underlying5) (.run [] [] rfl (st_move rfl) (.run [] [] rfl (st_sadd rfl rfl rfl (by rw [strOf_one]; omega)) (.run [] [] rfl (st_assign rfl) .nil))))))))) ?_
      refine tr_region rfl (.run [] [] rfl (st_move rfl) (.run [] [] rfl (st_quo rfl rfl rfl (by decide)) (.run [] [] rfl (st_assign rfl) .nil))) ?_
      refine nxt (Q := fun _ _ => False) (z := (n, acc, f)) (n / 10, strOf [IntKind.u8.wrap (48 + (n:Int).tmod 10)] ++ acc, f - 1) ?_ ?_ ?_
      · show (n / 10) ≤ (f - 1) ∧ (n / 10) + (strOf [IntKind.u8.wrap (48 + (n:Int).tmod 10)] ++ acc).size ≤ k ∧ dig k k ⟨#[]⟩ = dig (f - 1) (n / 10) (strOf [IntKind.u8.wrap (48 + (n:Int).tmod 10)] ++ acc)
        exact ⟨by omega, by rw [size_app, strOf_one]; omega, dig_next hG hG3 (by omega)⟩
      · show (n / 10) < n
        omega
      · exact wk_mk ⟨(int_eq (by exact quo_nat n (by omega))), ⟨(str_eq (by rfl)), trivial⟩⟩ trivial trivial rfl
    · skip
      replace h2 := of_decide_eq_false h2
      refine tr_exit ?_
      refine tr_seq ?_
      refine tr_region rfl (.run [] [] rfl (st_move rfl) (.run [] [] rfl (st_sadd rfl rfl rfl (by have hz : (⟨#[109]⟩ : ByteArray).size = 1 := rfl; omega)) (.run [] [] rfl (st_assign rfl) .nil))) ?_
      refine tr_ret ?_
      exact ends [_] [] (.cons (.tmp (str_eq (by rw [markT, if_neg (by omega), hG3, show n = 0 by omega, dig_zero]))) .nil) (.cons (.one .v (.v _)) .nil) (by decide) trivial
set_option maxRecDepth 1000000 in
theorem markEntryS_con (l : List Ent) (k : Nat) (hk : k + 4 * l.length ≤ 1099511627776) : Con Try.prog 24 [.one (.sl true 4 (pvE l)), .one (PV.v (.int .i64 (k:Int)))] [some (pvE (marksG markE k l.length))] [.one (.v (.int .i64 ((k + 4 * l.length : Nat) : Int)))] := by
  refine con_of_tr Try.func24 rfl rfl rfl rfl ?_
  have hle := pvE_length l
  refine tr_seq ?_
  refine tr_region rfl (.run [] [] rfl (st_assign rfl) .nil) ?_
  refine tr_seq ?_
  refine tr_seq ?_
  refine tr_region rfl (.run [] [] rfl (st_assign rfl) .nil) ?_
  refine tr_block ?_
  refine tr_loopS (σ := Nat) (fun i => mk [(0, .sl 100000 0 ((pvE l).length)), (1, .p none (.v (.int .i64 ((k + 4 * i : Nat) : Int)))), (5, .p none (.v (.int .i64 (i:Int))))] [] [(100000, 4, pvE (marksG markE k i ++ l.drop i))]) (fun i => i ≤ l.length) (fun i => l.length - i) 0 (by simp) (wk_mk ⟨rfl, ⟨(int_eq (by omega)), ⟨(int_eq (by omega)), trivial⟩⟩⟩ trivial ⟨(congrArg (fun x => some (4, x)) (by rfl)), trivial⟩ rfl) ?_
  rintro i hG
  replace hG : i ≤ l.length := hG
  refine tr_seq ?_
  refine tr_seq ?_
  refine tr_region rfl (.run [] [] rfl (st_move rfl) (.run [] [] rfl (st_move rfl) (.run [] [] rfl (st_len_row rfl rfl Try.underlying26) (.run [] [] rfl (st_lss rfl rfl rfl) .nil)))) ?_
  refine tr_if (t := decide ((i:Int) < ((pvE l).length : Int))) rfl (fun h1 => ?_) (fun h1 => ?_)
  · skip
    replace h1 := of_decide_eq_true h1
    refine tr_skip ?_
    refine tr_seq ?_
    refine tr_block ?_
    refine tr_seq ?_
    obtain ⟨e, he⟩ : ∃ e, l[i]? = some e := ⟨_, List.getElem?_eq_getElem (by omega)⟩
    refine tr_region rfl (.run [] [] rfl (st_move rfl) (.run [] [] rfl (st_move rfl) (.run [] [] rfl (st_move rfl) (.run [1500] [] rfl (st_call rfl 1500 (X := []) en76 rfl (.val nod) (.cons (.one (.bor .v)) .nil) (by decide) all_nil .nil (markText_con (k + 4 * i) (by omega)) rfl rfl (nle rfl)) (.run [] [] rfl (st_idx_row0 i rfl rfl rfl rfl Try.underlying26 Try.sizeOf44 rfl rfl (by omega)) (.run [] [] rfl (st_faddr_ea rfl rfl Try.underlying44 rfl Try.sizeOf42 (by decide)) (.run [] [] rfl (st_faddr_ea rfl rfl Try.underlying42 rfl Try.sizeOf9 (by decide)) (.run [] [] rfl (st_store_row rfl rfl rfl (FlatP.nf (pvE_flat _)) (by exact gmc_get (mk := markE) he) rfl rfl (.cons .v .nil) Try.sizeOf9 rfl (nle rfl)) .nil)))))))) ?_
    refine tr_seq ?_
    refine tr_region rfl (.run [] [] rfl (st_move rfl) (.run [] [] rfl (st_addn rfl rfl rfl (by omega)) (.run [] [] rfl (st_assign rfl) .nil))) ?_
    refine tr_seq ?_
    refine tr_wk (s' := mk [(0, .sl 100000 0 ((pvE l).length)), (1, .p none (.v (.int .i64 (((k + 4 * i : Nat) : Int) + 1)))), (5, .p none (.v (.int .i64 (i:Int))))] [] [(100000, 4, (pvE (marksG markE k i ++ l.drop i)).set i [PV.v (.string (markT (k + 4 * i))), PV.v (.int .i64 e.seq), PV.v (.int .i64 e.kind), PV.v (.string e.value)])]) ?_ ?_
    · exact wk_mk ⟨rfl, ⟨rfl, ⟨rfl, trivial⟩⟩⟩ trivial ⟨rfl, trivial⟩ rfl
    refine tr_region rfl (.run [] [] rfl (st_move rfl) (.run [] [] rfl (st_move rfl) (.run [] [] rfl (st_move rfl) (.run [] [] rfl (st_idx_row0 i rfl rfl rfl rfl Try.underlying26 Try.sizeOf44 rfl rfl (by omega)) (.run [] [] rfl (st_faddr_ea rfl rfl Try.underlying44 rfl Try.sizeOf42 (by decide)) (.run [] [] rfl (st_faddr_ea rfl rfl Try.underlying42 rfl Try.sizeOf2 (by decide)) (.run [] [] rfl (st_store_row rfl rfl rfl (FlatP.nf (FlatP.set (i := i) (cs := [PV.v (.string (markT (k + 4 * i))), PV.v (.int .i64 e.seq), PV.v (.int .i64 e.kind), PV.v (.string e.value)]) (pvE_flat _) rfl)) (set_self (b := [PV.v (.string (markT (k + 4 * i))), PV.v (.int .i64 e.seq), PV.v (.int .i64 e.kind), PV.v (.string e.value)]) (by exact gmc_get (mk := markE) he)) rfl rfl (.cons .v .nil) Try.sizeOf2 rfl (nle rfl)) .nil))))))) ?_
    refine tr_seq ?_
    refine tr_region rfl (.run [] [] rfl (st_move rfl) (.run [] [] rfl (st_addn rfl rfl rfl (by omega)) (.run [] [] rfl (st_assign rfl) .nil))) ?_
    refine tr_seq ?_
    refine tr_wk (s' := mk [(0, .sl 100000 0 ((pvE l).length)), (1, .p none (.v (.int .i64 ((((k + 4 * i : Nat) : Int) + 1) + 1)))), (5, .p none (.v (.int .i64 (i:Int))))] [] [(100000, 4, ((pvE (marksG markE k i ++ l.drop i)).set i [PV.v (.string (markT (k + 4 * i))), PV.v (.int .i64 e.seq), PV.v (.int .i64 e.kind), PV.v (.string e.value)]).set i [PV.v (.string (markT (k + 4 * i))), PV.v (.int .i64 (((k + 4 * i : Nat) : Int) + 1)), PV.v (.int .i64 e.kind), PV.v (.string e.value)])]) ?_ ?_
    · exact wk_mk ⟨rfl, ⟨rfl, ⟨rfl, trivial⟩⟩⟩ trivial ⟨rfl, trivial⟩ rfl
    refine tr_region rfl (.run [] [] rfl (st_move rfl) (.run [] [] rfl (st_move rfl) (.run [] [] rfl (st_move rfl) (.run [] [] rfl (st_idx_row0 i rfl rfl rfl rfl Try.underlying26 Try.sizeOf44 rfl rfl (by omega)) (.run [] [] rfl (st_faddr_ea rfl rfl Try.underlying44 rfl Try.sizeOf42 (by decide)) (.run [] [] rfl (st_faddr_ea rfl rfl Try.underlying42 rfl Try.sizeOf2 (by decide)) (.run [] [] rfl (st_store_row rfl rfl rfl (FlatP.nf (FlatP.set (i := i) (cs := [PV.v (.string (markT (k + 4 * i))), PV.v (.int .i64 (((k + 4 * i : Nat) : Int) + 1)), PV.v (.int .i64 e.kind), PV.v (.string e.value)]) (FlatP.set (i := i) (cs := [PV.v (.string (markT (k + 4 * i))), PV.v (.int .i64 e.seq), PV.v (.int .i64 e.kind), PV.v (.string e.value)]) (pvE_flat _) rfl) rfl)) (set_self (b := [PV.v (.string (markT (k + 4 * i))), PV.v (.int .i64 (((k + 4 * i : Nat) : Int) + 1)), PV.v (.int .i64 e.kind), PV.v (.string e.value)]) (set_self (b := [PV.v (.string (markT (k + 4 * i))), PV.v (.int .i64 e.seq), PV.v (.int .i64 e.kind), PV.v (.string e.value)]) (by exact gmc_get (mk := markE) he))) rfl rfl (.cons .v .nil) Try.sizeOf2 rfl (nle rfl)) .nil))))))) ?_
    refine tr_seq ?_
    refine tr_region rfl (.run [] [] rfl (st_move rfl) (.run [] [] rfl (st_eq (st_addn rfl rfl rfl (by omega)) ((show (AV.p none (.v (.int .i64 (((k + 4 * i : Nat) : Int) + 1 + 1 + 1)))) = AV.p none (.v (.int .i64 ((k + 4 * i + 3 : Nat) : Int))) from int_eq (by omega)))) (.run [] [] rfl (st_assign rfl) .nil))) ?_
    refine tr_seq ?_
    refine tr_wk (s' := mk [(0, .sl 100000 0 ((pvE l).length)), (1, .p none (.v (.int .i64 ((k + 4 * i + 3 : Nat) : Int)))), (5, .p none (.v (.int .i64 (i:Int))))] [] [(100000, 4, (((pvE (marksG markE k i ++ l.drop i)).set i [PV.v (.string (markT (k + 4 * i))), PV.v (.int .i64 e.seq), PV.v (.int .i64 e.kind), PV.v (.string e.value)]).set i [PV.v (.string (markT (k + 4 * i))), PV.v (.int .i64 (((k + 4 * i : Nat) : Int) + 1)), PV.v (.int .i64 e.kind), PV.v (.string e.value)]).set i [PV.v (.string (markT (k + 4 * i))), PV.v (.int .i64 (((k + 4 * i : Nat) : Int) + 1)), PV.v (.int .i64 ((((k + 4 * i : Nat) : Int) + 1) + 1)), PV.v (.string e.value)])]) ?_ ?_
    · exact wk_mk ⟨rfl, ⟨rfl, ⟨rfl, trivial⟩⟩⟩ trivial ⟨rfl, trivial⟩ rfl
    refine tr_region rfl (.run [] [] rfl (st_move rfl) (.run [] [] rfl (st_move rfl) (.run [] [] rfl (st_move rfl) (.run [4000] [] rfl (st_call rfl 4000 (X := []) en76 rfl (.val nod) (.cons (.one (.bor .v)) .nil) (by decide) all_nil .nil (markText_con (k + 4 * i + 3) (by omega)) rfl rfl (nle rfl)) (.run [] [] rfl (st_idx_row0 i rfl rfl rfl rfl Try.underlying26 Try.sizeOf44 rfl rfl (by omega)) (.run [] [] rfl (st_faddr_ea rfl rfl Try.underlying44 rfl Try.sizeOf9 (by decide)) (.run [] [] rfl (st_store_row rfl rfl rfl (FlatP.nf (FlatP.set (i := i) (cs := [PV.v (.string (markT (k + 4 * i))), PV.v (.int .i64 (((k + 4 * i : Nat) : Int) + 1)), PV.v (.int .i64 ((((k + 4 * i : Nat) : Int) + 1) + 1)), PV.v (.string e.value)]) (FlatP.set (i := i) (cs := [PV.v (.string (markT (k + 4 * i))), PV.v (.int .i64 (((k + 4 * i : Nat) : Int) + 1)), PV.v (.int .i64 e.kind), PV.v (.string e.value)]) (FlatP.set (i := i) (cs := [PV.v (.string (markT (k + 4 * i))), PV.v (.int .i64 e.seq), PV.v (.int .i64 e.kind), PV.v (.string e.value)]) (pvE_flat _) rfl) rfl) rfl)) (set_self (b := [PV.v (.string (markT (k + 4 * i))), PV.v (.int .i64 (((k + 4 * i : Nat) : Int) + 1)), PV.v (.int .i64 ((((k + 4 * i : Nat) : Int) + 1) + 1)), PV.v (.string e.value)]) (set_self (b := [PV.v (.string (markT (k + 4 * i))), PV.v (.int .i64 (((k + 4 * i : Nat) : Int) + 1)), PV.v (.int .i64 e.kind), PV.v (.string e.value)]) (set_self (b := [PV.v (.string (markT (k + 4 * i))), PV.v (.int .i64 e.seq), PV.v (.int .i64 e.kind), PV.v (.string e.value)]) (by exact gmc_get (mk := markE) he)))) rfl rfl (.cons .v .nil) Try.sizeOf9 rfl (nle rfl)) .nil))))))) ?_
    refine tr_region rfl (.run [] [] rfl (st_move rfl) (.run [] [] rfl (st_addn rfl rfl rfl (by omega)) (.run [] [] rfl (st_assign rfl) .nil))) ?_
    refine tr_region rfl (.run [] [] rfl (st_move rfl) (.run [] [] rfl (st_addn rfl rfl rfl (by omega)) (.run [] [] rfl (st_assign rfl) .nil))) ?_
    refine nxt (Q := fun _ _ => False) (z := i) (i + 1) ?_ ?_ ?_
    · show (i + 1) ≤ l.length
      omega
    · show l.length - (i + 1) < l.length - i
      omega
    · exact wk_mk ⟨rfl, ⟨(int_eq (by omega)), ⟨(int_eq (by omega)), trivial⟩⟩⟩ trivial ⟨(congrArg (fun x => some (4, x)) (by rw [List.set_set, List.set_set, List.set_set]; exact gmc_step (mk := markE) he)), trivial⟩ rfl
  · skip
    replace h1 := of_decide_eq_false h1
    refine tr_exit ?_
    refine tr_seq ?_
    refine tr_region rfl (.run [] [] rfl (st_move rfl) (.run [] [] rfl (st_assign rfl) .nil)) ?_
    refine tr_ret ?_
    exact ends [_] [] (.cons (.tmp (int_eq (by rw [show i = l.length by omega]))) .nil) (.cons (.one .v (.v _)) .nil) (by decide) (outs1 (congrArg (fun x => some (4, x)) (congrArg pvE (gmc_all (by omega) (by omega)))) (pvE_flat _) (by decide))
end Go.Rl

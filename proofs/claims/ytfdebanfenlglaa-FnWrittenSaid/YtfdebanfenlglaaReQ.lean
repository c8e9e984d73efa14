/- Promises of functions, proved by walks over their operations; no conditions beyond those that each theorem states. -/
import Derived.Test.YtfdebanfenlglaaRmC
import Derived.Test.YtfdebanfenlglaaRlS
import Derived.Test.YtfdebanfenlglaaReD
set_option linter.unusedSimpArgs false
set_option linter.unusedVariables false
namespace Go.Rl
open Go.Proofs
theorem inf152 : (Try.prog.info? 152).map (fun i => (i.zero, i.size, i.bytes)) = some (some (.agg #[.slice none 0 0, .int .i64 0]), 2, 32) := by kernel_rfl
theorem en168 : ∀ vs w, (callFunc 168 vs).run Try.prog w = .ok (.enter 168 vs) w := enters Try.func168 (by decide) rfl
theorem en139 : ∀ vs w, (callFunc 139 vs).run Try.prog w = .ok (.enter 139 vs) w := enters Try.func139 (by decide) rfl
theorem en185 : ∀ vs w, (callFunc 185 vs).run Try.prog w = .ok (.enter 185 vs) w := enters Try.func185 (by decide) rfl
theorem en80 : ∀ vs w, (callFunc 80 vs).run Try.prog w = .ok (.enter 80 vs) w := enters Try.func80 (by decide) rfl
theorem en180 : ∀ vs w, (callFunc 180 vs).run Try.prog w = .ok (.enter 180 vs) w := enters Try.func180 (by decide) rfl
theorem en128 : ∀ vs w, (callFunc 128 vs).run Try.prog w = .ok (.enter 128 vs) w := enters Try.func128 (by decide) rfl
theorem en162 : ∀ vs w, (callFunc 162 vs).run Try.prog w = .ok (.enter 162 vs) w := enters Try.func162 (by decide) rfl
theorem en181 : ∀ vs w, (callFunc 181 vs).run Try.prog w = .ok (.enter 181 vs) w := enters Try.func181 (by decide) rfl
theorem en169 : ∀ vs w, (callFunc 169 vs).run Try.prog w = .ok (.enter 169 vs) w := enters Try.func169 (by decide) rfl
theorem en170 : ∀ vs w, (callFunc 170 vs).run Try.prog w = .ok (.enter 170 vs) w := enters Try.func170 (by decide) rfl
theorem en140 : ∀ vs w, (callFunc 140 vs).run Try.prog w = .ok (.enter 140 vs) w := enters Try.func140 (by decide) rfl
theorem en77 : ∀ vs w, (callFunc 77 vs).run Try.prog w = .ok (.enter 77 vs) w := enters Try.func77 (by decide) rfl
set_option maxRecDepth 1000000 in
set_option maxHeartbeats 2000000 in
theorem next0_con {γ : Gho} (bs : List Nat) (A : Option Addr) (c p : Nat) (hp : p ≤ bs.length) (hl : bs.length ≤ 1152921504606846976) (hcc : bs = [] ∨ ∃ k off cur ty fz, A = some ⟨k, off, none⟩ ∧ γ = some (k, .cells cur ty fz) ∧ ∀ (i : Nat) (b : Nat), bs[i]? = some b → b < 256 ∧ cur[off + i]? = some (.int .u8 b)) : ConG γ Try.prog 168 [.rptr 2 [PV.v (.slice A bs.length c), PV.v (.int .i64 (p:Int))]] [some (pvRd (.slice A bs.length c, nextP bs p))] [.one (.v (.int .i64 ((nextV bs p : Nat) : Int)))] := by
  refine con_of_tr Try.func168 rfl rfl rfl rfl ?_
  refine tr_seq ?_
  refine tr_region rfl (.run [] [] rfl (st_assign rfl) .nil) ?_
  refine tr_seq ?_
  refine tr_seq ?_
  refine tr_regionD mixed rfl (.run [] [] rfl (st_move rfl) (.run [] [] rfl (st_nilcheck_ea rfl rfl) (.run [] [] rfl (st_faddr_ea rfl rfl Try.underlying152 rfl Try.sizeOf3 (by decide)) (.run [] [] rfl (st_load_ea1 rfl rfl rfl rfl Try.isAgg3 rfl) (.run [] [] rfl (st_move rfl) (.run [] [] rfl (st_nilcheck_ea rfl rfl) (.run [] [] rfl (st_faddr_ea rfl rfl Try.underlying152 rfl Try.sizeOf34 (by decide)) (.run [] [] rfl (st_load_ea1 rfl rfl rfl rfl Try.isAgg34 rfl) (.run [] [] rfl (st_len_v rfl rfl Try.underlying34) (.run [] [] rfl (st_geq rfl rfl rfl) .nil)))))))))) (by kernel_rfl) ?_
  refine tr_if (t := decide ((bs.length : Int) ≤ (p:Int))) rfl (fun h1 => ?_) (fun h1 => ?_)
  · skip
    replace h1 := of_decide_eq_true h1
    refine tr_seq ?_
    have hne := next_end (bs := bs) (p := p) (by omega)
    refine tr_region rfl (.run [] [] rfl (st_assign rfl) .nil) ?_
    refine tr_ret ?_
    exact ends [_] [] (.cons (.tmp (int_eq (by rw [hne.1]; rfl))) .nil) (.cons (.one .v (.v _)) .nil) (by decide) (outs1 (congrArg (fun x => some (2, x)) (by rw [hne.2]; rfl)) (pvRd_flat _) (by decide))
  · skip
    replace h1 := of_decide_eq_false h1
    refine tr_skip ?_
    refine tr_seq ?_
    obtain ⟨k, off, cur, ty, fz, rfl, hg, hcur⟩ : ∃ k off cur ty fz, A = some ⟨k, off, none⟩ ∧ γ = some (k, .cells cur ty fz) ∧ ∀ (i : Nat) (b : Nat), bs[i]? = some b → b < 256 ∧ cur[off + i]? = some (.int .u8 b) := by
      rcases hcc with rfl | h
      · simp at h1
      · exact h
    have hlt : p < bs.length := (by omega)
    obtain ⟨b, hb⟩ : ∃ b, bs[p]? = some b := ⟨_, List.getElem?_eq_getElem hlt⟩
    obtain ⟨hb1, hb2⟩ := hcur p b hb
    have hni := next_in hb
    refine tr_wk (s' := mk [(0, .ea 100000 0 0)] [] [(100000, 2, pvRd (.slice (some ⟨k, off, none⟩) bs.length c, p))]) ?_ ?_
    · exact wk_mk ⟨rfl, trivial⟩ trivial ⟨rfl, trivial⟩ rfl
    refine tr_region rfl (.run [] [] rfl (st_move rfl) (.run [] [] rfl (st_nilcheck_ea rfl rfl) (.run [] [] rfl (st_faddr_ea rfl rfl Try.underlying152 rfl Try.sizeOf3 (by decide)) (.run [] [] rfl (st_load_ea1 rfl rfl rfl rfl Try.isAgg3 rfl) (.run [] [] rfl (st_addn rfl rfl rfl (by omega)) (.run [] [] rfl (st_nilcheck_ea rfl rfl) (.run [] [] rfl (st_faddr_ea rfl rfl Try.underlying152 rfl Try.sizeOf3 (by decide)) (.run [] [] rfl (st_store_row rfl rfl rfl (FlatP.nf (pvRd_flat _)) rfl rfl rfl (.cons .v .nil) Try.sizeOf3 rfl (nle rfl)) .nil)))))))) ?_
    have hr2 : (pvRd (.slice (some ⟨k, off, none⟩) bs.length c, p)).set 0 [PV.v (.slice (some ⟨k, off, none⟩) bs.length c), PV.v (.int .i64 ((p:Int) + 1))] = pvRd (.slice (some ⟨k, off, none⟩) bs.length c, p + 1) := by rfl
    refine tr_wk (s' := mk [(0, .ea 100000 0 0)] [] [(100000, 2, pvRd (.slice (some ⟨k, off, none⟩) bs.length c, p + 1))]) ?_ ?_
    · exact wk_mk ⟨rfl, trivial⟩ trivial ⟨(congrArg (fun x => some (2, x)) hr2), trivial⟩ rfl
    refine tr_seq ?_
    refine tr_regionD mixed rfl (.run [] [] rfl (st_move rfl) (.run [] [] rfl (st_nilcheck_ea rfl rfl) (.run [] [] rfl (st_faddr_ea rfl rfl Try.underlying152 rfl Try.sizeOf34 (by decide)) (.run [] [] rfl (st_load_ea1 rfl rfl rfl rfl Try.isAgg34 rfl) (.run [] [] rfl (st_move rfl) (.run [] [] rfl (st_nilcheck_ea rfl rfl) (.run [] [] rfl (st_faddr_ea rfl rfl Try.underlying152 rfl Try.sizeOf3 (by decide)) (.run [] [] rfl (st_load_ea1 rfl rfl rfl rfl Try.isAgg3 rfl) (.run [] [] rfl (st_subn rfl rfl rfl (by omega)) (.run [] [] rfl (st_idx_v rfl rfl rfl Try.underlying34 Try.sizeOf5 (j := p) (by omega) hlt) (.run [] [] rfl (st_load_v rfl hg rfl hb2 rfl Try.isAgg5) (.run [] [] rfl (st_convn rfl rfl Try.underlying5 Try.underlying3 (by omega)) (.run [] [] rfl (st_assign rfl) .nil))))))))))))) (by kernel_rfl) ?_
    refine tr_ret ?_
    exact ends [_] [] (.cons (.tmp (int_eq (by rw [hni.1]))) .nil) (.cons (.one .v (.v _)) .nil) (by decide) (outs1 (congrArg (fun x => some (2, x)) (by rw [hni.2])) (pvRd_flat _) (by decide))
theorem next_con {γ : Gho} {cv : Value} {bs : List Nat} (hc : CodeAt γ cv bs) (hl : bs.length ≤ 1152921504606846976) (p : Nat) (hp : p ≤ bs.length) : ConG γ Try.prog 168 [.rptr 2 [.v cv, .v (.int .i64 (p:Int))]] [some (pvRd (cv, nextP bs p))] [.one (.v (.int .i64 ((nextV bs p : Nat) : Int)))] := by
  obtain ⟨A, c, rfl, hcc⟩ := hc
  exact next0_con bs A c p hp hl hcc
set_option maxRecDepth 1000000 in
set_option maxHeartbeats 2000000 in
theorem below_con {γ : Gho} {cv : Value} {bs : List Nat} (hc : CodeAt γ cv bs) (hl : bs.length ≤ 1152921504606846976) (p : Nat) (hp : p ≤ bs.length) (n : Nat) (hn : n ≤ 1000000) : ConG γ Try.prog 139 [.rptr 2 [PV.v (cv), PV.v (.int .i64 (p:Int))], .one (PV.v (.int .i64 (n:Int)))] [some (pvRd (cv, belowP bs p n))] [.one (.v (.int .i64 ((belowV bs p n : Nat) : Int)))] := by
  refine con_of_tr Try.func139 rfl rfl rfl rfl ?_
  refine tr_seq ?_
  refine tr_region rfl (.run [] [] rfl (st_assign rfl) .nil) ?_
  refine tr_seq ?_
  refine tr_seq ?_
  refine tr_region rfl (.run [] [] rfl (st_move rfl) (.run [] [] rfl (st_leq rfl rfl rfl) .nil)) ?_
  refine tr_if (t := decide ((n:Int) ≤ 1)) rfl (fun h1 => ?_) (fun h1 => ?_)
  · skip
    replace h1 := of_decide_eq_true h1
    refine tr_seq ?_
    have hb := below_1 (bs := bs) (p := p) (n := n) (by omega)
    refine tr_region rfl (.run [] [] rfl (st_assign rfl) .nil) ?_
    refine tr_ret ?_
    exact ends [_] [] (.cons (.tmp (int_eq (by rw [hb.1]; rfl))) .nil) (.cons (.one .v (.v _)) .nil) (by decide) (outs1 (congrArg (fun x => some (2, x)) (congrArg pvRd (congrArg (Prod.mk cv) (by rw [hb.2])))) (pvRd_flat _) (by decide))
  · skip
    replace h1 := of_decide_eq_false h1
    refine tr_skip ?_
    refine tr_seq ?_
    refine tr_seq ?_
    refine tr_region rfl (.run [] [] rfl (st_move rfl) (.run [] [] rfl (st_leq rfl rfl rfl) .nil)) ?_
    refine tr_if (t := decide ((n:Int) ≤ 256)) rfl (fun h2 => ?_) (fun h2 => ?_)
    · skip
      replace h2 := of_decide_eq_true h2
      refine tr_seq ?_
      have hb := below_2 (bs := bs) (p := p) (n := n) (by omega) (by omega)
      have hv := nextV_lt (code_bytes hc) p
      refine tr_region rfl (.run [] [] rfl (st_move rfl) (.run [100000, 1100] [] rfl (st_callG (.inr rfl) rfl 1100 (X := [100000]) en168 rfl (.val nod) (.cons (.rptr rfl) .nil) (by decide) (all_cons rfl all_nil) (.keep (xs := pvRd (cv, p)) rfl (FlatP.nf (pvRd_flat _)) .nil) (next_con hc hl p hp) rfl rfl (nle rfl)) (.run [] [] rfl (st_move rfl) (.run [] [] rfl (st_rem rfl rfl rfl (by omega)) (.run [] [] rfl (st_assign rfl) .nil))))) ?_
      refine tr_ret ?_
      exact ends [_] [] (.cons (.tmp (int_eq (by rw [hb.1]; rfl))) .nil) (.cons (.one .v (.v _)) .nil) (by decide) (outs1 (congrArg (fun x => some (2, x)) (congrArg pvRd (congrArg (Prod.mk cv) (by rw [hb.2])))) (pvRd_flat _) (by decide))
    · skip
      replace h2 := of_decide_eq_false h2
      refine tr_skip ?_
      refine tr_seq ?_
      have hb := below_3 (bs := bs) (p := p) (n := n) (by omega) (by omega)
      have hv := nextV_lt (code_bytes hc) p
      have hv2 := nextV_lt (code_bytes hc) (nextP bs p)
      refine tr_region rfl (.run [] [] rfl (st_move rfl) (.run [100000, 1500] [] rfl (st_callG (.inr rfl) rfl 1500 (X := [100000]) en168 rfl (.val nod) (.cons (.rptr rfl) .nil) (by decide) (all_cons rfl all_nil) (.keep (xs := pvRd (cv, p)) rfl (FlatP.nf (pvRd_flat _)) .nil) (next_con hc hl p hp) rfl rfl (nle rfl)) (.run [] [] rfl (st_muln rfl rfl rfl (by omega)) (.run [] [] rfl (st_assign rfl) .nil)))) ?_
      refine tr_seq ?_
      refine tr_region rfl (.run [] [] rfl (st_move rfl) (.run [] [] rfl (st_move rfl) (.run [100000, 1900] [] rfl (st_callG (.inr rfl) rfl 1900 (X := [100000]) en168 rfl (.val nod) (.cons (.rptr rfl) .nil) (by decide) (all_cons rfl all_nil) (.keep (xs := pvRd (cv, nextP bs p)) rfl (FlatP.nf (pvRd_flat _)) .nil) (next_con hc hl (nextP bs p) (nextP_le hp)) rfl rfl (nle rfl)) (.run [] [] rfl (st_addn rfl rfl rfl (by omega)) (.run [] [] rfl (st_assign rfl) .nil))))) ?_
      refine tr_seq ?_
      refine tr_wk (s' := mk [(1, .p none (.v (.int .i64 (n:Int)))), (5, .p none (.v (.int .i64 ((((nextV bs p : Nat) : Int) * 256) + ((nextV bs (nextP bs p) : Nat) : Int)))))] [] [(100000, 2, pvRd (cv, nextP bs (nextP bs p)))]) ?_ ?_
      · exact wk_mk ⟨rfl, ⟨rfl, trivial⟩⟩ trivial ⟨rfl, trivial⟩ rfl
      refine tr_region rfl (.run [] [] rfl (st_move rfl) (.run [] [] rfl (st_move rfl) (.run [] [] rfl (st_rem rfl rfl rfl (by omega)) (.run [] [] rfl (st_assign rfl) .nil)))) ?_
      refine tr_ret ?_
      exact ends [_] [] (.cons (.tmp (int_eq (by rw [hb.1]; rfl))) .nil) (.cons (.one .v (.v _)) .nil) (by decide) (outs1 (congrArg (fun x => some (2, x)) (congrArg pvRd (congrArg (Prod.mk cv) (by rw [hb.2])))) (pvRd_flat _) (by decide))
set_option maxRecDepth 1000000 in
set_option maxHeartbeats 2000000 in
theorem once_con {γ : Gho} {cv : Value} {bs : List Nat} (hc : CodeAt γ cv bs) (hl : bs.length ≤ 1152921504606846976) (p : Nat) (hp : p ≤ bs.length) (n : Nat) (hn : 1 ≤ n ∧ n ≤ 1000000) : ConG γ Try.prog 80 [.rptr 2 [PV.v (cv), PV.v (.int .i64 (p:Int))], .one (PV.v (.int .i64 (n:Int)))] [some (pvRd (cv, belowP bs p n))] [.one (.v (.bool (onceV bs p n)))] := by
  refine con_of_tr Try.func80 rfl rfl rfl rfl ?_
  refine tr_seq ?_
  refine tr_region rfl (.run [] [] rfl (st_assign rfl) .nil) ?_
  refine tr_seq ?_
  refine tr_region rfl (.run [] [] rfl (st_move rfl) (.run [] [] rfl (st_move rfl) (.run [100000, 700] [] rfl (st_callG (.inr rfl) rfl 700 (X := [100000]) en139 rfl (.val nod) (.cons (.rptr rfl) (.cons (.one (.bor .v)) .nil)) (by decide) (all_cons rfl all_nil) (.keep (xs := pvRd (cv, p)) rfl (FlatP.nf (pvRd_flat _)) .nil) (below_con hc hl p hp n (by omega)) rfl rfl (nle rfl)) (.run [] [] rfl (st_move rfl) (.run [] [] rfl (st_subn rfl rfl rfl (by omega)) (.run [] [] rfl (st_eql rfl rfl rfl) (.run [] [] rfl (st_assign rfl) .nil))))))) ?_
  refine tr_ret ?_
  exact ends [_] [] (.cons (.tmp (bool_eq (by unfold onceV; rw [Bool.eq_iff_iff]; simp only [decide_eq_true_eq]; omega))) .nil) (.cons (.one .v (.v _)) .nil) (by decide) (outs1 (congrArg (fun x => some (2, x)) (congrArg pvRd (congrArg (Prod.mk cv) rfl))) (pvRd_flat _) (by decide))
set_option maxRecDepth 1000000 in
set_option maxHeartbeats 2000000 in
theorem word_con {γ : Gho} {cv : Value} {bs : List Nat} (hc : CodeAt γ cv bs) (hl : bs.length ≤ 1152921504606846976) (p : Nat) (hp : p ≤ bs.length)  : ConG γ Try.prog 185 [.rptr 2 [PV.v (cv), PV.v (.int .i64 (p:Int))]] [some (pvRd (cv, wordP bs p))] [.one (.v (.int .u64 (wordV bs p)))] := by
  refine con_of_tr Try.func185 rfl rfl rfl rfl ?_
  refine tr_seq ?_
  refine tr_region rfl (.run [] [] rfl (st_assign rfl) .nil) ?_
  refine tr_seq ?_
  refine tr_region rfl (.run [] [] rfl (st_assign rfl) .nil) ?_
  refine tr_seq ?_
  refine tr_seq ?_
  refine tr_region rfl (.run [] [] rfl (st_assign rfl) .nil) ?_
  refine tr_block ?_
  refine tr_loopS (σ := Nat × Int × Nat) (fun (i, x, q) => mk [(0, .ea 100000 0 0), (3, .p none (.v (.int .u64 x))), (4, .p none (.v (.int .i64 (i:Int))))] [] [(100000, 2, pvRd (cv, q))]) (fun (i, x, q) => i ≤ 8 ∧ q ≤ bs.length ∧ wordF bs (8 - i) x q = wordF bs 8 0 p) (fun (i, x, q) => 8 - i) (0, 0, p) ⟨Nat.zero_le _, hp, rfl⟩ (wk_mk ⟨rfl, ⟨rfl, ⟨(int_eq (by omega)), trivial⟩⟩⟩ trivial ⟨rfl, trivial⟩ rfl) ?_
  rintro ⟨i, x, q⟩ hG
  replace hG : i ≤ 8 ∧ q ≤ bs.length ∧ wordF bs (8 - i) x q = wordF bs 8 0 p := hG
  obtain ⟨hi, hp, hw⟩ := hG
  refine tr_seq ?_
  refine tr_seq ?_
  refine tr_region rfl (.run [] [] rfl (st_move rfl) (.run [] [] rfl (st_lss rfl rfl rfl) .nil)) ?_
  refine tr_if (t := decide ((i:Int) < 8)) rfl (fun h1 => ?_) (fun h1 => ?_)
  · skip
    replace h1 := of_decide_eq_true h1
    refine tr_skip ?_
    refine tr_seq ?_
    refine tr_block ?_
    refine tr_region rfl (.run [] [] rfl (st_move rfl) (.run [] [] rfl (st_shl rfl rfl rfl (by omega)) (.run [] [] rfl (st_move rfl) (.run [100000, 1200] [] rfl (st_callG (.inr rfl) rfl 1200 (X := [100000]) en168 rfl (.val nod) (.cons (.rptr rfl) .nil) (by decide) (all_cons rfl all_nil) (.keep (xs := pvRd (cv, q)) rfl (FlatP.nf (pvRd_flat _)) .nil) (next_con hc hl q hp) rfl rfl (nle rfl)) (.run [] [] rfl (st_conv rfl rfl Try.underlying3 Try.underlying193) (.run [] [] rfl (st_bits rfl (.inr (.inl rfl)) rfl rfl) (.run [] [] rfl (st_assign rfl) .nil))))))) ?_
    refine tr_region rfl (.run [] [] rfl (st_move rfl) (.run [] [] rfl (st_addn rfl rfl rfl (by omega)) (.run [] [] rfl (st_assign rfl) .nil))) ?_
-- round row 100000: pvRd (cv, (nextP bs q)) now pvRd (cv, nextP bs q)
    refine nxt (Q := fun _ _ => False) (z := (i, x, q)) (i + 1, wordStep x (nextV bs q), nextP bs q) ?_ ?_ ?_
    · show (i + 1) ≤ 8 ∧ (nextP bs q) ≤ bs.length ∧ wordF bs (8 - (i + 1)) (wordStep x (nextV bs q)) (nextP bs q) = wordF bs 8 0 p
      exact ⟨by omega, nextP_le hp, by rw [← hw, show 8 - i = (8 - (i + 1)) + 1 by omega]; rfl⟩
    · show 8 - (i + 1) < 8 - i
      omega
    · exact wk_mk ⟨rfl, ⟨(int_eq (by rfl)), ⟨(int_eq (by omega)), trivial⟩⟩⟩ trivial ⟨rfl, trivial⟩ rfl
  · skip
    replace h1 := of_decide_eq_false h1
    refine tr_exit ?_
    refine tr_seq ?_
    refine tr_region rfl (.run [] [] rfl (st_move rfl) (.run [] [] rfl (st_assign rfl) .nil)) ?_
    refine tr_ret ?_
    exact ends [_] [] (.cons (.tmp (int_eq (by rw [show i = 8 by omega] at hw; exact congrArg Prod.fst hw))) .nil) (.cons (.one .v (.v _)) .nil) (by decide) (outs1 (congrArg (fun x => some (2, x)) (congrArg pvRd (congrArg (Prod.mk cv) (by rw [show i = 8 by omega] at hw; exact congrArg Prod.snd hw)))) (pvRd_flat _) (by decide))
set_option maxRecDepth 1000000 in
set_option maxHeartbeats 2000000 in
theorem near_con {γ : Gho} {cv : Value} {bs : List Nat} (hc : CodeAt γ cv bs) (hl : bs.length ≤ 1152921504606846976) (p : Nat) (hp : p ≤ bs.length) (low high : Int) (hlo : -1000000000000000 ≤ low) (hhi : high ≤ 1000000000000000) : ConG γ Try.prog 180 [.rptr 2 [PV.v (cv), PV.v (.int .i64 (p:Int))], .one (PV.v (.int .i64 low)), .one (PV.v (.int .i64 high))] [some (pvRd (cv, nearP bs p low high))] [.one (.v (.int .i64 (nearV bs p low high)))] := by
  refine con_of_tr Try.func180 rfl rfl rfl rfl ?_
  refine tr_seq ?_
  refine tr_region rfl (.run [] [] rfl (st_assign rfl) .nil) ?_
  refine tr_seq ?_
  refine tr_seq ?_
  refine tr_region rfl (.run [] [] rfl (st_move rfl) (.run [100000, 800] [] rfl (st_callG (.inr rfl) rfl 800 (X := [100000]) en139 rfl (.val nod) (.cons (.rptr rfl) (.cons (.one (.bor .v)) .nil)) (by decide) (all_cons rfl all_nil) (.keep (xs := pvRd (cv, p)) rfl (FlatP.nf (pvRd_flat _)) .nil) (below_con hc hl p hp 8 (by omega)) rfl rfl (nle rfl)) .nil)) ?_
  refine tr_block ?_
  refine tr_seq ?_
  refine tr_region rfl (.run [] [] rfl (st_eql rfl rfl rfl) (.run [] [] rfl (st_assign rfl) .nil)) ?_
  refine tr_if (t := decide (((belowV bs p 8 : Nat) : Int) = 0)) rfl (fun h1 => ?_) (fun h1 => ?_)
  · skip
    replace h1 := of_decide_eq_true h1
    refine tr_seq ?_
    have hn := near_a (bs := bs) (p := p) (low := low) (high := high) (by omega)
    refine tr_region rfl (.run [] [] rfl (st_move rfl) (.run [] [] rfl (st_assign rfl) .nil)) ?_
    refine tr_ret ?_
    exact ends [_] [] (.cons (.tmp (int_eq hn.1.symm)) .nil) (.cons (.one .v (.v _)) .nil) (by decide) (outs1 (congrArg (fun x => some (2, x)) (congrArg pvRd (congrArg (Prod.mk cv) hn.2.symm))) (pvRd_flat _) (by decide))
  · skip
    replace h1 := of_decide_eq_false h1
    refine tr_seq ?_
    refine tr_region rfl (.run [] [] rfl (st_eql rfl rfl rfl) (.run [] [] rfl (st_assign rfl) .nil)) ?_
    refine tr_if (t := decide (((belowV bs p 8 : Nat) : Int) = 1)) rfl (fun h2 => ?_) (fun h2 => ?_)
    · skip
      replace h2 := of_decide_eq_true h2
      refine tr_seq ?_
      have hn := near_b (bs := bs) (p := p) (low := low) (high := high) (by omega)
      refine tr_region rfl (.run [] [] rfl (st_move rfl) (.run [] [] rfl (st_assign rfl) .nil)) ?_
      refine tr_ret ?_
      exact ends [_] [] (.cons (.tmp (int_eq hn.1.symm)) .nil) (.cons (.one .v (.v _)) .nil) (by decide) (outs1 (congrArg (fun x => some (2, x)) (congrArg pvRd (congrArg (Prod.mk cv) hn.2.symm))) (pvRd_flat _) (by decide))
    · skip
      replace h2 := of_decide_eq_false h2
      refine tr_skip ?_
      refine tr_seq ?_
      refine tr_seq ?_
      refine tr_region rfl (.run [] [] rfl (st_move rfl) (.run [] [] rfl (st_move rfl) (.run [] [] rfl (st_lss rfl rfl rfl) .nil))) ?_
      refine tr_if (t := decide (high < low)) rfl (fun h3 => ?_) (fun h3 => ?_)
      · skip
        replace h3 := of_decide_eq_true h3
        refine tr_seq ?_
        have hn := near_c (bs := bs) (p := p) (low := low) (high := high) (by omega) (by omega) (by omega)
        refine tr_region rfl (.run [] [] rfl (st_move rfl) (.run [] [] rfl (st_assign rfl) .nil)) ?_
        refine tr_ret ?_
        exact ends [_] [] (.cons (.tmp (int_eq hn.1.symm)) .nil) (.cons (.one .v (.v _)) .nil) (by decide) (outs1 (congrArg (fun x => some (2, x)) (congrArg pvRd (congrArg (Prod.mk cv) hn.2.symm))) (pvRd_flat _) (by decide))
      · skip
        replace h3 := of_decide_eq_false h3
        refine tr_skip ?_
        refine tr_seq ?_
        have hwr : IntKind.u64.wrap (high - low + 1) = high - low + 1 := by rw [IntKind.wrap_u64]; omega
        have hn := near_d (bs := bs) (p := p) (low := low) (high := high) (by omega) (by omega) (by omega)
        refine tr_wk (s' := mk [(0, .ea 100000 0 0), (1, .p none (.v (.int .i64 low))), (2, .p none (.v (.int .i64 high)))] [] [(100000, 2, pvRd (cv, belowP bs p 8))]) ?_ ?_
        · exact wk_mk ⟨rfl, ⟨rfl, ⟨rfl, trivial⟩⟩⟩ trivial ⟨rfl, trivial⟩ rfl
        refine tr_region rfl (.run [] [] rfl (st_move rfl) (.run [] [] rfl (st_move rfl) (.run [100000, 2100] [] rfl (st_callG (.inr rfl) rfl 2100 (X := [100000]) en185 rfl (.val nod) (.cons (.rptr rfl) .nil) (by decide) (all_cons rfl all_nil) (.keep (xs := pvRd (cv, belowP bs p 8)) rfl (FlatP.nf (pvRd_flat _)) .nil) (word_con hc hl (belowP bs p 8) (belowP_le hp)) rfl rfl (nle rfl)) (.run [] [] rfl (st_shr rfl rfl rfl (by omega)) (.run [] [] rfl (st_move rfl) (.run [] [] rfl (st_move rfl) (.run [] [] rfl (st_subn rfl rfl rfl (by omega)) (.run [] [] rfl (st_addn rfl rfl rfl (by omega)) (.run [] [] rfl (st_conv rfl rfl Try.underlying2 Try.underlying193) (.run [] [] rfl (st_rem rfl rfl rfl (by omega)) (.run [] [] rfl (st_conv rfl rfl Try.underlying193 Try.underlying2) (.run [] [] rfl (st_add rfl rfl rfl) (.run [] [] rfl (st_assign rfl) .nil))))))))))))) ?_
        refine tr_ret ?_
        exact ends [_] [] (.cons (.tmp (int_eq hn.1.symm)) .nil) (.cons (.one .v (.v _)) .nil) (by decide) (outs1 (congrArg (fun x => some (2, x)) (congrArg pvRd (congrArg (Prod.mk cv) hn.2.symm))) (pvRd_flat _) (by decide))
set_option maxRecDepth 1000000 in
set_option maxHeartbeats 2000000 in
theorem off_con {γ : Gho} {cv : Value} {bs : List Nat} (hc : CodeAt γ cv bs) (hl : bs.length ≤ 1152921504606846976) (p : Nat) (hp : p ≤ bs.length) (low high : Int) (hlo : -1000000000000000 ≤ low ∧ low ≤ 1000000000000000) (hhi : -1000000000000000 ≤ high ∧ high ≤ 1000000000000000) : ConG γ Try.prog 162 [.rptr 2 [PV.v (cv), PV.v (.int .i64 (p:Int))], .one (PV.v (.int .i64 low)), .one (PV.v (.int .i64 high))] [some (pvRd (cv, offP bs p low high))] [.one (.v (.int .i64 (offV bs p low high)))] := by
  refine con_of_tr Try.func162 rfl rfl rfl rfl ?_
  refine tr_seq ?_
  refine tr_region rfl (.run [] [] rfl (st_assign rfl) .nil) ?_
  refine tr_seq ?_
  refine tr_seq ?_
  refine tr_region rfl (.run [] [] rfl (st_move rfl) (.run [100000, 800] [] rfl (st_callG (.inr rfl) rfl 800 (X := [100000]) en80 rfl (.val nod) (.cons (.rptr rfl) (.cons (.one (.bor .v)) .nil)) (by decide) (all_cons rfl all_nil) (.keep (xs := pvRd (cv, p)) rfl (FlatP.nf (pvRd_flat _)) .nil) (once_con hc hl p hp 24 (by omega)) rfl rfl (nle rfl)) .nil)) ?_
  refine tr_if (t := onceV bs p 24) rfl (fun h1 => ?_) (fun h1 => ?_)
  · skip
    refine tr_seq ?_
    refine tr_region rfl (.run [] [] rfl (st_move rfl) (.run [] [] rfl (st_subn rfl rfl rfl (by omega)) (.run [] [] rfl (st_move rfl) (.run [] [] rfl (st_addn rfl rfl rfl (by omega)) (.run [1300] [] rfl (st_buildSlice rfl 1300 Try.underlying23 inf2 (nle rfl) (by decide) rfl rfl rfl (.cons .v (.cons .v (.cons .v (.cons .v .nil)))) (by decide) rfl (by decide) rfl (by decide) rfl) (.run [] [] rfl (st_move rfl) (.run [100000, 1500] [] rfl (st_callG (.inr rfl) rfl 1500 (X := [100000]) en139 rfl (.val nod) (.cons (.rptr rfl) (.cons (.one (.bor .v)) .nil)) (by decide) (all_cons rfl all_nil) (.keep (xs := pvRd (cv, belowP bs p 24)) rfl (FlatP.nf (pvRd_flat _)) .nil) (below_con hc hl (belowP bs p 24) (belowP_le hp) 4 (by omega)) rfl rfl (nle rfl)) (.run [] [] rfl (st_idx_row0 (belowV bs (belowP bs p 24) 4) rfl rfl rfl rfl Try.underlying23 Try.sizeOf2 rfl rfl (belowV_lt (by decide))) (.run [] [] rfl (st_load_ea1 rfl rfl rfl (pvI_get (off_get bs (belowP bs p 24) low high)) Try.isAgg2 rfl) (.run [] [] rfl (st_assign rfl) .nil)))))))))) ?_
    refine tr_ret ?_
    exact ends [_] [] (.cons (.tmp (int_eq (by rw [offV, if_pos h1]))) .nil) (.cons (.one .v (.v _)) .nil) (by decide) (outs1 (congrArg (fun x => some (2, x)) (congrArg pvRd (congrArg (Prod.mk cv) (by rw [offP, if_pos h1])))) (pvRd_flat _) (by decide))
  · skip
    refine tr_skip ?_
    refine tr_seq ?_
    refine tr_region rfl (.run [] [] rfl (st_move rfl) (.run [] [] rfl (st_move rfl) (.run [] [] rfl (st_move rfl) (.run [100000, 2100] [] rfl (st_callG (.inr rfl) rfl 2100 (X := [100000]) en180 rfl (.val nod) (.cons (.rptr rfl) (.cons (.one (.bor .v)) (.cons (.one (.bor .v)) .nil))) (by decide) (all_cons rfl all_nil) (.keep (xs := pvRd (cv, belowP bs p 24)) rfl (FlatP.nf (pvRd_flat _)) .nil) (near_con hc hl (belowP bs p 24) (belowP_le hp) low high (by omega) (by omega)) rfl rfl (nle rfl)) (.run [] [] rfl (st_assign rfl) .nil))))) ?_
    refine tr_ret ?_
    exact ends [_] [] (.cons (.tmp (int_eq (by rw [offV, if_neg (by simp [h1])]))) .nil) (.cons (.one .v (.v _)) .nil) (by decide) (outs1 (congrArg (fun x => some (2, x)) (congrArg pvRd (congrArg (Prod.mk cv) (by rw [offP, if_neg (by simp [h1])])))) (pvRd_flat _) (by decide))
set_option maxRecDepth 1000000 in
set_option maxHeartbeats 2000000 in
theorem user_con {γ : Gho} {cv : Value} {bs : List Nat} (hc : CodeAt γ cv bs) (hl : bs.length ≤ 1152921504606846976) (p : Nat) (hp : p ≤ bs.length)  : ConG γ Try.prog 128 [.rptr 2 [PV.v (cv), PV.v (.int .i64 (p:Int))]] [some (pvRd (cv, userP bs p))] [.one (.v (.string (userV bs p)))] := by
  refine con_of_tr Try.func128 rfl rfl rfl rfl ?_
  refine tr_seq ?_
  refine tr_region rfl (.run [] [] rfl (st_assign rfl) .nil) ?_
  refine tr_seq ?_
  refine tr_region rfl (.run [300] [] rfl (st_buildSlice (cs := [.p none (.v (.string ⟨#[97]⟩)), .p none (.v (.string ⟨#[98]⟩)), .p none (.v (.string ⟨#[97, 98]⟩)), .p none (.v (.string ⟨#[97, 98, 99]⟩)), .p none (.v (.string ⟨#[97, 98, 100]⟩)), .p none (.v (.string ⟨#[107, 101, 121]⟩)), .p none (.v (.string ⟨#[107, 101, 121, 49]⟩)), .p none (.v (.string ⟨#[107, 101, 121, 50]⟩)), .p none (.v (.string ⟨#[122, 122]⟩)), .p none (.v (.string ⟨#[97, 0]⟩))]) (ps := [PV.v (.string ⟨#[97]⟩), PV.v (.string ⟨#[98]⟩), PV.v (.string ⟨#[97, 98]⟩), PV.v (.string ⟨#[97, 98, 99]⟩), PV.v (.string ⟨#[97, 98, 100]⟩), PV.v (.string ⟨#[107, 101, 121]⟩), PV.v (.string ⟨#[107, 101, 121, 49]⟩), PV.v (.string ⟨#[107, 101, 121, 50]⟩), PV.v (.string ⟨#[122, 122]⟩), PV.v (.string ⟨#[97, 0]⟩)]) (xs := [[PV.v (.string ⟨#[97]⟩)], [PV.v (.string ⟨#[98]⟩)], [PV.v (.string ⟨#[97, 98]⟩)], [PV.v (.string ⟨#[97, 98, 99]⟩)], [PV.v (.string ⟨#[97, 98, 100]⟩)], [PV.v (.string ⟨#[107, 101, 121]⟩)], [PV.v (.string ⟨#[107, 101, 121, 49]⟩)], [PV.v (.string ⟨#[107, 101, 121, 50]⟩)], [PV.v (.string ⟨#[122, 122]⟩)], [PV.v (.string ⟨#[97, 0]⟩)]]) rfl 300 Try.underlying147 inf9 (nle rfl) (by decide) rfl rfl (by kernel_rfl) (.cons .v (.cons .v (.cons .v (.cons .v (.cons .v (.cons .v (.cons .v (.cons .v (.cons .v (.cons .v .nil)))))))))) (by decide) (by kernel_rfl) (by decide) rfl (by decide) rfl) (.run [] [] rfl (st_move rfl) (.run [100000, 500] [] rfl (st_callG (.inr rfl) rfl 500 (X := [100000]) en139 rfl (.val nod) (.cons (.rptr rfl) (.cons (.one (.bor .v)) .nil)) (by decide) (all_cons rfl all_nil) (.keep (xs := pvRd (cv, p)) rfl (FlatP.nf (pvRd_flat _)) .nil) (below_con hc hl p hp 10 (by omega)) rfl rfl (nle rfl)) (.run [] [] rfl (st_idx_row0 (belowV bs p 10) rfl rfl rfl rfl Try.underlying147 Try.sizeOf9 rfl rfl (belowV_lt (by decide))) (.run [] [] rfl (st_load_ea1 rfl rfl rfl (pvT_get (user_get bs p)) Try.isAgg9 rfl) (.run [] [] rfl (st_assign rfl) .nil)))))) ?_
  refine tr_ret ?_
  exact ends [_] [] (.cons (.tmp rfl) .nil) (.cons (.one .v (.v _)) .nil) (by decide) (outs1 (congrArg (fun x => some (2, x)) (congrArg pvRd (congrArg (Prod.mk cv) rfl))) (pvRd_flat _) (by decide))
set_option maxRecDepth 1000000 in
set_option maxHeartbeats 2000000 in
theorem bytes_con {γ : Gho} {cv : Value} {bs : List Nat} (hc : CodeAt γ cv bs) (hl : bs.length ≤ 1152921504606846976) (p : Nat) (hp : p ≤ bs.length) (most : Nat) (hmo : most ≤ 1000) : ConG γ Try.prog 181 [.rptr 2 [PV.v (cv), PV.v (.int .i64 (p:Int))], .one (PV.v (.int .i64 (most:Int)))] [some (pvRd (cv, bytesP bs p most))] [.one (.v (.string (bytesV bs p most)))] := by
  refine con_of_tr Try.func181 rfl rfl rfl rfl ?_
  have hb0 := belowV_lt (bs := bs) (p := p) (n := most + 1) (by omega)
  refine tr_seq ?_
  refine tr_region rfl (.run [] [] rfl (st_assign rfl) .nil) ?_
  refine tr_seq ?_
  refine tr_region rfl (.run [700] [] rfl (st_buildSlice rfl 700 Try.underlying34 inf5 (nle rfl) (by decide) rfl rfl rfl .nil (by decide) rfl (by decide) rfl (by decide) rfl) (.run [] [] rfl (st_assign rfl) .nil)) ?_
  refine tr_seq ?_
  refine tr_seq ?_
  refine tr_region rfl (.run [] [] rfl (st_move rfl) (.run [] [] rfl (st_move rfl) (.run [] [] rfl (st_eq (st_addn rfl rfl rfl (by omega)) ((int_eq (by omega)))) (.run [100000, 1100] [] rfl (st_callG (.inr rfl) rfl 1100 (X := [100000]) en139 rfl (.val nod) (.cons (.rptr rfl) (.cons (.one (.bor .v)) .nil)) (by decide) (all_cons rfl all_nil) (.keep (xs := pvRd (cv, p)) rfl (FlatP.nf (pvRd_flat _)) .nil) (below_con hc hl p hp (most + 1) (by omega)) rfl rfl (nle rfl)) (.run [] [] rfl (st_assign rfl) .nil))))) ?_
  refine tr_block ?_
  refine tr_wk (wk_ren 700 1 rfl rfl (by decide)) ?_
-- entry row 100000: pvRd (cv, (belowP bs p (most + 1))) now pvRd (cv, belowP bs p (most + 1))
  refine tr_loopS (σ := Nat × List Int × Nat) (fun (i, l, q) => mk [(0, .ea 100000 0 0), (5, .sl 1 0 ((pvU l).length)), (6, .p none (.v (.int .i64 (i:Int))))] [] [(1, 1, pvU l), (100000, 2, pvRd (cv, q))]) (fun (i, l, q) => i ≤ 1001 ∧ l.length + i ≤ 1001 ∧ q ≤ bs.length ∧ bytesL bs i l q = bytesR bs p most) (fun (i, l, q) => i) (belowV bs p (most + 1), [], belowP bs p (most + 1)) ⟨by omega, by simp only [List.length_nil]; omega, belowP_le hp, rfl⟩ (wk_mk ⟨rfl, ⟨rfl, ⟨(int_eq (by omega)), trivial⟩⟩⟩ trivial ⟨(congrArg (fun x => some (1, x)) (by rfl)), ⟨rfl, trivial⟩⟩ rfl) ?_
  rintro ⟨i, l, q⟩ hG
  replace hG : i ≤ 1001 ∧ l.length + i ≤ 1001 ∧ q ≤ bs.length ∧ bytesL bs i l q = bytesR bs p most := hG
  obtain ⟨hi, hll, hp, hE⟩ := hG
  have hle := pvU_length l
  refine tr_seq ?_
  refine tr_seq ?_
  refine tr_region rfl (.run [] [] rfl (st_move rfl) (.run [] [] rfl (st_gtr rfl rfl rfl) .nil)) ?_
  refine tr_if (t := decide (0 < (i:Int))) rfl (fun h1 => ?_) (fun h1 => ?_)
  · skip
    replace h1 := of_decide_eq_true h1
    refine tr_skip ?_
    refine tr_seq ?_
    refine tr_block ?_
    refine tr_region rfl (.run [] [] rfl (st_move rfl) (.run [] [] rfl (st_move rfl) (.run [100000, 1800] [] rfl (st_callG (.inr rfl) rfl 1800 (X := [100000]) en139 rfl (.val nod) (.cons (.rptr rfl) (.cons (.one (.bor .v)) .nil)) (by decide) (all_cons rfl all_nil) (.keep (xs := pvRd (cv, q)) rfl (FlatP.nf (pvRd_flat _)) .nil) (below_con hc hl q hp 256 (by omega)) rfl rfl (nle rfl)) (.run [] [] rfl (st_conv rfl rfl Try.underlying3 Try.underlying5) (.run [2000] [] rfl (st_buildSlice rfl 2000 Try.underlying34 inf5 (nle rfl) (by decide) rfl rfl rfl (.cons .v .nil) (by decide) rfl (by decide) rfl (by decide) rfl) (.run [1] [] rfl (st_append rfl 1 (ib := 1) (len := ((pvU l) ++ [[PV.v (.int .u8 (IntKind.u8.wrap ((belowV bs q 256 : Nat) : Int)))]]).length) rfl rfl (.row (len := (pvU l).length) (xs := pvU l) rfl rfl (.inl rfl)) (.give (len := 1) (xs := [[PV.v (.int .u8 (IntKind.u8.wrap ((belowV bs q 256 : Nat) : Int)))]]) rfl rfl) Try.underlying34 (sk Try.underlying34 rfl) inf5 rfl (by decide) (by decide) (by decide) List.length_append (by simp only [maxLen, List.length_append, List.length_map, List.length_cons, List.length_nil, List.length_take, List.length_drop, pvE_length, pvI_length, pvT_length, pvU_length]; omega) (by simp only [maxLen, List.length_append, List.length_map, List.length_cons, List.length_nil, List.length_take, List.length_drop, pvE_length, pvI_length, pvT_length, pvU_length]; omega)) (.run [] [] rfl (st_assign rfl) .nil))))))) ?_
    have hr2 : (pvU l) ++ [[PV.v (.int .u8 (IntKind.u8.wrap ((belowV bs q 256 : Nat) : Int)))]] = pvU (l ++ [IntKind.u8.wrap ((belowV bs q 256 : Nat) : Int)]) := by simp [pvU]
    have hp3 : (.sl 1 0 (((pvU l) ++ [[PV.v (.int .u8 (IntKind.u8.wrap ((belowV bs q 256 : Nat) : Int)))]]).length) : AV) = .sl 1 0 ((pvU (l ++ [IntKind.u8.wrap ((belowV bs q 256 : Nat) : Int)])).length) := by simp only [hr2]
    refine tr_wk (s' := mk [(0, .ea 100000 0 0), (5, .sl 1 0 ((pvU (l ++ [IntKind.u8.wrap ((belowV bs q 256 : Nat) : Int)])).length)), (6, .p none (.v (.int .i64 (i:Int))))] [] [(1, 1, pvU (l ++ [IntKind.u8.wrap ((belowV bs q 256 : Nat) : Int)])), (100000, 2, pvRd (cv, belowP bs q 256))]) ?_ ?_
    · exact wk_mk ⟨rfl, ⟨hp3, ⟨rfl, trivial⟩⟩⟩ trivial ⟨(congrArg (fun x => some (1, x)) hr2), ⟨rfl, trivial⟩⟩ rfl
    refine tr_region rfl (.run [] [] rfl (st_move rfl) (.run [] [] rfl (st_subn rfl rfl rfl (by omega)) (.run [] [] rfl (st_assign rfl) .nil))) ?_
-- round row 100000: pvRd (cv, (belowP bs q 256)) now pvRd (cv, belowP bs q 256)
    refine nxt (Q := fun _ _ => False) (z := (i, l, q)) (i - 1, l ++ [IntKind.u8.wrap ((belowV bs q 256 : Nat) : Int)], belowP bs q 256) ?_ ?_ ?_
    · show (i - 1) ≤ 1001 ∧ (l ++ [IntKind.u8.wrap ((belowV bs q 256 : Nat) : Int)]).length + (i - 1) ≤ 1001 ∧ (belowP bs q 256) ≤ bs.length ∧ bytesL bs (i - 1) (l ++ [IntKind.u8.wrap ((belowV bs q 256 : Nat) : Int)]) (belowP bs q 256) = bytesR bs p most
      exact ⟨by omega, by simp only [List.length_append, List.length_cons, List.length_nil]; omega, belowP_le hp, bytesL_go (by omega) hE⟩
    · show (i - 1) < i
      omega
    · exact wk_mk ⟨rfl, ⟨rfl, ⟨(int_eq (by omega)), trivial⟩⟩⟩ trivial ⟨rfl, ⟨rfl, trivial⟩⟩ rfl
  · skip
    replace h1 := of_decide_eq_false h1
    refine tr_exit ?_
    refine tr_seq ?_
    have hi0 : i = 0 := (by omega)
    rw [hi0] at hE
    have hEm : (l, q) = bytesR bs p most := hE
    refine tr_region rfl (.run [] [] rfl (st_move rfl) (.run [] [] rfl (st_strN l rfl rfl (.give (len := (pvU l).length) (xs := pvU l) rfl rfl) rfl rfl Try.underlying34 Try.underlying9 Try.underlying5) (.run [] [] rfl (st_assign rfl) .nil))) ?_
    refine tr_ret ?_
    exact ends [_] [] (.cons (.tmp (str_eq (by rw [bytesV, ← hEm]))) .nil) (.cons (.one .v (.v _)) .nil) (by decide) (outs1 (congrArg (fun x => some (2, x)) (congrArg pvRd (congrArg (Prod.mk cv) (by rw [bytesP, ← hEm])))) (pvRd_flat _) (by decide))
set_option maxRecDepth 1000000 in
set_option maxHeartbeats 2000000 in
theorem value_con {γ : Gho} {cv : Value} {bs : List Nat} (hc : CodeAt γ cv bs) (hl : bs.length ≤ 1152921504606846976) (p : Nat) (hp : p ≤ bs.length)  : ConG γ Try.prog 170 [.rptr 2 [PV.v (cv), PV.v (.int .i64 (p:Int))]] [some (pvRd (cv, belowP bs p 5))] [.one (.v (.string (valueV bs p)))] := by
  refine con_of_tr Try.func170 rfl rfl rfl rfl ?_
  refine tr_seq ?_
  refine tr_region rfl (.run [] [] rfl (st_assign rfl) .nil) ?_
  refine tr_seq ?_
  refine tr_region rfl (.run [300] [] rfl (st_buildSlice rfl 300 Try.underlying147 inf9 (nle rfl) (by decide) rfl rfl rfl (.cons .v (.cons .v (.cons .v (.cons .v (.cons .v .nil))))) (by decide) rfl (by decide) rfl (by decide) rfl) (.run [] [] rfl (st_move rfl) (.run [100000, 500] [] rfl (st_callG (.inr rfl) rfl 500 (X := [100000]) en139 rfl (.val nod) (.cons (.rptr rfl) (.cons (.one (.bor .v)) .nil)) (by decide) (all_cons rfl all_nil) (.keep (xs := pvRd (cv, p)) rfl (FlatP.nf (pvRd_flat _)) .nil) (below_con hc hl p hp 5 (by omega)) rfl rfl (nle rfl)) (.run [] [] rfl (st_idx_row0 (belowV bs p 5) rfl rfl rfl rfl Try.underlying147 Try.sizeOf9 rfl rfl (belowV_lt (by decide))) (.run [] [] rfl (st_load_ea1 rfl rfl rfl (pvT_get (value_get bs p)) Try.isAgg9 rfl) (.run [] [] rfl (st_assign rfl) .nil)))))) ?_
  refine tr_ret ?_
  exact ends [_] [] (.cons (.tmp rfl) .nil) (.cons (.one .v (.v _)) .nil) (by decide) (outs1 (congrArg (fun x => some (2, x)) (congrArg pvRd (congrArg (Prod.mk cv) rfl))) (pvRd_flat _) (by decide))
set_option maxRecDepth 1000000 in
set_option maxHeartbeats 2000000 in
theorem key_con {γ : Gho} {cv : Value} {bs : List Nat} (hc : CodeAt γ cv bs) (hl : bs.length ≤ 1152921504606846976) (p : Nat) (hp : p ≤ bs.length)  : ConG γ Try.prog 169 [.rptr 2 [PV.v (cv), PV.v (.int .i64 (p:Int))]] [some (pvRd (cv, keyP bs p))] [.agg [.v (.string (keyV bs p).user), .v (.int .i64 (keyV bs p).seq), .v (.int .i64 (keyV bs p).kind)]] := by
  refine con_of_tr Try.func169 rfl rfl rfl rfl ?_
  refine tr_seq ?_
  refine tr_region rfl (.run [] [2] rfl (st_allocZ rfl 2 inf42 rfl (by decide) rfl (by decide)) .nil) ?_
  refine tr_seq ?_
  refine tr_region rfl (.run [] [] rfl (st_move rfl) (.run [100000, 500] [] rfl (st_callG (.inr rfl) rfl 500 (X := [100000]) en128 rfl (.val nod) (.cons (.rptr rfl) .nil) (by decide) (all_cons rfl all_nil) (.keep (xs := pvRd (cv, p)) rfl (FlatP.nf (pvRd_flat _)) .nil) (user_con hc hl p hp) rfl rfl (nle rfl)) (.run [] [] rfl (st_move rfl) (.run [100000, 700] [] rfl (st_callG (.inr rfl) rfl 700 (X := [100000]) en180 rfl (.val nod) (.cons (.rptr rfl) (.cons (.one (.bor .v)) (.cons (.one (.bor .v)) .nil))) (by decide) (all_cons rfl all_nil) (.keep (xs := pvRd (cv, userP bs p)) rfl (FlatP.nf (pvRd_flat _)) .nil) (near_con hc hl (userP bs p) (belowP_le hp) 0 12 (by omega) (by omega)) rfl rfl (nle rfl)) (.run [] [] rfl (st_move rfl) (.run [100000, 900] [] rfl (st_callG (.inr rfl) rfl 900 (X := [100000]) en139 rfl (.val nod) (.cons (.rptr rfl) (.cons (.one (.bor .v)) .nil)) (by decide) (all_cons rfl all_nil) (.keep (xs := pvRd (cv, nearP bs (userP bs p) 0 12)) rfl (FlatP.nf (pvRd_flat _)) .nil) (below_con hc hl (nearP bs (userP bs p) 0 12) (nearP_le (belowP_le hp)) 2 (by omega)) rfl rfl (nle rfl)) (.run [] [] rfl (st_build (pl := [(0, 1), (1, 1), (2, 1)]) rfl Try.underlying42 inf42 (by kernel_rfl) rfl rfl) (.run [] [3] rfl (st_allocZ rfl 3 inf42 rfl (by decide) rfl (by decide)) (.run [] [] rfl (st_store_box rfl rfl rfl rfl rfl Try.sizeOf42 rfl (nle rfl)) .nil))))))))) ?_
  refine tr_seq ?_
  refine tr_seq ?_
  refine tr_region rfl (.run [] [] rfl (st_move rfl) (.run [100000, 1200] [] rfl (st_callG (.inr rfl) rfl 1200 (X := [100000]) en139 rfl (.val nod) (.cons (.rptr rfl) (.cons (.one (.bor .v)) .nil)) (by decide) (all_cons rfl all_nil) (.keep (xs := pvRd (cv, belowP bs (nearP bs (userP bs p) 0 12) 2)) rfl (FlatP.nf (pvRd_flat _)) .nil) (below_con hc hl (belowP bs (nearP bs (userP bs p) 0 12) 2) (belowP_le (nearP_le (belowP_le hp))) 24 (by omega)) rfl rfl (nle rfl)) .nil)) ?_
  refine tr_block ?_
  refine tr_seq ?_
  refine tr_region rfl (.run [] [] rfl (st_eql rfl rfl rfl) (.run [] [] rfl (st_assign rfl) .nil)) ?_
  refine tr_if (t := decide (((belowV bs (belowP bs (nearP bs (userP bs p) 0 12) 2) 24 : Nat) : Int) = 0)) rfl (fun h1 => ?_) (fun h1 => ?_)
  · skip
    replace h1 := of_decide_eq_true h1
    refine tr_wk (s' := mk [(0, .ea 100000 0 0), (2, .ptr 2 0), (3, .ptr 3 0)] [(2, [.p none (.v (.string ⟨#[]⟩)), .p none (.v (.int .i64 0)), .p none (.v (.int .i64 0))]), (3, [.p none (.v (.string (userV bs p))), .p none (.v (.int .i64 (nearV bs (userP bs p) 0 12))), .p none (.v (.int .i64 ((belowV bs (nearP bs (userP bs p) 0 12) 2 : Nat) : Int)))])] [(100000, 2, pvRd (cv, belowP bs (belowP bs (nearP bs (userP bs p) 0 12) 2) 24))]) ?_ ?_
    · exact wk_mk ⟨rfl, ⟨rfl, ⟨rfl, trivial⟩⟩⟩ ⟨rfl, ⟨rfl, trivial⟩⟩ ⟨rfl, trivial⟩ rfl
    refine tr_region rfl (.run [] [] rfl (st_move rfl) (.run [100000, 1600] [] rfl (st_callG (.inr rfl) rfl 1600 (X := [100000]) en162 rfl (.val nod) (.cons (.rptr rfl) (.cons (.one (.bor .v)) (.cons (.one (.bor .v)) .nil))) (by decide) (all_cons rfl all_nil) (.keep (xs := pvRd (cv, belowP bs (belowP bs (nearP bs (userP bs p) 0 12) 2) 24)) rfl (FlatP.nf (pvRd_flat _)) .nil) (off_con hc hl (belowP bs (belowP bs (nearP bs (userP bs p) 0 12) 2) 24) (belowP_le (belowP_le (nearP_le (belowP_le hp)))) 0 1000000000000 (by omega) (by omega)) rfl rfl (nle rfl)) (.run [] [] rfl (st_faddr_box rfl rfl Try.underlying42 rfl Try.sizeOf2 (by decide)) (.run [] [] rfl (st_store_box rfl rfl rfl rfl rfl Try.sizeOf2 rfl (nle rfl)) .nil)))) ?_
    refine tr_seq ?_
    have hk := key_0 (bs := bs) (p := p) (by show belowV bs (key0P bs p) 24 = 0; unfold key0P; omega)
    rw [hk.1, hk.2]
    refine tr_region rfl (.run [] [] rfl (st_load_box rfl rfl rfl Try.isAgg42 Try.sizeOf42 (nle rfl)) (.run [] [] rfl (st_store_box rfl rfl rfl rfl rfl Try.sizeOf42 rfl (nle rfl)) .nil)) ?_
    refine tr_ret ?_
    exact ends [_] [] (.cons (.cell rfl rfl Try.isAgg42 Try.sizeOf42 (nle rfl)) .nil) (.cons (.agg (.cons .v (.cons .v (.cons .v .nil))) (cl_cons (.v _) (cl_cons (.v _) (cl_cons (.v _) cl_nil)))) .nil) (by decide) (outs1 (congrArg (fun x => some (2, x)) (congrArg pvRd (congrArg (Prod.mk cv) rfl))) (pvRd_flat _) (by decide))
  · skip
    replace h1 := of_decide_eq_false h1
    refine tr_seq ?_
    refine tr_region rfl (.run [] [] rfl (st_eql rfl rfl rfl) (.run [] [] rfl (st_assign rfl) .nil)) ?_
    refine tr_if (t := decide (((belowV bs (belowP bs (nearP bs (userP bs p) 0 12) 2) 24 : Nat) : Int) = 1)) rfl (fun h2 => ?_) (fun h2 => ?_)
    · skip
      replace h2 := of_decide_eq_true h2
      refine tr_wk (s' := mk [(0, .ea 100000 0 0), (2, .ptr 2 0), (3, .ptr 3 0)] [(2, [.p none (.v (.string ⟨#[]⟩)), .p none (.v (.int .i64 0)), .p none (.v (.int .i64 0))]), (3, [.p none (.v (.string (userV bs p))), .p none (.v (.int .i64 (nearV bs (userP bs p) 0 12))), .p none (.v (.int .i64 ((belowV bs (nearP bs (userP bs p) 0 12) 2 : Nat) : Int)))])] [(100000, 2, pvRd (cv, belowP bs (belowP bs (nearP bs (userP bs p) 0 12) 2) 24))]) ?_ ?_
      · exact wk_mk ⟨rfl, ⟨rfl, ⟨rfl, trivial⟩⟩⟩ ⟨rfl, ⟨rfl, trivial⟩⟩ ⟨rfl, trivial⟩ rfl
      refine tr_region rfl (.run [] [] rfl (st_move rfl) (.run [100000, 2100] [] rfl (st_callG (.inr rfl) rfl 2100 (X := [100000]) en162 rfl (.val nod) (.cons (.rptr rfl) (.cons (.one (.bor .v)) (.cons (.one (.bor .v)) .nil))) (by decide) (all_cons rfl all_nil) (.keep (xs := pvRd (cv, belowP bs (belowP bs (nearP bs (userP bs p) 0 12) 2) 24)) rfl (FlatP.nf (pvRd_flat _)) .nil) (off_con hc hl (belowP bs (belowP bs (nearP bs (userP bs p) 0 12) 2) 24) (belowP_le (belowP_le (nearP_le (belowP_le hp)))) 0 1 (by omega) (by omega)) rfl rfl (nle rfl)) (.run [] [] rfl (st_faddr_box rfl rfl Try.underlying42 rfl Try.sizeOf2 (by decide)) (.run [] [] rfl (st_store_box rfl rfl rfl rfl rfl Try.sizeOf2 rfl (nle rfl)) .nil)))) ?_
      refine tr_seq ?_
      have hk := key_1 (bs := bs) (p := p) (by show ¬ belowV bs (key0P bs p) 24 = 0; unfold key0P; omega) (by show belowV bs (key0P bs p) 24 = 1; unfold key0P; omega)
      rw [hk.1, hk.2]
      refine tr_region rfl (.run [] [] rfl (st_load_box rfl rfl rfl Try.isAgg42 Try.sizeOf42 (nle rfl)) (.run [] [] rfl (st_store_box rfl rfl rfl rfl rfl Try.sizeOf42 rfl (nle rfl)) .nil)) ?_
      refine tr_ret ?_
      exact ends [_] [] (.cons (.cell rfl rfl Try.isAgg42 Try.sizeOf42 (nle rfl)) .nil) (.cons (.agg (.cons .v (.cons .v (.cons .v .nil))) (cl_cons (.v _) (cl_cons (.v _) (cl_cons (.v _) cl_nil)))) .nil) (by decide) (outs1 (congrArg (fun x => some (2, x)) (congrArg pvRd (congrArg (Prod.mk cv) rfl))) (pvRd_flat _) (by decide))
    · skip
      replace h2 := of_decide_eq_false h2
      refine tr_seq ?_
      refine tr_wk (s' := mk [(0, .ea 100000 0 0), (2, .ptr 2 0), (3, .ptr 3 0), (12, .p none (.v (.int .i64 ((belowV bs (belowP bs (nearP bs (userP bs p) 0 12) 2) 24 : Nat) : Int))))] [(2, [.p none (.v (.string ⟨#[]⟩)), .p none (.v (.int .i64 0)), .p none (.v (.int .i64 0))]), (3, [.p none (.v (.string (userV bs p))), .p none (.v (.int .i64 (nearV bs (userP bs p) 0 12))), .p none (.v (.int .i64 ((belowV bs (nearP bs (userP bs p) 0 12) 2 : Nat) : Int)))])] [(100000, 2, pvRd (cv, belowP bs (belowP bs (nearP bs (userP bs p) 0 12) 2) 24))]) ?_ ?_
      · exact wk_mk ⟨rfl, ⟨rfl, ⟨rfl, ⟨rfl, trivial⟩⟩⟩⟩ ⟨rfl, ⟨rfl, trivial⟩⟩ ⟨rfl, trivial⟩ rfl
      refine tr_region rfl (.run [] [] rfl (st_eql rfl rfl rfl) (.run [] [] rfl (st_assign rfl) .nil)) ?_
      refine tr_if (t := decide (((belowV bs (belowP bs (nearP bs (userP bs p) 0 12) 2) 24 : Nat) : Int) = 2)) rfl (fun h3 => ?_) (fun h3 => ?_)
      · skip
        replace h3 := of_decide_eq_true h3
        refine tr_region rfl (.run [] [] rfl (st_move rfl) (.run [100000, 2600] [] rfl (st_callG (.inr rfl) rfl 2600 (X := [100000]) en181 rfl (.val nod) (.cons (.rptr rfl) (.cons (.one (.bor .v)) .nil)) (by decide) (all_cons rfl all_nil) (.keep (xs := pvRd (cv, belowP bs (belowP bs (nearP bs (userP bs p) 0 12) 2) 24)) rfl (FlatP.nf (pvRd_flat _)) .nil) (bytes_con hc hl (belowP bs (belowP bs (nearP bs (userP bs p) 0 12) 2) 24) (belowP_le (belowP_le (nearP_le (belowP_le hp)))) 45 (by omega)) rfl rfl (nle rfl)) (.run [] [] rfl (st_faddr_box rfl rfl Try.underlying42 rfl Try.sizeOf9 (by decide)) (.run [] [] rfl (st_store_box rfl rfl rfl rfl rfl Try.sizeOf9 rfl (nle rfl)) .nil)))) ?_
        refine tr_seq ?_
        have hk := key_2 (bs := bs) (p := p) (by show ¬ belowV bs (key0P bs p) 24 = 0; unfold key0P; omega) (by show ¬ belowV bs (key0P bs p) 24 = 1; unfold key0P; omega) (by show belowV bs (key0P bs p) 24 = 2; unfold key0P; omega)
        rw [hk.1, hk.2]
        refine tr_region rfl (.run [] [] rfl (st_load_box rfl rfl rfl Try.isAgg42 Try.sizeOf42 (nle rfl)) (.run [] [] rfl (st_store_box rfl rfl rfl rfl rfl Try.sizeOf42 rfl (nle rfl)) .nil)) ?_
        refine tr_ret ?_
        exact ends [_] [] (.cons (.cell rfl rfl Try.isAgg42 Try.sizeOf42 (nle rfl)) .nil) (.cons (.agg (.cons .v (.cons .v (.cons .v .nil))) (cl_cons (.v _) (cl_cons (.v _) (cl_cons (.v _) cl_nil)))) .nil) (by decide) (outs1 (congrArg (fun x => some (2, x)) (congrArg pvRd (congrArg (Prod.mk cv) rfl))) (pvRd_flat _) (by decide))
      · skip
        replace h3 := of_decide_eq_false h3
        refine tr_skip ?_
        refine tr_seq ?_
        have hk := key_3 (bs := bs) (p := p) (by show ¬ belowV bs (key0P bs p) 24 = 0; unfold key0P; omega) (by show ¬ belowV bs (key0P bs p) 24 = 1; unfold key0P; omega) (by show ¬ belowV bs (key0P bs p) 24 = 2; unfold key0P; omega)
        rw [hk.1, hk.2]
        refine tr_region rfl (.run [] [] rfl (st_load_box rfl rfl rfl Try.isAgg42 Try.sizeOf42 (nle rfl)) (.run [] [] rfl (st_store_box rfl rfl rfl rfl rfl Try.sizeOf42 rfl (nle rfl)) .nil)) ?_
        refine tr_ret ?_
        exact ends [_] [] (.cons (.cell rfl rfl Try.isAgg42 Try.sizeOf42 (nle rfl)) .nil) (.cons (.agg (.cons .v (.cons .v (.cons .v .nil))) (cl_cons (.v _) (cl_cons (.v _) (cl_cons (.v _) cl_nil)))) .nil) (by decide) (outs1 (congrArg (fun x => some (2, x)) (congrArg pvRd (congrArg (Prod.mk cv) rfl))) (pvRd_flat _) (by decide))
set_option maxRecDepth 1000000 in
set_option maxHeartbeats 2000000 in
theorem entry_con {γ : Gho} {cv : Value} {bs : List Nat} (hc : CodeAt γ cv bs) (hl : bs.length ≤ 1152921504606846976) (p : Nat) (hp : p ≤ bs.length)  : ConG γ Try.prog 140 [.rptr 2 [PV.v (cv), PV.v (.int .i64 (p:Int))]] [some (pvRd (cv, entryP bs p))] [.agg [.v (.string (entryV bs p).user), .v (.int .i64 (entryV bs p).seq), .v (.int .i64 (entryV bs p).kind), .v (.string (entryV bs p).value)]] := by
  refine con_of_tr Try.func140 rfl rfl rfl rfl ?_
  refine tr_seq ?_
  refine tr_region rfl (.run [] [2] rfl (st_allocZ rfl 2 inf44 rfl (by decide) rfl (by decide)) .nil) ?_
  refine tr_seq ?_
  refine tr_region rfl (.run [] [] rfl (st_move rfl) (.run [100000, 500, 501, 502] [] rfl (st_callG (.inr rfl) rfl 500 (X := [100000]) en169 rfl (.val nod) (.cons (.rptr rfl) .nil) (by decide) (all_cons rfl all_nil) (.keep (xs := pvRd (cv, p)) rfl (FlatP.nf (pvRd_flat _)) .nil) (key_con hc hl p hp) rfl rfl (nle rfl)) (.run [] [] rfl (st_move rfl) (.run [100000, 700] [] rfl (st_callG (.inr rfl) rfl 700 (X := [100000]) en170 rfl (.val nod) (.cons (.rptr rfl) .nil) (by decide) (all_cons rfl all_nil) (.keep (xs := pvRd (cv, keyP bs p)) rfl (FlatP.nf (pvRd_flat _)) .nil) (value_con hc hl (keyP bs p) (keyP_le hp)) rfl rfl (nle rfl)) (.run [] [] rfl (st_build (pl := [(0, 3), (3, 1)]) rfl Try.underlying44 inf44 (by kernel_rfl) rfl rfl) (.run [] [3] rfl (st_allocZ rfl 3 inf44 rfl (by decide) rfl (by decide)) (.run [] [] rfl (st_store_box rfl rfl rfl rfl rfl Try.sizeOf44 rfl (nle rfl)) .nil))))))) ?_
  refine tr_seq ?_
  refine tr_seq ?_
  refine tr_wk (s' := mk [(0, .ea 100000 0 0), (2, .ptr 2 0), (3, .ptr 3 0)] [(2, [.p none (.v (.string ⟨#[]⟩)), .p none (.v (.int .i64 0)), .p none (.v (.int .i64 0)), .p none (.v (.string ⟨#[]⟩))]), (3, [.p none (.v (.string ((keyV bs p).user))), .p none (.v (.int .i64 ((keyV bs p).seq))), .p none (.v (.int .i64 ((keyV bs p).kind))), .p none (.v (.string (valueV bs (keyP bs p))))])] [(100000, 2, pvRd (cv, belowP bs (keyP bs p) 5))]) ?_ ?_
  · exact wk_mk ⟨rfl, ⟨rfl, ⟨rfl, trivial⟩⟩⟩ ⟨rfl, ⟨rfl, trivial⟩⟩ ⟨rfl, trivial⟩ rfl
  rcases bfc (decide (((keyV bs p).kind) = 0)) with h1 | h1
  · have h1' := h1
    replace h1' := of_decide_eq_false h1'
    refine tr_region rfl (.run [] [] rfl (st_faddr_box rfl rfl Try.underlying44 rfl Try.sizeOf42 (by decide)) (.run [] [] rfl (st_faddr_box rfl rfl Try.underlying42 rfl Try.sizeOf2 (by decide)) (.run [] [] rfl (st_load_box1 rfl rfl rfl Try.isAgg2 rfl) (.run [] [] rfl (st_eq (st_eql rfl rfl rfl) (bool_eq h1)) (.run [] [] rfl (st_move rfl) (.not rfl (.not rfl (.not rfl (.run [] [] rfl (st_pick (t := false) rfl rfl) .nil))))))))) ?_
    refine tr_if (t := false) rfl (fun h => nomatch h) (fun _ => ?_)
    refine tr_skip ?_
    refine tr_seq ?_
    have hk := ent_2 (bs := bs) (p := p) h1'
    rw [hk.1, hk.2]
    refine tr_region rfl (.run [] [] rfl (st_load_box rfl rfl rfl Try.isAgg44 Try.sizeOf44 (nle rfl)) (.run [] [] rfl (st_store_box rfl rfl rfl rfl rfl Try.sizeOf44 rfl (nle rfl)) .nil)) ?_
    refine tr_ret ?_
    exact ends [_] [] (.cons (.cell rfl rfl Try.isAgg44 Try.sizeOf44 (nle rfl)) .nil) (.cons (.agg (.cons .v (.cons .v (.cons .v (.cons .v .nil)))) (cl_cons (.v _) (cl_cons (.v _) (cl_cons (.v _) (cl_cons (.v _) cl_nil))))) .nil) (by decide) (outs1 (congrArg (fun x => some (2, x)) (congrArg pvRd (congrArg (Prod.mk cv) rfl))) (pvRd_flat _) (by decide))
  · have h1' := h1
    replace h1' := of_decide_eq_true h1'
    refine tr_region rfl (.run [] [] rfl (st_faddr_box rfl rfl Try.underlying44 rfl Try.sizeOf42 (by decide)) (.run [] [] rfl (st_faddr_box rfl rfl Try.underlying42 rfl Try.sizeOf2 (by decide)) (.run [] [] rfl (st_load_box1 rfl rfl rfl Try.isAgg2 rfl) (.run [] [] rfl (st_eq (st_eql rfl rfl rfl) (bool_eq h1)) (.run [] [] rfl (st_move rfl) (.run [] [] rfl (st_move rfl) (.run [100000, 1500] [] rfl (st_callG (.inr rfl) rfl 1500 (X := [100000]) en80 rfl (.val nod) (.cons (.rptr rfl) (.cons (.one (.bor .v)) .nil)) (by decide) (all_cons rfl all_nil) (.keep (xs := pvRd (cv, belowP bs (keyP bs p) 5)) rfl (FlatP.nf (pvRd_flat _)) .nil) (once_con hc hl (belowP bs (keyP bs p) 5) (belowP_le (keyP_le hp)) 12 (by omega)) rfl rfl (nle rfl)) (.run [] [] rfl (st_not (b := onceV bs (belowP bs (keyP bs p) 5) 12) rfl rfl) (.run [] [] rfl (st_pick (t := true) rfl rfl) .nil))))))))) ?_
    refine tr_if (t := (!(onceV bs (belowP bs (keyP bs p) 5) 12))) rfl (fun h2 => ?_) (fun h2 => ?_)
    · skip
      replace h2 : (onceV bs (belowP bs (keyP bs p) 5) 12) = false := bnot_t h2
      refine tr_region rfl (.run [] [] rfl (st_faddr_box rfl rfl Try.underlying44 rfl Try.sizeOf9 (by decide)) (.run [] [] rfl (st_store_box rfl rfl rfl rfl rfl Try.sizeOf9 rfl (nle rfl)) .nil)) ?_
      refine tr_seq ?_
      have hk := ent_1 (bs := bs) (p := p) h1' h2
      rw [hk.1, hk.2]
      refine tr_region rfl (.run [] [] rfl (st_load_box rfl rfl rfl Try.isAgg44 Try.sizeOf44 (nle rfl)) (.run [] [] rfl (st_store_box rfl rfl rfl rfl rfl Try.sizeOf44 rfl (nle rfl)) .nil)) ?_
      refine tr_ret ?_
      exact ends [_] [] (.cons (.cell rfl rfl Try.isAgg44 Try.sizeOf44 (nle rfl)) .nil) (.cons (.agg (.cons .v (.cons .v (.cons .v (.cons .v .nil)))) (cl_cons (.v _) (cl_cons (.v _) (cl_cons (.v _) (cl_cons (.v _) cl_nil))))) .nil) (by decide) (outs1 (congrArg (fun x => some (2, x)) (congrArg pvRd (congrArg (Prod.mk cv) rfl))) (pvRd_flat _) (by decide))
    · skip
      replace h2 : (onceV bs (belowP bs (keyP bs p) 5) 12) = true := bnot_f h2
      refine tr_skip ?_
      refine tr_seq ?_
      have hk := ent_0 (bs := bs) (p := p) h1' h2
      rw [hk.1, hk.2]
      refine tr_region rfl (.run [] [] rfl (st_load_box rfl rfl rfl Try.isAgg44 Try.sizeOf44 (nle rfl)) (.run [] [] rfl (st_store_box rfl rfl rfl rfl rfl Try.sizeOf44 rfl (nle rfl)) .nil)) ?_
      refine tr_ret ?_
      exact ends [_] [] (.cons (.cell rfl rfl Try.isAgg44 Try.sizeOf44 (nle rfl)) .nil) (.cons (.agg (.cons .v (.cons .v (.cons .v (.cons .v .nil)))) (cl_cons (.v _) (cl_cons (.v _) (cl_cons (.v _) (cl_cons (.v _) cl_nil))))) .nil) (by decide) (outs1 (congrArg (fun x => some (2, x)) (congrArg pvRd (congrArg (Prod.mk cv) rfl))) (pvRd_flat _) (by decide))
set_option maxRecDepth 1000000 in
set_option maxHeartbeats 2000000 in
theorem big0_con {γ : Gho} (bs : List Nat) (A : Option Addr) (c : Nat) : ConG γ Try.prog 27 [.one (PV.v (.slice A bs.length c))] [] [.one (.v (.bool (decide ((1048576 : Int) < (bs.length : Int)))))] := by
  refine con_of_tr Try.func27 rfl rfl rfl rfl ?_
  refine tr_seq ?_
  refine tr_region rfl (.run [] [] rfl (st_assign rfl) .nil) ?_
  refine tr_seq ?_
  refine tr_region rfl (.run [] [] rfl (st_move rfl) (.run [] [] rfl (st_len_v rfl rfl Try.underlying34) (.run [] [] rfl (st_gtr rfl rfl rfl) (.run [] [] rfl (st_assign rfl) .nil)))) ?_
  refine tr_ret ?_
  exact ends [_] [] (.cons (.tmp rfl) .nil) (.cons (.one .v (.v _)) .nil) (by decide) trivial
theorem big_con {γ : Gho} {cv : Value} {bs : List Nat} (hc : CodeAt γ cv bs) : ConG γ Try.prog 27 [.one (.v cv)] [] [.one (.v (.bool (decide ((1048576 : Int) < (bs.length : Int)))))] := by
  obtain ⟨A, c, rfl, hcc⟩ := hc
  exact big0_con bs A c
set_option maxRecDepth 1000000 in
set_option maxHeartbeats 2000000 in
theorem open_con {γ : Gho} (cv : Value) : ConG γ Try.prog 77 [.one (PV.v (cv))] [] [.rptr 2 [.v cv, .v (.int .i64 (0:Int))]] := by
  refine con_of_tr Try.func77 rfl rfl rfl rfl ?_
  refine tr_seq ?_
  refine tr_region rfl (.run [] [] rfl (st_assign rfl) .nil) ?_
  refine tr_seq ?_
  refine tr_region rfl (.run [] [] rfl (st_move rfl) (.run [] [] rfl (st_build (pl := [(0, 1), (1, 1)]) rfl Try.underlying152 inf152 (by kernel_rfl) rfl rfl) (.run [500] [] rfl (st_box_row rfl 500 rfl rfl rfl (by decide) rfl (by decide)) (.run [] [] rfl (st_assign rfl) .nil)))) ?_
  refine tr_ret ?_
  exact ends [_] [500] (.cons (.tmp rfl) .nil) (.cons (.rptr rfl pvRd_clean) .nil) (by decide) trivial
end Go.Rl
namespace Go.Rl
theorem lessE_of {a b : Ent} (h : cmpK a b < 0) : LessE a b := by
  by_cases h1 : LessE a b
  · exact h1
  · by_cases h2 : a.user = b.user ∧ a.seq = b.seq ∧ a.kind = b.kind
    · rw [cmpK_eq h2.1 h2.2.1 h2.2.2] at h; omega
    · rw [cmpK_gt h1 h2] at h; omega
theorem LessE.trans {a b c : Ent} (h : LessE a b) (k : LessE b c) : LessE a c := by
  rcases h with h | ⟨hu, h⟩
  · rcases k with k | ⟨ku, _⟩
    · exact .inl (ltB_trans h k)
    · exact .inl (by rw [← ku]; exact h)
  · rcases k with k | ⟨ku, k⟩
    · exact .inl (by rw [hu]; exact k)
    · refine .inr ⟨hu.trans ku, ?_⟩
      rcases h with h | ⟨h1, h2⟩
      · rcases k with k | ⟨k1, k2⟩
        · exact .inl (by omega)
        · exact .inl (by omega)
      · rcases k with k | ⟨k1, k2⟩
        · exact .inl (by omega)
        · exact .inr ⟨by omega, by omega⟩
theorem LessE.irrefl {a : Ent} (h : LessE a a) : False := by
  rcases h with h | ⟨_, h | ⟨_, h⟩⟩
  · rw [ltB_irr] at h; cases h
  · omega
  · omega
/-! #### the needed places stand in order -/
theorem cstep_cases (b : Bool) (out : List Ent) (e : Ent) : (cstep b out e = e :: out) ∨ (cstep b out e = out ∧ b = true ∧ e.kind = 0 ∧ older out e = false) := by
  by_cases h : b = true ∧ e.kind = 0 ∧ older out e = false
  · exact .inr ⟨cstep_drop h.1 h.2.1 h.2.2, h⟩
  · exact .inl (cstep_keep h)
/-- What is kept of the last k of them. -/
theorem compU_mem {l : List Ent} {b : Bool} {zs : List Int} (hz : ∀ z ∈ zs, ∃ q : Nat, z = (q : Int) ∧ q < l.length) : ∀ {k : Nat} {x : Ent}, k ≤ zs.length → x ∈ compU l b zs k → ∃ (j q : Nat), zs.length - k ≤ j ∧ zs[j]? = some (q : Int) ∧ l[q]? = some x
  | 0, x, _, h => by simp [compU, Go.Proofs.Bw.upto, compP] at h
  | k + 1, x, hk, h => by
    obtain ⟨z, hzz⟩ : ∃ z, zs[zs.length - 1 - k]? = some z := ⟨_, List.getElem?_eq_getElem (by omega)⟩
    obtain ⟨q, rfl, hq⟩ := hz z (List.mem_of_getElem? hzz)
    obtain ⟨e, he⟩ : ∃ e, l[q]? = some e := ⟨_, List.getElem?_eq_getElem hq⟩
    have hs := compU_succ (l := l) (bot := b) (i := zs.length - 1 - k) (k := k) (by omega) hzz (e := e) (by simpa using he)
    rw [hs] at h
    have rec_ : x ∈ compU l b zs k → ∃ (j q : Nat), zs.length - (k + 1) ≤ j ∧ zs[j]? = some (q : Int) ∧ l[q]? = some x := fun hx => by
      obtain ⟨j, q', h1, h2, h3⟩ := compU_mem hz (by omega) hx
      exact ⟨j, q', by omega, h2, h3⟩
    rcases cstep_cases b (compU l b zs k) e with hc | ⟨hc, _⟩
    · rw [hc] at h
      rcases List.mem_cons.1 h with rfl | h
      · exact ⟨zs.length - 1 - k, q, by omega, hzz, he⟩
      · exact rec_ h
    · rw [hc] at h; exact rec_ h
end Go.Rl
namespace Go.Rl
end Go.Rl
namespace Go.Rl
open Go.Proofs
theorem en27 : ∀ vs w, (callFunc 27 vs).run Try.prog w = .ok (.enter 27 vs) w := enters Try.func27 (by decide) rfl
end Go.Rl
namespace Go.Rl
structure Pr where
  user : ByteArray
  value : ByteArray
  deriving DecidableEq
def Pr.pv (e : Pr) : List PV := [.v (.string e.user), .v (.string e.value)]
def pvP (l : List Pr) : List (List PV) := l.map Pr.pv
theorem pvP_length (l : List Pr) : (pvP l).length = l.length := by simp [pvP]
theorem pvP_get {l : List Pr} {i : Nat} {e : Pr} (h : l[i]? = some e) : (pvP l)[i]? = some e.pv := by simp [pvP, h]
theorem pvP_flat (l : List Pr) : FlatP (pvP l) := fun es he p hp => by
  obtain ⟨s, _, rfl⟩ := List.mem_map.1 he
  simp only [Pr.pv, List.mem_cons, List.not_mem_nil, or_false] at hp
  rcases hp with rfl | rfl <;> rfl
theorem pvP_snoc (l : List Pr) (e : Pr) : pvP l ++ [[PV.v (.string e.user), PV.v (.string e.value)]] = pvP (l ++ [e]) := by simp [pvP, Pr.pv]
/-! #### a look -/
def lookE (l : List Ent) (u : ByteArray) (p : Int) : Option Ent := if idxF (asOf u p) l < 0 then none else l[(idxF (asOf u p) l).toNat]?
def getC1 (o : Option Ent) : Int := match o with
  | some e => if e.kind = 0 then 2 else 1
  | none => 0
def getC2 (o : Option Ent) : ByteArray := match o with
  | some e => if e.kind = 0 then ⟨#[]⟩ else e.value
  | none => ⟨#[]⟩
theorem idx_neg {α : Type} {p : α → Bool} {l : List α} : idxF p l < 0 ↔ ∀ x ∈ l, p x = false := by
  unfold idxF
  cases hf : l.findIdx? p with
  | none =>
    simp only [show ((-1 : Int) < 0) = True by simp, true_iff]
    intro x hx
    exact List.findIdx?_eq_none_iff.1 hf x hx
  | some q =>
    simp only
    constructor
    · intro h; omega
    · intro h
      obtain ⟨h1, h2, _⟩ := List.findIdx?_eq_some_iff_getElem.1 hf
      rw [h _ (List.getElem_mem h1)] at h2
      cases h2
theorem look_none {l : List Ent} {u : ByteArray} {p : Int} (h : idxF (asOf u p) l < 0) : lookE l u p = none := if_pos h
theorem look_some {l : List Ent} {u : ByteArray} {p : Int} {e : Ent} (h : ¬ idxF (asOf u p) l < 0) (he : l[(idxF (asOf u p) l).toNat]? = some e) : lookE l u p = some e := (if_neg h).trans he
/-- A row in strict order. -/
def Strict (l : List Ent) : Prop := ∀ (i j : Nat) x e, i < j → l[i]? = some x → l[j]? = some e → LessE x e
/-- e is what l has of user u as of p. -/
def IsLook (l : List Ent) (u : ByteArray) (p : Int) (e : Ent) : Prop := e ∈ l ∧ asOf u p e = true ∧ ∀ x ∈ l, asOf u p x = true → x = e ∨ LessE e x
theorem look_is {l : List Ent} (hl : Strict l) {u : ByteArray} {p : Int} {e : Ent} {k : Nat} (hk : l[k]? = some e) (hp : asOf u p e = true) (hn : ∀ j e', j < k → l[j]? = some e' → asOf u p e' = false) : IsLook l u p e := by
  refine ⟨List.mem_of_getElem? hk, hp, fun x hx hpx => ?_⟩
  obtain ⟨j, hj⟩ := List.getElem?_of_mem hx
  rcases Nat.lt_trichotomy j k with h | h | h
  · rw [hn j x h hj] at hpx; cases hpx
  · subst h; rw [hk] at hj; cases hj; exact .inl rfl
  · exact .inr (hl k j e x h hk hj)
theorem lookE_iff {l : List Ent} (hl : Strict l) {u : ByteArray} {p : Int} {e : Ent} : lookE l u p = some e ↔ IsLook l u p e := by
  constructor
  · intro h
    unfold lookE at h
    split at h
    · cases h
    · rename_i hn
      obtain ⟨k, hk⟩ : ∃ k : Nat, idxF (asOf u p) l = (k : Int) := ⟨(idxF (asOf u p) l).toNat, by omega⟩
      rw [hk] at h
      obtain ⟨e', he', hp, hlt⟩ := idx_at.1 hk
      simp only [Int.toNat_natCast] at h
      rw [he'] at h; cases h
      exact look_is hl he' hp hlt
  · rintro ⟨h1, h2, h3⟩
    have hn : ¬ idxF (asOf u p) l < 0 := fun h => by rw [idx_neg.1 h e h1] at h2; cases h2
    obtain ⟨k, hk⟩ : ∃ k : Nat, idxF (asOf u p) l = (k : Int) := ⟨(idxF (asOf u p) l).toNat, by omega⟩
    obtain ⟨e', he', hp, hlt⟩ := idx_at.1 hk
    have he : e' = e := by
      rcases h3 e' (List.mem_of_getElem? he') hp with h | h
      · exact h
      · rcases (look_is hl he' hp hlt).2.2 e h1 h2 with h4 | h4
        · exact h4.symm
        · exact (h.trans h4).irrefl.elim
    subst he
    exact look_some hn (by rw [hk]; exact he')
/-! #### lists in order with the same elements -/
theorem sorted_ext {α : Type} {R : α → α → Prop} (hir : ∀ a, ¬ R a a) (hasy : ∀ a b, R a b → ¬ R b a) : ∀ {l m : List α}, l.Pairwise R → m.Pairwise R → (∀ x, x ∈ l ↔ x ∈ m) → l = m
  | [], [], _, _, _ => rfl
  | [], b :: m, _, _, h => by have := (h b).2 (by simp); cases this
  | a :: l, [], _, _, h => by have := (h a).1 (by simp); cases this
  | a :: l, b :: m, hl, hm, h => by
    rw [List.pairwise_cons] at hl hm
    have hab : a = b := by
      rcases List.mem_cons.1 ((h a).1 (by simp)) with e | e
      · exact e
      · rcases List.mem_cons.1 ((h b).2 (by simp)) with e' | e'
        · exact e'.symm
        · exact absurd (hm.1 a e) (hasy _ _ (hl.1 b e'))
    subst hab
    congr 1
    refine sorted_ext hir hasy hl.2 hm.2 (fun x => ⟨fun hx => ?_, fun hx => ?_⟩)
    · rcases List.mem_cons.1 ((h x).1 (List.mem_cons_of_mem _ hx)) with e | e
      · subst e; exact absurd (hl.1 x hx) (hir x)
      · exact e
    · rcases List.mem_cons.1 ((h x).2 (List.mem_cons_of_mem _ hx)) with e | e
      · subst e; exact absurd (hm.1 x hx) (hir x)
      · exact e
/-! #### what is visible -/
def visOne (l : List Ent) (p : Int) (u : ByteArray) : List Pr := if getC1 (lookE l u p) = 1 then [⟨u, getC2 (lookE l u p)⟩] else []
def visN (l : List Ent) (p : Int) (us : List ByteArray) : List Pr := us.flatMap (visOne l p)
def visF (l : List Ent) (p : Int) : List Pr := visN l p (usersF l)
theorem visN_yes {l : List Ent} {p : Int} {us : List ByteArray} {i : Nat} {u : ByteArray} (h : us[i]? = some u) (hg : getC1 (lookE l u p) = 1) : visN l p (us.take (i + 1)) = visN l p (us.take i) ++ [⟨u, getC2 (lookE l u p)⟩] := by
  simp [visN, List.take_add_one, h, visOne, hg]
theorem visN_no {l : List Ent} {p : Int} {us : List ByteArray} {i : Nat} {u : ByteArray} (h : us[i]? = some u) (hg : ¬ getC1 (lookE l u p) = 1) : visN l p (us.take (i + 1)) = visN l p (us.take i) := by
  simp [visN, List.take_add_one, h, visOne, hg]
theorem visN_len (l : List Ent) (p : Int) : ∀ us : List ByteArray, (visN l p us).length ≤ us.length
  | [] => Nat.le_refl _
  | u :: us => by
    have := visN_len l p us
    simp only [visN, List.flatMap_cons, List.length_append, List.length_cons] at this ⊢
    have h1 : (visOne l p u).length ≤ 1 := by unfold visOne; split <;> simp
    omega
theorem visN_mem {l : List Ent} {p : Int} {us : List ByteArray} {x : Pr} : x ∈ visN l p us ↔ x.user ∈ us ∧ ∃ e, lookE l x.user p = some e ∧ e.kind ≠ 0 ∧ e.value = x.value := by
  simp only [visN, List.mem_flatMap, visOne]
  constructor
  · rintro ⟨u, hu, hx⟩
    split at hx
    · rename_i hg
      rw [List.mem_singleton] at hx
      subst hx
      refine ⟨hu, ?_⟩
      simp only
      cases ho : lookE l u p with
      | none => rw [ho] at hg; simp [getC1] at hg
      | some e =>
        rw [ho] at hg
        have hk : ¬ e.kind = 0 := fun h => by simp [getC1, h] at hg
        exact ⟨e, rfl, hk, by simp [getC2, hk]⟩
    · cases hx
  · rintro ⟨hu, e, ho, hk, hv⟩
    refine ⟨x.user, hu, ?_⟩
    rw [ho, if_pos (by simp [getC1, hk])]
    simp [getC2, hk, hv]
theorem compactN_sorted {l : List ByteArray} (h : ∀ (i j : Nat) x y, i < j → l[i]? = some x → l[j]? = some y → ltB x y = true ∨ x = y) : ∀ n, (compactN l n).Pairwise (fun x y => ltB x y = true)
  | 0 => .nil
  | n + 1 => by
    have ih := compactN_sorted h n
    rw [compactN]
    cases hy : l[n]? with
    | none => exact ih
    | some y =>
      simp only
      split
      · exact ih
      · rename_i hd
        rw [List.pairwise_append]
        refine ⟨ih, List.pairwise_singleton _ _, fun a ha b hb => ?_⟩
        rw [List.mem_singleton] at hb
        subst hb
        obtain ⟨j, hj, hja⟩ := compactN_mem.1 ha
        rcases h j n a b hj hja hy with h1 | h1
        · exact h1
        · exfalso
          subst h1
          refine hd ⟨by omega, ?_⟩
          by_cases hjn : j = n - 1
          · rw [← hjn]; exact hja
          · obtain ⟨z, hz⟩ : ∃ z, l[n - 1]? = some z := ⟨_, List.getElem?_eq_getElem (by have := (List.getElem?_eq_some_iff.1 hy).1; omega)⟩
            rw [hz]
            rcases h j (n - 1) a z (by omega) hja hz with h2 | h2
            · rcases h (n - 1) n z a (by omega) hz hy with h3 | h3
              · rw [ltB_asymm h2] at h3; cases h3
              · rw [h3]
            · rw [h2]
theorem users_sorted {l : List Ent} (hl : Strict l) : (usersF l).Pairwise (fun x y => ltB x y = true) := by
  refine compactN_sorted (fun i j x y hij hx hy => ?_) _
  rw [List.getElem?_map] at hx hy
  cases hi : l[i]? with
  | none => rw [hi] at hx; cases hx
  | some a =>
    cases hj : l[j]? with
    | none => rw [hj] at hy; cases hy
    | some b =>
      rw [hi] at hx; rw [hj] at hy
      cases hx; cases hy
      rcases hl i j a b hij hi hj with h | ⟨h, _⟩
      · exact .inl h
      · exact .inr h
theorem visN_sorted {l : List Ent} {p : Int} : ∀ {us : List ByteArray}, us.Pairwise (fun x y => ltB x y = true) → (visN l p us).Pairwise (fun x y => ltB x.user y.user = true)
  | [], _ => .nil
  | u :: us, h => by
    rw [List.pairwise_cons] at h
    have ih := visN_sorted (l := l) (p := p) h.2
    show (visOne l p u ++ visN l p us).Pairwise _
    rw [List.pairwise_append]
    refine ⟨?_, ih, fun a ha b hb => ?_⟩
    · unfold visOne; split
      · exact List.pairwise_singleton _ _
      · exact .nil
    · have hb := (visN_mem.1 hb).1
      unfold visOne at ha
      split at ha
      · rw [List.mem_singleton] at ha; subst ha; exact h.1 _ hb
      · cases ha
theorem user_mem {l : List Ent} {u : ByteArray} : u ∈ usersF l ↔ ∃ e ∈ l, e.user = u := by
  rw [usersF, compact_mem, List.mem_map]
theorem vis_mem {l : List Ent} (hl : Strict l) {p : Int} {x : Pr} : x ∈ visF l p ↔ ∃ e, IsLook l x.user p e ∧ e.kind ≠ 0 ∧ e.value = x.value := by
  rw [visF, visN_mem]
  constructor
  · rintro ⟨_, e, h1, h2, h3⟩; exact ⟨e, (lookE_iff hl).1 h1, h2, h3⟩
  · rintro ⟨e, h1, h2, h3⟩
    refine ⟨user_mem.2 ⟨e, h1.1, ?_⟩, e, (lookE_iff hl).2 h1, h2, h3⟩
    have := h1.2.1
    simp only [asOf, Bool.and_eq_true, decide_eq_true_eq] at this
    exact this.1
/-! #### the compacted row -/
section
variable {l : List Ent} {b : Bool} {zs : List Int}
theorem strict_of {a : List Ent} (h : a.Pairwise LessE) : Strict a := fun i j x e hij hx he => by
  obtain ⟨h1, rfl⟩ := List.getElem?_eq_some_iff.1 hx
  obtain ⟨h2, rfl⟩ := List.getElem?_eq_some_iff.1 he
  exact (List.pairwise_iff_getElem.1 h) i j h1 h2 hij
end
theorem ents_of {a : List Ent} (h : a.Pairwise LessE) (hl : a.length ≤ 400) (he : ∀ e ∈ a, entOk e = true) : entsOk a = true := by
  simp only [entsOk, hl, decide_true, Bool.true_and]
  refine allIx_yes (Nat.le_refl _) (fun j e _ hj => ?_)
  simp only [okEnt, he e (List.mem_of_getElem? hj), Bool.true_and, Bool.or_eq_true, decide_eq_true_eq]
  by_cases h0 : j = 0
  · exact .inl h0
  · right
    split
    · rename_i x hx
      have := strict_of h (j - 1) j x e (by omega) hx hj
      exact decide_eq_true (by rw [cmpK_lt this]; decide)
    · rfl
theorem ents_mem {l : List Ent} (h : entsOk l = true) {e : Ent} (he : e ∈ l) : entOk e = true := by
  obtain ⟨i, hi⟩ := List.getElem?_of_mem he
  simp only [entsOk, Bool.and_eq_true] at h
  exact okEnt_ent (allIx_get h.2 hi)
end Go.Rl
namespace Go.Rl
open Go.Proofs
theorem inf85 : (Try.prog.info? 85).map (fun i => (i.zero, i.size, i.bytes)) = some (some (.agg #[.string ⟨#[]⟩, .string ⟨#[]⟩]), 2, 32) := by kernel_rfl
theorem en111 : ∀ vs w, (callFunc 111 vs).run Try.prog w = .ok (.enter 111 vs) w := enters Try.func111 (by decide) rfl
theorem en86 : ∀ vs w, (callFunc 86 vs).run Try.prog w = .ok (.enter 86 vs) w := enters Try.func86 (by decide) rfl
theorem en36 : ∀ vs w, (callFunc 36 vs).run Try.prog w = .ok (.enter 36 vs) w := enters Try.func36 (by decide) rfl
set_option maxRecDepth 100000 in
theorem pr_eqIn (a b : Pr) (w : World) : (Op.equalIn 10000 85 (.agg ⟨[.string a.user, .string a.value]⟩) (.agg ⟨[.string b.user, .string b.value]⟩)).run Try.prog w = .ok (decide (a = b)) w := by
  rw [show (10000 : Nat) = 9999 + 1 from rfl, run_equalIn_agg w 9999 85 _ _ Try.underlying85 (by kernel_rfl)]
  rw [show (Try.prog.fieldsOf 85).toList = [⟨"User", 9, 0, false, "", "", 0⟩, ⟨"Value", 9, 1, false, "", "", 16⟩] from rfl]
  rw [show (9999 : Nat) = 9998 + 1 from rfl]
  have hb : ∀ x y : ByteArray, x.toList = y.toList ↔ x = y := fun x y => ⟨toList_inj, fun h => by rw [h]⟩
  simp [Op.eqFields, part, Try.isAgg9, Try.sizeOf9, run_equalIn_string (h := Try.underlying9), hb]
  cases a; cases b
  simp only [Pr.mk.injEq]
  split
  · split <;> simp_all
  · simp_all
theorem st_pickT {γ : Gho} {P : Program} {n : Nat} {o : Oper} {M B : List Nat} {s : St} {c x y : Operand} (ho : o.op = .pick c x y) {d : Option Nat} (hc : s.ev c = .p d (.v (.bool true))) : StepD γ P n o M B s { put := s.ev x } := st_pick ho hc
theorem st_pickF {γ : Gho} {P : Program} {n : Nat} {o : Oper} {M B : List Nat} {s : St} {c x y : Operand} (ho : o.op = .pick c x y) {d : Option Nat} (hc : s.ev c = .p d (.v (.bool false))) : StepD γ P n o M B s { put := s.ev y } := st_pick ho hc
set_option maxRecDepth 1000000 in
set_option maxHeartbeats 2000000 in
theorem get_con (l : List Ent) (u : ByteArray) (p : Int) (hl : l.length ≤ 2000000) : Con Try.prog 111 [.one (PV.sl false 4 (pvE l)), .one (PV.v (.string u)), .one (PV.v (.int .i64 p))] [] [.one (.v (.int .i64 (getC1 (lookE l u p)))), .one (.v (.string (getC2 (lookE l u p))))] := by
  refine con_of_tr Try.func111 rfl rfl rfl rfl ?_
  have hle := pvE_length l
  refine tr_seq ?_
  refine tr_region rfl (.run [] [] rfl (st_assign rfl) (.run [] [] rfl (st_assign rfl) .nil)) ?_
  refine tr_seq ?_
  refine tr_region rfl (.run [] [] rfl (st_move rfl) (.run [] [] rfl (st_move rfl) (.run [] [] rfl (st_move rfl) (.run [1200] [] rfl (st_call rfl 1200 (X := []) en137 rfl (.val nod) (.cons (.one (.bor (.sl nod))) (.cons (.one (.bor .v)) (.cons (.one (.bor .v)) .nil))) (by decide) all_nil .nil (looked_con l u p (by omega)) rfl rfl (nle rfl)) (.run [] [] rfl (st_assign rfl) .nil))))) ?_
  refine tr_seq ?_
  refine tr_block ?_
  refine tr_seq ?_
  refine tr_region rfl (.run [] [] rfl (st_move rfl) (.run [] [] rfl (st_lss rfl rfl rfl) (.run [] [] rfl (st_assign rfl) .nil))) ?_
  refine tr_if (t := decide ((idxF (asOf u p) l) < 0)) rfl (fun h1 => ?_) (fun h1 => ?_)
  · skip
    replace h1 := of_decide_eq_true h1
    refine tr_seq ?_
    refine tr_region rfl (.run [] [] rfl (st_assign rfl) (.run [] [] rfl (st_assign rfl) .nil)) ?_
    refine tr_ret ?_
    exact ends [_, _] [] (.cons (.tmp (int_eq (by rw [look_none h1]; rfl))) (.cons (.tmp (str_eq (by rw [look_none h1]; rfl))) .nil)) (.cons (.one .v (.v _)) (.cons (.one .v (.v _)) .nil)) (by decide) trivial
  · skip
    replace h1 := of_decide_eq_false h1
    refine tr_seq ?_
    have hib := idx_bnd (p := asOf u p) (l := l) (by omega)
    obtain ⟨e, he⟩ : ∃ e, l[(idxF (asOf u p) l).toNat]? = some e := ⟨_, List.getElem?_eq_getElem hib⟩
    have hlk : lookE l u p = some e := look_some (by omega) he
    refine tr_wk (s' := mk [(0, .p none (.sl false 4 (pvE l))), (8, .p none (.v (.int .i64 (idxF (asOf u p) l))))] [] []) ?_ ?_
    · exact wk_mk ⟨rfl, ⟨rfl, trivial⟩⟩ trivial trivial rfl
    refine tr_region rfl (.run [] [] rfl (st_move rfl) (.run [] [] rfl (st_move rfl) (.run [] [] rfl (st_idx_fro rfl rfl rfl Try.underlying26 Try.sizeOf44 rfl (by omega) (pvE_get he)) (.run [] [] rfl (st_faddr_fea rfl rfl Try.underlying44 rfl Try.sizeOf42 (by decide)) (.run [] [] rfl (st_faddr_fea rfl rfl Try.underlying42 rfl Try.sizeOf2 (by decide)) (.run [] [] rfl (st_load_fea1 rfl rfl Try.isAgg2 rfl) (.run [] [] rfl (st_eql rfl rfl rfl) (.run [] [] rfl (st_assign rfl) .nil)))))))) ?_
    refine tr_if (t := decide (e.kind = 0)) rfl (fun h2 => ?_) (fun h2 => ?_)
    · skip
      replace h2 := of_decide_eq_true h2
      refine tr_seq ?_
      refine tr_region rfl (.run [] [] rfl (st_assign rfl) (.run [] [] rfl (st_assign rfl) .nil)) ?_
      refine tr_ret ?_
      exact ends [_, _] [] (.cons (.tmp (int_eq (by rw [hlk]; exact (if_pos h2).symm))) (.cons (.tmp (str_eq (by rw [hlk]; exact (if_pos h2).symm))) .nil)) (.cons (.one .v (.v _)) (.cons (.one .v (.v _)) .nil)) (by decide) trivial
    · skip
      replace h2 := of_decide_eq_false h2
      refine tr_skip ?_
      refine tr_seq ?_
      refine tr_regionD mixed rfl (.run [] [] rfl (st_move rfl) (.run [] [] rfl (st_move rfl) (.run [] [] rfl (st_idx_fro rfl rfl rfl Try.underlying26 Try.sizeOf44 rfl (by omega) (pvE_get he)) (.run [] [] rfl (st_faddr_fea rfl rfl Try.underlying44 rfl Try.sizeOf9 (by decide)) (.run [] [] rfl (st_load_fea1 rfl rfl Try.isAgg9 rfl) (.run [] [] rfl (st_assign rfl) (.run [] [] rfl (st_assign rfl) .nil))))))) (by kernel_rfl) ?_
      refine tr_ret ?_
      exact ends [_, _] [] (.cons (.tmp (int_eq (by rw [hlk]; exact (if_neg h2).symm))) (.cons (.tmp (str_eq (by rw [hlk]; exact (if_neg h2).symm))) .nil)) (.cons (.one .v (.v _)) (.cons (.one .v (.v _)) .nil)) (by decide) trivial
set_option maxRecDepth 1000000 in
set_option maxHeartbeats 2000000 in
theorem visible_con (l : List Ent) (p : Int) (hl : l.length ≤ 2000000) : Con Try.prog 86 [.one (PV.sl false 4 (pvE l)), .one (PV.v (.int .i64 p))] [] [.one (.sl true 2 (pvP (visF l p)))] := by
  refine con_of_tr Try.func86 rfl rfl rfl rfl ?_
  have hle := pvE_length l
  have hul := users_len l
  have hlu := pvT_length (usersF l)
  refine tr_seq ?_
  refine tr_region rfl (.run [] [] rfl (st_assign rfl) .nil) ?_
  refine tr_seq ?_
  refine tr_region rfl (.run [1000] [] rfl (st_buildSlice rfl 1000 Try.underlying47 inf85 (nle rfl) (by decide) rfl rfl rfl .nil (by decide) rfl (by decide) rfl (by decide) rfl) (.run [] [] rfl (st_assign rfl) .nil)) ?_
  refine tr_seq ?_
  refine tr_seq ?_
  refine tr_region rfl (.run [] [] rfl (st_move rfl) (.run [1200] [] rfl (st_call rfl 1200 (X := []) en135 rfl (.val nod) (.cons (.one (.bor (.sl nod))) .nil) (by decide) all_nil .nil (users_con l (by omega)) rfl rfl (nle rfl)) (.run [] [] rfl (st_len_row rfl rfl Try.underlying147) (.run [] [] rfl (st_move rfl) .nil)))) ?_
  refine tr_block ?_
  refine tr_wk (wk_ren 1000 1 rfl rfl (by decide)) ?_
  refine tr_loopS (σ := Nat) (fun i => mk [(0, .p none (.sl false 4 (pvE l))), (1, .p none (.v (.int .i64 p))), (5, .sl 1 0 ((pvP (visN l p ((usersF l).take i))).length)), (12, .sl 1200 0 ((pvT (usersF l)).length)), (13, .p none (.v (.int .i64 ((pvT (usersF l)).length : Int)))), (14, .p none (.v (.int .i64 (i:Int))))] [] [(1, 2, pvP (visN l p ((usersF l).take i))), (1200, 1, pvT (usersF l))]) (fun i => i ≤ (usersF l).length) (fun i => (usersF l).length - i) 0 (by simp) (wk_mk ⟨rfl, ⟨rfl, ⟨rfl, ⟨rfl, ⟨rfl, ⟨(int_eq (by omega)), trivial⟩⟩⟩⟩⟩⟩ trivial ⟨(congrArg (fun x => some (2, x)) (by rfl)), ⟨rfl, trivial⟩⟩ rfl) ?_
  rintro i hG
  replace hG : i ≤ (usersF l).length := hG
  have hvn := visN_len l p ((usersF l).take i)
  have hlv := pvP_length (visN l p ((usersF l).take i))
  rw [List.length_take] at hvn
  refine tr_seq ?_
  refine tr_region rfl (.run [] [] rfl (st_lss rfl rfl rfl) .nil) ?_
  refine tr_seq ?_
  refine tr_if (t := decide ((i:Int) < ((pvT (usersF l)).length : Int))) rfl (fun h1 => ?_) (fun h1 => ?_)
  · skip
    replace h1 := of_decide_eq_true h1
    refine tr_skip ?_
    refine tr_seq ?_
    refine tr_block ?_
    refine tr_seq ?_
    obtain ⟨e, he⟩ : ∃ e, (usersF l)[i]? = some e := ⟨_, List.getElem?_eq_getElem (by (have hL := pvT_length (usersF l); omega))⟩
    have hlte := (List.getElem?_eq_some_iff.1 he).1
    refine tr_region rfl (.run [] [] rfl (st_idx_row0 i rfl rfl rfl rfl Try.underlying147 Try.sizeOf9 rfl rfl (by omega)) (.run [] [] rfl (st_load_ea1 rfl rfl rfl (pvT_get he) Try.isAgg9 rfl) (.run [] [] rfl (st_assign rfl) .nil))) ?_
    refine tr_seq ?_
    refine tr_region rfl (.run [] [] rfl (st_move rfl) (.run [] [] rfl (st_move rfl) (.run [] [] rfl (st_move rfl) (.run [2200, 2201] [] rfl (st_call rfl 2200 (X := []) en111 rfl (.val nod) (.cons (.one (.bor (.sl nod))) (.cons (.one (.bor .v)) (.cons (.one (.bor .v)) .nil))) (by decide) all_nil .nil (get_con l e p (by omega)) rfl rfl (nle rfl)) (.run [] [] rfl (st_move rfl) (.run [] [] rfl (st_extract rfl rfl rfl) (.run [] [] rfl (st_extract rfl rfl rfl) (.run [] [] rfl (st_assign rfl) (.run [] [] rfl (st_assign rfl) .nil))))))))) ?_
    refine tr_seq ?_
    refine tr_region rfl (.run [] [] rfl (st_move rfl) (.run [] [] rfl (st_eql rfl rfl rfl) .nil)) ?_
    refine tr_if (t := decide ((getC1 (lookE l e p)) = 1)) rfl (fun h2 => ?_) (fun h2 => ?_)
    · skip
      replace h2 := of_decide_eq_true h2
      refine tr_wk (s' := mk [(0, .p none (.sl false 4 (pvE l))), (1, .p none (.v (.int .i64 p))), (5, .sl 1 0 ((pvP (visN l p ((usersF l).take i))).length)), (7, .p none (.v (.string e))), (9, .p none (.v (.string (getC2 (lookE l e p))))), (12, .sl 1200 0 ((pvT (usersF l)).length)), (13, .p none (.v (.int .i64 ((pvT (usersF l)).length : Int)))), (14, .p none (.v (.int .i64 (i:Int))))] [] [(1, 2, pvP (visN l p ((usersF l).take i))), (1200, 1, pvT (usersF l))]) ?_ ?_
      · exact wk_mk ⟨rfl, ⟨rfl, ⟨rfl, ⟨rfl, ⟨rfl, ⟨rfl, ⟨rfl, ⟨rfl, trivial⟩⟩⟩⟩⟩⟩⟩⟩ trivial ⟨rfl, ⟨rfl, trivial⟩⟩ rfl
      refine tr_region rfl (.run [] [] rfl (st_move rfl) (.run [] [] rfl (st_move rfl) (.run [] [] rfl (st_move rfl) (.run [] [] rfl (st_build (pl := [(0, 1), (1, 1)]) rfl Try.underlying85 inf85 (by kernel_rfl) rfl rfl) (.run [3100] [] rfl (st_buildSlice rfl 3100 Try.underlying47 inf85 (nle rfl) (by decide) rfl rfl rfl (.cons .v (.cons .v .nil)) (by decide) rfl (by decide) rfl (by decide) rfl) (.run [1] [] rfl (st_append rfl 1 (ib := 1) (len := ((pvP (visN l p ((usersF l).take i))) ++ [[PV.v (.string e), PV.v (.string (getC2 (lookE l e p)))]]).length) rfl rfl (.row (len := (pvP (visN l p ((usersF l).take i))).length) (xs := pvP (visN l p ((usersF l).take i))) rfl rfl (.inl rfl)) (.give (len := 1) (xs := [[PV.v (.string e), PV.v (.string (getC2 (lookE l e p)))]]) rfl rfl) Try.underlying47 (sk Try.underlying47 rfl) inf85 rfl (by decide) (by decide) (by decide) List.length_append (by simp only [maxLen, List.length_append, List.length_map, List.length_cons, List.length_nil, List.length_take, List.length_drop, pvE_length, pvI_length, pvT_length, pvU_length, pvP_length]; omega) (by simp only [maxLen, List.length_append, List.length_map, List.length_cons, List.length_nil, List.length_take, List.length_drop, pvE_length, pvI_length, pvT_length, pvU_length, pvP_length]; omega)) (.run [] [] rfl (st_assign rfl) .nil))))))) ?_
      have hr3 : (pvP (visN l p ((usersF l).take i))) ++ [[PV.v (.string e), PV.v (.string (getC2 (lookE l e p)))]] = pvP (visN l p ((usersF l).take (i + 1))) := by rw [visN_yes he h2]; exact pvP_snoc _ ⟨_, _⟩
      have hp4 : (.sl 1 0 (((pvP (visN l p ((usersF l).take i))) ++ [[PV.v (.string e), PV.v (.string (getC2 (lookE l e p)))]]).length) : AV) = .sl 1 0 ((pvP (visN l p ((usersF l).take (i + 1)))).length) := by simp only [hr3]
      refine tr_wk (s' := mk [(0, .p none (.sl false 4 (pvE l))), (1, .p none (.v (.int .i64 p))), (5, .sl 1 0 ((pvP (visN l p ((usersF l).take (i + 1)))).length)), (12, .sl 1200 0 ((pvT (usersF l)).length)), (13, .p none (.v (.int .i64 ((pvT (usersF l)).length : Int)))), (14, .p none (.v (.int .i64 (i:Int))))] [] [(1, 2, pvP (visN l p ((usersF l).take (i + 1)))), (1200, 1, pvT (usersF l))]) ?_ ?_
      · exact wk_mk ⟨rfl, ⟨rfl, ⟨hp4, ⟨rfl, ⟨rfl, ⟨rfl, trivial⟩⟩⟩⟩⟩⟩ trivial ⟨(congrArg (fun x => some (2, x)) hr3), ⟨rfl, trivial⟩⟩ rfl
      refine tr_region rfl (.run [] [] rfl (st_addn rfl rfl rfl (by omega)) (.run [] [] rfl (st_move rfl) .nil)) ?_
      refine nxt (Q := fun _ _ => False) (z := i) (i + 1) ?_ ?_ ?_
      · show (i + 1) ≤ (usersF l).length
        omega
      · show (usersF l).length - (i + 1) < (usersF l).length - i
        omega
      · exact wk_mk ⟨rfl, ⟨rfl, ⟨rfl, ⟨rfl, ⟨rfl, ⟨(int_eq (by omega)), trivial⟩⟩⟩⟩⟩⟩ trivial ⟨rfl, ⟨rfl, trivial⟩⟩ rfl
    · skip
      replace h2 := of_decide_eq_false h2
      refine tr_skip ?_
      refine tr_wk (s' := mk [(0, .p none (.sl false 4 (pvE l))), (1, .p none (.v (.int .i64 p))), (5, .sl 1 0 ((pvP (visN l p ((usersF l).take i))).length)), (12, .sl 1200 0 ((pvT (usersF l)).length)), (13, .p none (.v (.int .i64 ((pvT (usersF l)).length : Int)))), (14, .p none (.v (.int .i64 (i:Int))))] [] [(1, 2, pvP (visN l p ((usersF l).take i))), (1200, 1, pvT (usersF l))]) ?_ ?_
      · exact wk_mk ⟨rfl, ⟨rfl, ⟨rfl, ⟨rfl, ⟨rfl, ⟨rfl, trivial⟩⟩⟩⟩⟩⟩ trivial ⟨rfl, ⟨rfl, trivial⟩⟩ rfl
      refine tr_region rfl (.run [] [] rfl (st_addn rfl rfl rfl (by omega)) (.run [] [] rfl (st_move rfl) .nil)) ?_
      refine nxt (Q := fun _ _ => False) (z := i) (i + 1) ?_ ?_ ?_
      · show (i + 1) ≤ (usersF l).length
        omega
      · show (usersF l).length - (i + 1) < (usersF l).length - i
        omega
      · exact wk_mk ⟨rfl, ⟨rfl, ⟨(congrArg (fun x => AV.sl 1 0 (pvP x).length) (visN_no he h2).symm), ⟨rfl, ⟨rfl, ⟨(int_eq (by omega)), trivial⟩⟩⟩⟩⟩⟩ trivial ⟨(congrArg (fun x => some (2, x)) (by rw [visN_no he h2])), ⟨rfl, trivial⟩⟩ rfl
  · skip
    replace h1 := of_decide_eq_false h1
    refine tr_exit ?_
    refine tr_seq ?_
    refine tr_region rfl (.run [] [] rfl (st_move rfl) (.run [] [] rfl (st_assign rfl) .nil)) ?_
    have hr5 : pvP (visN l p ((usersF l).take i)) = pvP (visF l p) := by rw [List.take_of_length_le (by omega)]; rfl
    have hp6 : (.sl 1 0 ((pvP (visN l p ((usersF l).take i))).length) : AV) = .sl 1 0 ((pvP (visF l p)).length) := by simp only [hr5]
    refine tr_wk (s' := mk [(4, .sl 1 0 ((pvP (visF l p)).length))] [] [(1, 2, pvP (visF l p))]) ?_ ?_
    · exact wk_mk ⟨hp6, trivial⟩ trivial ⟨(congrArg (fun x => some (2, x)) hr5), trivial⟩ rfl
    refine tr_ret ?_
    exact ends [_] [1] (.cons (.tmp rfl) .nil) (.cons (.one (.row (len := (pvP (visF l p)).length) (xs := pvP (visF l p)) rfl rfl) (.sl _ _ (FlatP.clean (pvP_flat _)))) .nil) (by decide) trivial
set_option maxRecDepth 1000000 in
set_option maxHeartbeats 2000000 in
theorem samePairs_con (a b : List Pr) (hl : a.length ≤ 1000000000) : Con Try.prog 36 [.one (PV.sl false 2 (pvP a)), .one (PV.sl false 2 (pvP b))] [] [.one (.v (.bool (decide (a = b))))] := by
  refine con_of_tr Try.func36 rfl rfl rfl rfl ?_
  have hla := pvP_length a
  have hlb := pvP_length b
  refine tr_seq ?_
  refine tr_region rfl (.run [] [] rfl (st_assign rfl) .nil) ?_
  refine tr_seq ?_
  refine tr_seq ?_
  refine tr_region rfl (.run [] [] rfl (st_move rfl) (.run [] [] rfl (st_len_fro rfl rfl Try.underlying47) (.run [] [] rfl (st_move rfl) (.run [] [] rfl (st_len_fro rfl rfl Try.underlying47) (.run [] [] rfl (st_neq rfl rfl rfl) .nil))))) ?_
  refine tr_if (t := (!(decide (((pvP a).length : Int) = ((pvP b).length : Int))))) rfl (fun h1 => ?_) (fun h1 => ?_)
  · skip
    replace h1 : ¬ (((pvP a).length : Int) = ((pvP b).length : Int)) := of_decide_eq_false (bnot_t h1)
    refine tr_seq ?_
    refine tr_region rfl (.run [] [] rfl (st_assign rfl) .nil) ?_
    refine tr_ret ?_
    exact ends [_] [] (.cons (.tmp (bool_eq (decide_eq_false (fun e => by subst e; omega)).symm)) .nil) (.cons (.one .v (.v _)) .nil) (by decide) trivial
  · skip
    replace h1 : ((pvP a).length : Int) = ((pvP b).length : Int) := of_decide_eq_true (bnot_f h1)
    refine tr_skip ?_
    refine tr_seq ?_
    refine tr_seq ?_
    refine tr_region rfl (.run [] [] rfl (st_assign rfl) .nil) ?_
    refine tr_block ?_
    refine tr_loopS (σ := Nat) (fun i => mk [(0, .p none (.sl false 2 (pvP a))), (1, .p none (.sl false 2 (pvP b))), (5, .p none (.v (.int .i64 (i:Int))))] [] []) (fun i => i ≤ a.length ∧ ∀ j, j < i → a[j]? = b[j]?) (fun i => a.length - i) 0 ⟨Nat.zero_le _, fun j hj => absurd hj (Nat.not_lt_zero j)⟩ (wk_mk ⟨rfl, ⟨rfl, ⟨(int_eq (by omega)), trivial⟩⟩⟩ trivial trivial rfl) ?_
    rintro i hG
    replace hG : i ≤ a.length ∧ ∀ j, j < i → a[j]? = b[j]? := hG
    obtain ⟨hi, hG⟩ := hG
    refine tr_seq ?_
    refine tr_seq ?_
    refine tr_region rfl (.run [] [] rfl (st_move rfl) (.run [] [] rfl (st_move rfl) (.run [] [] rfl (st_len_fro rfl rfl Try.underlying47) (.run [] [] rfl (st_lss rfl rfl rfl) .nil)))) ?_
    refine tr_if (t := decide ((i:Int) < ((pvP a).length : Int))) rfl (fun h2 => ?_) (fun h2 => ?_)
    · skip
      replace h2 := of_decide_eq_true h2
      refine tr_skip ?_
      refine tr_seq ?_
      refine tr_block ?_
      refine tr_seq ?_
      obtain ⟨e, he⟩ : ∃ e, a[i]? = some e := ⟨_, List.getElem?_eq_getElem (by (have hL := pvP_length a; omega))⟩
      have hlte := (List.getElem?_eq_some_iff.1 he).1
      obtain ⟨e2, he2⟩ : ∃ e, b[i]? = some e := ⟨_, List.getElem?_eq_getElem (by (have hL := pvP_length b; omega))⟩
      have hlte2 := (List.getElem?_eq_some_iff.1 he2).1
      refine tr_regionD mixed rfl (.run [] [] rfl (st_move rfl) (.run [] [] rfl (st_move rfl) (.run [] [] rfl (st_idx_fro rfl rfl rfl Try.underlying47 Try.sizeOf85 rfl (by omega) (pvP_get he)) (.run [] [] rfl (st_load_fea rfl rfl Try.isAgg85 Try.sizeOf85 (nle rfl)) (.run [] [] rfl (st_move rfl) (.run [] [] rfl (st_move rfl) (.run [] [] rfl (st_idx_fro rfl rfl rfl Try.underlying47 Try.sizeOf85 rfl (by omega) (pvP_get he2)) (.run [] [] rfl (st_load_fea rfl rfl Try.isAgg85 Try.sizeOf85 (nle rfl)) (.run [] [] rfl (st_aneq rfl rfl rfl rfl rfl Try.eqGuardType85 (fun w => pr_eqIn e e2 w)) .nil))))))))) (by kernel_rfl) ?_
      refine tr_if (t := (!(decide (e = e2)))) rfl (fun h3 => ?_) (fun h3 => ?_)
      · skip
        replace h3 : ¬ (e = e2) := of_decide_eq_false (bnot_t h3)
        refine tr_seq ?_
        refine tr_region rfl (.run [] [] rfl (st_assign rfl) .nil) ?_
        refine tr_ret ?_
        exact ends [_] [] (.cons (.tmp (bool_eq (decide_eq_false (glist_ne he he2 h3)).symm)) .nil) (.cons (.one .v (.v _)) .nil) (by decide) trivial
      · skip
        replace h3 : e = e2 := of_decide_eq_true (bnot_f h3)
        refine tr_skip ?_
        refine tr_region rfl (.run [] [] rfl (st_move rfl) (.run [] [] rfl (st_addn rfl rfl rfl (by omega)) (.run [] [] rfl (st_assign rfl) .nil))) ?_
        refine nxt (Q := fun _ _ => False) (z := i) (i + 1) ?_ ?_ ?_
        · show (i + 1) ≤ a.length ∧ ∀ j, j < (i + 1) → a[j]? = b[j]?
          exact ⟨by omega, glist_step hG he he2 h3⟩
        · show a.length - (i + 1) < a.length - i
          omega
        · exact wk_mk ⟨rfl, ⟨rfl, ⟨(int_eq (by omega)), trivial⟩⟩⟩ trivial trivial rfl
    · skip
      replace h2 := of_decide_eq_false h2
      refine tr_exit ?_
      refine tr_seq ?_
      refine tr_region rfl (.run [] [] rfl (st_assign rfl) .nil) ?_
      refine tr_ret ?_
      exact ends [_] [] (.cons (.tmp (bool_eq (decide_eq_true (glist_all (by omega) (by omega) hG)).symm)) .nil) (.cons (.one .v (.v _)) .nil) (by decide) trivial
theorem samePairs_self (a : List Pr) (hl : a.length ≤ 1000000000) : Con Try.prog 36 [.one (PV.sl false 2 (pvP a)), .one (PV.sl false 2 (pvP a))] [] [.one (.v (.bool true))] := by
  simpa using samePairs_con a a hl
end Go.Rl

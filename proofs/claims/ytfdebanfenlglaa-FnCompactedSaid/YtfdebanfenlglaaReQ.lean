/- Promises of functions, proved by walks over their operations; no conditions beyond those that each theorem states. -/
import Derived.Test.YtfdebanfenlglaaReO
import Derived.Test.YtfdebanfenlglaaRlT
set_option linter.unusedSimpArgs false
set_option linter.unusedVariables false
namespace Go.Rl
open Go.Proofs
theorem inf152 : (Try.prog.info? 152).map (fun i => (i.zero, i.size, i.bytes)) = some (some (.agg #[.slice none 0 0, .int .i64 0]), 2, 32) := by kernel_rfl
theorem en168 : ∀ vs w, (callFunc 168 vs).run Try.prog w = .ok (.enter 168 vs) w := enters Try.func168 (by decide) rfl
theorem en139 : ∀ vs w, (callFunc 139 vs).run Try.prog w = .ok (.enter 139 vs) w := enters Try.func139 (by decide) rfl
theorem en185 : ∀ vs w, (callFunc 185 vs).run Try.prog w = .ok (.enter 185 vs) w := enters Try.func185 (by decide) rfl
theorem en80 : ∀ vs w, (callFunc 80 vs).run Try.prog w = .ok (.enter 80 vs) w := enters Try.func80 (by decide) rfl
theorem en180 : ∀ vs w, (callFunc 180 vs).run Try.prog w = .ok (.enter 180 vs) w := enters Try.func180 (by decide) rfl
theorem en128 : ∀ vs w, (callFunc 128 vs).run Try.prog w = .ok (.enter 128 vs) w := enters Try.func128 (by decide) rfl
theorem en162 : ∀ vs w, (callFunc 162 vs).run Try.prog w = .ok (.enter 162 vs) w := enters Try.func162 (by decide) rfl
theorem en181 : ∀ vs w, (callFunc 181 vs).run Try.prog w = .ok (.enter 181 vs) w := enters Try.func181 (by decide) rfl
theorem en169 : ∀ vs w, (callFunc 169 vs).run Try.prog w = .ok (.enter 169 vs) w := enters Try.func169 (by decide) rfl
theorem en170 : ∀ vs w, (callFunc 170 vs).run Try.prog w = .ok (.enter 170 vs) w := enters Try.func170 (by decide) rfl
theorem en140 : ∀ vs w, (callFunc 140 vs).run Try.prog w = .ok (.enter 140 vs) w := enters Try.func140 (by decide) rfl
theorem en77 : ∀ vs w, (callFunc 77 vs).run Try.prog w = .ok (.enter 77 vs) w := enters Try.func77 (by decide) rfl
theorem en78 : ∀ vs w, (callFunc 78 vs).run Try.prog w = .ok (.enter 78 vs) w := enters Try.func78 (by decide) rfl
theorem en79 : ∀ vs w, (callFunc 79 vs).run Try.prog w = .ok (.enter 79 vs) w := enters Try.func79 (by decide) rfl
set_option maxRecDepth 1000000 in
set_option maxHeartbeats 2000000 in
theorem next0_con {γ : Gho} (bs : List Nat) (A : Option Addr) (c p : Nat) (hp : p ≤ bs.length) (hl : bs.length ≤ 1152921504606846976) (hcc : bs = [] ∨ ∃ k off cur ty fz, A = some ⟨k, off, none⟩ ∧ γ = some (k, .cells cur ty fz) ∧ ∀ (i : Nat) (b : Nat), bs[i]? = some b → b < 256 ∧ cur[off + i]? = some (.int .u8 b)) : ConG γ Try.prog 168 [.rptr 2 [PV.v (.slice A bs.length c), PV.v (.int .i64 (p:Int))]] [some (pvRd (.slice A bs.length c, nextP bs p))] [.one (.v (.int .i64 ((nextV bs p : Nat) : Int)))] := by
  refine con_of_tr Try.func168 rfl rfl rfl rfl ?_
  refine tr_seq ?_
  refine tr_region rfl (.run [] [] rfl (st_assign rfl) .nil) ?_
  refine tr_seq ?_
  refine tr_seq ?_
  refine tr_regionD mixed rfl (.run [] [] rfl (st_move rfl) (.run [] [] rfl (st_nilcheck_ea rfl rfl) (.run [] [] rfl (st_faddr_ea rfl rfl Try.underlying152 rfl Try.sizeOf3 (by decide)) (.run [] [] rfl (st_load_ea1 rfl rfl rfl rfl Try.isAgg3 rfl) (.run [] [] rfl (st_move rfl) (.run [] [] rfl (st_nilcheck_ea rfl rfl) (.run [] [] rfl (st_faddr_ea rfl rfl Try.underlying152 rfl Try.sizeOf34 (by decide)) (.run [] [] rfl (st_load_ea1 rfl rfl rfl rfl Try.isAgg34 rfl) (.run [] [] rfl (st_len_v rfl rfl Try.underlying34) (.run [] [] rfl (st_geq rfl rfl rfl) .nil)))))))))) (by kernel_rfl) ?_
  refine tr_if (t := decide ((bs.length : Int) ≤ (p:Int))) rfl (fun h1 => ?_) (fun h1 => ?_)
  · skip
    replace h1 := of_decide_eq_true h1
    refine tr_seq ?_
    have hne := next_end (bs := bs) (p := p) (by omega)
    refine tr_region rfl (.run [] [] rfl (st_assign rfl) .nil) ?_
    refine tr_ret ?_
    exact ends [_] [] (.cons (.tmp (int_eq (by rw [hne.1]; rfl))) .nil) (.cons (.one .v (.v _)) .nil) (by decide) (outs1 (congrArg (fun x => some (2, x)) (by rw [hne.2]; rfl)) (pvRd_flat _) (by decide))
  · skip
    replace h1 := of_decide_eq_false h1
    refine tr_skip ?_
    refine tr_seq ?_
    obtain ⟨k, off, cur, ty, fz, rfl, hg, hcur⟩ : ∃ k off cur ty fz, A = some ⟨k, off, none⟩ ∧ γ = some (k, .cells cur ty fz) ∧ ∀ (i : Nat) (b : Nat), bs[i]? = some b → b < 256 ∧ cur[off + i]? = some (.int .u8 b) := by
      rcases hcc with rfl | h
      · simp at h1
      · exact h
    have hlt : p < bs.length := (by omega)
    obtain ⟨b, hb⟩ : ∃ b, bs[p]? = some b := ⟨_, List.getElem?_eq_getElem hlt⟩
    obtain ⟨hb1, hb2⟩ := hcur p b hb
    have hni := next_in hb
    refine tr_wk (s' := mk [(0, .ea 100000 0 0)] [] [(100000, 2, pvRd (.slice (some ⟨k, off, none⟩) bs.length c, p))]) ?_ ?_
    · exact wk_mk ⟨rfl, trivial⟩ trivial ⟨rfl, trivial⟩ rfl
    refine tr_region rfl (.run [] [] rfl (st_move rfl) (.run [] [] rfl (st_nilcheck_ea rfl rfl) (.run [] [] rfl (st_faddr_ea rfl rfl Try.underlying152 rfl Try.sizeOf3 (by decide)) (.run [] [] rfl (st_load_ea1 rfl rfl rfl rfl Try.isAgg3 rfl) (.run [] [] rfl (st_addn rfl rfl rfl (by omega)) (.run [] [] rfl (st_nilcheck_ea rfl rfl) (.run [] [] rfl (st_faddr_ea rfl rfl Try.underlying152 rfl Try.sizeOf3 (by decide)) (.run [] [] rfl (st_store_row rfl rfl rfl (FlatP.nf (pvRd_flat _)) rfl rfl rfl (.cons .v .nil) Try.sizeOf3 rfl (nle rfl)) .nil)))))))) ?_
    have hr2 : (pvRd (.slice (some ⟨k, off, none⟩) bs.length c, p)).set 0 [PV.v (.slice (some ⟨k, off, none⟩) bs.length c), PV.v (.int .i64 ((p:Int) + 1))] = pvRd (.slice (some ⟨k, off, none⟩) bs.length c, p + 1) := by rfl
    refine tr_wk (s' := mk [(0, .ea 100000 0 0)] [] [(100000, 2, pvRd (.slice (some ⟨k, off, none⟩) bs.length c, p + 1))]) ?_ ?_
    · exact wk_mk ⟨rfl, trivial⟩ trivial ⟨(congrArg (fun x => some (2, x)) hr2), trivial⟩ rfl
    refine tr_seq ?_
    refine tr_regionD mixed rfl (.run [] [] rfl (st_move rfl) (.run [] [] rfl (st_nilcheck_ea rfl rfl) (.run [] [] rfl (st_faddr_ea rfl rfl Try.underlying152 rfl Try.sizeOf34 (by decide)) (.run [] [] rfl (st_load_ea1 rfl rfl rfl rfl Try.isAgg34 rfl) (.run [] [] rfl (st_move rfl) (.run [] [] rfl (st_nilcheck_ea rfl rfl) (.run [] [] rfl (st_faddr_ea rfl rfl Try.underlying152 rfl Try.sizeOf3 (by decide)) (.run [] [] rfl (st_load_ea1 rfl rfl rfl rfl Try.isAgg3 rfl) (.run [] [] rfl (st_subn rfl rfl rfl (by omega)) (.run [] [] rfl (st_idx_v rfl rfl rfl Try.underlying34 Try.sizeOf5 (j := p) (by omega) hlt) (.run [] [] rfl (st_load_v rfl hg rfl hb2 rfl Try.isAgg5) (.run [] [] rfl (st_convn rfl rfl Try.underlying5 Try.underlying3 (by omega)) (.run [] [] rfl (st_assign rfl) .nil))))))))))))) (by kernel_rfl) ?_
    refine tr_ret ?_
    exact ends [_] [] (.cons (.tmp (int_eq (by rw [hni.1]))) .nil) (.cons (.one .v (.v _)) .nil) (by decide) (outs1 (congrArg (fun x => some (2, x)) (by rw [hni.2])) (pvRd_flat _) (by decide))
theorem next_con {γ : Gho} {cv : Value} {bs : List Nat} (hc : CodeAt γ cv bs) (hl : bs.length ≤ 1152921504606846976) (p : Nat) (hp : p ≤ bs.length) : ConG γ Try.prog 168 [.rptr 2 [.v cv, .v (.int .i64 (p:Int))]] [some (pvRd (cv, nextP bs p))] [.one (.v (.int .i64 ((nextV bs p : Nat) : Int)))] := by
  obtain ⟨A, c, rfl, hcc⟩ := hc
  exact next0_con bs A c p hp hl hcc
set_option maxRecDepth 1000000 in
set_option maxHeartbeats 2000000 in
theorem below_con {γ : Gho} {cv : Value} {bs : List Nat} (hc : CodeAt γ cv bs) (hl : bs.length ≤ 1152921504606846976) (p : Nat) (hp : p ≤ bs.length) (n : Nat) (hn : n ≤ 1000000) : ConG γ Try.prog 139 [.rptr 2 [PV.v (cv), PV.v (.int .i64 (p:Int))], .one (PV.v (.int .i64 (n:Int)))] [some (pvRd (cv, belowP bs p n))] [.one (.v (.int .i64 ((belowV bs p n : Nat) : Int)))] := by
  refine con_of_tr Try.func139 rfl rfl rfl rfl ?_
  refine tr_seq ?_
  refine tr_region rfl (.run [] [] rfl (st_assign rfl) .nil) ?_
  refine tr_seq ?_
  refine tr_seq ?_
  refine tr_region rfl (.run [] [] rfl (st_move rfl) (.run [] [] rfl (st_leq rfl rfl rfl) .nil)) ?_
  refine tr_if (t := decide ((n:Int) ≤ 1)) rfl (fun h1 => ?_) (fun h1 => ?_)
  · skip
    replace h1 := of_decide_eq_true h1
    refine tr_seq ?_
    have hb := below_1 (bs := bs) (p := p) (n := n) (by omega)
    refine tr_region rfl (.run [] [] rfl (st_assign rfl) .nil) ?_
    refine tr_ret ?_
    exact ends [_] [] (.cons (.tmp (int_eq (by rw [hb.1]; rfl))) .nil) (.cons (.one .v (.v _)) .nil) (by decide) (outs1 (congrArg (fun x => some (2, x)) (congrArg pvRd (congrArg (Prod.mk cv) (by rw [hb.2])))) (pvRd_flat _) (by decide))
  · skip
    replace h1 := of_decide_eq_false h1
    refine tr_skip ?_
    refine tr_seq ?_
    refine tr_seq ?_
    refine tr_region rfl (.run [] [] rfl (st_move rfl) (.run [] [] rfl (st_leq rfl rfl rfl) .nil)) ?_
    refine tr_if (t := decide ((n:Int) ≤ 256)) rfl (fun h2 => ?_) (fun h2 => ?_)
    · skip
      replace h2 := of_decide_eq_true h2
      refine tr_seq ?_
      have hb := below_2 (bs := bs) (p := p) (n := n) (by omega) (by omega)
      have hv := nextV_lt (code_bytes hc) p
      refine tr_region rfl (.run [] [] rfl (st_move rfl) (.run [100000, 1100] [] rfl (st_callG (.inr rfl) rfl 1100 (X := [100000]) en168 rfl (.val nod) (.cons (.rptr rfl) .nil) (by decide) (all_cons rfl all_nil) (.keep (xs := pvRd (cv, p)) rfl (FlatP.nf (pvRd_flat _)) .nil) (next_con hc hl p hp) rfl rfl (nle rfl)) (.run [] [] rfl (st_move rfl) (.run [] [] rfl (st_rem rfl rfl rfl (by omega)) (.run [] [] rfl (st_assign rfl) .nil))))) ?_
      refine tr_ret ?_
      exact ends [_] [] (.cons (.tmp (int_eq (by rw [hb.1]; rfl))) .nil) (.cons (.one .v (.v _)) .nil) (by decide) (outs1 (congrArg (fun x => some (2, x)) (congrArg pvRd (congrArg (Prod.mk cv) (by rw [hb.2])))) (pvRd_flat _) (by decide))
    · skip
      replace h2 := of_decide_eq_false h2
      refine tr_skip ?_
      refine tr_seq ?_
      have hb := below_3 (bs := bs) (p := p) (n := n) (by omega) (by omega)
      have hv := nextV_lt (code_bytes hc) p
      have hv2 := nextV_lt (code_bytes hc) (nextP bs p)
      refine tr_region rfl (.run [] [] rfl (st_move rfl) (.run [100000, 1500] [] rfl (st_callG (.inr rfl) rfl 1500 (X := [100000]) en168 rfl (.val nod) (.cons (.rptr rfl) .nil) (by decide) (all_cons rfl all_nil) (.keep (xs := pvRd (cv, p)) rfl (FlatP.nf (pvRd_flat _)) .nil) (next_con hc hl p hp) rfl rfl (nle rfl)) (.run [] [] rfl (st_muln rfl rfl rfl (by omega)) (.run [] [] rfl (st_assign rfl) .nil)))) ?_
      refine tr_seq ?_
      refine tr_region rfl (.run [] [] rfl (st_move rfl) (.run [] [] rfl (st_move rfl) (.run [100000, 1900] [] rfl (st_callG (.inr rfl) rfl 1900 (X := [100000]) en168 rfl (.val nod) (.cons (.rptr rfl) .nil) (by decide) (all_cons rfl all_nil) (.keep (xs := pvRd (cv, nextP bs p)) rfl (FlatP.nf (pvRd_flat _)) .nil) (next_con hc hl (nextP bs p) (nextP_le hp)) rfl rfl (nle rfl)) (.run [] [] rfl (st_addn rfl rfl rfl (by omega)) (.run [] [] rfl (st_assign rfl) .nil))))) ?_
      refine tr_seq ?_
      refine tr_wk (s' := mk [(1, .p none (.v (.int .i64 (n:Int)))), (5, .p none (.v (.int .i64 ((((nextV bs p : Nat) : Int) * 256) + ((nextV bs (nextP bs p) : Nat) : Int)))))] [] [(100000, 2, pvRd (cv, nextP bs (nextP bs p)))]) ?_ ?_
      · exact wk_mk ⟨rfl, ⟨rfl, trivial⟩⟩ trivial ⟨rfl, trivial⟩ rfl
      refine tr_region rfl (.run [] [] rfl (st_move rfl) (.run [] [] rfl (st_move rfl) (.run [] [] rfl (st_rem rfl rfl rfl (by omega)) (.run [] [] rfl (st_assign rfl) .nil)))) ?_
      refine tr_ret ?_
      exact ends [_] [] (.cons (.tmp (int_eq (by rw [hb.1]; rfl))) .nil) (.cons (.one .v (.v _)) .nil) (by decide) (outs1 (congrArg (fun x => some (2, x)) (congrArg pvRd (congrArg (Prod.mk cv) (by rw [hb.2])))) (pvRd_flat _) (by decide))
set_option maxRecDepth 1000000 in
set_option maxHeartbeats 2000000 in
theorem once_con {γ : Gho} {cv : Value} {bs : List Nat} (hc : CodeAt γ cv bs) (hl : bs.length ≤ 1152921504606846976) (p : Nat) (hp : p ≤ bs.length) (n : Nat) (hn : 1 ≤ n ∧ n ≤ 1000000) : ConG γ Try.prog 80 [.rptr 2 [PV.v (cv), PV.v (.int .i64 (p:Int))], .one (PV.v (.int .i64 (n:Int)))] [some (pvRd (cv, belowP bs p n))] [.one (.v (.bool (onceV bs p n)))] := by
  refine con_of_tr Try.func80 rfl rfl rfl rfl ?_
  refine tr_seq ?_
  refine tr_region rfl (.run [] [] rfl (st_assign rfl) .nil) ?_
  refine tr_seq ?_
  refine tr_region rfl (.run [] [] rfl (st_move rfl) (.run [] [] rfl (st_move rfl) (.run [100000, 700] [] rfl (st_callG (.inr rfl) rfl 700 (X := [100000]) en139 rfl (.val nod) (.cons (.rptr rfl) (.cons (.one (.bor .v)) .nil)) (by decide) (all_cons rfl all_nil) (.keep (xs := pvRd (cv, p)) rfl (FlatP.nf (pvRd_flat _)) .nil) (below_con hc hl p hp n (by omega)) rfl rfl (nle rfl)) (.run [] [] rfl (st_move rfl) (.run [] [] rfl (st_subn rfl rfl rfl (by omega)) (.run [] [] rfl (st_eql rfl rfl rfl) (.run [] [] rfl (st_assign rfl) .nil))))))) ?_
  refine tr_ret ?_
  exact ends [_] [] (.cons (.tmp (bool_eq (by unfold onceV; rw [Bool.eq_iff_iff]; simp only [decide_eq_true_eq]; omega))) .nil) (.cons (.one .v (.v _)) .nil) (by decide) (outs1 (congrArg (fun x => some (2, x)) (congrArg pvRd (congrArg (Prod.mk cv) rfl))) (pvRd_flat _) (by decide))
set_option maxRecDepth 1000000 in
set_option maxHeartbeats 2000000 in
theorem word_con {γ : Gho} {cv : Value} {bs : List Nat} (hc : CodeAt γ cv bs) (hl : bs.length ≤ 1152921504606846976) (p : Nat) (hp : p ≤ bs.length)  : ConG γ Try.prog 185 [.rptr 2 [PV.v (cv), PV.v (.int .i64 (p:Int))]] [some (pvRd (cv, wordP bs p))] [.one (.v (.int .u64 (wordV bs p)))] := by
  refine con_of_tr Try.func185 rfl rfl rfl rfl ?_
  refine tr_seq ?_
  refine tr_region rfl (.run [] [] rfl (st_assign rfl) .nil) ?_
  refine tr_seq ?_
  refine tr_region rfl (.run [] [] rfl (st_assign rfl) .nil) ?_
  refine tr_seq ?_
  refine tr_seq ?_
  refine tr_region rfl (.run [] [] rfl (st_assign rfl) .nil) ?_
  refine tr_block ?_
  refine tr_loopS (σ := Nat × Int × Nat) (fun (i, x, q) => mk [(0, .ea 100000 0 0), (3, .p none (.v (.int .u64 x))), (4, .p none (.v (.int .i64 (i:Int))))] [] [(100000, 2, pvRd (cv, q))]) (fun (i, x, q) => i ≤ 8 ∧ q ≤ bs.length ∧ wordF bs (8 - i) x q = wordF bs 8 0 p) (fun (i, x, q) => 8 - i) (0, 0, p) ⟨Nat.zero_le _, hp, rfl⟩ (wk_mk ⟨rfl, ⟨rfl, ⟨(int_eq (by omega)), trivial⟩⟩⟩ trivial ⟨rfl, trivial⟩ rfl) ?_
  rintro ⟨i, x, q⟩ hG
  replace hG : i ≤ 8 ∧ q ≤ bs.length ∧ wordF bs (8 - i) x q = wordF bs 8 0 p := hG
  obtain ⟨hi, hp, hw⟩ := hG
  refine tr_seq ?_
  refine tr_seq ?_
  refine tr_region rfl (.run [] [] rfl (st_move rfl) (.run [] [] rfl (st_lss rfl rfl rfl) .nil)) ?_
  refine tr_if (t := decide ((i:Int) < 8)) rfl (fun h1 => ?_) (fun h1 => ?_)
  · skip
    replace h1 := of_decide_eq_true h1
    refine tr_skip ?_
    refine tr_seq ?_
    refine tr_block ?_
    refine tr_region rfl (.run [] [] rfl (st_move rfl) (.run [] [] rfl (st_shl rfl rfl rfl (by omega)) (.run [] [] rfl (st_move rfl) (.run [100000, 1200] [] rfl (st_callG (.inr rfl) rfl 1200 (X := [100000]) en168 rfl (.val nod) (.cons (.rptr rfl) .nil) (by decide) (all_cons rfl all_nil) (.keep (xs := pvRd (cv, q)) rfl (FlatP.nf (pvRd_flat _)) .nil) (next_con hc hl q hp) rfl rfl (nle rfl)) (.run [] [] rfl (st_conv rfl rfl Try.underlying3 Try.underlying193) (.run [] [] rfl (st_bits rfl (.inr (.inl rfl)) rfl rfl) (.run [] [] rfl (st_assign rfl) .nil))))))) ?_
    refine tr_region rfl (.run [] [] rfl (st_move rfl) (.run [] [] rfl (st_addn rfl rfl rfl (by omega)) (.run [] [] rfl (st_assign rfl) .nil))) ?_
-- round row 100000: pvRd (cv, (nextP bs q)) now pvRd (cv, nextP bs q)
    refine nxt (Q := fun _ _ => False) (z := (i, x, q)) (i + 1, wordStep x (nextV bs q), nextP bs q) ?_ ?_ ?_
    · show (i + 1) ≤ 8 ∧ (nextP bs q) ≤ bs.length ∧ wordF bs (8 - (i + 1)) (wordStep x (nextV bs q)) (nextP bs q) = wordF bs 8 0 p
      exact ⟨by omega, nextP_le hp, by rw [← hw, show 8 - i = (8 - (i + 1)) + 1 by omega]; rfl⟩
    · show 8 - (i + 1) < 8 - i
      omega
    · exact wk_mk ⟨rfl, ⟨(int_eq (by rfl)), ⟨(int_eq (by omega)), trivial⟩⟩⟩ trivial ⟨rfl, trivial⟩ rfl
  · skip
    replace h1 := of_decide_eq_false h1
    refine tr_exit ?_
    refine tr_seq ?_
    refine tr_region rfl (.run [] [] rfl (st_move rfl) (.run [] [] rfl (st_assign rfl) .nil)) ?_
    refine tr_ret ?_
    exact ends [_] [] (.cons (.tmp (int_eq (by rw [show i = 8 by omega] at hw; exact congrArg Prod.fst hw))) .nil) (.cons (.one .v (.v _)) .nil) (by decide) (outs1 (congrArg (fun x => some (2, x)) (congrArg pvRd (congrArg (Prod.mk cv) (by rw [show i = 8 by omega] at hw; exact congrArg Prod.snd hw)))) (pvRd_flat _) (by decide))
set_option maxRecDepth 1000000 in
set_option maxHeartbeats 2000000 in
theorem near_con {γ : Gho} {cv : Value} {bs : List Nat} (hc : CodeAt γ cv bs) (hl : bs.length ≤ 1152921504606846976) (p : Nat) (hp : p ≤ bs.length) (low high : Int) (hlo : -1000000000000000 ≤ low) (hhi : high ≤ 1000000000000000) : ConG γ Try.prog 180 [.rptr 2 [PV.v (cv), PV.v (.int .i64 (p:Int))], .one (PV.v (.int .i64 low)), .one (PV.v (.int .i64 high))] [some (pvRd (cv, nearP bs p low high))] [.one (.v (.int .i64 (nearV bs p low high)))] := by
  refine con_of_tr Try.func180 rfl rfl rfl rfl ?_
  refine tr_seq ?_
  refine tr_region rfl (.run [] [] rfl (st_assign rfl) .nil) ?_
  refine tr_seq ?_
  refine tr_seq ?_
  refine tr_region rfl (.run [] [] rfl (st_move rfl) (.run [100000, 800] [] rfl (st_callG (.inr rfl) rfl 800 (X := [100000]) en139 rfl (.val nod) (.cons (.rptr rfl) (.cons (.one (.bor .v)) .nil)) (by decide) (all_cons rfl all_nil) (.keep (xs := pvRd (cv, p)) rfl (FlatP.nf (pvRd_flat _)) .nil) (below_con hc hl p hp 8 (by omega)) rfl rfl (nle rfl)) .nil)) ?_
  refine tr_block ?_
  refine tr_seq ?_
  refine tr_region rfl (.run [] [] rfl (st_eql rfl rfl rfl) (.run [] [] rfl (st_assign rfl) .nil)) ?_
  refine tr_if (t := decide (((belowV bs p 8 : Nat) : Int) = 0)) rfl (fun h1 => ?_) (fun h1 => ?_)
  · skip
    replace h1 := of_decide_eq_true h1
    refine tr_seq ?_
    have hn := near_a (bs := bs) (p := p) (low := low) (high := high) (by omega)
    refine tr_region rfl (.run [] [] rfl (st_move rfl) (.run [] [] rfl (st_assign rfl) .nil)) ?_
    refine tr_ret ?_
    exact ends [_] [] (.cons (.tmp (int_eq hn.1.symm)) .nil) (.cons (.one .v (.v _)) .nil) (by decide) (outs1 (congrArg (fun x => some (2, x)) (congrArg pvRd (congrArg (Prod.mk cv) hn.2.symm))) (pvRd_flat _) (by decide))
  · skip
    replace h1 := of_decide_eq_false h1
    refine tr_seq ?_
    refine tr_region rfl (.run [] [] rfl (st_eql rfl rfl rfl) (.run [] [] rfl (st_assign rfl) .nil)) ?_
    refine tr_if (t := decide (((belowV bs p 8 : Nat) : Int) = 1)) rfl (fun h2 => ?_) (fun h2 => ?_)
    · skip
      replace h2 := of_decide_eq_true h2
      refine tr_seq ?_
      have hn := near_b (bs := bs) (p := p) (low := low) (high := high) (by omega)
      refine tr_region rfl (.run [] [] rfl (st_move rfl) (.run [] [] rfl (st_assign rfl) .nil)) ?_
      refine tr_ret ?_
      exact ends [_] [] (.cons (.tmp (int_eq hn.1.symm)) .nil) (.cons (.one .v (.v _)) .nil) (by decide) (outs1 (congrArg (fun x => some (2, x)) (congrArg pvRd (congrArg (Prod.mk cv) hn.2.symm))) (pvRd_flat _) (by decide))
    · skip
      replace h2 := of_decide_eq_false h2
      refine tr_skip ?_
      refine tr_seq ?_
      refine tr_seq ?_
      refine tr_region rfl (.run [] [] rfl (st_move rfl) (.run [] [] rfl (st_move rfl) (.run [] [] rfl (st_lss rfl rfl rfl) .nil))) ?_
      refine tr_if (t := decide (high < low)) rfl (fun h3 => ?_) (fun h3 => ?_)
      · skip
        replace h3 := of_decide_eq_true h3
        refine tr_seq ?_
        have hn := near_c (bs := bs) (p := p) (low := low) (high := high) (by omega) (by omega) (by omega)
        refine tr_region rfl (.run [] [] rfl (st_move rfl) (.run [] [] rfl (st_assign rfl) .nil)) ?_
        refine tr_ret ?_
        exact ends [_] [] (.cons (.tmp (int_eq hn.1.symm)) .nil) (.cons (.one .v (.v _)) .nil) (by decide) (outs1 (congrArg (fun x => some (2, x)) (congrArg pvRd (congrArg (Prod.mk cv) hn.2.symm))) (pvRd_flat _) (by decide))
      · skip
        replace h3 := of_decide_eq_false h3
        refine tr_skip ?_
        refine tr_seq ?_
        have hwr : IntKind.u64.wrap (high - low + 1) = high - low + 1 := by rw [IntKind.wrap_u64]; omega
        have hn := near_d (bs := bs) (p := p) (low := low) (high := high) (by omega) (by omega) (by omega)
        refine tr_wk (s' := mk [(0, .ea 100000 0 0), (1, .p none (.v (.int .i64 low))), (2, .p none (.v (.int .i64 high)))] [] [(100000, 2, pvRd (cv, belowP bs p 8))]) ?_ ?_
        · exact wk_mk ⟨rfl, ⟨rfl, ⟨rfl, trivial⟩⟩⟩ trivial ⟨rfl, trivial⟩ rfl
        refine tr_region rfl (.run [] [] rfl (st_move rfl) (.run [] [] rfl (st_move rfl) (.run [100000, 2100] [] rfl (st_callG (.inr rfl) rfl 2100 (X := [100000]) en185 rfl (.val nod) (.cons (.rptr rfl) .nil) (by decide) (all_cons rfl all_nil) (.keep (xs := pvRd (cv, belowP bs p 8)) rfl (FlatP.nf (pvRd_flat _)) .nil) (word_con hc hl (belowP bs p 8) (belowP_le hp)) rfl rfl (nle rfl)) (.run [] [] rfl (st_shr rfl rfl rfl (by omega)) (.run [] [] rfl (st_move rfl) (.run [] [] rfl (st_move rfl) (.run [] [] rfl (st_subn rfl rfl rfl (by omega)) (.run [] [] rfl (st_addn rfl rfl rfl (by omega)) (.run [] [] rfl (st_conv rfl rfl Try.underlying2 Try.underlying193) (.run [] [] rfl (st_rem rfl rfl rfl (by omega)) (.run [] [] rfl (st_conv rfl rfl Try.underlying193 Try.underlying2) (.run [] [] rfl (st_add rfl rfl rfl) (.run [] [] rfl (st_assign rfl) .nil))))))))))))) ?_
        refine tr_ret ?_
        exact ends [_] [] (.cons (.tmp (int_eq hn.1.symm)) .nil) (.cons (.one .v (.v _)) .nil) (by decide) (outs1 (congrArg (fun x => some (2, x)) (congrArg pvRd (congrArg (Prod.mk cv) hn.2.symm))) (pvRd_flat _) (by decide))
set_option maxRecDepth 1000000 in
set_option maxHeartbeats 2000000 in
theorem off_con {γ : Gho} {cv : Value} {bs : List Nat} (hc : CodeAt γ cv bs) (hl : bs.length ≤ 1152921504606846976) (p : Nat) (hp : p ≤ bs.length) (low high : Int) (hlo : -1000000000000000 ≤ low ∧ low ≤ 1000000000000000) (hhi : -1000000000000000 ≤ high ∧ high ≤ 1000000000000000) : ConG γ Try.prog 162 [.rptr 2 [PV.v (cv), PV.v (.int .i64 (p:Int))], .one (PV.v (.int .i64 low)), .one (PV.v (.int .i64 high))] [some (pvRd (cv, offP bs p low high))] [.one (.v (.int .i64 (offV bs p low high)))] := by
  refine con_of_tr Try.func162 rfl rfl rfl rfl ?_
  refine tr_seq ?_
  refine tr_region rfl (.run [] [] rfl (st_assign rfl) .nil) ?_
  refine tr_seq ?_
  refine tr_seq ?_
  refine tr_region rfl (.run [] [] rfl (st_move rfl) (.run [100000, 800] [] rfl (st_callG (.inr rfl) rfl 800 (X := [100000]) en80 rfl (.val nod) (.cons (.rptr rfl) (.cons (.one (.bor .v)) .nil)) (by decide) (all_cons rfl all_nil) (.keep (xs := pvRd (cv, p)) rfl (FlatP.nf (pvRd_flat _)) .nil) (once_con hc hl p hp 24 (by omega)) rfl rfl (nle rfl)) .nil)) ?_
  refine tr_if (t := onceV bs p 24) rfl (fun h1 => ?_) (fun h1 => ?_)
  · skip
    refine tr_seq ?_
    refine tr_region rfl (.run [] [] rfl (st_move rfl) (.run [] [] rfl (st_subn rfl rfl rfl (by omega)) (.run [] [] rfl (st_move rfl) (.run [] [] rfl (st_addn rfl rfl rfl (by omega)) (.run [1300] [] rfl (st_buildSlice rfl 1300 Try.underlying23 inf2 (nle rfl) (by decide) rfl rfl rfl (.cons .v (.cons .v (.cons .v (.cons .v .nil)))) (by decide) rfl (by decide) rfl (by decide) rfl) (.run [] [] rfl (st_move rfl) (.run [100000, 1500] [] rfl (st_callG (.inr rfl) rfl 1500 (X := [100000]) en139 rfl (.val nod) (.cons (.rptr rfl) (.cons (.one (.bor .v)) .nil)) (by decide) (all_cons rfl all_nil) (.keep (xs := pvRd (cv, belowP bs p 24)) rfl (FlatP.nf (pvRd_flat _)) .nil) (below_con hc hl (belowP bs p 24) (belowP_le hp) 4 (by omega)) rfl rfl (nle rfl)) (.run [] [] rfl (st_idx_row0 (belowV bs (belowP bs p 24) 4) rfl rfl rfl rfl Try.underlying23 Try.sizeOf2 rfl rfl (belowV_lt (by decide))) (.run [] [] rfl (st_load_ea1 rfl rfl rfl (pvI_get (off_get bs (belowP bs p 24) low high)) Try.isAgg2 rfl) (.run [] [] rfl (st_assign rfl) .nil)))))))))) ?_
    refine tr_ret ?_
    exact ends [_] [] (.cons (.tmp (int_eq (by rw [offV, if_pos h1]))) .nil) (.cons (.one .v (.v _)) .nil) (by decide) (outs1 (congrArg (fun x => some (2, x)) (congrArg pvRd (congrArg (Prod.mk cv) (by rw [offP, if_pos h1])))) (pvRd_flat _) (by decide))
  · skip
    refine tr_skip ?_
    refine tr_seq ?_
    refine tr_region rfl (.run [] [] rfl (st_move rfl) (.run [] [] rfl (st_move rfl) (.run [] [] rfl (st_move rfl) (.run [100000, 2100] [] rfl (st_callG (.inr rfl) rfl 2100 (X := [100000]) en180 rfl (.val nod) (.cons (.rptr rfl) (.cons (.one (.bor .v)) (.cons (.one (.bor .v)) .nil))) (by decide) (all_cons rfl all_nil) (.keep (xs := pvRd (cv, belowP bs p 24)) rfl (FlatP.nf (pvRd_flat _)) .nil) (near_con hc hl (belowP bs p 24) (belowP_le hp) low high (by omega) (by omega)) rfl rfl (nle rfl)) (.run [] [] rfl (st_assign rfl) .nil))))) ?_
    refine tr_ret ?_
    exact ends [_] [] (.cons (.tmp (int_eq (by rw [offV, if_neg (by simp [h1])]))) .nil) (.cons (.one .v (.v _)) .nil) (by decide) (outs1 (congrArg (fun x => some (2, x)) (congrArg pvRd (congrArg (Prod.mk cv) (by rw [offP, if_neg (by simp [h1])])))) (pvRd_flat _) (by decide))
set_option maxRecDepth 1000000 in
set_option maxHeartbeats 2000000 in
theorem user_con {γ : Gho} {cv : Value} {bs : List Nat} (hc : CodeAt γ cv bs) (hl : bs.length ≤ 1152921504606846976) (p : Nat) (hp : p ≤ bs.length)  : ConG γ Try.prog 128 [.rptr 2 [PV.v (cv), PV.v (.int .i64 (p:Int))]] [some (pvRd (cv, userP bs p))] [.one (.v (.string (userV bs p)))] := by
  refine con_of_tr Try.func128 rfl rfl rfl rfl ?_
  refine tr_seq ?_
  refine tr_region rfl (.run [] [] rfl (st_assign rfl) .nil) ?_
  refine tr_seq ?_
  refine tr_region rfl (.run [300] [] rfl (st_buildSlice (cs := [.p none (.v (.string ⟨#[97]⟩)), .p none (.v (.string ⟨#[98]⟩)), .p none (.v (.string ⟨#[97, 98]⟩)), .p none (.v (.string ⟨#[97, 98, 99]⟩)), .p none (.v (.string ⟨#[97, 98, 100]⟩)), .p none (.v (.string ⟨#[107, 101, 121]⟩)), .p none (.v (.string ⟨#[107, 101, 121, 49]⟩)), .p none (.v (.string ⟨#[107, 101, 121, 50]⟩)), .p none (.v (.string ⟨#[122, 122]⟩)), .p none (.v (.string ⟨#[97, 0]⟩))]) (ps := [PV.v (.string ⟨#[97]⟩), PV.v (.string ⟨#[98]⟩), PV.v (.string ⟨#[97, 98]⟩), PV.v (.string ⟨#[97, 98, 99]⟩), PV.v (.string ⟨#[97, 98, 100]⟩), PV.v (.string ⟨#[107, 101, 121]⟩), PV.v (.string ⟨#[107, 101, 121, 49]⟩), PV.v (.string ⟨#[107, 101, 121, 50]⟩), PV.v (.string ⟨#[122, 122]⟩), PV.v (.string ⟨#[97, 0]⟩)]) (xs := [[PV.v (.string ⟨#[97]⟩)], [PV.v (.string ⟨#[98]⟩)], [PV.v (.string ⟨#[97, 98]⟩)], [PV.v (.string ⟨#[97, 98, 99]⟩)], [PV.v (.string ⟨#[97, 98, 100]⟩)], [PV.v (.string ⟨#[107, 101, 121]⟩)], [PV.v (.string ⟨#[107, 101, 121, 49]⟩)], [PV.v (.string ⟨#[107, 101, 121, 50]⟩)], [PV.v (.string ⟨#[122, 122]⟩)], [PV.v (.string ⟨#[97, 0]⟩)]]) rfl 300 Try.underlying147 inf9 (nle rfl) (by decide) rfl rfl (by kernel_rfl) (.cons .v (.cons .v (.cons .v (.cons .v (.cons .v (.cons .v (.cons .v (.cons .v (.cons .v (.cons .v .nil)))))))))) (by decide) (by kernel_rfl) (by decide) rfl (by decide) rfl) (.run [] [] rfl (st_move rfl) (.run [100000, 500] [] rfl (st_callG (.inr rfl) rfl 500 (X := [100000]) en139 rfl (.val nod) (.cons (.rptr rfl) (.cons (.one (.bor .v)) .nil)) (by decide) (all_cons rfl all_nil) (.keep (xs := pvRd (cv, p)) rfl (FlatP.nf (pvRd_flat _)) .nil) (below_con hc hl p hp 10 (by omega)) rfl rfl (nle rfl)) (.run [] [] rfl (st_idx_row0 (belowV bs p 10) rfl rfl rfl rfl Try.underlying147 Try.sizeOf9 rfl rfl (belowV_lt (by decide))) (.run [] [] rfl (st_load_ea1 rfl rfl rfl (pvT_get (user_get bs p)) Try.isAgg9 rfl) (.run [] [] rfl (st_assign rfl) .nil)))))) ?_
  refine tr_ret ?_
  exact ends [_] [] (.cons (.tmp rfl) .nil) (.cons (.one .v (.v _)) .nil) (by decide) (outs1 (congrArg (fun x => some (2, x)) (congrArg pvRd (congrArg (Prod.mk cv) rfl))) (pvRd_flat _) (by decide))
set_option maxRecDepth 1000000 in
set_option maxHeartbeats 2000000 in
theorem bytes_con {γ : Gho} {cv : Value} {bs : List Nat} (hc : CodeAt γ cv bs) (hl : bs.length ≤ 1152921504606846976) (p : Nat) (hp : p ≤ bs.length) (most : Nat) (hmo : most ≤ 1000) : ConG γ Try.prog 181 [.rptr 2 [PV.v (cv), PV.v (.int .i64 (p:Int))], .one (PV.v (.int .i64 (most:Int)))] [some (pvRd (cv, bytesP bs p most))] [.one (.v (.string (bytesV bs p most)))] := by
  refine con_of_tr Try.func181 rfl rfl rfl rfl ?_
  have hb0 := belowV_lt (bs := bs) (p := p) (n := most + 1) (by omega)
  refine tr_seq ?_
  refine tr_region rfl (.run [] [] rfl (st_assign rfl) .nil) ?_
  refine tr_seq ?_
  refine tr_region rfl (.run [700] [] rfl (st_buildSlice rfl 700 Try.underlying34 inf5 (nle rfl) (by decide) rfl rfl rfl .nil (by decide) rfl (by decide) rfl (by decide) rfl) (.run [] [] rfl (st_assign rfl) .nil)) ?_
  refine tr_seq ?_
  refine tr_seq ?_
  refine tr_region rfl (.run [] [] rfl (st_move rfl) (.run [] [] rfl (st_move rfl) (.run [] [] rfl (st_eq (st_addn rfl rfl rfl (by omega)) ((int_eq (by omega)))) (.run [100000, 1100] [] rfl (st_callG (.inr rfl) rfl 1100 (X := [100000]) en139 rfl (.val nod) (.cons (.rptr rfl) (.cons (.one (.bor .v)) .nil)) (by decide) (all_cons rfl all_nil) (.keep (xs := pvRd (cv, p)) rfl (FlatP.nf (pvRd_flat _)) .nil) (below_con hc hl p hp (most + 1) (by omega)) rfl rfl (nle rfl)) (.run [] [] rfl (st_assign rfl) .nil))))) ?_
  refine tr_block ?_
  refine tr_wk (wk_ren 700 1 rfl rfl (by decide)) ?_
-- entry row 100000: pvRd (cv, (belowP bs p (most + 1))) now pvRd (cv, belowP bs p (most + 1))
  refine tr_loopS (σ := Nat × List Int × Nat) (fun (i, l, q) => mk [(0, .ea 100000 0 0), (5, .sl 1 0 ((pvU l).length)), (6, .p none (.v (.int .i64 (i:Int))))] [] [(1, 1, pvU l), (100000, 2, pvRd (cv, q))]) (fun (i, l, q) => i ≤ 1001 ∧ l.length + i ≤ 1001 ∧ q ≤ bs.length ∧ bytesL bs i l q = bytesR bs p most) (fun (i, l, q) => i) (belowV bs p (most + 1), [], belowP bs p (most + 1)) ⟨by omega, by simp only [List.length_nil]; omega, belowP_le hp, rfl⟩ (wk_mk ⟨rfl, ⟨rfl, ⟨(int_eq (by omega)), trivial⟩⟩⟩ trivial ⟨(congrArg (fun x => some (1, x)) (by rfl)), ⟨rfl, trivial⟩⟩ rfl) ?_
  rintro ⟨i, l, q⟩ hG
  replace hG : i ≤ 1001 ∧ l.length + i ≤ 1001 ∧ q ≤ bs.length ∧ bytesL bs i l q = bytesR bs p most := hG
  obtain ⟨hi, hll, hp, hE⟩ := hG
  have hle := pvU_length l
  refine tr_seq ?_
  refine tr_seq ?_
  refine tr_region rfl (.run [] [] rfl (st_move rfl) (.run [] [] rfl (st_gtr rfl rfl rfl) .nil)) ?_
  refine tr_if (t := decide (0 < (i:Int))) rfl (fun h1 => ?_) (fun h1 => ?_)
  · skip
    replace h1 := of_decide_eq_true h1
    refine tr_skip ?_
    refine tr_seq ?_
    refine tr_block ?_
    refine tr_region rfl (.run [] [] rfl (st_move rfl) (.run [] [] rfl (st_move rfl) (.run [100000, 1800] [] rfl (st_callG (.inr rfl) rfl 1800 (X := [100000]) en139 rfl (.val nod) (.cons (.rptr rfl) (.cons (.one (.bor .v)) .nil)) (by decide) (all_cons rfl all_nil) (.keep (xs := pvRd (cv, q)) rfl (FlatP.nf (pvRd_flat _)) .nil) (below_con hc hl q hp 256 (by omega)) rfl rfl (nle rfl)) (.run [] [] rfl (st_conv rfl rfl Try.underlying3 Try.underlying5) (.run [2000] [] rfl (st_buildSlice rfl 2000 Try.underlying34 inf5 (nle rfl) (by decide) rfl rfl rfl (.cons .v .nil) (by decide) rfl (by decide) rfl (by decide) rfl) (.run [1] [] rfl (st_append rfl 1 (ib := 1) (len := ((pvU l) ++ [[PV.v (.int .u8 (IntKind.u8.wrap ((belowV bs q 256 : Nat) : Int)))]]).length) rfl rfl (.row (len := (pvU l).length) (xs := pvU l) rfl rfl (.inl rfl)) (.give (len := 1) (xs := [[PV.v (.int .u8 (IntKind.u8.wrap ((belowV bs q 256 : Nat) : Int)))]]) rfl rfl) Try.underlying34 (sk Try.underlying34 rfl) inf5 rfl (by decide) (by decide) (by decide) List.length_append (by simp only [maxLen, List.length_append, List.length_map, List.length_cons, List.length_nil, List.length_take, List.length_drop, pvE_length, pvI_length, pvT_length, pvU_length]; omega) (by simp only [maxLen, List.length_append, List.length_map, List.length_cons, List.length_nil, List.length_take, List.length_drop, pvE_length, pvI_length, pvT_length, pvU_length]; omega)) (.run [] [] rfl (st_assign rfl) .nil))))))) ?_
    have hr2 : (pvU l) ++ [[PV.v (.int .u8 (IntKind.u8.wrap ((belowV bs q 256 : Nat) : Int)))]] = pvU (l ++ [IntKind.u8.wrap ((belowV bs q 256 : Nat) : Int)]) := by simp [pvU]
    have hp3 : (.sl 1 0 (((pvU l) ++ [[PV.v (.int .u8 (IntKind.u8.wrap ((belowV bs q 256 : Nat) : Int)))]]).length) : AV) = .sl 1 0 ((pvU (l ++ [IntKind.u8.wrap ((belowV bs q 256 : Nat) : Int)])).length) := by simp only [hr2]
    refine tr_wk (s' := mk [(0, .ea 100000 0 0), (5, .sl 1 0 ((pvU (l ++ [IntKind.u8.wrap ((belowV bs q 256 : Nat) : Int)])).length)), (6, .p none (.v (.int .i64 (i:Int))))] [] [(1, 1, pvU (l ++ [IntKind.u8.wrap ((belowV bs q 256 : Nat) : Int)])), (100000, 2, pvRd (cv, belowP bs q 256))]) ?_ ?_
    · exact wk_mk ⟨rfl, ⟨hp3, ⟨rfl, trivial⟩⟩⟩ trivial ⟨(congrArg (fun x => some (1, x)) hr2), ⟨rfl, trivial⟩⟩ rfl
    refine tr_region rfl (.run [] [] rfl (st_move rfl) (.run [] [] rfl (st_subn rfl rfl rfl (by omega)) (.run [] [] rfl (st_assign rfl) .nil))) ?_
-- round row 100000: pvRd (cv, (belowP bs q 256)) now pvRd (cv, belowP bs q 256)
    refine nxt (Q := fun _ _ => False) (z := (i, l, q)) (i - 1, l ++ [IntKind.u8.wrap ((belowV bs q 256 : Nat) : Int)], belowP bs q 256) ?_ ?_ ?_
    · show (i - 1) ≤ 1001 ∧ (l ++ [IntKind.u8.wrap ((belowV bs q 256 : Nat) : Int)]).length + (i - 1) ≤ 1001 ∧ (belowP bs q 256) ≤ bs.length ∧ bytesL bs (i - 1) (l ++ [IntKind.u8.wrap ((belowV bs q 256 : Nat) : Int)]) (belowP bs q 256) = bytesR bs p most
      exact ⟨by omega, by simp only [List.length_append, List.length_cons, List.length_nil]; omega, belowP_le hp, bytesL_go (by omega) hE⟩
    · show (i - 1) < i
      omega
    · exact wk_mk ⟨rfl, ⟨rfl, ⟨(int_eq (by omega)), trivial⟩⟩⟩ trivial ⟨rfl, ⟨rfl, trivial⟩⟩ rfl
  · skip
    replace h1 := of_decide_eq_false h1
    refine tr_exit ?_
    refine tr_seq ?_
    have hi0 : i = 0 := (by omega)
    rw [hi0] at hE
    have hEm : (l, q) = bytesR bs p most := hE
    refine tr_region rfl (.run [] [] rfl (st_move rfl) (.run [] [] rfl (st_strN l rfl rfl (.give (len := (pvU l).length) (xs := pvU l) rfl rfl) rfl rfl Try.underlying34 Try.underlying9 Try.underlying5) (.run [] [] rfl (st_assign rfl) .nil))) ?_
    refine tr_ret ?_
    exact ends [_] [] (.cons (.tmp (str_eq (by rw [bytesV, ← hEm]))) .nil) (.cons (.one .v (.v _)) .nil) (by decide) (outs1 (congrArg (fun x => some (2, x)) (congrArg pvRd (congrArg (Prod.mk cv) (by rw [bytesP, ← hEm])))) (pvRd_flat _) (by decide))
set_option maxRecDepth 1000000 in
set_option maxHeartbeats 2000000 in
theorem value_con {γ : Gho} {cv : Value} {bs : List Nat} (hc : CodeAt γ cv bs) (hl : bs.length ≤ 1152921504606846976) (p : Nat) (hp : p ≤ bs.length)  : ConG γ Try.prog 170 [.rptr 2 [PV.v (cv), PV.v (.int .i64 (p:Int))]] [some (pvRd (cv, belowP bs p 5))] [.one (.v (.string (valueV bs p)))] := by
  refine con_of_tr Try.func170 rfl rfl rfl rfl ?_
  refine tr_seq ?_
  refine tr_region rfl (.run [] [] rfl (st_assign rfl) .nil) ?_
  refine tr_seq ?_
  refine tr_region rfl (.run [300] [] rfl (st_buildSlice rfl 300 Try.underlying147 inf9 (nle rfl) (by decide) rfl rfl rfl (.cons .v (.cons .v (.cons .v (.cons .v (.cons .v .nil))))) (by decide) rfl (by decide) rfl (by decide) rfl) (.run [] [] rfl (st_move rfl) (.run [100000, 500] [] rfl (st_callG (.inr rfl) rfl 500 (X := [100000]) en139 rfl (.val nod) (.cons (.rptr rfl) (.cons (.one (.bor .v)) .nil)) (by decide) (all_cons rfl all_nil) (.keep (xs := pvRd (cv, p)) rfl (FlatP.nf (pvRd_flat _)) .nil) (below_con hc hl p hp 5 (by omega)) rfl rfl (nle rfl)) (.run [] [] rfl (st_idx_row0 (belowV bs p 5) rfl rfl rfl rfl Try.underlying147 Try.sizeOf9 rfl rfl (belowV_lt (by decide))) (.run [] [] rfl (st_load_ea1 rfl rfl rfl (pvT_get (value_get bs p)) Try.isAgg9 rfl) (.run [] [] rfl (st_assign rfl) .nil)))))) ?_
  refine tr_ret ?_
  exact ends [_] [] (.cons (.tmp rfl) .nil) (.cons (.one .v (.v _)) .nil) (by decide) (outs1 (congrArg (fun x => some (2, x)) (congrArg pvRd (congrArg (Prod.mk cv) rfl))) (pvRd_flat _) (by decide))
set_option maxRecDepth 1000000 in
set_option maxHeartbeats 2000000 in
theorem key_con {γ : Gho} {cv : Value} {bs : List Nat} (hc : CodeAt γ cv bs) (hl : bs.length ≤ 1152921504606846976) (p : Nat) (hp : p ≤ bs.length)  : ConG γ Try.prog 169 [.rptr 2 [PV.v (cv), PV.v (.int .i64 (p:Int))]] [some (pvRd (cv, keyP bs p))] [.agg [.v (.string (keyV bs p).user), .v (.int .i64 (keyV bs p).seq), .v (.int .i64 (keyV bs p).kind)]] := by
  refine con_of_tr Try.func169 rfl rfl rfl rfl ?_
  refine tr_seq ?_
  refine tr_region rfl (.run [] [2] rfl (st_allocZ rfl 2 inf42 rfl (by decide) rfl (by decide)) .nil) ?_
  refine tr_seq ?_
  refine tr_region rfl (.run [] [] rfl (st_move rfl) (.run [100000, 500] [] rfl (st_callG (.inr rfl) rfl 500 (X := [100000]) en128 rfl (.val nod) (.cons (.rptr rfl) .nil) (by decide) (all_cons rfl all_nil) (.keep (xs := pvRd (cv, p)) rfl (FlatP.nf (pvRd_flat _)) .nil) (user_con hc hl p hp) rfl rfl (nle rfl)) (.run [] [] rfl (st_move rfl) (.run [100000, 700] [] rfl (st_callG (.inr rfl) rfl 700 (X := [100000]) en180 rfl (.val nod) (.cons (.rptr rfl) (.cons (.one (.bor .v)) (.cons (.one (.bor .v)) .nil))) (by decide) (all_cons rfl all_nil) (.keep (xs := pvRd (cv, userP bs p)) rfl (FlatP.nf (pvRd_flat _)) .nil) (near_con hc hl (userP bs p) (belowP_le hp) 0 12 (by omega) (by omega)) rfl rfl (nle rfl)) (.run [] [] rfl (st_move rfl) (.run [100000, 900] [] rfl (st_callG (.inr rfl) rfl 900 (X := [100000]) en139 rfl (.val nod) (.cons (.rptr rfl) (.cons (.one (.bor .v)) .nil)) (by decide) (all_cons rfl all_nil) (.keep (xs := pvRd (cv, nearP bs (userP bs p) 0 12)) rfl (FlatP.nf (pvRd_flat _)) .nil) (below_con hc hl (nearP bs (userP bs p) 0 12) (nearP_le (belowP_le hp)) 2 (by omega)) rfl rfl (nle rfl)) (.run [] [] rfl (st_build (pl := [(0, 1), (1, 1), (2, 1)]) rfl Try.underlying42 inf42 (by kernel_rfl) rfl rfl) (.run [] [3] rfl (st_allocZ rfl 3 inf42 rfl (by decide) rfl (by decide)) (.run [] [] rfl (st_store_box rfl rfl rfl rfl rfl Try.sizeOf42 rfl (nle rfl)) .nil))))))))) ?_
  refine tr_seq ?_
  refine tr_seq ?_
  refine tr_region rfl (.run [] [] rfl (st_move rfl) (.run [100000, 1200] [] rfl (st_callG (.inr rfl) rfl 1200 (X := [100000]) en139 rfl (.val nod) (.cons (.rptr rfl) (.cons (.one (.bor .v)) .nil)) (by decide) (all_cons rfl all_nil) (.keep (xs := pvRd (cv, belowP bs (nearP bs (userP bs p) 0 12) 2)) rfl (FlatP.nf (pvRd_flat _)) .nil) (below_con hc hl (belowP bs (nearP bs (userP bs p) 0 12) 2) (belowP_le (nearP_le (belowP_le hp))) 24 (by omega)) rfl rfl (nle rfl)) .nil)) ?_
  refine tr_block ?_
  refine tr_seq ?_
  refine tr_region rfl (.run [] [] rfl (st_eql rfl rfl rfl) (.run [] [] rfl (st_assign rfl) .nil)) ?_
  refine tr_if (t := decide (((belowV bs (belowP bs (nearP bs (userP bs p) 0 12) 2) 24 : Nat) : Int) = 0)) rfl (fun h1 => ?_) (fun h1 => ?_)
  · skip
    replace h1 := of_decide_eq_true h1
    refine tr_wk (s' := mk [(0, .ea 100000 0 0), (2, .ptr 2 0), (3, .ptr 3 0)] [(2, [.p none (.v (.string ⟨#[]⟩)), .p none (.v (.int .i64 0)), .p none (.v (.int .i64 0))]), (3, [.p none (.v (.string (userV bs p))), .p none (.v (.int .i64 (nearV bs (userP bs p) 0 12))), .p none (.v (.int .i64 ((belowV bs (nearP bs (userP bs p) 0 12) 2 : Nat) : Int)))])] [(100000, 2, pvRd (cv, belowP bs (belowP bs (nearP bs (userP bs p) 0 12) 2) 24))]) ?_ ?_
    · exact wk_mk ⟨rfl, ⟨rfl, ⟨rfl, trivial⟩⟩⟩ ⟨rfl, ⟨rfl, trivial⟩⟩ ⟨rfl, trivial⟩ rfl
    refine tr_region rfl (.run [] [] rfl (st_move rfl) (.run [100000, 1600] [] rfl (st_callG (.inr rfl) rfl 1600 (X := [100000]) en162 rfl (.val nod) (.cons (.rptr rfl) (.cons (.one (.bor .v)) (.cons (.one (.bor .v)) .nil))) (by decide) (all_cons rfl all_nil) (.keep (xs := pvRd (cv, belowP bs (belowP bs (nearP bs (userP bs p) 0 12) 2) 24)) rfl (FlatP.nf (pvRd_flat _)) .nil) (off_con hc hl (belowP bs (belowP bs (nearP bs (userP bs p) 0 12) 2) 24) (belowP_le (belowP_le (nearP_le (belowP_le hp)))) 0 1000000000000 (by omega) (by omega)) rfl rfl (nle rfl)) (.run [] [] rfl (st_faddr_box rfl rfl Try.underlying42 rfl Try.sizeOf2 (by decide)) (.run [] [] rfl (st_store_box rfl rfl rfl rfl rfl Try.sizeOf2 rfl (nle rfl)) .nil)))) ?_
    refine tr_seq ?_
    have hk := key_0 (bs := bs) (p := p) (by show belowV bs (key0P bs p) 24 = 0; unfold key0P; omega)
    rw [hk.1, hk.2]
    refine tr_region rfl (.run [] [] rfl (st_load_box rfl rfl rfl Try.isAgg42 Try.sizeOf42 (nle rfl)) (.run [] [] rfl (st_store_box rfl rfl rfl rfl rfl Try.sizeOf42 rfl (nle rfl)) .nil)) ?_
    refine tr_ret ?_
    exact ends [_] [] (.cons (.cell rfl rfl Try.isAgg42 Try.sizeOf42 (nle rfl)) .nil) (.cons (.agg (.cons .v (.cons .v (.cons .v .nil))) (cl_cons (.v _) (cl_cons (.v _) (cl_cons (.v _) cl_nil)))) .nil) (by decide) (outs1 (congrArg (fun x => some (2, x)) (congrArg pvRd (congrArg (Prod.mk cv) rfl))) (pvRd_flat _) (by decide))
  · skip
    replace h1 := of_decide_eq_false h1
    refine tr_seq ?_
    refine tr_region rfl (.run [] [] rfl (st_eql rfl rfl rfl) (.run [] [] rfl (st_assign rfl) .nil)) ?_
    refine tr_if (t := decide (((belowV bs (belowP bs (nearP bs (userP bs p) 0 12) 2) 24 : Nat) : Int) = 1)) rfl (fun h2 => ?_) (fun h2 => ?_)
    · skip
      replace h2 := of_decide_eq_true h2
      refine tr_wk (s' := mk [(0, .ea 100000 0 0), (2, .ptr 2 0), (3, .ptr 3 0)] [(2, [.p none (.v (.string ⟨#[]⟩)), .p none (.v (.int .i64 0)), .p none (.v (.int .i64 0))]), (3, [.p none (.v (.string (userV bs p))), .p none (.v (.int .i64 (nearV bs (userP bs p) 0 12))), .p none (.v (.int .i64 ((belowV bs (nearP bs (userP bs p) 0 12) 2 : Nat) : Int)))])] [(100000, 2, pvRd (cv, belowP bs (belowP bs (nearP bs (userP bs p) 0 12) 2) 24))]) ?_ ?_
      · exact wk_mk ⟨rfl, ⟨rfl, ⟨rfl, trivial⟩⟩⟩ ⟨rfl, ⟨rfl, trivial⟩⟩ ⟨rfl, trivial⟩ rfl
      refine tr_region rfl (.run [] [] rfl (st_move rfl) (.run [100000, 2100] [] rfl (st_callG (.inr rfl) rfl 2100 (X := [100000]) en162 rfl (.val nod) (.cons (.rptr rfl) (.cons (.one (.bor .v)) (.cons (.one (.bor .v)) .nil))) (by decide) (all_cons rfl all_nil) (.keep (xs := pvRd (cv, belowP bs (belowP bs (nearP bs (userP bs p) 0 12) 2) 24)) rfl (FlatP.nf (pvRd_flat _)) .nil) (off_con hc hl (belowP bs (belowP bs (nearP bs (userP bs p) 0 12) 2) 24) (belowP_le (belowP_le (nearP_le (belowP_le hp)))) 0 1 (by omega) (by omega)) rfl rfl (nle rfl)) (.run [] [] rfl (st_faddr_box rfl rfl Try.underlying42 rfl Try.sizeOf2 (by decide)) (.run [] [] rfl (st_store_box rfl rfl rfl rfl rfl Try.sizeOf2 rfl (nle rfl)) .nil)))) ?_
      refine tr_seq ?_
      have hk := key_1 (bs := bs) (p := p) (by show ¬ belowV bs (key0P bs p) 24 = 0; unfold key0P; omega) (by show belowV bs (key0P bs p) 24 = 1; unfold key0P; omega)
      rw [hk.1, hk.2]
      refine tr_region rfl (.run [] [] rfl (st_load_box rfl rfl rfl Try.isAgg42 Try.sizeOf42 (nle rfl)) (.run [] [] rfl (st_store_box rfl rfl rfl rfl rfl Try.sizeOf42 rfl (nle rfl)) .nil)) ?_
      refine tr_ret ?_
      exact ends [_] [] (.cons (.cell rfl rfl Try.isAgg42 Try.sizeOf42 (nle rfl)) .nil) (.cons (.agg (.cons .v (.cons .v (.cons .v .nil))) (cl_cons (.v _) (cl_cons (.v _) (cl_cons (.v _) cl_nil)))) .nil) (by decide) (outs1 (congrArg (fun x => some (2, x)) (congrArg pvRd (congrArg (Prod.mk cv) rfl))) (pvRd_flat _) (by decide))
    · skip
      replace h2 := of_decide_eq_false h2
      refine tr_seq ?_
      refine tr_wk (s' := mk [(0, .ea 100000 0 0), (2, .ptr 2 0), (3, .ptr 3 0), (12, .p none (.v (.int .i64 ((belowV bs (belowP bs (nearP bs (userP bs p) 0 12) 2) 24 : Nat) : Int))))] [(2, [.p none (.v (.string ⟨#[]⟩)), .p none (.v (.int .i64 0)), .p none (.v (.int .i64 0))]), (3, [.p none (.v (.string (userV bs p))), .p none (.v (.int .i64 (nearV bs (userP bs p) 0 12))), .p none (.v (.int .i64 ((belowV bs (nearP bs (userP bs p) 0 12) 2 : Nat) : Int)))])] [(100000, 2, pvRd (cv, belowP bs (belowP bs (nearP bs (userP bs p) 0 12) 2) 24))]) ?_ ?_
      · exact wk_mk ⟨rfl, ⟨rfl, ⟨rfl, ⟨rfl, trivial⟩⟩⟩⟩ ⟨rfl, ⟨rfl, trivial⟩⟩ ⟨rfl, trivial⟩ rfl
      refine tr_region rfl (.run [] [] rfl (st_eql rfl rfl rfl) (.run [] [] rfl (st_assign rfl) .nil)) ?_
      refine tr_if (t := decide (((belowV bs (belowP bs (nearP bs (userP bs p) 0 12) 2) 24 : Nat) : Int) = 2)) rfl (fun h3 => ?_) (fun h3 => ?_)
      · skip
        replace h3 := of_decide_eq_true h3
        refine tr_region rfl (.run [] [] rfl (st_move rfl) (.run [100000, 2600] [] rfl (st_callG (.inr rfl) rfl 2600 (X := [100000]) en181 rfl (.val nod) (.cons (.rptr rfl) (.cons (.one (.bor .v)) .nil)) (by decide) (all_cons rfl all_nil) (.keep (xs := pvRd (cv, belowP bs (belowP bs (nearP bs (userP bs p) 0 12) 2) 24)) rfl (FlatP.nf (pvRd_flat _)) .nil) (bytes_con hc hl (belowP bs (belowP bs (nearP bs (userP bs p) 0 12) 2) 24) (belowP_le (belowP_le (nearP_le (belowP_le hp)))) 45 (by omega)) rfl rfl (nle rfl)) (.run [] [] rfl (st_faddr_box rfl rfl Try.underlying42 rfl Try.sizeOf9 (by decide)) (.run [] [] rfl (st_store_box rfl rfl rfl rfl rfl Try.sizeOf9 rfl (nle rfl)) .nil)))) ?_
        refine tr_seq ?_
        have hk := key_2 (bs := bs) (p := p) (by show ¬ belowV bs (key0P bs p) 24 = 0; unfold key0P; omega) (by show ¬ belowV bs (key0P bs p) 24 = 1; unfold key0P; omega) (by show belowV bs (key0P bs p) 24 = 2; unfold key0P; omega)
        rw [hk.1, hk.2]
        refine tr_region rfl (.run [] [] rfl (st_load_box rfl rfl rfl Try.isAgg42 Try.sizeOf42 (nle rfl)) (.run [] [] rfl (st_store_box rfl rfl rfl rfl rfl Try.sizeOf42 rfl (nle rfl)) .nil)) ?_
        refine tr_ret ?_
        exact ends [_] [] (.cons (.cell rfl rfl Try.isAgg42 Try.sizeOf42 (nle rfl)) .nil) (.cons (.agg (.cons .v (.cons .v (.cons .v .nil))) (cl_cons (.v _) (cl_cons (.v _) (cl_cons (.v _) cl_nil)))) .nil) (by decide) (outs1 (congrArg (fun x => some (2, x)) (congrArg pvRd (congrArg (Prod.mk cv) rfl))) (pvRd_flat _) (by decide))
      · skip
        replace h3 := of_decide_eq_false h3
        refine tr_skip ?_
        refine tr_seq ?_
        have hk := key_3 (bs := bs) (p := p) (by show ¬ belowV bs (key0P bs p) 24 = 0; unfold key0P; omega) (by show ¬ belowV bs (key0P bs p) 24 = 1; unfold key0P; omega) (by show ¬ belowV bs (key0P bs p) 24 = 2; unfold key0P; omega)
        rw [hk.1, hk.2]
        refine tr_region rfl (.run [] [] rfl (st_load_box rfl rfl rfl Try.isAgg42 Try.sizeOf42 (nle rfl)) (.run [] [] rfl (st_store_box rfl rfl rfl rfl rfl Try.sizeOf42 rfl (nle rfl)) .nil)) ?_
        refine tr_ret ?_
        exact ends [_] [] (.cons (.cell rfl rfl Try.isAgg42 Try.sizeOf42 (nle rfl)) .nil) (.cons (.agg (.cons .v (.cons .v (.cons .v .nil))) (cl_cons (.v _) (cl_cons (.v _) (cl_cons (.v _) cl_nil)))) .nil) (by decide) (outs1 (congrArg (fun x => some (2, x)) (congrArg pvRd (congrArg (Prod.mk cv) rfl))) (pvRd_flat _) (by decide))
set_option maxRecDepth 1000000 in
set_option maxHeartbeats 2000000 in
theorem entry_con {γ : Gho} {cv : Value} {bs : List Nat} (hc : CodeAt γ cv bs) (hl : bs.length ≤ 1152921504606846976) (p : Nat) (hp : p ≤ bs.length)  : ConG γ Try.prog 140 [.rptr 2 [PV.v (cv), PV.v (.int .i64 (p:Int))]] [some (pvRd (cv, entryP bs p))] [.agg [.v (.string (entryV bs p).user), .v (.int .i64 (entryV bs p).seq), .v (.int .i64 (entryV bs p).kind), .v (.string (entryV bs p).value)]] := by
  refine con_of_tr Try.func140 rfl rfl rfl rfl ?_
  refine tr_seq ?_
  refine tr_region rfl (.run [] [2] rfl (st_allocZ rfl 2 inf44 rfl (by decide) rfl (by decide)) .nil) ?_
  refine tr_seq ?_
  refine tr_region rfl (.run [] [] rfl (st_move rfl) (.run [100000, 500, 501, 502] [] rfl (st_callG (.inr rfl) rfl 500 (X := [100000]) en169 rfl (.val nod) (.cons (.rptr rfl) .nil) (by decide) (all_cons rfl all_nil) (.keep (xs := pvRd (cv, p)) rfl (FlatP.nf (pvRd_flat _)) .nil) (key_con hc hl p hp) rfl rfl (nle rfl)) (.run [] [] rfl (st_move rfl) (.run [100000, 700] [] rfl (st_callG (.inr rfl) rfl 700 (X := [100000]) en170 rfl (.val nod) (.cons (.rptr rfl) .nil) (by decide) (all_cons rfl all_nil) (.keep (xs := pvRd (cv, keyP bs p)) rfl (FlatP.nf (pvRd_flat _)) .nil) (value_con hc hl (keyP bs p) (keyP_le hp)) rfl rfl (nle rfl)) (.run [] [] rfl (st_build (pl := [(0, 3), (3, 1)]) rfl Try.underlying44 inf44 (by kernel_rfl) rfl rfl) (.run [] [3] rfl (st_allocZ rfl 3 inf44 rfl (by decide) rfl (by decide)) (.run [] [] rfl (st_store_box rfl rfl rfl rfl rfl Try.sizeOf44 rfl (nle rfl)) .nil))))))) ?_
  refine tr_seq ?_
  refine tr_seq ?_
  refine tr_wk (s' := mk [(0, .ea 100000 0 0), (2, .ptr 2 0), (3, .ptr 3 0)] [(2, [.p none (.v (.string ⟨#[]⟩)), .p none (.v (.int .i64 0)), .p none (.v (.int .i64 0)), .p none (.v (.string ⟨#[]⟩))]), (3, [.p none (.v (.string ((keyV bs p).user))), .p none (.v (.int .i64 ((keyV bs p).seq))), .p none (.v (.int .i64 ((keyV bs p).kind))), .p none (.v (.string (valueV bs (keyP bs p))))])] [(100000, 2, pvRd (cv, belowP bs (keyP bs p) 5))]) ?_ ?_
  · exact wk_mk ⟨rfl, ⟨rfl, ⟨rfl, trivial⟩⟩⟩ ⟨rfl, ⟨rfl, trivial⟩⟩ ⟨rfl, trivial⟩ rfl
  rcases bfc (decide (((keyV bs p).kind) = 0)) with h1 | h1
  · have h1' := h1
    replace h1' := of_decide_eq_false h1'
    refine tr_region rfl (.run [] [] rfl (st_faddr_box rfl rfl Try.underlying44 rfl Try.sizeOf42 (by decide)) (.run [] [] rfl (st_faddr_box rfl rfl Try.underlying42 rfl Try.sizeOf2 (by decide)) (.run [] [] rfl (st_load_box1 rfl rfl rfl Try.isAgg2 rfl) (.run [] [] rfl (st_eq (st_eql rfl rfl rfl) (by exact congrArg (fun b => AV.p none (.v (.bool b))) h1)) (.run [] [] rfl (st_move rfl) (.not rfl (.not rfl (.not rfl (.run [] [] rfl (st_pick (t := false) rfl rfl) .nil))))))))) ?_
    refine tr_if (t := false) rfl (fun h => nomatch h) (fun _ => ?_)
    refine tr_skip ?_
    refine tr_seq ?_
    have hk := ent_2 (bs := bs) (p := p) h1'
    rw [hk.1, hk.2]
    refine tr_region rfl (.run [] [] rfl (st_load_box rfl rfl rfl Try.isAgg44 Try.sizeOf44 (nle rfl)) (.run [] [] rfl (st_store_box rfl rfl rfl rfl rfl Try.sizeOf44 rfl (nle rfl)) .nil)) ?_
    refine tr_ret ?_
    exact ends [_] [] (.cons (.cell rfl rfl Try.isAgg44 Try.sizeOf44 (nle rfl)) .nil) (.cons (.agg (.cons .v (.cons .v (.cons .v (.cons .v .nil)))) (cl_cons (.v _) (cl_cons (.v _) (cl_cons (.v _) (cl_cons (.v _) cl_nil))))) .nil) (by decide) (outs1 (congrArg (fun x => some (2, x)) (congrArg pvRd (congrArg (Prod.mk cv) rfl))) (pvRd_flat _) (by decide))
  · have h1' := h1
    replace h1' := of_decide_eq_true h1'
    refine tr_region rfl (.run [] [] rfl (st_faddr_box rfl rfl Try.underlying44 rfl Try.sizeOf42 (by decide)) (.run [] [] rfl (st_faddr_box rfl rfl Try.underlying42 rfl Try.sizeOf2 (by decide)) (.run [] [] rfl (st_load_box1 rfl rfl rfl Try.isAgg2 rfl) (.run [] [] rfl (st_eq (st_eql rfl rfl rfl) (by exact congrArg (fun b => AV.p none (.v (.bool b))) h1)) (.run [] [] rfl (st_move rfl) (.run [] [] rfl (st_move rfl) (.run [100000, 1500] [] rfl (st_callG (.inr rfl) rfl 1500 (X := [100000]) en80 rfl (.val nod) (.cons (.rptr rfl) (.cons (.one (.bor .v)) .nil)) (by decide) (all_cons rfl all_nil) (.keep (xs := pvRd (cv, belowP bs (keyP bs p) 5)) rfl (FlatP.nf (pvRd_flat _)) .nil) (once_con hc hl (belowP bs (keyP bs p) 5) (belowP_le (keyP_le hp)) 12 (by omega)) rfl rfl (nle rfl)) (.run [] [] rfl (st_not (b := onceV bs (belowP bs (keyP bs p) 5) 12) rfl rfl) (.run [] [] rfl (st_pick (t := true) rfl rfl) .nil))))))))) ?_
    refine tr_if (t := (!(onceV bs (belowP bs (keyP bs p) 5) 12))) rfl (fun h2 => ?_) (fun h2 => ?_)
    · skip
      replace h2 : (onceV bs (belowP bs (keyP bs p) 5) 12) = false := bnot_t h2
      refine tr_region rfl (.run [] [] rfl (st_faddr_box rfl rfl Try.underlying44 rfl Try.sizeOf9 (by decide)) (.run [] [] rfl (st_store_box rfl rfl rfl rfl rfl Try.sizeOf9 rfl (nle rfl)) .nil)) ?_
      refine tr_seq ?_
      have hk := ent_1 (bs := bs) (p := p) h1' h2
      rw [hk.1, hk.2]
      refine tr_region rfl (.run [] [] rfl (st_load_box rfl rfl rfl Try.isAgg44 Try.sizeOf44 (nle rfl)) (.run [] [] rfl (st_store_box rfl rfl rfl rfl rfl Try.sizeOf44 rfl (nle rfl)) .nil)) ?_
      refine tr_ret ?_
      exact ends [_] [] (.cons (.cell rfl rfl Try.isAgg44 Try.sizeOf44 (nle rfl)) .nil) (.cons (.agg (.cons .v (.cons .v (.cons .v (.cons .v .nil)))) (cl_cons (.v _) (cl_cons (.v _) (cl_cons (.v _) (cl_cons (.v _) cl_nil))))) .nil) (by decide) (outs1 (congrArg (fun x => some (2, x)) (congrArg pvRd (congrArg (Prod.mk cv) rfl))) (pvRd_flat _) (by decide))
    · skip
      replace h2 : (onceV bs (belowP bs (keyP bs p) 5) 12) = true := bnot_f h2
      refine tr_skip ?_
      refine tr_seq ?_
      have hk := ent_0 (bs := bs) (p := p) h1' h2
      rw [hk.1, hk.2]
      refine tr_region rfl (.run [] [] rfl (st_load_box rfl rfl rfl Try.isAgg44 Try.sizeOf44 (nle rfl)) (.run [] [] rfl (st_store_box rfl rfl rfl rfl rfl Try.sizeOf44 rfl (nle rfl)) .nil)) ?_
      refine tr_ret ?_
      exact ends [_] [] (.cons (.cell rfl rfl Try.isAgg44 Try.sizeOf44 (nle rfl)) .nil) (.cons (.agg (.cons .v (.cons .v (.cons .v (.cons .v .nil)))) (cl_cons (.v _) (cl_cons (.v _) (cl_cons (.v _) (cl_cons (.v _) cl_nil))))) .nil) (by decide) (outs1 (congrArg (fun x => some (2, x)) (congrArg pvRd (congrArg (Prod.mk cv) rfl))) (pvRd_flat _) (by decide))
set_option maxRecDepth 1000000 in
set_option maxHeartbeats 2000000 in
theorem entries_con {γ : Gho} {cv : Value} {bs : List Nat} (hc : CodeAt γ cv bs) (hl : bs.length ≤ 1152921504606846976) (p : Nat) (hp : p ≤ bs.length) (most : Nat) (hmo : most ≤ 100) : ConG γ Try.prog 78 [.rptr 2 [PV.v (cv), PV.v (.int .i64 (p:Int))], .one (PV.v (.int .i64 (most:Int)))] [some (pvRd (cv, (entsR bs p most).2))] [.one (.sl true 4 (pvE (entsR bs p most).1))] := by
  refine con_of_tr Try.func78 rfl rfl rfl rfl ?_
  have hb0 := belowV_lt (bs := bs) (p := p) (n := most + 1) (by omega)
  refine tr_seq ?_
  refine tr_region rfl (.run [] [] rfl (st_assign rfl) .nil) ?_
  refine tr_seq ?_
  refine tr_region rfl (.run [1000] [] rfl (st_buildSlice rfl 1000 Try.underlying26 inf44 (nle rfl) (by decide) rfl rfl rfl .nil (by decide) rfl (by decide) rfl (by decide) rfl) (.run [] [] rfl (st_assign rfl) .nil)) ?_
  refine tr_seq ?_
  refine tr_seq ?_
  refine tr_region rfl (.run [] [] rfl (st_move rfl) (.run [] [] rfl (st_move rfl) (.run [] [] rfl (st_eq (st_addn rfl rfl rfl (by omega)) ((int_eq (by omega)))) (.run [100000, 1400] [] rfl (st_callG (.inr rfl) rfl 1400 (X := [100000]) en139 rfl (.val nod) (.cons (.rptr rfl) (.cons (.one (.bor .v)) .nil)) (by decide) (all_cons rfl all_nil) (.keep (xs := pvRd (cv, p)) rfl (FlatP.nf (pvRd_flat _)) .nil) (below_con hc hl p hp (most + 1) (by omega)) rfl rfl (nle rfl)) (.run [] [] rfl (st_assign rfl) .nil))))) ?_
  refine tr_block ?_
  refine tr_wk (wk_ren 1000 1 rfl rfl (by decide)) ?_
-- entry row 100000: pvRd (cv, (belowP bs p (most + 1))) now pvRd (cv, belowP bs p (most + 1))
  refine tr_loopS (σ := Nat × List Ent × Nat) (fun (i, out, q) => mk [(0, .ea 100000 0 0), (5, .sl 1 0 ((pvE out).length)), (6, .p none (.v (.int .i64 (i:Int))))] [] [(1, 4, pvE out), (100000, 2, pvRd (cv, q))]) (fun (i, out, q) => out.length + i ≤ 100 ∧ q ≤ bs.length ∧ entLoop bs i (out, q) = entBase bs p most) (fun (i, out, q) => i) (belowV bs p (most + 1), [], belowP bs p (most + 1)) ⟨by simp only [List.length_nil]; omega, belowP_le hp, rfl⟩ (wk_mk ⟨rfl, ⟨rfl, ⟨(int_eq (by omega)), trivial⟩⟩⟩ trivial ⟨(congrArg (fun x => some (4, x)) (by rfl)), ⟨rfl, trivial⟩⟩ rfl) ?_
  rintro ⟨i, out, q⟩ hG
  replace hG : out.length + i ≤ 100 ∧ q ≤ bs.length ∧ entLoop bs i (out, q) = entBase bs p most := hG
  obtain ⟨hi, hp, hE⟩ := hG
  have hle := pvE_length out
  refine tr_seq ?_
  refine tr_seq ?_
  refine tr_region rfl (.run [] [] rfl (st_move rfl) (.run [] [] rfl (st_gtr rfl rfl rfl) .nil)) ?_
  refine tr_if (t := decide (0 < (i:Int))) rfl (fun h1 => ?_) (fun h1 => ?_)
  · skip
    replace h1 := of_decide_eq_true h1
    refine tr_skip ?_
    refine tr_seq ?_
    refine tr_block ?_
    refine tr_seq ?_
    refine tr_region rfl (.run [] [] rfl (st_move rfl) (.run [100000, 2000, 2001, 2002, 2003] [] rfl (st_callG (.inr rfl) rfl 2000 (X := [100000]) en140 rfl (.val nod) (.cons (.rptr rfl) .nil) (by decide) (all_cons rfl all_nil) (.keep (xs := pvRd (cv, q)) rfl (FlatP.nf (pvRd_flat _)) .nil) (entry_con hc hl q hp) rfl rfl (nle rfl)) (.run [] [7] rfl (st_allocZ rfl 7 inf44 rfl (by decide) rfl (by decide)) (.run [] [] rfl (st_store_box rfl rfl rfl rfl rfl Try.sizeOf44 rfl (nle rfl)) .nil)))) ?_
    refine tr_seq ?_
    refine tr_seq ?_
    refine tr_region rfl (.run [] [] rfl (st_load_box rfl rfl rfl Try.isAgg44 Try.sizeOf44 (nle rfl)) (.run [2200] [] rfl (st_call rfl 2200 (X := []) en82 rfl (.val nod) (.cons (.agg (.cons (.bor .v) (.cons (.bor .v) (.cons (.bor .v) (.cons (.bor .v) .nil))))) .nil) (by decide) all_nil .nil (specEntryOk_con (entryV bs q)) rfl rfl (nle rfl)) (.run [] [] rfl (st_not (b := entOk (entryV bs q)) rfl rfl) .nil))) ?_
    refine tr_if (t := (!(entOk (entryV bs q)))) rfl (fun h2 => ?_) (fun h2 => ?_)
    · skip
      replace h2 : (entOk (entryV bs q)) = false := bnot_t h2
      refine tr_exit ?_
      refine tr_region rfl (.run [] [] rfl (st_move rfl) (.run [] [] rfl (st_subn rfl rfl rfl (by omega)) (.run [] [] rfl (st_assign rfl) .nil))) ?_
-- round row 100000: pvRd (cv, (entryP bs q)) now pvRd (cv, entryP bs q)
      refine nxt (Q := fun _ _ => False) (z := (i, out, q)) (i - 1, out, entryP bs q) ?_ ?_ ?_
      · show out.length + (i - 1) ≤ 100 ∧ (entryP bs q) ≤ bs.length ∧ entLoop bs (i - 1) (out, (entryP bs q)) = entBase bs p most
        exact ⟨by omega, entryP_le hp, entLoop_go (by omega) hE (ins_no h2)⟩
      · show (i - 1) < i
        omega
      · exact wk_mk ⟨rfl, ⟨rfl, ⟨(int_eq (by omega)), trivial⟩⟩⟩ trivial ⟨rfl, ⟨rfl, trivial⟩⟩ rfl
    · skip
      replace h2 : (entOk (entryV bs q)) = true := bnot_f h2
      refine tr_skip ?_
      refine tr_seq ?_
      refine tr_region rfl (.run [] [] rfl (st_assign rfl) .nil) ?_
      refine tr_seq ?_
      refine tr_block ?_
      refine tr_loopS (σ := Nat) (fun k => mk [(0, .ea 100000 0 0), (5, .sl 1 0 ((pvE out).length)), (6, .p none (.v (.int .i64 (i:Int)))), (7, .ptr 7 0), (8, .p none (.v (.int .i64 (k:Int))))] [(7, [.p none (.v (.string ((entryV bs q).user))), .p none (.v (.int .i64 ((entryV bs q).seq))), .p none (.v (.int .i64 ((entryV bs q).kind))), .p none (.v (.string ((entryV bs q).value)))])] [(1, 4, pvE out), (100000, 2, pvRd (cv, entryP bs q))]) (fun k => k ≤ out.length ∧ ∀ (j : Nat) x, j < k → out[j]? = some x → kcmp x (entryV bs q) < 0) (fun k => out.length - k) 0 ⟨Nat.zero_le _, fun j x hj => absurd hj (Nat.not_lt_zero j)⟩ (wk_mk ⟨rfl, ⟨rfl, ⟨rfl, ⟨rfl, ⟨(int_eq (by omega)), trivial⟩⟩⟩⟩⟩ ⟨rfl, trivial⟩ ⟨rfl, ⟨rfl, trivial⟩⟩ rfl) ?_
      rintro k hG
      replace hG : k ≤ out.length ∧ ∀ (j : Nat) x, j < k → out[j]? = some x → kcmp x (entryV bs q) < 0 := hG
      obtain ⟨hk0, hA⟩ := hG
      refine tr_seq ?_
      refine tr_seq ?_
      rcases bfc (decide ((k:Int) < ((pvE out).length : Int))) with h3 | h3
      · have h3' := h3
        replace h3' := of_decide_eq_false h3'
        refine tr_regionD mixed rfl (.run [] [] rfl (st_move rfl) (.run [] [] rfl (st_move rfl) (.run [] [] rfl (st_len_row rfl rfl Try.underlying26) (.run [] [] rfl (st_eq (st_lss rfl rfl rfl) (by exact congrArg (fun b => AV.p none (.v (.bool b))) h3)) (.run [] [] rfl (st_move rfl) (.not rfl (.not rfl (.not rfl (.not rfl (.not rfl (.not rfl (.not rfl (.not rfl (.not rfl (.run [] [] rfl (st_pick (t := false) rfl rfl) .nil))))))))))))))) (by kernel_rfl) ?_
        refine tr_if (t := false) rfl (fun h => nomatch h) (fun _ => ?_)
        refine tr_exit ?_
        refine tr_seq ?_
        refine tr_seq ?_
        have hk : aheadN out (entryV bs q) = k := ahead_at hk0 hA (fun x hx => by have := (List.getElem?_eq_some_iff.1 hx).1; omega)
        refine tr_wk (s' := mk [(0, .ea 100000 0 0), (5, .sl 1 0 ((pvE out).length)), (6, .p none (.v (.int .i64 (i:Int)))), (7, .ptr 7 0), (8, .p none (.v (.int .i64 (k:Int))))] [(7, [.p none (.v (.string ((entryV bs q).user))), .p none (.v (.int .i64 ((entryV bs q).seq))), .p none (.v (.int .i64 ((entryV bs q).kind))), .p none (.v (.string ((entryV bs q).value)))])] [(1, 4, pvE out), (100000, 2, pvRd (cv, entryP bs q))]) ?_ ?_
        · exact wk_mk ⟨rfl, ⟨rfl, ⟨rfl, ⟨rfl, ⟨rfl, trivial⟩⟩⟩⟩⟩ ⟨rfl, trivial⟩ ⟨rfl, ⟨rfl, trivial⟩⟩ rfl
        rcases bfc (decide ((k:Int) < ((pvE out).length : Int))) with h4 | h4
        · have h4' := h4
          replace h4' := of_decide_eq_false h4'
          refine tr_regionD mixed rfl (.run [] [] rfl (st_move rfl) (.run [] [] rfl (st_move rfl) (.run [] [] rfl (st_len_row rfl rfl Try.underlying26) (.run [] [] rfl (st_eq (st_lss rfl rfl rfl) (by exact congrArg (fun b => AV.p none (.v (.bool b))) h4)) (.run [] [] rfl (st_move rfl) (.not rfl (.not rfl (.not rfl (.not rfl (.not rfl (.not rfl (.not rfl (.not rfl (.run [] [] rfl (st_pick (t := false) rfl rfl) .nil)))))))))))))) (by kernel_rfl) ?_
          refine tr_if (t := false) rfl (fun h => nomatch h) (fun _ => ?_)
          refine tr_skip ?_
          refine tr_seq ?_
          refine tr_wk (s' := mk [(0, .ea 100000 0 0), (5, .sl 1 0 ((pvE out).length)), (6, .p none (.v (.int .i64 (i:Int)))), (7, .ptr 7 0), (8, .p none (.v (.int .i64 (k:Int))))] [(7, [.p none (.v (.string ((entryV bs q).user))), .p none (.v (.int .i64 ((entryV bs q).seq))), .p none (.v (.int .i64 ((entryV bs q).kind))), .p none (.v (.string ((entryV bs q).value)))])] [(1, 4, pvE out), (100000, 2, pvRd (cv, entryP bs q))]) ?_ ?_
          · exact wk_mk ⟨rfl, ⟨rfl, ⟨rfl, ⟨rfl, ⟨rfl, trivial⟩⟩⟩⟩⟩ ⟨rfl, trivial⟩ ⟨rfl, ⟨rfl, trivial⟩⟩ rfl
          refine tr_region rfl (.run [5500] [] rfl (st_buildSlice rfl 5500 Try.underlying26 inf44 (nle rfl) (by decide) rfl rfl rfl .nil (by decide) rfl (by decide) rfl (by decide) rfl) (.run [] [] rfl (st_move rfl) (.run [] [] rfl (st_move rfl) (.run [] [] rfl (st_cut_row0 (l := 0) (h := k) rfl rfl rfl Try.underlying26 Try.sizeOf44 .no (.at_ rfl rfl) (Nat.zero_le _) (by omega) rfl) (.run [5500] [] rfl (st_append rfl 5500 (ib := 5500) (len := ([] ++ (((pvE out).drop 0).take (k - 0))).length) rfl rfl (.row (len := 0) (xs := []) rfl rfl (.inl rfl)) (.row rfl (by omega) (pvE_flat _)) Try.underlying26 (sk Try.underlying26 rfl) inf44 rfl (by decide) (by decide) (by decide) List.length_append (by simp only [maxLen, List.length_append, List.length_map, List.length_cons, List.length_nil, List.length_take, List.length_drop, pvE_length, pvI_length, pvT_length, pvU_length]; omega) (by simp only [maxLen, List.length_append, List.length_map, List.length_cons, List.length_nil, List.length_take, List.length_drop, pvE_length, pvI_length, pvT_length, pvU_length]; omega)) (.run [] [] rfl (st_assign rfl) .nil)))))) ?_
          have hr5 : [] ++ (((pvE out).drop 0).take (k - 0)) = pvE (out.take k) := by simp [pvE, List.map_take]
          have hp6 : (.sl 5500 0 (([] ++ (((pvE out).drop 0).take (k - 0))).length) : AV) = .sl 5500 0 ((pvE (out.take k)).length) := by simp only [hr5]
          refine tr_wk (s' := mk [(0, .ea 100000 0 0), (5, .sl 1 0 ((pvE out).length)), (6, .p none (.v (.int .i64 (i:Int)))), (7, .ptr 7 0), (8, .p none (.v (.int .i64 (k:Int)))), (9, .sl 5500 0 ((pvE (out.take k)).length))] [(7, [.p none (.v (.string ((entryV bs q).user))), .p none (.v (.int .i64 ((entryV bs q).seq))), .p none (.v (.int .i64 ((entryV bs q).kind))), .p none (.v (.string ((entryV bs q).value)))])] [(1, 4, pvE out), (5500, 4, pvE (out.take k)), (100000, 2, pvRd (cv, entryP bs q))]) ?_ ?_
          · exact wk_mk ⟨rfl, ⟨rfl, ⟨rfl, ⟨rfl, ⟨rfl, ⟨hp6, trivial⟩⟩⟩⟩⟩⟩ ⟨rfl, trivial⟩ ⟨rfl, ⟨(congrArg (fun x => some (4, x)) hr5), ⟨rfl, trivial⟩⟩⟩ rfl
          refine tr_seq ?_
          refine tr_region rfl (.run [] [] rfl (st_move rfl) (.run [] [] rfl (st_load_box rfl rfl rfl Try.isAgg44 Try.sizeOf44 (nle rfl)) (.run [6200] [] rfl (st_buildSlice rfl 6200 Try.underlying26 inf44 (nle rfl) (by decide) rfl rfl rfl (.cons .v (.cons .v (.cons .v (.cons .v .nil)))) (by decide) rfl (by decide) rfl (by decide) rfl) (.run [5500] [] rfl (st_append rfl 5500 (ib := 5500) (len := ((pvE (out.take k)) ++ [[PV.v (.string ((entryV bs q).user)), PV.v (.int .i64 ((entryV bs q).seq)), PV.v (.int .i64 ((entryV bs q).kind)), PV.v (.string ((entryV bs q).value))]]).length) rfl rfl (.row (len := (pvE (out.take k)).length) (xs := pvE (out.take k)) rfl rfl (.inl rfl)) (.give (len := 1) (xs := [[PV.v (.string ((entryV bs q).user)), PV.v (.int .i64 ((entryV bs q).seq)), PV.v (.int .i64 ((entryV bs q).kind)), PV.v (.string ((entryV bs q).value))]]) rfl rfl) Try.underlying26 (sk Try.underlying26 rfl) inf44 rfl (by decide) (by decide) (by decide) List.length_append (by simp only [maxLen, List.length_append, List.length_map, List.length_cons, List.length_nil, List.length_take, List.length_drop, pvE_length, pvI_length, pvT_length, pvU_length]; omega) (by simp only [maxLen, List.length_append, List.length_map, List.length_cons, List.length_nil, List.length_take, List.length_drop, pvE_length, pvI_length, pvT_length, pvU_length]; omega)) (.run [] [] rfl (st_assign rfl) .nil))))) ?_
          have hr7 : (pvE (out.take k)) ++ [[PV.v (.string ((entryV bs q).user)), PV.v (.int .i64 ((entryV bs q).seq)), PV.v (.int .i64 ((entryV bs q).kind)), PV.v (.string ((entryV bs q).value))]] = pvE (out.take k ++ [(entryV bs q)]) := by simp [pvE, Ent.pv]
          have hp8 : (.sl 5500 0 (((pvE (out.take k)) ++ [[PV.v (.string ((entryV bs q).user)), PV.v (.int .i64 ((entryV bs q).seq)), PV.v (.int .i64 ((entryV bs q).kind)), PV.v (.string ((entryV bs q).value))]]).length) : AV) = .sl 5500 0 ((pvE (out.take k ++ [(entryV bs q)])).length) := by simp only [hr7]
          refine tr_wk (s' := mk [(0, .ea 100000 0 0), (5, .sl 1 0 ((pvE out).length)), (6, .p none (.v (.int .i64 (i:Int)))), (8, .p none (.v (.int .i64 (k:Int)))), (9, .sl 5500 0 ((pvE (out.take k ++ [(entryV bs q)])).length))] [] [(1, 4, pvE out), (5500, 4, pvE (out.take k ++ [(entryV bs q)])), (100000, 2, pvRd (cv, entryP bs q))]) ?_ ?_
          · exact wk_mk ⟨rfl, ⟨rfl, ⟨rfl, ⟨rfl, ⟨hp8, trivial⟩⟩⟩⟩⟩ trivial ⟨rfl, ⟨(congrArg (fun x => some (4, x)) hr7), ⟨rfl, trivial⟩⟩⟩ rfl
          refine tr_region rfl (.run [] [] rfl (st_move rfl) (.run [] [] rfl (st_move rfl) (.run [] [] rfl (st_move rfl) (.run [] [] rfl (st_cut_row0 (l := k) (h := (pvE out).length) rfl rfl rfl Try.underlying26 Try.sizeOf44 (.at_ rfl rfl) .no (by omega) (Nat.le_refl _) rfl) (.run [5500] [] rfl (st_append rfl 5500 (ib := 5500) (len := ((pvE (out.take k ++ [(entryV bs q)])) ++ (((pvE out).drop k).take (((pvE out).length) - k))).length) rfl rfl (.row (len := (pvE (out.take k ++ [(entryV bs q)])).length) (xs := pvE (out.take k ++ [(entryV bs q)])) rfl rfl (.inl rfl)) (.row rfl (by omega) (pvE_flat _)) Try.underlying26 (sk Try.underlying26 rfl) inf44 rfl (by decide) (by decide) (by decide) List.length_append (by simp only [maxLen, List.length_append, List.length_map, List.length_cons, List.length_nil, List.length_take, List.length_drop, pvE_length, pvI_length, pvT_length, pvU_length]; omega) (by simp only [maxLen, List.length_append, List.length_map, List.length_cons, List.length_nil, List.length_take, List.length_drop, pvE_length, pvI_length, pvT_length, pvU_length]; omega)) (.run [] [] rfl (st_assign rfl) .nil)))))) ?_
          have hr9 : (pvE (out.take k ++ [(entryV bs q)])) ++ (((pvE out).drop k).take (((pvE out).length) - k)) = pvE (out.take k ++ [(entryV bs q)] ++ out.drop k) := by exact pvE_ins _ _ _
          have hp10 : (.sl 5500 0 (((pvE (out.take k ++ [(entryV bs q)])) ++ (((pvE out).drop k).take (((pvE out).length) - k))).length) : AV) = .sl 5500 0 ((pvE (out.take k ++ [(entryV bs q)] ++ out.drop k)).length) := by simp only [hr9]
          refine tr_wk (s' := mk [(0, .ea 100000 0 0), (5, .sl 5500 0 ((pvE (out.take k ++ [(entryV bs q)] ++ out.drop k)).length)), (6, .p none (.v (.int .i64 (i:Int))))] [] [(5500, 4, pvE (out.take k ++ [(entryV bs q)] ++ out.drop k)), (100000, 2, pvRd (cv, entryP bs q))]) ?_ ?_
          · exact wk_mk ⟨rfl, ⟨hp10, ⟨rfl, trivial⟩⟩⟩ trivial ⟨(congrArg (fun x => some (4, x)) hr9), ⟨rfl, trivial⟩⟩ rfl
          refine tr_region rfl (.run [] [] rfl (st_move rfl) (.run [] [] rfl (st_subn rfl rfl rfl (by omega)) (.run [] [] rfl (st_assign rfl) .nil))) ?_
-- round row 100000: pvRd (cv, (entryP bs q)) now pvRd (cv, entryP bs q)
          refine nxt (Q := fun _ _ => False) (z := (i, out, q)) (i - 1, out.take k ++ [(entryV bs q)] ++ out.drop k, entryP bs q) ?_ ?_ ?_
          · show (out.take k ++ [(entryV bs q)] ++ out.drop k).length + (i - 1) ≤ 100 ∧ (entryP bs q) ≤ bs.length ∧ entLoop bs (i - 1) ((out.take k ++ [(entryV bs q)] ++ out.drop k), (entryP bs q)) = entBase bs p most
            exact ⟨by simp only [List.length_append, List.length_take, List.length_drop, List.length_cons, List.length_nil]; omega, entryP_le hp, entLoop_go (by omega) hE (by rw [ins_new h2 (fun x hx => by rw [hk] at hx; have := (List.getElem?_eq_some_iff.1 hx).1; omega), hk])⟩
          · show (i - 1) < i
            omega
          · exact (wk_ren 5500 1 rfl rfl (by decide)).trans (wk_mk ⟨rfl, ⟨rfl, ⟨(int_eq (by omega)), trivial⟩⟩⟩ trivial ⟨rfl, ⟨rfl, trivial⟩⟩ rfl)
        · have h4' := h4
          replace h4' := of_decide_eq_true h4'
          omega
      · have h3' := h3
        replace h3' := of_decide_eq_true h3'
        obtain ⟨e, he⟩ : ∃ e, out[k]? = some e := ⟨_, List.getElem?_eq_getElem (by (have hL := pvE_length out; omega))⟩
        have hlte := (List.getElem?_eq_some_iff.1 he).1
        refine tr_regionD mixed rfl (.run [] [] rfl (st_move rfl) (.run [] [] rfl (st_move rfl) (.run [] [] rfl (st_len_row rfl rfl Try.underlying26) (.run [] [] rfl (st_eq (st_lss rfl rfl rfl) (by exact congrArg (fun b => AV.p none (.v (.bool b))) h3)) (.run [] [] rfl (st_move rfl) (.run [] [] rfl (st_move rfl) (.run [] [] rfl (st_move rfl) (.run [] [] rfl (st_idx_row0 k rfl rfl rfl rfl Try.underlying26 Try.sizeOf44 rfl rfl (by omega)) (.run [] [] rfl (st_faddr_ea rfl rfl Try.underlying44 rfl Try.sizeOf42 (by decide)) (.run [] [] rfl (st_load_ea rfl rfl rfl (pvE_get he) Try.isAgg42 Try.sizeOf42 (nle rfl)) (.run [] [] rfl (st_faddr_box rfl rfl Try.underlying44 rfl Try.sizeOf42 (by decide)) (.run [] [] rfl (st_load_box rfl rfl rfl Try.isAgg42 Try.sizeOf42 (nle rfl)) (.run [3600] [] rfl (st_call rfl 3600 (X := []) en83 rfl (.val nod) (.cons (.agg (.cons (.bor .v) (.cons (.bor .v) (.cons (.bor .v) .nil)))) (.cons (.agg (.cons (.bor .v) (.cons (.bor .v) (.cons (.bor .v) .nil)))) .nil)) (by decide) all_nil .nil (specKeyCmp_con e (entryV bs q)) rfl rfl (nle rfl)) (.run [] [] rfl (st_lss rfl rfl rfl) (.run [] [] rfl (st_pick (t := true) rfl rfl) .nil))))))))))))))) (by kernel_rfl) ?_
        refine tr_if (t := decide ((kcmp e (entryV bs q)) < 0)) rfl (fun h11 => ?_) (fun h11 => ?_)
        · skip
          replace h11 := of_decide_eq_true h11
          refine tr_skip ?_
          refine tr_block ?_
          refine tr_wk (s' := mk [(0, .ea 100000 0 0), (5, .sl 1 0 ((pvE out).length)), (6, .p none (.v (.int .i64 (i:Int)))), (7, .ptr 7 0), (8, .p none (.v (.int .i64 (k:Int)))), (29, .sl 1 0 ((pvE out).length)), (30, .p none (.v (.int .i64 (k:Int)))), (31, .ea 1 k 0), (32, .ea 1 k 0), (33, .agg [.p none (.v (.string e.user)), .p none (.v (.int .i64 e.seq)), .p none (.v (.int .i64 e.kind))]), (34, .ptr 7 0), (35, .agg [.p none (.v (.string ((entryV bs q).user))), .p none (.v (.int .i64 ((entryV bs q).seq))), .p none (.v (.int .i64 ((entryV bs q).kind)))]), (36, .p none (.v (.int .i64 (kcmp e (entryV bs q))))), (37, .p none (.v (.bool (decide ((kcmp e (entryV bs q)) < 0)))))] [(7, [.p none (.v (.string ((entryV bs q).user))), .p none (.v (.int .i64 ((entryV bs q).seq))), .p none (.v (.int .i64 ((entryV bs q).kind))), .p none (.v (.string ((entryV bs q).value)))])] [(1, 4, pvE out), (100000, 2, pvRd (cv, entryP bs q))]) ?_ ?_
          · exact wk_mk ⟨rfl, ⟨rfl, ⟨rfl, ⟨rfl, ⟨rfl, ⟨rfl, ⟨rfl, ⟨rfl, ⟨rfl, ⟨rfl, ⟨rfl, ⟨rfl, ⟨rfl, ⟨rfl, trivial⟩⟩⟩⟩⟩⟩⟩⟩⟩⟩⟩⟩⟩⟩ ⟨rfl, trivial⟩ ⟨rfl, ⟨rfl, trivial⟩⟩ rfl
          refine tr_region rfl (.run [] [] rfl (st_move rfl) (.run [] [] rfl (st_addn rfl rfl rfl (by omega)) (.run [] [] rfl (st_assign rfl) .nil))) ?_
          refine nxt (Q := fun _ _ => False) (z := k) (k + 1) ?_ ?_ ?_
          · show (k + 1) ≤ out.length ∧ ∀ (j : Nat) x, j < (k + 1) → out[j]? = some x → kcmp x (entryV bs q) < 0
            exact ⟨by omega, fun j x hj hx => by rcases Nat.lt_succ_iff_lt_or_eq.1 hj with h | h; exact hA j x h hx; rw [h, he] at hx; cases hx; exact h11⟩
          · show out.length - (k + 1) < out.length - k
            omega
          · exact wk_mk ⟨rfl, ⟨rfl, ⟨rfl, ⟨rfl, ⟨(int_eq (by omega)), trivial⟩⟩⟩⟩⟩ ⟨rfl, trivial⟩ ⟨rfl, ⟨rfl, trivial⟩⟩ rfl
        · skip
          replace h11 := of_decide_eq_false h11
          refine tr_exit ?_
          refine tr_seq ?_
          refine tr_seq ?_
          have hk : aheadN out (entryV bs q) = k := ahead_at hk0 hA (fun x hx => by rw [he] at hx; cases hx; exact h11)
          refine tr_wk (s' := mk [(0, .ea 100000 0 0), (5, .sl 1 0 ((pvE out).length)), (6, .p none (.v (.int .i64 (i:Int)))), (7, .ptr 7 0), (8, .p none (.v (.int .i64 (k:Int)))), (29, .sl 1 0 ((pvE out).length)), (30, .p none (.v (.int .i64 (k:Int)))), (31, .ea 1 k 0), (32, .ea 1 k 0), (33, .agg [.p none (.v (.string e.user)), .p none (.v (.int .i64 e.seq)), .p none (.v (.int .i64 e.kind))]), (34, .ptr 7 0), (35, .agg [.p none (.v (.string ((entryV bs q).user))), .p none (.v (.int .i64 ((entryV bs q).seq))), .p none (.v (.int .i64 ((entryV bs q).kind)))]), (36, .p none (.v (.int .i64 (kcmp e (entryV bs q))))), (37, .p none (.v (.bool (decide ((kcmp e (entryV bs q)) < 0)))))] [(7, [.p none (.v (.string ((entryV bs q).user))), .p none (.v (.int .i64 ((entryV bs q).seq))), .p none (.v (.int .i64 ((entryV bs q).kind))), .p none (.v (.string ((entryV bs q).value)))])] [(1, 4, pvE out), (100000, 2, pvRd (cv, entryP bs q))]) ?_ ?_
          · exact wk_mk ⟨rfl, ⟨rfl, ⟨rfl, ⟨rfl, ⟨rfl, ⟨rfl, ⟨rfl, ⟨rfl, ⟨rfl, ⟨rfl, ⟨rfl, ⟨rfl, ⟨rfl, ⟨rfl, trivial⟩⟩⟩⟩⟩⟩⟩⟩⟩⟩⟩⟩⟩⟩ ⟨rfl, trivial⟩ ⟨rfl, ⟨rfl, trivial⟩⟩ rfl
          rcases bfc (decide ((k:Int) < ((pvE out).length : Int))) with h12 | h12
          · have h12' := h12
            replace h12' := of_decide_eq_false h12'
            omega
          · have h12' := h12
            replace h12' := of_decide_eq_true h12'
            refine tr_regionD mixed rfl (.run [] [] rfl (st_move rfl) (.run [] [] rfl (st_move rfl) (.run [] [] rfl (st_len_row rfl rfl Try.underlying26) (.run [] [] rfl (st_eq (st_lss rfl rfl rfl) (by exact congrArg (fun b => AV.p none (.v (.bool b))) h12)) (.run [] [] rfl (st_move rfl) (.run [] [] rfl (st_move rfl) (.run [] [] rfl (st_move rfl) (.run [] [] rfl (st_idx_row0 k rfl rfl rfl rfl Try.underlying26 Try.sizeOf44 rfl rfl (by omega)) (.run [] [] rfl (st_faddr_ea rfl rfl Try.underlying44 rfl Try.sizeOf42 (by decide)) (.run [] [] rfl (st_load_ea rfl rfl rfl (pvE_get he) Try.isAgg42 Try.sizeOf42 (nle rfl)) (.run [] [] rfl (st_faddr_box rfl rfl Try.underlying44 rfl Try.sizeOf42 (by decide)) (.run [] [] rfl (st_load_box rfl rfl rfl Try.isAgg42 Try.sizeOf42 (nle rfl)) (.run [] [] rfl (st_aeql rfl rfl rfl rfl rfl Try.eqGuardType42 (fun w => key_eqIn (e.user, e.seq, e.kind) ((entryV bs q).user, (entryV bs q).seq, (entryV bs q).kind) w)) (.run [] [] rfl (st_pick (t := true) rfl rfl) .nil)))))))))))))) (by kernel_rfl) ?_
            refine tr_if (t := decide ((e.user, e.seq, e.kind) = ((entryV bs q).user, (entryV bs q).seq, (entryV bs q).kind))) rfl (fun h13 => ?_) (fun h13 => ?_)
            · skip
              replace h13 := of_decide_eq_true h13
              refine tr_exit ?_
              refine tr_wk (s' := mk [(0, .ea 100000 0 0), (5, .sl 1 0 ((pvE out).length)), (6, .p none (.v (.int .i64 (i:Int)))), (29, .sl 1 0 ((pvE out).length)), (30, .p none (.v (.int .i64 (k:Int)))), (31, .ea 1 k 0), (32, .ea 1 k 0), (33, .agg [.p none (.v (.string e.user)), .p none (.v (.int .i64 e.seq)), .p none (.v (.int .i64 e.kind))]), (34, .ptr 7 0), (35, .agg [.p none (.v (.string ((entryV bs q).user))), .p none (.v (.int .i64 ((entryV bs q).seq))), .p none (.v (.int .i64 ((entryV bs q).kind)))]), (36, .p none (.v (.int .i64 (kcmp e (entryV bs q))))), (37, .p none (.v (.bool (decide ((kcmp e (entryV bs q)) < 0))))), (46, .sl 1 0 ((pvE out).length)), (47, .p none (.v (.int .i64 (k:Int)))), (48, .ea 1 k 0), (49, .ea 1 k 0), (50, .agg [.p none (.v (.string e.user)), .p none (.v (.int .i64 e.seq)), .p none (.v (.int .i64 e.kind))]), (51, .ptr 7 0), (52, .agg [.p none (.v (.string ((entryV bs q).user))), .p none (.v (.int .i64 ((entryV bs q).seq))), .p none (.v (.int .i64 ((entryV bs q).kind)))]), (53, .p none (.v (.bool (decide ((e.user, e.seq, e.kind) = ((entryV bs q).user, (entryV bs q).seq, (entryV bs q).kind))))))] [(7, [.p none (.v (.string ((entryV bs q).user))), .p none (.v (.int .i64 ((entryV bs q).seq))), .p none (.v (.int .i64 ((entryV bs q).kind))), .p none (.v (.string ((entryV bs q).value)))])] [(1, 4, pvE out), (100000, 2, pvRd (cv, entryP bs q))]) ?_ ?_
              · exact wk_mk ⟨rfl, ⟨rfl, ⟨rfl, ⟨rfl, ⟨rfl, ⟨rfl, ⟨rfl, ⟨rfl, ⟨rfl, ⟨rfl, ⟨rfl, ⟨rfl, ⟨rfl, ⟨rfl, ⟨rfl, ⟨rfl, ⟨rfl, ⟨rfl, ⟨rfl, ⟨rfl, trivial⟩⟩⟩⟩⟩⟩⟩⟩⟩⟩⟩⟩⟩⟩⟩⟩⟩⟩⟩⟩ ⟨rfl, trivial⟩ ⟨rfl, ⟨rfl, trivial⟩⟩ rfl
              refine tr_region rfl (.run [] [] rfl (st_move rfl) (.run [] [] rfl (st_subn rfl rfl rfl (by omega)) (.run [] [] rfl (st_assign rfl) .nil))) ?_
-- round row 100000: pvRd (cv, (entryP bs q)) now pvRd (cv, entryP bs q)
              refine nxt (Q := fun _ _ => False) (z := (i, out, q)) (i - 1, out, entryP bs q) ?_ ?_ ?_
              · show out.length + (i - 1) ≤ 100 ∧ (entryP bs q) ≤ bs.length ∧ entLoop bs (i - 1) (out, (entryP bs q)) = entBase bs p most
                exact ⟨by omega, entryP_le hp, entLoop_go (by omega) hE (ins_same h2 (by rw [hk]; exact he) h13)⟩
              · show (i - 1) < i
                omega
              · exact wk_mk ⟨rfl, ⟨rfl, ⟨(int_eq (by omega)), trivial⟩⟩⟩ trivial ⟨rfl, ⟨rfl, trivial⟩⟩ rfl
            · skip
              replace h13 := of_decide_eq_false h13
              refine tr_skip ?_
              refine tr_seq ?_
              refine tr_wk (s' := mk [(0, .ea 100000 0 0), (5, .sl 1 0 ((pvE out).length)), (6, .p none (.v (.int .i64 (i:Int)))), (7, .ptr 7 0), (8, .p none (.v (.int .i64 (k:Int)))), (29, .sl 1 0 ((pvE out).length)), (30, .p none (.v (.int .i64 (k:Int)))), (31, .ea 1 k 0), (32, .ea 1 k 0), (33, .agg [.p none (.v (.string e.user)), .p none (.v (.int .i64 e.seq)), .p none (.v (.int .i64 e.kind))]), (34, .ptr 7 0), (35, .agg [.p none (.v (.string ((entryV bs q).user))), .p none (.v (.int .i64 ((entryV bs q).seq))), .p none (.v (.int .i64 ((entryV bs q).kind)))]), (36, .p none (.v (.int .i64 (kcmp e (entryV bs q))))), (37, .p none (.v (.bool (decide ((kcmp e (entryV bs q)) < 0))))), (46, .sl 1 0 ((pvE out).length)), (47, .p none (.v (.int .i64 (k:Int)))), (48, .ea 1 k 0), (49, .ea 1 k 0), (50, .agg [.p none (.v (.string e.user)), .p none (.v (.int .i64 e.seq)), .p none (.v (.int .i64 e.kind))]), (51, .ptr 7 0), (52, .agg [.p none (.v (.string ((entryV bs q).user))), .p none (.v (.int .i64 ((entryV bs q).seq))), .p none (.v (.int .i64 ((entryV bs q).kind)))]), (53, .p none (.v (.bool (decide ((e.user, e.seq, e.kind) = ((entryV bs q).user, (entryV bs q).seq, (entryV bs q).kind))))))] [(7, [.p none (.v (.string ((entryV bs q).user))), .p none (.v (.int .i64 ((entryV bs q).seq))), .p none (.v (.int .i64 ((entryV bs q).kind))), .p none (.v (.string ((entryV bs q).value)))])] [(1, 4, pvE out), (100000, 2, pvRd (cv, entryP bs q))]) ?_ ?_
              · exact wk_mk ⟨rfl, ⟨rfl, ⟨rfl, ⟨rfl, ⟨rfl, ⟨rfl, ⟨rfl, ⟨rfl, ⟨rfl, ⟨rfl, ⟨rfl, ⟨rfl, ⟨rfl, ⟨rfl, ⟨rfl, ⟨rfl, ⟨rfl, ⟨rfl, ⟨rfl, ⟨rfl, ⟨rfl, ⟨rfl, trivial⟩⟩⟩⟩⟩⟩⟩⟩⟩⟩⟩⟩⟩⟩⟩⟩⟩⟩⟩⟩⟩⟩ ⟨rfl, trivial⟩ ⟨rfl, ⟨rfl, trivial⟩⟩ rfl
              refine tr_region rfl (.run [5500] [] rfl (st_buildSlice rfl 5500 Try.underlying26 inf44 (nle rfl) (by decide) rfl rfl rfl .nil (by decide) rfl (by decide) rfl (by decide) rfl) (.run [] [] rfl (st_move rfl) (.run [] [] rfl (st_move rfl) (.run [] [] rfl (st_cut_row0 (l := 0) (h := k) rfl rfl rfl Try.underlying26 Try.sizeOf44 .no (.at_ rfl rfl) (Nat.zero_le _) (by omega) rfl) (.run [5500] [] rfl (st_append rfl 5500 (ib := 5500) (len := ([] ++ (((pvE out).drop 0).take (k - 0))).length) rfl rfl (.row (len := 0) (xs := []) rfl rfl (.inl rfl)) (.row rfl (by omega) (pvE_flat _)) Try.underlying26 (sk Try.underlying26 rfl) inf44 rfl (by decide) (by decide) (by decide) List.length_append (by simp only [maxLen, List.length_append, List.length_map, List.length_cons, List.length_nil, List.length_take, List.length_drop, pvE_length, pvI_length, pvT_length, pvU_length]; omega) (by simp only [maxLen, List.length_append, List.length_map, List.length_cons, List.length_nil, List.length_take, List.length_drop, pvE_length, pvI_length, pvT_length, pvU_length]; omega)) (.run [] [] rfl (st_assign rfl) .nil)))))) ?_
              have hr14 : [] ++ (((pvE out).drop 0).take (k - 0)) = pvE (out.take k) := by simp [pvE, List.map_take]
              have hp15 : (.sl 5500 0 (([] ++ (((pvE out).drop 0).take (k - 0))).length) : AV) = .sl 5500 0 ((pvE (out.take k)).length) := by simp only [hr14]
              refine tr_wk (s' := mk [(0, .ea 100000 0 0), (5, .sl 1 0 ((pvE out).length)), (6, .p none (.v (.int .i64 (i:Int)))), (7, .ptr 7 0), (8, .p none (.v (.int .i64 (k:Int)))), (9, .sl 5500 0 ((pvE (out.take k)).length)), (29, .sl 1 0 ((pvE out).length)), (30, .p none (.v (.int .i64 (k:Int)))), (31, .ea 1 k 0), (32, .ea 1 k 0), (33, .agg [.p none (.v (.string e.user)), .p none (.v (.int .i64 e.seq)), .p none (.v (.int .i64 e.kind))]), (34, .ptr 7 0), (35, .agg [.p none (.v (.string ((entryV bs q).user))), .p none (.v (.int .i64 ((entryV bs q).seq))), .p none (.v (.int .i64 ((entryV bs q).kind)))]), (36, .p none (.v (.int .i64 (kcmp e (entryV bs q))))), (37, .p none (.v (.bool (decide ((kcmp e (entryV bs q)) < 0))))), (46, .sl 1 0 ((pvE out).length)), (47, .p none (.v (.int .i64 (k:Int)))), (48, .ea 1 k 0), (49, .ea 1 k 0), (50, .agg [.p none (.v (.string e.user)), .p none (.v (.int .i64 e.seq)), .p none (.v (.int .i64 e.kind))]), (51, .ptr 7 0), (52, .agg [.p none (.v (.string ((entryV bs q).user))), .p none (.v (.int .i64 ((entryV bs q).seq))), .p none (.v (.int .i64 ((entryV bs q).kind)))]), (53, .p none (.v (.bool (decide ((e.user, e.seq, e.kind) = ((entryV bs q).user, (entryV bs q).seq, (entryV bs q).kind))))))] [(7, [.p none (.v (.string ((entryV bs q).user))), .p none (.v (.int .i64 ((entryV bs q).seq))), .p none (.v (.int .i64 ((entryV bs q).kind))), .p none (.v (.string ((entryV bs q).value)))])] [(1, 4, pvE out), (5500, 4, pvE (out.take k)), (100000, 2, pvRd (cv, entryP bs q))]) ?_ ?_
              · exact wk_mk ⟨rfl, ⟨rfl, ⟨rfl, ⟨rfl, ⟨rfl, ⟨hp15, ⟨rfl, ⟨rfl, ⟨rfl, ⟨rfl, ⟨rfl, ⟨rfl, ⟨rfl, ⟨rfl, ⟨rfl, ⟨rfl, ⟨rfl, ⟨rfl, ⟨rfl, ⟨rfl, ⟨rfl, ⟨rfl, ⟨rfl, trivial⟩⟩⟩⟩⟩⟩⟩⟩⟩⟩⟩⟩⟩⟩⟩⟩⟩⟩⟩⟩⟩⟩⟩ ⟨rfl, trivial⟩ ⟨rfl, ⟨(congrArg (fun x => some (4, x)) hr14), ⟨rfl, trivial⟩⟩⟩ rfl
              refine tr_seq ?_
              refine tr_region rfl (.run [] [] rfl (st_move rfl) (.run [] [] rfl (st_load_box rfl rfl rfl Try.isAgg44 Try.sizeOf44 (nle rfl)) (.run [6200] [] rfl (st_buildSlice rfl 6200 Try.underlying26 inf44 (nle rfl) (by decide) rfl rfl rfl (.cons .v (.cons .v (.cons .v (.cons .v .nil)))) (by decide) rfl (by decide) rfl (by decide) rfl) (.run [5500] [] rfl (st_append rfl 5500 (ib := 5500) (len := ((pvE (out.take k)) ++ [[PV.v (.string ((entryV bs q).user)), PV.v (.int .i64 ((entryV bs q).seq)), PV.v (.int .i64 ((entryV bs q).kind)), PV.v (.string ((entryV bs q).value))]]).length) rfl rfl (.row (len := (pvE (out.take k)).length) (xs := pvE (out.take k)) rfl rfl (.inl rfl)) (.give (len := 1) (xs := [[PV.v (.string ((entryV bs q).user)), PV.v (.int .i64 ((entryV bs q).seq)), PV.v (.int .i64 ((entryV bs q).kind)), PV.v (.string ((entryV bs q).value))]]) rfl rfl) Try.underlying26 (sk Try.underlying26 rfl) inf44 rfl (by decide) (by decide) (by decide) List.length_append (by simp only [maxLen, List.length_append, List.length_map, List.length_cons, List.length_nil, List.length_take, List.length_drop, pvE_length, pvI_length, pvT_length, pvU_length]; omega) (by simp only [maxLen, List.length_append, List.length_map, List.length_cons, List.length_nil, List.length_take, List.length_drop, pvE_length, pvI_length, pvT_length, pvU_length]; omega)) (.run [] [] rfl (st_assign rfl) .nil))))) ?_
              have hr16 : (pvE (out.take k)) ++ [[PV.v (.string ((entryV bs q).user)), PV.v (.int .i64 ((entryV bs q).seq)), PV.v (.int .i64 ((entryV bs q).kind)), PV.v (.string ((entryV bs q).value))]] = pvE (out.take k ++ [(entryV bs q)]) := by simp [pvE, Ent.pv]
              have hp17 : (.sl 5500 0 (((pvE (out.take k)) ++ [[PV.v (.string ((entryV bs q).user)), PV.v (.int .i64 ((entryV bs q).seq)), PV.v (.int .i64 ((entryV bs q).kind)), PV.v (.string ((entryV bs q).value))]]).length) : AV) = .sl 5500 0 ((pvE (out.take k ++ [(entryV bs q)])).length) := by simp only [hr16]
              refine tr_wk (s' := mk [(0, .ea 100000 0 0), (5, .sl 1 0 ((pvE out).length)), (6, .p none (.v (.int .i64 (i:Int)))), (8, .p none (.v (.int .i64 (k:Int)))), (9, .sl 5500 0 ((pvE (out.take k ++ [(entryV bs q)])).length)), (29, .sl 1 0 ((pvE out).length)), (30, .p none (.v (.int .i64 (k:Int)))), (31, .ea 1 k 0), (32, .ea 1 k 0), (33, .agg [.p none (.v (.string e.user)), .p none (.v (.int .i64 e.seq)), .p none (.v (.int .i64 e.kind))]), (34, .ptr 7 0), (35, .agg [.p none (.v (.string ((entryV bs q).user))), .p none (.v (.int .i64 ((entryV bs q).seq))), .p none (.v (.int .i64 ((entryV bs q).kind)))]), (36, .p none (.v (.int .i64 (kcmp e (entryV bs q))))), (37, .p none (.v (.bool (decide ((kcmp e (entryV bs q)) < 0))))), (46, .sl 1 0 ((pvE out).length)), (47, .p none (.v (.int .i64 (k:Int)))), (48, .ea 1 k 0), (49, .ea 1 k 0), (50, .agg [.p none (.v (.string e.user)), .p none (.v (.int .i64 e.seq)), .p none (.v (.int .i64 e.kind))]), (51, .ptr 7 0), (52, .agg [.p none (.v (.string ((entryV bs q).user))), .p none (.v (.int .i64 ((entryV bs q).seq))), .p none (.v (.int .i64 ((entryV bs q).kind)))]), (53, .p none (.v (.bool (decide ((e.user, e.seq, e.kind) = ((entryV bs q).user, (entryV bs q).seq, (entryV bs q).kind))))))] [(7, [.p none (.v (.string ((entryV bs q).user))), .p none (.v (.int .i64 ((entryV bs q).seq))), .p none (.v (.int .i64 ((entryV bs q).kind))), .p none (.v (.string ((entryV bs q).value)))])] [(1, 4, pvE out), (5500, 4, pvE (out.take k ++ [(entryV bs q)])), (100000, 2, pvRd (cv, entryP bs q))]) ?_ ?_
              · exact wk_mk ⟨rfl, ⟨rfl, ⟨rfl, ⟨rfl, ⟨hp17, ⟨rfl, ⟨rfl, ⟨rfl, ⟨rfl, ⟨rfl, ⟨rfl, ⟨rfl, ⟨rfl, ⟨rfl, ⟨rfl, ⟨rfl, ⟨rfl, ⟨rfl, ⟨rfl, ⟨rfl, ⟨rfl, ⟨rfl, trivial⟩⟩⟩⟩⟩⟩⟩⟩⟩⟩⟩⟩⟩⟩⟩⟩⟩⟩⟩⟩⟩⟩ ⟨rfl, trivial⟩ ⟨rfl, ⟨(congrArg (fun x => some (4, x)) hr16), ⟨rfl, trivial⟩⟩⟩ rfl
              refine tr_region rfl (.run [] [] rfl (st_move rfl) (.run [] [] rfl (st_move rfl) (.run [] [] rfl (st_move rfl) (.run [] [] rfl (st_cut_row0 (l := k) (h := (pvE out).length) rfl rfl rfl Try.underlying26 Try.sizeOf44 (.at_ rfl rfl) .no (by omega) (Nat.le_refl _) rfl) (.run [5500] [] rfl (st_append rfl 5500 (ib := 5500) (len := ((pvE (out.take k ++ [(entryV bs q)])) ++ (((pvE out).drop k).take (((pvE out).length) - k))).length) rfl rfl (.row (len := (pvE (out.take k ++ [(entryV bs q)])).length) (xs := pvE (out.take k ++ [(entryV bs q)])) rfl rfl (.inl rfl)) (.row rfl (by omega) (pvE_flat _)) Try.underlying26 (sk Try.underlying26 rfl) inf44 rfl (by decide) (by decide) (by decide) List.length_append (by simp only [maxLen, List.length_append, List.length_map, List.length_cons, List.length_nil, List.length_take, List.length_drop, pvE_length, pvI_length, pvT_length, pvU_length]; omega) (by simp only [maxLen, List.length_append, List.length_map, List.length_cons, List.length_nil, List.length_take, List.length_drop, pvE_length, pvI_length, pvT_length, pvU_length]; omega)) (.run [] [] rfl (st_assign rfl) .nil)))))) ?_
              have hr18 : (pvE (out.take k ++ [(entryV bs q)])) ++ (((pvE out).drop k).take (((pvE out).length) - k)) = pvE (out.take k ++ [(entryV bs q)] ++ out.drop k) := by exact pvE_ins _ _ _
              have hp19 : (.sl 5500 0 (((pvE (out.take k ++ [(entryV bs q)])) ++ (((pvE out).drop k).take (((pvE out).length) - k))).length) : AV) = .sl 5500 0 ((pvE (out.take k ++ [(entryV bs q)] ++ out.drop k)).length) := by simp only [hr18]
              refine tr_wk (s' := mk [(0, .ea 100000 0 0), (5, .sl 5500 0 ((pvE (out.take k ++ [(entryV bs q)] ++ out.drop k)).length)), (6, .p none (.v (.int .i64 (i:Int)))), (29, .sl 1 0 ((pvE out).length)), (30, .p none (.v (.int .i64 (k:Int)))), (31, .ea 1 k 0), (32, .ea 1 k 0), (33, .agg [.p none (.v (.string e.user)), .p none (.v (.int .i64 e.seq)), .p none (.v (.int .i64 e.kind))]), (34, .ptr 7 0), (35, .agg [.p none (.v (.string ((entryV bs q).user))), .p none (.v (.int .i64 ((entryV bs q).seq))), .p none (.v (.int .i64 ((entryV bs q).kind)))]), (36, .p none (.v (.int .i64 (kcmp e (entryV bs q))))), (37, .p none (.v (.bool (decide ((kcmp e (entryV bs q)) < 0))))), (46, .sl 1 0 ((pvE out).length)), (47, .p none (.v (.int .i64 (k:Int)))), (48, .ea 1 k 0), (49, .ea 1 k 0), (50, .agg [.p none (.v (.string e.user)), .p none (.v (.int .i64 e.seq)), .p none (.v (.int .i64 e.kind))]), (51, .ptr 7 0), (52, .agg [.p none (.v (.string ((entryV bs q).user))), .p none (.v (.int .i64 ((entryV bs q).seq))), .p none (.v (.int .i64 ((entryV bs q).kind)))]), (53, .p none (.v (.bool (decide ((e.user, e.seq, e.kind) = ((entryV bs q).user, (entryV bs q).seq, (entryV bs q).kind))))))] [(7, [.p none (.v (.string ((entryV bs q).user))), .p none (.v (.int .i64 ((entryV bs q).seq))), .p none (.v (.int .i64 ((entryV bs q).kind))), .p none (.v (.string ((entryV bs q).value)))])] [(1, 4, pvE out), (5500, 4, pvE (out.take k ++ [(entryV bs q)] ++ out.drop k)), (100000, 2, pvRd (cv, entryP bs q))]) ?_ ?_
              · exact wk_mk ⟨rfl, ⟨hp19, ⟨rfl, ⟨rfl, ⟨rfl, ⟨rfl, ⟨rfl, ⟨rfl, ⟨rfl, ⟨rfl, ⟨rfl, ⟨rfl, ⟨rfl, ⟨rfl, ⟨rfl, ⟨rfl, ⟨rfl, ⟨rfl, ⟨rfl, ⟨rfl, trivial⟩⟩⟩⟩⟩⟩⟩⟩⟩⟩⟩⟩⟩⟩⟩⟩⟩⟩⟩⟩ ⟨rfl, trivial⟩ ⟨rfl, ⟨(congrArg (fun x => some (4, x)) hr18), ⟨rfl, trivial⟩⟩⟩ rfl
              refine tr_region rfl (.run [] [] rfl (st_move rfl) (.run [] [] rfl (st_subn rfl rfl rfl (by omega)) (.run [] [] rfl (st_assign rfl) .nil))) ?_
-- round row 100000: pvRd (cv, (entryP bs q)) now pvRd (cv, entryP bs q)
              refine nxt (Q := fun _ _ => False) (z := (i, out, q)) (i - 1, out.take k ++ [(entryV bs q)] ++ out.drop k, entryP bs q) ?_ ?_ ?_
              · show (out.take k ++ [(entryV bs q)] ++ out.drop k).length + (i - 1) ≤ 100 ∧ (entryP bs q) ≤ bs.length ∧ entLoop bs (i - 1) ((out.take k ++ [(entryV bs q)] ++ out.drop k), (entryP bs q)) = entBase bs p most
                exact ⟨by simp only [List.length_append, List.length_take, List.length_drop, List.length_cons, List.length_nil]; omega, entryP_le hp, entLoop_go (by omega) hE (by rw [ins_new h2 (fun x hx => by rw [hk, he] at hx; cases hx; exact h13), hk])⟩
              · show (i - 1) < i
                omega
              · exact (show Wk _ _ (mk [(0, .ea 100000 0 0), (5, .sl 5500 0 ((pvE (out.take k ++ [(entryV bs q)] ++ out.drop k)).length)), (6, .p none (.v (.int .i64 ((i:Int) - 1))))] [] [(5500, 4, pvE (out.take k ++ [(entryV bs q)] ++ out.drop k)), (100000, 2, pvRd (cv, entryP bs q))]) from wk_mk ⟨rfl, ⟨rfl, ⟨rfl, trivial⟩⟩⟩ trivial ⟨rfl, ⟨rfl, trivial⟩⟩ rfl).trans ((wk_ren 5500 1 rfl rfl (by decide)).trans (wk_mk ⟨rfl, ⟨rfl, ⟨(int_eq (by omega)), trivial⟩⟩⟩ trivial ⟨rfl, ⟨rfl, trivial⟩⟩ rfl))
  · skip
    replace h1 := of_decide_eq_false h1
    refine tr_exit ?_
    refine tr_seq ?_
    refine tr_seq ?_
    have hi0 : i = 0 := (by omega)
    rw [hi0] at hE
    have hEm : (out, q) = entBase bs p most := hE
    refine tr_region rfl (.run [] [] rfl (st_move rfl) (.run [100000, 7000] [] rfl (st_callG (.inr rfl) rfl 7000 (X := [100000]) en80 rfl (.val nod) (.cons (.rptr rfl) (.cons (.one (.bor .v)) .nil)) (by decide) (all_cons rfl all_nil) (.keep (xs := pvRd (cv, q)) rfl (FlatP.nf (pvRd_flat _)) .nil) (once_con hc hl q hp 24 (by omega)) rfl rfl (nle rfl)) .nil)) ?_
    refine tr_if (t := onceV bs q 24) rfl (fun h20 => ?_) (fun h20 => ?_)
    · skip
      have hcv := ents_1 hEm h20
      rw [hcv]
      refine tr_region rfl (.run [] [] rfl (st_move rfl) (.run [] [] rfl (st_move rfl) (.run [100000, 7300, 7301, 7302, 7303] [] rfl (st_callG (.inr rfl) rfl 7300 (X := [100000]) en140 rfl (.val nod) (.cons (.rptr rfl) .nil) (by decide) (all_cons rfl all_nil) (.keep (xs := pvRd (cv, belowP bs q 24)) rfl (FlatP.nf (pvRd_flat _)) .nil) (entry_con hc hl (belowP bs q 24) (belowP_le hp)) rfl rfl (nle rfl)) (.run [7400] [] rfl (st_buildSlice rfl 7400 Try.underlying26 inf44 (nle rfl) (by decide) rfl rfl rfl (.cons .v (.cons .v (.cons .v (.cons .v .nil)))) (by decide) rfl (by decide) rfl (by decide) rfl) (.run [1] [] rfl (st_append rfl 1 (ib := 1) (len := ((pvE out) ++ [[PV.v (.string ((entryV bs (belowP bs q 24)).user)), PV.v (.int .i64 ((entryV bs (belowP bs q 24)).seq)), PV.v (.int .i64 ((entryV bs (belowP bs q 24)).kind)), PV.v (.string ((entryV bs (belowP bs q 24)).value))]]).length) rfl rfl (.row (len := (pvE out).length) (xs := pvE out) rfl rfl (.inl rfl)) (.give (len := 1) (xs := [[PV.v (.string ((entryV bs (belowP bs q 24)).user)), PV.v (.int .i64 ((entryV bs (belowP bs q 24)).seq)), PV.v (.int .i64 ((entryV bs (belowP bs q 24)).kind)), PV.v (.string ((entryV bs (belowP bs q 24)).value))]]) rfl rfl) Try.underlying26 (sk Try.underlying26 rfl) inf44 rfl (by decide) (by decide) (by decide) List.length_append (by simp only [maxLen, List.length_append, List.length_map, List.length_cons, List.length_nil, List.length_take, List.length_drop, pvE_length, pvI_length, pvT_length, pvU_length]; omega) (by simp only [maxLen, List.length_append, List.length_map, List.length_cons, List.length_nil, List.length_take, List.length_drop, pvE_length, pvI_length, pvT_length, pvU_length]; omega)) (.run [] [] rfl (st_assign rfl) .nil)))))) ?_
      have hr21 : (pvE out) ++ [[PV.v (.string ((entryV bs (belowP bs q 24)).user)), PV.v (.int .i64 ((entryV bs (belowP bs q 24)).seq)), PV.v (.int .i64 ((entryV bs (belowP bs q 24)).kind)), PV.v (.string ((entryV bs (belowP bs q 24)).value))]] = pvE (out ++ [(entryV bs (belowP bs q 24))]) := by simp [pvE, Ent.pv]
      have hp22 : (.sl 1 0 (((pvE out) ++ [[PV.v (.string ((entryV bs (belowP bs q 24)).user)), PV.v (.int .i64 ((entryV bs (belowP bs q 24)).seq)), PV.v (.int .i64 ((entryV bs (belowP bs q 24)).kind)), PV.v (.string ((entryV bs (belowP bs q 24)).value))]]).length) : AV) = .sl 1 0 ((pvE (out ++ [(entryV bs (belowP bs q 24))])).length) := by simp only [hr21]
      refine tr_wk (s' := mk [(5, .sl 1 0 ((pvE (out ++ [(entryV bs (belowP bs q 24))])).length))] [] [(1, 4, pvE (out ++ [(entryV bs (belowP bs q 24))])), (100000, 2, pvRd (cv, entryP bs (belowP bs q 24)))]) ?_ ?_
      · exact wk_mk ⟨hp22, trivial⟩ trivial ⟨(congrArg (fun x => some (4, x)) hr21), ⟨rfl, trivial⟩⟩ rfl
      refine tr_seq ?_
      refine tr_region rfl (.run [] [] rfl (st_move rfl) (.run [] [] rfl (st_assign rfl) .nil)) ?_
      refine tr_ret ?_
      exact ends [_] [1] (.cons (.tmp rfl) .nil) (.cons (.one (.row (len := (pvE (out ++ [(entryV bs (belowP bs q 24))])).length) (xs := pvE (out ++ [(entryV bs (belowP bs q 24))])) rfl rfl) (.sl _ _ (FlatP.clean (pvE_flat _)))) .nil) (by decide) (outs1 (congrArg (fun x => some (2, x)) (congrArg pvRd (congrArg (Prod.mk cv) rfl))) (pvRd_flat _) (by decide))
    · skip
      refine tr_skip ?_
      refine tr_seq ?_
      have hcv := ents_0 hEm h20
      rw [hcv]
      refine tr_region rfl (.run [] [] rfl (st_move rfl) (.run [] [] rfl (st_assign rfl) .nil)) ?_
      refine tr_ret ?_
      exact ends [_] [1] (.cons (.tmp rfl) .nil) (.cons (.one (.row (len := (pvE out).length) (xs := pvE out) rfl rfl) (.sl _ _ (FlatP.clean (pvE_flat _)))) .nil) (by decide) (outs1 (congrArg (fun x => some (2, x)) (congrArg pvRd (congrArg (Prod.mk cv) rfl))) (pvRd_flat _) (by decide))
set_option maxRecDepth 1000000 in
set_option maxHeartbeats 2000000 in
theorem snaps_con {γ : Gho} {cv : Value} {bs : List Nat} (hc : CodeAt γ cv bs) (hl : bs.length ≤ 1152921504606846976) (p : Nat) (hp : p ≤ bs.length)  : ConG γ Try.prog 79 [.rptr 2 [PV.v (cv), PV.v (.int .i64 (p:Int))]] [some (pvRd (cv, snapsP bs p))] [.one (.sl true 1 (pvI (snapsV bs p)))] := by
  refine con_of_tr Try.func79 rfl rfl rfl rfl ?_
  have hb0 := belowV_lt (bs := bs) (p := p) (n := 4) (by decide)
  refine tr_seq ?_
  refine tr_region rfl (.run [] [] rfl (st_assign rfl) .nil) ?_
  refine tr_seq ?_
  refine tr_region rfl (.run [600] [] rfl (st_buildSlice rfl 600 Try.underlying23 inf2 (nle rfl) (by decide) rfl rfl rfl .nil (by decide) rfl (by decide) rfl (by decide) rfl) (.run [] [] rfl (st_assign rfl) .nil)) ?_
  refine tr_seq ?_
  refine tr_region rfl (.run [] [] rfl (st_assign rfl) .nil) ?_
  refine tr_seq ?_
  refine tr_seq ?_
  refine tr_region rfl (.run [] [] rfl (st_move rfl) (.run [100000, 800] [] rfl (st_callG (.inr rfl) rfl 800 (X := [100000]) en139 rfl (.val nod) (.cons (.rptr rfl) (.cons (.one (.bor .v)) .nil)) (by decide) (all_cons rfl all_nil) (.keep (xs := pvRd (cv, p)) rfl (FlatP.nf (pvRd_flat _)) .nil) (below_con hc hl p hp 4 (by omega)) rfl rfl (nle rfl)) (.run [] [] rfl (st_assign rfl) .nil))) ?_
  refine tr_block ?_
  refine tr_wk (wk_ren 600 1 rfl rfl (by decide)) ?_
-- entry row 100000: pvRd (cv, (belowP bs p 4)) now pvRd (cv, belowP bs p 4)
  refine tr_loopS (σ := Nat × List Int × Int × Nat) (fun (i, out, n, q) => mk [(0, .ea 100000 0 0), (3, .sl 1 0 ((pvI out).length)), (4, .p none (.v (.int .i64 n))), (5, .p none (.v (.int .i64 (i:Int))))] [] [(1, 1, pvI out), (100000, 2, pvRd (cv, q))]) (fun (i, out, n, q) => out.length + i ≤ 3 ∧ 0 ≤ n ∧ n + ((6 * i : Nat) : Int) ≤ 100 ∧ q ≤ bs.length ∧ snLoop bs i (out, n, q) = snapsR bs p) (fun (i, out, n, q) => i) (belowV bs p 4, [], 0, belowP bs p 4) ⟨by simp only [List.length_nil]; omega, by omega, by omega, belowP_le hp, rfl⟩ (wk_mk ⟨rfl, ⟨rfl, ⟨rfl, ⟨(int_eq (by omega)), trivial⟩⟩⟩⟩ trivial ⟨(congrArg (fun x => some (1, x)) (by rfl)), ⟨rfl, trivial⟩⟩ rfl) ?_
  rintro ⟨i, out, n, q⟩ hG
  replace hG : out.length + i ≤ 3 ∧ 0 ≤ n ∧ n + ((6 * i : Nat) : Int) ≤ 100 ∧ q ≤ bs.length ∧ snLoop bs i (out, n, q) = snapsR bs p := hG
  obtain ⟨hi, hn0, hn1, hp, hE⟩ := hG
  have hle := pvI_length out
  have h6 := belowV_lt (bs := bs) (p := q) (n := 6) (by decide)
  refine tr_seq ?_
  refine tr_seq ?_
  refine tr_region rfl (.run [] [] rfl (st_move rfl) (.run [] [] rfl (st_gtr rfl rfl rfl) .nil)) ?_
  refine tr_if (t := decide (0 < (i:Int))) rfl (fun h1 => ?_) (fun h1 => ?_)
  · skip
    replace h1 := of_decide_eq_true h1
    refine tr_skip ?_
    refine tr_seq ?_
    refine tr_block ?_
    refine tr_seq ?_
    refine tr_region rfl (.run [] [] rfl (st_move rfl) (.run [] [] rfl (st_move rfl) (.run [100000, 1500] [] rfl (st_callG (.inr rfl) rfl 1500 (X := [100000]) en139 rfl (.val nod) (.cons (.rptr rfl) (.cons (.one (.bor .v)) .nil)) (by decide) (all_cons rfl all_nil) (.keep (xs := pvRd (cv, q)) rfl (FlatP.nf (pvRd_flat _)) .nil) (below_con hc hl q hp 6 (by omega)) rfl rfl (nle rfl)) (.run [] [] rfl (st_addn rfl rfl rfl (by omega)) (.run [] [] rfl (st_assign rfl) .nil))))) ?_
    refine tr_seq ?_
    refine tr_wk (s' := mk [(0, .ea 100000 0 0), (3, .sl 1 0 ((pvI out).length)), (4, .p none (.v (.int .i64 (n + ((belowV bs q 6 : Nat) : Int))))), (5, .p none (.v (.int .i64 (i:Int))))] [] [(1, 1, pvI out), (100000, 2, pvRd (cv, belowP bs q 6))]) ?_ ?_
    · exact wk_mk ⟨rfl, ⟨rfl, ⟨rfl, ⟨rfl, trivial⟩⟩⟩⟩ trivial ⟨rfl, ⟨rfl, trivial⟩⟩ rfl
    rcases bfc (decide (((pvI out).length : Int) = 0)) with h2 | h2
    · have h2' := h2
      replace h2' := of_decide_eq_false h2'
      obtain ⟨e, he⟩ : ∃ e, out[out.length - 1]? = some e := ⟨_, List.getElem?_eq_getElem (by (have hL := pvI_length out; omega))⟩
      have hlte := (List.getElem?_eq_some_iff.1 he).1
      rcases bfc (decide (e < (n + ((belowV bs q 6 : Nat) : Int)))) with h3 | h3
      · have h3' := h3
        replace h3' := of_decide_eq_false h3'
        refine tr_region rfl (.run [] [] rfl (st_move rfl) (.run [] [] rfl (st_len_row rfl rfl Try.underlying23) (.run [] [] rfl (st_eq (st_eql rfl rfl rfl) (by exact congrArg (fun b => AV.p none (.v (.bool b))) h2)) (.run [] [] rfl (st_move rfl) (.run [] [] rfl (st_move rfl) (.run [] [] rfl (st_move rfl) (.run [] [] rfl (st_move rfl) (.run [] [] rfl (st_len_row rfl rfl Try.underlying23) (.run [] [] rfl (st_eq (st_subn rfl rfl rfl (by omega)) ((int_eq (by omega)))) (.run [] [] rfl (st_idx_row0 (out.length - 1) rfl rfl rfl rfl Try.underlying23 Try.sizeOf2 rfl rfl (by omega)) (.run [] [] rfl (st_load_ea1 rfl rfl rfl (pvI_get he) Try.isAgg2 rfl) (.run [] [] rfl (st_eq (st_gtr rfl rfl rfl) (by exact congrArg (fun b => AV.p none (.v (.bool b))) h3)) (.run [] [] rfl (st_pick (t := false) rfl rfl) (.run [] [] rfl (st_move rfl) (.run [] [] rfl (st_move rfl) (.run [100000, 3200] [] rfl (st_callG (.inr rfl) rfl 3200 (X := [100000]) en80 rfl (.val nod) (.cons (.rptr rfl) (.cons (.one (.bor .v)) .nil)) (by decide) (all_cons rfl all_nil) (.keep (xs := pvRd (cv, belowP bs q 6)) rfl (FlatP.nf (pvRd_flat _)) .nil) (once_con hc hl (belowP bs q 6) (belowP_le hp) 12 (by omega)) rfl rfl (nle rfl)) (.run [] [] rfl (st_pick (t := false) rfl rfl) .nil))))))))))))))))) ?_
        refine tr_if (t := onceV bs (belowP bs q 6) 12) rfl (fun h4 => ?_) (fun h4 => ?_)
        · skip
          refine tr_wk (s' := mk [(0, .ea 100000 0 0), (3, .sl 1 0 ((pvI out).length)), (4, .p none (.v (.int .i64 (n + ((belowV bs q 6 : Nat) : Int))))), (5, .p none (.v (.int .i64 (i:Int)))), (21, .p none (.v (.int .i64 (n + ((belowV bs q 6 : Nat) : Int))))), (22, .sl 1 0 ((pvI out).length)), (23, .sl 1 0 ((pvI out).length)), (24, .p none (.v (.int .i64 ((pvI out).length : Int)))), (25, .p none (.v (.int .i64 ((out.length - 1 : Nat):Int)))), (26, .ea 1 (out.length - 1) 0), (27, .p none (.v (.int .i64 e))), (28, .p none (.v (.bool false))), (31, .ea 100000 0 0), (32, .p none (.v (.bool (onceV bs (belowP bs q 6) 12))))] [] [(1, 1, pvI out), (100000, 2, pvRd (cv, belowP bs (belowP bs q 6) 12))]) ?_ ?_
          · exact wk_mk ⟨rfl, ⟨rfl, ⟨rfl, ⟨rfl, ⟨rfl, ⟨rfl, ⟨rfl, ⟨rfl, ⟨rfl, ⟨rfl, ⟨rfl, ⟨rfl, ⟨rfl, ⟨rfl, trivial⟩⟩⟩⟩⟩⟩⟩⟩⟩⟩⟩⟩⟩⟩ trivial ⟨rfl, ⟨rfl, trivial⟩⟩ rfl
          refine tr_region rfl (.run [] [] rfl (st_move rfl) (.run [] [] rfl (st_move rfl) (.run [3600] [] rfl (st_buildSlice rfl 3600 Try.underlying23 inf2 (nle rfl) (by decide) rfl rfl rfl (.cons .v .nil) (by decide) rfl (by decide) rfl (by decide) rfl) (.run [1] [] rfl (st_append rfl 1 (ib := 1) (len := ((pvI out) ++ [[PV.v (.int .i64 (n + ((belowV bs q 6 : Nat) : Int)))]]).length) rfl rfl (.row (len := (pvI out).length) (xs := pvI out) rfl rfl (.inl rfl)) (.give (len := 1) (xs := [[PV.v (.int .i64 (n + ((belowV bs q 6 : Nat) : Int)))]]) rfl rfl) Try.underlying23 (sk Try.underlying23 rfl) inf2 rfl (by decide) (by decide) (by decide) List.length_append (by simp only [maxLen, List.length_append, List.length_map, List.length_cons, List.length_nil, List.length_take, List.length_drop, pvE_length, pvI_length, pvT_length, pvU_length]; omega) (by simp only [maxLen, List.length_append, List.length_map, List.length_cons, List.length_nil, List.length_take, List.length_drop, pvE_length, pvI_length, pvT_length, pvU_length]; omega)) (.run [] [] rfl (st_assign rfl) .nil))))) ?_
          have hr5 : (pvI out) ++ [[PV.v (.int .i64 (n + ((belowV bs q 6 : Nat) : Int)))]] = pvI (out ++ [(n + ((belowV bs q 6 : Nat) : Int))]) := by exact pvI_snoc _ _
          have hp6 : (.sl 1 0 (((pvI out) ++ [[PV.v (.int .i64 (n + ((belowV bs q 6 : Nat) : Int)))]]).length) : AV) = .sl 1 0 ((pvI (out ++ [(n + ((belowV bs q 6 : Nat) : Int))])).length) := by simp only [hr5]
          refine tr_wk (s' := mk [(0, .ea 100000 0 0), (3, .sl 1 0 ((pvI (out ++ [(n + ((belowV bs q 6 : Nat) : Int))])).length)), (4, .p none (.v (.int .i64 (n + ((belowV bs q 6 : Nat) : Int))))), (5, .p none (.v (.int .i64 (i:Int)))), (21, .p none (.v (.int .i64 (n + ((belowV bs q 6 : Nat) : Int))))), (24, .p none (.v (.int .i64 ((pvI out).length : Int)))), (25, .p none (.v (.int .i64 ((out.length - 1 : Nat):Int)))), (27, .p none (.v (.int .i64 e))), (28, .p none (.v (.bool false))), (31, .ea 100000 0 0), (32, .p none (.v (.bool (onceV bs (belowP bs q 6) 12))))] [] [(1, 1, pvI (out ++ [(n + ((belowV bs q 6 : Nat) : Int))])), (100000, 2, pvRd (cv, belowP bs (belowP bs q 6) 12))]) ?_ ?_
          · exact wk_mk ⟨rfl, ⟨hp6, ⟨rfl, ⟨rfl, ⟨rfl, ⟨rfl, ⟨rfl, ⟨rfl, ⟨rfl, ⟨rfl, ⟨rfl, trivial⟩⟩⟩⟩⟩⟩⟩⟩⟩⟩⟩ trivial ⟨(congrArg (fun x => some (1, x)) hr5), ⟨rfl, trivial⟩⟩ rfl
          refine tr_region rfl (.run [] [] rfl (st_move rfl) (.run [] [] rfl (st_subn rfl rfl rfl (by omega)) (.run [] [] rfl (st_assign rfl) .nil))) ?_
-- round row 100000: pvRd (cv, (belowP bs (belowP bs q 6) 12)) now pvRd (cv, belowP bs (belowP bs q 6) 12)
          refine nxt (Q := fun _ _ => False) (z := (i, out, n, q)) (i - 1, out ++ [(n + ((belowV bs q 6 : Nat) : Int))], (n + ((belowV bs q 6 : Nat) : Int)), belowP bs (belowP bs q 6) 12) ?_ ?_ ?_
          · show (out ++ [(n + ((belowV bs q 6 : Nat) : Int))]).length + (i - 1) ≤ 3 ∧ 0 ≤ (n + ((belowV bs q 6 : Nat) : Int)) ∧ (n + ((belowV bs q 6 : Nat) : Int)) + ((6 * (i - 1) : Nat) : Int) ≤ 100 ∧ (belowP bs (belowP bs q 6) 12) ≤ bs.length ∧ snLoop bs (i - 1) ((out ++ [(n + ((belowV bs q 6 : Nat) : Int))]), (n + ((belowV bs q 6 : Nat) : Int)), (belowP bs (belowP bs q 6) 12)) = snapsR bs p
            exact ⟨by simp only [List.length_append, List.length_cons, List.length_nil]; omega, by omega, by omega, belowP_le (belowP_le hp), snLoop_go (by omega) (sn_1 ((snl_some he).trans (decide_eq_false h3')) h4) hE⟩
          · show (i - 1) < i
            omega
          · exact wk_mk ⟨rfl, ⟨rfl, ⟨rfl, ⟨(int_eq (by omega)), trivial⟩⟩⟩⟩ trivial ⟨rfl, ⟨rfl, trivial⟩⟩ rfl
        · skip
          refine tr_skip ?_
          refine tr_wk (s' := mk [(0, .ea 100000 0 0), (3, .sl 1 0 ((pvI out).length)), (4, .p none (.v (.int .i64 (n + ((belowV bs q 6 : Nat) : Int))))), (5, .p none (.v (.int .i64 (i:Int)))), (21, .p none (.v (.int .i64 (n + ((belowV bs q 6 : Nat) : Int))))), (22, .sl 1 0 ((pvI out).length)), (23, .sl 1 0 ((pvI out).length)), (24, .p none (.v (.int .i64 ((pvI out).length : Int)))), (25, .p none (.v (.int .i64 ((out.length - 1 : Nat):Int)))), (26, .ea 1 (out.length - 1) 0), (27, .p none (.v (.int .i64 e))), (28, .p none (.v (.bool false))), (31, .ea 100000 0 0), (32, .p none (.v (.bool (onceV bs (belowP bs q 6) 12))))] [] [(1, 1, pvI out), (100000, 2, pvRd (cv, belowP bs (belowP bs q 6) 12))]) ?_ ?_
          · exact wk_mk ⟨rfl, ⟨rfl, ⟨rfl, ⟨rfl, ⟨rfl, ⟨rfl, ⟨rfl, ⟨rfl, ⟨rfl, ⟨rfl, ⟨rfl, ⟨rfl, ⟨rfl, ⟨rfl, trivial⟩⟩⟩⟩⟩⟩⟩⟩⟩⟩⟩⟩⟩⟩ trivial ⟨rfl, ⟨rfl, trivial⟩⟩ rfl
          refine tr_region rfl (.run [] [] rfl (st_move rfl) (.run [] [] rfl (st_subn rfl rfl rfl (by omega)) (.run [] [] rfl (st_assign rfl) .nil))) ?_
-- round row 100000: pvRd (cv, (belowP bs (belowP bs q 6) 12)) now pvRd (cv, belowP bs (belowP bs q 6) 12)
          refine nxt (Q := fun _ _ => False) (z := (i, out, n, q)) (i - 1, out, (n + ((belowV bs q 6 : Nat) : Int)), belowP bs (belowP bs q 6) 12) ?_ ?_ ?_
          · show out.length + (i - 1) ≤ 3 ∧ 0 ≤ (n + ((belowV bs q 6 : Nat) : Int)) ∧ (n + ((belowV bs q 6 : Nat) : Int)) + ((6 * (i - 1) : Nat) : Int) ≤ 100 ∧ (belowP bs (belowP bs q 6) 12) ≤ bs.length ∧ snLoop bs (i - 1) (out, (n + ((belowV bs q 6 : Nat) : Int)), (belowP bs (belowP bs q 6) 12)) = snapsR bs p
            exact ⟨by omega, by omega, by omega, belowP_le (belowP_le hp), snLoop_go (by omega) (sn_2 ((snl_some he).trans (decide_eq_false h3')) h4) hE⟩
          · show (i - 1) < i
            omega
          · exact wk_mk ⟨rfl, ⟨rfl, ⟨rfl, ⟨(int_eq (by omega)), trivial⟩⟩⟩⟩ trivial ⟨rfl, ⟨rfl, trivial⟩⟩ rfl
      · have h3' := h3
        replace h3' := of_decide_eq_true h3'
        refine tr_region rfl (.run [] [] rfl (st_move rfl) (.run [] [] rfl (st_len_row rfl rfl Try.underlying23) (.run [] [] rfl (st_eq (st_eql rfl rfl rfl) (by exact congrArg (fun b => AV.p none (.v (.bool b))) h2)) (.run [] [] rfl (st_move rfl) (.run [] [] rfl (st_move rfl) (.run [] [] rfl (st_move rfl) (.run [] [] rfl (st_move rfl) (.run [] [] rfl (st_len_row rfl rfl Try.underlying23) (.run [] [] rfl (st_eq (st_subn rfl rfl rfl (by omega)) ((int_eq (by omega)))) (.run [] [] rfl (st_idx_row0 (out.length - 1) rfl rfl rfl rfl Try.underlying23 Try.sizeOf2 rfl rfl (by omega)) (.run [] [] rfl (st_load_ea1 rfl rfl rfl (pvI_get he) Try.isAgg2 rfl) (.run [] [] rfl (st_eq (st_gtr rfl rfl rfl) (by exact congrArg (fun b => AV.p none (.v (.bool b))) h3)) (.run [] [] rfl (st_pick (t := false) rfl rfl) (.run [] [] rfl (st_move rfl) (.not rfl (.not rfl (.run [] [] rfl (st_pick (t := true) rfl rfl) .nil))))))))))))))))) ?_
        refine tr_if (t := true) rfl (fun _ => ?_) (fun h => nomatch h)
        refine tr_wk (s' := mk [(0, .ea 100000 0 0), (3, .sl 1 0 ((pvI out).length)), (4, .p none (.v (.int .i64 (n + ((belowV bs q 6 : Nat) : Int))))), (5, .p none (.v (.int .i64 (i:Int)))), (21, .p none (.v (.int .i64 (n + ((belowV bs q 6 : Nat) : Int))))), (22, .sl 1 0 ((pvI out).length)), (23, .sl 1 0 ((pvI out).length)), (24, .p none (.v (.int .i64 ((pvI out).length : Int)))), (25, .p none (.v (.int .i64 ((out.length - 1 : Nat):Int)))), (26, .ea 1 (out.length - 1) 0), (27, .p none (.v (.int .i64 e))), (28, .p none (.v (.bool true)))] [] [(1, 1, pvI out), (100000, 2, pvRd (cv, belowP bs q 6))]) ?_ ?_
        · exact wk_mk ⟨rfl, ⟨rfl, ⟨rfl, ⟨rfl, ⟨rfl, ⟨rfl, ⟨rfl, ⟨rfl, ⟨rfl, ⟨rfl, ⟨rfl, ⟨rfl, trivial⟩⟩⟩⟩⟩⟩⟩⟩⟩⟩⟩⟩ trivial ⟨rfl, ⟨rfl, trivial⟩⟩ rfl
        refine tr_region rfl (.run [] [] rfl (st_move rfl) (.run [] [] rfl (st_move rfl) (.run [3600] [] rfl (st_buildSlice rfl 3600 Try.underlying23 inf2 (nle rfl) (by decide) rfl rfl rfl (.cons .v .nil) (by decide) rfl (by decide) rfl (by decide) rfl) (.run [1] [] rfl (st_append rfl 1 (ib := 1) (len := ((pvI out) ++ [[PV.v (.int .i64 (n + ((belowV bs q 6 : Nat) : Int)))]]).length) rfl rfl (.row (len := (pvI out).length) (xs := pvI out) rfl rfl (.inl rfl)) (.give (len := 1) (xs := [[PV.v (.int .i64 (n + ((belowV bs q 6 : Nat) : Int)))]]) rfl rfl) Try.underlying23 (sk Try.underlying23 rfl) inf2 rfl (by decide) (by decide) (by decide) List.length_append (by simp only [maxLen, List.length_append, List.length_map, List.length_cons, List.length_nil, List.length_take, List.length_drop, pvE_length, pvI_length, pvT_length, pvU_length]; omega) (by simp only [maxLen, List.length_append, List.length_map, List.length_cons, List.length_nil, List.length_take, List.length_drop, pvE_length, pvI_length, pvT_length, pvU_length]; omega)) (.run [] [] rfl (st_assign rfl) .nil))))) ?_
        have hr7 : (pvI out) ++ [[PV.v (.int .i64 (n + ((belowV bs q 6 : Nat) : Int)))]] = pvI (out ++ [(n + ((belowV bs q 6 : Nat) : Int))]) := by exact pvI_snoc _ _
        have hp8 : (.sl 1 0 (((pvI out) ++ [[PV.v (.int .i64 (n + ((belowV bs q 6 : Nat) : Int)))]]).length) : AV) = .sl 1 0 ((pvI (out ++ [(n + ((belowV bs q 6 : Nat) : Int))])).length) := by simp only [hr7]
        refine tr_wk (s' := mk [(0, .ea 100000 0 0), (3, .sl 1 0 ((pvI (out ++ [(n + ((belowV bs q 6 : Nat) : Int))])).length)), (4, .p none (.v (.int .i64 (n + ((belowV bs q 6 : Nat) : Int))))), (5, .p none (.v (.int .i64 (i:Int)))), (21, .p none (.v (.int .i64 (n + ((belowV bs q 6 : Nat) : Int))))), (24, .p none (.v (.int .i64 ((pvI out).length : Int)))), (25, .p none (.v (.int .i64 ((out.length - 1 : Nat):Int)))), (27, .p none (.v (.int .i64 e))), (28, .p none (.v (.bool true)))] [] [(1, 1, pvI (out ++ [(n + ((belowV bs q 6 : Nat) : Int))])), (100000, 2, pvRd (cv, belowP bs q 6))]) ?_ ?_
        · exact wk_mk ⟨rfl, ⟨hp8, ⟨rfl, ⟨rfl, ⟨rfl, ⟨rfl, ⟨rfl, ⟨rfl, ⟨rfl, trivial⟩⟩⟩⟩⟩⟩⟩⟩⟩ trivial ⟨(congrArg (fun x => some (1, x)) hr7), ⟨rfl, trivial⟩⟩ rfl
        refine tr_region rfl (.run [] [] rfl (st_move rfl) (.run [] [] rfl (st_subn rfl rfl rfl (by omega)) (.run [] [] rfl (st_assign rfl) .nil))) ?_
-- round row 100000: pvRd (cv, (belowP bs q 6)) now pvRd (cv, belowP bs q 6)
        refine nxt (Q := fun _ _ => False) (z := (i, out, n, q)) (i - 1, out ++ [(n + ((belowV bs q 6 : Nat) : Int))], (n + ((belowV bs q 6 : Nat) : Int)), belowP bs q 6) ?_ ?_ ?_
        · show (out ++ [(n + ((belowV bs q 6 : Nat) : Int))]).length + (i - 1) ≤ 3 ∧ 0 ≤ (n + ((belowV bs q 6 : Nat) : Int)) ∧ (n + ((belowV bs q 6 : Nat) : Int)) + ((6 * (i - 1) : Nat) : Int) ≤ 100 ∧ (belowP bs q 6) ≤ bs.length ∧ snLoop bs (i - 1) ((out ++ [(n + ((belowV bs q 6 : Nat) : Int))]), (n + ((belowV bs q 6 : Nat) : Int)), (belowP bs q 6)) = snapsR bs p
          exact ⟨by simp only [List.length_append, List.length_cons, List.length_nil]; omega, by omega, by omega, belowP_le hp, snLoop_go (by omega) (sn_0 ((snl_some he).trans (decide_eq_true h3'))) hE⟩
        · show (i - 1) < i
          omega
        · exact wk_mk ⟨rfl, ⟨rfl, ⟨rfl, ⟨(int_eq (by omega)), trivial⟩⟩⟩⟩ trivial ⟨rfl, ⟨rfl, trivial⟩⟩ rfl
    · have h2' := h2
      replace h2' := of_decide_eq_true h2'
      refine tr_region rfl (.run [] [] rfl (st_move rfl) (.run [] [] rfl (st_len_row rfl rfl Try.underlying23) (.run [] [] rfl (st_eq (st_eql rfl rfl rfl) (by exact congrArg (fun b => AV.p none (.v (.bool b))) h2)) (.run [] [] rfl (st_move rfl) (.not rfl (.not rfl (.not rfl (.not rfl (.not rfl (.not rfl (.not rfl (.not rfl (.run [] [] rfl (st_pick (t := true) rfl rfl) (.run [] [] rfl (st_move rfl) (.not rfl (.not rfl (.run [] [] rfl (st_pick (t := true) rfl rfl) .nil))))))))))))))))) ?_
      refine tr_if (t := true) rfl (fun _ => ?_) (fun h => nomatch h)
      refine tr_wk (s' := mk [(0, .ea 100000 0 0), (3, .sl 1 0 ((pvI out).length)), (4, .p none (.v (.int .i64 (n + ((belowV bs q 6 : Nat) : Int))))), (5, .p none (.v (.int .i64 (i:Int))))] [] [(1, 1, pvI out), (100000, 2, pvRd (cv, belowP bs q 6))]) ?_ ?_
      · exact wk_mk ⟨rfl, ⟨rfl, ⟨rfl, ⟨rfl, trivial⟩⟩⟩⟩ trivial ⟨rfl, ⟨rfl, trivial⟩⟩ rfl
      refine tr_region rfl (.run [] [] rfl (st_move rfl) (.run [] [] rfl (st_move rfl) (.run [3600] [] rfl (st_buildSlice rfl 3600 Try.underlying23 inf2 (nle rfl) (by decide) rfl rfl rfl (.cons .v .nil) (by decide) rfl (by decide) rfl (by decide) rfl) (.run [1] [] rfl (st_append rfl 1 (ib := 1) (len := ((pvI out) ++ [[PV.v (.int .i64 (n + ((belowV bs q 6 : Nat) : Int)))]]).length) rfl rfl (.row (len := (pvI out).length) (xs := pvI out) rfl rfl (.inl rfl)) (.give (len := 1) (xs := [[PV.v (.int .i64 (n + ((belowV bs q 6 : Nat) : Int)))]]) rfl rfl) Try.underlying23 (sk Try.underlying23 rfl) inf2 rfl (by decide) (by decide) (by decide) List.length_append (by simp only [maxLen, List.length_append, List.length_map, List.length_cons, List.length_nil, List.length_take, List.length_drop, pvE_length, pvI_length, pvT_length, pvU_length]; omega) (by simp only [maxLen, List.length_append, List.length_map, List.length_cons, List.length_nil, List.length_take, List.length_drop, pvE_length, pvI_length, pvT_length, pvU_length]; omega)) (.run [] [] rfl (st_assign rfl) .nil))))) ?_
      have hr9 : (pvI out) ++ [[PV.v (.int .i64 (n + ((belowV bs q 6 : Nat) : Int)))]] = pvI (out ++ [(n + ((belowV bs q 6 : Nat) : Int))]) := by exact pvI_snoc _ _
      have hp10 : (.sl 1 0 (((pvI out) ++ [[PV.v (.int .i64 (n + ((belowV bs q 6 : Nat) : Int)))]]).length) : AV) = .sl 1 0 ((pvI (out ++ [(n + ((belowV bs q 6 : Nat) : Int))])).length) := by simp only [hr9]
      refine tr_wk (s' := mk [(0, .ea 100000 0 0), (3, .sl 1 0 ((pvI (out ++ [(n + ((belowV bs q 6 : Nat) : Int))])).length)), (4, .p none (.v (.int .i64 (n + ((belowV bs q 6 : Nat) : Int))))), (5, .p none (.v (.int .i64 (i:Int))))] [] [(1, 1, pvI (out ++ [(n + ((belowV bs q 6 : Nat) : Int))])), (100000, 2, pvRd (cv, belowP bs q 6))]) ?_ ?_
      · exact wk_mk ⟨rfl, ⟨hp10, ⟨rfl, ⟨rfl, trivial⟩⟩⟩⟩ trivial ⟨(congrArg (fun x => some (1, x)) hr9), ⟨rfl, trivial⟩⟩ rfl
      refine tr_region rfl (.run [] [] rfl (st_move rfl) (.run [] [] rfl (st_subn rfl rfl rfl (by omega)) (.run [] [] rfl (st_assign rfl) .nil))) ?_
-- round row 100000: pvRd (cv, (belowP bs q 6)) now pvRd (cv, belowP bs q 6)
      refine nxt (Q := fun _ _ => False) (z := (i, out, n, q)) (i - 1, out ++ [(n + ((belowV bs q 6 : Nat) : Int))], (n + ((belowV bs q 6 : Nat) : Int)), belowP bs q 6) ?_ ?_ ?_
      · show (out ++ [(n + ((belowV bs q 6 : Nat) : Int))]).length + (i - 1) ≤ 3 ∧ 0 ≤ (n + ((belowV bs q 6 : Nat) : Int)) ∧ (n + ((belowV bs q 6 : Nat) : Int)) + ((6 * (i - 1) : Nat) : Int) ≤ 100 ∧ (belowP bs q 6) ≤ bs.length ∧ snLoop bs (i - 1) ((out ++ [(n + ((belowV bs q 6 : Nat) : Int))]), (n + ((belowV bs q 6 : Nat) : Int)), (belowP bs q 6)) = snapsR bs p
        exact ⟨by simp only [List.length_append, List.length_cons, List.length_nil]; omega, by omega, by omega, belowP_le hp, snLoop_go (by omega) (sn_0 (snl_nil (by omega))) hE⟩
      · show (i - 1) < i
        omega
      · exact wk_mk ⟨rfl, ⟨rfl, ⟨rfl, ⟨(int_eq (by omega)), trivial⟩⟩⟩⟩ trivial ⟨rfl, ⟨rfl, trivial⟩⟩ rfl
  · skip
    replace h1 := of_decide_eq_false h1
    refine tr_exit ?_
    refine tr_seq ?_
    have hi0 : i = 0 := (by omega)
    rw [hi0] at hE
    have hEm : (out, n, q) = snapsR bs p := hE
    rw [snapsV, snapsP, ← hEm]
    refine tr_region rfl (.run [] [] rfl (st_move rfl) (.run [] [] rfl (st_assign rfl) .nil)) ?_
    refine tr_ret ?_
    exact ends [_] [1] (.cons (.tmp rfl) .nil) (.cons (.one (.row (len := (pvI out).length) (xs := pvI out) rfl rfl) (.sl _ _ (FlatP.clean (pvI_flat _)))) .nil) (by decide) (outs1 (congrArg (fun x => some (2, x)) (congrArg pvRd (congrArg (Prod.mk cv) rfl))) (pvRd_flat _) (by decide))
set_option maxRecDepth 1000000 in
set_option maxHeartbeats 2000000 in
theorem big0_con {γ : Gho} (bs : List Nat) (A : Option Addr) (c : Nat) : ConG γ Try.prog 27 [.one (PV.v (.slice A bs.length c))] [] [.one (.v (.bool (decide ((1048576 : Int) < (bs.length : Int)))))] := by
  refine con_of_tr Try.func27 rfl rfl rfl rfl ?_
  refine tr_seq ?_
  refine tr_region rfl (.run [] [] rfl (st_assign rfl) .nil) ?_
  refine tr_seq ?_
  refine tr_region rfl (.run [] [] rfl (st_move rfl) (.run [] [] rfl (st_len_v rfl rfl Try.underlying34) (.run [] [] rfl (st_gtr rfl rfl rfl) (.run [] [] rfl (st_assign rfl) .nil)))) ?_
  refine tr_ret ?_
  exact ends [_] [] (.cons (.tmp rfl) .nil) (.cons (.one .v (.v _)) .nil) (by decide) trivial
theorem big_con {γ : Gho} {cv : Value} {bs : List Nat} (hc : CodeAt γ cv bs) : ConG γ Try.prog 27 [.one (.v cv)] [] [.one (.v (.bool (decide ((1048576 : Int) < (bs.length : Int)))))] := by
  obtain ⟨A, c, rfl, hcc⟩ := hc
  exact big0_con bs A c
set_option maxRecDepth 1000000 in
set_option maxHeartbeats 2000000 in
theorem open_con {γ : Gho} (cv : Value) : ConG γ Try.prog 77 [.one (PV.v (cv))] [] [.rptr 2 [.v cv, .v (.int .i64 (0:Int))]] := by
  refine con_of_tr Try.func77 rfl rfl rfl rfl ?_
  refine tr_seq ?_
  refine tr_region rfl (.run [] [] rfl (st_assign rfl) .nil) ?_
  refine tr_seq ?_
  refine tr_region rfl (.run [] [] rfl (st_move rfl) (.run [] [] rfl (st_build (pl := [(0, 1), (1, 1)]) rfl Try.underlying152 inf152 (by kernel_rfl) rfl rfl) (.run [500] [] rfl (st_box_row rfl 500 rfl rfl rfl (by decide) rfl (by decide)) (.run [] [] rfl (st_assign rfl) .nil)))) ?_
  refine tr_ret ?_
  exact ends [_] [500] (.cons (.tmp rfl) .nil) (.cons (.rptr rfl pvRd_clean) .nil) (by decide) trivial
set_option maxRecDepth 1000000 in
set_option maxHeartbeats 2000000 in
theorem drawCompacted_con {γ : Gho} {cv : Value} {bs : List Nat} (hc : CodeAt γ cv bs) (hl : bs.length ≤ 1152921504606846976) : ConG γ Try.prog 28 [.one (PV.v (cv))] [] [.one (.sl true 4 (pvE (entsR bs 0 14).1)), .one (.sl true 1 (pvI (snapsV bs (entsR bs 0 14).2))), .one (.v (.bool (onceV bs (snapsP bs (entsR bs 0 14).2) 2)))] := by
  refine con_of_tr Try.func28 rfl rfl rfl rfl ?_
  refine tr_seq ?_
  refine tr_region rfl (.run [] [] rfl (st_assign rfl) (.run [] [] rfl (st_assign rfl) (.run [] [] rfl (st_assign rfl) .nil))) ?_
  refine tr_seq ?_
  refine tr_region rfl (.run [] [] rfl (st_move rfl) (.run [800] [] rfl (st_callG (.inr rfl) rfl 800 (X := []) en77 rfl (.val nod) (.cons (.one (.bor .v)) .nil) (by decide) all_nil .nil (open_con cv) rfl rfl (nle rfl)) (.run [] [] rfl (st_assign rfl) .nil))) ?_
  refine tr_seq ?_
  refine tr_region rfl (.run [] [] rfl (st_move rfl) (.run [800, 1000] [] rfl (st_callG (.inr rfl) rfl 1000 (X := [800]) en78 rfl (.val nod) (.cons (.rptr rfl) (.cons (.one (.bor .v)) .nil)) (by decide) (all_cons rfl all_nil) (.keep (xs := pvRd (cv, 0)) rfl (FlatP.nf (pvRd_flat _)) .nil) (entries_con hc hl 0 (Nat.zero_le _) 14 (by omega)) rfl rfl (nle rfl)) (.run [] [] rfl (st_assign rfl) .nil))) ?_
  refine tr_seq ?_
  refine tr_wk (s' := mk [(5, .ea 800 0 0), (6, .sl 1000 0 ((pvE ((entsR bs 0 14).1)).length))] [] [(800, 2, pvRd (cv, (entsR bs 0 14).2)), (1000, 4, pvE ((entsR bs 0 14).1))]) ?_ ?_
  · exact wk_mk ⟨rfl, ⟨rfl, trivial⟩⟩ trivial ⟨rfl, ⟨rfl, trivial⟩⟩ rfl
  refine tr_region rfl (.run [] [] rfl (st_move rfl) (.run [] [] rfl (st_move rfl) (.run [800, 1300] [] rfl (st_callG (.inr rfl) rfl 1300 (X := [800]) en79 rfl (.val nod) (.cons (.rptr rfl) .nil) (by decide) (all_cons rfl all_nil) (.keep (xs := pvRd (cv, (entsR bs 0 14).2)) rfl (FlatP.nf (pvRd_flat _)) .nil) (snaps_con hc hl ((entsR bs 0 14).2) (entsR_ok (Nat.zero_le _)).2) rfl rfl (nle rfl)) (.run [] [] rfl (st_move rfl) (.run [800, 1500] [] rfl (st_callG (.inr rfl) rfl 1500 (X := [800]) en80 rfl (.val nod) (.cons (.rptr rfl) (.cons (.one (.bor .v)) .nil)) (by decide) (all_cons rfl all_nil) (.keep (xs := pvRd (cv, snapsP bs ((entsR bs 0 14).2))) rfl (FlatP.nf (pvRd_flat _)) .nil) (once_con hc hl (snapsP bs ((entsR bs 0 14).2)) ((fun h => (snapsR_ok h).2) (entsR_ok (Nat.zero_le _)).2) 2 (by omega)) rfl rfl (nle rfl)) (.run [] [] rfl (st_assign rfl) (.run [] [] rfl (st_assign rfl) (.run [] [] rfl (st_assign rfl) .nil)))))))) ?_
  refine tr_ret ?_
  exact ends [_, _, _] [1000, 1300] (.cons (.tmp rfl) (.cons (.tmp rfl) (.cons (.tmp rfl) .nil))) (.cons (.one (.row (len := (pvE ((entsR bs 0 14).1)).length) (xs := pvE ((entsR bs 0 14).1)) rfl rfl) (.sl _ _ (FlatP.clean (pvE_flat _)))) (.cons (.one (.row (len := (pvI (snapsV bs ((entsR bs 0 14).2))).length) (xs := pvI (snapsV bs ((entsR bs 0 14).2))) rfl rfl) (.sl _ _ (FlatP.clean (pvI_flat _)))) (.cons (.one .v (.v _)) .nil))) (by decide) trivial
end Go.Rl

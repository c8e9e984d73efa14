/- Promises of functions, proved by walks over their operations; no conditions beyond those that each theorem states. -/
import Derived.Test.YtmjfdldfaeaolaaRdH
import Derived.Test.YtmjfdldfaeaolaaRtDk
import Derived.Test.YtmjfdldfaeaolaaRdD
namespace Go.Rl
open Go.Proofs
theorem inf2 : (Try.prog.info? 2).map (fun i => (i.zero, i.size, i.bytes)) = some (some (.int .i64 0), 1, 8) := by kernel_rfl
theorem inf9 : (Try.prog.info? 9).map (fun i => (i.zero, i.size, i.bytes)) = some (some (.string ⟨#[]⟩), 1, 16) := by kernel_rfl
theorem en78 : ∀ vs w, (callFunc 78 vs).run Try.prog w = .ok (.enter 78 vs) w := enters Try.func78 (by decide) rfl
theorem en46 : ∀ vs w, (callFunc 46 vs).run Try.prog w = .ok (.enter 46 vs) w := enters Try.func46 (by decide) rfl
theorem en92 : ∀ vs w, (callFunc 92 vs).run Try.prog w = .ok (.enter 92 vs) w := enters Try.func92 (by decide) rfl
theorem en51 : ∀ vs w, (callFunc 51 vs).run Try.prog w = .ok (.enter 51 vs) w := enters Try.func51 (by decide) rfl
theorem en79 : ∀ vs w, (callFunc 79 vs).run Try.prog w = .ok (.enter 79 vs) w := enters Try.func79 (by decide) rfl
theorem en52 : ∀ vs w, (callFunc 52 vs).run Try.prog w = .ok (.enter 52 vs) w := enters Try.func52 (by decide) rfl
theorem en66 : ∀ vs w, (callFunc 66 vs).run Try.prog w = .ok (.enter 66 vs) w := enters Try.func66 (by decide) rfl
theorem en45 : ∀ vs w, (callFunc 45 vs).run Try.prog w = .ok (.enter 45 vs) w := enters Try.func45 (by decide) rfl
set_option maxRecDepth 1000000 in
set_option maxHeartbeats 2000000 in
theorem next0_con {γ : Gho} (bs : List Nat) (A : Option Addr) (c p : Nat) (hp : p ≤ bs.length) (hl : bs.length ≤ 1152921504606846976) (hcc : bs = [] ∨ ∃ k off cur ty fz, A = some ⟨k, off, none⟩ ∧ γ = some (k, .cells cur ty fz) ∧ ∀ (i : Nat) (b : Nat), bs[i]? = some b → b < 256 ∧ cur[off + i]? = some (.int .u8 b)) : ConG γ Try.prog 78 [.rptr 2 [PV.v (.slice A bs.length c), PV.v (.int .i64 (p:Int))]] [some (pvRd (.slice A bs.length c, nextP bs p))] [.one (.v (.int .i64 ((nextV bs p : Nat) : Int)))] := by
  refine con_of_tr Try.func78 rfl rfl rfl rfl ?_
  refine tr_seq ?_
  refine tr_region rfl (.run [] [] rfl (st_assign rfl) .nil) ?_
  refine tr_seq ?_
  refine tr_seq ?_
  refine tr_regionD mixed rfl (.run [] [] rfl (st_move rfl) (.run [] [] rfl (st_nilcheck_ea rfl rfl) (.run [] [] rfl (st_faddr_ea rfl rfl Try.underlying90 rfl Try.sizeOf3 (by decide)) (.run [] [] rfl (st_load_ea1 rfl rfl rfl rfl Try.isAgg3 rfl) (.run [] [] rfl (st_move rfl) (.run [] [] rfl (st_nilcheck_ea rfl rfl) (.run [] [] rfl (st_faddr_ea rfl rfl Try.underlying90 rfl Try.sizeOf22 (by decide)) (.run [] [] rfl (st_load_ea1 rfl rfl rfl rfl Try.isAgg22 rfl) (.run [] [] rfl (st_len_v rfl rfl Try.underlying22) (.run [] [] rfl (st_geq rfl rfl rfl) .nil)))))))))) (by kernel_rfl) ?_
  refine tr_if (t := decide ((bs.length : Int) ≤ (p:Int))) rfl (fun h1 => ?_) (fun h1 => ?_)
  · skip
    replace h1 := of_decide_eq_true h1
    refine tr_seq ?_
    have hne := next_end (bs := bs) (p := p) (by omega)
    refine tr_region rfl (.run [] [] rfl (st_assign rfl) .nil) ?_
    refine tr_ret ?_
    exact ends [_] [] (.cons (.tmp (int_eq (by rw [hne.1]; rfl))) .nil) (.cons (.one .v (.v _)) .nil) (by decide) (outs1 (congrArg (fun x => some (2, x)) (by rw [hne.2]; rfl)) (pvRd_flat _) (by decide))
  · skip
    replace h1 := of_decide_eq_false h1
    refine tr_skip ?_
    refine tr_seq ?_
    obtain ⟨k, off, cur, ty, fz, rfl, hg, hcur⟩ : ∃ k off cur ty fz, A = some ⟨k, off, none⟩ ∧ γ = some (k, .cells cur ty fz) ∧ ∀ (i : Nat) (b : Nat), bs[i]? = some b → b < 256 ∧ cur[off + i]? = some (.int .u8 b) := by
      rcases hcc with rfl | h
      · simp at h1
      · exact h
    have hlt : p < bs.length := (by omega)
    obtain ⟨b, hb⟩ : ∃ b, bs[p]? = some b := ⟨_, List.getElem?_eq_getElem hlt⟩
    obtain ⟨hb1, hb2⟩ := hcur p b hb
    have hni := next_in hb
    refine tr_wk (s' := mk [(0, .ea 100000 0 0)] [] [(100000, 2, pvRd (.slice (some ⟨k, off, none⟩) bs.length c, p))]) ?_ ?_
    · exact wk_mk ⟨rfl, trivial⟩ trivial ⟨rfl, trivial⟩ rfl
    refine tr_region rfl (.run [] [] rfl (st_move rfl) (.run [] [] rfl (st_nilcheck_ea rfl rfl) (.run [] [] rfl (st_faddr_ea rfl rfl Try.underlying90 rfl Try.sizeOf3 (by decide)) (.run [] [] rfl (st_load_ea1 rfl rfl rfl rfl Try.isAgg3 rfl) (.run [] [] rfl (st_addn rfl rfl rfl (by omega)) (.run [] [] rfl (st_nilcheck_ea rfl rfl) (.run [] [] rfl (st_faddr_ea rfl rfl Try.underlying90 rfl Try.sizeOf3 (by decide)) (.run [] [] rfl (st_store_row rfl rfl rfl (FlatP.nf (pvRd_flat _)) rfl rfl rfl (.cons .v .nil) Try.sizeOf3 rfl (nle rfl)) .nil)))))))) ?_
    have hr2 : (pvRd (.slice (some ⟨k, off, none⟩) bs.length c, p)).set 0 [PV.v (.slice (some ⟨k, off, none⟩) bs.length c), PV.v (.int .i64 ((p:Int) + 1))] = pvRd (.slice (some ⟨k, off, none⟩) bs.length c, p + 1) := by rfl
    refine tr_wk (s' := mk [(0, .ea 100000 0 0)] [] [(100000, 2, pvRd (.slice (some ⟨k, off, none⟩) bs.length c, p + 1))]) ?_ ?_
    · exact wk_mk ⟨rfl, trivial⟩ trivial ⟨(congrArg (fun x => some (2, x)) hr2), trivial⟩ rfl
    refine tr_seq ?_
    refine tr_regionD mixed rfl (.run [] [] rfl (st_move rfl) (.run [] [] rfl (st_nilcheck_ea rfl rfl) (.run [] [] rfl (st_faddr_ea rfl rfl Try.underlying90 rfl Try.sizeOf22 (by decide)) (.run [] [] rfl (st_load_ea1 rfl rfl rfl rfl Try.isAgg22 rfl) (.run [] [] rfl (st_move rfl) (.run [] [] rfl (st_nilcheck_ea rfl rfl) (.run [] [] rfl (st_faddr_ea rfl rfl Try.underlying90 rfl Try.sizeOf3 (by decide)) (.run [] [] rfl (st_load_ea1 rfl rfl rfl rfl Try.isAgg3 rfl) (.run [] [] rfl (st_subn rfl rfl rfl (by omega)) (.run [] [] rfl (st_idx_v rfl rfl rfl Try.underlying22 Try.sizeOf5 (j := p) (by omega) hlt) (.run [] [] rfl (st_load_v rfl hg rfl hb2 rfl Try.isAgg5) (.run [] [] rfl (st_convn rfl rfl Try.underlying5 Try.underlying3 (by omega)) (.run [] [] rfl (st_assign rfl) .nil))))))))))))) (by kernel_rfl) ?_
    refine tr_ret ?_
    exact ends [_] [] (.cons (.tmp (int_eq (by rw [hni.1]))) .nil) (.cons (.one .v (.v _)) .nil) (by decide) (outs1 (congrArg (fun x => some (2, x)) (by rw [hni.2])) (pvRd_flat _) (by decide))
theorem next_con {γ : Gho} {cv : Value} {bs : List Nat} (hc : CodeAt γ cv bs) (hl : bs.length ≤ 1152921504606846976) (p : Nat) (hp : p ≤ bs.length) : ConG γ Try.prog 78 [.rptr 2 [.v cv, .v (.int .i64 (p:Int))]] [some (pvRd (cv, nextP bs p))] [.one (.v (.int .i64 ((nextV bs p : Nat) : Int)))] := by
  obtain ⟨A, c, rfl, hcc⟩ := hc
  exact next0_con bs A c p hp hl hcc
set_option maxRecDepth 1000000 in
set_option maxHeartbeats 2000000 in
theorem below_con {γ : Gho} {cv : Value} {bs : List Nat} (hc : CodeAt γ cv bs) (hl : bs.length ≤ 1152921504606846976) (p : Nat) (hp : p ≤ bs.length) (n : Nat) (hn : n ≤ 1000000) : ConG γ Try.prog 46 [.rptr 2 [PV.v (cv), PV.v (.int .i64 (p:Int))], .one (PV.v (.int .i64 (n:Int)))] [some (pvRd (cv, belowP bs p n))] [.one (.v (.int .i64 ((belowV bs p n : Nat) : Int)))] := by
  refine con_of_tr Try.func46 rfl rfl rfl rfl ?_
  refine tr_seq ?_
  refine tr_region rfl (.run [] [] rfl (st_assign rfl) .nil) ?_
  refine tr_seq ?_
  refine tr_seq ?_
  refine tr_region rfl (.run [] [] rfl (st_move rfl) (.run [] [] rfl (st_leq rfl rfl rfl) .nil)) ?_
  refine tr_if (t := decide ((n:Int) ≤ 1)) rfl (fun h1 => ?_) (fun h1 => ?_)
  · skip
    replace h1 := of_decide_eq_true h1
    refine tr_seq ?_
    have hb := below_1 (bs := bs) (p := p) (n := n) (by omega)
    refine tr_region rfl (.run [] [] rfl (st_assign rfl) .nil) ?_
    refine tr_ret ?_
    exact ends [_] [] (.cons (.tmp (int_eq (by rw [hb.1]; rfl))) .nil) (.cons (.one .v (.v _)) .nil) (by decide) (outs1 (congrArg (fun x => some (2, x)) (congrArg pvRd (congrArg (Prod.mk cv) (by rw [hb.2])))) (pvRd_flat _) (by decide))
  · skip
    replace h1 := of_decide_eq_false h1
    refine tr_skip ?_
    refine tr_seq ?_
    refine tr_seq ?_
    refine tr_region rfl (.run [] [] rfl (st_move rfl) (.run [] [] rfl (st_leq rfl rfl rfl) .nil)) ?_
    refine tr_if (t := decide ((n:Int) ≤ 256)) rfl (fun h2 => ?_) (fun h2 => ?_)
    · skip
      replace h2 := of_decide_eq_true h2
      refine tr_seq ?_
      have hb := below_2 (bs := bs) (p := p) (n := n) (by omega) (by omega)
      have hv := nextV_lt (code_bytes hc) p
      refine tr_region rfl (.run [] [] rfl (st_move rfl) (.run [100000, 1100] [] rfl (st_callG (.inr rfl) rfl 1100 (X := [100000]) en78 rfl (.val nod) (.cons (.rptr rfl) .nil) (by decide) (all_cons rfl all_nil) (.keep (xs := pvRd (cv, p)) rfl (FlatP.nf (pvRd_flat _)) .nil) (next_con hc hl p hp) rfl rfl (nle rfl)) (.run [] [] rfl (st_move rfl) (.run [] [] rfl (st_rem rfl rfl rfl (by omega)) (.run [] [] rfl (st_assign rfl) .nil))))) ?_
      refine tr_ret ?_
      exact ends [_] [] (.cons (.tmp (int_eq (by rw [hb.1]; rfl))) .nil) (.cons (.one .v (.v _)) .nil) (by decide) (outs1 (congrArg (fun x => some (2, x)) (congrArg pvRd (congrArg (Prod.mk cv) (by rw [hb.2])))) (pvRd_flat _) (by decide))
    · skip
      replace h2 := of_decide_eq_false h2
      refine tr_skip ?_
      refine tr_seq ?_
      have hb := below_3 (bs := bs) (p := p) (n := n) (by omega) (by omega)
      have hv := nextV_lt (code_bytes hc) p
      have hv2 := nextV_lt (code_bytes hc) (nextP bs p)
      refine tr_region rfl (.run [] [] rfl (st_move rfl) (.run [100000, 1500] [] rfl (st_callG (.inr rfl) rfl 1500 (X := [100000]) en78 rfl (.val nod) (.cons (.rptr rfl) .nil) (by decide) (all_cons rfl all_nil) (.keep (xs := pvRd (cv, p)) rfl (FlatP.nf (pvRd_flat _)) .nil) (next_con hc hl p hp) rfl rfl (nle rfl)) (.run [] [] rfl (st_muln rfl rfl rfl (by omega)) (.run [] [] rfl (st_assign rfl) .nil)))) ?_
      refine tr_seq ?_
      refine tr_region rfl (.run [] [] rfl (st_move rfl) (.run [] [] rfl (st_move rfl) (.run [100000, 1900] [] rfl (st_callG (.inr rfl) rfl 1900 (X := [100000]) en78 rfl (.val nod) (.cons (.rptr rfl) .nil) (by decide) (all_cons rfl all_nil) (.keep (xs := pvRd (cv, nextP bs p)) rfl (FlatP.nf (pvRd_flat _)) .nil) (next_con hc hl (nextP bs p) (nextP_le hp)) rfl rfl (nle rfl)) (.run [] [] rfl (st_addn rfl rfl rfl (by omega)) (.run [] [] rfl (st_assign rfl) .nil))))) ?_
      refine tr_seq ?_
      refine tr_wk (s' := mk [(1, .p none (.v (.int .i64 (n:Int)))), (5, .p none (.v (.int .i64 ((((nextV bs p : Nat) : Int) * 256) + ((nextV bs (nextP bs p) : Nat) : Int)))))] [] [(100000, 2, pvRd (cv, nextP bs (nextP bs p)))]) ?_ ?_
      · exact wk_mk ⟨rfl, ⟨rfl, trivial⟩⟩ trivial ⟨rfl, trivial⟩ rfl
      refine tr_region rfl (.run [] [] rfl (st_move rfl) (.run [] [] rfl (st_move rfl) (.run [] [] rfl (st_rem rfl rfl rfl (by omega)) (.run [] [] rfl (st_assign rfl) .nil)))) ?_
      refine tr_ret ?_
      exact ends [_] [] (.cons (.tmp (int_eq (by rw [hb.1]; rfl))) .nil) (.cons (.one .v (.v _)) .nil) (by decide) (outs1 (congrArg (fun x => some (2, x)) (congrArg pvRd (congrArg (Prod.mk cv) (by rw [hb.2])))) (pvRd_flat _) (by decide))
set_option maxRecDepth 1000000 in
set_option maxHeartbeats 2000000 in
theorem once_con {γ : Gho} {cv : Value} {bs : List Nat} (hc : CodeAt γ cv bs) (hl : bs.length ≤ 1152921504606846976) (p : Nat) (hp : p ≤ bs.length) (n : Nat) (hn : 1 ≤ n ∧ n ≤ 1000000) : ConG γ Try.prog 51 [.rptr 2 [PV.v (cv), PV.v (.int .i64 (p:Int))], .one (PV.v (.int .i64 (n:Int)))] [some (pvRd (cv, belowP bs p n))] [.one (.v (.bool (onceV bs p n)))] := by
  refine con_of_tr Try.func51 rfl rfl rfl rfl ?_
  refine tr_seq ?_
  refine tr_region rfl (.run [] [] rfl (st_assign rfl) .nil) ?_
  refine tr_seq ?_
  refine tr_region rfl (.run [] [] rfl (st_move rfl) (.run [] [] rfl (st_move rfl) (.run [100000, 700] [] rfl (st_callG (.inr rfl) rfl 700 (X := [100000]) en46 rfl (.val nod) (.cons (.rptr rfl) (.cons (.one (.bor .v)) .nil)) (by decide) (all_cons rfl all_nil) (.keep (xs := pvRd (cv, p)) rfl (FlatP.nf (pvRd_flat _)) .nil) (below_con hc hl p hp n (by omega)) rfl rfl (nle rfl)) (.run [] [] rfl (st_move rfl) (.run [] [] rfl (st_subn rfl rfl rfl (by omega)) (.run [] [] rfl (st_eql rfl rfl rfl) (.run [] [] rfl (st_assign rfl) .nil))))))) ?_
  refine tr_ret ?_
  exact ends [_] [] (.cons (.tmp (bool_eq (by unfold onceV; rw [Bool.eq_iff_iff]; simp only [decide_eq_true_eq]; omega))) .nil) (.cons (.one .v (.v _)) .nil) (by decide) (outs1 (congrArg (fun x => some (2, x)) (congrArg pvRd (congrArg (Prod.mk cv) rfl))) (pvRd_flat _) (by decide))
set_option maxRecDepth 1000000 in
set_option maxHeartbeats 2000000 in
theorem word_con {γ : Gho} {cv : Value} {bs : List Nat} (hc : CodeAt γ cv bs) (hl : bs.length ≤ 1152921504606846976) (p : Nat) (hp : p ≤ bs.length)  : ConG γ Try.prog 92 [.rptr 2 [PV.v (cv), PV.v (.int .i64 (p:Int))]] [some (pvRd (cv, wordP bs p))] [.one (.v (.int .u64 (wordV bs p)))] := by
  refine con_of_tr Try.func92 rfl rfl rfl rfl ?_
  refine tr_seq ?_
  refine tr_region rfl (.run [] [] rfl (st_assign rfl) .nil) ?_
  refine tr_seq ?_
  refine tr_region rfl (.run [] [] rfl (st_assign rfl) .nil) ?_
  refine tr_seq ?_
  refine tr_seq ?_
  refine tr_region rfl (.run [] [] rfl (st_assign rfl) .nil) ?_
  refine tr_block ?_
  refine tr_loopS (σ := Nat × Int × Nat) (fun (i, x, q) => mk [(0, .ea 100000 0 0), (3, .p none (.v (.int .u64 x))), (4, .p none (.v (.int .i64 (i:Int))))] [] [(100000, 2, pvRd (cv, q))]) (fun (i, x, q) => i ≤ 8 ∧ q ≤ bs.length ∧ wordF bs (8 - i) x q = wordF bs 8 0 p) (fun (i, x, q) => 8 - i) (0, 0, p) ⟨Nat.zero_le _, hp, rfl⟩ (wk_mk ⟨rfl, ⟨rfl, ⟨(int_eq (by omega)), trivial⟩⟩⟩ trivial ⟨rfl, trivial⟩ rfl) ?_
  rintro ⟨i, x, q⟩ hG
  replace hG : i ≤ 8 ∧ q ≤ bs.length ∧ wordF bs (8 - i) x q = wordF bs 8 0 p := hG
  obtain ⟨hi, hp, hw⟩ := hG
  refine tr_seq ?_
  refine tr_seq ?_
  refine tr_region rfl (.run [] [] rfl (st_move rfl) (.run [] [] rfl (st_lss rfl rfl rfl) .nil)) ?_
  refine tr_if (t := decide ((i:Int) < 8)) rfl (fun h1 => ?_) (fun h1 => ?_)
  · skip
    replace h1 := of_decide_eq_true h1
    refine tr_skip ?_
    refine tr_seq ?_
    refine tr_block ?_
    refine tr_region rfl (.run [] [] rfl (st_move rfl) (.run [] [] rfl (st_shl rfl rfl rfl (by omega)) (.run [] [] rfl (st_move rfl) (.run [100000, 1200] [] rfl (st_callG (.inr rfl) rfl 1200 (X := [100000]) en78 rfl (.val nod) (.cons (.rptr rfl) .nil) (by decide) (all_cons rfl all_nil) (.keep (xs := pvRd (cv, q)) rfl (FlatP.nf (pvRd_flat _)) .nil) (next_con hc hl q hp) rfl rfl (nle rfl)) (.run [] [] rfl (st_conv rfl rfl Try.underlying3 Try.underlying114) (.run [] [] rfl (st_bits rfl (.inr (.inl rfl)) rfl rfl) (.run [] [] rfl (st_assign rfl) .nil))))))) ?_
    refine tr_region rfl (.run [] [] rfl (st_move rfl) (.run [] [] rfl (st_addn rfl rfl rfl (by omega)) (.run [] [] rfl (st_assign rfl) .nil))) ?_
-- round row 100000: pvRd (cv, (nextP bs q)) now pvRd (cv, nextP bs q)
    refine nxt (Q := fun _ _ => False) (z := (i, x, q)) (i + 1, wordStep x (nextV bs q), nextP bs q) ?_ ?_ ?_
    · show (i + 1) ≤ 8 ∧ (nextP bs q) ≤ bs.length ∧ wordF bs (8 - (i + 1)) (wordStep x (nextV bs q)) (nextP bs q) = wordF bs 8 0 p
      exact ⟨by omega, nextP_le hp, by rw [← hw, show 8 - i = (8 - (i + 1)) + 1 by omega]; rfl⟩
    · show 8 - (i + 1) < 8 - i
      omega
    · exact wk_mk ⟨rfl, ⟨(int_eq (by rfl)), ⟨(int_eq (by omega)), trivial⟩⟩⟩ trivial ⟨rfl, trivial⟩ rfl
  · skip
    replace h1 := of_decide_eq_false h1
    refine tr_exit ?_
    refine tr_seq ?_
    refine tr_region rfl (.run [] [] rfl (st_move rfl) (.run [] [] rfl (st_assign rfl) .nil)) ?_
    refine tr_ret ?_
    exact ends [_] [] (.cons (.tmp (int_eq (by rw [show i = 8 by omega] at hw; exact congrArg Prod.fst hw))) .nil) (.cons (.one .v (.v _)) .nil) (by decide) (outs1 (congrArg (fun x => some (2, x)) (congrArg pvRd (congrArg (Prod.mk cv) (by rw [show i = 8 by omega] at hw; exact congrArg Prod.snd hw)))) (pvRd_flat _) (by decide))
set_option maxRecDepth 1000000 in
set_option maxHeartbeats 2000000 in
theorem near_con {γ : Gho} {cv : Value} {bs : List Nat} (hc : CodeAt γ cv bs) (hl : bs.length ≤ 1152921504606846976) (p : Nat) (hp : p ≤ bs.length) (low high : Int) (hlo : -1000000000000000 ≤ low) (hhi : high ≤ 1000000000000000) : ConG γ Try.prog 79 [.rptr 2 [PV.v (cv), PV.v (.int .i64 (p:Int))], .one (PV.v (.int .i64 low)), .one (PV.v (.int .i64 high))] [some (pvRd (cv, nearP bs p low high))] [.one (.v (.int .i64 (nearV bs p low high)))] := by
  refine con_of_tr Try.func79 rfl rfl rfl rfl ?_
  refine tr_seq ?_
  refine tr_region rfl (.run [] [] rfl (st_assign rfl) .nil) ?_
  refine tr_seq ?_
  refine tr_seq ?_
  refine tr_region rfl (.run [] [] rfl (st_move rfl) (.run [100000, 800] [] rfl (st_callG (.inr rfl) rfl 800 (X := [100000]) en46 rfl (.val nod) (.cons (.rptr rfl) (.cons (.one (.bor .v)) .nil)) (by decide) (all_cons rfl all_nil) (.keep (xs := pvRd (cv, p)) rfl (FlatP.nf (pvRd_flat _)) .nil) (below_con hc hl p hp 8 (by omega)) rfl rfl (nle rfl)) .nil)) ?_
  refine tr_block ?_
  refine tr_seq ?_
  refine tr_region rfl (.run [] [] rfl (st_eql rfl rfl rfl) (.run [] [] rfl (st_assign rfl) .nil)) ?_
  refine tr_if (t := decide (((belowV bs p 8 : Nat) : Int) = 0)) rfl (fun h1 => ?_) (fun h1 => ?_)
  · skip
    replace h1 := of_decide_eq_true h1
    refine tr_seq ?_
    have hn := near_a (bs := bs) (p := p) (low := low) (high := high) (by omega)
    refine tr_region rfl (.run [] [] rfl (st_move rfl) (.run [] [] rfl (st_assign rfl) .nil)) ?_
    refine tr_ret ?_
    exact ends [_] [] (.cons (.tmp (int_eq hn.1.symm)) .nil) (.cons (.one .v (.v _)) .nil) (by decide) (outs1 (congrArg (fun x => some (2, x)) (congrArg pvRd (congrArg (Prod.mk cv) hn.2.symm))) (pvRd_flat _) (by decide))
  · skip
    replace h1 := of_decide_eq_false h1
    refine tr_seq ?_
    refine tr_region rfl (.run [] [] rfl (st_eql rfl rfl rfl) (.run [] [] rfl (st_assign rfl) .nil)) ?_
    refine tr_if (t := decide (((belowV bs p 8 : Nat) : Int) = 1)) rfl (fun h2 => ?_) (fun h2 => ?_)
    · skip
      replace h2 := of_decide_eq_true h2
      refine tr_seq ?_
      have hn := near_b (bs := bs) (p := p) (low := low) (high := high) (by omega)
      refine tr_region rfl (.run [] [] rfl (st_move rfl) (.run [] [] rfl (st_assign rfl) .nil)) ?_
      refine tr_ret ?_
      exact ends [_] [] (.cons (.tmp (int_eq hn.1.symm)) .nil) (.cons (.one .v (.v _)) .nil) (by decide) (outs1 (congrArg (fun x => some (2, x)) (congrArg pvRd (congrArg (Prod.mk cv) hn.2.symm))) (pvRd_flat _) (by decide))
    · skip
      replace h2 := of_decide_eq_false h2
      refine tr_skip ?_
      refine tr_seq ?_
      refine tr_seq ?_
      refine tr_region rfl (.run [] [] rfl (st_move rfl) (.run [] [] rfl (st_move rfl) (.run [] [] rfl (st_lss rfl rfl rfl) .nil))) ?_
      refine tr_if (t := decide (high < low)) rfl (fun h3 => ?_) (fun h3 => ?_)
      · skip
        replace h3 := of_decide_eq_true h3
        refine tr_seq ?_
        have hn := near_c (bs := bs) (p := p) (low := low) (high := high) (by omega) (by omega) (by omega)
        refine tr_region rfl (.run [] [] rfl (st_move rfl) (.run [] [] rfl (st_assign rfl) .nil)) ?_
        refine tr_ret ?_
        exact ends [_] [] (.cons (.tmp (int_eq hn.1.symm)) .nil) (.cons (.one .v (.v _)) .nil) (by decide) (outs1 (congrArg (fun x => some (2, x)) (congrArg pvRd (congrArg (Prod.mk cv) hn.2.symm))) (pvRd_flat _) (by decide))
      · skip
        replace h3 := of_decide_eq_false h3
        refine tr_skip ?_
        refine tr_seq ?_
        have hwr : IntKind.u64.wrap (high - low + 1) = high - low + 1 := by rw [IntKind.wrap_u64]; omega
        have hn := near_d (bs := bs) (p := p) (low := low) (high := high) (by omega) (by omega) (by omega)
        refine tr_wk (s' := mk [(0, .ea 100000 0 0), (1, .p none (.v (.int .i64 low))), (2, .p none (.v (.int .i64 high)))] [] [(100000, 2, pvRd (cv, belowP bs p 8))]) ?_ ?_
        · exact wk_mk ⟨rfl, ⟨rfl, ⟨rfl, trivial⟩⟩⟩ trivial ⟨rfl, trivial⟩ rfl
        refine tr_region rfl (.run [] [] rfl (st_move rfl) (.run [] [] rfl (st_move rfl) (.run [100000, 2100] [] rfl (st_callG (.inr rfl) rfl 2100 (X := [100000]) en92 rfl (.val nod) (.cons (.rptr rfl) .nil) (by decide) (all_cons rfl all_nil) (.keep (xs := pvRd (cv, belowP bs p 8)) rfl (FlatP.nf (pvRd_flat _)) .nil) (word_con hc hl (belowP bs p 8) (belowP_le hp)) rfl rfl (nle rfl)) (.run [] [] rfl (st_shr rfl rfl rfl (by omega)) (.run [] [] rfl (st_move rfl) (.run [] [] rfl (st_move rfl) (.run [] [] rfl (st_subn rfl rfl rfl (by omega)) (.run [] [] rfl (st_addn rfl rfl rfl (by omega)) (.run [] [] rfl (st_conv rfl rfl Try.underlying2 Try.underlying114) (.run [] [] rfl (st_rem rfl rfl rfl (by omega)) (.run [] [] rfl (st_conv rfl rfl Try.underlying114 Try.underlying2) (.run [] [] rfl (st_add rfl rfl rfl) (.run [] [] rfl (st_assign rfl) .nil))))))))))))) ?_
        refine tr_ret ?_
        exact ends [_] [] (.cons (.tmp (int_eq hn.1.symm)) .nil) (.cons (.one .v (.v _)) .nil) (by decide) (outs1 (congrArg (fun x => some (2, x)) (congrArg pvRd (congrArg (Prod.mk cv) hn.2.symm))) (pvRd_flat _) (by decide))
set_option maxRecDepth 1000000 in
set_option maxHeartbeats 2000000 in
theorem off_con {γ : Gho} {cv : Value} {bs : List Nat} (hc : CodeAt γ cv bs) (hl : bs.length ≤ 1152921504606846976) (p : Nat) (hp : p ≤ bs.length) (low high : Int) (hlo : -1000000000000000 ≤ low ∧ low ≤ 1000000000000000) (hhi : -1000000000000000 ≤ high ∧ high ≤ 1000000000000000) : ConG γ Try.prog 47 [.rptr 2 [PV.v (cv), PV.v (.int .i64 (p:Int))], .one (PV.v (.int .i64 low)), .one (PV.v (.int .i64 high))] [some (pvRd (cv, offP bs p low high))] [.one (.v (.int .i64 (offV bs p low high)))] := by
  refine con_of_tr Try.func47 rfl rfl rfl rfl ?_
  refine tr_seq ?_
  refine tr_region rfl (.run [] [] rfl (st_assign rfl) .nil) ?_
  refine tr_seq ?_
  refine tr_seq ?_
  refine tr_region rfl (.run [] [] rfl (st_move rfl) (.run [100000, 800] [] rfl (st_callG (.inr rfl) rfl 800 (X := [100000]) en51 rfl (.val nod) (.cons (.rptr rfl) (.cons (.one (.bor .v)) .nil)) (by decide) (all_cons rfl all_nil) (.keep (xs := pvRd (cv, p)) rfl (FlatP.nf (pvRd_flat _)) .nil) (once_con hc hl p hp 24 (by omega)) rfl rfl (nle rfl)) .nil)) ?_
  refine tr_if (t := onceV bs p 24) rfl (fun h1 => ?_) (fun h1 => ?_)
  · skip
    refine tr_seq ?_
    refine tr_region rfl (.run [] [] rfl (st_move rfl) (.run [] [] rfl (st_subn rfl rfl rfl (by omega)) (.run [] [] rfl (st_move rfl) (.run [] [] rfl (st_addn rfl rfl rfl (by omega)) (.run [1300] [] rfl (st_buildSlice rfl 1300 Try.underlying30 inf2 (nle rfl) (by decide) rfl rfl rfl (.cons .v (.cons .v (.cons .v (.cons .v .nil)))) (by decide) rfl (by decide) rfl (by decide) rfl) (.run [] [] rfl (st_move rfl) (.run [100000, 1500] [] rfl (st_callG (.inr rfl) rfl 1500 (X := [100000]) en46 rfl (.val nod) (.cons (.rptr rfl) (.cons (.one (.bor .v)) .nil)) (by decide) (all_cons rfl all_nil) (.keep (xs := pvRd (cv, belowP bs p 24)) rfl (FlatP.nf (pvRd_flat _)) .nil) (below_con hc hl (belowP bs p 24) (belowP_le hp) 4 (by omega)) rfl rfl (nle rfl)) (.run [] [] rfl (st_idx_row0 (belowV bs (belowP bs p 24) 4) rfl rfl rfl rfl Try.underlying30 Try.sizeOf2 rfl rfl (belowV_lt (by decide))) (.run [] [] rfl (st_load_ea1 rfl rfl rfl (pvI_get (off_get bs (belowP bs p 24) low high)) Try.isAgg2 rfl) (.run [] [] rfl (st_assign rfl) .nil)))))))))) ?_
    refine tr_ret ?_
    exact ends [_] [] (.cons (.tmp (int_eq (by rw [offV, if_pos h1]))) .nil) (.cons (.one .v (.v _)) .nil) (by decide) (outs1 (congrArg (fun x => some (2, x)) (congrArg pvRd (congrArg (Prod.mk cv) (by rw [offP, if_pos h1])))) (pvRd_flat _) (by decide))
  · skip
    refine tr_skip ?_
    refine tr_seq ?_
    refine tr_region rfl (.run [] [] rfl (st_move rfl) (.run [] [] rfl (st_move rfl) (.run [] [] rfl (st_move rfl) (.run [100000, 2100] [] rfl (st_callG (.inr rfl) rfl 2100 (X := [100000]) en79 rfl (.val nod) (.cons (.rptr rfl) (.cons (.one (.bor .v)) (.cons (.one (.bor .v)) .nil))) (by decide) (all_cons rfl all_nil) (.keep (xs := pvRd (cv, belowP bs p 24)) rfl (FlatP.nf (pvRd_flat _)) .nil) (near_con hc hl (belowP bs p 24) (belowP_le hp) low high (by omega) (by omega)) rfl rfl (nle rfl)) (.run [] [] rfl (st_assign rfl) .nil))))) ?_
    refine tr_ret ?_
    exact ends [_] [] (.cons (.tmp (int_eq (by rw [offV, if_neg (by simp [h1])]))) .nil) (.cons (.one .v (.v _)) .nil) (by decide) (outs1 (congrArg (fun x => some (2, x)) (congrArg pvRd (congrArg (Prod.mk cv) (by rw [offP, if_neg (by simp [h1])])))) (pvRd_flat _) (by decide))
set_option maxRecDepth 1000000 in
set_option maxHeartbeats 2000000 in
theorem size0_con {γ : Gho} (bs : List Nat) (A : Option Addr) (c : Nat) (hc : CodeAt γ (.slice A bs.length c) bs) (hl : bs.length ≤ 1152921504606846976) (p : Nat) (hp : p ≤ bs.length) (per most : Nat) (hper : 1 ≤ per ∧ per ≤ 1000000) (hmo : 1 ≤ most ∧ most ≤ 1000000) : ConG γ Try.prog 66 [.rptr 2 [PV.v (.slice A bs.length c), PV.v (.int .i64 (p:Int))], .one (PV.v (.int .i64 (per:Int))), .one (PV.v (.int .i64 (most:Int)))] [some (pvRd (.slice A bs.length c, sizeP bs p per most))] [.one (.v (.int .i64 ((sizeV bs p per most : Nat) : Int)))] := by
  refine con_of_tr Try.func66 rfl rfl rfl rfl ?_
  refine tr_seq ?_
  refine tr_region rfl (.run [] [] rfl (st_assign rfl) .nil) ?_
  refine tr_seq ?_
  refine tr_region rfl (.run [] [] rfl (st_move rfl) (.run [] [] rfl (st_nilcheck_ea rfl rfl) (.run [] [] rfl (st_faddr_ea rfl rfl Try.underlying90 rfl Try.sizeOf22 (by decide)) (.run [] [] rfl (st_load_ea1 rfl rfl rfl rfl Try.isAgg22 rfl) (.run [] [] rfl (st_len_v rfl rfl Try.underlying22) (.run [] [] rfl (st_move rfl) (.run [] [] rfl (st_eq (st_quo rfl rfl rfl (by omega)) ((int_eq (quo_nat2 bs.length per (by omega))))) (.run [] [] rfl (st_addn rfl rfl rfl (by have h1 := Nat.div_le_self bs.length per; generalize bs.length / per = m at h1 ⊢; omega)) (.run [] [] rfl (st_assign rfl) .nil))))))))) ?_
  refine tr_seq ?_
  refine tr_seq ?_
  refine tr_region rfl (.run [] [] rfl (st_move rfl) (.run [] [] rfl (st_move rfl) (.run [] [] rfl (st_gtr rfl rfl rfl) .nil))) ?_
  refine tr_if (t := decide ((most:Int) < (1 + ((bs.length / per : Nat) : Int)))) rfl (fun h1 => ?_) (fun h1 => ?_)
  · skip
    replace h1 := of_decide_eq_true h1
    refine tr_region rfl (.run [] [] rfl (st_move rfl) (.run [] [] rfl (st_assign rfl) .nil)) ?_
    refine tr_seq ?_
    obtain ⟨z, hz⟩ : ∃ z, z = sizeM bs per most := ⟨_, rfl⟩
    have hzm := sizeM_le bs per most
    have hdv := Nat.div_le_self bs.length per
    have hsz : sizeM bs per most = most := if_pos (by omega)
    rw [← hz] at hsz hzm
    refine tr_wk (s' := mk [(0, .ea 100000 0 0), (7, .p none (.v (.int .i64 (z:Int))))] [] [(100000, 2, pvRd (.slice A bs.length c, p))]) ?_ ?_
    · exact wk_mk ⟨rfl, ⟨(int_eq (by rw [hsz])), trivial⟩⟩ trivial ⟨rfl, trivial⟩ rfl
    refine tr_region rfl (.run [] [] rfl (st_move rfl) (.run [] [] rfl (st_move rfl) (.run [100000, 2200] [] rfl (st_callG (.inr rfl) rfl 2200 (X := [100000]) en46 rfl (.val nod) (.cons (.rptr rfl) (.cons (.one (.bor .v)) .nil)) (by decide) (all_cons rfl all_nil) (.keep (xs := pvRd (.slice A bs.length c, p)) rfl (FlatP.nf (pvRd_flat _)) .nil) (below_con hc hl p hp z (by omega)) rfl rfl (nle rfl)) (.run [] [] rfl (st_addn rfl rfl rfl (by have hb := belowV_lt (bs := bs) (p := p) (n := z) (by rw [hz]; exact sizeM_pos bs (by omega)); omega)) (.run [] [] rfl (st_assign rfl) .nil))))) ?_
    refine tr_ret ?_
    exact ends [_] [] (.cons (.tmp (int_eq (by rw [sizeV, ← hz]; omega))) .nil) (.cons (.one .v (.v _)) .nil) (by decide) (outs1 (congrArg (fun x => some (2, x)) (by rw [sizeP, ← hz])) (pvRd_flat _) (by decide))
  · skip
    replace h1 := of_decide_eq_false h1
    refine tr_skip ?_
    refine tr_seq ?_
    obtain ⟨z, hz⟩ : ∃ z, z = sizeM bs per most := ⟨_, rfl⟩
    have hzm := sizeM_le bs per most
    have hdv := Nat.div_le_self bs.length per
    have hsz : sizeM bs per most = 1 + bs.length / per := if_neg (by omega)
    rw [← hz] at hsz hzm
    refine tr_wk (s' := mk [(0, .ea 100000 0 0), (7, .p none (.v (.int .i64 (z:Int))))] [] [(100000, 2, pvRd (.slice A bs.length c, p))]) ?_ ?_
    · exact wk_mk ⟨rfl, ⟨(int_eq (by rw [hsz]; omega)), trivial⟩⟩ trivial ⟨rfl, trivial⟩ rfl
    refine tr_region rfl (.run [] [] rfl (st_move rfl) (.run [] [] rfl (st_move rfl) (.run [100000, 2200] [] rfl (st_callG (.inr rfl) rfl 2200 (X := [100000]) en46 rfl (.val nod) (.cons (.rptr rfl) (.cons (.one (.bor .v)) .nil)) (by decide) (all_cons rfl all_nil) (.keep (xs := pvRd (.slice A bs.length c, p)) rfl (FlatP.nf (pvRd_flat _)) .nil) (below_con hc hl p hp z (by omega)) rfl rfl (nle rfl)) (.run [] [] rfl (st_addn rfl rfl rfl (by have hb := belowV_lt (bs := bs) (p := p) (n := z) (by rw [hz]; exact sizeM_pos bs (by omega)); omega)) (.run [] [] rfl (st_assign rfl) .nil))))) ?_
    refine tr_ret ?_
    exact ends [_] [] (.cons (.tmp (int_eq (by rw [sizeV, ← hz]; omega))) .nil) (.cons (.one .v (.v _)) .nil) (by decide) (outs1 (congrArg (fun x => some (2, x)) (by rw [sizeP, ← hz])) (pvRd_flat _) (by decide))
theorem size_con {γ : Gho} {cv : Value} {bs : List Nat} (hc : CodeAt γ cv bs) (hl : bs.length ≤ 1152921504606846976) (p : Nat) (hp : p ≤ bs.length) (per most : Nat) (hper : 1 ≤ per ∧ per ≤ 1000000) (hmo : 1 ≤ most ∧ most ≤ 1000000) : ConG γ Try.prog 66 [.rptr 2 [.v cv, .v (.int .i64 (p:Int))], .one (.v (.int .i64 (per:Int))), .one (.v (.int .i64 (most:Int)))] [some (pvRd (cv, sizeP bs p per most))] [.one (.v (.int .i64 ((sizeV bs p per most : Nat) : Int)))] := by
  obtain ⟨A, c, rfl, hcc⟩ := id hc
  exact size0_con bs A c hc hl p hp per most hper hmo
set_option maxRecDepth 1000000 in
set_option maxHeartbeats 2000000 in
theorem text_con {γ : Gho} {cv : Value} {bs : List Nat} (hc : CodeAt γ cv bs) (hl : bs.length ≤ 1152921504606846976) (p : Nat) (hp : p ≤ bs.length)  : ConG γ Try.prog 52 [.rptr 2 [PV.v (cv), PV.v (.int .i64 (p:Int))]] [some (pvRd (cv, textP bs p))] [.one (.v (.string (textV bs p)))] := by
  refine con_of_tr Try.func52 rfl rfl rfl rfl ?_
  refine tr_seq ?_
  refine tr_region rfl (.run [] [] rfl (st_assign rfl) .nil) ?_
  refine tr_seq ?_
  refine tr_region rfl (.run [300] [] rfl (st_buildSlice (cs := [.p none (.v (.string ⟨#[]⟩)), .p none (.v (.string ⟨#[97]⟩)), .p none (.v (.string ⟨#[98]⟩)), .p none (.v (.string ⟨#[97, 98]⟩)), .p none (.v (.string ⟨#[97, 98, 99]⟩)), .p none (.v (.string ⟨#[97, 98, 100]⟩)), .p none (.v (.string ⟨#[107, 101, 121]⟩)), .p none (.v (.string ⟨#[107, 101, 121, 49]⟩)), .p none (.v (.string ⟨#[107, 101, 121, 50]⟩)), .p none (.v (.string ⟨#[122, 122]⟩)), .p none (.v (.string ⟨#[0]⟩)), .p none (.v (.string ⟨#[97, 0]⟩))]) (ps := [PV.v (.string ⟨#[]⟩), PV.v (.string ⟨#[97]⟩), PV.v (.string ⟨#[98]⟩), PV.v (.string ⟨#[97, 98]⟩), PV.v (.string ⟨#[97, 98, 99]⟩), PV.v (.string ⟨#[97, 98, 100]⟩), PV.v (.string ⟨#[107, 101, 121]⟩), PV.v (.string ⟨#[107, 101, 121, 49]⟩), PV.v (.string ⟨#[107, 101, 121, 50]⟩), PV.v (.string ⟨#[122, 122]⟩), PV.v (.string ⟨#[0]⟩), PV.v (.string ⟨#[97, 0]⟩)]) (xs := [[PV.v (.string ⟨#[]⟩)], [PV.v (.string ⟨#[97]⟩)], [PV.v (.string ⟨#[98]⟩)], [PV.v (.string ⟨#[97, 98]⟩)], [PV.v (.string ⟨#[97, 98, 99]⟩)], [PV.v (.string ⟨#[97, 98, 100]⟩)], [PV.v (.string ⟨#[107, 101, 121]⟩)], [PV.v (.string ⟨#[107, 101, 121, 49]⟩)], [PV.v (.string ⟨#[107, 101, 121, 50]⟩)], [PV.v (.string ⟨#[122, 122]⟩)], [PV.v (.string ⟨#[0]⟩)], [PV.v (.string ⟨#[97, 0]⟩)]]) rfl 300 Try.underlying77 inf9 (nle rfl) (by decide) rfl rfl (by kernel_rfl) (.cons .v (.cons .v (.cons .v (.cons .v (.cons .v (.cons .v (.cons .v (.cons .v (.cons .v (.cons .v (.cons .v (.cons .v .nil)))))))))))) (by decide) (by kernel_rfl) (by decide) rfl (by decide) rfl) (.run [] [] rfl (st_move rfl) (.run [100000, 500] [] rfl (st_callG (.inr rfl) rfl 500 (X := [100000]) en46 rfl (.val nod) (.cons (.rptr rfl) (.cons (.one (.bor .v)) .nil)) (by decide) (all_cons rfl all_nil) (.keep (xs := pvRd (cv, p)) rfl (FlatP.nf (pvRd_flat _)) .nil) (below_con hc hl p hp 12 (by omega)) rfl rfl (nle rfl)) (.run [] [] rfl (st_idx_row0 (belowV bs p 12) rfl rfl rfl rfl Try.underlying77 Try.sizeOf9 rfl rfl (belowV_lt (by decide))) (.run [] [] rfl (st_load_ea1 rfl rfl rfl (pvT_get (text_get bs p)) Try.isAgg9 rfl) (.run [] [] rfl (st_assign rfl) .nil)))))) ?_
  refine tr_ret ?_
  exact ends [_] [] (.cons (.tmp rfl) .nil) (.cons (.one .v (.v _)) .nil) (by decide) (outs1 (congrArg (fun x => some (2, x)) (congrArg pvRd (congrArg (Prod.mk cv) rfl))) (pvRd_flat _) (by decide))
set_option maxRecDepth 1000000 in
set_option maxHeartbeats 2000000 in
theorem dop_con {γ : Gho} {cv : Value} {bs : List Nat} (hc : CodeAt γ cv bs) (hl : bs.length ≤ 1152921504606846976) (p : Nat) (hp : p ≤ bs.length)  : ConG γ Try.prog 45 [.rptr 2 [PV.v (cv), PV.v (.int .i64 (p:Int))]] [some (pvRd (cv, dopP bs p))] [.agg [.v (.int .i64 (dopV bs p).kind), .v (.string (dopV bs p).name), .v (.string (dopV bs p).dest), .v (.string (dopV bs p).data)]] := by
  refine con_of_tr Try.func45 rfl rfl rfl rfl ?_
  refine tr_seq ?_
  refine tr_region rfl (.run [] [2] rfl (st_allocZ rfl 2 inf36 rfl (by decide) rfl (by decide)) .nil) ?_
  refine tr_seq ?_
  refine tr_region rfl (.run [400] [] rfl (st_buildSlice rfl 400 Try.underlying77 inf9 (nle rfl) (by decide) rfl rfl rfl (.cons .v (.cons .v (.cons .v (.cons .v .nil)))) (by decide) rfl (by decide) rfl (by decide) rfl) (.run [] [] rfl (st_move rfl) (.run [100000, 600] [] rfl (st_callG (.inr rfl) rfl 600 (X := [100000]) en46 rfl (.val nod) (.cons (.rptr rfl) (.cons (.one (.bor .v)) .nil)) (by decide) (all_cons rfl all_nil) (.keep (xs := pvRd (cv, p)) rfl (FlatP.nf (pvRd_flat _)) .nil) (below_con hc hl p hp 4 (by omega)) rfl rfl (nle rfl)) (.run [] [] rfl (st_idx_row0 (belowV bs p 4) rfl rfl rfl rfl Try.underlying77 Try.sizeOf9 rfl rfl (belowV_lt (by decide))) (.run [] [] rfl (st_load_ea1 rfl rfl rfl (pvT_get (name_get bs p)) Try.isAgg9 rfl) (.run [] [] rfl (st_assign rfl) .nil)))))) ?_
  refine tr_seq ?_
  refine tr_seq ?_
  refine tr_region rfl (.run [] [] rfl (st_move rfl) (.run [100000, 1000] [] rfl (st_callG (.inr rfl) rfl 1000 (X := [100000]) en46 rfl (.val nod) (.cons (.rptr rfl) (.cons (.one (.bor .v)) .nil)) (by decide) (all_cons rfl all_nil) (.keep (xs := pvRd (cv, belowP bs p 4)) rfl (FlatP.nf (pvRd_flat _)) .nil) (below_con hc hl (belowP bs p 4) (belowP_le hp) 5 (by omega)) rfl rfl (nle rfl)) .nil)) ?_
  refine tr_block ?_
  refine tr_seq ?_
  refine tr_region rfl (.run [] [] rfl (st_eql rfl rfl rfl) (.run [] [] rfl (st_assign rfl) .nil)) ?_
  refine tr_if (t := decide (((belowV bs (belowP bs p 4) 5 : Nat) : Int) = 0)) rfl (fun h1 => ?_) (fun h1 => ?_)
  · skip
    replace h1 := of_decide_eq_true h1
    refine tr_seq ?_
    have hd := dop_0 (bs := bs) (p := p) (by omega)
    rw [hd.1, hd.2]
    refine tr_wk (s' := mk [(0, .ea 100000 0 0), (2, .ptr 2 0), (3, .p none (.v (.string (opName bs p))))] [(2, [.p none (.v (.int .i64 0)), .p none (.v (.string ⟨#[]⟩)), .p none (.v (.string ⟨#[]⟩)), .p none (.v (.string ⟨#[]⟩))])] [(100000, 2, pvRd (cv, belowP bs (belowP bs p 4) 5))]) ?_ ?_
    · exact wk_mk ⟨rfl, ⟨rfl, ⟨rfl, trivial⟩⟩⟩ ⟨rfl, trivial⟩ ⟨rfl, trivial⟩ rfl
    refine tr_region rfl (.run [] [] rfl (st_move rfl) (.run [1400] [] rfl (st_buildSlice rfl 1400 Try.underlying77 inf9 (nle rfl) (by decide) rfl rfl rfl (.cons .v (.cons .v (.cons .v .nil))) (by decide) rfl (by decide) rfl (by decide) rfl) (.run [] [] rfl (st_move rfl) (.run [100000, 1600] [] rfl (st_callG (.inr rfl) rfl 1600 (X := [100000]) en46 rfl (.val nod) (.cons (.rptr rfl) (.cons (.one (.bor .v)) .nil)) (by decide) (all_cons rfl all_nil) (.keep (xs := pvRd (cv, belowP bs (belowP bs p 4) 5)) rfl (FlatP.nf (pvRd_flat _)) .nil) (below_con hc hl (belowP bs (belowP bs p 4) 5) (belowP_le (belowP_le hp)) 3 (by omega)) rfl rfl (nle rfl)) (.run [] [] rfl (st_idx_row0 (belowV bs (belowP bs (belowP bs p 4) 5) 3) rfl rfl rfl rfl Try.underlying77 Try.sizeOf9 rfl rfl (belowV_lt (by decide))) (.run [] [] rfl (st_load_ea1 rfl rfl rfl (pvT_get (dest_get bs _)) Try.isAgg9 rfl) (.run [] [] rfl (st_build (pl := [(0, 1), (1, 1), (2, 1), (3, 1)]) rfl Try.underlying36 inf36 (by kernel_rfl) rfl rfl) (.run [] [] rfl (st_store_box rfl rfl rfl rfl rfl Try.sizeOf36 rfl (nle rfl)) .nil)))))))) ?_
    refine tr_ret ?_
    exact ends [_] [] (.cons (.cell rfl rfl Try.isAgg36 Try.sizeOf36 (nle rfl)) .nil) (.cons (.agg (.cons .v (.cons .v (.cons .v (.cons .v .nil)))) (cl_cons (.v _) (cl_cons (.v _) (cl_cons (.v _) (cl_cons (.v _) cl_nil))))) .nil) (by decide) (outs1 (congrArg (fun x => some (2, x)) (congrArg pvRd (congrArg (Prod.mk cv) rfl))) (pvRd_flat _) (by decide))
  · skip
    replace h1 := of_decide_eq_false h1
    refine tr_seq ?_
    refine tr_region rfl (.run [] [] rfl (st_eql rfl rfl rfl) (.run [] [] rfl (st_assign rfl) .nil)) ?_
    refine tr_if (t := decide (((belowV bs (belowP bs p 4) 5 : Nat) : Int) = 1)) rfl (fun h2 => ?_) (fun h2 => ?_)
    · skip
      replace h2 := of_decide_eq_true h2
      refine tr_seq ?_
      have hd := dop_1 (bs := bs) (p := p) (by omega)
      rw [hd.1, hd.2]
      refine tr_region rfl (.run [] [] rfl (st_move rfl) (.run [] [] rfl (st_build (pl := [(0, 1), (1, 1), (2, 1), (3, 1)]) rfl Try.underlying36 inf36 (by kernel_rfl) rfl rfl) (.run [] [] rfl (st_store_box rfl rfl rfl rfl rfl Try.sizeOf36 rfl (nle rfl)) .nil))) ?_
      refine tr_ret ?_
      exact ends [_] [] (.cons (.cell rfl rfl Try.isAgg36 Try.sizeOf36 (nle rfl)) .nil) (.cons (.agg (.cons .v (.cons .v (.cons .v (.cons .v .nil)))) (cl_cons (.v _) (cl_cons (.v _) (cl_cons (.v _) (cl_cons (.v _) cl_nil))))) .nil) (by decide) (outs1 (congrArg (fun x => some (2, x)) (congrArg pvRd (congrArg (Prod.mk cv) rfl))) (pvRd_flat _) (by decide))
    · skip
      replace h2 := of_decide_eq_false h2
      refine tr_skip ?_
      refine tr_seq ?_
      have hd := dop_2 (bs := bs) (p := p) (by omega) (by omega)
      rw [hd.1, hd.2]
      refine tr_wk (s' := mk [(0, .ea 100000 0 0), (2, .ptr 2 0), (3, .p none (.v (.string (opName bs p))))] [(2, [.p none (.v (.int .i64 0)), .p none (.v (.string ⟨#[]⟩)), .p none (.v (.string ⟨#[]⟩)), .p none (.v (.string ⟨#[]⟩))])] [(100000, 2, pvRd (cv, belowP bs (belowP bs p 4) 5))]) ?_ ?_
      · exact wk_mk ⟨rfl, ⟨rfl, ⟨rfl, trivial⟩⟩⟩ ⟨rfl, trivial⟩ ⟨rfl, trivial⟩ rfl
      refine tr_region rfl (.run [] [] rfl (st_move rfl) (.run [] [] rfl (st_move rfl) (.run [100000, 2600] [] rfl (st_callG (.inr rfl) rfl 2600 (X := [100000]) en52 rfl (.val nod) (.cons (.rptr rfl) .nil) (by decide) (all_cons rfl all_nil) (.keep (xs := pvRd (cv, belowP bs (belowP bs p 4) 5)) rfl (FlatP.nf (pvRd_flat _)) .nil) (text_con hc hl (belowP bs (belowP bs p 4) 5) (belowP_le (belowP_le hp))) rfl rfl (nle rfl)) (.run [] [] rfl (st_build (pl := [(0, 1), (1, 1), (2, 1), (3, 1)]) rfl Try.underlying36 inf36 (by kernel_rfl) rfl rfl) (.run [] [] rfl (st_store_box rfl rfl rfl rfl rfl Try.sizeOf36 rfl (nle rfl)) .nil))))) ?_
      refine tr_ret ?_
      exact ends [_] [] (.cons (.cell rfl rfl Try.isAgg36 Try.sizeOf36 (nle rfl)) .nil) (.cons (.agg (.cons .v (.cons .v (.cons .v (.cons .v .nil)))) (cl_cons (.v _) (cl_cons (.v _) (cl_cons (.v _) (cl_cons (.v _) cl_nil))))) .nil) (by decide) (outs1 (congrArg (fun x => some (2, x)) (congrArg pvRd (congrArg (Prod.mk cv) rfl))) (pvRd_flat _) (by decide))
set_option maxRecDepth 1000000 in
set_option maxHeartbeats 2000000 in
theorem disk_con {γ : Gho} {cv : Value} {bs : List Nat} (hc : CodeAt γ cv bs) (hl : bs.length ≤ 1152921504606846976) (p : Nat) (hp : p ≤ bs.length)  : ConSG γ Try.prog 32 [.rptr 2 [PV.v (cv), PV.v (.int .i64 (p:Int))]] [some (pvRd (cv, (diskV bs p).2))] [.agg [.sl false 2 (pvF (diskV bs p).1.live), .sl false 2 (pvF (diskV bs p).1.safe), .sl false 4 (pvD (diskV bs p).1.ops)]] := by
  refine con_of_trSG Try.func32 rfl rfl rfl rfl ?_
  refine tr_seq ?_
  refine tr_region rfl (.run [] [2] rfl (st_allocZ rfl 2 inf27 rfl (by decide) rfl (by decide)) .nil) ?_
  refine tr_seq ?_
  refine tr_region rfl (.run [] [] rfl (st_build (pl := [(0, 1), (1, 1), (2, 1)]) rfl Try.underlying27 inf27 (by kernel_rfl) rfl rfl) (.run [] [3] rfl (st_allocZ rfl 3 inf27 rfl (by decide) rfl (by decide)) (.run [] [] rfl (st_store_box rfl rfl rfl rfl rfl Try.sizeOf27 rfl (nle rfl)) .nil))) ?_
  refine tr_seq ?_
  refine tr_seq ?_
  refine tr_region rfl (.run [] [] rfl (st_move rfl) (.run [100000, 900] [] rfl (st_callG (.inr rfl) rfl 900 (X := [100000]) en66 rfl (.val nod) (.cons (.rptr rfl) (.cons (.one (.bor .v)) (.cons (.one (.bor .v)) .nil))) (by decide) (all_cons rfl all_nil) (.keep (xs := pvRd (cv, p)) rfl (FlatP.nf (pvRd_flat _)) .nil) (size_con hc hl p hp 3 10 (by omega) (by omega)) rfl rfl (nle rfl)) (.run [] [] rfl (st_assign rfl) .nil))) ?_
  refine tr_block ?_
  refine tr_wk (wk_nil 3 0 1 2 rfl rfl rfl (by decide)) ?_
  refine tr_wk (wk_nil 3 1 2 2 rfl rfl rfl (by decide)) ?_
  refine tr_wk (wk_nil 3 2 3 4 rfl rfl rfl (by decide)) ?_
-- entry row 100000: pvRd (cv, (sizeP bs p 3 10)) now pvRd (cv, sizeP bs p 3 10)
  refine tr_loopS (σ := Nat × Dsk × Nat) (fun (i, d, q) => mk [(0, .ea 100000 0 0), (2, .ptr 2 0), (3, .ptr 3 0), (4, .p none (.v (.int .i64 (i:Int))))] [(2, [.nils, .nils, .nils]), (3, [.sl 1 0 ((pvF d.live).length), .sl 2 0 ((pvF d.safe).length), .sl 3 0 ((pvD d.ops).length)])] [(1, 2, pvF d.live), (2, 2, pvF d.safe), (3, 4, pvD d.ops), (100000, 2, pvRd (cv, q))]) (fun (i, d, q) => i ≤ 10 ∧ DrD d ∧ q ≤ bs.length ∧ dkLoop bs i (d, q) = dkBase bs p) (fun (i, d, q) => i) (sizeV bs p 3 10, dskZ, sizeP bs p 3 10) ⟨sizeV_le (by decide), drd_z, sizeP_le hp, rfl⟩ (wk_mk ⟨rfl, ⟨rfl, ⟨rfl, ⟨(int_eq (by omega)), trivial⟩⟩⟩⟩ ⟨rfl, ⟨rfl, trivial⟩⟩ ⟨(congrArg (fun x => some (2, x)) (by rfl)), ⟨(congrArg (fun x => some (2, x)) (by rfl)), ⟨(congrArg (fun x => some (4, x)) (by rfl)), ⟨rfl, trivial⟩⟩⟩⟩ rfl) ?_
  rintro ⟨i, d, q⟩ hG
  replace hG : i ≤ 10 ∧ DrD d ∧ q ≤ bs.length ∧ dkLoop bs i (d, q) = dkBase bs p := hG
  obtain ⟨hi, hD, hp, hE⟩ := hG
  have hle1 := pvF_length d.live
  have hle2 := pvF_length d.safe
  have hle3 := pvD_length d.ops
  obtain ⟨b1, b2, b3, b4, b5⟩ := ok_db hD.ok
  refine tr_seq ?_
  refine tr_seq ?_
  refine tr_region rfl (.run [] [] rfl (st_move rfl) (.run [] [] rfl (st_gtr rfl rfl rfl) .nil)) ?_
  refine tr_if (t := decide (0 < (i:Int))) rfl (fun h1 => ?_) (fun h1 => ?_)
  · skip
    replace h1 := of_decide_eq_true h1
    refine tr_skip ?_
    refine tr_seq ?_
    refine tr_block ?_
    refine tr_seq ?_
    refine tr_seq ?_
    refine tr_region rfl (.run [] [] rfl (st_move rfl) (.run [100000, 1500] [] rfl (st_callG (.inr rfl) rfl 1500 (X := [100000]) en51 rfl (.val nod) (.cons (.rptr rfl) (.cons (.one (.bor .v)) .nil)) (by decide) (all_cons rfl all_nil) (.keep (xs := pvRd (cv, q)) rfl (FlatP.nf (pvRd_flat _)) .nil) (once_con hc hl q hp 5 (by omega)) rfl rfl (nle rfl)) .nil)) ?_
    refine tr_if (t := onceV bs q 5) rfl (fun h2 => ?_) (fun h2 => ?_)
    · skip
      refine tr_seq ?_
      refine tr_region rfl (.run [] [] rfl (st_load_box rfl rfl rfl Try.isAgg27 Try.sizeOf27 (nle rfl)) (.run [1, 2, 3, 1700, 1701, 1702] [] rfl (st_call rfl 1700 (X := []) en24 rfl (.val nod) (.cons (.agg (.cons (.bor (.all (len := (pvF d.live).length) (xs := pvF d.live) rfl rfl (by decide))) (.cons (.bor (.all (len := (pvF d.safe).length) (xs := pvF d.safe) rfl rfl (by decide))) (.cons (.bor (.all (len := (pvD d.ops).length) (xs := pvD d.ops) rfl rfl (by decide))) .nil)))) .nil) (by decide) all_nil .nil (specSync_con d ((ok_db hD.ok).up (by decide)) (fun o ho => Nat.le_trans (hD.op o ho) (by decide))) rfl rfl (nle rfl)) (.run [] [] rfl (st_store_box rfl rfl rfl rfl rfl Try.sizeOf27 rfl (nle rfl)) .nil))) ?_
      refine tr_exit ?_
      refine tr_region rfl (.run [] [] rfl (st_move rfl) (.run [] [] rfl (st_subn rfl rfl rfl (by omega)) (.run [] [] rfl (st_assign rfl) .nil))) ?_
-- round row 100000: pvRd (cv, (belowP bs q 5)) now pvRd (cv, belowP bs q 5)
      refine nxt (Q := fun _ _ => False) (z := (i, d, q)) (i - 1, syncF d, belowP bs q 5) ?_ ?_ ?_
      · show (i - 1) ≤ 10 ∧ DrD (syncF d) ∧ (belowP bs q 5) ≤ bs.length ∧ dkLoop bs (i - 1) ((syncF d), (belowP bs q 5)) = dkBase bs p
        exact ⟨by omega, drd_sync hD, belowP_le hp, dkLoop_go (by omega) (dkStep_0 h2) hE⟩
      · show (i - 1) < i
        omega
      · exact (show Wk _ _ (mk [(0, .ea 100000 0 0), (2, .ptr 2 0), (3, .ptr 3 0), (4, .p none (.v (.int .i64 ((i:Int) - 1))))] [(2, [.nils, .nils, .nils]), (3, [.sl 1700 0 ((pvF ((syncF d).live)).length), .sl 1701 0 ((pvF ((syncF d).safe)).length), .sl 1702 0 ((pvD ((syncF d).ops)).length)])] [(1700, 2, pvF ((syncF d).live)), (1701, 2, pvF ((syncF d).safe)), (1702, 4, pvD ((syncF d).ops)), (100000, 2, pvRd (cv, belowP bs q 5))]) from wk_mk ⟨rfl, ⟨rfl, ⟨rfl, ⟨rfl, trivial⟩⟩⟩⟩ ⟨rfl, ⟨rfl, trivial⟩⟩ ⟨rfl, ⟨rfl, ⟨rfl, ⟨rfl, trivial⟩⟩⟩⟩ rfl).trans ((wk_ren 1700 1 rfl rfl (by decide)).trans ((wk_ren 1701 2 rfl rfl (by decide)).trans ((wk_ren 1702 3 rfl rfl (by decide)).trans (wk_mk ⟨rfl, ⟨rfl, ⟨rfl, ⟨(int_eq (by omega)), trivial⟩⟩⟩⟩ ⟨rfl, ⟨rfl, trivial⟩⟩ ⟨rfl, ⟨rfl, ⟨rfl, ⟨rfl, trivial⟩⟩⟩⟩ rfl))))
    · skip
      refine tr_skip ?_
      refine tr_seq ?_
      refine tr_regionD mixed rfl (.run [] [] rfl (st_load_box rfl rfl rfl Try.isAgg27 Try.sizeOf27 (nle rfl)) (.run [] [] rfl (st_move rfl) (.run [100000, 2100, 2101, 2102, 2103] [] rfl (st_callG (.inr rfl) rfl 2100 (X := [100000]) en45 rfl (.val nod) (.cons (.rptr rfl) .nil) (by decide) (all_cons rfl all_nil) (.keep (xs := pvRd (cv, belowP bs q 5)) rfl (FlatP.nf (pvRd_flat _)) .nil) (dop_con hc hl (belowP bs q 5) (belowP_le hp)) rfl rfl (nle rfl)) (.run [1, 2, 3, 2200, 2201, 2202, 2203] [] rfl (st_call rfl 2200 (X := []) en18 rfl (.val nod) (.cons (.agg (.cons (.bor (.all (len := (pvF d.live).length) (xs := pvF d.live) rfl rfl (by decide))) (.cons (.bor (.all (len := (pvF d.safe).length) (xs := pvF d.safe) rfl rfl (by decide))) (.cons (.bor (.all (len := (pvD d.ops).length) (xs := pvD d.ops) rfl rfl (by decide))) .nil)))) (.cons (.agg (.cons (.bor .v) (.cons (.bor .v) (.cons (.bor .v) (.cons (.bor .v) .nil))))) .nil)) (by decide) all_nil .nil (specDo_con d (dopV bs (belowP bs q 5)) ((ok_db hD.ok).up (by decide)) (fun o ho => Nat.le_trans (hD.op o ho) (by decide)) (Nat.le_trans (dop_data _ _) (by decide))) rfl rfl (nle rfl)) (.run [] [] rfl (st_move rfl) (.run [] [] rfl (st_extract rfl rfl rfl) (.run [] [] rfl (st_extract rfl rfl rfl) (.run [] [5] rfl (st_allocZ rfl 5 inf27 rfl (by decide) rfl (by decide)) (.run [] [] rfl (st_store_box rfl rfl rfl rfl rfl Try.sizeOf27 rfl (nle rfl)) (.run [] [] rfl (st_assign rfl) .nil)))))))))) (by kernel_rfl) ?_
      refine tr_seq ?_
      refine tr_region rfl (.run [] [] rfl (st_move rfl) (.run [] [] rfl (st_eql rfl rfl rfl) .nil)) ?_
      refine tr_if (t := decide (((doF d (dopV bs (belowP bs q 5))).2) = 0)) rfl (fun h3 => ?_) (fun h3 => ?_)
      · skip
        replace h3 := of_decide_eq_true h3
        refine tr_wk (s' := mk [(0, .ea 100000 0 0), (2, .ptr 2 0), (3, .ptr 3 0), (4, .p none (.v (.int .i64 (i:Int)))), (5, .ptr 5 0)] [(2, [.nils, .nils, .nils]), (3, [.sl 1 0 ((pvF d.live).length), .sl 2 0 ((pvF d.safe).length), .sl 3 0 ((pvD d.ops).length)]), (5, [.sl 2200 0 ((pvF ((doF d (dopV bs (belowP bs q 5))).1.live)).length), .sl 2201 0 ((pvF ((doF d (dopV bs (belowP bs q 5))).1.safe)).length), .sl 2202 0 ((pvD ((doF d (dopV bs (belowP bs q 5))).1.ops)).length)])] [(1, 2, pvF d.live), (2, 2, pvF d.safe), (3, 4, pvD d.ops), (2200, 2, pvF ((doF d (dopV bs (belowP bs q 5))).1.live)), (2201, 2, pvF ((doF d (dopV bs (belowP bs q 5))).1.safe)), (2202, 4, pvD ((doF d (dopV bs (belowP bs q 5))).1.ops)), (100000, 2, pvRd (cv, dopP bs (belowP bs q 5)))]) ?_ ?_
        · exact wk_mk ⟨rfl, ⟨rfl, ⟨rfl, ⟨rfl, ⟨rfl, trivial⟩⟩⟩⟩⟩ ⟨rfl, ⟨rfl, ⟨rfl, trivial⟩⟩⟩ ⟨rfl, ⟨rfl, ⟨rfl, ⟨rfl, ⟨rfl, ⟨rfl, ⟨rfl, trivial⟩⟩⟩⟩⟩⟩⟩ rfl
        refine tr_region rfl (.run [] [] rfl (st_load_box rfl rfl rfl Try.isAgg27 Try.sizeOf27 (nle rfl)) (.run [] [] rfl (st_store_box rfl rfl rfl rfl rfl Try.sizeOf27 rfl (nle rfl)) .nil)) ?_
        refine tr_region rfl (.run [] [] rfl (st_move rfl) (.run [] [] rfl (st_subn rfl rfl rfl (by omega)) (.run [] [] rfl (st_assign rfl) .nil))) ?_
-- round row 100000: pvRd (cv, (dopP bs (belowP bs q 5))) now pvRd (cv, dopP bs (belowP bs q 5))
        refine nxt (Q := fun _ _ => False) (z := (i, d, q)) (i - 1, (doF d (dopV bs (belowP bs q 5))).1, dopP bs (belowP bs q 5)) ?_ ?_ ?_
        · show (i - 1) ≤ 10 ∧ DrD ((doF d (dopV bs (belowP bs q 5))).1) ∧ (dopP bs (belowP bs q 5)) ≤ bs.length ∧ dkLoop bs (i - 1) (((doF d (dopV bs (belowP bs q 5))).1), (dopP bs (belowP bs q 5))) = dkBase bs p
          exact ⟨by omega, drd_do hD (dop_data _ _) h3, dopP_le (belowP_le hp), dkLoop_go (by omega) (dkStep_1 h2 h3) hE⟩
        · show (i - 1) < i
          omega
        · exact (show Wk _ _ (mk [(0, .ea 100000 0 0), (2, .ptr 2 0), (3, .ptr 3 0), (4, .p none (.v (.int .i64 ((i:Int) - 1))))] [(2, [.nils, .nils, .nils]), (3, [.sl 2200 0 ((pvF ((doF d (dopV bs (belowP bs q 5))).1.live)).length), .sl 2201 0 ((pvF ((doF d (dopV bs (belowP bs q 5))).1.safe)).length), .sl 2202 0 ((pvD ((doF d (dopV bs (belowP bs q 5))).1.ops)).length)])] [(2200, 2, pvF ((doF d (dopV bs (belowP bs q 5))).1.live)), (2201, 2, pvF ((doF d (dopV bs (belowP bs q 5))).1.safe)), (2202, 4, pvD ((doF d (dopV bs (belowP bs q 5))).1.ops)), (100000, 2, pvRd (cv, dopP bs (belowP bs q 5)))]) from wk_mk ⟨rfl, ⟨rfl, ⟨rfl, ⟨rfl, trivial⟩⟩⟩⟩ ⟨rfl, ⟨rfl, trivial⟩⟩ ⟨rfl, ⟨rfl, ⟨rfl, ⟨rfl, trivial⟩⟩⟩⟩ rfl).trans ((wk_ren 2200 1 rfl rfl (by decide)).trans ((wk_ren 2201 2 rfl rfl (by decide)).trans ((wk_ren 2202 3 rfl rfl (by decide)).trans (wk_mk ⟨rfl, ⟨rfl, ⟨rfl, ⟨(int_eq (by omega)), trivial⟩⟩⟩⟩ ⟨rfl, ⟨rfl, trivial⟩⟩ ⟨rfl, ⟨rfl, ⟨rfl, ⟨rfl, trivial⟩⟩⟩⟩ rfl))))
      · skip
        replace h3 := of_decide_eq_false h3
        refine tr_skip ?_
        refine tr_wk (s' := mk [(0, .ea 100000 0 0), (2, .ptr 2 0), (3, .ptr 3 0), (4, .p none (.v (.int .i64 (i:Int))))] [(2, [.nils, .nils, .nils]), (3, [.sl 1 0 ((pvF d.live).length), .sl 2 0 ((pvF d.safe).length), .sl 3 0 ((pvD d.ops).length)])] [(1, 2, pvF d.live), (2, 2, pvF d.safe), (3, 4, pvD d.ops), (100000, 2, pvRd (cv, dopP bs (belowP bs q 5)))]) ?_ ?_
        · exact wk_mk ⟨rfl, ⟨rfl, ⟨rfl, ⟨rfl, trivial⟩⟩⟩⟩ ⟨rfl, ⟨rfl, trivial⟩⟩ ⟨rfl, ⟨rfl, ⟨rfl, ⟨rfl, trivial⟩⟩⟩⟩ rfl
        refine tr_region rfl (.run [] [] rfl (st_move rfl) (.run [] [] rfl (st_subn rfl rfl rfl (by omega)) (.run [] [] rfl (st_assign rfl) .nil))) ?_
-- round row 100000: pvRd (cv, (dopP bs (belowP bs q 5))) now pvRd (cv, dopP bs (belowP bs q 5))
        refine nxt (Q := fun _ _ => False) (z := (i, d, q)) (i - 1, d, dopP bs (belowP bs q 5)) ?_ ?_ ?_
        · show (i - 1) ≤ 10 ∧ DrD d ∧ (dopP bs (belowP bs q 5)) ≤ bs.length ∧ dkLoop bs (i - 1) (d, (dopP bs (belowP bs q 5))) = dkBase bs p
          exact ⟨by omega, hD, dopP_le (belowP_le hp), dkLoop_go (by omega) (dkStep_2 h2 h3) hE⟩
        · show (i - 1) < i
          omega
        · exact wk_mk ⟨rfl, ⟨rfl, ⟨rfl, ⟨(int_eq (by omega)), trivial⟩⟩⟩⟩ ⟨rfl, ⟨rfl, trivial⟩⟩ ⟨rfl, ⟨rfl, ⟨rfl, ⟨rfl, trivial⟩⟩⟩⟩ rfl
  · skip
    replace h1 := of_decide_eq_false h1
    refine tr_exit ?_
    refine tr_seq ?_
    refine tr_seq ?_
    have hi0 : i = 0 := (by omega)
    rw [hi0] at hE
    have hEm : (d, q) = dkBase bs p := hE
    refine tr_region rfl (.run [] [] rfl (st_move rfl) (.run [100000, 2900] [] rfl (st_callG (.inr rfl) rfl 2900 (X := [100000]) en46 rfl (.val nod) (.cons (.rptr rfl) (.cons (.one (.bor .v)) .nil)) (by decide) (all_cons rfl all_nil) (.keep (xs := pvRd (cv, q)) rfl (FlatP.nf (pvRd_flat _)) .nil) (below_con hc hl q hp 40 (by omega)) rfl rfl (nle rfl)) .nil)) ?_
    refine tr_block ?_
    refine tr_seq ?_
    refine tr_region rfl (.run [] [] rfl (st_eql rfl rfl rfl) (.run [] [] rfl (st_assign rfl) .nil)) ?_
    refine tr_if (t := decide (((belowV bs q 40 : Nat) : Int) = 0)) rfl (fun h4 => ?_) (fun h4 => ?_)
    · skip
      replace h4 := of_decide_eq_true h4
      refine tr_region rfl (.run [] [] rfl (st_faddr_box rfl rfl Try.underlying27 rfl Try.sizeOf24 (by decide)) (.run [] [] rfl (st_load_box1 rfl rfl rfl Try.isAgg24 rfl) (.run [] [] rfl (st_build (pl := [(0, 1), (1, 1)]) rfl Try.underlying69 inf69 (by kernel_rfl) rfl rfl) (.run [3500] [] rfl (st_buildSlice rfl 3500 Try.underlying24 inf69 (nle rfl) (by decide) rfl rfl rfl (.cons .v (.cons .v .nil)) (by decide) rfl (by decide) rfl (by decide) rfl) (.run [1] [] rfl (st_append rfl 1 (ib := 1) (len := ((pvF d.live) ++ [[PV.v (.string ⟨#[122, 122]⟩), PV.v (.string ⟨#[]⟩)]]).length) rfl rfl (.row (len := (pvF d.live).length) (xs := pvF d.live) rfl rfl (.inl rfl)) (.give (len := 1) (xs := [[PV.v (.string ⟨#[122, 122]⟩), PV.v (.string ⟨#[]⟩)]]) rfl rfl) Try.underlying24 (sk Try.underlying24 rfl) inf69 rfl (by decide) (by decide) (by decide) List.length_append (by simp only [maxLen, List.length_append, List.length_map, List.length_cons, List.length_nil, List.length_take, List.length_drop, pvF_length, pvD_length]; omega) (by simp only [maxLen, List.length_append, List.length_map, List.length_cons, List.length_nil, List.length_take, List.length_drop, pvF_length, pvD_length]; omega)) (.run [] [] rfl (st_faddr_box rfl rfl Try.underlying27 rfl Try.sizeOf24 (by decide)) (.run [] [] rfl (st_store_box rfl rfl rfl rfl rfl Try.sizeOf24 rfl (nle rfl)) .nil))))))) ?_
      have hr5 : (pvF d.live) ++ [[PV.v (.string ⟨#[122, 122]⟩), PV.v (.string ⟨#[]⟩)]] = pvF (d.live ++ [(⟨⟨#[122, 122]⟩, ⟨#[]⟩⟩ : Fil)]) := by exact pvF_snoc d.live (⟨⟨#[122, 122]⟩, ⟨#[]⟩⟩ : Fil)
      have hp6 : (some [.sl 1 0 (((pvF d.live) ++ [[PV.v (.string ⟨#[122, 122]⟩), PV.v (.string ⟨#[]⟩)]]).length), .sl 2 0 ((pvF d.safe).length), .sl 3 0 ((pvD d.ops).length)] : Option (List AV)) = some [.sl 1 0 ((pvF (d.live ++ [(⟨⟨#[122, 122]⟩, ⟨#[]⟩⟩ : Fil)])).length), .sl 2 0 ((pvF d.safe).length), .sl 3 0 ((pvD d.ops).length)] := by simp only [hr5]
      refine tr_wk (s' := mk [(2, .ptr 2 0), (3, .ptr 3 0)] [(2, [.nils, .nils, .nils]), (3, [.sl 1 0 ((pvF (d.live ++ [(⟨⟨#[122, 122]⟩, ⟨#[]⟩⟩ : Fil)])).length), .sl 2 0 ((pvF d.safe).length), .sl 3 0 ((pvD d.ops).length)])] [(1, 2, pvF (d.live ++ [(⟨⟨#[122, 122]⟩, ⟨#[]⟩⟩ : Fil)])), (2, 2, pvF d.safe), (3, 4, pvD d.ops), (100000, 2, pvRd (cv, belowP bs q 40))]) ?_ ?_
      · exact wk_mk ⟨rfl, ⟨rfl, trivial⟩⟩ ⟨rfl, ⟨hp6, trivial⟩⟩ ⟨(congrArg (fun x => some (2, x)) hr5), ⟨rfl, ⟨rfl, ⟨rfl, trivial⟩⟩⟩⟩ rfl
      refine tr_seq ?_
      have hdv := (show diskV bs p = dkTail bs (d, q) from by rw [diskV, hEm]).trans (tail_0 (x := (d, q)) (by show belowV bs q 40 = 0; omega))
      rw [hdv]
      refine tr_region rfl (.run [] [] rfl (st_load_box rfl rfl rfl Try.isAgg27 Try.sizeOf27 (nle rfl)) (.run [] [] rfl (st_store_box rfl rfl rfl rfl rfl Try.sizeOf27 rfl (nle rfl)) .nil)) ?_
      refine tr_wk (wk_frz 1 rfl) ?_
      have hp7 : (some [.p none (.sl false 2 (((pvF (d.live ++ [(⟨⟨#[122, 122]⟩, ⟨#[]⟩⟩ : Fil)])).drop 0).take ((pvF (d.live ++ [(⟨⟨#[122, 122]⟩, ⟨#[]⟩⟩ : Fil)])).length))), .sl 2 0 ((pvF d.safe).length), .sl 3 0 ((pvD d.ops).length)] : Option (List AV)) = some [.p none (.sl false 2 (pvF (d.live ++ [(⟨⟨#[122, 122]⟩, ⟨#[]⟩⟩ : Fil)]))), .sl 2 0 ((pvF d.safe).length), .sl 3 0 ((pvD d.ops).length)] := by simp only [frz_all]
      refine tr_wk (s' := mk [(2, .ptr 2 0)] [(2, [.p none (.sl false 2 (pvF (d.live ++ [(⟨⟨#[122, 122]⟩, ⟨#[]⟩⟩ : Fil)]))), .sl 2 0 ((pvF d.safe).length), .sl 3 0 ((pvD d.ops).length)])] [(2, 2, pvF d.safe), (3, 4, pvD d.ops), (100000, 2, pvRd (cv, belowP bs q 40))]) ?_ ?_
      · exact wk_mk ⟨rfl, trivial⟩ ⟨hp7, trivial⟩ ⟨rfl, ⟨rfl, ⟨rfl, trivial⟩⟩⟩ rfl
      refine tr_wk (wk_frz 2 rfl) ?_
      have hp8 : (some [.p none (.sl false 2 (pvF (d.live ++ [(⟨⟨#[122, 122]⟩, ⟨#[]⟩⟩ : Fil)]))), .p none (.sl false 2 (((pvF d.safe).drop 0).take ((pvF d.safe).length))), .sl 3 0 ((pvD d.ops).length)] : Option (List AV)) = some [.p none (.sl false 2 (pvF (d.live ++ [(⟨⟨#[122, 122]⟩, ⟨#[]⟩⟩ : Fil)]))), .p none (.sl false 2 (pvF d.safe)), .sl 3 0 ((pvD d.ops).length)] := by simp only [frz_all]
      refine tr_wk (s' := mk [(2, .ptr 2 0)] [(2, [.p none (.sl false 2 (pvF (d.live ++ [(⟨⟨#[122, 122]⟩, ⟨#[]⟩⟩ : Fil)]))), .p none (.sl false 2 (pvF d.safe)), .sl 3 0 ((pvD d.ops).length)])] [(3, 4, pvD d.ops), (100000, 2, pvRd (cv, belowP bs q 40))]) ?_ ?_
      · exact wk_mk ⟨rfl, trivial⟩ ⟨hp8, trivial⟩ ⟨rfl, ⟨rfl, trivial⟩⟩ rfl
      refine tr_wk (wk_frz 3 rfl) ?_
      have hp9 : (some [.p none (.sl false 2 (pvF (d.live ++ [(⟨⟨#[122, 122]⟩, ⟨#[]⟩⟩ : Fil)]))), .p none (.sl false 2 (pvF d.safe)), .p none (.sl false 4 (((pvD d.ops).drop 0).take ((pvD d.ops).length)))] : Option (List AV)) = some [.p none (.sl false 2 (pvF (d.live ++ [(⟨⟨#[122, 122]⟩, ⟨#[]⟩⟩ : Fil)]))), .p none (.sl false 2 (pvF d.safe)), .p none (.sl false 4 (pvD d.ops))] := by simp only [frz_all]
      refine tr_wk (s' := mk [(2, .ptr 2 0)] [(2, [.p none (.sl false 2 (pvF (d.live ++ [(⟨⟨#[122, 122]⟩, ⟨#[]⟩⟩ : Fil)]))), .p none (.sl false 2 (pvF d.safe)), .p none (.sl false 4 (pvD d.ops))])] [(100000, 2, pvRd (cv, belowP bs q 40))]) ?_ ?_
      · exact wk_mk ⟨rfl, trivial⟩ ⟨hp9, trivial⟩ ⟨rfl, trivial⟩ rfl
      refine tr_ret ?_
      exact endsSG [_] [] (.cons (.cell rfl rfl Try.isAgg27 Try.sizeOf27 (nle rfl)) .nil) (.cons (.agg (.cons (.of .fro) (.cons (.of .fro) (.cons (.of .fro) .nil)))) .nil) (by decide) (outs1 (congrArg (fun x => some (2, x)) (congrArg pvRd (congrArg (Prod.mk cv) rfl))) (pvRd_flat _) (by decide))
    · skip
      replace h4 := of_decide_eq_false h4
      refine tr_seq ?_
      refine tr_region rfl (.run [] [] rfl (st_eql rfl rfl rfl) (.run [] [] rfl (st_assign rfl) .nil)) ?_
      refine tr_if (t := decide (((belowV bs q 40 : Nat) : Int) = 1)) rfl (fun h10 => ?_) (fun h10 => ?_)
      · skip
        replace h10 := of_decide_eq_true h10
        refine tr_seq ?_
        refine tr_region rfl (.run [] [] rfl (st_faddr_box rfl rfl Try.underlying27 rfl Try.sizeOf25 (by decide)) (.run [] [] rfl (st_load_box1 rfl rfl rfl Try.isAgg25 rfl) (.run [] [] rfl (st_len_row rfl rfl Try.underlying25) (.run [] [] rfl (st_gtr rfl rfl rfl) .nil)))) ?_
        refine tr_if (t := decide (0 < ((pvD d.ops).length : Int))) rfl (fun h11 => ?_) (fun h11 => ?_)
        · skip
          replace h11 := of_decide_eq_true h11
          refine tr_wk (s' := mk [(2, .ptr 2 0), (3, .ptr 3 0)] [(2, [.nils, .nils, .nils]), (3, [.sl 1 0 ((pvF d.live).length), .sl 2 0 ((pvF d.safe).length), .sl 3 0 ((pvD d.ops).length)])] [(1, 2, pvF d.live), (2, 2, pvF d.safe), (3, 4, pvD d.ops), (100000, 2, pvRd (cv, belowP bs q 40))]) ?_ ?_
          · exact wk_mk ⟨rfl, ⟨rfl, trivial⟩⟩ ⟨rfl, ⟨rfl, trivial⟩⟩ ⟨rfl, ⟨rfl, ⟨rfl, ⟨rfl, trivial⟩⟩⟩⟩ rfl
          refine tr_region rfl (.run [] [] rfl (st_faddr_box rfl rfl Try.underlying27 rfl Try.sizeOf25 (by decide)) (.run [] [] rfl (st_load_box1 rfl rfl rfl Try.isAgg25 rfl) (.run [] [] rfl (st_cut_row0 (l := 1) (h := (pvD d.ops).length) rfl rfl rfl Try.underlying25 Try.sizeOf36 (.at_ rfl rfl) .no (by omega) (Nat.le_refl _) rfl) (.run [] [] rfl (st_faddr_box rfl rfl Try.underlying27 rfl Try.sizeOf25 (by decide)) (.run [] [] rfl (st_store_box rfl rfl rfl rfl rfl Try.sizeOf25 rfl (nle rfl)) .nil))))) ?_
          refine tr_seq ?_
          have hdv := (show diskV bs p = dkTail bs (d, q) from by rw [diskV, hEm]).trans (tail_1 (x := (d, q)) (by show belowV bs q 40 = 1; omega))
          rw [hdv]
          refine tr_region rfl (.run [] [] rfl (st_load_box rfl rfl rfl Try.isAgg27 Try.sizeOf27 (nle rfl)) (.run [] [] rfl (st_store_box rfl rfl rfl rfl rfl Try.sizeOf27 rfl (nle rfl)) .nil)) ?_
          refine tr_wk (wk_frz 1 rfl) ?_
          have hp12 : (some [.p none (.sl false 2 (((pvF d.live).drop 0).take ((pvF d.live).length))), .sl 2 0 ((pvF d.safe).length), .sl 3 1 (((pvD d.ops).length) - 1)] : Option (List AV)) = some [.p none (.sl false 2 (pvF d.live)), .sl 2 0 ((pvF d.safe).length), .sl 3 1 (((pvD d.ops).length) - 1)] := by simp only [frz_all]
          refine tr_wk (s' := mk [(2, .ptr 2 0)] [(2, [.p none (.sl false 2 (pvF d.live)), .sl 2 0 ((pvF d.safe).length), .sl 3 1 (((pvD d.ops).length) - 1)])] [(2, 2, pvF d.safe), (3, 4, pvD d.ops), (100000, 2, pvRd (cv, belowP bs q 40))]) ?_ ?_
          · exact wk_mk ⟨rfl, trivial⟩ ⟨hp12, trivial⟩ ⟨rfl, ⟨rfl, ⟨rfl, trivial⟩⟩⟩ rfl
          refine tr_wk (wk_frz 2 rfl) ?_
          have hp13 : (some [.p none (.sl false 2 (pvF d.live)), .p none (.sl false 2 (((pvF d.safe).drop 0).take ((pvF d.safe).length))), .sl 3 1 (((pvD d.ops).length) - 1)] : Option (List AV)) = some [.p none (.sl false 2 (pvF d.live)), .p none (.sl false 2 (pvF d.safe)), .sl 3 1 (((pvD d.ops).length) - 1)] := by simp only [frz_all]
          refine tr_wk (s' := mk [(2, .ptr 2 0)] [(2, [.p none (.sl false 2 (pvF d.live)), .p none (.sl false 2 (pvF d.safe)), .sl 3 1 (((pvD d.ops).length) - 1)])] [(3, 4, pvD d.ops), (100000, 2, pvRd (cv, belowP bs q 40))]) ?_ ?_
          · exact wk_mk ⟨rfl, trivial⟩ ⟨hp13, trivial⟩ ⟨rfl, ⟨rfl, trivial⟩⟩ rfl
          refine tr_wk (wk_frz 3 rfl) ?_
          have hp14 : (some [.p none (.sl false 2 (pvF d.live)), .p none (.sl false 2 (pvF d.safe)), .p none (.sl false 4 (((pvD d.ops).drop 1).take (((pvD d.ops).length) - 1)))] : Option (List AV)) = some [.p none (.sl false 2 (pvF d.live)), .p none (.sl false 2 (pvF d.safe)), .p none (.sl false 4 (pvD (d.ops.drop 1)))] := by simp only [frz_all, pvD_drop]
          refine tr_wk (s' := mk [(2, .ptr 2 0)] [(2, [.p none (.sl false 2 (pvF d.live)), .p none (.sl false 2 (pvF d.safe)), .p none (.sl false 4 (pvD (d.ops.drop 1)))])] [(100000, 2, pvRd (cv, belowP bs q 40))]) ?_ ?_
          · exact wk_mk ⟨rfl, trivial⟩ ⟨hp14, trivial⟩ ⟨rfl, trivial⟩ rfl
          refine tr_ret ?_
          exact endsSG [_] [] (.cons (.cell rfl rfl Try.isAgg27 Try.sizeOf27 (nle rfl)) .nil) (.cons (.agg (.cons (.of .fro) (.cons (.of .fro) (.cons (.of .fro) .nil)))) .nil) (by decide) (outs1 (congrArg (fun x => some (2, x)) (congrArg pvRd (congrArg (Prod.mk cv) rfl))) (pvRd_flat _) (by decide))
        · skip
          replace h11 := of_decide_eq_false h11
          refine tr_skip ?_
          refine tr_seq ?_
          have hdv := (show diskV bs p = dkTail bs (d, q) from by rw [diskV, hEm]).trans (tail_1e (x := (d, q)) (by show belowV bs q 40 = 1; omega) (by show d.ops.length ≤ 0; omega))
          rw [hdv]
          refine tr_region rfl (.run [] [] rfl (st_load_box rfl rfl rfl Try.isAgg27 Try.sizeOf27 (nle rfl)) (.run [] [] rfl (st_store_box rfl rfl rfl rfl rfl Try.sizeOf27 rfl (nle rfl)) .nil)) ?_
          refine tr_wk (wk_frz 1 rfl) ?_
          have hp15 : (some [.p none (.sl false 2 (((pvF d.live).drop 0).take ((pvF d.live).length))), .sl 2 0 ((pvF d.safe).length), .sl 3 0 ((pvD d.ops).length)] : Option (List AV)) = some [.p none (.sl false 2 (pvF d.live)), .sl 2 0 ((pvF d.safe).length), .sl 3 0 ((pvD d.ops).length)] := by simp only [frz_all]
          refine tr_wk (s' := mk [(2, .ptr 2 0)] [(2, [.p none (.sl false 2 (pvF d.live)), .sl 2 0 ((pvF d.safe).length), .sl 3 0 ((pvD d.ops).length)])] [(2, 2, pvF d.safe), (3, 4, pvD d.ops), (100000, 2, pvRd (cv, belowP bs q 40))]) ?_ ?_
          · exact wk_mk ⟨rfl, trivial⟩ ⟨hp15, trivial⟩ ⟨rfl, ⟨rfl, ⟨rfl, trivial⟩⟩⟩ rfl
          refine tr_wk (wk_frz 2 rfl) ?_
          have hp16 : (some [.p none (.sl false 2 (pvF d.live)), .p none (.sl false 2 (((pvF d.safe).drop 0).take ((pvF d.safe).length))), .sl 3 0 ((pvD d.ops).length)] : Option (List AV)) = some [.p none (.sl false 2 (pvF d.live)), .p none (.sl false 2 (pvF d.safe)), .sl 3 0 ((pvD d.ops).length)] := by simp only [frz_all]
          refine tr_wk (s' := mk [(2, .ptr 2 0)] [(2, [.p none (.sl false 2 (pvF d.live)), .p none (.sl false 2 (pvF d.safe)), .sl 3 0 ((pvD d.ops).length)])] [(3, 4, pvD d.ops), (100000, 2, pvRd (cv, belowP bs q 40))]) ?_ ?_
          · exact wk_mk ⟨rfl, trivial⟩ ⟨hp16, trivial⟩ ⟨rfl, ⟨rfl, trivial⟩⟩ rfl
          refine tr_wk (wk_frz 3 rfl) ?_
          have hp17 : (some [.p none (.sl false 2 (pvF d.live)), .p none (.sl false 2 (pvF d.safe)), .p none (.sl false 4 (((pvD d.ops).drop 0).take ((pvD d.ops).length)))] : Option (List AV)) = some [.p none (.sl false 2 (pvF d.live)), .p none (.sl false 2 (pvF d.safe)), .p none (.sl false 4 (pvD d.ops))] := by simp only [frz_all]
          refine tr_wk (s' := mk [(2, .ptr 2 0)] [(2, [.p none (.sl false 2 (pvF d.live)), .p none (.sl false 2 (pvF d.safe)), .p none (.sl false 4 (pvD d.ops))])] [(100000, 2, pvRd (cv, belowP bs q 40))]) ?_ ?_
          · exact wk_mk ⟨rfl, trivial⟩ ⟨hp17, trivial⟩ ⟨rfl, trivial⟩ rfl
          refine tr_ret ?_
          exact endsSG [_] [] (.cons (.cell rfl rfl Try.isAgg27 Try.sizeOf27 (nle rfl)) .nil) (.cons (.agg (.cons (.of .fro) (.cons (.of .fro) (.cons (.of .fro) .nil)))) .nil) (by decide) (outs1 (congrArg (fun x => some (2, x)) (congrArg pvRd (congrArg (Prod.mk cv) rfl))) (pvRd_flat _) (by decide))
      · skip
        replace h10 := of_decide_eq_false h10
        refine tr_seq ?_
        refine tr_region rfl (.run [] [] rfl (st_eql rfl rfl rfl) (.run [] [] rfl (st_assign rfl) .nil)) ?_
        refine tr_if (t := decide (((belowV bs q 40 : Nat) : Int) = 2)) rfl (fun h18 => ?_) (fun h18 => ?_)
        · skip
          replace h18 := of_decide_eq_true h18
          refine tr_seq ?_
          have h9 := belowV_lt (bs := bs) (p := belowP bs q 40) (n := 9) (by decide)
          obtain ⟨z, hz⟩ : ∃ z, z = (200000 - belowV bs (belowP bs q 40) 9) := ⟨_, rfl⟩
          refine tr_wk (s' := mk [(0, .ea 100000 0 0), (2, .ptr 2 0), (3, .ptr 3 0)] [(2, [.nils, .nils, .nils]), (3, [.sl 1 0 ((pvF d.live).length), .sl 2 0 ((pvF d.safe).length), .sl 3 0 ((pvD d.ops).length)])] [(1, 2, pvF d.live), (2, 2, pvF d.safe), (3, 4, pvD d.ops), (100000, 2, pvRd (cv, belowP bs q 40))]) ?_ ?_
          · exact wk_mk ⟨rfl, ⟨rfl, ⟨rfl, trivial⟩⟩⟩ ⟨rfl, ⟨rfl, trivial⟩⟩ ⟨rfl, ⟨rfl, ⟨rfl, ⟨rfl, trivial⟩⟩⟩⟩ rfl
          refine tr_region rfl (.run [] [] rfl (st_move rfl) (.run [100000, 5100] [] rfl (st_callG (.inr rfl) rfl 5100 (X := [100000]) en46 rfl (.val nod) (.cons (.rptr rfl) (.cons (.one (.bor .v)) .nil)) (by decide) (all_cons rfl all_nil) (.keep (xs := pvRd (cv, belowP bs q 40)) rfl (FlatP.nf (pvRd_flat _)) .nil) (below_con hc hl (belowP bs q 40) (belowP_le hp) 9 (by omega)) rfl rfl (nle rfl)) (.run [] [] rfl (st_eq (st_subn rfl rfl rfl (by omega)) ((int_eq (by rw [hz]; omega)))) (.run [5300] [] rfl (st_make rfl 5300 (l := z) (c := z) rfl rfl Try.underlying22 inf5 rfl rfl (by decide) rfl (by decide) (Nat.le_refl _) (by omega) (by simp only [maxLen]; omega)) (.run [] [] rfl (st_strN (List.replicate z 0) rfl rfl (.give (len := z) (xs := List.replicate z [PV.v (.int .u8 0)]) rfl (List.length_replicate).symm) rfl (by simp [pvB]) Try.underlying22 Try.underlying9 Try.underlying5) (.run [] [] rfl (st_build (pl := [(0, 1), (1, 1)]) rfl Try.underlying69 inf69 (by kernel_rfl) rfl rfl) (.run [5600] [] rfl (st_buildSlice rfl 5600 Try.underlying24 inf69 (nle rfl) (by decide) rfl rfl rfl (.cons .v (.cons .v .nil)) (by decide) rfl (by decide) rfl (by decide) rfl) (.run [] [] rfl (st_build (pl := [(0, 1), (1, 1), (2, 1)]) rfl Try.underlying27 inf27 (by kernel_rfl) rfl rfl) (.run [] [] rfl (st_store_box rfl rfl rfl rfl rfl Try.sizeOf27 rfl (nle rfl)) .nil))))))))) ?_
          refine tr_region rfl (.run [] [] rfl (st_faddr_box rfl rfl Try.underlying27 rfl Try.sizeOf24 (by decide)) (.run [] [] rfl (st_load_box1 rfl rfl rfl Try.isAgg24 rfl) (.run [] [] rfl (st_faddr_box rfl rfl Try.underlying27 rfl Try.sizeOf24 (by decide)) (.run [] [] rfl (st_store_box rfl rfl rfl rfl rfl Try.sizeOf24 rfl (nle rfl)) .nil)))) ?_
          refine tr_seq ?_
          have hdv := (show diskV bs p = dkTail bs (d, q) from by rw [diskV, hEm]).trans (tail_2 (x := (d, q)) (by show belowV bs q 40 = 2; omega))
          rw [hdv, ← hz]
          refine tr_region rfl (.run [] [] rfl (st_load_box rfl rfl rfl Try.isAgg27 Try.sizeOf27 (nle rfl)) (.run [] [] rfl (st_store_box rfl rfl rfl rfl rfl Try.sizeOf27 rfl (nle rfl)) .nil)) ?_
          refine tr_wk (wk_frz 5600 rfl) ?_
          refine tr_wk (s' := mk [(2, .ptr 2 0)] [(2, [.p none (.sl false 2 (([[PV.v (.string ⟨#[98, 105, 103]⟩), PV.v (.string (strOf (List.replicate z 0)))]].drop 0).take 1)), .p none (.sl false 2 (([[PV.v (.string ⟨#[98, 105, 103]⟩), PV.v (.string (strOf (List.replicate z 0)))]].drop 0).take 1)), .nils])] [(100000, 2, pvRd (cv, belowP bs (belowP bs q 40) 9))]) ?_ ?_
          · exact wk_mk ⟨rfl, trivial⟩ ⟨rfl, trivial⟩ ⟨rfl, trivial⟩ rfl
          refine tr_ret ?_
          exact endsSG [_] [] (.cons (.cell rfl rfl Try.isAgg27 Try.sizeOf27 (nle rfl)) .nil) (.cons (.agg (.cons (.of .fro) (.cons (.of .fro) (.cons (.nilf _) .nil)))) .nil) (by decide) (outs1 (congrArg (fun x => some (2, x)) (congrArg pvRd (congrArg (Prod.mk cv) rfl))) (pvRd_flat _) (by decide))
        · skip
          replace h18 := of_decide_eq_false h18
          refine tr_skip ?_
          refine tr_seq ?_
          have hdv := (show diskV bs p = dkTail bs (d, q) from by rw [diskV, hEm]).trans (tail_3 (x := (d, q)) (by show ¬ belowV bs q 40 = 0; omega) (by show ¬ belowV bs q 40 = 1; omega) (by show ¬ belowV bs q 40 = 2; omega))
          rw [hdv]
          refine tr_region rfl (.run [] [] rfl (st_load_box rfl rfl rfl Try.isAgg27 Try.sizeOf27 (nle rfl)) (.run [] [] rfl (st_store_box rfl rfl rfl rfl rfl Try.sizeOf27 rfl (nle rfl)) .nil)) ?_
          refine tr_wk (wk_frz 1 rfl) ?_
          have hp19 : (some [.p none (.sl false 2 (((pvF d.live).drop 0).take ((pvF d.live).length))), .sl 2 0 ((pvF d.safe).length), .sl 3 0 ((pvD d.ops).length)] : Option (List AV)) = some [.p none (.sl false 2 (pvF d.live)), .sl 2 0 ((pvF d.safe).length), .sl 3 0 ((pvD d.ops).length)] := by simp only [frz_all]
          refine tr_wk (s' := mk [(2, .ptr 2 0)] [(2, [.p none (.sl false 2 (pvF d.live)), .sl 2 0 ((pvF d.safe).length), .sl 3 0 ((pvD d.ops).length)])] [(2, 2, pvF d.safe), (3, 4, pvD d.ops), (100000, 2, pvRd (cv, belowP bs q 40))]) ?_ ?_
          · exact wk_mk ⟨rfl, trivial⟩ ⟨hp19, trivial⟩ ⟨rfl, ⟨rfl, ⟨rfl, trivial⟩⟩⟩ rfl
          refine tr_wk (wk_frz 2 rfl) ?_
          have hp20 : (some [.p none (.sl false 2 (pvF d.live)), .p none (.sl false 2 (((pvF d.safe).drop 0).take ((pvF d.safe).length))), .sl 3 0 ((pvD d.ops).length)] : Option (List AV)) = some [.p none (.sl false 2 (pvF d.live)), .p none (.sl false 2 (pvF d.safe)), .sl 3 0 ((pvD d.ops).length)] := by simp only [frz_all]
          refine tr_wk (s' := mk [(2, .ptr 2 0)] [(2, [.p none (.sl false 2 (pvF d.live)), .p none (.sl false 2 (pvF d.safe)), .sl 3 0 ((pvD d.ops).length)])] [(3, 4, pvD d.ops), (100000, 2, pvRd (cv, belowP bs q 40))]) ?_ ?_
          · exact wk_mk ⟨rfl, trivial⟩ ⟨hp20, trivial⟩ ⟨rfl, ⟨rfl, trivial⟩⟩ rfl
          refine tr_wk (wk_frz 3 rfl) ?_
          have hp21 : (some [.p none (.sl false 2 (pvF d.live)), .p none (.sl false 2 (pvF d.safe)), .p none (.sl false 4 (((pvD d.ops).drop 0).take ((pvD d.ops).length)))] : Option (List AV)) = some [.p none (.sl false 2 (pvF d.live)), .p none (.sl false 2 (pvF d.safe)), .p none (.sl false 4 (pvD d.ops))] := by simp only [frz_all]
          refine tr_wk (s' := mk [(2, .ptr 2 0)] [(2, [.p none (.sl false 2 (pvF d.live)), .p none (.sl false 2 (pvF d.safe)), .p none (.sl false 4 (pvD d.ops))])] [(100000, 2, pvRd (cv, belowP bs q 40))]) ?_ ?_
          · exact wk_mk ⟨rfl, trivial⟩ ⟨hp21, trivial⟩ ⟨rfl, trivial⟩ rfl
          refine tr_ret ?_
          exact endsSG [_] [] (.cons (.cell rfl rfl Try.isAgg27 Try.sizeOf27 (nle rfl)) .nil) (.cons (.agg (.cons (.of .fro) (.cons (.of .fro) (.cons (.of .fro) .nil)))) .nil) (by decide) (outs1 (congrArg (fun x => some (2, x)) (congrArg pvRd (congrArg (Prod.mk cv) rfl))) (pvRd_flat _) (by decide))
end Go.Rl
namespace Go.Rl
theorem putGo_tot2 (n d : ByteArray) : ∀ (l : List Fil) (q : Bool), totF (putGo n d q l) = totF (cutF l n) + (if q then 0 else d.size)
  | [], q => by cases q <;> simp [putGo, totF, cutF]
  | f :: l, q => by
    have h1 := putGo_tot2 n d l true
    have h2 := putGo_tot2 n d l false
    simp only [putGo]
    cases q <;> cases ltB f.name n <;> by_cases hn : f.name = n <;> simp [hn, totF, cutF] at h1 h2 ⊢ <;> omega
theorem cut_tot1 (l : List Fil) (n : ByteArray) : totF (cutF l n) ≤ totF l := by have := cut_tot l n; omega
theorem done_tot1 (l : List Fil) (op : DOp) : totF (doneF l op).1 ≤ totF l + op.data.size := by
  have h0 := cut_tot l op.name
  unfold doneF
  split
  · have := putGo_tot2 op.name (datF l op.name ++ op.data) l false
    rw [size_app2] at this
    simp only [Bool.false_eq_true, if_false] at this
    show totF (putGo op.name (datF l op.name ++ op.data) false l) ≤ _
    omega
  · split
    · exact Nat.le_add_right _ _
    · split
      · have h1 := putGo_tot2 op.dest (datF l op.name) (cutF l op.name) false
        have h2 := cut_tot1 (cutF l op.name) op.dest
        simp only [Bool.false_eq_true, if_false] at h1
        show totF (putGo op.dest (datF l op.name) false (cutF l op.name)) ≤ _
        omega
      · show totF (cutF l op.name) ≤ _
        omega
def tornOp (torn : Int) (op : DOp) : DOp := ⟨op.kind, op.name, op.dest, op.data.extract 0 (min torn (op.data.size : Int)).toNat⟩
def opZ : DOp := ⟨0, ⟨#[]⟩, ⟨#[]⟩, ⟨#[]⟩⟩
def opAt (d : Dsk) (k : Int) : DOp := d.ops.getD k.toNat opZ
def keepBad (d : Dsk) (keep : List Int) (i : Nat) (k : Int) : Bool := !(within k 0 ((d.ops.length : Int) - 1)) || (decide (0 < i) && match keep[i - 1]? with
  | some y => decide (k ≤ y)
  | none => false)
def crashOp (d : Dsk) (keep : List Int) (torn : Int) (i : Nat) (k : Int) : DOp := if i + 1 = keep.length then tornOp torn (opAt d k) else opAt d k
def crashRun (d : Dsk) (keep : List Int) (torn : Int) : Nat → List Int → List Fil → Option (List Fil)
  | _, [], f => some f
  | i, k :: ks, f => if keepBad d keep i k = true then none else crashRun d keep torn (i + 1) ks (doneF f (crashOp d keep torn i k)).1
def crashF (d : Dsk) (keep : List Int) (torn : Int) : Dsk × Bool := if torn < 0 then (dskZ, false) else match crashRun d keep torn 0 keep d.safe with
  | none => (dskZ, false)
  | some f => if fitF f = true then (⟨f, f, []⟩, true) else (dskZ, false)
def crashD (d : Dsk) (keep : List Int) (torn : Int) : Dsk × Bool := if diskOk d = true then crashF d keep torn else (dskZ, false)
theorem crash_step {d : Dsk} {keep : List Int} {torn : Int} {i : Nat} {k : Int} {f : List Fil} {r : Option (List Fil)} (h : crashRun d keep torn i (keep.drop i) f = r) (he : keep[i]? = some k) (hb : keepBad d keep i k = false) : crashRun d keep torn (i + 1) (keep.drop (i + 1)) (doneF f (crashOp d keep torn i k)).1 = r := by
  rw [drop_at he, crashRun, if_neg (by simp [hb])] at h
  exact h
theorem crash_bad {d : Dsk} {keep : List Int} {torn : Int} {i : Nat} {k : Int} {f : List Fil} (ht : ¬ torn < 0) (h : crashRun d keep torn i (keep.drop i) f = crashRun d keep torn 0 keep d.safe) (he : keep[i]? = some k) (hb : keepBad d keep i k = true) : crashF d keep torn = (dskZ, false) := by
  rw [drop_at he, crashRun, if_pos hb] at h
  rw [crashF, if_neg ht, ← h]
theorem crash_end {d : Dsk} {keep : List Int} {torn : Int} {i : Nat} {f : List Fil} (ht : ¬ torn < 0) (h : crashRun d keep torn i (keep.drop i) f = crashRun d keep torn 0 keep d.safe) (hi : keep.length ≤ i) : crashF d keep torn = if fitF f = true then (⟨f, f, []⟩, true) else (dskZ, false) := by
  rw [List.drop_of_length_le hi, crashRun] at h
  rw [crashF, if_neg ht, ← h]
theorem replay_form {l m : List Fil} : ∀ {ops : List DOp}, replayF l ops = some m → ∀ op ∈ ops, formF op = true
  | [], _, op, h => by cases h
  | o :: ops, h, op, hm => by
    rw [replayF] at h
    split at h
    · rename_i hc
      rcases List.mem_cons.1 hm with rfl | hm
      · exact hc.1
      · exact replay_form h op hm
    · cases h
theorem ok_form {d : Dsk} (h : diskOk d = true) : ∀ op ∈ d.ops, formF op = true := replay_form (ok_rep h)
theorem opAt_mem {d : Dsk} {k : Int} {e : DOp} (he : d.ops[k.toNat]? = some e) : opAt d k = e := by rw [opAt, List.getD_eq_getElem?_getD, he]; rfl
theorem torn_form {op : DOp} (torn : Int) (h : formF op = true) : formF (tornOp torn op) = true := by
  cases op with | mk k n t dt =>
  unfold formF at h ⊢
  unfold tornOp
  by_cases hk : k = 1
  · subst hk
    simpa using h
  · have hd : dt = ⟨#[]⟩ := by
      simp only [Bool.and_eq_true, Bool.or_eq_true, decide_eq_true_eq] at h
      exact h.2.resolve_left hk
    subst hd
    have he : (⟨#[]⟩ : ByteArray).extract 0 (min torn ((⟨#[]⟩ : ByteArray).size : Int)).toNat = ⟨#[]⟩ := by
      apply ByteArray.ext
      simp
    simp only [he]
    exact h
theorem torn_size {op : DOp} (torn : Int) : (tornOp torn op).data.size ≤ op.data.size := by
  simp only [tornOp, ByteArray.size_extract]
  omega
theorem keep_ok {d : Dsk} {keep : List Int} {i : Nat} {k : Int} (h : keepBad d keep i k = false) : 0 ≤ k ∧ k < d.ops.length := by
  simp only [keepBad, within, Bool.or_eq_false_iff, Bool.not_eq_false', Bool.and_eq_true, decide_eq_true_eq] at h
  omega
theorem keep_win {d : Dsk} {keep : List Int} {i : Nat} {k : Int} (h : within k 0 ((d.ops.length : Int) - 1) = false) : keepBad d keep i k = true := by simp [keepBad, h]
theorem keep_le {d : Dsk} {keep : List Int} {i : Nat} {k y : Int} (hi : 0 < i) (hy : keep[i - 1]? = some y) (h : k ≤ y) : keepBad d keep i k = true := by simp [keepBad, hi, hy, h]
theorem keep_fst {d : Dsk} {keep : List Int} {i : Nat} {k : Int} (h : within k 0 ((d.ops.length : Int) - 1) = true) (hi : ¬ 0 < i) : keepBad d keep i k = false := by simp [keepBad, h, hi]
theorem keep_nxt {d : Dsk} {keep : List Int} {i : Nat} {k y : Int} (h : within k 0 ((d.ops.length : Int) - 1) = true) (hy : keep[i - 1]? = some y) (hc : ¬ k ≤ y) : keepBad d keep i k = false := by simp [keepBad, h, hy, hc]
/-! #### all ops are kept, whole -/
def allK (n : Nat) : List Int := (List.range n).map Int.ofNat
theorem torn_all {op : DOp} {torn : Int} (h : (op.data.size : Int) ≤ torn) : tornOp torn op = op := by
  have : (min torn (op.data.size : Int)).toNat = op.data.size := by omega
  cases op with | mk k n t dt =>
  simp only [tornOp] at this ⊢
  rw [this]
  congr 1
  apply ByteArray.ext
  simp
theorem crash_off {d : Dsk} {keep : List Int} {torn : Int} (h : diskOk d = false) : crashD d keep torn = (dskZ, false) := by rw [crashD, if_neg (by simp [h])]
end Go.Rl
namespace Go.Rl
open Go.RowKit
section
variable {γ : Gho} {P : Program} {n : Nat} {o : Oper} {M B : List Nat} {s : St}
theorem st_min {x y : Operand} {ats : Array TypeId} (ho : o.op = .call { callee := .builtin .min, args := #[x, y], argTypes := ats }) {d d' : Option Nat} {k : IntKind} {a b : Int} (hx : s.ev x = .p d (.v (.int k a))) (hy : s.ev y = .p d' (.v (.int k b))) :
    StepD γ P n o M B s { put := .p none (.v (.int k (min a b))) } :=
  stepD_pure fun s' ag w0 I L ac w hr => by
    have h1 := hr.evv ((ag.ev1 ho (by simp [Op.operands, Call.operands])).trans hx)
    have h2 := hr.evv ((ag.ev1 ho (by simp [Op.operands, Call.operands])).trans hy)
    refine ⟨_, ?_, avr_flat L w s' rfl⟩
    by_cases hlt : b < a
    · have : min a b = b := by omega
      simp [execOp, ho, resolve, invoke, builtin, Builtin.min_, Builtin.min2, h1, h2, hlt, this]
    · have : min a b = a := by omega
      simp [execOp, ho, resolve, invoke, builtin, Builtin.min_, Builtin.min2, h1, h2, hlt, this]
end
end Go.Rl

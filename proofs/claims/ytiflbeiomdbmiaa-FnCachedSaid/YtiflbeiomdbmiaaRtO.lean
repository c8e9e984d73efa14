/- Promises of functions, proved by walks over their operations; no conditions beyond those that each theorem states. -/
import Derived.Test.YtiflbeiomdbmiaaRtRd
import Derived.Test.YtiflbeiomdbmiaaRtC
namespace Go.Rl
open Go.Proofs
theorem en64 : ∀ vs w, (callFunc 64 vs).run Try.prog w = .ok (.enter 64 vs) w := enters Try.func64 (by decide) rfl
theorem en50 : ∀ vs w, (callFunc 50 vs).run Try.prog w = .ok (.enter 50 vs) w := enters Try.func50 (by decide) rfl
theorem en66 : ∀ vs w, (callFunc 66 vs).run Try.prog w = .ok (.enter 66 vs) w := enters Try.func66 (by decide) rfl
theorem en51 : ∀ vs w, (callFunc 51 vs).run Try.prog w = .ok (.enter 51 vs) w := enters Try.func51 (by decide) rfl
theorem en63 : ∀ vs w, (callFunc 63 vs).run Try.prog w = .ok (.enter 63 vs) w := enters Try.func63 (by decide) rfl
theorem next0_con {γ : Gho} (bs : List Nat) (A : Option Addr) (c p : Nat) (hp : p ≤ bs.length) (hl : bs.length ≤ 1152921504606846976) (hcc : bs = [] ∨ ∃ k off cur ty fz, A = some ⟨k, off, none⟩ ∧ γ = some (k, .cells cur ty fz) ∧ ∀ (i : Nat) (b : Nat), bs[i]? = some b → b < 256 ∧ cur[off + i]? = some (.int .u8 b)) : ConG γ Try.prog 64 [.rptr 2 [PV.v (.slice A bs.length c), PV.v (.int .i64 (p:Int))]] [some (pvRd (.slice A bs.length c, nextP bs p))] [.one (.v (.int .i64 ((nextV bs p : Nat) : Int)))] := by
  refine con_of_tr Try.func64 rfl rfl rfl rfl ?_
  refine tr_seq ?_
  refine tr_region rfl (.run [] [] rfl (st_assign rfl) .nil) ?_
  refine tr_seq ?_
  refine tr_seq ?_
  refine tr_regionD mixed rfl (.run [] [] rfl (st_move rfl) (.run [] [] rfl (st_nilcheck_ea rfl rfl) (.run [] [] rfl (st_faddr_ea rfl rfl Try.underlying68 rfl Try.sizeOf3 (by decide)) (.run [] [] rfl (st_load_ea1 rfl rfl rfl rfl Try.isAgg3 rfl) (.run [] [] rfl (st_move rfl) (.run [] [] rfl (st_nilcheck_ea rfl rfl) (.run [] [] rfl (st_faddr_ea rfl rfl Try.underlying68 rfl Try.sizeOf22 (by decide)) (.run [] [] rfl (st_load_ea1 rfl rfl rfl rfl Try.isAgg22 rfl) (.run [] [] rfl (st_len_v rfl rfl Try.underlying22) (.run [] [] rfl (st_geq rfl rfl rfl) .nil)))))))))) (by kernel_rfl) ?_
  refine tr_if (t := decide ((bs.length : Int) ≤ (p:Int))) rfl (fun h1 => ?_) (fun h1 => ?_)
  · skip
    replace h1 := of_decide_eq_true h1
    refine tr_seq ?_
    have hne := next_end (bs := bs) (p := p) (by omega)
    refine tr_region rfl (.run [] [] rfl (st_assign rfl) .nil) ?_
    refine tr_ret ?_
    exact ends [_] [] (.cons (.tmp (int_eq (by rw [hne.1]; rfl))) .nil) (.cons (.one .v (.v _)) .nil) (by decide) (outs1 (congrArg (fun x => some (2, x)) (by rw [hne.2]; rfl)) (pvRd_flat _) (by decide))
  · skip
    replace h1 := of_decide_eq_false h1
    refine tr_skip ?_
    refine tr_seq ?_
    obtain ⟨k, off, cur, ty, fz, rfl, hg, hcur⟩ : ∃ k off cur ty fz, A = some ⟨k, off, none⟩ ∧ γ = some (k, .cells cur ty fz) ∧ ∀ (i : Nat) (b : Nat), bs[i]? = some b → b < 256 ∧ cur[off + i]? = some (.int .u8 b) := by
      rcases hcc with rfl | h
      · simp at h1
      · exact h
    have hlt : p < bs.length := (by omega)
    obtain ⟨b, hb⟩ : ∃ b, bs[p]? = some b := ⟨_, List.getElem?_eq_getElem hlt⟩
    obtain ⟨hb1, hb2⟩ := hcur p b hb
    have hni := next_in hb
    refine tr_wk (s' := mk [(0, .ea 100000 0 0)] [] [(100000, 2, pvRd (.slice (some ⟨k, off, none⟩) bs.length c, p))]) ?_ ?_
    · exact wk_mk ⟨rfl, trivial⟩ trivial ⟨rfl, trivial⟩ rfl
    refine tr_region rfl (.run [] [] rfl (st_move rfl) (.run [] [] rfl (st_nilcheck_ea rfl rfl) (.run [] [] rfl (st_faddr_ea rfl rfl Try.underlying68 rfl Try.sizeOf3 (by decide)) (.run [] [] rfl (st_load_ea1 rfl rfl rfl rfl Try.isAgg3 rfl) (.run [] [] rfl (st_addn rfl rfl rfl (by omega)) (.run [] [] rfl (st_nilcheck_ea rfl rfl) (.run [] [] rfl (st_faddr_ea rfl rfl Try.underlying68 rfl Try.sizeOf3 (by decide)) (.run [] [] rfl (st_store_row rfl rfl rfl (FlatP.nf (pvRd_flat _)) rfl rfl rfl (.cons .v .nil) Try.sizeOf3 rfl (nle rfl)) .nil)))))))) ?_
    have hr2 : (pvRd (.slice (some ⟨k, off, none⟩) bs.length c, p)).set 0 [PV.v (.slice (some ⟨k, off, none⟩) bs.length c), PV.v (.int .i64 ((p:Int) + 1))] = pvRd (.slice (some ⟨k, off, none⟩) bs.length c, p + 1) := by rfl
    refine tr_wk (s' := mk [(0, .ea 100000 0 0)] [] [(100000, 2, pvRd (.slice (some ⟨k, off, none⟩) bs.length c, p + 1))]) ?_ ?_
    · exact wk_mk ⟨rfl, trivial⟩ trivial ⟨(congrArg (fun x => some (2, x)) hr2), trivial⟩ rfl
    refine tr_seq ?_
    refine tr_regionD mixed rfl (.run [] [] rfl (st_move rfl) (.run [] [] rfl (st_nilcheck_ea rfl rfl) (.run [] [] rfl (st_faddr_ea rfl rfl Try.underlying68 rfl Try.sizeOf22 (by decide)) (.run [] [] rfl (st_load_ea1 rfl rfl rfl rfl Try.isAgg22 rfl) (.run [] [] rfl (st_move rfl) (.run [] [] rfl (st_nilcheck_ea rfl rfl) (.run [] [] rfl (st_faddr_ea rfl rfl Try.underlying68 rfl Try.sizeOf3 (by decide)) (.run [] [] rfl (st_load_ea1 rfl rfl rfl rfl Try.isAgg3 rfl) (.run [] [] rfl (st_subn rfl rfl rfl (by omega)) (.run [] [] rfl (st_idx_v rfl rfl rfl Try.underlying22 Try.sizeOf5 (j := p) (by omega) hlt) (.run [] [] rfl (st_load_v rfl hg rfl hb2 rfl Try.isAgg5) (.run [] [] rfl (st_convn rfl rfl Try.underlying5 Try.underlying3 (by omega)) (.run [] [] rfl (st_assign rfl) .nil))))))))))))) (by kernel_rfl) ?_
    refine tr_ret ?_
    exact ends [_] [] (.cons (.tmp (int_eq (by rw [hni.1]))) .nil) (.cons (.one .v (.v _)) .nil) (by decide) (outs1 (congrArg (fun x => some (2, x)) (by rw [hni.2])) (pvRd_flat _) (by decide))
theorem next_con {γ : Gho} {cv : Value} {bs : List Nat} (hc : CodeAt γ cv bs) (hl : bs.length ≤ 1152921504606846976) (p : Nat) (hp : p ≤ bs.length) : ConG γ Try.prog 64 [.rptr 2 [.v cv, .v (.int .i64 (p:Int))]] [some (pvRd (cv, nextP bs p))] [.one (.v (.int .i64 ((nextV bs p : Nat) : Int)))] := by
  obtain ⟨A, c, rfl, hcc⟩ := hc
  exact next0_con bs A c p hp hl hcc
theorem below_con {γ : Gho} {cv : Value} {bs : List Nat} (hc : CodeAt γ cv bs) (hl : bs.length ≤ 1152921504606846976) (p : Nat) (hp : p ≤ bs.length) (n : Nat) (hn : n ≤ 1000000) : ConG γ Try.prog 50 [.rptr 2 [PV.v (cv), PV.v (.int .i64 (p:Int))], .one (PV.v (.int .i64 (n:Int)))] [some (pvRd (cv, belowP bs p n))] [.one (.v (.int .i64 ((belowV bs p n : Nat) : Int)))] := by
  refine con_of_tr Try.func50 rfl rfl rfl rfl ?_
  refine tr_seq ?_
  refine tr_region rfl (.run [] [] rfl (st_assign rfl) .nil) ?_
  refine tr_seq ?_
  refine tr_seq ?_
  refine tr_region rfl (.run [] [] rfl (st_move rfl) (.run [] [] rfl (st_leq rfl rfl rfl) .nil)) ?_
  refine tr_if (t := decide ((n:Int) ≤ 1)) rfl (fun h1 => ?_) (fun h1 => ?_)
  · skip
    replace h1 := of_decide_eq_true h1
    refine tr_seq ?_
    have hb := below_1 (bs := bs) (p := p) (n := n) (by omega)
    refine tr_region rfl (.run [] [] rfl (st_assign rfl) .nil) ?_
    refine tr_ret ?_
    exact ends [_] [] (.cons (.tmp (int_eq (by rw [hb.1]; rfl))) .nil) (.cons (.one .v (.v _)) .nil) (by decide) (outs1 (congrArg (fun x => some (2, x)) (congrArg pvRd (congrArg (Prod.mk cv) (by rw [hb.2])))) (pvRd_flat _) (by decide))
  · skip
    replace h1 := of_decide_eq_false h1
    refine tr_skip ?_
    refine tr_seq ?_
    refine tr_seq ?_
    refine tr_region rfl (.run [] [] rfl (st_move rfl) (.run [] [] rfl (st_leq rfl rfl rfl) .nil)) ?_
    refine tr_if (t := decide ((n:Int) ≤ 256)) rfl (fun h2 => ?_) (fun h2 => ?_)
    · skip
      replace h2 := of_decide_eq_true h2
      refine tr_seq ?_
      have hb := below_2 (bs := bs) (p := p) (n := n) (by omega) (by omega)
      have hv := nextV_lt (code_bytes hc) p
      refine tr_region rfl (.run [] [] rfl (st_move rfl) (.run [100000, 1100] [] rfl (st_callG (.inr rfl) rfl 1100 (X := [100000]) en64 rfl (.val nod) (.cons (.rptr rfl) .nil) (by decide) (all_cons rfl all_nil) (.keep (xs := pvRd (cv, p)) rfl (FlatP.nf (pvRd_flat _)) .nil) (next_con hc hl p hp) rfl rfl (nle rfl)) (.run [] [] rfl (st_move rfl) (.run [] [] rfl (st_rem rfl rfl rfl (by omega)) (.run [] [] rfl (st_assign rfl) .nil))))) ?_
      refine tr_ret ?_
      exact ends [_] [] (.cons (.tmp (int_eq (by rw [hb.1]; rfl))) .nil) (.cons (.one .v (.v _)) .nil) (by decide) (outs1 (congrArg (fun x => some (2, x)) (congrArg pvRd (congrArg (Prod.mk cv) (by rw [hb.2])))) (pvRd_flat _) (by decide))
    · skip
      replace h2 := of_decide_eq_false h2
      refine tr_skip ?_
      refine tr_seq ?_
      have hb := below_3 (bs := bs) (p := p) (n := n) (by omega) (by omega)
      have hv := nextV_lt (code_bytes hc) p
      have hv2 := nextV_lt (code_bytes hc) (nextP bs p)
      refine tr_region rfl (.run [] [] rfl (st_move rfl) (.run [100000, 1500] [] rfl (st_callG (.inr rfl) rfl 1500 (X := [100000]) en64 rfl (.val nod) (.cons (.rptr rfl) .nil) (by decide) (all_cons rfl all_nil) (.keep (xs := pvRd (cv, p)) rfl (FlatP.nf (pvRd_flat _)) .nil) (next_con hc hl p hp) rfl rfl (nle rfl)) (.run [] [] rfl (st_muln rfl rfl rfl (by omega)) (.run [] [] rfl (st_assign rfl) .nil)))) ?_
      refine tr_seq ?_
      refine tr_region rfl (.run [] [] rfl (st_move rfl) (.run [] [] rfl (st_move rfl) (.run [100000, 1900] [] rfl (st_callG (.inr rfl) rfl 1900 (X := [100000]) en64 rfl (.val nod) (.cons (.rptr rfl) .nil) (by decide) (all_cons rfl all_nil) (.keep (xs := pvRd (cv, nextP bs p)) rfl (FlatP.nf (pvRd_flat _)) .nil) (next_con hc hl (nextP bs p) (nextP_le hp)) rfl rfl (nle rfl)) (.run [] [] rfl (st_addn rfl rfl rfl (by omega)) (.run [] [] rfl (st_assign rfl) .nil))))) ?_
      refine tr_seq ?_
      refine tr_wk (s' := mk [(1, .p none (.v (.int .i64 (n:Int)))), (5, .p none (.v (.int .i64 ((((nextV bs p : Nat) : Int) * 256) + ((nextV bs (nextP bs p) : Nat) : Int)))))] [] [(100000, 2, pvRd (cv, nextP bs (nextP bs p)))]) ?_ ?_
      · exact wk_mk ⟨rfl, ⟨rfl, trivial⟩⟩ trivial ⟨rfl, trivial⟩ rfl
      refine tr_region rfl (.run [] [] rfl (st_move rfl) (.run [] [] rfl (st_move rfl) (.run [] [] rfl (st_rem rfl rfl rfl (by omega)) (.run [] [] rfl (st_assign rfl) .nil)))) ?_
      refine tr_ret ?_
      exact ends [_] [] (.cons (.tmp (int_eq (by rw [hb.1]; rfl))) .nil) (.cons (.one .v (.v _)) .nil) (by decide) (outs1 (congrArg (fun x => some (2, x)) (congrArg pvRd (congrArg (Prod.mk cv) (by rw [hb.2])))) (pvRd_flat _) (by decide))
theorem once_con {γ : Gho} {cv : Value} {bs : List Nat} (hc : CodeAt γ cv bs) (hl : bs.length ≤ 1152921504606846976) (p : Nat) (hp : p ≤ bs.length) (n : Nat) (hn : 1 ≤ n ∧ n ≤ 1000000) : ConG γ Try.prog 51 [.rptr 2 [PV.v (cv), PV.v (.int .i64 (p:Int))], .one (PV.v (.int .i64 (n:Int)))] [some (pvRd (cv, belowP bs p n))] [.one (.v (.bool (onceV bs p n)))] := by
  refine con_of_tr Try.func51 rfl rfl rfl rfl ?_
  refine tr_seq ?_
  refine tr_region rfl (.run [] [] rfl (st_assign rfl) .nil) ?_
  refine tr_seq ?_
  refine tr_region rfl (.run [] [] rfl (st_move rfl) (.run [] [] rfl (st_move rfl) (.run [100000, 700] [] rfl (st_callG (.inr rfl) rfl 700 (X := [100000]) en50 rfl (.val nod) (.cons (.rptr rfl) (.cons (.one (.bor .v)) .nil)) (by decide) (all_cons rfl all_nil) (.keep (xs := pvRd (cv, p)) rfl (FlatP.nf (pvRd_flat _)) .nil) (below_con hc hl p hp n (by omega)) rfl rfl (nle rfl)) (.run [] [] rfl (st_move rfl) (.run [] [] rfl (st_subn rfl rfl rfl (by omega)) (.run [] [] rfl (st_eql rfl rfl rfl) (.run [] [] rfl (st_assign rfl) .nil))))))) ?_
  refine tr_ret ?_
  exact ends [_] [] (.cons (.tmp (bool_eq (by unfold onceV; rw [Bool.eq_iff_iff]; simp only [decide_eq_true_eq]; omega))) .nil) (.cons (.one .v (.v _)) .nil) (by decide) (outs1 (congrArg (fun x => some (2, x)) (congrArg pvRd (congrArg (Prod.mk cv) rfl))) (pvRd_flat _) (by decide))
theorem word_con {γ : Gho} {cv : Value} {bs : List Nat} (hc : CodeAt γ cv bs) (hl : bs.length ≤ 1152921504606846976) (p : Nat) (hp : p ≤ bs.length)  : ConG γ Try.prog 66 [.rptr 2 [PV.v (cv), PV.v (.int .i64 (p:Int))]] [some (pvRd (cv, wordP bs p))] [.one (.v (.int .u64 (wordV bs p)))] := by
  refine con_of_tr Try.func66 rfl rfl rfl rfl ?_
  refine tr_seq ?_
  refine tr_region rfl (.run [] [] rfl (st_assign rfl) .nil) ?_
  refine tr_seq ?_
  refine tr_region rfl (.run [] [] rfl (st_assign rfl) .nil) ?_
  refine tr_seq ?_
  refine tr_seq ?_
  refine tr_region rfl (.run [] [] rfl (st_assign rfl) .nil) ?_
  refine tr_block ?_
  refine tr_loopS (σ := Nat × Int × Nat) (fun (i, x, q) => mk [(0, .ea 100000 0 0), (3, .p none (.v (.int .u64 x))), (4, .p none (.v (.int .i64 (i:Int))))] [] [(100000, 2, pvRd (cv, q))]) (fun (i, x, q) => i ≤ 8 ∧ q ≤ bs.length ∧ wordF bs (8 - i) x q = wordF bs 8 0 p) (fun (i, x, q) => 8 - i) (0, 0, p) ⟨Nat.zero_le _, hp, rfl⟩ (wk_mk ⟨rfl, ⟨rfl, ⟨(int_eq (by omega)), trivial⟩⟩⟩ trivial ⟨rfl, trivial⟩ rfl) ?_
  rintro ⟨i, x, q⟩ hG
  replace hG : i ≤ 8 ∧ q ≤ bs.length ∧ wordF bs (8 - i) x q = wordF bs 8 0 p := hG
  obtain ⟨hi, hp, hw⟩ := hG
  refine tr_seq ?_
  refine tr_seq ?_
  refine tr_region rfl (.run [] [] rfl (st_move rfl) (.run [] [] rfl (st_lss rfl rfl rfl) .nil)) ?_
  refine tr_if (t := decide ((i:Int) < 8)) rfl (fun h1 => ?_) (fun h1 => ?_)
  · skip
    replace h1 := of_decide_eq_true h1
    refine tr_skip ?_
    refine tr_seq ?_
    refine tr_block ?_
    refine tr_region rfl (.run [] [] rfl (st_move rfl) (.run [] [] rfl (st_shl rfl rfl rfl (by omega)) (.run [] [] rfl (st_move rfl) (.run [100000, 1200] [] rfl (st_callG (.inr rfl) rfl 1200 (X := [100000]) en64 rfl (.val nod) (.cons (.rptr rfl) .nil) (by decide) (all_cons rfl all_nil) (.keep (xs := pvRd (cv, q)) rfl (FlatP.nf (pvRd_flat _)) .nil) (next_con hc hl q hp) rfl rfl (nle rfl)) (.run [] [] rfl (st_conv rfl rfl Try.underlying3 Try.underlying82) (.run [] [] rfl (st_bits rfl (.inr (.inl rfl)) rfl rfl) (.run [] [] rfl (st_assign rfl) .nil))))))) ?_
    refine tr_region rfl (.run [] [] rfl (st_move rfl) (.run [] [] rfl (st_addn rfl rfl rfl (by omega)) (.run [] [] rfl (st_assign rfl) .nil))) ?_
-- round row 100000: pvRd (cv, (nextP bs q)) now pvRd (cv, nextP bs q)
    refine nxt (Q := fun _ _ => False) (z := (i, x, q)) (i + 1, wordStep x (nextV bs q), nextP bs q) ?_ ?_ ?_
    · show (i + 1) ≤ 8 ∧ (nextP bs q) ≤ bs.length ∧ wordF bs (8 - (i + 1)) (wordStep x (nextV bs q)) (nextP bs q) = wordF bs 8 0 p
      exact ⟨by omega, nextP_le hp, by rw [← hw, show 8 - i = (8 - (i + 1)) + 1 by omega]; rfl⟩
    · show 8 - (i + 1) < 8 - i
      omega
    · exact wk_mk ⟨rfl, ⟨(int_eq (by rfl)), ⟨(int_eq (by omega)), trivial⟩⟩⟩ trivial ⟨rfl, trivial⟩ rfl
  · skip
    replace h1 := of_decide_eq_false h1
    refine tr_exit ?_
    refine tr_seq ?_
    refine tr_region rfl (.run [] [] rfl (st_move rfl) (.run [] [] rfl (st_assign rfl) .nil)) ?_
    refine tr_ret ?_
    exact ends [_] [] (.cons (.tmp (int_eq (by rw [show i = 8 by omega] at hw; exact congrArg Prod.fst hw))) .nil) (.cons (.one .v (.v _)) .nil) (by decide) (outs1 (congrArg (fun x => some (2, x)) (congrArg pvRd (congrArg (Prod.mk cv) (by rw [show i = 8 by omega] at hw; exact congrArg Prod.snd hw)))) (pvRd_flat _) (by decide))
theorem near_con {γ : Gho} {cv : Value} {bs : List Nat} (hc : CodeAt γ cv bs) (hl : bs.length ≤ 1152921504606846976) (p : Nat) (hp : p ≤ bs.length) (low high : Int) (hlo : -1000000000000000 ≤ low) (hhi : high ≤ 1000000000000000) : ConG γ Try.prog 63 [.rptr 2 [PV.v (cv), PV.v (.int .i64 (p:Int))], .one (PV.v (.int .i64 low)), .one (PV.v (.int .i64 high))] [some (pvRd (cv, nearP bs p low high))] [.one (.v (.int .i64 (nearV bs p low high)))] := by
  refine con_of_tr Try.func63 rfl rfl rfl rfl ?_
  refine tr_seq ?_
  refine tr_region rfl (.run [] [] rfl (st_assign rfl) .nil) ?_
  refine tr_seq ?_
  refine tr_seq ?_
  refine tr_region rfl (.run [] [] rfl (st_move rfl) (.run [100000, 800] [] rfl (st_callG (.inr rfl) rfl 800 (X := [100000]) en50 rfl (.val nod) (.cons (.rptr rfl) (.cons (.one (.bor .v)) .nil)) (by decide) (all_cons rfl all_nil) (.keep (xs := pvRd (cv, p)) rfl (FlatP.nf (pvRd_flat _)) .nil) (below_con hc hl p hp 8 (by omega)) rfl rfl (nle rfl)) .nil)) ?_
  refine tr_block ?_
  refine tr_seq ?_
  refine tr_region rfl (.run [] [] rfl (st_eql rfl rfl rfl) (.run [] [] rfl (st_assign rfl) .nil)) ?_
  refine tr_if (t := decide (((belowV bs p 8 : Nat) : Int) = 0)) rfl (fun h1 => ?_) (fun h1 => ?_)
  · skip
    replace h1 := of_decide_eq_true h1
    refine tr_seq ?_
    have hn := near_a (bs := bs) (p := p) (low := low) (high := high) (by omega)
    refine tr_region rfl (.run [] [] rfl (st_move rfl) (.run [] [] rfl (st_assign rfl) .nil)) ?_
    refine tr_ret ?_
    exact ends [_] [] (.cons (.tmp (int_eq hn.1.symm)) .nil) (.cons (.one .v (.v _)) .nil) (by decide) (outs1 (congrArg (fun x => some (2, x)) (congrArg pvRd (congrArg (Prod.mk cv) hn.2.symm))) (pvRd_flat _) (by decide))
  · skip
    replace h1 := of_decide_eq_false h1
    refine tr_seq ?_
    refine tr_region rfl (.run [] [] rfl (st_eql rfl rfl rfl) (.run [] [] rfl (st_assign rfl) .nil)) ?_
    refine tr_if (t := decide (((belowV bs p 8 : Nat) : Int) = 1)) rfl (fun h2 => ?_) (fun h2 => ?_)
    · skip
      replace h2 := of_decide_eq_true h2
      refine tr_seq ?_
      have hn := near_b (bs := bs) (p := p) (low := low) (high := high) (by omega)
      refine tr_region rfl (.run [] [] rfl (st_move rfl) (.run [] [] rfl (st_assign rfl) .nil)) ?_
      refine tr_ret ?_
      exact ends [_] [] (.cons (.tmp (int_eq hn.1.symm)) .nil) (.cons (.one .v (.v _)) .nil) (by decide) (outs1 (congrArg (fun x => some (2, x)) (congrArg pvRd (congrArg (Prod.mk cv) hn.2.symm))) (pvRd_flat _) (by decide))
    · skip
      replace h2 := of_decide_eq_false h2
      refine tr_skip ?_
      refine tr_seq ?_
      refine tr_seq ?_
      refine tr_region rfl (.run [] [] rfl (st_move rfl) (.run [] [] rfl (st_move rfl) (.run [] [] rfl (st_lss rfl rfl rfl) .nil))) ?_
      refine tr_if (t := decide (high < low)) rfl (fun h3 => ?_) (fun h3 => ?_)
      · skip
        replace h3 := of_decide_eq_true h3
        refine tr_seq ?_
        have hn := near_c (bs := bs) (p := p) (low := low) (high := high) (by omega) (by omega) (by omega)
        refine tr_region rfl (.run [] [] rfl (st_move rfl) (.run [] [] rfl (st_assign rfl) .nil)) ?_
        refine tr_ret ?_
        exact ends [_] [] (.cons (.tmp (int_eq hn.1.symm)) .nil) (.cons (.one .v (.v _)) .nil) (by decide) (outs1 (congrArg (fun x => some (2, x)) (congrArg pvRd (congrArg (Prod.mk cv) hn.2.symm))) (pvRd_flat _) (by decide))
      · skip
        replace h3 := of_decide_eq_false h3
        refine tr_skip ?_
        refine tr_seq ?_
        have hwr : IntKind.u64.wrap (high - low + 1) = high - low + 1 := by rw [IntKind.wrap_u64]; omega
        have hn := near_d (bs := bs) (p := p) (low := low) (high := high) (by omega) (by omega) (by omega)
        refine tr_wk (s' := mk [(0, .ea 100000 0 0), (1, .p none (.v (.int .i64 low))), (2, .p none (.v (.int .i64 high)))] [] [(100000, 2, pvRd (cv, belowP bs p 8))]) ?_ ?_
        · exact wk_mk ⟨rfl, ⟨rfl, ⟨rfl, trivial⟩⟩⟩ trivial ⟨rfl, trivial⟩ rfl
        refine tr_region rfl (.run [] [] rfl (st_move rfl) (.run [] [] rfl (st_move rfl) (.run [100000, 2100] [] rfl (st_callG (.inr rfl) rfl 2100 (X := [100000]) en66 rfl (.val nod) (.cons (.rptr rfl) .nil) (by decide) (all_cons rfl all_nil) (.keep (xs := pvRd (cv, belowP bs p 8)) rfl (FlatP.nf (pvRd_flat _)) .nil) (word_con hc hl (belowP bs p 8) (belowP_le hp)) rfl rfl (nle rfl)) (.run [] [] rfl (st_shr rfl rfl rfl (by omega)) (.run [] [] rfl (st_move rfl) (.run [] [] rfl (st_move rfl) (.run [] [] rfl (st_subn rfl rfl rfl (by omega)) (.run [] [] rfl (st_addn rfl rfl rfl (by omega)) (.run [] [] rfl (st_conv rfl rfl Try.underlying2 Try.underlying82) (.run [] [] rfl (st_rem rfl rfl rfl (by omega)) (.run [] [] rfl (st_conv rfl rfl Try.underlying82 Try.underlying2) (.run [] [] rfl (st_add rfl rfl rfl) (.run [] [] rfl (st_assign rfl) .nil))))))))))))) ?_
        refine tr_ret ?_
        exact ends [_] [] (.cons (.tmp (int_eq hn.1.symm)) .nil) (.cons (.one .v (.v _)) .nil) (by decide) (outs1 (congrArg (fun x => some (2, x)) (congrArg pvRd (congrArg (Prod.mk cv) hn.2.symm))) (pvRd_flat _) (by decide))
theorem off_con {γ : Gho} {cv : Value} {bs : List Nat} (hc : CodeAt γ cv bs) (hl : bs.length ≤ 1152921504606846976) (p : Nat) (hp : p ≤ bs.length) (low high : Int) (hlo : -1000000000000000 ≤ low ∧ low ≤ 1000000000000000) (hhi : -1000000000000000 ≤ high ∧ high ≤ 1000000000000000) : ConG γ Try.prog 49 [.rptr 2 [PV.v (cv), PV.v (.int .i64 (p:Int))], .one (PV.v (.int .i64 low)), .one (PV.v (.int .i64 high))] [some (pvRd (cv, offP bs p low high))] [.one (.v (.int .i64 (offV bs p low high)))] := by
  refine con_of_tr Try.func49 rfl rfl rfl rfl ?_
  refine tr_seq ?_
  refine tr_region rfl (.run [] [] rfl (st_assign rfl) .nil) ?_
  refine tr_seq ?_
  refine tr_seq ?_
  refine tr_region rfl (.run [] [] rfl (st_move rfl) (.run [100000, 800] [] rfl (st_callG (.inr rfl) rfl 800 (X := [100000]) en51 rfl (.val nod) (.cons (.rptr rfl) (.cons (.one (.bor .v)) .nil)) (by decide) (all_cons rfl all_nil) (.keep (xs := pvRd (cv, p)) rfl (FlatP.nf (pvRd_flat _)) .nil) (once_con hc hl p hp 24 (by omega)) rfl rfl (nle rfl)) .nil)) ?_
  refine tr_if (t := onceV bs p 24) rfl (fun h1 => ?_) (fun h1 => ?_)
  · skip
    refine tr_seq ?_
    refine tr_region rfl (.run [] [] rfl (st_move rfl) (.run [] [] rfl (st_subn rfl rfl rfl (by omega)) (.run [] [] rfl (st_move rfl) (.run [] [] rfl (st_addn rfl rfl rfl (by omega)) (.run [1300] [] rfl (st_buildSlice rfl 1300 Try.underlying80 inf2 (nle rfl) (by decide) rfl rfl rfl (.cons .v (.cons .v (.cons .v (.cons .v .nil)))) (by decide) rfl (by decide) rfl (by decide) rfl) (.run [] [] rfl (st_move rfl) (.run [100000, 1500] [] rfl (st_callG (.inr rfl) rfl 1500 (X := [100000]) en50 rfl (.val nod) (.cons (.rptr rfl) (.cons (.one (.bor .v)) .nil)) (by decide) (all_cons rfl all_nil) (.keep (xs := pvRd (cv, belowP bs p 24)) rfl (FlatP.nf (pvRd_flat _)) .nil) (below_con hc hl (belowP bs p 24) (belowP_le hp) 4 (by omega)) rfl rfl (nle rfl)) (.run [] [] rfl (st_idx_row0 (belowV bs (belowP bs p 24) 4) rfl rfl rfl rfl Try.underlying80 Try.sizeOf2 rfl rfl (belowV_lt (by decide))) (.run [] [] rfl (st_load_ea1 rfl rfl rfl (pvI_get (off_get bs (belowP bs p 24) low high)) Try.isAgg2 rfl) (.run [] [] rfl (st_assign rfl) .nil)))))))))) ?_
    refine tr_ret ?_
    exact ends [_] [] (.cons (.tmp (int_eq (by rw [offV, if_pos h1]))) .nil) (.cons (.one .v (.v _)) .nil) (by decide) (outs1 (congrArg (fun x => some (2, x)) (congrArg pvRd (congrArg (Prod.mk cv) (by rw [offP, if_pos h1])))) (pvRd_flat _) (by decide))
  · skip
    refine tr_skip ?_
    refine tr_seq ?_
    refine tr_region rfl (.run [] [] rfl (st_move rfl) (.run [] [] rfl (st_move rfl) (.run [] [] rfl (st_move rfl) (.run [100000, 2100] [] rfl (st_callG (.inr rfl) rfl 2100 (X := [100000]) en63 rfl (.val nod) (.cons (.rptr rfl) (.cons (.one (.bor .v)) (.cons (.one (.bor .v)) .nil))) (by decide) (all_cons rfl all_nil) (.keep (xs := pvRd (cv, belowP bs p 24)) rfl (FlatP.nf (pvRd_flat _)) .nil) (near_con hc hl (belowP bs p 24) (belowP_le hp) low high (by omega) (by omega)) rfl rfl (nle rfl)) (.run [] [] rfl (st_assign rfl) .nil))))) ?_
    refine tr_ret ?_
    exact ends [_] [] (.cons (.tmp (int_eq (by rw [offV, if_neg (by simp [h1])]))) .nil) (.cons (.one .v (.v _)) .nil) (by decide) (outs1 (congrArg (fun x => some (2, x)) (congrArg pvRd (congrArg (Prod.mk cv) (by rw [offP, if_neg (by simp [h1])])))) (pvRd_flat _) (by decide))
theorem user_con {γ : Gho} {cv : Value} {bs : List Nat} (hc : CodeAt γ cv bs) (hl : bs.length ≤ 1152921504606846976) (p : Nat) (hp : p ≤ bs.length)  : ConG γ Try.prog 28 [.rptr 2 [PV.v (cv), PV.v (.int .i64 (p:Int))]] [some (pvRd (cv, userP bs p))] [.one (.v (.string (userV bs p)))] := by
  refine con_of_tr Try.func28 rfl rfl rfl rfl ?_
  refine tr_seq ?_
  refine tr_region rfl (.run [] [] rfl (st_assign rfl) .nil) ?_
  refine tr_seq ?_
  refine tr_region rfl (.run [300] [] rfl (st_buildSlice (cs := [.p none (.v (.string ⟨#[97]⟩)), .p none (.v (.string ⟨#[98]⟩)), .p none (.v (.string ⟨#[97, 98]⟩)), .p none (.v (.string ⟨#[97, 98, 99]⟩)), .p none (.v (.string ⟨#[97, 98, 100]⟩)), .p none (.v (.string ⟨#[107, 101, 121]⟩)), .p none (.v (.string ⟨#[107, 101, 121, 49]⟩)), .p none (.v (.string ⟨#[107, 101, 121, 50]⟩)), .p none (.v (.string ⟨#[122, 122]⟩)), .p none (.v (.string ⟨#[97, 0]⟩))]) (ps := [PV.v (.string ⟨#[97]⟩), PV.v (.string ⟨#[98]⟩), PV.v (.string ⟨#[97, 98]⟩), PV.v (.string ⟨#[97, 98, 99]⟩), PV.v (.string ⟨#[97, 98, 100]⟩), PV.v (.string ⟨#[107, 101, 121]⟩), PV.v (.string ⟨#[107, 101, 121, 49]⟩), PV.v (.string ⟨#[107, 101, 121, 50]⟩), PV.v (.string ⟨#[122, 122]⟩), PV.v (.string ⟨#[97, 0]⟩)]) (xs := [[PV.v (.string ⟨#[97]⟩)], [PV.v (.string ⟨#[98]⟩)], [PV.v (.string ⟨#[97, 98]⟩)], [PV.v (.string ⟨#[97, 98, 99]⟩)], [PV.v (.string ⟨#[97, 98, 100]⟩)], [PV.v (.string ⟨#[107, 101, 121]⟩)], [PV.v (.string ⟨#[107, 101, 121, 49]⟩)], [PV.v (.string ⟨#[107, 101, 121, 50]⟩)], [PV.v (.string ⟨#[122, 122]⟩)], [PV.v (.string ⟨#[97, 0]⟩)]]) rfl 300 Try.underlying71 inf9 (nle rfl) (by decide) rfl rfl (by kernel_rfl) (.cons .v (.cons .v (.cons .v (.cons .v (.cons .v (.cons .v (.cons .v (.cons .v (.cons .v (.cons .v .nil)))))))))) (by decide) (by kernel_rfl) (by decide) rfl (by decide) rfl) (.run [] [] rfl (st_move rfl) (.run [100000, 500] [] rfl (st_callG (.inr rfl) rfl 500 (X := [100000]) en50 rfl (.val nod) (.cons (.rptr rfl) (.cons (.one (.bor .v)) .nil)) (by decide) (all_cons rfl all_nil) (.keep (xs := pvRd (cv, p)) rfl (FlatP.nf (pvRd_flat _)) .nil) (below_con hc hl p hp 10 (by omega)) rfl rfl (nle rfl)) (.run [] [] rfl (st_idx_row0 (belowV bs p 10) rfl rfl rfl rfl Try.underlying71 Try.sizeOf9 rfl rfl (belowV_lt (by decide))) (.run [] [] rfl (st_load_ea1 rfl rfl rfl (pvT_get (user_get bs p)) Try.isAgg9 rfl) (.run [] [] rfl (st_assign rfl) .nil)))))) ?_
  refine tr_ret ?_
  exact ends [_] [] (.cons (.tmp rfl) .nil) (.cons (.one .v (.v _)) .nil) (by decide) (outs1 (congrArg (fun x => some (2, x)) (congrArg pvRd (congrArg (Prod.mk cv) rfl))) (pvRd_flat _) (by decide))
end Go.Rl

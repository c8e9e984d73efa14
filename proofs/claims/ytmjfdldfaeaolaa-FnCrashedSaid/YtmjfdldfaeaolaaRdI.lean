/- Promises of functions, proved by walks over their operations; no conditions beyond those that each theorem states. -/
import Derived.Test.YtmjfdldfaeaolaaRdH
namespace Go.Rl
open Go.Proofs
theorem en56 : ∀ vs w, (callFunc 56 vs).run Try.prog w = .ok (.enter 56 vs) w := enters Try.func56 (by decide) rfl
theorem en57 : ∀ vs w, (callFunc 57 vs).run Try.prog w = .ok (.enter 57 vs) w := enters Try.func57 (by decide) rfl
theorem en58 : ∀ vs w, (callFunc 58 vs).run Try.prog w = .ok (.enter 58 vs) w := enters Try.func58 (by decide) rfl
theorem en59 : ∀ vs w, (callFunc 59 vs).run Try.prog w = .ok (.enter 59 vs) w := enters Try.func59 (by decide) rfl
theorem en60 : ∀ vs w, (callFunc 60 vs).run Try.prog w = .ok (.enter 60 vs) w := enters Try.func60 (by decide) rfl
theorem en61 : ∀ vs w, (callFunc 61 vs).run Try.prog w = .ok (.enter 61 vs) w := enters Try.func61 (by decide) rfl
theorem en62 : ∀ vs w, (callFunc 62 vs).run Try.prog w = .ok (.enter 62 vs) w := enters Try.func62 (by decide) rfl
theorem en63 : ∀ vs w, (callFunc 63 vs).run Try.prog w = .ok (.enter 63 vs) w := enters Try.func63 (by decide) rfl
theorem en64 : ∀ vs w, (callFunc 64 vs).run Try.prog w = .ok (.enter 64 vs) w := enters Try.func64 (by decide) rfl
theorem en65 : ∀ vs w, (callFunc 65 vs).run Try.prog w = .ok (.enter 65 vs) w := enters Try.func65 (by decide) rfl
def szD (d : Dsk) (x : Int) : Int := if szS wFil d.live x < 0 then -1 else if szS wFil d.safe (szS wFil d.live x) < 0 then -1 else szS wDOp d.ops (szS wFil d.safe (szS wFil d.live x))
theorem szD_bnd {d : Dsk} {x : Int} (h : ¬ szD d x < 0) (hx : x ≤ 1048576) : (0 ≤ szD d x ∧ szD d x ≤ 1048576) ∧ DB 1048576 d ∧ (∀ op ∈ d.ops, op.data.size ≤ 1048576) := by
  unfold szD at h ⊢
  split at h
  · omega
  · rename_i h1
    split at h
    · omega
    · rename_i h2
      rw [if_neg h1, if_neg h2]
      have e1 := szS_val h1; have e2 := szS_val h2; have e3 := szS_val h
      have g1 : totF d.live ≤ (d.live.map wFil).sum := sum_le (fun e => by unfold wFil; omega) _
      have g2 : totF d.safe ≤ (d.safe.map wFil).sum := sum_le (fun e => by unfold wFil; omega) _
      refine ⟨by omega, ⟨by omega, by omega, by omega, by omega, by omega⟩, fun op hop => ?_⟩
      have g3 := sum_mem (w := wDOp) hop
      have g4 : op.data.size ≤ wDOp op := by unfold wDOp; omega
      omega
def markDsk (k a b c : Nat) : Dsk := ⟨marksG markFil k a, marksG markFil (k + 2 * a) b, marksG markDOp (k + 2 * a + 2 * b) c⟩
theorem szL_m1 {α : Type} {w : α → Nat} : ∀ {l : List α} {x : Int}, szL w l x < 0 → 0 ≤ x → szL w l x = -1
  | [], x, h, hx => by rw [szL] at h; omega
  | e :: l, x, h, hx => by
    rw [szL] at h ⊢
    split
    · rfl
    · rename_i h1
      rw [if_neg h1] at h
      exact szL_m1 h (by omega)
theorem szS_m1 {α : Type} {w : α → Nat} {l : List α} {x : Int} (h : szS w l x < 0) (hx : 0 ≤ x) : szS w l x = -1 := by
  unfold szS at h ⊢
  split
  · rfl
  · rename_i h1
    rw [if_neg h1] at h
    exact szL_m1 h (by omega)
theorem heldF_self (k n : Nat) (hk : k + 2 * n ≤ 1099511627776) : Con Try.prog 64 [.one (PV.sl false 2 (pvF (marksG markFil k n))), .one (PV.v (.int .i64 (k:Int)))] [] [.one (.v (.int .i64 ((k + 2 * n : Nat) : Int)))] := by
  have := heldFileS_con (marksG markFil k n) k (by rw [gm_len]; exact hk)
  rwa [gheld_self] at this
theorem heldD_self (k n : Nat) (hk : k + 4 * n ≤ 1099511627776) : Con Try.prog 65 [.one (PV.sl false 4 (pvD (marksG markDOp k n))), .one (PV.v (.int .i64 (k:Int)))] [] [.one (.v (.int .i64 ((k + 4 * n : Nat) : Int)))] := by
  have := heldDOpS_con (marksG markDOp k n) k (by rw [gm_len]; exact hk)
  rwa [gheld_self] at this
set_option maxRecDepth 1000000 in
set_option maxHeartbeats 2000000 in
theorem szDisk_con (d : Dsk) (left : Int) (h0 : 0 ≤ left ∧ left ≤ 1048576) (hl1 : d.live.length ≤ 9223372036854775807) (hl2 : d.safe.length ≤ 9223372036854775807) (hl3 : d.ops.length ≤ 9223372036854775807) (hs1 : (∀ e ∈ d.live, e.name.size ≤ 9223372036854775807 ∧ e.data.size ≤ 9223372036854775807)) (hs2 : (∀ e ∈ d.safe, e.name.size ≤ 9223372036854775807 ∧ e.data.size ≤ 9223372036854775807)) (hs3 : (∀ e ∈ d.ops, e.name.size ≤ 9223372036854775807 ∧ e.dest.size ≤ 9223372036854775807 ∧ e.data.size ≤ 9223372036854775807)) : Con Try.prog 23 [.agg [PV.sl false 2 (pvF d.live), PV.sl false 2 (pvF d.safe), PV.sl false 4 (pvD d.ops)], .one (PV.v (.int .i64 left))] [] [.one (.v (.int .i64 (szD d left)))] := by
  refine con_of_tr Try.func23 rfl rfl rfl rfl ?_
  refine tr_seq ?_
  refine tr_region rfl (.run [] [2] rfl (st_box rfl 2 rfl rfl (by decide) rfl (by decide)) (.run [] [] rfl (st_assign rfl) .nil)) ?_
  refine tr_seq ?_
  refine tr_region rfl (.run [] [] rfl (st_faddr_box rfl rfl Try.underlying50 rfl Try.sizeOf47 (by decide)) (.run [] [] rfl (st_load_box1 rfl rfl rfl Try.isAgg47 rfl) (.run [] [] rfl (st_move rfl) (.run [800] [] rfl (st_call rfl 800 (X := []) en56 rfl (.val nod) (.cons (.one (.bor (.sl nod))) (.cons (.one (.bor .v)) .nil)) (by decide) all_nil .nil (szFileS_con d.live left (by omega) (by omega) (by assumption)) rfl rfl (nle rfl)) (.run [] [] rfl (st_assign rfl) .nil))))) ?_
  refine tr_seq ?_
  refine tr_seq ?_
  refine tr_region rfl (.run [] [] rfl (st_move rfl) (.run [] [] rfl (st_lss rfl rfl rfl) .nil)) ?_
  refine tr_if (t := decide ((szS wFil d.live left) < 0)) rfl (fun h1 => ?_) (fun h1 => ?_)
  · skip
    replace h1 := of_decide_eq_true h1
    refine tr_seq ?_
    refine tr_region rfl (.run [] [] rfl (st_assign rfl) .nil) ?_
    refine tr_ret ?_
    exact ends [_] [] (.cons (.tmp (int_eq (by simp [szD, h1]))) .nil) (.cons (.one .v (.v _)) .nil) (by decide) trivial
  · skip
    replace h1 := of_decide_eq_false h1
    refine tr_skip ?_
    refine tr_seq ?_
    have hvv := szS_val h1
    refine tr_region rfl (.run [] [] rfl (st_faddr_box rfl rfl Try.underlying50 rfl Try.sizeOf47 (by decide)) (.run [] [] rfl (st_load_box1 rfl rfl rfl Try.isAgg47 rfl) (.run [] [] rfl (st_move rfl) (.run [1400] [] rfl (st_call rfl 1400 (X := []) en56 rfl (.val nod) (.cons (.one (.bor (.sl nod))) (.cons (.one (.bor .v)) .nil)) (by decide) all_nil .nil (szFileS_con d.safe (szS wFil d.live left) (by omega) (by omega) (by assumption)) rfl rfl (nle rfl)) (.run [] [] rfl (st_assign rfl) .nil))))) ?_
    refine tr_seq ?_
    refine tr_seq ?_
    refine tr_region rfl (.run [] [] rfl (st_move rfl) (.run [] [] rfl (st_lss rfl rfl rfl) .nil)) ?_
    refine tr_if (t := decide ((szS wFil d.safe (szS wFil d.live left)) < 0)) rfl (fun h2 => ?_) (fun h2 => ?_)
    · skip
      replace h2 := of_decide_eq_true h2
      refine tr_seq ?_
      refine tr_wk (s' := mk [] [] []) ?_ ?_
      · exact wk_mk trivial trivial trivial rfl
      refine tr_region rfl (.run [] [] rfl (st_assign rfl) .nil) ?_
      refine tr_ret ?_
      exact ends [_] [] (.cons (.tmp (int_eq (by simp [szD, h1, h2]))) .nil) (.cons (.one .v (.v _)) .nil) (by decide) trivial
    · skip
      replace h2 := of_decide_eq_false h2
      refine tr_skip ?_
      refine tr_seq ?_
      have hvw := szS_val h2
      refine tr_wk (s' := mk [(1, .p none (.v (.int .i64 (szS wFil d.safe (szS wFil d.live left))))), (2, .ptr 2 0)] [(2, [.p none (.sl false 2 (pvF d.live)), .p none (.sl false 2 (pvF d.safe)), .p none (.sl false 4 (pvD d.ops))])] []) ?_ ?_
      · exact wk_mk ⟨rfl, ⟨rfl, trivial⟩⟩ ⟨rfl, trivial⟩ trivial rfl
      refine tr_region rfl (.run [] [] rfl (st_faddr_box rfl rfl Try.underlying50 rfl Try.sizeOf48 (by decide)) (.run [] [] rfl (st_load_box1 rfl rfl rfl Try.isAgg48 rfl) (.run [] [] rfl (st_move rfl) (.run [2000] [] rfl (st_call rfl 2000 (X := []) en57 rfl (.val nod) (.cons (.one (.bor (.sl nod))) (.cons (.one (.bor .v)) .nil)) (by decide) all_nil .nil (szDOpS_con d.ops (szS wFil d.safe (szS wFil d.live left)) (by omega) (by omega) (by assumption)) rfl rfl (nle rfl)) (.run [] [] rfl (st_assign rfl) .nil))))) ?_
      refine tr_seq ?_
      refine tr_seq ?_
      refine tr_region rfl (.run [] [] rfl (st_move rfl) (.run [] [] rfl (st_lss rfl rfl rfl) .nil)) ?_
      refine tr_if (t := decide ((szS wDOp d.ops (szS wFil d.safe (szS wFil d.live left))) < 0)) rfl (fun h3 => ?_) (fun h3 => ?_)
      · skip
        replace h3 := of_decide_eq_true h3
        refine tr_seq ?_
        refine tr_region rfl (.run [] [] rfl (st_assign rfl) .nil) ?_
        refine tr_ret ?_
        exact ends [_] [] (.cons (.tmp (int_eq (by rw [szD, if_neg h1, if_neg h2]; exact (szS_m1 (hx := by omega) h3).symm))) .nil) (.cons (.one .v (.v _)) .nil) (by decide) trivial
      · skip
        replace h3 := of_decide_eq_false h3
        refine tr_skip ?_
        refine tr_seq ?_
        refine tr_region rfl (.run [] [] rfl (st_move rfl) (.run [] [] rfl (st_assign rfl) .nil)) ?_
        refine tr_ret ?_
        exact ends [_] [] (.cons (.tmp (int_eq (by simp [szD, h1, h2, h3]))) .nil) (.cons (.one .v (.v _)) .nil) (by decide) trivial
set_option maxRecDepth 1000000 in
set_option maxHeartbeats 2000000 in
theorem toDisk_con (d : Dsk) (hd : DB 1048576 d) : Con Try.prog 25 [.agg [PV.sl false 2 (pvF d.live), PV.sl false 2 (pvF d.safe), PV.sl false 4 (pvD d.ops)]] [] [.agg [.sl true 2 (pvF d.live), .sl true 2 (pvF d.safe), .sl true 4 (pvD d.ops)]] := by
  refine con_of_tr Try.func25 rfl rfl rfl rfl ?_
  have hld := pvF_length d.live
  have hsd := pvF_length d.safe
  have hod := pvD_length d.ops
  obtain ⟨hb1, hb2, hb3, hb4, hb5⟩ := id hd
  refine tr_seq ?_
  refine tr_region rfl (.run [] [1] rfl (st_box rfl 1 rfl rfl (by decide) rfl (by decide)) (.run [] [2] rfl (st_allocZ rfl 2 inf27 rfl (by decide) rfl (by decide)) .nil)) ?_
  refine tr_seq ?_
  refine tr_region rfl (.run [] [3] rfl (st_allocZ rfl 3 inf27 rfl (by decide) rfl (by decide)) .nil) ?_
  refine tr_seq ?_
  refine tr_region rfl (.run [] [] rfl (st_faddr_box rfl rfl Try.underlying50 rfl Try.sizeOf47 (by decide)) (.run [] [] rfl (st_load_box1 rfl rfl rfl Try.isAgg47 rfl) (.run [600] [] rfl (st_call rfl 600 (X := []) en58 rfl (.val nod) (.cons (.one (.bor (.sl nod))) .nil) (by decide) all_nil .nil (toFileS_con d.live (by omega)) rfl rfl (nle rfl)) (.run [] [] rfl (st_faddr_box rfl rfl Try.underlying27 rfl Try.sizeOf24 (by decide)) (.run [] [] rfl (st_store_box rfl rfl rfl rfl rfl Try.sizeOf24 rfl (nle rfl)) .nil))))) ?_
  refine tr_seq ?_
  refine tr_region rfl (.run [] [] rfl (st_faddr_box rfl rfl Try.underlying50 rfl Try.sizeOf47 (by decide)) (.run [] [] rfl (st_load_box1 rfl rfl rfl Try.isAgg47 rfl) (.run [1000] [] rfl (st_call rfl 1000 (X := []) en58 rfl (.val nod) (.cons (.one (.bor (.sl nod))) .nil) (by decide) all_nil .nil (toFileS_con d.safe (by omega)) rfl rfl (nle rfl)) (.run [] [] rfl (st_faddr_box rfl rfl Try.underlying27 rfl Try.sizeOf24 (by decide)) (.run [] [] rfl (st_store_box rfl rfl rfl rfl rfl Try.sizeOf24 rfl (nle rfl)) .nil))))) ?_
  refine tr_seq ?_
  refine tr_wk (s' := mk [(1, .ptr 1 0), (2, .ptr 2 0), (3, .ptr 3 0)] [(1, [.p none (.sl false 2 (pvF d.live)), .p none (.sl false 2 (pvF d.safe)), .p none (.sl false 4 (pvD d.ops))]), (2, [.nils, .nils, .nils]), (3, [.sl 600 0 ((pvF d.live).length), .sl 1000 0 ((pvF d.safe).length), .nils])] [(600, 2, pvF d.live), (1000, 2, pvF d.safe)]) ?_ ?_
  · exact wk_mk ⟨rfl, ⟨rfl, ⟨rfl, trivial⟩⟩⟩ ⟨rfl, ⟨rfl, ⟨rfl, trivial⟩⟩⟩ ⟨rfl, ⟨rfl, trivial⟩⟩ rfl
  refine tr_region rfl (.run [] [] rfl (st_faddr_box rfl rfl Try.underlying50 rfl Try.sizeOf48 (by decide)) (.run [] [] rfl (st_load_box1 rfl rfl rfl Try.isAgg48 rfl) (.run [1400] [] rfl (st_call rfl 1400 (X := []) en59 rfl (.val nod) (.cons (.one (.bor (.sl nod))) .nil) (by decide) all_nil .nil (toDOpS_con d.ops (by omega)) rfl rfl (nle rfl)) (.run [] [] rfl (st_faddr_box rfl rfl Try.underlying27 rfl Try.sizeOf25 (by decide)) (.run [] [] rfl (st_store_box rfl rfl rfl rfl rfl Try.sizeOf25 rfl (nle rfl)) .nil))))) ?_
  refine tr_seq ?_
  refine tr_region rfl (.run [] [] rfl (st_load_box rfl rfl rfl Try.isAgg27 Try.sizeOf27 (nle rfl)) (.run [] [] rfl (st_store_box rfl rfl rfl rfl rfl Try.sizeOf27 rfl (nle rfl)) .nil)) ?_
  refine tr_ret ?_
  exact ends [_] [600, 1000, 1400] (.cons (.cell rfl rfl Try.isAgg27 Try.sizeOf27 (nle rfl)) .nil) (.cons (.agg (.cons (.row (len := (pvF d.live).length) (xs := pvF d.live) rfl rfl) (.cons (.row (len := (pvF d.safe).length) (xs := pvF d.safe) rfl rfl) (.cons (.row (len := (pvD d.ops).length) (xs := pvD d.ops) rfl rfl) .nil))) (cl_cons (.sl _ _ (FlatP.clean (pvF_flat _))) (cl_cons (.sl _ _ (FlatP.clean (pvF_flat _))) (cl_cons (.sl _ _ (FlatP.clean (pvD_flat _))) cl_nil)))) .nil) (by decide) trivial
set_option maxRecDepth 1000000 in
set_option maxHeartbeats 2000000 in
theorem eqDiskSelf_con (d : Dsk) (hd : DB 900000000 d) : Con Try.prog 26 [.agg [PV.sl false 2 (pvF d.live), PV.sl false 2 (pvF d.safe), PV.sl false 4 (pvD d.ops)], .agg [PV.sl false 2 (pvF d.live), PV.sl false 2 (pvF d.safe), PV.sl false 4 (pvD d.ops)]] [] [.one (.v (.bool true))] := by
  refine con_of_tr Try.func26 rfl rfl rfl rfl ?_
  have hld := pvF_length d.live
  have hsd := pvF_length d.safe
  have hod := pvD_length d.ops
  obtain ⟨hb1, hb2, hb3, hb4, hb5⟩ := id hd
  refine tr_seq ?_
  refine tr_region rfl (.run [] [2] rfl (st_box rfl 2 rfl rfl (by decide) rfl (by decide)) (.run [] [3] rfl (st_box rfl 3 rfl rfl (by decide) rfl (by decide)) (.run [] [] rfl (st_assign rfl) .nil))) ?_
  refine tr_seq ?_
  refine tr_seq ?_
  refine tr_region rfl (.run [] [] rfl (st_faddr_box rfl rfl Try.underlying27 rfl Try.sizeOf24 (by decide)) (.run [] [] rfl (st_load_box1 rfl rfl rfl Try.isAgg24 rfl) (.run [] [] rfl (st_faddr_box rfl rfl Try.underlying27 rfl Try.sizeOf24 (by decide)) (.run [] [] rfl (st_load_box1 rfl rfl rfl Try.isAgg24 rfl) (.run [900] [] rfl (st_eq (st_call rfl 900 (X := []) en60 rfl (.val nod) (.cons (.one (.bor (.sl nod))) (.cons (.one (.bor (.sl nod))) .nil)) (by decide) all_nil .nil (eqFileS_con d.live d.live (by omega)) rfl rfl (nle rfl)) (bool_eq (decide_eq_true (by simp)))) (.run [] [] rfl (st_not (b := true) rfl rfl) .nil)))))) ?_
  refine tr_if (t := false) rfl (fun h => nomatch h) (fun _ => ?_)
  refine tr_skip ?_
  refine tr_seq ?_
  refine tr_seq ?_
  refine tr_region rfl (.run [] [] rfl (st_faddr_box rfl rfl Try.underlying27 rfl Try.sizeOf24 (by decide)) (.run [] [] rfl (st_load_box1 rfl rfl rfl Try.isAgg24 rfl) (.run [] [] rfl (st_faddr_box rfl rfl Try.underlying27 rfl Try.sizeOf24 (by decide)) (.run [] [] rfl (st_load_box1 rfl rfl rfl Try.isAgg24 rfl) (.run [1500] [] rfl (st_eq (st_call rfl 1500 (X := []) en60 rfl (.val nod) (.cons (.one (.bor (.sl nod))) (.cons (.one (.bor (.sl nod))) .nil)) (by decide) all_nil .nil (eqFileS_con d.safe d.safe (by omega)) rfl rfl (nle rfl)) (bool_eq (decide_eq_true (by simp)))) (.run [] [] rfl (st_not (b := true) rfl rfl) .nil)))))) ?_
  refine tr_if (t := false) rfl (fun h => nomatch h) (fun _ => ?_)
  refine tr_skip ?_
  refine tr_seq ?_
  refine tr_seq ?_
  refine tr_wk (s' := mk [(2, .ptr 2 0), (3, .ptr 3 0)] [(2, [.p none (.sl false 2 (pvF d.live)), .p none (.sl false 2 (pvF d.safe)), .p none (.sl false 4 (pvD d.ops))]), (3, [.p none (.sl false 2 (pvF d.live)), .p none (.sl false 2 (pvF d.safe)), .p none (.sl false 4 (pvD d.ops))])] []) ?_ ?_
  · exact wk_mk ⟨rfl, ⟨rfl, trivial⟩⟩ ⟨rfl, ⟨rfl, trivial⟩⟩ trivial rfl
  refine tr_region rfl (.run [] [] rfl (st_faddr_box rfl rfl Try.underlying27 rfl Try.sizeOf25 (by decide)) (.run [] [] rfl (st_load_box1 rfl rfl rfl Try.isAgg25 rfl) (.run [] [] rfl (st_faddr_box rfl rfl Try.underlying27 rfl Try.sizeOf25 (by decide)) (.run [] [] rfl (st_load_box1 rfl rfl rfl Try.isAgg25 rfl) (.run [2100] [] rfl (st_eq (st_call rfl 2100 (X := []) en61 rfl (.val nod) (.cons (.one (.bor (.sl nod))) (.cons (.one (.bor (.sl nod))) .nil)) (by decide) all_nil .nil (eqDOpS_con d.ops d.ops (by omega)) rfl rfl (nle rfl)) (bool_eq (decide_eq_true (by simp)))) (.run [] [] rfl (st_not (b := true) rfl rfl) .nil)))))) ?_
  refine tr_if (t := false) rfl (fun h => nomatch h) (fun _ => ?_)
  refine tr_skip ?_
  refine tr_seq ?_
  refine tr_region rfl (.run [] [] rfl (st_assign rfl) .nil) ?_
  refine tr_ret ?_
  exact ends [_] [] (.cons (.tmp rfl) .nil) (.cons (.one .v (.v _)) .nil) (by decide) trivial
set_option maxRecDepth 1000000 in
set_option maxHeartbeats 2000000 in
theorem markDisk_con (d : Dsk) (k : Nat) (hk : k + 2 * d.live.length + 2 * d.safe.length + 4 * d.ops.length ≤ 1099511627776) : Con Try.prog 27 [.agg [.sl true 2 (pvF d.live), .sl true 2 (pvF d.safe), .sl true 4 (pvD d.ops)], .one (PV.v (.int .i64 (k:Int)))] [some (pvF (markDsk k d.live.length d.safe.length d.ops.length).live), some (pvF (markDsk k d.live.length d.safe.length d.ops.length).safe), some (pvD (markDsk k d.live.length d.safe.length d.ops.length).ops)] [.one (.v (.int .i64 ((k + 2 * d.live.length + 2 * d.safe.length + 4 * d.ops.length : Nat) : Int)))] := by
  refine con_of_tr Try.func27 rfl rfl rfl rfl ?_
  refine tr_wk (s' := mk [(0, .agg [.sl 100000 0 ((pvF d.live).length), .sl 100001 0 ((pvF d.safe).length), .sl 100002 0 ((pvD d.ops).length)]), (1, .p none (.v (.int .i64 (k:Int))))] [] [(100000, 2, pvF d.live), (100001, 2, pvF d.safe), (100002, 4, pvD d.ops)]) (wk_mk ⟨by kernel_rfl, ⟨by kernel_rfl, trivial⟩⟩ trivial ⟨by kernel_rfl, ⟨by kernel_rfl, ⟨by kernel_rfl, trivial⟩⟩⟩ rfl) ?_
  have hld := pvF_length d.live
  have hsd := pvF_length d.safe
  have hod := pvD_length d.ops
  refine tr_seq ?_
  refine tr_region rfl (.run [] [2] rfl (st_box rfl 2 rfl rfl (by decide) rfl (by decide)) (.run [] [] rfl (st_assign rfl) .nil)) ?_
  refine tr_seq ?_
  refine tr_region rfl (.run [] [] rfl (st_faddr_box rfl rfl Try.underlying27 rfl Try.sizeOf24 (by decide)) (.run [] [] rfl (st_load_box1 rfl rfl rfl Try.isAgg24 rfl) (.run [] [] rfl (st_move rfl) (.run [100000, 800] [] rfl (st_call rfl 800 (X := [100000]) en62 rfl (.val nod) (.cons (.one (.own (len := (pvF d.live).length) (xs := pvF d.live) rfl rfl)) (.cons (.one (.bor .v)) .nil)) (by decide) (all_cons rfl all_nil) (.keep (xs := pvF d.live) rfl (FlatP.nf (pvF_flat _)) .nil) (markFileS_con d.live k (by omega)) rfl rfl (nle rfl)) (.run [] [] rfl (st_assign rfl) .nil))))) ?_
  refine tr_seq ?_
  refine tr_region rfl (.run [] [] rfl (st_faddr_box rfl rfl Try.underlying27 rfl Try.sizeOf24 (by decide)) (.run [] [] rfl (st_load_box1 rfl rfl rfl Try.isAgg24 rfl) (.run [] [] rfl (st_move rfl) (.run [100001, 1200] [] rfl (st_call rfl 1200 (X := [100001]) en62 rfl (.val nod) (.cons (.one (.own (len := (pvF d.safe).length) (xs := pvF d.safe) rfl rfl)) (.cons (.one (.bor .v)) .nil)) (by decide) (all_cons rfl all_nil) (.keep (xs := pvF d.safe) rfl (FlatP.nf (pvF_flat _)) .nil) (markFileS_con d.safe (k + 2 * d.live.length) (by omega)) rfl rfl (nle rfl)) (.run [] [] rfl (st_assign rfl) .nil))))) ?_
  refine tr_seq ?_
  refine tr_wk (s' := mk [(1, .p none (.v (.int .i64 (((k + 2 * d.live.length) + 2 * d.safe.length : Nat) : Int)))), (2, .ptr 2 0)] [(2, [.sl 100000 0 ((pvF d.live).length), .sl 100001 0 ((pvF d.safe).length), .sl 100002 0 ((pvD d.ops).length)])] [(100000, 2, pvF (marksG markFil k d.live.length)), (100001, 2, pvF (marksG markFil (k + 2 * d.live.length) d.safe.length)), (100002, 4, pvD d.ops)]) ?_ ?_
  · exact wk_mk ⟨rfl, ⟨rfl, trivial⟩⟩ ⟨rfl, trivial⟩ ⟨rfl, ⟨rfl, ⟨rfl, trivial⟩⟩⟩ rfl
  refine tr_region rfl (.run [] [] rfl (st_faddr_box rfl rfl Try.underlying27 rfl Try.sizeOf25 (by decide)) (.run [] [] rfl (st_load_box1 rfl rfl rfl Try.isAgg25 rfl) (.run [] [] rfl (st_move rfl) (.run [100002, 1600] [] rfl (st_call rfl 1600 (X := [100002]) en63 rfl (.val nod) (.cons (.one (.own (len := (pvD d.ops).length) (xs := pvD d.ops) rfl rfl)) (.cons (.one (.bor .v)) .nil)) (by decide) (all_cons rfl all_nil) (.keep (xs := pvD d.ops) rfl (FlatP.nf (pvD_flat _)) .nil) (markDOpS_con d.ops ((k + 2 * d.live.length) + 2 * d.safe.length) (by omega)) rfl rfl (nle rfl)) (.run [] [] rfl (st_assign rfl) .nil))))) ?_
  refine tr_seq ?_
  refine tr_region rfl (.run [] [] rfl (st_move rfl) (.run [] [] rfl (st_assign rfl) .nil)) ?_
  refine tr_ret ?_
  exact ends [_] [] (.cons (.tmp rfl) .nil) (.cons (.one .v (.v _)) .nil) (by decide) ⟨⟨rfl, pvF_flat _, by decide⟩, ⟨rfl, pvF_flat _, by decide⟩, ⟨rfl, pvD_flat _, by decide⟩, trivial⟩
set_option maxRecDepth 1000000 in
set_option maxHeartbeats 2000000 in
theorem heldDiskSelf_con (k a b c : Nat) (hk : k + 2 * a + 2 * b + 4 * c ≤ 1099511627776) : Con Try.prog 28 [.agg [PV.sl false 2 (pvF (marksG markFil k a)), PV.sl false 2 (pvF (marksG markFil (k + 2 * a) b)), PV.sl false 4 (pvD (marksG markDOp (k + 2 * a + 2 * b) c))], .one (PV.v (.int .i64 (k:Int)))] [] [.one (.v (.int .i64 ((k + 2 * a + 2 * b + 4 * c : Nat) : Int)))] := by
  refine con_of_tr Try.func28 rfl rfl rfl rfl ?_
  have hq1 := pvF_length (marksG markFil k a)
  refine tr_seq ?_
  refine tr_region rfl (.run [] [2] rfl (st_box rfl 2 rfl rfl (by decide) rfl (by decide)) (.run [] [] rfl (st_assign rfl) .nil)) ?_
  refine tr_seq ?_
  refine tr_region rfl (.run [] [] rfl (st_faddr_box rfl rfl Try.underlying27 rfl Try.sizeOf24 (by decide)) (.run [] [] rfl (st_load_box1 rfl rfl rfl Try.isAgg24 rfl) (.run [] [] rfl (st_move rfl) (.run [800] [] rfl (st_call rfl 800 (X := []) en64 rfl (.val nod) (.cons (.one (.bor (.sl nod))) (.cons (.one (.bor .v)) .nil)) (by decide) all_nil .nil (heldF_self k a (by omega)) rfl rfl (nle rfl)) (.run [] [] rfl (st_assign rfl) .nil))))) ?_
  refine tr_seq ?_
  refine tr_seq ?_
  refine tr_region rfl (.run [] [] rfl (st_move rfl) (.run [] [] rfl (st_eq (st_lss rfl rfl rfl) (bool_eq (decide_eq_false (by omega)))) .nil)) ?_
  refine tr_if (t := false) rfl (fun h => nomatch h) (fun _ => ?_)
  refine tr_skip ?_
  refine tr_seq ?_
  refine tr_region rfl (.run [] [] rfl (st_faddr_box rfl rfl Try.underlying27 rfl Try.sizeOf24 (by decide)) (.run [] [] rfl (st_load_box1 rfl rfl rfl Try.isAgg24 rfl) (.run [] [] rfl (st_move rfl) (.run [1400] [] rfl (st_call rfl 1400 (X := []) en64 rfl (.val nod) (.cons (.one (.bor (.sl nod))) (.cons (.one (.bor .v)) .nil)) (by decide) all_nil .nil (heldF_self (k + 2 * a) b (by omega)) rfl rfl (nle rfl)) (.run [] [] rfl (st_assign rfl) .nil))))) ?_
  refine tr_seq ?_
  refine tr_seq ?_
  refine tr_region rfl (.run [] [] rfl (st_move rfl) (.run [] [] rfl (st_eq (st_lss rfl rfl rfl) (bool_eq (decide_eq_false (by omega)))) .nil)) ?_
  refine tr_if (t := false) rfl (fun h => nomatch h) (fun _ => ?_)
  refine tr_skip ?_
  refine tr_seq ?_
  refine tr_wk (s' := mk [(1, .p none (.v (.int .i64 (((k + 2 * a) + 2 * b : Nat) : Int)))), (2, .ptr 2 0)] [(2, [.p none (.sl false 2 (pvF (marksG markFil k a))), .p none (.sl false 2 (pvF (marksG markFil (k + 2 * a) b))), .p none (.sl false 4 (pvD (marksG markDOp (k + 2 * a + 2 * b) c)))])] []) ?_ ?_
  · exact wk_mk ⟨rfl, ⟨rfl, trivial⟩⟩ ⟨rfl, trivial⟩ trivial rfl
  refine tr_region rfl (.run [] [] rfl (st_faddr_box rfl rfl Try.underlying27 rfl Try.sizeOf25 (by decide)) (.run [] [] rfl (st_load_box1 rfl rfl rfl Try.isAgg25 rfl) (.run [] [] rfl (st_move rfl) (.run [2000] [] rfl (st_call rfl 2000 (X := []) en65 rfl (.val nod) (.cons (.one (.bor (.sl nod))) (.cons (.one (.bor .v)) .nil)) (by decide) all_nil .nil (heldD_self ((k + 2 * a) + 2 * b) c (by omega)) rfl rfl (nle rfl)) (.run [] [] rfl (st_assign rfl) .nil))))) ?_
  refine tr_seq ?_
  refine tr_seq ?_
  refine tr_region rfl (.run [] [] rfl (st_move rfl) (.run [] [] rfl (st_eq (st_lss rfl rfl rfl) (bool_eq (decide_eq_false (by omega)))) .nil)) ?_
  refine tr_if (t := false) rfl (fun h => nomatch h) (fun _ => ?_)
  refine tr_skip ?_
  refine tr_seq ?_
  refine tr_region rfl (.run [] [] rfl (st_move rfl) (.run [] [] rfl (st_assign rfl) .nil)) ?_
  refine tr_ret ?_
  exact ends [_] [] (.cons (.tmp rfl) .nil) (.cons (.one .v (.v _)) .nil) (by decide) trivial
end Go.Rl

/- Promises of functions, proved by walks over their operations; no conditions beyond those that each theorem states. -/
import Derived.Test.YtiflbeiomdbmiaaRtQ
import Derived.Test.YtiflbeiomdbmiaaRtP
import Derived.Test.YtiflbeiomdbmiaaRlZ
namespace Go.Rl
open Go.Proofs
theorem inf68 : (Try.prog.info? 68).map (fun i => (i.zero, i.size, i.bytes)) = some (some (.agg #[.slice none 0 0, .int .i64 0]), 2, 32) := by kernel_rfl
theorem en26 : ∀ vs w, (callFunc 26 vs).run Try.prog w = .ok (.enter 26 vs) w := enters Try.func26 (by decide) rfl
theorem en27 : ∀ vs w, (callFunc 27 vs).run Try.prog w = .ok (.enter 27 vs) w := enters Try.func27 (by decide) rfl
theorem bytes_eq {a b : ByteArray} : a.toList = b.toList ↔ a = b := by
  constructor
  · intro e
    cases a with | mk a => cases b with | mk b =>
    have h := beq_toListBytes ⟨a⟩ ⟨b⟩
    rw [e, beq_self_eq_true] at h
    have h2 : (a == b) = true := h
    rw [eq_of_beq h2]
  · rintro rfl; rfl
theorem slot_eqIn (a b : Slot) (w : World) : (Op.equalIn 10000 33 (.agg ⟨[.string a.name, .int .i64 a.size, .int .i64 a.pins]⟩) (.agg ⟨[.string b.name, .int .i64 b.size, .int .i64 b.pins]⟩)).run Try.prog w = .ok (decide (a = b)) w := by
  rw [show (10000 : Nat) = 9999 + 1 from rfl, run_equalIn_agg w 9999 33 _ _ Try.underlying33 (by kernel_rfl)]
  rw [show (Try.prog.fieldsOf 33).toList = [⟨"Name", 9, 0, false, "", "", 0⟩, ⟨"Size", 2, 1, false, "", "", 16⟩, ⟨"Pins", 2, 2, false, "", "", 24⟩] from rfl]
  rw [show (9999 : Nat) = 9998 + 1 from rfl]
  simp [Op.eqFields, part, Try.isAgg9, Try.sizeOf9, Try.isAgg2, Try.sizeOf2, run_equalIn_string (h := Try.underlying9), run_equalIn_int (h := Try.underlying2), bytes_eq]
  cases a; cases b
  simp only [Slot.mk.injEq]
  split
  · split
    · split <;> simp_all
    · simp_all
  · simp_all
theorem big0_con {γ : Gho} (bs : List Nat) (A : Option Addr) (c : Nat) : ConG γ Try.prog 8 [.one (PV.v (.slice A bs.length c))] [] [.one (.v (.bool (decide ((1048576 : Int) < (bs.length : Int)))))] := by
  refine con_of_tr Try.func8 rfl rfl rfl rfl ?_
  refine tr_seq ?_
  refine tr_region rfl (.run [] [] rfl (st_assign rfl) .nil) ?_
  refine tr_seq ?_
  refine tr_region rfl (.run [] [] rfl (st_move rfl) (.run [] [] rfl (st_len_v rfl rfl Try.underlying22) (.run [] [] rfl (st_gtr rfl rfl rfl) (.run [] [] rfl (st_assign rfl) .nil)))) ?_
  refine tr_ret ?_
  exact ends [_] [] (.cons (.tmp rfl) .nil) (.cons (.one .v (.v _)) .nil) (by decide) trivial
theorem big_con {γ : Gho} {cv : Value} {bs : List Nat} (hc : CodeAt γ cv bs) : ConG γ Try.prog 8 [.one (.v cv)] [] [.one (.v (.bool (decide ((1048576 : Int) < (bs.length : Int)))))] := by
  obtain ⟨A, c, rfl, hcc⟩ := hc
  exact big0_con bs A c
theorem open_con {γ : Gho} (cv : Value) : ConG γ Try.prog 26 [.one (PV.v (cv))] [] [.rptr 2 [.v cv, .v (.int .i64 (0:Int))]] := by
  refine con_of_tr Try.func26 rfl rfl rfl rfl ?_
  refine tr_seq ?_
  refine tr_region rfl (.run [] [] rfl (st_assign rfl) .nil) ?_
  refine tr_seq ?_
  refine tr_region rfl (.run [] [] rfl (st_move rfl) (.run [] [] rfl (st_build (pl := [(0, 1), (1, 1)]) rfl Try.underlying68 inf68 (by kernel_rfl) rfl rfl) (.run [500] [] rfl (st_box_row rfl 500 rfl rfl rfl (by decide) rfl (by decide)) (.run [] [] rfl (st_assign rfl) .nil)))) ?_
  refine tr_ret ?_
  exact ends [_] [500] (.cons (.tmp rfl) .nil) (.cons (.rptr rfl pvRd_clean) .nil) (by decide) trivial
theorem drawFree_con {γ : Gho} {cv : Value} {bs : List Nat} (hc : CodeAt γ cv bs) (hl : bs.length ≤ 1152921504606846976) : ConG γ Try.prog 9 [.one (PV.v (cv))] [] [.agg [.v (.int .i64 (cacheV bs 0).1), .sl true 3 (pvS (cacheV bs 0).2.1)], .one (.v (.string (userV bs (cacheV bs 0).2.2)))] := by
  refine con_of_tr Try.func9 rfl rfl rfl rfl ?_
  refine tr_seq ?_
  refine tr_region rfl (.run [] [2] rfl (st_allocZ rfl 2 inf26 rfl (by decide) rfl (by decide)) (.run [] [] rfl (st_assign rfl) .nil)) ?_
  refine tr_seq ?_
  refine tr_region rfl (.run [] [] rfl (st_move rfl) (.run [700] [] rfl (st_callG (.inr rfl) rfl 700 (X := []) en26 rfl (.val nod) (.cons (.one (.bor .v)) .nil) (by decide) all_nil .nil (open_con cv) rfl rfl (nle rfl)) (.run [] [] rfl (st_assign rfl) .nil))) ?_
  refine tr_seq ?_
  refine tr_region rfl (.run [] [] rfl (st_move rfl) (.run [700, 900, 901] [] rfl (st_callG (.inr rfl) rfl 900 (X := [700]) en27 rfl (.val nod) (.cons (.rptr rfl) .nil) (by decide) (all_cons rfl all_nil) (.keep (xs := pvRd (cv, 0)) rfl (FlatP.nf (pvRd_flat _)) .nil) (cache_con hc hl 0 (Nat.zero_le _)) rfl rfl (nle rfl)) (.run [] [5] rfl (st_allocZ rfl 5 inf26 rfl (by decide) rfl (by decide)) (.run [] [] rfl (st_store_box rfl rfl rfl rfl rfl Try.sizeOf26 rfl (nle rfl)) .nil)))) ?_
  refine tr_seq ?_
  refine tr_regionD mixed rfl (.run [] [] rfl (st_load_box rfl rfl rfl Try.isAgg26 Try.sizeOf26 (nle rfl)) (.run [] [] rfl (st_move rfl) (.run [700, 1200] [] rfl (st_callG (.inr rfl) rfl 1200 (X := [700]) en28 rfl (.val nod) (.cons (.rptr rfl) .nil) (by decide) (all_cons rfl all_nil) (.keep (xs := pvRd (cv, (cacheV bs 0).2.2)) rfl (FlatP.nf (pvRd_flat _)) .nil) (user_con hc hl ((cacheV bs 0).2.2) (cacheV_ok (Nat.zero_le _)).2) rfl rfl (nle rfl)) (.run [] [] rfl (st_store_box rfl rfl rfl rfl rfl Try.sizeOf26 rfl (nle rfl)) (.run [] [] rfl (st_assign rfl) .nil))))) (by kernel_rfl) ?_
  refine tr_ret ?_
  exact ends [_, _] [901] (.cons (.cell rfl rfl Try.isAgg26 Try.sizeOf26 (nle rfl)) (.cons (.tmp rfl) .nil)) (.cons (.agg (.cons .v (.cons (.row (len := (pvS ((cacheV bs 0).2.1)).length) (xs := pvS ((cacheV bs 0).2.1)) rfl rfl) .nil)) (cl_cons (.v _) (cl_cons (.sl _ _ (FlatP.clean (pvS_flat ((cacheV bs 0).2.1)))) cl_nil))) (.cons (.one .v (.v _)) .nil)) (by decide) trivial
theorem drawPut_con {γ : Gho} {cv : Value} {bs : List Nat} (hc : CodeAt γ cv bs) (hl : bs.length ≤ 1152921504606846976) : ConG γ Try.prog 24 [.one (PV.v (cv))] [] [.agg [.v (.int .i64 (cacheV bs 0).1), .sl true 3 (pvS (cacheV bs 0).2.1)], .one (.v (.string (userV bs (cacheV bs 0).2.2))), .one (.v (.int .i64 (offV bs (userP bs (cacheV bs 0).2.2) 1 40)))] := by
  refine con_of_tr Try.func24 rfl rfl rfl rfl ?_
  refine tr_seq ?_
  refine tr_region rfl (.run [] [2] rfl (st_allocZ rfl 2 inf26 rfl (by decide) rfl (by decide)) (.run [] [] rfl (st_assign rfl) (.run [] [] rfl (st_assign rfl) .nil))) ?_
  refine tr_seq ?_
  refine tr_region rfl (.run [] [] rfl (st_move rfl) (.run [800] [] rfl (st_callG (.inr rfl) rfl 800 (X := []) en26 rfl (.val nod) (.cons (.one (.bor .v)) .nil) (by decide) all_nil .nil (open_con cv) rfl rfl (nle rfl)) (.run [] [] rfl (st_assign rfl) .nil))) ?_
  refine tr_seq ?_
  refine tr_region rfl (.run [] [] rfl (st_move rfl) (.run [800, 1000, 1001] [] rfl (st_callG (.inr rfl) rfl 1000 (X := [800]) en27 rfl (.val nod) (.cons (.rptr rfl) .nil) (by decide) (all_cons rfl all_nil) (.keep (xs := pvRd (cv, 0)) rfl (FlatP.nf (pvRd_flat _)) .nil) (cache_con hc hl 0 (Nat.zero_le _)) rfl rfl (nle rfl)) (.run [] [6] rfl (st_allocZ rfl 6 inf26 rfl (by decide) rfl (by decide)) (.run [] [] rfl (st_store_box rfl rfl rfl rfl rfl Try.sizeOf26 rfl (nle rfl)) .nil)))) ?_
  refine tr_seq ?_
  refine tr_wk (s' := mk [(2, .ptr 2 0), (5, .ea 800 0 0), (6, .ptr 6 0)] [(2, [.p none (.v (.int .i64 0)), .nils]), (6, [.p none (.v (.int .i64 ((cacheV bs 0).1))), .sl 1001 0 ((pvS ((cacheV bs 0).2.1)).length)])] [(800, 2, pvRd (cv, (cacheV bs 0).2.2)), (1001, 3, pvS ((cacheV bs 0).2.1))]) ?_ ?_
  · exact wk_mk ⟨rfl, ⟨rfl, ⟨rfl, trivial⟩⟩⟩ ⟨rfl, ⟨rfl, trivial⟩⟩ ⟨rfl, ⟨rfl, trivial⟩⟩ rfl
  refine tr_regionD mixed rfl (.run [] [] rfl (st_load_box rfl rfl rfl Try.isAgg26 Try.sizeOf26 (nle rfl)) (.run [] [] rfl (st_move rfl) (.run [800, 1300] [] rfl (st_callG (.inr rfl) rfl 1300 (X := [800]) en28 rfl (.val nod) (.cons (.rptr rfl) .nil) (by decide) (all_cons rfl all_nil) (.keep (xs := pvRd (cv, (cacheV bs 0).2.2)) rfl (FlatP.nf (pvRd_flat _)) .nil) (user_con hc hl ((cacheV bs 0).2.2) (cacheV_ok (Nat.zero_le _)).2) rfl rfl (nle rfl)) (.run [] [] rfl (st_move rfl) (.run [800, 1500] [] rfl (st_callG (.inr rfl) rfl 1500 (X := [800]) en49 rfl (.val nod) (.cons (.rptr rfl) (.cons (.one (.bor .v)) (.cons (.one (.bor .v)) .nil))) (by decide) (all_cons rfl all_nil) (.keep (xs := pvRd (cv, userP bs ((cacheV bs 0).2.2))) rfl (FlatP.nf (pvRd_flat _)) .nil) (off_con hc hl (userP bs ((cacheV bs 0).2.2)) (belowP_le (cacheV_ok (Nat.zero_le _)).2) 1 40 (by omega) (by omega)) rfl rfl (nle rfl)) (.run [] [] rfl (st_store_box rfl rfl rfl rfl rfl Try.sizeOf26 rfl (nle rfl)) (.run [] [] rfl (st_assign rfl) (.run [] [] rfl (st_assign rfl) .nil)))))))) (by kernel_rfl) ?_
  refine tr_ret ?_
  exact ends [_, _, _] [1001] (.cons (.cell rfl rfl Try.isAgg26 Try.sizeOf26 (nle rfl)) (.cons (.tmp rfl) (.cons (.tmp rfl) .nil))) (.cons (.agg (.cons .v (.cons (.row (len := (pvS ((cacheV bs 0).2.1)).length) (xs := pvS ((cacheV bs 0).2.1)) rfl rfl) .nil)) (cl_cons (.v _) (cl_cons (.sl _ _ (FlatP.clean (pvS_flat ((cacheV bs 0).2.1)))) cl_nil))) (.cons (.one .v (.v _)) (.cons (.one .v (.v _)) .nil))) (by decide) trivial
theorem sameSlots_con (a b : List Slot) (hl : a.length ≤ 1000000) : Con Try.prog 12 [.one (PV.sl false 3 (pvS a)), .one (PV.sl false 3 (pvS b))] [] [.one (.v (.bool (decide (a = b))))] := by
  refine con_of_tr Try.func12 rfl rfl rfl rfl ?_
  have hla := pvS_length a
  have hlb := pvS_length b
  refine tr_seq ?_
  refine tr_region rfl (.run [] [] rfl (st_assign rfl) .nil) ?_
  refine tr_seq ?_
  refine tr_seq ?_
  refine tr_region rfl (.run [] [] rfl (st_move rfl) (.run [] [] rfl (st_len_fro rfl rfl Try.underlying24) (.run [] [] rfl (st_move rfl) (.run [] [] rfl (st_len_fro rfl rfl Try.underlying24) (.run [] [] rfl (st_neq rfl rfl rfl) .nil))))) ?_
  refine tr_if (t := (!(decide (((pvS a).length : Int) = ((pvS b).length : Int))))) rfl (fun h1 => ?_) (fun h1 => ?_)
  · skip
    replace h1 : ¬ (((pvS a).length : Int) = ((pvS b).length : Int)) := by simpa using h1
    refine tr_seq ?_
    refine tr_region rfl (.run [] [] rfl (st_assign rfl) .nil) ?_
    refine tr_ret ?_
    exact ends [_] [] (.cons (.tmp (bool_eq (decide_eq_false (fun e => by subst e; omega)).symm)) .nil) (.cons (.one .v (.v _)) .nil) (by decide) trivial
  · skip
    replace h1 : ((pvS a).length : Int) = ((pvS b).length : Int) := by simpa using h1
    refine tr_skip ?_
    refine tr_seq ?_
    refine tr_seq ?_
    refine tr_region rfl (.run [] [] rfl (st_assign rfl) .nil) ?_
    refine tr_block ?_
    refine tr_loopS (σ := Nat) (fun i => mk [(0, .p none (.sl false 3 (pvS a))), (1, .p none (.sl false 3 (pvS b))), (5, .p none (.v (.int .i64 (i:Int))))] [] []) (fun i => i ≤ a.length ∧ ∀ j, j < i → a[j]? = b[j]?) (fun i => a.length - i) 0 ⟨Nat.zero_le _, fun j hj => absurd hj (Nat.not_lt_zero j)⟩ (wk_mk ⟨rfl, ⟨rfl, ⟨(int_eq (by omega)), trivial⟩⟩⟩ trivial trivial rfl) ?_
    rintro i hG
    replace hG : i ≤ a.length ∧ ∀ j, j < i → a[j]? = b[j]? := hG
    obtain ⟨hi, hG⟩ := hG
    refine tr_seq ?_
    refine tr_seq ?_
    refine tr_region rfl (.run [] [] rfl (st_move rfl) (.run [] [] rfl (st_move rfl) (.run [] [] rfl (st_len_fro rfl rfl Try.underlying24) (.run [] [] rfl (st_lss rfl rfl rfl) .nil)))) ?_
    refine tr_if (t := decide ((i:Int) < ((pvS a).length : Int))) rfl (fun h2 => ?_) (fun h2 => ?_)
    · skip
      replace h2 := of_decide_eq_true h2
      refine tr_skip ?_
      refine tr_seq ?_
      refine tr_block ?_
      refine tr_seq ?_
      obtain ⟨e, he⟩ : ∃ e, a[i]? = some e := ⟨_, List.getElem?_eq_getElem (by (have hL := pvS_length a; omega))⟩
      have hlte := (List.getElem?_eq_some_iff.1 he).1
      obtain ⟨e2, he2⟩ : ∃ e, b[i]? = some e := ⟨_, List.getElem?_eq_getElem (by (have hL := pvS_length b; omega))⟩
      have hlte2 := (List.getElem?_eq_some_iff.1 he2).1
      refine tr_regionD mixed rfl (.run [] [] rfl (st_move rfl) (.run [] [] rfl (st_move rfl) (.run [] [] rfl (st_idx_fro rfl rfl rfl Try.underlying24 Try.sizeOf33 rfl (by omega) (pvS_get he)) (.run [] [] rfl (st_load_fea rfl rfl Try.isAgg33 Try.sizeOf33 (nle rfl)) (.run [] [] rfl (st_move rfl) (.run [] [] rfl (st_move rfl) (.run [] [] rfl (st_idx_fro rfl rfl rfl Try.underlying24 Try.sizeOf33 rfl (by omega) (pvS_get he2)) (.run [] [] rfl (st_load_fea rfl rfl Try.isAgg33 Try.sizeOf33 (nle rfl)) (.run [] [] rfl (st_aneq rfl rfl rfl rfl rfl Try.eqGuardType33 (fun w => slot_eqIn e e2 w)) .nil))))))))) (by kernel_rfl) ?_
      refine tr_if (t := (!(decide (e = e2)))) rfl (fun h3 => ?_) (fun h3 => ?_)
      · skip
        replace h3 : ¬ (e = e2) := by simpa using h3
        refine tr_seq ?_
        refine tr_region rfl (.run [] [] rfl (st_assign rfl) .nil) ?_
        refine tr_ret ?_
        exact ends [_] [] (.cons (.tmp (bool_eq (decide_eq_false (list_ne he he2 h3)).symm)) .nil) (.cons (.one .v (.v _)) .nil) (by decide) trivial
      · skip
        replace h3 : e = e2 := by simpa using h3
        refine tr_skip ?_
        refine tr_region rfl (.run [] [] rfl (st_move rfl) (.run [] [] rfl (st_addn rfl rfl rfl (by omega)) (.run [] [] rfl (st_assign rfl) .nil))) ?_
        refine nxt (Q := fun _ _ => False) (z := i) (i + 1) ?_ ?_ ?_
        · show (i + 1) ≤ a.length ∧ ∀ j, j < (i + 1) → a[j]? = b[j]?
          exact ⟨by omega, list_step hG he he2 h3⟩
        · show a.length - (i + 1) < a.length - i
          omega
        · exact wk_mk ⟨rfl, ⟨rfl, ⟨(int_eq (by omega)), trivial⟩⟩⟩ trivial trivial rfl
    · skip
      replace h2 := of_decide_eq_false h2
      refine tr_exit ?_
      refine tr_seq ?_
      refine tr_region rfl (.run [] [] rfl (st_assign rfl) .nil) ?_
      refine tr_ret ?_
      exact ends [_] [] (.cons (.tmp (bool_eq (decide_eq_true (list_all (by omega) (by omega) hG)).symm)) .nil) (.cons (.one .v (.v _)) .nil) (by decide) trivial
theorem cacheUsed_con (m : Int) (l : List Slot) (hl : l.length ≤ 1000) (hok : okC m l = true) : Con Try.prog 14 [.agg [PV.v (.int .i64 m), PV.sl false 3 (pvS l)]] [] [.one (.v (.int .i64 (usedF l)))] := by
  refine con_of_tr Try.func14 rfl rfl rfl rfl ?_
  have hle := pvS_length l
  refine tr_seq ?_
  refine tr_region rfl (.run [] [1] rfl (st_box rfl 1 rfl rfl (by decide) rfl (by decide)) (.run [] [] rfl (st_assign rfl) .nil)) ?_
  refine tr_seq ?_
  refine tr_seq ?_
  refine tr_region rfl (.run [] [] rfl (st_load_box rfl rfl rfl Try.isAgg26 Try.sizeOf26 (nle rfl)) (.run [400] [] rfl (st_call rfl 400 (X := []) en13 rfl (.val nod) (.cons (.agg (.cons (.bor .v) (.cons (.bor (.sl nod)) .nil))) .nil) (by decide) all_nil .nil (cacheOk_con m l (by omega)) rfl rfl (nle rfl)) (.run [] [] rfl (st_not (b := okC m l) rfl rfl) .nil))) ?_
  refine tr_if (t := (!(okC m l))) rfl (fun h1 => ?_) (fun h1 => ?_)
  · skip
    replace h1 : okC m l = false := by simpa using h1
    rw [hok] at h1; cases h1
  · skip
    replace h1 : okC m l = true := by simpa using h1
    refine tr_skip ?_
    refine tr_seq ?_
    refine tr_region rfl (.run [] [] rfl (st_load_box rfl rfl rfl Try.isAgg26 Try.sizeOf26 (nle rfl)) (.run [700] [] rfl (st_call rfl 700 (X := []) en38 rfl (.val nod) (.cons (.agg (.cons (.bor .v) (.cons (.bor (.sl nod)) .nil))) .nil) (by decide) all_nil .nil (used_con m l (okS_bnd (okC_s hok)) (by omega)) rfl rfl (nle rfl)) (.run [] [] rfl (st_assign rfl) .nil))) ?_
    refine tr_ret ?_
    exact ends [_] [] (.cons (.tmp rfl) .nil) (.cons (.one .v (.v _)) .nil) (by decide) trivial
end Go.Rl

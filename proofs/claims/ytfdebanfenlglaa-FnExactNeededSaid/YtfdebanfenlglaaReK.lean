/- Promises of functions, proved by walks over their operations; no conditions beyond those that each theorem states. -/
import Derived.Test.YtfdebanfenlglaaReJ
import Derived.Test.YtfdebanfenlglaaRtEp
namespace Go.Rl
open Go.Proofs
theorem inf4 : (Try.prog.info? 4).map (fun i => (i.zero, i.size, i.bytes)) = some (some (.bool false), 1, 1) := by kernel_rfl
theorem en135 : ∀ vs w, (callFunc 135 vs).run Try.prog w = .ok (.enter 135 vs) w := enters Try.func135 (by decide) rfl
theorem en136 : ∀ vs w, (callFunc 136 vs).run Try.prog w = .ok (.enter 136 vs) w := enters Try.func136 (by decide) rfl
theorem en137 : ∀ vs w, (callFunc 137 vs).run Try.prog w = .ok (.enter 137 vs) w := enters Try.func137 (by decide) rfl
theorem idx_bnd {α : Type} {p : α → Bool} {l : List α} (h : 0 ≤ idxF p l) : (idxF p l).toNat < l.length := by
  unfold idxF at h ⊢
  cases hf : l.findIdx? p with
  | none => rw [hf] at h; simp at h
  | some q => simp only [Int.toNat_natCast]; exact (List.findIdx?_eq_some_iff_getElem.1 hf).1
theorem bo_zero {l : List Ent} {s : List Int} : List.replicate (pvE l).length [PV.v (.bool false)] = pvBo (markUs l (pointsF s) ((usersF l).take 0) (List.replicate l.length false)) := by simp [pvBo, markUs, pvE_length]
theorem users_len (l : List Ent) : (usersF l).length ≤ l.length := by
  have h := compactN_len (l.map fun e => e.user) (l.map fun e => e.user).length
  rw [List.length_map] at h
  unfold usersF compactF
  rw [List.length_map]
  exact h
set_option maxRecDepth 1000000 in
theorem needed_con (l : List Ent) (s : List Int) (hl : l.length ≤ 2000000) (hs : s.length ≤ 2000000) (hok : entsOk l = true) : Con Try.prog 74 [.one (PV.sl false 4 (pvE l)), .one (PV.sl false 1 (pvI s))] [] [.one (.sl true 1 (pvI (needF l (pointsF s) l.length)))] := by
  refine con_of_tr Try.func74 rfl rfl rfl rfl ?_
  have hle := pvE_length l
  have hls := pvI_length s
  have hlp := pvI_length (pointsF s)
  have hpl := points_len s
  have hlu := pvT_length (usersF l)
  have hpp : (pvI s ++ [[PV.v (.int .i64 1000000000000)]]).length = (pointsF s).length := by rw [pvI_points]; exact hlp
  have hul := users_len l
  refine tr_seq ?_
  refine tr_region rfl (.run [] [] rfl (st_assign rfl) .nil) ?_
  refine tr_seq ?_
  refine tr_region rfl (.run [] [] rfl (st_move rfl) (.run [] [] rfl (st_len_fro rfl rfl Try.underlying26) (.run [1600] [] rfl (st_make rfl 1600 (l := (pvE l).length) (c := (pvE l).length) rfl rfl Try.underlying146 inf4 rfl rfl (by decide) rfl (by decide) (Nat.le_refl _) (by omega) (by simp only [maxLen]; omega)) (.run [] [] rfl (st_assign rfl) .nil)))) ?_
  refine tr_seq ?_
  refine tr_seq ?_
  refine tr_region rfl (.run [] [] rfl (st_move rfl) (.run [1800] [] rfl (st_call rfl 1800 (X := []) en135 rfl (.val nod) (.cons (.one (.bor (.sl nod))) .nil) (by decide) all_nil .nil (users_con l (by omega)) rfl rfl (nle rfl)) (.run [] [] rfl (st_len_row rfl rfl Try.underlying147) (.run [] [] rfl (st_move rfl) .nil)))) ?_
  refine tr_block ?_
  refine tr_loopS (σ := Nat) (fun a => mk [(0, .p none (.sl false 4 (pvE l))), (1, .p none (.sl false 1 (pvI s))), (5, .sl 1600 0 ((pvE l).length)), (18, .sl 1800 0 ((pvT (usersF l)).length)), (19, .p none (.v (.int .i64 ((pvT (usersF l)).length : Int)))), (20, .p none (.v (.int .i64 (a:Int))))] [] [(1600, 1, pvBo (markUs l (pointsF s) ((usersF l).take a) (List.replicate l.length false))), (1800, 1, pvT (usersF l))]) (fun a => a ≤ (usersF l).length) (fun a => (usersF l).length - a) 0 (by simp) (wk_mk ⟨rfl, ⟨rfl, ⟨rfl, ⟨rfl, ⟨rfl, ⟨(int_eq (by omega)), trivial⟩⟩⟩⟩⟩⟩ trivial ⟨(congrArg (fun x => some (1, x)) (by exact bo_zero)), ⟨rfl, trivial⟩⟩ rfl) ?_
  rintro a hG
  replace hG : a ≤ (usersF l).length := hG
  refine tr_seq ?_
  refine tr_region rfl (.run [] [] rfl (st_lss rfl rfl rfl) .nil) ?_
  refine tr_seq ?_
  refine tr_if (t := decide ((a:Int) < ((pvT (usersF l)).length : Int))) rfl (fun h1 => ?_) (fun h1 => ?_)
  · skip
    replace h1 := of_decide_eq_true h1
    refine tr_skip ?_
    refine tr_seq ?_
    refine tr_block ?_
    refine tr_seq ?_
    obtain ⟨e, he⟩ : ∃ e, (usersF l)[a]? = some e := ⟨_, List.getElem?_eq_getElem (by (have hL := pvT_length (usersF l); omega))⟩
    have hlte := (List.getElem?_eq_some_iff.1 he).1
    refine tr_region rfl (.run [] [] rfl (st_idx_row0 a rfl rfl rfl rfl Try.underlying147 Try.sizeOf9 rfl rfl (by omega)) (.run [] [] rfl (st_load_ea1 rfl rfl rfl (pvT_get he) Try.isAgg9 rfl) (.run [] [] rfl (st_assign rfl) .nil))) ?_
    refine tr_seq ?_
    refine tr_region rfl (.run [] [] rfl (st_move rfl) (.run [2500] [] rfl (st_call rfl 2500 (X := []) en136 rfl (.val nod) (.cons (.one (.bor (.sl nod))) .nil) (by decide) all_nil .nil (cloneI_con s (by omega)) rfl rfl (nle rfl)) (.run [2600] [] rfl (st_buildSlice rfl 2600 Try.underlying23 inf2 (nle rfl) (by decide) rfl rfl rfl (.cons .v .nil) (by decide) rfl (by decide) rfl (by decide) rfl) (.run [2500] [] rfl (st_append rfl 2500 (ib := 2500) (len := ((pvI s) ++ [[PV.v (.int .i64 1000000000000)]]).length) rfl rfl (.row (len := (pvI s).length) (xs := pvI s) rfl rfl (.inl rfl)) (.give (len := 1) (xs := [[PV.v (.int .i64 1000000000000)]]) rfl rfl) Try.underlying23 (sk Try.underlying23 rfl) inf2 rfl (by decide) (by decide) (by decide) List.length_append (by simp only [maxLen, List.length_append, List.length_map, List.length_cons, List.length_nil, List.length_take, List.length_drop, pvE_length, pvI_length, pvT_length]; omega) (by simp only [maxLen, List.length_append, List.length_map, List.length_cons, List.length_nil, List.length_take, List.length_drop, pvE_length, pvI_length, pvT_length]; omega)) (.run [] [] rfl (st_len_row rfl rfl Try.underlying23) (.run [] [] rfl (st_move rfl) .nil)))))) ?_
    have hr2 : (pvI s) ++ [[PV.v (.int .i64 1000000000000)]] = pvI (pointsF s) := by exact pvI_points s
    have hp3 : (.sl 2500 0 (((pvI s) ++ [[PV.v (.int .i64 1000000000000)]]).length) : AV) = .sl 2500 0 ((pvI (pointsF s)).length) := by simp only [hr2]
    refine tr_wk (s' := mk [(0, .p none (.sl false 4 (pvE l))), (1, .p none (.sl false 1 (pvI s))), (5, .sl 1600 0 ((pvE l).length)), (7, .p none (.v (.string e))), (18, .sl 1800 0 ((pvT (usersF l)).length)), (19, .p none (.v (.int .i64 ((pvT (usersF l)).length : Int)))), (20, .p none (.v (.int .i64 (a:Int)))), (27, .sl 2500 0 ((pvI (pointsF s)).length)), (28, .p none (.v (.int .i64 (((pvI s) ++ [[PV.v (.int .i64 1000000000000)]]).length : Int)))), (29, .p none (.v (.int .i64 0)))] [] [(1600, 1, pvBo (markUs l (pointsF s) ((usersF l).take a) (List.replicate l.length false))), (1800, 1, pvT (usersF l)), (2500, 1, pvI (pointsF s))]) ?_ ?_
    · exact wk_mk ⟨rfl, ⟨rfl, ⟨rfl, ⟨rfl, ⟨rfl, ⟨rfl, ⟨rfl, ⟨hp3, ⟨rfl, ⟨rfl, trivial⟩⟩⟩⟩⟩⟩⟩⟩⟩⟩ trivial ⟨rfl, ⟨rfl, ⟨(congrArg (fun x => some (1, x)) hr2), trivial⟩⟩⟩ rfl
    refine tr_block ?_
    refine tr_loopS (σ := Nat) (fun b => mk [(0, .p none (.sl false 4 (pvE l))), (1, .p none (.sl false 1 (pvI s))), (5, .sl 1600 0 ((pvE l).length)), (7, .p none (.v (.string e))), (18, .sl 1800 0 ((pvT (usersF l)).length)), (19, .p none (.v (.int .i64 ((pvT (usersF l)).length : Int)))), (20, .p none (.v (.int .i64 (a:Int)))), (27, .sl 2500 0 ((pvI (pointsF s)).length)), (28, .p none (.v (.int .i64 (((pvI s) ++ [[PV.v (.int .i64 1000000000000)]]).length : Int)))), (29, .p none (.v (.int .i64 (b:Int))))] [] [(1600, 1, pvBo (markPs l e ((pointsF s).take b) (markUs l (pointsF s) ((usersF l).take a) (List.replicate l.length false)))), (1800, 1, pvT (usersF l)), (2500, 1, pvI (pointsF s))]) (fun b => b ≤ (pointsF s).length) (fun b => (pointsF s).length - b) 0 (by simp) (wk_mk ⟨rfl, ⟨rfl, ⟨rfl, ⟨rfl, ⟨rfl, ⟨rfl, ⟨rfl, ⟨rfl, ⟨rfl, ⟨(int_eq (by omega)), trivial⟩⟩⟩⟩⟩⟩⟩⟩⟩⟩ trivial ⟨(congrArg (fun x => some (1, x)) (by rfl)), ⟨rfl, ⟨rfl, trivial⟩⟩⟩ rfl) ?_
    rintro b hG
    replace hG : b ≤ (pointsF s).length := hG
    refine tr_seq ?_
    refine tr_region rfl (.run [] [] rfl (st_lss rfl rfl rfl) .nil) ?_
    refine tr_seq ?_
    refine tr_if (t := decide ((b:Int) < (((pvI s) ++ [[PV.v (.int .i64 1000000000000)]]).length : Int))) rfl (fun h4 => ?_) (fun h4 => ?_)
    · skip
      replace h4 := of_decide_eq_true h4
      refine tr_skip ?_
      refine tr_seq ?_
      refine tr_block ?_
      refine tr_seq ?_
      obtain ⟨e2, he2⟩ : ∃ e, (pointsF s)[b]? = some e := ⟨_, List.getElem?_eq_getElem (by (have hL := pvI_length (pointsF s); omega))⟩
      have hlte2 := (List.getElem?_eq_some_iff.1 he2).1
      refine tr_region rfl (.run [] [] rfl (st_idx_row0 b rfl rfl rfl rfl Try.underlying23 Try.sizeOf2 rfl rfl (by omega)) (.run [] [] rfl (st_load_ea1 rfl rfl rfl (pvI_get he2) Try.isAgg2 rfl) (.run [] [] rfl (st_assign rfl) .nil))) ?_
      refine tr_seq ?_
      refine tr_region rfl (.run [] [] rfl (st_move rfl) (.run [] [] rfl (st_move rfl) (.run [] [] rfl (st_move rfl) (.run [3600] [] rfl (st_call rfl 3600 (X := []) en137 rfl (.val nod) (.cons (.one (.bor (.sl nod))) (.cons (.one (.bor .v)) (.cons (.one (.bor .v)) .nil))) (by decide) all_nil .nil (looked_con l e e2 (by omega)) rfl rfl (nle rfl)) (.run [] [] rfl (st_assign rfl) .nil))))) ?_
      refine tr_seq ?_
      refine tr_region rfl (.run [] [] rfl (st_move rfl) (.run [] [] rfl (st_geq rfl rfl rfl) .nil)) ?_
      refine tr_if (t := decide (0 ≤ (idxF (asOf e e2) l))) rfl (fun h5 => ?_) (fun h5 => ?_)
      · skip
        replace h5 := of_decide_eq_true h5
        have hib := idx_bnd h5
        obtain ⟨w, hw⟩ : ∃ w, (markPs l e ((pointsF s).take b) (markUs l (pointsF s) ((usersF l).take a) (List.replicate l.length false)))[(idxF (asOf e e2) l).toNat]? = some w := ⟨_, List.getElem?_eq_getElem (by rw [markPs_len, markUs_len, List.length_replicate]; exact hib)⟩
        refine tr_region rfl (.run [] [] rfl (st_move rfl) (.run [] [] rfl (st_move rfl) (.run [] [] rfl (st_idx_row0 ((idxF (asOf e e2) l).toNat) rfl rfl rfl rfl Try.underlying146 Try.sizeOf4 rfl (by omega) (by omega)) (.run [] [] rfl (st_store_row rfl rfl rfl (FlatP.nf (pvBo_flat _)) (by exact pvBo_get hw) rfl rfl (.cons .v .nil) Try.sizeOf4 rfl (nle rfl)) .nil)))) ?_
        refine tr_wk (s' := mk [(0, .p none (.sl false 4 (pvE l))), (1, .p none (.sl false 1 (pvI s))), (5, .sl 1600 0 ((pvE l).length)), (7, .p none (.v (.string e))), (18, .sl 1800 0 ((pvT (usersF l)).length)), (19, .p none (.v (.int .i64 ((pvT (usersF l)).length : Int)))), (20, .p none (.v (.int .i64 (a:Int)))), (27, .sl 2500 0 ((pvI (pointsF s)).length)), (28, .p none (.v (.int .i64 (((pvI s) ++ [[PV.v (.int .i64 1000000000000)]]).length : Int)))), (29, .p none (.v (.int .i64 (b:Int))))] [] [(1600, 1, (pvBo (markPs l e ((pointsF s).take b) (markUs l (pointsF s) ((usersF l).take a) (List.replicate l.length false)))).set ((idxF (asOf e e2) l).toNat) [PV.v (.bool true)]), (1800, 1, pvT (usersF l)), (2500, 1, pvI (pointsF s))]) ?_ ?_
        · exact wk_mk ⟨rfl, ⟨rfl, ⟨rfl, ⟨rfl, ⟨rfl, ⟨rfl, ⟨rfl, ⟨rfl, ⟨rfl, ⟨rfl, trivial⟩⟩⟩⟩⟩⟩⟩⟩⟩⟩ trivial ⟨rfl, ⟨rfl, ⟨rfl, trivial⟩⟩⟩ rfl
        refine tr_region rfl (.run [] [] rfl (st_addn rfl rfl rfl (by omega)) (.run [] [] rfl (st_move rfl) .nil)) ?_
        refine nxt (Q := fun _ _ => False) (z := b) (b + 1) ?_ ?_ ?_
        · show (b + 1) ≤ (pointsF s).length
          omega
        · show (pointsF s).length - (b + 1) < (pointsF s).length - b
          omega
        · exact wk_mk ⟨rfl, ⟨rfl, ⟨rfl, ⟨rfl, ⟨rfl, ⟨rfl, ⟨rfl, ⟨rfl, ⟨rfl, ⟨(int_eq (by omega)), trivial⟩⟩⟩⟩⟩⟩⟩⟩⟩⟩ trivial ⟨(congrArg (fun x => some (1, x)) (by rw [markPs_snoc he2, setK, if_pos h5]; simp [pvBo, List.map_set, over])), ⟨rfl, ⟨rfl, trivial⟩⟩⟩ rfl
      · skip
        replace h5 := of_decide_eq_false h5
        refine tr_skip ?_
        refine tr_region rfl (.run [] [] rfl (st_addn rfl rfl rfl (by omega)) (.run [] [] rfl (st_move rfl) .nil)) ?_
        refine nxt (Q := fun _ _ => False) (z := b) (b + 1) ?_ ?_ ?_
        · show (b + 1) ≤ (pointsF s).length
          omega
        · show (pointsF s).length - (b + 1) < (pointsF s).length - b
          omega
        · exact wk_mk ⟨rfl, ⟨rfl, ⟨rfl, ⟨rfl, ⟨rfl, ⟨rfl, ⟨rfl, ⟨rfl, ⟨rfl, ⟨(int_eq (by omega)), trivial⟩⟩⟩⟩⟩⟩⟩⟩⟩⟩ trivial ⟨(congrArg (fun x => some (1, x)) (by rw [markPs_snoc he2, setK, if_neg h5])), ⟨rfl, ⟨rfl, trivial⟩⟩⟩ rfl
    · skip
      replace h4 := of_decide_eq_false h4
      refine tr_exit ?_
      refine tr_region rfl (.run [] [] rfl (st_addn rfl rfl rfl (by omega)) (.run [] [] rfl (st_move rfl) .nil)) ?_
      refine nxt (Q := fun _ _ => False) (z := a) (a + 1) ?_ ?_ ?_
      · show (a + 1) ≤ (usersF l).length
        omega
      · show (usersF l).length - (a + 1) < (usersF l).length - a
        omega
      · exact wk_mk ⟨rfl, ⟨rfl, ⟨rfl, ⟨rfl, ⟨rfl, ⟨(int_eq (by omega)), trivial⟩⟩⟩⟩⟩⟩ trivial ⟨(congrArg (fun x => some (1, x)) (by rw [markUs_snoc he, List.take_of_length_le (l := pointsF s) (by omega)])), ⟨rfl, trivial⟩⟩ rfl
  · skip
    replace h1 := of_decide_eq_false h1
    refine tr_exit ?_
    refine tr_seq ?_
    refine tr_region rfl (.run [4400] [] rfl (st_buildSlice rfl 4400 Try.underlying23 inf2 (nle rfl) (by decide) rfl rfl rfl .nil (by decide) rfl (by decide) rfl (by decide) rfl) (.run [] [] rfl (st_assign rfl) .nil)) ?_
    refine tr_seq ?_
    refine tr_seq ?_
    refine tr_region rfl (.run [] [] rfl (st_move rfl) (.run [] [] rfl (st_len_row rfl rfl Try.underlying146) (.run [] [] rfl (st_move rfl) .nil))) ?_
    refine tr_block ?_
    refine tr_wk (wk_ren 4400 2 rfl rfl (by decide)) ?_
    refine tr_loopS (σ := Nat) (fun k => mk [(11, .sl 2 0 ((pvI (needF l (pointsF s) k)).length)), (45, .sl 1600 0 ((pvE l).length)), (46, .p none (.v (.int .i64 ((pvE l).length : Int)))), (47, .p none (.v (.int .i64 (k:Int))))] [] [(2, 1, pvI (needF l (pointsF s) k)), (1600, 1, pvBo (marksF l (pointsF s)))]) (fun k => k ≤ l.length) (fun k => l.length - k) 0 (by simp) (wk_mk ⟨rfl, ⟨rfl, ⟨rfl, ⟨(int_eq (by omega)), trivial⟩⟩⟩⟩ trivial ⟨(congrArg (fun x => some (1, x)) (by rfl)), ⟨(congrArg (fun x => some (1, x)) (by rw [List.take_of_length_le (l := usersF l) (by omega)]; rfl)), trivial⟩⟩ rfl) ?_
    rintro k hG
    replace hG : k ≤ l.length := hG
    have hnl := needF_len l (pointsF s) k
    have hle3 := pvI_length (needF l (pointsF s) k)
    refine tr_seq ?_
    refine tr_region rfl (.run [] [] rfl (st_lss rfl rfl rfl) .nil) ?_
    refine tr_seq ?_
    refine tr_if (t := decide ((k:Int) < ((pvE l).length : Int))) rfl (fun h6 => ?_) (fun h6 => ?_)
    · skip
      replace h6 := of_decide_eq_true h6
      refine tr_skip ?_
      refine tr_seq ?_
      refine tr_block ?_
      refine tr_seq ?_
      obtain ⟨e3, he3⟩ : ∃ e, l[k]? = some e := ⟨_, List.getElem?_eq_getElem (by omega)⟩
      refine tr_region rfl (.run [] [] rfl (st_move rfl) (.run [] [] rfl (st_idx_row0 k rfl rfl rfl rfl Try.underlying146 Try.sizeOf4 rfl rfl (by omega)) (.run [] [] rfl (st_load_ea1 rfl rfl rfl (by exact pvBo_get (marksF_get hok he3)) Try.isAgg4 rfl) (.run [] [] rfl (st_assign rfl) (.run [] [] rfl (st_assign rfl) .nil))))) ?_
      refine tr_seq ?_
      refine tr_region rfl (.run [] [] rfl (st_move rfl) .nil) ?_
      refine tr_if (t := needP l (pointsF s) k e3) rfl (fun h7 => ?_) (fun h7 => ?_)
      · skip
        refine tr_region rfl (.run [] [] rfl (st_move rfl) (.run [] [] rfl (st_move rfl) (.run [5500] [] rfl (st_buildSlice rfl 5500 Try.underlying23 inf2 (nle rfl) (by decide) rfl rfl rfl (.cons .v .nil) (by decide) rfl (by decide) rfl (by decide) rfl) (.run [2] [] rfl (st_append rfl 2 (ib := 2) (len := ((pvI (needF l (pointsF s) k)) ++ [[PV.v (.int .i64 (k:Int))]]).length) rfl rfl (.row (len := (pvI (needF l (pointsF s) k)).length) (xs := pvI (needF l (pointsF s) k)) rfl rfl (.inl rfl)) (.give (len := 1) (xs := [[PV.v (.int .i64 (k:Int))]]) rfl rfl) Try.underlying23 (sk Try.underlying23 rfl) inf2 rfl (by decide) (by decide) (by decide) List.length_append (by simp only [maxLen, List.length_append, List.length_map, List.length_cons, List.length_nil, List.length_take, List.length_drop, pvE_length, pvI_length, pvT_length]; omega) (by simp only [maxLen, List.length_append, List.length_map, List.length_cons, List.length_nil, List.length_take, List.length_drop, pvE_length, pvI_length, pvT_length]; omega)) (.run [] [] rfl (st_assign rfl) .nil))))) ?_
        have hr8 : (pvI (needF l (pointsF s) k)) ++ [[PV.v (.int .i64 (k:Int))]] = pvI (needF l (pointsF s) (k + 1)) := by rw [need_yes he3 h7]; exact pvI_snoc _ _
        have hp9 : (.sl 2 0 (((pvI (needF l (pointsF s) k)) ++ [[PV.v (.int .i64 (k:Int))]]).length) : AV) = .sl 2 0 ((pvI (needF l (pointsF s) (k + 1))).length) := by simp only [hr8]
        refine tr_wk (s' := mk [(11, .sl 2 0 ((pvI (needF l (pointsF s) (k + 1))).length)), (45, .sl 1600 0 ((pvE l).length)), (46, .p none (.v (.int .i64 ((pvE l).length : Int)))), (47, .p none (.v (.int .i64 (k:Int))))] [] [(2, 1, pvI (needF l (pointsF s) (k + 1))), (1600, 1, pvBo (marksF l (pointsF s)))]) ?_ ?_
        · exact wk_mk ⟨hp9, ⟨rfl, ⟨rfl, ⟨rfl, trivial⟩⟩⟩⟩ trivial ⟨(congrArg (fun x => some (1, x)) hr8), ⟨rfl, trivial⟩⟩ rfl
        refine tr_region rfl (.run [] [] rfl (st_addn rfl rfl rfl (by omega)) (.run [] [] rfl (st_move rfl) .nil)) ?_
        refine nxt (Q := fun _ _ => False) (z := k) (k + 1) ?_ ?_ ?_
        · show (k + 1) ≤ l.length
          omega
        · show l.length - (k + 1) < l.length - k
          omega
        · exact wk_mk ⟨rfl, ⟨rfl, ⟨rfl, ⟨(int_eq (by omega)), trivial⟩⟩⟩⟩ trivial ⟨rfl, ⟨rfl, trivial⟩⟩ rfl
      · skip
        refine tr_skip ?_
        refine tr_region rfl (.run [] [] rfl (st_addn rfl rfl rfl (by omega)) (.run [] [] rfl (st_move rfl) .nil)) ?_
        refine nxt (Q := fun _ _ => False) (z := k) (k + 1) ?_ ?_ ?_
        · show (k + 1) ≤ l.length
          omega
        · show l.length - (k + 1) < l.length - k
          omega
        · exact wk_mk ⟨(congrArg (fun x => AV.sl 2 0 (pvI x).length) (need_no he3 h7).symm), ⟨rfl, ⟨rfl, ⟨(int_eq (by omega)), trivial⟩⟩⟩⟩ trivial ⟨(congrArg (fun x => some (1, x)) (by rw [need_no he3 h7])), ⟨rfl, trivial⟩⟩ rfl
    · skip
      replace h6 := of_decide_eq_false h6
      refine tr_exit ?_
      refine tr_seq ?_
      have hil : k = l.length := (by omega)
      rw [← hil]
      refine tr_region rfl (.run [] [] rfl (st_move rfl) (.run [] [] rfl (st_assign rfl) .nil)) ?_
      refine tr_ret ?_
      exact ends [_] [2] (.cons (.tmp rfl) .nil) (.cons (.one (.row (len := (pvI (needF l (pointsF s) k)).length) (xs := pvI (needF l (pointsF s) k)) rfl rfl) (.sl _ _ (FlatP.clean (pvI_flat _)))) .nil) (by decide) trivial
end Go.Rl

/- Promises of functions, proved by walks over their operations; no conditions beyond those that each theorem states. -/
import Derived.Test.YtiflbeiomdbmiaaRtC
import Derived.Test.YtiflbeiomdbmiaaRtI
namespace Go.Rl
open Go.Proofs
theorem en45 : ∀ vs w, (callFunc 45 vs).run Try.prog w = .ok (.enter 45 vs) w := enters Try.func45 (by decide) rfl
theorem cacheGet_con (m : Int) (l : List Slot) (name : ByteArray) (hl : l.length ≤ 2000000) : Con Try.prog 21 [.agg [PV.v (.int .i64 m), PV.sl false 3 (pvS l)], .one (PV.v (.string name))] [] [.agg [.v (.int .i64 (getC m l name).1), .sl true 3 (pvS (getC m l name).2.1)], .one (.v (.bool (getC m l name).2.2))] := by
  refine con_of_tr Try.func21 rfl rfl rfl rfl ?_
  have hle := pvS_length l
  refine tr_seq ?_
  refine tr_region rfl (.run [] [2] rfl (st_box rfl 2 rfl rfl (by decide) rfl (by decide)) (.run [] [4] rfl (st_allocZ rfl 4 inf26 rfl (by decide) rfl (by decide)) (.run [] [] rfl (st_assign rfl) .nil))) ?_
  refine tr_seq ?_
  refine tr_seq ?_
  refine tr_region rfl (.run [] [] rfl (st_load_box rfl rfl rfl Try.isAgg26 Try.sizeOf26 (nle rfl)) (.run [1000] [] rfl (st_call rfl 1000 (X := []) en13 rfl (.val nod) (.cons (.agg (.cons (.bor .v) (.cons (.bor (.sl nod)) .nil))) .nil) (by decide) all_nil .nil (cacheOk_con m l (by omega)) rfl rfl (nle rfl)) (.run [] [] rfl (st_not (b := okC m l) rfl rfl) .nil))) ?_
  refine tr_if (t := (!(okC m l))) rfl (fun h1 => ?_) (fun h1 => ?_)
  · skip
    replace h1 : okC m l = false := by simpa using h1
    refine tr_seq ?_
    rw [get_bad (n := name) (by simpa using h1)]
    refine tr_region rfl (.run [] [] rfl (st_build (pl := [(0, 1), (1, 1)]) rfl Try.underlying26 inf26 (by kernel_rfl) rfl rfl) (.run [] [] rfl (st_store_box rfl rfl rfl rfl rfl Try.sizeOf26 rfl (nle rfl)) (.run [] [] rfl (st_assign rfl) .nil))) ?_
    refine tr_ret ?_
    exact ends [_, _] [] (.cons (.cell rfl rfl Try.isAgg26 Try.sizeOf26 (nle rfl)) (.cons (.tmp rfl) .nil)) (.cons (.agg (.cons .v (.cons (.nil _) .nil)) (cl_cons (.v _) (cl_cons (.sl _ _ (fun _ h => nomatch h)) cl_nil))) (.cons (.one .v (.v _)) .nil)) (by decide) trivial
  · skip
    replace h1 : okC m l = true := by simpa using h1
    refine tr_skip ?_
    refine tr_seq ?_
    have hok : okC m l = true := (by simpa using h1)
    have hlen := okC_len hok
    refine tr_region rfl (.run [] [] rfl (st_load_box rfl rfl rfl Try.isAgg26 Try.sizeOf26 (nle rfl)) (.run [1400, 1401] [] rfl (st_call rfl 1400 (X := []) en29 rfl (.val nod) (.cons (.agg (.cons (.bor .v) (.cons (.bor (.sl nod)) .nil))) .nil) (by decide) all_nil .nil (copied_con m l (by omega)) rfl rfl (nle rfl)) (.run [] [6] rfl (st_allocZ rfl 6 inf26 rfl (by decide) rfl (by decide)) (.run [] [] rfl (st_store_box rfl rfl rfl rfl rfl Try.sizeOf26 rfl (nle rfl)) .nil)))) ?_
    refine tr_seq ?_
    refine tr_region rfl (.run [] [] rfl (st_load_box rfl rfl rfl Try.isAgg26 Try.sizeOf26 (nle rfl)) (.run [] [] rfl (st_move rfl) (.run [1401, 1700] [] rfl (st_call rfl 1700 (X := []) en30 rfl (.val nod) (.cons (.agg (.cons (.bor .v) (.cons (.bor (.all (len := (pvS l).length) (xs := pvS l) rfl rfl (by decide))) .nil))) (.cons (.one (.bor .v)) .nil)) (by decide) all_nil .nil (find_con m l name (by omega)) rfl rfl (nle rfl)) (.run [] [] rfl (st_assign rfl) .nil)))) ?_
    refine tr_seq ?_
    refine tr_seq ?_
    rcases idx_cases (nmP name) l with ⟨hi, hno⟩ | ⟨k, e, hi, he, hnm, hfi⟩
    · skip
      rw [get_none hok hi]
      refine tr_wk (s' := mk [(4, .ptr 4 0), (6, .ptr 6 0), (7, .p none (.v (.int .i64 (-1))))] [(4, [.p none (.v (.int .i64 0)), .nils]), (6, [.p none (.v (.int .i64 m)), .sl 1401 0 ((pvS l).length)])] [(1401, 3, pvS l)]) ?_ ?_
      · exact wk_mk ⟨rfl, ⟨rfl, ⟨(int_eq hi), trivial⟩⟩⟩ ⟨rfl, ⟨rfl, trivial⟩⟩ ⟨rfl, trivial⟩ rfl
      refine tr_region rfl (.run [] [] rfl (st_move rfl) (.run [] [] rfl (st_eq (st_lss rfl rfl rfl) (bool_eq (decide_eq_true (by omega)))) (.run [] [] rfl (st_move rfl) (.not rfl (.not rfl (.not rfl (.not rfl (.not rfl (.not rfl (.not rfl (.run [] [] rfl (st_pick (t := true) rfl rfl) .nil))))))))))) ?_
      refine tr_if (t := true) rfl (fun _ => ?_) (fun h => nomatch h)
      refine tr_seq ?_
      refine tr_region rfl (.run [] [] rfl (st_load_box rfl rfl rfl Try.isAgg26 Try.sizeOf26 (nle rfl)) (.run [] [] rfl (st_store_box rfl rfl rfl rfl rfl Try.sizeOf26 rfl (nle rfl)) (.run [] [] rfl (st_assign rfl) .nil))) ?_
      refine tr_ret ?_
      exact ends [_, _] [1401] (.cons (.cell rfl rfl Try.isAgg26 Try.sizeOf26 (nle rfl)) (.cons (.tmp rfl) .nil)) (.cons (.agg (.cons .v (.cons (.row (len := (pvS l).length) (xs := pvS l) rfl rfl) .nil)) (cl_cons (.v _) (cl_cons (.sl _ _ (FlatP.clean (pvS_flat l))) cl_nil))) (.cons (.one .v (.v _)) .nil)) (by decide) trivial
    · skip
      have hlte := (List.getElem?_eq_some_iff.1 he).1
      have hpb := okS_pins (okC_s hok) he
      refine tr_wk (s' := mk [(4, .ptr 4 0), (6, .ptr 6 0), (7, .p none (.v (.int .i64 (k:Int))))] [(4, [.p none (.v (.int .i64 0)), .nils]), (6, [.p none (.v (.int .i64 m)), .sl 1401 0 ((pvS l).length)])] [(1401, 3, pvS l)]) ?_ ?_
      · exact wk_mk ⟨rfl, ⟨rfl, ⟨(int_eq hi), trivial⟩⟩⟩ ⟨rfl, ⟨rfl, trivial⟩⟩ ⟨rfl, trivial⟩ rfl
      refine tr_region rfl (.run [] [] rfl (st_move rfl) (.run [] [] rfl (st_eq (st_lss rfl rfl rfl) (bool_eq (decide_eq_false (by omega)))) (.run [] [] rfl (st_move rfl) (.run [] [] rfl (st_faddr_box rfl rfl Try.underlying26 rfl Try.sizeOf24 (by decide)) (.run [] [] rfl (st_load_box1 rfl rfl rfl Try.isAgg24 rfl) (.run [] [] rfl (st_move rfl) (.run [] [] rfl (st_idx_row0 k rfl rfl rfl rfl Try.underlying24 Try.sizeOf33 rfl rfl (by omega)) (.run [] [] rfl (st_faddr_ea rfl rfl Try.underlying33 rfl Try.sizeOf2 (by decide)) (.run [] [] rfl (st_load_ea1 rfl rfl rfl (pvS_get he) Try.isAgg2 rfl) (.run [] [] rfl (st_eql rfl rfl rfl) (.run [] [] rfl (st_pick (t := false) rfl rfl) .nil))))))))))) ?_
      refine tr_if (t := decide (e.pins = 100000)) rfl (fun h2 => ?_) (fun h2 => ?_)
      · skip
        replace h2 := of_decide_eq_true h2
        refine tr_seq ?_
        rw [get_full hok hi he (by omega)]
        refine tr_region rfl (.run [] [] rfl (st_load_box rfl rfl rfl Try.isAgg26 Try.sizeOf26 (nle rfl)) (.run [] [] rfl (st_store_box rfl rfl rfl rfl rfl Try.sizeOf26 rfl (nle rfl)) (.run [] [] rfl (st_assign rfl) .nil))) ?_
        refine tr_ret ?_
        exact ends [_, _] [1401] (.cons (.cell rfl rfl Try.isAgg26 Try.sizeOf26 (nle rfl)) (.cons (.tmp rfl) .nil)) (.cons (.agg (.cons .v (.cons (.row (len := (pvS l).length) (xs := pvS l) rfl rfl) .nil)) (cl_cons (.v _) (cl_cons (.sl _ _ (FlatP.clean (pvS_flat l))) cl_nil))) (.cons (.one .v (.v _)) .nil)) (by decide) trivial
      · skip
        replace h2 := of_decide_eq_false h2
        refine tr_skip ?_
        refine tr_seq ?_
        rw [get_go hok hi he (by omega)]
        refine tr_wk (s' := mk [(4, .ptr 4 0), (6, .ptr 6 0), (7, .p none (.v (.int .i64 (k:Int))))] [(4, [.p none (.v (.int .i64 0)), .nils]), (6, [.p none (.v (.int .i64 m)), .sl 1401 0 ((pvS l).length)])] [(1401, 3, pvS l)]) ?_ ?_
        · exact wk_mk ⟨rfl, ⟨rfl, ⟨rfl, trivial⟩⟩⟩ ⟨rfl, ⟨rfl, trivial⟩⟩ ⟨rfl, trivial⟩ rfl
        refine tr_region rfl (.run [] [] rfl (st_faddr_box rfl rfl Try.underlying26 rfl Try.sizeOf24 (by decide)) (.run [] [] rfl (st_load_box1 rfl rfl rfl Try.isAgg24 rfl) (.run [] [] rfl (st_move rfl) (.run [] [] rfl (st_idx_row0 k rfl rfl rfl rfl Try.underlying24 Try.sizeOf33 rfl rfl (by omega)) (.run [] [] rfl (st_load_ea rfl rfl rfl (pvS_get he) Try.isAgg33 Try.sizeOf33 (nle rfl)) (.run [] [8] rfl (st_allocZ rfl 8 inf33 rfl (by decide) rfl (by decide)) (.run [] [] rfl (st_store_box rfl rfl rfl rfl rfl Try.sizeOf33 rfl (nle rfl)) .nil))))))) ?_
        refine tr_seq ?_
        refine tr_region rfl (.run [] [] rfl (st_faddr_box rfl rfl Try.underlying33 rfl Try.sizeOf2 (by decide)) (.run [] [] rfl (st_load_box1 rfl rfl rfl Try.isAgg2 rfl) (.run [] [] rfl (st_addn rfl rfl rfl (by omega)) (.run [] [] rfl (st_faddr_box rfl rfl Try.underlying33 rfl Try.sizeOf2 (by decide)) (.run [] [] rfl (st_store_box rfl rfl rfl rfl rfl Try.sizeOf2 rfl (nle rfl)) .nil))))) ?_
        refine tr_seq ?_
        refine tr_wk (s' := mk [(4, .ptr 4 0), (6, .ptr 6 0), (7, .p none (.v (.int .i64 (k:Int)))), (8, .ptr 8 0)] [(4, [.p none (.v (.int .i64 0)), .nils]), (6, [.p none (.v (.int .i64 m)), .sl 1401 0 ((pvS l).length)]), (8, [.p none (.v (.string e.name)), .p none (.v (.int .i64 e.size)), .p none (.v (.int .i64 (e.pins + 1)))])] [(1401, 3, pvS l)]) ?_ ?_
        · exact wk_mk ⟨rfl, ⟨rfl, ⟨rfl, ⟨rfl, trivial⟩⟩⟩⟩ ⟨rfl, ⟨rfl, ⟨rfl, trivial⟩⟩⟩ ⟨rfl, trivial⟩ rfl
        refine tr_regionD mixed rfl (.run [] [] rfl (st_faddr_box rfl rfl Try.underlying26 rfl Try.sizeOf24 (by decide)) (.run [] [] rfl (st_load_box1 rfl rfl rfl Try.isAgg24 rfl) (.run [] [] rfl (st_move rfl) (.run [] [] rfl (st_move rfl) (.run [] [] rfl (st_addn rfl rfl rfl (by omega)) (.run [1401, 4400] [] rfl (st_call rfl 4400 (X := [1401]) en46 rfl (.val nod) (.cons (.one (.own (len := (pvS l).length) (xs := pvS l) rfl rfl)) (.cons (.one (.bor .v)) (.cons (.one (.bor .v)) .nil))) (by decide) (all_cons rfl all_nil) (.gone .nil) (delete_con l k hlte (by omega)) rfl rfl (nle rfl)) (.run [] [] rfl (st_load_box rfl rfl rfl Try.isAgg33 Try.sizeOf33 (nle rfl)) (.run [4600] [] rfl (st_buildSlice rfl 4600 Try.underlying24 inf33 (nle rfl) (by decide) rfl rfl rfl (.cons .v (.cons .v (.cons .v .nil))) (by decide) rfl (by decide) rfl (by decide) rfl) (.run [4400, 4600, 4700] [] rfl (st_call rfl 4700 (X := [4400, 4600]) en45 rfl (.val nod) (.cons (.one (.own (len := (pvS (l.eraseIdx k)).length) (xs := pvS (l.eraseIdx k)) rfl rfl)) (.cons (.one (.bor .v)) (.cons (.one (.own (len := 1) (xs := [[PV.v (.string e.name), PV.v (.int .i64 e.size), PV.v (.int .i64 (e.pins + 1))]]) rfl rfl)) .nil))) (by decide) (all_cons rfl (all_cons rfl all_nil)) (.gone (.gone .nil)) (insS_con (l.eraseIdx k) ⟨e.name, e.size, e.pins + 1⟩ 0 (Nat.zero_le _) (by have := List.length_eraseIdx_le l k; omega)) rfl rfl (nle rfl)) (.run [] [] rfl (st_faddr_box rfl rfl Try.underlying26 rfl Try.sizeOf24 (by decide)) (.run [] [] rfl (st_store_box rfl rfl rfl rfl rfl Try.sizeOf24 rfl (nle rfl)) .nil))))))))))) (by kernel_rfl) ?_
        refine tr_seq ?_
        refine tr_region rfl (.run [] [] rfl (st_load_box rfl rfl rfl Try.isAgg26 Try.sizeOf26 (nle rfl)) (.run [] [] rfl (st_store_box rfl rfl rfl rfl rfl Try.sizeOf26 rfl (nle rfl)) (.run [] [] rfl (st_assign rfl) .nil))) ?_
        refine tr_ret ?_
        exact ends [_, _] [4700] (.cons (.cell rfl rfl Try.isAgg26 Try.sizeOf26 (nle rfl)) (.cons (.tmp rfl) .nil)) (.cons (.agg (.cons .v (.cons (.row (len := (pvS (⟨e.name, e.size, e.pins + 1⟩ :: l.eraseIdx k)).length) (xs := pvS (⟨e.name, e.size, e.pins + 1⟩ :: l.eraseIdx k)) rfl rfl) .nil)) (cl_cons (.v _) (cl_cons (.sl _ _ (FlatP.clean (pvS_flat (⟨e.name, e.size, e.pins + 1⟩ :: l.eraseIdx k)))) cl_nil))) (.cons (.one .v (.v _)) .nil)) (by decide) trivial
theorem specCacheGet_con (m : Int) (l : List Slot) (name : ByteArray) (hl : l.length ≤ 2000000) : Con Try.prog 20 [.agg [PV.v (.int .i64 m), PV.sl false 3 (pvS l)], .one (PV.v (.string name))] [] [.agg [.v (.int .i64 (getC m l name).1), .sl true 3 (pvS (getC m l name).2.1)], .one (.v (.bool (getC m l name).2.2))] := by
  refine con_of_tr Try.func20 rfl rfl rfl rfl ?_
  have hle := pvS_length l
  refine tr_seq ?_
  refine tr_region rfl (.run [] [2] rfl (st_box rfl 2 rfl rfl (by decide) rfl (by decide)) (.run [] [4] rfl (st_allocZ rfl 4 inf26 rfl (by decide) rfl (by decide)) (.run [] [] rfl (st_assign rfl) .nil))) ?_
  refine tr_seq ?_
  refine tr_seq ?_
  refine tr_region rfl (.run [] [] rfl (st_load_box rfl rfl rfl Try.isAgg26 Try.sizeOf26 (nle rfl)) (.run [1200] [] rfl (st_call rfl 1200 (X := []) en25 rfl (.val nod) (.cons (.agg (.cons (.bor .v) (.cons (.bor (.sl nod)) .nil))) .nil) (by decide) all_nil .nil (specCacheOk_con m l (by omega)) rfl rfl (nle rfl)) (.run [] [] rfl (st_not (b := okC m l) rfl rfl) .nil))) ?_
  refine tr_if (t := (!(okC m l))) rfl (fun h1 => ?_) (fun h1 => ?_)
  · skip
    replace h1 : okC m l = false := by simpa using h1
    refine tr_seq ?_
    rw [get_bad (n := name) (by simpa using h1)]
    refine tr_region rfl (.run [] [] rfl (st_build (pl := [(0, 1), (1, 1)]) rfl Try.underlying26 inf26 (by kernel_rfl) rfl rfl) (.run [] [] rfl (st_store_box rfl rfl rfl rfl rfl Try.sizeOf26 rfl (nle rfl)) (.run [] [] rfl (st_assign rfl) .nil))) ?_
    refine tr_ret ?_
    exact ends [_, _] [] (.cons (.cell rfl rfl Try.isAgg26 Try.sizeOf26 (nle rfl)) (.cons (.tmp rfl) .nil)) (.cons (.agg (.cons .v (.cons (.nil _) .nil)) (cl_cons (.v _) (cl_cons (.sl _ _ (fun _ h => nomatch h)) cl_nil))) (.cons (.one .v (.v _)) .nil)) (by decide) trivial
  · skip
    replace h1 : okC m l = true := by simpa using h1
    refine tr_skip ?_
    refine tr_seq ?_
    have hok : okC m l = true := (by simpa using h1)
    have hlen := okC_len hok
    refine tr_region rfl (.run [] [] rfl (st_load_box rfl rfl rfl Try.isAgg26 Try.sizeOf26 (nle rfl)) (.run [1600, 1601] [] rfl (st_call rfl 1600 (X := []) en33 rfl (.val nod) (.cons (.agg (.cons (.bor .v) (.cons (.bor (.sl nod)) .nil))) .nil) (by decide) all_nil .nil (l11Copy_con m l (by omega)) rfl rfl (nle rfl)) (.run [] [6] rfl (st_allocZ rfl 6 inf26 rfl (by decide) rfl (by decide)) (.run [] [] rfl (st_store_box rfl rfl rfl rfl rfl Try.sizeOf26 rfl (nle rfl)) .nil)))) ?_
    refine tr_seq ?_
    refine tr_region rfl (.run [] [] rfl (st_load_box rfl rfl rfl Try.isAgg26 Try.sizeOf26 (nle rfl)) (.run [] [] rfl (st_move rfl) (.run [1601, 1900] [] rfl (st_call rfl 1900 (X := []) en34 rfl (.val nod) (.cons (.agg (.cons (.bor .v) (.cons (.bor (.all (len := (pvS l).length) (xs := pvS l) rfl rfl (by decide))) .nil))) (.cons (.one (.bor .v)) .nil)) (by decide) all_nil .nil (l11At_con m l name (by omega)) rfl rfl (nle rfl)) (.run [] [] rfl (st_assign rfl) .nil)))) ?_
    refine tr_seq ?_
    refine tr_seq ?_
    rcases idx_cases (nmP name) l with ⟨hi, hno⟩ | ⟨k, e, hi, he, hnm, hfi⟩
    · skip
      rw [get_none hok hi]
      refine tr_wk (s' := mk [(4, .ptr 4 0), (6, .ptr 6 0), (7, .p none (.v (.int .i64 (-1))))] [(4, [.p none (.v (.int .i64 0)), .nils]), (6, [.p none (.v (.int .i64 m)), .sl 1601 0 ((pvS l).length)])] [(1601, 3, pvS l)]) ?_ ?_
      · exact wk_mk ⟨rfl, ⟨rfl, ⟨(int_eq hi), trivial⟩⟩⟩ ⟨rfl, ⟨rfl, trivial⟩⟩ ⟨rfl, trivial⟩ rfl
      refine tr_region rfl (.run [] [] rfl (st_move rfl) (.run [] [] rfl (st_eq (st_lss rfl rfl rfl) (bool_eq (decide_eq_true (by omega)))) (.run [] [] rfl (st_move rfl) (.not rfl (.not rfl (.not rfl (.not rfl (.not rfl (.not rfl (.not rfl (.run [] [] rfl (st_pick (t := true) rfl rfl) .nil))))))))))) ?_
      refine tr_if (t := true) rfl (fun _ => ?_) (fun h => nomatch h)
      refine tr_seq ?_
      refine tr_region rfl (.run [] [] rfl (st_load_box rfl rfl rfl Try.isAgg26 Try.sizeOf26 (nle rfl)) (.run [] [] rfl (st_store_box rfl rfl rfl rfl rfl Try.sizeOf26 rfl (nle rfl)) (.run [] [] rfl (st_assign rfl) .nil))) ?_
      refine tr_ret ?_
      exact ends [_, _] [1601] (.cons (.cell rfl rfl Try.isAgg26 Try.sizeOf26 (nle rfl)) (.cons (.tmp rfl) .nil)) (.cons (.agg (.cons .v (.cons (.row (len := (pvS l).length) (xs := pvS l) rfl rfl) .nil)) (cl_cons (.v _) (cl_cons (.sl _ _ (FlatP.clean (pvS_flat l))) cl_nil))) (.cons (.one .v (.v _)) .nil)) (by decide) trivial
    · skip
      have hlte := (List.getElem?_eq_some_iff.1 he).1
      have hpb := okS_pins (okC_s hok) he
      refine tr_wk (s' := mk [(4, .ptr 4 0), (6, .ptr 6 0), (7, .p none (.v (.int .i64 (k:Int))))] [(4, [.p none (.v (.int .i64 0)), .nils]), (6, [.p none (.v (.int .i64 m)), .sl 1601 0 ((pvS l).length)])] [(1601, 3, pvS l)]) ?_ ?_
      · exact wk_mk ⟨rfl, ⟨rfl, ⟨(int_eq hi), trivial⟩⟩⟩ ⟨rfl, ⟨rfl, trivial⟩⟩ ⟨rfl, trivial⟩ rfl
      refine tr_region rfl (.run [] [] rfl (st_move rfl) (.run [] [] rfl (st_eq (st_lss rfl rfl rfl) (bool_eq (decide_eq_false (by omega)))) (.run [] [] rfl (st_move rfl) (.run [] [] rfl (st_faddr_box rfl rfl Try.underlying26 rfl Try.sizeOf24 (by decide)) (.run [] [] rfl (st_load_box1 rfl rfl rfl Try.isAgg24 rfl) (.run [] [] rfl (st_move rfl) (.run [] [] rfl (st_idx_row0 k rfl rfl rfl rfl Try.underlying24 Try.sizeOf33 rfl rfl (by omega)) (.run [] [] rfl (st_faddr_ea rfl rfl Try.underlying33 rfl Try.sizeOf2 (by decide)) (.run [] [] rfl (st_load_ea1 rfl rfl rfl (pvS_get he) Try.isAgg2 rfl) (.run [] [] rfl (st_geq rfl rfl rfl) (.run [] [] rfl (st_pick (t := false) rfl rfl) .nil))))))))))) ?_
      refine tr_if (t := decide (100000 ≤ e.pins)) rfl (fun h2 => ?_) (fun h2 => ?_)
      · skip
        replace h2 := of_decide_eq_true h2
        refine tr_seq ?_
        rw [get_full hok hi he (by omega)]
        refine tr_region rfl (.run [] [] rfl (st_load_box rfl rfl rfl Try.isAgg26 Try.sizeOf26 (nle rfl)) (.run [] [] rfl (st_store_box rfl rfl rfl rfl rfl Try.sizeOf26 rfl (nle rfl)) (.run [] [] rfl (st_assign rfl) .nil))) ?_
        refine tr_ret ?_
        exact ends [_, _] [1601] (.cons (.cell rfl rfl Try.isAgg26 Try.sizeOf26 (nle rfl)) (.cons (.tmp rfl) .nil)) (.cons (.agg (.cons .v (.cons (.row (len := (pvS l).length) (xs := pvS l) rfl rfl) .nil)) (cl_cons (.v _) (cl_cons (.sl _ _ (FlatP.clean (pvS_flat l))) cl_nil))) (.cons (.one .v (.v _)) .nil)) (by decide) trivial
      · skip
        replace h2 := of_decide_eq_false h2
        refine tr_skip ?_
        refine tr_seq ?_
        rw [get_go hok hi he (by omega)]
        refine tr_wk (s' := mk [(4, .ptr 4 0), (6, .ptr 6 0), (7, .p none (.v (.int .i64 (k:Int))))] [(4, [.p none (.v (.int .i64 0)), .nils]), (6, [.p none (.v (.int .i64 m)), .sl 1601 0 ((pvS l).length)])] [(1601, 3, pvS l)]) ?_ ?_
        · exact wk_mk ⟨rfl, ⟨rfl, ⟨rfl, trivial⟩⟩⟩ ⟨rfl, ⟨rfl, trivial⟩⟩ ⟨rfl, trivial⟩ rfl
        refine tr_region rfl (.run [] [] rfl (st_faddr_box rfl rfl Try.underlying26 rfl Try.sizeOf24 (by decide)) (.run [] [] rfl (st_load_box1 rfl rfl rfl Try.isAgg24 rfl) (.run [] [] rfl (st_move rfl) (.run [] [] rfl (st_idx_row0 k rfl rfl rfl rfl Try.underlying24 Try.sizeOf33 rfl rfl (by omega)) (.run [] [] rfl (st_load_ea rfl rfl rfl (pvS_get he) Try.isAgg33 Try.sizeOf33 (nle rfl)) (.run [] [8] rfl (st_allocZ rfl 8 inf33 rfl (by decide) rfl (by decide)) (.run [] [] rfl (st_store_box rfl rfl rfl rfl rfl Try.sizeOf33 rfl (nle rfl)) .nil))))))) ?_
        refine tr_seq ?_
        refine tr_region rfl (.run [] [] rfl (st_faddr_box rfl rfl Try.underlying33 rfl Try.sizeOf2 (by decide)) (.run [] [] rfl (st_load_box1 rfl rfl rfl Try.isAgg2 rfl) (.run [] [] rfl (st_addn rfl rfl rfl (by omega)) (.run [] [] rfl (st_faddr_box rfl rfl Try.underlying33 rfl Try.sizeOf2 (by decide)) (.run [] [] rfl (st_store_box rfl rfl rfl rfl rfl Try.sizeOf2 rfl (nle rfl)) .nil))))) ?_
        refine tr_seq ?_
        refine tr_region rfl (.run [] [] rfl (st_load_box rfl rfl rfl Try.isAgg33 Try.sizeOf33 (nle rfl)) (.run [4200] [] rfl (st_buildSlice rfl 4200 Try.underlying24 inf33 (nle rfl) (by decide) rfl rfl rfl (.cons .v (.cons .v (.cons .v .nil))) (by decide) rfl (by decide) rfl (by decide) rfl) (.run [] [] rfl (st_assign rfl) .nil))) ?_
        refine tr_seq ?_
        refine tr_seq ?_
        refine tr_region rfl (.run [] [] rfl (st_assign rfl) .nil) ?_
        refine tr_block ?_
        refine tr_loopS (σ := Nat) (fun i => mk [(4, .ptr 4 0), (6, .ptr 6 0), (7, .p none (.v (.int .i64 (k:Int)))), (9, .sl 4200 0 ((pvS (⟨e.name, e.size, e.pins + 1⟩ :: (l.take i).eraseIdx k)).length)), (10, .p none (.v (.int .i64 (i:Int))))] [(4, [.p none (.v (.int .i64 0)), .nils]), (6, [.p none (.v (.int .i64 m)), .sl 1601 0 ((pvS l).length)])] [(1601, 3, pvS l), (4200, 3, pvS (⟨e.name, e.size, e.pins + 1⟩ :: (l.take i).eraseIdx k))]) (fun i => i ≤ l.length) (fun i => l.length - i) 0 (by simp) (wk_mk ⟨rfl, ⟨rfl, ⟨rfl, ⟨rfl, ⟨(int_eq (by omega)), trivial⟩⟩⟩⟩⟩ ⟨rfl, ⟨rfl, trivial⟩⟩ ⟨rfl, ⟨(congrArg (fun x => some (3, x)) (by rfl)), trivial⟩⟩ rfl) ?_
        rintro i hG
        replace hG : i ≤ l.length := hG
        have hle3 : ((l.take i).eraseIdx k).length ≤ 2000000 := by have := List.length_eraseIdx_le (l.take i) k; have := List.length_take_le i l; omega
        refine tr_seq ?_
        refine tr_seq ?_
        refine tr_region rfl (.run [] [] rfl (st_move rfl) (.run [] [] rfl (st_faddr_box rfl rfl Try.underlying26 rfl Try.sizeOf24 (by decide)) (.run [] [] rfl (st_load_box1 rfl rfl rfl Try.isAgg24 rfl) (.run [] [] rfl (st_len_row rfl rfl Try.underlying24) (.run [] [] rfl (st_lss rfl rfl rfl) .nil))))) ?_
        refine tr_if (t := decide ((i:Int) < ((pvS l).length : Int))) rfl (fun h3 => ?_) (fun h3 => ?_)
        · skip
          replace h3 := of_decide_eq_true h3
          refine tr_skip ?_
          refine tr_seq ?_
          refine tr_block ?_
          refine tr_seq ?_
          refine tr_region rfl (.run [] [] rfl (st_move rfl) (.run [] [] rfl (st_move rfl) (.run [] [] rfl (st_neq rfl rfl rfl) .nil))) ?_
          refine tr_if (t := (!(decide ((i:Int) = (k:Int))))) rfl (fun h4 => ?_) (fun h4 => ?_)
          · skip
            replace h4 : ¬ ((i:Int) = (k:Int)) := by simpa using h4
            refine tr_wk (s' := mk [(4, .ptr 4 0), (6, .ptr 6 0), (7, .p none (.v (.int .i64 (k:Int)))), (9, .sl 4200 0 ((pvS (⟨e.name, e.size, e.pins + 1⟩ :: (l.take i).eraseIdx k)).length)), (10, .p none (.v (.int .i64 (i:Int))))] [(4, [.p none (.v (.int .i64 0)), .nils]), (6, [.p none (.v (.int .i64 m)), .sl 1601 0 ((pvS l).length)])] [(1601, 3, pvS l), (4200, 3, pvS (⟨e.name, e.size, e.pins + 1⟩ :: (l.take i).eraseIdx k))]) ?_ ?_
            · exact wk_mk ⟨rfl, ⟨rfl, ⟨rfl, ⟨rfl, ⟨rfl, trivial⟩⟩⟩⟩⟩ ⟨rfl, ⟨rfl, trivial⟩⟩ ⟨rfl, ⟨rfl, trivial⟩⟩ rfl
            obtain ⟨e2, he2⟩ : ∃ e, l[i]? = some e := ⟨_, List.getElem?_eq_getElem (by (have hL := pvS_length l; omega))⟩
            have hlte2 := (List.getElem?_eq_some_iff.1 he2).1
            refine tr_region rfl (.run [] [] rfl (st_move rfl) (.run [] [] rfl (st_faddr_box rfl rfl Try.underlying26 rfl Try.sizeOf24 (by decide)) (.run [] [] rfl (st_load_box1 rfl rfl rfl Try.isAgg24 rfl) (.run [] [] rfl (st_move rfl) (.run [] [] rfl (st_idx_row0 i rfl rfl rfl rfl Try.underlying24 Try.sizeOf33 rfl rfl (by omega)) (.run [] [] rfl (st_load_ea rfl rfl rfl (pvS_get he2) Try.isAgg33 Try.sizeOf33 (nle rfl)) (.run [5900] [] rfl (st_buildSlice rfl 5900 Try.underlying24 inf33 (nle rfl) (by decide) rfl rfl rfl (.cons .v (.cons .v (.cons .v .nil))) (by decide) rfl (by decide) rfl (by decide) rfl) (.run [4200] [] rfl (st_append rfl 4200 (ib := 4200) (len := ((pvS (⟨e.name, e.size, e.pins + 1⟩ :: (l.take i).eraseIdx k)) ++ [[PV.v (.string e2.name), PV.v (.int .i64 e2.size), PV.v (.int .i64 e2.pins)]]).length) rfl rfl (.row (len := (pvS (⟨e.name, e.size, e.pins + 1⟩ :: (l.take i).eraseIdx k)).length) (xs := pvS (⟨e.name, e.size, e.pins + 1⟩ :: (l.take i).eraseIdx k)) rfl rfl (.inl rfl)) (.give (len := 1) (xs := [[PV.v (.string e2.name), PV.v (.int .i64 e2.size), PV.v (.int .i64 e2.pins)]]) rfl rfl) Try.underlying24 (sk Try.underlying24 rfl) inf33 rfl (by decide) (by decide) (by decide) List.length_append (by simp only [maxLen, List.length_append, List.length_map, List.length_cons, List.length_nil, List.length_take, List.length_drop, pvS_length]; omega) (by simp only [maxLen, List.length_append, List.length_map, List.length_cons, List.length_nil, List.length_take, List.length_drop, pvS_length]; omega)) (.run [] [] rfl (st_assign rfl) .nil))))))))) ?_
            have hr5 : (pvS (⟨e.name, e.size, e.pins + 1⟩ :: (l.take i).eraseIdx k)) ++ [[PV.v (.string e2.name), PV.v (.int .i64 e2.size), PV.v (.int .i64 e2.pins)]] = pvS (⟨e.name, e.size, e.pins + 1⟩ :: (l.take (i + 1)).eraseIdx k) := by rw [er_ne he2 (by omega)]; simp [pvS, Slot.pv]
            have hp6 : (.sl 4200 0 (((pvS (⟨e.name, e.size, e.pins + 1⟩ :: (l.take i).eraseIdx k)) ++ [[PV.v (.string e2.name), PV.v (.int .i64 e2.size), PV.v (.int .i64 e2.pins)]]).length) : AV) = .sl 4200 0 ((pvS (⟨e.name, e.size, e.pins + 1⟩ :: (l.take (i + 1)).eraseIdx k)).length) := by simp only [hr5]
            refine tr_wk (s' := mk [(4, .ptr 4 0), (6, .ptr 6 0), (7, .p none (.v (.int .i64 (k:Int)))), (9, .sl 4200 0 ((pvS (⟨e.name, e.size, e.pins + 1⟩ :: (l.take (i + 1)).eraseIdx k)).length)), (10, .p none (.v (.int .i64 (i:Int))))] [(4, [.p none (.v (.int .i64 0)), .nils]), (6, [.p none (.v (.int .i64 m)), .sl 1601 0 ((pvS l).length)])] [(1601, 3, pvS l), (4200, 3, pvS (⟨e.name, e.size, e.pins + 1⟩ :: (l.take (i + 1)).eraseIdx k))]) ?_ ?_
            · exact wk_mk ⟨rfl, ⟨rfl, ⟨rfl, ⟨hp6, ⟨rfl, trivial⟩⟩⟩⟩⟩ ⟨rfl, ⟨rfl, trivial⟩⟩ ⟨rfl, ⟨(congrArg (fun x => some (3, x)) hr5), trivial⟩⟩ rfl
            refine tr_region rfl (.run [] [] rfl (st_move rfl) (.run [] [] rfl (st_addn rfl rfl rfl (by omega)) (.run [] [] rfl (st_assign rfl) .nil))) ?_
            refine nxt (Q := fun _ _ => False) (z := i) (i + 1) ?_ ?_ ?_
            · show (i + 1) ≤ l.length
              omega
            · show l.length - (i + 1) < l.length - i
              omega
            · exact wk_mk ⟨rfl, ⟨rfl, ⟨rfl, ⟨rfl, ⟨(int_eq (by omega)), trivial⟩⟩⟩⟩⟩ ⟨rfl, ⟨rfl, trivial⟩⟩ ⟨rfl, ⟨rfl, trivial⟩⟩ rfl
          · skip
            replace h4 : (i:Int) = (k:Int) := by simpa using h4
            refine tr_skip ?_
            refine tr_region rfl (.run [] [] rfl (st_move rfl) (.run [] [] rfl (st_addn rfl rfl rfl (by omega)) (.run [] [] rfl (st_assign rfl) .nil))) ?_
            refine nxt (Q := fun _ _ => False) (z := i) (i + 1) ?_ ?_ ?_
            · show (i + 1) ≤ l.length
              omega
            · show l.length - (i + 1) < l.length - i
              omega
            · exact wk_mk ⟨rfl, ⟨rfl, ⟨rfl, ⟨(congrArg (fun x => AV.sl 4200 0 (pvS (⟨e.name, e.size, e.pins + 1⟩ :: x)).length) (show (l.take i).eraseIdx k = (l.take (i + 1)).eraseIdx k from by rw [show i = k by omega]; exact er_at.symm)), ⟨(int_eq (by omega)), trivial⟩⟩⟩⟩⟩ ⟨rfl, ⟨rfl, trivial⟩⟩ ⟨rfl, ⟨(congrArg (fun x => some (3, x)) (by rw [show i = k by omega, er_at])), trivial⟩⟩ rfl
        · skip
          replace h3 := of_decide_eq_false h3
          refine tr_exit ?_
          refine tr_seq ?_
          have hil : i = l.length := (by omega)
          have hea : (l.take i).eraseIdx k = l.eraseIdx k := er_all (by omega)
          rw [← hea]
          refine tr_region rfl (.run [] [] rfl (st_move rfl) (.run [] [] rfl (st_faddr_box rfl rfl Try.underlying26 rfl Try.sizeOf24 (by decide)) (.run [] [] rfl (st_store_box rfl rfl rfl rfl rfl Try.sizeOf24 rfl (nle rfl)) .nil))) ?_
          refine tr_seq ?_
          refine tr_region rfl (.run [] [] rfl (st_load_box rfl rfl rfl Try.isAgg26 Try.sizeOf26 (nle rfl)) (.run [] [] rfl (st_store_box rfl rfl rfl rfl rfl Try.sizeOf26 rfl (nle rfl)) (.run [] [] rfl (st_assign rfl) .nil))) ?_
          refine tr_ret ?_
          exact ends [_, _] [4200] (.cons (.cell rfl rfl Try.isAgg26 Try.sizeOf26 (nle rfl)) (.cons (.tmp rfl) .nil)) (.cons (.agg (.cons .v (.cons (.row (len := (pvS (⟨e.name, e.size, e.pins + 1⟩ :: (l.take i).eraseIdx k)).length) (xs := pvS (⟨e.name, e.size, e.pins + 1⟩ :: (l.take i).eraseIdx k)) rfl rfl) .nil)) (cl_cons (.v _) (cl_cons (.sl _ _ (FlatP.clean (pvS_flat _))) cl_nil))) (.cons (.one .v (.v _)) .nil)) (by decide) trivial
theorem cachePut_con (m : Int) (l : List Slot) (name : ByteArray) (size : Int) (hl : l.length ≤ 2000000) : Con Try.prog 23 [.agg [PV.v (.int .i64 m), PV.sl false 3 (pvS l)], .one (PV.v (.string name)), .one (PV.v (.int .i64 size))] [] [.agg [.v (.int .i64 (putC m l name size).1), .sl true 3 (pvS (putC m l name size).2.1)], .one (.v (.bool (putC m l name size).2.2))] := by
  refine con_of_tr Try.func23 rfl rfl rfl rfl ?_
  have hle := pvS_length l
  refine tr_seq ?_
  refine tr_region rfl (.run [] [3] rfl (st_box rfl 3 rfl rfl (by decide) rfl (by decide)) (.run [] [6] rfl (st_allocZ rfl 6 inf26 rfl (by decide) rfl (by decide)) (.run [] [] rfl (st_assign rfl) .nil))) ?_
  refine tr_seq ?_
  refine tr_seq ?_
  refine tr_region rfl (.run [] [] rfl (st_load_box rfl rfl rfl Try.isAgg26 Try.sizeOf26 (nle rfl)) (.run [1000] [] rfl (st_call rfl 1000 (X := []) en13 rfl (.val nod) (.cons (.agg (.cons (.bor .v) (.cons (.bor (.sl nod)) .nil))) .nil) (by decide) all_nil .nil (cacheOk_con m l (by omega)) rfl rfl (nle rfl)) (.run [] [] rfl (st_not (b := okC m l) rfl rfl) .nil))) ?_
  refine tr_if (t := (!(okC m l))) rfl (fun h1 => ?_) (fun h1 => ?_)
  · skip
    replace h1 : okC m l = false := by simpa using h1
    refine tr_seq ?_
    rw [put_bad (n := name) (s := size) (by simpa using h1)]
    refine tr_region rfl (.run [] [] rfl (st_build (pl := [(0, 1), (1, 1)]) rfl Try.underlying26 inf26 (by kernel_rfl) rfl rfl) (.run [] [] rfl (st_store_box rfl rfl rfl rfl rfl Try.sizeOf26 rfl (nle rfl)) (.run [] [] rfl (st_assign rfl) .nil))) ?_
    refine tr_ret ?_
    exact ends [_, _] [] (.cons (.cell rfl rfl Try.isAgg26 Try.sizeOf26 (nle rfl)) (.cons (.tmp rfl) .nil)) (.cons (.agg (.cons .v (.cons (.nil _) .nil)) (cl_cons (.v _) (cl_cons (.sl _ _ (fun _ h => nomatch h)) cl_nil))) (.cons (.one .v (.v _)) .nil)) (by decide) trivial
  · skip
    replace h1 : okC m l = true := by simpa using h1
    refine tr_skip ?_
    refine tr_seq ?_
    have hok : okC m l = true := (by simpa using h1)
    have hlen := okC_len hok
    refine tr_region rfl (.run [] [] rfl (st_load_box rfl rfl rfl Try.isAgg26 Try.sizeOf26 (nle rfl)) (.run [1400, 1401] [] rfl (st_call rfl 1400 (X := []) en29 rfl (.val nod) (.cons (.agg (.cons (.bor .v) (.cons (.bor (.sl nod)) .nil))) .nil) (by decide) all_nil .nil (copied_con m l (by omega)) rfl rfl (nle rfl)) (.run [] [8] rfl (st_allocZ rfl 8 inf26 rfl (by decide) rfl (by decide)) (.run [] [] rfl (st_store_box rfl rfl rfl rfl rfl Try.sizeOf26 rfl (nle rfl)) .nil)))) ?_
    refine tr_seq ?_
    refine tr_seq ?_
    refine tr_wk (s' := mk [(1, .p none (.v (.string name))), (2, .p none (.v (.int .i64 size))), (3, .ptr 3 0), (6, .ptr 6 0), (8, .ptr 8 0)] [(3, [.p none (.v (.int .i64 m)), .p none (.sl false 3 (pvS l))]), (6, [.p none (.v (.int .i64 0)), .nils]), (8, [.p none (.v (.int .i64 m)), .sl 1401 0 ((pvS l).length)])] [(1401, 3, pvS l)]) ?_ ?_
    · exact wk_mk ⟨rfl, ⟨rfl, ⟨rfl, ⟨rfl, ⟨rfl, trivial⟩⟩⟩⟩⟩ ⟨rfl, ⟨rfl, ⟨rfl, trivial⟩⟩⟩ ⟨rfl, trivial⟩ rfl
    rcases bfc (!(isSlot name size)) with h2 | h2
    · have h2' := h2
      replace h2' : isSlot name size = true := by simpa using h2'
      refine tr_region rfl (.run [] [] rfl (st_move rfl) (.run [] [] rfl (st_move rfl) (.run [1700] [] rfl (st_call rfl 1700 (X := []) en37 rfl (.val nod) (.cons (.one (.bor .v)) (.cons (.one (.bor .v)) .nil)) (by decide) all_nil .nil (isSlot_con name size) rfl rfl (nle rfl)) (.run [] [] rfl (st_eq (st_not (b := isSlot name size) rfl rfl) (congrArg (fun b => AV.p none (.v (.bool b))) h2)) (.run [] [] rfl (st_move rfl) (.run [] [] rfl (st_load_box rfl rfl rfl Try.isAgg26 Try.sizeOf26 (nle rfl)) (.run [] [] rfl (st_move rfl) (.run [1401, 2200] [] rfl (st_call rfl 2200 (X := []) en30 rfl (.val nod) (.cons (.agg (.cons (.bor .v) (.cons (.bor (.all (len := (pvS l).length) (xs := pvS l) rfl rfl (by decide))) .nil))) (.cons (.one (.bor .v)) .nil)) (by decide) all_nil .nil (find_con m l name (by omega)) rfl rfl (nle rfl)) (.run [] [] rfl (st_geq rfl rfl rfl) (.run [] [] rfl (st_pick (t := false) rfl rfl) .nil)))))))))) ?_
      refine tr_if (t := decide (0 ≤ (idxF (nmP name) l))) rfl (fun h3 => ?_) (fun h3 => ?_)
      · skip
        replace h3 := of_decide_eq_true h3
        refine tr_seq ?_
        rw [put_no (n := name) (s := size) hok (by simp_all [isSlot])]
        refine tr_region rfl (.run [] [] rfl (st_load_box rfl rfl rfl Try.isAgg26 Try.sizeOf26 (nle rfl)) (.run [] [] rfl (st_store_box rfl rfl rfl rfl rfl Try.sizeOf26 rfl (nle rfl)) (.run [] [] rfl (st_assign rfl) .nil))) ?_
        refine tr_ret ?_
        exact ends [_, _] [1401] (.cons (.cell rfl rfl Try.isAgg26 Try.sizeOf26 (nle rfl)) (.cons (.tmp rfl) .nil)) (.cons (.agg (.cons .v (.cons (.row (len := (pvS l).length) (xs := pvS l) rfl rfl) .nil)) (cl_cons (.v _) (cl_cons (.sl _ _ (FlatP.clean (pvS_flat l))) cl_nil))) (.cons (.one .v (.v _)) .nil)) (by decide) trivial
      · skip
        replace h3 := of_decide_eq_false h3
        refine tr_skip ?_
        refine tr_seq ?_
        have hsl : isSlot name size = true := (by simp_all [isSlot])
        have hnx : ¬ 0 ≤ idxF (nmP name) l := (by simp_all)
        refine tr_wk (s' := mk [(1, .p none (.v (.string name))), (2, .p none (.v (.int .i64 size))), (3, .ptr 3 0), (6, .ptr 6 0), (8, .ptr 8 0)] [(3, [.p none (.v (.int .i64 m)), .p none (.sl false 3 (pvS l))]), (6, [.p none (.v (.int .i64 0)), .nils]), (8, [.p none (.v (.int .i64 m)), .sl 1401 0 ((pvS l).length)])] [(1401, 3, pvS l)]) ?_ ?_
        · exact wk_mk ⟨rfl, ⟨rfl, ⟨rfl, ⟨rfl, ⟨rfl, trivial⟩⟩⟩⟩⟩ ⟨rfl, ⟨rfl, ⟨rfl, trivial⟩⟩⟩ ⟨rfl, trivial⟩ rfl
        refine tr_region rfl (.run [] [] rfl (st_faddr_box rfl rfl Try.underlying26 rfl Try.sizeOf24 (by decide)) (.run [] [] rfl (st_load_box1 rfl rfl rfl Try.isAgg24 rfl) (.run [] [] rfl (st_move rfl) (.run [] [] rfl (st_move rfl) (.run [] [] rfl (st_build (pl := [(0, 1), (1, 1), (2, 1)]) rfl Try.underlying33 inf33 (by kernel_rfl) rfl rfl) (.run [3100] [] rfl (st_buildSlice rfl 3100 Try.underlying24 inf33 (nle rfl) (by decide) rfl rfl rfl (.cons .v (.cons .v (.cons .v .nil))) (by decide) rfl (by decide) rfl (by decide) rfl) (.run [1401, 3100, 3200] [] rfl (st_call rfl 3200 (X := [1401, 3100]) en45 rfl (.val nod) (.cons (.one (.own (len := (pvS l).length) (xs := pvS l) rfl rfl)) (.cons (.one (.bor .v)) (.cons (.one (.own (len := 1) (xs := [[PV.v (.string name), PV.v (.int .i64 size), PV.v (.int .i64 1)]]) rfl rfl)) .nil))) (by decide) (all_cons rfl (all_cons rfl all_nil)) (.gone (.gone .nil)) (insS_con l ⟨name, size, 1⟩ 0 (Nat.zero_le _) (by omega)) rfl rfl (nle rfl)) (.run [] [] rfl (st_faddr_box rfl rfl Try.underlying26 rfl Try.sizeOf24 (by decide)) (.run [] [] rfl (st_store_box rfl rfl rfl rfl rfl Try.sizeOf24 rfl (nle rfl)) .nil))))))))) ?_
        refine tr_seq ?_
        refine tr_seq ?_
        refine tr_region rfl (.run [] [] rfl (st_load_box rfl rfl rfl Try.isAgg26 Try.sizeOf26 (nle rfl)) (.run [3200, 3500, 3501] [] rfl (st_call rfl 3500 (X := [3200]) en32 rfl (.val nod) (.cons (.agg (.cons (.bor .v) (.cons (.own (len := (pvS (⟨name, size, 1⟩ :: l)).length) (xs := pvS (⟨name, size, 1⟩ :: l)) rfl rfl) .nil))) .nil) (by decide) (all_cons rfl all_nil) (.gone .nil) (shed_con m (⟨name, size, 1⟩ :: l) (put_bnd hok hsl) (by simp only [List.length_cons]; omega)) rfl rfl (nle rfl)) (.run [] [] rfl (st_store_box rfl rfl rfl rfl rfl Try.sizeOf26 rfl (nle rfl)) .nil))) ?_
        refine tr_seq ?_
        have hle4 := pvS_length (shedL m (⟨name, size, 1⟩ :: l).length (⟨name, size, 1⟩ :: l))
        refine tr_region rfl (.run [] [] rfl (st_faddr_box rfl rfl Try.underlying26 rfl Try.sizeOf24 (by decide)) (.run [] [] rfl (st_load_box1 rfl rfl rfl Try.isAgg24 rfl) (.run [] [] rfl (st_len_row rfl rfl Try.underlying24) (.run [] [] rfl (st_gtr rfl rfl rfl) .nil)))) ?_
        refine tr_if (t := decide (40 < ((pvS (shedL m (⟨name, size, 1⟩ :: l).length (⟨name, size, 1⟩ :: l))).length : Int))) rfl (fun h4 => ?_) (fun h4 => ?_)
        · skip
          replace h4 := of_decide_eq_true h4
          refine tr_seq ?_
          rw [put_much hok hsl hnx (by omega)]
          refine tr_wk (s' := mk [(3, .ptr 3 0), (6, .ptr 6 0)] [(3, [.p none (.v (.int .i64 m)), .p none (.sl false 3 (pvS l))]), (6, [.p none (.v (.int .i64 0)), .nils])] []) ?_ ?_
          · exact wk_mk ⟨rfl, ⟨rfl, trivial⟩⟩ ⟨rfl, ⟨rfl, trivial⟩⟩ trivial rfl
          refine tr_region rfl (.run [] [] rfl (st_load_box rfl rfl rfl Try.isAgg26 Try.sizeOf26 (nle rfl)) (.run [4100, 4101] [] rfl (st_call rfl 4100 (X := []) en29 rfl (.val nod) (.cons (.agg (.cons (.bor .v) (.cons (.bor (.sl nod)) .nil))) .nil) (by decide) all_nil .nil (copied_con m l (by omega)) rfl rfl (nle rfl)) (.run [] [] rfl (st_store_box rfl rfl rfl rfl rfl Try.sizeOf26 rfl (nle rfl)) (.run [] [] rfl (st_assign rfl) .nil)))) ?_
          refine tr_ret ?_
          exact ends [_, _] [4101] (.cons (.cell rfl rfl Try.isAgg26 Try.sizeOf26 (nle rfl)) (.cons (.tmp rfl) .nil)) (.cons (.agg (.cons .v (.cons (.row (len := (pvS l).length) (xs := pvS l) rfl rfl) .nil)) (cl_cons (.v _) (cl_cons (.sl _ _ (FlatP.clean (pvS_flat l))) cl_nil))) (.cons (.one .v (.v _)) .nil)) (by decide) trivial
        · skip
          replace h4 := of_decide_eq_false h4
          refine tr_skip ?_
          refine tr_seq ?_
          rw [put_go hok hsl hnx (by omega)]
          refine tr_wk (s' := mk [(6, .ptr 6 0), (8, .ptr 8 0)] [(6, [.p none (.v (.int .i64 0)), .nils]), (8, [.p none (.v (.int .i64 m)), .sl 3501 0 ((pvS (shedL m (⟨name, size, 1⟩ :: l).length (⟨name, size, 1⟩ :: l))).length)])] [(3501, 3, pvS (shedL m (⟨name, size, 1⟩ :: l).length (⟨name, size, 1⟩ :: l)))]) ?_ ?_
          · exact wk_mk ⟨rfl, ⟨rfl, trivial⟩⟩ ⟨rfl, ⟨rfl, trivial⟩⟩ ⟨rfl, trivial⟩ rfl
          refine tr_region rfl (.run [] [] rfl (st_load_box rfl rfl rfl Try.isAgg26 Try.sizeOf26 (nle rfl)) (.run [] [] rfl (st_store_box rfl rfl rfl rfl rfl Try.sizeOf26 rfl (nle rfl)) (.run [] [] rfl (st_assign rfl) .nil))) ?_
          refine tr_ret ?_
          exact ends [_, _] [3501] (.cons (.cell rfl rfl Try.isAgg26 Try.sizeOf26 (nle rfl)) (.cons (.tmp rfl) .nil)) (.cons (.agg (.cons .v (.cons (.row (len := (pvS (shedL m (⟨name, size, 1⟩ :: l).length (⟨name, size, 1⟩ :: l))).length) (xs := pvS (shedL m (⟨name, size, 1⟩ :: l).length (⟨name, size, 1⟩ :: l))) rfl rfl) .nil)) (cl_cons (.v _) (cl_cons (.sl _ _ (FlatP.clean (pvS_flat (shedL m (⟨name, size, 1⟩ :: l).length (⟨name, size, 1⟩ :: l))))) cl_nil))) (.cons (.one .v (.v _)) .nil)) (by decide) trivial
    · have h2' := h2
      replace h2' : isSlot name size = false := by simpa using h2'
      refine tr_region rfl (.run [] [] rfl (st_move rfl) (.run [] [] rfl (st_move rfl) (.run [1700] [] rfl (st_call rfl 1700 (X := []) en37 rfl (.val nod) (.cons (.one (.bor .v)) (.cons (.one (.bor .v)) .nil)) (by decide) all_nil .nil (isSlot_con name size) rfl rfl (nle rfl)) (.run [] [] rfl (st_eq (st_not (b := isSlot name size) rfl rfl) (congrArg (fun b => AV.p none (.v (.bool b))) h2)) (.run [] [] rfl (st_move rfl) (.not rfl (.not rfl (.not rfl (.not rfl (.run [] [] rfl (st_pick (t := true) rfl rfl) .nil)))))))))) ?_
      refine tr_if (t := true) rfl (fun _ => ?_) (fun h => nomatch h)
      refine tr_seq ?_
      rw [put_no (n := name) (s := size) hok (by simp_all [isSlot])]
      refine tr_region rfl (.run [] [] rfl (st_load_box rfl rfl rfl Try.isAgg26 Try.sizeOf26 (nle rfl)) (.run [] [] rfl (st_store_box rfl rfl rfl rfl rfl Try.sizeOf26 rfl (nle rfl)) (.run [] [] rfl (st_assign rfl) .nil))) ?_
      refine tr_ret ?_
      exact ends [_, _] [1401] (.cons (.cell rfl rfl Try.isAgg26 Try.sizeOf26 (nle rfl)) (.cons (.tmp rfl) .nil)) (.cons (.agg (.cons .v (.cons (.row (len := (pvS l).length) (xs := pvS l) rfl rfl) .nil)) (cl_cons (.v _) (cl_cons (.sl _ _ (FlatP.clean (pvS_flat l))) cl_nil))) (.cons (.one .v (.v _)) .nil)) (by decide) trivial
theorem specCachePut_con (m : Int) (l : List Slot) (name : ByteArray) (size : Int) (hl : l.length ≤ 2000000) : Con Try.prog 22 [.agg [PV.v (.int .i64 m), PV.sl false 3 (pvS l)], .one (PV.v (.string name)), .one (PV.v (.int .i64 size))] [] [.agg [.v (.int .i64 (putC m l name size).1), .sl true 3 (pvS (putC m l name size).2.1)], .one (.v (.bool (putC m l name size).2.2))] := by
  refine con_of_tr Try.func22 rfl rfl rfl rfl ?_
  have hle := pvS_length l
  refine tr_seq ?_
  refine tr_region rfl (.run [] [3] rfl (st_box rfl 3 rfl rfl (by decide) rfl (by decide)) (.run [] [6] rfl (st_allocZ rfl 6 inf26 rfl (by decide) rfl (by decide)) (.run [] [] rfl (st_assign rfl) .nil))) ?_
  refine tr_seq ?_
  refine tr_seq ?_
  refine tr_region rfl (.run [] [] rfl (st_load_box rfl rfl rfl Try.isAgg26 Try.sizeOf26 (nle rfl)) (.run [1000] [] rfl (st_call rfl 1000 (X := []) en25 rfl (.val nod) (.cons (.agg (.cons (.bor .v) (.cons (.bor (.sl nod)) .nil))) .nil) (by decide) all_nil .nil (specCacheOk_con m l (by omega)) rfl rfl (nle rfl)) (.run [] [] rfl (st_not (b := okC m l) rfl rfl) .nil))) ?_
  refine tr_if (t := (!(okC m l))) rfl (fun h1 => ?_) (fun h1 => ?_)
  · skip
    replace h1 : okC m l = false := by simpa using h1
    refine tr_seq ?_
    rw [put_bad (n := name) (s := size) (by simpa using h1)]
    refine tr_region rfl (.run [] [] rfl (st_build (pl := [(0, 1), (1, 1)]) rfl Try.underlying26 inf26 (by kernel_rfl) rfl rfl) (.run [] [] rfl (st_store_box rfl rfl rfl rfl rfl Try.sizeOf26 rfl (nle rfl)) (.run [] [] rfl (st_assign rfl) .nil))) ?_
    refine tr_ret ?_
    exact ends [_, _] [] (.cons (.cell rfl rfl Try.isAgg26 Try.sizeOf26 (nle rfl)) (.cons (.tmp rfl) .nil)) (.cons (.agg (.cons .v (.cons (.nil _) .nil)) (cl_cons (.v _) (cl_cons (.sl _ _ (fun _ h => nomatch h)) cl_nil))) (.cons (.one .v (.v _)) .nil)) (by decide) trivial
  · skip
    replace h1 : okC m l = true := by simpa using h1
    refine tr_skip ?_
    refine tr_seq ?_
    have hok : okC m l = true := (by simpa using h1)
    have hlen := okC_len hok
    refine tr_region rfl (.run [] [] rfl (st_load_box rfl rfl rfl Try.isAgg26 Try.sizeOf26 (nle rfl)) (.run [1400, 1401] [] rfl (st_call rfl 1400 (X := []) en33 rfl (.val nod) (.cons (.agg (.cons (.bor .v) (.cons (.bor (.sl nod)) .nil))) .nil) (by decide) all_nil .nil (l11Copy_con m l (by omega)) rfl rfl (nle rfl)) (.run [] [8] rfl (st_allocZ rfl 8 inf26 rfl (by decide) rfl (by decide)) (.run [] [] rfl (st_store_box rfl rfl rfl rfl rfl Try.sizeOf26 rfl (nle rfl)) .nil)))) ?_
    refine tr_seq ?_
    refine tr_seq ?_
    refine tr_wk (s' := mk [(1, .p none (.v (.string name))), (2, .p none (.v (.int .i64 size))), (3, .ptr 3 0), (6, .ptr 6 0), (8, .ptr 8 0)] [(3, [.p none (.v (.int .i64 m)), .p none (.sl false 3 (pvS l))]), (6, [.p none (.v (.int .i64 0)), .nils]), (8, [.p none (.v (.int .i64 m)), .sl 1401 0 ((pvS l).length)])] [(1401, 3, pvS l)]) ?_ ?_
    · exact wk_mk ⟨rfl, ⟨rfl, ⟨rfl, ⟨rfl, ⟨rfl, trivial⟩⟩⟩⟩⟩ ⟨rfl, ⟨rfl, ⟨rfl, trivial⟩⟩⟩ ⟨rfl, trivial⟩ rfl
    rcases bfc (!(isUser name)) with h2 | h2
    · have h2' := h2
      replace h2' : isUser name = true := by simpa using h2'
      rcases bfc (!(within size 1 100000)) with h3 | h3
      · have h3' := h3
        replace h3' : within size 1 100000 = true := by simpa using h3'
        refine tr_region rfl (.run [] [] rfl (st_move rfl) (.run [1600] [] rfl (st_call rfl 1600 (X := []) en47 rfl (.val nod) (.cons (.one (.bor .v)) .nil) (by decide) all_nil .nil (l2User_con name) rfl rfl (nle rfl)) (.run [] [] rfl (st_eq (st_not (b := isUser name) rfl rfl) (congrArg (fun b => AV.p none (.v (.bool b))) h2)) (.run [] [] rfl (st_move rfl) (.run [] [] rfl (st_move rfl) (.run [2000] [] rfl (st_call rfl 2000 (X := []) en48 rfl (.val nod) (.cons (.one (.bor .v)) (.cons (.one (.bor .v)) (.cons (.one (.bor .v)) .nil))) (by decide) all_nil .nil (l1In_con size 1 100000) rfl rfl (nle rfl)) (.run [] [] rfl (st_eq (st_not (b := within size 1 100000) rfl rfl) (congrArg (fun b => AV.p none (.v (.bool b))) h3)) (.run [] [] rfl (st_pick (t := false) rfl rfl) (.run [] [] rfl (st_move rfl) (.run [] [] rfl (st_load_box rfl rfl rfl Try.isAgg26 Try.sizeOf26 (nle rfl)) (.run [] [] rfl (st_move rfl) (.run [1401, 2600] [] rfl (st_call rfl 2600 (X := []) en34 rfl (.val nod) (.cons (.agg (.cons (.bor .v) (.cons (.bor (.all (len := (pvS l).length) (xs := pvS l) rfl rfl (by decide))) .nil))) (.cons (.one (.bor .v)) .nil)) (by decide) all_nil .nil (l11At_con m l name (by omega)) rfl rfl (nle rfl)) (.run [] [] rfl (st_geq rfl rfl rfl) (.run [] [] rfl (st_pick (t := false) rfl rfl) .nil)))))))))))))) ?_
        refine tr_if (t := decide (0 ≤ (idxF (nmP name) l))) rfl (fun h4 => ?_) (fun h4 => ?_)
        · skip
          replace h4 := of_decide_eq_true h4
          refine tr_seq ?_
          rw [put_no (n := name) (s := size) hok (by simp_all [isSlot])]
          refine tr_wk (s' := mk [(6, .ptr 6 0), (8, .ptr 8 0)] [(6, [.p none (.v (.int .i64 0)), .nils]), (8, [.p none (.v (.int .i64 m)), .sl 1401 0 ((pvS l).length)])] [(1401, 3, pvS l)]) ?_ ?_
          · exact wk_mk ⟨rfl, ⟨rfl, trivial⟩⟩ ⟨rfl, ⟨rfl, trivial⟩⟩ ⟨rfl, trivial⟩ rfl
          refine tr_region rfl (.run [] [] rfl (st_load_box rfl rfl rfl Try.isAgg26 Try.sizeOf26 (nle rfl)) (.run [] [] rfl (st_store_box rfl rfl rfl rfl rfl Try.sizeOf26 rfl (nle rfl)) (.run [] [] rfl (st_assign rfl) .nil))) ?_
          refine tr_ret ?_
          exact ends [_, _] [1401] (.cons (.cell rfl rfl Try.isAgg26 Try.sizeOf26 (nle rfl)) (.cons (.tmp rfl) .nil)) (.cons (.agg (.cons .v (.cons (.row (len := (pvS l).length) (xs := pvS l) rfl rfl) .nil)) (cl_cons (.v _) (cl_cons (.sl _ _ (FlatP.clean (pvS_flat l))) cl_nil))) (.cons (.one .v (.v _)) .nil)) (by decide) trivial
        · skip
          replace h4 := of_decide_eq_false h4
          refine tr_skip ?_
          refine tr_seq ?_
          have hsl : isSlot name size = true := (by simp_all [isSlot])
          have hnx : ¬ 0 ≤ idxF (nmP name) l := (by simp_all)
          refine tr_wk (s' := mk [(1, .p none (.v (.string name))), (2, .p none (.v (.int .i64 size))), (3, .ptr 3 0), (6, .ptr 6 0), (8, .ptr 8 0)] [(3, [.p none (.v (.int .i64 m)), .p none (.sl false 3 (pvS l))]), (6, [.p none (.v (.int .i64 0)), .nils]), (8, [.p none (.v (.int .i64 m)), .sl 1401 0 ((pvS l).length)])] [(1401, 3, pvS l)]) ?_ ?_
          · exact wk_mk ⟨rfl, ⟨rfl, ⟨rfl, ⟨rfl, ⟨rfl, trivial⟩⟩⟩⟩⟩ ⟨rfl, ⟨rfl, ⟨rfl, trivial⟩⟩⟩ ⟨rfl, trivial⟩ rfl
          refine tr_region rfl (.run [] [] rfl (st_move rfl) (.run [] [] rfl (st_move rfl) (.run [] [] rfl (st_build (pl := [(0, 1), (1, 1), (2, 1)]) rfl Try.underlying33 inf33 (by kernel_rfl) rfl rfl) (.run [3300] [] rfl (st_buildSlice rfl 3300 Try.underlying24 inf33 (nle rfl) (by decide) rfl rfl rfl (.cons .v (.cons .v (.cons .v .nil))) (by decide) rfl (by decide) rfl (by decide) rfl) (.run [] [] rfl (st_faddr_box rfl rfl Try.underlying26 rfl Try.sizeOf24 (by decide)) (.run [] [] rfl (st_load_box1 rfl rfl rfl Try.isAgg24 rfl) (.run [3300] [] rfl (st_append rfl 3300 (ib := 3300) (len := ([[PV.v (.string name), PV.v (.int .i64 size), PV.v (.int .i64 1)]] ++ (pvS l)).length) rfl rfl (.row (len := 1) (xs := [[PV.v (.string name), PV.v (.int .i64 size), PV.v (.int .i64 1)]]) rfl rfl (.inl rfl)) (.give (len := (pvS l).length) (xs := pvS l) rfl rfl) Try.underlying24 (sk Try.underlying24 rfl) inf33 rfl (by decide) (by decide) (by decide) List.length_append (by simp only [maxLen, List.length_append, List.length_map, List.length_cons, List.length_nil, List.length_take, List.length_drop, pvS_length]; omega) (by simp only [maxLen, List.length_append, List.length_map, List.length_cons, List.length_nil, List.length_take, List.length_drop, pvS_length]; omega)) (.run [] [] rfl (st_faddr_box rfl rfl Try.underlying26 rfl Try.sizeOf24 (by decide)) (.run [] [] rfl (st_store_box rfl rfl rfl rfl rfl Try.sizeOf24 rfl (nle rfl)) .nil))))))))) ?_
          have hr5 : [[PV.v (.string name), PV.v (.int .i64 size), PV.v (.int .i64 1)]] ++ (pvS l) = pvS (⟨name, size, 1⟩ :: l) := by simp [pvS, Slot.pv]
          have hp6 : (some [.p none (.v (.int .i64 m)), .sl 3300 0 (([[PV.v (.string name), PV.v (.int .i64 size), PV.v (.int .i64 1)]] ++ (pvS l)).length)] : Option (List AV)) = some [.p none (.v (.int .i64 m)), .sl 3300 0 ((pvS (⟨name, size, 1⟩ :: l)).length)] := by simp only [hr5]
          refine tr_wk (s' := mk [(3, .ptr 3 0), (6, .ptr 6 0), (8, .ptr 8 0)] [(3, [.p none (.v (.int .i64 m)), .p none (.sl false 3 (pvS l))]), (6, [.p none (.v (.int .i64 0)), .nils]), (8, [.p none (.v (.int .i64 m)), .sl 3300 0 ((pvS (⟨name, size, 1⟩ :: l)).length)])] [(3300, 3, pvS (⟨name, size, 1⟩ :: l))]) ?_ ?_
          · exact wk_mk ⟨rfl, ⟨rfl, ⟨rfl, trivial⟩⟩⟩ ⟨rfl, ⟨rfl, ⟨hp6, trivial⟩⟩⟩ ⟨(congrArg (fun x => some (3, x)) hr5), trivial⟩ rfl
          refine tr_seq ?_
          refine tr_region rfl (.run [] [] rfl (st_load_box rfl rfl rfl Try.isAgg26 Try.sizeOf26 (nle rfl)) (.run [3300, 3900, 3901] [] rfl (st_call rfl 3900 (X := [3300]) en35 rfl (.val nod) (.cons (.agg (.cons (.bor .v) (.cons (.own (len := (pvS (⟨name, size, 1⟩ :: l)).length) (xs := pvS (⟨name, size, 1⟩ :: l)) rfl rfl) .nil))) .nil) (by decide) (all_cons rfl all_nil) (.gone .nil) (l11Evict_con m (⟨name, size, 1⟩ :: l) (put_bnd hok hsl) (by simp only [List.length_cons]; omega)) rfl rfl (nle rfl)) (.run [] [] rfl (st_store_box rfl rfl rfl rfl rfl Try.sizeOf26 rfl (nle rfl)) .nil))) ?_
          refine tr_seq ?_
          refine tr_seq ?_
          have hle4 := pvS_length (shedL m (⟨name, size, 1⟩ :: l).length (⟨name, size, 1⟩ :: l))
          refine tr_region rfl (.run [] [] rfl (st_faddr_box rfl rfl Try.underlying26 rfl Try.sizeOf24 (by decide)) (.run [] [] rfl (st_load_box1 rfl rfl rfl Try.isAgg24 rfl) (.run [] [] rfl (st_len_row rfl rfl Try.underlying24) (.run [] [] rfl (st_gtr rfl rfl rfl) .nil)))) ?_
          refine tr_if (t := decide (40 < ((pvS (shedL m (⟨name, size, 1⟩ :: l).length (⟨name, size, 1⟩ :: l))).length : Int))) rfl (fun h7 => ?_) (fun h7 => ?_)
          · skip
            replace h7 := of_decide_eq_true h7
            refine tr_seq ?_
            rw [put_much hok hsl hnx (by omega)]
            refine tr_region rfl (.run [] [] rfl (st_load_box rfl rfl rfl Try.isAgg26 Try.sizeOf26 (nle rfl)) (.run [4500, 4501] [] rfl (st_call rfl 4500 (X := []) en33 rfl (.val nod) (.cons (.agg (.cons (.bor .v) (.cons (.bor (.sl nod)) .nil))) .nil) (by decide) all_nil .nil (l11Copy_con m l (by omega)) rfl rfl (nle rfl)) (.run [] [] rfl (st_store_box rfl rfl rfl rfl rfl Try.sizeOf26 rfl (nle rfl)) (.run [] [] rfl (st_assign rfl) .nil)))) ?_
            refine tr_ret ?_
            exact ends [_, _] [4501] (.cons (.cell rfl rfl Try.isAgg26 Try.sizeOf26 (nle rfl)) (.cons (.tmp rfl) .nil)) (.cons (.agg (.cons .v (.cons (.row (len := (pvS l).length) (xs := pvS l) rfl rfl) .nil)) (cl_cons (.v _) (cl_cons (.sl _ _ (FlatP.clean (pvS_flat l))) cl_nil))) (.cons (.one .v (.v _)) .nil)) (by decide) trivial
          · skip
            replace h7 := of_decide_eq_false h7
            refine tr_skip ?_
            refine tr_seq ?_
            rw [put_go hok hsl hnx (by omega)]
            refine tr_region rfl (.run [] [] rfl (st_load_box rfl rfl rfl Try.isAgg26 Try.sizeOf26 (nle rfl)) (.run [] [] rfl (st_store_box rfl rfl rfl rfl rfl Try.sizeOf26 rfl (nle rfl)) (.run [] [] rfl (st_assign rfl) .nil))) ?_
            refine tr_ret ?_
            exact ends [_, _] [3901] (.cons (.cell rfl rfl Try.isAgg26 Try.sizeOf26 (nle rfl)) (.cons (.tmp rfl) .nil)) (.cons (.agg (.cons .v (.cons (.row (len := (pvS (shedL m (⟨name, size, 1⟩ :: l).length (⟨name, size, 1⟩ :: l))).length) (xs := pvS (shedL m (⟨name, size, 1⟩ :: l).length (⟨name, size, 1⟩ :: l))) rfl rfl) .nil)) (cl_cons (.v _) (cl_cons (.sl _ _ (FlatP.clean (pvS_flat (shedL m (⟨name, size, 1⟩ :: l).length (⟨name, size, 1⟩ :: l))))) cl_nil))) (.cons (.one .v (.v _)) .nil)) (by decide) trivial
      · have h3' := h3
        replace h3' : within size 1 100000 = false := by simpa using h3'
        refine tr_region rfl (.run [] [] rfl (st_move rfl) (.run [1600] [] rfl (st_call rfl 1600 (X := []) en47 rfl (.val nod) (.cons (.one (.bor .v)) .nil) (by decide) all_nil .nil (l2User_con name) rfl rfl (nle rfl)) (.run [] [] rfl (st_eq (st_not (b := isUser name) rfl rfl) (congrArg (fun b => AV.p none (.v (.bool b))) h2)) (.run [] [] rfl (st_move rfl) (.run [] [] rfl (st_move rfl) (.run [2000] [] rfl (st_call rfl 2000 (X := []) en48 rfl (.val nod) (.cons (.one (.bor .v)) (.cons (.one (.bor .v)) (.cons (.one (.bor .v)) .nil))) (by decide) all_nil .nil (l1In_con size 1 100000) rfl rfl (nle rfl)) (.run [] [] rfl (st_eq (st_not (b := within size 1 100000) rfl rfl) (congrArg (fun b => AV.p none (.v (.bool b))) h3)) (.run [] [] rfl (st_pick (t := false) rfl rfl) (.run [] [] rfl (st_move rfl) (.not rfl (.not rfl (.not rfl (.not rfl (.run [] [] rfl (st_pick (t := true) rfl rfl) .nil)))))))))))))) ?_
        refine tr_if (t := true) rfl (fun _ => ?_) (fun h => nomatch h)
        refine tr_seq ?_
        rw [put_no (n := name) (s := size) hok (by simp_all [isSlot])]
        refine tr_wk (s' := mk [(6, .ptr 6 0), (8, .ptr 8 0)] [(6, [.p none (.v (.int .i64 0)), .nils]), (8, [.p none (.v (.int .i64 m)), .sl 1401 0 ((pvS l).length)])] [(1401, 3, pvS l)]) ?_ ?_
        · exact wk_mk ⟨rfl, ⟨rfl, trivial⟩⟩ ⟨rfl, ⟨rfl, trivial⟩⟩ ⟨rfl, trivial⟩ rfl
        refine tr_region rfl (.run [] [] rfl (st_load_box rfl rfl rfl Try.isAgg26 Try.sizeOf26 (nle rfl)) (.run [] [] rfl (st_store_box rfl rfl rfl rfl rfl Try.sizeOf26 rfl (nle rfl)) (.run [] [] rfl (st_assign rfl) .nil))) ?_
        refine tr_ret ?_
        exact ends [_, _] [1401] (.cons (.cell rfl rfl Try.isAgg26 Try.sizeOf26 (nle rfl)) (.cons (.tmp rfl) .nil)) (.cons (.agg (.cons .v (.cons (.row (len := (pvS l).length) (xs := pvS l) rfl rfl) .nil)) (cl_cons (.v _) (cl_cons (.sl _ _ (FlatP.clean (pvS_flat l))) cl_nil))) (.cons (.one .v (.v _)) .nil)) (by decide) trivial
    · have h2' := h2
      replace h2' : isUser name = false := by simpa using h2'
      refine tr_region rfl (.run [] [] rfl (st_move rfl) (.run [1600] [] rfl (st_call rfl 1600 (X := []) en47 rfl (.val nod) (.cons (.one (.bor .v)) .nil) (by decide) all_nil .nil (l2User_con name) rfl rfl (nle rfl)) (.run [] [] rfl (st_eq (st_not (b := isUser name) rfl rfl) (congrArg (fun b => AV.p none (.v (.bool b))) h2)) (.run [] [] rfl (st_move rfl) (.not rfl (.not rfl (.not rfl (.run [] [] rfl (st_pick (t := true) rfl rfl) (.run [] [] rfl (st_move rfl) (.not rfl (.not rfl (.not rfl (.not rfl (.run [] [] rfl (st_pick (t := true) rfl rfl) .nil)))))))))))))) ?_
      refine tr_if (t := true) rfl (fun _ => ?_) (fun h => nomatch h)
      refine tr_seq ?_
      rw [put_no (n := name) (s := size) hok (by simp_all [isSlot])]
      refine tr_wk (s' := mk [(6, .ptr 6 0), (8, .ptr 8 0)] [(6, [.p none (.v (.int .i64 0)), .nils]), (8, [.p none (.v (.int .i64 m)), .sl 1401 0 ((pvS l).length)])] [(1401, 3, pvS l)]) ?_ ?_
      · exact wk_mk ⟨rfl, ⟨rfl, trivial⟩⟩ ⟨rfl, ⟨rfl, trivial⟩⟩ ⟨rfl, trivial⟩ rfl
      refine tr_region rfl (.run [] [] rfl (st_load_box rfl rfl rfl Try.isAgg26 Try.sizeOf26 (nle rfl)) (.run [] [] rfl (st_store_box rfl rfl rfl rfl rfl Try.sizeOf26 rfl (nle rfl)) (.run [] [] rfl (st_assign rfl) .nil))) ?_
      refine tr_ret ?_
      exact ends [_, _] [1401] (.cons (.cell rfl rfl Try.isAgg26 Try.sizeOf26 (nle rfl)) (.cons (.tmp rfl) .nil)) (.cons (.agg (.cons .v (.cons (.row (len := (pvS l).length) (xs := pvS l) rfl rfl) .nil)) (cl_cons (.v _) (cl_cons (.sl _ _ (FlatP.clean (pvS_flat l))) cl_nil))) (.cons (.one .v (.v _)) .nil)) (by decide) trivial
end Go.Rl

/- Promises of functions, proved by walks over their operations; no conditions beyond those that each theorem states. -/
import Derived.Test.YtdkpbnhdekeciaaDoorRlT
import Derived.Test.YtdkpbnhdekeciaaDoorProg
set_option linter.unusedSimpArgs false
set_option linter.unusedVariables false
namespace Go.Rl
open Go.Proofs Go.Proofs.Tryd
set_option maxRecDepth 1000000
set_option maxHeartbeats 2000000
theorem inf3 : (Tryd.prog.info? 3).map (fun i => (i.zero, i.size, i.bytes)) = some (some (.int .i64 0), 1, 8) := by kernel_rfl
theorem en73 : En Tryd.prog 73 := zAn func73 (by decide) rfl
theorem en43 : En Tryd.prog 43 := zAn func43 (by decide) rfl
theorem en55 : En Tryd.prog 55 := zAn func55 (by decide) rfl
theorem en31 : En Tryd.prog 31 := zAn func31 (by decide) rfl
theorem en74 : En Tryd.prog 74 := zAn func74 (by decide) rfl
theorem en75 : En Tryd.prog 75 := zAn func75 (by decide) rfl
theorem en62 : En Tryd.prog 62 := zAn func62 (by decide) rfl
theorem en63 : En Tryd.prog 63 := zAn func63 (by decide) rfl
theorem en61 : En Tryd.prog 61 := zAn func61 (by decide) rfl
theorem en60 : En Tryd.prog 60 := zAn func60 (by decide) rfl
theorem en33 : En Tryd.prog 33 := zAn func33 (by decide) rfl
theorem zBj : Tryd.prog.follows .mixedOrders = true := by kernel_rfl
theorem zBF (n low high : Int) : Con Tryd.prog 43 [.one (PV.v (.int .i64 n)), .one (PV.v (.int .i64 low)), .one (PV.v (.int .i64 high))] [] [.one (.v (.bool (zAd n low high)))] := by
 refine zAP func43 rfl rfl rfl rfl ?_
 refine zAC (zAA rfl (.a rfl rfl .nil) ?_)
 refine zAC ?_
 rcases bfc (decide (low ≤ n)) with h1 | h1
 ·
  have h1' := h1
  replace h1' := of_decide_eq_false h1'
  refine zAA rfl (.m rfl rfl (.m rfl rfl (.r rfl (zAO (zC7 rfl rfl rfl) (by exact congrArg (fun b => AV.p none (.v (.bool b))) h1)) (.m rfl rfl (.not rfl (.not rfl (.not rfl (.r rfl (zAT (t := false) rfl rfl) (.a rfl rfl .nil))))))))) ?_
  refine zAL ?_
  exact ends [_] [] (.cons (.tmp (zAI (by simp [zAd, h1']))) .nil) (.cons (.one .v (.v _)) .nil) (by decide) trivial
 ·
  have h1' := h1
  replace h1' := of_decide_eq_true h1'
  refine zAA rfl (.m rfl rfl (.m rfl rfl (.r rfl (zAO (zC7 rfl rfl rfl) (by exact congrArg (fun b => AV.p none (.v (.bool b))) h1)) (.m rfl rfl (.m rfl rfl (.m rfl rfl (.r rfl (zC7 rfl rfl rfl) (.r rfl (zAT (t := true) rfl rfl) (.a rfl rfl .nil))))))))) ?_
  refine zAL ?_
  exact ends [_] [] (.cons (.tmp (zAI (by simp [zAd, h1']))) .nil) (.cons (.one .v (.v _)) .nil) (by decide) trivial
theorem zBU (n low high : Int) : Con Tryd.prog 31 [.one (PV.v (.int .i64 n)), .one (PV.v (.int .i64 low)), .one (PV.v (.int .i64 high))] [] [.one (.v (.bool (zAd n low high)))] := by
 refine zAP func31 rfl rfl rfl rfl ?_
 refine zAC (zAA rfl (.a rfl rfl .nil) ?_)
 refine zAC ?_
 rcases bfc (decide (low ≤ n)) with h1 | h1
 ·
  have h1' := h1
  replace h1' := of_decide_eq_false h1'
  refine zAA rfl (.m rfl rfl (.m rfl rfl (.r rfl (zAO (zC8 rfl rfl rfl) (by exact congrArg (fun b => AV.p none (.v (.bool b))) h1)) (.m rfl rfl (.not rfl (.not rfl (.not rfl (.r rfl (zAT (t := false) rfl rfl) (.a rfl rfl .nil))))))))) ?_
  refine zAL ?_
  exact ends [_] [] (.cons (.tmp (zAI (by simp [zAd, h1']))) .nil) (.cons (.one .v (.v _)) .nil) (by decide) trivial
 ·
  have h1' := h1
  replace h1' := of_decide_eq_true h1'
  refine zAA rfl (.m rfl rfl (.m rfl rfl (.r rfl (zAO (zC8 rfl rfl rfl) (by exact congrArg (fun b => AV.p none (.v (.bool b))) h1)) (.m rfl rfl (.m rfl rfl (.m rfl rfl (.r rfl (zC7 rfl rfl rfl) (.r rfl (zAT (t := true) rfl rfl) (.a rfl rfl .nil))))))))) ?_
  refine zAL ?_
  exact ends [_] [] (.cons (.tmp (zAI (by simp [zAd, h1']))) .nil) (.cons (.one .v (.v _)) .nil) (by decide) trivial
theorem zCt (s : ByteArray) : Con Tryd.prog 73 [.one (PV.v (.string s))] [] [.one (.v (.bool (zBI s)))] := by
 refine zAP func73 rfl rfl rfl rfl ?_
 refine zAC (zAA rfl (.a rfl rfl .nil) ?_)
 refine zAC ?_
 rcases bfc (decide (1 ≤ (s.size : Int))) with h1 | h1
 ·
  have h1' := h1
  replace h1' := of_decide_eq_false h1'
  refine zAA rfl (.m rfl rfl (.r rfl (zAR rfl rfl underlying9) (.r rfl (zAO (zC8 rfl rfl rfl) (by exact congrArg (fun b => AV.p none (.v (.bool b))) h1)) (.m rfl rfl (.not rfl (.not rfl (.not rfl (.r rfl (zAT (t := false) rfl rfl) (.a rfl rfl .nil))))))))) ?_
  refine zAL ?_
  exact ends [_] [] (.cons (.tmp (zAI (by simp [zBI, h1']))) .nil) (.cons (.one .v (.v _)) .nil) (by decide) trivial
 ·
  have h1' := h1
  replace h1' := of_decide_eq_true h1'
  refine zAA rfl (.m rfl rfl (.r rfl (zAR rfl rfl underlying9) (.r rfl (zAO (zC8 rfl rfl rfl) (by exact congrArg (fun b => AV.p none (.v (.bool b))) h1)) (.m rfl rfl (.m rfl rfl (.r rfl (zAR rfl rfl underlying9) (.r rfl (zC7 rfl rfl rfl) (.r rfl (zAT (t := true) rfl rfl) (.a rfl rfl .nil))))))))) ?_
  refine zAL ?_
  exact ends [_] [] (.cons (.tmp (zAI (by simp [zBI, h1']))) .nil) (.cons (.one .v (.v _)) .nil) (by decide) trivial
theorem zCr (s : ByteArray) : Con Tryd.prog 55 [.one (PV.v (.string s))] [] [.one (.v (.bool (zBI s)))] := by
 refine zAP func55 rfl rfl rfl rfl ?_
 refine zAC (zAA rfl (.a rfl rfl .nil) ?_)
 refine zAC ?_
 rcases bfc (decide (1 ≤ (s.size : Int))) with h1 | h1
 ·
  have h1' := h1
  replace h1' := of_decide_eq_false h1'
  refine zAA rfl (.m rfl rfl (.r rfl (zAR rfl rfl underlying9) (.r rfl (zAO (zC8 rfl rfl rfl) (by exact congrArg (fun b => AV.p none (.v (.bool b))) h1)) (.m rfl rfl (.not rfl (.not rfl (.not rfl (.r rfl (zAT (t := false) rfl rfl) (.a rfl rfl .nil))))))))) ?_
  refine zAL ?_
  exact ends [_] [] (.cons (.tmp (zAI (by simp [zBI, h1']))) .nil) (.cons (.one .v (.v _)) .nil) (by decide) trivial
 ·
  have h1' := h1
  replace h1' := of_decide_eq_true h1'
  refine zAA rfl (.m rfl rfl (.r rfl (zAR rfl rfl underlying9) (.r rfl (zAO (zC8 rfl rfl rfl) (by exact congrArg (fun b => AV.p none (.v (.bool b))) h1)) (.m rfl rfl (.m rfl rfl (.r rfl (zAR rfl rfl underlying9) (.r rfl (zC7 rfl rfl rfl) (.r rfl (zAT (t := true) rfl rfl) (.a rfl rfl .nil))))))))) ?_
  refine zAL ?_
  exact ends [_] [] (.cons (.tmp (zAI (by simp [zBI, h1']))) .nil) (.cons (.one .v (.v _)) .nil) (by decide) trivial
theorem zDx (e : Ent) : Con Tryd.prog 60 [.agg [PV.v (.string e.user), PV.v (.int .i64 e.seq), PV.v (.int .i64 e.kind)]] [] [.one (.v (.bool (zBr e.user e.seq e.kind)))] := by
 refine zAP func60 rfl rfl rfl rfl ?_
 refine zAC (zAA rfl (.run [] [1] rfl (zBa rfl 1 rfl rfl (by decide) rfl (by decide)) (.a rfl rfl .nil)) ?_)
 refine zAC ?_
 rcases bfc (zBI e.user) with h1 | h1
 ·
  have h1' := h1
  refine zAA rfl (.r rfl (zAE rfl rfl underlying46 rfl sizeOf9 (by decide)) (.r rfl (zAF rfl rfl rfl isAgg9 rfl) (.run [500] [] rfl (zAG rfl 500 (X := []) en73 rfl (.val nod) (.cons (.one (.bor .v)) .nil) (by decide) all_nil .nil (zCt e.user) rfl rfl (nle rfl)) (.r rfl (zAO (zAB rfl) (by exact congrArg (fun b => AV.p none (.v (.bool b))) h1)) (.not rfl (.not rfl (.not rfl (.r rfl (zAT (t := false) rfl rfl) (.m rfl rfl (.not rfl (.not rfl (.not rfl (.r rfl (zAT (t := false) rfl rfl) (.a rfl rfl .nil)))))))))))))) ?_
  refine zAL ?_
  exact ends [_] [] (.cons (.tmp (zAI (by simp [zBr, h1']))) .nil) (.cons (.one .v (.v _)) .nil) (by decide) trivial
 ·
  have h1' := h1
  rcases bfc (zAd e.seq 0 1000000000000) with h2 | h2
  ·
   have h2' := h2
   refine zAA rfl (.r rfl (zAE rfl rfl underlying46 rfl sizeOf9 (by decide)) (.r rfl (zAF rfl rfl rfl isAgg9 rfl) (.run [500] [] rfl (zAG rfl 500 (X := []) en73 rfl (.val nod) (.cons (.one (.bor .v)) .nil) (by decide) all_nil .nil (zCt e.user) rfl rfl (nle rfl)) (.r rfl (zAO (zAB rfl) (by exact congrArg (fun b => AV.p none (.v (.bool b))) h1)) (.r rfl (zAE rfl rfl underlying46 rfl sizeOf2 (by decide)) (.r rfl (zAF rfl rfl rfl isAgg2 rfl) (.run [900] [] rfl (zAG rfl 900 (X := []) en43 rfl (.val nod) (.cons (.one (.bor .v)) (.cons (.one (.bor .v)) (.cons (.one (.bor .v)) .nil))) (by decide) all_nil .nil (zBF e.seq 0 1000000000000) rfl rfl (nle rfl)) (.r rfl (zAT (t := true) rfl rfl) (.r rfl (zAO (zAB rfl) (by exact congrArg (fun b => AV.p none (.v (.bool b))) h2)) (.not rfl (.not rfl (.not rfl (.r rfl (zAT (t := false) rfl rfl) (.a rfl rfl .nil)))))))))))))) ?_
   refine zAL ?_
   exact ends [_] [] (.cons (.tmp (zAI (by simp [zBr, h1', h2']))) .nil) (.cons (.one .v (.v _)) .nil) (by decide) trivial
  ·
   have h2' := h2
   refine zAA rfl (.r rfl (zAE rfl rfl underlying46 rfl sizeOf9 (by decide)) (.r rfl (zAF rfl rfl rfl isAgg9 rfl) (.run [500] [] rfl (zAG rfl 500 (X := []) en73 rfl (.val nod) (.cons (.one (.bor .v)) .nil) (by decide) all_nil .nil (zCt e.user) rfl rfl (nle rfl)) (.r rfl (zAO (zAB rfl) (by exact congrArg (fun b => AV.p none (.v (.bool b))) h1)) (.r rfl (zAE rfl rfl underlying46 rfl sizeOf2 (by decide)) (.r rfl (zAF rfl rfl rfl isAgg2 rfl) (.run [900] [] rfl (zAG rfl 900 (X := []) en43 rfl (.val nod) (.cons (.one (.bor .v)) (.cons (.one (.bor .v)) (.cons (.one (.bor .v)) .nil))) (by decide) all_nil .nil (zBF e.seq 0 1000000000000) rfl rfl (nle rfl)) (.r rfl (zAT (t := true) rfl rfl) (.r rfl (zAO (zAB rfl) (by exact congrArg (fun b => AV.p none (.v (.bool b))) h2)) (.r rfl (zAE rfl rfl underlying46 rfl sizeOf2 (by decide)) (.r rfl (zAF rfl rfl rfl isAgg2 rfl) (.run [1400] [] rfl (zAG rfl 1400 (X := []) en43 rfl (.val nod) (.cons (.one (.bor .v)) (.cons (.one (.bor .v)) (.cons (.one (.bor .v)) .nil))) (by decide) all_nil .nil (zBF e.kind 0 1) rfl rfl (nle rfl)) (.r rfl (zAT (t := true) rfl rfl) (.a rfl rfl .nil)))))))))))))) ?_
   refine zAL ?_
   exact ends [_] [] (.cons (.tmp (zAI (by simp [zBr, h1', h2']))) .nil) (.cons (.one .v (.v _)) .nil) (by decide) trivial
theorem zBb (e : Ent) : Con Tryd.prog 33 [.agg [PV.v (.string e.user), PV.v (.int .i64 e.seq), PV.v (.int .i64 e.kind)]] [] [.one (.v (.bool (zBr e.user e.seq e.kind)))] := by
 refine zAP func33 rfl rfl rfl rfl ?_
 refine zAC (zAA rfl (.run [] [1] rfl (zBa rfl 1 rfl rfl (by decide) rfl (by decide)) (.a rfl rfl .nil)) ?_)
 refine zAC ?_
 rcases bfc (zBI e.user) with h1 | h1
 ·
  have h1' := h1
  refine zAA rfl (.r rfl (zAE rfl rfl underlying46 rfl sizeOf9 (by decide)) (.r rfl (zAF rfl rfl rfl isAgg9 rfl) (.run [500] [] rfl (zAG rfl 500 (X := []) en55 rfl (.val nod) (.cons (.one (.bor .v)) .nil) (by decide) all_nil .nil (zCr e.user) rfl rfl (nle rfl)) (.r rfl (zAO (zAB rfl) (by exact congrArg (fun b => AV.p none (.v (.bool b))) h1)) (.not rfl (.not rfl (.not rfl (.r rfl (zAT (t := false) rfl rfl) (.m rfl rfl (.not rfl (.not rfl (.not rfl (.r rfl (zAT (t := false) rfl rfl) (.a rfl rfl .nil)))))))))))))) ?_
  refine zAL ?_
  exact ends [_] [] (.cons (.tmp (zAI (by simp [zBr, h1']))) .nil) (.cons (.one .v (.v _)) .nil) (by decide) trivial
 ·
  have h1' := h1
  rcases bfc (zAd e.seq 0 1000000000000) with h2 | h2
  ·
   have h2' := h2
   refine zAA rfl (.r rfl (zAE rfl rfl underlying46 rfl sizeOf9 (by decide)) (.r rfl (zAF rfl rfl rfl isAgg9 rfl) (.run [500] [] rfl (zAG rfl 500 (X := []) en55 rfl (.val nod) (.cons (.one (.bor .v)) .nil) (by decide) all_nil .nil (zCr e.user) rfl rfl (nle rfl)) (.r rfl (zAO (zAB rfl) (by exact congrArg (fun b => AV.p none (.v (.bool b))) h1)) (.r rfl (zAE rfl rfl underlying46 rfl sizeOf2 (by decide)) (.r rfl (zAF rfl rfl rfl isAgg2 rfl) (.run [900] [] rfl (zAG rfl 900 (X := []) en31 rfl (.val nod) (.cons (.one (.bor .v)) (.cons (.one (.bor .v)) (.cons (.one (.bor .v)) .nil))) (by decide) all_nil .nil (zBU e.seq 0 1000000000000) rfl rfl (nle rfl)) (.r rfl (zAT (t := true) rfl rfl) (.r rfl (zAO (zAB rfl) (by exact congrArg (fun b => AV.p none (.v (.bool b))) h2)) (.not rfl (.not rfl (.not rfl (.r rfl (zAT (t := false) rfl rfl) (.a rfl rfl .nil)))))))))))))) ?_
   refine zAL ?_
   exact ends [_] [] (.cons (.tmp (zAI (by simp [zBr, h1', h2']))) .nil) (.cons (.one .v (.v _)) .nil) (by decide) trivial
  ·
   have h2' := h2
   refine zAA rfl (.r rfl (zAE rfl rfl underlying46 rfl sizeOf9 (by decide)) (.r rfl (zAF rfl rfl rfl isAgg9 rfl) (.run [500] [] rfl (zAG rfl 500 (X := []) en55 rfl (.val nod) (.cons (.one (.bor .v)) .nil) (by decide) all_nil .nil (zCr e.user) rfl rfl (nle rfl)) (.r rfl (zAO (zAB rfl) (by exact congrArg (fun b => AV.p none (.v (.bool b))) h1)) (.r rfl (zAE rfl rfl underlying46 rfl sizeOf2 (by decide)) (.r rfl (zAF rfl rfl rfl isAgg2 rfl) (.run [900] [] rfl (zAG rfl 900 (X := []) en31 rfl (.val nod) (.cons (.one (.bor .v)) (.cons (.one (.bor .v)) (.cons (.one (.bor .v)) .nil))) (by decide) all_nil .nil (zBU e.seq 0 1000000000000) rfl rfl (nle rfl)) (.r rfl (zAT (t := true) rfl rfl) (.r rfl (zAO (zAB rfl) (by exact congrArg (fun b => AV.p none (.v (.bool b))) h2)) (.r rfl (zAE rfl rfl underlying46 rfl sizeOf2 (by decide)) (.r rfl (zAF rfl rfl rfl isAgg2 rfl) (.run [1400] [] rfl (zAG rfl 1400 (X := []) en31 rfl (.val nod) (.cons (.one (.bor .v)) (.cons (.one (.bor .v)) (.cons (.one (.bor .v)) .nil))) (by decide) all_nil .nil (zBU e.kind 0 1) rfl rfl (nle rfl)) (.r rfl (zAT (t := true) rfl rfl) (.a rfl rfl .nil)))))))))))))) ?_
   refine zAL ?_
   exact ends [_] [] (.cons (.tmp (zAI (by simp [zBr, h1', h2']))) .nil) (.cons (.one .v (.v _)) .nil) (by decide) trivial
theorem zHq (a : ByteArray) : Con Tryd.prog 74 [.one (PV.v (.string a))] [] [.one (.v (.bool false))] := by
 refine zAP func74 rfl rfl rfl rfl ?_
 refine zAC (zAA rfl (.a rfl rfl .nil) ?_)
 refine zAC (zAA rfl (.m rfl rfl (.m rfl rfl (.r rfl (zAO (zD5 rfl rfl rfl) (zAI (congrArg Bool.not (decide_eq_true (by simp))))) (.a rfl rfl .nil)))) ?_)
 refine zAL ?_
 exact ends [_] [] (.cons (.tmp rfl) .nil) (.cons (.one .v (.v _)) .nil) (by decide) trivial
theorem zHr (a : Int) : Con Tryd.prog 75 [.one (PV.v (.int .i64 a))] [] [.one (.v (.bool false))] := by
 refine zAP func75 rfl rfl rfl rfl ?_
 refine zAC (zAA rfl (.a rfl rfl .nil) ?_)
 refine zAC (zAA rfl (.m rfl rfl (.m rfl rfl (.r rfl (zAO (zCH rfl rfl rfl) (zAI (congrArg Bool.not (decide_eq_true (by simp))))) (.a rfl rfl .nil)))) ?_)
 refine zAL ?_
 exact ends [_] [] (.cons (.tmp rfl) .nil) (.cons (.one .v (.v _)) .nil) (by decide) trivial
theorem zKY (a b : ByteArray) : Con Tryd.prog 62 [.one (PV.v (.string a)), .one (PV.v (.string b))] [] [.one (.v (.int .i64 (cmpS a b)))] := by
 refine zAP func62 rfl rfl rfl rfl ?_
 refine zAC (zAA rfl (.a rfl rfl .nil) ?_)
 refine zAC (zAA rfl (.m rfl rfl (.run [800] [] rfl (zAG rfl 800 (X := []) en74 rfl (.val nod) (.cons (.one (.bor .v)) .nil) (by decide) all_nil .nil (zHq a) rfl rfl (nle rfl)) (.a rfl rfl .nil))) ?_)
 refine zAC (zAA rfl (.m rfl rfl (.run [1000] [] rfl (zAG rfl 1000 (X := []) en74 rfl (.val nod) (.cons (.one (.bor .v)) .nil) (by decide) all_nil .nil (zHq b) rfl rfl (nle rfl)) (.a rfl rfl .nil))) ?_)
 refine zAC ?_
 refine zAC (zAA rfl (.m rfl rfl .nil) ?_)
 refine zAW (t := false) rfl (fun h => nomatch h) (fun _ => ?_)
 refine zAJ ?_
 refine zAC ?_
 refine zAC (zAA rfl (.m rfl rfl .nil) ?_)
 refine zAW (t := false) rfl (fun h => nomatch h) (fun _ => ?_)
 refine zAJ ?_
 refine zAC ?_
 refine zAC (zAA rfl (.m rfl rfl (.m rfl rfl (.r rfl (zD6 rfl rfl rfl) .nil))) ?_)
 refine zAW (t := ltB a b) rfl (fun h1 => ?_) (fun h1 => ?_)
 ·
  refine zAC (zAA rfl (.a rfl rfl .nil) ?_)
  refine zAL ?_
  exact ends [_] [] (.cons (.tmp (zAH (by rw [cmpS, if_pos h1]))) .nil) (.cons (.one .v (.v _)) .nil) (by decide) trivial
 ·
  refine zAJ ?_
  refine zAC ?_
  refine zAC (zAA rfl (.m rfl rfl (.m rfl rfl (.r rfl (st_sgtr rfl rfl rfl) .nil))) ?_)
  refine zAW (t := (!(ltB a b || decide (a = b)))) rfl (fun h2 => ?_) (fun h2 => ?_)
  ·
   replace h2 : (ltB a b || decide (a = b)) = false := zA4 h2
   refine zAC (zAA rfl (.a rfl rfl .nil) ?_)
   refine zAL ?_
   exact ends [_] [] (.cons (.tmp (zAH (by rw [cmpS, if_neg (by simp [h1]), if_pos (by rw [← zJc h1, h2]; rfl)]))) .nil) (.cons (.one .v (.v _)) .nil) (by decide) trivial
  ·
   replace h2 : (ltB a b || decide (a = b)) = true := zA5 h2
   refine zAJ ?_
   refine zAC (zAA rfl (.a rfl rfl .nil) ?_)
   refine zAL ?_
   exact ends [_] [] (.cons (.tmp (zAH (by rw [cmpS, if_neg (by simp [h1]), if_neg (by rw [← zJc h1, h2]; decide)]))) .nil) (.cons (.one .v (.v _)) .nil) (by decide) trivial
theorem zH1 (a b : Int) : Con Tryd.prog 63 [.one (PV.v (.int .i64 a)), .one (PV.v (.int .i64 b))] [] [.one (.v (.int .i64 (cmpI a b)))] := by
 refine zAP func63 rfl rfl rfl rfl ?_
 refine zAC (zAA rfl (.a rfl rfl .nil) ?_)
 refine zAC (zAA rfl (.m rfl rfl (.run [800] [] rfl (zAG rfl 800 (X := []) en75 rfl (.val nod) (.cons (.one (.bor .v)) .nil) (by decide) all_nil .nil (zHr a) rfl rfl (nle rfl)) (.a rfl rfl .nil))) ?_)
 refine zAC (zAA rfl (.m rfl rfl (.run [1000] [] rfl (zAG rfl 1000 (X := []) en75 rfl (.val nod) (.cons (.one (.bor .v)) .nil) (by decide) all_nil .nil (zHr b) rfl rfl (nle rfl)) (.a rfl rfl .nil))) ?_)
 refine zAC ?_
 refine zAC (zAA rfl (.m rfl rfl .nil) ?_)
 refine zAW (t := false) rfl (fun h => nomatch h) (fun _ => ?_)
 refine zAJ ?_
 refine zAC ?_
 refine zAC (zAA rfl (.m rfl rfl .nil) ?_)
 refine zAW (t := false) rfl (fun h => nomatch h) (fun _ => ?_)
 refine zAJ ?_
 refine zAC ?_
 refine zAC (zAA rfl (.m rfl rfl (.m rfl rfl (.r rfl (zAu rfl rfl rfl) .nil))) ?_)
 refine zAW (t := decide (a < b)) rfl (fun h1 => ?_) (fun h1 => ?_)
 ·
  replace h1 := of_decide_eq_true h1
  refine zAC (zAA rfl (.a rfl rfl .nil) ?_)
  refine zAL ?_
  exact ends [_] [] (.cons (.tmp (zAH (by simp [cmpI, h1]))) .nil) (.cons (.one .v (.v _)) .nil) (by decide) trivial
 ·
  replace h1 := of_decide_eq_false h1
  refine zAJ ?_
  refine zAC ?_
  refine zAC (zAA rfl (.m rfl rfl (.m rfl rfl (.r rfl (zBy rfl rfl rfl) .nil))) ?_)
  refine zAW (t := decide (b < a)) rfl (fun h2 => ?_) (fun h2 => ?_)
  ·
   replace h2 := of_decide_eq_true h2
   refine zAC (zAA rfl (.a rfl rfl .nil) ?_)
   refine zAL ?_
   exact ends [_] [] (.cons (.tmp (zAH (by simp [cmpI, h1, h2]))) .nil) (.cons (.one .v (.v _)) .nil) (by decide) trivial
  ·
   replace h2 := of_decide_eq_false h2
   refine zAJ ?_
   refine zAC (zAA rfl (.a rfl rfl .nil) ?_)
   refine zAL ?_
   exact ends [_] [] (.cons (.tmp (zAH (by simp [cmpI, h1, h2]))) .nil) (.cons (.one .v (.v _)) .nil) (by decide) trivial
theorem or_con (l : List Int) (hl : l.length ≤ 1000) : Con Tryd.prog 61 [.one (PV.sl false 1 (pvI l))] [] [.one (.v (.int .i64 (orF l)))] := by
 refine zAP func61 rfl rfl rfl rfl ?_
 have hle := zBG l
 refine zAC (zAA rfl (.a rfl rfl .nil) ?_)
 refine zAC (zAA rfl (.a rfl rfl .nil) ?_)
 refine zAC ?_
 refine zAC (zAA rfl (.m rfl rfl (.r rfl (zAa rfl rfl underlying89) (.m rfl rfl .nil))) ?_)
 refine zAM ?_
 refine zAj (σ := Nat) (fun i => mk [(3, .vi 0), (6, .p none (.sl false 1 (pvI l))), (7, .vi ((pvI l).length : Int)), (8, .vi (i:Int))] [] []) (fun i => i ≤ l.length ∧ orF (l.drop i) = orF l) (fun i => l.length - i) 0 ⟨Nat.zero_le _, rfl⟩ (zAK ⟨rfl, rfl, rfl, (zAH (by omega)), trivial⟩ trivial trivial rfl) ?_
 rintro i hG
 replace hG : i ≤ l.length ∧ orF (l.drop i) = orF l := hG
 obtain ⟨hi, hE⟩ := hG
 refine zAC (zAA rfl (.r rfl (zAu rfl rfl rfl) .nil) ?_)
 refine zAC ?_
 refine zAW (t := decide ((i:Int) < ((pvI l).length : Int))) rfl (fun h1 => ?_) (fun h1 => ?_)
 ·
  replace h1 := of_decide_eq_true h1
  refine zAJ ?_
  refine zAC ?_
  refine zAM ?_
  refine zAC ?_
  obtain ⟨e, he⟩ : ∃ e, l[i]? = some e := ⟨_, List.getElem?_eq_getElem (by (have hL := zBG l; omega))⟩
  have hlte := (List.getElem?_eq_some_iff.1 he).1
  refine zAA rfl (.r rfl (zAm rfl rfl rfl underlying89 sizeOf3 rfl (by omega) (pvI_get he)) (.r rfl (zA2 rfl rfl isAgg3 rfl) (.a rfl rfl .nil))) ?_
  refine zAC (zAA rfl (.m rfl rfl (.m rfl rfl (.r rfl (zCH rfl rfl rfl) .nil))) ?_)
  refine zAW (t := (!(decide (e = 0)))) rfl (fun h2 => ?_) (fun h2 => ?_)
  ·
   replace h2 : ¬ (e = 0) := of_decide_eq_false (zA4 h2)
   refine zAC (zAA rfl (.m rfl rfl (.a rfl rfl .nil)) ?_)
   refine zAL ?_
   exact ends [_] [] (.cons (.tmp (zAH (by rw [← hE, zI6 he, if_pos h2]))) .nil) (.cons (.one .v (.v _)) .nil) (by decide) trivial
  ·
   replace h2 : e = 0 := of_decide_eq_true (zA5 h2)
   refine zAJ ?_
   refine zAA rfl (.r rfl (zAX rfl rfl rfl (by omega)) (.m rfl rfl .nil)) ?_
   refine nxt (Q := fun _ _ => False) (z := i) (i + 1) ?_ ?_ ?_
   ·
    show (i + 1) ≤ l.length ∧ orF (l.drop (i + 1)) = orF l
    exact ⟨by omega, by rw [← hE, zI6 he, if_neg (by simpa using h2)]⟩
   ·
    show l.length - (i + 1) < l.length - i
    omega
   · exact zAK ⟨rfl, rfl, rfl, (zAH (by omega)), trivial⟩ trivial trivial rfl
 ·
  replace h1 := of_decide_eq_false h1
  refine zAk ?_
  refine zAC (zAA rfl (.m rfl rfl (.a rfl rfl .nil)) ?_)
  refine zAL ?_
  exact ends [_] [] (.cons (.tmp (zAH (by rw [← hE, or_end (by omega)]))) .nil) (.cons (.one .v (.v _)) .nil) (by decide) trivial
theorem zHS (a b : Ent) : Con Tryd.prog 42 [.agg [PV.v (.string a.user), PV.v (.int .i64 a.seq), PV.v (.int .i64 a.kind)], .agg [PV.v (.string b.user), PV.v (.int .i64 b.seq), PV.v (.int .i64 b.kind)]] [] [.one (.v (.int .i64 (cmpK a b)))] := by
 refine zAP func42 rfl rfl rfl rfl ?_
 refine zAC (zAA rfl (.run [] [2] rfl (zBa rfl 2 rfl rfl (by decide) rfl (by decide)) (.run [] [3] rfl (zBa rfl 3 rfl rfl (by decide) rfl (by decide)) (.a rfl rfl .nil))) ?_)
 refine zAC ?_
 refine zAU (s' := mk [(2, .ptr 2 0), (3, .ptr 3 0)] [(2, [.vs a.user, .vi a.seq, .vi a.kind]), (3, [.vs b.user, .vi b.seq, .vi b.kind])] []) ?_ ?_
 · exact zAK ⟨rfl, rfl, trivial⟩ ⟨rfl, rfl, trivial⟩ trivial rfl
 refine zAf zBj rfl (.r rfl (zAE rfl rfl underlying46 rfl sizeOf9 (by decide)) (.r rfl (zAF rfl rfl rfl isAgg9 rfl) (.r rfl (zAE rfl rfl underlying46 rfl sizeOf9 (by decide)) (.r rfl (zAF rfl rfl rfl isAgg9 rfl) (.run [900] [] rfl (zAG rfl 900 (X := []) en62 rfl (.val nod) (.cons (.one (.bor .v)) (.cons (.one (.bor .v)) .nil)) (by decide) all_nil .nil (zKY a.user b.user) rfl rfl (nle rfl)) (.r rfl (zAE rfl rfl underlying46 rfl sizeOf2 (by decide)) (.r rfl (zAF rfl rfl rfl isAgg2 rfl) (.r rfl (zAE rfl rfl underlying46 rfl sizeOf2 (by decide)) (.r rfl (zAF rfl rfl rfl isAgg2 rfl) (.run [1400] [] rfl (zAG rfl 1400 (X := []) en63 rfl (.val nod) (.cons (.one (.bor .v)) (.cons (.one (.bor .v)) .nil)) (by decide) all_nil .nil (zH1 b.seq a.seq) rfl rfl (nle rfl)) (.r rfl (zAE rfl rfl underlying46 rfl sizeOf2 (by decide)) (.r rfl (zAF rfl rfl rfl isAgg2 rfl) (.r rfl (zAE rfl rfl underlying46 rfl sizeOf2 (by decide)) (.r rfl (zAF rfl rfl rfl isAgg2 rfl) (.run [1900] [] rfl (zAG rfl 1900 (X := []) en63 rfl (.val nod) (.cons (.one (.bor .v)) (.cons (.one (.bor .v)) .nil)) (by decide) all_nil .nil (zH1 b.kind a.kind) rfl rfl (nle rfl)) (.run [2000] [] rfl (zAv rfl 2000 underlying89 inf3 (nle rfl) (by decide) rfl rfl rfl (.cons .v (.cons .v (.cons .v .nil))) (by decide) rfl (by decide) rfl (by decide) rfl) (.run [2000, 2100] [] rfl (zAG rfl 2100 (X := []) en61 rfl (.val nod) (.cons (.one (.bor (.all (len := 3) (xs := [[PV.v (.int .i64 (cmpS a.user b.user))], [PV.v (.int .i64 (cmpI b.seq a.seq))], [PV.v (.int .i64 (cmpI b.kind a.kind))]]) rfl rfl (by decide)))) .nil) (by decide) all_nil .nil (or_con [cmpS a.user b.user, cmpI b.seq a.seq, cmpI b.kind a.kind] (by simp)) rfl rfl (nle rfl)) (.a rfl rfl .nil)))))))))))))))))) (by kernel_rfl) ?_
 refine zAL ?_
 exact ends [_] [] (.cons (.tmp (zAH (zJ9 a b))) .nil) (.cons (.one .v (.v _)) .nil) (by decide) trivial
theorem zDq (e : Ent) : Con Tryd.prog 41 [.agg [PV.v (.string e.user), PV.v (.int .i64 e.seq), PV.v (.int .i64 e.kind), PV.v (.string e.value)]] [] [.one (.v (.bool (zBV e)))] := by
 refine zAP func41 rfl rfl rfl rfl ?_
 refine zAC (zAA rfl (.run [] [1] rfl (zBa rfl 1 rfl rfl (by decide) rfl (by decide)) (.a rfl rfl .nil)) ?_)
 refine zAC ?_
 refine zAU (s' := mk [(1, .ptr 1 0)] [(1, [.vs e.user, .vi e.seq, .vi e.kind, .vs e.value])] []) ?_ ?_
 · exact zAK ⟨rfl, trivial⟩ ⟨rfl, trivial⟩ trivial rfl
 rcases bfc (zBr e.user e.seq e.kind) with h1 | h1
 ·
  have h1' := h1
  refine zAA rfl (.r rfl (zAE rfl rfl underlying48 rfl sizeOf46 (by decide)) (.r rfl (zAV rfl rfl rfl isAgg46 sizeOf46 (nle rfl)) (.run [500] [] rfl (zAG rfl 500 (X := []) en60 rfl (.val nod) (.cons (.agg (.cons (.bor .v) (.cons (.bor .v) (.cons (.bor .v) .nil)))) .nil) (by decide) all_nil .nil (zDx e) rfl rfl (nle rfl)) (.r rfl (zAO (zAB rfl) (by exact congrArg (fun b => AV.p none (.v (.bool b))) h1)) (.not rfl (.not rfl (.not rfl (.not rfl (.r rfl (zAT (t := false) rfl rfl) (.m rfl rfl (.not rfl (.not rfl (.not rfl (.not rfl (.not rfl (.not rfl (.not rfl (.not rfl (.not rfl (.r rfl (zAT (t := false) rfl rfl) (.a rfl rfl .nil))))))))))))))))))))) ?_
  refine zAL ?_
  exact ends [_] [] (.cons (.tmp (zAI (by simp only [zBV, h1, Bool.true_and, Bool.false_and, Bool.and_true, Bool.and_false, Bool.true_or, Bool.false_or]))) .nil) (.cons (.one .v (.v _)) .nil) (by decide) trivial
 ·
  have h1' := h1
  rcases bfc (decide ((e.value.size : Int) ≤ 200)) with h2 | h2
  ·
   have h2' := h2
   replace h2' := of_decide_eq_false h2'
   refine zAA rfl (.r rfl (zAE rfl rfl underlying48 rfl sizeOf46 (by decide)) (.r rfl (zAV rfl rfl rfl isAgg46 sizeOf46 (nle rfl)) (.run [500] [] rfl (zAG rfl 500 (X := []) en60 rfl (.val nod) (.cons (.agg (.cons (.bor .v) (.cons (.bor .v) (.cons (.bor .v) .nil)))) .nil) (by decide) all_nil .nil (zDx e) rfl rfl (nle rfl)) (.r rfl (zAO (zAB rfl) (by exact congrArg (fun b => AV.p none (.v (.bool b))) h1)) (.r rfl (zAE rfl rfl underlying48 rfl sizeOf9 (by decide)) (.r rfl (zAF rfl rfl rfl isAgg9 rfl) (.r rfl (zAR rfl rfl underlying9) (.r rfl (zAO (zC7 rfl rfl rfl) (by exact congrArg (fun b => AV.p none (.v (.bool b))) h2)) (.r rfl (zAT (t := true) rfl rfl) (.m rfl rfl (.not rfl (.not rfl (.not rfl (.not rfl (.not rfl (.not rfl (.not rfl (.not rfl (.not rfl (.r rfl (zAT (t := false) rfl rfl) (.a rfl rfl .nil))))))))))))))))))))) ?_
   refine zAL ?_
   exact ends [_] [] (.cons (.tmp (zAI (by simp only [zBV, h1, h2, Bool.true_and, Bool.false_and, Bool.and_true, Bool.and_false, Bool.true_or, Bool.false_or]))) .nil) (.cons (.one .v (.v _)) .nil) (by decide) trivial
  ·
   have h2' := h2
   replace h2' := of_decide_eq_true h2'
   rcases bfc (decide (e.kind = 1)) with h3 | h3
   ·
    have h3' := h3
    replace h3' := of_decide_eq_false h3'
    refine zAA rfl (.r rfl (zAE rfl rfl underlying48 rfl sizeOf46 (by decide)) (.r rfl (zAV rfl rfl rfl isAgg46 sizeOf46 (nle rfl)) (.run [500] [] rfl (zAG rfl 500 (X := []) en60 rfl (.val nod) (.cons (.agg (.cons (.bor .v) (.cons (.bor .v) (.cons (.bor .v) .nil)))) .nil) (by decide) all_nil .nil (zDx e) rfl rfl (nle rfl)) (.r rfl (zAO (zAB rfl) (by exact congrArg (fun b => AV.p none (.v (.bool b))) h1)) (.r rfl (zAE rfl rfl underlying48 rfl sizeOf9 (by decide)) (.r rfl (zAF rfl rfl rfl isAgg9 rfl) (.r rfl (zAR rfl rfl underlying9) (.r rfl (zAO (zC7 rfl rfl rfl) (by exact congrArg (fun b => AV.p none (.v (.bool b))) h2)) (.r rfl (zAT (t := true) rfl rfl) (.m rfl rfl (.r rfl (zAE rfl rfl underlying48 rfl sizeOf46 (by decide)) (.r rfl (zAE rfl rfl underlying46 rfl sizeOf2 (by decide)) (.r rfl (zAF rfl rfl rfl isAgg2 rfl) (.r rfl (zAO (zA6 rfl rfl rfl) (by exact congrArg (fun b => AV.p none (.v (.bool b))) h3)) (.m rfl rfl (.r rfl (zAE rfl rfl underlying48 rfl sizeOf9 (by decide)) (.r rfl (zAF rfl rfl rfl isAgg9 rfl) (.r rfl (zDb rfl rfl rfl) (.r rfl (zAT (t := false) rfl rfl) (.r rfl (zAT (t := true) rfl rfl) (.a rfl rfl .nil))))))))))))))))))))) ?_
    refine zAL ?_
    exact ends [_] [] (.cons (.tmp (zAI (by simp only [zBV, h1, h2, h3, Bool.true_and, Bool.false_and, Bool.and_true, Bool.and_false, Bool.true_or, Bool.false_or]))) .nil) (.cons (.one .v (.v _)) .nil) (by decide) trivial
   ·
    have h3' := h3
    replace h3' := of_decide_eq_true h3'
    refine zAA rfl (.r rfl (zAE rfl rfl underlying48 rfl sizeOf46 (by decide)) (.r rfl (zAV rfl rfl rfl isAgg46 sizeOf46 (nle rfl)) (.run [500] [] rfl (zAG rfl 500 (X := []) en60 rfl (.val nod) (.cons (.agg (.cons (.bor .v) (.cons (.bor .v) (.cons (.bor .v) .nil)))) .nil) (by decide) all_nil .nil (zDx e) rfl rfl (nle rfl)) (.r rfl (zAO (zAB rfl) (by exact congrArg (fun b => AV.p none (.v (.bool b))) h1)) (.r rfl (zAE rfl rfl underlying48 rfl sizeOf9 (by decide)) (.r rfl (zAF rfl rfl rfl isAgg9 rfl) (.r rfl (zAR rfl rfl underlying9) (.r rfl (zAO (zC7 rfl rfl rfl) (by exact congrArg (fun b => AV.p none (.v (.bool b))) h2)) (.r rfl (zAT (t := true) rfl rfl) (.m rfl rfl (.r rfl (zAE rfl rfl underlying48 rfl sizeOf46 (by decide)) (.r rfl (zAE rfl rfl underlying46 rfl sizeOf2 (by decide)) (.r rfl (zAF rfl rfl rfl isAgg2 rfl) (.r rfl (zAO (zA6 rfl rfl rfl) (by exact congrArg (fun b => AV.p none (.v (.bool b))) h3)) (.m rfl rfl (.not rfl (.not rfl (.not rfl (.r rfl (zAT (t := true) rfl rfl) (.r rfl (zAT (t := true) rfl rfl) (.a rfl rfl .nil))))))))))))))))))))) ?_
    refine zAL ?_
    exact ends [_] [] (.cons (.tmp (zAI (by simp only [zBV, h1, h2, h3, Bool.true_and, Bool.false_and, Bool.and_true, Bool.and_false, Bool.true_or, Bool.false_or]))) .nil) (.cons (.one .v (.v _)) .nil) (by decide) trivial
theorem zCY (e : Ent) : Con Tryd.prog 29 [.agg [PV.v (.string e.user), PV.v (.int .i64 e.seq), PV.v (.int .i64 e.kind), PV.v (.string e.value)]] [] [.one (.v (.bool (zBV e)))] := by
 refine zAP func29 rfl rfl rfl rfl ?_
 refine zAC (zAA rfl (.run [] [1] rfl (zBa rfl 1 rfl rfl (by decide) rfl (by decide)) (.a rfl rfl .nil)) ?_)
 refine zAC ?_
 refine zAU (s' := mk [(1, .ptr 1 0)] [(1, [.vs e.user, .vi e.seq, .vi e.kind, .vs e.value])] []) ?_ ?_
 · exact zAK ⟨rfl, trivial⟩ ⟨rfl, trivial⟩ trivial rfl
 rcases bfc (zBr e.user e.seq e.kind) with h1 | h1
 ·
  have h1' := h1
  refine zAA rfl (.r rfl (zAE rfl rfl underlying48 rfl sizeOf46 (by decide)) (.r rfl (zAV rfl rfl rfl isAgg46 sizeOf46 (nle rfl)) (.run [500] [] rfl (zAG rfl 500 (X := []) en33 rfl (.val nod) (.cons (.agg (.cons (.bor .v) (.cons (.bor .v) (.cons (.bor .v) .nil)))) .nil) (by decide) all_nil .nil (zBb e) rfl rfl (nle rfl)) (.r rfl (zAO (zAB rfl) (by exact congrArg (fun b => AV.p none (.v (.bool b))) h1)) (.not rfl (.not rfl (.not rfl (.not rfl (.r rfl (zAT (t := false) rfl rfl) (.m rfl rfl (.not rfl (.not rfl (.not rfl (.not rfl (.not rfl (.not rfl (.not rfl (.not rfl (.not rfl (.r rfl (zAT (t := false) rfl rfl) (.a rfl rfl .nil))))))))))))))))))))) ?_
  refine zAL ?_
  exact ends [_] [] (.cons (.tmp (zAI (by simp only [zBV, h1, Bool.true_and, Bool.false_and, Bool.and_true, Bool.and_false, Bool.true_or, Bool.false_or]))) .nil) (.cons (.one .v (.v _)) .nil) (by decide) trivial
 ·
  have h1' := h1
  rcases bfc (decide ((e.value.size : Int) ≤ 200)) with h2 | h2
  ·
   have h2' := h2
   replace h2' := of_decide_eq_false h2'
   refine zAA rfl (.r rfl (zAE rfl rfl underlying48 rfl sizeOf46 (by decide)) (.r rfl (zAV rfl rfl rfl isAgg46 sizeOf46 (nle rfl)) (.run [500] [] rfl (zAG rfl 500 (X := []) en33 rfl (.val nod) (.cons (.agg (.cons (.bor .v) (.cons (.bor .v) (.cons (.bor .v) .nil)))) .nil) (by decide) all_nil .nil (zBb e) rfl rfl (nle rfl)) (.r rfl (zAO (zAB rfl) (by exact congrArg (fun b => AV.p none (.v (.bool b))) h1)) (.r rfl (zAE rfl rfl underlying48 rfl sizeOf9 (by decide)) (.r rfl (zAF rfl rfl rfl isAgg9 rfl) (.r rfl (zAR rfl rfl underlying9) (.r rfl (zAO (zC7 rfl rfl rfl) (by exact congrArg (fun b => AV.p none (.v (.bool b))) h2)) (.r rfl (zAT (t := true) rfl rfl) (.m rfl rfl (.not rfl (.not rfl (.not rfl (.not rfl (.not rfl (.not rfl (.not rfl (.not rfl (.not rfl (.r rfl (zAT (t := false) rfl rfl) (.a rfl rfl .nil))))))))))))))))))))) ?_
   refine zAL ?_
   exact ends [_] [] (.cons (.tmp (zAI (by simp only [zBV, h1, h2, Bool.true_and, Bool.false_and, Bool.and_true, Bool.and_false, Bool.true_or, Bool.false_or]))) .nil) (.cons (.one .v (.v _)) .nil) (by decide) trivial
  ·
   have h2' := h2
   replace h2' := of_decide_eq_true h2'
   rcases bfc (decide (e.kind = 1)) with h3 | h3
   ·
    have h3' := h3
    replace h3' := of_decide_eq_false h3'
    refine zAA rfl (.r rfl (zAE rfl rfl underlying48 rfl sizeOf46 (by decide)) (.r rfl (zAV rfl rfl rfl isAgg46 sizeOf46 (nle rfl)) (.run [500] [] rfl (zAG rfl 500 (X := []) en33 rfl (.val nod) (.cons (.agg (.cons (.bor .v) (.cons (.bor .v) (.cons (.bor .v) .nil)))) .nil) (by decide) all_nil .nil (zBb e) rfl rfl (nle rfl)) (.r rfl (zAO (zAB rfl) (by exact congrArg (fun b => AV.p none (.v (.bool b))) h1)) (.r rfl (zAE rfl rfl underlying48 rfl sizeOf9 (by decide)) (.r rfl (zAF rfl rfl rfl isAgg9 rfl) (.r rfl (zAR rfl rfl underlying9) (.r rfl (zAO (zC7 rfl rfl rfl) (by exact congrArg (fun b => AV.p none (.v (.bool b))) h2)) (.r rfl (zAT (t := true) rfl rfl) (.m rfl rfl (.r rfl (zAE rfl rfl underlying48 rfl sizeOf46 (by decide)) (.r rfl (zAE rfl rfl underlying46 rfl sizeOf2 (by decide)) (.r rfl (zAF rfl rfl rfl isAgg2 rfl) (.r rfl (zAO (zA6 rfl rfl rfl) (by exact congrArg (fun b => AV.p none (.v (.bool b))) h3)) (.m rfl rfl (.r rfl (zAE rfl rfl underlying48 rfl sizeOf9 (by decide)) (.r rfl (zAF rfl rfl rfl isAgg9 rfl) (.r rfl (zDb rfl rfl rfl) (.r rfl (zAT (t := false) rfl rfl) (.r rfl (zAT (t := true) rfl rfl) (.a rfl rfl .nil))))))))))))))))))))) ?_
    refine zAL ?_
    exact ends [_] [] (.cons (.tmp (zAI (by simp only [zBV, h1, h2, h3, Bool.true_and, Bool.false_and, Bool.and_true, Bool.and_false, Bool.true_or, Bool.false_or]))) .nil) (.cons (.one .v (.v _)) .nil) (by decide) trivial
   ·
    have h3' := h3
    replace h3' := of_decide_eq_true h3'
    refine zAA rfl (.r rfl (zAE rfl rfl underlying48 rfl sizeOf46 (by decide)) (.r rfl (zAV rfl rfl rfl isAgg46 sizeOf46 (nle rfl)) (.run [500] [] rfl (zAG rfl 500 (X := []) en33 rfl (.val nod) (.cons (.agg (.cons (.bor .v) (.cons (.bor .v) (.cons (.bor .v) .nil)))) .nil) (by decide) all_nil .nil (zBb e) rfl rfl (nle rfl)) (.r rfl (zAO (zAB rfl) (by exact congrArg (fun b => AV.p none (.v (.bool b))) h1)) (.r rfl (zAE rfl rfl underlying48 rfl sizeOf9 (by decide)) (.r rfl (zAF rfl rfl rfl isAgg9 rfl) (.r rfl (zAR rfl rfl underlying9) (.r rfl (zAO (zC7 rfl rfl rfl) (by exact congrArg (fun b => AV.p none (.v (.bool b))) h2)) (.r rfl (zAT (t := true) rfl rfl) (.m rfl rfl (.r rfl (zAE rfl rfl underlying48 rfl sizeOf46 (by decide)) (.r rfl (zAE rfl rfl underlying46 rfl sizeOf2 (by decide)) (.r rfl (zAF rfl rfl rfl isAgg2 rfl) (.r rfl (zAO (zA6 rfl rfl rfl) (by exact congrArg (fun b => AV.p none (.v (.bool b))) h3)) (.m rfl rfl (.not rfl (.not rfl (.not rfl (.r rfl (zAT (t := true) rfl rfl) (.r rfl (zAT (t := true) rfl rfl) (.a rfl rfl .nil))))))))))))))))))))) ?_
    refine zAL ?_
    exact ends [_] [] (.cons (.tmp (zAI (by simp only [zBV, h1, h2, h3, Bool.true_and, Bool.false_and, Bool.and_true, Bool.and_false, Bool.true_or, Bool.false_or]))) .nil) (.cons (.one .v (.v _)) .nil) (by decide) trivial
end Go.Rl
namespace Go.Rl
open Go.Proofs Go.Proofs.Tryd
set_option maxRecDepth 1000000
set_option maxHeartbeats 2000000
theorem zE5 : (Tryd.prog.info? 48).map (fun i => (i.zero, i.size, i.bytes)) = some (some (.agg #[.string ⟨#[]⟩, .int .i64 0, .int .i64 0, .string ⟨#[]⟩]), 4, 48) := by kernel_rfl
theorem en41 : En Tryd.prog 41 := zAn func41 (by decide) rfl
theorem en42 : En Tryd.prog 42 := zAn func42 (by decide) rfl
theorem en29 : En Tryd.prog 29 := zAn func29 (by decide) rfl
theorem en30 : En Tryd.prog 30 := zAn func30 (by decide) rfl
theorem zKH (a b : ByteArray × Int × Int) (w : World) : (Op.equalIn 10000 46 (.agg ⟨[.string a.1, .int .i64 a.2.1, .int .i64 a.2.2]⟩) (.agg ⟨[.string b.1, .int .i64 b.2.1, .int .i64 b.2.2]⟩)).run Tryd.prog w = .ok (decide (a = b)) w := by
 rw [show (10000 : Nat) = 9999 + 1 from rfl, run_equalIn_agg w 9999 46 _ _ underlying46 (by kernel_rfl)]
 rw [show (Tryd.prog.fieldsOf 46).toList = [⟨"User", 9, 0, false, "", "", 0⟩, ⟨"Seq", 2, 1, false, "", "", 16⟩, ⟨"Kind", 2, 2, false, "", "", 24⟩] from rfl]
 rw [show (9999 : Nat) = 9998 + 1 from rfl]
 have hb : ∀ x y : ByteArray, x.toList = y.toList ↔ x = y := fun x y => ⟨zD4, fun h => by rw [h]⟩
 simp [Op.eqFields, part, isAgg9, sizeOf9, isAgg2, sizeOf2, run_equalIn_string (h := underlying9), run_equalIn_int (h := underlying2), hb]
 obtain ⟨a1, a2, a3⟩ := a
 obtain ⟨b1, b2, b3⟩ := b
 simp only [Prod.mk.injEq]
 split
 ·
  split
  · split <;> simp_all
  · simp_all
 · simp_all
theorem zE4 (a b : Ent) : Con Tryd.prog 30 [.agg [PV.v (.string a.user), PV.v (.int .i64 a.seq), PV.v (.int .i64 a.kind)], .agg [PV.v (.string b.user), PV.v (.int .i64 b.seq), PV.v (.int .i64 b.kind)]] [] [.one (.v (.int .i64 (kcmp a b)))] := by
 refine zAP func30 rfl rfl rfl rfl ?_
 refine zAC (zAA rfl (.run [] [2] rfl (zBa rfl 2 rfl rfl (by decide) rfl (by decide)) (.run [] [3] rfl (zBa rfl 3 rfl rfl (by decide) rfl (by decide)) (.a rfl rfl .nil))) ?_)
 refine zAC ?_
 refine zAC ?_
 rcases bfc (!(zBr a.user a.seq a.kind)) with h1 | h1
 ·
  have h1' := h1
  replace h1' : (zBr a.user a.seq a.kind) = true := zA5 h1'
  refine zAA rfl (.r rfl (zAV rfl rfl rfl isAgg46 sizeOf46 (nle rfl)) (.run [600] [] rfl (zAG rfl 600 (X := []) en33 rfl (.val nod) (.cons (.agg (.cons (.bor .v) (.cons (.bor .v) (.cons (.bor .v) .nil)))) .nil) (by decide) all_nil .nil (zBb a) rfl rfl (nle rfl)) (.r rfl (zAO (zA1 (b := zBr a.user a.seq a.kind) rfl rfl) (by exact congrArg (fun b => AV.p none (.v (.bool b))) h1)) (.m rfl rfl (.r rfl (zAV rfl rfl rfl isAgg46 sizeOf46 (nle rfl)) (.run [1000] [] rfl (zAG rfl 1000 (X := []) en33 rfl (.val nod) (.cons (.agg (.cons (.bor .v) (.cons (.bor .v) (.cons (.bor .v) .nil)))) .nil) (by decide) all_nil .nil (zBb b) rfl rfl (nle rfl)) (.r rfl (zA1 (b := zBr b.user b.seq b.kind) rfl rfl) (.r rfl (zAT (t := false) rfl rfl) .nil)))))))) ?_
  refine zAW (t := (!(zBr b.user b.seq b.kind))) rfl (fun h2 => ?_) (fun h2 => ?_)
  ·
   replace h2 : (zBr b.user b.seq b.kind) = false := zA4 h2
   refine zAC (zAA rfl (.a rfl rfl .nil) ?_)
   refine zAL ?_
   exact ends [_] [] (.cons (.tmp (zAH (by simp [kcmp, h1', h2]))) .nil) (.cons (.one .v (.v _)) .nil) (by decide) trivial
  ·
   replace h2 : (zBr b.user b.seq b.kind) = true := zA5 h2
   refine zAJ ?_
   refine zAC ?_
   refine zAC (zAA rfl (.r rfl (zAV rfl rfl rfl isAgg46 sizeOf46 (nle rfl)) (.r rfl (zAV rfl rfl rfl isAgg46 sizeOf46 (nle rfl)) (.r rfl (zG6 rfl rfl rfl rfl rfl Tryd.eqGuardType46 (fun w => zKH (a.user, a.seq, a.kind) (b.user, b.seq, b.kind) w)) .nil))) ?_)
   refine zAW (t := decide ((a.user, a.seq, a.kind) = (b.user, b.seq, b.kind))) rfl (fun h3 => ?_) (fun h3 => ?_)
   ·
    replace h3 := of_decide_eq_true h3
    refine zAC (zAA rfl (.a rfl rfl .nil) ?_)
    refine zAL ?_
    exact ends [_] [] (.cons (.tmp (zAH (by rw [zDG h1' h2]; have hk := h3; simp only [Prod.mk.injEq] at hk; exact (cmpK_eq hk.1 hk.2.1 hk.2.2).symm))) .nil) (.cons (.one .v (.v _)) .nil) (by decide) trivial
   ·
    replace h3 := of_decide_eq_false h3
    refine zAJ ?_
    refine zAC ?_
    refine zAC ?_
    refine zAU (s' := mk [(2, .ptr 2 0), (3, .ptr 3 0)] [(2, [.vs a.user, .vi a.seq, .vi a.kind]), (3, [.vs b.user, .vi b.seq, .vi b.kind])] []) ?_ ?_
    · exact zAK ⟨rfl, rfl, trivial⟩ ⟨rfl, rfl, trivial⟩ trivial rfl
    rcases bfc (ltB a.user b.user) with h4 | h4
    ·
     have h4' := h4
     rcases bfc (decide (a.user = b.user)) with h5 | h5
     ·
      have h5' := h5
      replace h5' := of_decide_eq_false h5'
      refine zAA rfl (.r rfl (zAE rfl rfl underlying46 rfl sizeOf9 (by decide)) (.r rfl (zAF rfl rfl rfl isAgg9 rfl) (.r rfl (zAE rfl rfl underlying46 rfl sizeOf9 (by decide)) (.r rfl (zAF rfl rfl rfl isAgg9 rfl) (.r rfl (zAO (zD6 rfl rfl rfl) (by exact congrArg (fun b => AV.p none (.v (.bool b))) h4)) (.m rfl rfl (.r rfl (zAE rfl rfl underlying46 rfl sizeOf9 (by decide)) (.r rfl (zAF rfl rfl rfl isAgg9 rfl) (.r rfl (zAE rfl rfl underlying46 rfl sizeOf9 (by decide)) (.r rfl (zAF rfl rfl rfl isAgg9 rfl) (.r rfl (zAO (zDb rfl rfl rfl) (by exact congrArg (fun b => AV.p none (.v (.bool b))) h5)) (.m rfl rfl (.not rfl (.not rfl (.not rfl (.not rfl (.not rfl (.not rfl (.not rfl (.not rfl (.not rfl (.not rfl (.not rfl (.not rfl (.not rfl (.not rfl (.not rfl (.not rfl (.not rfl (.not rfl (.not rfl (.r rfl (zAT (t := false) rfl rfl) (.r rfl (zAT (t := false) rfl rfl) .nil))))))))))))))))))))))))))))))))) ?_
      refine zAW (t := false) rfl (fun h => nomatch h) (fun _ => ?_)
      refine zAJ ?_
      refine zAC ?_
      refine zAU (s' := mk [] [] []) ?_ ?_
      · exact zAK trivial trivial trivial rfl
      refine zAA rfl (.a rfl rfl .nil) ?_
      refine zAL ?_
      exact ends [_] [] (.cons (.tmp (zAH (by rw [zDG h1' h2]; exact (zHU (by simp_all [LessE] <;> omega) (by have hk := h3; simp only [Prod.mk.injEq] at hk; exact hk)).symm))) .nil) (.cons (.one .v (.v _)) .nil) (by decide) trivial
     ·
      have h5' := h5
      replace h5' := of_decide_eq_true h5'
      rcases bfc (decide (b.seq < a.seq)) with h6 | h6
      ·
       have h6' := h6
       replace h6' := of_decide_eq_false h6'
       rcases bfc (decide (a.seq = b.seq)) with h7 | h7
       ·
        have h7' := h7
        replace h7' := of_decide_eq_false h7'
        refine zAA rfl (.r rfl (zAE rfl rfl underlying46 rfl sizeOf9 (by decide)) (.r rfl (zAF rfl rfl rfl isAgg9 rfl) (.r rfl (zAE rfl rfl underlying46 rfl sizeOf9 (by decide)) (.r rfl (zAF rfl rfl rfl isAgg9 rfl) (.r rfl (zAO (zD6 rfl rfl rfl) (by exact congrArg (fun b => AV.p none (.v (.bool b))) h4)) (.m rfl rfl (.r rfl (zAE rfl rfl underlying46 rfl sizeOf9 (by decide)) (.r rfl (zAF rfl rfl rfl isAgg9 rfl) (.r rfl (zAE rfl rfl underlying46 rfl sizeOf9 (by decide)) (.r rfl (zAF rfl rfl rfl isAgg9 rfl) (.r rfl (zAO (zDb rfl rfl rfl) (by exact congrArg (fun b => AV.p none (.v (.bool b))) h5)) (.m rfl rfl (.r rfl (zAE rfl rfl underlying46 rfl sizeOf2 (by decide)) (.r rfl (zAF rfl rfl rfl isAgg2 rfl) (.r rfl (zAE rfl rfl underlying46 rfl sizeOf2 (by decide)) (.r rfl (zAF rfl rfl rfl isAgg2 rfl) (.r rfl (zAO (zBy rfl rfl rfl) (by exact congrArg (fun b => AV.p none (.v (.bool b))) h6)) (.m rfl rfl (.r rfl (zAE rfl rfl underlying46 rfl sizeOf2 (by decide)) (.r rfl (zAF rfl rfl rfl isAgg2 rfl) (.r rfl (zAE rfl rfl underlying46 rfl sizeOf2 (by decide)) (.r rfl (zAF rfl rfl rfl isAgg2 rfl) (.r rfl (zAO (zA6 rfl rfl rfl) (by exact congrArg (fun b => AV.p none (.v (.bool b))) h7)) (.m rfl rfl (.not rfl (.not rfl (.not rfl (.not rfl (.not rfl (.r rfl (zAT (t := false) rfl rfl) (.r rfl (zAT (t := false) rfl rfl) (.r rfl (zAT (t := true) rfl rfl) (.r rfl (zAT (t := false) rfl rfl) .nil))))))))))))))))))))))))))))))))) ?_
        refine zAW (t := false) rfl (fun h => nomatch h) (fun _ => ?_)
        refine zAJ ?_
        refine zAC ?_
        refine zAU (s' := mk [] [] []) ?_ ?_
        · exact zAK trivial trivial trivial rfl
        refine zAA rfl (.a rfl rfl .nil) ?_
        refine zAL ?_
        exact ends [_] [] (.cons (.tmp (zAH (by rw [zDG h1' h2]; exact (zHU (by simp_all [LessE] <;> omega) (by have hk := h3; simp only [Prod.mk.injEq] at hk; exact hk)).symm))) .nil) (.cons (.one .v (.v _)) .nil) (by decide) trivial
       ·
        have h7' := h7
        replace h7' := of_decide_eq_true h7'
        refine zAA rfl (.r rfl (zAE rfl rfl underlying46 rfl sizeOf9 (by decide)) (.r rfl (zAF rfl rfl rfl isAgg9 rfl) (.r rfl (zAE rfl rfl underlying46 rfl sizeOf9 (by decide)) (.r rfl (zAF rfl rfl rfl isAgg9 rfl) (.r rfl (zAO (zD6 rfl rfl rfl) (by exact congrArg (fun b => AV.p none (.v (.bool b))) h4)) (.m rfl rfl (.r rfl (zAE rfl rfl underlying46 rfl sizeOf9 (by decide)) (.r rfl (zAF rfl rfl rfl isAgg9 rfl) (.r rfl (zAE rfl rfl underlying46 rfl sizeOf9 (by decide)) (.r rfl (zAF rfl rfl rfl isAgg9 rfl) (.r rfl (zAO (zDb rfl rfl rfl) (by exact congrArg (fun b => AV.p none (.v (.bool b))) h5)) (.m rfl rfl (.r rfl (zAE rfl rfl underlying46 rfl sizeOf2 (by decide)) (.r rfl (zAF rfl rfl rfl isAgg2 rfl) (.r rfl (zAE rfl rfl underlying46 rfl sizeOf2 (by decide)) (.r rfl (zAF rfl rfl rfl isAgg2 rfl) (.r rfl (zAO (zBy rfl rfl rfl) (by exact congrArg (fun b => AV.p none (.v (.bool b))) h6)) (.m rfl rfl (.r rfl (zAE rfl rfl underlying46 rfl sizeOf2 (by decide)) (.r rfl (zAF rfl rfl rfl isAgg2 rfl) (.r rfl (zAE rfl rfl underlying46 rfl sizeOf2 (by decide)) (.r rfl (zAF rfl rfl rfl isAgg2 rfl) (.r rfl (zAO (zA6 rfl rfl rfl) (by exact congrArg (fun b => AV.p none (.v (.bool b))) h7)) (.m rfl rfl (.r rfl (zAE rfl rfl underlying46 rfl sizeOf2 (by decide)) (.r rfl (zAF rfl rfl rfl isAgg2 rfl) (.r rfl (zAE rfl rfl underlying46 rfl sizeOf2 (by decide)) (.r rfl (zAF rfl rfl rfl isAgg2 rfl) (.r rfl (zBy rfl rfl rfl) (.r rfl (zAT (t := true) rfl rfl) (.r rfl (zAT (t := false) rfl rfl) (.r rfl (zAT (t := true) rfl rfl) (.r rfl (zAT (t := false) rfl rfl) .nil))))))))))))))))))))))))))))))))) ?_
        refine zAW (t := decide (b.kind < a.kind)) rfl (fun h8 => ?_) (fun h8 => ?_)
        ·
         replace h8 := of_decide_eq_true h8
         refine zAC ?_
         refine zAU (s' := mk [] [] []) ?_ ?_
         · exact zAK trivial trivial trivial rfl
         refine zAA rfl (.a rfl rfl .nil) ?_
         refine zAL ?_
         exact ends [_] [] (.cons (.tmp (zAH (by rw [zDG h1' h2]; exact (zHT (by simp_all [LessE])).symm))) .nil) (.cons (.one .v (.v _)) .nil) (by decide) trivial
        ·
         replace h8 := of_decide_eq_false h8
         refine zAJ ?_
         refine zAC ?_
         refine zAU (s' := mk [] [] []) ?_ ?_
         · exact zAK trivial trivial trivial rfl
         refine zAA rfl (.a rfl rfl .nil) ?_
         refine zAL ?_
         exact ends [_] [] (.cons (.tmp (zAH (by rw [zDG h1' h2]; exact (zHU (by simp_all [LessE] <;> omega) (by have hk := h3; simp only [Prod.mk.injEq] at hk; exact hk)).symm))) .nil) (.cons (.one .v (.v _)) .nil) (by decide) trivial
      ·
       have h6' := h6
       replace h6' := of_decide_eq_true h6'
       refine zAA rfl (.r rfl (zAE rfl rfl underlying46 rfl sizeOf9 (by decide)) (.r rfl (zAF rfl rfl rfl isAgg9 rfl) (.r rfl (zAE rfl rfl underlying46 rfl sizeOf9 (by decide)) (.r rfl (zAF rfl rfl rfl isAgg9 rfl) (.r rfl (zAO (zD6 rfl rfl rfl) (by exact congrArg (fun b => AV.p none (.v (.bool b))) h4)) (.m rfl rfl (.r rfl (zAE rfl rfl underlying46 rfl sizeOf9 (by decide)) (.r rfl (zAF rfl rfl rfl isAgg9 rfl) (.r rfl (zAE rfl rfl underlying46 rfl sizeOf9 (by decide)) (.r rfl (zAF rfl rfl rfl isAgg9 rfl) (.r rfl (zAO (zDb rfl rfl rfl) (by exact congrArg (fun b => AV.p none (.v (.bool b))) h5)) (.m rfl rfl (.r rfl (zAE rfl rfl underlying46 rfl sizeOf2 (by decide)) (.r rfl (zAF rfl rfl rfl isAgg2 rfl) (.r rfl (zAE rfl rfl underlying46 rfl sizeOf2 (by decide)) (.r rfl (zAF rfl rfl rfl isAgg2 rfl) (.r rfl (zAO (zBy rfl rfl rfl) (by exact congrArg (fun b => AV.p none (.v (.bool b))) h6)) (.m rfl rfl (.not rfl (.not rfl (.not rfl (.not rfl (.not rfl (.not rfl (.not rfl (.not rfl (.not rfl (.not rfl (.not rfl (.not rfl (.r rfl (zAT (t := true) rfl rfl) (.r rfl (zAT (t := true) rfl rfl) (.r rfl (zAT (t := false) rfl rfl) .nil))))))))))))))))))))))))))))))))) ?_
       refine zAW (t := true) rfl (fun _ => ?_) (fun h => nomatch h)
       refine zAC ?_
       refine zAU (s' := mk [] [] []) ?_ ?_
       · exact zAK trivial trivial trivial rfl
       refine zAA rfl (.a rfl rfl .nil) ?_
       refine zAL ?_
       exact ends [_] [] (.cons (.tmp (zAH (by rw [zDG h1' h2]; exact (zHT (by simp_all [LessE])).symm))) .nil) (.cons (.one .v (.v _)) .nil) (by decide) trivial
    ·
     have h4' := h4
     refine zAA rfl (.r rfl (zAE rfl rfl underlying46 rfl sizeOf9 (by decide)) (.r rfl (zAF rfl rfl rfl isAgg9 rfl) (.r rfl (zAE rfl rfl underlying46 rfl sizeOf9 (by decide)) (.r rfl (zAF rfl rfl rfl isAgg9 rfl) (.r rfl (zAO (zD6 rfl rfl rfl) (by exact congrArg (fun b => AV.p none (.v (.bool b))) h4)) (.m rfl rfl (.not rfl (.not rfl (.not rfl (.not rfl (.not rfl (.not rfl (.not rfl (.not rfl (.not rfl (.not rfl (.not rfl (.not rfl (.not rfl (.not rfl (.not rfl (.not rfl (.not rfl (.not rfl (.not rfl (.not rfl (.not rfl (.not rfl (.not rfl (.not rfl (.not rfl (.not rfl (.r rfl (zAT (t := true) rfl rfl) .nil))))))))))))))))))))))))))))))))) ?_
     refine zAW (t := true) rfl (fun _ => ?_) (fun h => nomatch h)
     refine zAC ?_
     refine zAU (s' := mk [] [] []) ?_ ?_
     · exact zAK trivial trivial trivial rfl
     refine zAA rfl (.a rfl rfl .nil) ?_
     refine zAL ?_
     exact ends [_] [] (.cons (.tmp (zAH (by rw [zDG h1' h2]; exact (zHT (by simp_all [LessE])).symm))) .nil) (.cons (.one .v (.v _)) .nil) (by decide) trivial
 ·
  have h1' := h1
  replace h1' : (zBr a.user a.seq a.kind) = false := zA4 h1'
  refine zAA rfl (.r rfl (zAV rfl rfl rfl isAgg46 sizeOf46 (nle rfl)) (.run [600] [] rfl (zAG rfl 600 (X := []) en33 rfl (.val nod) (.cons (.agg (.cons (.bor .v) (.cons (.bor .v) (.cons (.bor .v) .nil)))) .nil) (by decide) all_nil .nil (zBb a) rfl rfl (nle rfl)) (.r rfl (zAO (zA1 (b := zBr a.user a.seq a.kind) rfl rfl) (by exact congrArg (fun b => AV.p none (.v (.bool b))) h1)) (.m rfl rfl (.not rfl (.not rfl (.not rfl (.r rfl (zAT (t := true) rfl rfl) .nil)))))))) ?_
  refine zAW (t := true) rfl (fun _ => ?_) (fun h => nomatch h)
  refine zAC (zAA rfl (.a rfl rfl .nil) ?_)
  refine zAL ?_
  exact ends [_] [] (.cons (.tmp (zAH (by simp [kcmp, h1']))) .nil) (.cons (.one .v (.v _)) .nil) (by decide) trivial
theorem zC4 (l : List Ent) (hl : l.length ≤ 2000000) : Con Tryd.prog 24 [.one (PV.sl false 4 (pvE l))] [] [.one (.v (.bool (zBD l)))] := by
 refine zAP func24 rfl rfl rfl rfl ?_
 have hle := zAc l
 refine zAC (zAA rfl (.a rfl rfl .nil) ?_)
 refine zAC ?_
 refine zAC (zAA rfl (.m rfl rfl (.r rfl (zAa rfl rfl underlying28) (.r rfl (zBy rfl rfl rfl) .nil))) ?_)
 refine zAW (t := decide (400 < ((pvE l).length : Int))) rfl (fun h1 => ?_) (fun h1 => ?_)
 ·
  replace h1 := of_decide_eq_true h1
  refine zAC (zAA rfl (.a rfl rfl .nil) ?_)
  refine zAL ?_
  exact ends [_] [] (.cons (.tmp (zAI (zGf (by omega)).symm)) .nil) (.cons (.one .v (.v _)) .nil) (by decide) trivial
 ·
  replace h1 := of_decide_eq_false h1
  refine zAJ ?_
  refine zAC ?_
  refine zAC (zAA rfl (.m rfl rfl (.r rfl (zAa rfl rfl underlying28) (.m rfl rfl .nil))) ?_)
  refine zAM ?_
  refine zAj (σ := Nat) (fun i => mk [(0, .p none (.sl false 4 (pvE l))), (8, .p none (.sl false 4 (pvE l))), (9, .vi ((pvE l).length : Int)), (10, .vi (i:Int))] [] []) (fun i => i ≤ l.length ∧ ∀ j e, j < i → l[j]? = some e → zCb l j e = true) (fun i => l.length - i) 0 ⟨Nat.zero_le _, fun _ _ h => absurd h (Nat.not_lt_zero _)⟩ (zAK ⟨rfl, rfl, rfl, (zAH (by omega)), trivial⟩ trivial trivial rfl) ?_
  rintro i hG
  replace hG : i ≤ l.length ∧ ∀ j e, j < i → l[j]? = some e → zCb l j e = true := hG
  obtain ⟨hi, hG⟩ := hG
  refine zAC (zAA rfl (.r rfl (zAu rfl rfl rfl) .nil) ?_)
  refine zAC ?_
  refine zAW (t := decide ((i:Int) < ((pvE l).length : Int))) rfl (fun h2 => ?_) (fun h2 => ?_)
  ·
   replace h2 := of_decide_eq_true h2
   refine zAJ ?_
   refine zAC ?_
   refine zAM ?_
   refine zAC ?_
   obtain ⟨e, he⟩ : ∃ e, l[i]? = some e := ⟨_, List.getElem?_eq_getElem (by (have hL := zAc l; omega))⟩
   have hlte := (List.getElem?_eq_some_iff.1 he).1
   refine zAA rfl (.m rfl rfl (.r rfl (zAm rfl rfl rfl underlying28 sizeOf48 rfl (by omega) (zBW he)) (.r rfl (zBA rfl rfl isAgg48 sizeOf48 (nle rfl)) (.run [] [4] rfl (zA7 rfl 4 zE5 rfl (by decide) rfl (by decide)) (.a rfl rfl (.r rfl (zAS rfl rfl rfl rfl rfl sizeOf48 rfl (nle rfl)) .nil)))))) ?_
   refine zAC ?_
   refine zAU (s' := mk [(0, .p none (.sl false 4 (pvE l))), (3, .vi (i:Int)), (4, .ptr 4 0), (8, .p none (.sl false 4 (pvE l))), (9, .vi ((pvE l).length : Int)), (10, .vi (i:Int))] [(4, [.vs e.user, .vi e.seq, .vi e.kind, .vs e.value])] []) ?_ ?_
   · exact zAK ⟨rfl, rfl, rfl, rfl, rfl, rfl, trivial⟩ ⟨rfl, trivial⟩ trivial rfl
   rcases bfc (!(zBV e)) with h3 | h3
   ·
    have h3' := h3
    replace h3' : (zBV e) = true := zA5 h3'
    rcases bfc (decide (0 < (i:Int))) with h4 | h4
    ·
     have h4' := h4
     replace h4' := of_decide_eq_false h4'
     refine zAf zBj rfl (.r rfl (zAV rfl rfl rfl isAgg48 sizeOf48 (nle rfl)) (.run [1600] [] rfl (zAG rfl 1600 (X := []) en41 rfl (.val nod) (.cons (.agg (.cons (.bor .v) (.cons (.bor .v) (.cons (.bor .v) (.cons (.bor .v) .nil))))) .nil) (by decide) all_nil .nil (zDq e) rfl rfl (nle rfl)) (.r rfl (zAO (zA1 (b := zBV e) rfl rfl) (by exact congrArg (fun b => AV.p none (.v (.bool b))) h3)) (.m rfl rfl (.m rfl rfl (.r rfl (zAO (zBy rfl rfl rfl) (by exact congrArg (fun b => AV.p none (.v (.bool b))) h4)) (.m rfl rfl (.not rfl (.not rfl (.not rfl (.not rfl (.not rfl (.not rfl (.not rfl (.not rfl (.not rfl (.not rfl (.r rfl (zAT (t := false) rfl rfl) (.r rfl (zAT (t := false) rfl rfl) .nil))))))))))))))))))) (by kernel_rfl) ?_
     refine zAW (t := false) rfl (fun h => nomatch h) (fun _ => ?_)
     refine zAJ ?_
     refine zAU (s' := mk [(0, .p none (.sl false 4 (pvE l))), (8, .p none (.sl false 4 (pvE l))), (9, .vi ((pvE l).length : Int)), (10, .vi (i:Int)), (19, .vi (i:Int)), (20, .vb false), (21, .vb false), (32, .vb false)] [] []) ?_ ?_
     · exact zAK ⟨rfl, rfl, rfl, rfl, rfl, rfl, rfl, rfl, trivial⟩ trivial trivial rfl
     refine zAA rfl (.r rfl (zAX rfl rfl rfl (by omega)) (.m rfl rfl .nil)) ?_
     refine nxt (Q := fun _ _ => False) (z := i) (i + 1) ?_ ?_ ?_
     ·
      show (i + 1) ≤ l.length ∧ ∀ j e, j < (i + 1) → l[j]? = some e → zCb l j e = true
      exact ⟨by omega, zFr hG he (zEm h3' (by omega))⟩
     ·
      show l.length - (i + 1) < l.length - i
      omega
     · exact zAK ⟨rfl, rfl, rfl, (zAH (by omega)), trivial⟩ trivial trivial rfl
    ·
     have h4' := h4
     replace h4' := of_decide_eq_true h4'
     obtain ⟨e2, he2⟩ : ∃ e, l[(i - 1 : Nat)]? = some e := ⟨_, List.getElem?_eq_getElem (by (have hL := zAc l; omega))⟩
     have hlte2 := (List.getElem?_eq_some_iff.1 he2).1
     refine zAf zBj rfl (.r rfl (zAV rfl rfl rfl isAgg48 sizeOf48 (nle rfl)) (.run [1600] [] rfl (zAG rfl 1600 (X := []) en41 rfl (.val nod) (.cons (.agg (.cons (.bor .v) (.cons (.bor .v) (.cons (.bor .v) (.cons (.bor .v) .nil))))) .nil) (by decide) all_nil .nil (zDq e) rfl rfl (nle rfl)) (.r rfl (zAO (zA1 (b := zBV e) rfl rfl) (by exact congrArg (fun b => AV.p none (.v (.bool b))) h3)) (.m rfl rfl (.m rfl rfl (.r rfl (zAO (zBy rfl rfl rfl) (by exact congrArg (fun b => AV.p none (.v (.bool b))) h4)) (.m rfl rfl (.m rfl rfl (.m rfl rfl (.r rfl (zAO (zBw rfl rfl rfl (by omega)) (((show (AV.p none (.v (.int .i64 ((i:Int) - 1)))) = AV.p none (.v (.int .i64 ((i - 1 : Nat) : Int))) from zAH (by omega))))) (.r rfl (zAm rfl rfl rfl underlying28 sizeOf48 rfl (by omega) (zBW he2)) (.r rfl (zA3 rfl rfl underlying48 rfl sizeOf46 (by decide)) (.r rfl (zBA rfl rfl isAgg46 sizeOf46 (nle rfl)) (.r rfl (zAE rfl rfl underlying48 rfl sizeOf46 (by decide)) (.r rfl (zAV rfl rfl rfl isAgg46 sizeOf46 (nle rfl)) (.run [3000] [] rfl (zAG rfl 3000 (X := []) en42 rfl (.val nod) (.cons (.agg (.cons (.bor .v) (.cons (.bor .v) (.cons (.bor .v) .nil)))) (.cons (.agg (.cons (.bor .v) (.cons (.bor .v) (.cons (.bor .v) .nil)))) .nil)) (by decide) all_nil .nil (zHS e2 e) rfl rfl (nle rfl)) (.r rfl (zC8 rfl rfl rfl) (.r rfl (zAT (t := true) rfl rfl) (.r rfl (zAT (t := false) rfl rfl) .nil))))))))))))))))))) (by kernel_rfl) ?_
     refine zAW (t := decide (0 ≤ (cmpK e2 e))) rfl (fun h5 => ?_) (fun h5 => ?_)
     ·
      replace h5 := of_decide_eq_true h5
      refine zAC ?_
      refine zAU (s' := mk [] [] []) ?_ ?_
      · exact zAK trivial trivial trivial rfl
      refine zAA rfl (.a rfl rfl .nil) ?_
      refine zAL ?_
      exact ends [_] [] (.cons (.tmp (zAI (zF0 he (zGT (by omega) he2 h5)).symm)) .nil) (.cons (.one .v (.v _)) .nil) (by decide) trivial
     ·
      replace h5 := of_decide_eq_false h5
      refine zAJ ?_
      refine zAU (s' := mk [(0, .p none (.sl false 4 (pvE l))), (8, .p none (.sl false 4 (pvE l))), (9, .vi ((pvE l).length : Int)), (10, .vi (i:Int)), (19, .vi (i:Int)), (20, .vb true), (21, .vb true), (22, .p none (.sl false 4 (pvE l))), (23, .vi (i:Int)), (24, .vi ((i - 1 : Nat):Int)), (25, .fea none [PV.v (.string e2.user), PV.v (.int .i64 e2.seq), PV.v (.int .i64 e2.kind), PV.v (.string e2.value)]), (26, .fea none [PV.v (.string e2.user), PV.v (.int .i64 e2.seq), PV.v (.int .i64 e2.kind), PV.v (.string e2.value)]), (27, .agg [.vs e2.user, .vi e2.seq, .vi e2.kind]), (28, .ptr 4 0), (29, .agg [.vs e.user, .vi e.seq, .vi e.kind]), (30, .vi (cmpK e2 e)), (31, .vb (decide (0 ≤ (cmpK e2 e)))), (32, .vb (decide (0 ≤ (cmpK e2 e))))] [(4, [.vs e.user, .vi e.seq, .vi e.kind, .vs e.value])] []) ?_ ?_
      · exact zAK ⟨rfl, rfl, rfl, rfl, rfl, rfl, rfl, rfl, rfl, rfl, rfl, rfl, rfl, rfl, rfl, rfl, rfl, rfl, trivial⟩ ⟨rfl, trivial⟩ trivial rfl
      refine zAA rfl (.r rfl (zAX rfl rfl rfl (by omega)) (.m rfl rfl .nil)) ?_
      refine nxt (Q := fun _ _ => False) (z := i) (i + 1) ?_ ?_ ?_
      ·
       show (i + 1) ≤ l.length ∧ ∀ j e, j < (i + 1) → l[j]? = some e → zCb l j e = true
       exact ⟨by omega, zFr hG he (zFN h3' he2 h5)⟩
      ·
       show l.length - (i + 1) < l.length - i
       omega
      · exact zAK ⟨rfl, rfl, rfl, (zAH (by omega)), trivial⟩ trivial trivial rfl
   ·
    have h3' := h3
    replace h3' : (zBV e) = false := zA4 h3'
    refine zAf zBj rfl (.r rfl (zAV rfl rfl rfl isAgg48 sizeOf48 (nle rfl)) (.run [1600] [] rfl (zAG rfl 1600 (X := []) en41 rfl (.val nod) (.cons (.agg (.cons (.bor .v) (.cons (.bor .v) (.cons (.bor .v) (.cons (.bor .v) .nil))))) .nil) (by decide) all_nil .nil (zDq e) rfl rfl (nle rfl)) (.r rfl (zAO (zA1 (b := zBV e) rfl rfl) (by exact congrArg (fun b => AV.p none (.v (.bool b))) h3)) (.m rfl rfl (.not rfl (.not rfl (.not rfl (.not rfl (.not rfl (.not rfl (.not rfl (.not rfl (.not rfl (.not rfl (.not rfl (.not rfl (.not rfl (.not rfl (.r rfl (zAT (t := true) rfl rfl) .nil))))))))))))))))))) (by kernel_rfl) ?_
    refine zAW (t := true) rfl (fun _ => ?_) (fun h => nomatch h)
    refine zAC ?_
    refine zAU (s' := mk [] [] []) ?_ ?_
    · exact zAK trivial trivial trivial rfl
    refine zAA rfl (.a rfl rfl .nil) ?_
    refine zAL ?_
    exact ends [_] [] (.cons (.tmp (zAI (zF0 he (zGV h3')).symm)) .nil) (.cons (.one .v (.v _)) .nil) (by decide) trivial
  ·
   replace h2 := of_decide_eq_false h2
   refine zAk ?_
   refine zAC (zAA rfl (.a rfl rfl .nil) ?_)
   refine zAL ?_
   exact ends [_] [] (.cons (.tmp (zAI (zH0 (by omega) (by omega) hG).symm)) .nil) (.cons (.one .v (.v _)) .nil) (by decide) trivial
theorem zBe (l : List Ent) (hl : l.length ≤ 2000000) : Con Tryd.prog 11 [.one (PV.sl false 4 (pvE l))] [] [.one (.v (.bool (zBD l)))] := by
 refine zAP func11 rfl rfl rfl rfl ?_
 have hle := zAc l
 refine zAC (zAA rfl (.a rfl rfl .nil) ?_)
 refine zAC ?_
 refine zAC (zAA rfl (.m rfl rfl (.r rfl (zAa rfl rfl underlying28) (.r rfl (zBy rfl rfl rfl) .nil))) ?_)
 refine zAW (t := decide (400 < ((pvE l).length : Int))) rfl (fun h1 => ?_) (fun h1 => ?_)
 ·
  replace h1 := of_decide_eq_true h1
  refine zAC (zAA rfl (.a rfl rfl .nil) ?_)
  refine zAL ?_
  exact ends [_] [] (.cons (.tmp (zAI (zGf (by omega)).symm)) .nil) (.cons (.one .v (.v _)) .nil) (by decide) trivial
 ·
  replace h1 := of_decide_eq_false h1
  refine zAJ ?_
  refine zAC ?_
  refine zAC (zAA rfl (.a rfl rfl .nil) ?_)
  refine zAM ?_
  refine zAj (σ := Nat) (fun i => mk [(0, .p none (.sl false 4 (pvE l))), (3, .vi (i:Int))] [] []) (fun i => i ≤ l.length ∧ ∀ j e, j < i → l[j]? = some e → zCb l j e = true) (fun i => l.length - i) 0 ⟨Nat.zero_le _, fun _ _ h => absurd h (Nat.not_lt_zero _)⟩ (zAK ⟨rfl, (zAH (by omega)), trivial⟩ trivial trivial rfl) ?_
  rintro i hG
  replace hG : i ≤ l.length ∧ ∀ j e, j < i → l[j]? = some e → zCb l j e = true := hG
  obtain ⟨hi, hG⟩ := hG
  refine zAC ?_
  refine zAC (zAA rfl (.m rfl rfl (.m rfl rfl (.r rfl (zAa rfl rfl underlying28) (.r rfl (zAu rfl rfl rfl) .nil)))) ?_)
  refine zAW (t := decide ((i:Int) < ((pvE l).length : Int))) rfl (fun h2 => ?_) (fun h2 => ?_)
  ·
   replace h2 := of_decide_eq_true h2
   refine zAJ ?_
   refine zAC ?_
   refine zAM ?_
   refine zAC ?_
   refine zAU (s' := mk [(0, .p none (.sl false 4 (pvE l))), (3, .vi (i:Int))] [] []) ?_ ?_
   · exact zAK ⟨rfl, rfl, trivial⟩ trivial trivial rfl
   obtain ⟨e, he⟩ : ∃ e, l[i]? = some e := ⟨_, List.getElem?_eq_getElem (by (have hL := zAc l; omega))⟩
   have hlte := (List.getElem?_eq_some_iff.1 he).1
   rcases bfc (!(zBV e)) with h3 | h3
   ·
    have h3' := h3
    replace h3' : (zBV e) = true := zA5 h3'
    rcases bfc (decide (0 < (i:Int))) with h4 | h4
    ·
     have h4' := h4
     replace h4' := of_decide_eq_false h4'
     refine zAf zBj rfl (.m rfl rfl (.m rfl rfl (.r rfl (zAm rfl rfl rfl underlying28 sizeOf48 rfl (by omega) (zBW he)) (.r rfl (zBA rfl rfl isAgg48 sizeOf48 (nle rfl)) (.run [1700] [] rfl (zAG rfl 1700 (X := []) en29 rfl (.val nod) (.cons (.agg (.cons (.bor .v) (.cons (.bor .v) (.cons (.bor .v) (.cons (.bor .v) .nil))))) .nil) (by decide) all_nil .nil (zCY e) rfl rfl (nle rfl)) (.r rfl (zAO (zA1 (b := zBV e) rfl rfl) (by exact congrArg (fun b => AV.p none (.v (.bool b))) h3)) (.m rfl rfl (.m rfl rfl (.r rfl (zAO (zBy rfl rfl rfl) (by exact congrArg (fun b => AV.p none (.v (.bool b))) h4)) (.m rfl rfl (.not rfl (.not rfl (.not rfl (.not rfl (.not rfl (.not rfl (.not rfl (.not rfl (.not rfl (.not rfl (.not rfl (.not rfl (.not rfl (.r rfl (zAT (t := false) rfl rfl) (.r rfl (zAT (t := false) rfl rfl) .nil))))))))))))))))))))))))) (by kernel_rfl) ?_
     refine zAW (t := false) rfl (fun h => nomatch h) (fun _ => ?_)
     refine zAJ ?_
     refine zAU (s' := mk [(0, .p none (.sl false 4 (pvE l))), (3, .vi (i:Int)), (20, .vi (i:Int)), (21, .vb false), (22, .vb false), (36, .vb false)] [] []) ?_ ?_
     · exact zAK ⟨rfl, rfl, rfl, rfl, rfl, rfl, trivial⟩ trivial trivial rfl
     refine zAA rfl (.m rfl rfl (.r rfl (zAX rfl rfl rfl (by omega)) (.a rfl rfl .nil))) ?_
     refine nxt (Q := fun _ _ => False) (z := i) (i + 1) ?_ ?_ ?_
     ·
      show (i + 1) ≤ l.length ∧ ∀ j e, j < (i + 1) → l[j]? = some e → zCb l j e = true
      exact ⟨by omega, zFr hG he (zEm h3' (by omega))⟩
     ·
      show l.length - (i + 1) < l.length - i
      omega
     · exact zAK ⟨rfl, (zAH (by omega)), trivial⟩ trivial trivial rfl
    ·
     have h4' := h4
     replace h4' := of_decide_eq_true h4'
     obtain ⟨e2, he2⟩ : ∃ e, l[(i - 1 : Nat)]? = some e := ⟨_, List.getElem?_eq_getElem (by (have hL := zAc l; omega))⟩
     have hlte2 := (List.getElem?_eq_some_iff.1 he2).1
     refine zAf zBj rfl (.m rfl rfl (.m rfl rfl (.r rfl (zAm rfl rfl rfl underlying28 sizeOf48 rfl (by omega) (zBW he)) (.r rfl (zBA rfl rfl isAgg48 sizeOf48 (nle rfl)) (.run [1700] [] rfl (zAG rfl 1700 (X := []) en29 rfl (.val nod) (.cons (.agg (.cons (.bor .v) (.cons (.bor .v) (.cons (.bor .v) (.cons (.bor .v) .nil))))) .nil) (by decide) all_nil .nil (zCY e) rfl rfl (nle rfl)) (.r rfl (zAO (zA1 (b := zBV e) rfl rfl) (by exact congrArg (fun b => AV.p none (.v (.bool b))) h3)) (.m rfl rfl (.m rfl rfl (.r rfl (zAO (zBy rfl rfl rfl) (by exact congrArg (fun b => AV.p none (.v (.bool b))) h4)) (.m rfl rfl (.m rfl rfl (.m rfl rfl (.r rfl (zAO (zBw rfl rfl rfl (by omega)) (((show (AV.p none (.v (.int .i64 ((i:Int) - 1)))) = AV.p none (.v (.int .i64 ((i - 1 : Nat) : Int))) from zAH (by omega))))) (.r rfl (zAm rfl rfl rfl underlying28 sizeOf48 rfl (by omega) (zBW he2)) (.r rfl (zA3 rfl rfl underlying48 rfl sizeOf46 (by decide)) (.r rfl (zBA rfl rfl isAgg46 sizeOf46 (nle rfl)) (.m rfl rfl (.m rfl rfl (.r rfl (zAm rfl rfl rfl underlying28 sizeOf48 rfl (by omega) (zBW he)) (.r rfl (zA3 rfl rfl underlying48 rfl sizeOf46 (by decide)) (.r rfl (zBA rfl rfl isAgg46 sizeOf46 (nle rfl)) (.run [3400] [] rfl (zAG rfl 3400 (X := []) en30 rfl (.val nod) (.cons (.agg (.cons (.bor .v) (.cons (.bor .v) (.cons (.bor .v) .nil)))) (.cons (.agg (.cons (.bor .v) (.cons (.bor .v) (.cons (.bor .v) .nil)))) .nil)) (by decide) all_nil .nil (zE4 e2 e) rfl rfl (nle rfl)) (.r rfl (zC8 rfl rfl rfl) (.r rfl (zAT (t := true) rfl rfl) (.r rfl (zAT (t := false) rfl rfl) .nil))))))))))))))))))))))))) (by kernel_rfl) ?_
     refine zAW (t := decide (0 ≤ (kcmp e2 e))) rfl (fun h5 => ?_) (fun h5 => ?_)
     ·
      replace h5 := of_decide_eq_true h5
      refine zAC ?_
      refine zAU (s' := mk [] [] []) ?_ ?_
      · exact zAK trivial trivial trivial rfl
      refine zAA rfl (.a rfl rfl .nil) ?_
      refine zAL ?_
      exact ends [_] [] (.cons (.tmp (zAI (zF0 he (zGT (by omega) he2 (by rw [← kc_ok hG (by omega) he2 h3']; exact h5))).symm)) .nil) (.cons (.one .v (.v _)) .nil) (by decide) trivial
     ·
      replace h5 := of_decide_eq_false h5
      refine zAJ ?_
      refine zAU (s' := mk [(0, .p none (.sl false 4 (pvE l))), (3, .vi (i:Int)), (20, .vi (i:Int)), (21, .vb true), (22, .vb true), (23, .p none (.sl false 4 (pvE l))), (24, .vi (i:Int)), (25, .vi ((i - 1 : Nat):Int)), (26, .fea none [PV.v (.string e2.user), PV.v (.int .i64 e2.seq), PV.v (.int .i64 e2.kind), PV.v (.string e2.value)]), (27, .fea none [PV.v (.string e2.user), PV.v (.int .i64 e2.seq), PV.v (.int .i64 e2.kind), PV.v (.string e2.value)]), (28, .agg [.vs e2.user, .vi e2.seq, .vi e2.kind]), (29, .p none (.sl false 4 (pvE l))), (30, .vi (i:Int)), (31, .fea none [PV.v (.string e.user), PV.v (.int .i64 e.seq), PV.v (.int .i64 e.kind), PV.v (.string e.value)]), (32, .fea none [PV.v (.string e.user), PV.v (.int .i64 e.seq), PV.v (.int .i64 e.kind), PV.v (.string e.value)]), (33, .agg [.vs e.user, .vi e.seq, .vi e.kind]), (34, .vi (kcmp e2 e)), (35, .vb (decide (0 ≤ (kcmp e2 e)))), (36, .vb (decide (0 ≤ (kcmp e2 e))))] [] []) ?_ ?_
      · exact zAK ⟨rfl, rfl, rfl, rfl, rfl, rfl, rfl, rfl, rfl, rfl, rfl, rfl, rfl, rfl, rfl, rfl, rfl, rfl, rfl, trivial⟩ trivial trivial rfl
      refine zAA rfl (.m rfl rfl (.r rfl (zAX rfl rfl rfl (by omega)) (.a rfl rfl .nil))) ?_
      refine nxt (Q := fun _ _ => False) (z := i) (i + 1) ?_ ?_ ?_
      ·
       show (i + 1) ≤ l.length ∧ ∀ j e, j < (i + 1) → l[j]? = some e → zCb l j e = true
       exact ⟨by omega, zFr hG he (zFN h3' he2 (by rw [← kc_ok hG (by omega) he2 h3']; exact h5))⟩
      ·
       show l.length - (i + 1) < l.length - i
       omega
      · exact zAK ⟨rfl, (zAH (by omega)), trivial⟩ trivial trivial rfl
   ·
    have h3' := h3
    replace h3' : (zBV e) = false := zA4 h3'
    refine zAf zBj rfl (.m rfl rfl (.m rfl rfl (.r rfl (zAm rfl rfl rfl underlying28 sizeOf48 rfl (by omega) (zBW he)) (.r rfl (zBA rfl rfl isAgg48 sizeOf48 (nle rfl)) (.run [1700] [] rfl (zAG rfl 1700 (X := []) en29 rfl (.val nod) (.cons (.agg (.cons (.bor .v) (.cons (.bor .v) (.cons (.bor .v) (.cons (.bor .v) .nil))))) .nil) (by decide) all_nil .nil (zCY e) rfl rfl (nle rfl)) (.r rfl (zAO (zA1 (b := zBV e) rfl rfl) (by exact congrArg (fun b => AV.p none (.v (.bool b))) h3)) (.m rfl rfl (.not rfl (.not rfl (.not rfl (.not rfl (.not rfl (.not rfl (.not rfl (.not rfl (.not rfl (.not rfl (.not rfl (.not rfl (.not rfl (.not rfl (.not rfl (.not rfl (.not rfl (.r rfl (zAT (t := true) rfl rfl) .nil))))))))))))))))))))))))) (by kernel_rfl) ?_
    refine zAW (t := true) rfl (fun _ => ?_) (fun h => nomatch h)
    refine zAC ?_
    refine zAU (s' := mk [] [] []) ?_ ?_
    · exact zAK trivial trivial trivial rfl
    refine zAA rfl (.a rfl rfl .nil) ?_
    refine zAL ?_
    exact ends [_] [] (.cons (.tmp (zAI (zF0 he (zGV h3')).symm)) .nil) (.cons (.one .v (.v _)) .nil) (by decide) trivial
  ·
   replace h2 := of_decide_eq_false h2
   refine zAk ?_
   refine zAC (zAA rfl (.a rfl rfl .nil) ?_)
   refine zAL ?_
   exact ends [_] [] (.cons (.tmp (zAI (zH0 (by omega) (by omega) hG).symm)) .nil) (.cons (.one .v (.v _)) .nil) (by decide) trivial
end Go.Rl
namespace Go.Rl
open Go.Proofs
end Go.Rl
namespace Go.Rl
open Go.Proofs
end Go.Rl
namespace Go.Rl
open Go.Proofs Go.Proofs.Tryd
set_option maxRecDepth 1000000
set_option maxHeartbeats 2000000
theorem inf46 : (Tryd.prog.info? 46).map (fun i => (i.zero, i.size, i.bytes)) = some (some (.agg #[.string ⟨#[]⟩, .int .i64 0, .int .i64 0]), 3, 32) := by kernel_rfl
theorem en54 : En Tryd.prog 54 := zAn func54 (by decide) rfl
theorem en27 : En Tryd.prog 27 := zAn func27 (by decide) rfl
theorem en40 : En Tryd.prog 40 := zAn func40 (by decide) rfl
theorem zJT (a b : Ent) : Con Tryd.prog 54 [.agg [PV.v (.string a.user), PV.v (.int .i64 a.seq), PV.v (.int .i64 a.kind)], .agg [PV.v (.string b.user), PV.v (.int .i64 b.seq), PV.v (.int .i64 b.kind)]] [] [.one (.v (.bool (decide (a.user = b.user ∧ a.seq = b.seq ∧ a.kind = b.kind))))] := by
 refine zAP func54 rfl rfl rfl rfl ?_
 refine zAC (zAA rfl (.run [] [2] rfl (zBa rfl 2 rfl rfl (by decide) rfl (by decide)) (.run [] [3] rfl (zBa rfl 3 rfl rfl (by decide) rfl (by decide)) (.a rfl rfl .nil))) ?_)
 refine zAC ?_
 refine zAC (zAA rfl (.r rfl (zAE rfl rfl underlying46 rfl sizeOf9 (by decide)) (.r rfl (zAF rfl rfl rfl isAgg9 rfl) (.r rfl (zAE rfl rfl underlying46 rfl sizeOf9 (by decide)) (.r rfl (zAF rfl rfl rfl isAgg9 rfl) (.r rfl (zD5 rfl rfl rfl) .nil))))) ?_)
 refine zAW (t := (!(decide (a.user = b.user)))) rfl (fun h1 => ?_) (fun h1 => ?_)
 ·
  replace h1 : ¬ (a.user = b.user) := of_decide_eq_false (zA4 h1)
  refine zAC (zAA rfl (.a rfl rfl .nil) ?_)
  refine zAL ?_
  exact ends [_] [] (.cons (.tmp (zAI (by simp [h1]))) .nil) (.cons (.one .v (.v _)) .nil) (by decide) trivial
 ·
  replace h1 : a.user = b.user := of_decide_eq_true (zA5 h1)
  refine zAJ ?_
  refine zAC ?_
  refine zAC (zAA rfl (.r rfl (zAE rfl rfl underlying46 rfl sizeOf2 (by decide)) (.r rfl (zAF rfl rfl rfl isAgg2 rfl) (.r rfl (zAE rfl rfl underlying46 rfl sizeOf2 (by decide)) (.r rfl (zAF rfl rfl rfl isAgg2 rfl) (.r rfl (zCH rfl rfl rfl) .nil))))) ?_)
  refine zAW (t := (!(decide (a.seq = b.seq)))) rfl (fun h2 => ?_) (fun h2 => ?_)
  ·
   replace h2 : ¬ (a.seq = b.seq) := of_decide_eq_false (zA4 h2)
   refine zAC (zAA rfl (.a rfl rfl .nil) ?_)
   refine zAL ?_
   exact ends [_] [] (.cons (.tmp (zAI (by simp [h1, h2]))) .nil) (.cons (.one .v (.v _)) .nil) (by decide) trivial
  ·
   replace h2 : a.seq = b.seq := of_decide_eq_true (zA5 h2)
   refine zAJ ?_
   refine zAC ?_
   refine zAC ?_
   refine zAU (s' := mk [(2, .ptr 2 0), (3, .ptr 3 0)] [(2, [.vs a.user, .vi a.seq, .vi a.kind]), (3, [.vs b.user, .vi b.seq, .vi b.kind])] []) ?_ ?_
   · exact zAK ⟨rfl, rfl, trivial⟩ ⟨rfl, rfl, trivial⟩ trivial rfl
   refine zAA rfl (.r rfl (zAE rfl rfl underlying46 rfl sizeOf2 (by decide)) (.r rfl (zAF rfl rfl rfl isAgg2 rfl) (.r rfl (zAE rfl rfl underlying46 rfl sizeOf2 (by decide)) (.r rfl (zAF rfl rfl rfl isAgg2 rfl) (.r rfl (zCH rfl rfl rfl) .nil))))) ?_
   refine zAW (t := (!(decide (a.kind = b.kind)))) rfl (fun h3 => ?_) (fun h3 => ?_)
   ·
    replace h3 : ¬ (a.kind = b.kind) := of_decide_eq_false (zA4 h3)
    refine zAC (zAA rfl (.a rfl rfl .nil) ?_)
    refine zAL ?_
    exact ends [_] [] (.cons (.tmp (zAI (by simp [h1, h2, h3]))) .nil) (.cons (.one .v (.v _)) .nil) (by decide) trivial
   ·
    replace h3 : a.kind = b.kind := of_decide_eq_true (zA5 h3)
    refine zAJ ?_
    refine zAC (zAA rfl (.a rfl rfl .nil) ?_)
    refine zAL ?_
    exact ends [_] [] (.cons (.tmp (zAI (by simp [h1, h2, h3]))) .nil) (.cons (.one .v (.v _)) .nil) (by decide) trivial
theorem zHO (a b : Ent) : Con Tryd.prog 27 [.agg [PV.v (.string a.user), PV.v (.int .i64 a.seq), PV.v (.int .i64 a.kind), PV.v (.string a.value)], .agg [PV.v (.string b.user), PV.v (.int .i64 b.seq), PV.v (.int .i64 b.kind), PV.v (.string b.value)]] [] [.one (.v (.bool (decide (a = b))))] := by
 refine zAP func27 rfl rfl rfl rfl ?_
 refine zAC (zAA rfl (.run [] [2] rfl (zBa rfl 2 rfl rfl (by decide) rfl (by decide)) (.run [] [3] rfl (zBa rfl 3 rfl rfl (by decide) rfl (by decide)) (.a rfl rfl .nil))) ?_)
 refine zAC ?_
 refine zAC (zAA rfl (.r rfl (zAE rfl rfl underlying48 rfl sizeOf46 (by decide)) (.r rfl (zAV rfl rfl rfl isAgg46 sizeOf46 (nle rfl)) (.r rfl (zAE rfl rfl underlying48 rfl sizeOf46 (by decide)) (.r rfl (zAV rfl rfl rfl isAgg46 sizeOf46 (nle rfl)) (.run [900] [] rfl (zAG rfl 900 (X := []) en54 rfl (.val nod) (.cons (.agg (.cons (.bor .v) (.cons (.bor .v) (.cons (.bor .v) .nil)))) (.cons (.agg (.cons (.bor .v) (.cons (.bor .v) (.cons (.bor .v) .nil)))) .nil)) (by decide) all_nil .nil (zJT a b) rfl rfl (nle rfl)) (.r rfl (zA1 (b := decide (a.user = b.user ∧ a.seq = b.seq ∧ a.kind = b.kind)) rfl rfl) .nil)))))) ?_)
 refine zAW (t := (!(decide (a.user = b.user ∧ a.seq = b.seq ∧ a.kind = b.kind)))) rfl (fun h1 => ?_) (fun h1 => ?_)
 ·
  replace h1 : ¬ (a.user = b.user ∧ a.seq = b.seq ∧ a.kind = b.kind) := of_decide_eq_false (zA4 h1)
  refine zAC (zAA rfl (.a rfl rfl .nil) ?_)
  refine zAL ?_
  exact ends [_] [] (.cons (.tmp (zAI (decide_eq_false (fun h => h1 (by subst h; simp))).symm)) .nil) (.cons (.one .v (.v _)) .nil) (by decide) trivial
 ·
  replace h1 : a.user = b.user ∧ a.seq = b.seq ∧ a.kind = b.kind := of_decide_eq_true (zA5 h1)
  refine zAJ ?_
  refine zAC ?_
  refine zAC (zAA rfl (.r rfl (zAE rfl rfl underlying48 rfl sizeOf9 (by decide)) (.r rfl (zAF rfl rfl rfl isAgg9 rfl) (.r rfl (zAE rfl rfl underlying48 rfl sizeOf9 (by decide)) (.r rfl (zAF rfl rfl rfl isAgg9 rfl) (.r rfl (zD5 rfl rfl rfl) .nil))))) ?_)
  refine zAW (t := (!(decide (a.value = b.value)))) rfl (fun h2 => ?_) (fun h2 => ?_)
  ·
   replace h2 : ¬ (a.value = b.value) := of_decide_eq_false (zA4 h2)
   refine zAC (zAA rfl (.a rfl rfl .nil) ?_)
   refine zAL ?_
   exact ends [_] [] (.cons (.tmp (zAI (decide_eq_false (fun h => h2 (by subst h; simp))).symm)) .nil) (.cons (.one .v (.v _)) .nil) (by decide) trivial
  ·
   replace h2 : a.value = b.value := of_decide_eq_true (zA5 h2)
   refine zAJ ?_
   refine zAC (zAA rfl (.a rfl rfl .nil) ?_)
   refine zAL ?_
   exact ends [_] [] (.cons (.tmp (zAI (decide_eq_true (by cases a; cases b; simp_all)).symm)) .nil) (.cons (.one .v (.v _)) .nil) (by decide) trivial
theorem zGe (a b : List Ent) (hl : a.length ≤ 1000000000) : Con Tryd.prog 9 [.one (PV.sl false 4 (pvE a)), .one (PV.sl false 4 (pvE b))] [] [.one (.v (.bool (decide (a = b))))] := by
 refine zAP func9 rfl rfl rfl rfl ?_
 have hla := zAc a
 have hlb := zAc b
 refine zAC (zAA rfl (.a rfl rfl .nil) ?_)
 refine zAC ?_
 refine zAC (zAA rfl (.m rfl rfl (.r rfl (zAa rfl rfl underlying28) (.m rfl rfl (.r rfl (zAa rfl rfl underlying28) (.r rfl (zCH rfl rfl rfl) .nil))))) ?_)
 refine zAW (t := (!(decide (((pvE a).length : Int) = ((pvE b).length : Int))))) rfl (fun h1 => ?_) (fun h1 => ?_)
 ·
  replace h1 : ¬ (((pvE a).length : Int) = ((pvE b).length : Int)) := of_decide_eq_false (zA4 h1)
  refine zAC (zAA rfl (.a rfl rfl .nil) ?_)
  refine zAL ?_
  exact ends [_] [] (.cons (.tmp (zAI (decide_eq_false (fun e => by subst e; omega)).symm)) .nil) (.cons (.one .v (.v _)) .nil) (by decide) trivial
 ·
  replace h1 : ((pvE a).length : Int) = ((pvE b).length : Int) := of_decide_eq_true (zA5 h1)
  refine zAJ ?_
  refine zAC ?_
  refine zAC (zAA rfl (.a rfl rfl .nil) ?_)
  refine zAM ?_
  refine zAj (σ := Nat) (fun i => mk [(0, .p none (.sl false 4 (pvE a))), (1, .p none (.sl false 4 (pvE b))), (5, .vi (i:Int))] [] []) (fun i => i ≤ a.length ∧ ∀ j, j < i → a[j]? = b[j]?) (fun i => a.length - i) 0 ⟨Nat.zero_le _, fun j hj => absurd hj (Nat.not_lt_zero j)⟩ (zAK ⟨rfl, rfl, (zAH (by omega)), trivial⟩ trivial trivial rfl) ?_
  rintro i hG
  replace hG : i ≤ a.length ∧ ∀ j, j < i → a[j]? = b[j]? := hG
  obtain ⟨hi, hG⟩ := hG
  refine zAC ?_
  refine zAC (zAA rfl (.m rfl rfl (.m rfl rfl (.r rfl (zAa rfl rfl underlying28) (.r rfl (zAu rfl rfl rfl) .nil)))) ?_)
  refine zAW (t := decide ((i:Int) < ((pvE a).length : Int))) rfl (fun h2 => ?_) (fun h2 => ?_)
  ·
   replace h2 := of_decide_eq_true h2
   refine zAJ ?_
   refine zAC ?_
   refine zAM ?_
   refine zAC ?_
   obtain ⟨e, he⟩ : ∃ e, a[i]? = some e := ⟨_, List.getElem?_eq_getElem (by (have hL := zAc a; omega))⟩
   have hlte := (List.getElem?_eq_some_iff.1 he).1
   obtain ⟨e2, he2⟩ : ∃ e, b[i]? = some e := ⟨_, List.getElem?_eq_getElem (by (have hL := zAc b; omega))⟩
   have hlte2 := (List.getElem?_eq_some_iff.1 he2).1
   refine zAf zBj rfl (.m rfl rfl (.m rfl rfl (.r rfl (zAm rfl rfl rfl underlying28 sizeOf48 rfl (by omega) (zBW he)) (.r rfl (zBA rfl rfl isAgg48 sizeOf48 (nle rfl)) (.m rfl rfl (.m rfl rfl (.r rfl (zAm rfl rfl rfl underlying28 sizeOf48 rfl (by omega) (zBW he2)) (.r rfl (zBA rfl rfl isAgg48 sizeOf48 (nle rfl)) (.run [2500] [] rfl (zAG rfl 2500 (X := []) en27 rfl (.val nod) (.cons (.agg (.cons (.bor .v) (.cons (.bor .v) (.cons (.bor .v) (.cons (.bor .v) .nil))))) (.cons (.agg (.cons (.bor .v) (.cons (.bor .v) (.cons (.bor .v) (.cons (.bor .v) .nil))))) .nil)) (by decide) all_nil .nil (zHO e e2) rfl rfl (nle rfl)) (.r rfl (zA1 (b := decide (e = e2)) rfl rfl) .nil)))))))))) (by kernel_rfl) ?_
   refine zAW (t := (!(decide (e = e2)))) rfl (fun h3 => ?_) (fun h3 => ?_)
   ·
    replace h3 : ¬ (e = e2) := of_decide_eq_false (zA4 h3)
    refine zAC (zAA rfl (.a rfl rfl .nil) ?_)
    refine zAL ?_
    exact ends [_] [] (.cons (.tmp (zAI (decide_eq_false (zKO he he2 h3)).symm)) .nil) (.cons (.one .v (.v _)) .nil) (by decide) trivial
   ·
    replace h3 : e = e2 := of_decide_eq_true (zA5 h3)
    refine zAJ ?_
    refine zAU (s' := mk [(0, .p none (.sl false 4 (pvE a))), (1, .p none (.sl false 4 (pvE b))), (5, .vi (i:Int))] [] []) ?_ ?_
    · exact zAK ⟨rfl, rfl, rfl, trivial⟩ trivial trivial rfl
    refine zAA rfl (.m rfl rfl (.r rfl (zAX rfl rfl rfl (by omega)) (.a rfl rfl .nil))) ?_
    refine nxt (Q := fun _ _ => False) (z := i) (i + 1) ?_ ?_ ?_
    ·
     show (i + 1) ≤ a.length ∧ ∀ j, j < (i + 1) → a[j]? = b[j]?
     exact ⟨by omega, zIQ hG he he2 h3⟩
    ·
     show a.length - (i + 1) < a.length - i
     omega
    · exact zAK ⟨rfl, rfl, (zAH (by omega)), trivial⟩ trivial trivial rfl
  ·
   replace h2 := of_decide_eq_false h2
   refine zAk ?_
   refine zAC (zAA rfl (.a rfl rfl .nil) ?_)
   refine zAL ?_
   exact ends [_] [] (.cons (.tmp (zAI (decide_eq_true (zJN (by omega) (by omega) hG)).symm)) .nil) (.cons (.one .v (.v _)) .nil) (by decide) trivial
theorem zIf (a : Ent) : Con Tryd.prog 40 [.agg [PV.v (.string a.user), PV.v (.int .i64 a.seq), PV.v (.int .i64 a.kind)]] [] [.agg [.v (.string a.user), .v (.int .i64 a.seq), .v (.int .i64 a.kind)]] := by
 refine zAP func40 rfl rfl rfl rfl ?_
 refine zAC (zAA rfl (.run [] [1] rfl (zBa rfl 1 rfl rfl (by decide) rfl (by decide)) (.run [] [2] rfl (zA7 rfl 2 inf46 rfl (by decide) rfl (by decide)) .nil)) ?_)
 refine zAC (zAA rfl (.run [] [3] rfl (zA7 rfl 3 inf46 rfl (by decide) rfl (by decide)) .nil) ?_)
 refine zAC (zAA rfl (.r rfl (zAE rfl rfl underlying36 rfl sizeOf9 (by decide)) (.r rfl (zAF rfl rfl rfl isAgg9 rfl) (.r rfl (zAE rfl rfl underlying46 rfl sizeOf9 (by decide)) (.r rfl (zAS rfl rfl rfl rfl rfl sizeOf9 rfl (nle rfl)) .nil)))) ?_)
 refine zAC (zAA rfl (.r rfl (zAE rfl rfl underlying36 rfl sizeOf2 (by decide)) (.r rfl (zAF rfl rfl rfl isAgg2 rfl) (.r rfl (zAE rfl rfl underlying46 rfl sizeOf2 (by decide)) (.r rfl (zAS rfl rfl rfl rfl rfl sizeOf2 rfl (nle rfl)) .nil)))) ?_)
 refine zAC (zAA rfl (.r rfl (zAE rfl rfl underlying36 rfl sizeOf2 (by decide)) (.r rfl (zAF rfl rfl rfl isAgg2 rfl) (.r rfl (zAE rfl rfl underlying46 rfl sizeOf2 (by decide)) (.r rfl (zAS rfl rfl rfl rfl rfl sizeOf2 rfl (nle rfl)) .nil)))) ?_)
 refine zAC ?_
 refine zAU (s' := mk [(2, .ptr 2 0), (3, .ptr 3 0)] [(2, [.vs ⟨#[]⟩, .vi 0, .vi 0]), (3, [.vs a.user, .vi a.seq, .vi a.kind])] []) ?_ ?_
 · exact zAK ⟨rfl, rfl, trivial⟩ ⟨rfl, rfl, trivial⟩ trivial rfl
 refine zAA rfl (.r rfl (zAV rfl rfl rfl isAgg46 sizeOf46 (nle rfl)) (.r rfl (zAS rfl rfl rfl rfl rfl sizeOf46 rfl (nle rfl)) .nil)) ?_
 refine zAL ?_
 exact ends [_] [] (.cons (.cell rfl rfl isAgg46 sizeOf46 (nle rfl)) .nil) (.cons (.agg (.cons .v (.cons .v (.cons .v .nil))) (zAb (.v _) (zAb (.v _) (zAb (.v _) zCF)))) .nil) (by decide) trivial
theorem zG0 (a : Ent) : Con Tryd.prog 23 [.agg [PV.v (.string a.user), PV.v (.int .i64 a.seq), PV.v (.int .i64 a.kind), PV.v (.string a.value)]] [] [.agg [.v (.string a.user), .v (.int .i64 a.seq), .v (.int .i64 a.kind), .v (.string a.value)]] := by
 refine zAP func23 rfl rfl rfl rfl ?_
 refine zAC (zAA rfl (.run [] [1] rfl (zBa rfl 1 rfl rfl (by decide) rfl (by decide)) (.run [] [2] rfl (zA7 rfl 2 zE5 rfl (by decide) rfl (by decide)) .nil)) ?_)
 refine zAC (zAA rfl (.run [] [3] rfl (zA7 rfl 3 zE5 rfl (by decide) rfl (by decide)) .nil) ?_)
 refine zAC (zAA rfl (.r rfl (zAE rfl rfl underlying38 rfl sizeOf36 (by decide)) (.r rfl (zAV rfl rfl rfl isAgg36 sizeOf36 (nle rfl)) (.run [600, 601, 602] [] rfl (zAG rfl 600 (X := []) en40 rfl (.val nod) (.cons (.agg (.cons (.bor .v) (.cons (.bor .v) (.cons (.bor .v) .nil)))) .nil) (by decide) all_nil .nil (zIf a) rfl rfl (nle rfl)) (.r rfl (zAE rfl rfl underlying48 rfl sizeOf46 (by decide)) (.r rfl (zAS rfl rfl rfl rfl rfl sizeOf46 rfl (nle rfl)) .nil))))) ?_)
 refine zAC (zAA rfl (.r rfl (zAE rfl rfl underlying38 rfl sizeOf9 (by decide)) (.r rfl (zAF rfl rfl rfl isAgg9 rfl) (.r rfl (zAE rfl rfl underlying48 rfl sizeOf9 (by decide)) (.r rfl (zAS rfl rfl rfl rfl rfl sizeOf9 rfl (nle rfl)) .nil)))) ?_)
 refine zAC (zAA rfl (.r rfl (zAV rfl rfl rfl isAgg48 sizeOf48 (nle rfl)) (.r rfl (zAS rfl rfl rfl rfl rfl sizeOf48 rfl (nle rfl)) .nil)) ?_)
 refine zAL ?_
 exact ends [_] [] (.cons (.cell rfl rfl isAgg48 sizeOf48 (nle rfl)) .nil) (.cons (.agg (.cons .v (.cons .v (.cons .v (.cons .v .nil)))) (zAb (.v _) (zAb (.v _) (zAb (.v _) (zAb (.v _) zCF))))) .nil) (by decide) trivial
end Go.Rl
namespace Go.Rl
open Go.Proofs Go.Proofs.Tryd
set_option maxRecDepth 1000000
set_option maxHeartbeats 2000000
theorem en23 : En Tryd.prog 23 := zAn func23 (by decide) rfl
theorem zDA (l : List Ent) (hl : l.length ≤ 2000000) : Con Tryd.prog 6 [.one (PV.sl false 4 (pvE l))] [] [.one (.sl true 4 (pvE l))] := by
 refine zAP func6 rfl rfl rfl rfl ?_
 have hle := zAc l
 refine zAC (zAA rfl (.a rfl rfl .nil) ?_)
 refine zAC (zAA rfl (.m rfl rfl (.r rfl (zAa rfl rfl underlying22) (.run [700] [] rfl (zCl rfl 700 (l := (pvE l).length) (c := (pvE l).length) rfl rfl underlying28 zE5 rfl rfl (by decide) rfl (by decide) (Nat.le_refl _) (by omega) (by simp only [maxLen]; omega)) (.a rfl rfl .nil)))) ?_)
 refine zAC ?_
 refine zAC (zAA rfl (.a rfl rfl .nil) ?_)
 refine zAM ?_
 refine zAj (σ := Nat) (fun i => mk [(0, .p none (.sl false 4 (pvE l))), (3, .sl 700 0 ((pvE l).length)), (4, .vi (i:Int))] [] [(700, 4, pvE (l.take i) ++ List.replicate (l.length - i) [PV.v (.string ⟨#[]⟩), PV.v (.int .i64 0), PV.v (.int .i64 0), PV.v (.string ⟨#[]⟩)])]) (fun i => i ≤ l.length) (fun i => l.length - i) 0 (by simp) (zAK ⟨rfl, rfl, (zAH (by omega)), trivial⟩ trivial ⟨(congrArg (fun x => some (4, x)) (by exact zKJ)), trivial⟩ rfl) ?_
 rintro i hG
 replace hG : i ≤ l.length := hG
 refine zAC ?_
 refine zAC (zAA rfl (.m rfl rfl (.m rfl rfl (.r rfl (zAa rfl rfl underlying22) (.r rfl (zAu rfl rfl rfl) .nil)))) ?_)
 refine zAW (t := decide ((i:Int) < ((pvE l).length : Int))) rfl (fun h1 => ?_) (fun h1 => ?_)
 ·
  replace h1 := of_decide_eq_true h1
  refine zAJ ?_
  refine zAC ?_
  refine zAM ?_
  obtain ⟨e, he⟩ : ∃ e, l[i]? = some e := ⟨_, List.getElem?_eq_getElem (by (have hL := zAc l; omega))⟩
  have hlte := (List.getElem?_eq_some_iff.1 he).1
  refine zAA rfl (.m rfl rfl (.m rfl rfl (.m rfl rfl (.m rfl rfl (.r rfl (zAm rfl rfl rfl underlying22 sizeOf38 rfl (by omega) (zBW he)) (.r rfl (zBA rfl rfl isAgg38 sizeOf38 (nle rfl)) (.run [2000, 2001, 2002, 2003] [] rfl (zAG rfl 2000 (X := []) en23 rfl (.val nod) (.cons (.agg (.cons (.bor .v) (.cons (.bor .v) (.cons (.bor .v) (.cons (.bor .v) .nil))))) .nil) (by decide) all_nil .nil (zG0 e) rfl rfl (nle rfl)) (.r rfl (zAq i rfl rfl rfl rfl underlying28 sizeOf48 rfl rfl (by omega)) (.r rfl (zBM rfl rfl rfl (FlatP.nf (zKL (zHi _) (by simp [PV.isV]))) (by exact gto_get hlte) rfl rfl (.cons .v (.cons .v (.cons .v (.cons .v .nil)))) sizeOf48 rfl (nle rfl)) .nil))))))))) ?_
  refine zAA rfl (.m rfl rfl (.r rfl (zAX rfl rfl rfl (by omega)) (.a rfl rfl .nil))) ?_
  refine nxt (Q := fun _ _ => False) (z := i) (i + 1) ?_ ?_ ?_
  ·
   show (i + 1) ≤ l.length
   omega
  ·
   show l.length - (i + 1) < l.length - i
   omega
  · exact zAK ⟨rfl, rfl, (zAH (by omega)), trivial⟩ trivial ⟨(congrArg (fun x => some (4, x)) (by exact zKK he rfl)), trivial⟩ rfl
 ·
  replace h1 := of_decide_eq_false h1
  refine zAk ?_
  refine zAC (zAA rfl (.m rfl rfl (.a rfl rfl .nil)) ?_)
  refine zAL ?_
  exact ends [_] [700] (.cons (.tmp rfl) .nil) (.cons (.one (.row (len := (pvE l).length) (xs := pvE l) (congrArg (fun x => some (4, x)) (gto_all (by omega))) rfl) (.sl _ _ (FlatP.clean (zHi l)))) .nil) (by decide) trivial
end Go.Rl

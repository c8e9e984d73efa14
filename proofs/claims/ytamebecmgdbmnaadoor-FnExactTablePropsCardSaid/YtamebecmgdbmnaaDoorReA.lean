/- Promises of functions, proved by walks over their operations; no conditions beyond those that each theorem states. -/
import Derived.Test.YtamebecmgdbmnaaDoorRlT
import Derived.Test.YtamebecmgdbmnaaDoorProg
set_option linter.unusedSimpArgs false
set_option linter.unusedVariables false
namespace Go.Rl
open Go.Proofs Go.Proofs.Tryd
set_option maxRecDepth 1000000
set_option maxHeartbeats 2000000
theorem inf3 : (Tryd.prog.info? 3).map (fun i => (i.zero, i.size, i.bytes)) = some (some (.int .i64 0), 1, 8) := by kernel_rfl
theorem zNS : En Tryd.prog 114 := zAh func114 (by decide) rfl
theorem en65 : En Tryd.prog 65 := zAh func65 (by decide) rfl
theorem en89 : En Tryd.prog 89 := zAh func89 (by decide) rfl
theorem en53 : En Tryd.prog 53 := zAh func53 (by decide) rfl
theorem en115 : En Tryd.prog 115 := zAh func115 (by decide) rfl
theorem en116 : En Tryd.prog 116 := zAh func116 (by decide) rfl
theorem en95 : En Tryd.prog 95 := zAh func95 (by decide) rfl
theorem en96 : En Tryd.prog 96 := zAh func96 (by decide) rfl
theorem en94 : En Tryd.prog 94 := zAh func94 (by decide) rfl
theorem en93 : En Tryd.prog 93 := zAh func93 (by decide) rfl
theorem en55 : En Tryd.prog 55 := zAh func55 (by decide) rfl
theorem zBh : Tryd.prog.follows .mixedOrders = true := by kernel_rfl
theorem zBW (n low high : Int) : Con Tryd.prog 65 [.one (PV.v (.int .i64 n)), .one (PV.v (.int .i64 low)), .one (PV.v (.int .i64 high))] [] [.one (.v (.bool (zAl n low high)))] := by
 refine zAR func65 rfl rfl rfl rfl ?_
 refine zAB (zAA rfl (.a rfl rfl .nil) ?_)
 refine zAB ?_
 rcases bfc (decide (low ≤ n)) with h1 | h1
 ·
  have h1' := h1
  replace h1' := of_decide_eq_false h1'
  refine zAA rfl (.m rfl rfl (.m rfl rfl (.r rfl (zAL (zDG rfl rfl rfl) (by exact congrArg (fun b => AV.p none (.v (.bool b))) h1)) (.m rfl rfl (.not rfl (.not rfl (.not rfl (.r rfl (zAc (t := false) rfl rfl) (.a rfl rfl .nil))))))))) ?_
  refine zAI ?_
  exact ends [_] [] (.cons (.tmp (zAG (by simp [zAl, h1']))) .nil) (.cons (.one .v (.v _)) .nil) (by decide) trivial
 ·
  have h1' := h1
  replace h1' := of_decide_eq_true h1'
  refine zAA rfl (.m rfl rfl (.m rfl rfl (.r rfl (zAL (zDG rfl rfl rfl) (by exact congrArg (fun b => AV.p none (.v (.bool b))) h1)) (.m rfl rfl (.m rfl rfl (.m rfl rfl (.r rfl (zDG rfl rfl rfl) (.r rfl (zAc (t := true) rfl rfl) (.a rfl rfl .nil))))))))) ?_
  refine zAI ?_
  exact ends [_] [] (.cons (.tmp (zAG (by simp [zAl, h1']))) .nil) (.cons (.one .v (.v _)) .nil) (by decide) trivial
theorem zB0 (n low high : Int) : Con Tryd.prog 53 [.one (PV.v (.int .i64 n)), .one (PV.v (.int .i64 low)), .one (PV.v (.int .i64 high))] [] [.one (.v (.bool (zAl n low high)))] := by
 refine zAR func53 rfl rfl rfl rfl ?_
 refine zAB (zAA rfl (.a rfl rfl .nil) ?_)
 refine zAB ?_
 rcases bfc (decide (low ≤ n)) with h1 | h1
 ·
  have h1' := h1
  replace h1' := of_decide_eq_false h1'
  refine zAA rfl (.m rfl rfl (.m rfl rfl (.r rfl (zAL (zDH rfl rfl rfl) (by exact congrArg (fun b => AV.p none (.v (.bool b))) h1)) (.m rfl rfl (.not rfl (.not rfl (.not rfl (.r rfl (zAc (t := false) rfl rfl) (.a rfl rfl .nil))))))))) ?_
  refine zAI ?_
  exact ends [_] [] (.cons (.tmp (zAG (by simp [zAl, h1']))) .nil) (.cons (.one .v (.v _)) .nil) (by decide) trivial
 ·
  have h1' := h1
  replace h1' := of_decide_eq_true h1'
  refine zAA rfl (.m rfl rfl (.m rfl rfl (.r rfl (zAL (zDH rfl rfl rfl) (by exact congrArg (fun b => AV.p none (.v (.bool b))) h1)) (.m rfl rfl (.m rfl rfl (.m rfl rfl (.r rfl (zDG rfl rfl rfl) (.r rfl (zAc (t := true) rfl rfl) (.a rfl rfl .nil))))))))) ?_
  refine zAI ?_
  exact ends [_] [] (.cons (.tmp (zAG (by simp [zAl, h1']))) .nil) (.cons (.one .v (.v _)) .nil) (by decide) trivial
theorem zDt (s : ByteArray) : Con Tryd.prog 114 [.one (PV.v (.string s))] [] [.one (.v (.bool (zBd s)))] := by
 refine zAR func114 rfl rfl rfl rfl ?_
 refine zAB (zAA rfl (.a rfl rfl .nil) ?_)
 refine zAB ?_
 rcases bfc (decide (1 ≤ (s.size : Int))) with h1 | h1
 ·
  have h1' := h1
  replace h1' := of_decide_eq_false h1'
  refine zAA rfl (.m rfl rfl (.r rfl (zAP rfl rfl underlying9) (.r rfl (zAL (zDH rfl rfl rfl) (by exact congrArg (fun b => AV.p none (.v (.bool b))) h1)) (.m rfl rfl (.not rfl (.not rfl (.not rfl (.r rfl (zAc (t := false) rfl rfl) (.a rfl rfl .nil))))))))) ?_
  refine zAI ?_
  exact ends [_] [] (.cons (.tmp (zAG (by simp [zBd, h1']))) .nil) (.cons (.one .v (.v _)) .nil) (by decide) trivial
 ·
  have h1' := h1
  replace h1' := of_decide_eq_true h1'
  refine zAA rfl (.m rfl rfl (.r rfl (zAP rfl rfl underlying9) (.r rfl (zAL (zDH rfl rfl rfl) (by exact congrArg (fun b => AV.p none (.v (.bool b))) h1)) (.m rfl rfl (.m rfl rfl (.r rfl (zAP rfl rfl underlying9) (.r rfl (zDG rfl rfl rfl) (.r rfl (zAc (t := true) rfl rfl) (.a rfl rfl .nil))))))))) ?_
  refine zAI ?_
  exact ends [_] [] (.cons (.tmp (zAG (by simp [zBd, h1']))) .nil) (.cons (.one .v (.v _)) .nil) (by decide) trivial
theorem zDs (s : ByteArray) : Con Tryd.prog 89 [.one (PV.v (.string s))] [] [.one (.v (.bool (zBd s)))] := by
 refine zAR func89 rfl rfl rfl rfl ?_
 refine zAB (zAA rfl (.a rfl rfl .nil) ?_)
 refine zAB ?_
 rcases bfc (decide (1 ≤ (s.size : Int))) with h1 | h1
 ·
  have h1' := h1
  replace h1' := of_decide_eq_false h1'
  refine zAA rfl (.m rfl rfl (.r rfl (zAP rfl rfl underlying9) (.r rfl (zAL (zDH rfl rfl rfl) (by exact congrArg (fun b => AV.p none (.v (.bool b))) h1)) (.m rfl rfl (.not rfl (.not rfl (.not rfl (.r rfl (zAc (t := false) rfl rfl) (.a rfl rfl .nil))))))))) ?_
  refine zAI ?_
  exact ends [_] [] (.cons (.tmp (zAG (by simp [zBd, h1']))) .nil) (.cons (.one .v (.v _)) .nil) (by decide) trivial
 ·
  have h1' := h1
  replace h1' := of_decide_eq_true h1'
  refine zAA rfl (.m rfl rfl (.r rfl (zAP rfl rfl underlying9) (.r rfl (zAL (zDH rfl rfl rfl) (by exact congrArg (fun b => AV.p none (.v (.bool b))) h1)) (.m rfl rfl (.m rfl rfl (.r rfl (zAP rfl rfl underlying9) (.r rfl (zDG rfl rfl rfl) (.r rfl (zAc (t := true) rfl rfl) (.a rfl rfl .nil))))))))) ?_
  refine zAI ?_
  exact ends [_] [] (.cons (.tmp (zAG (by simp [zBd, h1']))) .nil) (.cons (.one .v (.v _)) .nil) (by decide) trivial
theorem zEN (e : Ent) : Con Tryd.prog 93 [.agg [PV.v (.string e.user), PV.v (.int .i64 e.seq), PV.v (.int .i64 e.kind)]] [] [.one (.v (.bool (zBp e.user e.seq e.kind)))] := by
 refine zAR func93 rfl rfl rfl rfl ?_
 refine zAB (zAA rfl (.run [] [1] rfl (zB9 rfl 1 rfl rfl (by decide) rfl (by decide)) (.a rfl rfl .nil)) ?_)
 refine zAB ?_
 rcases bfc (zBd e.user) with h1 | h1
 ·
  have h1' := h1
  refine zAA rfl (.r rfl (zAC rfl rfl underlying56 rfl sizeOf9 (by decide)) (.r rfl (zAD rfl rfl rfl isAgg9 rfl) (.run [500] [] rfl (zAF rfl 500 (X := []) zNS rfl (.val nod) (.cons (.one (.bor .v)) .nil) (by decide) all_nil .nil (zDt e.user) rfl rfl (nle rfl)) (.r rfl (zAL (zBM rfl) (by exact congrArg (fun b => AV.p none (.v (.bool b))) h1)) (.not rfl (.not rfl (.not rfl (.r rfl (zAc (t := false) rfl rfl) (.m rfl rfl (.not rfl (.not rfl (.not rfl (.r rfl (zAc (t := false) rfl rfl) (.a rfl rfl .nil)))))))))))))) ?_
  refine zAI ?_
  exact ends [_] [] (.cons (.tmp (zAG (by simp [zBp, h1']))) .nil) (.cons (.one .v (.v _)) .nil) (by decide) trivial
 ·
  have h1' := h1
  rcases bfc (zAl e.seq 0 1000000000000) with h2 | h2
  ·
   have h2' := h2
   refine zAA rfl (.r rfl (zAC rfl rfl underlying56 rfl sizeOf9 (by decide)) (.r rfl (zAD rfl rfl rfl isAgg9 rfl) (.run [500] [] rfl (zAF rfl 500 (X := []) zNS rfl (.val nod) (.cons (.one (.bor .v)) .nil) (by decide) all_nil .nil (zDt e.user) rfl rfl (nle rfl)) (.r rfl (zAL (zBM rfl) (by exact congrArg (fun b => AV.p none (.v (.bool b))) h1)) (.r rfl (zAC rfl rfl underlying56 rfl sizeOf2 (by decide)) (.r rfl (zAD rfl rfl rfl isAgg2 rfl) (.run [900] [] rfl (zAF rfl 900 (X := []) en65 rfl (.val nod) (.cons (.one (.bor .v)) (.cons (.one (.bor .v)) (.cons (.one (.bor .v)) .nil))) (by decide) all_nil .nil (zBW e.seq 0 1000000000000) rfl rfl (nle rfl)) (.r rfl (zAc (t := true) rfl rfl) (.r rfl (zAL (zBM rfl) (by exact congrArg (fun b => AV.p none (.v (.bool b))) h2)) (.not rfl (.not rfl (.not rfl (.r rfl (zAc (t := false) rfl rfl) (.a rfl rfl .nil)))))))))))))) ?_
   refine zAI ?_
   exact ends [_] [] (.cons (.tmp (zAG (by simp [zBp, h1', h2']))) .nil) (.cons (.one .v (.v _)) .nil) (by decide) trivial
  ·
   have h2' := h2
   refine zAA rfl (.r rfl (zAC rfl rfl underlying56 rfl sizeOf9 (by decide)) (.r rfl (zAD rfl rfl rfl isAgg9 rfl) (.run [500] [] rfl (zAF rfl 500 (X := []) zNS rfl (.val nod) (.cons (.one (.bor .v)) .nil) (by decide) all_nil .nil (zDt e.user) rfl rfl (nle rfl)) (.r rfl (zAL (zBM rfl) (by exact congrArg (fun b => AV.p none (.v (.bool b))) h1)) (.r rfl (zAC rfl rfl underlying56 rfl sizeOf2 (by decide)) (.r rfl (zAD rfl rfl rfl isAgg2 rfl) (.run [900] [] rfl (zAF rfl 900 (X := []) en65 rfl (.val nod) (.cons (.one (.bor .v)) (.cons (.one (.bor .v)) (.cons (.one (.bor .v)) .nil))) (by decide) all_nil .nil (zBW e.seq 0 1000000000000) rfl rfl (nle rfl)) (.r rfl (zAc (t := true) rfl rfl) (.r rfl (zAL (zBM rfl) (by exact congrArg (fun b => AV.p none (.v (.bool b))) h2)) (.r rfl (zAC rfl rfl underlying56 rfl sizeOf2 (by decide)) (.r rfl (zAD rfl rfl rfl isAgg2 rfl) (.run [1400] [] rfl (zAF rfl 1400 (X := []) en65 rfl (.val nod) (.cons (.one (.bor .v)) (.cons (.one (.bor .v)) (.cons (.one (.bor .v)) .nil))) (by decide) all_nil .nil (zBW e.kind 0 1) rfl rfl (nle rfl)) (.r rfl (zAc (t := true) rfl rfl) (.a rfl rfl .nil)))))))))))))) ?_
   refine zAI ?_
   exact ends [_] [] (.cons (.tmp (zAG (by simp [zBp, h1', h2']))) .nil) (.cons (.one .v (.v _)) .nil) (by decide) trivial
theorem zBz (e : Ent) : Con Tryd.prog 55 [.agg [PV.v (.string e.user), PV.v (.int .i64 e.seq), PV.v (.int .i64 e.kind)]] [] [.one (.v (.bool (zBp e.user e.seq e.kind)))] := by
 refine zAR func55 rfl rfl rfl rfl ?_
 refine zAB (zAA rfl (.run [] [1] rfl (zB9 rfl 1 rfl rfl (by decide) rfl (by decide)) (.a rfl rfl .nil)) ?_)
 refine zAB ?_
 rcases bfc (zBd e.user) with h1 | h1
 ·
  have h1' := h1
  refine zAA rfl (.r rfl (zAC rfl rfl underlying56 rfl sizeOf9 (by decide)) (.r rfl (zAD rfl rfl rfl isAgg9 rfl) (.run [500] [] rfl (zAF rfl 500 (X := []) en89 rfl (.val nod) (.cons (.one (.bor .v)) .nil) (by decide) all_nil .nil (zDs e.user) rfl rfl (nle rfl)) (.r rfl (zAL (zBM rfl) (by exact congrArg (fun b => AV.p none (.v (.bool b))) h1)) (.not rfl (.not rfl (.not rfl (.r rfl (zAc (t := false) rfl rfl) (.m rfl rfl (.not rfl (.not rfl (.not rfl (.r rfl (zAc (t := false) rfl rfl) (.a rfl rfl .nil)))))))))))))) ?_
  refine zAI ?_
  exact ends [_] [] (.cons (.tmp (zAG (by simp [zBp, h1']))) .nil) (.cons (.one .v (.v _)) .nil) (by decide) trivial
 ·
  have h1' := h1
  rcases bfc (zAl e.seq 0 1000000000000) with h2 | h2
  ·
   have h2' := h2
   refine zAA rfl (.r rfl (zAC rfl rfl underlying56 rfl sizeOf9 (by decide)) (.r rfl (zAD rfl rfl rfl isAgg9 rfl) (.run [500] [] rfl (zAF rfl 500 (X := []) en89 rfl (.val nod) (.cons (.one (.bor .v)) .nil) (by decide) all_nil .nil (zDs e.user) rfl rfl (nle rfl)) (.r rfl (zAL (zBM rfl) (by exact congrArg (fun b => AV.p none (.v (.bool b))) h1)) (.r rfl (zAC rfl rfl underlying56 rfl sizeOf2 (by decide)) (.r rfl (zAD rfl rfl rfl isAgg2 rfl) (.run [900] [] rfl (zAF rfl 900 (X := []) en53 rfl (.val nod) (.cons (.one (.bor .v)) (.cons (.one (.bor .v)) (.cons (.one (.bor .v)) .nil))) (by decide) all_nil .nil (zB0 e.seq 0 1000000000000) rfl rfl (nle rfl)) (.r rfl (zAc (t := true) rfl rfl) (.r rfl (zAL (zBM rfl) (by exact congrArg (fun b => AV.p none (.v (.bool b))) h2)) (.not rfl (.not rfl (.not rfl (.r rfl (zAc (t := false) rfl rfl) (.a rfl rfl .nil)))))))))))))) ?_
   refine zAI ?_
   exact ends [_] [] (.cons (.tmp (zAG (by simp [zBp, h1', h2']))) .nil) (.cons (.one .v (.v _)) .nil) (by decide) trivial
  ·
   have h2' := h2
   refine zAA rfl (.r rfl (zAC rfl rfl underlying56 rfl sizeOf9 (by decide)) (.r rfl (zAD rfl rfl rfl isAgg9 rfl) (.run [500] [] rfl (zAF rfl 500 (X := []) en89 rfl (.val nod) (.cons (.one (.bor .v)) .nil) (by decide) all_nil .nil (zDs e.user) rfl rfl (nle rfl)) (.r rfl (zAL (zBM rfl) (by exact congrArg (fun b => AV.p none (.v (.bool b))) h1)) (.r rfl (zAC rfl rfl underlying56 rfl sizeOf2 (by decide)) (.r rfl (zAD rfl rfl rfl isAgg2 rfl) (.run [900] [] rfl (zAF rfl 900 (X := []) en53 rfl (.val nod) (.cons (.one (.bor .v)) (.cons (.one (.bor .v)) (.cons (.one (.bor .v)) .nil))) (by decide) all_nil .nil (zB0 e.seq 0 1000000000000) rfl rfl (nle rfl)) (.r rfl (zAc (t := true) rfl rfl) (.r rfl (zAL (zBM rfl) (by exact congrArg (fun b => AV.p none (.v (.bool b))) h2)) (.r rfl (zAC rfl rfl underlying56 rfl sizeOf2 (by decide)) (.r rfl (zAD rfl rfl rfl isAgg2 rfl) (.run [1400] [] rfl (zAF rfl 1400 (X := []) en53 rfl (.val nod) (.cons (.one (.bor .v)) (.cons (.one (.bor .v)) (.cons (.one (.bor .v)) .nil))) (by decide) all_nil .nil (zB0 e.kind 0 1) rfl rfl (nle rfl)) (.r rfl (zAc (t := true) rfl rfl) (.a rfl rfl .nil)))))))))))))) ?_
   refine zAI ?_
   exact ends [_] [] (.cons (.tmp (zAG (by simp [zBp, h1', h2']))) .nil) (.cons (.one .v (.v _)) .nil) (by decide) trivial
theorem zK5 (a : ByteArray) : Con Tryd.prog 115 [.one (PV.v (.string a))] [] [.one (.v (.bool false))] := by
 refine zAR func115 rfl rfl rfl rfl ?_
 refine zAB (zAA rfl (.a rfl rfl .nil) ?_)
 refine zAB (zAA rfl (.m rfl rfl (.m rfl rfl (.r rfl (zAL (zCC rfl rfl rfl) (zAG (congrArg Bool.not (decide_eq_true (by simp))))) (.a rfl rfl .nil)))) ?_)
 refine zAI ?_
 exact ends [_] [] (.cons (.tmp rfl) .nil) (.cons (.one .v (.v _)) .nil) (by decide) trivial
theorem zK6 (a : Int) : Con Tryd.prog 116 [.one (PV.v (.int .i64 a))] [] [.one (.v (.bool false))] := by
 refine zAR func116 rfl rfl rfl rfl ?_
 refine zAB (zAA rfl (.a rfl rfl .nil) ?_)
 refine zAB (zAA rfl (.m rfl rfl (.m rfl rfl (.r rfl (zAL (zB2 rfl rfl rfl) (zAG (congrArg Bool.not (decide_eq_true (by simp))))) (.a rfl rfl .nil)))) ?_)
 refine zAI ?_
 exact ends [_] [] (.cons (.tmp rfl) .nil) (.cons (.one .v (.v _)) .nil) (by decide) trivial
theorem zOk (a b : ByteArray) : Con Tryd.prog 95 [.one (PV.v (.string a)), .one (PV.v (.string b))] [] [.one (.v (.int .i64 (cmpS a b)))] := by
 refine zAR func95 rfl rfl rfl rfl ?_
 refine zAB (zAA rfl (.a rfl rfl .nil) ?_)
 refine zAB (zAA rfl (.m rfl rfl (.run [800] [] rfl (zAF rfl 800 (X := []) en115 rfl (.val nod) (.cons (.one (.bor .v)) .nil) (by decide) all_nil .nil (zK5 a) rfl rfl (nle rfl)) (.a rfl rfl .nil))) ?_)
 refine zAB (zAA rfl (.m rfl rfl (.run [1000] [] rfl (zAF rfl 1000 (X := []) en115 rfl (.val nod) (.cons (.one (.bor .v)) .nil) (by decide) all_nil .nil (zK5 b) rfl rfl (nle rfl)) (.a rfl rfl .nil))) ?_)
 refine zAB ?_
 refine zAB (zAA rfl (.m rfl rfl .nil) ?_)
 refine zAT (t := false) rfl (fun h => nomatch h) (fun _ => ?_)
 refine zAK ?_
 refine zAB ?_
 refine zAB (zAA rfl (.m rfl rfl .nil) ?_)
 refine zAT (t := false) rfl (fun h => nomatch h) (fun _ => ?_)
 refine zAK ?_
 refine zAB ?_
 refine zAB (zAA rfl (.m rfl rfl (.m rfl rfl (.r rfl (zFV rfl rfl rfl) .nil))) ?_)
 refine zAT (t := ltB a b) rfl (fun h1 => ?_) (fun h1 => ?_)
 ·
  refine zAB (zAA rfl (.a rfl rfl .nil) ?_)
  refine zAI ?_
  exact ends [_] [] (.cons (.tmp (zAE (by rw [cmpS, if_pos h1]))) .nil) (.cons (.one .v (.v _)) .nil) (by decide) trivial
 ·
  refine zAK ?_
  refine zAB ?_
  refine zAB (zAA rfl (.m rfl rfl (.m rfl rfl (.r rfl (st_sgtr rfl rfl rfl) .nil))) ?_)
  refine zAT (t := (!(ltB a b || decide (a = b)))) rfl (fun h2 => ?_) (fun h2 => ?_)
  ·
   replace h2 : (ltB a b || decide (a = b)) = false := zAm h2
   refine zAB (zAA rfl (.a rfl rfl .nil) ?_)
   refine zAI ?_
   exact ends [_] [] (.cons (.tmp (zAE (by rw [cmpS, if_neg (by simp [h1]), if_pos (by rw [← zNb h1, h2]; rfl)]))) .nil) (.cons (.one .v (.v _)) .nil) (by decide) trivial
  ·
   replace h2 : (ltB a b || decide (a = b)) = true := zAn h2
   refine zAK ?_
   refine zAB (zAA rfl (.a rfl rfl .nil) ?_)
   refine zAI ?_
   exact ends [_] [] (.cons (.tmp (zAE (by rw [cmpS, if_neg (by simp [h1]), if_neg (by rw [← zNb h1, h2]; decide)]))) .nil) (.cons (.one .v (.v _)) .nil) (by decide) trivial
theorem zLN (a b : Int) : Con Tryd.prog 96 [.one (PV.v (.int .i64 a)), .one (PV.v (.int .i64 b))] [] [.one (.v (.int .i64 (cmpI a b)))] := by
 refine zAR func96 rfl rfl rfl rfl ?_
 refine zAB (zAA rfl (.a rfl rfl .nil) ?_)
 refine zAB (zAA rfl (.m rfl rfl (.run [800] [] rfl (zAF rfl 800 (X := []) en116 rfl (.val nod) (.cons (.one (.bor .v)) .nil) (by decide) all_nil .nil (zK6 a) rfl rfl (nle rfl)) (.a rfl rfl .nil))) ?_)
 refine zAB (zAA rfl (.m rfl rfl (.run [1000] [] rfl (zAF rfl 1000 (X := []) en116 rfl (.val nod) (.cons (.one (.bor .v)) .nil) (by decide) all_nil .nil (zK6 b) rfl rfl (nle rfl)) (.a rfl rfl .nil))) ?_)
 refine zAB ?_
 refine zAB (zAA rfl (.m rfl rfl .nil) ?_)
 refine zAT (t := false) rfl (fun h => nomatch h) (fun _ => ?_)
 refine zAK ?_
 refine zAB ?_
 refine zAB (zAA rfl (.m rfl rfl .nil) ?_)
 refine zAT (t := false) rfl (fun h => nomatch h) (fun _ => ?_)
 refine zAK ?_
 refine zAB ?_
 refine zAB (zAA rfl (.m rfl rfl (.m rfl rfl (.r rfl (zAt rfl rfl rfl) .nil))) ?_)
 refine zAT (t := decide (a < b)) rfl (fun h1 => ?_) (fun h1 => ?_)
 ·
  replace h1 := of_decide_eq_true h1
  refine zAB (zAA rfl (.a rfl rfl .nil) ?_)
  refine zAI ?_
  exact ends [_] [] (.cons (.tmp (zAE (by simp [cmpI, h1]))) .nil) (.cons (.one .v (.v _)) .nil) (by decide) trivial
 ·
  replace h1 := of_decide_eq_false h1
  refine zAK ?_
  refine zAB ?_
  refine zAB (zAA rfl (.m rfl rfl (.m rfl rfl (.r rfl (zBE rfl rfl rfl) .nil))) ?_)
  refine zAT (t := decide (b < a)) rfl (fun h2 => ?_) (fun h2 => ?_)
  ·
   replace h2 := of_decide_eq_true h2
   refine zAB (zAA rfl (.a rfl rfl .nil) ?_)
   refine zAI ?_
   exact ends [_] [] (.cons (.tmp (zAE (by simp [cmpI, h1, h2]))) .nil) (.cons (.one .v (.v _)) .nil) (by decide) trivial
  ·
   replace h2 := of_decide_eq_false h2
   refine zAK ?_
   refine zAB (zAA rfl (.a rfl rfl .nil) ?_)
   refine zAI ?_
   exact ends [_] [] (.cons (.tmp (zAE (by simp [cmpI, h1, h2]))) .nil) (.cons (.one .v (.v _)) .nil) (by decide) trivial
theorem or_con (l : List Int) (hl : l.length ≤ 1000) : Con Tryd.prog 94 [.one (PV.sl false 1 (pvI l))] [] [.one (.v (.int .i64 (orF l)))] := by
 refine zAR func94 rfl rfl rfl rfl ?_
 have hle := zDq l
 refine zAB (zAA rfl (.a rfl rfl .nil) ?_)
 refine zAB (zAA rfl (.a rfl rfl .nil) ?_)
 refine zAB ?_
 refine zAB (zAA rfl (.m rfl rfl (.r rfl (zAp rfl rfl underlying128) (.m rfl rfl .nil))) ?_)
 refine zAS ?_
 refine zAj (σ := Nat) (fun i => mk [(3, .vi 0), (6, .p none (.sl false 1 (pvI l))), (7, .vi ((pvI l).length : Int)), (8, .vi (i:Int))] [] []) (fun i => i ≤ l.length ∧ orF (l.drop i) = orF l) (fun i => l.length - i) 0 ⟨Nat.zero_le _, rfl⟩ (zAJ ⟨rfl, rfl, rfl, (zAE (by omega)), trivial⟩ trivial trivial rfl) ?_
 rintro i hG
 replace hG : i ≤ l.length ∧ orF (l.drop i) = orF l := hG
 obtain ⟨hi, hE⟩ := hG
 refine zAB (zAA rfl (.r rfl (zAt rfl rfl rfl) .nil) ?_)
 refine zAB ?_
 refine zAT (t := decide ((i:Int) < ((pvI l).length : Int))) rfl (fun h1 => ?_) (fun h1 => ?_)
 ·
  replace h1 := of_decide_eq_true h1
  refine zAK ?_
  refine zAB ?_
  refine zAS ?_
  refine zAB ?_
  obtain ⟨e, he⟩ : ∃ e, l[i]? = some e := ⟨_, List.getElem?_eq_getElem (by (have hL := zDq l; omega))⟩
  have hlte := (List.getElem?_eq_some_iff.1 he).1
  refine zAA rfl (.r rfl (zAq rfl rfl rfl underlying128 sizeOf3 rfl (by omega) (pvI_get he)) (.r rfl (zAx rfl rfl isAgg3 rfl) (.a rfl rfl .nil))) ?_
  refine zAB (zAA rfl (.m rfl rfl (.m rfl rfl (.r rfl (zB2 rfl rfl rfl) .nil))) ?_)
  refine zAT (t := (!(decide (e = 0)))) rfl (fun h2 => ?_) (fun h2 => ?_)
  ·
   replace h2 : ¬ (e = 0) := of_decide_eq_false (zAm h2)
   refine zAB (zAA rfl (.m rfl rfl (.a rfl rfl .nil)) ?_)
   refine zAI ?_
   exact ends [_] [] (.cons (.tmp (zAE (by rw [← hE, zMq he, if_pos h2]))) .nil) (.cons (.one .v (.v _)) .nil) (by decide) trivial
  ·
   replace h2 : e = 0 := of_decide_eq_true (zAn h2)
   refine zAK ?_
   refine zAA rfl (.r rfl (zAW rfl rfl rfl (by omega)) (.m rfl rfl .nil)) ?_
   refine nxt (Q := fun _ _ => False) (z := i) (i + 1) ?_ ?_ ?_
   ·
    show (i + 1) ≤ l.length ∧ orF (l.drop (i + 1)) = orF l
    exact ⟨by omega, by rw [← hE, zMq he, if_neg (by simpa using h2)]⟩
   ·
    show l.length - (i + 1) < l.length - i
    omega
   · exact zAJ ⟨rfl, rfl, rfl, (zAE (by omega)), trivial⟩ trivial trivial rfl
 ·
  replace h1 := of_decide_eq_false h1
  refine zAi ?_
  refine zAB (zAA rfl (.m rfl rfl (.a rfl rfl .nil)) ?_)
  refine zAI ?_
  exact ends [_] [] (.cons (.tmp (zAE (by rw [← hE, or_end (by omega)]))) .nil) (.cons (.one .v (.v _)) .nil) (by decide) trivial
theorem zKT (a b : Ent) : Con Tryd.prog 64 [.agg [PV.v (.string a.user), PV.v (.int .i64 a.seq), PV.v (.int .i64 a.kind)], .agg [PV.v (.string b.user), PV.v (.int .i64 b.seq), PV.v (.int .i64 b.kind)]] [] [.one (.v (.int .i64 (cmpK a b)))] := by
 refine zAR func64 rfl rfl rfl rfl ?_
 refine zAB (zAA rfl (.run [] [2] rfl (zB9 rfl 2 rfl rfl (by decide) rfl (by decide)) (.run [] [3] rfl (zB9 rfl 3 rfl rfl (by decide) rfl (by decide)) (.a rfl rfl .nil))) ?_)
 refine zAB ?_
 refine zAO (s' := mk [(2, .ptr 2 0), (3, .ptr 3 0)] [(2, [.vs a.user, .vi a.seq, .vi a.kind]), (3, [.vs b.user, .vi b.seq, .vi b.kind])] []) ?_ ?_
 · exact zAJ ⟨rfl, rfl, trivial⟩ ⟨rfl, rfl, trivial⟩ trivial rfl
 refine zAb zBh rfl (.r rfl (zAC rfl rfl underlying56 rfl sizeOf9 (by decide)) (.r rfl (zAD rfl rfl rfl isAgg9 rfl) (.r rfl (zAC rfl rfl underlying56 rfl sizeOf9 (by decide)) (.r rfl (zAD rfl rfl rfl isAgg9 rfl) (.run [900] [] rfl (zAF rfl 900 (X := []) en95 rfl (.val nod) (.cons (.one (.bor .v)) (.cons (.one (.bor .v)) .nil)) (by decide) all_nil .nil (zOk a.user b.user) rfl rfl (nle rfl)) (.r rfl (zAC rfl rfl underlying56 rfl sizeOf2 (by decide)) (.r rfl (zAD rfl rfl rfl isAgg2 rfl) (.r rfl (zAC rfl rfl underlying56 rfl sizeOf2 (by decide)) (.r rfl (zAD rfl rfl rfl isAgg2 rfl) (.run [1400] [] rfl (zAF rfl 1400 (X := []) en96 rfl (.val nod) (.cons (.one (.bor .v)) (.cons (.one (.bor .v)) .nil)) (by decide) all_nil .nil (zLN b.seq a.seq) rfl rfl (nle rfl)) (.r rfl (zAC rfl rfl underlying56 rfl sizeOf2 (by decide)) (.r rfl (zAD rfl rfl rfl isAgg2 rfl) (.r rfl (zAC rfl rfl underlying56 rfl sizeOf2 (by decide)) (.r rfl (zAD rfl rfl rfl isAgg2 rfl) (.run [1900] [] rfl (zAF rfl 1900 (X := []) en96 rfl (.val nod) (.cons (.one (.bor .v)) (.cons (.one (.bor .v)) .nil)) (by decide) all_nil .nil (zLN b.kind a.kind) rfl rfl (nle rfl)) (.run [2000] [] rfl (zAv rfl 2000 underlying128 inf3 (nle rfl) (by decide) rfl rfl rfl (.cons .v (.cons .v (.cons .v .nil))) (by decide) rfl (by decide) rfl (by decide) rfl) (.run [2000, 2100] [] rfl (zAF rfl 2100 (X := []) en94 rfl (.val nod) (.cons (.one (.bor (.all (len := 3) (xs := [[PV.v (.int .i64 (cmpS a.user b.user))], [PV.v (.int .i64 (cmpI b.seq a.seq))], [PV.v (.int .i64 (cmpI b.kind a.kind))]]) rfl rfl (by decide)))) .nil) (by decide) all_nil .nil (or_con [cmpS a.user b.user, cmpI b.seq a.seq, cmpI b.kind a.kind] (by simp)) rfl rfl (nle rfl)) (.a rfl rfl .nil)))))))))))))))))) (by kernel_rfl) ?_
 refine zAI ?_
 exact ends [_] [] (.cons (.tmp (zAE (zOI a b))) .nil) (.cons (.one .v (.v _)) .nil) (by decide) trivial
theorem zE4 (e : Ent) : Con Tryd.prog 63 [.agg [PV.v (.string e.user), PV.v (.int .i64 e.seq), PV.v (.int .i64 e.kind), PV.v (.string e.value)]] [] [.one (.v (.bool (zBt e)))] := by
 refine zAR func63 rfl rfl rfl rfl ?_
 refine zAB (zAA rfl (.run [] [1] rfl (zB9 rfl 1 rfl rfl (by decide) rfl (by decide)) (.a rfl rfl .nil)) ?_)
 refine zAB ?_
 refine zAO (s' := mk [(1, .ptr 1 0)] [(1, [.vs e.user, .vi e.seq, .vi e.kind, .vs e.value])] []) ?_ ?_
 · exact zAJ ⟨rfl, trivial⟩ ⟨rfl, trivial⟩ trivial rfl
 rcases bfc (zBp e.user e.seq e.kind) with h1 | h1
 ·
  have h1' := h1
  refine zAA rfl (.r rfl (zAC rfl rfl underlying58 rfl sizeOf56 (by decide)) (.r rfl (zAZ rfl rfl rfl isAgg56 sizeOf56 (nle rfl)) (.run [500] [] rfl (zAF rfl 500 (X := []) en93 rfl (.val nod) (.cons (.agg (.cons (.bor .v) (.cons (.bor .v) (.cons (.bor .v) .nil)))) .nil) (by decide) all_nil .nil (zEN e) rfl rfl (nle rfl)) (.r rfl (zAL (zBM rfl) (by exact congrArg (fun b => AV.p none (.v (.bool b))) h1)) (.not rfl (.not rfl (.not rfl (.not rfl (.r rfl (zAc (t := false) rfl rfl) (.m rfl rfl (.not rfl (.not rfl (.not rfl (.not rfl (.not rfl (.not rfl (.not rfl (.not rfl (.not rfl (.r rfl (zAc (t := false) rfl rfl) (.a rfl rfl .nil))))))))))))))))))))) ?_
  refine zAI ?_
  exact ends [_] [] (.cons (.tmp (zAG (by simp only [zBt, h1, Bool.true_and, Bool.false_and, Bool.and_true, Bool.and_false, Bool.true_or, Bool.false_or]))) .nil) (.cons (.one .v (.v _)) .nil) (by decide) trivial
 ·
  have h1' := h1
  rcases bfc (decide ((e.value.size : Int) ≤ 200)) with h2 | h2
  ·
   have h2' := h2
   replace h2' := of_decide_eq_false h2'
   refine zAA rfl (.r rfl (zAC rfl rfl underlying58 rfl sizeOf56 (by decide)) (.r rfl (zAZ rfl rfl rfl isAgg56 sizeOf56 (nle rfl)) (.run [500] [] rfl (zAF rfl 500 (X := []) en93 rfl (.val nod) (.cons (.agg (.cons (.bor .v) (.cons (.bor .v) (.cons (.bor .v) .nil)))) .nil) (by decide) all_nil .nil (zEN e) rfl rfl (nle rfl)) (.r rfl (zAL (zBM rfl) (by exact congrArg (fun b => AV.p none (.v (.bool b))) h1)) (.r rfl (zAC rfl rfl underlying58 rfl sizeOf9 (by decide)) (.r rfl (zAD rfl rfl rfl isAgg9 rfl) (.r rfl (zAP rfl rfl underlying9) (.r rfl (zAL (zDG rfl rfl rfl) (by exact congrArg (fun b => AV.p none (.v (.bool b))) h2)) (.r rfl (zAc (t := true) rfl rfl) (.m rfl rfl (.not rfl (.not rfl (.not rfl (.not rfl (.not rfl (.not rfl (.not rfl (.not rfl (.not rfl (.r rfl (zAc (t := false) rfl rfl) (.a rfl rfl .nil))))))))))))))))))))) ?_
   refine zAI ?_
   exact ends [_] [] (.cons (.tmp (zAG (by simp only [zBt, h1, h2, Bool.true_and, Bool.false_and, Bool.and_true, Bool.and_false, Bool.true_or, Bool.false_or]))) .nil) (.cons (.one .v (.v _)) .nil) (by decide) trivial
  ·
   have h2' := h2
   replace h2' := of_decide_eq_true h2'
   rcases bfc (decide (e.kind = 1)) with h3 | h3
   ·
    have h3' := h3
    replace h3' := of_decide_eq_false h3'
    refine zAA rfl (.r rfl (zAC rfl rfl underlying58 rfl sizeOf56 (by decide)) (.r rfl (zAZ rfl rfl rfl isAgg56 sizeOf56 (nle rfl)) (.run [500] [] rfl (zAF rfl 500 (X := []) en93 rfl (.val nod) (.cons (.agg (.cons (.bor .v) (.cons (.bor .v) (.cons (.bor .v) .nil)))) .nil) (by decide) all_nil .nil (zEN e) rfl rfl (nle rfl)) (.r rfl (zAL (zBM rfl) (by exact congrArg (fun b => AV.p none (.v (.bool b))) h1)) (.r rfl (zAC rfl rfl underlying58 rfl sizeOf9 (by decide)) (.r rfl (zAD rfl rfl rfl isAgg9 rfl) (.r rfl (zAP rfl rfl underlying9) (.r rfl (zAL (zDG rfl rfl rfl) (by exact congrArg (fun b => AV.p none (.v (.bool b))) h2)) (.r rfl (zAc (t := true) rfl rfl) (.m rfl rfl (.r rfl (zAC rfl rfl underlying58 rfl sizeOf56 (by decide)) (.r rfl (zAC rfl rfl underlying56 rfl sizeOf2 (by decide)) (.r rfl (zAD rfl rfl rfl isAgg2 rfl) (.r rfl (zAL (zBB rfl rfl rfl) (by exact congrArg (fun b => AV.p none (.v (.bool b))) h3)) (.m rfl rfl (.r rfl (zAC rfl rfl underlying58 rfl sizeOf9 (by decide)) (.r rfl (zAD rfl rfl rfl isAgg9 rfl) (.r rfl (zDQ rfl rfl rfl) (.r rfl (zAc (t := false) rfl rfl) (.r rfl (zAc (t := true) rfl rfl) (.a rfl rfl .nil))))))))))))))))))))) ?_
    refine zAI ?_
    exact ends [_] [] (.cons (.tmp (zAG (by simp only [zBt, h1, h2, h3, Bool.true_and, Bool.false_and, Bool.and_true, Bool.and_false, Bool.true_or, Bool.false_or]))) .nil) (.cons (.one .v (.v _)) .nil) (by decide) trivial
   ·
    have h3' := h3
    replace h3' := of_decide_eq_true h3'
    refine zAA rfl (.r rfl (zAC rfl rfl underlying58 rfl sizeOf56 (by decide)) (.r rfl (zAZ rfl rfl rfl isAgg56 sizeOf56 (nle rfl)) (.run [500] [] rfl (zAF rfl 500 (X := []) en93 rfl (.val nod) (.cons (.agg (.cons (.bor .v) (.cons (.bor .v) (.cons (.bor .v) .nil)))) .nil) (by decide) all_nil .nil (zEN e) rfl rfl (nle rfl)) (.r rfl (zAL (zBM rfl) (by exact congrArg (fun b => AV.p none (.v (.bool b))) h1)) (.r rfl (zAC rfl rfl underlying58 rfl sizeOf9 (by decide)) (.r rfl (zAD rfl rfl rfl isAgg9 rfl) (.r rfl (zAP rfl rfl underlying9) (.r rfl (zAL (zDG rfl rfl rfl) (by exact congrArg (fun b => AV.p none (.v (.bool b))) h2)) (.r rfl (zAc (t := true) rfl rfl) (.m rfl rfl (.r rfl (zAC rfl rfl underlying58 rfl sizeOf56 (by decide)) (.r rfl (zAC rfl rfl underlying56 rfl sizeOf2 (by decide)) (.r rfl (zAD rfl rfl rfl isAgg2 rfl) (.r rfl (zAL (zBB rfl rfl rfl) (by exact congrArg (fun b => AV.p none (.v (.bool b))) h3)) (.m rfl rfl (.not rfl (.not rfl (.not rfl (.r rfl (zAc (t := true) rfl rfl) (.r rfl (zAc (t := true) rfl rfl) (.a rfl rfl .nil))))))))))))))))))))) ?_
    refine zAI ?_
    exact ends [_] [] (.cons (.tmp (zAG (by simp only [zBt, h1, h2, h3, Bool.true_and, Bool.false_and, Bool.and_true, Bool.and_false, Bool.true_or, Bool.false_or]))) .nil) (.cons (.one .v (.v _)) .nil) (by decide) trivial
theorem zDS (e : Ent) : Con Tryd.prog 51 [.agg [PV.v (.string e.user), PV.v (.int .i64 e.seq), PV.v (.int .i64 e.kind), PV.v (.string e.value)]] [] [.one (.v (.bool (zBt e)))] := by
 refine zAR func51 rfl rfl rfl rfl ?_
 refine zAB (zAA rfl (.run [] [1] rfl (zB9 rfl 1 rfl rfl (by decide) rfl (by decide)) (.a rfl rfl .nil)) ?_)
 refine zAB ?_
 refine zAO (s' := mk [(1, .ptr 1 0)] [(1, [.vs e.user, .vi e.seq, .vi e.kind, .vs e.value])] []) ?_ ?_
 · exact zAJ ⟨rfl, trivial⟩ ⟨rfl, trivial⟩ trivial rfl
 rcases bfc (zBp e.user e.seq e.kind) with h1 | h1
 ·
  have h1' := h1
  refine zAA rfl (.r rfl (zAC rfl rfl underlying58 rfl sizeOf56 (by decide)) (.r rfl (zAZ rfl rfl rfl isAgg56 sizeOf56 (nle rfl)) (.run [500] [] rfl (zAF rfl 500 (X := []) en55 rfl (.val nod) (.cons (.agg (.cons (.bor .v) (.cons (.bor .v) (.cons (.bor .v) .nil)))) .nil) (by decide) all_nil .nil (zBz e) rfl rfl (nle rfl)) (.r rfl (zAL (zBM rfl) (by exact congrArg (fun b => AV.p none (.v (.bool b))) h1)) (.not rfl (.not rfl (.not rfl (.not rfl (.r rfl (zAc (t := false) rfl rfl) (.m rfl rfl (.not rfl (.not rfl (.not rfl (.not rfl (.not rfl (.not rfl (.not rfl (.not rfl (.not rfl (.r rfl (zAc (t := false) rfl rfl) (.a rfl rfl .nil))))))))))))))))))))) ?_
  refine zAI ?_
  exact ends [_] [] (.cons (.tmp (zAG (by simp only [zBt, h1, Bool.true_and, Bool.false_and, Bool.and_true, Bool.and_false, Bool.true_or, Bool.false_or]))) .nil) (.cons (.one .v (.v _)) .nil) (by decide) trivial
 ·
  have h1' := h1
  rcases bfc (decide ((e.value.size : Int) ≤ 200)) with h2 | h2
  ·
   have h2' := h2
   replace h2' := of_decide_eq_false h2'
   refine zAA rfl (.r rfl (zAC rfl rfl underlying58 rfl sizeOf56 (by decide)) (.r rfl (zAZ rfl rfl rfl isAgg56 sizeOf56 (nle rfl)) (.run [500] [] rfl (zAF rfl 500 (X := []) en55 rfl (.val nod) (.cons (.agg (.cons (.bor .v) (.cons (.bor .v) (.cons (.bor .v) .nil)))) .nil) (by decide) all_nil .nil (zBz e) rfl rfl (nle rfl)) (.r rfl (zAL (zBM rfl) (by exact congrArg (fun b => AV.p none (.v (.bool b))) h1)) (.r rfl (zAC rfl rfl underlying58 rfl sizeOf9 (by decide)) (.r rfl (zAD rfl rfl rfl isAgg9 rfl) (.r rfl (zAP rfl rfl underlying9) (.r rfl (zAL (zDG rfl rfl rfl) (by exact congrArg (fun b => AV.p none (.v (.bool b))) h2)) (.r rfl (zAc (t := true) rfl rfl) (.m rfl rfl (.not rfl (.not rfl (.not rfl (.not rfl (.not rfl (.not rfl (.not rfl (.not rfl (.not rfl (.r rfl (zAc (t := false) rfl rfl) (.a rfl rfl .nil))))))))))))))))))))) ?_
   refine zAI ?_
   exact ends [_] [] (.cons (.tmp (zAG (by simp only [zBt, h1, h2, Bool.true_and, Bool.false_and, Bool.and_true, Bool.and_false, Bool.true_or, Bool.false_or]))) .nil) (.cons (.one .v (.v _)) .nil) (by decide) trivial
  ·
   have h2' := h2
   replace h2' := of_decide_eq_true h2'
   rcases bfc (decide (e.kind = 1)) with h3 | h3
   ·
    have h3' := h3
    replace h3' := of_decide_eq_false h3'
    refine zAA rfl (.r rfl (zAC rfl rfl underlying58 rfl sizeOf56 (by decide)) (.r rfl (zAZ rfl rfl rfl isAgg56 sizeOf56 (nle rfl)) (.run [500] [] rfl (zAF rfl 500 (X := []) en55 rfl (.val nod) (.cons (.agg (.cons (.bor .v) (.cons (.bor .v) (.cons (.bor .v) .nil)))) .nil) (by decide) all_nil .nil (zBz e) rfl rfl (nle rfl)) (.r rfl (zAL (zBM rfl) (by exact congrArg (fun b => AV.p none (.v (.bool b))) h1)) (.r rfl (zAC rfl rfl underlying58 rfl sizeOf9 (by decide)) (.r rfl (zAD rfl rfl rfl isAgg9 rfl) (.r rfl (zAP rfl rfl underlying9) (.r rfl (zAL (zDG rfl rfl rfl) (by exact congrArg (fun b => AV.p none (.v (.bool b))) h2)) (.r rfl (zAc (t := true) rfl rfl) (.m rfl rfl (.r rfl (zAC rfl rfl underlying58 rfl sizeOf56 (by decide)) (.r rfl (zAC rfl rfl underlying56 rfl sizeOf2 (by decide)) (.r rfl (zAD rfl rfl rfl isAgg2 rfl) (.r rfl (zAL (zBB rfl rfl rfl) (by exact congrArg (fun b => AV.p none (.v (.bool b))) h3)) (.m rfl rfl (.r rfl (zAC rfl rfl underlying58 rfl sizeOf9 (by decide)) (.r rfl (zAD rfl rfl rfl isAgg9 rfl) (.r rfl (zDQ rfl rfl rfl) (.r rfl (zAc (t := false) rfl rfl) (.r rfl (zAc (t := true) rfl rfl) (.a rfl rfl .nil))))))))))))))))))))) ?_
    refine zAI ?_
    exact ends [_] [] (.cons (.tmp (zAG (by simp only [zBt, h1, h2, h3, Bool.true_and, Bool.false_and, Bool.and_true, Bool.and_false, Bool.true_or, Bool.false_or]))) .nil) (.cons (.one .v (.v _)) .nil) (by decide) trivial
   ·
    have h3' := h3
    replace h3' := of_decide_eq_true h3'
    refine zAA rfl (.r rfl (zAC rfl rfl underlying58 rfl sizeOf56 (by decide)) (.r rfl (zAZ rfl rfl rfl isAgg56 sizeOf56 (nle rfl)) (.run [500] [] rfl (zAF rfl 500 (X := []) en55 rfl (.val nod) (.cons (.agg (.cons (.bor .v) (.cons (.bor .v) (.cons (.bor .v) .nil)))) .nil) (by decide) all_nil .nil (zBz e) rfl rfl (nle rfl)) (.r rfl (zAL (zBM rfl) (by exact congrArg (fun b => AV.p none (.v (.bool b))) h1)) (.r rfl (zAC rfl rfl underlying58 rfl sizeOf9 (by decide)) (.r rfl (zAD rfl rfl rfl isAgg9 rfl) (.r rfl (zAP rfl rfl underlying9) (.r rfl (zAL (zDG rfl rfl rfl) (by exact congrArg (fun b => AV.p none (.v (.bool b))) h2)) (.r rfl (zAc (t := true) rfl rfl) (.m rfl rfl (.r rfl (zAC rfl rfl underlying58 rfl sizeOf56 (by decide)) (.r rfl (zAC rfl rfl underlying56 rfl sizeOf2 (by decide)) (.r rfl (zAD rfl rfl rfl isAgg2 rfl) (.r rfl (zAL (zBB rfl rfl rfl) (by exact congrArg (fun b => AV.p none (.v (.bool b))) h3)) (.m rfl rfl (.not rfl (.not rfl (.not rfl (.r rfl (zAc (t := true) rfl rfl) (.r rfl (zAc (t := true) rfl rfl) (.a rfl rfl .nil))))))))))))))))))))) ?_
    refine zAI ?_
    exact ends [_] [] (.cons (.tmp (zAG (by simp only [zBt, h1, h2, h3, Bool.true_and, Bool.false_and, Bool.and_true, Bool.and_false, Bool.true_or, Bool.false_or]))) .nil) (.cons (.one .v (.v _)) .nil) (by decide) trivial
end Go.Rl
namespace Go.Rl
open Go.Proofs Go.Proofs.Tryd
set_option maxRecDepth 1000000
set_option maxHeartbeats 2000000
theorem zEH : (Tryd.prog.info? 58).map (fun i => (i.zero, i.size, i.bytes)) = some (some (.agg #[.string ⟨#[]⟩, .int .i64 0, .int .i64 0, .string ⟨#[]⟩]), 4, 48) := by kernel_rfl
theorem en63 : En Tryd.prog 63 := zAh func63 (by decide) rfl
theorem en64 : En Tryd.prog 64 := zAh func64 (by decide) rfl
theorem en51 : En Tryd.prog 51 := zAh func51 (by decide) rfl
theorem en52 : En Tryd.prog 52 := zAh func52 (by decide) rfl
theorem zOO (a b : ByteArray × Int × Int) (w : World) : (Op.equalIn 10000 56 (.agg ⟨[.string a.1, .int .i64 a.2.1, .int .i64 a.2.2]⟩) (.agg ⟨[.string b.1, .int .i64 b.2.1, .int .i64 b.2.2]⟩)).run Tryd.prog w = .ok (decide (a = b)) w := by
 rw [show (10000 : Nat) = 9999 + 1 from rfl, run_equalIn_agg w 9999 56 _ _ underlying56 (by kernel_rfl)]
 rw [show (Tryd.prog.fieldsOf 56).toList = [⟨"User", 9, 0, false, "", "", 0⟩, ⟨"Seq", 2, 1, false, "", "", 16⟩, ⟨"Kind", 2, 2, false, "", "", 24⟩] from rfl]
 rw [show (9999 : Nat) = 9998 + 1 from rfl]
 have hb : ∀ x y : ByteArray, x.toList = y.toList ↔ x = y := fun x y => ⟨toList_inj, fun h => by rw [h]⟩
 simp [Op.eqFields, part, isAgg9, sizeOf9, isAgg2, sizeOf2, run_equalIn_string (h := underlying9), run_equalIn_int (h := underlying2), hb]
 obtain ⟨a1, a2, a3⟩ := a
 obtain ⟨b1, b2, b3⟩ := b
 simp only [Prod.mk.injEq]
 split
 ·
  split
  · split <;> simp_all
  · simp_all
 · simp_all
theorem zHB (a b : Ent) : Con Tryd.prog 52 [.agg [PV.v (.string a.user), PV.v (.int .i64 a.seq), PV.v (.int .i64 a.kind)], .agg [PV.v (.string b.user), PV.v (.int .i64 b.seq), PV.v (.int .i64 b.kind)]] [] [.one (.v (.int .i64 (kcmp a b)))] := by
 refine zAR func52 rfl rfl rfl rfl ?_
 refine zAB (zAA rfl (.run [] [2] rfl (zB9 rfl 2 rfl rfl (by decide) rfl (by decide)) (.run [] [3] rfl (zB9 rfl 3 rfl rfl (by decide) rfl (by decide)) (.a rfl rfl .nil))) ?_)
 refine zAB ?_
 refine zAB ?_
 rcases bfc (!(zBp a.user a.seq a.kind)) with h1 | h1
 ·
  have h1' := h1
  replace h1' : (zBp a.user a.seq a.kind) = true := zAn h1'
  refine zAA rfl (.r rfl (zAZ rfl rfl rfl isAgg56 sizeOf56 (nle rfl)) (.run [600] [] rfl (zAF rfl 600 (X := []) en55 rfl (.val nod) (.cons (.agg (.cons (.bor .v) (.cons (.bor .v) (.cons (.bor .v) .nil)))) .nil) (by decide) all_nil .nil (zBz a) rfl rfl (nle rfl)) (.r rfl (zAL (zAa (b := zBp a.user a.seq a.kind) rfl rfl) (by exact congrArg (fun b => AV.p none (.v (.bool b))) h1)) (.m rfl rfl (.r rfl (zAZ rfl rfl rfl isAgg56 sizeOf56 (nle rfl)) (.run [1000] [] rfl (zAF rfl 1000 (X := []) en55 rfl (.val nod) (.cons (.agg (.cons (.bor .v) (.cons (.bor .v) (.cons (.bor .v) .nil)))) .nil) (by decide) all_nil .nil (zBz b) rfl rfl (nle rfl)) (.r rfl (zAa (b := zBp b.user b.seq b.kind) rfl rfl) (.r rfl (zAc (t := false) rfl rfl) .nil)))))))) ?_
  refine zAT (t := (!(zBp b.user b.seq b.kind))) rfl (fun h2 => ?_) (fun h2 => ?_)
  ·
   replace h2 : (zBp b.user b.seq b.kind) = false := zAm h2
   refine zAB (zAA rfl (.a rfl rfl .nil) ?_)
   refine zAI ?_
   exact ends [_] [] (.cons (.tmp (zAE (by simp [kcmp, h1', h2]))) .nil) (.cons (.one .v (.v _)) .nil) (by decide) trivial
  ·
   replace h2 : (zBp b.user b.seq b.kind) = true := zAn h2
   refine zAK ?_
   refine zAB ?_
   refine zAB (zAA rfl (.r rfl (zAZ rfl rfl rfl isAgg56 sizeOf56 (nle rfl)) (.r rfl (zAZ rfl rfl rfl isAgg56 sizeOf56 (nle rfl)) (.r rfl (zJ0 rfl rfl rfl rfl rfl Tryd.eqGuardType56 (fun w => zOO (a.user, a.seq, a.kind) (b.user, b.seq, b.kind) w)) .nil))) ?_)
   refine zAT (t := decide ((a.user, a.seq, a.kind) = (b.user, b.seq, b.kind))) rfl (fun h3 => ?_) (fun h3 => ?_)
   ·
    replace h3 := of_decide_eq_true h3
    refine zAB (zAA rfl (.a rfl rfl .nil) ?_)
    refine zAI ?_
    exact ends [_] [] (.cons (.tmp (zAE (by rw [zEO h1' h2]; have hk := h3; simp only [Prod.mk.injEq] at hk; exact (cmpK_eq hk.1 hk.2.1 hk.2.2).symm))) .nil) (.cons (.one .v (.v _)) .nil) (by decide) trivial
   ·
    replace h3 := of_decide_eq_false h3
    refine zAK ?_
    refine zAB ?_
    refine zAB ?_
    refine zAO (s' := mk [(2, .ptr 2 0), (3, .ptr 3 0)] [(2, [.vs a.user, .vi a.seq, .vi a.kind]), (3, [.vs b.user, .vi b.seq, .vi b.kind])] []) ?_ ?_
    · exact zAJ ⟨rfl, rfl, trivial⟩ ⟨rfl, rfl, trivial⟩ trivial rfl
    rcases bfc (ltB a.user b.user) with h4 | h4
    ·
     have h4' := h4
     rcases bfc (decide (a.user = b.user)) with h5 | h5
     ·
      have h5' := h5
      replace h5' := of_decide_eq_false h5'
      refine zAA rfl (.r rfl (zAC rfl rfl underlying56 rfl sizeOf9 (by decide)) (.r rfl (zAD rfl rfl rfl isAgg9 rfl) (.r rfl (zAC rfl rfl underlying56 rfl sizeOf9 (by decide)) (.r rfl (zAD rfl rfl rfl isAgg9 rfl) (.r rfl (zAL (zFV rfl rfl rfl) (by exact congrArg (fun b => AV.p none (.v (.bool b))) h4)) (.m rfl rfl (.r rfl (zAC rfl rfl underlying56 rfl sizeOf9 (by decide)) (.r rfl (zAD rfl rfl rfl isAgg9 rfl) (.r rfl (zAC rfl rfl underlying56 rfl sizeOf9 (by decide)) (.r rfl (zAD rfl rfl rfl isAgg9 rfl) (.r rfl (zAL (zDQ rfl rfl rfl) (by exact congrArg (fun b => AV.p none (.v (.bool b))) h5)) (.m rfl rfl (.not rfl (.not rfl (.not rfl (.not rfl (.not rfl (.not rfl (.not rfl (.not rfl (.not rfl (.not rfl (.not rfl (.not rfl (.not rfl (.not rfl (.not rfl (.not rfl (.not rfl (.not rfl (.not rfl (.r rfl (zAc (t := false) rfl rfl) (.r rfl (zAc (t := false) rfl rfl) .nil))))))))))))))))))))))))))))))))) ?_
      refine zAT (t := false) rfl (fun h => nomatch h) (fun _ => ?_)
      refine zAK ?_
      refine zAB ?_
      refine zAO (s' := mk [] [] []) ?_ ?_
      · exact zAJ trivial trivial trivial rfl
      refine zAA rfl (.a rfl rfl .nil) ?_
      refine zAI ?_
      exact ends [_] [] (.cons (.tmp (zAE (by rw [zEO h1' h2]; exact (zKV (by simp_all [LessE] <;> omega) (by have hk := h3; simp only [Prod.mk.injEq] at hk; exact hk)).symm))) .nil) (.cons (.one .v (.v _)) .nil) (by decide) trivial
     ·
      have h5' := h5
      replace h5' := of_decide_eq_true h5'
      rcases bfc (decide (b.seq < a.seq)) with h6 | h6
      ·
       have h6' := h6
       replace h6' := of_decide_eq_false h6'
       rcases bfc (decide (a.seq = b.seq)) with h7 | h7
       ·
        have h7' := h7
        replace h7' := of_decide_eq_false h7'
        refine zAA rfl (.r rfl (zAC rfl rfl underlying56 rfl sizeOf9 (by decide)) (.r rfl (zAD rfl rfl rfl isAgg9 rfl) (.r rfl (zAC rfl rfl underlying56 rfl sizeOf9 (by decide)) (.r rfl (zAD rfl rfl rfl isAgg9 rfl) (.r rfl (zAL (zFV rfl rfl rfl) (by exact congrArg (fun b => AV.p none (.v (.bool b))) h4)) (.m rfl rfl (.r rfl (zAC rfl rfl underlying56 rfl sizeOf9 (by decide)) (.r rfl (zAD rfl rfl rfl isAgg9 rfl) (.r rfl (zAC rfl rfl underlying56 rfl sizeOf9 (by decide)) (.r rfl (zAD rfl rfl rfl isAgg9 rfl) (.r rfl (zAL (zDQ rfl rfl rfl) (by exact congrArg (fun b => AV.p none (.v (.bool b))) h5)) (.m rfl rfl (.r rfl (zAC rfl rfl underlying56 rfl sizeOf2 (by decide)) (.r rfl (zAD rfl rfl rfl isAgg2 rfl) (.r rfl (zAC rfl rfl underlying56 rfl sizeOf2 (by decide)) (.r rfl (zAD rfl rfl rfl isAgg2 rfl) (.r rfl (zAL (zBE rfl rfl rfl) (by exact congrArg (fun b => AV.p none (.v (.bool b))) h6)) (.m rfl rfl (.r rfl (zAC rfl rfl underlying56 rfl sizeOf2 (by decide)) (.r rfl (zAD rfl rfl rfl isAgg2 rfl) (.r rfl (zAC rfl rfl underlying56 rfl sizeOf2 (by decide)) (.r rfl (zAD rfl rfl rfl isAgg2 rfl) (.r rfl (zAL (zBB rfl rfl rfl) (by exact congrArg (fun b => AV.p none (.v (.bool b))) h7)) (.m rfl rfl (.not rfl (.not rfl (.not rfl (.not rfl (.not rfl (.r rfl (zAc (t := false) rfl rfl) (.r rfl (zAc (t := false) rfl rfl) (.r rfl (zAc (t := true) rfl rfl) (.r rfl (zAc (t := false) rfl rfl) .nil))))))))))))))))))))))))))))))))) ?_
        refine zAT (t := false) rfl (fun h => nomatch h) (fun _ => ?_)
        refine zAK ?_
        refine zAB ?_
        refine zAO (s' := mk [] [] []) ?_ ?_
        · exact zAJ trivial trivial trivial rfl
        refine zAA rfl (.a rfl rfl .nil) ?_
        refine zAI ?_
        exact ends [_] [] (.cons (.tmp (zAE (by rw [zEO h1' h2]; exact (zKV (by simp_all [LessE] <;> omega) (by have hk := h3; simp only [Prod.mk.injEq] at hk; exact hk)).symm))) .nil) (.cons (.one .v (.v _)) .nil) (by decide) trivial
       ·
        have h7' := h7
        replace h7' := of_decide_eq_true h7'
        refine zAA rfl (.r rfl (zAC rfl rfl underlying56 rfl sizeOf9 (by decide)) (.r rfl (zAD rfl rfl rfl isAgg9 rfl) (.r rfl (zAC rfl rfl underlying56 rfl sizeOf9 (by decide)) (.r rfl (zAD rfl rfl rfl isAgg9 rfl) (.r rfl (zAL (zFV rfl rfl rfl) (by exact congrArg (fun b => AV.p none (.v (.bool b))) h4)) (.m rfl rfl (.r rfl (zAC rfl rfl underlying56 rfl sizeOf9 (by decide)) (.r rfl (zAD rfl rfl rfl isAgg9 rfl) (.r rfl (zAC rfl rfl underlying56 rfl sizeOf9 (by decide)) (.r rfl (zAD rfl rfl rfl isAgg9 rfl) (.r rfl (zAL (zDQ rfl rfl rfl) (by exact congrArg (fun b => AV.p none (.v (.bool b))) h5)) (.m rfl rfl (.r rfl (zAC rfl rfl underlying56 rfl sizeOf2 (by decide)) (.r rfl (zAD rfl rfl rfl isAgg2 rfl) (.r rfl (zAC rfl rfl underlying56 rfl sizeOf2 (by decide)) (.r rfl (zAD rfl rfl rfl isAgg2 rfl) (.r rfl (zAL (zBE rfl rfl rfl) (by exact congrArg (fun b => AV.p none (.v (.bool b))) h6)) (.m rfl rfl (.r rfl (zAC rfl rfl underlying56 rfl sizeOf2 (by decide)) (.r rfl (zAD rfl rfl rfl isAgg2 rfl) (.r rfl (zAC rfl rfl underlying56 rfl sizeOf2 (by decide)) (.r rfl (zAD rfl rfl rfl isAgg2 rfl) (.r rfl (zAL (zBB rfl rfl rfl) (by exact congrArg (fun b => AV.p none (.v (.bool b))) h7)) (.m rfl rfl (.r rfl (zAC rfl rfl underlying56 rfl sizeOf2 (by decide)) (.r rfl (zAD rfl rfl rfl isAgg2 rfl) (.r rfl (zAC rfl rfl underlying56 rfl sizeOf2 (by decide)) (.r rfl (zAD rfl rfl rfl isAgg2 rfl) (.r rfl (zBE rfl rfl rfl) (.r rfl (zAc (t := true) rfl rfl) (.r rfl (zAc (t := false) rfl rfl) (.r rfl (zAc (t := true) rfl rfl) (.r rfl (zAc (t := false) rfl rfl) .nil))))))))))))))))))))))))))))))))) ?_
        refine zAT (t := decide (b.kind < a.kind)) rfl (fun h8 => ?_) (fun h8 => ?_)
        ·
         replace h8 := of_decide_eq_true h8
         refine zAB ?_
         refine zAO (s' := mk [] [] []) ?_ ?_
         · exact zAJ trivial trivial trivial rfl
         refine zAA rfl (.a rfl rfl .nil) ?_
         refine zAI ?_
         exact ends [_] [] (.cons (.tmp (zAE (by rw [zEO h1' h2]; exact (zKU (by simp_all [LessE])).symm))) .nil) (.cons (.one .v (.v _)) .nil) (by decide) trivial
        ·
         replace h8 := of_decide_eq_false h8
         refine zAK ?_
         refine zAB ?_
         refine zAO (s' := mk [] [] []) ?_ ?_
         · exact zAJ trivial trivial trivial rfl
         refine zAA rfl (.a rfl rfl .nil) ?_
         refine zAI ?_
         exact ends [_] [] (.cons (.tmp (zAE (by rw [zEO h1' h2]; exact (zKV (by simp_all [LessE] <;> omega) (by have hk := h3; simp only [Prod.mk.injEq] at hk; exact hk)).symm))) .nil) (.cons (.one .v (.v _)) .nil) (by decide) trivial
      ·
       have h6' := h6
       replace h6' := of_decide_eq_true h6'
       refine zAA rfl (.r rfl (zAC rfl rfl underlying56 rfl sizeOf9 (by decide)) (.r rfl (zAD rfl rfl rfl isAgg9 rfl) (.r rfl (zAC rfl rfl underlying56 rfl sizeOf9 (by decide)) (.r rfl (zAD rfl rfl rfl isAgg9 rfl) (.r rfl (zAL (zFV rfl rfl rfl) (by exact congrArg (fun b => AV.p none (.v (.bool b))) h4)) (.m rfl rfl (.r rfl (zAC rfl rfl underlying56 rfl sizeOf9 (by decide)) (.r rfl (zAD rfl rfl rfl isAgg9 rfl) (.r rfl (zAC rfl rfl underlying56 rfl sizeOf9 (by decide)) (.r rfl (zAD rfl rfl rfl isAgg9 rfl) (.r rfl (zAL (zDQ rfl rfl rfl) (by exact congrArg (fun b => AV.p none (.v (.bool b))) h5)) (.m rfl rfl (.r rfl (zAC rfl rfl underlying56 rfl sizeOf2 (by decide)) (.r rfl (zAD rfl rfl rfl isAgg2 rfl) (.r rfl (zAC rfl rfl underlying56 rfl sizeOf2 (by decide)) (.r rfl (zAD rfl rfl rfl isAgg2 rfl) (.r rfl (zAL (zBE rfl rfl rfl) (by exact congrArg (fun b => AV.p none (.v (.bool b))) h6)) (.m rfl rfl (.not rfl (.not rfl (.not rfl (.not rfl (.not rfl (.not rfl (.not rfl (.not rfl (.not rfl (.not rfl (.not rfl (.not rfl (.r rfl (zAc (t := true) rfl rfl) (.r rfl (zAc (t := true) rfl rfl) (.r rfl (zAc (t := false) rfl rfl) .nil))))))))))))))))))))))))))))))))) ?_
       refine zAT (t := true) rfl (fun _ => ?_) (fun h => nomatch h)
       refine zAB ?_
       refine zAO (s' := mk [] [] []) ?_ ?_
       · exact zAJ trivial trivial trivial rfl
       refine zAA rfl (.a rfl rfl .nil) ?_
       refine zAI ?_
       exact ends [_] [] (.cons (.tmp (zAE (by rw [zEO h1' h2]; exact (zKU (by simp_all [LessE])).symm))) .nil) (.cons (.one .v (.v _)) .nil) (by decide) trivial
    ·
     have h4' := h4
     refine zAA rfl (.r rfl (zAC rfl rfl underlying56 rfl sizeOf9 (by decide)) (.r rfl (zAD rfl rfl rfl isAgg9 rfl) (.r rfl (zAC rfl rfl underlying56 rfl sizeOf9 (by decide)) (.r rfl (zAD rfl rfl rfl isAgg9 rfl) (.r rfl (zAL (zFV rfl rfl rfl) (by exact congrArg (fun b => AV.p none (.v (.bool b))) h4)) (.m rfl rfl (.not rfl (.not rfl (.not rfl (.not rfl (.not rfl (.not rfl (.not rfl (.not rfl (.not rfl (.not rfl (.not rfl (.not rfl (.not rfl (.not rfl (.not rfl (.not rfl (.not rfl (.not rfl (.not rfl (.not rfl (.not rfl (.not rfl (.not rfl (.not rfl (.not rfl (.not rfl (.r rfl (zAc (t := true) rfl rfl) .nil))))))))))))))))))))))))))))))))) ?_
     refine zAT (t := true) rfl (fun _ => ?_) (fun h => nomatch h)
     refine zAB ?_
     refine zAO (s' := mk [] [] []) ?_ ?_
     · exact zAJ trivial trivial trivial rfl
     refine zAA rfl (.a rfl rfl .nil) ?_
     refine zAI ?_
     exact ends [_] [] (.cons (.tmp (zAE (by rw [zEO h1' h2]; exact (zKU (by simp_all [LessE])).symm))) .nil) (.cons (.one .v (.v _)) .nil) (by decide) trivial
 ·
  have h1' := h1
  replace h1' : (zBp a.user a.seq a.kind) = false := zAm h1'
  refine zAA rfl (.r rfl (zAZ rfl rfl rfl isAgg56 sizeOf56 (nle rfl)) (.run [600] [] rfl (zAF rfl 600 (X := []) en55 rfl (.val nod) (.cons (.agg (.cons (.bor .v) (.cons (.bor .v) (.cons (.bor .v) .nil)))) .nil) (by decide) all_nil .nil (zBz a) rfl rfl (nle rfl)) (.r rfl (zAL (zAa (b := zBp a.user a.seq a.kind) rfl rfl) (by exact congrArg (fun b => AV.p none (.v (.bool b))) h1)) (.m rfl rfl (.not rfl (.not rfl (.not rfl (.r rfl (zAc (t := true) rfl rfl) .nil)))))))) ?_
  refine zAT (t := true) rfl (fun _ => ?_) (fun h => nomatch h)
  refine zAB (zAA rfl (.a rfl rfl .nil) ?_)
  refine zAI ?_
  exact ends [_] [] (.cons (.tmp (zAE (by simp [kcmp, h1']))) .nil) (.cons (.one .v (.v _)) .nil) (by decide) trivial
theorem zCa (l : List Ent) (hl : l.length ≤ 2000000) : Con Tryd.prog 36 [.one (PV.sl false 4 (pvE l))] [] [.one (.v (.bool (zBJ l)))] := by
 refine zAR func36 rfl rfl rfl rfl ?_
 have hle := zAf l
 refine zAB (zAA rfl (.a rfl rfl .nil) ?_)
 refine zAB ?_
 refine zAB (zAA rfl (.m rfl rfl (.r rfl (zAp rfl rfl underlying28) (.r rfl (zBE rfl rfl rfl) .nil))) ?_)
 refine zAT (t := decide (400 < ((pvE l).length : Int))) rfl (fun h1 => ?_) (fun h1 => ?_)
 ·
  replace h1 := of_decide_eq_true h1
  refine zAB (zAA rfl (.a rfl rfl .nil) ?_)
  refine zAI ?_
  exact ends [_] [] (.cons (.tmp (zAG (zJS (by omega)).symm)) .nil) (.cons (.one .v (.v _)) .nil) (by decide) trivial
 ·
  replace h1 := of_decide_eq_false h1
  refine zAK ?_
  refine zAB ?_
  refine zAB (zAA rfl (.m rfl rfl (.r rfl (zAp rfl rfl underlying28) (.m rfl rfl .nil))) ?_)
  refine zAS ?_
  refine zAj (σ := Nat) (fun i => mk [(0, .p none (.sl false 4 (pvE l))), (8, .p none (.sl false 4 (pvE l))), (9, .vi ((pvE l).length : Int)), (10, .vi (i:Int))] [] []) (fun i => i ≤ l.length ∧ ∀ j e, j < i → l[j]? = some e → zDX l j e = true) (fun i => l.length - i) 0 ⟨Nat.zero_le _, fun _ _ h => absurd h (Nat.not_lt_zero _)⟩ (zAJ ⟨rfl, rfl, rfl, (zAE (by omega)), trivial⟩ trivial trivial rfl) ?_
  rintro i hG
  replace hG : i ≤ l.length ∧ ∀ j e, j < i → l[j]? = some e → zDX l j e = true := hG
  obtain ⟨hi, hG⟩ := hG
  refine zAB (zAA rfl (.r rfl (zAt rfl rfl rfl) .nil) ?_)
  refine zAB ?_
  refine zAT (t := decide ((i:Int) < ((pvE l).length : Int))) rfl (fun h2 => ?_) (fun h2 => ?_)
  ·
   replace h2 := of_decide_eq_true h2
   refine zAK ?_
   refine zAB ?_
   refine zAS ?_
   refine zAB ?_
   obtain ⟨e, he⟩ : ∃ e, l[i]? = some e := ⟨_, List.getElem?_eq_getElem (by (have hL := zAf l; omega))⟩
   have hlte := (List.getElem?_eq_some_iff.1 he).1
   refine zAA rfl (.m rfl rfl (.r rfl (zAq rfl rfl rfl underlying28 sizeOf58 rfl (by omega) (zBZ he)) (.r rfl (zBY rfl rfl isAgg58 sizeOf58 (nle rfl)) (.run [] [4] rfl (zBA rfl 4 zEH rfl (by decide) rfl (by decide)) (.a rfl rfl (.r rfl (zAN rfl rfl rfl rfl rfl sizeOf58 rfl (nle rfl)) .nil)))))) ?_
   refine zAB ?_
   refine zAO (s' := mk [(0, .p none (.sl false 4 (pvE l))), (3, .vi (i:Int)), (4, .ptr 4 0), (8, .p none (.sl false 4 (pvE l))), (9, .vi ((pvE l).length : Int)), (10, .vi (i:Int))] [(4, [.vs e.user, .vi e.seq, .vi e.kind, .vs e.value])] []) ?_ ?_
   · exact zAJ ⟨rfl, rfl, rfl, rfl, rfl, rfl, trivial⟩ ⟨rfl, trivial⟩ trivial rfl
   rcases bfc (!(zBt e)) with h3 | h3
   ·
    have h3' := h3
    replace h3' : (zBt e) = true := zAn h3'
    rcases bfc (decide (0 < (i:Int))) with h4 | h4
    ·
     have h4' := h4
     replace h4' := of_decide_eq_false h4'
     refine zAb zBh rfl (.r rfl (zAZ rfl rfl rfl isAgg58 sizeOf58 (nle rfl)) (.run [1600] [] rfl (zAF rfl 1600 (X := []) en63 rfl (.val nod) (.cons (.agg (.cons (.bor .v) (.cons (.bor .v) (.cons (.bor .v) (.cons (.bor .v) .nil))))) .nil) (by decide) all_nil .nil (zE4 e) rfl rfl (nle rfl)) (.r rfl (zAL (zAa (b := zBt e) rfl rfl) (by exact congrArg (fun b => AV.p none (.v (.bool b))) h3)) (.m rfl rfl (.m rfl rfl (.r rfl (zAL (zBE rfl rfl rfl) (by exact congrArg (fun b => AV.p none (.v (.bool b))) h4)) (.m rfl rfl (.not rfl (.not rfl (.not rfl (.not rfl (.not rfl (.not rfl (.not rfl (.not rfl (.not rfl (.not rfl (.r rfl (zAc (t := false) rfl rfl) (.r rfl (zAc (t := false) rfl rfl) .nil))))))))))))))))))) (by kernel_rfl) ?_
     refine zAT (t := false) rfl (fun h => nomatch h) (fun _ => ?_)
     refine zAK ?_
     refine zAO (s' := mk [(0, .p none (.sl false 4 (pvE l))), (8, .p none (.sl false 4 (pvE l))), (9, .vi ((pvE l).length : Int)), (10, .vi (i:Int)), (19, .vi (i:Int)), (20, .vb false), (21, .vb false), (32, .vb false)] [] []) ?_ ?_
     · exact zAJ ⟨rfl, rfl, rfl, rfl, rfl, rfl, rfl, rfl, trivial⟩ trivial trivial rfl
     refine zAA rfl (.r rfl (zAW rfl rfl rfl (by omega)) (.m rfl rfl .nil)) ?_
     refine nxt (Q := fun _ _ => False) (z := i) (i + 1) ?_ ?_ ?_
     ·
      show (i + 1) ≤ l.length ∧ ∀ j e, j < (i + 1) → l[j]? = some e → zDX l j e = true
      exact ⟨by omega, zIK hG he (zGk h3' (by omega))⟩
     ·
      show l.length - (i + 1) < l.length - i
      omega
     · exact zAJ ⟨rfl, rfl, rfl, (zAE (by omega)), trivial⟩ trivial trivial rfl
    ·
     have h4' := h4
     replace h4' := of_decide_eq_true h4'
     obtain ⟨e2, he2⟩ : ∃ e, l[(i - 1 : Nat)]? = some e := ⟨_, List.getElem?_eq_getElem (by (have hL := zAf l; omega))⟩
     have hlte2 := (List.getElem?_eq_some_iff.1 he2).1
     refine zAb zBh rfl (.r rfl (zAZ rfl rfl rfl isAgg58 sizeOf58 (nle rfl)) (.run [1600] [] rfl (zAF rfl 1600 (X := []) en63 rfl (.val nod) (.cons (.agg (.cons (.bor .v) (.cons (.bor .v) (.cons (.bor .v) (.cons (.bor .v) .nil))))) .nil) (by decide) all_nil .nil (zE4 e) rfl rfl (nle rfl)) (.r rfl (zAL (zAa (b := zBt e) rfl rfl) (by exact congrArg (fun b => AV.p none (.v (.bool b))) h3)) (.m rfl rfl (.m rfl rfl (.r rfl (zAL (zBE rfl rfl rfl) (by exact congrArg (fun b => AV.p none (.v (.bool b))) h4)) (.m rfl rfl (.m rfl rfl (.m rfl rfl (.r rfl (zAL (zBw rfl rfl rfl (by omega)) (((show (AV.p none (.v (.int .i64 ((i:Int) - 1)))) = AV.p none (.v (.int .i64 ((i - 1 : Nat) : Int))) from zAE (by omega))))) (.r rfl (zAq rfl rfl rfl underlying28 sizeOf58 rfl (by omega) (zBZ he2)) (.r rfl (zAk rfl rfl underlying58 rfl sizeOf56 (by decide)) (.r rfl (zBY rfl rfl isAgg56 sizeOf56 (nle rfl)) (.r rfl (zAC rfl rfl underlying58 rfl sizeOf56 (by decide)) (.r rfl (zAZ rfl rfl rfl isAgg56 sizeOf56 (nle rfl)) (.run [3000] [] rfl (zAF rfl 3000 (X := []) en64 rfl (.val nod) (.cons (.agg (.cons (.bor .v) (.cons (.bor .v) (.cons (.bor .v) .nil)))) (.cons (.agg (.cons (.bor .v) (.cons (.bor .v) (.cons (.bor .v) .nil)))) .nil)) (by decide) all_nil .nil (zKT e2 e) rfl rfl (nle rfl)) (.r rfl (zDH rfl rfl rfl) (.r rfl (zAc (t := true) rfl rfl) (.r rfl (zAc (t := false) rfl rfl) .nil))))))))))))))))))) (by kernel_rfl) ?_
     refine zAT (t := decide (0 ≤ (cmpK e2 e))) rfl (fun h5 => ?_) (fun h5 => ?_)
     ·
      replace h5 := of_decide_eq_true h5
      refine zAB ?_
      refine zAO (s' := mk [] [] []) ?_ ?_
      · exact zAJ trivial trivial trivial rfl
      refine zAA rfl (.a rfl rfl .nil) ?_
      refine zAI ?_
      exact ends [_] [] (.cons (.tmp (zAG (zIW he (zJB (by omega) he2 h5)).symm)) .nil) (.cons (.one .v (.v _)) .nil) (by decide) trivial
     ·
      replace h5 := of_decide_eq_false h5
      refine zAK ?_
      refine zAO (s' := mk [(0, .p none (.sl false 4 (pvE l))), (8, .p none (.sl false 4 (pvE l))), (9, .vi ((pvE l).length : Int)), (10, .vi (i:Int)), (19, .vi (i:Int)), (20, .vb true), (21, .vb true), (22, .p none (.sl false 4 (pvE l))), (23, .vi (i:Int)), (24, .vi ((i - 1 : Nat):Int)), (25, .fea none [PV.v (.string e2.user), PV.v (.int .i64 e2.seq), PV.v (.int .i64 e2.kind), PV.v (.string e2.value)]), (26, .fea none [PV.v (.string e2.user), PV.v (.int .i64 e2.seq), PV.v (.int .i64 e2.kind), PV.v (.string e2.value)]), (27, .agg [.vs e2.user, .vi e2.seq, .vi e2.kind]), (28, .ptr 4 0), (29, .agg [.vs e.user, .vi e.seq, .vi e.kind]), (30, .vi (cmpK e2 e)), (31, .vb (decide (0 ≤ (cmpK e2 e)))), (32, .vb (decide (0 ≤ (cmpK e2 e))))] [(4, [.vs e.user, .vi e.seq, .vi e.kind, .vs e.value])] []) ?_ ?_
      · exact zAJ ⟨rfl, rfl, rfl, rfl, rfl, rfl, rfl, rfl, rfl, rfl, rfl, rfl, rfl, rfl, rfl, rfl, rfl, rfl, trivial⟩ ⟨rfl, trivial⟩ trivial rfl
      refine zAA rfl (.r rfl (zAW rfl rfl rfl (by omega)) (.m rfl rfl .nil)) ?_
      refine nxt (Q := fun _ _ => False) (z := i) (i + 1) ?_ ?_ ?_
      ·
       show (i + 1) ≤ l.length ∧ ∀ j e, j < (i + 1) → l[j]? = some e → zDX l j e = true
       exact ⟨by omega, zIK hG he (zHe h3' he2 h5)⟩
      ·
       show l.length - (i + 1) < l.length - i
       omega
      · exact zAJ ⟨rfl, rfl, rfl, (zAE (by omega)), trivial⟩ trivial trivial rfl
   ·
    have h3' := h3
    replace h3' : (zBt e) = false := zAm h3'
    refine zAb zBh rfl (.r rfl (zAZ rfl rfl rfl isAgg58 sizeOf58 (nle rfl)) (.run [1600] [] rfl (zAF rfl 1600 (X := []) en63 rfl (.val nod) (.cons (.agg (.cons (.bor .v) (.cons (.bor .v) (.cons (.bor .v) (.cons (.bor .v) .nil))))) .nil) (by decide) all_nil .nil (zE4 e) rfl rfl (nle rfl)) (.r rfl (zAL (zAa (b := zBt e) rfl rfl) (by exact congrArg (fun b => AV.p none (.v (.bool b))) h3)) (.m rfl rfl (.not rfl (.not rfl (.not rfl (.not rfl (.not rfl (.not rfl (.not rfl (.not rfl (.not rfl (.not rfl (.not rfl (.not rfl (.not rfl (.not rfl (.r rfl (zAc (t := true) rfl rfl) .nil))))))))))))))))))) (by kernel_rfl) ?_
    refine zAT (t := true) rfl (fun _ => ?_) (fun h => nomatch h)
    refine zAB ?_
    refine zAO (s' := mk [] [] []) ?_ ?_
    · exact zAJ trivial trivial trivial rfl
    refine zAA rfl (.a rfl rfl .nil) ?_
    refine zAI ?_
    exact ends [_] [] (.cons (.tmp (zAG (zIW he (zJD h3')).symm)) .nil) (.cons (.one .v (.v _)) .nil) (by decide) trivial
  ·
   replace h2 := of_decide_eq_false h2
   refine zAi ?_
   refine zAB (zAA rfl (.a rfl rfl .nil) ?_)
   refine zAI ?_
   exact ends [_] [] (.cons (.tmp (zAG (zLM (by omega) (by omega) hG).symm)) .nil) (.cons (.one .v (.v _)) .nil) (by decide) trivial
theorem zBm (l : List Ent) (hl : l.length ≤ 2000000) : Con Tryd.prog 23 [.one (PV.sl false 4 (pvE l))] [] [.one (.v (.bool (zBJ l)))] := by
 refine zAR func23 rfl rfl rfl rfl ?_
 have hle := zAf l
 refine zAB (zAA rfl (.a rfl rfl .nil) ?_)
 refine zAB ?_
 refine zAB (zAA rfl (.m rfl rfl (.r rfl (zAp rfl rfl underlying28) (.r rfl (zBE rfl rfl rfl) .nil))) ?_)
 refine zAT (t := decide (400 < ((pvE l).length : Int))) rfl (fun h1 => ?_) (fun h1 => ?_)
 ·
  replace h1 := of_decide_eq_true h1
  refine zAB (zAA rfl (.a rfl rfl .nil) ?_)
  refine zAI ?_
  exact ends [_] [] (.cons (.tmp (zAG (zJS (by omega)).symm)) .nil) (.cons (.one .v (.v _)) .nil) (by decide) trivial
 ·
  replace h1 := of_decide_eq_false h1
  refine zAK ?_
  refine zAB ?_
  refine zAB (zAA rfl (.a rfl rfl .nil) ?_)
  refine zAS ?_
  refine zAj (σ := Nat) (fun i => mk [(0, .p none (.sl false 4 (pvE l))), (3, .vi (i:Int))] [] []) (fun i => i ≤ l.length ∧ ∀ j e, j < i → l[j]? = some e → zDX l j e = true) (fun i => l.length - i) 0 ⟨Nat.zero_le _, fun _ _ h => absurd h (Nat.not_lt_zero _)⟩ (zAJ ⟨rfl, (zAE (by omega)), trivial⟩ trivial trivial rfl) ?_
  rintro i hG
  replace hG : i ≤ l.length ∧ ∀ j e, j < i → l[j]? = some e → zDX l j e = true := hG
  obtain ⟨hi, hG⟩ := hG
  refine zAB ?_
  refine zAB (zAA rfl (.m rfl rfl (.m rfl rfl (.r rfl (zAp rfl rfl underlying28) (.r rfl (zAt rfl rfl rfl) .nil)))) ?_)
  refine zAT (t := decide ((i:Int) < ((pvE l).length : Int))) rfl (fun h2 => ?_) (fun h2 => ?_)
  ·
   replace h2 := of_decide_eq_true h2
   refine zAK ?_
   refine zAB ?_
   refine zAS ?_
   refine zAB ?_
   refine zAO (s' := mk [(0, .p none (.sl false 4 (pvE l))), (3, .vi (i:Int))] [] []) ?_ ?_
   · exact zAJ ⟨rfl, rfl, trivial⟩ trivial trivial rfl
   obtain ⟨e, he⟩ : ∃ e, l[i]? = some e := ⟨_, List.getElem?_eq_getElem (by (have hL := zAf l; omega))⟩
   have hlte := (List.getElem?_eq_some_iff.1 he).1
   rcases bfc (!(zBt e)) with h3 | h3
   ·
    have h3' := h3
    replace h3' : (zBt e) = true := zAn h3'
    rcases bfc (decide (0 < (i:Int))) with h4 | h4
    ·
     have h4' := h4
     replace h4' := of_decide_eq_false h4'
     refine zAb zBh rfl (.m rfl rfl (.m rfl rfl (.r rfl (zAq rfl rfl rfl underlying28 sizeOf58 rfl (by omega) (zBZ he)) (.r rfl (zBY rfl rfl isAgg58 sizeOf58 (nle rfl)) (.run [1700] [] rfl (zAF rfl 1700 (X := []) en51 rfl (.val nod) (.cons (.agg (.cons (.bor .v) (.cons (.bor .v) (.cons (.bor .v) (.cons (.bor .v) .nil))))) .nil) (by decide) all_nil .nil (zDS e) rfl rfl (nle rfl)) (.r rfl (zAL (zAa (b := zBt e) rfl rfl) (by exact congrArg (fun b => AV.p none (.v (.bool b))) h3)) (.m rfl rfl (.m rfl rfl (.r rfl (zAL (zBE rfl rfl rfl) (by exact congrArg (fun b => AV.p none (.v (.bool b))) h4)) (.m rfl rfl (.not rfl (.not rfl (.not rfl (.not rfl (.not rfl (.not rfl (.not rfl (.not rfl (.not rfl (.not rfl (.not rfl (.not rfl (.not rfl (.r rfl (zAc (t := false) rfl rfl) (.r rfl (zAc (t := false) rfl rfl) .nil))))))))))))))))))))))))) (by kernel_rfl) ?_
     refine zAT (t := false) rfl (fun h => nomatch h) (fun _ => ?_)
     refine zAK ?_
     refine zAO (s' := mk [(0, .p none (.sl false 4 (pvE l))), (3, .vi (i:Int)), (20, .vi (i:Int)), (21, .vb false), (22, .vb false), (36, .vb false)] [] []) ?_ ?_
     · exact zAJ ⟨rfl, rfl, rfl, rfl, rfl, rfl, trivial⟩ trivial trivial rfl
     refine zAA rfl (.m rfl rfl (.r rfl (zAW rfl rfl rfl (by omega)) (.a rfl rfl .nil))) ?_
     refine nxt (Q := fun _ _ => False) (z := i) (i + 1) ?_ ?_ ?_
     ·
      show (i + 1) ≤ l.length ∧ ∀ j e, j < (i + 1) → l[j]? = some e → zDX l j e = true
      exact ⟨by omega, zIK hG he (zGk h3' (by omega))⟩
     ·
      show l.length - (i + 1) < l.length - i
      omega
     · exact zAJ ⟨rfl, (zAE (by omega)), trivial⟩ trivial trivial rfl
    ·
     have h4' := h4
     replace h4' := of_decide_eq_true h4'
     obtain ⟨e2, he2⟩ : ∃ e, l[(i - 1 : Nat)]? = some e := ⟨_, List.getElem?_eq_getElem (by (have hL := zAf l; omega))⟩
     have hlte2 := (List.getElem?_eq_some_iff.1 he2).1
     refine zAb zBh rfl (.m rfl rfl (.m rfl rfl (.r rfl (zAq rfl rfl rfl underlying28 sizeOf58 rfl (by omega) (zBZ he)) (.r rfl (zBY rfl rfl isAgg58 sizeOf58 (nle rfl)) (.run [1700] [] rfl (zAF rfl 1700 (X := []) en51 rfl (.val nod) (.cons (.agg (.cons (.bor .v) (.cons (.bor .v) (.cons (.bor .v) (.cons (.bor .v) .nil))))) .nil) (by decide) all_nil .nil (zDS e) rfl rfl (nle rfl)) (.r rfl (zAL (zAa (b := zBt e) rfl rfl) (by exact congrArg (fun b => AV.p none (.v (.bool b))) h3)) (.m rfl rfl (.m rfl rfl (.r rfl (zAL (zBE rfl rfl rfl) (by exact congrArg (fun b => AV.p none (.v (.bool b))) h4)) (.m rfl rfl (.m rfl rfl (.m rfl rfl (.r rfl (zAL (zBw rfl rfl rfl (by omega)) (((show (AV.p none (.v (.int .i64 ((i:Int) - 1)))) = AV.p none (.v (.int .i64 ((i - 1 : Nat) : Int))) from zAE (by omega))))) (.r rfl (zAq rfl rfl rfl underlying28 sizeOf58 rfl (by omega) (zBZ he2)) (.r rfl (zAk rfl rfl underlying58 rfl sizeOf56 (by decide)) (.r rfl (zBY rfl rfl isAgg56 sizeOf56 (nle rfl)) (.m rfl rfl (.m rfl rfl (.r rfl (zAq rfl rfl rfl underlying28 sizeOf58 rfl (by omega) (zBZ he)) (.r rfl (zAk rfl rfl underlying58 rfl sizeOf56 (by decide)) (.r rfl (zBY rfl rfl isAgg56 sizeOf56 (nle rfl)) (.run [3400] [] rfl (zAF rfl 3400 (X := []) en52 rfl (.val nod) (.cons (.agg (.cons (.bor .v) (.cons (.bor .v) (.cons (.bor .v) .nil)))) (.cons (.agg (.cons (.bor .v) (.cons (.bor .v) (.cons (.bor .v) .nil)))) .nil)) (by decide) all_nil .nil (zHB e2 e) rfl rfl (nle rfl)) (.r rfl (zDH rfl rfl rfl) (.r rfl (zAc (t := true) rfl rfl) (.r rfl (zAc (t := false) rfl rfl) .nil))))))))))))))))))))))))) (by kernel_rfl) ?_
     refine zAT (t := decide (0 ≤ (kcmp e2 e))) rfl (fun h5 => ?_) (fun h5 => ?_)
     ·
      replace h5 := of_decide_eq_true h5
      refine zAB ?_
      refine zAO (s' := mk [] [] []) ?_ ?_
      · exact zAJ trivial trivial trivial rfl
      refine zAA rfl (.a rfl rfl .nil) ?_
      refine zAI ?_
      exact ends [_] [] (.cons (.tmp (zAG (zIW he (zJB (by omega) he2 (by rw [← kc_ok hG (by omega) he2 h3']; exact h5))).symm)) .nil) (.cons (.one .v (.v _)) .nil) (by decide) trivial
     ·
      replace h5 := of_decide_eq_false h5
      refine zAK ?_
      refine zAO (s' := mk [(0, .p none (.sl false 4 (pvE l))), (3, .vi (i:Int)), (20, .vi (i:Int)), (21, .vb true), (22, .vb true), (23, .p none (.sl false 4 (pvE l))), (24, .vi (i:Int)), (25, .vi ((i - 1 : Nat):Int)), (26, .fea none [PV.v (.string e2.user), PV.v (.int .i64 e2.seq), PV.v (.int .i64 e2.kind), PV.v (.string e2.value)]), (27, .fea none [PV.v (.string e2.user), PV.v (.int .i64 e2.seq), PV.v (.int .i64 e2.kind), PV.v (.string e2.value)]), (28, .agg [.vs e2.user, .vi e2.seq, .vi e2.kind]), (29, .p none (.sl false 4 (pvE l))), (30, .vi (i:Int)), (31, .fea none [PV.v (.string e.user), PV.v (.int .i64 e.seq), PV.v (.int .i64 e.kind), PV.v (.string e.value)]), (32, .fea none [PV.v (.string e.user), PV.v (.int .i64 e.seq), PV.v (.int .i64 e.kind), PV.v (.string e.value)]), (33, .agg [.vs e.user, .vi e.seq, .vi e.kind]), (34, .vi (kcmp e2 e)), (35, .vb (decide (0 ≤ (kcmp e2 e)))), (36, .vb (decide (0 ≤ (kcmp e2 e))))] [] []) ?_ ?_
      · exact zAJ ⟨rfl, rfl, rfl, rfl, rfl, rfl, rfl, rfl, rfl, rfl, rfl, rfl, rfl, rfl, rfl, rfl, rfl, rfl, rfl, trivial⟩ trivial trivial rfl
      refine zAA rfl (.m rfl rfl (.r rfl (zAW rfl rfl rfl (by omega)) (.a rfl rfl .nil))) ?_
      refine nxt (Q := fun _ _ => False) (z := i) (i + 1) ?_ ?_ ?_
      ·
       show (i + 1) ≤ l.length ∧ ∀ j e, j < (i + 1) → l[j]? = some e → zDX l j e = true
       exact ⟨by omega, zIK hG he (zHe h3' he2 (by rw [← kc_ok hG (by omega) he2 h3']; exact h5))⟩
      ·
       show l.length - (i + 1) < l.length - i
       omega
      · exact zAJ ⟨rfl, (zAE (by omega)), trivial⟩ trivial trivial rfl
   ·
    have h3' := h3
    replace h3' : (zBt e) = false := zAm h3'
    refine zAb zBh rfl (.m rfl rfl (.m rfl rfl (.r rfl (zAq rfl rfl rfl underlying28 sizeOf58 rfl (by omega) (zBZ he)) (.r rfl (zBY rfl rfl isAgg58 sizeOf58 (nle rfl)) (.run [1700] [] rfl (zAF rfl 1700 (X := []) en51 rfl (.val nod) (.cons (.agg (.cons (.bor .v) (.cons (.bor .v) (.cons (.bor .v) (.cons (.bor .v) .nil))))) .nil) (by decide) all_nil .nil (zDS e) rfl rfl (nle rfl)) (.r rfl (zAL (zAa (b := zBt e) rfl rfl) (by exact congrArg (fun b => AV.p none (.v (.bool b))) h3)) (.m rfl rfl (.not rfl (.not rfl (.not rfl (.not rfl (.not rfl (.not rfl (.not rfl (.not rfl (.not rfl (.not rfl (.not rfl (.not rfl (.not rfl (.not rfl (.not rfl (.not rfl (.not rfl (.r rfl (zAc (t := true) rfl rfl) .nil))))))))))))))))))))))))) (by kernel_rfl) ?_
    refine zAT (t := true) rfl (fun _ => ?_) (fun h => nomatch h)
    refine zAB ?_
    refine zAO (s' := mk [] [] []) ?_ ?_
    · exact zAJ trivial trivial trivial rfl
    refine zAA rfl (.a rfl rfl .nil) ?_
    refine zAI ?_
    exact ends [_] [] (.cons (.tmp (zAG (zIW he (zJD h3')).symm)) .nil) (.cons (.one .v (.v _)) .nil) (by decide) trivial
  ·
   replace h2 := of_decide_eq_false h2
   refine zAi ?_
   refine zAB (zAA rfl (.a rfl rfl .nil) ?_)
   refine zAI ?_
   exact ends [_] [] (.cons (.tmp (zAG (zLM (by omega) (by omega) hG).symm)) .nil) (.cons (.one .v (.v _)) .nil) (by decide) trivial
end Go.Rl
namespace Go.Rl
open Go.Proofs Go.Proofs.Tryd
set_option maxRecDepth 1000000
set_option maxHeartbeats 2000000
theorem en113 : En Tryd.prog 113 := zAh func113 (by decide) rfl
theorem en112 : En Tryd.prog 112 := zAh func112 (by decide) rfl
theorem zKJ (e : Ent) (u : ByteArray) (s : Int) : Con Tryd.prog 113 [.agg [PV.v (.string e.user), PV.v (.int .i64 e.seq), PV.v (.int .i64 e.kind), PV.v (.string e.value)], .fbox [PV.v (.string u)], .fbox [PV.v (.int .i64 s)]] [] [.one (.v (.bool (asOf u s e)))] := by
 refine zAR func113 rfl rfl rfl rfl ?_
 refine zAB (zAA rfl (.run [] [3] rfl (zB9 rfl 3 rfl rfl (by decide) rfl (by decide)) (.a rfl rfl .nil)) ?_)
 refine zAB ?_
 rcases bfc (decide (e.user = u)) with h1 | h1
 ·
  have h1' := h1
  replace h1' := of_decide_eq_false h1'
  refine zAA rfl (.r rfl (zAC rfl rfl underlying58 rfl sizeOf56 (by decide)) (.r rfl (zAC rfl rfl underlying56 rfl sizeOf9 (by decide)) (.r rfl (zAD rfl rfl rfl isAgg9 rfl) (.r rfl (zAx rfl rfl isAgg9 rfl) (.r rfl (zAL (zDQ rfl rfl rfl) (by exact congrArg (fun b => AV.p none (.v (.bool b))) h1)) (.m rfl rfl (.not rfl (.not rfl (.not rfl (.not rfl (.not rfl (.r rfl (zAc (t := false) rfl rfl) (.a rfl rfl .nil))))))))))))) ?_
  refine zAI ?_
  exact ends [_] [] (.cons (.tmp (zAG (by simp only [asOf, h1, Bool.true_and, Bool.false_and]))) .nil) (.cons (.one .v (.v _)) .nil) (by decide) trivial
 ·
  have h1' := h1
  replace h1' := of_decide_eq_true h1'
  refine zAA rfl (.r rfl (zAC rfl rfl underlying58 rfl sizeOf56 (by decide)) (.r rfl (zAC rfl rfl underlying56 rfl sizeOf9 (by decide)) (.r rfl (zAD rfl rfl rfl isAgg9 rfl) (.r rfl (zAx rfl rfl isAgg9 rfl) (.r rfl (zAL (zDQ rfl rfl rfl) (by exact congrArg (fun b => AV.p none (.v (.bool b))) h1)) (.m rfl rfl (.r rfl (zAC rfl rfl underlying58 rfl sizeOf56 (by decide)) (.r rfl (zAC rfl rfl underlying56 rfl sizeOf2 (by decide)) (.r rfl (zAD rfl rfl rfl isAgg2 rfl) (.r rfl (zAx rfl rfl isAgg2 rfl) (.r rfl (zDG rfl rfl rfl) (.r rfl (zAc (t := true) rfl rfl) (.a rfl rfl .nil))))))))))))) ?_
  refine zAI ?_
  exact ends [_] [] (.cons (.tmp (zAG (by simp only [asOf, h1, Bool.true_and, Bool.false_and]))) .nil) (.cons (.one .v (.v _)) .nil) (by decide) trivial
theorem zHF (l : List Ent) (hl : l.length ≤ 2000000) (f : Nat) (pss : List (List PV)) (p : Ent → Bool) (hE : ∀ vs w, (callFunc f vs).run Tryd.prog w = .ok (.enter f vs) w) (hp : ∀ s ∈ l, Con Tryd.prog f ([.agg s.pv] ++ pss.map .fbox) [] [.one (.v (.bool (p s)))]) : Con Tryd.prog 112 [.one (PV.sl false 4 (pvE l)), .one (PV.clo f pss)] [] [.one (.v (.int .i64 (idxF p l)))] := by
 refine zAR func112 rfl rfl rfl rfl ?_
 have hle := zAf l
 refine zAB (zAA rfl (.a rfl rfl .nil) ?_)
 refine zAB ?_
 refine zAB (zAA rfl (.m rfl rfl (.r rfl (zAp rfl rfl underlying28) (.m rfl rfl .nil))) ?_)
 refine zAS ?_
 refine zAj (σ := Nat) (fun i => mk [(0, .p none (.sl false 4 (pvE l))), (1, .p none (.clo f pss)), (7, .vi ((pvE l).length : Int)), (8, .vi (i:Int))] [] []) (fun i => i ≤ l.length ∧ ∀ j e, j < i → l[j]? = some e → p e = false) (fun i => l.length - i) 0 ⟨Nat.zero_le _, fun _ _ h => absurd h (Nat.not_lt_zero _)⟩ (zAJ ⟨rfl, rfl, rfl, (zAE (by omega)), trivial⟩ trivial trivial rfl) ?_
 rintro i hG
 replace hG : i ≤ l.length ∧ ∀ j e, j < i → l[j]? = some e → p e = false := hG
 obtain ⟨hi, hG⟩ := hG
 refine zAB (zAA rfl (.r rfl (zAt rfl rfl rfl) .nil) ?_)
 refine zAB ?_
 refine zAT (t := decide ((i:Int) < ((pvE l).length : Int))) rfl (fun h1 => ?_) (fun h1 => ?_)
 ·
  replace h1 := of_decide_eq_true h1
  refine zAK ?_
  refine zAB ?_
  refine zAS ?_
  refine zAB (zAA rfl (.m rfl rfl (.a rfl rfl .nil)) ?_)
  refine zAB ?_
  obtain ⟨e, he⟩ : ∃ e, l[i]? = some e := ⟨_, List.getElem?_eq_getElem (by (have hL := zAf l; omega))⟩
  have hlte := (List.getElem?_eq_some_iff.1 he).1
  refine zAA rfl (.m rfl rfl (.m rfl rfl (.m rfl rfl (.r rfl (zAq rfl rfl rfl underlying28 sizeOf58 rfl (by omega) (zBZ he)) (.r rfl (zBY rfl rfl isAgg58 sizeOf58 (nle rfl)) (.run [1600] [] rfl (zAF rfl 1600 (X := []) hE rfl (.val nod) (.cons (.agg (.cons (.bor .v) (.cons (.bor .v) (.cons (.bor .v) (.cons (.bor .v) .nil))))) .nil) (by decide) all_nil .nil (hp e (List.mem_of_getElem? he)) rfl rfl (nle rfl)) .nil)))))) ?_
  refine zAT (t := p e) rfl (fun h2 => ?_) (fun h2 => ?_)
  ·
   refine zAB (zAA rfl (.m rfl rfl (.a rfl rfl .nil)) ?_)
   refine zAI ?_
   exact ends [_] [] (.cons (.tmp (zAE (zM8 hG he h2).symm)) .nil) (.cons (.one .v (.v _)) .nil) (by decide) trivial
  ·
   refine zAK ?_
   refine zAA rfl (.r rfl (zAW rfl rfl rfl (by omega)) (.m rfl rfl .nil)) ?_
   refine nxt (Q := fun _ _ => False) (z := i) (i + 1) ?_ ?_ ?_
   ·
    show (i + 1) ≤ l.length ∧ ∀ j e, j < (i + 1) → l[j]? = some e → p e = false
    exact ⟨by omega, zIL hG he h2⟩
   ·
    show l.length - (i + 1) < l.length - i
    omega
   · exact zAJ ⟨rfl, rfl, rfl, (zAE (by omega)), trivial⟩ trivial trivial rfl
 ·
  replace h1 := of_decide_eq_false h1
  refine zAi ?_
  refine zAB (zAA rfl (.a rfl rfl .nil) ?_)
  refine zAI ?_
  exact ends [_] [] (.cons (.tmp (zAE (zLA (by omega) hG).symm)) .nil) (.cons (.one .v (.v _)) .nil) (by decide) trivial
theorem zLt (l : List Ent) (u : ByteArray) (s : Int) (hl : l.length ≤ 2000000) : Con Tryd.prog 82 [.one (PV.sl false 4 (pvE l)), .one (PV.v (.string u)), .one (PV.v (.int .i64 s))] [] [.one (.v (.int .i64 (idxF (asOf u s) l)))] := by
 refine zAR func82 rfl rfl rfl rfl ?_
 have hle := zAf l
 refine zAB (zAA rfl (.run [] [4] rfl (zB9 rfl 4 rfl rfl (by decide) rfl (by decide)) (.run [] [5] rfl (zB9 rfl 5 rfl rfl (by decide) rfl (by decide)) (.a rfl rfl .nil))) ?_)
 refine zAB (zAA rfl (.m rfl rfl (.r rfl (st_func (bs := [4, 5]) rfl rfl) (.run [900] [4, 5] rfl (zAF rfl 900 (X := []) en112 rfl (.val nod) (.cons (.one (.bor (.sl nod))) (.cons (.one (.bor (.clo (.cons rfl (.cons .v .nil) (.cons rfl (.cons .v .nil) .nil))))) .nil)) (by decide) all_nil .nil (zHF l hl 113 [[.v (.string u)], [.v (.int .i64 s)]] (asOf u s) en113 (fun e _ => zKJ e u s)) rfl rfl (nle rfl)) (.a rfl rfl .nil)))) ?_)
 refine zAI ?_
 exact ends [_] [] (.cons (.tmp rfl) .nil) (.cons (.one .v (.v _)) .nil) (by decide) trivial
end Go.Rl
namespace Go.Rl
open Go.Proofs
end Go.Rl
namespace Go.Rl
open Go.Proofs Go.Proofs.Tryd
set_option maxRecDepth 1000000
set_option maxHeartbeats 2000000
theorem zFc : (Tryd.prog.info? 56).map (fun i => (i.zero, i.size, i.bytes)) = some (some (.agg #[.string ⟨#[]⟩, .int .i64 0, .int .i64 0]), 3, 32) := by kernel_rfl
theorem en76 : En Tryd.prog 76 := zAh func76 (by decide) rfl
theorem en39 : En Tryd.prog 39 := zAh func39 (by decide) rfl
theorem zNQ (a b : Ent) : Con Tryd.prog 76 [.agg [PV.v (.string a.user), PV.v (.int .i64 a.seq), PV.v (.int .i64 a.kind)], .agg [PV.v (.string b.user), PV.v (.int .i64 b.seq), PV.v (.int .i64 b.kind)]] [] [.one (.v (.bool (decide (a.user = b.user ∧ a.seq = b.seq ∧ a.kind = b.kind))))] := by
 refine zAR func76 rfl rfl rfl rfl ?_
 refine zAB (zAA rfl (.run [] [2] rfl (zB9 rfl 2 rfl rfl (by decide) rfl (by decide)) (.run [] [3] rfl (zB9 rfl 3 rfl rfl (by decide) rfl (by decide)) (.a rfl rfl .nil))) ?_)
 refine zAB ?_
 refine zAB (zAA rfl (.r rfl (zAC rfl rfl underlying56 rfl sizeOf9 (by decide)) (.r rfl (zAD rfl rfl rfl isAgg9 rfl) (.r rfl (zAC rfl rfl underlying56 rfl sizeOf9 (by decide)) (.r rfl (zAD rfl rfl rfl isAgg9 rfl) (.r rfl (zCC rfl rfl rfl) .nil))))) ?_)
 refine zAT (t := (!(decide (a.user = b.user)))) rfl (fun h1 => ?_) (fun h1 => ?_)
 ·
  replace h1 : ¬ (a.user = b.user) := of_decide_eq_false (zAm h1)
  refine zAB (zAA rfl (.a rfl rfl .nil) ?_)
  refine zAI ?_
  exact ends [_] [] (.cons (.tmp (zAG (by simp [h1]))) .nil) (.cons (.one .v (.v _)) .nil) (by decide) trivial
 ·
  replace h1 : a.user = b.user := of_decide_eq_true (zAn h1)
  refine zAK ?_
  refine zAB ?_
  refine zAB (zAA rfl (.r rfl (zAC rfl rfl underlying56 rfl sizeOf2 (by decide)) (.r rfl (zAD rfl rfl rfl isAgg2 rfl) (.r rfl (zAC rfl rfl underlying56 rfl sizeOf2 (by decide)) (.r rfl (zAD rfl rfl rfl isAgg2 rfl) (.r rfl (zB2 rfl rfl rfl) .nil))))) ?_)
  refine zAT (t := (!(decide (a.seq = b.seq)))) rfl (fun h2 => ?_) (fun h2 => ?_)
  ·
   replace h2 : ¬ (a.seq = b.seq) := of_decide_eq_false (zAm h2)
   refine zAB (zAA rfl (.a rfl rfl .nil) ?_)
   refine zAI ?_
   exact ends [_] [] (.cons (.tmp (zAG (by simp [h1, h2]))) .nil) (.cons (.one .v (.v _)) .nil) (by decide) trivial
  ·
   replace h2 : a.seq = b.seq := of_decide_eq_true (zAn h2)
   refine zAK ?_
   refine zAB ?_
   refine zAB ?_
   refine zAO (s' := mk [(2, .ptr 2 0), (3, .ptr 3 0)] [(2, [.vs a.user, .vi a.seq, .vi a.kind]), (3, [.vs b.user, .vi b.seq, .vi b.kind])] []) ?_ ?_
   · exact zAJ ⟨rfl, rfl, trivial⟩ ⟨rfl, rfl, trivial⟩ trivial rfl
   refine zAA rfl (.r rfl (zAC rfl rfl underlying56 rfl sizeOf2 (by decide)) (.r rfl (zAD rfl rfl rfl isAgg2 rfl) (.r rfl (zAC rfl rfl underlying56 rfl sizeOf2 (by decide)) (.r rfl (zAD rfl rfl rfl isAgg2 rfl) (.r rfl (zB2 rfl rfl rfl) .nil))))) ?_
   refine zAT (t := (!(decide (a.kind = b.kind)))) rfl (fun h3 => ?_) (fun h3 => ?_)
   ·
    replace h3 : ¬ (a.kind = b.kind) := of_decide_eq_false (zAm h3)
    refine zAB (zAA rfl (.a rfl rfl .nil) ?_)
    refine zAI ?_
    exact ends [_] [] (.cons (.tmp (zAG (by simp [h1, h2, h3]))) .nil) (.cons (.one .v (.v _)) .nil) (by decide) trivial
   ·
    replace h3 : a.kind = b.kind := of_decide_eq_true (zAn h3)
    refine zAK ?_
    refine zAB (zAA rfl (.a rfl rfl .nil) ?_)
    refine zAI ?_
    exact ends [_] [] (.cons (.tmp (zAG (by simp [h1, h2, h3]))) .nil) (.cons (.one .v (.v _)) .nil) (by decide) trivial
theorem zKN (a b : Ent) : Con Tryd.prog 39 [.agg [PV.v (.string a.user), PV.v (.int .i64 a.seq), PV.v (.int .i64 a.kind), PV.v (.string a.value)], .agg [PV.v (.string b.user), PV.v (.int .i64 b.seq), PV.v (.int .i64 b.kind), PV.v (.string b.value)]] [] [.one (.v (.bool (decide (a = b))))] := by
 refine zAR func39 rfl rfl rfl rfl ?_
 refine zAB (zAA rfl (.run [] [2] rfl (zB9 rfl 2 rfl rfl (by decide) rfl (by decide)) (.run [] [3] rfl (zB9 rfl 3 rfl rfl (by decide) rfl (by decide)) (.a rfl rfl .nil))) ?_)
 refine zAB ?_
 refine zAB (zAA rfl (.r rfl (zAC rfl rfl underlying58 rfl sizeOf56 (by decide)) (.r rfl (zAZ rfl rfl rfl isAgg56 sizeOf56 (nle rfl)) (.r rfl (zAC rfl rfl underlying58 rfl sizeOf56 (by decide)) (.r rfl (zAZ rfl rfl rfl isAgg56 sizeOf56 (nle rfl)) (.run [900] [] rfl (zAF rfl 900 (X := []) en76 rfl (.val nod) (.cons (.agg (.cons (.bor .v) (.cons (.bor .v) (.cons (.bor .v) .nil)))) (.cons (.agg (.cons (.bor .v) (.cons (.bor .v) (.cons (.bor .v) .nil)))) .nil)) (by decide) all_nil .nil (zNQ a b) rfl rfl (nle rfl)) (.r rfl (zAa (b := decide (a.user = b.user ∧ a.seq = b.seq ∧ a.kind = b.kind)) rfl rfl) .nil)))))) ?_)
 refine zAT (t := (!(decide (a.user = b.user ∧ a.seq = b.seq ∧ a.kind = b.kind)))) rfl (fun h1 => ?_) (fun h1 => ?_)
 ·
  replace h1 : ¬ (a.user = b.user ∧ a.seq = b.seq ∧ a.kind = b.kind) := of_decide_eq_false (zAm h1)
  refine zAB (zAA rfl (.a rfl rfl .nil) ?_)
  refine zAI ?_
  exact ends [_] [] (.cons (.tmp (zAG (decide_eq_false (fun h => h1 (by subst h; simp))).symm)) .nil) (.cons (.one .v (.v _)) .nil) (by decide) trivial
 ·
  replace h1 : a.user = b.user ∧ a.seq = b.seq ∧ a.kind = b.kind := of_decide_eq_true (zAn h1)
  refine zAK ?_
  refine zAB ?_
  refine zAB (zAA rfl (.r rfl (zAC rfl rfl underlying58 rfl sizeOf9 (by decide)) (.r rfl (zAD rfl rfl rfl isAgg9 rfl) (.r rfl (zAC rfl rfl underlying58 rfl sizeOf9 (by decide)) (.r rfl (zAD rfl rfl rfl isAgg9 rfl) (.r rfl (zCC rfl rfl rfl) .nil))))) ?_)
  refine zAT (t := (!(decide (a.value = b.value)))) rfl (fun h2 => ?_) (fun h2 => ?_)
  ·
   replace h2 : ¬ (a.value = b.value) := of_decide_eq_false (zAm h2)
   refine zAB (zAA rfl (.a rfl rfl .nil) ?_)
   refine zAI ?_
   exact ends [_] [] (.cons (.tmp (zAG (decide_eq_false (fun h => h2 (by subst h; simp))).symm)) .nil) (.cons (.one .v (.v _)) .nil) (by decide) trivial
  ·
   replace h2 : a.value = b.value := of_decide_eq_true (zAn h2)
   refine zAK ?_
   refine zAB (zAA rfl (.a rfl rfl .nil) ?_)
   refine zAI ?_
   exact ends [_] [] (.cons (.tmp (zAG (decide_eq_true (by cases a; cases b; simp_all)).symm)) .nil) (.cons (.one .v (.v _)) .nil) (by decide) trivial
theorem zJR (a b : List Ent) (hl : a.length ≤ 1000000000) : Con Tryd.prog 12 [.one (PV.sl false 4 (pvE a)), .one (PV.sl false 4 (pvE b))] [] [.one (.v (.bool (decide (a = b))))] := by
 refine zAR func12 rfl rfl rfl rfl ?_
 have hla := zAf a
 have hlb := zAf b
 refine zAB (zAA rfl (.a rfl rfl .nil) ?_)
 refine zAB ?_
 refine zAB (zAA rfl (.m rfl rfl (.r rfl (zAp rfl rfl underlying28) (.m rfl rfl (.r rfl (zAp rfl rfl underlying28) (.r rfl (zB2 rfl rfl rfl) .nil))))) ?_)
 refine zAT (t := (!(decide (((pvE a).length : Int) = ((pvE b).length : Int))))) rfl (fun h1 => ?_) (fun h1 => ?_)
 ·
  replace h1 : ¬ (((pvE a).length : Int) = ((pvE b).length : Int)) := of_decide_eq_false (zAm h1)
  refine zAB (zAA rfl (.a rfl rfl .nil) ?_)
  refine zAI ?_
  exact ends [_] [] (.cons (.tmp (zAG (decide_eq_false (fun e => by subst e; omega)).symm)) .nil) (.cons (.one .v (.v _)) .nil) (by decide) trivial
 ·
  replace h1 : ((pvE a).length : Int) = ((pvE b).length : Int) := of_decide_eq_true (zAn h1)
  refine zAK ?_
  refine zAB ?_
  refine zAB (zAA rfl (.a rfl rfl .nil) ?_)
  refine zAS ?_
  refine zAj (σ := Nat) (fun i => mk [(0, .p none (.sl false 4 (pvE a))), (1, .p none (.sl false 4 (pvE b))), (5, .vi (i:Int))] [] []) (fun i => i ≤ a.length ∧ ∀ j, j < i → a[j]? = b[j]?) (fun i => a.length - i) 0 ⟨Nat.zero_le _, fun j hj => absurd hj (Nat.not_lt_zero j)⟩ (zAJ ⟨rfl, rfl, (zAE (by omega)), trivial⟩ trivial trivial rfl) ?_
  rintro i hG
  replace hG : i ≤ a.length ∧ ∀ j, j < i → a[j]? = b[j]? := hG
  obtain ⟨hi, hG⟩ := hG
  refine zAB ?_
  refine zAB (zAA rfl (.m rfl rfl (.m rfl rfl (.r rfl (zAp rfl rfl underlying28) (.r rfl (zAt rfl rfl rfl) .nil)))) ?_)
  refine zAT (t := decide ((i:Int) < ((pvE a).length : Int))) rfl (fun h2 => ?_) (fun h2 => ?_)
  ·
   replace h2 := of_decide_eq_true h2
   refine zAK ?_
   refine zAB ?_
   refine zAS ?_
   refine zAB ?_
   obtain ⟨e, he⟩ : ∃ e, a[i]? = some e := ⟨_, List.getElem?_eq_getElem (by (have hL := zAf a; omega))⟩
   have hlte := (List.getElem?_eq_some_iff.1 he).1
   obtain ⟨e2, he2⟩ : ∃ e, b[i]? = some e := ⟨_, List.getElem?_eq_getElem (by (have hL := zAf b; omega))⟩
   have hlte2 := (List.getElem?_eq_some_iff.1 he2).1
   refine zAb zBh rfl (.m rfl rfl (.m rfl rfl (.r rfl (zAq rfl rfl rfl underlying28 sizeOf58 rfl (by omega) (zBZ he)) (.r rfl (zBY rfl rfl isAgg58 sizeOf58 (nle rfl)) (.m rfl rfl (.m rfl rfl (.r rfl (zAq rfl rfl rfl underlying28 sizeOf58 rfl (by omega) (zBZ he2)) (.r rfl (zBY rfl rfl isAgg58 sizeOf58 (nle rfl)) (.run [2500] [] rfl (zAF rfl 2500 (X := []) en39 rfl (.val nod) (.cons (.agg (.cons (.bor .v) (.cons (.bor .v) (.cons (.bor .v) (.cons (.bor .v) .nil))))) (.cons (.agg (.cons (.bor .v) (.cons (.bor .v) (.cons (.bor .v) (.cons (.bor .v) .nil))))) .nil)) (by decide) all_nil .nil (zKN e e2) rfl rfl (nle rfl)) (.r rfl (zAa (b := decide (e = e2)) rfl rfl) .nil)))))))))) (by kernel_rfl) ?_
   refine zAT (t := (!(decide (e = e2)))) rfl (fun h3 => ?_) (fun h3 => ?_)
   ·
    replace h3 : ¬ (e = e2) := of_decide_eq_false (zAm h3)
    refine zAB (zAA rfl (.a rfl rfl .nil) ?_)
    refine zAI ?_
    exact ends [_] [] (.cons (.tmp (zAG (decide_eq_false (zOS he he2 h3)).symm)) .nil) (.cons (.one .v (.v _)) .nil) (by decide) trivial
   ·
    replace h3 : e = e2 := of_decide_eq_true (zAn h3)
    refine zAK ?_
    refine zAO (s' := mk [(0, .p none (.sl false 4 (pvE a))), (1, .p none (.sl false 4 (pvE b))), (5, .vi (i:Int))] [] []) ?_ ?_
    · exact zAJ ⟨rfl, rfl, rfl, trivial⟩ trivial trivial rfl
    refine zAA rfl (.m rfl rfl (.r rfl (zAW rfl rfl rfl (by omega)) (.a rfl rfl .nil))) ?_
    refine nxt (Q := fun _ _ => False) (z := i) (i + 1) ?_ ?_ ?_
    ·
     show (i + 1) ≤ a.length ∧ ∀ j, j < (i + 1) → a[j]? = b[j]?
     exact ⟨by omega, zLx hG he he2 h3⟩
    ·
     show a.length - (i + 1) < a.length - i
     omega
    · exact zAJ ⟨rfl, rfl, (zAE (by omega)), trivial⟩ trivial trivial rfl
  ·
   replace h2 := of_decide_eq_false h2
   refine zAi ?_
   refine zAB (zAA rfl (.a rfl rfl .nil) ?_)
   refine zAI ?_
   exact ends [_] [] (.cons (.tmp (zAG (decide_eq_true (zNE (by omega) (by omega) hG)).symm)) .nil) (.cons (.one .v (.v _)) .nil) (by decide) trivial
end Go.Rl
namespace Go.Rl
open Go.Proofs
end Go.Rl
namespace Go.Rl
open Go.Proofs
def wE (e : Ent) : Nat := e.user.size + e.value.size
end Go.Rl

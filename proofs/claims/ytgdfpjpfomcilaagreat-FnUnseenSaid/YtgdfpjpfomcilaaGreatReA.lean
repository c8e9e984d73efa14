/- Promises of functions, proved by walks over their operations; no conditions beyond those that each theorem states. -/
import Derived.Test.YtgdfpjpfomcilaaGreatRlT
import Derived.Test.YtgdfpjpfomcilaaGreatProg
set_option linter.unusedSimpArgs false
set_option linter.unusedVariables false
namespace Go.Rl
open Go.Proofs Go.Proofs.Tryz
set_option maxRecDepth 1000000
set_option maxHeartbeats 2000000
theorem inf3 : (Tryz.prog.info? 3).map (fun i => (i.zero, i.size, i.bytes)) = some (some (.int .i64 0), 1, 8) := by kernel_rfl
theorem en106 : En Tryz.prog 106 := zAn func106 (by decide) rfl
theorem en21 : En Tryz.prog 21 := zAn func21 (by decide) rfl
theorem en109 : En Tryz.prog 109 := zAn func109 (by decide) rfl
theorem en29 : En Tryz.prog 29 := zAn func29 (by decide) rfl
theorem en107 : En Tryz.prog 107 := zAn func107 (by decide) rfl
theorem en108 : En Tryz.prog 108 := zAn func108 (by decide) rfl
theorem en93 : En Tryz.prog 93 := zAn func93 (by decide) rfl
theorem en94 : En Tryz.prog 94 := zAn func94 (by decide) rfl
theorem en92 : En Tryz.prog 92 := zAn func92 (by decide) rfl
theorem en91 : En Tryz.prog 91 := zAn func91 (by decide) rfl
theorem en96 : En Tryz.prog 96 := zAn func96 (by decide) rfl
theorem zBD : Tryz.prog.follows .mixedOrders = true := by kernel_rfl
theorem zB4 (n low high : Int) : Con Tryz.prog 21 [.one (PV.v (.int .i64 n)), .one (PV.v (.int .i64 low)), .one (PV.v (.int .i64 high))] [] [.one (.v (.bool (zA1 n low high)))] := by
 refine zAS func21 rfl rfl rfl rfl ?_
 refine zAB (zAA rfl (.a rfl rfl .nil) ?_)
 refine zAB ?_
 rcases bfc (decide (low ≤ n)) with h1 | h1
 ·
  have h1' := h1
  replace h1' := of_decide_eq_false h1'
  refine zAA rfl (.m rfl rfl (.m rfl rfl (.r rfl (zAX (zBz rfl rfl rfl) (by exact congrArg (fun b => AV.p none (.v (.bool b))) h1)) (.m rfl rfl (.not rfl (.not rfl (.not rfl (.r rfl (zAT (t := false) rfl rfl) (.a rfl rfl .nil))))))))) ?_
  refine zAO ?_
  exact ends [_] [] (.cons (.tmp (zAM (by simp [zA1, h1']))) .nil) (.cons (.one .v (.v _)) .nil) (by decide) trivial
 ·
  have h1' := h1
  replace h1' := of_decide_eq_true h1'
  refine zAA rfl (.m rfl rfl (.m rfl rfl (.r rfl (zAX (zBz rfl rfl rfl) (by exact congrArg (fun b => AV.p none (.v (.bool b))) h1)) (.m rfl rfl (.m rfl rfl (.m rfl rfl (.r rfl (zBz rfl rfl rfl) (.r rfl (zAT (t := true) rfl rfl) (.a rfl rfl .nil))))))))) ?_
  refine zAO ?_
  exact ends [_] [] (.cons (.tmp (zAM (by simp [zA1, h1']))) .nil) (.cons (.one .v (.v _)) .nil) (by decide) trivial
theorem zCf (n low high : Int) : Con Tryz.prog 29 [.one (PV.v (.int .i64 n)), .one (PV.v (.int .i64 low)), .one (PV.v (.int .i64 high))] [] [.one (.v (.bool (zA1 n low high)))] := by
 refine zAS func29 rfl rfl rfl rfl ?_
 refine zAB (zAA rfl (.a rfl rfl .nil) ?_)
 refine zAB ?_
 rcases bfc (decide (low ≤ n)) with h1 | h1
 ·
  have h1' := h1
  replace h1' := of_decide_eq_false h1'
  refine zAA rfl (.m rfl rfl (.m rfl rfl (.r rfl (zAX (zCM rfl rfl rfl) (by exact congrArg (fun b => AV.p none (.v (.bool b))) h1)) (.m rfl rfl (.not rfl (.not rfl (.not rfl (.r rfl (zAT (t := false) rfl rfl) (.a rfl rfl .nil))))))))) ?_
  refine zAO ?_
  exact ends [_] [] (.cons (.tmp (zAM (by simp [zA1, h1']))) .nil) (.cons (.one .v (.v _)) .nil) (by decide) trivial
 ·
  have h1' := h1
  replace h1' := of_decide_eq_true h1'
  refine zAA rfl (.m rfl rfl (.m rfl rfl (.r rfl (zAX (zCM rfl rfl rfl) (by exact congrArg (fun b => AV.p none (.v (.bool b))) h1)) (.m rfl rfl (.m rfl rfl (.m rfl rfl (.r rfl (zBz rfl rfl rfl) (.r rfl (zAT (t := true) rfl rfl) (.a rfl rfl .nil))))))))) ?_
  refine zAO ?_
  exact ends [_] [] (.cons (.tmp (zAM (by simp [zA1, h1']))) .nil) (.cons (.one .v (.v _)) .nil) (by decide) trivial
theorem zFm (s : ByteArray) : Con Tryz.prog 106 [.one (PV.v (.string s))] [] [.one (.v (.bool (zEj s)))] := by
 refine zAS func106 rfl rfl rfl rfl ?_
 refine zAB (zAA rfl (.a rfl rfl .nil) ?_)
 refine zAB ?_
 rcases bfc (decide (1 ≤ (s.size : Int))) with h1 | h1
 ·
  have h1' := h1
  replace h1' := of_decide_eq_false h1'
  refine zAA rfl (.m rfl rfl (.r rfl (zBs rfl rfl underlying9) (.r rfl (zAX (zCM rfl rfl rfl) (by exact congrArg (fun b => AV.p none (.v (.bool b))) h1)) (.m rfl rfl (.not rfl (.not rfl (.not rfl (.r rfl (zAT (t := false) rfl rfl) (.a rfl rfl .nil))))))))) ?_
  refine zAO ?_
  exact ends [_] [] (.cons (.tmp (zAM (by simp [zEj, h1']))) .nil) (.cons (.one .v (.v _)) .nil) (by decide) trivial
 ·
  have h1' := h1
  replace h1' := of_decide_eq_true h1'
  refine zAA rfl (.m rfl rfl (.r rfl (zBs rfl rfl underlying9) (.r rfl (zAX (zCM rfl rfl rfl) (by exact congrArg (fun b => AV.p none (.v (.bool b))) h1)) (.m rfl rfl (.m rfl rfl (.r rfl (zBs rfl rfl underlying9) (.r rfl (zBz rfl rfl rfl) (.r rfl (zAT (t := true) rfl rfl) (.a rfl rfl .nil))))))))) ?_
  refine zAO ?_
  exact ends [_] [] (.cons (.tmp (zAM (by simp [zEj, h1']))) .nil) (.cons (.one .v (.v _)) .nil) (by decide) trivial
theorem zFl (s : ByteArray) : Con Tryz.prog 109 [.one (PV.v (.string s))] [] [.one (.v (.bool (zEj s)))] := by
 refine zAS func109 rfl rfl rfl rfl ?_
 refine zAB (zAA rfl (.a rfl rfl .nil) ?_)
 refine zAB ?_
 rcases bfc (decide (1 ≤ (s.size : Int))) with h1 | h1
 ·
  have h1' := h1
  replace h1' := of_decide_eq_false h1'
  refine zAA rfl (.m rfl rfl (.r rfl (zBs rfl rfl underlying9) (.r rfl (zAX (zCM rfl rfl rfl) (by exact congrArg (fun b => AV.p none (.v (.bool b))) h1)) (.m rfl rfl (.not rfl (.not rfl (.not rfl (.r rfl (zAT (t := false) rfl rfl) (.a rfl rfl .nil))))))))) ?_
  refine zAO ?_
  exact ends [_] [] (.cons (.tmp (zAM (by simp [zEj, h1']))) .nil) (.cons (.one .v (.v _)) .nil) (by decide) trivial
 ·
  have h1' := h1
  replace h1' := of_decide_eq_true h1'
  refine zAA rfl (.m rfl rfl (.r rfl (zBs rfl rfl underlying9) (.r rfl (zAX (zCM rfl rfl rfl) (by exact congrArg (fun b => AV.p none (.v (.bool b))) h1)) (.m rfl rfl (.m rfl rfl (.r rfl (zBs rfl rfl underlying9) (.r rfl (zBz rfl rfl rfl) (.r rfl (zAT (t := true) rfl rfl) (.a rfl rfl .nil))))))))) ?_
  refine zAO ?_
  exact ends [_] [] (.cons (.tmp (zAM (by simp [zEj, h1']))) .nil) (.cons (.one .v (.v _)) .nil) (by decide) trivial
theorem zFI (e : Ent) : Con Tryz.prog 91 [.agg [PV.v (.string e.user), PV.v (.int .i64 e.seq), PV.v (.int .i64 e.kind)]] [] [.one (.v (.bool (zCg e.user e.seq e.kind)))] := by
 refine zAS func91 rfl rfl rfl rfl ?_
 refine zAB (zAA rfl (.run [] [1] rfl (zBT rfl 1 rfl rfl (by decide) rfl (by decide)) (.a rfl rfl .nil)) ?_)
 refine zAB ?_
 rcases bfc (zEj e.user) with h1 | h1
 ·
  have h1' := h1
  refine zAA rfl (.r rfl (zAC rfl rfl underlying54 rfl sizeOf9 (by decide)) (.r rfl (zAD rfl rfl rfl isAgg9 rfl) (.run [500] [] rfl (zAK rfl 500 (X := []) en106 rfl (.val nod) (.cons (.one (.bor .v)) .nil) (by decide) all_nil .nil (zFm e.user) rfl rfl (nle rfl)) (.r rfl (zAX (zBJ rfl) (by exact congrArg (fun b => AV.p none (.v (.bool b))) h1)) (.not rfl (.not rfl (.not rfl (.r rfl (zAT (t := false) rfl rfl) (.m rfl rfl (.not rfl (.not rfl (.not rfl (.r rfl (zAT (t := false) rfl rfl) (.a rfl rfl .nil)))))))))))))) ?_
  refine zAO ?_
  exact ends [_] [] (.cons (.tmp (zAM (by simp [zCg, h1']))) .nil) (.cons (.one .v (.v _)) .nil) (by decide) trivial
 ·
  have h1' := h1
  rcases bfc (zA1 e.seq 0 1000000000000) with h2 | h2
  ·
   have h2' := h2
   refine zAA rfl (.r rfl (zAC rfl rfl underlying54 rfl sizeOf9 (by decide)) (.r rfl (zAD rfl rfl rfl isAgg9 rfl) (.run [500] [] rfl (zAK rfl 500 (X := []) en106 rfl (.val nod) (.cons (.one (.bor .v)) .nil) (by decide) all_nil .nil (zFm e.user) rfl rfl (nle rfl)) (.r rfl (zAX (zBJ rfl) (by exact congrArg (fun b => AV.p none (.v (.bool b))) h1)) (.r rfl (zAC rfl rfl underlying54 rfl sizeOf2 (by decide)) (.r rfl (zAD rfl rfl rfl isAgg2 rfl) (.run [900] [] rfl (zAK rfl 900 (X := []) en21 rfl (.val nod) (.cons (.one (.bor .v)) (.cons (.one (.bor .v)) (.cons (.one (.bor .v)) .nil))) (by decide) all_nil .nil (zB4 e.seq 0 1000000000000) rfl rfl (nle rfl)) (.r rfl (zAT (t := true) rfl rfl) (.r rfl (zAX (zBJ rfl) (by exact congrArg (fun b => AV.p none (.v (.bool b))) h2)) (.not rfl (.not rfl (.not rfl (.r rfl (zAT (t := false) rfl rfl) (.a rfl rfl .nil)))))))))))))) ?_
   refine zAO ?_
   exact ends [_] [] (.cons (.tmp (zAM (by simp [zCg, h1', h2']))) .nil) (.cons (.one .v (.v _)) .nil) (by decide) trivial
  ·
   have h2' := h2
   refine zAA rfl (.r rfl (zAC rfl rfl underlying54 rfl sizeOf9 (by decide)) (.r rfl (zAD rfl rfl rfl isAgg9 rfl) (.run [500] [] rfl (zAK rfl 500 (X := []) en106 rfl (.val nod) (.cons (.one (.bor .v)) .nil) (by decide) all_nil .nil (zFm e.user) rfl rfl (nle rfl)) (.r rfl (zAX (zBJ rfl) (by exact congrArg (fun b => AV.p none (.v (.bool b))) h1)) (.r rfl (zAC rfl rfl underlying54 rfl sizeOf2 (by decide)) (.r rfl (zAD rfl rfl rfl isAgg2 rfl) (.run [900] [] rfl (zAK rfl 900 (X := []) en21 rfl (.val nod) (.cons (.one (.bor .v)) (.cons (.one (.bor .v)) (.cons (.one (.bor .v)) .nil))) (by decide) all_nil .nil (zB4 e.seq 0 1000000000000) rfl rfl (nle rfl)) (.r rfl (zAT (t := true) rfl rfl) (.r rfl (zAX (zBJ rfl) (by exact congrArg (fun b => AV.p none (.v (.bool b))) h2)) (.r rfl (zAC rfl rfl underlying54 rfl sizeOf2 (by decide)) (.r rfl (zAD rfl rfl rfl isAgg2 rfl) (.run [1400] [] rfl (zAK rfl 1400 (X := []) en21 rfl (.val nod) (.cons (.one (.bor .v)) (.cons (.one (.bor .v)) (.cons (.one (.bor .v)) .nil))) (by decide) all_nil .nil (zB4 e.kind 0 1) rfl rfl (nle rfl)) (.r rfl (zAT (t := true) rfl rfl) (.a rfl rfl .nil)))))))))))))) ?_
   refine zAO ?_
   exact ends [_] [] (.cons (.tmp (zAM (by simp [zCg, h1', h2']))) .nil) (.cons (.one .v (.v _)) .nil) (by decide) trivial
theorem zB0 (e : Ent) : Con Tryz.prog 96 [.agg [PV.v (.string e.user), PV.v (.int .i64 e.seq), PV.v (.int .i64 e.kind)]] [] [.one (.v (.bool (zCg e.user e.seq e.kind)))] := by
 refine zAS func96 rfl rfl rfl rfl ?_
 refine zAB (zAA rfl (.run [] [1] rfl (zBT rfl 1 rfl rfl (by decide) rfl (by decide)) (.a rfl rfl .nil)) ?_)
 refine zAB ?_
 rcases bfc (zEj e.user) with h1 | h1
 ·
  have h1' := h1
  refine zAA rfl (.r rfl (zAC rfl rfl underlying54 rfl sizeOf9 (by decide)) (.r rfl (zAD rfl rfl rfl isAgg9 rfl) (.run [500] [] rfl (zAK rfl 500 (X := []) en109 rfl (.val nod) (.cons (.one (.bor .v)) .nil) (by decide) all_nil .nil (zFl e.user) rfl rfl (nle rfl)) (.r rfl (zAX (zBJ rfl) (by exact congrArg (fun b => AV.p none (.v (.bool b))) h1)) (.not rfl (.not rfl (.not rfl (.r rfl (zAT (t := false) rfl rfl) (.m rfl rfl (.not rfl (.not rfl (.not rfl (.r rfl (zAT (t := false) rfl rfl) (.a rfl rfl .nil)))))))))))))) ?_
  refine zAO ?_
  exact ends [_] [] (.cons (.tmp (zAM (by simp [zCg, h1']))) .nil) (.cons (.one .v (.v _)) .nil) (by decide) trivial
 ·
  have h1' := h1
  rcases bfc (zA1 e.seq 0 1000000000000) with h2 | h2
  ·
   have h2' := h2
   refine zAA rfl (.r rfl (zAC rfl rfl underlying54 rfl sizeOf9 (by decide)) (.r rfl (zAD rfl rfl rfl isAgg9 rfl) (.run [500] [] rfl (zAK rfl 500 (X := []) en109 rfl (.val nod) (.cons (.one (.bor .v)) .nil) (by decide) all_nil .nil (zFl e.user) rfl rfl (nle rfl)) (.r rfl (zAX (zBJ rfl) (by exact congrArg (fun b => AV.p none (.v (.bool b))) h1)) (.r rfl (zAC rfl rfl underlying54 rfl sizeOf2 (by decide)) (.r rfl (zAD rfl rfl rfl isAgg2 rfl) (.run [900] [] rfl (zAK rfl 900 (X := []) en29 rfl (.val nod) (.cons (.one (.bor .v)) (.cons (.one (.bor .v)) (.cons (.one (.bor .v)) .nil))) (by decide) all_nil .nil (zCf e.seq 0 1000000000000) rfl rfl (nle rfl)) (.r rfl (zAT (t := true) rfl rfl) (.r rfl (zAX (zBJ rfl) (by exact congrArg (fun b => AV.p none (.v (.bool b))) h2)) (.not rfl (.not rfl (.not rfl (.r rfl (zAT (t := false) rfl rfl) (.a rfl rfl .nil)))))))))))))) ?_
   refine zAO ?_
   exact ends [_] [] (.cons (.tmp (zAM (by simp [zCg, h1', h2']))) .nil) (.cons (.one .v (.v _)) .nil) (by decide) trivial
  ·
   have h2' := h2
   refine zAA rfl (.r rfl (zAC rfl rfl underlying54 rfl sizeOf9 (by decide)) (.r rfl (zAD rfl rfl rfl isAgg9 rfl) (.run [500] [] rfl (zAK rfl 500 (X := []) en109 rfl (.val nod) (.cons (.one (.bor .v)) .nil) (by decide) all_nil .nil (zFl e.user) rfl rfl (nle rfl)) (.r rfl (zAX (zBJ rfl) (by exact congrArg (fun b => AV.p none (.v (.bool b))) h1)) (.r rfl (zAC rfl rfl underlying54 rfl sizeOf2 (by decide)) (.r rfl (zAD rfl rfl rfl isAgg2 rfl) (.run [900] [] rfl (zAK rfl 900 (X := []) en29 rfl (.val nod) (.cons (.one (.bor .v)) (.cons (.one (.bor .v)) (.cons (.one (.bor .v)) .nil))) (by decide) all_nil .nil (zCf e.seq 0 1000000000000) rfl rfl (nle rfl)) (.r rfl (zAT (t := true) rfl rfl) (.r rfl (zAX (zBJ rfl) (by exact congrArg (fun b => AV.p none (.v (.bool b))) h2)) (.r rfl (zAC rfl rfl underlying54 rfl sizeOf2 (by decide)) (.r rfl (zAD rfl rfl rfl isAgg2 rfl) (.run [1400] [] rfl (zAK rfl 1400 (X := []) en29 rfl (.val nod) (.cons (.one (.bor .v)) (.cons (.one (.bor .v)) (.cons (.one (.bor .v)) .nil))) (by decide) all_nil .nil (zCf e.kind 0 1) rfl rfl (nle rfl)) (.r rfl (zAT (t := true) rfl rfl) (.a rfl rfl .nil)))))))))))))) ?_
   refine zAO ?_
   exact ends [_] [] (.cons (.tmp (zAM (by simp [zCg, h1', h2']))) .nil) (.cons (.one .v (.v _)) .nil) (by decide) trivial
theorem zLj (a : ByteArray) : Con Tryz.prog 107 [.one (PV.v (.string a))] [] [.one (.v (.bool false))] := by
 refine zAS func107 rfl rfl rfl rfl ?_
 refine zAB (zAA rfl (.a rfl rfl .nil) ?_)
 refine zAB (zAA rfl (.m rfl rfl (.m rfl rfl (.r rfl (zAX (zFc rfl rfl rfl) (zAM (congrArg Bool.not (decide_eq_true (by simp))))) (.a rfl rfl .nil)))) ?_)
 refine zAO ?_
 exact ends [_] [] (.cons (.tmp rfl) .nil) (.cons (.one .v (.v _)) .nil) (by decide) trivial
theorem zLk (a : Int) : Con Tryz.prog 108 [.one (PV.v (.int .i64 a))] [] [.one (.v (.bool false))] := by
 refine zAS func108 rfl rfl rfl rfl ?_
 refine zAB (zAA rfl (.a rfl rfl .nil) ?_)
 refine zAB (zAA rfl (.m rfl rfl (.m rfl rfl (.r rfl (zAX (zCl rfl rfl rfl) (zAM (congrArg Bool.not (decide_eq_true (by simp))))) (.a rfl rfl .nil)))) ?_)
 refine zAO ?_
 exact ends [_] [] (.cons (.tmp rfl) .nil) (.cons (.one .v (.v _)) .nil) (by decide) trivial
theorem zPa (a b : ByteArray) : Con Tryz.prog 93 [.one (PV.v (.string a)), .one (PV.v (.string b))] [] [.one (.v (.int .i64 (cmpS a b)))] := by
 refine zAS func93 rfl rfl rfl rfl ?_
 refine zAB (zAA rfl (.a rfl rfl .nil) ?_)
 refine zAB (zAA rfl (.m rfl rfl (.run [800] [] rfl (zAK rfl 800 (X := []) en107 rfl (.val nod) (.cons (.one (.bor .v)) .nil) (by decide) all_nil .nil (zLj a) rfl rfl (nle rfl)) (.a rfl rfl .nil))) ?_)
 refine zAB (zAA rfl (.m rfl rfl (.run [1000] [] rfl (zAK rfl 1000 (X := []) en107 rfl (.val nod) (.cons (.one (.bor .v)) .nil) (by decide) all_nil .nil (zLj b) rfl rfl (nle rfl)) (.a rfl rfl .nil))) ?_)
 refine zAB ?_
 refine zAB (zAA rfl (.m rfl rfl .nil) ?_)
 refine zAb (t := false) rfl (fun h => nomatch h) (fun _ => ?_)
 refine zAL ?_
 refine zAB ?_
 refine zAB (zAA rfl (.m rfl rfl .nil) ?_)
 refine zAb (t := false) rfl (fun h => nomatch h) (fun _ => ?_)
 refine zAL ?_
 refine zAB ?_
 refine zAB (zAA rfl (.m rfl rfl (.m rfl rfl (.r rfl (zDm rfl rfl rfl) .nil))) ?_)
 refine zAb (t := ltB a b) rfl (fun h1 => ?_) (fun h1 => ?_)
 ·
  refine zAB (zAA rfl (.a rfl rfl .nil) ?_)
  refine zAO ?_
  exact ends [_] [] (.cons (.tmp (zAJ (by rw [cmpS, if_pos h1]))) .nil) (.cons (.one .v (.v _)) .nil) (by decide) trivial
 ·
  refine zAL ?_
  refine zAB ?_
  refine zAB (zAA rfl (.m rfl rfl (.m rfl rfl (.r rfl (st_sgtr rfl rfl rfl) .nil))) ?_)
  refine zAb (t := (!(ltB a b || decide (a = b)))) rfl (fun h2 => ?_) (fun h2 => ?_)
  ·
   replace h2 : (ltB a b || decide (a = b)) = false := zBH h2
   refine zAB (zAA rfl (.a rfl rfl .nil) ?_)
   refine zAO ?_
   exact ends [_] [] (.cons (.tmp (zAJ (by rw [cmpS, if_neg (by simp [h1]), if_pos (by rw [← zN8 h1, h2]; rfl)]))) .nil) (.cons (.one .v (.v _)) .nil) (by decide) trivial
  ·
   replace h2 : (ltB a b || decide (a = b)) = true := zBI h2
   refine zAL ?_
   refine zAB (zAA rfl (.a rfl rfl .nil) ?_)
   refine zAO ?_
   exact ends [_] [] (.cons (.tmp (zAJ (by rw [cmpS, if_neg (by simp [h1]), if_neg (by rw [← zN8 h1, h2]; decide)]))) .nil) (.cons (.one .v (.v _)) .nil) (by decide) trivial
theorem zL2 (a b : Int) : Con Tryz.prog 94 [.one (PV.v (.int .i64 a)), .one (PV.v (.int .i64 b))] [] [.one (.v (.int .i64 (cmpI a b)))] := by
 refine zAS func94 rfl rfl rfl rfl ?_
 refine zAB (zAA rfl (.a rfl rfl .nil) ?_)
 refine zAB (zAA rfl (.m rfl rfl (.run [800] [] rfl (zAK rfl 800 (X := []) en108 rfl (.val nod) (.cons (.one (.bor .v)) .nil) (by decide) all_nil .nil (zLk a) rfl rfl (nle rfl)) (.a rfl rfl .nil))) ?_)
 refine zAB (zAA rfl (.m rfl rfl (.run [1000] [] rfl (zAK rfl 1000 (X := []) en108 rfl (.val nod) (.cons (.one (.bor .v)) .nil) (by decide) all_nil .nil (zLk b) rfl rfl (nle rfl)) (.a rfl rfl .nil))) ?_)
 refine zAB ?_
 refine zAB (zAA rfl (.m rfl rfl .nil) ?_)
 refine zAb (t := false) rfl (fun h => nomatch h) (fun _ => ?_)
 refine zAL ?_
 refine zAB ?_
 refine zAB (zAA rfl (.m rfl rfl .nil) ?_)
 refine zAb (t := false) rfl (fun h => nomatch h) (fun _ => ?_)
 refine zAL ?_
 refine zAB ?_
 refine zAB (zAA rfl (.m rfl rfl (.m rfl rfl (.r rfl (zA4 rfl rfl rfl) .nil))) ?_)
 refine zAb (t := decide (a < b)) rfl (fun h1 => ?_) (fun h1 => ?_)
 ·
  replace h1 := of_decide_eq_true h1
  refine zAB (zAA rfl (.a rfl rfl .nil) ?_)
  refine zAO ?_
  exact ends [_] [] (.cons (.tmp (zAJ (by simp [cmpI, h1]))) .nil) (.cons (.one .v (.v _)) .nil) (by decide) trivial
 ·
  replace h1 := of_decide_eq_false h1
  refine zAL ?_
  refine zAB ?_
  refine zAB (zAA rfl (.m rfl rfl (.m rfl rfl (.r rfl (zBF rfl rfl rfl) .nil))) ?_)
  refine zAb (t := decide (b < a)) rfl (fun h2 => ?_) (fun h2 => ?_)
  ·
   replace h2 := of_decide_eq_true h2
   refine zAB (zAA rfl (.a rfl rfl .nil) ?_)
   refine zAO ?_
   exact ends [_] [] (.cons (.tmp (zAJ (by simp [cmpI, h1, h2]))) .nil) (.cons (.one .v (.v _)) .nil) (by decide) trivial
  ·
   replace h2 := of_decide_eq_false h2
   refine zAL ?_
   refine zAB (zAA rfl (.a rfl rfl .nil) ?_)
   refine zAO ?_
   exact ends [_] [] (.cons (.tmp (zAJ (by simp [cmpI, h1, h2]))) .nil) (.cons (.one .v (.v _)) .nil) (by decide) trivial
theorem or_con (l : List Int) (hl : l.length ≤ 1000) : Con Tryz.prog 92 [.one (PV.sl false 1 (pvI l))] [] [.one (.v (.int .i64 (orF l)))] := by
 refine zAS func92 rfl rfl rfl rfl ?_
 have hle := zAU l
 refine zAB (zAA rfl (.a rfl rfl .nil) ?_)
 refine zAB (zAA rfl (.a rfl rfl .nil) ?_)
 refine zAB ?_
 refine zAB (zAA rfl (.m rfl rfl (.r rfl (zAa rfl rfl underlying134) (.m rfl rfl .nil))) ?_)
 refine zAR ?_
 refine zAo (σ := Nat) (fun i => mk [(3, .vi 0), (6, .p none (.sl false 1 (pvI l))), (7, .vi ((pvI l).length : Int)), (8, .vi (i:Int))] [] []) (fun i => i ≤ l.length ∧ orF (l.drop i) = orF l) (fun i => l.length - i) 0 ⟨Nat.zero_le _, rfl⟩ (zAI ⟨rfl, rfl, rfl, (zAJ (by omega)), trivial⟩ trivial trivial rfl) ?_
 rintro i hG
 replace hG : i ≤ l.length ∧ orF (l.drop i) = orF l := hG
 obtain ⟨hi, hE⟩ := hG
 refine zAB (zAA rfl (.r rfl (zA4 rfl rfl rfl) .nil) ?_)
 refine zAB ?_
 refine zAb (t := decide ((i:Int) < ((pvI l).length : Int))) rfl (fun h1 => ?_) (fun h1 => ?_)
 ·
  replace h1 := of_decide_eq_true h1
  refine zAL ?_
  refine zAB ?_
  refine zAR ?_
  refine zAB ?_
  obtain ⟨e, he⟩ : ∃ e, l[i]? = some e := ⟨_, List.getElem?_eq_getElem (by (have hL := zAU l; omega))⟩
  have hlte := (List.getElem?_eq_some_iff.1 he).1
  refine zAA rfl (.r rfl (zAf rfl rfl rfl underlying134 sizeOf3 rfl (by omega) (zBe he)) (.r rfl (zAd rfl rfl isAgg3 rfl) (.a rfl rfl .nil))) ?_
  refine zAB (zAA rfl (.m rfl rfl (.m rfl rfl (.r rfl (zCl rfl rfl rfl) .nil))) ?_)
  refine zAb (t := (!(decide (e = 0)))) rfl (fun h2 => ?_) (fun h2 => ?_)
  ·
   replace h2 : ¬ (e = 0) := of_decide_eq_false (zBH h2)
   refine zAB (zAA rfl (.m rfl rfl (.a rfl rfl .nil)) ?_)
   refine zAO ?_
   exact ends [_] [] (.cons (.tmp (zAJ (by rw [← hE, zNS he, if_pos h2]))) .nil) (.cons (.one .v (.v _)) .nil) (by decide) trivial
  ·
   replace h2 : e = 0 := of_decide_eq_true (zBI h2)
   refine zAL ?_
   refine zAA rfl (.r rfl (zAe rfl rfl rfl (by omega)) (.m rfl rfl .nil)) ?_
   refine nxt (Q := fun _ _ => False) (z := i) (i + 1) ?_ ?_ ?_
   ·
    show (i + 1) ≤ l.length ∧ orF (l.drop (i + 1)) = orF l
    exact ⟨by omega, by rw [← hE, zNS he, if_neg (by simpa using h2)]⟩
   ·
    show l.length - (i + 1) < l.length - i
    omega
   · exact zAI ⟨rfl, rfl, rfl, (zAJ (by omega)), trivial⟩ trivial trivial rfl
 ·
  replace h1 := of_decide_eq_false h1
  refine zAu ?_
  refine zAB (zAA rfl (.m rfl rfl (.a rfl rfl .nil)) ?_)
  refine zAO ?_
  exact ends [_] [] (.cons (.tmp (zAJ (by rw [← hE, or_end (by omega)]))) .nil) (.cons (.one .v (.v _)) .nil) (by decide) trivial
theorem zG6 (a b : Ent) : Con Tryz.prog 60 [.agg [PV.v (.string a.user), PV.v (.int .i64 a.seq), PV.v (.int .i64 a.kind)], .agg [PV.v (.string b.user), PV.v (.int .i64 b.seq), PV.v (.int .i64 b.kind)]] [] [.one (.v (.int .i64 (cmpK a b)))] := by
 refine zAS func60 rfl rfl rfl rfl ?_
 refine zAB (zAA rfl (.run [] [2] rfl (zBT rfl 2 rfl rfl (by decide) rfl (by decide)) (.run [] [3] rfl (zBT rfl 3 rfl rfl (by decide) rfl (by decide)) (.a rfl rfl .nil))) ?_)
 refine zAB ?_
 refine zAV (s' := mk [(2, .ptr 2 0), (3, .ptr 3 0)] [(2, [.vs a.user, .vi a.seq, .vi a.kind]), (3, [.vs b.user, .vi b.seq, .vi b.kind])] []) ?_ ?_
 · exact zAI ⟨rfl, rfl, trivial⟩ ⟨rfl, rfl, trivial⟩ trivial rfl
 refine zAZ zBD rfl (.r rfl (zAC rfl rfl underlying54 rfl sizeOf9 (by decide)) (.r rfl (zAD rfl rfl rfl isAgg9 rfl) (.r rfl (zAC rfl rfl underlying54 rfl sizeOf9 (by decide)) (.r rfl (zAD rfl rfl rfl isAgg9 rfl) (.run [900] [] rfl (zAK rfl 900 (X := []) en93 rfl (.val nod) (.cons (.one (.bor .v)) (.cons (.one (.bor .v)) .nil)) (by decide) all_nil .nil (zPa a.user b.user) rfl rfl (nle rfl)) (.r rfl (zAC rfl rfl underlying54 rfl sizeOf2 (by decide)) (.r rfl (zAD rfl rfl rfl isAgg2 rfl) (.r rfl (zAC rfl rfl underlying54 rfl sizeOf2 (by decide)) (.r rfl (zAD rfl rfl rfl isAgg2 rfl) (.run [1400] [] rfl (zAK rfl 1400 (X := []) en94 rfl (.val nod) (.cons (.one (.bor .v)) (.cons (.one (.bor .v)) .nil)) (by decide) all_nil .nil (zL2 b.seq a.seq) rfl rfl (nle rfl)) (.r rfl (zAC rfl rfl underlying54 rfl sizeOf2 (by decide)) (.r rfl (zAD rfl rfl rfl isAgg2 rfl) (.r rfl (zAC rfl rfl underlying54 rfl sizeOf2 (by decide)) (.r rfl (zAD rfl rfl rfl isAgg2 rfl) (.run [1900] [] rfl (zAK rfl 1900 (X := []) en94 rfl (.val nod) (.cons (.one (.bor .v)) (.cons (.one (.bor .v)) .nil)) (by decide) all_nil .nil (zL2 b.kind a.kind) rfl rfl (nle rfl)) (.run [2000] [] rfl (zAQ rfl 2000 underlying134 inf3 (nle rfl) (by decide) rfl rfl rfl (.cons .v (.cons .v (.cons .v .nil))) (by decide) rfl (by decide) rfl (by decide) rfl) (.run [2000, 2100] [] rfl (zAK rfl 2100 (X := []) en92 rfl (.val nod) (.cons (.one (.bor (.all (len := 3) (xs := [[PV.v (.int .i64 (cmpS a.user b.user))], [PV.v (.int .i64 (cmpI b.seq a.seq))], [PV.v (.int .i64 (cmpI b.kind a.kind))]]) rfl rfl (by decide)))) .nil) (by decide) all_nil .nil (or_con [cmpS a.user b.user, cmpI b.seq a.seq, cmpI b.kind a.kind] (by simp)) rfl rfl (nle rfl)) (.a rfl rfl .nil)))))))))))))))))) (by kernel_rfl) ?_
 refine zAO ?_
 exact ends [_] [] (.cons (.tmp (zAJ (zO1 a b))) .nil) (.cons (.one .v (.v _)) .nil) (by decide) trivial
theorem zE1 (e : Ent) : Con Tryz.prog 59 [.agg [PV.v (.string e.user), PV.v (.int .i64 e.seq), PV.v (.int .i64 e.kind), PV.v (.string e.value)]] [] [.one (.v (.bool (zBh e)))] := by
 refine zAS func59 rfl rfl rfl rfl ?_
 refine zAB (zAA rfl (.run [] [1] rfl (zBT rfl 1 rfl rfl (by decide) rfl (by decide)) (.a rfl rfl .nil)) ?_)
 refine zAB ?_
 refine zAV (s' := mk [(1, .ptr 1 0)] [(1, [.vs e.user, .vi e.seq, .vi e.kind, .vs e.value])] []) ?_ ?_
 · exact zAI ⟨rfl, trivial⟩ ⟨rfl, trivial⟩ trivial rfl
 rcases bfc (zCg e.user e.seq e.kind) with h1 | h1
 ·
  have h1' := h1
  refine zAA rfl (.r rfl (zAC rfl rfl underlying56 rfl sizeOf54 (by decide)) (.r rfl (zAG rfl rfl rfl isAgg54 sizeOf54 (nle rfl)) (.run [500] [] rfl (zAK rfl 500 (X := []) en91 rfl (.val nod) (.cons (.agg (.cons (.bor .v) (.cons (.bor .v) (.cons (.bor .v) .nil)))) .nil) (by decide) all_nil .nil (zFI e) rfl rfl (nle rfl)) (.r rfl (zAX (zBJ rfl) (by exact congrArg (fun b => AV.p none (.v (.bool b))) h1)) (.not rfl (.not rfl (.not rfl (.not rfl (.r rfl (zAT (t := false) rfl rfl) (.m rfl rfl (.not rfl (.not rfl (.not rfl (.not rfl (.not rfl (.not rfl (.not rfl (.not rfl (.not rfl (.r rfl (zAT (t := false) rfl rfl) (.a rfl rfl .nil))))))))))))))))))))) ?_
  refine zAO ?_
  exact ends [_] [] (.cons (.tmp (zAM (by simp only [zBh, h1, Bool.true_and, Bool.false_and, Bool.and_true, Bool.and_false, Bool.true_or, Bool.false_or]))) .nil) (.cons (.one .v (.v _)) .nil) (by decide) trivial
 ·
  have h1' := h1
  rcases bfc (decide ((e.value.size : Int) ≤ 200)) with h2 | h2
  ·
   have h2' := h2
   replace h2' := of_decide_eq_false h2'
   refine zAA rfl (.r rfl (zAC rfl rfl underlying56 rfl sizeOf54 (by decide)) (.r rfl (zAG rfl rfl rfl isAgg54 sizeOf54 (nle rfl)) (.run [500] [] rfl (zAK rfl 500 (X := []) en91 rfl (.val nod) (.cons (.agg (.cons (.bor .v) (.cons (.bor .v) (.cons (.bor .v) .nil)))) .nil) (by decide) all_nil .nil (zFI e) rfl rfl (nle rfl)) (.r rfl (zAX (zBJ rfl) (by exact congrArg (fun b => AV.p none (.v (.bool b))) h1)) (.r rfl (zAC rfl rfl underlying56 rfl sizeOf9 (by decide)) (.r rfl (zAD rfl rfl rfl isAgg9 rfl) (.r rfl (zBs rfl rfl underlying9) (.r rfl (zAX (zBz rfl rfl rfl) (by exact congrArg (fun b => AV.p none (.v (.bool b))) h2)) (.r rfl (zAT (t := true) rfl rfl) (.m rfl rfl (.not rfl (.not rfl (.not rfl (.not rfl (.not rfl (.not rfl (.not rfl (.not rfl (.not rfl (.r rfl (zAT (t := false) rfl rfl) (.a rfl rfl .nil))))))))))))))))))))) ?_
   refine zAO ?_
   exact ends [_] [] (.cons (.tmp (zAM (by simp only [zBh, h1, h2, Bool.true_and, Bool.false_and, Bool.and_true, Bool.and_false, Bool.true_or, Bool.false_or]))) .nil) (.cons (.one .v (.v _)) .nil) (by decide) trivial
  ·
   have h2' := h2
   replace h2' := of_decide_eq_true h2'
   rcases bfc (decide (e.kind = 1)) with h3 | h3
   ·
    have h3' := h3
    replace h3' := of_decide_eq_false h3'
    refine zAA rfl (.r rfl (zAC rfl rfl underlying56 rfl sizeOf54 (by decide)) (.r rfl (zAG rfl rfl rfl isAgg54 sizeOf54 (nle rfl)) (.run [500] [] rfl (zAK rfl 500 (X := []) en91 rfl (.val nod) (.cons (.agg (.cons (.bor .v) (.cons (.bor .v) (.cons (.bor .v) .nil)))) .nil) (by decide) all_nil .nil (zFI e) rfl rfl (nle rfl)) (.r rfl (zAX (zBJ rfl) (by exact congrArg (fun b => AV.p none (.v (.bool b))) h1)) (.r rfl (zAC rfl rfl underlying56 rfl sizeOf9 (by decide)) (.r rfl (zAD rfl rfl rfl isAgg9 rfl) (.r rfl (zBs rfl rfl underlying9) (.r rfl (zAX (zBz rfl rfl rfl) (by exact congrArg (fun b => AV.p none (.v (.bool b))) h2)) (.r rfl (zAT (t := true) rfl rfl) (.m rfl rfl (.r rfl (zAC rfl rfl underlying56 rfl sizeOf54 (by decide)) (.r rfl (zAC rfl rfl underlying54 rfl sizeOf2 (by decide)) (.r rfl (zAD rfl rfl rfl isAgg2 rfl) (.r rfl (zAX (zA9 rfl rfl rfl) (by exact congrArg (fun b => AV.p none (.v (.bool b))) h3)) (.m rfl rfl (.r rfl (zAC rfl rfl underlying56 rfl sizeOf9 (by decide)) (.r rfl (zAD rfl rfl rfl isAgg9 rfl) (.r rfl (zC7 rfl rfl rfl) (.r rfl (zAT (t := false) rfl rfl) (.r rfl (zAT (t := true) rfl rfl) (.a rfl rfl .nil))))))))))))))))))))) ?_
    refine zAO ?_
    exact ends [_] [] (.cons (.tmp (zAM (by simp only [zBh, h1, h2, h3, Bool.true_and, Bool.false_and, Bool.and_true, Bool.and_false, Bool.true_or, Bool.false_or]))) .nil) (.cons (.one .v (.v _)) .nil) (by decide) trivial
   ·
    have h3' := h3
    replace h3' := of_decide_eq_true h3'
    refine zAA rfl (.r rfl (zAC rfl rfl underlying56 rfl sizeOf54 (by decide)) (.r rfl (zAG rfl rfl rfl isAgg54 sizeOf54 (nle rfl)) (.run [500] [] rfl (zAK rfl 500 (X := []) en91 rfl (.val nod) (.cons (.agg (.cons (.bor .v) (.cons (.bor .v) (.cons (.bor .v) .nil)))) .nil) (by decide) all_nil .nil (zFI e) rfl rfl (nle rfl)) (.r rfl (zAX (zBJ rfl) (by exact congrArg (fun b => AV.p none (.v (.bool b))) h1)) (.r rfl (zAC rfl rfl underlying56 rfl sizeOf9 (by decide)) (.r rfl (zAD rfl rfl rfl isAgg9 rfl) (.r rfl (zBs rfl rfl underlying9) (.r rfl (zAX (zBz rfl rfl rfl) (by exact congrArg (fun b => AV.p none (.v (.bool b))) h2)) (.r rfl (zAT (t := true) rfl rfl) (.m rfl rfl (.r rfl (zAC rfl rfl underlying56 rfl sizeOf54 (by decide)) (.r rfl (zAC rfl rfl underlying54 rfl sizeOf2 (by decide)) (.r rfl (zAD rfl rfl rfl isAgg2 rfl) (.r rfl (zAX (zA9 rfl rfl rfl) (by exact congrArg (fun b => AV.p none (.v (.bool b))) h3)) (.m rfl rfl (.not rfl (.not rfl (.not rfl (.r rfl (zAT (t := true) rfl rfl) (.r rfl (zAT (t := true) rfl rfl) (.a rfl rfl .nil))))))))))))))))))))) ?_
    refine zAO ?_
    exact ends [_] [] (.cons (.tmp (zAM (by simp only [zBh, h1, h2, h3, Bool.true_and, Bool.false_and, Bool.and_true, Bool.and_false, Bool.true_or, Bool.false_or]))) .nil) (.cons (.one .v (.v _)) .nil) (by decide) trivial
theorem zCZ (e : Ent) : Con Tryz.prog 64 [.agg [PV.v (.string e.user), PV.v (.int .i64 e.seq), PV.v (.int .i64 e.kind), PV.v (.string e.value)]] [] [.one (.v (.bool (zBh e)))] := by
 refine zAS func64 rfl rfl rfl rfl ?_
 refine zAB (zAA rfl (.run [] [1] rfl (zBT rfl 1 rfl rfl (by decide) rfl (by decide)) (.a rfl rfl .nil)) ?_)
 refine zAB ?_
 refine zAV (s' := mk [(1, .ptr 1 0)] [(1, [.vs e.user, .vi e.seq, .vi e.kind, .vs e.value])] []) ?_ ?_
 · exact zAI ⟨rfl, trivial⟩ ⟨rfl, trivial⟩ trivial rfl
 rcases bfc (zCg e.user e.seq e.kind) with h1 | h1
 ·
  have h1' := h1
  refine zAA rfl (.r rfl (zAC rfl rfl underlying56 rfl sizeOf54 (by decide)) (.r rfl (zAG rfl rfl rfl isAgg54 sizeOf54 (nle rfl)) (.run [500] [] rfl (zAK rfl 500 (X := []) en96 rfl (.val nod) (.cons (.agg (.cons (.bor .v) (.cons (.bor .v) (.cons (.bor .v) .nil)))) .nil) (by decide) all_nil .nil (zB0 e) rfl rfl (nle rfl)) (.r rfl (zAX (zBJ rfl) (by exact congrArg (fun b => AV.p none (.v (.bool b))) h1)) (.not rfl (.not rfl (.not rfl (.not rfl (.r rfl (zAT (t := false) rfl rfl) (.m rfl rfl (.not rfl (.not rfl (.not rfl (.not rfl (.not rfl (.not rfl (.not rfl (.not rfl (.not rfl (.r rfl (zAT (t := false) rfl rfl) (.a rfl rfl .nil))))))))))))))))))))) ?_
  refine zAO ?_
  exact ends [_] [] (.cons (.tmp (zAM (by simp only [zBh, h1, Bool.true_and, Bool.false_and, Bool.and_true, Bool.and_false, Bool.true_or, Bool.false_or]))) .nil) (.cons (.one .v (.v _)) .nil) (by decide) trivial
 ·
  have h1' := h1
  rcases bfc (decide ((e.value.size : Int) ≤ 200)) with h2 | h2
  ·
   have h2' := h2
   replace h2' := of_decide_eq_false h2'
   refine zAA rfl (.r rfl (zAC rfl rfl underlying56 rfl sizeOf54 (by decide)) (.r rfl (zAG rfl rfl rfl isAgg54 sizeOf54 (nle rfl)) (.run [500] [] rfl (zAK rfl 500 (X := []) en96 rfl (.val nod) (.cons (.agg (.cons (.bor .v) (.cons (.bor .v) (.cons (.bor .v) .nil)))) .nil) (by decide) all_nil .nil (zB0 e) rfl rfl (nle rfl)) (.r rfl (zAX (zBJ rfl) (by exact congrArg (fun b => AV.p none (.v (.bool b))) h1)) (.r rfl (zAC rfl rfl underlying56 rfl sizeOf9 (by decide)) (.r rfl (zAD rfl rfl rfl isAgg9 rfl) (.r rfl (zBs rfl rfl underlying9) (.r rfl (zAX (zBz rfl rfl rfl) (by exact congrArg (fun b => AV.p none (.v (.bool b))) h2)) (.r rfl (zAT (t := true) rfl rfl) (.m rfl rfl (.not rfl (.not rfl (.not rfl (.not rfl (.not rfl (.not rfl (.not rfl (.not rfl (.not rfl (.r rfl (zAT (t := false) rfl rfl) (.a rfl rfl .nil))))))))))))))))))))) ?_
   refine zAO ?_
   exact ends [_] [] (.cons (.tmp (zAM (by simp only [zBh, h1, h2, Bool.true_and, Bool.false_and, Bool.and_true, Bool.and_false, Bool.true_or, Bool.false_or]))) .nil) (.cons (.one .v (.v _)) .nil) (by decide) trivial
  ·
   have h2' := h2
   replace h2' := of_decide_eq_true h2'
   rcases bfc (decide (e.kind = 1)) with h3 | h3
   ·
    have h3' := h3
    replace h3' := of_decide_eq_false h3'
    refine zAA rfl (.r rfl (zAC rfl rfl underlying56 rfl sizeOf54 (by decide)) (.r rfl (zAG rfl rfl rfl isAgg54 sizeOf54 (nle rfl)) (.run [500] [] rfl (zAK rfl 500 (X := []) en96 rfl (.val nod) (.cons (.agg (.cons (.bor .v) (.cons (.bor .v) (.cons (.bor .v) .nil)))) .nil) (by decide) all_nil .nil (zB0 e) rfl rfl (nle rfl)) (.r rfl (zAX (zBJ rfl) (by exact congrArg (fun b => AV.p none (.v (.bool b))) h1)) (.r rfl (zAC rfl rfl underlying56 rfl sizeOf9 (by decide)) (.r rfl (zAD rfl rfl rfl isAgg9 rfl) (.r rfl (zBs rfl rfl underlying9) (.r rfl (zAX (zBz rfl rfl rfl) (by exact congrArg (fun b => AV.p none (.v (.bool b))) h2)) (.r rfl (zAT (t := true) rfl rfl) (.m rfl rfl (.r rfl (zAC rfl rfl underlying56 rfl sizeOf54 (by decide)) (.r rfl (zAC rfl rfl underlying54 rfl sizeOf2 (by decide)) (.r rfl (zAD rfl rfl rfl isAgg2 rfl) (.r rfl (zAX (zA9 rfl rfl rfl) (by exact congrArg (fun b => AV.p none (.v (.bool b))) h3)) (.m rfl rfl (.r rfl (zAC rfl rfl underlying56 rfl sizeOf9 (by decide)) (.r rfl (zAD rfl rfl rfl isAgg9 rfl) (.r rfl (zC7 rfl rfl rfl) (.r rfl (zAT (t := false) rfl rfl) (.r rfl (zAT (t := true) rfl rfl) (.a rfl rfl .nil))))))))))))))))))))) ?_
    refine zAO ?_
    exact ends [_] [] (.cons (.tmp (zAM (by simp only [zBh, h1, h2, h3, Bool.true_and, Bool.false_and, Bool.and_true, Bool.and_false, Bool.true_or, Bool.false_or]))) .nil) (.cons (.one .v (.v _)) .nil) (by decide) trivial
   ·
    have h3' := h3
    replace h3' := of_decide_eq_true h3'
    refine zAA rfl (.r rfl (zAC rfl rfl underlying56 rfl sizeOf54 (by decide)) (.r rfl (zAG rfl rfl rfl isAgg54 sizeOf54 (nle rfl)) (.run [500] [] rfl (zAK rfl 500 (X := []) en96 rfl (.val nod) (.cons (.agg (.cons (.bor .v) (.cons (.bor .v) (.cons (.bor .v) .nil)))) .nil) (by decide) all_nil .nil (zB0 e) rfl rfl (nle rfl)) (.r rfl (zAX (zBJ rfl) (by exact congrArg (fun b => AV.p none (.v (.bool b))) h1)) (.r rfl (zAC rfl rfl underlying56 rfl sizeOf9 (by decide)) (.r rfl (zAD rfl rfl rfl isAgg9 rfl) (.r rfl (zBs rfl rfl underlying9) (.r rfl (zAX (zBz rfl rfl rfl) (by exact congrArg (fun b => AV.p none (.v (.bool b))) h2)) (.r rfl (zAT (t := true) rfl rfl) (.m rfl rfl (.r rfl (zAC rfl rfl underlying56 rfl sizeOf54 (by decide)) (.r rfl (zAC rfl rfl underlying54 rfl sizeOf2 (by decide)) (.r rfl (zAD rfl rfl rfl isAgg2 rfl) (.r rfl (zAX (zA9 rfl rfl rfl) (by exact congrArg (fun b => AV.p none (.v (.bool b))) h3)) (.m rfl rfl (.not rfl (.not rfl (.not rfl (.r rfl (zAT (t := true) rfl rfl) (.r rfl (zAT (t := true) rfl rfl) (.a rfl rfl .nil))))))))))))))))))))) ?_
    refine zAO ?_
    exact ends [_] [] (.cons (.tmp (zAM (by simp only [zBh, h1, h2, h3, Bool.true_and, Bool.false_and, Bool.and_true, Bool.and_false, Bool.true_or, Bool.false_or]))) .nil) (.cons (.one .v (.v _)) .nil) (by decide) trivial
end Go.Rl
namespace Go.Rl
open Go.Proofs Go.Proofs.Tryz
set_option maxRecDepth 1000000
set_option maxHeartbeats 2000000
theorem zBb : (Tryz.prog.info? 56).map (fun i => (i.zero, i.size, i.bytes)) = some (some (.agg #[.string ⟨#[]⟩, .int .i64 0, .int .i64 0, .string ⟨#[]⟩]), 4, 48) := by kernel_rfl
theorem en59 : En Tryz.prog 59 := zAn func59 (by decide) rfl
theorem en60 : En Tryz.prog 60 := zAn func60 (by decide) rfl
theorem en64 : En Tryz.prog 64 := zAn func64 (by decide) rfl
theorem en65 : En Tryz.prog 65 := zAn func65 (by decide) rfl
theorem zLq (a b : ByteArray × Int × Int) (w : World) : (Op.equalIn 10000 54 (.agg ⟨[.string a.1, .int .i64 a.2.1, .int .i64 a.2.2]⟩) (.agg ⟨[.string b.1, .int .i64 b.2.1, .int .i64 b.2.2]⟩)).run Tryz.prog w = .ok (decide (a = b)) w := by
 rw [show (10000 : Nat) = 9999 + 1 from rfl, run_equalIn_agg w 9999 54 _ _ underlying54 (by kernel_rfl)]
 rw [show (Tryz.prog.fieldsOf 54).toList = [⟨"User", 9, 0, false, "", "", 0⟩, ⟨"Seq", 2, 1, false, "", "", 16⟩, ⟨"Kind", 2, 2, false, "", "", 24⟩] from rfl]
 rw [show (9999 : Nat) = 9998 + 1 from rfl]
 have hb : ∀ x y : ByteArray, x.toList = y.toList ↔ x = y := fun x y => ⟨zFb, fun h => by rw [h]⟩
 simp [Op.eqFields, part, isAgg9, sizeOf9, isAgg2, sizeOf2, run_equalIn_string (h := underlying9), run_equalIn_int (h := underlying2), hb]
 obtain ⟨a1, a2, a3⟩ := a
 obtain ⟨b1, b2, b3⟩ := b
 simp only [Prod.mk.injEq]
 split
 ·
  split
  · split <;> simp_all
  · simp_all
 · simp_all
theorem zEi (a b : Ent) : Con Tryz.prog 65 [.agg [PV.v (.string a.user), PV.v (.int .i64 a.seq), PV.v (.int .i64 a.kind)], .agg [PV.v (.string b.user), PV.v (.int .i64 b.seq), PV.v (.int .i64 b.kind)]] [] [.one (.v (.int .i64 (kcmp a b)))] := by
 refine zAS func65 rfl rfl rfl rfl ?_
 refine zAB (zAA rfl (.run [] [2] rfl (zBT rfl 2 rfl rfl (by decide) rfl (by decide)) (.run [] [3] rfl (zBT rfl 3 rfl rfl (by decide) rfl (by decide)) (.a rfl rfl .nil))) ?_)
 refine zAB ?_
 refine zAB ?_
 rcases bfc (!(zCg a.user a.seq a.kind)) with h1 | h1
 ·
  have h1' := h1
  replace h1' : (zCg a.user a.seq a.kind) = true := zBI h1'
  refine zAA rfl (.r rfl (zAG rfl rfl rfl isAgg54 sizeOf54 (nle rfl)) (.run [600] [] rfl (zAK rfl 600 (X := []) en96 rfl (.val nod) (.cons (.agg (.cons (.bor .v) (.cons (.bor .v) (.cons (.bor .v) .nil)))) .nil) (by decide) all_nil .nil (zB0 a) rfl rfl (nle rfl)) (.r rfl (zAX (zA3 (b := zCg a.user a.seq a.kind) rfl rfl) (by exact congrArg (fun b => AV.p none (.v (.bool b))) h1)) (.m rfl rfl (.r rfl (zAG rfl rfl rfl isAgg54 sizeOf54 (nle rfl)) (.run [1000] [] rfl (zAK rfl 1000 (X := []) en96 rfl (.val nod) (.cons (.agg (.cons (.bor .v) (.cons (.bor .v) (.cons (.bor .v) .nil)))) .nil) (by decide) all_nil .nil (zB0 b) rfl rfl (nle rfl)) (.r rfl (zA3 (b := zCg b.user b.seq b.kind) rfl rfl) (.r rfl (zAT (t := false) rfl rfl) .nil)))))))) ?_
  refine zAb (t := (!(zCg b.user b.seq b.kind))) rfl (fun h2 => ?_) (fun h2 => ?_)
  ·
   replace h2 : (zCg b.user b.seq b.kind) = false := zBH h2
   refine zAB (zAA rfl (.a rfl rfl .nil) ?_)
   refine zAO ?_
   exact ends [_] [] (.cons (.tmp (zAJ (by simp [kcmp, h1', h2]))) .nil) (.cons (.one .v (.v _)) .nil) (by decide) trivial
  ·
   replace h2 : (zCg b.user b.seq b.kind) = true := zBI h2
   refine zAL ?_
   refine zAB ?_
   refine zAB (zAA rfl (.r rfl (zAG rfl rfl rfl isAgg54 sizeOf54 (nle rfl)) (.r rfl (zAG rfl rfl rfl isAgg54 sizeOf54 (nle rfl)) (.r rfl (zM7 rfl rfl rfl rfl rfl Tryz.eqGuardType54 (fun w => zLq (a.user, a.seq, a.kind) (b.user, b.seq, b.kind) w)) .nil))) ?_)
   refine zAb (t := decide ((a.user, a.seq, a.kind) = (b.user, b.seq, b.kind))) rfl (fun h3 => ?_) (fun h3 => ?_)
   ·
    replace h3 := of_decide_eq_true h3
    refine zAB (zAA rfl (.a rfl rfl .nil) ?_)
    refine zAO ?_
    exact ends [_] [] (.cons (.tmp (zAJ (by rw [zDW h1' h2]; have hk := h3; simp only [Prod.mk.injEq] at hk; exact (zG8 hk.1 hk.2.1 hk.2.2).symm))) .nil) (.cons (.one .v (.v _)) .nil) (by decide) trivial
   ·
    replace h3 := of_decide_eq_false h3
    refine zAL ?_
    refine zAB ?_
    refine zAB ?_
    refine zAV (s' := mk [(2, .ptr 2 0), (3, .ptr 3 0)] [(2, [.vs a.user, .vi a.seq, .vi a.kind]), (3, [.vs b.user, .vi b.seq, .vi b.kind])] []) ?_ ?_
    · exact zAI ⟨rfl, rfl, trivial⟩ ⟨rfl, rfl, trivial⟩ trivial rfl
    rcases bfc (ltB a.user b.user) with h4 | h4
    ·
     have h4' := h4
     rcases bfc (decide (a.user = b.user)) with h5 | h5
     ·
      have h5' := h5
      replace h5' := of_decide_eq_false h5'
      refine zAA rfl (.r rfl (zAC rfl rfl underlying54 rfl sizeOf9 (by decide)) (.r rfl (zAD rfl rfl rfl isAgg9 rfl) (.r rfl (zAC rfl rfl underlying54 rfl sizeOf9 (by decide)) (.r rfl (zAD rfl rfl rfl isAgg9 rfl) (.r rfl (zAX (zDm rfl rfl rfl) (by exact congrArg (fun b => AV.p none (.v (.bool b))) h4)) (.m rfl rfl (.r rfl (zAC rfl rfl underlying54 rfl sizeOf9 (by decide)) (.r rfl (zAD rfl rfl rfl isAgg9 rfl) (.r rfl (zAC rfl rfl underlying54 rfl sizeOf9 (by decide)) (.r rfl (zAD rfl rfl rfl isAgg9 rfl) (.r rfl (zAX (zC7 rfl rfl rfl) (by exact congrArg (fun b => AV.p none (.v (.bool b))) h5)) (.m rfl rfl (.not rfl (.not rfl (.not rfl (.not rfl (.not rfl (.not rfl (.not rfl (.not rfl (.not rfl (.not rfl (.not rfl (.not rfl (.not rfl (.not rfl (.not rfl (.not rfl (.not rfl (.not rfl (.not rfl (.r rfl (zAT (t := false) rfl rfl) (.r rfl (zAT (t := false) rfl rfl) .nil))))))))))))))))))))))))))))))))) ?_
      refine zAb (t := false) rfl (fun h => nomatch h) (fun _ => ?_)
      refine zAL ?_
      refine zAB ?_
      refine zAV (s' := mk [] [] []) ?_ ?_
      · exact zAI trivial trivial trivial rfl
      refine zAA rfl (.a rfl rfl .nil) ?_
      refine zAO ?_
      exact ends [_] [] (.cons (.tmp (zAJ (by rw [zDW h1' h2]; exact (zG7 (by simp_all [LessE] <;> omega) (by have hk := h3; simp only [Prod.mk.injEq] at hk; exact hk)).symm))) .nil) (.cons (.one .v (.v _)) .nil) (by decide) trivial
     ·
      have h5' := h5
      replace h5' := of_decide_eq_true h5'
      rcases bfc (decide (b.seq < a.seq)) with h6 | h6
      ·
       have h6' := h6
       replace h6' := of_decide_eq_false h6'
       rcases bfc (decide (a.seq = b.seq)) with h7 | h7
       ·
        have h7' := h7
        replace h7' := of_decide_eq_false h7'
        refine zAA rfl (.r rfl (zAC rfl rfl underlying54 rfl sizeOf9 (by decide)) (.r rfl (zAD rfl rfl rfl isAgg9 rfl) (.r rfl (zAC rfl rfl underlying54 rfl sizeOf9 (by decide)) (.r rfl (zAD rfl rfl rfl isAgg9 rfl) (.r rfl (zAX (zDm rfl rfl rfl) (by exact congrArg (fun b => AV.p none (.v (.bool b))) h4)) (.m rfl rfl (.r rfl (zAC rfl rfl underlying54 rfl sizeOf9 (by decide)) (.r rfl (zAD rfl rfl rfl isAgg9 rfl) (.r rfl (zAC rfl rfl underlying54 rfl sizeOf9 (by decide)) (.r rfl (zAD rfl rfl rfl isAgg9 rfl) (.r rfl (zAX (zC7 rfl rfl rfl) (by exact congrArg (fun b => AV.p none (.v (.bool b))) h5)) (.m rfl rfl (.r rfl (zAC rfl rfl underlying54 rfl sizeOf2 (by decide)) (.r rfl (zAD rfl rfl rfl isAgg2 rfl) (.r rfl (zAC rfl rfl underlying54 rfl sizeOf2 (by decide)) (.r rfl (zAD rfl rfl rfl isAgg2 rfl) (.r rfl (zAX (zBF rfl rfl rfl) (by exact congrArg (fun b => AV.p none (.v (.bool b))) h6)) (.m rfl rfl (.r rfl (zAC rfl rfl underlying54 rfl sizeOf2 (by decide)) (.r rfl (zAD rfl rfl rfl isAgg2 rfl) (.r rfl (zAC rfl rfl underlying54 rfl sizeOf2 (by decide)) (.r rfl (zAD rfl rfl rfl isAgg2 rfl) (.r rfl (zAX (zA9 rfl rfl rfl) (by exact congrArg (fun b => AV.p none (.v (.bool b))) h7)) (.m rfl rfl (.not rfl (.not rfl (.not rfl (.not rfl (.not rfl (.r rfl (zAT (t := false) rfl rfl) (.r rfl (zAT (t := false) rfl rfl) (.r rfl (zAT (t := true) rfl rfl) (.r rfl (zAT (t := false) rfl rfl) .nil))))))))))))))))))))))))))))))))) ?_
        refine zAb (t := false) rfl (fun h => nomatch h) (fun _ => ?_)
        refine zAL ?_
        refine zAB ?_
        refine zAV (s' := mk [] [] []) ?_ ?_
        · exact zAI trivial trivial trivial rfl
        refine zAA rfl (.a rfl rfl .nil) ?_
        refine zAO ?_
        exact ends [_] [] (.cons (.tmp (zAJ (by rw [zDW h1' h2]; exact (zG7 (by simp_all [LessE] <;> omega) (by have hk := h3; simp only [Prod.mk.injEq] at hk; exact hk)).symm))) .nil) (.cons (.one .v (.v _)) .nil) (by decide) trivial
       ·
        have h7' := h7
        replace h7' := of_decide_eq_true h7'
        refine zAA rfl (.r rfl (zAC rfl rfl underlying54 rfl sizeOf9 (by decide)) (.r rfl (zAD rfl rfl rfl isAgg9 rfl) (.r rfl (zAC rfl rfl underlying54 rfl sizeOf9 (by decide)) (.r rfl (zAD rfl rfl rfl isAgg9 rfl) (.r rfl (zAX (zDm rfl rfl rfl) (by exact congrArg (fun b => AV.p none (.v (.bool b))) h4)) (.m rfl rfl (.r rfl (zAC rfl rfl underlying54 rfl sizeOf9 (by decide)) (.r rfl (zAD rfl rfl rfl isAgg9 rfl) (.r rfl (zAC rfl rfl underlying54 rfl sizeOf9 (by decide)) (.r rfl (zAD rfl rfl rfl isAgg9 rfl) (.r rfl (zAX (zC7 rfl rfl rfl) (by exact congrArg (fun b => AV.p none (.v (.bool b))) h5)) (.m rfl rfl (.r rfl (zAC rfl rfl underlying54 rfl sizeOf2 (by decide)) (.r rfl (zAD rfl rfl rfl isAgg2 rfl) (.r rfl (zAC rfl rfl underlying54 rfl sizeOf2 (by decide)) (.r rfl (zAD rfl rfl rfl isAgg2 rfl) (.r rfl (zAX (zBF rfl rfl rfl) (by exact congrArg (fun b => AV.p none (.v (.bool b))) h6)) (.m rfl rfl (.r rfl (zAC rfl rfl underlying54 rfl sizeOf2 (by decide)) (.r rfl (zAD rfl rfl rfl isAgg2 rfl) (.r rfl (zAC rfl rfl underlying54 rfl sizeOf2 (by decide)) (.r rfl (zAD rfl rfl rfl isAgg2 rfl) (.r rfl (zAX (zA9 rfl rfl rfl) (by exact congrArg (fun b => AV.p none (.v (.bool b))) h7)) (.m rfl rfl (.r rfl (zAC rfl rfl underlying54 rfl sizeOf2 (by decide)) (.r rfl (zAD rfl rfl rfl isAgg2 rfl) (.r rfl (zAC rfl rfl underlying54 rfl sizeOf2 (by decide)) (.r rfl (zAD rfl rfl rfl isAgg2 rfl) (.r rfl (zBF rfl rfl rfl) (.r rfl (zAT (t := true) rfl rfl) (.r rfl (zAT (t := false) rfl rfl) (.r rfl (zAT (t := true) rfl rfl) (.r rfl (zAT (t := false) rfl rfl) .nil))))))))))))))))))))))))))))))))) ?_
        refine zAb (t := decide (b.kind < a.kind)) rfl (fun h8 => ?_) (fun h8 => ?_)
        ·
         replace h8 := of_decide_eq_true h8
         refine zAB ?_
         refine zAV (s' := mk [] [] []) ?_ ?_
         · exact zAI trivial trivial trivial rfl
         refine zAA rfl (.a rfl rfl .nil) ?_
         refine zAO ?_
         exact ends [_] [] (.cons (.tmp (zAJ (by rw [zDW h1' h2]; exact (zDx (by simp_all [LessE])).symm))) .nil) (.cons (.one .v (.v _)) .nil) (by decide) trivial
        ·
         replace h8 := of_decide_eq_false h8
         refine zAL ?_
         refine zAB ?_
         refine zAV (s' := mk [] [] []) ?_ ?_
         · exact zAI trivial trivial trivial rfl
         refine zAA rfl (.a rfl rfl .nil) ?_
         refine zAO ?_
         exact ends [_] [] (.cons (.tmp (zAJ (by rw [zDW h1' h2]; exact (zG7 (by simp_all [LessE] <;> omega) (by have hk := h3; simp only [Prod.mk.injEq] at hk; exact hk)).symm))) .nil) (.cons (.one .v (.v _)) .nil) (by decide) trivial
      ·
       have h6' := h6
       replace h6' := of_decide_eq_true h6'
       refine zAA rfl (.r rfl (zAC rfl rfl underlying54 rfl sizeOf9 (by decide)) (.r rfl (zAD rfl rfl rfl isAgg9 rfl) (.r rfl (zAC rfl rfl underlying54 rfl sizeOf9 (by decide)) (.r rfl (zAD rfl rfl rfl isAgg9 rfl) (.r rfl (zAX (zDm rfl rfl rfl) (by exact congrArg (fun b => AV.p none (.v (.bool b))) h4)) (.m rfl rfl (.r rfl (zAC rfl rfl underlying54 rfl sizeOf9 (by decide)) (.r rfl (zAD rfl rfl rfl isAgg9 rfl) (.r rfl (zAC rfl rfl underlying54 rfl sizeOf9 (by decide)) (.r rfl (zAD rfl rfl rfl isAgg9 rfl) (.r rfl (zAX (zC7 rfl rfl rfl) (by exact congrArg (fun b => AV.p none (.v (.bool b))) h5)) (.m rfl rfl (.r rfl (zAC rfl rfl underlying54 rfl sizeOf2 (by decide)) (.r rfl (zAD rfl rfl rfl isAgg2 rfl) (.r rfl (zAC rfl rfl underlying54 rfl sizeOf2 (by decide)) (.r rfl (zAD rfl rfl rfl isAgg2 rfl) (.r rfl (zAX (zBF rfl rfl rfl) (by exact congrArg (fun b => AV.p none (.v (.bool b))) h6)) (.m rfl rfl (.not rfl (.not rfl (.not rfl (.not rfl (.not rfl (.not rfl (.not rfl (.not rfl (.not rfl (.not rfl (.not rfl (.not rfl (.r rfl (zAT (t := true) rfl rfl) (.r rfl (zAT (t := true) rfl rfl) (.r rfl (zAT (t := false) rfl rfl) .nil))))))))))))))))))))))))))))))))) ?_
       refine zAb (t := true) rfl (fun _ => ?_) (fun h => nomatch h)
       refine zAB ?_
       refine zAV (s' := mk [] [] []) ?_ ?_
       · exact zAI trivial trivial trivial rfl
       refine zAA rfl (.a rfl rfl .nil) ?_
       refine zAO ?_
       exact ends [_] [] (.cons (.tmp (zAJ (by rw [zDW h1' h2]; exact (zDx (by simp_all [LessE])).symm))) .nil) (.cons (.one .v (.v _)) .nil) (by decide) trivial
    ·
     have h4' := h4
     refine zAA rfl (.r rfl (zAC rfl rfl underlying54 rfl sizeOf9 (by decide)) (.r rfl (zAD rfl rfl rfl isAgg9 rfl) (.r rfl (zAC rfl rfl underlying54 rfl sizeOf9 (by decide)) (.r rfl (zAD rfl rfl rfl isAgg9 rfl) (.r rfl (zAX (zDm rfl rfl rfl) (by exact congrArg (fun b => AV.p none (.v (.bool b))) h4)) (.m rfl rfl (.not rfl (.not rfl (.not rfl (.not rfl (.not rfl (.not rfl (.not rfl (.not rfl (.not rfl (.not rfl (.not rfl (.not rfl (.not rfl (.not rfl (.not rfl (.not rfl (.not rfl (.not rfl (.not rfl (.not rfl (.not rfl (.not rfl (.not rfl (.not rfl (.not rfl (.not rfl (.r rfl (zAT (t := true) rfl rfl) .nil))))))))))))))))))))))))))))))))) ?_
     refine zAb (t := true) rfl (fun _ => ?_) (fun h => nomatch h)
     refine zAB ?_
     refine zAV (s' := mk [] [] []) ?_ ?_
     · exact zAI trivial trivial trivial rfl
     refine zAA rfl (.a rfl rfl .nil) ?_
     refine zAO ?_
     exact ends [_] [] (.cons (.tmp (zAJ (by rw [zDW h1' h2]; exact (zDx (by simp_all [LessE])).symm))) .nil) (.cons (.one .v (.v _)) .nil) (by decide) trivial
 ·
  have h1' := h1
  replace h1' : (zCg a.user a.seq a.kind) = false := zBH h1'
  refine zAA rfl (.r rfl (zAG rfl rfl rfl isAgg54 sizeOf54 (nle rfl)) (.run [600] [] rfl (zAK rfl 600 (X := []) en96 rfl (.val nod) (.cons (.agg (.cons (.bor .v) (.cons (.bor .v) (.cons (.bor .v) .nil)))) .nil) (by decide) all_nil .nil (zB0 a) rfl rfl (nle rfl)) (.r rfl (zAX (zA3 (b := zCg a.user a.seq a.kind) rfl rfl) (by exact congrArg (fun b => AV.p none (.v (.bool b))) h1)) (.m rfl rfl (.not rfl (.not rfl (.not rfl (.r rfl (zAT (t := true) rfl rfl) .nil)))))))) ?_
  refine zAb (t := true) rfl (fun _ => ?_) (fun h => nomatch h)
  refine zAB (zAA rfl (.a rfl rfl .nil) ?_)
  refine zAO ?_
  exact ends [_] [] (.cons (.tmp (zAJ (by simp [kcmp, h1']))) .nil) (.cons (.one .v (.v _)) .nil) (by decide) trivial
theorem zC1 (l : List Ent) (hl : l.length ≤ 2000000) : Con Tryz.prog 22 [.one (PV.sl false 4 (pvE l))] [] [.one (.v (.bool (zAp l)))] := by
 refine zAS func22 rfl rfl rfl rfl ?_
 have hle := zAF l
 refine zAB (zAA rfl (.a rfl rfl .nil) ?_)
 refine zAB ?_
 refine zAB (zAA rfl (.m rfl rfl (.r rfl (zAa rfl rfl underlying24) (.r rfl (zBF rfl rfl rfl) .nil))) ?_)
 refine zAb (t := decide (400 < ((pvE l).length : Int))) rfl (fun h1 => ?_) (fun h1 => ?_)
 ·
  replace h1 := of_decide_eq_true h1
  refine zAB (zAA rfl (.a rfl rfl .nil) ?_)
  refine zAO ?_
  exact ends [_] [] (.cons (.tmp (zAM (zJi (by omega)).symm)) .nil) (.cons (.one .v (.v _)) .nil) (by decide) trivial
 ·
  replace h1 := of_decide_eq_false h1
  refine zAL ?_
  refine zAB ?_
  refine zAB (zAA rfl (.m rfl rfl (.r rfl (zAa rfl rfl underlying24) (.m rfl rfl .nil))) ?_)
  refine zAR ?_
  refine zAo (σ := Nat) (fun i => mk [(0, .p none (.sl false 4 (pvE l))), (8, .p none (.sl false 4 (pvE l))), (9, .vi ((pvE l).length : Int)), (10, .vi (i:Int))] [] []) (fun i => i ≤ l.length ∧ ∀ j e, j < i → l[j]? = some e → zCw l j e = true) (fun i => l.length - i) 0 ⟨Nat.zero_le _, fun _ _ h => absurd h (Nat.not_lt_zero _)⟩ (zAI ⟨rfl, rfl, rfl, (zAJ (by omega)), trivial⟩ trivial trivial rfl) ?_
  rintro i hG
  replace hG : i ≤ l.length ∧ ∀ j e, j < i → l[j]? = some e → zCw l j e = true := hG
  obtain ⟨hi, hG⟩ := hG
  refine zAB (zAA rfl (.r rfl (zA4 rfl rfl rfl) .nil) ?_)
  refine zAB ?_
  refine zAb (t := decide ((i:Int) < ((pvE l).length : Int))) rfl (fun h2 => ?_) (fun h2 => ?_)
  ·
   replace h2 := of_decide_eq_true h2
   refine zAL ?_
   refine zAB ?_
   refine zAR ?_
   refine zAB ?_
   obtain ⟨e, he⟩ : ∃ e, l[i]? = some e := ⟨_, List.getElem?_eq_getElem (by (have hL := zAF l; omega))⟩
   have hlte := (List.getElem?_eq_some_iff.1 he).1
   refine zAA rfl (.m rfl rfl (.r rfl (zAf rfl rfl rfl underlying24 sizeOf56 rfl (by omega) (zAw he)) (.r rfl (zBA rfl rfl isAgg56 sizeOf56 (nle rfl)) (.run [] [4] rfl (zAl rfl 4 zBb rfl (by decide) rfl (by decide)) (.a rfl rfl (.r rfl (zAE rfl rfl rfl rfl rfl sizeOf56 rfl (nle rfl)) .nil)))))) ?_
   refine zAB ?_
   refine zAV (s' := mk [(0, .p none (.sl false 4 (pvE l))), (3, .vi (i:Int)), (4, .ptr 4 0), (8, .p none (.sl false 4 (pvE l))), (9, .vi ((pvE l).length : Int)), (10, .vi (i:Int))] [(4, [.vs e.user, .vi e.seq, .vi e.kind, .vs e.value])] []) ?_ ?_
   · exact zAI ⟨rfl, rfl, rfl, rfl, rfl, rfl, trivial⟩ ⟨rfl, trivial⟩ trivial rfl
   rcases bfc (!(zBh e)) with h3 | h3
   ·
    have h3' := h3
    replace h3' : (zBh e) = true := zBI h3'
    rcases bfc (decide (0 < (i:Int))) with h4 | h4
    ·
     have h4' := h4
     replace h4' := of_decide_eq_false h4'
     refine zAZ zBD rfl (.r rfl (zAG rfl rfl rfl isAgg56 sizeOf56 (nle rfl)) (.run [1600] [] rfl (zAK rfl 1600 (X := []) en59 rfl (.val nod) (.cons (.agg (.cons (.bor .v) (.cons (.bor .v) (.cons (.bor .v) (.cons (.bor .v) .nil))))) .nil) (by decide) all_nil .nil (zE1 e) rfl rfl (nle rfl)) (.r rfl (zAX (zA3 (b := zBh e) rfl rfl) (by exact congrArg (fun b => AV.p none (.v (.bool b))) h3)) (.m rfl rfl (.m rfl rfl (.r rfl (zAX (zBF rfl rfl rfl) (by exact congrArg (fun b => AV.p none (.v (.bool b))) h4)) (.m rfl rfl (.not rfl (.not rfl (.not rfl (.not rfl (.not rfl (.not rfl (.not rfl (.not rfl (.not rfl (.not rfl (.r rfl (zAT (t := false) rfl rfl) (.r rfl (zAT (t := false) rfl rfl) .nil))))))))))))))))))) (by kernel_rfl) ?_
     refine zAb (t := false) rfl (fun h => nomatch h) (fun _ => ?_)
     refine zAL ?_
     refine zAV (s' := mk [(0, .p none (.sl false 4 (pvE l))), (8, .p none (.sl false 4 (pvE l))), (9, .vi ((pvE l).length : Int)), (10, .vi (i:Int)), (19, .vi (i:Int)), (20, .vb false), (21, .vb false), (32, .vb false)] [] []) ?_ ?_
     · exact zAI ⟨rfl, rfl, rfl, rfl, rfl, rfl, rfl, rfl, trivial⟩ trivial trivial rfl
     refine zAA rfl (.r rfl (zAe rfl rfl rfl (by omega)) (.m rfl rfl .nil)) ?_
     refine nxt (Q := fun _ _ => False) (z := i) (i + 1) ?_ ?_ ?_
     ·
      show (i + 1) ≤ l.length ∧ ∀ j e, j < (i + 1) → l[j]? = some e → zCw l j e = true
      exact ⟨by omega, zEE hG he (zGg h3' (by omega))⟩
     ·
      show l.length - (i + 1) < l.length - i
      omega
     · exact zAI ⟨rfl, rfl, rfl, (zAJ (by omega)), trivial⟩ trivial trivial rfl
    ·
     have h4' := h4
     replace h4' := of_decide_eq_true h4'
     obtain ⟨e2, he2⟩ : ∃ e, l[(i - 1 : Nat)]? = some e := ⟨_, List.getElem?_eq_getElem (by (have hL := zAF l; omega))⟩
     have hlte2 := (List.getElem?_eq_some_iff.1 he2).1
     refine zAZ zBD rfl (.r rfl (zAG rfl rfl rfl isAgg56 sizeOf56 (nle rfl)) (.run [1600] [] rfl (zAK rfl 1600 (X := []) en59 rfl (.val nod) (.cons (.agg (.cons (.bor .v) (.cons (.bor .v) (.cons (.bor .v) (.cons (.bor .v) .nil))))) .nil) (by decide) all_nil .nil (zE1 e) rfl rfl (nle rfl)) (.r rfl (zAX (zA3 (b := zBh e) rfl rfl) (by exact congrArg (fun b => AV.p none (.v (.bool b))) h3)) (.m rfl rfl (.m rfl rfl (.r rfl (zAX (zBF rfl rfl rfl) (by exact congrArg (fun b => AV.p none (.v (.bool b))) h4)) (.m rfl rfl (.m rfl rfl (.m rfl rfl (.r rfl (zAX (zAs rfl rfl rfl (by omega)) (((show (AV.p none (.v (.int .i64 ((i:Int) - 1)))) = AV.p none (.v (.int .i64 ((i - 1 : Nat) : Int))) from zAJ (by omega))))) (.r rfl (zAf rfl rfl rfl underlying24 sizeOf56 rfl (by omega) (zAw he2)) (.r rfl (zAj rfl rfl underlying56 rfl sizeOf54 (by decide)) (.r rfl (zBA rfl rfl isAgg54 sizeOf54 (nle rfl)) (.r rfl (zAC rfl rfl underlying56 rfl sizeOf54 (by decide)) (.r rfl (zAG rfl rfl rfl isAgg54 sizeOf54 (nle rfl)) (.run [3000] [] rfl (zAK rfl 3000 (X := []) en60 rfl (.val nod) (.cons (.agg (.cons (.bor .v) (.cons (.bor .v) (.cons (.bor .v) .nil)))) (.cons (.agg (.cons (.bor .v) (.cons (.bor .v) (.cons (.bor .v) .nil)))) .nil)) (by decide) all_nil .nil (zG6 e2 e) rfl rfl (nle rfl)) (.r rfl (zCM rfl rfl rfl) (.r rfl (zAT (t := true) rfl rfl) (.r rfl (zAT (t := false) rfl rfl) .nil))))))))))))))))))) (by kernel_rfl) ?_
     refine zAb (t := decide (0 ≤ (cmpK e2 e))) rfl (fun h5 => ?_) (fun h5 => ?_)
     ·
      replace h5 := of_decide_eq_true h5
      refine zAB ?_
      refine zAV (s' := mk [] [] []) ?_ ?_
      · exact zAI trivial trivial trivial rfl
      refine zAA rfl (.a rfl rfl .nil) ?_
      refine zAO ?_
      exact ends [_] [] (.cons (.tmp (zAM (zIl he (zJP (by omega) he2 h5)).symm)) .nil) (.cons (.one .v (.v _)) .nil) (by decide) trivial
     ·
      replace h5 := of_decide_eq_false h5
      refine zAL ?_
      refine zAV (s' := mk [(0, .p none (.sl false 4 (pvE l))), (8, .p none (.sl false 4 (pvE l))), (9, .vi ((pvE l).length : Int)), (10, .vi (i:Int)), (19, .vi (i:Int)), (20, .vb true), (21, .vb true), (22, .p none (.sl false 4 (pvE l))), (23, .vi (i:Int)), (24, .vi ((i - 1 : Nat):Int)), (25, .fea none [PV.v (.string e2.user), PV.v (.int .i64 e2.seq), PV.v (.int .i64 e2.kind), PV.v (.string e2.value)]), (26, .fea none [PV.v (.string e2.user), PV.v (.int .i64 e2.seq), PV.v (.int .i64 e2.kind), PV.v (.string e2.value)]), (27, .agg [.vs e2.user, .vi e2.seq, .vi e2.kind]), (28, .ptr 4 0), (29, .agg [.vs e.user, .vi e.seq, .vi e.kind]), (30, .vi (cmpK e2 e)), (31, .vb (decide (0 ≤ (cmpK e2 e)))), (32, .vb (decide (0 ≤ (cmpK e2 e))))] [(4, [.vs e.user, .vi e.seq, .vi e.kind, .vs e.value])] []) ?_ ?_
      · exact zAI ⟨rfl, rfl, rfl, rfl, rfl, rfl, rfl, rfl, rfl, rfl, rfl, rfl, rfl, rfl, rfl, rfl, rfl, rfl, trivial⟩ ⟨rfl, trivial⟩ trivial rfl
      refine zAA rfl (.r rfl (zAe rfl rfl rfl (by omega)) (.m rfl rfl .nil)) ?_
      refine nxt (Q := fun _ _ => False) (z := i) (i + 1) ?_ ?_ ?_
      ·
       show (i + 1) ≤ l.length ∧ ∀ j e, j < (i + 1) → l[j]? = some e → zCw l j e = true
       exact ⟨by omega, zEE hG he (zHc h3' he2 h5)⟩
      ·
       show l.length - (i + 1) < l.length - i
       omega
      · exact zAI ⟨rfl, rfl, rfl, (zAJ (by omega)), trivial⟩ trivial trivial rfl
   ·
    have h3' := h3
    replace h3' : (zBh e) = false := zBH h3'
    refine zAZ zBD rfl (.r rfl (zAG rfl rfl rfl isAgg56 sizeOf56 (nle rfl)) (.run [1600] [] rfl (zAK rfl 1600 (X := []) en59 rfl (.val nod) (.cons (.agg (.cons (.bor .v) (.cons (.bor .v) (.cons (.bor .v) (.cons (.bor .v) .nil))))) .nil) (by decide) all_nil .nil (zE1 e) rfl rfl (nle rfl)) (.r rfl (zAX (zA3 (b := zBh e) rfl rfl) (by exact congrArg (fun b => AV.p none (.v (.bool b))) h3)) (.m rfl rfl (.not rfl (.not rfl (.not rfl (.not rfl (.not rfl (.not rfl (.not rfl (.not rfl (.not rfl (.not rfl (.not rfl (.not rfl (.not rfl (.not rfl (.r rfl (zAT (t := true) rfl rfl) .nil))))))))))))))))))) (by kernel_rfl) ?_
    refine zAb (t := true) rfl (fun _ => ?_) (fun h => nomatch h)
    refine zAB ?_
    refine zAV (s' := mk [] [] []) ?_ ?_
    · exact zAI trivial trivial trivial rfl
    refine zAA rfl (.a rfl rfl .nil) ?_
    refine zAO ?_
    exact ends [_] [] (.cons (.tmp (zAM (zIl he (zJR h3')).symm)) .nil) (.cons (.one .v (.v _)) .nil) (by decide) trivial
  ·
   replace h2 := of_decide_eq_false h2
   refine zAu ?_
   refine zAB (zAA rfl (.a rfl rfl .nil) ?_)
   refine zAO ?_
   exact ends [_] [] (.cons (.tmp (zAM (zLz (by omega) (by omega) hG).symm)) .nil) (.cons (.one .v (.v _)) .nil) (by decide) trivial
theorem zCH (l : List Ent) (hl : l.length ≤ 2000000) : Con Tryz.prog 30 [.one (PV.sl false 4 (pvE l))] [] [.one (.v (.bool (zAp l)))] := by
 refine zAS func30 rfl rfl rfl rfl ?_
 have hle := zAF l
 refine zAB (zAA rfl (.a rfl rfl .nil) ?_)
 refine zAB ?_
 refine zAB (zAA rfl (.m rfl rfl (.r rfl (zAa rfl rfl underlying24) (.r rfl (zBF rfl rfl rfl) .nil))) ?_)
 refine zAb (t := decide (400 < ((pvE l).length : Int))) rfl (fun h1 => ?_) (fun h1 => ?_)
 ·
  replace h1 := of_decide_eq_true h1
  refine zAB (zAA rfl (.a rfl rfl .nil) ?_)
  refine zAO ?_
  exact ends [_] [] (.cons (.tmp (zAM (zJi (by omega)).symm)) .nil) (.cons (.one .v (.v _)) .nil) (by decide) trivial
 ·
  replace h1 := of_decide_eq_false h1
  refine zAL ?_
  refine zAB ?_
  refine zAB (zAA rfl (.a rfl rfl .nil) ?_)
  refine zAR ?_
  refine zAo (σ := Nat) (fun i => mk [(0, .p none (.sl false 4 (pvE l))), (3, .vi (i:Int))] [] []) (fun i => i ≤ l.length ∧ ∀ j e, j < i → l[j]? = some e → zCw l j e = true) (fun i => l.length - i) 0 ⟨Nat.zero_le _, fun _ _ h => absurd h (Nat.not_lt_zero _)⟩ (zAI ⟨rfl, (zAJ (by omega)), trivial⟩ trivial trivial rfl) ?_
  rintro i hG
  replace hG : i ≤ l.length ∧ ∀ j e, j < i → l[j]? = some e → zCw l j e = true := hG
  obtain ⟨hi, hG⟩ := hG
  refine zAB ?_
  refine zAB (zAA rfl (.m rfl rfl (.m rfl rfl (.r rfl (zAa rfl rfl underlying24) (.r rfl (zA4 rfl rfl rfl) .nil)))) ?_)
  refine zAb (t := decide ((i:Int) < ((pvE l).length : Int))) rfl (fun h2 => ?_) (fun h2 => ?_)
  ·
   replace h2 := of_decide_eq_true h2
   refine zAL ?_
   refine zAB ?_
   refine zAR ?_
   refine zAB ?_
   refine zAV (s' := mk [(0, .p none (.sl false 4 (pvE l))), (3, .vi (i:Int))] [] []) ?_ ?_
   · exact zAI ⟨rfl, rfl, trivial⟩ trivial trivial rfl
   obtain ⟨e, he⟩ : ∃ e, l[i]? = some e := ⟨_, List.getElem?_eq_getElem (by (have hL := zAF l; omega))⟩
   have hlte := (List.getElem?_eq_some_iff.1 he).1
   rcases bfc (!(zBh e)) with h3 | h3
   ·
    have h3' := h3
    replace h3' : (zBh e) = true := zBI h3'
    rcases bfc (decide (0 < (i:Int))) with h4 | h4
    ·
     have h4' := h4
     replace h4' := of_decide_eq_false h4'
     refine zAZ zBD rfl (.m rfl rfl (.m rfl rfl (.r rfl (zAf rfl rfl rfl underlying24 sizeOf56 rfl (by omega) (zAw he)) (.r rfl (zBA rfl rfl isAgg56 sizeOf56 (nle rfl)) (.run [1700] [] rfl (zAK rfl 1700 (X := []) en64 rfl (.val nod) (.cons (.agg (.cons (.bor .v) (.cons (.bor .v) (.cons (.bor .v) (.cons (.bor .v) .nil))))) .nil) (by decide) all_nil .nil (zCZ e) rfl rfl (nle rfl)) (.r rfl (zAX (zA3 (b := zBh e) rfl rfl) (by exact congrArg (fun b => AV.p none (.v (.bool b))) h3)) (.m rfl rfl (.m rfl rfl (.r rfl (zAX (zBF rfl rfl rfl) (by exact congrArg (fun b => AV.p none (.v (.bool b))) h4)) (.m rfl rfl (.not rfl (.not rfl (.not rfl (.not rfl (.not rfl (.not rfl (.not rfl (.not rfl (.not rfl (.not rfl (.not rfl (.not rfl (.not rfl (.r rfl (zAT (t := false) rfl rfl) (.r rfl (zAT (t := false) rfl rfl) .nil))))))))))))))))))))))))) (by kernel_rfl) ?_
     refine zAb (t := false) rfl (fun h => nomatch h) (fun _ => ?_)
     refine zAL ?_
     refine zAV (s' := mk [(0, .p none (.sl false 4 (pvE l))), (3, .vi (i:Int)), (20, .vi (i:Int)), (21, .vb false), (22, .vb false), (36, .vb false)] [] []) ?_ ?_
     · exact zAI ⟨rfl, rfl, rfl, rfl, rfl, rfl, trivial⟩ trivial trivial rfl
     refine zAA rfl (.m rfl rfl (.r rfl (zAe rfl rfl rfl (by omega)) (.a rfl rfl .nil))) ?_
     refine nxt (Q := fun _ _ => False) (z := i) (i + 1) ?_ ?_ ?_
     ·
      show (i + 1) ≤ l.length ∧ ∀ j e, j < (i + 1) → l[j]? = some e → zCw l j e = true
      exact ⟨by omega, zEE hG he (zGg h3' (by omega))⟩
     ·
      show l.length - (i + 1) < l.length - i
      omega
     · exact zAI ⟨rfl, (zAJ (by omega)), trivial⟩ trivial trivial rfl
    ·
     have h4' := h4
     replace h4' := of_decide_eq_true h4'
     obtain ⟨e2, he2⟩ : ∃ e, l[(i - 1 : Nat)]? = some e := ⟨_, List.getElem?_eq_getElem (by (have hL := zAF l; omega))⟩
     have hlte2 := (List.getElem?_eq_some_iff.1 he2).1
     refine zAZ zBD rfl (.m rfl rfl (.m rfl rfl (.r rfl (zAf rfl rfl rfl underlying24 sizeOf56 rfl (by omega) (zAw he)) (.r rfl (zBA rfl rfl isAgg56 sizeOf56 (nle rfl)) (.run [1700] [] rfl (zAK rfl 1700 (X := []) en64 rfl (.val nod) (.cons (.agg (.cons (.bor .v) (.cons (.bor .v) (.cons (.bor .v) (.cons (.bor .v) .nil))))) .nil) (by decide) all_nil .nil (zCZ e) rfl rfl (nle rfl)) (.r rfl (zAX (zA3 (b := zBh e) rfl rfl) (by exact congrArg (fun b => AV.p none (.v (.bool b))) h3)) (.m rfl rfl (.m rfl rfl (.r rfl (zAX (zBF rfl rfl rfl) (by exact congrArg (fun b => AV.p none (.v (.bool b))) h4)) (.m rfl rfl (.m rfl rfl (.m rfl rfl (.r rfl (zAX (zAs rfl rfl rfl (by omega)) (((show (AV.p none (.v (.int .i64 ((i:Int) - 1)))) = AV.p none (.v (.int .i64 ((i - 1 : Nat) : Int))) from zAJ (by omega))))) (.r rfl (zAf rfl rfl rfl underlying24 sizeOf56 rfl (by omega) (zAw he2)) (.r rfl (zAj rfl rfl underlying56 rfl sizeOf54 (by decide)) (.r rfl (zBA rfl rfl isAgg54 sizeOf54 (nle rfl)) (.m rfl rfl (.m rfl rfl (.r rfl (zAf rfl rfl rfl underlying24 sizeOf56 rfl (by omega) (zAw he)) (.r rfl (zAj rfl rfl underlying56 rfl sizeOf54 (by decide)) (.r rfl (zBA rfl rfl isAgg54 sizeOf54 (nle rfl)) (.run [3400] [] rfl (zAK rfl 3400 (X := []) en65 rfl (.val nod) (.cons (.agg (.cons (.bor .v) (.cons (.bor .v) (.cons (.bor .v) .nil)))) (.cons (.agg (.cons (.bor .v) (.cons (.bor .v) (.cons (.bor .v) .nil)))) .nil)) (by decide) all_nil .nil (zEi e2 e) rfl rfl (nle rfl)) (.r rfl (zCM rfl rfl rfl) (.r rfl (zAT (t := true) rfl rfl) (.r rfl (zAT (t := false) rfl rfl) .nil))))))))))))))))))))))))) (by kernel_rfl) ?_
     refine zAb (t := decide (0 ≤ (kcmp e2 e))) rfl (fun h5 => ?_) (fun h5 => ?_)
     ·
      replace h5 := of_decide_eq_true h5
      refine zAB ?_
      refine zAV (s' := mk [] [] []) ?_ ?_
      · exact zAI trivial trivial trivial rfl
      refine zAA rfl (.a rfl rfl .nil) ?_
      refine zAO ?_
      exact ends [_] [] (.cons (.tmp (zAM (zIl he (zJP (by omega) he2 (by rw [← kc_ok hG (by omega) he2 h3']; exact h5))).symm)) .nil) (.cons (.one .v (.v _)) .nil) (by decide) trivial
     ·
      replace h5 := of_decide_eq_false h5
      refine zAL ?_
      refine zAV (s' := mk [(0, .p none (.sl false 4 (pvE l))), (3, .vi (i:Int)), (20, .vi (i:Int)), (21, .vb true), (22, .vb true), (23, .p none (.sl false 4 (pvE l))), (24, .vi (i:Int)), (25, .vi ((i - 1 : Nat):Int)), (26, .fea none [PV.v (.string e2.user), PV.v (.int .i64 e2.seq), PV.v (.int .i64 e2.kind), PV.v (.string e2.value)]), (27, .fea none [PV.v (.string e2.user), PV.v (.int .i64 e2.seq), PV.v (.int .i64 e2.kind), PV.v (.string e2.value)]), (28, .agg [.vs e2.user, .vi e2.seq, .vi e2.kind]), (29, .p none (.sl false 4 (pvE l))), (30, .vi (i:Int)), (31, .fea none [PV.v (.string e.user), PV.v (.int .i64 e.seq), PV.v (.int .i64 e.kind), PV.v (.string e.value)]), (32, .fea none [PV.v (.string e.user), PV.v (.int .i64 e.seq), PV.v (.int .i64 e.kind), PV.v (.string e.value)]), (33, .agg [.vs e.user, .vi e.seq, .vi e.kind]), (34, .vi (kcmp e2 e)), (35, .vb (decide (0 ≤ (kcmp e2 e)))), (36, .vb (decide (0 ≤ (kcmp e2 e))))] [] []) ?_ ?_
      · exact zAI ⟨rfl, rfl, rfl, rfl, rfl, rfl, rfl, rfl, rfl, rfl, rfl, rfl, rfl, rfl, rfl, rfl, rfl, rfl, rfl, trivial⟩ trivial trivial rfl
      refine zAA rfl (.m rfl rfl (.r rfl (zAe rfl rfl rfl (by omega)) (.a rfl rfl .nil))) ?_
      refine nxt (Q := fun _ _ => False) (z := i) (i + 1) ?_ ?_ ?_
      ·
       show (i + 1) ≤ l.length ∧ ∀ j e, j < (i + 1) → l[j]? = some e → zCw l j e = true
       exact ⟨by omega, zEE hG he (zHc h3' he2 (by rw [← kc_ok hG (by omega) he2 h3']; exact h5))⟩
      ·
       show l.length - (i + 1) < l.length - i
       omega
      · exact zAI ⟨rfl, (zAJ (by omega)), trivial⟩ trivial trivial rfl
   ·
    have h3' := h3
    replace h3' : (zBh e) = false := zBH h3'
    refine zAZ zBD rfl (.m rfl rfl (.m rfl rfl (.r rfl (zAf rfl rfl rfl underlying24 sizeOf56 rfl (by omega) (zAw he)) (.r rfl (zBA rfl rfl isAgg56 sizeOf56 (nle rfl)) (.run [1700] [] rfl (zAK rfl 1700 (X := []) en64 rfl (.val nod) (.cons (.agg (.cons (.bor .v) (.cons (.bor .v) (.cons (.bor .v) (.cons (.bor .v) .nil))))) .nil) (by decide) all_nil .nil (zCZ e) rfl rfl (nle rfl)) (.r rfl (zAX (zA3 (b := zBh e) rfl rfl) (by exact congrArg (fun b => AV.p none (.v (.bool b))) h3)) (.m rfl rfl (.not rfl (.not rfl (.not rfl (.not rfl (.not rfl (.not rfl (.not rfl (.not rfl (.not rfl (.not rfl (.not rfl (.not rfl (.not rfl (.not rfl (.not rfl (.not rfl (.not rfl (.r rfl (zAT (t := true) rfl rfl) .nil))))))))))))))))))))))))) (by kernel_rfl) ?_
    refine zAb (t := true) rfl (fun _ => ?_) (fun h => nomatch h)
    refine zAB ?_
    refine zAV (s' := mk [] [] []) ?_ ?_
    · exact zAI trivial trivial trivial rfl
    refine zAA rfl (.a rfl rfl .nil) ?_
    refine zAO ?_
    exact ends [_] [] (.cons (.tmp (zAM (zIl he (zJR h3')).symm)) .nil) (.cons (.one .v (.v _)) .nil) (by decide) trivial
  ·
   replace h2 := of_decide_eq_false h2
   refine zAu ?_
   refine zAB (zAA rfl (.a rfl rfl .nil) ?_)
   refine zAO ?_
   exact ends [_] [] (.cons (.tmp (zAM (zLz (by omega) (by omega) hG).symm)) .nil) (.cons (.one .v (.v _)) .nil) (by decide) trivial
theorem zKE (l : List Int) (hl : l.length ≤ 9000000000000000000) : Con Tryz.prog 24 [.one (PV.sl false 1 (pvI l))] [] [.one (.v (.bool (zBK l)))] := by
 refine zAS func24 rfl rfl rfl rfl ?_
 have hle := zAU l
 refine zAB (zAA rfl (.a rfl rfl .nil) ?_)
 refine zAB ?_
 refine zAB (zAA rfl (.m rfl rfl (.r rfl (zAa rfl rfl underlying26) (.m rfl rfl .nil))) ?_)
 refine zAR ?_
 refine zAo (σ := Nat) (fun i => mk [(0, .p none (.sl false 1 (pvI l))), (5, .p none (.sl false 1 (pvI l))), (6, .vi ((pvI l).length : Int)), (7, .vi (i:Int))] [] []) (fun i => i ≤ l.length ∧ ∀ j x, j < i → l[j]? = some x → zCB l j x = true) (fun i => l.length - i) 0 ⟨Nat.zero_le _, fun _ _ h => absurd h (Nat.not_lt_zero _)⟩ (zAI ⟨rfl, rfl, rfl, (zAJ (by omega)), trivial⟩ trivial trivial rfl) ?_
 rintro i hG
 replace hG : i ≤ l.length ∧ ∀ j x, j < i → l[j]? = some x → zCB l j x = true := hG
 obtain ⟨hi, hG⟩ := hG
 refine zAB (zAA rfl (.r rfl (zA4 rfl rfl rfl) .nil) ?_)
 refine zAB ?_
 refine zAb (t := decide ((i:Int) < ((pvI l).length : Int))) rfl (fun h1 => ?_) (fun h1 => ?_)
 ·
  replace h1 := of_decide_eq_true h1
  refine zAL ?_
  refine zAB ?_
  refine zAR ?_
  refine zAB ?_
  obtain ⟨e, he⟩ : ∃ e, l[i]? = some e := ⟨_, List.getElem?_eq_getElem (by (have hL := zAU l; omega))⟩
  have hlte := (List.getElem?_eq_some_iff.1 he).1
  refine zAA rfl (.m rfl rfl (.r rfl (zAf rfl rfl rfl underlying26 sizeOf2 rfl (by omega) (zBe he)) (.r rfl (zAd rfl rfl isAgg2 rfl) (.a rfl rfl (.a rfl rfl .nil))))) ?_
  refine zAB ?_
  refine zAV (s' := mk [(0, .p none (.sl false 1 (pvI l))), (3, .vi (i:Int)), (4, .vi e), (5, .p none (.sl false 1 (pvI l))), (6, .vi ((pvI l).length : Int)), (7, .vi (i:Int))] [] []) ?_ ?_
  · exact zAI ⟨rfl, rfl, rfl, rfl, rfl, rfl, trivial⟩ trivial trivial rfl
  rcases bfc (!(zA1 e 0 1000000000000)) with h2 | h2
  ·
   have h2' := h2
   replace h2' : (zA1 e 0 1000000000000) = true := zBI h2'
   rcases bfc (decide (0 < (i:Int))) with h3 | h3
   ·
    have h3' := h3
    replace h3' := of_decide_eq_false h3'
    refine zAA rfl (.m rfl rfl (.run [1300] [] rfl (zAK rfl 1300 (X := []) en21 rfl (.val nod) (.cons (.one (.bor .v)) (.cons (.one (.bor .v)) (.cons (.one (.bor .v)) .nil))) (by decide) all_nil .nil (zB4 e 0 1000000000000) rfl rfl (nle rfl)) (.r rfl (zAX (zA3 (b := zA1 e 0 1000000000000) rfl rfl) (by exact congrArg (fun b => AV.p none (.v (.bool b))) h2)) (.m rfl rfl (.m rfl rfl (.r rfl (zAX (zBF rfl rfl rfl) (by exact congrArg (fun b => AV.p none (.v (.bool b))) h3)) (.m rfl rfl (.not rfl (.not rfl (.not rfl (.not rfl (.not rfl (.not rfl (.not rfl (.r rfl (zAT (t := false) rfl rfl) (.r rfl (zAT (t := false) rfl rfl) .nil)))))))))))))))) ?_
    refine zAb (t := false) rfl (fun h => nomatch h) (fun _ => ?_)
    refine zAL ?_
    refine zAV (s' := mk [(0, .p none (.sl false 1 (pvI l))), (5, .p none (.sl false 1 (pvI l))), (6, .vi ((pvI l).length : Int)), (7, .vi (i:Int)), (16, .vi (i:Int)), (17, .vb false), (18, .vb false), (26, .vb false)] [] []) ?_ ?_
    · exact zAI ⟨rfl, rfl, rfl, rfl, rfl, rfl, rfl, rfl, trivial⟩ trivial trivial rfl
    refine zAA rfl (.r rfl (zAe rfl rfl rfl (by omega)) (.m rfl rfl .nil)) ?_
    refine nxt (Q := fun _ _ => False) (z := i) (i + 1) ?_ ?_ ?_
    ·
     show (i + 1) ≤ l.length ∧ ∀ j x, j < (i + 1) → l[j]? = some x → zCB l j x = true
     exact ⟨by omega, zEE hG he (zFv h2' (by omega))⟩
    ·
     show l.length - (i + 1) < l.length - i
     omega
    · exact zAI ⟨rfl, rfl, rfl, (zAJ (by omega)), trivial⟩ trivial trivial rfl
   ·
    have h3' := h3
    replace h3' := of_decide_eq_true h3'
    obtain ⟨e2, he2⟩ : ∃ e, l[(i - 1 : Nat)]? = some e := ⟨_, List.getElem?_eq_getElem (by (have hL := zAU l; omega))⟩
    have hlte2 := (List.getElem?_eq_some_iff.1 he2).1
    refine zAA rfl (.m rfl rfl (.run [1300] [] rfl (zAK rfl 1300 (X := []) en21 rfl (.val nod) (.cons (.one (.bor .v)) (.cons (.one (.bor .v)) (.cons (.one (.bor .v)) .nil))) (by decide) all_nil .nil (zB4 e 0 1000000000000) rfl rfl (nle rfl)) (.r rfl (zAX (zA3 (b := zA1 e 0 1000000000000) rfl rfl) (by exact congrArg (fun b => AV.p none (.v (.bool b))) h2)) (.m rfl rfl (.m rfl rfl (.r rfl (zAX (zBF rfl rfl rfl) (by exact congrArg (fun b => AV.p none (.v (.bool b))) h3)) (.m rfl rfl (.m rfl rfl (.m rfl rfl (.m rfl rfl (.r rfl (zAX (zAs rfl rfl rfl (by omega)) (((show (AV.p none (.v (.int .i64 ((i:Int) - 1)))) = AV.p none (.v (.int .i64 ((i - 1 : Nat) : Int))) from zAJ (by omega))))) (.r rfl (zAf rfl rfl rfl underlying26 sizeOf2 rfl (by omega) (zBe he2)) (.r rfl (zAd rfl rfl isAgg2 rfl) (.r rfl (zBz rfl rfl rfl) (.r rfl (zAT (t := true) rfl rfl) (.r rfl (zAT (t := false) rfl rfl) .nil)))))))))))))))) ?_
    refine zAb (t := decide (e ≤ e2)) rfl (fun h4 => ?_) (fun h4 => ?_)
    ·
     replace h4 := of_decide_eq_true h4
     refine zAB ?_
     refine zAV (s' := mk [] [] []) ?_ ?_
     · exact zAI trivial trivial trivial rfl
     refine zAA rfl (.a rfl rfl .nil) ?_
     refine zAO ?_
     exact ends [_] [] (.cons (.tmp (zAM (zES he (zHa (by omega) he2 h4)).symm)) .nil) (.cons (.one .v (.v _)) .nil) (by decide) trivial
    ·
     replace h4 := of_decide_eq_false h4
     refine zAL ?_
     refine zAV (s' := mk [(0, .p none (.sl false 1 (pvI l))), (5, .p none (.sl false 1 (pvI l))), (6, .vi ((pvI l).length : Int)), (7, .vi (i:Int)), (16, .vi (i:Int)), (17, .vb true), (18, .vb true), (19, .vi e), (20, .p none (.sl false 1 (pvI l))), (21, .vi (i:Int)), (22, .vi ((i - 1 : Nat):Int)), (23, .fea none [PV.v (.int .i64 e2)]), (24, .vi e2), (25, .vb (decide (e ≤ e2))), (26, .vb (decide (e ≤ e2)))] [] []) ?_ ?_
     · exact zAI ⟨rfl, rfl, rfl, rfl, rfl, rfl, rfl, rfl, rfl, rfl, rfl, rfl, rfl, rfl, rfl, trivial⟩ trivial trivial rfl
     refine zAA rfl (.r rfl (zAe rfl rfl rfl (by omega)) (.m rfl rfl .nil)) ?_
     refine nxt (Q := fun _ _ => False) (z := i) (i + 1) ?_ ?_ ?_
     ·
      show (i + 1) ≤ l.length ∧ ∀ j x, j < (i + 1) → l[j]? = some x → zCB l j x = true
      exact ⟨by omega, zEE hG he (zGf h2' he2 h4)⟩
     ·
      show l.length - (i + 1) < l.length - i
      omega
     · exact zAI ⟨rfl, rfl, rfl, (zAJ (by omega)), trivial⟩ trivial trivial rfl
  ·
   have h2' := h2
   replace h2' : (zA1 e 0 1000000000000) = false := zBH h2'
   refine zAA rfl (.m rfl rfl (.run [1300] [] rfl (zAK rfl 1300 (X := []) en21 rfl (.val nod) (.cons (.one (.bor .v)) (.cons (.one (.bor .v)) (.cons (.one (.bor .v)) .nil))) (by decide) all_nil .nil (zB4 e 0 1000000000000) rfl rfl (nle rfl)) (.r rfl (zAX (zA3 (b := zA1 e 0 1000000000000) rfl rfl) (by exact congrArg (fun b => AV.p none (.v (.bool b))) h2)) (.m rfl rfl (.not rfl (.not rfl (.not rfl (.not rfl (.not rfl (.not rfl (.not rfl (.not rfl (.not rfl (.not rfl (.not rfl (.r rfl (zAT (t := true) rfl rfl) .nil)))))))))))))))) ?_
   refine zAb (t := true) rfl (fun _ => ?_) (fun h => nomatch h)
   refine zAB ?_
   refine zAV (s' := mk [] [] []) ?_ ?_
   · exact zAI trivial trivial trivial rfl
   refine zAA rfl (.a rfl rfl .nil) ?_
   refine zAO ?_
   exact ends [_] [] (.cons (.tmp (zAM (zES he (zHb h2')).symm)) .nil) (.cons (.one .v (.v _)) .nil) (by decide) trivial
 ·
  replace h1 := of_decide_eq_false h1
  refine zAu ?_
  refine zAB (zAA rfl (.m rfl rfl (.r rfl (zAa rfl rfl underlying26) (.r rfl (zBz rfl rfl rfl) (.a rfl rfl .nil)))) ?_)
  refine zAO ?_
  exact ends [_] [] (.cons (.tmp (zAM (by rw [zJB (by omega) hG, hle]; exact decide_eq_decide.2 (by omega)))) .nil) (.cons (.one .v (.v _)) .nil) (by decide) trivial
theorem zGV (l : List Int) (hl : l.length ≤ 9000000000000000000) : Con Tryz.prog 32 [.one (PV.sl false 1 (pvI l))] [] [.one (.v (.bool (zBK l)))] := by
 refine zAS func32 rfl rfl rfl rfl ?_
 have hle := zAU l
 refine zAB (zAA rfl (.a rfl rfl .nil) ?_)
 refine zAB ?_
 refine zAB (zAA rfl (.m rfl rfl (.r rfl (zAa rfl rfl underlying26) (.r rfl (zBF rfl rfl rfl) .nil))) ?_)
 refine zAb (t := decide (20 < ((pvI l).length : Int))) rfl (fun h1 => ?_) (fun h1 => ?_)
 ·
  replace h1 := of_decide_eq_true h1
  refine zAB (zAA rfl (.a rfl rfl .nil) ?_)
  refine zAO ?_
  exact ends [_] [] (.cons (.tmp (zAM (zMI (by omega)).symm)) .nil) (.cons (.one .v (.v _)) .nil) (by decide) trivial
 ·
  replace h1 := of_decide_eq_false h1
  refine zAL ?_
  refine zAB ?_
  refine zAB (zAA rfl (.a rfl rfl .nil) ?_)
  refine zAR ?_
  refine zAo (σ := Nat) (fun i => mk [(0, .p none (.sl false 1 (pvI l))), (3, .vi (i:Int))] [] []) (fun i => i ≤ l.length ∧ ∀ j x, j < i → l[j]? = some x → zCB l j x = true) (fun i => l.length - i) 0 ⟨Nat.zero_le _, fun _ _ h => absurd h (Nat.not_lt_zero _)⟩ (zAI ⟨rfl, (zAJ (by omega)), trivial⟩ trivial trivial rfl) ?_
  rintro i hG
  replace hG : i ≤ l.length ∧ ∀ j x, j < i → l[j]? = some x → zCB l j x = true := hG
  obtain ⟨hi, hG⟩ := hG
  refine zAB ?_
  refine zAB (zAA rfl (.m rfl rfl (.m rfl rfl (.r rfl (zAa rfl rfl underlying26) (.r rfl (zA4 rfl rfl rfl) .nil)))) ?_)
  refine zAb (t := decide ((i:Int) < ((pvI l).length : Int))) rfl (fun h2 => ?_) (fun h2 => ?_)
  ·
   replace h2 := of_decide_eq_true h2
   refine zAL ?_
   refine zAB ?_
   refine zAR ?_
   refine zAB ?_
   refine zAV (s' := mk [(0, .p none (.sl false 1 (pvI l))), (3, .vi (i:Int))] [] []) ?_ ?_
   · exact zAI ⟨rfl, rfl, trivial⟩ trivial trivial rfl
   obtain ⟨e, he⟩ : ∃ e, l[i]? = some e := ⟨_, List.getElem?_eq_getElem (by (have hL := zAU l; omega))⟩
   have hlte := (List.getElem?_eq_some_iff.1 he).1
   rcases bfc (!(zA1 e 0 1000000000000)) with h3 | h3
   ·
    have h3' := h3
    replace h3' : (zA1 e 0 1000000000000) = true := zBI h3'
    rcases bfc (decide (0 < (i:Int))) with h4 | h4
    ·
     have h4' := h4
     replace h4' := of_decide_eq_false h4'
     refine zAZ zBD rfl (.m rfl rfl (.m rfl rfl (.r rfl (zAf rfl rfl rfl underlying26 sizeOf2 rfl (by omega) (zBe he)) (.r rfl (zAd rfl rfl isAgg2 rfl) (.run [1700] [] rfl (zAK rfl 1700 (X := []) en29 rfl (.val nod) (.cons (.one (.bor .v)) (.cons (.one (.bor .v)) (.cons (.one (.bor .v)) .nil))) (by decide) all_nil .nil (zCf e 0 1000000000000) rfl rfl (nle rfl)) (.r rfl (zAX (zA3 (b := zA1 e 0 1000000000000) rfl rfl) (by exact congrArg (fun b => AV.p none (.v (.bool b))) h3)) (.m rfl rfl (.m rfl rfl (.r rfl (zAX (zBF rfl rfl rfl) (by exact congrArg (fun b => AV.p none (.v (.bool b))) h4)) (.m rfl rfl (.not rfl (.not rfl (.not rfl (.not rfl (.not rfl (.not rfl (.not rfl (.not rfl (.not rfl (.not rfl (.r rfl (zAT (t := false) rfl rfl) (.r rfl (zAT (t := false) rfl rfl) .nil)))))))))))))))))))))) (by kernel_rfl) ?_
     refine zAb (t := false) rfl (fun h => nomatch h) (fun _ => ?_)
     refine zAL ?_
     refine zAV (s' := mk [(0, .p none (.sl false 1 (pvI l))), (3, .vi (i:Int)), (20, .vi (i:Int)), (21, .vb false), (22, .vb false), (33, .vb false)] [] []) ?_ ?_
     · exact zAI ⟨rfl, rfl, rfl, rfl, rfl, rfl, trivial⟩ trivial trivial rfl
     refine zAA rfl (.m rfl rfl (.r rfl (zAe rfl rfl rfl (by omega)) (.a rfl rfl .nil))) ?_
     refine nxt (Q := fun _ _ => False) (z := i) (i + 1) ?_ ?_ ?_
     ·
      show (i + 1) ≤ l.length ∧ ∀ j x, j < (i + 1) → l[j]? = some x → zCB l j x = true
      exact ⟨by omega, zEE hG he (zFv h3' (by omega))⟩
     ·
      show l.length - (i + 1) < l.length - i
      omega
     · exact zAI ⟨rfl, (zAJ (by omega)), trivial⟩ trivial trivial rfl
    ·
     have h4' := h4
     replace h4' := of_decide_eq_true h4'
     obtain ⟨e2, he2⟩ : ∃ e, l[(i - 1 : Nat)]? = some e := ⟨_, List.getElem?_eq_getElem (by (have hL := zAU l; omega))⟩
     have hlte2 := (List.getElem?_eq_some_iff.1 he2).1
     refine zAZ zBD rfl (.m rfl rfl (.m rfl rfl (.r rfl (zAf rfl rfl rfl underlying26 sizeOf2 rfl (by omega) (zBe he)) (.r rfl (zAd rfl rfl isAgg2 rfl) (.run [1700] [] rfl (zAK rfl 1700 (X := []) en29 rfl (.val nod) (.cons (.one (.bor .v)) (.cons (.one (.bor .v)) (.cons (.one (.bor .v)) .nil))) (by decide) all_nil .nil (zCf e 0 1000000000000) rfl rfl (nle rfl)) (.r rfl (zAX (zA3 (b := zA1 e 0 1000000000000) rfl rfl) (by exact congrArg (fun b => AV.p none (.v (.bool b))) h3)) (.m rfl rfl (.m rfl rfl (.r rfl (zAX (zBF rfl rfl rfl) (by exact congrArg (fun b => AV.p none (.v (.bool b))) h4)) (.m rfl rfl (.m rfl rfl (.m rfl rfl (.r rfl (zAX (zAs rfl rfl rfl (by omega)) (((show (AV.p none (.v (.int .i64 ((i:Int) - 1)))) = AV.p none (.v (.int .i64 ((i - 1 : Nat) : Int))) from zAJ (by omega))))) (.r rfl (zAf rfl rfl rfl underlying26 sizeOf2 rfl (by omega) (zBe he2)) (.r rfl (zAd rfl rfl isAgg2 rfl) (.m rfl rfl (.m rfl rfl (.r rfl (zAf rfl rfl rfl underlying26 sizeOf2 rfl (by omega) (zBe he)) (.r rfl (zAd rfl rfl isAgg2 rfl) (.r rfl (zCM rfl rfl rfl) (.r rfl (zAT (t := true) rfl rfl) (.r rfl (zAT (t := false) rfl rfl) .nil)))))))))))))))))))))) (by kernel_rfl) ?_
     refine zAb (t := decide (e ≤ e2)) rfl (fun h5 => ?_) (fun h5 => ?_)
     ·
      replace h5 := of_decide_eq_true h5
      refine zAB ?_
      refine zAV (s' := mk [] [] []) ?_ ?_
      · exact zAI trivial trivial trivial rfl
      refine zAA rfl (.a rfl rfl .nil) ?_
      refine zAO ?_
      exact ends [_] [] (.cons (.tmp (zAM (zES he (zHa (by omega) he2 h5)).symm)) .nil) (.cons (.one .v (.v _)) .nil) (by decide) trivial
     ·
      replace h5 := of_decide_eq_false h5
      refine zAL ?_
      refine zAV (s' := mk [(0, .p none (.sl false 1 (pvI l))), (3, .vi (i:Int)), (20, .vi (i:Int)), (21, .vb true), (22, .vb true), (23, .p none (.sl false 1 (pvI l))), (24, .vi (i:Int)), (25, .vi ((i - 1 : Nat):Int)), (26, .fea none [PV.v (.int .i64 e2)]), (27, .vi e2), (28, .p none (.sl false 1 (pvI l))), (29, .vi (i:Int)), (30, .fea none [PV.v (.int .i64 e)]), (31, .vi e), (32, .vb (decide (e ≤ e2))), (33, .vb (decide (e ≤ e2)))] [] []) ?_ ?_
      · exact zAI ⟨rfl, rfl, rfl, rfl, rfl, rfl, rfl, rfl, rfl, rfl, rfl, rfl, rfl, rfl, rfl, rfl, trivial⟩ trivial trivial rfl
      refine zAA rfl (.m rfl rfl (.r rfl (zAe rfl rfl rfl (by omega)) (.a rfl rfl .nil))) ?_
      refine nxt (Q := fun _ _ => False) (z := i) (i + 1) ?_ ?_ ?_
      ·
       show (i + 1) ≤ l.length ∧ ∀ j x, j < (i + 1) → l[j]? = some x → zCB l j x = true
       exact ⟨by omega, zEE hG he (zGf h3' he2 h5)⟩
      ·
       show l.length - (i + 1) < l.length - i
       omega
      · exact zAI ⟨rfl, (zAJ (by omega)), trivial⟩ trivial trivial rfl
   ·
    have h3' := h3
    replace h3' : (zA1 e 0 1000000000000) = false := zBH h3'
    refine zAZ zBD rfl (.m rfl rfl (.m rfl rfl (.r rfl (zAf rfl rfl rfl underlying26 sizeOf2 rfl (by omega) (zBe he)) (.r rfl (zAd rfl rfl isAgg2 rfl) (.run [1700] [] rfl (zAK rfl 1700 (X := []) en29 rfl (.val nod) (.cons (.one (.bor .v)) (.cons (.one (.bor .v)) (.cons (.one (.bor .v)) .nil))) (by decide) all_nil .nil (zCf e 0 1000000000000) rfl rfl (nle rfl)) (.r rfl (zAX (zA3 (b := zA1 e 0 1000000000000) rfl rfl) (by exact congrArg (fun b => AV.p none (.v (.bool b))) h3)) (.m rfl rfl (.not rfl (.not rfl (.not rfl (.not rfl (.not rfl (.not rfl (.not rfl (.not rfl (.not rfl (.not rfl (.not rfl (.not rfl (.not rfl (.not rfl (.r rfl (zAT (t := true) rfl rfl) .nil)))))))))))))))))))))) (by kernel_rfl) ?_
    refine zAb (t := true) rfl (fun _ => ?_) (fun h => nomatch h)
    refine zAB ?_
    refine zAV (s' := mk [] [] []) ?_ ?_
    · exact zAI trivial trivial trivial rfl
    refine zAA rfl (.a rfl rfl .nil) ?_
    refine zAO ?_
    exact ends [_] [] (.cons (.tmp (zAM (zES he (zHb h3')).symm)) .nil) (.cons (.one .v (.v _)) .nil) (by decide) trivial
  ·
   replace h2 := of_decide_eq_false h2
   refine zAu ?_
   refine zAB (zAA rfl (.a rfl rfl .nil) ?_)
   refine zAO ?_
   exact ends [_] [] (.cons (.tmp (zAM (by rw [zJB (by omega) hG]; exact (decide_eq_true (by omega)).symm))) .nil) (.cons (.one .v (.v _)) .nil) (by decide) trivial
end Go.Rl

/- Promises of functions, proved by walks over their operations; no conditions beyond those that each theorem states. -/
import Derived.Test.YtamebecmgdbmnaaGreatDoorRlT
import Derived.Test.YtamebecmgdbmnaaGreatDoorProg
set_option linter.unusedSimpArgs false
set_option linter.unusedVariables false
namespace Go.Rl
open Go.Proofs Go.Proofs.Tryz
set_option maxRecDepth 1000000
set_option maxHeartbeats 2000000
theorem inf3 : (Tryz.prog.info? 3).map (fun i => (i.zero, i.size, i.bytes)) = some (some (.int .i64 0), 1, 8) := by kernel_rfl
theorem zM4 : En Tryz.prog 129 := zAl func129 (by decide) rfl
theorem en60 : En Tryz.prog 60 := zAl func60 (by decide) rfl
theorem zM5 : En Tryz.prog 113 := zAl func113 (by decide) rfl
theorem en71 : En Tryz.prog 71 := zAl func71 (by decide) rfl
theorem en130 : En Tryz.prog 130 := zAl func130 (by decide) rfl
theorem en131 : En Tryz.prog 131 := zAl func131 (by decide) rfl
theorem en102 : En Tryz.prog 102 := zAl func102 (by decide) rfl
theorem en103 : En Tryz.prog 103 := zAl func103 (by decide) rfl
theorem en101 : En Tryz.prog 101 := zAl func101 (by decide) rfl
theorem zM7 : En Tryz.prog 100 := zAl func100 (by decide) rfl
theorem en73 : En Tryz.prog 73 := zAl func73 (by decide) rfl
theorem zBo : Tryz.prog.follows .mixedOrders = true := by kernel_rfl
theorem zBU (n low high : Int) : Con Tryz.prog 60 [.one (PV.v (.int .i64 n)), .one (PV.v (.int .i64 low)), .one (PV.v (.int .i64 high))] [] [.one (.v (.bool (zAi n low high)))] := by
 refine zAR func60 rfl rfl rfl rfl ?_
 refine zAB (zAA rfl (.a rfl rfl .nil) ?_)
 refine zAB ?_
 rcases bfc (decide (low ≤ n)) with h1 | h1
 ·
  have h1' := h1
  replace h1' := of_decide_eq_false h1'
  refine zAA rfl (.m rfl rfl (.m rfl rfl (.r rfl (zAI (zEA rfl rfl rfl) (by exact congrArg (fun b => AV.p none (.v (.bool b))) h1)) (.m rfl rfl (.not rfl (.not rfl (.not rfl (.r rfl (zAb (t := false) rfl rfl) (.a rfl rfl .nil))))))))) ?_
  refine zAK ?_
  exact ends [_] [] (.cons (.tmp (zAE (by simp [zAi, h1']))) .nil) (.cons (.one .v (.v _)) .nil) (by decide) trivial
 ·
  have h1' := h1
  replace h1' := of_decide_eq_true h1'
  refine zAA rfl (.m rfl rfl (.m rfl rfl (.r rfl (zAI (zEA rfl rfl rfl) (by exact congrArg (fun b => AV.p none (.v (.bool b))) h1)) (.m rfl rfl (.m rfl rfl (.m rfl rfl (.r rfl (zEA rfl rfl rfl) (.r rfl (zAb (t := true) rfl rfl) (.a rfl rfl .nil))))))))) ?_
  refine zAK ?_
  exact ends [_] [] (.cons (.tmp (zAE (by simp [zAi, h1']))) .nil) (.cons (.one .v (.v _)) .nil) (by decide) trivial
theorem zBv (n low high : Int) : Con Tryz.prog 71 [.one (PV.v (.int .i64 n)), .one (PV.v (.int .i64 low)), .one (PV.v (.int .i64 high))] [] [.one (.v (.bool (zAi n low high)))] := by
 refine zAR func71 rfl rfl rfl rfl ?_
 refine zAB (zAA rfl (.a rfl rfl .nil) ?_)
 refine zAB ?_
 rcases bfc (decide (low ≤ n)) with h1 | h1
 ·
  have h1' := h1
  replace h1' := of_decide_eq_false h1'
  refine zAA rfl (.m rfl rfl (.m rfl rfl (.r rfl (zAI (zDF rfl rfl rfl) (by exact congrArg (fun b => AV.p none (.v (.bool b))) h1)) (.m rfl rfl (.not rfl (.not rfl (.not rfl (.r rfl (zAb (t := false) rfl rfl) (.a rfl rfl .nil))))))))) ?_
  refine zAK ?_
  exact ends [_] [] (.cons (.tmp (zAE (by simp [zAi, h1']))) .nil) (.cons (.one .v (.v _)) .nil) (by decide) trivial
 ·
  have h1' := h1
  replace h1' := of_decide_eq_true h1'
  refine zAA rfl (.m rfl rfl (.m rfl rfl (.r rfl (zAI (zDF rfl rfl rfl) (by exact congrArg (fun b => AV.p none (.v (.bool b))) h1)) (.m rfl rfl (.m rfl rfl (.m rfl rfl (.r rfl (zEA rfl rfl rfl) (.r rfl (zAb (t := true) rfl rfl) (.a rfl rfl .nil))))))))) ?_
  refine zAK ?_
  exact ends [_] [] (.cons (.tmp (zAE (by simp [zAi, h1']))) .nil) (.cons (.one .v (.v _)) .nil) (by decide) trivial
theorem zDp (s : ByteArray) : Con Tryz.prog 129 [.one (PV.v (.string s))] [] [.one (.v (.bool (zBa s)))] := by
 refine zAR func129 rfl rfl rfl rfl ?_
 refine zAB (zAA rfl (.a rfl rfl .nil) ?_)
 refine zAB ?_
 rcases bfc (decide (1 ≤ (s.size : Int))) with h1 | h1
 ·
  have h1' := h1
  replace h1' := of_decide_eq_false h1'
  refine zAA rfl (.m rfl rfl (.r rfl (zAO rfl rfl underlying9) (.r rfl (zAI (zDF rfl rfl rfl) (by exact congrArg (fun b => AV.p none (.v (.bool b))) h1)) (.m rfl rfl (.not rfl (.not rfl (.not rfl (.r rfl (zAb (t := false) rfl rfl) (.a rfl rfl .nil))))))))) ?_
  refine zAK ?_
  exact ends [_] [] (.cons (.tmp (zAE (by simp [zBa, h1']))) .nil) (.cons (.one .v (.v _)) .nil) (by decide) trivial
 ·
  have h1' := h1
  replace h1' := of_decide_eq_true h1'
  refine zAA rfl (.m rfl rfl (.r rfl (zAO rfl rfl underlying9) (.r rfl (zAI (zDF rfl rfl rfl) (by exact congrArg (fun b => AV.p none (.v (.bool b))) h1)) (.m rfl rfl (.m rfl rfl (.r rfl (zAO rfl rfl underlying9) (.r rfl (zEA rfl rfl rfl) (.r rfl (zAb (t := true) rfl rfl) (.a rfl rfl .nil))))))))) ?_
  refine zAK ?_
  exact ends [_] [] (.cons (.tmp (zAE (by simp [zBa, h1']))) .nil) (.cons (.one .v (.v _)) .nil) (by decide) trivial
theorem zDo (s : ByteArray) : Con Tryz.prog 113 [.one (PV.v (.string s))] [] [.one (.v (.bool (zBa s)))] := by
 refine zAR func113 rfl rfl rfl rfl ?_
 refine zAB (zAA rfl (.a rfl rfl .nil) ?_)
 refine zAB ?_
 rcases bfc (decide (1 ≤ (s.size : Int))) with h1 | h1
 ·
  have h1' := h1
  replace h1' := of_decide_eq_false h1'
  refine zAA rfl (.m rfl rfl (.r rfl (zAO rfl rfl underlying9) (.r rfl (zAI (zDF rfl rfl rfl) (by exact congrArg (fun b => AV.p none (.v (.bool b))) h1)) (.m rfl rfl (.not rfl (.not rfl (.not rfl (.r rfl (zAb (t := false) rfl rfl) (.a rfl rfl .nil))))))))) ?_
  refine zAK ?_
  exact ends [_] [] (.cons (.tmp (zAE (by simp [zBa, h1']))) .nil) (.cons (.one .v (.v _)) .nil) (by decide) trivial
 ·
  have h1' := h1
  replace h1' := of_decide_eq_true h1'
  refine zAA rfl (.m rfl rfl (.r rfl (zAO rfl rfl underlying9) (.r rfl (zAI (zDF rfl rfl rfl) (by exact congrArg (fun b => AV.p none (.v (.bool b))) h1)) (.m rfl rfl (.m rfl rfl (.r rfl (zAO rfl rfl underlying9) (.r rfl (zEA rfl rfl rfl) (.r rfl (zAb (t := true) rfl rfl) (.a rfl rfl .nil))))))))) ?_
  refine zAK ?_
  exact ends [_] [] (.cons (.tmp (zAE (by simp [zBa, h1']))) .nil) (.cons (.one .v (.v _)) .nil) (by decide) trivial
theorem zEK (e : Ent) : Con Tryz.prog 100 [.agg [PV.v (.string e.user), PV.v (.int .i64 e.seq), PV.v (.int .i64 e.kind)]] [] [.one (.v (.bool (zBl e.user e.seq e.kind)))] := by
 refine zAR func100 rfl rfl rfl rfl ?_
 refine zAB (zAA rfl (.run [] [1] rfl (zCF rfl 1 rfl rfl (by decide) rfl (by decide)) (.a rfl rfl .nil)) ?_)
 refine zAB ?_
 rcases bfc (zBa e.user) with h1 | h1
 ·
  have h1' := h1
  refine zAA rfl (.r rfl (zAC rfl rfl underlying43 rfl sizeOf9 (by decide)) (.r rfl (zAD rfl rfl rfl isAgg9 rfl) (.run [500] [] rfl (zAF rfl 500 (X := []) zM4 rfl (.val nod) (.cons (.one (.bor .v)) .nil) (by decide) all_nil .nil (zDp e.user) rfl rfl (nle rfl)) (.r rfl (zAI (zBF rfl) (by exact congrArg (fun b => AV.p none (.v (.bool b))) h1)) (.not rfl (.not rfl (.not rfl (.r rfl (zAb (t := false) rfl rfl) (.m rfl rfl (.not rfl (.not rfl (.not rfl (.r rfl (zAb (t := false) rfl rfl) (.a rfl rfl .nil)))))))))))))) ?_
  refine zAK ?_
  exact ends [_] [] (.cons (.tmp (zAE (by simp [zBl, h1']))) .nil) (.cons (.one .v (.v _)) .nil) (by decide) trivial
 ·
  have h1' := h1
  rcases bfc (zAi e.seq 0 1000000000000) with h2 | h2
  ·
   have h2' := h2
   refine zAA rfl (.r rfl (zAC rfl rfl underlying43 rfl sizeOf9 (by decide)) (.r rfl (zAD rfl rfl rfl isAgg9 rfl) (.run [500] [] rfl (zAF rfl 500 (X := []) zM4 rfl (.val nod) (.cons (.one (.bor .v)) .nil) (by decide) all_nil .nil (zDp e.user) rfl rfl (nle rfl)) (.r rfl (zAI (zBF rfl) (by exact congrArg (fun b => AV.p none (.v (.bool b))) h1)) (.r rfl (zAC rfl rfl underlying43 rfl sizeOf2 (by decide)) (.r rfl (zAD rfl rfl rfl isAgg2 rfl) (.run [900] [] rfl (zAF rfl 900 (X := []) en60 rfl (.val nod) (.cons (.one (.bor .v)) (.cons (.one (.bor .v)) (.cons (.one (.bor .v)) .nil))) (by decide) all_nil .nil (zBU e.seq 0 1000000000000) rfl rfl (nle rfl)) (.r rfl (zAb (t := true) rfl rfl) (.r rfl (zAI (zBF rfl) (by exact congrArg (fun b => AV.p none (.v (.bool b))) h2)) (.not rfl (.not rfl (.not rfl (.r rfl (zAb (t := false) rfl rfl) (.a rfl rfl .nil)))))))))))))) ?_
   refine zAK ?_
   exact ends [_] [] (.cons (.tmp (zAE (by simp [zBl, h1', h2']))) .nil) (.cons (.one .v (.v _)) .nil) (by decide) trivial
  ·
   have h2' := h2
   refine zAA rfl (.r rfl (zAC rfl rfl underlying43 rfl sizeOf9 (by decide)) (.r rfl (zAD rfl rfl rfl isAgg9 rfl) (.run [500] [] rfl (zAF rfl 500 (X := []) zM4 rfl (.val nod) (.cons (.one (.bor .v)) .nil) (by decide) all_nil .nil (zDp e.user) rfl rfl (nle rfl)) (.r rfl (zAI (zBF rfl) (by exact congrArg (fun b => AV.p none (.v (.bool b))) h1)) (.r rfl (zAC rfl rfl underlying43 rfl sizeOf2 (by decide)) (.r rfl (zAD rfl rfl rfl isAgg2 rfl) (.run [900] [] rfl (zAF rfl 900 (X := []) en60 rfl (.val nod) (.cons (.one (.bor .v)) (.cons (.one (.bor .v)) (.cons (.one (.bor .v)) .nil))) (by decide) all_nil .nil (zBU e.seq 0 1000000000000) rfl rfl (nle rfl)) (.r rfl (zAb (t := true) rfl rfl) (.r rfl (zAI (zBF rfl) (by exact congrArg (fun b => AV.p none (.v (.bool b))) h2)) (.r rfl (zAC rfl rfl underlying43 rfl sizeOf2 (by decide)) (.r rfl (zAD rfl rfl rfl isAgg2 rfl) (.run [1400] [] rfl (zAF rfl 1400 (X := []) en60 rfl (.val nod) (.cons (.one (.bor .v)) (.cons (.one (.bor .v)) (.cons (.one (.bor .v)) .nil))) (by decide) all_nil .nil (zBU e.kind 0 1) rfl rfl (nle rfl)) (.r rfl (zAb (t := true) rfl rfl) (.a rfl rfl .nil)))))))))))))) ?_
   refine zAK ?_
   exact ends [_] [] (.cons (.tmp (zAE (by simp [zBl, h1', h2']))) .nil) (.cons (.one .v (.v _)) .nil) (by decide) trivial
theorem zBu (e : Ent) : Con Tryz.prog 73 [.agg [PV.v (.string e.user), PV.v (.int .i64 e.seq), PV.v (.int .i64 e.kind)]] [] [.one (.v (.bool (zBl e.user e.seq e.kind)))] := by
 refine zAR func73 rfl rfl rfl rfl ?_
 refine zAB (zAA rfl (.run [] [1] rfl (zCF rfl 1 rfl rfl (by decide) rfl (by decide)) (.a rfl rfl .nil)) ?_)
 refine zAB ?_
 rcases bfc (zBa e.user) with h1 | h1
 ·
  have h1' := h1
  refine zAA rfl (.r rfl (zAC rfl rfl underlying43 rfl sizeOf9 (by decide)) (.r rfl (zAD rfl rfl rfl isAgg9 rfl) (.run [500] [] rfl (zAF rfl 500 (X := []) zM5 rfl (.val nod) (.cons (.one (.bor .v)) .nil) (by decide) all_nil .nil (zDo e.user) rfl rfl (nle rfl)) (.r rfl (zAI (zBF rfl) (by exact congrArg (fun b => AV.p none (.v (.bool b))) h1)) (.not rfl (.not rfl (.not rfl (.r rfl (zAb (t := false) rfl rfl) (.m rfl rfl (.not rfl (.not rfl (.not rfl (.r rfl (zAb (t := false) rfl rfl) (.a rfl rfl .nil)))))))))))))) ?_
  refine zAK ?_
  exact ends [_] [] (.cons (.tmp (zAE (by simp [zBl, h1']))) .nil) (.cons (.one .v (.v _)) .nil) (by decide) trivial
 ·
  have h1' := h1
  rcases bfc (zAi e.seq 0 1000000000000) with h2 | h2
  ·
   have h2' := h2
   refine zAA rfl (.r rfl (zAC rfl rfl underlying43 rfl sizeOf9 (by decide)) (.r rfl (zAD rfl rfl rfl isAgg9 rfl) (.run [500] [] rfl (zAF rfl 500 (X := []) zM5 rfl (.val nod) (.cons (.one (.bor .v)) .nil) (by decide) all_nil .nil (zDo e.user) rfl rfl (nle rfl)) (.r rfl (zAI (zBF rfl) (by exact congrArg (fun b => AV.p none (.v (.bool b))) h1)) (.r rfl (zAC rfl rfl underlying43 rfl sizeOf2 (by decide)) (.r rfl (zAD rfl rfl rfl isAgg2 rfl) (.run [900] [] rfl (zAF rfl 900 (X := []) en71 rfl (.val nod) (.cons (.one (.bor .v)) (.cons (.one (.bor .v)) (.cons (.one (.bor .v)) .nil))) (by decide) all_nil .nil (zBv e.seq 0 1000000000000) rfl rfl (nle rfl)) (.r rfl (zAb (t := true) rfl rfl) (.r rfl (zAI (zBF rfl) (by exact congrArg (fun b => AV.p none (.v (.bool b))) h2)) (.not rfl (.not rfl (.not rfl (.r rfl (zAb (t := false) rfl rfl) (.a rfl rfl .nil)))))))))))))) ?_
   refine zAK ?_
   exact ends [_] [] (.cons (.tmp (zAE (by simp [zBl, h1', h2']))) .nil) (.cons (.one .v (.v _)) .nil) (by decide) trivial
  ·
   have h2' := h2
   refine zAA rfl (.r rfl (zAC rfl rfl underlying43 rfl sizeOf9 (by decide)) (.r rfl (zAD rfl rfl rfl isAgg9 rfl) (.run [500] [] rfl (zAF rfl 500 (X := []) zM5 rfl (.val nod) (.cons (.one (.bor .v)) .nil) (by decide) all_nil .nil (zDo e.user) rfl rfl (nle rfl)) (.r rfl (zAI (zBF rfl) (by exact congrArg (fun b => AV.p none (.v (.bool b))) h1)) (.r rfl (zAC rfl rfl underlying43 rfl sizeOf2 (by decide)) (.r rfl (zAD rfl rfl rfl isAgg2 rfl) (.run [900] [] rfl (zAF rfl 900 (X := []) en71 rfl (.val nod) (.cons (.one (.bor .v)) (.cons (.one (.bor .v)) (.cons (.one (.bor .v)) .nil))) (by decide) all_nil .nil (zBv e.seq 0 1000000000000) rfl rfl (nle rfl)) (.r rfl (zAb (t := true) rfl rfl) (.r rfl (zAI (zBF rfl) (by exact congrArg (fun b => AV.p none (.v (.bool b))) h2)) (.r rfl (zAC rfl rfl underlying43 rfl sizeOf2 (by decide)) (.r rfl (zAD rfl rfl rfl isAgg2 rfl) (.run [1400] [] rfl (zAF rfl 1400 (X := []) en71 rfl (.val nod) (.cons (.one (.bor .v)) (.cons (.one (.bor .v)) (.cons (.one (.bor .v)) .nil))) (by decide) all_nil .nil (zBv e.kind 0 1) rfl rfl (nle rfl)) (.r rfl (zAb (t := true) rfl rfl) (.a rfl rfl .nil)))))))))))))) ?_
   refine zAK ?_
   exact ends [_] [] (.cons (.tmp (zAE (by simp [zBl, h1', h2']))) .nil) (.cons (.one .v (.v _)) .nil) (by decide) trivial
theorem zKu (a : ByteArray) : Con Tryz.prog 130 [.one (PV.v (.string a))] [] [.one (.v (.bool false))] := by
 refine zAR func130 rfl rfl rfl rfl ?_
 refine zAB (zAA rfl (.a rfl rfl .nil) ?_)
 refine zAB (zAA rfl (.m rfl rfl (.m rfl rfl (.r rfl (zAI (zCv rfl rfl rfl) (zAE (congrArg Bool.not (decide_eq_true (by simp))))) (.a rfl rfl .nil)))) ?_)
 refine zAK ?_
 exact ends [_] [] (.cons (.tmp rfl) .nil) (.cons (.one .v (.v _)) .nil) (by decide) trivial
theorem zKv (a : Int) : Con Tryz.prog 131 [.one (PV.v (.int .i64 a))] [] [.one (.v (.bool false))] := by
 refine zAR func131 rfl rfl rfl rfl ?_
 refine zAB (zAA rfl (.a rfl rfl .nil) ?_)
 refine zAB (zAA rfl (.m rfl rfl (.m rfl rfl (.r rfl (zAI (zB8 rfl rfl rfl) (zAE (congrArg Bool.not (decide_eq_true (by simp))))) (.a rfl rfl .nil)))) ?_)
 refine zAK ?_
 exact ends [_] [] (.cons (.tmp rfl) .nil) (.cons (.one .v (.v _)) .nil) (by decide) trivial
theorem zOU (a b : ByteArray) : Con Tryz.prog 102 [.one (PV.v (.string a)), .one (PV.v (.string b))] [] [.one (.v (.int .i64 (cmpS a b)))] := by
 refine zAR func102 rfl rfl rfl rfl ?_
 refine zAB (zAA rfl (.a rfl rfl .nil) ?_)
 refine zAB (zAA rfl (.m rfl rfl (.run [800] [] rfl (zAF rfl 800 (X := []) en130 rfl (.val nod) (.cons (.one (.bor .v)) .nil) (by decide) all_nil .nil (zKu a) rfl rfl (nle rfl)) (.a rfl rfl .nil))) ?_)
 refine zAB (zAA rfl (.m rfl rfl (.run [1000] [] rfl (zAF rfl 1000 (X := []) en130 rfl (.val nod) (.cons (.one (.bor .v)) .nil) (by decide) all_nil .nil (zKu b) rfl rfl (nle rfl)) (.a rfl rfl .nil))) ?_)
 refine zAB ?_
 refine zAB (zAA rfl (.m rfl rfl .nil) ?_)
 refine zAT (t := false) rfl (fun h => nomatch h) (fun _ => ?_)
 refine zAM ?_
 refine zAB ?_
 refine zAB (zAA rfl (.m rfl rfl .nil) ?_)
 refine zAT (t := false) rfl (fun h => nomatch h) (fun _ => ?_)
 refine zAM ?_
 refine zAB ?_
 refine zAB (zAA rfl (.m rfl rfl (.m rfl rfl (.r rfl (zFZ rfl rfl rfl) .nil))) ?_)
 refine zAT (t := ltB a b) rfl (fun h1 => ?_) (fun h1 => ?_)
 ·
  refine zAB (zAA rfl (.a rfl rfl .nil) ?_)
  refine zAK ?_
  exact ends [_] [] (.cons (.tmp (zAG (by rw [cmpS, if_pos h1]))) .nil) (.cons (.one .v (.v _)) .nil) (by decide) trivial
 ·
  refine zAM ?_
  refine zAB ?_
  refine zAB (zAA rfl (.m rfl rfl (.m rfl rfl (.r rfl (st_sgtr rfl rfl rfl) .nil))) ?_)
  refine zAT (t := (!(ltB a b || decide (a = b)))) rfl (fun h2 => ?_) (fun h2 => ?_)
  ·
   replace h2 : (ltB a b || decide (a = b)) = false := zAp h2
   refine zAB (zAA rfl (.a rfl rfl .nil) ?_)
   refine zAK ?_
   exact ends [_] [] (.cons (.tmp (zAG (by rw [cmpS, if_neg (by simp [h1]), if_pos (by rw [← zNG h1, h2]; rfl)]))) .nil) (.cons (.one .v (.v _)) .nil) (by decide) trivial
  ·
   replace h2 : (ltB a b || decide (a = b)) = true := zAq h2
   refine zAM ?_
   refine zAB (zAA rfl (.a rfl rfl .nil) ?_)
   refine zAK ?_
   exact ends [_] [] (.cons (.tmp (zAG (by rw [cmpS, if_neg (by simp [h1]), if_neg (by rw [← zNG h1, h2]; decide)]))) .nil) (.cons (.one .v (.v _)) .nil) (by decide) trivial
theorem zK6 (a b : Int) : Con Tryz.prog 103 [.one (PV.v (.int .i64 a)), .one (PV.v (.int .i64 b))] [] [.one (.v (.int .i64 (cmpI a b)))] := by
 refine zAR func103 rfl rfl rfl rfl ?_
 refine zAB (zAA rfl (.a rfl rfl .nil) ?_)
 refine zAB (zAA rfl (.m rfl rfl (.run [800] [] rfl (zAF rfl 800 (X := []) en131 rfl (.val nod) (.cons (.one (.bor .v)) .nil) (by decide) all_nil .nil (zKv a) rfl rfl (nle rfl)) (.a rfl rfl .nil))) ?_)
 refine zAB (zAA rfl (.m rfl rfl (.run [1000] [] rfl (zAF rfl 1000 (X := []) en131 rfl (.val nod) (.cons (.one (.bor .v)) .nil) (by decide) all_nil .nil (zKv b) rfl rfl (nle rfl)) (.a rfl rfl .nil))) ?_)
 refine zAB ?_
 refine zAB (zAA rfl (.m rfl rfl .nil) ?_)
 refine zAT (t := false) rfl (fun h => nomatch h) (fun _ => ?_)
 refine zAM ?_
 refine zAB ?_
 refine zAB (zAA rfl (.m rfl rfl .nil) ?_)
 refine zAT (t := false) rfl (fun h => nomatch h) (fun _ => ?_)
 refine zAM ?_
 refine zAB ?_
 refine zAB (zAA rfl (.m rfl rfl (.m rfl rfl (.r rfl (zAz rfl rfl rfl) .nil))) ?_)
 refine zAT (t := decide (a < b)) rfl (fun h1 => ?_) (fun h1 => ?_)
 ·
  replace h1 := of_decide_eq_true h1
  refine zAB (zAA rfl (.a rfl rfl .nil) ?_)
  refine zAK ?_
  exact ends [_] [] (.cons (.tmp (zAG (by simp [cmpI, h1]))) .nil) (.cons (.one .v (.v _)) .nil) (by decide) trivial
 ·
  replace h1 := of_decide_eq_false h1
  refine zAM ?_
  refine zAB ?_
  refine zAB (zAA rfl (.m rfl rfl (.m rfl rfl (.r rfl (zBH rfl rfl rfl) .nil))) ?_)
  refine zAT (t := decide (b < a)) rfl (fun h2 => ?_) (fun h2 => ?_)
  ·
   replace h2 := of_decide_eq_true h2
   refine zAB (zAA rfl (.a rfl rfl .nil) ?_)
   refine zAK ?_
   exact ends [_] [] (.cons (.tmp (zAG (by simp [cmpI, h1, h2]))) .nil) (.cons (.one .v (.v _)) .nil) (by decide) trivial
  ·
   replace h2 := of_decide_eq_false h2
   refine zAM ?_
   refine zAB (zAA rfl (.a rfl rfl .nil) ?_)
   refine zAK ?_
   exact ends [_] [] (.cons (.tmp (zAG (by simp [cmpI, h1, h2]))) .nil) (.cons (.one .v (.v _)) .nil) (by decide) trivial
theorem or_con (l : List Int) (hl : l.length ≤ 1000) : Con Tryz.prog 101 [.one (PV.sl false 1 (pvI l))] [] [.one (.v (.int .i64 (orF l)))] := by
 refine zAR func101 rfl rfl rfl rfl ?_
 have hle := zDm l
 refine zAB (zAA rfl (.a rfl rfl .nil) ?_)
 refine zAB (zAA rfl (.a rfl rfl .nil) ?_)
 refine zAB ?_
 refine zAB (zAA rfl (.m rfl rfl (.r rfl (zAu rfl rfl underlying135) (.m rfl rfl .nil))) ?_)
 refine zAS ?_
 refine zAo (σ := Nat) (fun i => mk [(3, .vi 0), (6, .p none (.sl false 1 (pvI l))), (7, .vi ((pvI l).length : Int)), (8, .vi (i:Int))] [] []) (fun i => i ≤ l.length ∧ orF (l.drop i) = orF l) (fun i => l.length - i) 0 ⟨Nat.zero_le _, rfl⟩ (zAJ ⟨rfl, rfl, rfl, (zAG (by omega)), trivial⟩ trivial trivial rfl) ?_
 rintro i hG
 replace hG : i ≤ l.length ∧ orF (l.drop i) = orF l := hG
 obtain ⟨hi, hE⟩ := hG
 refine zAB (zAA rfl (.r rfl (zAz rfl rfl rfl) .nil) ?_)
 refine zAB ?_
 refine zAT (t := decide ((i:Int) < ((pvI l).length : Int))) rfl (fun h1 => ?_) (fun h1 => ?_)
 ·
  replace h1 := of_decide_eq_true h1
  refine zAM ?_
  refine zAB ?_
  refine zAS ?_
  refine zAB ?_
  obtain ⟨e, he⟩ : ∃ e, l[i]? = some e := ⟨_, List.getElem?_eq_getElem (by (have hL := zDm l; omega))⟩
  have hlte := (List.getElem?_eq_some_iff.1 he).1
  refine zAA rfl (.r rfl (zA8 rfl rfl rfl underlying135 sizeOf3 rfl (by omega) (pvI_get he)) (.r rfl (zBP rfl rfl isAgg3 rfl) (.a rfl rfl .nil))) ?_
  refine zAB (zAA rfl (.m rfl rfl (.m rfl rfl (.r rfl (zB8 rfl rfl rfl) .nil))) ?_)
  refine zAT (t := (!(decide (e = 0)))) rfl (fun h2 => ?_) (fun h2 => ?_)
  ·
   replace h2 : ¬ (e = 0) := of_decide_eq_false (zAp h2)
   refine zAB (zAA rfl (.m rfl rfl (.a rfl rfl .nil)) ?_)
   refine zAK ?_
   exact ends [_] [] (.cons (.tmp (zAG (by rw [← hE, zMb he, if_pos h2]))) .nil) (.cons (.one .v (.v _)) .nil) (by decide) trivial
  ·
   replace h2 : e = 0 := of_decide_eq_true (zAq h2)
   refine zAM ?_
   refine zAA rfl (.r rfl (zAd rfl rfl rfl (by omega)) (.m rfl rfl .nil)) ?_
   refine nxt (Q := fun _ _ => False) (z := i) (i + 1) ?_ ?_ ?_
   ·
    show (i + 1) ≤ l.length ∧ orF (l.drop (i + 1)) = orF l
    exact ⟨by omega, by rw [← hE, zMb he, if_neg (by simpa using h2)]⟩
   ·
    show l.length - (i + 1) < l.length - i
    omega
   · exact zAJ ⟨rfl, rfl, rfl, (zAG (by omega)), trivial⟩ trivial trivial rfl
 ·
  replace h1 := of_decide_eq_false h1
  refine zAn ?_
  refine zAB (zAA rfl (.m rfl rfl (.a rfl rfl .nil)) ?_)
  refine zAK ?_
  exact ends [_] [] (.cons (.tmp (zAG (by rw [← hE, or_end (by omega)]))) .nil) (.cons (.one .v (.v _)) .nil) (by decide) trivial
theorem zKO (a b : Ent) : Con Tryz.prog 59 [.agg [PV.v (.string a.user), PV.v (.int .i64 a.seq), PV.v (.int .i64 a.kind)], .agg [PV.v (.string b.user), PV.v (.int .i64 b.seq), PV.v (.int .i64 b.kind)]] [] [.one (.v (.int .i64 (cmpK a b)))] := by
 refine zAR func59 rfl rfl rfl rfl ?_
 refine zAB (zAA rfl (.run [] [2] rfl (zCF rfl 2 rfl rfl (by decide) rfl (by decide)) (.run [] [3] rfl (zCF rfl 3 rfl rfl (by decide) rfl (by decide)) (.a rfl rfl .nil))) ?_)
 refine zAB ?_
 refine zAQ (s' := mk [(2, .ptr 2 0), (3, .ptr 3 0)] [(2, [.vs a.user, .vi a.seq, .vi a.kind]), (3, [.vs b.user, .vi b.seq, .vi b.kind])] []) ?_ ?_
 · exact zAJ ⟨rfl, rfl, trivial⟩ ⟨rfl, rfl, trivial⟩ trivial rfl
 refine zAf zBo rfl (.r rfl (zAC rfl rfl underlying43 rfl sizeOf9 (by decide)) (.r rfl (zAD rfl rfl rfl isAgg9 rfl) (.r rfl (zAC rfl rfl underlying43 rfl sizeOf9 (by decide)) (.r rfl (zAD rfl rfl rfl isAgg9 rfl) (.run [900] [] rfl (zAF rfl 900 (X := []) en102 rfl (.val nod) (.cons (.one (.bor .v)) (.cons (.one (.bor .v)) .nil)) (by decide) all_nil .nil (zOU a.user b.user) rfl rfl (nle rfl)) (.r rfl (zAC rfl rfl underlying43 rfl sizeOf2 (by decide)) (.r rfl (zAD rfl rfl rfl isAgg2 rfl) (.r rfl (zAC rfl rfl underlying43 rfl sizeOf2 (by decide)) (.r rfl (zAD rfl rfl rfl isAgg2 rfl) (.run [1400] [] rfl (zAF rfl 1400 (X := []) en103 rfl (.val nod) (.cons (.one (.bor .v)) (.cons (.one (.bor .v)) .nil)) (by decide) all_nil .nil (zK6 b.seq a.seq) rfl rfl (nle rfl)) (.r rfl (zAC rfl rfl underlying43 rfl sizeOf2 (by decide)) (.r rfl (zAD rfl rfl rfl isAgg2 rfl) (.r rfl (zAC rfl rfl underlying43 rfl sizeOf2 (by decide)) (.r rfl (zAD rfl rfl rfl isAgg2 rfl) (.run [1900] [] rfl (zAF rfl 1900 (X := []) en103 rfl (.val nod) (.cons (.one (.bor .v)) (.cons (.one (.bor .v)) .nil)) (by decide) all_nil .nil (zK6 b.kind a.kind) rfl rfl (nle rfl)) (.run [2000] [] rfl (zAy rfl 2000 underlying135 inf3 (nle rfl) (by decide) rfl rfl rfl (.cons .v (.cons .v (.cons .v .nil))) (by decide) rfl (by decide) rfl (by decide) rfl) (.run [2000, 2100] [] rfl (zAF rfl 2100 (X := []) en101 rfl (.val nod) (.cons (.one (.bor (.all (len := 3) (xs := [[PV.v (.int .i64 (cmpS a.user b.user))], [PV.v (.int .i64 (cmpI b.seq a.seq))], [PV.v (.int .i64 (cmpI b.kind a.kind))]]) rfl rfl (by decide)))) .nil) (by decide) all_nil .nil (or_con [cmpS a.user b.user, cmpI b.seq a.seq, cmpI b.kind a.kind] (by simp)) rfl rfl (nle rfl)) (.a rfl rfl .nil)))))))))))))))))) (by kernel_rfl) ?_
 refine zAK ?_
 exact ends [_] [] (.cons (.tmp (zAG (zN0 a b))) .nil) (.cons (.one .v (.v _)) .nil) (by decide) trivial
theorem zE4 (e : Ent) : Con Tryz.prog 58 [.agg [PV.v (.string e.user), PV.v (.int .i64 e.seq), PV.v (.int .i64 e.kind), PV.v (.string e.value)]] [] [.one (.v (.bool (zBp e)))] := by
 refine zAR func58 rfl rfl rfl rfl ?_
 refine zAB (zAA rfl (.run [] [1] rfl (zCF rfl 1 rfl rfl (by decide) rfl (by decide)) (.a rfl rfl .nil)) ?_)
 refine zAB ?_
 refine zAQ (s' := mk [(1, .ptr 1 0)] [(1, [.vs e.user, .vi e.seq, .vi e.kind, .vs e.value])] []) ?_ ?_
 · exact zAJ ⟨rfl, trivial⟩ ⟨rfl, trivial⟩ trivial rfl
 rcases bfc (zBl e.user e.seq e.kind) with h1 | h1
 ·
  have h1' := h1
  refine zAA rfl (.r rfl (zAC rfl rfl underlying45 rfl sizeOf43 (by decide)) (.r rfl (zAW rfl rfl rfl isAgg43 sizeOf43 (nle rfl)) (.run [500] [] rfl (zAF rfl 500 (X := []) zM7 rfl (.val nod) (.cons (.agg (.cons (.bor .v) (.cons (.bor .v) (.cons (.bor .v) .nil)))) .nil) (by decide) all_nil .nil (zEK e) rfl rfl (nle rfl)) (.r rfl (zAI (zBF rfl) (by exact congrArg (fun b => AV.p none (.v (.bool b))) h1)) (.not rfl (.not rfl (.not rfl (.not rfl (.r rfl (zAb (t := false) rfl rfl) (.m rfl rfl (.not rfl (.not rfl (.not rfl (.not rfl (.not rfl (.not rfl (.not rfl (.not rfl (.not rfl (.r rfl (zAb (t := false) rfl rfl) (.a rfl rfl .nil))))))))))))))))))))) ?_
  refine zAK ?_
  exact ends [_] [] (.cons (.tmp (zAE (by simp only [zBp, h1, Bool.true_and, Bool.false_and, Bool.and_true, Bool.and_false, Bool.true_or, Bool.false_or]))) .nil) (.cons (.one .v (.v _)) .nil) (by decide) trivial
 ·
  have h1' := h1
  rcases bfc (decide ((e.value.size : Int) ≤ 200)) with h2 | h2
  ·
   have h2' := h2
   replace h2' := of_decide_eq_false h2'
   refine zAA rfl (.r rfl (zAC rfl rfl underlying45 rfl sizeOf43 (by decide)) (.r rfl (zAW rfl rfl rfl isAgg43 sizeOf43 (nle rfl)) (.run [500] [] rfl (zAF rfl 500 (X := []) zM7 rfl (.val nod) (.cons (.agg (.cons (.bor .v) (.cons (.bor .v) (.cons (.bor .v) .nil)))) .nil) (by decide) all_nil .nil (zEK e) rfl rfl (nle rfl)) (.r rfl (zAI (zBF rfl) (by exact congrArg (fun b => AV.p none (.v (.bool b))) h1)) (.r rfl (zAC rfl rfl underlying45 rfl sizeOf9 (by decide)) (.r rfl (zAD rfl rfl rfl isAgg9 rfl) (.r rfl (zAO rfl rfl underlying9) (.r rfl (zAI (zEA rfl rfl rfl) (by exact congrArg (fun b => AV.p none (.v (.bool b))) h2)) (.r rfl (zAb (t := true) rfl rfl) (.m rfl rfl (.not rfl (.not rfl (.not rfl (.not rfl (.not rfl (.not rfl (.not rfl (.not rfl (.not rfl (.r rfl (zAb (t := false) rfl rfl) (.a rfl rfl .nil))))))))))))))))))))) ?_
   refine zAK ?_
   exact ends [_] [] (.cons (.tmp (zAE (by simp only [zBp, h1, h2, Bool.true_and, Bool.false_and, Bool.and_true, Bool.and_false, Bool.true_or, Bool.false_or]))) .nil) (.cons (.one .v (.v _)) .nil) (by decide) trivial
  ·
   have h2' := h2
   replace h2' := of_decide_eq_true h2'
   rcases bfc (decide (e.kind = 1)) with h3 | h3
   ·
    have h3' := h3
    replace h3' := of_decide_eq_false h3'
    refine zAA rfl (.r rfl (zAC rfl rfl underlying45 rfl sizeOf43 (by decide)) (.r rfl (zAW rfl rfl rfl isAgg43 sizeOf43 (nle rfl)) (.run [500] [] rfl (zAF rfl 500 (X := []) zM7 rfl (.val nod) (.cons (.agg (.cons (.bor .v) (.cons (.bor .v) (.cons (.bor .v) .nil)))) .nil) (by decide) all_nil .nil (zEK e) rfl rfl (nle rfl)) (.r rfl (zAI (zBF rfl) (by exact congrArg (fun b => AV.p none (.v (.bool b))) h1)) (.r rfl (zAC rfl rfl underlying45 rfl sizeOf9 (by decide)) (.r rfl (zAD rfl rfl rfl isAgg9 rfl) (.r rfl (zAO rfl rfl underlying9) (.r rfl (zAI (zEA rfl rfl rfl) (by exact congrArg (fun b => AV.p none (.v (.bool b))) h2)) (.r rfl (zAb (t := true) rfl rfl) (.m rfl rfl (.r rfl (zAC rfl rfl underlying45 rfl sizeOf43 (by decide)) (.r rfl (zAC rfl rfl underlying43 rfl sizeOf2 (by decide)) (.r rfl (zAD rfl rfl rfl isAgg2 rfl) (.r rfl (zAI (zA9 rfl rfl rfl) (by exact congrArg (fun b => AV.p none (.v (.bool b))) h3)) (.m rfl rfl (.r rfl (zAC rfl rfl underlying45 rfl sizeOf9 (by decide)) (.r rfl (zAD rfl rfl rfl isAgg9 rfl) (.r rfl (zD2 rfl rfl rfl) (.r rfl (zAb (t := false) rfl rfl) (.r rfl (zAb (t := true) rfl rfl) (.a rfl rfl .nil))))))))))))))))))))) ?_
    refine zAK ?_
    exact ends [_] [] (.cons (.tmp (zAE (by simp only [zBp, h1, h2, h3, Bool.true_and, Bool.false_and, Bool.and_true, Bool.and_false, Bool.true_or, Bool.false_or]))) .nil) (.cons (.one .v (.v _)) .nil) (by decide) trivial
   ·
    have h3' := h3
    replace h3' := of_decide_eq_true h3'
    refine zAA rfl (.r rfl (zAC rfl rfl underlying45 rfl sizeOf43 (by decide)) (.r rfl (zAW rfl rfl rfl isAgg43 sizeOf43 (nle rfl)) (.run [500] [] rfl (zAF rfl 500 (X := []) zM7 rfl (.val nod) (.cons (.agg (.cons (.bor .v) (.cons (.bor .v) (.cons (.bor .v) .nil)))) .nil) (by decide) all_nil .nil (zEK e) rfl rfl (nle rfl)) (.r rfl (zAI (zBF rfl) (by exact congrArg (fun b => AV.p none (.v (.bool b))) h1)) (.r rfl (zAC rfl rfl underlying45 rfl sizeOf9 (by decide)) (.r rfl (zAD rfl rfl rfl isAgg9 rfl) (.r rfl (zAO rfl rfl underlying9) (.r rfl (zAI (zEA rfl rfl rfl) (by exact congrArg (fun b => AV.p none (.v (.bool b))) h2)) (.r rfl (zAb (t := true) rfl rfl) (.m rfl rfl (.r rfl (zAC rfl rfl underlying45 rfl sizeOf43 (by decide)) (.r rfl (zAC rfl rfl underlying43 rfl sizeOf2 (by decide)) (.r rfl (zAD rfl rfl rfl isAgg2 rfl) (.r rfl (zAI (zA9 rfl rfl rfl) (by exact congrArg (fun b => AV.p none (.v (.bool b))) h3)) (.m rfl rfl (.not rfl (.not rfl (.not rfl (.r rfl (zAb (t := true) rfl rfl) (.r rfl (zAb (t := true) rfl rfl) (.a rfl rfl .nil))))))))))))))))))))) ?_
    refine zAK ?_
    exact ends [_] [] (.cons (.tmp (zAE (by simp only [zBp, h1, h2, h3, Bool.true_and, Bool.false_and, Bool.and_true, Bool.and_false, Bool.true_or, Bool.false_or]))) .nil) (.cons (.one .v (.v _)) .nil) (by decide) trivial
theorem zDR (e : Ent) : Con Tryz.prog 54 [.agg [PV.v (.string e.user), PV.v (.int .i64 e.seq), PV.v (.int .i64 e.kind), PV.v (.string e.value)]] [] [.one (.v (.bool (zBp e)))] := by
 refine zAR func54 rfl rfl rfl rfl ?_
 refine zAB (zAA rfl (.run [] [1] rfl (zCF rfl 1 rfl rfl (by decide) rfl (by decide)) (.a rfl rfl .nil)) ?_)
 refine zAB ?_
 refine zAQ (s' := mk [(1, .ptr 1 0)] [(1, [.vs e.user, .vi e.seq, .vi e.kind, .vs e.value])] []) ?_ ?_
 · exact zAJ ⟨rfl, trivial⟩ ⟨rfl, trivial⟩ trivial rfl
 rcases bfc (zBl e.user e.seq e.kind) with h1 | h1
 ·
  have h1' := h1
  refine zAA rfl (.r rfl (zAC rfl rfl underlying45 rfl sizeOf43 (by decide)) (.r rfl (zAW rfl rfl rfl isAgg43 sizeOf43 (nle rfl)) (.run [500] [] rfl (zAF rfl 500 (X := []) en73 rfl (.val nod) (.cons (.agg (.cons (.bor .v) (.cons (.bor .v) (.cons (.bor .v) .nil)))) .nil) (by decide) all_nil .nil (zBu e) rfl rfl (nle rfl)) (.r rfl (zAI (zBF rfl) (by exact congrArg (fun b => AV.p none (.v (.bool b))) h1)) (.not rfl (.not rfl (.not rfl (.not rfl (.r rfl (zAb (t := false) rfl rfl) (.m rfl rfl (.not rfl (.not rfl (.not rfl (.not rfl (.not rfl (.not rfl (.not rfl (.not rfl (.not rfl (.r rfl (zAb (t := false) rfl rfl) (.a rfl rfl .nil))))))))))))))))))))) ?_
  refine zAK ?_
  exact ends [_] [] (.cons (.tmp (zAE (by simp only [zBp, h1, Bool.true_and, Bool.false_and, Bool.and_true, Bool.and_false, Bool.true_or, Bool.false_or]))) .nil) (.cons (.one .v (.v _)) .nil) (by decide) trivial
 ·
  have h1' := h1
  rcases bfc (decide ((e.value.size : Int) ≤ 200)) with h2 | h2
  ·
   have h2' := h2
   replace h2' := of_decide_eq_false h2'
   refine zAA rfl (.r rfl (zAC rfl rfl underlying45 rfl sizeOf43 (by decide)) (.r rfl (zAW rfl rfl rfl isAgg43 sizeOf43 (nle rfl)) (.run [500] [] rfl (zAF rfl 500 (X := []) en73 rfl (.val nod) (.cons (.agg (.cons (.bor .v) (.cons (.bor .v) (.cons (.bor .v) .nil)))) .nil) (by decide) all_nil .nil (zBu e) rfl rfl (nle rfl)) (.r rfl (zAI (zBF rfl) (by exact congrArg (fun b => AV.p none (.v (.bool b))) h1)) (.r rfl (zAC rfl rfl underlying45 rfl sizeOf9 (by decide)) (.r rfl (zAD rfl rfl rfl isAgg9 rfl) (.r rfl (zAO rfl rfl underlying9) (.r rfl (zAI (zEA rfl rfl rfl) (by exact congrArg (fun b => AV.p none (.v (.bool b))) h2)) (.r rfl (zAb (t := true) rfl rfl) (.m rfl rfl (.not rfl (.not rfl (.not rfl (.not rfl (.not rfl (.not rfl (.not rfl (.not rfl (.not rfl (.r rfl (zAb (t := false) rfl rfl) (.a rfl rfl .nil))))))))))))))))))))) ?_
   refine zAK ?_
   exact ends [_] [] (.cons (.tmp (zAE (by simp only [zBp, h1, h2, Bool.true_and, Bool.false_and, Bool.and_true, Bool.and_false, Bool.true_or, Bool.false_or]))) .nil) (.cons (.one .v (.v _)) .nil) (by decide) trivial
  ·
   have h2' := h2
   replace h2' := of_decide_eq_true h2'
   rcases bfc (decide (e.kind = 1)) with h3 | h3
   ·
    have h3' := h3
    replace h3' := of_decide_eq_false h3'
    refine zAA rfl (.r rfl (zAC rfl rfl underlying45 rfl sizeOf43 (by decide)) (.r rfl (zAW rfl rfl rfl isAgg43 sizeOf43 (nle rfl)) (.run [500] [] rfl (zAF rfl 500 (X := []) en73 rfl (.val nod) (.cons (.agg (.cons (.bor .v) (.cons (.bor .v) (.cons (.bor .v) .nil)))) .nil) (by decide) all_nil .nil (zBu e) rfl rfl (nle rfl)) (.r rfl (zAI (zBF rfl) (by exact congrArg (fun b => AV.p none (.v (.bool b))) h1)) (.r rfl (zAC rfl rfl underlying45 rfl sizeOf9 (by decide)) (.r rfl (zAD rfl rfl rfl isAgg9 rfl) (.r rfl (zAO rfl rfl underlying9) (.r rfl (zAI (zEA rfl rfl rfl) (by exact congrArg (fun b => AV.p none (.v (.bool b))) h2)) (.r rfl (zAb (t := true) rfl rfl) (.m rfl rfl (.r rfl (zAC rfl rfl underlying45 rfl sizeOf43 (by decide)) (.r rfl (zAC rfl rfl underlying43 rfl sizeOf2 (by decide)) (.r rfl (zAD rfl rfl rfl isAgg2 rfl) (.r rfl (zAI (zA9 rfl rfl rfl) (by exact congrArg (fun b => AV.p none (.v (.bool b))) h3)) (.m rfl rfl (.r rfl (zAC rfl rfl underlying45 rfl sizeOf9 (by decide)) (.r rfl (zAD rfl rfl rfl isAgg9 rfl) (.r rfl (zD2 rfl rfl rfl) (.r rfl (zAb (t := false) rfl rfl) (.r rfl (zAb (t := true) rfl rfl) (.a rfl rfl .nil))))))))))))))))))))) ?_
    refine zAK ?_
    exact ends [_] [] (.cons (.tmp (zAE (by simp only [zBp, h1, h2, h3, Bool.true_and, Bool.false_and, Bool.and_true, Bool.and_false, Bool.true_or, Bool.false_or]))) .nil) (.cons (.one .v (.v _)) .nil) (by decide) trivial
   ·
    have h3' := h3
    replace h3' := of_decide_eq_true h3'
    refine zAA rfl (.r rfl (zAC rfl rfl underlying45 rfl sizeOf43 (by decide)) (.r rfl (zAW rfl rfl rfl isAgg43 sizeOf43 (nle rfl)) (.run [500] [] rfl (zAF rfl 500 (X := []) en73 rfl (.val nod) (.cons (.agg (.cons (.bor .v) (.cons (.bor .v) (.cons (.bor .v) .nil)))) .nil) (by decide) all_nil .nil (zBu e) rfl rfl (nle rfl)) (.r rfl (zAI (zBF rfl) (by exact congrArg (fun b => AV.p none (.v (.bool b))) h1)) (.r rfl (zAC rfl rfl underlying45 rfl sizeOf9 (by decide)) (.r rfl (zAD rfl rfl rfl isAgg9 rfl) (.r rfl (zAO rfl rfl underlying9) (.r rfl (zAI (zEA rfl rfl rfl) (by exact congrArg (fun b => AV.p none (.v (.bool b))) h2)) (.r rfl (zAb (t := true) rfl rfl) (.m rfl rfl (.r rfl (zAC rfl rfl underlying45 rfl sizeOf43 (by decide)) (.r rfl (zAC rfl rfl underlying43 rfl sizeOf2 (by decide)) (.r rfl (zAD rfl rfl rfl isAgg2 rfl) (.r rfl (zAI (zA9 rfl rfl rfl) (by exact congrArg (fun b => AV.p none (.v (.bool b))) h3)) (.m rfl rfl (.not rfl (.not rfl (.not rfl (.r rfl (zAb (t := true) rfl rfl) (.r rfl (zAb (t := true) rfl rfl) (.a rfl rfl .nil))))))))))))))))))))) ?_
    refine zAK ?_
    exact ends [_] [] (.cons (.tmp (zAE (by simp only [zBp, h1, h2, h3, Bool.true_and, Bool.false_and, Bool.and_true, Bool.and_false, Bool.true_or, Bool.false_or]))) .nil) (.cons (.one .v (.v _)) .nil) (by decide) trivial
end Go.Rl
namespace Go.Rl
open Go.Proofs Go.Proofs.Tryz
set_option maxRecDepth 1000000
set_option maxHeartbeats 2000000
theorem zEC : (Tryz.prog.info? 45).map (fun i => (i.zero, i.size, i.bytes)) = some (some (.agg #[.string ⟨#[]⟩, .int .i64 0, .int .i64 0, .string ⟨#[]⟩]), 4, 48) := by kernel_rfl
theorem en58 : En Tryz.prog 58 := zAl func58 (by decide) rfl
theorem en59 : En Tryz.prog 59 := zAl func59 (by decide) rfl
theorem en54 : En Tryz.prog 54 := zAl func54 (by decide) rfl
theorem en55 : En Tryz.prog 55 := zAl func55 (by decide) rfl
theorem zOB (a b : ByteArray × Int × Int) (w : World) : (Op.equalIn 10000 43 (.agg ⟨[.string a.1, .int .i64 a.2.1, .int .i64 a.2.2]⟩) (.agg ⟨[.string b.1, .int .i64 b.2.1, .int .i64 b.2.2]⟩)).run Tryz.prog w = .ok (decide (a = b)) w := by
 rw [show (10000 : Nat) = 9999 + 1 from rfl, run_equalIn_agg w 9999 43 _ _ underlying43 (by kernel_rfl)]
 rw [show (Tryz.prog.fieldsOf 43).toList = [⟨"User", 9, 0, false, "", "", 0⟩, ⟨"Seq", 2, 1, false, "", "", 16⟩, ⟨"Kind", 2, 2, false, "", "", 24⟩] from rfl]
 rw [show (9999 : Nat) = 9998 + 1 from rfl]
 have hb : ∀ x y : ByteArray, x.toList = y.toList ↔ x = y := fun x y => ⟨toList_inj, fun h => by rw [h]⟩
 simp [Op.eqFields, part, isAgg9, sizeOf9, isAgg2, sizeOf2, run_equalIn_string (h := underlying9), run_equalIn_int (h := underlying2), hb]
 obtain ⟨a1, a2, a3⟩ := a
 obtain ⟨b1, b2, b3⟩ := b
 simp only [Prod.mk.injEq]
 split
 ·
  split
  · split <;> simp_all
  · simp_all
 · simp_all
theorem zG6 (a b : Ent) : Con Tryz.prog 55 [.agg [PV.v (.string a.user), PV.v (.int .i64 a.seq), PV.v (.int .i64 a.kind)], .agg [PV.v (.string b.user), PV.v (.int .i64 b.seq), PV.v (.int .i64 b.kind)]] [] [.one (.v (.int .i64 (kcmp a b)))] := by
 refine zAR func55 rfl rfl rfl rfl ?_
 refine zAB (zAA rfl (.run [] [2] rfl (zCF rfl 2 rfl rfl (by decide) rfl (by decide)) (.run [] [3] rfl (zCF rfl 3 rfl rfl (by decide) rfl (by decide)) (.a rfl rfl .nil))) ?_)
 refine zAB ?_
 refine zAB ?_
 rcases bfc (!(zBl a.user a.seq a.kind)) with h1 | h1
 ·
  have h1' := h1
  replace h1' : (zBl a.user a.seq a.kind) = true := zAq h1'
  refine zAA rfl (.r rfl (zAW rfl rfl rfl isAgg43 sizeOf43 (nle rfl)) (.run [600] [] rfl (zAF rfl 600 (X := []) en73 rfl (.val nod) (.cons (.agg (.cons (.bor .v) (.cons (.bor .v) (.cons (.bor .v) .nil)))) .nil) (by decide) all_nil .nil (zBu a) rfl rfl (nle rfl)) (.r rfl (zAI (zAa (b := zBl a.user a.seq a.kind) rfl rfl) (by exact congrArg (fun b => AV.p none (.v (.bool b))) h1)) (.m rfl rfl (.r rfl (zAW rfl rfl rfl isAgg43 sizeOf43 (nle rfl)) (.run [1000] [] rfl (zAF rfl 1000 (X := []) en73 rfl (.val nod) (.cons (.agg (.cons (.bor .v) (.cons (.bor .v) (.cons (.bor .v) .nil)))) .nil) (by decide) all_nil .nil (zBu b) rfl rfl (nle rfl)) (.r rfl (zAa (b := zBl b.user b.seq b.kind) rfl rfl) (.r rfl (zAb (t := false) rfl rfl) .nil)))))))) ?_
  refine zAT (t := (!(zBl b.user b.seq b.kind))) rfl (fun h2 => ?_) (fun h2 => ?_)
  ·
   replace h2 : (zBl b.user b.seq b.kind) = false := zAp h2
   refine zAB (zAA rfl (.a rfl rfl .nil) ?_)
   refine zAK ?_
   exact ends [_] [] (.cons (.tmp (zAG (by simp [kcmp, h1', h2]))) .nil) (.cons (.one .v (.v _)) .nil) (by decide) trivial
  ·
   replace h2 : (zBl b.user b.seq b.kind) = true := zAq h2
   refine zAM ?_
   refine zAB ?_
   refine zAB (zAA rfl (.r rfl (zAW rfl rfl rfl isAgg43 sizeOf43 (nle rfl)) (.r rfl (zAW rfl rfl rfl isAgg43 sizeOf43 (nle rfl)) (.r rfl (zJy rfl rfl rfl rfl rfl Tryz.eqGuardType43 (fun w => zOB (a.user, a.seq, a.kind) (b.user, b.seq, b.kind) w)) .nil))) ?_)
   refine zAT (t := decide ((a.user, a.seq, a.kind) = (b.user, b.seq, b.kind))) rfl (fun h3 => ?_) (fun h3 => ?_)
   ·
    replace h3 := of_decide_eq_true h3
    refine zAB (zAA rfl (.a rfl rfl .nil) ?_)
    refine zAK ?_
    exact ends [_] [] (.cons (.tmp (zAG (by rw [zEL h1' h2]; have hk := h3; simp only [Prod.mk.injEq] at hk; exact (cmpK_eq hk.1 hk.2.1 hk.2.2).symm))) .nil) (.cons (.one .v (.v _)) .nil) (by decide) trivial
   ·
    replace h3 := of_decide_eq_false h3
    refine zAM ?_
    refine zAB ?_
    refine zAB ?_
    refine zAQ (s' := mk [(2, .ptr 2 0), (3, .ptr 3 0)] [(2, [.vs a.user, .vi a.seq, .vi a.kind]), (3, [.vs b.user, .vi b.seq, .vi b.kind])] []) ?_ ?_
    · exact zAJ ⟨rfl, rfl, trivial⟩ ⟨rfl, rfl, trivial⟩ trivial rfl
    rcases bfc (ltB a.user b.user) with h4 | h4
    ·
     have h4' := h4
     rcases bfc (decide (a.user = b.user)) with h5 | h5
     ·
      have h5' := h5
      replace h5' := of_decide_eq_false h5'
      refine zAA rfl (.r rfl (zAC rfl rfl underlying43 rfl sizeOf9 (by decide)) (.r rfl (zAD rfl rfl rfl isAgg9 rfl) (.r rfl (zAC rfl rfl underlying43 rfl sizeOf9 (by decide)) (.r rfl (zAD rfl rfl rfl isAgg9 rfl) (.r rfl (zAI (zFZ rfl rfl rfl) (by exact congrArg (fun b => AV.p none (.v (.bool b))) h4)) (.m rfl rfl (.r rfl (zAC rfl rfl underlying43 rfl sizeOf9 (by decide)) (.r rfl (zAD rfl rfl rfl isAgg9 rfl) (.r rfl (zAC rfl rfl underlying43 rfl sizeOf9 (by decide)) (.r rfl (zAD rfl rfl rfl isAgg9 rfl) (.r rfl (zAI (zD2 rfl rfl rfl) (by exact congrArg (fun b => AV.p none (.v (.bool b))) h5)) (.m rfl rfl (.not rfl (.not rfl (.not rfl (.not rfl (.not rfl (.not rfl (.not rfl (.not rfl (.not rfl (.not rfl (.not rfl (.not rfl (.not rfl (.not rfl (.not rfl (.not rfl (.not rfl (.not rfl (.not rfl (.r rfl (zAb (t := false) rfl rfl) (.r rfl (zAb (t := false) rfl rfl) .nil))))))))))))))))))))))))))))))))) ?_
      refine zAT (t := false) rfl (fun h => nomatch h) (fun _ => ?_)
      refine zAM ?_
      refine zAB ?_
      refine zAQ (s' := mk [] [] []) ?_ ?_
      · exact zAJ trivial trivial trivial rfl
      refine zAA rfl (.a rfl rfl .nil) ?_
      refine zAK ?_
      exact ends [_] [] (.cons (.tmp (zAG (by rw [zEL h1' h2]; exact (zKQ (by simp_all [LessE] <;> omega) (by have hk := h3; simp only [Prod.mk.injEq] at hk; exact hk)).symm))) .nil) (.cons (.one .v (.v _)) .nil) (by decide) trivial
     ·
      have h5' := h5
      replace h5' := of_decide_eq_true h5'
      rcases bfc (decide (b.seq < a.seq)) with h6 | h6
      ·
       have h6' := h6
       replace h6' := of_decide_eq_false h6'
       rcases bfc (decide (a.seq = b.seq)) with h7 | h7
       ·
        have h7' := h7
        replace h7' := of_decide_eq_false h7'
        refine zAA rfl (.r rfl (zAC rfl rfl underlying43 rfl sizeOf9 (by decide)) (.r rfl (zAD rfl rfl rfl isAgg9 rfl) (.r rfl (zAC rfl rfl underlying43 rfl sizeOf9 (by decide)) (.r rfl (zAD rfl rfl rfl isAgg9 rfl) (.r rfl (zAI (zFZ rfl rfl rfl) (by exact congrArg (fun b => AV.p none (.v (.bool b))) h4)) (.m rfl rfl (.r rfl (zAC rfl rfl underlying43 rfl sizeOf9 (by decide)) (.r rfl (zAD rfl rfl rfl isAgg9 rfl) (.r rfl (zAC rfl rfl underlying43 rfl sizeOf9 (by decide)) (.r rfl (zAD rfl rfl rfl isAgg9 rfl) (.r rfl (zAI (zD2 rfl rfl rfl) (by exact congrArg (fun b => AV.p none (.v (.bool b))) h5)) (.m rfl rfl (.r rfl (zAC rfl rfl underlying43 rfl sizeOf2 (by decide)) (.r rfl (zAD rfl rfl rfl isAgg2 rfl) (.r rfl (zAC rfl rfl underlying43 rfl sizeOf2 (by decide)) (.r rfl (zAD rfl rfl rfl isAgg2 rfl) (.r rfl (zAI (zBH rfl rfl rfl) (by exact congrArg (fun b => AV.p none (.v (.bool b))) h6)) (.m rfl rfl (.r rfl (zAC rfl rfl underlying43 rfl sizeOf2 (by decide)) (.r rfl (zAD rfl rfl rfl isAgg2 rfl) (.r rfl (zAC rfl rfl underlying43 rfl sizeOf2 (by decide)) (.r rfl (zAD rfl rfl rfl isAgg2 rfl) (.r rfl (zAI (zA9 rfl rfl rfl) (by exact congrArg (fun b => AV.p none (.v (.bool b))) h7)) (.m rfl rfl (.not rfl (.not rfl (.not rfl (.not rfl (.not rfl (.r rfl (zAb (t := false) rfl rfl) (.r rfl (zAb (t := false) rfl rfl) (.r rfl (zAb (t := true) rfl rfl) (.r rfl (zAb (t := false) rfl rfl) .nil))))))))))))))))))))))))))))))))) ?_
        refine zAT (t := false) rfl (fun h => nomatch h) (fun _ => ?_)
        refine zAM ?_
        refine zAB ?_
        refine zAQ (s' := mk [] [] []) ?_ ?_
        · exact zAJ trivial trivial trivial rfl
        refine zAA rfl (.a rfl rfl .nil) ?_
        refine zAK ?_
        exact ends [_] [] (.cons (.tmp (zAG (by rw [zEL h1' h2]; exact (zKQ (by simp_all [LessE] <;> omega) (by have hk := h3; simp only [Prod.mk.injEq] at hk; exact hk)).symm))) .nil) (.cons (.one .v (.v _)) .nil) (by decide) trivial
       ·
        have h7' := h7
        replace h7' := of_decide_eq_true h7'
        refine zAA rfl (.r rfl (zAC rfl rfl underlying43 rfl sizeOf9 (by decide)) (.r rfl (zAD rfl rfl rfl isAgg9 rfl) (.r rfl (zAC rfl rfl underlying43 rfl sizeOf9 (by decide)) (.r rfl (zAD rfl rfl rfl isAgg9 rfl) (.r rfl (zAI (zFZ rfl rfl rfl) (by exact congrArg (fun b => AV.p none (.v (.bool b))) h4)) (.m rfl rfl (.r rfl (zAC rfl rfl underlying43 rfl sizeOf9 (by decide)) (.r rfl (zAD rfl rfl rfl isAgg9 rfl) (.r rfl (zAC rfl rfl underlying43 rfl sizeOf9 (by decide)) (.r rfl (zAD rfl rfl rfl isAgg9 rfl) (.r rfl (zAI (zD2 rfl rfl rfl) (by exact congrArg (fun b => AV.p none (.v (.bool b))) h5)) (.m rfl rfl (.r rfl (zAC rfl rfl underlying43 rfl sizeOf2 (by decide)) (.r rfl (zAD rfl rfl rfl isAgg2 rfl) (.r rfl (zAC rfl rfl underlying43 rfl sizeOf2 (by decide)) (.r rfl (zAD rfl rfl rfl isAgg2 rfl) (.r rfl (zAI (zBH rfl rfl rfl) (by exact congrArg (fun b => AV.p none (.v (.bool b))) h6)) (.m rfl rfl (.r rfl (zAC rfl rfl underlying43 rfl sizeOf2 (by decide)) (.r rfl (zAD rfl rfl rfl isAgg2 rfl) (.r rfl (zAC rfl rfl underlying43 rfl sizeOf2 (by decide)) (.r rfl (zAD rfl rfl rfl isAgg2 rfl) (.r rfl (zAI (zA9 rfl rfl rfl) (by exact congrArg (fun b => AV.p none (.v (.bool b))) h7)) (.m rfl rfl (.r rfl (zAC rfl rfl underlying43 rfl sizeOf2 (by decide)) (.r rfl (zAD rfl rfl rfl isAgg2 rfl) (.r rfl (zAC rfl rfl underlying43 rfl sizeOf2 (by decide)) (.r rfl (zAD rfl rfl rfl isAgg2 rfl) (.r rfl (zBH rfl rfl rfl) (.r rfl (zAb (t := true) rfl rfl) (.r rfl (zAb (t := false) rfl rfl) (.r rfl (zAb (t := true) rfl rfl) (.r rfl (zAb (t := false) rfl rfl) .nil))))))))))))))))))))))))))))))))) ?_
        refine zAT (t := decide (b.kind < a.kind)) rfl (fun h8 => ?_) (fun h8 => ?_)
        ·
         replace h8 := of_decide_eq_true h8
         refine zAB ?_
         refine zAQ (s' := mk [] [] []) ?_ ?_
         · exact zAJ trivial trivial trivial rfl
         refine zAA rfl (.a rfl rfl .nil) ?_
         refine zAK ?_
         exact ends [_] [] (.cons (.tmp (zAG (by rw [zEL h1' h2]; exact (zKP (by simp_all [LessE])).symm))) .nil) (.cons (.one .v (.v _)) .nil) (by decide) trivial
        ·
         replace h8 := of_decide_eq_false h8
         refine zAM ?_
         refine zAB ?_
         refine zAQ (s' := mk [] [] []) ?_ ?_
         · exact zAJ trivial trivial trivial rfl
         refine zAA rfl (.a rfl rfl .nil) ?_
         refine zAK ?_
         exact ends [_] [] (.cons (.tmp (zAG (by rw [zEL h1' h2]; exact (zKQ (by simp_all [LessE] <;> omega) (by have hk := h3; simp only [Prod.mk.injEq] at hk; exact hk)).symm))) .nil) (.cons (.one .v (.v _)) .nil) (by decide) trivial
      ·
       have h6' := h6
       replace h6' := of_decide_eq_true h6'
       refine zAA rfl (.r rfl (zAC rfl rfl underlying43 rfl sizeOf9 (by decide)) (.r rfl (zAD rfl rfl rfl isAgg9 rfl) (.r rfl (zAC rfl rfl underlying43 rfl sizeOf9 (by decide)) (.r rfl (zAD rfl rfl rfl isAgg9 rfl) (.r rfl (zAI (zFZ rfl rfl rfl) (by exact congrArg (fun b => AV.p none (.v (.bool b))) h4)) (.m rfl rfl (.r rfl (zAC rfl rfl underlying43 rfl sizeOf9 (by decide)) (.r rfl (zAD rfl rfl rfl isAgg9 rfl) (.r rfl (zAC rfl rfl underlying43 rfl sizeOf9 (by decide)) (.r rfl (zAD rfl rfl rfl isAgg9 rfl) (.r rfl (zAI (zD2 rfl rfl rfl) (by exact congrArg (fun b => AV.p none (.v (.bool b))) h5)) (.m rfl rfl (.r rfl (zAC rfl rfl underlying43 rfl sizeOf2 (by decide)) (.r rfl (zAD rfl rfl rfl isAgg2 rfl) (.r rfl (zAC rfl rfl underlying43 rfl sizeOf2 (by decide)) (.r rfl (zAD rfl rfl rfl isAgg2 rfl) (.r rfl (zAI (zBH rfl rfl rfl) (by exact congrArg (fun b => AV.p none (.v (.bool b))) h6)) (.m rfl rfl (.not rfl (.not rfl (.not rfl (.not rfl (.not rfl (.not rfl (.not rfl (.not rfl (.not rfl (.not rfl (.not rfl (.not rfl (.r rfl (zAb (t := true) rfl rfl) (.r rfl (zAb (t := true) rfl rfl) (.r rfl (zAb (t := false) rfl rfl) .nil))))))))))))))))))))))))))))))))) ?_
       refine zAT (t := true) rfl (fun _ => ?_) (fun h => nomatch h)
       refine zAB ?_
       refine zAQ (s' := mk [] [] []) ?_ ?_
       · exact zAJ trivial trivial trivial rfl
       refine zAA rfl (.a rfl rfl .nil) ?_
       refine zAK ?_
       exact ends [_] [] (.cons (.tmp (zAG (by rw [zEL h1' h2]; exact (zKP (by simp_all [LessE])).symm))) .nil) (.cons (.one .v (.v _)) .nil) (by decide) trivial
    ·
     have h4' := h4
     refine zAA rfl (.r rfl (zAC rfl rfl underlying43 rfl sizeOf9 (by decide)) (.r rfl (zAD rfl rfl rfl isAgg9 rfl) (.r rfl (zAC rfl rfl underlying43 rfl sizeOf9 (by decide)) (.r rfl (zAD rfl rfl rfl isAgg9 rfl) (.r rfl (zAI (zFZ rfl rfl rfl) (by exact congrArg (fun b => AV.p none (.v (.bool b))) h4)) (.m rfl rfl (.not rfl (.not rfl (.not rfl (.not rfl (.not rfl (.not rfl (.not rfl (.not rfl (.not rfl (.not rfl (.not rfl (.not rfl (.not rfl (.not rfl (.not rfl (.not rfl (.not rfl (.not rfl (.not rfl (.not rfl (.not rfl (.not rfl (.not rfl (.not rfl (.not rfl (.not rfl (.r rfl (zAb (t := true) rfl rfl) .nil))))))))))))))))))))))))))))))))) ?_
     refine zAT (t := true) rfl (fun _ => ?_) (fun h => nomatch h)
     refine zAB ?_
     refine zAQ (s' := mk [] [] []) ?_ ?_
     · exact zAJ trivial trivial trivial rfl
     refine zAA rfl (.a rfl rfl .nil) ?_
     refine zAK ?_
     exact ends [_] [] (.cons (.tmp (zAG (by rw [zEL h1' h2]; exact (zKP (by simp_all [LessE])).symm))) .nil) (.cons (.one .v (.v _)) .nil) (by decide) trivial
 ·
  have h1' := h1
  replace h1' : (zBl a.user a.seq a.kind) = false := zAp h1'
  refine zAA rfl (.r rfl (zAW rfl rfl rfl isAgg43 sizeOf43 (nle rfl)) (.run [600] [] rfl (zAF rfl 600 (X := []) en73 rfl (.val nod) (.cons (.agg (.cons (.bor .v) (.cons (.bor .v) (.cons (.bor .v) .nil)))) .nil) (by decide) all_nil .nil (zBu a) rfl rfl (nle rfl)) (.r rfl (zAI (zAa (b := zBl a.user a.seq a.kind) rfl rfl) (by exact congrArg (fun b => AV.p none (.v (.bool b))) h1)) (.m rfl rfl (.not rfl (.not rfl (.not rfl (.r rfl (zAb (t := true) rfl rfl) .nil)))))))) ?_
  refine zAT (t := true) rfl (fun _ => ?_) (fun h => nomatch h)
  refine zAB (zAA rfl (.a rfl rfl .nil) ?_)
  refine zAK ?_
  exact ends [_] [] (.cons (.tmp (zAG (by simp [kcmp, h1']))) .nil) (.cons (.one .v (.v _)) .nil) (by decide) trivial
theorem zCb (l : List Ent) (hl : l.length ≤ 2000000) : Con Tryz.prog 26 [.one (PV.sl false 4 (pvE l))] [] [.one (.v (.bool (zBJ l)))] := by
 refine zAR func26 rfl rfl rfl rfl ?_
 have hle := zA2 l
 refine zAB (zAA rfl (.a rfl rfl .nil) ?_)
 refine zAB ?_
 refine zAB (zAA rfl (.m rfl rfl (.r rfl (zAu rfl rfl underlying24) (.r rfl (zBH rfl rfl rfl) .nil))) ?_)
 refine zAT (t := decide (400 < ((pvE l).length : Int))) rfl (fun h1 => ?_) (fun h1 => ?_)
 ·
  replace h1 := of_decide_eq_true h1
  refine zAB (zAA rfl (.a rfl rfl .nil) ?_)
  refine zAK ?_
  exact ends [_] [] (.cons (.tmp (zAE (zJR (by omega)).symm)) .nil) (.cons (.one .v (.v _)) .nil) (by decide) trivial
 ·
  replace h1 := of_decide_eq_false h1
  refine zAM ?_
  refine zAB ?_
  refine zAB (zAA rfl (.m rfl rfl (.r rfl (zAu rfl rfl underlying24) (.m rfl rfl .nil))) ?_)
  refine zAS ?_
  refine zAo (σ := Nat) (fun i => mk [(0, .p none (.sl false 4 (pvE l))), (8, .p none (.sl false 4 (pvE l))), (9, .vi ((pvE l).length : Int)), (10, .vi (i:Int))] [] []) (fun i => i ≤ l.length ∧ ∀ j e, j < i → l[j]? = some e → zDW l j e = true) (fun i => l.length - i) 0 ⟨Nat.zero_le _, fun _ _ h => absurd h (Nat.not_lt_zero _)⟩ (zAJ ⟨rfl, rfl, rfl, (zAG (by omega)), trivial⟩ trivial trivial rfl) ?_
  rintro i hG
  replace hG : i ≤ l.length ∧ ∀ j e, j < i → l[j]? = some e → zDW l j e = true := hG
  obtain ⟨hi, hG⟩ := hG
  refine zAB (zAA rfl (.r rfl (zAz rfl rfl rfl) .nil) ?_)
  refine zAB ?_
  refine zAT (t := decide ((i:Int) < ((pvE l).length : Int))) rfl (fun h2 => ?_) (fun h2 => ?_)
  ·
   replace h2 := of_decide_eq_true h2
   refine zAM ?_
   refine zAB ?_
   refine zAS ?_
   refine zAB ?_
   obtain ⟨e, he⟩ : ∃ e, l[i]? = some e := ⟨_, List.getElem?_eq_getElem (by (have hL := zA2 l; omega))⟩
   have hlte := (List.getElem?_eq_some_iff.1 he).1
   refine zAA rfl (.m rfl rfl (.r rfl (zA8 rfl rfl rfl underlying24 sizeOf45 rfl (by omega) (zCK he)) (.r rfl (zBh rfl rfl isAgg45 sizeOf45 (nle rfl)) (.run [] [4] rfl (zA7 rfl 4 zEC rfl (by decide) rfl (by decide)) (.a rfl rfl (.r rfl (zAN rfl rfl rfl rfl rfl sizeOf45 rfl (nle rfl)) .nil)))))) ?_
   refine zAB ?_
   refine zAQ (s' := mk [(0, .p none (.sl false 4 (pvE l))), (3, .vi (i:Int)), (4, .ptr 4 0), (8, .p none (.sl false 4 (pvE l))), (9, .vi ((pvE l).length : Int)), (10, .vi (i:Int))] [(4, [.vs e.user, .vi e.seq, .vi e.kind, .vs e.value])] []) ?_ ?_
   · exact zAJ ⟨rfl, rfl, rfl, rfl, rfl, rfl, trivial⟩ ⟨rfl, trivial⟩ trivial rfl
   rcases bfc (!(zBp e)) with h3 | h3
   ·
    have h3' := h3
    replace h3' : (zBp e) = true := zAq h3'
    rcases bfc (decide (0 < (i:Int))) with h4 | h4
    ·
     have h4' := h4
     replace h4' := of_decide_eq_false h4'
     refine zAf zBo rfl (.r rfl (zAW rfl rfl rfl isAgg45 sizeOf45 (nle rfl)) (.run [1600] [] rfl (zAF rfl 1600 (X := []) en58 rfl (.val nod) (.cons (.agg (.cons (.bor .v) (.cons (.bor .v) (.cons (.bor .v) (.cons (.bor .v) .nil))))) .nil) (by decide) all_nil .nil (zE4 e) rfl rfl (nle rfl)) (.r rfl (zAI (zAa (b := zBp e) rfl rfl) (by exact congrArg (fun b => AV.p none (.v (.bool b))) h3)) (.m rfl rfl (.m rfl rfl (.r rfl (zAI (zBH rfl rfl rfl) (by exact congrArg (fun b => AV.p none (.v (.bool b))) h4)) (.m rfl rfl (.not rfl (.not rfl (.not rfl (.not rfl (.not rfl (.not rfl (.not rfl (.not rfl (.not rfl (.not rfl (.r rfl (zAb (t := false) rfl rfl) (.r rfl (zAb (t := false) rfl rfl) .nil))))))))))))))))))) (by kernel_rfl) ?_
     refine zAT (t := false) rfl (fun h => nomatch h) (fun _ => ?_)
     refine zAM ?_
     refine zAQ (s' := mk [(0, .p none (.sl false 4 (pvE l))), (8, .p none (.sl false 4 (pvE l))), (9, .vi ((pvE l).length : Int)), (10, .vi (i:Int)), (19, .vi (i:Int)), (20, .vb false), (21, .vb false), (32, .vb false)] [] []) ?_ ?_
     · exact zAJ ⟨rfl, rfl, rfl, rfl, rfl, rfl, rfl, rfl, trivial⟩ trivial trivial rfl
     refine zAA rfl (.r rfl (zAd rfl rfl rfl (by omega)) (.m rfl rfl .nil)) ?_
     refine nxt (Q := fun _ _ => False) (z := i) (i + 1) ?_ ?_ ?_
     ·
      show (i + 1) ≤ l.length ∧ ∀ j e, j < (i + 1) → l[j]? = some e → zDW l j e = true
      exact ⟨by omega, zIN hG he (zGm h3' (by omega))⟩
     ·
      show l.length - (i + 1) < l.length - i
      omega
     · exact zAJ ⟨rfl, rfl, rfl, (zAG (by omega)), trivial⟩ trivial trivial rfl
    ·
     have h4' := h4
     replace h4' := of_decide_eq_true h4'
     obtain ⟨e2, he2⟩ : ∃ e, l[(i - 1 : Nat)]? = some e := ⟨_, List.getElem?_eq_getElem (by (have hL := zA2 l; omega))⟩
     have hlte2 := (List.getElem?_eq_some_iff.1 he2).1
     refine zAf zBo rfl (.r rfl (zAW rfl rfl rfl isAgg45 sizeOf45 (nle rfl)) (.run [1600] [] rfl (zAF rfl 1600 (X := []) en58 rfl (.val nod) (.cons (.agg (.cons (.bor .v) (.cons (.bor .v) (.cons (.bor .v) (.cons (.bor .v) .nil))))) .nil) (by decide) all_nil .nil (zE4 e) rfl rfl (nle rfl)) (.r rfl (zAI (zAa (b := zBp e) rfl rfl) (by exact congrArg (fun b => AV.p none (.v (.bool b))) h3)) (.m rfl rfl (.m rfl rfl (.r rfl (zAI (zBH rfl rfl rfl) (by exact congrArg (fun b => AV.p none (.v (.bool b))) h4)) (.m rfl rfl (.m rfl rfl (.m rfl rfl (.r rfl (zAI (zBt rfl rfl rfl (by omega)) (((show (AV.p none (.v (.int .i64 ((i:Int) - 1)))) = AV.p none (.v (.int .i64 ((i - 1 : Nat) : Int))) from zAG (by omega))))) (.r rfl (zA8 rfl rfl rfl underlying24 sizeOf45 rfl (by omega) (zCK he2)) (.r rfl (zBQ rfl rfl underlying45 rfl sizeOf43 (by decide)) (.r rfl (zBh rfl rfl isAgg43 sizeOf43 (nle rfl)) (.r rfl (zAC rfl rfl underlying45 rfl sizeOf43 (by decide)) (.r rfl (zAW rfl rfl rfl isAgg43 sizeOf43 (nle rfl)) (.run [3000] [] rfl (zAF rfl 3000 (X := []) en59 rfl (.val nod) (.cons (.agg (.cons (.bor .v) (.cons (.bor .v) (.cons (.bor .v) .nil)))) (.cons (.agg (.cons (.bor .v) (.cons (.bor .v) (.cons (.bor .v) .nil)))) .nil)) (by decide) all_nil .nil (zKO e2 e) rfl rfl (nle rfl)) (.r rfl (zDF rfl rfl rfl) (.r rfl (zAb (t := true) rfl rfl) (.r rfl (zAb (t := false) rfl rfl) .nil))))))))))))))))))) (by kernel_rfl) ?_
     refine zAT (t := decide (0 ≤ (cmpK e2 e))) rfl (fun h5 => ?_) (fun h5 => ?_)
     ·
      replace h5 := of_decide_eq_true h5
      refine zAB ?_
      refine zAQ (s' := mk [] [] []) ?_ ?_
      · exact zAJ trivial trivial trivial rfl
      refine zAA rfl (.a rfl rfl .nil) ?_
      refine zAK ?_
      exact ends [_] [] (.cons (.tmp (zAE (zIZ he (zJB (by omega) he2 h5)).symm)) .nil) (.cons (.one .v (.v _)) .nil) (by decide) trivial
     ·
      replace h5 := of_decide_eq_false h5
      refine zAM ?_
      refine zAQ (s' := mk [(0, .p none (.sl false 4 (pvE l))), (8, .p none (.sl false 4 (pvE l))), (9, .vi ((pvE l).length : Int)), (10, .vi (i:Int)), (19, .vi (i:Int)), (20, .vb true), (21, .vb true), (22, .p none (.sl false 4 (pvE l))), (23, .vi (i:Int)), (24, .vi ((i - 1 : Nat):Int)), (25, .fea none [PV.v (.string e2.user), PV.v (.int .i64 e2.seq), PV.v (.int .i64 e2.kind), PV.v (.string e2.value)]), (26, .fea none [PV.v (.string e2.user), PV.v (.int .i64 e2.seq), PV.v (.int .i64 e2.kind), PV.v (.string e2.value)]), (27, .agg [.vs e2.user, .vi e2.seq, .vi e2.kind]), (28, .ptr 4 0), (29, .agg [.vs e.user, .vi e.seq, .vi e.kind]), (30, .vi (cmpK e2 e)), (31, .vb (decide (0 ≤ (cmpK e2 e)))), (32, .vb (decide (0 ≤ (cmpK e2 e))))] [(4, [.vs e.user, .vi e.seq, .vi e.kind, .vs e.value])] []) ?_ ?_
      · exact zAJ ⟨rfl, rfl, rfl, rfl, rfl, rfl, rfl, rfl, rfl, rfl, rfl, rfl, rfl, rfl, rfl, rfl, rfl, rfl, trivial⟩ ⟨rfl, trivial⟩ trivial rfl
      refine zAA rfl (.r rfl (zAd rfl rfl rfl (by omega)) (.m rfl rfl .nil)) ?_
      refine nxt (Q := fun _ _ => False) (z := i) (i + 1) ?_ ?_ ?_
      ·
       show (i + 1) ≤ l.length ∧ ∀ j e, j < (i + 1) → l[j]? = some e → zDW l j e = true
       exact ⟨by omega, zIN hG he (zHb h3' he2 h5)⟩
      ·
       show l.length - (i + 1) < l.length - i
       omega
      · exact zAJ ⟨rfl, rfl, rfl, (zAG (by omega)), trivial⟩ trivial trivial rfl
   ·
    have h3' := h3
    replace h3' : (zBp e) = false := zAp h3'
    refine zAf zBo rfl (.r rfl (zAW rfl rfl rfl isAgg45 sizeOf45 (nle rfl)) (.run [1600] [] rfl (zAF rfl 1600 (X := []) en58 rfl (.val nod) (.cons (.agg (.cons (.bor .v) (.cons (.bor .v) (.cons (.bor .v) (.cons (.bor .v) .nil))))) .nil) (by decide) all_nil .nil (zE4 e) rfl rfl (nle rfl)) (.r rfl (zAI (zAa (b := zBp e) rfl rfl) (by exact congrArg (fun b => AV.p none (.v (.bool b))) h3)) (.m rfl rfl (.not rfl (.not rfl (.not rfl (.not rfl (.not rfl (.not rfl (.not rfl (.not rfl (.not rfl (.not rfl (.not rfl (.not rfl (.not rfl (.not rfl (.r rfl (zAb (t := true) rfl rfl) .nil))))))))))))))))))) (by kernel_rfl) ?_
    refine zAT (t := true) rfl (fun _ => ?_) (fun h => nomatch h)
    refine zAB ?_
    refine zAQ (s' := mk [] [] []) ?_ ?_
    · exact zAJ trivial trivial trivial rfl
    refine zAA rfl (.a rfl rfl .nil) ?_
    refine zAK ?_
    exact ends [_] [] (.cons (.tmp (zAE (zIZ he (zJD h3')).symm)) .nil) (.cons (.one .v (.v _)) .nil) (by decide) trivial
  ·
   replace h2 := of_decide_eq_false h2
   refine zAn ?_
   refine zAB (zAA rfl (.a rfl rfl .nil) ?_)
   refine zAK ?_
   exact ends [_] [] (.cons (.tmp (zAE (zK5 (by omega) (by omega) hG).symm)) .nil) (.cons (.one .v (.v _)) .nil) (by decide) trivial
theorem zBi (l : List Ent) (hl : l.length ≤ 2000000) : Con Tryz.prog 29 [.one (PV.sl false 4 (pvE l))] [] [.one (.v (.bool (zBJ l)))] := by
 refine zAR func29 rfl rfl rfl rfl ?_
 have hle := zA2 l
 refine zAB (zAA rfl (.a rfl rfl .nil) ?_)
 refine zAB ?_
 refine zAB (zAA rfl (.m rfl rfl (.r rfl (zAu rfl rfl underlying24) (.r rfl (zBH rfl rfl rfl) .nil))) ?_)
 refine zAT (t := decide (400 < ((pvE l).length : Int))) rfl (fun h1 => ?_) (fun h1 => ?_)
 ·
  replace h1 := of_decide_eq_true h1
  refine zAB (zAA rfl (.a rfl rfl .nil) ?_)
  refine zAK ?_
  exact ends [_] [] (.cons (.tmp (zAE (zJR (by omega)).symm)) .nil) (.cons (.one .v (.v _)) .nil) (by decide) trivial
 ·
  replace h1 := of_decide_eq_false h1
  refine zAM ?_
  refine zAB ?_
  refine zAB (zAA rfl (.a rfl rfl .nil) ?_)
  refine zAS ?_
  refine zAo (σ := Nat) (fun i => mk [(0, .p none (.sl false 4 (pvE l))), (3, .vi (i:Int))] [] []) (fun i => i ≤ l.length ∧ ∀ j e, j < i → l[j]? = some e → zDW l j e = true) (fun i => l.length - i) 0 ⟨Nat.zero_le _, fun _ _ h => absurd h (Nat.not_lt_zero _)⟩ (zAJ ⟨rfl, (zAG (by omega)), trivial⟩ trivial trivial rfl) ?_
  rintro i hG
  replace hG : i ≤ l.length ∧ ∀ j e, j < i → l[j]? = some e → zDW l j e = true := hG
  obtain ⟨hi, hG⟩ := hG
  refine zAB ?_
  refine zAB (zAA rfl (.m rfl rfl (.m rfl rfl (.r rfl (zAu rfl rfl underlying24) (.r rfl (zAz rfl rfl rfl) .nil)))) ?_)
  refine zAT (t := decide ((i:Int) < ((pvE l).length : Int))) rfl (fun h2 => ?_) (fun h2 => ?_)
  ·
   replace h2 := of_decide_eq_true h2
   refine zAM ?_
   refine zAB ?_
   refine zAS ?_
   refine zAB ?_
   refine zAQ (s' := mk [(0, .p none (.sl false 4 (pvE l))), (3, .vi (i:Int))] [] []) ?_ ?_
   · exact zAJ ⟨rfl, rfl, trivial⟩ trivial trivial rfl
   obtain ⟨e, he⟩ : ∃ e, l[i]? = some e := ⟨_, List.getElem?_eq_getElem (by (have hL := zA2 l; omega))⟩
   have hlte := (List.getElem?_eq_some_iff.1 he).1
   rcases bfc (!(zBp e)) with h3 | h3
   ·
    have h3' := h3
    replace h3' : (zBp e) = true := zAq h3'
    rcases bfc (decide (0 < (i:Int))) with h4 | h4
    ·
     have h4' := h4
     replace h4' := of_decide_eq_false h4'
     refine zAf zBo rfl (.m rfl rfl (.m rfl rfl (.r rfl (zA8 rfl rfl rfl underlying24 sizeOf45 rfl (by omega) (zCK he)) (.r rfl (zBh rfl rfl isAgg45 sizeOf45 (nle rfl)) (.run [1700] [] rfl (zAF rfl 1700 (X := []) en54 rfl (.val nod) (.cons (.agg (.cons (.bor .v) (.cons (.bor .v) (.cons (.bor .v) (.cons (.bor .v) .nil))))) .nil) (by decide) all_nil .nil (zDR e) rfl rfl (nle rfl)) (.r rfl (zAI (zAa (b := zBp e) rfl rfl) (by exact congrArg (fun b => AV.p none (.v (.bool b))) h3)) (.m rfl rfl (.m rfl rfl (.r rfl (zAI (zBH rfl rfl rfl) (by exact congrArg (fun b => AV.p none (.v (.bool b))) h4)) (.m rfl rfl (.not rfl (.not rfl (.not rfl (.not rfl (.not rfl (.not rfl (.not rfl (.not rfl (.not rfl (.not rfl (.not rfl (.not rfl (.not rfl (.r rfl (zAb (t := false) rfl rfl) (.r rfl (zAb (t := false) rfl rfl) .nil))))))))))))))))))))))))) (by kernel_rfl) ?_
     refine zAT (t := false) rfl (fun h => nomatch h) (fun _ => ?_)
     refine zAM ?_
     refine zAQ (s' := mk [(0, .p none (.sl false 4 (pvE l))), (3, .vi (i:Int)), (20, .vi (i:Int)), (21, .vb false), (22, .vb false), (36, .vb false)] [] []) ?_ ?_
     · exact zAJ ⟨rfl, rfl, rfl, rfl, rfl, rfl, trivial⟩ trivial trivial rfl
     refine zAA rfl (.m rfl rfl (.r rfl (zAd rfl rfl rfl (by omega)) (.a rfl rfl .nil))) ?_
     refine nxt (Q := fun _ _ => False) (z := i) (i + 1) ?_ ?_ ?_
     ·
      show (i + 1) ≤ l.length ∧ ∀ j e, j < (i + 1) → l[j]? = some e → zDW l j e = true
      exact ⟨by omega, zIN hG he (zGm h3' (by omega))⟩
     ·
      show l.length - (i + 1) < l.length - i
      omega
     · exact zAJ ⟨rfl, (zAG (by omega)), trivial⟩ trivial trivial rfl
    ·
     have h4' := h4
     replace h4' := of_decide_eq_true h4'
     obtain ⟨e2, he2⟩ : ∃ e, l[(i - 1 : Nat)]? = some e := ⟨_, List.getElem?_eq_getElem (by (have hL := zA2 l; omega))⟩
     have hlte2 := (List.getElem?_eq_some_iff.1 he2).1
     refine zAf zBo rfl (.m rfl rfl (.m rfl rfl (.r rfl (zA8 rfl rfl rfl underlying24 sizeOf45 rfl (by omega) (zCK he)) (.r rfl (zBh rfl rfl isAgg45 sizeOf45 (nle rfl)) (.run [1700] [] rfl (zAF rfl 1700 (X := []) en54 rfl (.val nod) (.cons (.agg (.cons (.bor .v) (.cons (.bor .v) (.cons (.bor .v) (.cons (.bor .v) .nil))))) .nil) (by decide) all_nil .nil (zDR e) rfl rfl (nle rfl)) (.r rfl (zAI (zAa (b := zBp e) rfl rfl) (by exact congrArg (fun b => AV.p none (.v (.bool b))) h3)) (.m rfl rfl (.m rfl rfl (.r rfl (zAI (zBH rfl rfl rfl) (by exact congrArg (fun b => AV.p none (.v (.bool b))) h4)) (.m rfl rfl (.m rfl rfl (.m rfl rfl (.r rfl (zAI (zBt rfl rfl rfl (by omega)) (((show (AV.p none (.v (.int .i64 ((i:Int) - 1)))) = AV.p none (.v (.int .i64 ((i - 1 : Nat) : Int))) from zAG (by omega))))) (.r rfl (zA8 rfl rfl rfl underlying24 sizeOf45 rfl (by omega) (zCK he2)) (.r rfl (zBQ rfl rfl underlying45 rfl sizeOf43 (by decide)) (.r rfl (zBh rfl rfl isAgg43 sizeOf43 (nle rfl)) (.m rfl rfl (.m rfl rfl (.r rfl (zA8 rfl rfl rfl underlying24 sizeOf45 rfl (by omega) (zCK he)) (.r rfl (zBQ rfl rfl underlying45 rfl sizeOf43 (by decide)) (.r rfl (zBh rfl rfl isAgg43 sizeOf43 (nle rfl)) (.run [3400] [] rfl (zAF rfl 3400 (X := []) en55 rfl (.val nod) (.cons (.agg (.cons (.bor .v) (.cons (.bor .v) (.cons (.bor .v) .nil)))) (.cons (.agg (.cons (.bor .v) (.cons (.bor .v) (.cons (.bor .v) .nil)))) .nil)) (by decide) all_nil .nil (zG6 e2 e) rfl rfl (nle rfl)) (.r rfl (zDF rfl rfl rfl) (.r rfl (zAb (t := true) rfl rfl) (.r rfl (zAb (t := false) rfl rfl) .nil))))))))))))))))))))))))) (by kernel_rfl) ?_
     refine zAT (t := decide (0 ≤ (kcmp e2 e))) rfl (fun h5 => ?_) (fun h5 => ?_)
     ·
      replace h5 := of_decide_eq_true h5
      refine zAB ?_
      refine zAQ (s' := mk [] [] []) ?_ ?_
      · exact zAJ trivial trivial trivial rfl
      refine zAA rfl (.a rfl rfl .nil) ?_
      refine zAK ?_
      exact ends [_] [] (.cons (.tmp (zAE (zIZ he (zJB (by omega) he2 (by rw [← kc_ok hG (by omega) he2 h3']; exact h5))).symm)) .nil) (.cons (.one .v (.v _)) .nil) (by decide) trivial
     ·
      replace h5 := of_decide_eq_false h5
      refine zAM ?_
      refine zAQ (s' := mk [(0, .p none (.sl false 4 (pvE l))), (3, .vi (i:Int)), (20, .vi (i:Int)), (21, .vb true), (22, .vb true), (23, .p none (.sl false 4 (pvE l))), (24, .vi (i:Int)), (25, .vi ((i - 1 : Nat):Int)), (26, .fea none [PV.v (.string e2.user), PV.v (.int .i64 e2.seq), PV.v (.int .i64 e2.kind), PV.v (.string e2.value)]), (27, .fea none [PV.v (.string e2.user), PV.v (.int .i64 e2.seq), PV.v (.int .i64 e2.kind), PV.v (.string e2.value)]), (28, .agg [.vs e2.user, .vi e2.seq, .vi e2.kind]), (29, .p none (.sl false 4 (pvE l))), (30, .vi (i:Int)), (31, .fea none [PV.v (.string e.user), PV.v (.int .i64 e.seq), PV.v (.int .i64 e.kind), PV.v (.string e.value)]), (32, .fea none [PV.v (.string e.user), PV.v (.int .i64 e.seq), PV.v (.int .i64 e.kind), PV.v (.string e.value)]), (33, .agg [.vs e.user, .vi e.seq, .vi e.kind]), (34, .vi (kcmp e2 e)), (35, .vb (decide (0 ≤ (kcmp e2 e)))), (36, .vb (decide (0 ≤ (kcmp e2 e))))] [] []) ?_ ?_
      · exact zAJ ⟨rfl, rfl, rfl, rfl, rfl, rfl, rfl, rfl, rfl, rfl, rfl, rfl, rfl, rfl, rfl, rfl, rfl, rfl, rfl, trivial⟩ trivial trivial rfl
      refine zAA rfl (.m rfl rfl (.r rfl (zAd rfl rfl rfl (by omega)) (.a rfl rfl .nil))) ?_
      refine nxt (Q := fun _ _ => False) (z := i) (i + 1) ?_ ?_ ?_
      ·
       show (i + 1) ≤ l.length ∧ ∀ j e, j < (i + 1) → l[j]? = some e → zDW l j e = true
       exact ⟨by omega, zIN hG he (zHb h3' he2 (by rw [← kc_ok hG (by omega) he2 h3']; exact h5))⟩
      ·
       show l.length - (i + 1) < l.length - i
       omega
      · exact zAJ ⟨rfl, (zAG (by omega)), trivial⟩ trivial trivial rfl
   ·
    have h3' := h3
    replace h3' : (zBp e) = false := zAp h3'
    refine zAf zBo rfl (.m rfl rfl (.m rfl rfl (.r rfl (zA8 rfl rfl rfl underlying24 sizeOf45 rfl (by omega) (zCK he)) (.r rfl (zBh rfl rfl isAgg45 sizeOf45 (nle rfl)) (.run [1700] [] rfl (zAF rfl 1700 (X := []) en54 rfl (.val nod) (.cons (.agg (.cons (.bor .v) (.cons (.bor .v) (.cons (.bor .v) (.cons (.bor .v) .nil))))) .nil) (by decide) all_nil .nil (zDR e) rfl rfl (nle rfl)) (.r rfl (zAI (zAa (b := zBp e) rfl rfl) (by exact congrArg (fun b => AV.p none (.v (.bool b))) h3)) (.m rfl rfl (.not rfl (.not rfl (.not rfl (.not rfl (.not rfl (.not rfl (.not rfl (.not rfl (.not rfl (.not rfl (.not rfl (.not rfl (.not rfl (.not rfl (.not rfl (.not rfl (.not rfl (.r rfl (zAb (t := true) rfl rfl) .nil))))))))))))))))))))))))) (by kernel_rfl) ?_
    refine zAT (t := true) rfl (fun _ => ?_) (fun h => nomatch h)
    refine zAB ?_
    refine zAQ (s' := mk [] [] []) ?_ ?_
    · exact zAJ trivial trivial trivial rfl
    refine zAA rfl (.a rfl rfl .nil) ?_
    refine zAK ?_
    exact ends [_] [] (.cons (.tmp (zAE (zIZ he (zJD h3')).symm)) .nil) (.cons (.one .v (.v _)) .nil) (by decide) trivial
  ·
   replace h2 := of_decide_eq_false h2
   refine zAn ?_
   refine zAB (zAA rfl (.a rfl rfl .nil) ?_)
   refine zAK ?_
   exact ends [_] [] (.cons (.tmp (zAE (zK5 (by omega) (by omega) hG).symm)) .nil) (.cons (.one .v (.v _)) .nil) (by decide) trivial
end Go.Rl
namespace Go.Rl
open Go.Proofs
end Go.Rl
namespace Go.Rl
open Go.Proofs
end Go.Rl
namespace Go.Rl
open Go.Proofs
end Go.Rl
namespace Go.Rl
open Go.Proofs
end Go.Rl
namespace Go.Rl
open Go.Proofs
def wE (e : Ent) : Nat := e.user.size + e.value.size
end Go.Rl
namespace Go.Rl
open Go.Proofs
def markE (k i : Nat) : Ent := ⟨markT (k + 4 * i), ((k + 4 * i : Nat) : Int) + 1, ((k + 4 * i : Nat) : Int) + 1 + 1, markT (k + 4 * i + 3)⟩
end Go.Rl
namespace Go.Rl
open Go.Proofs Go.Proofs.Tryz
set_option maxRecDepth 1000000
set_option maxHeartbeats 2000000
theorem inf9 : (Tryz.prog.info? 9).map (fun i => (i.zero, i.size, i.bytes)) = some (some (.string ⟨#[]⟩), 1, 16) := by kernel_rfl
theorem zJT (l : List ByteArray) (hl : l.length ≤ 2000000) : Con Tryz.prog 107 [.one (.sl true 1 (pvT l))] [none] [.one (.sl true 1 (pvT (zCM l)))] := by
 refine zAR func107 rfl rfl rfl rfl ?_
 have hle := zBD l
 refine zAB (zAA rfl (.a rfl rfl .nil) ?_)
 refine zAB ?_
 refine zAB (zAA rfl (.m rfl rfl (.r rfl (zB9 rfl rfl underlying61) (.r rfl (zAz rfl rfl rfl) .nil))) ?_)
 refine zAT (t := decide (((pvT l).length : Int) < 2)) rfl (fun h1 => ?_) (fun h1 => ?_)
 ·
  replace h1 := of_decide_eq_true h1
  refine zAB ?_
  have hs : zCM l = l := zNF (by omega)
  rw [hs]
  refine zAA rfl (.m rfl rfl (.a rfl rfl .nil)) ?_
  refine zAK ?_
  exact ends [_] [100000] (.cons (.tmp rfl) .nil) (.cons (.one (.row (len := (pvT l).length) (xs := pvT l) rfl rfl) (.sl _ _ (FlatP.clean (zD5 _)))) .nil) (by decide) ⟨trivial, trivial⟩
 ·
  replace h1 := of_decide_eq_false h1
  refine zAM ?_
  refine zAB ?_
  refine zAB (zAA rfl (.a rfl rfl .nil) ?_)
  refine zAS ?_
  refine zAo (σ := Nat) (fun k => mk [(0, .sl 100000 0 ((pvT l).length)), (3, .vi (k:Int))] [] [(100000, 1, pvT l)]) (fun k => 1 ≤ k ∧ k ≤ l.length ∧ zAV l k = l.take k) (fun k => l.length - k) 1 ⟨Nat.le_refl _, by omega, cpt_one (by omega)⟩ (zAJ ⟨rfl, (zAG (by omega)), trivial⟩ trivial ⟨rfl, trivial⟩ rfl) ?_
  rintro k hG
  replace hG : 1 ≤ k ∧ k ≤ l.length ∧ zAV l k = l.take k := hG
  obtain ⟨h1k, hkl, hC⟩ := hG
  refine zAB ?_
  refine zAB (zAA rfl (.m rfl rfl (.m rfl rfl (.r rfl (zB9 rfl rfl underlying61) (.r rfl (zAz rfl rfl rfl) .nil)))) ?_)
  refine zAT (t := decide ((k:Int) < ((pvT l).length : Int))) rfl (fun h2 => ?_) (fun h2 => ?_)
  ·
   replace h2 := of_decide_eq_true h2
   refine zAM ?_
   refine zAB ?_
   refine zAS ?_
   refine zAB ?_
   obtain ⟨e, he⟩ : ∃ e, l[k]? = some e := ⟨_, List.getElem?_eq_getElem (by (have hL := zBD l; omega))⟩
   have hlte := (List.getElem?_eq_some_iff.1 he).1
   obtain ⟨e2, he2⟩ : ∃ e, l[k - 1]? = some e := ⟨_, List.getElem?_eq_getElem (by (have hL := zBD l; omega))⟩
   have hlte2 := (List.getElem?_eq_some_iff.1 he2).1
   refine zAf zBo rfl (.m rfl rfl (.m rfl rfl (.r rfl (zA0 k rfl rfl rfl rfl underlying61 sizeOf9 rfl rfl (by omega)) (.r rfl (zA3 rfl rfl rfl (zCl he) isAgg9 rfl) (.m rfl rfl (.m rfl rfl (.r rfl (zAI (zBt rfl rfl rfl (by omega)) ((show (AV.p none (.v (.int .i64 ((k:Int) - 1)))) = AV.p none (.v (.int .i64 ((k - 1 : Nat) : Int))) from zAG (by omega)))) (.r rfl (zA0 (k - 1) rfl rfl rfl rfl underlying61 sizeOf9 rfl rfl (by omega)) (.r rfl (zA3 rfl rfl rfl (zCl he2) isAgg9 rfl) (.r rfl (zD2 rfl rfl rfl) .nil)))))))))) (by kernel_rfl) ?_
   refine zAT (t := decide (e = e2)) rfl (fun h3 => ?_) (fun h3 => ?_)
   ·
    replace h3 := of_decide_eq_true h3
    refine zAB ?_
    have hd0 : zAV l (k + 1) = zAV l k := zDB h1k he2 he h3
    refine zAQ (s' := mk [(0, .sl 100000 0 ((pvT l).length)), (3, .vi (k:Int))] [] [(100000, 1, pvT l)]) ?_ ?_
    · exact zAJ ⟨rfl, rfl, trivial⟩ trivial ⟨rfl, trivial⟩ rfl
    refine zAA rfl (.m rfl rfl (.m rfl rfl (.r rfl (zEq (l := k) (h := (pvT l).length) rfl rfl rfl underlying61 sizeOf9 (.at_ rfl rfl) .no (by omega) (Nat.le_refl _) rfl) (.a rfl rfl .nil)))) ?_
    refine zAB ?_
    refine zAB (zAA rfl (.a rfl rfl .nil) ?_)
    refine zAS ?_
    refine zAo (σ := Nat) (fun q => mk [(0, .sl 100000 0 ((pvT l).length)), (3, .vi ((zAV l (k + q)).length : Int)), (4, .sl 100000 k (((pvT l).length) - k)), (5, .vi (q:Int))] [] [(100000, 1, pvT (zAV l (k + q) ++ l.drop (zAV l (k + q)).length))]) (fun q => 1 ≤ q ∧ k + q ≤ l.length ∧ (zAV l (k + q)).length + 1 ≤ k + q) (fun q => l.length - q) 1 ⟨Nat.le_refl _, by omega, by rw [hd0, hC, List.length_take]; omega⟩ (zAJ ⟨rfl, (zAG (by rw [hd0, hC, List.length_take]; omega)), rfl, (zAG (by omega)), trivial⟩ trivial ⟨(congrArg (fun x => some (1, x)) (by rw [hd0, zNE hC hkl])), trivial⟩ rfl) ?_
    rintro q hG
    replace hG : 1 ≤ q ∧ k + q ≤ l.length ∧ (zAV l (k + q)).length + 1 ≤ k + q := hG
    obtain ⟨h1q, hql, hcq⟩ := hG
    have hlr := zBD (zAV l (k + q) ++ l.drop (zAV l (k + q)).length)
    have hlc : (zAV l (k + q) ++ l.drop (zAV l (k + q)).length).length = l.length := by rw [List.length_append, List.length_drop]; omega
    refine zAB ?_
    refine zAB (zAA rfl (.m rfl rfl (.m rfl rfl (.r rfl (zB9 rfl rfl underlying61) (.r rfl (zAz rfl rfl rfl) .nil)))) ?_)
    refine zAT (t := decide ((q:Int) < ((((pvT l).length) - k : Nat) : Int))) rfl (fun h4 => ?_) (fun h4 => ?_)
    ·
     replace h4 := of_decide_eq_true h4
     refine zAM ?_
     refine zAB ?_
     refine zAS ?_
     refine zAB ?_
     obtain ⟨y, hy⟩ : ∃ y, l[k + q]? = some y := ⟨_, List.getElem?_eq_getElem (by omega)⟩
     obtain ⟨x, hx⟩ : ∃ x, l[k + (q - 1)]? = some x := ⟨_, List.getElem?_eq_getElem (by omega)⟩
     have hx2 : l[k + q - 1]? = some x := by rw [show k + q - 1 = k + (q - 1) by omega]; exact hx
     obtain ⟨w, hw⟩ : ∃ w, l[(zAV l (k + q)).length]? = some w := ⟨_, List.getElem?_eq_getElem (by omega)⟩
     refine zAf zBo rfl (.m rfl rfl (.m rfl rfl (.r rfl (zEp q rfl rfl rfl rfl underlying61 sizeOf9 rfl rfl (by omega)) (.r rfl (zA3 rfl rfl rfl (by exact zCl (by rw [zIc (by omega)]; exact hy)) isAgg9 rfl) (.m rfl rfl (.m rfl rfl (.r rfl (zAI (zBt rfl rfl rfl (by omega)) ((show (AV.p none (.v (.int .i64 ((q:Int) - 1)))) = AV.p none (.v (.int .i64 ((q - 1 : Nat) : Int))) from zAG (by omega)))) (.r rfl (zEp (q - 1) rfl rfl rfl rfl underlying61 sizeOf9 rfl rfl (by omega)) (.r rfl (zA3 rfl rfl rfl (by exact zCl (by rw [zIc (by omega)]; exact hx)) isAgg9 rfl) (.r rfl (zCv rfl rfl rfl) .nil)))))))))) (by kernel_rfl) ?_
     refine zAT (t := (!(decide (y = x)))) rfl (fun h5 => ?_) (fun h5 => ?_)
     ·
      replace h5 : ¬ (y = x) := of_decide_eq_false (zAp h5)
      refine zAB ?_
      refine zAQ (s' := mk [(0, .sl 100000 0 ((pvT l).length)), (3, .vi ((zAV l (k + q)).length : Int)), (4, .sl 100000 k (((pvT l).length) - k)), (5, .vi (q:Int))] [] [(100000, 1, pvT (zAV l (k + q) ++ l.drop (zAV l (k + q)).length))]) ?_ ?_
      · exact zAJ ⟨rfl, rfl, rfl, rfl, trivial⟩ trivial ⟨rfl, trivial⟩ rfl
      refine zAA rfl (.m rfl rfl (.m rfl rfl (.m rfl rfl (.m rfl rfl (.r rfl (zEp q rfl rfl rfl rfl underlying61 sizeOf9 rfl rfl (by omega)) (.r rfl (zA3 rfl rfl rfl (by exact zCl (by rw [zIc (by omega)]; exact hy)) isAgg9 rfl) (.r rfl (zA0 ((zAV l (k + q)).length) rfl rfl rfl rfl underlying61 sizeOf9 rfl rfl (by omega)) (.r rfl (zBC rfl rfl rfl (FlatP.nf (zD5 _)) (by exact zCl (by rw [zIc (Nat.le_refl _)]; exact hw)) rfl rfl (.cons .v .nil) sizeOf9 rfl (nle rfl)) .nil)))))))) ?_
      refine zAA rfl (.m rfl rfl (.r rfl (zAd rfl rfl rfl (by omega)) (.a rfl rfl .nil))) ?_
      refine zAA rfl (.m rfl rfl (.r rfl (zAd rfl rfl rfl (by omega)) (.a rfl rfl .nil))) ?_
      refine nxt (Q := fun _ _ => False) (z := q) (q + 1) ?_ ?_ ?_
      ·
       show 1 ≤ (q + 1) ∧ k + (q + 1) ≤ l.length ∧ (zAV l (k + (q + 1))).length + 1 ≤ k + (q + 1)
       exact ⟨by omega, by omega, by rw [show k + (q + 1) = k + q + 1 from rfl, zDh hx2 hy h5]; simp only [List.length_append, List.length_cons, List.length_nil]; omega⟩
      ·
       show l.length - (q + 1) < l.length - q
       omega
      · exact zAJ ⟨rfl, (zAG (by rw [show k + (q + 1) = k + q + 1 from rfl, zDh hx2 hy h5]; simp)), rfl, (zAG (by omega)), trivial⟩ trivial ⟨(congrArg (fun x => some (1, x)) (by rw [show k + (q + 1) = k + q + 1 from rfl, zDh hx2 hy h5, ← cpt_set (by omega)]; simp [pvT, List.map_set, over])), trivial⟩ rfl
     ·
      replace h5 : y = x := of_decide_eq_true (zAq h5)
      refine zAM ?_
      refine zAQ (s' := mk [(0, .sl 100000 0 ((pvT l).length)), (3, .vi ((zAV l (k + q)).length : Int)), (4, .sl 100000 k (((pvT l).length) - k)), (5, .vi (q:Int))] [] [(100000, 1, pvT (zAV l (k + q) ++ l.drop (zAV l (k + q)).length))]) ?_ ?_
      · exact zAJ ⟨rfl, rfl, rfl, rfl, trivial⟩ trivial ⟨rfl, trivial⟩ rfl
      refine zAA rfl (.m rfl rfl (.r rfl (zAd rfl rfl rfl (by omega)) (.a rfl rfl .nil))) ?_
      refine nxt (Q := fun _ _ => False) (z := q) (q + 1) ?_ ?_ ?_
      ·
       show 1 ≤ (q + 1) ∧ k + (q + 1) ≤ l.length ∧ (zAV l (k + (q + 1))).length + 1 ≤ k + (q + 1)
       exact ⟨by omega, by omega, by rw [show k + (q + 1) = k + q + 1 from rfl, zDB (by omega) hx2 hy h5]; omega⟩
      ·
       show l.length - (q + 1) < l.length - q
       omega
      · exact zAJ ⟨rfl, (zAG (by rw [show k + (q + 1) = k + q + 1 from rfl, zDB (by omega) hx2 hy h5])), rfl, (zAG (by omega)), trivial⟩ trivial ⟨(congrArg (fun x => some (1, x)) (by rw [show k + (q + 1) = k + q + 1 from rfl, zDB (by omega) hx2 hy h5])), trivial⟩ rfl
    ·
     replace h4 := of_decide_eq_false h4
     refine zAn ?_
     refine zAB ?_
     have hlr0 := zBD (zAV l (k + q) ++ l.drop (zAV l (k + q)).length)
     have hlc0 : (zAV l (k + q) ++ l.drop (zAV l (k + q)).length).length = l.length := by rw [List.length_append, List.length_drop]; omega
     have hkq : k + q = l.length := (by omega)
     refine zAA rfl (.m rfl rfl (.m rfl rfl (.r rfl (zEq (l := (zAV l (k + q)).length) (h := (pvT l).length) rfl rfl rfl underlying61 sizeOf9 (.at_ rfl rfl) .no (by omega) (Nat.le_refl _) rfl) (.r rfl (zNZ (lo := (zAV l (k + q)).length) (len := (pvT l).length - (zAV l (k + q)).length) rfl rfl rfl (zD5 _) underlying61 inf9 rfl rfl (by rw [hlr0, hlc0]; omega)) .nil)))) ?_
     refine zAB ?_
     have hs : zCM l = zAV l (k + q) := by rw [zCM, hkq]
     rw [hs]
     refine zAA rfl (.m rfl rfl (.m rfl rfl (.r rfl (zEq (l := 0) (h := (zAV l (k + q)).length) rfl rfl rfl underlying61 sizeOf9 .no (.at_ rfl rfl) (Nat.zero_le _) (by omega) rfl) (.a rfl rfl .nil)))) ?_
     refine zAK ?_
     exact ends [_] [100000] (.cons (.tmp rfl) .nil) (.cons (.one (gv_eq (.pre (len := ((zAV l (k + q)).length) - 0) (xs := (pvT (zAV l (k + q) ++ l.drop (zAV l (k + q)).length)).take (zAV l (k + q)).length ++ List.replicate ((pvT l).length - (zAV l (k + q)).length) [PV.v (.string ⟨#[]⟩)]) rfl (by rw [List.length_append, List.length_take, hlr0, List.length_replicate]; omega) zOT) (congrArg (PV.sl true 1) (cpt_row rfl))) (.sl _ _ (FlatP.clean (zD5 _)))) .nil) (by decide) ⟨trivial, trivial⟩
   ·
    replace h3 := of_decide_eq_false h3
    refine zAM ?_
    refine zAQ (s' := mk [(0, .sl 100000 0 ((pvT l).length)), (3, .vi (k:Int))] [] [(100000, 1, pvT l)]) ?_ ?_
    · exact zAJ ⟨rfl, rfl, trivial⟩ trivial ⟨rfl, trivial⟩ rfl
    refine zAA rfl (.m rfl rfl (.r rfl (zAd rfl rfl rfl (by omega)) (.a rfl rfl .nil))) ?_
    refine nxt (Q := fun _ _ => False) (z := k) (k + 1) ?_ ?_ ?_
    ·
     show 1 ≤ (k + 1) ∧ (k + 1) ≤ l.length ∧ zAV l (k + 1) = l.take (k + 1)
     exact ⟨by omega, by omega, zOS hC he2 he h3⟩
    ·
     show l.length - (k + 1) < l.length - k
     omega
    · exact zAJ ⟨rfl, (zAG (by omega)), trivial⟩ trivial ⟨rfl, trivial⟩ rfl
  ·
   replace h2 := of_decide_eq_false h2
   refine zAn ?_
   refine zAB ?_
   have hkk : k = l.length := (by omega)
   have hs : zCM l = l := by rw [zCM, ← hkk, hC, List.take_of_length_le (by omega)]
   rw [hs]
   refine zAA rfl (.m rfl rfl (.a rfl rfl .nil)) ?_
   refine zAK ?_
   exact ends [_] [100000] (.cons (.tmp rfl) .nil) (.cons (.one (.row (len := (pvT l).length) (xs := pvT l) rfl rfl) (.sl _ _ (FlatP.clean (zD5 _)))) .nil) (by decide) ⟨trivial, trivial⟩
end Go.Rl
namespace Go.Rl
open Go.Proofs Go.Proofs.Tryz
set_option maxRecDepth 1000000
set_option maxHeartbeats 2000000
theorem en107 : En Tryz.prog 107 := zAl func107 (by decide) rfl
def usrN (l : List Ent) (i : Nat) : List ByteArray := (l.take i).map fun e => e.user
theorem zNV {l : List Ent} {i : Nat} (h : i ≤ l.length) : (usrN l i).length = i := by simp [usrN]; omega
theorem zNW {l : List Ent} {i : Nat} (h : l.length ≤ i) : zCM (usrN l i) = zAm l := by rw [usrN, List.take_of_length_le h]; rfl
theorem zLr (l : List Ent) (hl : l.length ≤ 2000000) : Con Tryz.prog 66 [.one (PV.sl false 4 (pvE l))] [] [.one (.sl true 1 (pvT (zAm l)))] := by
 refine zAR func66 rfl rfl rfl rfl ?_
 have hle := zA2 l
 refine zAB (zAA rfl (.a rfl rfl .nil) ?_)
 refine zAB (zAA rfl (.run [600] [] rfl (zAy rfl 600 underlying61 inf9 (nle rfl) (by decide) rfl rfl rfl .nil (by decide) rfl (by decide) rfl (by decide) rfl) (.a rfl rfl .nil)) ?_)
 refine zAB ?_
 refine zAB (zAA rfl (.m rfl rfl (.r rfl (zAu rfl rfl underlying24) (.m rfl rfl .nil))) ?_)
 refine zAS ?_
 refine zAQ (zCc 600 1 rfl rfl (by decide)) ?_
 refine zAo (σ := Nat) (fun i => mk [(3, .sl 1 0 ((pvT (usrN l i)).length)), (7, .p none (.sl false 4 (pvE l))), (8, .vi ((pvE l).length : Int)), (9, .vi (i:Int))] [] [(1, 1, pvT (usrN l i))]) (fun i => i ≤ l.length) (fun i => l.length - i) 0 (by simp) (zAJ ⟨rfl, rfl, rfl, (zAG (by omega)), trivial⟩ trivial ⟨(congrArg (fun x => some (1, x)) (by rfl)), trivial⟩ rfl) ?_
 rintro i hG
 replace hG : i ≤ l.length := hG
 have hlu := zBD (usrN l i)
 have hun := zNV hG
 refine zAB (zAA rfl (.r rfl (zAz rfl rfl rfl) .nil) ?_)
 refine zAB ?_
 refine zAT (t := decide ((i:Int) < ((pvE l).length : Int))) rfl (fun h1 => ?_) (fun h1 => ?_)
 ·
  replace h1 := of_decide_eq_true h1
  refine zAM ?_
  refine zAB ?_
  refine zAS ?_
  refine zAB ?_
  obtain ⟨e, he⟩ : ∃ e, l[i]? = some e := ⟨_, List.getElem?_eq_getElem (by (have hL := zA2 l; omega))⟩
  have hlte := (List.getElem?_eq_some_iff.1 he).1
  refine zAA rfl (.r rfl (zA8 rfl rfl rfl underlying24 sizeOf45 rfl (by omega) (zCK he)) (.r rfl (zBh rfl rfl isAgg45 sizeOf45 (nle rfl)) (.run [] [5] rfl (zA7 rfl 5 zEC rfl (by decide) rfl (by decide)) (.r rfl (zAN rfl rfl rfl rfl rfl sizeOf45 rfl (nle rfl)) .nil)))) ?_
  refine zAA rfl (.m rfl rfl (.r rfl (zAC rfl rfl underlying45 rfl sizeOf43 (by decide)) (.r rfl (zAC rfl rfl underlying43 rfl sizeOf9 (by decide)) (.r rfl (zAD rfl rfl rfl isAgg9 rfl) (.run [1700] [] rfl (zAy rfl 1700 underlying61 inf9 (nle rfl) (by decide) rfl rfl rfl (.cons .v .nil) (by decide) rfl (by decide) rfl (by decide) rfl) (.run [1] [] rfl (zB2 rfl 1 (ib := 1) (len := ((pvT (usrN l i)) ++ [[PV.v (.string e.user)]]).length) rfl rfl (.row (len := (pvT (usrN l i)).length) (xs := pvT (usrN l i)) rfl rfl (.inl rfl)) (.give (len := 1) (xs := [[PV.v (.string e.user)]]) rfl rfl) underlying61 (sk underlying61 rfl) inf9 rfl (by decide) (by decide) (by decide) List.length_append (by simp only [maxLen, List.length_append, List.length_cons, List.length_nil, zBD]; omega) (by simp only [maxLen, List.length_append, List.length_cons, List.length_nil, zBD]; omega)) (.a rfl rfl .nil))))))) ?_
  have hr2 : (pvT (usrN l i)) ++ [[PV.v (.string e.user)]] = pvT (usrN l (i + 1)) := by simp [pvT, usrN, List.take_add_one, he]
  have hp3 : (.sl 1 0 (((pvT (usrN l i)) ++ [[PV.v (.string e.user)]]).length) : AV) = .sl 1 0 ((pvT (usrN l (i + 1))).length) := by simp only [hr2]
  refine zAQ (s' := mk [(3, .sl 1 0 ((pvT (usrN l (i + 1))).length)), (7, .p none (.sl false 4 (pvE l))), (8, .vi ((pvE l).length : Int)), (9, .vi (i:Int))] [] [(1, 1, pvT (usrN l (i + 1)))]) ?_ ?_
  · exact zAJ ⟨hp3, rfl, rfl, rfl, trivial⟩ trivial ⟨(congrArg (fun x => some (1, x)) hr2), trivial⟩ rfl
  refine zAA rfl (.r rfl (zAd rfl rfl rfl (by omega)) (.m rfl rfl .nil)) ?_
  refine nxt (Q := fun _ _ => False) (z := i) (i + 1) ?_ ?_ ?_
  ·
   show (i + 1) ≤ l.length
   omega
  ·
   show l.length - (i + 1) < l.length - i
   omega
  · exact zAJ ⟨rfl, rfl, rfl, (zAG (by omega)), trivial⟩ trivial ⟨rfl, trivial⟩ rfl
 ·
  replace h1 := of_decide_eq_false h1
  refine zAn ?_
  refine zAB ?_
  rw [← zNW (i := i) (by omega)]
  refine zAA rfl (.m rfl rfl (.run [1, 2100] [] rfl (zAF rfl 2100 (X := [1]) en107 rfl (.val nod) (.cons (.one (.own (len := (pvT (usrN l i)).length) (xs := pvT (usrN l i)) rfl rfl)) .nil) (by decide) (all_cons rfl all_nil) (.gone .nil) (zJT (usrN l i) (by omega)) rfl rfl (nle rfl)) (.a rfl rfl .nil))) ?_
  refine zAK ?_
  exact ends [_] [2100] (.cons (.tmp rfl) .nil) (.cons (.one (.row (len := (pvT (zCM (usrN l i))).length) (xs := pvT (zCM (usrN l i))) rfl rfl) (.sl _ _ (FlatP.clean (zD5 _)))) .nil) (by decide) trivial
end Go.Rl
namespace Go.Rl
def pvBo (l : List Bool) : List (List PV) := l.map fun b => [.v (.bool b)]
def setK (n : List Bool) (j : Int) : List Bool := if 0 ≤ j then n.set j.toNat true else n
def markPs (l : List Ent) (u : ByteArray) (ps : List Int) (n : List Bool) : List Bool := ps.foldl (fun n s => setK n (idxF (asOf u s) l)) n
def markUs (l : List Ent) (ps : List Int) (us : List ByteArray) (n : List Bool) : List Bool := us.foldl (fun n u => markPs l u ps n) n
def marksF (l : List Ent) (ps : List Int) : List Bool := markUs l ps (zAm l) (List.replicate l.length false)
end Go.Rl
namespace Go.Rl
open Go.Proofs
end Go.Rl
namespace Go.Rl
open Go.Proofs
end Go.Rl
namespace Go.Rl
open Go.Proofs
theorem zMQ : reachBytes ≤ 9223372036854775807 := by decide
end Go.Rl

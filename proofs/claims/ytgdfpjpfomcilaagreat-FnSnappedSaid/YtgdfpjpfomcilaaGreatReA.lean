/- Promises of functions, proved by walks over their operations; no conditions beyond those that each theorem states. -/
import Derived.Test.YtgdfpjpfomcilaaGreatRlT
import Derived.Test.YtgdfpjpfomcilaaGreatProg
set_option linter.unusedSimpArgs false
set_option linter.unusedVariables false
namespace Go.Rl
open Go.Proofs Go.Proofs.Tryz
set_option maxRecDepth 1000000
set_option maxHeartbeats 2000000
theorem inf3 : (Tryz.prog.info? 3).map (fun i => (i.zero, i.size, i.bytes)) = some (some (.int .i64 0), 1, 8) := by kernel_rfl
theorem en106 : En Tryz.prog 106 := zAm func106 (by decide) rfl
theorem en21 : En Tryz.prog 21 := zAm func21 (by decide) rfl
theorem en109 : En Tryz.prog 109 := zAm func109 (by decide) rfl
theorem en29 : En Tryz.prog 29 := zAm func29 (by decide) rfl
theorem en107 : En Tryz.prog 107 := zAm func107 (by decide) rfl
theorem en108 : En Tryz.prog 108 := zAm func108 (by decide) rfl
theorem en93 : En Tryz.prog 93 := zAm func93 (by decide) rfl
theorem en94 : En Tryz.prog 94 := zAm func94 (by decide) rfl
theorem en92 : En Tryz.prog 92 := zAm func92 (by decide) rfl
theorem en91 : En Tryz.prog 91 := zAm func91 (by decide) rfl
theorem en96 : En Tryz.prog 96 := zAm func96 (by decide) rfl
theorem zBL : Tryz.prog.follows .mixedOrders = true := by kernel_rfl
theorem zBf (n low high : Int) : Con Tryz.prog 21 [.one (PV.v (.int .i64 n)), .one (PV.v (.int .i64 low)), .one (PV.v (.int .i64 high))] [] [.one (.v (.bool (zAs n low high)))] := by
 refine zAQ func21 rfl rfl rfl rfl ?_
 refine zAB (zAA rfl (.a rfl rfl .nil) ?_)
 refine zAB ?_
 rcases bfc (decide (low ≤ n)) with h1 | h1
 ·
  have h1' := h1
  replace h1' := of_decide_eq_false h1'
  refine zAA rfl (.m rfl rfl (.m rfl rfl (.r rfl (zAW (zB5 rfl rfl rfl) (by exact congrArg (fun b => AV.p none (.v (.bool b))) h1)) (.m rfl rfl (.not rfl (.not rfl (.not rfl (.r rfl (zAU (t := false) rfl rfl) (.a rfl rfl .nil))))))))) ?_
  refine zAO ?_
  exact ends [_] [] (.cons (.tmp (zAN (by simp [zAs, h1']))) .nil) (.cons (.one .v (.v _)) .nil) (by decide) trivial
 ·
  have h1' := h1
  replace h1' := of_decide_eq_true h1'
  refine zAA rfl (.m rfl rfl (.m rfl rfl (.r rfl (zAW (zB5 rfl rfl rfl) (by exact congrArg (fun b => AV.p none (.v (.bool b))) h1)) (.m rfl rfl (.m rfl rfl (.m rfl rfl (.r rfl (zB5 rfl rfl rfl) (.r rfl (zAU (t := true) rfl rfl) (.a rfl rfl .nil))))))))) ?_
  refine zAO ?_
  exact ends [_] [] (.cons (.tmp (zAN (by simp [zAs, h1']))) .nil) (.cons (.one .v (.v _)) .nil) (by decide) trivial
theorem zCm (n low high : Int) : Con Tryz.prog 29 [.one (PV.v (.int .i64 n)), .one (PV.v (.int .i64 low)), .one (PV.v (.int .i64 high))] [] [.one (.v (.bool (zAs n low high)))] := by
 refine zAQ func29 rfl rfl rfl rfl ?_
 refine zAB (zAA rfl (.a rfl rfl .nil) ?_)
 refine zAB ?_
 rcases bfc (decide (low ≤ n)) with h1 | h1
 ·
  have h1' := h1
  replace h1' := of_decide_eq_false h1'
  refine zAA rfl (.m rfl rfl (.m rfl rfl (.r rfl (zAW (zCQ rfl rfl rfl) (by exact congrArg (fun b => AV.p none (.v (.bool b))) h1)) (.m rfl rfl (.not rfl (.not rfl (.not rfl (.r rfl (zAU (t := false) rfl rfl) (.a rfl rfl .nil))))))))) ?_
  refine zAO ?_
  exact ends [_] [] (.cons (.tmp (zAN (by simp [zAs, h1']))) .nil) (.cons (.one .v (.v _)) .nil) (by decide) trivial
 ·
  have h1' := h1
  replace h1' := of_decide_eq_true h1'
  refine zAA rfl (.m rfl rfl (.m rfl rfl (.r rfl (zAW (zCQ rfl rfl rfl) (by exact congrArg (fun b => AV.p none (.v (.bool b))) h1)) (.m rfl rfl (.m rfl rfl (.m rfl rfl (.r rfl (zB5 rfl rfl rfl) (.r rfl (zAU (t := true) rfl rfl) (.a rfl rfl .nil))))))))) ?_
  refine zAO ?_
  exact ends [_] [] (.cons (.tmp (zAN (by simp [zAs, h1']))) .nil) (.cons (.one .v (.v _)) .nil) (by decide) trivial
theorem zF4 (s : ByteArray) : Con Tryz.prog 106 [.one (PV.v (.string s))] [] [.one (.v (.bool (zEv s)))] := by
 refine zAQ func106 rfl rfl rfl rfl ?_
 refine zAB (zAA rfl (.a rfl rfl .nil) ?_)
 refine zAB ?_
 rcases bfc (decide (1 ≤ (s.size : Int))) with h1 | h1
 ·
  have h1' := h1
  replace h1' := of_decide_eq_false h1'
  refine zAA rfl (.m rfl rfl (.r rfl (zBw rfl rfl underlying9) (.r rfl (zAW (zCQ rfl rfl rfl) (by exact congrArg (fun b => AV.p none (.v (.bool b))) h1)) (.m rfl rfl (.not rfl (.not rfl (.not rfl (.r rfl (zAU (t := false) rfl rfl) (.a rfl rfl .nil))))))))) ?_
  refine zAO ?_
  exact ends [_] [] (.cons (.tmp (zAN (by simp [zEv, h1']))) .nil) (.cons (.one .v (.v _)) .nil) (by decide) trivial
 ·
  have h1' := h1
  replace h1' := of_decide_eq_true h1'
  refine zAA rfl (.m rfl rfl (.r rfl (zBw rfl rfl underlying9) (.r rfl (zAW (zCQ rfl rfl rfl) (by exact congrArg (fun b => AV.p none (.v (.bool b))) h1)) (.m rfl rfl (.m rfl rfl (.r rfl (zBw rfl rfl underlying9) (.r rfl (zB5 rfl rfl rfl) (.r rfl (zAU (t := true) rfl rfl) (.a rfl rfl .nil))))))))) ?_
  refine zAO ?_
  exact ends [_] [] (.cons (.tmp (zAN (by simp [zEv, h1']))) .nil) (.cons (.one .v (.v _)) .nil) (by decide) trivial
theorem zF3 (s : ByteArray) : Con Tryz.prog 109 [.one (PV.v (.string s))] [] [.one (.v (.bool (zEv s)))] := by
 refine zAQ func109 rfl rfl rfl rfl ?_
 refine zAB (zAA rfl (.a rfl rfl .nil) ?_)
 refine zAB ?_
 rcases bfc (decide (1 ≤ (s.size : Int))) with h1 | h1
 ·
  have h1' := h1
  replace h1' := of_decide_eq_false h1'
  refine zAA rfl (.m rfl rfl (.r rfl (zBw rfl rfl underlying9) (.r rfl (zAW (zCQ rfl rfl rfl) (by exact congrArg (fun b => AV.p none (.v (.bool b))) h1)) (.m rfl rfl (.not rfl (.not rfl (.not rfl (.r rfl (zAU (t := false) rfl rfl) (.a rfl rfl .nil))))))))) ?_
  refine zAO ?_
  exact ends [_] [] (.cons (.tmp (zAN (by simp [zEv, h1']))) .nil) (.cons (.one .v (.v _)) .nil) (by decide) trivial
 ·
  have h1' := h1
  replace h1' := of_decide_eq_true h1'
  refine zAA rfl (.m rfl rfl (.r rfl (zBw rfl rfl underlying9) (.r rfl (zAW (zCQ rfl rfl rfl) (by exact congrArg (fun b => AV.p none (.v (.bool b))) h1)) (.m rfl rfl (.m rfl rfl (.r rfl (zBw rfl rfl underlying9) (.r rfl (zB5 rfl rfl rfl) (.r rfl (zAU (t := true) rfl rfl) (.a rfl rfl .nil))))))))) ?_
  refine zAO ?_
  exact ends [_] [] (.cons (.tmp (zAN (by simp [zEv, h1']))) .nil) (.cons (.one .v (.v _)) .nil) (by decide) trivial
theorem zFY (e : Ent) : Con Tryz.prog 91 [.agg [PV.v (.string e.user), PV.v (.int .i64 e.seq), PV.v (.int .i64 e.kind)]] [] [.one (.v (.bool (zCn e.user e.seq e.kind)))] := by
 refine zAQ func91 rfl rfl rfl rfl ?_
 refine zAB (zAA rfl (.run [] [1] rfl (zBO rfl 1 rfl rfl (by decide) rfl (by decide)) (.a rfl rfl .nil)) ?_)
 refine zAB ?_
 rcases bfc (zEv e.user) with h1 | h1
 ·
  have h1' := h1
  refine zAA rfl (.r rfl (zAC rfl rfl underlying54 rfl sizeOf9 (by decide)) (.r rfl (zAD rfl rfl rfl isAgg9 rfl) (.run [500] [] rfl (zAK rfl 500 (X := []) en106 rfl (.val nod) (.cons (.one (.bor .v)) .nil) (by decide) all_nil .nil (zF4 e.user) rfl rfl (nle rfl)) (.r rfl (zAW (zBJ rfl) (by exact congrArg (fun b => AV.p none (.v (.bool b))) h1)) (.not rfl (.not rfl (.not rfl (.r rfl (zAU (t := false) rfl rfl) (.m rfl rfl (.not rfl (.not rfl (.not rfl (.r rfl (zAU (t := false) rfl rfl) (.a rfl rfl .nil)))))))))))))) ?_
  refine zAO ?_
  exact ends [_] [] (.cons (.tmp (zAN (by simp [zCn, h1']))) .nil) (.cons (.one .v (.v _)) .nil) (by decide) trivial
 ·
  have h1' := h1
  rcases bfc (zAs e.seq 0 1000000000000) with h2 | h2
  ·
   have h2' := h2
   refine zAA rfl (.r rfl (zAC rfl rfl underlying54 rfl sizeOf9 (by decide)) (.r rfl (zAD rfl rfl rfl isAgg9 rfl) (.run [500] [] rfl (zAK rfl 500 (X := []) en106 rfl (.val nod) (.cons (.one (.bor .v)) .nil) (by decide) all_nil .nil (zF4 e.user) rfl rfl (nle rfl)) (.r rfl (zAW (zBJ rfl) (by exact congrArg (fun b => AV.p none (.v (.bool b))) h1)) (.r rfl (zAC rfl rfl underlying54 rfl sizeOf2 (by decide)) (.r rfl (zAD rfl rfl rfl isAgg2 rfl) (.run [900] [] rfl (zAK rfl 900 (X := []) en21 rfl (.val nod) (.cons (.one (.bor .v)) (.cons (.one (.bor .v)) (.cons (.one (.bor .v)) .nil))) (by decide) all_nil .nil (zBf e.seq 0 1000000000000) rfl rfl (nle rfl)) (.r rfl (zAU (t := true) rfl rfl) (.r rfl (zAW (zBJ rfl) (by exact congrArg (fun b => AV.p none (.v (.bool b))) h2)) (.not rfl (.not rfl (.not rfl (.r rfl (zAU (t := false) rfl rfl) (.a rfl rfl .nil)))))))))))))) ?_
   refine zAO ?_
   exact ends [_] [] (.cons (.tmp (zAN (by simp [zCn, h1', h2']))) .nil) (.cons (.one .v (.v _)) .nil) (by decide) trivial
  ·
   have h2' := h2
   refine zAA rfl (.r rfl (zAC rfl rfl underlying54 rfl sizeOf9 (by decide)) (.r rfl (zAD rfl rfl rfl isAgg9 rfl) (.run [500] [] rfl (zAK rfl 500 (X := []) en106 rfl (.val nod) (.cons (.one (.bor .v)) .nil) (by decide) all_nil .nil (zF4 e.user) rfl rfl (nle rfl)) (.r rfl (zAW (zBJ rfl) (by exact congrArg (fun b => AV.p none (.v (.bool b))) h1)) (.r rfl (zAC rfl rfl underlying54 rfl sizeOf2 (by decide)) (.r rfl (zAD rfl rfl rfl isAgg2 rfl) (.run [900] [] rfl (zAK rfl 900 (X := []) en21 rfl (.val nod) (.cons (.one (.bor .v)) (.cons (.one (.bor .v)) (.cons (.one (.bor .v)) .nil))) (by decide) all_nil .nil (zBf e.seq 0 1000000000000) rfl rfl (nle rfl)) (.r rfl (zAU (t := true) rfl rfl) (.r rfl (zAW (zBJ rfl) (by exact congrArg (fun b => AV.p none (.v (.bool b))) h2)) (.r rfl (zAC rfl rfl underlying54 rfl sizeOf2 (by decide)) (.r rfl (zAD rfl rfl rfl isAgg2 rfl) (.run [1400] [] rfl (zAK rfl 1400 (X := []) en21 rfl (.val nod) (.cons (.one (.bor .v)) (.cons (.one (.bor .v)) (.cons (.one (.bor .v)) .nil))) (by decide) all_nil .nil (zBf e.kind 0 1) rfl rfl (nle rfl)) (.r rfl (zAU (t := true) rfl rfl) (.a rfl rfl .nil)))))))))))))) ?_
   refine zAO ?_
   exact ends [_] [] (.cons (.tmp (zAN (by simp [zCn, h1', h2']))) .nil) (.cons (.one .v (.v _)) .nil) (by decide) trivial
theorem zB6 (e : Ent) : Con Tryz.prog 96 [.agg [PV.v (.string e.user), PV.v (.int .i64 e.seq), PV.v (.int .i64 e.kind)]] [] [.one (.v (.bool (zCn e.user e.seq e.kind)))] := by
 refine zAQ func96 rfl rfl rfl rfl ?_
 refine zAB (zAA rfl (.run [] [1] rfl (zBO rfl 1 rfl rfl (by decide) rfl (by decide)) (.a rfl rfl .nil)) ?_)
 refine zAB ?_
 rcases bfc (zEv e.user) with h1 | h1
 ·
  have h1' := h1
  refine zAA rfl (.r rfl (zAC rfl rfl underlying54 rfl sizeOf9 (by decide)) (.r rfl (zAD rfl rfl rfl isAgg9 rfl) (.run [500] [] rfl (zAK rfl 500 (X := []) en109 rfl (.val nod) (.cons (.one (.bor .v)) .nil) (by decide) all_nil .nil (zF3 e.user) rfl rfl (nle rfl)) (.r rfl (zAW (zBJ rfl) (by exact congrArg (fun b => AV.p none (.v (.bool b))) h1)) (.not rfl (.not rfl (.not rfl (.r rfl (zAU (t := false) rfl rfl) (.m rfl rfl (.not rfl (.not rfl (.not rfl (.r rfl (zAU (t := false) rfl rfl) (.a rfl rfl .nil)))))))))))))) ?_
  refine zAO ?_
  exact ends [_] [] (.cons (.tmp (zAN (by simp [zCn, h1']))) .nil) (.cons (.one .v (.v _)) .nil) (by decide) trivial
 ·
  have h1' := h1
  rcases bfc (zAs e.seq 0 1000000000000) with h2 | h2
  ·
   have h2' := h2
   refine zAA rfl (.r rfl (zAC rfl rfl underlying54 rfl sizeOf9 (by decide)) (.r rfl (zAD rfl rfl rfl isAgg9 rfl) (.run [500] [] rfl (zAK rfl 500 (X := []) en109 rfl (.val nod) (.cons (.one (.bor .v)) .nil) (by decide) all_nil .nil (zF3 e.user) rfl rfl (nle rfl)) (.r rfl (zAW (zBJ rfl) (by exact congrArg (fun b => AV.p none (.v (.bool b))) h1)) (.r rfl (zAC rfl rfl underlying54 rfl sizeOf2 (by decide)) (.r rfl (zAD rfl rfl rfl isAgg2 rfl) (.run [900] [] rfl (zAK rfl 900 (X := []) en29 rfl (.val nod) (.cons (.one (.bor .v)) (.cons (.one (.bor .v)) (.cons (.one (.bor .v)) .nil))) (by decide) all_nil .nil (zCm e.seq 0 1000000000000) rfl rfl (nle rfl)) (.r rfl (zAU (t := true) rfl rfl) (.r rfl (zAW (zBJ rfl) (by exact congrArg (fun b => AV.p none (.v (.bool b))) h2)) (.not rfl (.not rfl (.not rfl (.r rfl (zAU (t := false) rfl rfl) (.a rfl rfl .nil)))))))))))))) ?_
   refine zAO ?_
   exact ends [_] [] (.cons (.tmp (zAN (by simp [zCn, h1', h2']))) .nil) (.cons (.one .v (.v _)) .nil) (by decide) trivial
  ·
   have h2' := h2
   refine zAA rfl (.r rfl (zAC rfl rfl underlying54 rfl sizeOf9 (by decide)) (.r rfl (zAD rfl rfl rfl isAgg9 rfl) (.run [500] [] rfl (zAK rfl 500 (X := []) en109 rfl (.val nod) (.cons (.one (.bor .v)) .nil) (by decide) all_nil .nil (zF3 e.user) rfl rfl (nle rfl)) (.r rfl (zAW (zBJ rfl) (by exact congrArg (fun b => AV.p none (.v (.bool b))) h1)) (.r rfl (zAC rfl rfl underlying54 rfl sizeOf2 (by decide)) (.r rfl (zAD rfl rfl rfl isAgg2 rfl) (.run [900] [] rfl (zAK rfl 900 (X := []) en29 rfl (.val nod) (.cons (.one (.bor .v)) (.cons (.one (.bor .v)) (.cons (.one (.bor .v)) .nil))) (by decide) all_nil .nil (zCm e.seq 0 1000000000000) rfl rfl (nle rfl)) (.r rfl (zAU (t := true) rfl rfl) (.r rfl (zAW (zBJ rfl) (by exact congrArg (fun b => AV.p none (.v (.bool b))) h2)) (.r rfl (zAC rfl rfl underlying54 rfl sizeOf2 (by decide)) (.r rfl (zAD rfl rfl rfl isAgg2 rfl) (.run [1400] [] rfl (zAK rfl 1400 (X := []) en29 rfl (.val nod) (.cons (.one (.bor .v)) (.cons (.one (.bor .v)) (.cons (.one (.bor .v)) .nil))) (by decide) all_nil .nil (zCm e.kind 0 1) rfl rfl (nle rfl)) (.r rfl (zAU (t := true) rfl rfl) (.a rfl rfl .nil)))))))))))))) ?_
   refine zAO ?_
   exact ends [_] [] (.cons (.tmp (zAN (by simp [zCn, h1', h2']))) .nil) (.cons (.one .v (.v _)) .nil) (by decide) trivial
theorem zMN (a : ByteArray) : Con Tryz.prog 107 [.one (PV.v (.string a))] [] [.one (.v (.bool false))] := by
 refine zAQ func107 rfl rfl rfl rfl ?_
 refine zAB (zAA rfl (.a rfl rfl .nil) ?_)
 refine zAB (zAA rfl (.m rfl rfl (.m rfl rfl (.r rfl (zAW (zFv rfl rfl rfl) (zAN (congrArg Bool.not (decide_eq_true (by simp))))) (.a rfl rfl .nil)))) ?_)
 refine zAO ?_
 exact ends [_] [] (.cons (.tmp rfl) .nil) (.cons (.one .v (.v _)) .nil) (by decide) trivial
theorem zMO (a : Int) : Con Tryz.prog 108 [.one (PV.v (.int .i64 a))] [] [.one (.v (.bool false))] := by
 refine zAQ func108 rfl rfl rfl rfl ?_
 refine zAB (zAA rfl (.a rfl rfl .nil) ?_)
 refine zAB (zAA rfl (.m rfl rfl (.m rfl rfl (.r rfl (zAW (zCg rfl rfl rfl) (zAN (congrArg Bool.not (decide_eq_true (by simp))))) (.a rfl rfl .nil)))) ?_)
 refine zAO ?_
 exact ends [_] [] (.cons (.tmp rfl) .nil) (.cons (.one .v (.v _)) .nil) (by decide) trivial
theorem zQW (a b : ByteArray) : Con Tryz.prog 93 [.one (PV.v (.string a)), .one (PV.v (.string b))] [] [.one (.v (.int .i64 (cmpS a b)))] := by
 refine zAQ func93 rfl rfl rfl rfl ?_
 refine zAB (zAA rfl (.a rfl rfl .nil) ?_)
 refine zAB (zAA rfl (.m rfl rfl (.run [800] [] rfl (zAK rfl 800 (X := []) en107 rfl (.val nod) (.cons (.one (.bor .v)) .nil) (by decide) all_nil .nil (zMN a) rfl rfl (nle rfl)) (.a rfl rfl .nil))) ?_)
 refine zAB (zAA rfl (.m rfl rfl (.run [1000] [] rfl (zAK rfl 1000 (X := []) en107 rfl (.val nod) (.cons (.one (.bor .v)) .nil) (by decide) all_nil .nil (zMN b) rfl rfl (nle rfl)) (.a rfl rfl .nil))) ?_)
 refine zAB ?_
 refine zAB (zAA rfl (.m rfl rfl .nil) ?_)
 refine zAZ (t := false) rfl (fun h => nomatch h) (fun _ => ?_)
 refine zAM ?_
 refine zAB ?_
 refine zAB (zAA rfl (.m rfl rfl .nil) ?_)
 refine zAZ (t := false) rfl (fun h => nomatch h) (fun _ => ?_)
 refine zAM ?_
 refine zAB ?_
 refine zAB (zAA rfl (.m rfl rfl (.m rfl rfl (.r rfl (zDy rfl rfl rfl) .nil))) ?_)
 refine zAZ (t := ltB a b) rfl (fun h1 => ?_) (fun h1 => ?_)
 ·
  refine zAB (zAA rfl (.a rfl rfl .nil) ?_)
  refine zAO ?_
  exact ends [_] [] (.cons (.tmp (zAL (by rw [cmpS, if_pos h1]))) .nil) (.cons (.one .v (.v _)) .nil) (by decide) trivial
 ·
  refine zAM ?_
  refine zAB ?_
  refine zAB (zAA rfl (.m rfl rfl (.m rfl rfl (.r rfl (st_sgtr rfl rfl rfl) .nil))) ?_)
  refine zAZ (t := (!(ltB a b || decide (a = b)))) rfl (fun h2 => ?_) (fun h2 => ?_)
  ·
   replace h2 : (ltB a b || decide (a = b)) = false := zBF h2
   refine zAB (zAA rfl (.a rfl rfl .nil) ?_)
   refine zAO ?_
   exact ends [_] [] (.cons (.tmp (zAL (by rw [cmpS, if_neg (by simp [h1]), if_pos (by rw [← zOz h1, h2]; rfl)]))) .nil) (.cons (.one .v (.v _)) .nil) (by decide) trivial
  ·
   replace h2 : (ltB a b || decide (a = b)) = true := zBG h2
   refine zAM ?_
   refine zAB (zAA rfl (.a rfl rfl .nil) ?_)
   refine zAO ?_
   exact ends [_] [] (.cons (.tmp (zAL (by rw [cmpS, if_neg (by simp [h1]), if_neg (by rw [← zOz h1, h2]; decide)]))) .nil) (.cons (.one .v (.v _)) .nil) (by decide) trivial
theorem zMj (a b : Int) : Con Tryz.prog 94 [.one (PV.v (.int .i64 a)), .one (PV.v (.int .i64 b))] [] [.one (.v (.int .i64 (cmpI a b)))] := by
 refine zAQ func94 rfl rfl rfl rfl ?_
 refine zAB (zAA rfl (.a rfl rfl .nil) ?_)
 refine zAB (zAA rfl (.m rfl rfl (.run [800] [] rfl (zAK rfl 800 (X := []) en108 rfl (.val nod) (.cons (.one (.bor .v)) .nil) (by decide) all_nil .nil (zMO a) rfl rfl (nle rfl)) (.a rfl rfl .nil))) ?_)
 refine zAB (zAA rfl (.m rfl rfl (.run [1000] [] rfl (zAK rfl 1000 (X := []) en108 rfl (.val nod) (.cons (.one (.bor .v)) .nil) (by decide) all_nil .nil (zMO b) rfl rfl (nle rfl)) (.a rfl rfl .nil))) ?_)
 refine zAB ?_
 refine zAB (zAA rfl (.m rfl rfl .nil) ?_)
 refine zAZ (t := false) rfl (fun h => nomatch h) (fun _ => ?_)
 refine zAM ?_
 refine zAB ?_
 refine zAB (zAA rfl (.m rfl rfl .nil) ?_)
 refine zAZ (t := false) rfl (fun h => nomatch h) (fun _ => ?_)
 refine zAM ?_
 refine zAB ?_
 refine zAB (zAA rfl (.m rfl rfl (.m rfl rfl (.r rfl (zA4 rfl rfl rfl) .nil))) ?_)
 refine zAZ (t := decide (a < b)) rfl (fun h1 => ?_) (fun h1 => ?_)
 ·
  replace h1 := of_decide_eq_true h1
  refine zAB (zAA rfl (.a rfl rfl .nil) ?_)
  refine zAO ?_
  exact ends [_] [] (.cons (.tmp (zAL (by simp [cmpI, h1]))) .nil) (.cons (.one .v (.v _)) .nil) (by decide) trivial
 ·
  replace h1 := of_decide_eq_false h1
  refine zAM ?_
  refine zAB ?_
  refine zAB (zAA rfl (.m rfl rfl (.m rfl rfl (.r rfl (zBN rfl rfl rfl) .nil))) ?_)
  refine zAZ (t := decide (b < a)) rfl (fun h2 => ?_) (fun h2 => ?_)
  ·
   replace h2 := of_decide_eq_true h2
   refine zAB (zAA rfl (.a rfl rfl .nil) ?_)
   refine zAO ?_
   exact ends [_] [] (.cons (.tmp (zAL (by simp [cmpI, h1, h2]))) .nil) (.cons (.one .v (.v _)) .nil) (by decide) trivial
  ·
   replace h2 := of_decide_eq_false h2
   refine zAM ?_
   refine zAB (zAA rfl (.a rfl rfl .nil) ?_)
   refine zAO ?_
   exact ends [_] [] (.cons (.tmp (zAL (by simp [cmpI, h1, h2]))) .nil) (.cons (.one .v (.v _)) .nil) (by decide) trivial
theorem or_con (l : List Int) (hl : l.length ≤ 1000) : Con Tryz.prog 92 [.one (PV.sl false 1 (pvI l))] [] [.one (.v (.int .i64 (orF l)))] := by
 refine zAQ func92 rfl rfl rfl rfl ?_
 have hle := zAT l
 refine zAB (zAA rfl (.a rfl rfl .nil) ?_)
 refine zAB (zAA rfl (.a rfl rfl .nil) ?_)
 refine zAB ?_
 refine zAB (zAA rfl (.m rfl rfl (.r rfl (zAX rfl rfl underlying134) (.m rfl rfl .nil))) ?_)
 refine zAS ?_
 refine zAp (σ := Nat) (fun i => mk [(3, .vi 0), (6, .p none (.sl false 1 (pvI l))), (7, .vi ((pvI l).length : Int)), (8, .vi (i:Int))] [] []) (fun i => i ≤ l.length ∧ orF (l.drop i) = orF l) (fun i => l.length - i) 0 ⟨Nat.zero_le _, rfl⟩ (zAJ ⟨rfl, rfl, rfl, (zAL (by omega)), trivial⟩ trivial trivial rfl) ?_
 rintro i hG
 replace hG : i ≤ l.length ∧ orF (l.drop i) = orF l := hG
 obtain ⟨hi, hE⟩ := hG
 refine zAB (zAA rfl (.r rfl (zA4 rfl rfl rfl) .nil) ?_)
 refine zAB ?_
 refine zAZ (t := decide ((i:Int) < ((pvI l).length : Int))) rfl (fun h1 => ?_) (fun h1 => ?_)
 ·
  replace h1 := of_decide_eq_true h1
  refine zAM ?_
  refine zAB ?_
  refine zAS ?_
  refine zAB ?_
  obtain ⟨e, he⟩ : ∃ e, l[i]? = some e := ⟨_, List.getElem?_eq_getElem (by (have hL := zAT l; omega))⟩
  have hlte := (List.getElem?_eq_some_iff.1 he).1
  refine zAA rfl (.r rfl (zAh rfl rfl rfl underlying134 sizeOf3 rfl (by omega) (zB0 he)) (.r rfl (zAg rfl rfl isAgg3 rfl) (.a rfl rfl .nil))) ?_
  refine zAB (zAA rfl (.m rfl rfl (.m rfl rfl (.r rfl (zCg rfl rfl rfl) .nil))) ?_)
  refine zAZ (t := (!(decide (e = 0)))) rfl (fun h2 => ?_) (fun h2 => ?_)
  ·
   replace h2 : ¬ (e = 0) := of_decide_eq_false (zBF h2)
   refine zAB (zAA rfl (.m rfl rfl (.a rfl rfl .nil)) ?_)
   refine zAO ?_
   exact ends [_] [] (.cons (.tmp (zAL (by rw [← hE, zOH he, if_pos h2]))) .nil) (.cons (.one .v (.v _)) .nil) (by decide) trivial
  ·
   replace h2 : e = 0 := of_decide_eq_true (zBG h2)
   refine zAM ?_
   refine zAA rfl (.r rfl (zAf rfl rfl rfl (by omega)) (.m rfl rfl .nil)) ?_
   refine nxt (Q := fun _ _ => False) (z := i) (i + 1) ?_ ?_ ?_
   ·
    show (i + 1) ≤ l.length ∧ orF (l.drop (i + 1)) = orF l
    exact ⟨by omega, by rw [← hE, zOH he, if_neg (by simpa using h2)]⟩
   ·
    show l.length - (i + 1) < l.length - i
    omega
   · exact zAJ ⟨rfl, rfl, rfl, (zAL (by omega)), trivial⟩ trivial trivial rfl
 ·
  replace h1 := of_decide_eq_false h1
  refine zAx ?_
  refine zAB (zAA rfl (.m rfl rfl (.a rfl rfl .nil)) ?_)
  refine zAO ?_
  exact ends [_] [] (.cons (.tmp (zAL (by rw [← hE, or_end (by omega)]))) .nil) (.cons (.one .v (.v _)) .nil) (by decide) trivial
theorem zHU (a b : Ent) : Con Tryz.prog 60 [.agg [PV.v (.string a.user), PV.v (.int .i64 a.seq), PV.v (.int .i64 a.kind)], .agg [PV.v (.string b.user), PV.v (.int .i64 b.seq), PV.v (.int .i64 b.kind)]] [] [.one (.v (.int .i64 (cmpK a b)))] := by
 refine zAQ func60 rfl rfl rfl rfl ?_
 refine zAB (zAA rfl (.run [] [2] rfl (zBO rfl 2 rfl rfl (by decide) rfl (by decide)) (.run [] [3] rfl (zBO rfl 3 rfl rfl (by decide) rfl (by decide)) (.a rfl rfl .nil))) ?_)
 refine zAB ?_
 refine zAY (s' := mk [(2, .ptr 2 0), (3, .ptr 3 0)] [(2, [.vs a.user, .vi a.seq, .vi a.kind]), (3, [.vs b.user, .vi b.seq, .vi b.kind])] []) ?_ ?_
 · exact zAJ ⟨rfl, rfl, trivial⟩ ⟨rfl, rfl, trivial⟩ trivial rfl
 refine zAc zBL rfl (.r rfl (zAC rfl rfl underlying54 rfl sizeOf9 (by decide)) (.r rfl (zAD rfl rfl rfl isAgg9 rfl) (.r rfl (zAC rfl rfl underlying54 rfl sizeOf9 (by decide)) (.r rfl (zAD rfl rfl rfl isAgg9 rfl) (.run [900] [] rfl (zAK rfl 900 (X := []) en93 rfl (.val nod) (.cons (.one (.bor .v)) (.cons (.one (.bor .v)) .nil)) (by decide) all_nil .nil (zQW a.user b.user) rfl rfl (nle rfl)) (.r rfl (zAC rfl rfl underlying54 rfl sizeOf2 (by decide)) (.r rfl (zAD rfl rfl rfl isAgg2 rfl) (.r rfl (zAC rfl rfl underlying54 rfl sizeOf2 (by decide)) (.r rfl (zAD rfl rfl rfl isAgg2 rfl) (.run [1400] [] rfl (zAK rfl 1400 (X := []) en94 rfl (.val nod) (.cons (.one (.bor .v)) (.cons (.one (.bor .v)) .nil)) (by decide) all_nil .nil (zMj b.seq a.seq) rfl rfl (nle rfl)) (.r rfl (zAC rfl rfl underlying54 rfl sizeOf2 (by decide)) (.r rfl (zAD rfl rfl rfl isAgg2 rfl) (.r rfl (zAC rfl rfl underlying54 rfl sizeOf2 (by decide)) (.r rfl (zAD rfl rfl rfl isAgg2 rfl) (.run [1900] [] rfl (zAK rfl 1900 (X := []) en94 rfl (.val nod) (.cons (.one (.bor .v)) (.cons (.one (.bor .v)) .nil)) (by decide) all_nil .nil (zMj b.kind a.kind) rfl rfl (nle rfl)) (.run [2000] [] rfl (zAR rfl 2000 underlying134 inf3 (nle rfl) (by decide) rfl rfl rfl (.cons .v (.cons .v (.cons .v .nil))) (by decide) rfl (by decide) rfl (by decide) rfl) (.run [2000, 2100] [] rfl (zAK rfl 2100 (X := []) en92 rfl (.val nod) (.cons (.one (.bor (.all (len := 3) (xs := [[PV.v (.int .i64 (cmpS a.user b.user))], [PV.v (.int .i64 (cmpI b.seq a.seq))], [PV.v (.int .i64 (cmpI b.kind a.kind))]]) rfl rfl (by decide)))) .nil) (by decide) all_nil .nil (or_con [cmpS a.user b.user, cmpI b.seq a.seq, cmpI b.kind a.kind] (by simp)) rfl rfl (nle rfl)) (.a rfl rfl .nil)))))))))))))))))) (by kernel_rfl) ?_
 refine zAO ?_
 exact ends [_] [] (.cons (.tmp (zAL (zPw a b))) .nil) (.cons (.one .v (.v _)) .nil) (by decide) trivial
theorem zEA (e : Ent) : Con Tryz.prog 59 [.agg [PV.v (.string e.user), PV.v (.int .i64 e.seq), PV.v (.int .i64 e.kind), PV.v (.string e.value)]] [] [.one (.v (.bool (zBc e)))] := by
 refine zAQ func59 rfl rfl rfl rfl ?_
 refine zAB (zAA rfl (.run [] [1] rfl (zBO rfl 1 rfl rfl (by decide) rfl (by decide)) (.a rfl rfl .nil)) ?_)
 refine zAB ?_
 refine zAY (s' := mk [(1, .ptr 1 0)] [(1, [.vs e.user, .vi e.seq, .vi e.kind, .vs e.value])] []) ?_ ?_
 · exact zAJ ⟨rfl, trivial⟩ ⟨rfl, trivial⟩ trivial rfl
 rcases bfc (zCn e.user e.seq e.kind) with h1 | h1
 ·
  have h1' := h1
  refine zAA rfl (.r rfl (zAC rfl rfl underlying56 rfl sizeOf54 (by decide)) (.r rfl (zAG rfl rfl rfl isAgg54 sizeOf54 (nle rfl)) (.run [500] [] rfl (zAK rfl 500 (X := []) en91 rfl (.val nod) (.cons (.agg (.cons (.bor .v) (.cons (.bor .v) (.cons (.bor .v) .nil)))) .nil) (by decide) all_nil .nil (zFY e) rfl rfl (nle rfl)) (.r rfl (zAW (zBJ rfl) (by exact congrArg (fun b => AV.p none (.v (.bool b))) h1)) (.not rfl (.not rfl (.not rfl (.not rfl (.r rfl (zAU (t := false) rfl rfl) (.m rfl rfl (.not rfl (.not rfl (.not rfl (.not rfl (.not rfl (.not rfl (.not rfl (.not rfl (.not rfl (.r rfl (zAU (t := false) rfl rfl) (.a rfl rfl .nil))))))))))))))))))))) ?_
  refine zAO ?_
  exact ends [_] [] (.cons (.tmp (zAN (by simp only [zBc, h1, Bool.true_and, Bool.false_and, Bool.and_true, Bool.and_false, Bool.true_or, Bool.false_or]))) .nil) (.cons (.one .v (.v _)) .nil) (by decide) trivial
 ·
  have h1' := h1
  rcases bfc (decide ((e.value.size : Int) ≤ 200)) with h2 | h2
  ·
   have h2' := h2
   replace h2' := of_decide_eq_false h2'
   refine zAA rfl (.r rfl (zAC rfl rfl underlying56 rfl sizeOf54 (by decide)) (.r rfl (zAG rfl rfl rfl isAgg54 sizeOf54 (nle rfl)) (.run [500] [] rfl (zAK rfl 500 (X := []) en91 rfl (.val nod) (.cons (.agg (.cons (.bor .v) (.cons (.bor .v) (.cons (.bor .v) .nil)))) .nil) (by decide) all_nil .nil (zFY e) rfl rfl (nle rfl)) (.r rfl (zAW (zBJ rfl) (by exact congrArg (fun b => AV.p none (.v (.bool b))) h1)) (.r rfl (zAC rfl rfl underlying56 rfl sizeOf9 (by decide)) (.r rfl (zAD rfl rfl rfl isAgg9 rfl) (.r rfl (zBw rfl rfl underlying9) (.r rfl (zAW (zB5 rfl rfl rfl) (by exact congrArg (fun b => AV.p none (.v (.bool b))) h2)) (.r rfl (zAU (t := true) rfl rfl) (.m rfl rfl (.not rfl (.not rfl (.not rfl (.not rfl (.not rfl (.not rfl (.not rfl (.not rfl (.not rfl (.r rfl (zAU (t := false) rfl rfl) (.a rfl rfl .nil))))))))))))))))))))) ?_
   refine zAO ?_
   exact ends [_] [] (.cons (.tmp (zAN (by simp only [zBc, h1, h2, Bool.true_and, Bool.false_and, Bool.and_true, Bool.and_false, Bool.true_or, Bool.false_or]))) .nil) (.cons (.one .v (.v _)) .nil) (by decide) trivial
  ·
   have h2' := h2
   replace h2' := of_decide_eq_true h2'
   rcases bfc (decide (e.kind = 1)) with h3 | h3
   ·
    have h3' := h3
    replace h3' := of_decide_eq_false h3'
    refine zAA rfl (.r rfl (zAC rfl rfl underlying56 rfl sizeOf54 (by decide)) (.r rfl (zAG rfl rfl rfl isAgg54 sizeOf54 (nle rfl)) (.run [500] [] rfl (zAK rfl 500 (X := []) en91 rfl (.val nod) (.cons (.agg (.cons (.bor .v) (.cons (.bor .v) (.cons (.bor .v) .nil)))) .nil) (by decide) all_nil .nil (zFY e) rfl rfl (nle rfl)) (.r rfl (zAW (zBJ rfl) (by exact congrArg (fun b => AV.p none (.v (.bool b))) h1)) (.r rfl (zAC rfl rfl underlying56 rfl sizeOf9 (by decide)) (.r rfl (zAD rfl rfl rfl isAgg9 rfl) (.r rfl (zBw rfl rfl underlying9) (.r rfl (zAW (zB5 rfl rfl rfl) (by exact congrArg (fun b => AV.p none (.v (.bool b))) h2)) (.r rfl (zAU (t := true) rfl rfl) (.m rfl rfl (.r rfl (zAC rfl rfl underlying56 rfl sizeOf54 (by decide)) (.r rfl (zAC rfl rfl underlying54 rfl sizeOf2 (by decide)) (.r rfl (zAD rfl rfl rfl isAgg2 rfl) (.r rfl (zAW (zA8 rfl rfl rfl) (by exact congrArg (fun b => AV.p none (.v (.bool b))) h3)) (.m rfl rfl (.r rfl (zAC rfl rfl underlying56 rfl sizeOf9 (by decide)) (.r rfl (zAD rfl rfl rfl isAgg9 rfl) (.r rfl (zDC rfl rfl rfl) (.r rfl (zAU (t := false) rfl rfl) (.r rfl (zAU (t := true) rfl rfl) (.a rfl rfl .nil))))))))))))))))))))) ?_
    refine zAO ?_
    exact ends [_] [] (.cons (.tmp (zAN (by simp only [zBc, h1, h2, h3, Bool.true_and, Bool.false_and, Bool.and_true, Bool.and_false, Bool.true_or, Bool.false_or]))) .nil) (.cons (.one .v (.v _)) .nil) (by decide) trivial
   ·
    have h3' := h3
    replace h3' := of_decide_eq_true h3'
    refine zAA rfl (.r rfl (zAC rfl rfl underlying56 rfl sizeOf54 (by decide)) (.r rfl (zAG rfl rfl rfl isAgg54 sizeOf54 (nle rfl)) (.run [500] [] rfl (zAK rfl 500 (X := []) en91 rfl (.val nod) (.cons (.agg (.cons (.bor .v) (.cons (.bor .v) (.cons (.bor .v) .nil)))) .nil) (by decide) all_nil .nil (zFY e) rfl rfl (nle rfl)) (.r rfl (zAW (zBJ rfl) (by exact congrArg (fun b => AV.p none (.v (.bool b))) h1)) (.r rfl (zAC rfl rfl underlying56 rfl sizeOf9 (by decide)) (.r rfl (zAD rfl rfl rfl isAgg9 rfl) (.r rfl (zBw rfl rfl underlying9) (.r rfl (zAW (zB5 rfl rfl rfl) (by exact congrArg (fun b => AV.p none (.v (.bool b))) h2)) (.r rfl (zAU (t := true) rfl rfl) (.m rfl rfl (.r rfl (zAC rfl rfl underlying56 rfl sizeOf54 (by decide)) (.r rfl (zAC rfl rfl underlying54 rfl sizeOf2 (by decide)) (.r rfl (zAD rfl rfl rfl isAgg2 rfl) (.r rfl (zAW (zA8 rfl rfl rfl) (by exact congrArg (fun b => AV.p none (.v (.bool b))) h3)) (.m rfl rfl (.not rfl (.not rfl (.not rfl (.r rfl (zAU (t := true) rfl rfl) (.r rfl (zAU (t := true) rfl rfl) (.a rfl rfl .nil))))))))))))))))))))) ?_
    refine zAO ?_
    exact ends [_] [] (.cons (.tmp (zAN (by simp only [zBc, h1, h2, h3, Bool.true_and, Bool.false_and, Bool.and_true, Bool.and_false, Bool.true_or, Bool.false_or]))) .nil) (.cons (.one .v (.v _)) .nil) (by decide) trivial
theorem zCi (e : Ent) : Con Tryz.prog 64 [.agg [PV.v (.string e.user), PV.v (.int .i64 e.seq), PV.v (.int .i64 e.kind), PV.v (.string e.value)]] [] [.one (.v (.bool (zBc e)))] := by
 refine zAQ func64 rfl rfl rfl rfl ?_
 refine zAB (zAA rfl (.run [] [1] rfl (zBO rfl 1 rfl rfl (by decide) rfl (by decide)) (.a rfl rfl .nil)) ?_)
 refine zAB ?_
 refine zAY (s' := mk [(1, .ptr 1 0)] [(1, [.vs e.user, .vi e.seq, .vi e.kind, .vs e.value])] []) ?_ ?_
 · exact zAJ ⟨rfl, trivial⟩ ⟨rfl, trivial⟩ trivial rfl
 rcases bfc (zCn e.user e.seq e.kind) with h1 | h1
 ·
  have h1' := h1
  refine zAA rfl (.r rfl (zAC rfl rfl underlying56 rfl sizeOf54 (by decide)) (.r rfl (zAG rfl rfl rfl isAgg54 sizeOf54 (nle rfl)) (.run [500] [] rfl (zAK rfl 500 (X := []) en96 rfl (.val nod) (.cons (.agg (.cons (.bor .v) (.cons (.bor .v) (.cons (.bor .v) .nil)))) .nil) (by decide) all_nil .nil (zB6 e) rfl rfl (nle rfl)) (.r rfl (zAW (zBJ rfl) (by exact congrArg (fun b => AV.p none (.v (.bool b))) h1)) (.not rfl (.not rfl (.not rfl (.not rfl (.r rfl (zAU (t := false) rfl rfl) (.m rfl rfl (.not rfl (.not rfl (.not rfl (.not rfl (.not rfl (.not rfl (.not rfl (.not rfl (.not rfl (.r rfl (zAU (t := false) rfl rfl) (.a rfl rfl .nil))))))))))))))))))))) ?_
  refine zAO ?_
  exact ends [_] [] (.cons (.tmp (zAN (by simp only [zBc, h1, Bool.true_and, Bool.false_and, Bool.and_true, Bool.and_false, Bool.true_or, Bool.false_or]))) .nil) (.cons (.one .v (.v _)) .nil) (by decide) trivial
 ·
  have h1' := h1
  rcases bfc (decide ((e.value.size : Int) ≤ 200)) with h2 | h2
  ·
   have h2' := h2
   replace h2' := of_decide_eq_false h2'
   refine zAA rfl (.r rfl (zAC rfl rfl underlying56 rfl sizeOf54 (by decide)) (.r rfl (zAG rfl rfl rfl isAgg54 sizeOf54 (nle rfl)) (.run [500] [] rfl (zAK rfl 500 (X := []) en96 rfl (.val nod) (.cons (.agg (.cons (.bor .v) (.cons (.bor .v) (.cons (.bor .v) .nil)))) .nil) (by decide) all_nil .nil (zB6 e) rfl rfl (nle rfl)) (.r rfl (zAW (zBJ rfl) (by exact congrArg (fun b => AV.p none (.v (.bool b))) h1)) (.r rfl (zAC rfl rfl underlying56 rfl sizeOf9 (by decide)) (.r rfl (zAD rfl rfl rfl isAgg9 rfl) (.r rfl (zBw rfl rfl underlying9) (.r rfl (zAW (zB5 rfl rfl rfl) (by exact congrArg (fun b => AV.p none (.v (.bool b))) h2)) (.r rfl (zAU (t := true) rfl rfl) (.m rfl rfl (.not rfl (.not rfl (.not rfl (.not rfl (.not rfl (.not rfl (.not rfl (.not rfl (.not rfl (.r rfl (zAU (t := false) rfl rfl) (.a rfl rfl .nil))))))))))))))))))))) ?_
   refine zAO ?_
   exact ends [_] [] (.cons (.tmp (zAN (by simp only [zBc, h1, h2, Bool.true_and, Bool.false_and, Bool.and_true, Bool.and_false, Bool.true_or, Bool.false_or]))) .nil) (.cons (.one .v (.v _)) .nil) (by decide) trivial
  ·
   have h2' := h2
   replace h2' := of_decide_eq_true h2'
   rcases bfc (decide (e.kind = 1)) with h3 | h3
   ·
    have h3' := h3
    replace h3' := of_decide_eq_false h3'
    refine zAA rfl (.r rfl (zAC rfl rfl underlying56 rfl sizeOf54 (by decide)) (.r rfl (zAG rfl rfl rfl isAgg54 sizeOf54 (nle rfl)) (.run [500] [] rfl (zAK rfl 500 (X := []) en96 rfl (.val nod) (.cons (.agg (.cons (.bor .v) (.cons (.bor .v) (.cons (.bor .v) .nil)))) .nil) (by decide) all_nil .nil (zB6 e) rfl rfl (nle rfl)) (.r rfl (zAW (zBJ rfl) (by exact congrArg (fun b => AV.p none (.v (.bool b))) h1)) (.r rfl (zAC rfl rfl underlying56 rfl sizeOf9 (by decide)) (.r rfl (zAD rfl rfl rfl isAgg9 rfl) (.r rfl (zBw rfl rfl underlying9) (.r rfl (zAW (zB5 rfl rfl rfl) (by exact congrArg (fun b => AV.p none (.v (.bool b))) h2)) (.r rfl (zAU (t := true) rfl rfl) (.m rfl rfl (.r rfl (zAC rfl rfl underlying56 rfl sizeOf54 (by decide)) (.r rfl (zAC rfl rfl underlying54 rfl sizeOf2 (by decide)) (.r rfl (zAD rfl rfl rfl isAgg2 rfl) (.r rfl (zAW (zA8 rfl rfl rfl) (by exact congrArg (fun b => AV.p none (.v (.bool b))) h3)) (.m rfl rfl (.r rfl (zAC rfl rfl underlying56 rfl sizeOf9 (by decide)) (.r rfl (zAD rfl rfl rfl isAgg9 rfl) (.r rfl (zDC rfl rfl rfl) (.r rfl (zAU (t := false) rfl rfl) (.r rfl (zAU (t := true) rfl rfl) (.a rfl rfl .nil))))))))))))))))))))) ?_
    refine zAO ?_
    exact ends [_] [] (.cons (.tmp (zAN (by simp only [zBc, h1, h2, h3, Bool.true_and, Bool.false_and, Bool.and_true, Bool.and_false, Bool.true_or, Bool.false_or]))) .nil) (.cons (.one .v (.v _)) .nil) (by decide) trivial
   ·
    have h3' := h3
    replace h3' := of_decide_eq_true h3'
    refine zAA rfl (.r rfl (zAC rfl rfl underlying56 rfl sizeOf54 (by decide)) (.r rfl (zAG rfl rfl rfl isAgg54 sizeOf54 (nle rfl)) (.run [500] [] rfl (zAK rfl 500 (X := []) en96 rfl (.val nod) (.cons (.agg (.cons (.bor .v) (.cons (.bor .v) (.cons (.bor .v) .nil)))) .nil) (by decide) all_nil .nil (zB6 e) rfl rfl (nle rfl)) (.r rfl (zAW (zBJ rfl) (by exact congrArg (fun b => AV.p none (.v (.bool b))) h1)) (.r rfl (zAC rfl rfl underlying56 rfl sizeOf9 (by decide)) (.r rfl (zAD rfl rfl rfl isAgg9 rfl) (.r rfl (zBw rfl rfl underlying9) (.r rfl (zAW (zB5 rfl rfl rfl) (by exact congrArg (fun b => AV.p none (.v (.bool b))) h2)) (.r rfl (zAU (t := true) rfl rfl) (.m rfl rfl (.r rfl (zAC rfl rfl underlying56 rfl sizeOf54 (by decide)) (.r rfl (zAC rfl rfl underlying54 rfl sizeOf2 (by decide)) (.r rfl (zAD rfl rfl rfl isAgg2 rfl) (.r rfl (zAW (zA8 rfl rfl rfl) (by exact congrArg (fun b => AV.p none (.v (.bool b))) h3)) (.m rfl rfl (.not rfl (.not rfl (.not rfl (.r rfl (zAU (t := true) rfl rfl) (.r rfl (zAU (t := true) rfl rfl) (.a rfl rfl .nil))))))))))))))))))))) ?_
    refine zAO ?_
    exact ends [_] [] (.cons (.tmp (zAN (by simp only [zBc, h1, h2, h3, Bool.true_and, Bool.false_and, Bool.and_true, Bool.and_false, Bool.true_or, Bool.false_or]))) .nil) (.cons (.one .v (.v _)) .nil) (by decide) trivial
end Go.Rl
namespace Go.Rl
open Go.Proofs Go.Proofs.Tryz
set_option maxRecDepth 1000000
set_option maxHeartbeats 2000000
theorem zBb : (Tryz.prog.info? 56).map (fun i => (i.zero, i.size, i.bytes)) = some (some (.agg #[.string ⟨#[]⟩, .int .i64 0, .int .i64 0, .string ⟨#[]⟩]), 4, 48) := by kernel_rfl
theorem en59 : En Tryz.prog 59 := zAm func59 (by decide) rfl
theorem en60 : En Tryz.prog 60 := zAm func60 (by decide) rfl
theorem en64 : En Tryz.prog 64 := zAm func64 (by decide) rfl
theorem en65 : En Tryz.prog 65 := zAm func65 (by decide) rfl
theorem zMV (a b : ByteArray × Int × Int) (w : World) : (Op.equalIn 10000 54 (.agg ⟨[.string a.1, .int .i64 a.2.1, .int .i64 a.2.2]⟩) (.agg ⟨[.string b.1, .int .i64 b.2.1, .int .i64 b.2.2]⟩)).run Tryz.prog w = .ok (decide (a = b)) w := by
 rw [show (10000 : Nat) = 9999 + 1 from rfl, run_equalIn_agg w 9999 54 _ _ underlying54 (by kernel_rfl)]
 rw [show (Tryz.prog.fieldsOf 54).toList = [⟨"User", 9, 0, false, "", "", 0⟩, ⟨"Seq", 2, 1, false, "", "", 16⟩, ⟨"Kind", 2, 2, false, "", "", 24⟩] from rfl]
 rw [show (9999 : Nat) = 9998 + 1 from rfl]
 have hb : ∀ x y : ByteArray, x.toList = y.toList ↔ x = y := fun x y => ⟨zFu, fun h => by rw [h]⟩
 simp [Op.eqFields, part, isAgg9, sizeOf9, isAgg2, sizeOf2, run_equalIn_string (h := underlying9), run_equalIn_int (h := underlying2), hb]
 obtain ⟨a1, a2, a3⟩ := a
 obtain ⟨b1, b2, b3⟩ := b
 simp only [Prod.mk.injEq]
 split
 ·
  split
  · split <;> simp_all
  · simp_all
 · simp_all
theorem zEs (a b : Ent) : Con Tryz.prog 65 [.agg [PV.v (.string a.user), PV.v (.int .i64 a.seq), PV.v (.int .i64 a.kind)], .agg [PV.v (.string b.user), PV.v (.int .i64 b.seq), PV.v (.int .i64 b.kind)]] [] [.one (.v (.int .i64 (kcmp a b)))] := by
 refine zAQ func65 rfl rfl rfl rfl ?_
 refine zAB (zAA rfl (.run [] [2] rfl (zBO rfl 2 rfl rfl (by decide) rfl (by decide)) (.run [] [3] rfl (zBO rfl 3 rfl rfl (by decide) rfl (by decide)) (.a rfl rfl .nil))) ?_)
 refine zAB ?_
 refine zAB ?_
 rcases bfc (!(zCn a.user a.seq a.kind)) with h1 | h1
 ·
  have h1' := h1
  replace h1' : (zCn a.user a.seq a.kind) = true := zBG h1'
  refine zAA rfl (.r rfl (zAG rfl rfl rfl isAgg54 sizeOf54 (nle rfl)) (.run [600] [] rfl (zAK rfl 600 (X := []) en96 rfl (.val nod) (.cons (.agg (.cons (.bor .v) (.cons (.bor .v) (.cons (.bor .v) .nil)))) .nil) (by decide) all_nil .nil (zB6 a) rfl rfl (nle rfl)) (.r rfl (zAW (zA5 (b := zCn a.user a.seq a.kind) rfl rfl) (by exact congrArg (fun b => AV.p none (.v (.bool b))) h1)) (.m rfl rfl (.r rfl (zAG rfl rfl rfl isAgg54 sizeOf54 (nle rfl)) (.run [1000] [] rfl (zAK rfl 1000 (X := []) en96 rfl (.val nod) (.cons (.agg (.cons (.bor .v) (.cons (.bor .v) (.cons (.bor .v) .nil)))) .nil) (by decide) all_nil .nil (zB6 b) rfl rfl (nle rfl)) (.r rfl (zA5 (b := zCn b.user b.seq b.kind) rfl rfl) (.r rfl (zAU (t := false) rfl rfl) .nil)))))))) ?_
  refine zAZ (t := (!(zCn b.user b.seq b.kind))) rfl (fun h2 => ?_) (fun h2 => ?_)
  ·
   replace h2 : (zCn b.user b.seq b.kind) = false := zBF h2
   refine zAB (zAA rfl (.a rfl rfl .nil) ?_)
   refine zAO ?_
   exact ends [_] [] (.cons (.tmp (zAL (by simp [kcmp, h1', h2]))) .nil) (.cons (.one .v (.v _)) .nil) (by decide) trivial
  ·
   replace h2 : (zCn b.user b.seq b.kind) = true := zBG h2
   refine zAM ?_
   refine zAB ?_
   refine zAB (zAA rfl (.r rfl (zAG rfl rfl rfl isAgg54 sizeOf54 (nle rfl)) (.r rfl (zAG rfl rfl rfl isAgg54 sizeOf54 (nle rfl)) (.r rfl (zNt rfl rfl rfl rfl rfl Tryz.eqGuardType54 (fun w => zMV (a.user, a.seq, a.kind) (b.user, b.seq, b.kind) w)) .nil))) ?_)
   refine zAZ (t := decide ((a.user, a.seq, a.kind) = (b.user, b.seq, b.kind))) rfl (fun h3 => ?_) (fun h3 => ?_)
   ·
    replace h3 := of_decide_eq_true h3
    refine zAB (zAA rfl (.a rfl rfl .nil) ?_)
    refine zAO ?_
    exact ends [_] [] (.cons (.tmp (zAL (by rw [zDe h1' h2]; have hk := h3; simp only [Prod.mk.injEq] at hk; exact (zHW hk.1 hk.2.1 hk.2.2).symm))) .nil) (.cons (.one .v (.v _)) .nil) (by decide) trivial
   ·
    replace h3 := of_decide_eq_false h3
    refine zAM ?_
    refine zAB ?_
    refine zAB ?_
    refine zAY (s' := mk [(2, .ptr 2 0), (3, .ptr 3 0)] [(2, [.vs a.user, .vi a.seq, .vi a.kind]), (3, [.vs b.user, .vi b.seq, .vi b.kind])] []) ?_ ?_
    · exact zAJ ⟨rfl, rfl, trivial⟩ ⟨rfl, rfl, trivial⟩ trivial rfl
    rcases bfc (ltB a.user b.user) with h4 | h4
    ·
     have h4' := h4
     rcases bfc (decide (a.user = b.user)) with h5 | h5
     ·
      have h5' := h5
      replace h5' := of_decide_eq_false h5'
      refine zAA rfl (.r rfl (zAC rfl rfl underlying54 rfl sizeOf9 (by decide)) (.r rfl (zAD rfl rfl rfl isAgg9 rfl) (.r rfl (zAC rfl rfl underlying54 rfl sizeOf9 (by decide)) (.r rfl (zAD rfl rfl rfl isAgg9 rfl) (.r rfl (zAW (zDy rfl rfl rfl) (by exact congrArg (fun b => AV.p none (.v (.bool b))) h4)) (.m rfl rfl (.r rfl (zAC rfl rfl underlying54 rfl sizeOf9 (by decide)) (.r rfl (zAD rfl rfl rfl isAgg9 rfl) (.r rfl (zAC rfl rfl underlying54 rfl sizeOf9 (by decide)) (.r rfl (zAD rfl rfl rfl isAgg9 rfl) (.r rfl (zAW (zDC rfl rfl rfl) (by exact congrArg (fun b => AV.p none (.v (.bool b))) h5)) (.m rfl rfl (.not rfl (.not rfl (.not rfl (.not rfl (.not rfl (.not rfl (.not rfl (.not rfl (.not rfl (.not rfl (.not rfl (.not rfl (.not rfl (.not rfl (.not rfl (.not rfl (.not rfl (.not rfl (.not rfl (.r rfl (zAU (t := false) rfl rfl) (.r rfl (zAU (t := false) rfl rfl) .nil))))))))))))))))))))))))))))))))) ?_
      refine zAZ (t := false) rfl (fun h => nomatch h) (fun _ => ?_)
      refine zAM ?_
      refine zAB ?_
      refine zAY (s' := mk [] [] []) ?_ ?_
      · exact zAJ trivial trivial trivial rfl
      refine zAA rfl (.a rfl rfl .nil) ?_
      refine zAO ?_
      exact ends [_] [] (.cons (.tmp (zAL (by rw [zDe h1' h2]; exact (zHV (by simp_all [LessE] <;> omega) (by have hk := h3; simp only [Prod.mk.injEq] at hk; exact hk)).symm))) .nil) (.cons (.one .v (.v _)) .nil) (by decide) trivial
     ·
      have h5' := h5
      replace h5' := of_decide_eq_true h5'
      rcases bfc (decide (b.seq < a.seq)) with h6 | h6
      ·
       have h6' := h6
       replace h6' := of_decide_eq_false h6'
       rcases bfc (decide (a.seq = b.seq)) with h7 | h7
       ·
        have h7' := h7
        replace h7' := of_decide_eq_false h7'
        refine zAA rfl (.r rfl (zAC rfl rfl underlying54 rfl sizeOf9 (by decide)) (.r rfl (zAD rfl rfl rfl isAgg9 rfl) (.r rfl (zAC rfl rfl underlying54 rfl sizeOf9 (by decide)) (.r rfl (zAD rfl rfl rfl isAgg9 rfl) (.r rfl (zAW (zDy rfl rfl rfl) (by exact congrArg (fun b => AV.p none (.v (.bool b))) h4)) (.m rfl rfl (.r rfl (zAC rfl rfl underlying54 rfl sizeOf9 (by decide)) (.r rfl (zAD rfl rfl rfl isAgg9 rfl) (.r rfl (zAC rfl rfl underlying54 rfl sizeOf9 (by decide)) (.r rfl (zAD rfl rfl rfl isAgg9 rfl) (.r rfl (zAW (zDC rfl rfl rfl) (by exact congrArg (fun b => AV.p none (.v (.bool b))) h5)) (.m rfl rfl (.r rfl (zAC rfl rfl underlying54 rfl sizeOf2 (by decide)) (.r rfl (zAD rfl rfl rfl isAgg2 rfl) (.r rfl (zAC rfl rfl underlying54 rfl sizeOf2 (by decide)) (.r rfl (zAD rfl rfl rfl isAgg2 rfl) (.r rfl (zAW (zBN rfl rfl rfl) (by exact congrArg (fun b => AV.p none (.v (.bool b))) h6)) (.m rfl rfl (.r rfl (zAC rfl rfl underlying54 rfl sizeOf2 (by decide)) (.r rfl (zAD rfl rfl rfl isAgg2 rfl) (.r rfl (zAC rfl rfl underlying54 rfl sizeOf2 (by decide)) (.r rfl (zAD rfl rfl rfl isAgg2 rfl) (.r rfl (zAW (zA8 rfl rfl rfl) (by exact congrArg (fun b => AV.p none (.v (.bool b))) h7)) (.m rfl rfl (.not rfl (.not rfl (.not rfl (.not rfl (.not rfl (.r rfl (zAU (t := false) rfl rfl) (.r rfl (zAU (t := false) rfl rfl) (.r rfl (zAU (t := true) rfl rfl) (.r rfl (zAU (t := false) rfl rfl) .nil))))))))))))))))))))))))))))))))) ?_
        refine zAZ (t := false) rfl (fun h => nomatch h) (fun _ => ?_)
        refine zAM ?_
        refine zAB ?_
        refine zAY (s' := mk [] [] []) ?_ ?_
        · exact zAJ trivial trivial trivial rfl
        refine zAA rfl (.a rfl rfl .nil) ?_
        refine zAO ?_
        exact ends [_] [] (.cons (.tmp (zAL (by rw [zDe h1' h2]; exact (zHV (by simp_all [LessE] <;> omega) (by have hk := h3; simp only [Prod.mk.injEq] at hk; exact hk)).symm))) .nil) (.cons (.one .v (.v _)) .nil) (by decide) trivial
       ·
        have h7' := h7
        replace h7' := of_decide_eq_true h7'
        refine zAA rfl (.r rfl (zAC rfl rfl underlying54 rfl sizeOf9 (by decide)) (.r rfl (zAD rfl rfl rfl isAgg9 rfl) (.r rfl (zAC rfl rfl underlying54 rfl sizeOf9 (by decide)) (.r rfl (zAD rfl rfl rfl isAgg9 rfl) (.r rfl (zAW (zDy rfl rfl rfl) (by exact congrArg (fun b => AV.p none (.v (.bool b))) h4)) (.m rfl rfl (.r rfl (zAC rfl rfl underlying54 rfl sizeOf9 (by decide)) (.r rfl (zAD rfl rfl rfl isAgg9 rfl) (.r rfl (zAC rfl rfl underlying54 rfl sizeOf9 (by decide)) (.r rfl (zAD rfl rfl rfl isAgg9 rfl) (.r rfl (zAW (zDC rfl rfl rfl) (by exact congrArg (fun b => AV.p none (.v (.bool b))) h5)) (.m rfl rfl (.r rfl (zAC rfl rfl underlying54 rfl sizeOf2 (by decide)) (.r rfl (zAD rfl rfl rfl isAgg2 rfl) (.r rfl (zAC rfl rfl underlying54 rfl sizeOf2 (by decide)) (.r rfl (zAD rfl rfl rfl isAgg2 rfl) (.r rfl (zAW (zBN rfl rfl rfl) (by exact congrArg (fun b => AV.p none (.v (.bool b))) h6)) (.m rfl rfl (.r rfl (zAC rfl rfl underlying54 rfl sizeOf2 (by decide)) (.r rfl (zAD rfl rfl rfl isAgg2 rfl) (.r rfl (zAC rfl rfl underlying54 rfl sizeOf2 (by decide)) (.r rfl (zAD rfl rfl rfl isAgg2 rfl) (.r rfl (zAW (zA8 rfl rfl rfl) (by exact congrArg (fun b => AV.p none (.v (.bool b))) h7)) (.m rfl rfl (.r rfl (zAC rfl rfl underlying54 rfl sizeOf2 (by decide)) (.r rfl (zAD rfl rfl rfl isAgg2 rfl) (.r rfl (zAC rfl rfl underlying54 rfl sizeOf2 (by decide)) (.r rfl (zAD rfl rfl rfl isAgg2 rfl) (.r rfl (zBN rfl rfl rfl) (.r rfl (zAU (t := true) rfl rfl) (.r rfl (zAU (t := false) rfl rfl) (.r rfl (zAU (t := true) rfl rfl) (.r rfl (zAU (t := false) rfl rfl) .nil))))))))))))))))))))))))))))))))) ?_
        refine zAZ (t := decide (b.kind < a.kind)) rfl (fun h8 => ?_) (fun h8 => ?_)
        ·
         replace h8 := of_decide_eq_true h8
         refine zAB ?_
         refine zAY (s' := mk [] [] []) ?_ ?_
         · exact zAJ trivial trivial trivial rfl
         refine zAA rfl (.a rfl rfl .nil) ?_
         refine zAO ?_
         exact ends [_] [] (.cons (.tmp (zAL (by rw [zDe h1' h2]; exact (zEC (by simp_all [LessE])).symm))) .nil) (.cons (.one .v (.v _)) .nil) (by decide) trivial
        ·
         replace h8 := of_decide_eq_false h8
         refine zAM ?_
         refine zAB ?_
         refine zAY (s' := mk [] [] []) ?_ ?_
         · exact zAJ trivial trivial trivial rfl
         refine zAA rfl (.a rfl rfl .nil) ?_
         refine zAO ?_
         exact ends [_] [] (.cons (.tmp (zAL (by rw [zDe h1' h2]; exact (zHV (by simp_all [LessE] <;> omega) (by have hk := h3; simp only [Prod.mk.injEq] at hk; exact hk)).symm))) .nil) (.cons (.one .v (.v _)) .nil) (by decide) trivial
      ·
       have h6' := h6
       replace h6' := of_decide_eq_true h6'
       refine zAA rfl (.r rfl (zAC rfl rfl underlying54 rfl sizeOf9 (by decide)) (.r rfl (zAD rfl rfl rfl isAgg9 rfl) (.r rfl (zAC rfl rfl underlying54 rfl sizeOf9 (by decide)) (.r rfl (zAD rfl rfl rfl isAgg9 rfl) (.r rfl (zAW (zDy rfl rfl rfl) (by exact congrArg (fun b => AV.p none (.v (.bool b))) h4)) (.m rfl rfl (.r rfl (zAC rfl rfl underlying54 rfl sizeOf9 (by decide)) (.r rfl (zAD rfl rfl rfl isAgg9 rfl) (.r rfl (zAC rfl rfl underlying54 rfl sizeOf9 (by decide)) (.r rfl (zAD rfl rfl rfl isAgg9 rfl) (.r rfl (zAW (zDC rfl rfl rfl) (by exact congrArg (fun b => AV.p none (.v (.bool b))) h5)) (.m rfl rfl (.r rfl (zAC rfl rfl underlying54 rfl sizeOf2 (by decide)) (.r rfl (zAD rfl rfl rfl isAgg2 rfl) (.r rfl (zAC rfl rfl underlying54 rfl sizeOf2 (by decide)) (.r rfl (zAD rfl rfl rfl isAgg2 rfl) (.r rfl (zAW (zBN rfl rfl rfl) (by exact congrArg (fun b => AV.p none (.v (.bool b))) h6)) (.m rfl rfl (.not rfl (.not rfl (.not rfl (.not rfl (.not rfl (.not rfl (.not rfl (.not rfl (.not rfl (.not rfl (.not rfl (.not rfl (.r rfl (zAU (t := true) rfl rfl) (.r rfl (zAU (t := true) rfl rfl) (.r rfl (zAU (t := false) rfl rfl) .nil))))))))))))))))))))))))))))))))) ?_
       refine zAZ (t := true) rfl (fun _ => ?_) (fun h => nomatch h)
       refine zAB ?_
       refine zAY (s' := mk [] [] []) ?_ ?_
       · exact zAJ trivial trivial trivial rfl
       refine zAA rfl (.a rfl rfl .nil) ?_
       refine zAO ?_
       exact ends [_] [] (.cons (.tmp (zAL (by rw [zDe h1' h2]; exact (zEC (by simp_all [LessE])).symm))) .nil) (.cons (.one .v (.v _)) .nil) (by decide) trivial
    ·
     have h4' := h4
     refine zAA rfl (.r rfl (zAC rfl rfl underlying54 rfl sizeOf9 (by decide)) (.r rfl (zAD rfl rfl rfl isAgg9 rfl) (.r rfl (zAC rfl rfl underlying54 rfl sizeOf9 (by decide)) (.r rfl (zAD rfl rfl rfl isAgg9 rfl) (.r rfl (zAW (zDy rfl rfl rfl) (by exact congrArg (fun b => AV.p none (.v (.bool b))) h4)) (.m rfl rfl (.not rfl (.not rfl (.not rfl (.not rfl (.not rfl (.not rfl (.not rfl (.not rfl (.not rfl (.not rfl (.not rfl (.not rfl (.not rfl (.not rfl (.not rfl (.not rfl (.not rfl (.not rfl (.not rfl (.not rfl (.not rfl (.not rfl (.not rfl (.not rfl (.not rfl (.not rfl (.r rfl (zAU (t := true) rfl rfl) .nil))))))))))))))))))))))))))))))))) ?_
     refine zAZ (t := true) rfl (fun _ => ?_) (fun h => nomatch h)
     refine zAB ?_
     refine zAY (s' := mk [] [] []) ?_ ?_
     · exact zAJ trivial trivial trivial rfl
     refine zAA rfl (.a rfl rfl .nil) ?_
     refine zAO ?_
     exact ends [_] [] (.cons (.tmp (zAL (by rw [zDe h1' h2]; exact (zEC (by simp_all [LessE])).symm))) .nil) (.cons (.one .v (.v _)) .nil) (by decide) trivial
 ·
  have h1' := h1
  replace h1' : (zCn a.user a.seq a.kind) = false := zBF h1'
  refine zAA rfl (.r rfl (zAG rfl rfl rfl isAgg54 sizeOf54 (nle rfl)) (.run [600] [] rfl (zAK rfl 600 (X := []) en96 rfl (.val nod) (.cons (.agg (.cons (.bor .v) (.cons (.bor .v) (.cons (.bor .v) .nil)))) .nil) (by decide) all_nil .nil (zB6 a) rfl rfl (nle rfl)) (.r rfl (zAW (zA5 (b := zCn a.user a.seq a.kind) rfl rfl) (by exact congrArg (fun b => AV.p none (.v (.bool b))) h1)) (.m rfl rfl (.not rfl (.not rfl (.not rfl (.r rfl (zAU (t := true) rfl rfl) .nil)))))))) ?_
  refine zAZ (t := true) rfl (fun _ => ?_) (fun h => nomatch h)
  refine zAB (zAA rfl (.a rfl rfl .nil) ?_)
  refine zAO ?_
  exact ends [_] [] (.cons (.tmp (zAL (by simp [kcmp, h1']))) .nil) (.cons (.one .v (.v _)) .nil) (by decide) trivial
theorem zC6 (l : List Ent) (hl : l.length ≤ 2000000) : Con Tryz.prog 22 [.one (PV.sl false 4 (pvE l))] [] [.one (.v (.bool (zAr l)))] := by
 refine zAQ func22 rfl rfl rfl rfl ?_
 have hle := zAF l
 refine zAB (zAA rfl (.a rfl rfl .nil) ?_)
 refine zAB ?_
 refine zAB (zAA rfl (.m rfl rfl (.r rfl (zAX rfl rfl underlying24) (.r rfl (zBN rfl rfl rfl) .nil))) ?_)
 refine zAZ (t := decide (400 < ((pvE l).length : Int))) rfl (fun h1 => ?_) (fun h1 => ?_)
 ·
  replace h1 := of_decide_eq_true h1
  refine zAB (zAA rfl (.a rfl rfl .nil) ?_)
  refine zAO ?_
  exact ends [_] [] (.cons (.tmp (zAN (zKA (by omega)).symm)) .nil) (.cons (.one .v (.v _)) .nil) (by decide) trivial
 ·
  replace h1 := of_decide_eq_false h1
  refine zAM ?_
  refine zAB ?_
  refine zAB (zAA rfl (.m rfl rfl (.r rfl (zAX rfl rfl underlying24) (.m rfl rfl .nil))) ?_)
  refine zAS ?_
  refine zAp (σ := Nat) (fun i => mk [(0, .p none (.sl false 4 (pvE l))), (8, .p none (.sl false 4 (pvE l))), (9, .vi ((pvE l).length : Int)), (10, .vi (i:Int))] [] []) (fun i => i ≤ l.length ∧ ∀ j e, j < i → l[j]? = some e → zCz l j e = true) (fun i => l.length - i) 0 ⟨Nat.zero_le _, fun _ _ h => absurd h (Nat.not_lt_zero _)⟩ (zAJ ⟨rfl, rfl, rfl, (zAL (by omega)), trivial⟩ trivial trivial rfl) ?_
  rintro i hG
  replace hG : i ≤ l.length ∧ ∀ j e, j < i → l[j]? = some e → zCz l j e = true := hG
  obtain ⟨hi, hG⟩ := hG
  refine zAB (zAA rfl (.r rfl (zA4 rfl rfl rfl) .nil) ?_)
  refine zAB ?_
  refine zAZ (t := decide ((i:Int) < ((pvE l).length : Int))) rfl (fun h2 => ?_) (fun h2 => ?_)
  ·
   replace h2 := of_decide_eq_true h2
   refine zAM ?_
   refine zAB ?_
   refine zAS ?_
   refine zAB ?_
   obtain ⟨e, he⟩ : ∃ e, l[i]? = some e := ⟨_, List.getElem?_eq_getElem (by (have hL := zAF l; omega))⟩
   have hlte := (List.getElem?_eq_some_iff.1 he).1
   refine zAA rfl (.m rfl rfl (.r rfl (zAh rfl rfl rfl underlying24 sizeOf56 rfl (by omega) (zA0 he)) (.r rfl (zA9 rfl rfl isAgg56 sizeOf56 (nle rfl)) (.run [] [4] rfl (zAj rfl 4 zBb rfl (by decide) rfl (by decide)) (.a rfl rfl (.r rfl (zAE rfl rfl rfl rfl rfl sizeOf56 rfl (nle rfl)) .nil)))))) ?_
   refine zAB ?_
   refine zAY (s' := mk [(0, .p none (.sl false 4 (pvE l))), (3, .vi (i:Int)), (4, .ptr 4 0), (8, .p none (.sl false 4 (pvE l))), (9, .vi ((pvE l).length : Int)), (10, .vi (i:Int))] [(4, [.vs e.user, .vi e.seq, .vi e.kind, .vs e.value])] []) ?_ ?_
   · exact zAJ ⟨rfl, rfl, rfl, rfl, rfl, rfl, trivial⟩ ⟨rfl, trivial⟩ trivial rfl
   rcases bfc (!(zBc e)) with h3 | h3
   ·
    have h3' := h3
    replace h3' : (zBc e) = true := zBG h3'
    rcases bfc (decide (0 < (i:Int))) with h4 | h4
    ·
     have h4' := h4
     replace h4' := of_decide_eq_false h4'
     refine zAc zBL rfl (.r rfl (zAG rfl rfl rfl isAgg56 sizeOf56 (nle rfl)) (.run [1600] [] rfl (zAK rfl 1600 (X := []) en59 rfl (.val nod) (.cons (.agg (.cons (.bor .v) (.cons (.bor .v) (.cons (.bor .v) (.cons (.bor .v) .nil))))) .nil) (by decide) all_nil .nil (zEA e) rfl rfl (nle rfl)) (.r rfl (zAW (zA5 (b := zBc e) rfl rfl) (by exact congrArg (fun b => AV.p none (.v (.bool b))) h3)) (.m rfl rfl (.m rfl rfl (.r rfl (zAW (zBN rfl rfl rfl) (by exact congrArg (fun b => AV.p none (.v (.bool b))) h4)) (.m rfl rfl (.not rfl (.not rfl (.not rfl (.not rfl (.not rfl (.not rfl (.not rfl (.not rfl (.not rfl (.not rfl (.r rfl (zAU (t := false) rfl rfl) (.r rfl (zAU (t := false) rfl rfl) .nil))))))))))))))))))) (by kernel_rfl) ?_
     refine zAZ (t := false) rfl (fun h => nomatch h) (fun _ => ?_)
     refine zAM ?_
     refine zAY (s' := mk [(0, .p none (.sl false 4 (pvE l))), (8, .p none (.sl false 4 (pvE l))), (9, .vi ((pvE l).length : Int)), (10, .vi (i:Int)), (19, .vi (i:Int)), (20, .vb false), (21, .vb false), (32, .vb false)] [] []) ?_ ?_
     · exact zAJ ⟨rfl, rfl, rfl, rfl, rfl, rfl, rfl, rfl, trivial⟩ trivial trivial rfl
     refine zAA rfl (.r rfl (zAf rfl rfl rfl (by omega)) (.m rfl rfl .nil)) ?_
     refine nxt (Q := fun _ _ => False) (z := i) (i + 1) ?_ ?_ ?_
     ·
      show (i + 1) ≤ l.length ∧ ∀ j e, j < (i + 1) → l[j]? = some e → zCz l j e = true
      exact ⟨by omega, zEQ hG he (zG4 h3' (by omega))⟩
     ·
      show l.length - (i + 1) < l.length - i
      omega
     · exact zAJ ⟨rfl, rfl, rfl, (zAL (by omega)), trivial⟩ trivial trivial rfl
    ·
     have h4' := h4
     replace h4' := of_decide_eq_true h4'
     obtain ⟨e2, he2⟩ : ∃ e, l[(i - 1 : Nat)]? = some e := ⟨_, List.getElem?_eq_getElem (by (have hL := zAF l; omega))⟩
     have hlte2 := (List.getElem?_eq_some_iff.1 he2).1
     refine zAc zBL rfl (.r rfl (zAG rfl rfl rfl isAgg56 sizeOf56 (nle rfl)) (.run [1600] [] rfl (zAK rfl 1600 (X := []) en59 rfl (.val nod) (.cons (.agg (.cons (.bor .v) (.cons (.bor .v) (.cons (.bor .v) (.cons (.bor .v) .nil))))) .nil) (by decide) all_nil .nil (zEA e) rfl rfl (nle rfl)) (.r rfl (zAW (zA5 (b := zBc e) rfl rfl) (by exact congrArg (fun b => AV.p none (.v (.bool b))) h3)) (.m rfl rfl (.m rfl rfl (.r rfl (zAW (zBN rfl rfl rfl) (by exact congrArg (fun b => AV.p none (.v (.bool b))) h4)) (.m rfl rfl (.m rfl rfl (.m rfl rfl (.r rfl (zAW (zAv rfl rfl rfl (by omega)) (((show (AV.p none (.v (.int .i64 ((i:Int) - 1)))) = AV.p none (.v (.int .i64 ((i - 1 : Nat) : Int))) from zAL (by omega))))) (.r rfl (zAh rfl rfl rfl underlying24 sizeOf56 rfl (by omega) (zA0 he2)) (.r rfl (zAo rfl rfl underlying56 rfl sizeOf54 (by decide)) (.r rfl (zA9 rfl rfl isAgg54 sizeOf54 (nle rfl)) (.r rfl (zAC rfl rfl underlying56 rfl sizeOf54 (by decide)) (.r rfl (zAG rfl rfl rfl isAgg54 sizeOf54 (nle rfl)) (.run [3000] [] rfl (zAK rfl 3000 (X := []) en60 rfl (.val nod) (.cons (.agg (.cons (.bor .v) (.cons (.bor .v) (.cons (.bor .v) .nil)))) (.cons (.agg (.cons (.bor .v) (.cons (.bor .v) (.cons (.bor .v) .nil)))) .nil)) (by decide) all_nil .nil (zHU e2 e) rfl rfl (nle rfl)) (.r rfl (zCQ rfl rfl rfl) (.r rfl (zAU (t := true) rfl rfl) (.r rfl (zAU (t := false) rfl rfl) .nil))))))))))))))))))) (by kernel_rfl) ?_
     refine zAZ (t := decide (0 ≤ (cmpK e2 e))) rfl (fun h5 => ?_) (fun h5 => ?_)
     ·
      replace h5 := of_decide_eq_true h5
      refine zAB ?_
      refine zAY (s' := mk [] [] []) ?_ ?_
      · exact zAJ trivial trivial trivial rfl
      refine zAA rfl (.a rfl rfl .nil) ?_
      refine zAO ?_
      exact ends [_] [] (.cons (.tmp (zAN (zJH he (zJr (by omega) he2 h5)).symm)) .nil) (.cons (.one .v (.v _)) .nil) (by decide) trivial
     ·
      replace h5 := of_decide_eq_false h5
      refine zAM ?_
      refine zAY (s' := mk [(0, .p none (.sl false 4 (pvE l))), (8, .p none (.sl false 4 (pvE l))), (9, .vi ((pvE l).length : Int)), (10, .vi (i:Int)), (19, .vi (i:Int)), (20, .vb true), (21, .vb true), (22, .p none (.sl false 4 (pvE l))), (23, .vi (i:Int)), (24, .vi ((i - 1 : Nat):Int)), (25, .fea none [PV.v (.string e2.user), PV.v (.int .i64 e2.seq), PV.v (.int .i64 e2.kind), PV.v (.string e2.value)]), (26, .fea none [PV.v (.string e2.user), PV.v (.int .i64 e2.seq), PV.v (.int .i64 e2.kind), PV.v (.string e2.value)]), (27, .agg [.vs e2.user, .vi e2.seq, .vi e2.kind]), (28, .ptr 4 0), (29, .agg [.vs e.user, .vi e.seq, .vi e.kind]), (30, .vi (cmpK e2 e)), (31, .vb (decide (0 ≤ (cmpK e2 e)))), (32, .vb (decide (0 ≤ (cmpK e2 e))))] [(4, [.vs e.user, .vi e.seq, .vi e.kind, .vs e.value])] []) ?_ ?_
      · exact zAJ ⟨rfl, rfl, rfl, rfl, rfl, rfl, rfl, rfl, rfl, rfl, rfl, rfl, rfl, rfl, rfl, rfl, rfl, rfl, trivial⟩ ⟨rfl, trivial⟩ trivial rfl
      refine zAA rfl (.r rfl (zAf rfl rfl rfl (by omega)) (.m rfl rfl .nil)) ?_
      refine nxt (Q := fun _ _ => False) (z := i) (i + 1) ?_ ?_ ?_
      ·
       show (i + 1) ≤ l.length ∧ ∀ j e, j < (i + 1) → l[j]? = some e → zCz l j e = true
       exact ⟨by omega, zEQ hG he (zH5 h3' he2 h5)⟩
      ·
       show l.length - (i + 1) < l.length - i
       omega
      · exact zAJ ⟨rfl, rfl, rfl, (zAL (by omega)), trivial⟩ trivial trivial rfl
   ·
    have h3' := h3
    replace h3' : (zBc e) = false := zBF h3'
    refine zAc zBL rfl (.r rfl (zAG rfl rfl rfl isAgg56 sizeOf56 (nle rfl)) (.run [1600] [] rfl (zAK rfl 1600 (X := []) en59 rfl (.val nod) (.cons (.agg (.cons (.bor .v) (.cons (.bor .v) (.cons (.bor .v) (.cons (.bor .v) .nil))))) .nil) (by decide) all_nil .nil (zEA e) rfl rfl (nle rfl)) (.r rfl (zAW (zA5 (b := zBc e) rfl rfl) (by exact congrArg (fun b => AV.p none (.v (.bool b))) h3)) (.m rfl rfl (.not rfl (.not rfl (.not rfl (.not rfl (.not rfl (.not rfl (.not rfl (.not rfl (.not rfl (.not rfl (.not rfl (.not rfl (.not rfl (.not rfl (.r rfl (zAU (t := true) rfl rfl) .nil))))))))))))))))))) (by kernel_rfl) ?_
    refine zAZ (t := true) rfl (fun _ => ?_) (fun h => nomatch h)
    refine zAB ?_
    refine zAY (s' := mk [] [] []) ?_ ?_
    · exact zAJ trivial trivial trivial rfl
    refine zAA rfl (.a rfl rfl .nil) ?_
    refine zAO ?_
    exact ends [_] [] (.cons (.tmp (zAN (zJH he (zJt h3')).symm)) .nil) (.cons (.one .v (.v _)) .nil) (by decide) trivial
  ·
   replace h2 := of_decide_eq_false h2
   refine zAx ?_
   refine zAB (zAA rfl (.a rfl rfl .nil) ?_)
   refine zAO ?_
   exact ends [_] [] (.cons (.tmp (zAN (zMg (by omega) (by omega) hG).symm)) .nil) (.cons (.one .v (.v _)) .nil) (by decide) trivial
theorem zCL (l : List Ent) (hl : l.length ≤ 2000000) : Con Tryz.prog 30 [.one (PV.sl false 4 (pvE l))] [] [.one (.v (.bool (zAr l)))] := by
 refine zAQ func30 rfl rfl rfl rfl ?_
 have hle := zAF l
 refine zAB (zAA rfl (.a rfl rfl .nil) ?_)
 refine zAB ?_
 refine zAB (zAA rfl (.m rfl rfl (.r rfl (zAX rfl rfl underlying24) (.r rfl (zBN rfl rfl rfl) .nil))) ?_)
 refine zAZ (t := decide (400 < ((pvE l).length : Int))) rfl (fun h1 => ?_) (fun h1 => ?_)
 ·
  replace h1 := of_decide_eq_true h1
  refine zAB (zAA rfl (.a rfl rfl .nil) ?_)
  refine zAO ?_
  exact ends [_] [] (.cons (.tmp (zAN (zKA (by omega)).symm)) .nil) (.cons (.one .v (.v _)) .nil) (by decide) trivial
 ·
  replace h1 := of_decide_eq_false h1
  refine zAM ?_
  refine zAB ?_
  refine zAB (zAA rfl (.a rfl rfl .nil) ?_)
  refine zAS ?_
  refine zAp (σ := Nat) (fun i => mk [(0, .p none (.sl false 4 (pvE l))), (3, .vi (i:Int))] [] []) (fun i => i ≤ l.length ∧ ∀ j e, j < i → l[j]? = some e → zCz l j e = true) (fun i => l.length - i) 0 ⟨Nat.zero_le _, fun _ _ h => absurd h (Nat.not_lt_zero _)⟩ (zAJ ⟨rfl, (zAL (by omega)), trivial⟩ trivial trivial rfl) ?_
  rintro i hG
  replace hG : i ≤ l.length ∧ ∀ j e, j < i → l[j]? = some e → zCz l j e = true := hG
  obtain ⟨hi, hG⟩ := hG
  refine zAB ?_
  refine zAB (zAA rfl (.m rfl rfl (.m rfl rfl (.r rfl (zAX rfl rfl underlying24) (.r rfl (zA4 rfl rfl rfl) .nil)))) ?_)
  refine zAZ (t := decide ((i:Int) < ((pvE l).length : Int))) rfl (fun h2 => ?_) (fun h2 => ?_)
  ·
   replace h2 := of_decide_eq_true h2
   refine zAM ?_
   refine zAB ?_
   refine zAS ?_
   refine zAB ?_
   refine zAY (s' := mk [(0, .p none (.sl false 4 (pvE l))), (3, .vi (i:Int))] [] []) ?_ ?_
   · exact zAJ ⟨rfl, rfl, trivial⟩ trivial trivial rfl
   obtain ⟨e, he⟩ : ∃ e, l[i]? = some e := ⟨_, List.getElem?_eq_getElem (by (have hL := zAF l; omega))⟩
   have hlte := (List.getElem?_eq_some_iff.1 he).1
   rcases bfc (!(zBc e)) with h3 | h3
   ·
    have h3' := h3
    replace h3' : (zBc e) = true := zBG h3'
    rcases bfc (decide (0 < (i:Int))) with h4 | h4
    ·
     have h4' := h4
     replace h4' := of_decide_eq_false h4'
     refine zAc zBL rfl (.m rfl rfl (.m rfl rfl (.r rfl (zAh rfl rfl rfl underlying24 sizeOf56 rfl (by omega) (zA0 he)) (.r rfl (zA9 rfl rfl isAgg56 sizeOf56 (nle rfl)) (.run [1700] [] rfl (zAK rfl 1700 (X := []) en64 rfl (.val nod) (.cons (.agg (.cons (.bor .v) (.cons (.bor .v) (.cons (.bor .v) (.cons (.bor .v) .nil))))) .nil) (by decide) all_nil .nil (zCi e) rfl rfl (nle rfl)) (.r rfl (zAW (zA5 (b := zBc e) rfl rfl) (by exact congrArg (fun b => AV.p none (.v (.bool b))) h3)) (.m rfl rfl (.m rfl rfl (.r rfl (zAW (zBN rfl rfl rfl) (by exact congrArg (fun b => AV.p none (.v (.bool b))) h4)) (.m rfl rfl (.not rfl (.not rfl (.not rfl (.not rfl (.not rfl (.not rfl (.not rfl (.not rfl (.not rfl (.not rfl (.not rfl (.not rfl (.not rfl (.r rfl (zAU (t := false) rfl rfl) (.r rfl (zAU (t := false) rfl rfl) .nil))))))))))))))))))))))))) (by kernel_rfl) ?_
     refine zAZ (t := false) rfl (fun h => nomatch h) (fun _ => ?_)
     refine zAM ?_
     refine zAY (s' := mk [(0, .p none (.sl false 4 (pvE l))), (3, .vi (i:Int)), (20, .vi (i:Int)), (21, .vb false), (22, .vb false), (36, .vb false)] [] []) ?_ ?_
     · exact zAJ ⟨rfl, rfl, rfl, rfl, rfl, rfl, trivial⟩ trivial trivial rfl
     refine zAA rfl (.m rfl rfl (.r rfl (zAf rfl rfl rfl (by omega)) (.a rfl rfl .nil))) ?_
     refine nxt (Q := fun _ _ => False) (z := i) (i + 1) ?_ ?_ ?_
     ·
      show (i + 1) ≤ l.length ∧ ∀ j e, j < (i + 1) → l[j]? = some e → zCz l j e = true
      exact ⟨by omega, zEQ hG he (zG4 h3' (by omega))⟩
     ·
      show l.length - (i + 1) < l.length - i
      omega
     · exact zAJ ⟨rfl, (zAL (by omega)), trivial⟩ trivial trivial rfl
    ·
     have h4' := h4
     replace h4' := of_decide_eq_true h4'
     obtain ⟨e2, he2⟩ : ∃ e, l[(i - 1 : Nat)]? = some e := ⟨_, List.getElem?_eq_getElem (by (have hL := zAF l; omega))⟩
     have hlte2 := (List.getElem?_eq_some_iff.1 he2).1
     refine zAc zBL rfl (.m rfl rfl (.m rfl rfl (.r rfl (zAh rfl rfl rfl underlying24 sizeOf56 rfl (by omega) (zA0 he)) (.r rfl (zA9 rfl rfl isAgg56 sizeOf56 (nle rfl)) (.run [1700] [] rfl (zAK rfl 1700 (X := []) en64 rfl (.val nod) (.cons (.agg (.cons (.bor .v) (.cons (.bor .v) (.cons (.bor .v) (.cons (.bor .v) .nil))))) .nil) (by decide) all_nil .nil (zCi e) rfl rfl (nle rfl)) (.r rfl (zAW (zA5 (b := zBc e) rfl rfl) (by exact congrArg (fun b => AV.p none (.v (.bool b))) h3)) (.m rfl rfl (.m rfl rfl (.r rfl (zAW (zBN rfl rfl rfl) (by exact congrArg (fun b => AV.p none (.v (.bool b))) h4)) (.m rfl rfl (.m rfl rfl (.m rfl rfl (.r rfl (zAW (zAv rfl rfl rfl (by omega)) (((show (AV.p none (.v (.int .i64 ((i:Int) - 1)))) = AV.p none (.v (.int .i64 ((i - 1 : Nat) : Int))) from zAL (by omega))))) (.r rfl (zAh rfl rfl rfl underlying24 sizeOf56 rfl (by omega) (zA0 he2)) (.r rfl (zAo rfl rfl underlying56 rfl sizeOf54 (by decide)) (.r rfl (zA9 rfl rfl isAgg54 sizeOf54 (nle rfl)) (.m rfl rfl (.m rfl rfl (.r rfl (zAh rfl rfl rfl underlying24 sizeOf56 rfl (by omega) (zA0 he)) (.r rfl (zAo rfl rfl underlying56 rfl sizeOf54 (by decide)) (.r rfl (zA9 rfl rfl isAgg54 sizeOf54 (nle rfl)) (.run [3400] [] rfl (zAK rfl 3400 (X := []) en65 rfl (.val nod) (.cons (.agg (.cons (.bor .v) (.cons (.bor .v) (.cons (.bor .v) .nil)))) (.cons (.agg (.cons (.bor .v) (.cons (.bor .v) (.cons (.bor .v) .nil)))) .nil)) (by decide) all_nil .nil (zEs e2 e) rfl rfl (nle rfl)) (.r rfl (zCQ rfl rfl rfl) (.r rfl (zAU (t := true) rfl rfl) (.r rfl (zAU (t := false) rfl rfl) .nil))))))))))))))))))))))))) (by kernel_rfl) ?_
     refine zAZ (t := decide (0 ≤ (kcmp e2 e))) rfl (fun h5 => ?_) (fun h5 => ?_)
     ·
      replace h5 := of_decide_eq_true h5
      refine zAB ?_
      refine zAY (s' := mk [] [] []) ?_ ?_
      · exact zAJ trivial trivial trivial rfl
      refine zAA rfl (.a rfl rfl .nil) ?_
      refine zAO ?_
      exact ends [_] [] (.cons (.tmp (zAN (zJH he (zJr (by omega) he2 (by rw [← kc_ok hG (by omega) he2 h3']; exact h5))).symm)) .nil) (.cons (.one .v (.v _)) .nil) (by decide) trivial
     ·
      replace h5 := of_decide_eq_false h5
      refine zAM ?_
      refine zAY (s' := mk [(0, .p none (.sl false 4 (pvE l))), (3, .vi (i:Int)), (20, .vi (i:Int)), (21, .vb true), (22, .vb true), (23, .p none (.sl false 4 (pvE l))), (24, .vi (i:Int)), (25, .vi ((i - 1 : Nat):Int)), (26, .fea none [PV.v (.string e2.user), PV.v (.int .i64 e2.seq), PV.v (.int .i64 e2.kind), PV.v (.string e2.value)]), (27, .fea none [PV.v (.string e2.user), PV.v (.int .i64 e2.seq), PV.v (.int .i64 e2.kind), PV.v (.string e2.value)]), (28, .agg [.vs e2.user, .vi e2.seq, .vi e2.kind]), (29, .p none (.sl false 4 (pvE l))), (30, .vi (i:Int)), (31, .fea none [PV.v (.string e.user), PV.v (.int .i64 e.seq), PV.v (.int .i64 e.kind), PV.v (.string e.value)]), (32, .fea none [PV.v (.string e.user), PV.v (.int .i64 e.seq), PV.v (.int .i64 e.kind), PV.v (.string e.value)]), (33, .agg [.vs e.user, .vi e.seq, .vi e.kind]), (34, .vi (kcmp e2 e)), (35, .vb (decide (0 ≤ (kcmp e2 e)))), (36, .vb (decide (0 ≤ (kcmp e2 e))))] [] []) ?_ ?_
      · exact zAJ ⟨rfl, rfl, rfl, rfl, rfl, rfl, rfl, rfl, rfl, rfl, rfl, rfl, rfl, rfl, rfl, rfl, rfl, rfl, rfl, trivial⟩ trivial trivial rfl
      refine zAA rfl (.m rfl rfl (.r rfl (zAf rfl rfl rfl (by omega)) (.a rfl rfl .nil))) ?_
      refine nxt (Q := fun _ _ => False) (z := i) (i + 1) ?_ ?_ ?_
      ·
       show (i + 1) ≤ l.length ∧ ∀ j e, j < (i + 1) → l[j]? = some e → zCz l j e = true
       exact ⟨by omega, zEQ hG he (zH5 h3' he2 (by rw [← kc_ok hG (by omega) he2 h3']; exact h5))⟩
      ·
       show l.length - (i + 1) < l.length - i
       omega
      · exact zAJ ⟨rfl, (zAL (by omega)), trivial⟩ trivial trivial rfl
   ·
    have h3' := h3
    replace h3' : (zBc e) = false := zBF h3'
    refine zAc zBL rfl (.m rfl rfl (.m rfl rfl (.r rfl (zAh rfl rfl rfl underlying24 sizeOf56 rfl (by omega) (zA0 he)) (.r rfl (zA9 rfl rfl isAgg56 sizeOf56 (nle rfl)) (.run [1700] [] rfl (zAK rfl 1700 (X := []) en64 rfl (.val nod) (.cons (.agg (.cons (.bor .v) (.cons (.bor .v) (.cons (.bor .v) (.cons (.bor .v) .nil))))) .nil) (by decide) all_nil .nil (zCi e) rfl rfl (nle rfl)) (.r rfl (zAW (zA5 (b := zBc e) rfl rfl) (by exact congrArg (fun b => AV.p none (.v (.bool b))) h3)) (.m rfl rfl (.not rfl (.not rfl (.not rfl (.not rfl (.not rfl (.not rfl (.not rfl (.not rfl (.not rfl (.not rfl (.not rfl (.not rfl (.not rfl (.not rfl (.not rfl (.not rfl (.not rfl (.r rfl (zAU (t := true) rfl rfl) .nil))))))))))))))))))))))))) (by kernel_rfl) ?_
    refine zAZ (t := true) rfl (fun _ => ?_) (fun h => nomatch h)
    refine zAB ?_
    refine zAY (s' := mk [] [] []) ?_ ?_
    · exact zAJ trivial trivial trivial rfl
    refine zAA rfl (.a rfl rfl .nil) ?_
    refine zAO ?_
    exact ends [_] [] (.cons (.tmp (zAN (zJH he (zJt h3')).symm)) .nil) (.cons (.one .v (.v _)) .nil) (by decide) trivial
  ·
   replace h2 := of_decide_eq_false h2
   refine zAx ?_
   refine zAB (zAA rfl (.a rfl rfl .nil) ?_)
   refine zAO ?_
   exact ends [_] [] (.cons (.tmp (zAN (zMg (by omega) (by omega) hG).symm)) .nil) (.cons (.one .v (.v _)) .nil) (by decide) trivial
theorem zKi (l : List Int) (hl : l.length ≤ 9000000000000000000) : Con Tryz.prog 24 [.one (PV.sl false 1 (pvI l))] [] [.one (.v (.bool (zBP l)))] := by
 refine zAQ func24 rfl rfl rfl rfl ?_
 have hle := zAT l
 refine zAB (zAA rfl (.a rfl rfl .nil) ?_)
 refine zAB ?_
 refine zAB (zAA rfl (.m rfl rfl (.r rfl (zAX rfl rfl underlying26) (.m rfl rfl .nil))) ?_)
 refine zAS ?_
 refine zAp (σ := Nat) (fun i => mk [(0, .p none (.sl false 1 (pvI l))), (5, .p none (.sl false 1 (pvI l))), (6, .vi ((pvI l).length : Int)), (7, .vi (i:Int))] [] []) (fun i => i ≤ l.length ∧ ∀ j x, j < i → l[j]? = some x → zCB l j x = true) (fun i => l.length - i) 0 ⟨Nat.zero_le _, fun _ _ h => absurd h (Nat.not_lt_zero _)⟩ (zAJ ⟨rfl, rfl, rfl, (zAL (by omega)), trivial⟩ trivial trivial rfl) ?_
 rintro i hG
 replace hG : i ≤ l.length ∧ ∀ j x, j < i → l[j]? = some x → zCB l j x = true := hG
 obtain ⟨hi, hG⟩ := hG
 refine zAB (zAA rfl (.r rfl (zA4 rfl rfl rfl) .nil) ?_)
 refine zAB ?_
 refine zAZ (t := decide ((i:Int) < ((pvI l).length : Int))) rfl (fun h1 => ?_) (fun h1 => ?_)
 ·
  replace h1 := of_decide_eq_true h1
  refine zAM ?_
  refine zAB ?_
  refine zAS ?_
  refine zAB ?_
  obtain ⟨e, he⟩ : ∃ e, l[i]? = some e := ⟨_, List.getElem?_eq_getElem (by (have hL := zAT l; omega))⟩
  have hlte := (List.getElem?_eq_some_iff.1 he).1
  refine zAA rfl (.m rfl rfl (.r rfl (zAh rfl rfl rfl underlying26 sizeOf2 rfl (by omega) (zB0 he)) (.r rfl (zAg rfl rfl isAgg2 rfl) (.a rfl rfl (.a rfl rfl .nil))))) ?_
  refine zAB ?_
  refine zAY (s' := mk [(0, .p none (.sl false 1 (pvI l))), (3, .vi (i:Int)), (4, .vi e), (5, .p none (.sl false 1 (pvI l))), (6, .vi ((pvI l).length : Int)), (7, .vi (i:Int))] [] []) ?_ ?_
  · exact zAJ ⟨rfl, rfl, rfl, rfl, rfl, rfl, trivial⟩ trivial trivial rfl
  rcases bfc (!(zAs e 0 1000000000000)) with h2 | h2
  ·
   have h2' := h2
   replace h2' : (zAs e 0 1000000000000) = true := zBG h2'
   rcases bfc (decide (0 < (i:Int))) with h3 | h3
   ·
    have h3' := h3
    replace h3' := of_decide_eq_false h3'
    refine zAA rfl (.m rfl rfl (.run [1300] [] rfl (zAK rfl 1300 (X := []) en21 rfl (.val nod) (.cons (.one (.bor .v)) (.cons (.one (.bor .v)) (.cons (.one (.bor .v)) .nil))) (by decide) all_nil .nil (zBf e 0 1000000000000) rfl rfl (nle rfl)) (.r rfl (zAW (zA5 (b := zAs e 0 1000000000000) rfl rfl) (by exact congrArg (fun b => AV.p none (.v (.bool b))) h2)) (.m rfl rfl (.m rfl rfl (.r rfl (zAW (zBN rfl rfl rfl) (by exact congrArg (fun b => AV.p none (.v (.bool b))) h3)) (.m rfl rfl (.not rfl (.not rfl (.not rfl (.not rfl (.not rfl (.not rfl (.not rfl (.r rfl (zAU (t := false) rfl rfl) (.r rfl (zAU (t := false) rfl rfl) .nil)))))))))))))))) ?_
    refine zAZ (t := false) rfl (fun h => nomatch h) (fun _ => ?_)
    refine zAM ?_
    refine zAY (s' := mk [(0, .p none (.sl false 1 (pvI l))), (5, .p none (.sl false 1 (pvI l))), (6, .vi ((pvI l).length : Int)), (7, .vi (i:Int)), (16, .vi (i:Int)), (17, .vb false), (18, .vb false), (26, .vb false)] [] []) ?_ ?_
    · exact zAJ ⟨rfl, rfl, rfl, rfl, rfl, rfl, rfl, rfl, trivial⟩ trivial trivial rfl
    refine zAA rfl (.r rfl (zAf rfl rfl rfl (by omega)) (.m rfl rfl .nil)) ?_
    refine nxt (Q := fun _ _ => False) (z := i) (i + 1) ?_ ?_ ?_
    ·
     show (i + 1) ≤ l.length ∧ ∀ j x, j < (i + 1) → l[j]? = some x → zCB l j x = true
     exact ⟨by omega, zEQ hG he (zGD h2' (by omega))⟩
    ·
     show l.length - (i + 1) < l.length - i
     omega
    · exact zAJ ⟨rfl, rfl, rfl, (zAL (by omega)), trivial⟩ trivial trivial rfl
   ·
    have h3' := h3
    replace h3' := of_decide_eq_true h3'
    obtain ⟨e2, he2⟩ : ∃ e, l[(i - 1 : Nat)]? = some e := ⟨_, List.getElem?_eq_getElem (by (have hL := zAT l; omega))⟩
    have hlte2 := (List.getElem?_eq_some_iff.1 he2).1
    refine zAA rfl (.m rfl rfl (.run [1300] [] rfl (zAK rfl 1300 (X := []) en21 rfl (.val nod) (.cons (.one (.bor .v)) (.cons (.one (.bor .v)) (.cons (.one (.bor .v)) .nil))) (by decide) all_nil .nil (zBf e 0 1000000000000) rfl rfl (nle rfl)) (.r rfl (zAW (zA5 (b := zAs e 0 1000000000000) rfl rfl) (by exact congrArg (fun b => AV.p none (.v (.bool b))) h2)) (.m rfl rfl (.m rfl rfl (.r rfl (zAW (zBN rfl rfl rfl) (by exact congrArg (fun b => AV.p none (.v (.bool b))) h3)) (.m rfl rfl (.m rfl rfl (.m rfl rfl (.m rfl rfl (.r rfl (zAW (zAv rfl rfl rfl (by omega)) (((show (AV.p none (.v (.int .i64 ((i:Int) - 1)))) = AV.p none (.v (.int .i64 ((i - 1 : Nat) : Int))) from zAL (by omega))))) (.r rfl (zAh rfl rfl rfl underlying26 sizeOf2 rfl (by omega) (zB0 he2)) (.r rfl (zAg rfl rfl isAgg2 rfl) (.r rfl (zB5 rfl rfl rfl) (.r rfl (zAU (t := true) rfl rfl) (.r rfl (zAU (t := false) rfl rfl) .nil)))))))))))))))) ?_
    refine zAZ (t := decide (e ≤ e2)) rfl (fun h4 => ?_) (fun h4 => ?_)
    ·
     replace h4 := of_decide_eq_true h4
     refine zAB ?_
     refine zAY (s' := mk [] [] []) ?_ ?_
     · exact zAJ trivial trivial trivial rfl
     refine zAA rfl (.a rfl rfl .nil) ?_
     refine zAO ?_
     exact ends [_] [] (.cons (.tmp (zAN (zEZ he (zH3 (by omega) he2 h4)).symm)) .nil) (.cons (.one .v (.v _)) .nil) (by decide) trivial
    ·
     replace h4 := of_decide_eq_false h4
     refine zAM ?_
     refine zAY (s' := mk [(0, .p none (.sl false 1 (pvI l))), (5, .p none (.sl false 1 (pvI l))), (6, .vi ((pvI l).length : Int)), (7, .vi (i:Int)), (16, .vi (i:Int)), (17, .vb true), (18, .vb true), (19, .vi e), (20, .p none (.sl false 1 (pvI l))), (21, .vi (i:Int)), (22, .vi ((i - 1 : Nat):Int)), (23, .fea none [PV.v (.int .i64 e2)]), (24, .vi e2), (25, .vb (decide (e ≤ e2))), (26, .vb (decide (e ≤ e2)))] [] []) ?_ ?_
     · exact zAJ ⟨rfl, rfl, rfl, rfl, rfl, rfl, rfl, rfl, rfl, rfl, rfl, rfl, rfl, rfl, rfl, trivial⟩ trivial trivial rfl
     refine zAA rfl (.r rfl (zAf rfl rfl rfl (by omega)) (.m rfl rfl .nil)) ?_
     refine nxt (Q := fun _ _ => False) (z := i) (i + 1) ?_ ?_ ?_
     ·
      show (i + 1) ≤ l.length ∧ ∀ j x, j < (i + 1) → l[j]? = some x → zCB l j x = true
      exact ⟨by omega, zEQ hG he (zG3 h2' he2 h4)⟩
     ·
      show l.length - (i + 1) < l.length - i
      omega
     · exact zAJ ⟨rfl, rfl, rfl, (zAL (by omega)), trivial⟩ trivial trivial rfl
  ·
   have h2' := h2
   replace h2' : (zAs e 0 1000000000000) = false := zBF h2'
   refine zAA rfl (.m rfl rfl (.run [1300] [] rfl (zAK rfl 1300 (X := []) en21 rfl (.val nod) (.cons (.one (.bor .v)) (.cons (.one (.bor .v)) (.cons (.one (.bor .v)) .nil))) (by decide) all_nil .nil (zBf e 0 1000000000000) rfl rfl (nle rfl)) (.r rfl (zAW (zA5 (b := zAs e 0 1000000000000) rfl rfl) (by exact congrArg (fun b => AV.p none (.v (.bool b))) h2)) (.m rfl rfl (.not rfl (.not rfl (.not rfl (.not rfl (.not rfl (.not rfl (.not rfl (.not rfl (.not rfl (.not rfl (.not rfl (.r rfl (zAU (t := true) rfl rfl) .nil)))))))))))))))) ?_
   refine zAZ (t := true) rfl (fun _ => ?_) (fun h => nomatch h)
   refine zAB ?_
   refine zAY (s' := mk [] [] []) ?_ ?_
   · exact zAJ trivial trivial trivial rfl
   refine zAA rfl (.a rfl rfl .nil) ?_
   refine zAO ?_
   exact ends [_] [] (.cons (.tmp (zAN (zEZ he (zH4 h2')).symm)) .nil) (.cons (.one .v (.v _)) .nil) (by decide) trivial
 ·
  replace h1 := of_decide_eq_false h1
  refine zAx ?_
  refine zAB (zAA rfl (.m rfl rfl (.r rfl (zAX rfl rfl underlying26) (.r rfl (zB5 rfl rfl rfl) (.a rfl rfl .nil)))) ?_)
  refine zAO ?_
  exact ends [_] [] (.cons (.tmp (zAN (by rw [zGq (by omega) hG, hle]; exact decide_eq_decide.2 (by omega)))) .nil) (.cons (.one .v (.v _)) .nil) (by decide) trivial
theorem zGo (l : List Int) (hl : l.length ≤ 9000000000000000000) : Con Tryz.prog 32 [.one (PV.sl false 1 (pvI l))] [] [.one (.v (.bool (zBP l)))] := by
 refine zAQ func32 rfl rfl rfl rfl ?_
 have hle := zAT l
 refine zAB (zAA rfl (.a rfl rfl .nil) ?_)
 refine zAB ?_
 refine zAB (zAA rfl (.m rfl rfl (.r rfl (zAX rfl rfl underlying26) (.r rfl (zBN rfl rfl rfl) .nil))) ?_)
 refine zAZ (t := decide (20 < ((pvI l).length : Int))) rfl (fun h1 => ?_) (fun h1 => ?_)
 ·
  replace h1 := of_decide_eq_true h1
  refine zAB (zAA rfl (.a rfl rfl .nil) ?_)
  refine zAO ?_
  exact ends [_] [] (.cons (.tmp (zAN (zM0 (by omega)).symm)) .nil) (.cons (.one .v (.v _)) .nil) (by decide) trivial
 ·
  replace h1 := of_decide_eq_false h1
  refine zAM ?_
  refine zAB ?_
  refine zAB (zAA rfl (.a rfl rfl .nil) ?_)
  refine zAS ?_
  refine zAp (σ := Nat) (fun i => mk [(0, .p none (.sl false 1 (pvI l))), (3, .vi (i:Int))] [] []) (fun i => i ≤ l.length ∧ ∀ j x, j < i → l[j]? = some x → zCB l j x = true) (fun i => l.length - i) 0 ⟨Nat.zero_le _, fun _ _ h => absurd h (Nat.not_lt_zero _)⟩ (zAJ ⟨rfl, (zAL (by omega)), trivial⟩ trivial trivial rfl) ?_
  rintro i hG
  replace hG : i ≤ l.length ∧ ∀ j x, j < i → l[j]? = some x → zCB l j x = true := hG
  obtain ⟨hi, hG⟩ := hG
  refine zAB ?_
  refine zAB (zAA rfl (.m rfl rfl (.m rfl rfl (.r rfl (zAX rfl rfl underlying26) (.r rfl (zA4 rfl rfl rfl) .nil)))) ?_)
  refine zAZ (t := decide ((i:Int) < ((pvI l).length : Int))) rfl (fun h2 => ?_) (fun h2 => ?_)
  ·
   replace h2 := of_decide_eq_true h2
   refine zAM ?_
   refine zAB ?_
   refine zAS ?_
   refine zAB ?_
   refine zAY (s' := mk [(0, .p none (.sl false 1 (pvI l))), (3, .vi (i:Int))] [] []) ?_ ?_
   · exact zAJ ⟨rfl, rfl, trivial⟩ trivial trivial rfl
   obtain ⟨e, he⟩ : ∃ e, l[i]? = some e := ⟨_, List.getElem?_eq_getElem (by (have hL := zAT l; omega))⟩
   have hlte := (List.getElem?_eq_some_iff.1 he).1
   rcases bfc (!(zAs e 0 1000000000000)) with h3 | h3
   ·
    have h3' := h3
    replace h3' : (zAs e 0 1000000000000) = true := zBG h3'
    rcases bfc (decide (0 < (i:Int))) with h4 | h4
    ·
     have h4' := h4
     replace h4' := of_decide_eq_false h4'
     refine zAc zBL rfl (.m rfl rfl (.m rfl rfl (.r rfl (zAh rfl rfl rfl underlying26 sizeOf2 rfl (by omega) (zB0 he)) (.r rfl (zAg rfl rfl isAgg2 rfl) (.run [1700] [] rfl (zAK rfl 1700 (X := []) en29 rfl (.val nod) (.cons (.one (.bor .v)) (.cons (.one (.bor .v)) (.cons (.one (.bor .v)) .nil))) (by decide) all_nil .nil (zCm e 0 1000000000000) rfl rfl (nle rfl)) (.r rfl (zAW (zA5 (b := zAs e 0 1000000000000) rfl rfl) (by exact congrArg (fun b => AV.p none (.v (.bool b))) h3)) (.m rfl rfl (.m rfl rfl (.r rfl (zAW (zBN rfl rfl rfl) (by exact congrArg (fun b => AV.p none (.v (.bool b))) h4)) (.m rfl rfl (.not rfl (.not rfl (.not rfl (.not rfl (.not rfl (.not rfl (.not rfl (.not rfl (.not rfl (.not rfl (.r rfl (zAU (t := false) rfl rfl) (.r rfl (zAU (t := false) rfl rfl) .nil)))))))))))))))))))))) (by kernel_rfl) ?_
     refine zAZ (t := false) rfl (fun h => nomatch h) (fun _ => ?_)
     refine zAM ?_
     refine zAY (s' := mk [(0, .p none (.sl false 1 (pvI l))), (3, .vi (i:Int)), (20, .vi (i:Int)), (21, .vb false), (22, .vb false), (33, .vb false)] [] []) ?_ ?_
     · exact zAJ ⟨rfl, rfl, rfl, rfl, rfl, rfl, trivial⟩ trivial trivial rfl
     refine zAA rfl (.m rfl rfl (.r rfl (zAf rfl rfl rfl (by omega)) (.a rfl rfl .nil))) ?_
     refine nxt (Q := fun _ _ => False) (z := i) (i + 1) ?_ ?_ ?_
     ·
      show (i + 1) ≤ l.length ∧ ∀ j x, j < (i + 1) → l[j]? = some x → zCB l j x = true
      exact ⟨by omega, zEQ hG he (zGD h3' (by omega))⟩
     ·
      show l.length - (i + 1) < l.length - i
      omega
     · exact zAJ ⟨rfl, (zAL (by omega)), trivial⟩ trivial trivial rfl
    ·
     have h4' := h4
     replace h4' := of_decide_eq_true h4'
     obtain ⟨e2, he2⟩ : ∃ e, l[(i - 1 : Nat)]? = some e := ⟨_, List.getElem?_eq_getElem (by (have hL := zAT l; omega))⟩
     have hlte2 := (List.getElem?_eq_some_iff.1 he2).1
     refine zAc zBL rfl (.m rfl rfl (.m rfl rfl (.r rfl (zAh rfl rfl rfl underlying26 sizeOf2 rfl (by omega) (zB0 he)) (.r rfl (zAg rfl rfl isAgg2 rfl) (.run [1700] [] rfl (zAK rfl 1700 (X := []) en29 rfl (.val nod) (.cons (.one (.bor .v)) (.cons (.one (.bor .v)) (.cons (.one (.bor .v)) .nil))) (by decide) all_nil .nil (zCm e 0 1000000000000) rfl rfl (nle rfl)) (.r rfl (zAW (zA5 (b := zAs e 0 1000000000000) rfl rfl) (by exact congrArg (fun b => AV.p none (.v (.bool b))) h3)) (.m rfl rfl (.m rfl rfl (.r rfl (zAW (zBN rfl rfl rfl) (by exact congrArg (fun b => AV.p none (.v (.bool b))) h4)) (.m rfl rfl (.m rfl rfl (.m rfl rfl (.r rfl (zAW (zAv rfl rfl rfl (by omega)) (((show (AV.p none (.v (.int .i64 ((i:Int) - 1)))) = AV.p none (.v (.int .i64 ((i - 1 : Nat) : Int))) from zAL (by omega))))) (.r rfl (zAh rfl rfl rfl underlying26 sizeOf2 rfl (by omega) (zB0 he2)) (.r rfl (zAg rfl rfl isAgg2 rfl) (.m rfl rfl (.m rfl rfl (.r rfl (zAh rfl rfl rfl underlying26 sizeOf2 rfl (by omega) (zB0 he)) (.r rfl (zAg rfl rfl isAgg2 rfl) (.r rfl (zCQ rfl rfl rfl) (.r rfl (zAU (t := true) rfl rfl) (.r rfl (zAU (t := false) rfl rfl) .nil)))))))))))))))))))))) (by kernel_rfl) ?_
     refine zAZ (t := decide (e ≤ e2)) rfl (fun h5 => ?_) (fun h5 => ?_)
     ·
      replace h5 := of_decide_eq_true h5
      refine zAB ?_
      refine zAY (s' := mk [] [] []) ?_ ?_
      · exact zAJ trivial trivial trivial rfl
      refine zAA rfl (.a rfl rfl .nil) ?_
      refine zAO ?_
      exact ends [_] [] (.cons (.tmp (zAN (zEZ he (zH3 (by omega) he2 h5)).symm)) .nil) (.cons (.one .v (.v _)) .nil) (by decide) trivial
     ·
      replace h5 := of_decide_eq_false h5
      refine zAM ?_
      refine zAY (s' := mk [(0, .p none (.sl false 1 (pvI l))), (3, .vi (i:Int)), (20, .vi (i:Int)), (21, .vb true), (22, .vb true), (23, .p none (.sl false 1 (pvI l))), (24, .vi (i:Int)), (25, .vi ((i - 1 : Nat):Int)), (26, .fea none [PV.v (.int .i64 e2)]), (27, .vi e2), (28, .p none (.sl false 1 (pvI l))), (29, .vi (i:Int)), (30, .fea none [PV.v (.int .i64 e)]), (31, .vi e), (32, .vb (decide (e ≤ e2))), (33, .vb (decide (e ≤ e2)))] [] []) ?_ ?_
      · exact zAJ ⟨rfl, rfl, rfl, rfl, rfl, rfl, rfl, rfl, rfl, rfl, rfl, rfl, rfl, rfl, rfl, rfl, trivial⟩ trivial trivial rfl
      refine zAA rfl (.m rfl rfl (.r rfl (zAf rfl rfl rfl (by omega)) (.a rfl rfl .nil))) ?_
      refine nxt (Q := fun _ _ => False) (z := i) (i + 1) ?_ ?_ ?_
      ·
       show (i + 1) ≤ l.length ∧ ∀ j x, j < (i + 1) → l[j]? = some x → zCB l j x = true
       exact ⟨by omega, zEQ hG he (zG3 h3' he2 h5)⟩
      ·
       show l.length - (i + 1) < l.length - i
       omega
      · exact zAJ ⟨rfl, (zAL (by omega)), trivial⟩ trivial trivial rfl
   ·
    have h3' := h3
    replace h3' : (zAs e 0 1000000000000) = false := zBF h3'
    refine zAc zBL rfl (.m rfl rfl (.m rfl rfl (.r rfl (zAh rfl rfl rfl underlying26 sizeOf2 rfl (by omega) (zB0 he)) (.r rfl (zAg rfl rfl isAgg2 rfl) (.run [1700] [] rfl (zAK rfl 1700 (X := []) en29 rfl (.val nod) (.cons (.one (.bor .v)) (.cons (.one (.bor .v)) (.cons (.one (.bor .v)) .nil))) (by decide) all_nil .nil (zCm e 0 1000000000000) rfl rfl (nle rfl)) (.r rfl (zAW (zA5 (b := zAs e 0 1000000000000) rfl rfl) (by exact congrArg (fun b => AV.p none (.v (.bool b))) h3)) (.m rfl rfl (.not rfl (.not rfl (.not rfl (.not rfl (.not rfl (.not rfl (.not rfl (.not rfl (.not rfl (.not rfl (.not rfl (.not rfl (.not rfl (.not rfl (.r rfl (zAU (t := true) rfl rfl) .nil)))))))))))))))))))))) (by kernel_rfl) ?_
    refine zAZ (t := true) rfl (fun _ => ?_) (fun h => nomatch h)
    refine zAB ?_
    refine zAY (s' := mk [] [] []) ?_ ?_
    · exact zAJ trivial trivial trivial rfl
    refine zAA rfl (.a rfl rfl .nil) ?_
    refine zAO ?_
    exact ends [_] [] (.cons (.tmp (zAN (zEZ he (zH4 h3')).symm)) .nil) (.cons (.one .v (.v _)) .nil) (by decide) trivial
  ·
   replace h2 := of_decide_eq_false h2
   refine zAx ?_
   refine zAB (zAA rfl (.a rfl rfl .nil) ?_)
   refine zAO ?_
   exact ends [_] [] (.cons (.tmp (zAN (by rw [zGq (by omega) hG]; exact (decide_eq_true (by omega)).symm))) .nil) (.cons (.one .v (.v _)) .nil) (by decide) trivial
end Go.Rl

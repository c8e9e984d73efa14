/- Promises of functions, proved by walks over their operations; no conditions beyond those that each theorem states. -/
import Derived.Test.YtamebecmgdbmnaaGreatDoorRuQ
set_option linter.unusedSimpArgs false
set_option linter.unusedVariables false
namespace Go.Rl
open Go.Proofs Go.Proofs.Tryz
set_option maxRecDepth 1000000
set_option maxHeartbeats 2000000
theorem zFg : (Tryz.prog.info? 43).map (fun i => (i.zero, i.size, i.bytes)) = some (some (.agg #[.string ⟨#[]⟩, .int .i64 0, .int .i64 0]), 3, 32) := by kernel_rfl
theorem zFs : (Tryz.prog.info? 104).map (fun i => (i.zero, i.size, i.bytes)) = some (some (.agg #[.string ⟨#[]⟩, .bool false]), 2, 24) := by kernel_rfl
theorem en135 : En Tryz.prog 135 := zAl func135 (by decide) rfl
theorem en118 : En Tryz.prog 118 := zAl func118 (by decide) rfl
theorem zON : En Tryz.prog 119 := zAl func119 (by decide) rfl
theorem en80 : En Tryz.prog 80 := zAl func80 (by decide) rfl
theorem en89 : En Tryz.prog 89 := zAl func89 (by decide) rfl
theorem en83 : En Tryz.prog 83 := zAl func83 (by decide) rfl
theorem en122 : En Tryz.prog 122 := zAl func122 (by decide) rfl
theorem en123 : En Tryz.prog 123 := zAl func123 (by decide) rfl
theorem en90 : En Tryz.prog 90 := zAl func90 (by decide) rfl
theorem en95 : En Tryz.prog 95 := zAl func95 (by decide) rfl
theorem zCE (s : ByteArray) (b : Bool) (hs : s.size ≤ 9000000000000000000) : Con Tryz.prog 83 [.rptr 2 [PV.v (.string s), PV.v (.bool b)]] [some (pvTk (nS s b))] [.one (.v (.int .i64 (nV s)))] := by
 refine zAR func83 rfl rfl rfl rfl ?_
 refine zAB (zAA rfl (.a rfl rfl .nil) ?_)
 refine zAB (zAA rfl (.m rfl rfl (.r rfl (zAe rfl rfl) (.r rfl (zA1 rfl rfl underlying104 rfl sizeOf9 (by decide)) (.r rfl (zA3 rfl rfl rfl rfl isAgg9 rfl) (.run [1100, 1101, 1102] [] rfl (zAF rfl 1100 (X := []) en121 rfl (.val nod) (.cons (.one (.bor .v)) .nil) (by decide) all_nil .nil (zGJ s (by omega)) rfl rfl (nle rfl)) (.m rfl rfl (.r rfl (zAH rfl rfl rfl) (.r rfl (zAH rfl rfl rfl) (.r rfl (zAH rfl rfl rfl) (.a rfl rfl (.a rfl rfl (.a rfl rfl .nil)))))))))))) ?_)
 refine zAB ?_
 refine zAB ?_
 refine zAQ (s' := mk [(0, .ea 100000 0 0), (3, .p none (.v (.int .u64 ((tvN (zAP s) : Nat) : Int)))), (4, .vs (tvR (zAP s))), (5, .vb ((zAP s).isSome))] [] [(100000, 2, pvTk (s, b))]) ?_ ?_
 · exact zAJ ⟨rfl, rfl, rfl, rfl, trivial⟩ trivial ⟨rfl, trivial⟩ rfl
 rcases bfc (!((zAP s).isSome)) with h1 | h1
 ·
  have h1' := h1
  replace h1' : ((zAP s).isSome) = true := zAq h1'
  refine zAA rfl (.m rfl rfl (.r rfl (zAI (zAa (b := (zAP s).isSome) rfl rfl) (zAE h1)) (.m rfl rfl (.m rfl rfl (.r rfl (zBH rfl rfl rfl) (.r rfl (zAg rfl rfl) .nil)))))) ?_
  refine zAT (t := decide (4611686018427387904 < ((tvN (zAP s) : Nat) : Int))) rfl (fun h2 => ?_) (fun h2 => ?_)
  ·
   replace h2 := of_decide_eq_true h2
   refine zAB (zAA rfl (.m rfl rfl (.r rfl (zAe rfl rfl) (.r rfl (zA1 rfl rfl underlying104 rfl sizeOf4 (by decide)) (.r rfl (zBC rfl rfl rfl (FlatP.nf (zAs _)) rfl rfl rfl (.cons .v .nil) sizeOf4 rfl (nle rfl)) .nil)))) ?_)
   have hr3 : (pvTk (s, b)).set 0 [PV.v (.string s), PV.v (.bool true)] = pvTk (s, true) := by rfl
   refine zAQ (s' := mk [] [] [(100000, 2, pvTk (s, true))]) ?_ ?_
   · exact zAJ trivial trivial ⟨(congrArg (fun x => some (2, x)) hr3), trivial⟩ rfl
   refine zAB (zAA rfl (.a rfl rfl .nil) ?_)
   refine zAK ?_
   exact ends [_] [] (.cons (.tmp (zAG (zLb (b := b) (fun q => by have := q.2; omega)).1.symm)) .nil) (.cons (.one .v (.v _)) .nil) (by decide) (zGk (congrArg (fun x => some (2, x)) (congrArg pvTk ((zLb (b := b) (fun q => by have := q.2; omega)).2.symm))) (zAs _) (by decide))
  ·
   replace h2 := of_decide_eq_false h2
   refine zAM ?_
   refine zAB (zAA rfl (.m rfl rfl (.m rfl rfl (.r rfl (zAe rfl rfl) (.r rfl (zA1 rfl rfl underlying104 rfl sizeOf9 (by decide)) (.r rfl (zBC rfl rfl rfl (FlatP.nf (zAs _)) rfl rfl rfl (.cons .v .nil) sizeOf9 rfl (nle rfl)) .nil))))) ?_)
   have hr4 : (pvTk (s, b)).set 0 [PV.v (.string (tvR (zAP s))), PV.v (.bool b)] = pvTk (tvR (zAP s), b) := by rfl
   refine zAQ (s' := mk [(3, .p none (.v (.int .u64 ((tvN (zAP s) : Nat) : Int))))] [] [(100000, 2, pvTk (tvR (zAP s), b))]) ?_ ?_
   · exact zAJ ⟨rfl, trivial⟩ trivial ⟨(congrArg (fun x => some (2, x)) hr4), trivial⟩ rfl
   refine zAB (zAA rfl (.m rfl rfl (.r rfl (zBe rfl rfl underlying58 underlying2 (by omega)) (.a rfl rfl .nil))) ?_)
   refine zAK ?_
   exact ends [_] [] (.cons (.tmp (zAG (zHc (b := b) h1' (by omega)).1.symm)) .nil) (.cons (.one .v (.v _)) .nil) (by decide) (zGk (congrArg (fun x => some (2, x)) (congrArg pvTk ((zHc (b := b) h1' (by omega)).2.symm))) (zAs _) (by decide))
 ·
  have h1' := h1
  replace h1' : ((zAP s).isSome) = false := zAp h1'
  refine zAA rfl (.m rfl rfl (.r rfl (zAI (zAa (b := (zAP s).isSome) rfl rfl) (zAE h1)) (.m rfl rfl (.not rfl (.not rfl (.r rfl (zAh rfl rfl) .nil)))))) ?_
  refine zAT (t := true) rfl (fun _ => ?_) (fun h => nomatch h)
  refine zAB (zAA rfl (.m rfl rfl (.r rfl (zAe rfl rfl) (.r rfl (zA1 rfl rfl underlying104 rfl sizeOf4 (by decide)) (.r rfl (zBC rfl rfl rfl (FlatP.nf (zAs _)) rfl rfl rfl (.cons .v .nil) sizeOf4 rfl (nle rfl)) .nil)))) ?_)
  have hr5 : (pvTk (s, b)).set 0 [PV.v (.string s), PV.v (.bool true)] = pvTk (s, true) := by rfl
  refine zAQ (s' := mk [] [] [(100000, 2, pvTk (s, true))]) ?_ ?_
  · exact zAJ trivial trivial ⟨(congrArg (fun x => some (2, x)) hr5), trivial⟩ rfl
  refine zAB (zAA rfl (.a rfl rfl .nil) ?_)
  refine zAK ?_
  exact ends [_] [] (.cons (.tmp (zAG (zLb (b := b) (fun q => by rw [h1'] at q; cases q.1)).1.symm)) .nil) (.cons (.one .v (.v _)) .nil) (by decide) (zGk (congrArg (fun x => some (2, x)) (congrArg pvTk ((zLb (b := b) (fun q => by rw [h1'] at q; cases q.1)).2.symm))) (zAs _) (by decide))
theorem zER (s : ByteArray) (b : Bool) (hs : s.size ≤ 9000000000000000000) : Con Tryz.prog 119 [.rptr 2 [PV.v (.string s), PV.v (.bool b)]] [some (pvTk (xS s b))] [.one (.v (.string (xV s)))] := by
 refine zAR func119 rfl rfl rfl rfl ?_
 refine zAB (zAA rfl (.a rfl rfl .nil) ?_)
 refine zAB (zAA rfl (.m rfl rfl (.r rfl (zAe rfl rfl) (.r rfl (zA1 rfl rfl underlying104 rfl sizeOf9 (by decide)) (.r rfl (zA3 rfl rfl rfl rfl isAgg9 rfl) (.run [1100, 1101, 1102] [] rfl (zAF rfl 1100 (X := []) en135 rfl (.val nod) (.cons (.one (.bor .v)) .nil) (by decide) all_nil .nil (zIl s (by omega)) rfl rfl (nle rfl)) (.m rfl rfl (.r rfl (zAH rfl rfl rfl) (.r rfl (zAH rfl rfl rfl) (.r rfl (zAH rfl rfl rfl) (.a rfl rfl (.a rfl rfl (.a rfl rfl .nil)))))))))))) ?_)
 refine zAB ?_
 refine zAB (zAA rfl (.m rfl rfl (.r rfl (zAa (b := (zAX s).isSome) rfl rfl) .nil)) ?_)
 refine zAT (t := (!((zAX s).isSome))) rfl (fun h1 => ?_) (fun h1 => ?_)
 ·
  replace h1 : ((zAX s).isSome) = false := zAp h1
  refine zAB ?_
  refine zAQ (s' := mk [(0, .ea 100000 0 0)] [] [(100000, 2, pvTk (s, b))]) ?_ ?_
  · exact zAJ ⟨rfl, trivial⟩ trivial ⟨rfl, trivial⟩ rfl
  refine zAA rfl (.m rfl rfl (.r rfl (zAe rfl rfl) (.r rfl (zA1 rfl rfl underlying104 rfl sizeOf4 (by decide)) (.r rfl (zBC rfl rfl rfl (FlatP.nf (zAs _)) rfl rfl rfl (.cons .v .nil) sizeOf4 rfl (nle rfl)) .nil)))) ?_
  have hr2 : (pvTk (s, b)).set 0 [PV.v (.string s), PV.v (.bool true)] = pvTk (s, true) := by rfl
  refine zAQ (s' := mk [] [] [(100000, 2, pvTk (s, true))]) ?_ ?_
  · exact zAJ trivial trivial ⟨(congrArg (fun x => some (2, x)) hr2), trivial⟩ rfl
  refine zAB (zAA rfl (.a rfl rfl .nil) ?_)
  refine zAK ?_
  exact ends [_] [] (.cons (.tmp (zA5 (zNR (b := b) h1).1.symm)) .nil) (.cons (.one .v (.v _)) .nil) (by decide) (zGk (congrArg (fun x => some (2, x)) (congrArg pvTk ((zNR h1).2.symm))) (zAs _) (by decide))
 ·
  replace h1 : ((zAX s).isSome) = true := zAq h1
  refine zAM ?_
  refine zAB ?_
  refine zAQ (s' := mk [(0, .ea 100000 0 0), (3, .vs (txX (zAX s))), (4, .vs (txR (zAX s)))] [] [(100000, 2, pvTk (s, b))]) ?_ ?_
  · exact zAJ ⟨rfl, rfl, rfl, trivial⟩ trivial ⟨rfl, trivial⟩ rfl
  refine zAA rfl (.m rfl rfl (.m rfl rfl (.r rfl (zAe rfl rfl) (.r rfl (zA1 rfl rfl underlying104 rfl sizeOf9 (by decide)) (.r rfl (zBC rfl rfl rfl (FlatP.nf (zAs _)) rfl rfl rfl (.cons .v .nil) sizeOf9 rfl (nle rfl)) .nil))))) ?_
  have hr3 : (pvTk (s, b)).set 0 [PV.v (.string (txR (zAX s))), PV.v (.bool b)] = pvTk (txR (zAX s), b) := by rfl
  refine zAQ (s' := mk [(3, .vs (txX (zAX s)))] [] [(100000, 2, pvTk (txR (zAX s), b))]) ?_ ?_
  · exact zAJ ⟨rfl, trivial⟩ trivial ⟨(congrArg (fun x => some (2, x)) hr3), trivial⟩ rfl
  refine zAB (zAA rfl (.m rfl rfl (.a rfl rfl .nil)) ?_)
  refine zAK ?_
  exact ends [_] [] (.cons (.tmp rfl) .nil) (.cons (.one .v (.v _)) .nil) (by decide) (zGk (congrArg (fun x => some (2, x)) (congrArg pvTk ((zKV h1).symm))) (zAs _) (by decide))
theorem zCh (s : ByteArray) (b : Bool) (hs : s.size ≤ 9000000000000000000) : Con Tryz.prog 80 [.rptr 2 [PV.v (.string s), PV.v (.bool b)]] [some (pvTk (fS s b))] [.one (.v (.int .i64 ((fV s : Nat) : Int)))] := by
 refine zAR func80 rfl rfl rfl rfl ?_
 refine zAB (zAA rfl (.a rfl rfl .nil) ?_)
 refine zAB (zAA rfl (.m rfl rfl (.r rfl (zAe rfl rfl) (.r rfl (zA1 rfl rfl underlying104 rfl sizeOf9 (by decide)) (.r rfl (zA3 rfl rfl rfl rfl isAgg9 rfl) (.run [1100, 1101, 1102] [] rfl (zAF rfl 1100 (X := []) en118 rfl (.val nod) (.cons (.one (.bor .v)) .nil) (by decide) all_nil .nil (zD0 s (by omega)) rfl rfl (nle rfl)) (.m rfl rfl (.r rfl (zAH rfl rfl rfl) (.r rfl (zAH rfl rfl rfl) (.r rfl (zAH rfl rfl rfl) (.a rfl rfl (.a rfl rfl (.a rfl rfl .nil)))))))))))) ?_)
 refine zAB ?_
 refine zAB (zAA rfl (.m rfl rfl (.r rfl (zAa (b := (zBM s).isSome) rfl rfl) .nil)) ?_)
 refine zAT (t := (!((zBM s).isSome))) rfl (fun h1 => ?_) (fun h1 => ?_)
 ·
  replace h1 : ((zBM s).isSome) = false := zAp h1
  refine zAB ?_
  refine zAQ (s' := mk [(0, .ea 100000 0 0)] [] [(100000, 2, pvTk (s, b))]) ?_ ?_
  · exact zAJ ⟨rfl, trivial⟩ trivial ⟨rfl, trivial⟩ rfl
  refine zAA rfl (.m rfl rfl (.r rfl (zAe rfl rfl) (.r rfl (zA1 rfl rfl underlying104 rfl sizeOf4 (by decide)) (.r rfl (zBC rfl rfl rfl (FlatP.nf (zAs _)) rfl rfl rfl (.cons .v .nil) sizeOf4 rfl (nle rfl)) .nil)))) ?_
  have hr2 : (pvTk (s, b)).set 0 [PV.v (.string s), PV.v (.bool true)] = pvTk (s, true) := by rfl
  refine zAQ (s' := mk [] [] [(100000, 2, pvTk (s, true))]) ?_ ?_
  · exact zAJ trivial trivial ⟨(congrArg (fun x => some (2, x)) hr2), trivial⟩ rfl
  refine zAB (zAA rfl (.a rfl rfl .nil) ?_)
  refine zAK ?_
  exact ends [_] [] (.cons (.tmp (zAG (by rw [(zOL (b := b) h1).1]; rfl))) .nil) (.cons (.one .v (.v _)) .nil) (by decide) (zGk (congrArg (fun x => some (2, x)) (congrArg pvTk ((zOL h1).2.symm))) (zAs _) (by decide))
 ·
  replace h1 : ((zBM s).isSome) = true := zAq h1
  refine zAM ?_
  refine zAB ?_
  refine zAQ (s' := mk [(0, .ea 100000 0 0), (3, .p none (.v (.int .u32 ((tvN (zBM s) : Nat) : Int)))), (4, .vs (tvR (zBM s)))] [] [(100000, 2, pvTk (s, b))]) ?_ ?_
  · exact zAJ ⟨rfl, rfl, rfl, trivial⟩ trivial ⟨rfl, trivial⟩ rfl
  refine zAA rfl (.m rfl rfl (.m rfl rfl (.r rfl (zAe rfl rfl) (.r rfl (zA1 rfl rfl underlying104 rfl sizeOf9 (by decide)) (.r rfl (zBC rfl rfl rfl (FlatP.nf (zAs _)) rfl rfl rfl (.cons .v .nil) sizeOf9 rfl (nle rfl)) .nil))))) ?_
  have hr3 : (pvTk (s, b)).set 0 [PV.v (.string (tvR (zBM s))), PV.v (.bool b)] = pvTk (tvR (zBM s), b) := by rfl
  refine zAQ (s' := mk [(3, .p none (.v (.int .u32 ((tvN (zBM s) : Nat) : Int))))] [] [(100000, 2, pvTk (tvR (zBM s), b))]) ?_ ?_
  · exact zAJ ⟨rfl, trivial⟩ trivial ⟨(congrArg (fun x => some (2, x)) hr3), trivial⟩ rfl
  refine zAB ?_
  have hfl : tvN (zBM s) < 4294967296 := fV_lt s
  refine zAA rfl (.m rfl rfl (.r rfl (zBe rfl rfl underlying69 underlying2 (by omega)) (.a rfl rfl .nil))) ?_
  refine zAK ?_
  exact ends [_] [] (.cons (.tmp rfl) .nil) (.cons (.one .v (.v _)) .nil) (by decide) (zGk (congrArg (fun x => some (2, x)) (congrArg pvTk ((zK3 h1).symm))) (zAs _) (by decide))
theorem zDy (s : ByteArray) (b : Bool) (hs : s.size ≤ 9000000000000000000) : Con Tryz.prog 82 [.rptr 2 [PV.v (.string s), PV.v (.bool b)]] [some (pvTk (sS s b))] [.one (.v (.string (xV s)))] := by
 refine zAR func82 rfl rfl rfl rfl ?_
 refine zAB (zAA rfl (.a rfl rfl .nil) ?_)
 refine zAB (zAA rfl (.m rfl rfl (.run [100000, 500] [] rfl (zAF rfl 500 (X := [100000]) zON rfl (.val nod) (.cons (.rptr rfl) .nil) (by decide) (all_cons rfl all_nil) (.keep (xs := pvTk (s, b)) rfl (FlatP.nf (zAs _)) .nil) (zER s b (by omega)) rfl rfl (nle rfl)) (.a rfl rfl .nil))) ?_)
 refine zAB ?_
 have hx1 := zJp s b
 have hx2 := zLK s
 have hx3 := zND (xV s)
 refine zAQ (s' := mk [(0, .ea 100000 0 0), (3, .vs (xV s))] [] [(100000, 2, pvTk (xS s b))]) ?_ ?_
 · exact zAJ ⟨rfl, rfl, trivial⟩ trivial ⟨rfl, trivial⟩ rfl
 rcases bfc (!(decide (((fV ((xS s b).1) : Nat) : Int) = ((crcF (xV s) : Nat) : Int)))) with h1 | h1
 ·
  have h1' := h1
  replace h1' : ((fV ((xS s b).1) : Nat) : Int) = ((crcF (xV s) : Nat) : Int) := of_decide_eq_true (zAq h1')
  refine zAA rfl (.m rfl rfl (.m rfl rfl (.run [100000, 800] [] rfl (zAF rfl 800 (X := [100000]) en80 rfl (.val nod) (.cons (.rptr rfl) .nil) (by decide) (all_cons rfl all_nil) (.keep (xs := pvTk (xS s b)) rfl (FlatP.nf (zAs _)) .nil) (zCh ((xS s b).1) ((xS s b).2) (by omega)) rfl rfl (nle rfl)) (.m rfl rfl (.run [1000] [] rfl (zAF rfl 1000 (X := []) en106 rfl (.val nod) (.cons (.one (.bor .v)) .nil) (by decide) all_nil .nil (zKL (xV s) (by omega)) rfl rfl (nle rfl)) (.r rfl (zBe rfl rfl underlying69 underlying2 (by omega)) (.r rfl (zAI (zB8 rfl rfl rfl) (zAE h1)) (.m rfl rfl (.m rfl rfl (.r rfl (zAe rfl rfl) (.r rfl (zA1 rfl rfl underlying104 rfl sizeOf4 (by decide)) (.r rfl (zA3 rfl rfl rfl rfl isAgg4 rfl) (.r rfl (zAg rfl rfl) (.r rfl (zAe rfl rfl) (.r rfl (zA1 rfl rfl underlying104 rfl sizeOf4 (by decide)) (.r rfl (zBC rfl rfl rfl (FlatP.nf (zAs _)) rfl rfl rfl (.cons .v .nil) sizeOf4 rfl (nle rfl)) .nil)))))))))))))))) ?_
  have hr2 : (pvTk (fS ((xS s b).1) ((xS s b).2))).set 0 [PV.v (.string ((fS ((xS s b).1) ((xS s b).2)).1)), PV.v (.bool ((fS ((xS s b).1) ((xS s b).2)).2))] = pvTk (sS s b) := by exact (congrArg pvTk (sS_eq (b := b) (by omega))).symm
  refine zAQ (s' := mk [(3, .vs (xV s))] [] [(100000, 2, pvTk (sS s b))]) ?_ ?_
  · exact zAJ ⟨rfl, trivial⟩ trivial ⟨(congrArg (fun x => some (2, x)) hr2), trivial⟩ rfl
  refine zAB (zAA rfl (.m rfl rfl (.a rfl rfl .nil)) ?_)
  refine zAK ?_
  exact ends [_] [] (.cons (.tmp rfl) .nil) (.cons (.one .v (.v _)) .nil) (by decide) (zGk (congrArg (fun x => some (2, x)) (congrArg pvTk (rfl))) (zAs _) (by decide))
 ·
  have h1' := h1
  replace h1' : ¬ (((fV ((xS s b).1) : Nat) : Int) = ((crcF (xV s) : Nat) : Int)) := of_decide_eq_false (zAp h1')
  refine zAA rfl (.m rfl rfl (.m rfl rfl (.run [100000, 800] [] rfl (zAF rfl 800 (X := [100000]) en80 rfl (.val nod) (.cons (.rptr rfl) .nil) (by decide) (all_cons rfl all_nil) (.keep (xs := pvTk (xS s b)) rfl (FlatP.nf (zAs _)) .nil) (zCh ((xS s b).1) ((xS s b).2) (by omega)) rfl rfl (nle rfl)) (.m rfl rfl (.run [1000] [] rfl (zAF rfl 1000 (X := []) en106 rfl (.val nod) (.cons (.one (.bor .v)) .nil) (by decide) all_nil .nil (zKL (xV s) (by omega)) rfl rfl (nle rfl)) (.r rfl (zBe rfl rfl underlying69 underlying2 (by omega)) (.r rfl (zAI (zB8 rfl rfl rfl) (zAE h1)) (.m rfl rfl (.not rfl (.not rfl (.not rfl (.not rfl (.r rfl (zAh rfl rfl) (.r rfl (zAe rfl rfl) (.r rfl (zA1 rfl rfl underlying104 rfl sizeOf4 (by decide)) (.r rfl (zBC rfl rfl rfl (FlatP.nf (zAs _)) rfl rfl rfl (.cons .v .nil) sizeOf4 rfl (nle rfl)) .nil)))))))))))))))) ?_
  have hr3 : (pvTk (fS ((xS s b).1) ((xS s b).2))).set 0 [PV.v (.string ((fS ((xS s b).1) ((xS s b).2)).1)), PV.v (.bool true)] = pvTk (sS s b) := by exact (congrArg pvTk (sS_ne (b := b) (by omega))).symm
  refine zAQ (s' := mk [(3, .vs (xV s))] [] [(100000, 2, pvTk (sS s b))]) ?_ ?_
  · exact zAJ ⟨rfl, trivial⟩ trivial ⟨(congrArg (fun x => some (2, x)) hr3), trivial⟩ rfl
  refine zAB (zAA rfl (.m rfl rfl (.a rfl rfl .nil)) ?_)
  refine zAK ?_
  exact ends [_] [] (.cons (.tmp rfl) .nil) (.cons (.one .v (.v _)) .nil) (by decide) (zGk (congrArg (fun x => some (2, x)) (congrArg pvTk (rfl))) (zAs _) (by decide))
theorem zGH (s : ByteArray) (b : Bool) (hs : s.size ≤ 9000000000000000000) : Con Tryz.prog 120 [.rptr 2 [PV.v (.string s), PV.v (.bool b)]] [some (pvTk (s, b))] [.one (.v (.bool (!b && decide (s = ⟨#[]⟩))))] := by
 refine zAR func120 rfl rfl rfl rfl ?_
 refine zAB (zAA rfl (.a rfl rfl .nil) ?_)
 refine zAB ?_
 rcases bfc (!b) with h1 | h1
 ·
  have h1' := h1
  replace h1' : b = true := zAq h1'
  refine zAA rfl (.m rfl rfl (.r rfl (zAe rfl rfl) (.r rfl (zA1 rfl rfl underlying104 rfl sizeOf4 (by decide)) (.r rfl (zA3 rfl rfl rfl rfl isAgg4 rfl) (.r rfl (zAI (zAa (b := b) rfl rfl) (zAE h1)) (.m rfl rfl (.not rfl (.not rfl (.not rfl (.not rfl (.not rfl (.r rfl (zAg rfl rfl) (.a rfl rfl .nil))))))))))))) ?_
  refine zAK ?_
  exact ends [_] [] (.cons (.tmp (zAE (by rw [h1']; rfl))) .nil) (.cons (.one .v (.v _)) .nil) (by decide) (zGk rfl (zAs _) (by decide))
 ·
  have h1' := h1
  replace h1' : b = false := zAp h1'
  refine zAA rfl (.m rfl rfl (.r rfl (zAe rfl rfl) (.r rfl (zA1 rfl rfl underlying104 rfl sizeOf4 (by decide)) (.r rfl (zA3 rfl rfl rfl rfl isAgg4 rfl) (.r rfl (zAI (zAa (b := b) rfl rfl) (zAE h1)) (.m rfl rfl (.m rfl rfl (.r rfl (zAe rfl rfl) (.r rfl (zA1 rfl rfl underlying104 rfl sizeOf9 (by decide)) (.r rfl (zA3 rfl rfl rfl rfl isAgg9 rfl) (.r rfl (zD2 rfl rfl rfl) (.r rfl (zAh rfl rfl) (.a rfl rfl .nil))))))))))))) ?_
  refine zAK ?_
  exact ends [_] [] (.cons (.tmp (zAE (by rw [h1']; rfl))) .nil) (.cons (.one .v (.v _)) .nil) (by decide) (zGk rfl (zAs _) (by decide))
theorem zKA (s : ByteArray) (hs : s.size ≤ 9000000000000000000) : Con Tryz.prog 122 [.one (PV.v (.string s))] [] [.agg [.v (.string ((zBB s).getD entZ).user), .v (.int .i64 ((zBB s).getD entZ).seq), .v (.int .i64 ((zBB s).getD entZ).kind)], .one (.v (.bool ((zBB s).isSome)))] := by
 refine zAR func122 rfl rfl rfl rfl ?_
 refine zAB (zAA rfl (.run [] [2] rfl (zA7 rfl 2 zFg rfl (by decide) rfl (by decide)) (.a rfl rfl .nil)) ?_)
 refine zAB (zAA rfl (.m rfl rfl (.r rfl (zAO rfl rfl underlying9) (.r rfl (zBt rfl rfl rfl (by omega)) (.a rfl rfl .nil)))) ?_)
 refine zAB ?_
 refine zAB (zAA rfl (.m rfl rfl (.r rfl (zAz rfl rfl rfl) .nil)) ?_)
 refine zAT (t := decide (((s.size : Int) - 8) < 1)) rfl (fun h1 => ?_) (fun h1 => ?_)
 ·
  replace h1 := of_decide_eq_true h1
  refine zAB ?_
  rw [zGe (by omega)]
  refine zAA rfl (.r rfl (zAt (pl := [(0, 1), (1, 1), (2, 1)]) rfl underlying43 zFg (by kernel_rfl) rfl rfl) (.r rfl (zAN rfl rfl rfl rfl rfl sizeOf43 rfl (nle rfl)) (.a rfl rfl .nil))) ?_
  refine zAK ?_
  exact ends [_, _] [] (.cons (.cell rfl rfl isAgg43 sizeOf43 (nle rfl)) (.cons (.tmp rfl) .nil)) (.cons (.agg (.cons .v (.cons .v (.cons .v .nil))) (zAL (.v _) (zAL (.v _) (zAL (.v _) zBR)))) (.cons (.one .v (.v _)) .nil)) (by decide) trivial
 ·
  replace h1 := of_decide_eq_false h1
  refine zAM ?_
  refine zAB ?_
  have hkt := zEe (s := s) (by omega)
  refine zAQ (s' := mk [(0, .vs s), (2, .ptr 2 0), (4, .vi ((s.size - 8 : Nat) : Int))] [(2, [.vs ⟨#[]⟩, .vi 0, .vi 0])] []) ?_ ?_
  · exact zAJ ⟨rfl, rfl, (zAG (by omega)), trivial⟩ ⟨rfl, trivial⟩ trivial rfl
  refine zAA rfl (.m rfl rfl (.m rfl rfl (.r rfl (zAI (zAv rfl rfl underlying9 (.at_ rfl rfl) .no (by omega) (Nat.le_refl _)) ((zA5 (show s.extract (s.size - 8) s.size = zC4 s from rfl)))) (.run [2300, 2301, 2302] [] rfl (zAF rfl 2300 (X := []) en118 rfl (.val nod) (.cons (.one (.bor .v)) .nil) (by decide) all_nil .nil (zD0 (zC4 s) (by omega)) rfl rfl (nle rfl)) (.m rfl rfl (.r rfl (zAH rfl rfl rfl) (.r rfl (zAH rfl rfl rfl) (.r rfl (zAH rfl rfl rfl) (.a rfl rfl (.a rfl rfl (.a rfl rfl .nil))))))))))) ?_
  refine zAB ?_
  have hkr : (tvR (zBM (zC4 s))).size ≤ 8 := by rw [(zHd (s := s) (by omega)).2, ByteArray.size_extract]; omega
  refine zAQ (s' := mk [(0, .vs s), (2, .ptr 2 0), (4, .vi ((s.size - 8 : Nat) : Int)), (5, .p none (.v (.int .u32 ((tvN (zBM (zC4 s)) : Nat) : Int)))), (6, .vs (tvR (zBM (zC4 s))))] [(2, [.vs ⟨#[]⟩, .vi 0, .vi 0])] []) ?_ ?_
  · exact zAJ ⟨rfl, rfl, rfl, rfl, rfl, trivial⟩ ⟨rfl, trivial⟩ trivial rfl
  refine zAA rfl (.m rfl rfl (.run [2900, 2901, 2902] [] rfl (zAF rfl 2900 (X := []) en118 rfl (.val nod) (.cons (.one (.bor .v)) .nil) (by decide) all_nil .nil (zD0 (tvR (zBM (zC4 s))) (by omega)) rfl rfl (nle rfl)) (.m rfl rfl (.r rfl (zAH rfl rfl rfl) (.r rfl (zAH rfl rfl rfl) (.r rfl (zAH rfl rfl rfl) (.a rfl rfl (.a rfl rfl (.a rfl rfl .nil))))))))) ?_
  refine zAB ?_
  have hkl := zHe s
  have hkh := zKw s
  have hkn := zMn s
  refine zAQ (s' := mk [(0, .vs s), (2, .ptr 2 0), (4, .vi ((s.size - 8 : Nat) : Int)), (5, .p none (.v (.int .u32 ((kLo s : Nat) : Int)))), (8, .p none (.v (.int .u32 ((kHi s : Nat) : Int))))] [(2, [.vs ⟨#[]⟩, .vi 0, .vi 0])] []) ?_ ?_
  · exact zAJ ⟨rfl, rfl, rfl, (zAG (by rw [(zHd (s := s) (by omega)).1])), (zAG (by rw [(zHd (s := s) (by omega)).2, zOv (by omega)])), trivial⟩ ⟨rfl, trivial⟩ trivial rfl
  refine zAA rfl (.m rfl rfl (.r rfl (zAI (zAc (k' := .u64) 18446744073709551616 rfl (kHi s) rfl rfl rfl underlying69 underlying58) ((zAG (show (((kHi s) % 18446744073709551616 : Nat) : Int) = ((kHi s : Nat) : Int) by omega)))) (.r rfl (zCk (k := .u64) 18446744073709551616 rfl (kHi s) 32 rfl rfl rfl rfl (by decide)) (.m rfl rfl (.r rfl (zAI (zAc (k' := .u64) 18446744073709551616 rfl (kLo s) rfl rfl rfl underlying69 underlying58) ((zAG (show (((kLo s) % 18446744073709551616 : Nat) : Int) = ((kLo s : Nat) : Int) by omega)))) (.r rfl (zAI (zC2 (k := .u64) 18446744073709551616 rfl (((kHi s) * 2 ^ 32) % 18446744073709551616) (kLo s) rfl rfl rfl rfl) ((zAG (congrArg Nat.cast (kNum_or s))))) (.a rfl rfl .nil))))))) ?_
  refine zAB ?_
  refine zAQ (s' := mk [(0, .vs s), (2, .ptr 2 0), (4, .vi ((s.size - 8 : Nat) : Int)), (11, .p none (.v (.int .u64 ((kNum s : Nat) : Int))))] [(2, [.vs ⟨#[]⟩, .vi 0, .vi 0])] []) ?_ ?_
  · exact zAJ ⟨rfl, rfl, rfl, rfl, trivial⟩ ⟨rfl, trivial⟩ trivial rfl
  refine zAA rfl (.m rfl rfl (.m rfl rfl (.r rfl (zAI (zAv rfl rfl underlying9 .no (.at_ rfl rfl) (Nat.zero_le _) (by omega)) ((zA5 (show s.extract 0 (s.size - 8) = (keyE s).user from rfl)))) (.m rfl rfl (.r rfl (zAI (zDP (k := .u64) 18446744073709551616 rfl (kNum s) 2 rfl rfl rfl rfl (by omega)) ((zAG (show (((kNum s / 2) % 18446744073709551616 : Nat) : Int) = ((kNum s / 2 : Nat) : Int) by omega)))) (.r rfl (zAI (zBe rfl rfl underlying58 underlying2 (by omega)) ((zAG rfl))) (.m rfl rfl (.r rfl (zB1 (kNum s) 2 rfl rfl rfl (by omega)) (.r rfl (zAI (zBe rfl rfl underlying58 underlying2 (by omega)) ((zAG rfl))) (.r rfl (zAt (pl := [(0, 1), (1, 1), (2, 1)]) rfl underlying43 zFg (by kernel_rfl) rfl rfl) (.run [] [12] rfl (zA7 rfl 12 zFg rfl (by decide) rfl (by decide)) (.r rfl (zAN rfl rfl rfl rfl rfl sizeOf43 rfl (nle rfl)) .nil)))))))))))) ?_
  refine zAB ?_
  refine zAB (zAA rfl (.r rfl (zAW rfl rfl rfl isAgg43 sizeOf43 (nle rfl)) (.run [5000] [] rfl (zAF rfl 5000 (X := []) zM7 rfl (.val nod) (.cons (.agg (.cons (.bor .v) (.cons (.bor .v) (.cons (.bor .v) .nil)))) .nil) (by decide) all_nil .nil (zEK (⟨(keyE s).user, (keyE s).seq, (keyE s).kind, ⟨#[]⟩⟩ : Ent)) rfl rfl (nle rfl)) (.r rfl (zAa (b := zBl ((keyE s).user) ((keyE s).seq) ((keyE s).kind)) rfl rfl) .nil))) ?_)
  refine zAT (t := (!(zBl ((keyE s).user) ((keyE s).seq) ((keyE s).kind)))) rfl (fun h2 => ?_) (fun h2 => ?_)
  ·
   replace h2 : (zBl ((keyE s).user) ((keyE s).seq) ((keyE s).kind)) = false := zAp h2
   refine zAB ?_
   rw [zGf (show zBl (keyE s).user (keyE s).seq (keyE s).kind = false from h2)]
   refine zAQ (s' := mk [(2, .ptr 2 0)] [(2, [.vs ⟨#[]⟩, .vi 0, .vi 0])] []) ?_ ?_
   · exact zAJ ⟨rfl, trivial⟩ ⟨rfl, trivial⟩ trivial rfl
   refine zAA rfl (.r rfl (zAt (pl := [(0, 1), (1, 1), (2, 1)]) rfl underlying43 zFg (by kernel_rfl) rfl rfl) (.r rfl (zAN rfl rfl rfl rfl rfl sizeOf43 rfl (nle rfl)) (.a rfl rfl .nil))) ?_
   refine zAK ?_
   exact ends [_, _] [] (.cons (.cell rfl rfl isAgg43 sizeOf43 (nle rfl)) (.cons (.tmp rfl) .nil)) (.cons (.agg (.cons .v (.cons .v (.cons .v .nil))) (zAL (.v _) (zAL (.v _) (zAL (.v _) zBR)))) (.cons (.one .v (.v _)) .nil)) (by decide) trivial
  ·
   replace h2 : (zBl ((keyE s).user) ((keyE s).seq) ((keyE s).kind)) = true := zAq h2
   refine zAM ?_
   refine zAB ?_
   rw [zGd (by omega) (show zBl (keyE s).user (keyE s).seq (keyE s).kind = true from h2)]
   refine zAQ (s' := mk [(2, .ptr 2 0), (12, .ptr 12 0)] [(2, [.vs ⟨#[]⟩, .vi 0, .vi 0]), (12, [.vs ((keyE s).user), .vi ((keyE s).seq), .vi ((keyE s).kind)])] []) ?_ ?_
   · exact zAJ ⟨rfl, rfl, trivial⟩ ⟨rfl, rfl, trivial⟩ trivial rfl
   refine zAA rfl (.r rfl (zAW rfl rfl rfl isAgg43 sizeOf43 (nle rfl)) (.r rfl (zAN rfl rfl rfl rfl rfl sizeOf43 rfl (nle rfl)) (.a rfl rfl .nil))) ?_
   refine zAK ?_
   exact ends [_, _] [] (.cons (.cell rfl rfl isAgg43 sizeOf43 (nle rfl)) (.cons (.tmp rfl) .nil)) (.cons (.agg (.cons .v (.cons .v (.cons .v .nil))) (zAL (.v _) (zAL (.v _) (zAL (.v _) zBR)))) (.cons (.one .v (.v _)) .nil)) (by decide) trivial
theorem zIx (s : ByteArray) (hs : s.size ≤ 9000000000000000000) : Con Tryz.prog 95 [.one (PV.v (.string s))] [] [.agg [.v (.string ((zBB s).getD entZ).user), .v (.int .i64 ((zBB s).getD entZ).seq), .v (.int .i64 ((zBB s).getD entZ).kind)], .one (.v (.bool ((zBB s).isSome)))] := by
 refine zAR func95 rfl rfl rfl rfl ?_
 refine zAB (zAA rfl (.run [] [2] rfl (zA7 rfl 2 zFg rfl (by decide) rfl (by decide)) (.a rfl rfl .nil)) ?_)
 refine zAB ?_
 refine zAB (zAA rfl (.m rfl rfl (.r rfl (zAO rfl rfl underlying9) (.r rfl (zAz rfl rfl rfl) .nil))) ?_)
 refine zAT (t := decide ((s.size : Int) < 9)) rfl (fun h1 => ?_) (fun h1 => ?_)
 ·
  replace h1 := of_decide_eq_true h1
  refine zAB ?_
  rw [zGe (by omega)]
  refine zAA rfl (.r rfl (zAt (pl := [(0, 1), (1, 1), (2, 1)]) rfl underlying43 zFg (by kernel_rfl) rfl rfl) (.r rfl (zAN rfl rfl rfl rfl rfl sizeOf43 rfl (nle rfl)) (.a rfl rfl .nil))) ?_
  refine zAK ?_
  exact ends [_, _] [] (.cons (.cell rfl rfl isAgg43 sizeOf43 (nle rfl)) (.cons (.tmp rfl) .nil)) (.cons (.agg (.cons .v (.cons .v (.cons .v .nil))) (zAL (.v _) (zAL (.v _) (zAL (.v _) zBR)))) (.cons (.one .v (.v _)) .nil)) (by decide) trivial
 ·
  replace h1 := of_decide_eq_false h1
  refine zAM ?_
  refine zAB (zAA rfl (.m rfl rfl (.r rfl (zAO rfl rfl underlying9) (.r rfl (zBt rfl rfl rfl (by omega)) (.a rfl rfl .nil)))) ?_)
  refine zAB ?_
  have hkt := zEe (s := s) (by omega)
  refine zAQ (s' := mk [(0, .vs s), (2, .ptr 2 0), (4, .vi ((s.size - 8 : Nat) : Int))] [(2, [.vs ⟨#[]⟩, .vi 0, .vi 0])] []) ?_ ?_
  · exact zAJ ⟨rfl, rfl, (zAG (by omega)), trivial⟩ ⟨rfl, trivial⟩ trivial rfl
  refine zAA rfl (.m rfl rfl (.m rfl rfl (.r rfl (zAI (zAv rfl rfl underlying9 (.at_ rfl rfl) .no (by omega) (Nat.le_refl _)) ((zA5 (show s.extract (s.size - 8) s.size = zC4 s from rfl)))) (.run [2400, 2401, 2402] [] rfl (zAF rfl 2400 (X := []) en89 rfl (.val nod) (.cons (.one (.bor .v)) .nil) (by decide) all_nil .nil (zCQ (zC4 s) (by omega)) rfl rfl (nle rfl)) (.m rfl rfl (.r rfl (zAH rfl rfl rfl) (.r rfl (zAH rfl rfl rfl) (.r rfl (zAH rfl rfl rfl) (.a rfl rfl (.a rfl rfl (.a rfl rfl .nil))))))))))) ?_
  refine zAB ?_
  have hkr : (tvR (zBM (zC4 s))).size ≤ 8 := by rw [(zHd (s := s) (by omega)).2, ByteArray.size_extract]; omega
  refine zAQ (s' := mk [(0, .vs s), (2, .ptr 2 0), (4, .vi ((s.size - 8 : Nat) : Int)), (5, .p none (.v (.int .u32 ((tvN (zBM (zC4 s)) : Nat) : Int)))), (6, .vs (tvR (zBM (zC4 s))))] [(2, [.vs ⟨#[]⟩, .vi 0, .vi 0])] []) ?_ ?_
  · exact zAJ ⟨rfl, rfl, rfl, rfl, rfl, trivial⟩ ⟨rfl, trivial⟩ trivial rfl
  refine zAA rfl (.m rfl rfl (.run [3000, 3001, 3002] [] rfl (zAF rfl 3000 (X := []) en89 rfl (.val nod) (.cons (.one (.bor .v)) .nil) (by decide) all_nil .nil (zCQ (tvR (zBM (zC4 s))) (by omega)) rfl rfl (nle rfl)) (.m rfl rfl (.r rfl (zAH rfl rfl rfl) (.r rfl (zAH rfl rfl rfl) (.r rfl (zAH rfl rfl rfl) (.a rfl rfl (.a rfl rfl (.a rfl rfl .nil))))))))) ?_
  refine zAB ?_
  refine zAB ?_
  have hkl := zHe s
  have hkh := zKw s
  have hkn := zMn s
  refine zAQ (s' := mk [(0, .vs s), (2, .ptr 2 0), (4, .vi ((s.size - 8 : Nat) : Int)), (5, .p none (.v (.int .u32 ((kLo s : Nat) : Int)))), (8, .p none (.v (.int .u32 ((kHi s : Nat) : Int))))] [(2, [.vs ⟨#[]⟩, .vi 0, .vi 0])] []) ?_ ?_
  · exact zAJ ⟨rfl, rfl, rfl, (zAG (by rw [(zHd (s := s) (by omega)).1])), (zAG (by rw [(zHd (s := s) (by omega)).2, zOv (by omega)])), trivial⟩ ⟨rfl, trivial⟩ trivial rfl
  refine zAA rfl (.m rfl rfl (.r rfl (zDF rfl rfl rfl) .nil)) ?_
  refine zAT (t := decide (1073741824 ≤ ((kHi s : Nat) : Int))) rfl (fun h2 => ?_) (fun h2 => ?_)
  ·
   replace h2 := of_decide_eq_true h2
   refine zAB ?_
   rw [zLW (by omega)]
   refine zAA rfl (.r rfl (zAt (pl := [(0, 1), (1, 1), (2, 1)]) rfl underlying43 zFg (by kernel_rfl) rfl rfl) (.r rfl (zAN rfl rfl rfl rfl rfl sizeOf43 rfl (nle rfl)) (.a rfl rfl .nil))) ?_
   refine zAK ?_
   exact ends [_, _] [] (.cons (.cell rfl rfl isAgg43 sizeOf43 (nle rfl)) (.cons (.tmp rfl) .nil)) (.cons (.agg (.cons .v (.cons .v (.cons .v .nil))) (zAL (.v _) (zAL (.v _) (zAL (.v _) zBR)))) (.cons (.one .v (.v _)) .nil)) (by decide) trivial
  ·
   replace h2 := of_decide_eq_false h2
   refine zAM ?_
   refine zAB (zAA rfl (.m rfl rfl (.r rfl (zBe rfl rfl underlying69 underlying2 (by omega)) (.r rfl (zAI (zOj rfl rfl rfl (by omega)) ((zAG (shl32 (by omega))))) (.m rfl rfl (.r rfl (zBe rfl rfl underlying69 underlying2 (by omega)) (.r rfl (zAI (zGM rfl (.inr (.inl rfl)) rfl rfl) ((zAG ((or_i64 (by omega) (by omega)).trans (congrArg Nat.cast (zOC (by omega))))))) (.a rfl rfl .nil))))))) ?_)
   refine zAB ?_
   have hkn2 := zMm (s := s) (by omega)
   refine zAQ (s' := mk [(0, .vs s), (2, .ptr 2 0), (4, .vi ((s.size - 8 : Nat) : Int)), (11, .vi ((kNum s : Nat) : Int))] [(2, [.vs ⟨#[]⟩, .vi 0, .vi 0])] []) ?_ ?_
   · exact zAJ ⟨rfl, rfl, rfl, rfl, trivial⟩ ⟨rfl, trivial⟩ trivial rfl
   refine zAA rfl (.m rfl rfl (.m rfl rfl (.r rfl (zAI (zAv rfl rfl underlying9 .no (.at_ rfl rfl) (Nat.zero_le _) (by omega)) ((zA5 (show s.extract 0 (s.size - 8) = (keyE s).user from rfl)))) (.m rfl rfl (.r rfl (zAI (zE8 rfl rfl rfl (by omega)) ((zAG (quo2b (by omega))))) (.m rfl rfl (.r rfl (zAI (zKZ rfl rfl rfl (by omega)) ((zAG rfl))) (.r rfl (zAt (pl := [(0, 1), (1, 1), (2, 1)]) rfl underlying43 zFg (by kernel_rfl) rfl rfl) (.run [] [12] rfl (zA7 rfl 12 zFg rfl (by decide) rfl (by decide)) (.r rfl (zAN rfl rfl rfl rfl rfl sizeOf43 rfl (nle rfl)) .nil)))))))))) ?_
   refine zAB ?_
   refine zAB (zAA rfl (.r rfl (zAW rfl rfl rfl isAgg43 sizeOf43 (nle rfl)) (.run [5200] [] rfl (zAF rfl 5200 (X := []) en73 rfl (.val nod) (.cons (.agg (.cons (.bor .v) (.cons (.bor .v) (.cons (.bor .v) .nil)))) .nil) (by decide) all_nil .nil (zBu (⟨(keyE s).user, (keyE s).seq, (keyE s).kind, ⟨#[]⟩⟩ : Ent)) rfl rfl (nle rfl)) (.r rfl (zAa (b := zBl ((keyE s).user) ((keyE s).seq) ((keyE s).kind)) rfl rfl) .nil))) ?_)
   refine zAT (t := (!(zBl ((keyE s).user) ((keyE s).seq) ((keyE s).kind)))) rfl (fun h3 => ?_) (fun h3 => ?_)
   ·
    replace h3 : (zBl ((keyE s).user) ((keyE s).seq) ((keyE s).kind)) = false := zAp h3
    refine zAB ?_
    rw [zGf (show zBl (keyE s).user (keyE s).seq (keyE s).kind = false from h3)]
    refine zAA rfl (.r rfl (zAt (pl := [(0, 1), (1, 1), (2, 1)]) rfl underlying43 zFg (by kernel_rfl) rfl rfl) (.r rfl (zAN rfl rfl rfl rfl rfl sizeOf43 rfl (nle rfl)) (.a rfl rfl .nil))) ?_
    refine zAK ?_
    exact ends [_, _] [] (.cons (.cell rfl rfl isAgg43 sizeOf43 (nle rfl)) (.cons (.tmp rfl) .nil)) (.cons (.agg (.cons .v (.cons .v (.cons .v .nil))) (zAL (.v _) (zAL (.v _) (zAL (.v _) zBR)))) (.cons (.one .v (.v _)) .nil)) (by decide) trivial
   ·
    replace h3 : (zBl ((keyE s).user) ((keyE s).seq) ((keyE s).kind)) = true := zAq h3
    refine zAM ?_
    refine zAB ?_
    rw [zGd (by omega) (show zBl (keyE s).user (keyE s).seq (keyE s).kind = true from h3)]
    refine zAA rfl (.r rfl (zAW rfl rfl rfl isAgg43 sizeOf43 (nle rfl)) (.r rfl (zAN rfl rfl rfl rfl rfl sizeOf43 rfl (nle rfl)) (.a rfl rfl .nil))) ?_
    refine zAK ?_
    exact ends [_, _] [] (.cons (.cell rfl rfl isAgg43 sizeOf43 (nle rfl)) (.cons (.tmp rfl) .nil)) (.cons (.agg (.cons .v (.cons .v (.cons .v .nil))) (zAL (.v _) (zAL (.v _) (zAL (.v _) zBR)))) (.cons (.one .v (.v _)) .nil)) (by decide) trivial
theorem zKR (l : List Ent) (ev : Nat) (hlb : l.length ≤ 2000000) (hevb : ev < 4294967296) : Con Tryz.prog 123 [.one (PV.sl false 4 (pvE l)), .one (PV.v (.int .i64 (ev:Int)))] [] [.one (.v (.string ((zBn l ev).getD ⟨#[]⟩))), .one (.v (.bool ((zBn l ev).isSome)))] := by
 refine zAR func123 rfl rfl rfl rfl ?_
 have hle := zA2 l
 refine zAB (zAA rfl (.a rfl rfl (.a rfl rfl .nil)) ?_)
 refine zAB ?_
 refine zAB ?_
 rcases bfc (!(zBJ l)) with h1 | h1
 ·
  have h1' := h1
  replace h1' : (zBJ l) = true := zAq h1'
  rcases bfc (decide (((pvE l).length : Int) = 0)) with h2 | h2
  ·
   have h2' := h2
   replace h2' := of_decide_eq_false h2'
   refine zAA rfl (.m rfl rfl (.run [800] [] rfl (zAF rfl 800 (X := []) en26 rfl (.val nod) (.cons (.one (.bor (.sl nod))) .nil) (by decide) all_nil .nil (zCb l (by omega)) rfl rfl (nle rfl)) (.r rfl (zAI (zAa (b := zBJ l) rfl rfl) (zAE h1)) (.m rfl rfl (.m rfl rfl (.r rfl (zAu rfl rfl underlying24) (.r rfl (zAI (zA9 rfl rfl rfl) (zAE h2)) (.r rfl (zAg rfl rfl) (.m rfl rfl (.m rfl rfl (.run [1700] [] rfl (zAF rfl 1700 (X := []) en60 rfl (.val nod) (.cons (.one (.bor .v)) (.cons (.one (.bor .v)) (.cons (.one (.bor .v)) .nil))) (by decide) all_nil .nil (zBU (ev:Int) 1 16) rfl rfl (nle rfl)) (.r rfl (zAa (b := zAi (ev:Int) 1 16) rfl rfl) (.r rfl (zAg rfl rfl) .nil))))))))))))) ?_
   refine zAT (t := (!(zAi (ev:Int) 1 16))) rfl (fun h3 => ?_) (fun h3 => ?_)
   ·
    replace h3 : (zAi (ev:Int) 1 16) = false := zAp h3
    refine zAB ?_
    rw [zDu (l := l) (ev := ev) (.inr (.inr (fun q => by rw [show zAi (ev : Int) 1 16 = true by simp only [zAi, Bool.and_eq_true, decide_eq_true_eq]; omega] at h3; cases h3)))]
    refine zAQ (s' := mk [] [] []) ?_ ?_
    · exact zAJ trivial trivial trivial rfl
    refine zAA rfl (.a rfl rfl (.a rfl rfl .nil)) ?_
    refine zAK ?_
    exact ends [_, _] [] (.cons (.tmp rfl) (.cons (.tmp rfl) .nil)) (.cons (.one .v (.v _)) (.cons (.one .v (.v _)) .nil)) (by decide) trivial
   ·
    replace h3 : (zAi (ev:Int) 1 16) = true := zAq h3
    refine zAM ?_
    refine zAB ?_
    have hok := h1'
    have hev : 1 ≤ ev ∧ ev ≤ 16 := by have q := h3; simp only [zAi, Bool.and_eq_true, decide_eq_true_eq] at q; omega
    have h0 : 0 < l.length := by omega
    have hl : ∀ e ∈ l, zBp e = true := fun e he => zCa hok he
    have hn := zBm hok
    refine zAQ (s' := mk [(0, .p none (.sl false 4 (pvE l))), (1, .vi (ev:Int))] [] []) ?_ ?_
    · exact zAJ ⟨rfl, rfl, trivial⟩ trivial trivial rfl
    refine zAA rfl (.m rfl rfl (.m rfl rfl (.run [2200] [] rfl (zAF rfl 2200 (X := []) en61 rfl (.val nod) (.cons (.one (.bor (.sl nod))) (.cons (.one (.bor .v)) .nil)) (by decide) all_nil .nil (zJb l ev hl (by omega) hev) rfl rfl (nle rfl)) (.a rfl rfl .nil)))) ?_
    refine zAB ?_
    refine zAB (zAA rfl (.m rfl rfl (.r rfl (zAO rfl rfl underlying9) (.r rfl (zBH rfl rfl rfl) .nil))) ?_)
    refine zAT (t := decide (60000 < ((blkF l ev).size : Int))) rfl (fun h4 => ?_) (fun h4 => ?_)
    ·
     replace h4 := of_decide_eq_true h4
     refine zAB ?_
     rw [zHp (l := l) (ev := ev) (show 60000 < (blkF l ev).size by omega)]
     refine zAA rfl (.a rfl rfl (.a rfl rfl .nil)) ?_
     refine zAK ?_
     exact ends [_, _] [] (.cons (.tmp rfl) (.cons (.tmp rfl) .nil)) (.cons (.one .v (.v _)) (.cons (.one .v (.v _)) .nil)) (by decide) trivial
    ·
     replace h4 := of_decide_eq_false h4
     refine zAM ?_
     refine zAB ?_
     rw [zEh (l := l) hok h0 hev (show (blkF l ev).size ≤ 60000 by omega)]
     refine zAA rfl (.m rfl rfl (.a rfl rfl (.a rfl rfl .nil))) ?_
     refine zAK ?_
     exact ends [_, _] [] (.cons (.tmp rfl) (.cons (.tmp rfl) .nil)) (.cons (.one .v (.v _)) (.cons (.one .v (.v _)) .nil)) (by decide) trivial
  ·
   have h2' := h2
   replace h2' := of_decide_eq_true h2'
   refine zAA rfl (.m rfl rfl (.run [800] [] rfl (zAF rfl 800 (X := []) en26 rfl (.val nod) (.cons (.one (.bor (.sl nod))) .nil) (by decide) all_nil .nil (zCb l (by omega)) rfl rfl (nle rfl)) (.r rfl (zAI (zAa (b := zBJ l) rfl rfl) (zAE h1)) (.m rfl rfl (.m rfl rfl (.r rfl (zAu rfl rfl underlying24) (.r rfl (zAI (zA9 rfl rfl rfl) (zAE h2)) (.r rfl (zAg rfl rfl) (.m rfl rfl (.not rfl (.not rfl (.not rfl (.r rfl (zAh rfl rfl) .nil))))))))))))) ?_
   refine zAT (t := true) rfl (fun _ => ?_) (fun h => nomatch h)
   refine zAB ?_
   rw [zDu (l := l) (ev := ev) (.inr (.inl (by omega)))]
   refine zAQ (s' := mk [] [] []) ?_ ?_
   · exact zAJ trivial trivial trivial rfl
   refine zAA rfl (.a rfl rfl (.a rfl rfl .nil)) ?_
   refine zAK ?_
   exact ends [_, _] [] (.cons (.tmp rfl) (.cons (.tmp rfl) .nil)) (.cons (.one .v (.v _)) (.cons (.one .v (.v _)) .nil)) (by decide) trivial
 ·
  have h1' := h1
  replace h1' : (zBJ l) = false := zAp h1'
  refine zAA rfl (.m rfl rfl (.run [800] [] rfl (zAF rfl 800 (X := []) en26 rfl (.val nod) (.cons (.one (.bor (.sl nod))) .nil) (by decide) all_nil .nil (zCb l (by omega)) rfl rfl (nle rfl)) (.r rfl (zAI (zAa (b := zBJ l) rfl rfl) (zAE h1)) (.m rfl rfl (.not rfl (.not rfl (.not rfl (.r rfl (zAh rfl rfl) (.m rfl rfl (.not rfl (.not rfl (.not rfl (.r rfl (zAh rfl rfl) .nil))))))))))))) ?_
  refine zAT (t := true) rfl (fun _ => ?_) (fun h => nomatch h)
  refine zAB ?_
  rw [zDu (l := l) (ev := ev) (.inl h1')]
  refine zAQ (s' := mk [] [] []) ?_ ?_
  · exact zAJ trivial trivial trivial rfl
  refine zAA rfl (.a rfl rfl (.a rfl rfl .nil)) ?_
  refine zAK ?_
  exact ends [_, _] [] (.cons (.tmp rfl) (.cons (.tmp rfl) .nil)) (.cons (.one .v (.v _)) (.cons (.one .v (.v _)) .nil)) (by decide) trivial
theorem zH9 (s : ByteArray) (hs : s.size ≤ 9000000000000000000) : Con Tryz.prog 84 [.one (PV.v (.string s))] [] [.one (.sl true 4 (pvE ((zBI s).getD []))), .one (.v (.bool ((zBI s).isSome)))] := by
 refine zAR func84 rfl rfl rfl rfl ?_
 refine zAB (zAA rfl (.a rfl rfl (.a rfl rfl .nil)) ?_)
 refine zAB ?_
 refine zAB ?_
 rcases bfc (decide ((s.size : Int) < 8)) with h1 | h1
 ·
  have h1' := h1
  replace h1' := of_decide_eq_false h1'
  refine zAA rfl (.m rfl rfl (.r rfl (zAO rfl rfl underlying9) (.r rfl (zAI (zAz rfl rfl rfl) (zAE h1)) (.m rfl rfl (.m rfl rfl (.r rfl (zAO rfl rfl underlying9) (.r rfl (zBH rfl rfl rfl) (.r rfl (zAg rfl rfl) .nil)))))))) ?_
  refine zAT (t := decide (60000 < (s.size : Int))) rfl (fun h2 => ?_) (fun h2 => ?_)
  ·
   replace h2 := of_decide_eq_true h2
   refine zAB ?_
   rw [zEX (s := s) (.inr (by omega))]
   refine zAA rfl (.a rfl rfl (.a rfl rfl .nil)) ?_
   refine zAK ?_
   exact ends [_, _] [] (.cons (.tmp rfl) (.cons (.tmp rfl) .nil)) (.cons (.one (.nil _) (.sl _ _ (fun _ h => nomatch h))) (.cons (.one .v (.v _)) .nil)) (by decide) trivial
  ·
   replace h2 := of_decide_eq_false h2
   refine zAM ?_
   refine zAB ?_
   refine zAQ (s' := mk [(0, .vs s)] [] []) ?_ ?_
   · exact zAJ ⟨rfl, trivial⟩ trivial trivial rfl
   refine zAA rfl (.m rfl rfl (.m rfl rfl (.r rfl (zAO rfl rfl underlying9) (.r rfl (zAI (zBt rfl rfl rfl (by omega)) ((zAG (show (s.size : Int) - 8 = ((s.size - 8 : Nat) : Int) by omega)))) (.r rfl (zAI (zAv rfl rfl underlying9 (.at_ rfl rfl) .no (by omega) (Nat.le_refl _)) ((zA5 (show s.extract (s.size - 8) s.size = zCn s from rfl)))) (.r rfl (zAt (pl := [(0, 1), (1, 1)]) rfl underlying104 zFs (by kernel_rfl) rfl rfl) (.run [3100] [] rfl (zCo rfl 3100 rfl rfl rfl (by decide) rfl (by decide)) (.a rfl rfl .nil)))))))) ?_
   refine zAB ?_
   have hbt := zEi (s := s) (by omega)
   have hfs := zOM (zCn s) false
   have hm := zM2 (b := false) (zLC (s := s) (by omega))
   have hml := zLD s
   have hel := zJk s
   refine zAA rfl (.m rfl rfl (.run [3100, 3300] [] rfl (zAF rfl 3300 (X := [3100]) en80 rfl (.val nod) (.cons (.rptr rfl) .nil) (by decide) (all_cons rfl all_nil) (.keep (xs := pvTk (zCn s, false)) rfl (FlatP.nf (zAs _)) .nil) (zCh (zCn s) false (by omega)) rfl rfl (nle rfl)) (.m rfl rfl (.run [3100, 3500] [] rfl (zAF rfl 3500 (X := [3100]) en80 rfl (.val nod) (.cons (.rptr rfl) .nil) (by decide) (all_cons rfl all_nil) (.keep (xs := pvTk (fS (zCn s) false)) rfl (FlatP.nf (zAs _)) .nil) (zCh ((fS (zCn s) false).1) ((fS (zCn s) false).2) (by omega)) rfl rfl (nle rfl)) (.a rfl rfl (.a rfl rfl .nil)))))) ?_
   refine zAB ?_
   refine zAQ (s' := mk [(0, .vs s), (5, .vi ((zED s : Nat) : Int)), (6, .vi ((zBT s : Nat) : Int))] [] []) ?_ ?_
   · exact zAJ ⟨rfl, (zAG (by rw [hm.1])), (zAG (by rw [hm.2]; exact congrArg Nat.cast (zJj (s := s) (by omega)).1)), trivial⟩ trivial trivial rfl
   refine zAA rfl (.m rfl rfl (.r rfl (zAO rfl rfl underlying9) (.r rfl (zBt rfl rfl rfl (by omega)) (.m rfl rfl (.r rfl (zCw rfl rfl rfl (by omega)) (.r rfl (zBt rfl rfl rfl (by omega)) (.a rfl rfl .nil))))))) ?_
   refine zAB ?_
   refine zAB (zAA rfl (.m rfl rfl (.r rfl (zAz rfl rfl rfl) .nil)) ?_)
   refine zAT (t := decide ((((s.size : Int) - 8) - (4 * ((zED s : Nat) : Int))) < 0)) rfl (fun h3 => ?_) (fun h3 => ?_)
   ·
    replace h3 := of_decide_eq_true h3
    refine zAB ?_
    rw [zHU (s := s) (by omega)]
    refine zAA rfl (.a rfl rfl (.a rfl rfl .nil)) ?_
    refine zAK ?_
    exact ends [_, _] [] (.cons (.tmp rfl) (.cons (.tmp rfl) .nil)) (.cons (.one (.nil _) (.sl _ _ (fun _ h => nomatch h))) (.cons (.one .v (.v _)) .nil)) (by decide) trivial
   ·
    replace h3 := of_decide_eq_false h3
    refine zAM ?_
    refine zAB ?_
    refine zAQ (s' := mk [(0, .vs s), (6, .vi ((zBT s : Nat) : Int)), (7, .vi ((s.size - 8 - 4 * zED s : Nat) : Int))] [] []) ?_ ?_
    · exact zAJ ⟨rfl, rfl, (zAG (by omega)), trivial⟩ trivial trivial rfl
    refine zAA rfl (.run [4400] [] rfl (zAy rfl 4400 underlying24 zEC (nle rfl) (by decide) rfl rfl rfl .nil (by decide) rfl (by decide) rfl (by decide) rfl) (.a rfl rfl (.a rfl rfl .nil))) ?_
    refine zAB ?_
    refine zAB (zAA rfl (.m rfl rfl (.m rfl rfl (.r rfl (zAv rfl rfl underlying9 .no (.at_ rfl rfl) (Nat.zero_le _) (by omega)) (.r rfl (zAt (pl := [(0, 1), (1, 1)]) rfl underlying104 zFs (by kernel_rfl) rfl rfl) (.run [4900] [] rfl (zCo rfl 4900 rfl rfl rfl (by decide) rfl (by decide)) (.a rfl rfl .nil)))))) ?_)
    refine zAS ?_
    refine zAQ (zCc 4900 1 rfl rfl (by decide)) ?_
    refine zAQ (zCc 4400 2 rfl rfl (by decide)) ?_
    refine zAo (σ := ByteArray × ByteArray × List Ent) (fun (left, last, out) => mk [(0, .vs s), (4, .ea 1 0 0), (6, .vi ((zBT s : Nat) : Int)), (8, .sl 2 0 ((pvE out).length)), (9, .vs last)] [] [(1, 2, pvTk (left, false)), (2, 4, pvE out)]) (fun (left, last, out) => (left.size ≤ s.size ∧ last.size ≤ 48 ∧ out.length ≤ 400) ∧ BI s left last out) (fun (left, last, out) => left.size) (s.extract 0 (s.size - 8 - 4 * zED s), ⟨#[]⟩, []) ⟨⟨by rw [ByteArray.size_extract]; omega, by decide, by decide⟩, BI.start s⟩ (zAJ ⟨rfl, rfl, rfl, rfl, rfl, trivial⟩ trivial ⟨(congrArg (fun x => some (2, x)) (by rfl)), (congrArg (fun x => some (4, x)) (by rfl)), trivial⟩ rfl) ?_
    rintro ⟨left, last, out⟩ hG
    replace hG : (left.size ≤ s.size ∧ last.size ≤ 48 ∧ out.length ≤ 400) ∧ BI s left last out := hG
    obtain ⟨⟨hls, hla, hlo⟩, hB⟩ := hG
    have hvo := zA2 out
    refine zAB ?_
    refine zAB (zAA rfl (.m rfl rfl (.r rfl (zAe rfl rfl) (.r rfl (zA1 rfl rfl underlying104 rfl sizeOf9 (by decide)) (.r rfl (zBb (.string left) rfl rfl rfl rfl isAgg9 rfl) (.r rfl (zCv rfl rfl rfl) .nil))))) ?_)
    refine zAT (t := (!(decide (left = ⟨#[]⟩)))) rfl (fun h4 => ?_) (fun h4 => ?_)
    ·
     replace h4 : ¬ (left = ⟨#[]⟩) := of_decide_eq_false (zAp h4)
     refine zAM ?_
     refine zAS ?_
     refine zAB ?_
     have hne := h4
     have hn1 := zGn left false
     have hn2 := zJp (nS left false).1 (nS left false).2
     refine zAA rfl (.m rfl rfl (.run [1, 5600] [] rfl (zAF rfl 5600 (X := [1]) en83 rfl (.val nod) (.cons (.rptr rfl) .nil) (by decide) (all_cons rfl all_nil) (.keep (xs := pvTk (left, false)) rfl (FlatP.nf (zAs _)) .nil) (zCE left false (by omega)) rfl rfl (nle rfl)) (.m rfl rfl (.run [1, 5800] [] rfl (zAF rfl 5800 (X := [1]) zON rfl (.val nod) (.cons (.rptr rfl) .nil) (by decide) (all_cons rfl all_nil) (.keep (xs := pvTk (nS left false)) rfl (FlatP.nf (zAs _)) .nil) (zER ((nS left false).1) ((nS left false).2) (by omega)) rfl rfl (nle rfl)) (.m rfl rfl (.run [1, 6000] [] rfl (zAF rfl 6000 (X := [1]) zON rfl (.val nod) (.cons (.rptr rfl) .nil) (by decide) (all_cons rfl all_nil) (.keep (xs := pvTk (xS ((nS left false).1) ((nS left false).2))) rfl (FlatP.nf (zAs _)) .nil) (zER ((xS ((nS left false).1) ((nS left false).2)).1) ((xS ((nS left false).1) ((nS left false).2)).2) (by omega)) rfl rfl (nle rfl)) (.a rfl rfl (.a rfl rfl (.a rfl rfl .nil))))))))) ?_
     have hr5 : pvTk (xS ((xS ((nS left false).1) ((nS left false).2)).1) ((xS ((nS left false).1) ((nS left false).2)).2)) = pvTk (r3 left) := by rfl
     refine zAQ (s' := mk [(0, .vs s), (4, .ea 1 0 0), (6, .vi ((zBT s : Nat) : Int)), (8, .sl 2 0 ((pvE out).length)), (9, .vs last), (10, .vi (nV left)), (11, .vs (xV ((nS left false).1))), (12, .vs (xV ((xS ((nS left false).1) ((nS left false).2)).1)))] [] [(1, 2, pvTk (r3 left)), (2, 4, pvE out)]) ?_ ?_
     · exact zAJ ⟨rfl, rfl, rfl, rfl, rfl, rfl, rfl, rfl, trivial⟩ trivial ⟨(congrArg (fun x => some (2, x)) hr5), rfl, trivial⟩ rfl
     refine zAB ?_
     refine zAB ?_
     refine zAQ (s' := mk [(0, .vs s), (4, .ea 1 0 0), (6, .vi ((zBT s : Nat) : Int)), (8, .sl 2 0 ((pvE out).length)), (9, .vs last), (10, .vi (nV left)), (11, .vs (xV (r1 left).1)), (12, .vs (xV (r2 left).1))] [] [(1, 2, pvTk (r3 left)), (2, 4, pvE out)]) ?_ ?_
     · exact zAJ ⟨rfl, rfl, rfl, rfl, rfl, rfl, rfl, rfl, trivial⟩ trivial ⟨rfl, rfl, trivial⟩ rfl
     rcases bfc ((r3 left).2) with h6 | h6
     ·
      have h6' := h6
      rcases bfc (decide ((last.size : Int) < (nV left))) with h7 | h7
      ·
       have h7' := h7
       replace h7' := of_decide_eq_false h7'
       refine zAA rfl (.m rfl rfl (.r rfl (zAe rfl rfl) (.r rfl (zA1 rfl rfl underlying104 rfl sizeOf4 (by decide)) (.r rfl (zAI (zBb (.bool ((r3 left).2)) rfl rfl rfl rfl isAgg4 rfl) (zAE h6)) (.m rfl rfl (.m rfl rfl (.m rfl rfl (.r rfl (zAO rfl rfl underlying9) (.r rfl (zAI (zBH rfl rfl rfl) (zAE h7)) (.r rfl (zAg rfl rfl) (.m rfl rfl (.m rfl rfl (.r rfl (zB9 rfl rfl underlying24) (.r rfl (zA9 rfl rfl rfl) (.r rfl (zAg rfl rfl) .nil))))))))))))))) ?_
       refine zAT (t := decide (((pvE out).length : Int) = 400)) rfl (fun h8 => ?_) (fun h8 => ?_)
       ·
        replace h8 := of_decide_eq_true h8
        refine zAB ?_
        rw [hB.stop hne (by omega) (.inr (.inr (by omega)))]
        refine zAQ (s' := mk [] [] []) ?_ ?_
        · exact zAJ trivial trivial trivial rfl
        refine zAA rfl (.a rfl rfl (.a rfl rfl .nil)) ?_
        refine zAK ?_
        exact ends [_, _] [] (.cons (.tmp rfl) (.cons (.tmp rfl) .nil)) (.cons (.one (.nil _) (.sl _ _ (fun _ h => nomatch h))) (.cons (.one .v (.v _)) .nil)) (by decide) trivial
       ·
        replace h8 := of_decide_eq_false h8
        refine zAM ?_
        refine zAB ?_
        have hbd := h6'
        obtain ⟨n, a, b, g1, g2, g3, g4, g5⟩ := r3_good hbd
        have hxl := zLK (r1 left).1
        have hex : (last.extract 0 n).size ≤ 48 := by rw [ByteArray.size_extract]; omega
        refine zAQ (s' := mk [(0, .vs s), (4, .ea 1 0 0), (6, .vi ((zBT s : Nat) : Int)), (8, .sl 2 0 ((pvE out).length)), (9, .vs last), (10, .vi ((n : Nat) : Int)), (11, .vs (xV (r1 left).1)), (12, .vs (xV (r2 left).1)), (66, .vi (nV left)), (67, .vs last), (68, .vi (last.size : Int)), (69, .vb false), (72, .sl 2 0 ((pvE out).length)), (73, .vi ((pvE out).length : Int)), (74, .vb (decide (((pvE out).length : Int) = 400)))] [] [(1, 2, pvTk (r3 left)), (2, 4, pvE out)]) ?_ ?_
        · exact zAJ ⟨rfl, rfl, rfl, rfl, rfl, (zAG g3), rfl, rfl, rfl, rfl, rfl, rfl, rfl, rfl, rfl, trivial⟩ trivial ⟨rfl, rfl, trivial⟩ rfl
        refine zAA rfl (.m rfl rfl (.m rfl rfl (.r rfl (zAv rfl rfl underlying9 .no (.at_ rfl rfl) (Nat.zero_le _) (by omega)) (.m rfl rfl (.r rfl (zAx rfl rfl rfl (by first | omega | (simp only [zAZ, zAU]; omega))) (.a rfl rfl .nil)))))) ?_
        refine zAB ?_
        have hsk : (last.extract 0 n ++ xV (r1 left).1).size ≤ 100000 := by rw [zAZ]; omega
        refine zAA rfl (.m rfl rfl (.run [8300, 8301, 8302, 8303] [] rfl (zAF rfl 8300 (X := []) en122 rfl (.val nod) (.cons (.one (.bor .v)) .nil) (by decide) all_nil .nil (zKA ((last.extract 0 n) ++ (xV (r1 left).1)) (by omega)) rfl rfl (nle rfl)) (.m rfl rfl (.r rfl (zAH rfl rfl rfl) (.r rfl (zAH rfl rfl rfl) (.run [] [13] rfl (zA7 rfl 13 zFg rfl (by decide) rfl (by decide)) (.r rfl (zAN rfl rfl rfl rfl rfl sizeOf43 rfl (nle rfl)) (.a rfl rfl .nil)))))))) ?_
        refine zAB ?_
        refine zAB (zAA rfl (.m rfl rfl (.r rfl (zAa (b := (zBB ((last.extract 0 n) ++ (xV (r1 left).1))).isSome) rfl rfl) .nil)) ?_)
        refine zAT (t := (!((zBB ((last.extract 0 n) ++ (xV (r1 left).1))).isSome))) rfl (fun h9 => ?_) (fun h9 => ?_)
        ·
         replace h9 : ((zBB ((last.extract 0 n) ++ (xV (r1 left).1))).isSome) = false := zAp h9
         refine zAB ?_
         rw [hB.nokey hne g1 g4 g5 (zDD h9)]
         refine zAQ (s' := mk [] [] []) ?_ ?_
         · exact zAJ trivial trivial trivial rfl
         refine zAA rfl (.a rfl rfl (.a rfl rfl .nil)) ?_
         refine zAK ?_
         exact ends [_, _] [] (.cons (.tmp rfl) (.cons (.tmp rfl) .nil)) (.cons (.one (.nil _) (.sl _ _ (fun _ h => nomatch h))) (.cons (.one .v (.v _)) .nil)) (by decide) trivial
        ·
         replace h9 : ((zBB ((last.extract 0 n) ++ (xV (r1 left).1))).isSome) = true := zAq h9
         refine zAM ?_
         have hkk := zDS (d := entZ) h9
         refine zAQ (s' := mk [(0, .vs s), (4, .ea 1 0 0), (6, .vi ((zBT s : Nat) : Int)), (8, .sl 2 0 ((pvE out).length)), (9, .vs ((last.extract 0 n) ++ (xV (r1 left).1))), (12, .vs (xV (r2 left).1)), (13, .ptr 13 0), (66, .vi (nV left)), (67, .vs last), (68, .vi (last.size : Int)), (69, .vb false), (72, .sl 2 0 ((pvE out).length)), (73, .vi ((pvE out).length : Int)), (74, .vb (decide (((pvE out).length : Int) = 400)))] [(13, [.vs (((zBB ((last.extract 0 n) ++ (xV (r1 left).1))).getD entZ).user), .vi (((zBB ((last.extract 0 n) ++ (xV (r1 left).1))).getD entZ).seq), .vi (((zBB ((last.extract 0 n) ++ (xV (r1 left).1))).getD entZ).kind)])] [(1, 2, pvTk (r3 left)), (2, 4, pvE out)]) ?_ ?_
         · exact zAJ ⟨rfl, rfl, rfl, rfl, rfl, rfl, rfl, rfl, rfl, rfl, rfl, rfl, rfl, rfl, trivial⟩ ⟨rfl, trivial⟩ ⟨rfl, rfl, trivial⟩ rfl
         refine zAA rfl (.m rfl rfl (.r rfl (zAW rfl rfl rfl isAgg43 sizeOf43 (nle rfl)) (.m rfl rfl (.r rfl (zAt (pl := [(0, 3), (3, 1)]) rfl underlying45 zEC (by kernel_rfl) rfl rfl) (.run [9200] [] rfl (zAy rfl 9200 underlying24 zEC (nle rfl) (by decide) rfl rfl rfl (.cons .v (.cons .v (.cons .v (.cons .v .nil)))) (by decide) rfl (by decide) rfl (by decide) rfl) (.run [2] [] rfl (zB2 rfl 2 (ib := 2) (len := ((pvE out) ++ [[PV.v (.string (((zBB ((last.extract 0 n) ++ (xV (r1 left).1))).getD entZ).user)), PV.v (.int .i64 (((zBB ((last.extract 0 n) ++ (xV (r1 left).1))).getD entZ).seq)), PV.v (.int .i64 (((zBB ((last.extract 0 n) ++ (xV (r1 left).1))).getD entZ).kind)), PV.v (.string (xV (r2 left).1))]]).length) rfl rfl (.row (len := (pvE out).length) (xs := pvE out) rfl rfl (.inl rfl)) (.give (len := 1) (xs := [[PV.v (.string (((zBB ((last.extract 0 n) ++ (xV (r1 left).1))).getD entZ).user)), PV.v (.int .i64 (((zBB ((last.extract 0 n) ++ (xV (r1 left).1))).getD entZ).seq)), PV.v (.int .i64 (((zBB ((last.extract 0 n) ++ (xV (r1 left).1))).getD entZ).kind)), PV.v (.string (xV (r2 left).1))]]) rfl rfl) underlying24 (sk underlying24 rfl) zEC rfl (by decide) (by decide) (by decide) List.length_append (by simp only [maxLen, List.length_append, List.length_cons, List.length_nil, zA2]; omega) (by simp only [maxLen, List.length_append, List.length_cons, List.length_nil, zA2]; omega)) (.a rfl rfl .nil))))))) ?_
         have hr10 : (pvE out) ++ [[PV.v (.string (((zBB ((last.extract 0 n) ++ (xV (r1 left).1))).getD entZ).user)), PV.v (.int .i64 (((zBB ((last.extract 0 n) ++ (xV (r1 left).1))).getD entZ).seq)), PV.v (.int .i64 (((zBB ((last.extract 0 n) ++ (xV (r1 left).1))).getD entZ).kind)), PV.v (.string (xV (r2 left).1))]] = pvE (out ++ [(⟨((zBB (last.extract 0 n ++ xV (r1 left).1)).getD entZ).user, ((zBB (last.extract 0 n ++ xV (r1 left).1)).getD entZ).seq, ((zBB (last.extract 0 n ++ xV (r1 left).1)).getD entZ).kind, xV (r2 left).1⟩ : Ent)]) := by exact zGh out (⟨((zBB (last.extract 0 n ++ xV (r1 left).1)).getD entZ).user, ((zBB (last.extract 0 n ++ xV (r1 left).1)).getD entZ).seq, ((zBB (last.extract 0 n ++ xV (r1 left).1)).getD entZ).kind, xV (r2 left).1⟩ : Ent)
         have hp11 : (.sl 2 0 (((pvE out) ++ [[PV.v (.string (((zBB ((last.extract 0 n) ++ (xV (r1 left).1))).getD entZ).user)), PV.v (.int .i64 (((zBB ((last.extract 0 n) ++ (xV (r1 left).1))).getD entZ).seq)), PV.v (.int .i64 (((zBB ((last.extract 0 n) ++ (xV (r1 left).1))).getD entZ).kind)), PV.v (.string (xV (r2 left).1))]]).length) : AV) = .sl 2 0 ((pvE (out ++ [(⟨((zBB (last.extract 0 n ++ xV (r1 left).1)).getD entZ).user, ((zBB (last.extract 0 n ++ xV (r1 left).1)).getD entZ).seq, ((zBB (last.extract 0 n ++ xV (r1 left).1)).getD entZ).kind, xV (r2 left).1⟩ : Ent)])).length) := by rw [hr10]
         refine nxt (Q := fun _ _ => False) (z := (left, last, out)) ((r3 left).1, last.extract 0 n ++ xV (r1 left).1, out ++ [(⟨((zBB (last.extract 0 n ++ xV (r1 left).1)).getD entZ).user, ((zBB (last.extract 0 n ++ xV (r1 left).1)).getD entZ).seq, ((zBB (last.extract 0 n ++ xV (r1 left).1)).getD entZ).kind, xV (r2 left).1⟩ : Ent)]) ?_ ?_ ?_
         ·
          show (((r3 left).1).size ≤ s.size ∧ (last.extract 0 n ++ xV (r1 left).1).size ≤ 48 ∧ (out ++ [(⟨((zBB (last.extract 0 n ++ xV (r1 left).1)).getD entZ).user, ((zBB (last.extract 0 n ++ xV (r1 left).1)).getD entZ).seq, ((zBB (last.extract 0 n ++ xV (r1 left).1)).getD entZ).kind, xV (r2 left).1⟩ : Ent)]).length ≤ 400) ∧ BI s ((r3 left).1) (last.extract 0 n ++ xV (r1 left).1) (out ++ [(⟨((zBB (last.extract 0 n ++ xV (r1 left).1)).getD entZ).user, ((zBB (last.extract 0 n ++ xV (r1 left).1)).getD entZ).seq, ((zBB (last.extract 0 n ++ xV (r1 left).1)).getD entZ).kind, xV (r2 left).1⟩ : Ent)])
          exact ⟨⟨by have := r3_le left; omega, zHS hkk, by rw [List.length_append, List.length_singleton]; omega⟩, hB.step hne g1 g4 g5 hkk⟩
         ·
          show ((r3 left).1).size < left.size
          have q1 := zDZ g1; have q2 := zDz g4; have q3 := zDz g5; omega
         · exact zAJ ⟨rfl, rfl, rfl, hp11, rfl, trivial⟩ trivial ⟨(congrArg (fun x => some (2, x)) (by exact congrArg pvTk (Prod.ext rfl hbd))), (congrArg (fun x => some (4, x)) hr10), trivial⟩ rfl
      ·
       have h7' := h7
       replace h7' := of_decide_eq_true h7'
       refine zAA rfl (.m rfl rfl (.r rfl (zAe rfl rfl) (.r rfl (zA1 rfl rfl underlying104 rfl sizeOf4 (by decide)) (.r rfl (zAI (zBb (.bool ((r3 left).2)) rfl rfl rfl rfl isAgg4 rfl) (zAE h6)) (.m rfl rfl (.m rfl rfl (.m rfl rfl (.r rfl (zAO rfl rfl underlying9) (.r rfl (zAI (zBH rfl rfl rfl) (zAE h7)) (.r rfl (zAg rfl rfl) (.m rfl rfl (.not rfl (.not rfl (.not rfl (.r rfl (zAh rfl rfl) .nil))))))))))))))) ?_
       refine zAT (t := true) rfl (fun _ => ?_) (fun h => nomatch h)
       refine zAB ?_
       rw [hB.stop hne (by omega) (.inr (.inl (by omega)))]
       refine zAQ (s' := mk [] [] []) ?_ ?_
       · exact zAJ trivial trivial trivial rfl
       refine zAA rfl (.a rfl rfl (.a rfl rfl .nil)) ?_
       refine zAK ?_
       exact ends [_, _] [] (.cons (.tmp rfl) (.cons (.tmp rfl) .nil)) (.cons (.one (.nil _) (.sl _ _ (fun _ h => nomatch h))) (.cons (.one .v (.v _)) .nil)) (by decide) trivial
     ·
      have h6' := h6
      refine zAA rfl (.m rfl rfl (.r rfl (zAe rfl rfl) (.r rfl (zA1 rfl rfl underlying104 rfl sizeOf4 (by decide)) (.r rfl (zAI (zBb (.bool ((r3 left).2)) rfl rfl rfl rfl isAgg4 rfl) (zAE h6)) (.m rfl rfl (.not rfl (.not rfl (.not rfl (.not rfl (.r rfl (zAh rfl rfl) (.m rfl rfl (.not rfl (.not rfl (.not rfl (.r rfl (zAh rfl rfl) .nil))))))))))))))) ?_
      refine zAT (t := true) rfl (fun _ => ?_) (fun h => nomatch h)
      refine zAB ?_
      rw [hB.stop hne (by omega) (.inl h6')]
      refine zAQ (s' := mk [] [] []) ?_ ?_
      · exact zAJ trivial trivial trivial rfl
      refine zAA rfl (.a rfl rfl (.a rfl rfl .nil)) ?_
      refine zAK ?_
      exact ends [_, _] [] (.cons (.tmp rfl) (.cons (.tmp rfl) .nil)) (.cons (.one (.nil _) (.sl _ _ (fun _ h => nomatch h))) (.cons (.one .v (.v _)) .nil)) (by decide) trivial
    ·
     replace h4 : left = ⟨#[]⟩ := of_decide_eq_true (zAq h4)
     refine zAn ?_
     refine zAB ?_
     refine zAB ?_
     have hB0 : BI s ⟨#[]⟩ last out := by rw [← show left = ⟨#[]⟩ from h4]; exact hB
     refine zAA rfl (.m rfl rfl (.m rfl rfl (.run [2, 9700, 9701] [] rfl (zAF rfl 9700 (X := []) en123 rfl (.val nod) (.cons (.one (.bor (.all (len := (pvE out).length) (xs := pvE out) rfl rfl (by decide)))) (.cons (.one (.bor .v)) .nil)) (by decide) all_nil .nil (zKR out (zBT s) (by omega) (by omega)) rfl rfl (nle rfl)) (.m rfl rfl (.r rfl (zAH rfl rfl rfl) (.r rfl (zAH rfl rfl rfl) (.a rfl rfl (.a rfl rfl .nil)))))))) ?_
     refine zAB ?_
     refine zAQ (s' := mk [(0, .vs s), (8, .sl 2 0 ((pvE out).length)), (15, .vs ((zBn out (zBT s)).getD ⟨#[]⟩)), (16, .vb ((zBn out (zBT s)).isSome))] [] [(2, 4, pvE out)]) ?_ ?_
     · exact zAJ ⟨rfl, rfl, rfl, rfl, trivial⟩ trivial ⟨rfl, trivial⟩ rfl
     rcases bfc (!((zBn out (zBT s)).isSome)) with h12 | h12
     ·
      have h12' := h12
      replace h12' : ((zBn out (zBT s)).isSome) = true := zAq h12'
      refine zAA rfl (.m rfl rfl (.r rfl (zAI (zAa (b := (zBn out (zBT s)).isSome) rfl rfl) (zAE h12)) (.m rfl rfl (.m rfl rfl (.m rfl rfl (.r rfl (zCv rfl rfl rfl) (.r rfl (zAg rfl rfl) .nil))))))) ?_
      refine zAT (t := (!(decide (((zBn out (zBT s)).getD ⟨#[]⟩) = s)))) rfl (fun h13 => ?_) (fun h13 => ?_)
      ·
       replace h13 : ¬ (((zBn out (zBT s)).getD ⟨#[]⟩) = s) := of_decide_eq_false (zAp h13)
       refine zAB ?_
       rw [hB0.bad (fun q => h13 (by rw [q]; rfl))]
       refine zAA rfl (.a rfl rfl (.a rfl rfl .nil)) ?_
       refine zAK ?_
       exact ends [_, _] [] (.cons (.tmp rfl) (.cons (.tmp rfl) .nil)) (.cons (.one (.nil _) (.sl _ _ (fun _ h => nomatch h))) (.cons (.one .v (.v _)) .nil)) (by decide) trivial
      ·
       replace h13 : ((zBn out (zBT s)).getD ⟨#[]⟩) = s := of_decide_eq_true (zAq h13)
       refine zAM ?_
       refine zAB ?_
       rw [hB0.good (zHy h12' h13)]
       refine zAA rfl (.m rfl rfl (.a rfl rfl (.a rfl rfl .nil))) ?_
       refine zAK ?_
       exact ends [_, _] [2] (.cons (.tmp rfl) (.cons (.tmp rfl) .nil)) (.cons (.one (.row (len := (pvE out).length) (xs := pvE out) rfl rfl) (.sl _ _ (FlatP.clean (zFI _)))) (.cons (.one .v (.v _)) .nil)) (by decide) trivial
     ·
      have h12' := h12
      replace h12' : ((zBn out (zBT s)).isSome) = false := zAp h12'
      refine zAA rfl (.m rfl rfl (.r rfl (zAI (zAa (b := (zBn out (zBT s)).isSome) rfl rfl) (zAE h12)) (.m rfl rfl (.not rfl (.not rfl (.not rfl (.r rfl (zAh rfl rfl) .nil))))))) ?_
      refine zAT (t := true) rfl (fun _ => ?_) (fun h => nomatch h)
      refine zAB ?_
      rw [hB0.bad (fun q => by rw [q] at h12'; cases h12')]
      refine zAA rfl (.a rfl rfl (.a rfl rfl .nil)) ?_
      refine zAK ?_
      exact ends [_, _] [] (.cons (.tmp rfl) (.cons (.tmp rfl) .nil)) (.cons (.one (.nil _) (.sl _ _ (fun _ h => nomatch h))) (.cons (.one .v (.v _)) .nil)) (by decide) trivial
 ·
  have h1' := h1
  replace h1' := of_decide_eq_true h1'
  refine zAA rfl (.m rfl rfl (.r rfl (zAO rfl rfl underlying9) (.r rfl (zAI (zAz rfl rfl rfl) (zAE h1)) (.m rfl rfl (.not rfl (.not rfl (.not rfl (.r rfl (zAh rfl rfl) .nil)))))))) ?_
  refine zAT (t := true) rfl (fun _ => ?_) (fun h => nomatch h)
  refine zAB ?_
  rw [zEX (s := s) (.inl (by omega))]
  refine zAA rfl (.a rfl rfl (.a rfl rfl .nil)) ?_
  refine zAK ?_
  exact ends [_, _] [] (.cons (.tmp rfl) (.cons (.tmp rfl) .nil)) (.cons (.one (.nil _) (.sl _ _ (fun _ h => nomatch h))) (.cons (.one .v (.v _)) .nil)) (by decide) trivial
theorem zG9 (s : ByteArray) (hs : s.size ≤ 9000000000000000000) : Con Tryz.prog 51 [.one (PV.v (.string s))] [] [.one (.sl true 4 (pvE ((zBI s).getD []))), .one (.v (.bool ((zBI s).isSome)))] := by
 refine zAR func51 rfl rfl rfl rfl ?_
 refine zAB (zAA rfl (.a rfl rfl (.a rfl rfl .nil)) ?_)
 refine zAB ?_
 refine zAB ?_
 rcases bfc (decide ((s.size : Int) < 8)) with h1 | h1
 ·
  have h1' := h1
  replace h1' := of_decide_eq_false h1'
  refine zAA rfl (.m rfl rfl (.r rfl (zAO rfl rfl underlying9) (.r rfl (zAI (zAz rfl rfl rfl) (zAE h1)) (.m rfl rfl (.m rfl rfl (.r rfl (zAO rfl rfl underlying9) (.r rfl (zBH rfl rfl rfl) (.r rfl (zAg rfl rfl) .nil)))))))) ?_
  refine zAT (t := decide (60000 < (s.size : Int))) rfl (fun h2 => ?_) (fun h2 => ?_)
  ·
   replace h2 := of_decide_eq_true h2
   refine zAB ?_
   rw [zEX (s := s) (.inr (by omega))]
   refine zAA rfl (.a rfl rfl (.a rfl rfl .nil)) ?_
   refine zAK ?_
   exact ends [_, _] [] (.cons (.tmp rfl) (.cons (.tmp rfl) .nil)) (.cons (.one (.nil _) (.sl _ _ (fun _ h => nomatch h))) (.cons (.one .v (.v _)) .nil)) (by decide) trivial
  ·
   replace h2 := of_decide_eq_false h2
   refine zAM ?_
   refine zAB ?_
   have hml := zLD s
   have hel := zJk s
   have hbt := zEi (s := s) (by omega)
   refine zAQ (s' := mk [(0, .vs s)] [] []) ?_ ?_
   · exact zAJ ⟨rfl, trivial⟩ trivial trivial rfl
   refine zAA rfl (.m rfl rfl (.m rfl rfl (.r rfl (zAO rfl rfl underlying9) (.r rfl (zAI (zBt rfl rfl rfl (by omega)) ((zAG (show (s.size : Int) - 8 = ((s.size - 8 : Nat) : Int) by omega)))) (.r rfl (zAI (zAv rfl rfl underlying9 (.at_ rfl rfl) .no (by omega) (Nat.le_refl _)) ((zA5 (show s.extract (s.size - 8) s.size = zCn s from rfl)))) (.run [4000, 4001, 4002] [] rfl (zAF rfl 4000 (X := []) en89 rfl (.val nod) (.cons (.one (.bor .v)) .nil) (by decide) all_nil .nil (zCQ (zCn s) (by omega)) rfl rfl (nle rfl)) (.m rfl rfl (.r rfl (zAH rfl rfl rfl) (.r rfl (zAH rfl rfl rfl) (.r rfl (zAH rfl rfl rfl) (.a rfl rfl (.a rfl rfl (.a rfl rfl .nil))))))))))))) ?_
   refine zAB ?_
   have hm := zLC (s := s) (by omega)
   have hmr : (tvR (zBM (zCn s))).size ≤ 8 := by rw [hm]; show ((zCn s).extract 4 (zCn s).size).size ≤ 8; rw [ByteArray.size_extract]; omega
   refine zAQ (s' := mk [(0, .vs s), (4, .p none (.v (.int .u32 ((tvN (zBM (zCn s)) : Nat) : Int)))), (5, .vs (tvR (zBM (zCn s))))] [] []) ?_ ?_
   · exact zAJ ⟨rfl, rfl, rfl, trivial⟩ trivial trivial rfl
   refine zAA rfl (.m rfl rfl (.run [4600, 4601, 4602] [] rfl (zAF rfl 4600 (X := []) en89 rfl (.val nod) (.cons (.one (.bor .v)) .nil) (by decide) all_nil .nil (zCQ (tvR (zBM (zCn s))) (by omega)) rfl rfl (nle rfl)) (.m rfl rfl (.r rfl (zAH rfl rfl rfl) (.r rfl (zAH rfl rfl rfl) (.r rfl (zAH rfl rfl rfl) (.a rfl rfl (.a rfl rfl (.a rfl rfl .nil))))))))) ?_
   refine zAB ?_
   refine zAB ?_
   refine zAQ (s' := mk [(0, .vs s), (4, .p none (.v (.int .u32 ((zED s : Nat) : Int)))), (7, .p none (.v (.int .u32 ((zBT s : Nat) : Int))))] [] []) ?_ ?_
   · exact zAJ ⟨rfl, (zAG (by rw [hm]; rfl)), (zAG (by rw [hm]; exact congrArg Nat.cast (zJj (s := s) (by omega)).1)), trivial⟩ trivial trivial rfl
   refine zAA rfl (.m rfl rfl (.r rfl (zBe rfl rfl underlying69 underlying2 (by omega)) (.m rfl rfl (.r rfl (zAO rfl rfl underlying9) (.r rfl (zAI (zBt rfl rfl rfl (by omega)) ((zAG (show (s.size : Int) - 8 = ((s.size - 8 : Nat) : Int) by omega)))) (.r rfl (zAI (zE8 rfl rfl rfl (by omega)) ((zAG (quo4b (by omega))))) (.r rfl (zBH rfl rfl rfl) .nil))))))) ?_
   refine zAT (t := decide ((((s.size - 8) / 4 : Nat) : Int) < ((zED s : Nat) : Int))) rfl (fun h3 => ?_) (fun h3 => ?_)
   ·
    replace h3 := of_decide_eq_true h3
    refine zAB ?_
    rw [zHU (s := s) (by omega)]
    refine zAA rfl (.a rfl rfl (.a rfl rfl .nil)) ?_
    refine zAK ?_
    exact ends [_, _] [] (.cons (.tmp rfl) (.cons (.tmp rfl) .nil)) (.cons (.one (.nil _) (.sl _ _ (fun _ h => nomatch h))) (.cons (.one .v (.v _)) .nil)) (by decide) trivial
   ·
    replace h3 := of_decide_eq_false h3
    refine zAM ?_
    refine zAB ?_
    refine zAQ (s' := mk [(0, .vs s), (4, .p none (.v (.int .u32 ((zED s : Nat) : Int)))), (7, .p none (.v (.int .u32 ((zBT s : Nat) : Int))))] [] []) ?_ ?_
    · exact zAJ ⟨rfl, rfl, rfl, trivial⟩ trivial trivial rfl
    refine zAA rfl (.m rfl rfl (.m rfl rfl (.r rfl (zAO rfl rfl underlying9) (.r rfl (zAI (zBt rfl rfl rfl (by omega)) ((zAG (show (s.size : Int) - 8 = ((s.size - 8 : Nat) : Int) by omega)))) (.m rfl rfl (.r rfl (zBe rfl rfl underlying69 underlying3 (by omega)) (.r rfl (zCw rfl rfl rfl (by omega)) (.r rfl (zAI (zBt rfl rfl rfl (by omega)) ((zAG (show ((s.size - 8 : Nat) : Int) - 4 * ((zED s : Nat) : Int) = ((s.size - 8 - 4 * zED s : Nat) : Int) by omega)))) (.r rfl (zAv rfl rfl underlying9 .no (.at_ rfl rfl) (Nat.zero_le _) (by omega)) (.a rfl rfl .nil)))))))))) ?_
    refine zAB (zAA rfl (.run [6600] [] rfl (zAy rfl 6600 underlying24 zEC (nle rfl) (by decide) rfl rfl rfl .nil (by decide) rfl (by decide) rfl (by decide) rfl) (.a rfl rfl .nil)) ?_)
    refine zAB (zAA rfl (.a rfl rfl .nil) ?_)
    refine zAB ?_
    refine zAS ?_
    refine zAQ (zCc 6600 2 rfl rfl (by decide)) ?_
    refine zAo (σ := ByteArray × ByteArray × List Ent) (fun (left, last, out) => mk [(0, .vs s), (7, .p none (.v (.int .u32 ((zBT s : Nat) : Int)))), (10, .vs left), (11, .sl 2 0 ((pvE out).length)), (12, .vs last)] [] [(2, 4, pvE out)]) (fun (left, last, out) => (left.size ≤ s.size ∧ last.size ≤ 48 ∧ out.length ≤ 400) ∧ BI s left last out) (fun (left, last, out) => left.size) (s.extract 0 (s.size - 8 - 4 * zED s), ⟨#[]⟩, []) ⟨⟨by rw [ByteArray.size_extract]; omega, by decide, by decide⟩, BI.start s⟩ (zAJ ⟨rfl, rfl, rfl, rfl, rfl, trivial⟩ trivial ⟨(congrArg (fun x => some (4, x)) (by rfl)), trivial⟩ rfl) ?_
    rintro ⟨left, last, out⟩ hG
    replace hG : (left.size ≤ s.size ∧ last.size ≤ 48 ∧ out.length ≤ 400) ∧ BI s left last out := hG
    obtain ⟨⟨hls, hla, hlo⟩, hB⟩ := hG
    have hvo := zA2 out
    refine zAB ?_
    refine zAB (zAA rfl (.m rfl rfl (.r rfl (zCv rfl rfl rfl) .nil)) ?_)
    refine zAT (t := (!(decide (left = ⟨#[]⟩)))) rfl (fun h4 => ?_) (fun h4 => ?_)
    ·
     replace h4 : ¬ (left = ⟨#[]⟩) := of_decide_eq_false (zAp h4)
     refine zAM ?_
     refine zAS ?_
     refine zAB ?_
     have hne := h4
     have hn1 := zFn left
     have hn2 := zIi (tvR (zAP left))
     have hn3 := zLw left
     refine zAA rfl (.m rfl rfl (.run [7100, 7101, 7102] [] rfl (zAF rfl 7100 (X := []) en91 rfl (.val nod) (.cons (.one (.bor .v)) .nil) (by decide) all_nil .nil (zB3 left (by omega)) rfl rfl (nle rfl)) (.m rfl rfl (.r rfl (zAH rfl rfl rfl) (.r rfl (zAH rfl rfl rfl) (.r rfl (zAH rfl rfl rfl) (.a rfl rfl (.a rfl rfl (.a rfl rfl .nil))))))))) ?_
     refine zAB ?_
     refine zAQ (s' := mk [(0, .vs s), (7, .p none (.v (.int .u32 ((zBT s : Nat) : Int)))), (11, .sl 2 0 ((pvE out).length)), (12, .vs last), (13, .p none (.v (.int .u64 ((tvN (zAP left) : Nat) : Int)))), (14, .vs (tvR (zAP left))), (15, .vb ((zAP left).isSome))] [] [(2, 4, pvE out)]) ?_ ?_
     · exact zAJ ⟨rfl, rfl, rfl, rfl, rfl, rfl, rfl, trivial⟩ trivial ⟨rfl, trivial⟩ rfl
     refine zAA rfl (.m rfl rfl (.run [7700, 7701, 7702] [] rfl (zAF rfl 7700 (X := []) en90 rfl (.val nod) (.cons (.one (.bor .v)) .nil) (by decide) all_nil .nil (zDH (tvR (zAP left)) (by omega)) rfl rfl (nle rfl)) (.m rfl rfl (.r rfl (zAH rfl rfl rfl) (.r rfl (zAH rfl rfl rfl) (.r rfl (zAH rfl rfl rfl) (.a rfl rfl (.a rfl rfl (.a rfl rfl .nil))))))))) ?_
     refine zAB ?_
     refine zAQ (s' := mk [(0, .vs s), (7, .p none (.v (.int .u32 ((zBT s : Nat) : Int)))), (11, .sl 2 0 ((pvE out).length)), (12, .vs last), (13, .p none (.v (.int .u64 ((tvN (zAP left) : Nat) : Int)))), (15, .vb ((zAP left).isSome)), (16, .vs (txX (zAX (tvR (zAP left))))), (17, .vs (txR (zAX (tvR (zAP left))))), (18, .vb ((zAX (tvR (zAP left))).isSome))] [] [(2, 4, pvE out)]) ?_ ?_
     · exact zAJ ⟨rfl, rfl, rfl, rfl, rfl, rfl, rfl, rfl, rfl, trivial⟩ trivial ⟨rfl, trivial⟩ rfl
     refine zAA rfl (.m rfl rfl (.run [8300, 8301, 8302] [] rfl (zAF rfl 8300 (X := []) en90 rfl (.val nod) (.cons (.one (.bor .v)) .nil) (by decide) all_nil .nil (zDH (txR (zAX (tvR (zAP left)))) (by omega)) rfl rfl (nle rfl)) (.m rfl rfl (.r rfl (zAH rfl rfl rfl) (.r rfl (zAH rfl rfl rfl) (.r rfl (zAH rfl rfl rfl) (.a rfl rfl (.a rfl rfl (.a rfl rfl .nil))))))))) ?_
     refine zAB ?_
     refine zAB ?_
     refine zAQ (s' := mk [(0, .vs s), (7, .p none (.v (.int .u32 ((zBT s : Nat) : Int)))), (11, .sl 2 0 ((pvE out).length)), (12, .vs last), (13, .p none (.v (.int .u64 ((tvN (zAP left) : Nat) : Int)))), (15, .vb ((zAP left).isSome)), (16, .vs (txX (zAX (tvR (zAP left))))), (18, .vb ((zAX (tvR (zAP left))).isSome)), (19, .vs (txX (zAX (txR (zAX (tvR (zAP left))))))), (20, .vs (txR (zAX (txR (zAX (tvR (zAP left))))))), (21, .vb ((zAX (txR (zAX (tvR (zAP left))))).isSome))] [] [(2, 4, pvE out)]) ?_ ?_
     · exact zAJ ⟨rfl, rfl, rfl, rfl, rfl, rfl, rfl, rfl, rfl, rfl, rfl, trivial⟩ trivial ⟨rfl, trivial⟩ rfl
     rcases bfc (!((zAP left).isSome)) with h5 | h5
     ·
      have h5' := h5
      replace h5' : ((zAP left).isSome) = true := zAq h5'
      rcases bfc (!((zAX (tvR (zAP left))).isSome)) with h6 | h6
      ·
       have h6' := h6
       replace h6' : ((zAX (tvR (zAP left))).isSome) = true := zAq h6'
       rcases bfc (!((zAX (txR (zAX (tvR (zAP left))))).isSome)) with h7 | h7
       ·
        have h7' := h7
        replace h7' : ((zAX (txR (zAX (tvR (zAP left))))).isSome) = true := zAq h7'
        refine zAA rfl (.m rfl rfl (.r rfl (zAI (zAa (b := (zAP left).isSome) rfl rfl) (zAE h5)) (.m rfl rfl (.m rfl rfl (.r rfl (zAI (zAa (b := (zAX (tvR (zAP left))).isSome) rfl rfl) (zAE h6)) (.r rfl (zAg rfl rfl) (.m rfl rfl (.m rfl rfl (.r rfl (zAI (zAa (b := (zAX (txR (zAX (tvR (zAP left))))).isSome) rfl rfl) (zAE h7)) (.r rfl (zAg rfl rfl) (.m rfl rfl (.m rfl rfl (.m rfl rfl (.r rfl (zAO rfl rfl underlying9) (.r rfl (zAI (zAc (k' := .u64) 18446744073709551616 rfl last.size rfl rfl rfl underlying3 underlying58) ((zAG (show ((last.size % 18446744073709551616 : Nat) : Int) = ((last.size : Nat) : Int) by omega)))) (.r rfl (zBH rfl rfl rfl) (.r rfl (zAg rfl rfl) .nil))))))))))))))))) ?_
        refine zAT (t := decide (((last.size : Nat) : Int) < ((tvN (zAP left) : Nat) : Int))) rfl (fun h8 => ?_) (fun h8 => ?_)
        ·
         replace h8 := of_decide_eq_true h8
         refine zAB ?_
         rw [hB.stop1 hne (.inr (.inr (.inr (by omega))))]
         refine zAQ (s' := mk [] [] []) ?_ ?_
         · exact zAJ trivial trivial trivial rfl
         refine zAA rfl (.a rfl rfl (.a rfl rfl .nil)) ?_
         refine zAK ?_
         exact ends [_, _] [] (.cons (.tmp rfl) (.cons (.tmp rfl) .nil)) (.cons (.one (.nil _) (.sl _ _ (fun _ h => nomatch h))) (.cons (.one .v (.v _)) .nil)) (by decide) trivial
        ·
         replace h8 := of_decide_eq_false h8
         refine zAM ?_
         refine zAB ?_
         have g1 := zIj h5'
         have g2 := zJr h6'
         have g3 := zJr h7'
         have hxl := zLv (tvR (zAP left))
         have hex : (last.extract 0 (tvN (zAP left))).size ≤ 48 := by rw [ByteArray.size_extract]; omega
         refine zAQ (s' := mk [(0, .vs s), (7, .p none (.v (.int .u32 ((zBT s : Nat) : Int)))), (11, .sl 2 0 ((pvE out).length)), (12, .vs last), (13, .p none (.v (.int .u64 ((tvN (zAP left) : Nat) : Int)))), (16, .vs (txX (zAX (tvR (zAP left))))), (19, .vs (txX (zAX (txR (zAX (tvR (zAP left))))))), (20, .vs (txR (zAX (txR (zAX (tvR (zAP left))))))), (90, .vb ((zAX (tvR (zAP left))).isSome)), (91, .vb false), (94, .vb ((zAX (txR (zAX (tvR (zAP left))))).isSome)), (95, .vb false), (98, .p none (.v (.int .u64 ((tvN (zAP left) : Nat) : Int)))), (99, .vs last), (100, .vi (last.size : Int)), (101, .p none (.v (.int .u64 ((last.size : Nat) : Int)))), (102, .vb (decide (((last.size : Nat) : Int) < ((tvN (zAP left) : Nat) : Int))))] [] [(2, 4, pvE out)]) ?_ ?_
         · exact zAJ ⟨rfl, rfl, rfl, rfl, rfl, rfl, rfl, rfl, rfl, rfl, rfl, rfl, rfl, rfl, rfl, rfl, rfl, trivial⟩ trivial ⟨rfl, trivial⟩ rfl
         refine zAA rfl (.m rfl rfl (.m rfl rfl (.r rfl (zAv rfl rfl underlying9 .no (.at_ rfl rfl) (Nat.zero_le _) (by omega)) (.m rfl rfl (.r rfl (zAx rfl rfl rfl (by first | omega | (simp only [zAZ, zAU]; omega))) (.a rfl rfl .nil)))))) ?_
         refine zAB ?_
         have hsk : ((last.extract 0 (tvN (zAP left))) ++ (txX (zAX (tvR (zAP left))))).size ≤ 100000 := by rw [zAZ]; omega
         refine zAA rfl (.m rfl rfl (.run [11100, 11101, 11102, 11103] [] rfl (zAF rfl 11100 (X := []) en95 rfl (.val nod) (.cons (.one (.bor .v)) .nil) (by decide) all_nil .nil (zIx ((last.extract 0 (tvN (zAP left))) ++ (txX (zAX (tvR (zAP left))))) (by omega)) rfl rfl (nle rfl)) (.m rfl rfl (.r rfl (zAH rfl rfl rfl) (.r rfl (zAH rfl rfl rfl) (.run [] [22] rfl (zA7 rfl 22 zFg rfl (by decide) rfl (by decide)) (.r rfl (zAN rfl rfl rfl rfl rfl sizeOf43 rfl (nle rfl)) (.a rfl rfl .nil)))))))) ?_
         refine zAB ?_
         refine zAB ?_
         refine zAQ (s' := mk [(0, .vs s), (7, .p none (.v (.int .u32 ((zBT s : Nat) : Int)))), (11, .sl 2 0 ((pvE out).length)), (12, .vs ((last.extract 0 (tvN (zAP left))) ++ (txX (zAX (tvR (zAP left)))))), (19, .vs (txX (zAX (txR (zAX (tvR (zAP left))))))), (20, .vs (txR (zAX (txR (zAX (tvR (zAP left))))))), (22, .ptr 22 0), (23, .vb ((zBB ((last.extract 0 (tvN (zAP left))) ++ (txX (zAX (tvR (zAP left)))))).isSome)), (90, .vb ((zAX (tvR (zAP left))).isSome)), (91, .vb false), (94, .vb ((zAX (txR (zAX (tvR (zAP left))))).isSome)), (95, .vb false), (98, .p none (.v (.int .u64 ((tvN (zAP left) : Nat) : Int)))), (99, .vs last), (100, .vi (last.size : Int)), (101, .p none (.v (.int .u64 ((last.size : Nat) : Int)))), (102, .vb (decide (((last.size : Nat) : Int) < ((tvN (zAP left) : Nat) : Int))))] [(22, [.vs (((zBB ((last.extract 0 (tvN (zAP left))) ++ (txX (zAX (tvR (zAP left)))))).getD entZ).user), .vi (((zBB ((last.extract 0 (tvN (zAP left))) ++ (txX (zAX (tvR (zAP left)))))).getD entZ).seq), .vi (((zBB ((last.extract 0 (tvN (zAP left))) ++ (txX (zAX (tvR (zAP left)))))).getD entZ).kind)])] [(2, 4, pvE out)]) ?_ ?_
         · exact zAJ ⟨rfl, rfl, rfl, rfl, rfl, rfl, rfl, rfl, rfl, rfl, rfl, rfl, rfl, rfl, rfl, rfl, rfl, trivial⟩ ⟨rfl, trivial⟩ ⟨rfl, trivial⟩ rfl
         rcases bfc (!((zBB ((last.extract 0 (tvN (zAP left))) ++ (txX (zAX (tvR (zAP left)))))).isSome)) with h9 | h9
         ·
          have h9' := h9
          replace h9' : ((zBB ((last.extract 0 (tvN (zAP left))) ++ (txX (zAX (tvR (zAP left)))))).isSome) = true := zAq h9'
          refine zAA rfl (.m rfl rfl (.r rfl (zAI (zAa (b := (zBB ((last.extract 0 (tvN (zAP left))) ++ (txX (zAX (tvR (zAP left)))))).isSome) rfl rfl) (zAE h9)) (.m rfl rfl (.m rfl rfl (.r rfl (zB9 rfl rfl underlying24) (.r rfl (zDF rfl rfl rfl) (.r rfl (zAg rfl rfl) .nil))))))) ?_
          refine zAT (t := decide (400 ≤ ((pvE out).length : Int))) rfl (fun h10 => ?_) (fun h10 => ?_)
          ·
           replace h10 := of_decide_eq_true h10
           refine zAB ?_
           rw [hB.full hne (by omega)]
           refine zAA rfl (.a rfl rfl (.a rfl rfl .nil)) ?_
           refine zAK ?_
           exact ends [_, _] [] (.cons (.tmp rfl) (.cons (.tmp rfl) .nil)) (.cons (.one (.nil _) (.sl _ _ (fun _ h => nomatch h))) (.cons (.one .v (.v _)) .nil)) (by decide) trivial
          ·
           replace h10 := of_decide_eq_false h10
           refine zAM ?_
           refine zAB ?_
           have hkk := zDS (d := entZ) h9'
           refine zAA rfl (.m rfl rfl (.r rfl (zAW rfl rfl rfl isAgg43 sizeOf43 (nle rfl)) (.m rfl rfl (.r rfl (zAt (pl := [(0, 3), (3, 1)]) rfl underlying45 zEC (by kernel_rfl) rfl rfl) (.run [12500] [] rfl (zAy rfl 12500 underlying24 zEC (nle rfl) (by decide) rfl rfl rfl (.cons .v (.cons .v (.cons .v (.cons .v .nil)))) (by decide) rfl (by decide) rfl (by decide) rfl) (.run [2] [] rfl (zB2 rfl 2 (ib := 2) (len := ((pvE out) ++ [[PV.v (.string (((zBB ((last.extract 0 (tvN (zAP left))) ++ (txX (zAX (tvR (zAP left)))))).getD entZ).user)), PV.v (.int .i64 (((zBB ((last.extract 0 (tvN (zAP left))) ++ (txX (zAX (tvR (zAP left)))))).getD entZ).seq)), PV.v (.int .i64 (((zBB ((last.extract 0 (tvN (zAP left))) ++ (txX (zAX (tvR (zAP left)))))).getD entZ).kind)), PV.v (.string (txX (zAX (txR (zAX (tvR (zAP left)))))))]]).length) rfl rfl (.row (len := (pvE out).length) (xs := pvE out) rfl rfl (.inl rfl)) (.give (len := 1) (xs := [[PV.v (.string (((zBB ((last.extract 0 (tvN (zAP left))) ++ (txX (zAX (tvR (zAP left)))))).getD entZ).user)), PV.v (.int .i64 (((zBB ((last.extract 0 (tvN (zAP left))) ++ (txX (zAX (tvR (zAP left)))))).getD entZ).seq)), PV.v (.int .i64 (((zBB ((last.extract 0 (tvN (zAP left))) ++ (txX (zAX (tvR (zAP left)))))).getD entZ).kind)), PV.v (.string (txX (zAX (txR (zAX (tvR (zAP left)))))))]]) rfl rfl) underlying24 (sk underlying24 rfl) zEC rfl (by decide) (by decide) (by decide) List.length_append (by simp only [maxLen, List.length_append, List.length_cons, List.length_nil, List.length_take, zA2]; omega) (by simp only [maxLen, List.length_append, List.length_cons, List.length_nil, List.length_take, zA2]; omega)) (.a rfl rfl .nil))))))) ?_
           have hr11 : (pvE out) ++ [[PV.v (.string (((zBB ((last.extract 0 (tvN (zAP left))) ++ (txX (zAX (tvR (zAP left)))))).getD entZ).user)), PV.v (.int .i64 (((zBB ((last.extract 0 (tvN (zAP left))) ++ (txX (zAX (tvR (zAP left)))))).getD entZ).seq)), PV.v (.int .i64 (((zBB ((last.extract 0 (tvN (zAP left))) ++ (txX (zAX (tvR (zAP left)))))).getD entZ).kind)), PV.v (.string (txX (zAX (txR (zAX (tvR (zAP left)))))))]] = pvE (out ++ [(⟨((zBB ((last.extract 0 (tvN (zAP left))) ++ (txX (zAX (tvR (zAP left)))))).getD entZ).user, ((zBB ((last.extract 0 (tvN (zAP left))) ++ (txX (zAX (tvR (zAP left)))))).getD entZ).seq, ((zBB ((last.extract 0 (tvN (zAP left))) ++ (txX (zAX (tvR (zAP left)))))).getD entZ).kind, txX (zAX (txR (zAX (tvR (zAP left)))))⟩ : Ent)]) := by exact zGh out (⟨((zBB ((last.extract 0 (tvN (zAP left))) ++ (txX (zAX (tvR (zAP left)))))).getD entZ).user, ((zBB ((last.extract 0 (tvN (zAP left))) ++ (txX (zAX (tvR (zAP left)))))).getD entZ).seq, ((zBB ((last.extract 0 (tvN (zAP left))) ++ (txX (zAX (tvR (zAP left)))))).getD entZ).kind, txX (zAX (txR (zAX (tvR (zAP left)))))⟩ : Ent)
           have hp12 : (.sl 2 0 (((pvE out) ++ [[PV.v (.string (((zBB ((last.extract 0 (tvN (zAP left))) ++ (txX (zAX (tvR (zAP left)))))).getD entZ).user)), PV.v (.int .i64 (((zBB ((last.extract 0 (tvN (zAP left))) ++ (txX (zAX (tvR (zAP left)))))).getD entZ).seq)), PV.v (.int .i64 (((zBB ((last.extract 0 (tvN (zAP left))) ++ (txX (zAX (tvR (zAP left)))))).getD entZ).kind)), PV.v (.string (txX (zAX (txR (zAX (tvR (zAP left)))))))]]).length) : AV) = .sl 2 0 ((pvE (out ++ [(⟨((zBB ((last.extract 0 (tvN (zAP left))) ++ (txX (zAX (tvR (zAP left)))))).getD entZ).user, ((zBB ((last.extract 0 (tvN (zAP left))) ++ (txX (zAX (tvR (zAP left)))))).getD entZ).seq, ((zBB ((last.extract 0 (tvN (zAP left))) ++ (txX (zAX (tvR (zAP left)))))).getD entZ).kind, txX (zAX (txR (zAX (tvR (zAP left)))))⟩ : Ent)])).length) := by simp only [hr11]
           refine zAQ (s' := mk [(0, .vs s), (7, .p none (.v (.int .u32 ((zBT s : Nat) : Int)))), (11, .sl 2 0 ((pvE (out ++ [(⟨((zBB ((last.extract 0 (tvN (zAP left))) ++ (txX (zAX (tvR (zAP left)))))).getD entZ).user, ((zBB ((last.extract 0 (tvN (zAP left))) ++ (txX (zAX (tvR (zAP left)))))).getD entZ).seq, ((zBB ((last.extract 0 (tvN (zAP left))) ++ (txX (zAX (tvR (zAP left)))))).getD entZ).kind, txX (zAX (txR (zAX (tvR (zAP left)))))⟩ : Ent)])).length)), (12, .vs ((last.extract 0 (tvN (zAP left))) ++ (txX (zAX (tvR (zAP left)))))), (20, .vs (txR (zAX (txR (zAX (tvR (zAP left))))))), (90, .vb ((zAX (tvR (zAP left))).isSome)), (91, .vb false), (94, .vb ((zAX (txR (zAX (tvR (zAP left))))).isSome)), (95, .vb false), (98, .p none (.v (.int .u64 ((tvN (zAP left) : Nat) : Int)))), (99, .vs last), (100, .vi (last.size : Int)), (101, .p none (.v (.int .u64 ((last.size : Nat) : Int)))), (102, .vb (decide (((last.size : Nat) : Int) < ((tvN (zAP left) : Nat) : Int)))), (118, .vi ((pvE out).length : Int)), (119, .vb (decide (400 ≤ ((pvE out).length : Int))))] [] [(2, 4, pvE (out ++ [(⟨((zBB ((last.extract 0 (tvN (zAP left))) ++ (txX (zAX (tvR (zAP left)))))).getD entZ).user, ((zBB ((last.extract 0 (tvN (zAP left))) ++ (txX (zAX (tvR (zAP left)))))).getD entZ).seq, ((zBB ((last.extract 0 (tvN (zAP left))) ++ (txX (zAX (tvR (zAP left)))))).getD entZ).kind, txX (zAX (txR (zAX (tvR (zAP left)))))⟩ : Ent)]))]) ?_ ?_
           · exact zAJ ⟨rfl, rfl, hp12, rfl, rfl, rfl, rfl, rfl, rfl, rfl, rfl, rfl, rfl, rfl, rfl, rfl, trivial⟩ trivial ⟨(congrArg (fun x => some (4, x)) hr11), trivial⟩ rfl
           refine zAA rfl (.m rfl rfl (.a rfl rfl .nil)) ?_
           refine nxt (Q := fun _ _ => False) (z := (left, last, out)) (txR (zAX (txR (zAX (tvR (zAP left))))), (last.extract 0 (tvN (zAP left))) ++ (txX (zAX (tvR (zAP left)))), out ++ [(⟨((zBB ((last.extract 0 (tvN (zAP left))) ++ (txX (zAX (tvR (zAP left)))))).getD entZ).user, ((zBB ((last.extract 0 (tvN (zAP left))) ++ (txX (zAX (tvR (zAP left)))))).getD entZ).seq, ((zBB ((last.extract 0 (tvN (zAP left))) ++ (txX (zAX (tvR (zAP left)))))).getD entZ).kind, txX (zAX (txR (zAX (tvR (zAP left)))))⟩ : Ent)]) ?_ ?_ ?_
           ·
            show ((txR (zAX (txR (zAX (tvR (zAP left)))))).size ≤ s.size ∧ ((last.extract 0 (tvN (zAP left))) ++ (txX (zAX (tvR (zAP left))))).size ≤ 48 ∧ (out ++ [(⟨((zBB ((last.extract 0 (tvN (zAP left))) ++ (txX (zAX (tvR (zAP left)))))).getD entZ).user, ((zBB ((last.extract 0 (tvN (zAP left))) ++ (txX (zAX (tvR (zAP left)))))).getD entZ).seq, ((zBB ((last.extract 0 (tvN (zAP left))) ++ (txX (zAX (tvR (zAP left)))))).getD entZ).kind, txX (zAX (txR (zAX (tvR (zAP left)))))⟩ : Ent)]).length ≤ 400) ∧ BI s (txR (zAX (txR (zAX (tvR (zAP left)))))) ((last.extract 0 (tvN (zAP left))) ++ (txX (zAX (tvR (zAP left))))) (out ++ [(⟨((zBB ((last.extract 0 (tvN (zAP left))) ++ (txX (zAX (tvR (zAP left)))))).getD entZ).user, ((zBB ((last.extract 0 (tvN (zAP left))) ++ (txX (zAX (tvR (zAP left)))))).getD entZ).seq, ((zBB ((last.extract 0 (tvN (zAP left))) ++ (txX (zAX (tvR (zAP left)))))).getD entZ).kind, txX (zAX (txR (zAX (tvR (zAP left)))))⟩ : Ent)])
            exact ⟨⟨by have q1 := zFn left; have q2 := zIi (tvR (zAP left)); have q3 := zIi (txR (zAX (tvR (zAP left)))); omega, zHS hkk, by rw [List.length_append, List.length_singleton]; omega⟩, hB.step hne g1 g2 g3 hkk⟩
           ·
            show (txR (zAX (txR (zAX (tvR (zAP left)))))).size < left.size
            have q1 := zDZ g1; have q2 := zDz g2; have q3 := zDz g3; omega
           · exact zAJ ⟨rfl, rfl, rfl, rfl, rfl, trivial⟩ trivial ⟨rfl, trivial⟩ rfl
         ·
          have h9' := h9
          replace h9' : ((zBB ((last.extract 0 (tvN (zAP left))) ++ (txX (zAX (tvR (zAP left)))))).isSome) = false := zAp h9'
          refine zAA rfl (.m rfl rfl (.r rfl (zAI (zAa (b := (zBB ((last.extract 0 (tvN (zAP left))) ++ (txX (zAX (tvR (zAP left)))))).isSome) rfl rfl) (zAE h9)) (.m rfl rfl (.not rfl (.not rfl (.not rfl (.r rfl (zAh rfl rfl) .nil))))))) ?_
          refine zAT (t := true) rfl (fun _ => ?_) (fun h => nomatch h)
          refine zAB ?_
          rw [hB.nokey hne g1 g2 g3 (zDD h9')]
          refine zAA rfl (.a rfl rfl (.a rfl rfl .nil)) ?_
          refine zAK ?_
          exact ends [_, _] [] (.cons (.tmp rfl) (.cons (.tmp rfl) .nil)) (.cons (.one (.nil _) (.sl _ _ (fun _ h => nomatch h))) (.cons (.one .v (.v _)) .nil)) (by decide) trivial
       ·
        have h7' := h7
        replace h7' : ((zAX (txR (zAX (tvR (zAP left))))).isSome) = false := zAp h7'
        refine zAA rfl (.m rfl rfl (.r rfl (zAI (zAa (b := (zAP left).isSome) rfl rfl) (zAE h5)) (.m rfl rfl (.m rfl rfl (.r rfl (zAI (zAa (b := (zAX (tvR (zAP left))).isSome) rfl rfl) (zAE h6)) (.r rfl (zAg rfl rfl) (.m rfl rfl (.m rfl rfl (.r rfl (zAI (zAa (b := (zAX (txR (zAX (tvR (zAP left))))).isSome) rfl rfl) (zAE h7)) (.r rfl (zAg rfl rfl) (.m rfl rfl (.not rfl (.not rfl (.not rfl (.not rfl (.not rfl (.r rfl (zAh rfl rfl) .nil))))))))))))))))) ?_
        refine zAT (t := true) rfl (fun _ => ?_) (fun h => nomatch h)
        refine zAB ?_
        rw [hB.stop1 hne (.inr (.inr (.inl (zDD h7'))))]
        refine zAQ (s' := mk [] [] []) ?_ ?_
        · exact zAJ trivial trivial trivial rfl
        refine zAA rfl (.a rfl rfl (.a rfl rfl .nil)) ?_
        refine zAK ?_
        exact ends [_, _] [] (.cons (.tmp rfl) (.cons (.tmp rfl) .nil)) (.cons (.one (.nil _) (.sl _ _ (fun _ h => nomatch h))) (.cons (.one .v (.v _)) .nil)) (by decide) trivial
      ·
       have h6' := h6
       replace h6' : ((zAX (tvR (zAP left))).isSome) = false := zAp h6'
       refine zAA rfl (.m rfl rfl (.r rfl (zAI (zAa (b := (zAP left).isSome) rfl rfl) (zAE h5)) (.m rfl rfl (.m rfl rfl (.r rfl (zAI (zAa (b := (zAX (tvR (zAP left))).isSome) rfl rfl) (zAE h6)) (.r rfl (zAg rfl rfl) (.m rfl rfl (.not rfl (.not rfl (.r rfl (zAh rfl rfl) (.m rfl rfl (.not rfl (.not rfl (.not rfl (.not rfl (.not rfl (.r rfl (zAh rfl rfl) .nil))))))))))))))))) ?_
       refine zAT (t := true) rfl (fun _ => ?_) (fun h => nomatch h)
       refine zAB ?_
       rw [hB.stop1 hne (.inr (.inl (zDD h6')))]
       refine zAQ (s' := mk [] [] []) ?_ ?_
       · exact zAJ trivial trivial trivial rfl
       refine zAA rfl (.a rfl rfl (.a rfl rfl .nil)) ?_
       refine zAK ?_
       exact ends [_, _] [] (.cons (.tmp rfl) (.cons (.tmp rfl) .nil)) (.cons (.one (.nil _) (.sl _ _ (fun _ h => nomatch h))) (.cons (.one .v (.v _)) .nil)) (by decide) trivial
     ·
      have h5' := h5
      replace h5' : ((zAP left).isSome) = false := zAp h5'
      refine zAA rfl (.m rfl rfl (.r rfl (zAI (zAa (b := (zAP left).isSome) rfl rfl) (zAE h5)) (.m rfl rfl (.not rfl (.not rfl (.r rfl (zAh rfl rfl) (.m rfl rfl (.not rfl (.not rfl (.r rfl (zAh rfl rfl) (.m rfl rfl (.not rfl (.not rfl (.not rfl (.not rfl (.not rfl (.r rfl (zAh rfl rfl) .nil))))))))))))))))) ?_
      refine zAT (t := true) rfl (fun _ => ?_) (fun h => nomatch h)
      refine zAB ?_
      rw [hB.stop1 hne (.inl (zDD h5'))]
      refine zAQ (s' := mk [] [] []) ?_ ?_
      · exact zAJ trivial trivial trivial rfl
      refine zAA rfl (.a rfl rfl (.a rfl rfl .nil)) ?_
      refine zAK ?_
      exact ends [_, _] [] (.cons (.tmp rfl) (.cons (.tmp rfl) .nil)) (.cons (.one (.nil _) (.sl _ _ (fun _ h => nomatch h))) (.cons (.one .v (.v _)) .nil)) (by decide) trivial
    ·
     replace h4 : left = ⟨#[]⟩ := of_decide_eq_true (zAq h4)
     refine zAn ?_
     refine zAB ?_
     have hB0 : BI s ⟨#[]⟩ last out := by rw [← show left = ⟨#[]⟩ from h4]; exact hB
     refine zAA rfl (.m rfl rfl (.m rfl rfl (.r rfl (zBe rfl rfl underlying69 underlying2 (by omega)) (.run [2, 13200, 13201] [] rfl (zAF rfl 13200 (X := []) en31 rfl (.val nod) (.cons (.one (.bor (.all (len := (pvE out).length) (xs := pvE out) rfl rfl (by decide)))) (.cons (.one (.bor .v)) .nil)) (by decide) all_nil .nil (zGR out (zBT s) (by omega) (by omega)) rfl rfl (nle rfl)) (.m rfl rfl (.r rfl (zAH rfl rfl rfl) (.r rfl (zAH rfl rfl rfl) (.a rfl rfl (.a rfl rfl .nil))))))))) ?_
     refine zAB ?_
     refine zAB ?_
     refine zAQ (s' := mk [(0, .vs s), (11, .sl 2 0 ((pvE out).length)), (24, .vs ((zBn out (zBT s)).getD ⟨#[]⟩)), (25, .vb ((zBn out (zBT s)).isSome))] [] [(2, 4, pvE out)]) ?_ ?_
     · exact zAJ ⟨rfl, rfl, rfl, rfl, trivial⟩ trivial ⟨rfl, trivial⟩ rfl
     rcases bfc (!((zBn out (zBT s)).isSome)) with h13 | h13
     ·
      have h13' := h13
      replace h13' : ((zBn out (zBT s)).isSome) = true := zAq h13'
      refine zAA rfl (.m rfl rfl (.r rfl (zAI (zAa (b := (zBn out (zBT s)).isSome) rfl rfl) (zAE h13)) (.m rfl rfl (.m rfl rfl (.m rfl rfl (.r rfl (zCv rfl rfl rfl) (.r rfl (zAg rfl rfl) .nil))))))) ?_
      refine zAT (t := (!(decide (((zBn out (zBT s)).getD ⟨#[]⟩) = s)))) rfl (fun h14 => ?_) (fun h14 => ?_)
      ·
       replace h14 : ¬ (((zBn out (zBT s)).getD ⟨#[]⟩) = s) := of_decide_eq_false (zAp h14)
       refine zAB ?_
       rw [hB0.bad (fun q => h14 (by rw [q]; rfl))]
       refine zAA rfl (.a rfl rfl (.a rfl rfl .nil)) ?_
       refine zAK ?_
       exact ends [_, _] [] (.cons (.tmp rfl) (.cons (.tmp rfl) .nil)) (.cons (.one (.nil _) (.sl _ _ (fun _ h => nomatch h))) (.cons (.one .v (.v _)) .nil)) (by decide) trivial
      ·
       replace h14 : ((zBn out (zBT s)).getD ⟨#[]⟩) = s := of_decide_eq_true (zAq h14)
       refine zAM ?_
       refine zAB ?_
       rw [hB0.good (zHy h13' h14)]
       refine zAA rfl (.m rfl rfl (.a rfl rfl (.a rfl rfl .nil))) ?_
       refine zAK ?_
       exact ends [_, _] [2] (.cons (.tmp rfl) (.cons (.tmp rfl) .nil)) (.cons (.one (.row (len := (pvE out).length) (xs := pvE out) rfl rfl) (.sl _ _ (FlatP.clean (zFI _)))) (.cons (.one .v (.v _)) .nil)) (by decide) trivial
     ·
      have h13' := h13
      replace h13' : ((zBn out (zBT s)).isSome) = false := zAp h13'
      refine zAA rfl (.m rfl rfl (.r rfl (zAI (zAa (b := (zBn out (zBT s)).isSome) rfl rfl) (zAE h13)) (.m rfl rfl (.not rfl (.not rfl (.not rfl (.r rfl (zAh rfl rfl) .nil))))))) ?_
      refine zAT (t := true) rfl (fun _ => ?_) (fun h => nomatch h)
      refine zAB ?_
      rw [hB0.bad (fun q => by rw [q] at h13'; cases h13')]
      refine zAA rfl (.a rfl rfl (.a rfl rfl .nil)) ?_
      refine zAK ?_
      exact ends [_, _] [] (.cons (.tmp rfl) (.cons (.tmp rfl) .nil)) (.cons (.one (.nil _) (.sl _ _ (fun _ h => nomatch h))) (.cons (.one .v (.v _)) .nil)) (by decide) trivial
 ·
  have h1' := h1
  replace h1' := of_decide_eq_true h1'
  refine zAA rfl (.m rfl rfl (.r rfl (zAO rfl rfl underlying9) (.r rfl (zAI (zAz rfl rfl rfl) (zAE h1)) (.m rfl rfl (.not rfl (.not rfl (.not rfl (.r rfl (zAh rfl rfl) .nil)))))))) ?_
  refine zAT (t := true) rfl (fun _ => ?_) (fun h => nomatch h)
  refine zAB ?_
  rw [zEX (s := s) (.inl (by omega))]
  refine zAA rfl (.a rfl rfl (.a rfl rfl .nil)) ?_
  refine zAK ?_
  exact ends [_, _] [] (.cons (.tmp rfl) (.cons (.tmp rfl) .nil)) (.cons (.one (.nil _) (.sl _ _ (fun _ h => nomatch h))) (.cons (.one .v (.v _)) .nil)) (by decide) trivial
end Go.Rl

/- Promises of functions, proved by walks over their operations; no conditions beyond those that each theorem states. -/
import Derived.Test.YtamebecmgdbmnaaDoorRuQ
set_option linter.unusedSimpArgs false
set_option linter.unusedVariables false
namespace Go.Rl
open Go.Proofs Go.Proofs.Tryd
set_option maxRecDepth 1000000
set_option maxHeartbeats 2000000
theorem zFn : (Tryd.prog.info? 104).map (fun i => (i.zero, i.size, i.bytes)) = some (some (.agg #[.string ⟨#[]⟩, .bool false]), 2, 24) := by kernel_rfl
theorem en122 : En Tryd.prog 122 := zAh func122 (by decide) rfl
theorem en106 : En Tryd.prog 106 := zAh func106 (by decide) rfl
theorem zOb : En Tryd.prog 107 := zAh func107 (by decide) rfl
theorem en77 : En Tryd.prog 77 := zAh func77 (by decide) rfl
theorem en86 : En Tryd.prog 86 := zAh func86 (by decide) rfl
theorem en80 : En Tryd.prog 80 := zAh func80 (by decide) rfl
theorem en110 : En Tryd.prog 110 := zAh func110 (by decide) rfl
theorem en111 : En Tryd.prog 111 := zAh func111 (by decide) rfl
theorem en87 : En Tryd.prog 87 := zAh func87 (by decide) rfl
theorem en88 : En Tryd.prog 88 := zAh func88 (by decide) rfl
theorem zCH (s : ByteArray) (b : Bool) (hs : s.size ≤ 9000000000000000000) : Con Tryd.prog 80 [.rptr 2 [PV.v (.string s), PV.v (.bool b)]] [some (pvTk (nS s b))] [.one (.v (.int .i64 (nV s)))] := by
 refine zAR func80 rfl rfl rfl rfl ?_
 refine zAB (zAA rfl (.a rfl rfl .nil) ?_)
 refine zAB (zAA rfl (.m rfl rfl (.r rfl (zAd rfl rfl) (.r rfl (zAs rfl rfl underlying104 rfl sizeOf9 (by decide)) (.r rfl (zA4 rfl rfl rfl rfl isAgg9 rfl) (.run [1100, 1101, 1102] [] rfl (zAF rfl 1100 (X := []) en109 rfl (.val nod) (.cons (.one (.bor .v)) .nil) (by decide) all_nil .nil (zGJ s (by omega)) rfl rfl (nle rfl)) (.m rfl rfl (.r rfl (zAH rfl rfl rfl) (.r rfl (zAH rfl rfl rfl) (.r rfl (zAH rfl rfl rfl) (.a rfl rfl (.a rfl rfl (.a rfl rfl .nil)))))))))))) ?_)
 refine zAB ?_
 refine zAB ?_
 refine zAO (s' := mk [(0, .ea 100000 0 0), (3, .p none (.v (.int .u64 ((tvN (zAQ s) : Nat) : Int)))), (4, .vs (tvR (zAQ s))), (5, .vb ((zAQ s).isSome))] [] [(100000, 2, pvTk (s, b))]) ?_ ?_
 · exact zAJ ⟨rfl, rfl, rfl, rfl, trivial⟩ trivial ⟨rfl, trivial⟩ rfl
 rcases bfc (!((zAQ s).isSome)) with h1 | h1
 ·
  have h1' := h1
  replace h1' : ((zAQ s).isSome) = true := zAn h1'
  refine zAA rfl (.m rfl rfl (.r rfl (zAL (zAa (b := (zAQ s).isSome) rfl rfl) (zAG h1)) (.m rfl rfl (.m rfl rfl (.r rfl (zBE rfl rfl rfl) (.r rfl (zAg rfl rfl) .nil)))))) ?_
  refine zAT (t := decide (4611686018427387904 < ((tvN (zAQ s) : Nat) : Int))) rfl (fun h2 => ?_) (fun h2 => ?_)
  ·
   replace h2 := of_decide_eq_true h2
   refine zAB (zAA rfl (.m rfl rfl (.r rfl (zAd rfl rfl) (.r rfl (zAs rfl rfl underlying104 rfl sizeOf4 (by decide)) (.r rfl (zA9 rfl rfl rfl (FlatP.nf (zAy _)) rfl rfl rfl (.cons .v .nil) sizeOf4 rfl (nle rfl)) .nil)))) ?_)
   have hr3 : (pvTk (s, b)).set 0 [PV.v (.string s), PV.v (.bool true)] = pvTk (s, true) := by rfl
   refine zAO (s' := mk [] [] [(100000, 2, pvTk (s, true))]) ?_ ?_
   · exact zAJ trivial trivial ⟨(congrArg (fun x => some (2, x)) hr3), trivial⟩ rfl
   refine zAB (zAA rfl (.a rfl rfl .nil) ?_)
   refine zAI ?_
   exact ends [_] [] (.cons (.tmp (zAE (zLs (b := b) (fun q => by have := q.2; omega)).1.symm)) .nil) (.cons (.one .v (.v _)) .nil) (by decide) (zFv (congrArg (fun x => some (2, x)) (congrArg pvTk ((zLs (b := b) (fun q => by have := q.2; omega)).2.symm))) (zAy _) (by decide))
  ·
   replace h2 := of_decide_eq_false h2
   refine zAK ?_
   refine zAB (zAA rfl (.m rfl rfl (.m rfl rfl (.r rfl (zAd rfl rfl) (.r rfl (zAs rfl rfl underlying104 rfl sizeOf9 (by decide)) (.r rfl (zA9 rfl rfl rfl (FlatP.nf (zAy _)) rfl rfl rfl (.cons .v .nil) sizeOf9 rfl (nle rfl)) .nil))))) ?_)
   have hr4 : (pvTk (s, b)).set 0 [PV.v (.string (tvR (zAQ s))), PV.v (.bool b)] = pvTk (tvR (zAQ s), b) := by rfl
   refine zAO (s' := mk [(3, .p none (.v (.int .u64 ((tvN (zAQ s) : Nat) : Int))))] [] [(100000, 2, pvTk (tvR (zAQ s), b))]) ?_ ?_
   · exact zAJ ⟨rfl, trivial⟩ trivial ⟨(congrArg (fun x => some (2, x)) hr4), trivial⟩ rfl
   refine zAB (zAA rfl (.m rfl rfl (.r rfl (zBn rfl rfl underlying53 underlying2 (by omega)) (.a rfl rfl .nil))) ?_)
   refine zAI ?_
   exact ends [_] [] (.cons (.tmp (zAE (zHf (b := b) h1' (by omega)).1.symm)) .nil) (.cons (.one .v (.v _)) .nil) (by decide) (zFv (congrArg (fun x => some (2, x)) (congrArg pvTk ((zHf (b := b) h1' (by omega)).2.symm))) (zAy _) (by decide))
 ·
  have h1' := h1
  replace h1' : ((zAQ s).isSome) = false := zAm h1'
  refine zAA rfl (.m rfl rfl (.r rfl (zAL (zAa (b := (zAQ s).isSome) rfl rfl) (zAG h1)) (.m rfl rfl (.not rfl (.not rfl (.r rfl (zAo rfl rfl) .nil)))))) ?_
  refine zAT (t := true) rfl (fun _ => ?_) (fun h => nomatch h)
  refine zAB (zAA rfl (.m rfl rfl (.r rfl (zAd rfl rfl) (.r rfl (zAs rfl rfl underlying104 rfl sizeOf4 (by decide)) (.r rfl (zA9 rfl rfl rfl (FlatP.nf (zAy _)) rfl rfl rfl (.cons .v .nil) sizeOf4 rfl (nle rfl)) .nil)))) ?_)
  have hr5 : (pvTk (s, b)).set 0 [PV.v (.string s), PV.v (.bool true)] = pvTk (s, true) := by rfl
  refine zAO (s' := mk [] [] [(100000, 2, pvTk (s, true))]) ?_ ?_
  · exact zAJ trivial trivial ⟨(congrArg (fun x => some (2, x)) hr5), trivial⟩ rfl
  refine zAB (zAA rfl (.a rfl rfl .nil) ?_)
  refine zAI ?_
  exact ends [_] [] (.cons (.tmp (zAE (zLs (b := b) (fun q => by rw [h1'] at q; cases q.1)).1.symm)) .nil) (.cons (.one .v (.v _)) .nil) (by decide) (zFv (congrArg (fun x => some (2, x)) (congrArg pvTk ((zLs (b := b) (fun q => by rw [h1'] at q; cases q.1)).2.symm))) (zAy _) (by decide))
theorem zES (s : ByteArray) (b : Bool) (hs : s.size ≤ 9000000000000000000) : Con Tryd.prog 107 [.rptr 2 [PV.v (.string s), PV.v (.bool b)]] [some (pvTk (xS s b))] [.one (.v (.string (xV s)))] := by
 refine zAR func107 rfl rfl rfl rfl ?_
 refine zAB (zAA rfl (.a rfl rfl .nil) ?_)
 refine zAB (zAA rfl (.m rfl rfl (.r rfl (zAd rfl rfl) (.r rfl (zAs rfl rfl underlying104 rfl sizeOf9 (by decide)) (.r rfl (zA4 rfl rfl rfl rfl isAgg9 rfl) (.run [1100, 1101, 1102] [] rfl (zAF rfl 1100 (X := []) en122 rfl (.val nod) (.cons (.one (.bor .v)) .nil) (by decide) all_nil .nil (zIi s (by omega)) rfl rfl (nle rfl)) (.m rfl rfl (.r rfl (zAH rfl rfl rfl) (.r rfl (zAH rfl rfl rfl) (.r rfl (zAH rfl rfl rfl) (.a rfl rfl (.a rfl rfl (.a rfl rfl .nil)))))))))))) ?_)
 refine zAB ?_
 refine zAB (zAA rfl (.m rfl rfl (.r rfl (zAa (b := (zAX s).isSome) rfl rfl) .nil)) ?_)
 refine zAT (t := (!((zAX s).isSome))) rfl (fun h1 => ?_) (fun h1 => ?_)
 ·
  replace h1 : ((zAX s).isSome) = false := zAm h1
  refine zAB ?_
  refine zAO (s' := mk [(0, .ea 100000 0 0)] [] [(100000, 2, pvTk (s, b))]) ?_ ?_
  · exact zAJ ⟨rfl, trivial⟩ trivial ⟨rfl, trivial⟩ rfl
  refine zAA rfl (.m rfl rfl (.r rfl (zAd rfl rfl) (.r rfl (zAs rfl rfl underlying104 rfl sizeOf4 (by decide)) (.r rfl (zA9 rfl rfl rfl (FlatP.nf (zAy _)) rfl rfl rfl (.cons .v .nil) sizeOf4 rfl (nle rfl)) .nil)))) ?_
  have hr2 : (pvTk (s, b)).set 0 [PV.v (.string s), PV.v (.bool true)] = pvTk (s, true) := by rfl
  refine zAO (s' := mk [] [] [(100000, 2, pvTk (s, true))]) ?_ ?_
  · exact zAJ trivial trivial ⟨(congrArg (fun x => some (2, x)) hr2), trivial⟩ rfl
  refine zAB (zAA rfl (.a rfl rfl .nil) ?_)
  refine zAI ?_
  exact ends [_] [] (.cons (.tmp (zA3 (zNl (b := b) h1).1.symm)) .nil) (.cons (.one .v (.v _)) .nil) (by decide) (zFv (congrArg (fun x => some (2, x)) (congrArg pvTk ((zNl h1).2.symm))) (zAy _) (by decide))
 ·
  replace h1 : ((zAX s).isSome) = true := zAn h1
  refine zAK ?_
  refine zAB ?_
  refine zAO (s' := mk [(0, .ea 100000 0 0), (3, .vs (txX (zAX s))), (4, .vs (txR (zAX s)))] [] [(100000, 2, pvTk (s, b))]) ?_ ?_
  · exact zAJ ⟨rfl, rfl, rfl, trivial⟩ trivial ⟨rfl, trivial⟩ rfl
  refine zAA rfl (.m rfl rfl (.m rfl rfl (.r rfl (zAd rfl rfl) (.r rfl (zAs rfl rfl underlying104 rfl sizeOf9 (by decide)) (.r rfl (zA9 rfl rfl rfl (FlatP.nf (zAy _)) rfl rfl rfl (.cons .v .nil) sizeOf9 rfl (nle rfl)) .nil))))) ?_
  have hr3 : (pvTk (s, b)).set 0 [PV.v (.string (txR (zAX s))), PV.v (.bool b)] = pvTk (txR (zAX s), b) := by rfl
  refine zAO (s' := mk [(3, .vs (txX (zAX s)))] [] [(100000, 2, pvTk (txR (zAX s), b))]) ?_ ?_
  · exact zAJ ⟨rfl, trivial⟩ trivial ⟨(congrArg (fun x => some (2, x)) hr3), trivial⟩ rfl
  refine zAB (zAA rfl (.m rfl rfl (.a rfl rfl .nil)) ?_)
  refine zAI ?_
  exact ends [_] [] (.cons (.tmp rfl) .nil) (.cons (.one .v (.v _)) .nil) (by decide) (zFv (congrArg (fun x => some (2, x)) (congrArg pvTk ((zKb h1).symm))) (zAy _) (by decide))
theorem zCh (s : ByteArray) (b : Bool) (hs : s.size ≤ 9000000000000000000) : Con Tryd.prog 77 [.rptr 2 [PV.v (.string s), PV.v (.bool b)]] [some (pvTk (fS s b))] [.one (.v (.int .i64 ((fV s : Nat) : Int)))] := by
 refine zAR func77 rfl rfl rfl rfl ?_
 refine zAB (zAA rfl (.a rfl rfl .nil) ?_)
 refine zAB (zAA rfl (.m rfl rfl (.r rfl (zAd rfl rfl) (.r rfl (zAs rfl rfl underlying104 rfl sizeOf9 (by decide)) (.r rfl (zA4 rfl rfl rfl rfl isAgg9 rfl) (.run [1100, 1101, 1102] [] rfl (zAF rfl 1100 (X := []) en106 rfl (.val nod) (.cons (.one (.bor .v)) .nil) (by decide) all_nil .nil (zD4 s (by omega)) rfl rfl (nle rfl)) (.m rfl rfl (.r rfl (zAH rfl rfl rfl) (.r rfl (zAH rfl rfl rfl) (.r rfl (zAH rfl rfl rfl) (.a rfl rfl (.a rfl rfl (.a rfl rfl .nil)))))))))))) ?_)
 refine zAB ?_
 refine zAB (zAA rfl (.m rfl rfl (.r rfl (zAa (b := (zBL s).isSome) rfl rfl) .nil)) ?_)
 refine zAT (t := (!((zBL s).isSome))) rfl (fun h1 => ?_) (fun h1 => ?_)
 ·
  replace h1 : ((zBL s).isSome) = false := zAm h1
  refine zAB ?_
  refine zAO (s' := mk [(0, .ea 100000 0 0)] [] [(100000, 2, pvTk (s, b))]) ?_ ?_
  · exact zAJ ⟨rfl, trivial⟩ trivial ⟨rfl, trivial⟩ rfl
  refine zAA rfl (.m rfl rfl (.r rfl (zAd rfl rfl) (.r rfl (zAs rfl rfl underlying104 rfl sizeOf4 (by decide)) (.r rfl (zA9 rfl rfl rfl (FlatP.nf (zAy _)) rfl rfl rfl (.cons .v .nil) sizeOf4 rfl (nle rfl)) .nil)))) ?_
  have hr2 : (pvTk (s, b)).set 0 [PV.v (.string s), PV.v (.bool true)] = pvTk (s, true) := by rfl
  refine zAO (s' := mk [] [] [(100000, 2, pvTk (s, true))]) ?_ ?_
  · exact zAJ trivial trivial ⟨(congrArg (fun x => some (2, x)) hr2), trivial⟩ rfl
  refine zAB (zAA rfl (.a rfl rfl .nil) ?_)
  refine zAI ?_
  exact ends [_] [] (.cons (.tmp (zAE (by rw [(zOY (b := b) h1).1]; rfl))) .nil) (.cons (.one .v (.v _)) .nil) (by decide) (zFv (congrArg (fun x => some (2, x)) (congrArg pvTk ((zOY h1).2.symm))) (zAy _) (by decide))
 ·
  replace h1 : ((zBL s).isSome) = true := zAn h1
  refine zAK ?_
  refine zAB ?_
  refine zAO (s' := mk [(0, .ea 100000 0 0), (3, .p none (.v (.int .u32 ((tvN (zBL s) : Nat) : Int)))), (4, .vs (tvR (zBL s)))] [] [(100000, 2, pvTk (s, b))]) ?_ ?_
  · exact zAJ ⟨rfl, rfl, rfl, trivial⟩ trivial ⟨rfl, trivial⟩ rfl
  refine zAA rfl (.m rfl rfl (.m rfl rfl (.r rfl (zAd rfl rfl) (.r rfl (zAs rfl rfl underlying104 rfl sizeOf9 (by decide)) (.r rfl (zA9 rfl rfl rfl (FlatP.nf (zAy _)) rfl rfl rfl (.cons .v .nil) sizeOf9 rfl (nle rfl)) .nil))))) ?_
  have hr3 : (pvTk (s, b)).set 0 [PV.v (.string (tvR (zBL s))), PV.v (.bool b)] = pvTk (tvR (zBL s), b) := by rfl
  refine zAO (s' := mk [(3, .p none (.v (.int .u32 ((tvN (zBL s) : Nat) : Int))))] [] [(100000, 2, pvTk (tvR (zBL s), b))]) ?_ ?_
  · exact zAJ ⟨rfl, trivial⟩ trivial ⟨(congrArg (fun x => some (2, x)) hr3), trivial⟩ rfl
  refine zAB ?_
  have hfl : tvN (zBL s) < 4294967296 := fV_lt s
  refine zAA rfl (.m rfl rfl (.r rfl (zBn rfl rfl underlying67 underlying2 (by omega)) (.a rfl rfl .nil))) ?_
  refine zAI ?_
  exact ends [_] [] (.cons (.tmp rfl) .nil) (.cons (.one .v (.v _)) .nil) (by decide) (zFv (congrArg (fun x => some (2, x)) (congrArg pvTk ((zLK h1).symm))) (zAy _) (by decide))
theorem zD2 (s : ByteArray) (b : Bool) (hs : s.size ≤ 9000000000000000000) : Con Tryd.prog 79 [.rptr 2 [PV.v (.string s), PV.v (.bool b)]] [some (pvTk (sS s b))] [.one (.v (.string (xV s)))] := by
 refine zAR func79 rfl rfl rfl rfl ?_
 refine zAB (zAA rfl (.a rfl rfl .nil) ?_)
 refine zAB (zAA rfl (.m rfl rfl (.run [100000, 500] [] rfl (zAF rfl 500 (X := [100000]) zOb rfl (.val nod) (.cons (.rptr rfl) .nil) (by decide) (all_cons rfl all_nil) (.keep (xs := pvTk (s, b)) rfl (FlatP.nf (zAy _)) .nil) (zES s b (by omega)) rfl rfl (nle rfl)) (.a rfl rfl .nil))) ?_)
 refine zAB ?_
 have hx1 := zJq s b
 have hx2 := zLb s
 have hx3 := zNY (xV s)
 refine zAO (s' := mk [(0, .ea 100000 0 0), (3, .vs (xV s))] [] [(100000, 2, pvTk (xS s b))]) ?_ ?_
 · exact zAJ ⟨rfl, rfl, trivial⟩ trivial ⟨rfl, trivial⟩ rfl
 rcases bfc (!(decide (((fV ((xS s b).1) : Nat) : Int) = ((crcF (xV s) : Nat) : Int)))) with h1 | h1
 ·
  have h1' := h1
  replace h1' : ((fV ((xS s b).1) : Nat) : Int) = ((crcF (xV s) : Nat) : Int) := of_decide_eq_true (zAn h1')
  refine zAA rfl (.m rfl rfl (.m rfl rfl (.run [100000, 800] [] rfl (zAF rfl 800 (X := [100000]) en77 rfl (.val nod) (.cons (.rptr rfl) .nil) (by decide) (all_cons rfl all_nil) (.keep (xs := pvTk (xS s b)) rfl (FlatP.nf (zAy _)) .nil) (zCh ((xS s b).1) ((xS s b).2) (by omega)) rfl rfl (nle rfl)) (.m rfl rfl (.run [1000] [] rfl (zAF rfl 1000 (X := []) en99 rfl (.val nod) (.cons (.one (.bor .v)) .nil) (by decide) all_nil .nil (zKQ (xV s) (by omega)) rfl rfl (nle rfl)) (.r rfl (zBn rfl rfl underlying67 underlying2 (by omega)) (.r rfl (zAL (zB2 rfl rfl rfl) (zAG h1)) (.m rfl rfl (.m rfl rfl (.r rfl (zAd rfl rfl) (.r rfl (zAs rfl rfl underlying104 rfl sizeOf4 (by decide)) (.r rfl (zA4 rfl rfl rfl rfl isAgg4 rfl) (.r rfl (zAg rfl rfl) (.r rfl (zAd rfl rfl) (.r rfl (zAs rfl rfl underlying104 rfl sizeOf4 (by decide)) (.r rfl (zA9 rfl rfl rfl (FlatP.nf (zAy _)) rfl rfl rfl (.cons .v .nil) sizeOf4 rfl (nle rfl)) .nil)))))))))))))))) ?_
  have hr2 : (pvTk (fS ((xS s b).1) ((xS s b).2))).set 0 [PV.v (.string ((fS ((xS s b).1) ((xS s b).2)).1)), PV.v (.bool ((fS ((xS s b).1) ((xS s b).2)).2))] = pvTk (sS s b) := by exact (congrArg pvTk (sS_eq (b := b) (by omega))).symm
  refine zAO (s' := mk [(3, .vs (xV s))] [] [(100000, 2, pvTk (sS s b))]) ?_ ?_
  · exact zAJ ⟨rfl, trivial⟩ trivial ⟨(congrArg (fun x => some (2, x)) hr2), trivial⟩ rfl
  refine zAB (zAA rfl (.m rfl rfl (.a rfl rfl .nil)) ?_)
  refine zAI ?_
  exact ends [_] [] (.cons (.tmp rfl) .nil) (.cons (.one .v (.v _)) .nil) (by decide) (zFv (congrArg (fun x => some (2, x)) (congrArg pvTk (rfl))) (zAy _) (by decide))
 ·
  have h1' := h1
  replace h1' : ¬ (((fV ((xS s b).1) : Nat) : Int) = ((crcF (xV s) : Nat) : Int)) := of_decide_eq_false (zAm h1')
  refine zAA rfl (.m rfl rfl (.m rfl rfl (.run [100000, 800] [] rfl (zAF rfl 800 (X := [100000]) en77 rfl (.val nod) (.cons (.rptr rfl) .nil) (by decide) (all_cons rfl all_nil) (.keep (xs := pvTk (xS s b)) rfl (FlatP.nf (zAy _)) .nil) (zCh ((xS s b).1) ((xS s b).2) (by omega)) rfl rfl (nle rfl)) (.m rfl rfl (.run [1000] [] rfl (zAF rfl 1000 (X := []) en99 rfl (.val nod) (.cons (.one (.bor .v)) .nil) (by decide) all_nil .nil (zKQ (xV s) (by omega)) rfl rfl (nle rfl)) (.r rfl (zBn rfl rfl underlying67 underlying2 (by omega)) (.r rfl (zAL (zB2 rfl rfl rfl) (zAG h1)) (.m rfl rfl (.not rfl (.not rfl (.not rfl (.not rfl (.r rfl (zAo rfl rfl) (.r rfl (zAd rfl rfl) (.r rfl (zAs rfl rfl underlying104 rfl sizeOf4 (by decide)) (.r rfl (zA9 rfl rfl rfl (FlatP.nf (zAy _)) rfl rfl rfl (.cons .v .nil) sizeOf4 rfl (nle rfl)) .nil)))))))))))))))) ?_
  have hr3 : (pvTk (fS ((xS s b).1) ((xS s b).2))).set 0 [PV.v (.string ((fS ((xS s b).1) ((xS s b).2)).1)), PV.v (.bool true)] = pvTk (sS s b) := by exact (congrArg pvTk (sS_ne (b := b) (by omega))).symm
  refine zAO (s' := mk [(3, .vs (xV s))] [] [(100000, 2, pvTk (sS s b))]) ?_ ?_
  · exact zAJ ⟨rfl, trivial⟩ trivial ⟨(congrArg (fun x => some (2, x)) hr3), trivial⟩ rfl
  refine zAB (zAA rfl (.m rfl rfl (.a rfl rfl .nil)) ?_)
  refine zAI ?_
  exact ends [_] [] (.cons (.tmp rfl) .nil) (.cons (.one .v (.v _)) .nil) (by decide) (zFv (congrArg (fun x => some (2, x)) (congrArg pvTk (rfl))) (zAy _) (by decide))
theorem zGG (s : ByteArray) (b : Bool) (hs : s.size ≤ 9000000000000000000) : Con Tryd.prog 108 [.rptr 2 [PV.v (.string s), PV.v (.bool b)]] [some (pvTk (s, b))] [.one (.v (.bool (!b && decide (s = ⟨#[]⟩))))] := by
 refine zAR func108 rfl rfl rfl rfl ?_
 refine zAB (zAA rfl (.a rfl rfl .nil) ?_)
 refine zAB ?_
 rcases bfc (!b) with h1 | h1
 ·
  have h1' := h1
  replace h1' : b = true := zAn h1'
  refine zAA rfl (.m rfl rfl (.r rfl (zAd rfl rfl) (.r rfl (zAs rfl rfl underlying104 rfl sizeOf4 (by decide)) (.r rfl (zA4 rfl rfl rfl rfl isAgg4 rfl) (.r rfl (zAL (zAa (b := b) rfl rfl) (zAG h1)) (.m rfl rfl (.not rfl (.not rfl (.not rfl (.not rfl (.not rfl (.r rfl (zAg rfl rfl) (.a rfl rfl .nil))))))))))))) ?_
  refine zAI ?_
  exact ends [_] [] (.cons (.tmp (zAG (by rw [h1']; rfl))) .nil) (.cons (.one .v (.v _)) .nil) (by decide) (zFv rfl (zAy _) (by decide))
 ·
  have h1' := h1
  replace h1' : b = false := zAm h1'
  refine zAA rfl (.m rfl rfl (.r rfl (zAd rfl rfl) (.r rfl (zAs rfl rfl underlying104 rfl sizeOf4 (by decide)) (.r rfl (zA4 rfl rfl rfl rfl isAgg4 rfl) (.r rfl (zAL (zAa (b := b) rfl rfl) (zAG h1)) (.m rfl rfl (.m rfl rfl (.r rfl (zAd rfl rfl) (.r rfl (zAs rfl rfl underlying104 rfl sizeOf9 (by decide)) (.r rfl (zA4 rfl rfl rfl rfl isAgg9 rfl) (.r rfl (zDQ rfl rfl rfl) (.r rfl (zAo rfl rfl) (.a rfl rfl .nil))))))))))))) ?_
  refine zAI ?_
  exact ends [_] [] (.cons (.tmp (zAG (by rw [h1']; rfl))) .nil) (.cons (.one .v (.v _)) .nil) (by decide) (zFv rfl (zAy _) (by decide))
theorem zKB (s : ByteArray) (hs : s.size ≤ 9000000000000000000) : Con Tryd.prog 110 [.one (PV.v (.string s))] [] [.agg [.v (.string ((zBC s).getD entZ).user), .v (.int .i64 ((zBC s).getD entZ).seq), .v (.int .i64 ((zBC s).getD entZ).kind)], .one (.v (.bool ((zBC s).isSome)))] := by
 refine zAR func110 rfl rfl rfl rfl ?_
 refine zAB (zAA rfl (.run [] [2] rfl (zBA rfl 2 zFc rfl (by decide) rfl (by decide)) (.a rfl rfl .nil)) ?_)
 refine zAB (zAA rfl (.m rfl rfl (.r rfl (zAP rfl rfl underlying9) (.r rfl (zBw rfl rfl rfl (by omega)) (.a rfl rfl .nil)))) ?_)
 refine zAB ?_
 refine zAB (zAA rfl (.m rfl rfl (.r rfl (zAt rfl rfl rfl) .nil)) ?_)
 refine zAT (t := decide (((s.size : Int) - 8) < 1)) rfl (fun h1 => ?_) (fun h1 => ?_)
 ·
  replace h1 := of_decide_eq_true h1
  refine zAB ?_
  rw [zGc (by omega)]
  refine zAA rfl (.r rfl (zAw (pl := [(0, 1), (1, 1), (2, 1)]) rfl underlying56 zFc (by kernel_rfl) rfl rfl) (.r rfl (zAN rfl rfl rfl rfl rfl sizeOf56 rfl (nle rfl)) (.a rfl rfl .nil))) ?_
  refine zAI ?_
  exact ends [_, _] [] (.cons (.cell rfl rfl isAgg56 sizeOf56 (nle rfl)) (.cons (.tmp rfl) .nil)) (.cons (.agg (.cons .v (.cons .v (.cons .v .nil))) (zAM (.v _) (zAM (.v _) (zAM (.v _) zBQ)))) (.cons (.one .v (.v _)) .nil)) (by decide) trivial
 ·
  replace h1 := of_decide_eq_false h1
  refine zAK ?_
  refine zAB ?_
  have hkt := zEh (s := s) (by omega)
  refine zAO (s' := mk [(0, .vs s), (2, .ptr 2 0), (4, .vi ((s.size - 8 : Nat) : Int))] [(2, [.vs ⟨#[]⟩, .vi 0, .vi 0])] []) ?_ ?_
  · exact zAJ ⟨rfl, rfl, (zAE (by omega)), trivial⟩ ⟨rfl, trivial⟩ trivial rfl
  refine zAA rfl (.m rfl rfl (.m rfl rfl (.r rfl (zAL (zA0 rfl rfl underlying9 (.at_ rfl rfl) .no (by omega) (Nat.le_refl _)) ((zA3 (show s.extract (s.size - 8) s.size = zC4 s from rfl)))) (.run [2300, 2301, 2302] [] rfl (zAF rfl 2300 (X := []) en106 rfl (.val nod) (.cons (.one (.bor .v)) .nil) (by decide) all_nil .nil (zD4 (zC4 s) (by omega)) rfl rfl (nle rfl)) (.m rfl rfl (.r rfl (zAH rfl rfl rfl) (.r rfl (zAH rfl rfl rfl) (.r rfl (zAH rfl rfl rfl) (.a rfl rfl (.a rfl rfl (.a rfl rfl .nil))))))))))) ?_
  refine zAB ?_
  have hkr : (tvR (zBL (zC4 s))).size ≤ 8 := by rw [(zHg (s := s) (by omega)).2, ByteArray.size_extract]; omega
  refine zAO (s' := mk [(0, .vs s), (2, .ptr 2 0), (4, .vi ((s.size - 8 : Nat) : Int)), (5, .p none (.v (.int .u32 ((tvN (zBL (zC4 s)) : Nat) : Int)))), (6, .vs (tvR (zBL (zC4 s))))] [(2, [.vs ⟨#[]⟩, .vi 0, .vi 0])] []) ?_ ?_
  · exact zAJ ⟨rfl, rfl, rfl, rfl, rfl, trivial⟩ ⟨rfl, trivial⟩ trivial rfl
  refine zAA rfl (.m rfl rfl (.run [2900, 2901, 2902] [] rfl (zAF rfl 2900 (X := []) en106 rfl (.val nod) (.cons (.one (.bor .v)) .nil) (by decide) all_nil .nil (zD4 (tvR (zBL (zC4 s))) (by omega)) rfl rfl (nle rfl)) (.m rfl rfl (.r rfl (zAH rfl rfl rfl) (.r rfl (zAH rfl rfl rfl) (.r rfl (zAH rfl rfl rfl) (.a rfl rfl (.a rfl rfl (.a rfl rfl .nil))))))))) ?_
  refine zAB ?_
  have hkl := zHh s
  have hkh := zK9 s
  have hkn := zM5 s
  refine zAO (s' := mk [(0, .vs s), (2, .ptr 2 0), (4, .vi ((s.size - 8 : Nat) : Int)), (5, .p none (.v (.int .u32 ((kLo s : Nat) : Int)))), (8, .p none (.v (.int .u32 ((kHi s : Nat) : Int))))] [(2, [.vs ⟨#[]⟩, .vi 0, .vi 0])] []) ?_ ?_
  · exact zAJ ⟨rfl, rfl, rfl, (zAE (by rw [(zHg (s := s) (by omega)).1])), (zAE (by rw [(zHg (s := s) (by omega)).2, zPC (by omega)])), trivial⟩ ⟨rfl, trivial⟩ trivial rfl
  refine zAA rfl (.m rfl rfl (.r rfl (zAL (zAe (k' := .u64) 18446744073709551616 rfl (kHi s) rfl rfl rfl underlying67 underlying53) ((zAE (show (((kHi s) % 18446744073709551616 : Nat) : Int) = ((kHi s : Nat) : Int) by omega)))) (.r rfl (zCi (k := .u64) 18446744073709551616 rfl (kHi s) 32 rfl rfl rfl rfl (by decide)) (.m rfl rfl (.r rfl (zAL (zAe (k' := .u64) 18446744073709551616 rfl (kLo s) rfl rfl rfl underlying67 underlying53) ((zAE (show (((kLo s) % 18446744073709551616 : Nat) : Int) = ((kLo s : Nat) : Int) by omega)))) (.r rfl (zAL (zC1 (k := .u64) 18446744073709551616 rfl (((kHi s) * 2 ^ 32) % 18446744073709551616) (kLo s) rfl rfl rfl rfl) ((zAE (congrArg Nat.cast (kNum_or s))))) (.a rfl rfl .nil))))))) ?_
  refine zAB ?_
  refine zAO (s' := mk [(0, .vs s), (2, .ptr 2 0), (4, .vi ((s.size - 8 : Nat) : Int)), (11, .p none (.v (.int .u64 ((kNum s : Nat) : Int))))] [(2, [.vs ⟨#[]⟩, .vi 0, .vi 0])] []) ?_ ?_
  · exact zAJ ⟨rfl, rfl, rfl, rfl, trivial⟩ ⟨rfl, trivial⟩ trivial rfl
  refine zAA rfl (.m rfl rfl (.m rfl rfl (.r rfl (zAL (zA0 rfl rfl underlying9 .no (.at_ rfl rfl) (Nat.zero_le _) (by omega)) ((zA3 (show s.extract 0 (s.size - 8) = (keyE s).user from rfl)))) (.m rfl rfl (.r rfl (zAL (zD7 (k := .u64) 18446744073709551616 rfl (kNum s) 2 rfl rfl rfl rfl (by omega)) ((zAE (show (((kNum s / 2) % 18446744073709551616 : Nat) : Int) = ((kNum s / 2 : Nat) : Int) by omega)))) (.r rfl (zAL (zBn rfl rfl underlying53 underlying2 (by omega)) ((zAE rfl))) (.m rfl rfl (.r rfl (zCR (kNum s) 2 rfl rfl rfl (by omega)) (.r rfl (zAL (zBn rfl rfl underlying53 underlying2 (by omega)) ((zAE rfl))) (.r rfl (zAw (pl := [(0, 1), (1, 1), (2, 1)]) rfl underlying56 zFc (by kernel_rfl) rfl rfl) (.run [] [12] rfl (zBA rfl 12 zFc rfl (by decide) rfl (by decide)) (.r rfl (zAN rfl rfl rfl rfl rfl sizeOf56 rfl (nle rfl)) .nil)))))))))))) ?_
  refine zAB ?_
  refine zAB (zAA rfl (.r rfl (zAZ rfl rfl rfl isAgg56 sizeOf56 (nle rfl)) (.run [5000] [] rfl (zAF rfl 5000 (X := []) en93 rfl (.val nod) (.cons (.agg (.cons (.bor .v) (.cons (.bor .v) (.cons (.bor .v) .nil)))) .nil) (by decide) all_nil .nil (zEN (⟨(keyE s).user, (keyE s).seq, (keyE s).kind, ⟨#[]⟩⟩ : Ent)) rfl rfl (nle rfl)) (.r rfl (zAa (b := zBp ((keyE s).user) ((keyE s).seq) ((keyE s).kind)) rfl rfl) .nil))) ?_)
  refine zAT (t := (!(zBp ((keyE s).user) ((keyE s).seq) ((keyE s).kind)))) rfl (fun h2 => ?_) (fun h2 => ?_)
  ·
   replace h2 : (zBp ((keyE s).user) ((keyE s).seq) ((keyE s).kind)) = false := zAm h2
   refine zAB ?_
   rw [zGd (show zBp (keyE s).user (keyE s).seq (keyE s).kind = false from h2)]
   refine zAO (s' := mk [(2, .ptr 2 0)] [(2, [.vs ⟨#[]⟩, .vi 0, .vi 0])] []) ?_ ?_
   · exact zAJ ⟨rfl, trivial⟩ ⟨rfl, trivial⟩ trivial rfl
   refine zAA rfl (.r rfl (zAw (pl := [(0, 1), (1, 1), (2, 1)]) rfl underlying56 zFc (by kernel_rfl) rfl rfl) (.r rfl (zAN rfl rfl rfl rfl rfl sizeOf56 rfl (nle rfl)) (.a rfl rfl .nil))) ?_
   refine zAI ?_
   exact ends [_, _] [] (.cons (.cell rfl rfl isAgg56 sizeOf56 (nle rfl)) (.cons (.tmp rfl) .nil)) (.cons (.agg (.cons .v (.cons .v (.cons .v .nil))) (zAM (.v _) (zAM (.v _) (zAM (.v _) zBQ)))) (.cons (.one .v (.v _)) .nil)) (by decide) trivial
  ·
   replace h2 : (zBp ((keyE s).user) ((keyE s).seq) ((keyE s).kind)) = true := zAn h2
   refine zAK ?_
   refine zAB ?_
   rw [zGb (by omega) (show zBp (keyE s).user (keyE s).seq (keyE s).kind = true from h2)]
   refine zAO (s' := mk [(2, .ptr 2 0), (12, .ptr 12 0)] [(2, [.vs ⟨#[]⟩, .vi 0, .vi 0]), (12, [.vs ((keyE s).user), .vi ((keyE s).seq), .vi ((keyE s).kind)])] []) ?_ ?_
   · exact zAJ ⟨rfl, rfl, trivial⟩ ⟨rfl, rfl, trivial⟩ trivial rfl
   refine zAA rfl (.r rfl (zAZ rfl rfl rfl isAgg56 sizeOf56 (nle rfl)) (.r rfl (zAN rfl rfl rfl rfl rfl sizeOf56 rfl (nle rfl)) (.a rfl rfl .nil))) ?_
   refine zAI ?_
   exact ends [_, _] [] (.cons (.cell rfl rfl isAgg56 sizeOf56 (nle rfl)) (.cons (.tmp rfl) .nil)) (.cons (.agg (.cons .v (.cons .v (.cons .v .nil))) (zAM (.v _) (zAM (.v _) (zAM (.v _) zBQ)))) (.cons (.one .v (.v _)) .nil)) (by decide) trivial
theorem zIw (s : ByteArray) (hs : s.size ≤ 9000000000000000000) : Con Tryd.prog 88 [.one (PV.v (.string s))] [] [.agg [.v (.string ((zBC s).getD entZ).user), .v (.int .i64 ((zBC s).getD entZ).seq), .v (.int .i64 ((zBC s).getD entZ).kind)], .one (.v (.bool ((zBC s).isSome)))] := by
 refine zAR func88 rfl rfl rfl rfl ?_
 refine zAB (zAA rfl (.run [] [2] rfl (zBA rfl 2 zFc rfl (by decide) rfl (by decide)) (.a rfl rfl .nil)) ?_)
 refine zAB ?_
 refine zAB (zAA rfl (.m rfl rfl (.r rfl (zAP rfl rfl underlying9) (.r rfl (zAt rfl rfl rfl) .nil))) ?_)
 refine zAT (t := decide ((s.size : Int) < 9)) rfl (fun h1 => ?_) (fun h1 => ?_)
 ·
  replace h1 := of_decide_eq_true h1
  refine zAB ?_
  rw [zGc (by omega)]
  refine zAA rfl (.r rfl (zAw (pl := [(0, 1), (1, 1), (2, 1)]) rfl underlying56 zFc (by kernel_rfl) rfl rfl) (.r rfl (zAN rfl rfl rfl rfl rfl sizeOf56 rfl (nle rfl)) (.a rfl rfl .nil))) ?_
  refine zAI ?_
  exact ends [_, _] [] (.cons (.cell rfl rfl isAgg56 sizeOf56 (nle rfl)) (.cons (.tmp rfl) .nil)) (.cons (.agg (.cons .v (.cons .v (.cons .v .nil))) (zAM (.v _) (zAM (.v _) (zAM (.v _) zBQ)))) (.cons (.one .v (.v _)) .nil)) (by decide) trivial
 ·
  replace h1 := of_decide_eq_false h1
  refine zAK ?_
  refine zAB (zAA rfl (.m rfl rfl (.r rfl (zAP rfl rfl underlying9) (.r rfl (zBw rfl rfl rfl (by omega)) (.a rfl rfl .nil)))) ?_)
  refine zAB ?_
  have hkt := zEh (s := s) (by omega)
  refine zAO (s' := mk [(0, .vs s), (2, .ptr 2 0), (4, .vi ((s.size - 8 : Nat) : Int))] [(2, [.vs ⟨#[]⟩, .vi 0, .vi 0])] []) ?_ ?_
  · exact zAJ ⟨rfl, rfl, (zAE (by omega)), trivial⟩ ⟨rfl, trivial⟩ trivial rfl
  refine zAA rfl (.m rfl rfl (.m rfl rfl (.r rfl (zAL (zA0 rfl rfl underlying9 (.at_ rfl rfl) .no (by omega) (Nat.le_refl _)) ((zA3 (show s.extract (s.size - 8) s.size = zC4 s from rfl)))) (.run [2400, 2401, 2402] [] rfl (zAF rfl 2400 (X := []) en86 rfl (.val nod) (.cons (.one (.bor .v)) .nil) (by decide) all_nil .nil (zCO (zC4 s) (by omega)) rfl rfl (nle rfl)) (.m rfl rfl (.r rfl (zAH rfl rfl rfl) (.r rfl (zAH rfl rfl rfl) (.r rfl (zAH rfl rfl rfl) (.a rfl rfl (.a rfl rfl (.a rfl rfl .nil))))))))))) ?_
  refine zAB ?_
  have hkr : (tvR (zBL (zC4 s))).size ≤ 8 := by rw [(zHg (s := s) (by omega)).2, ByteArray.size_extract]; omega
  refine zAO (s' := mk [(0, .vs s), (2, .ptr 2 0), (4, .vi ((s.size - 8 : Nat) : Int)), (5, .p none (.v (.int .u32 ((tvN (zBL (zC4 s)) : Nat) : Int)))), (6, .vs (tvR (zBL (zC4 s))))] [(2, [.vs ⟨#[]⟩, .vi 0, .vi 0])] []) ?_ ?_
  · exact zAJ ⟨rfl, rfl, rfl, rfl, rfl, trivial⟩ ⟨rfl, trivial⟩ trivial rfl
  refine zAA rfl (.m rfl rfl (.run [3000, 3001, 3002] [] rfl (zAF rfl 3000 (X := []) en86 rfl (.val nod) (.cons (.one (.bor .v)) .nil) (by decide) all_nil .nil (zCO (tvR (zBL (zC4 s))) (by omega)) rfl rfl (nle rfl)) (.m rfl rfl (.r rfl (zAH rfl rfl rfl) (.r rfl (zAH rfl rfl rfl) (.r rfl (zAH rfl rfl rfl) (.a rfl rfl (.a rfl rfl (.a rfl rfl .nil))))))))) ?_
  refine zAB ?_
  refine zAB ?_
  have hkl := zHh s
  have hkh := zK9 s
  have hkn := zM5 s
  refine zAO (s' := mk [(0, .vs s), (2, .ptr 2 0), (4, .vi ((s.size - 8 : Nat) : Int)), (5, .p none (.v (.int .u32 ((kLo s : Nat) : Int)))), (8, .p none (.v (.int .u32 ((kHi s : Nat) : Int))))] [(2, [.vs ⟨#[]⟩, .vi 0, .vi 0])] []) ?_ ?_
  · exact zAJ ⟨rfl, rfl, rfl, (zAE (by rw [(zHg (s := s) (by omega)).1])), (zAE (by rw [(zHg (s := s) (by omega)).2, zPC (by omega)])), trivial⟩ ⟨rfl, trivial⟩ trivial rfl
  refine zAA rfl (.m rfl rfl (.r rfl (zDH rfl rfl rfl) .nil)) ?_
  refine zAT (t := decide (1073741824 ≤ ((kHi s : Nat) : Int))) rfl (fun h2 => ?_) (fun h2 => ?_)
  ·
   replace h2 := of_decide_eq_true h2
   refine zAB ?_
   rw [zLm (by omega)]
   refine zAA rfl (.r rfl (zAw (pl := [(0, 1), (1, 1), (2, 1)]) rfl underlying56 zFc (by kernel_rfl) rfl rfl) (.r rfl (zAN rfl rfl rfl rfl rfl sizeOf56 rfl (nle rfl)) (.a rfl rfl .nil))) ?_
   refine zAI ?_
   exact ends [_, _] [] (.cons (.cell rfl rfl isAgg56 sizeOf56 (nle rfl)) (.cons (.tmp rfl) .nil)) (.cons (.agg (.cons .v (.cons .v (.cons .v .nil))) (zAM (.v _) (zAM (.v _) (zAM (.v _) zBQ)))) (.cons (.one .v (.v _)) .nil)) (by decide) trivial
  ·
   replace h2 := of_decide_eq_false h2
   refine zAK ?_
   refine zAB (zAA rfl (.m rfl rfl (.r rfl (zBn rfl rfl underlying67 underlying2 (by omega)) (.r rfl (zAL (zKi rfl rfl rfl (by omega)) ((zAE (shl32 (by omega))))) (.m rfl rfl (.r rfl (zBn rfl rfl underlying67 underlying2 (by omega)) (.r rfl (zAL (zGN rfl (.inr (.inl rfl)) rfl rfl) ((zAE ((or_i64 (by omega) (by omega)).trans (congrArg Nat.cast (zOP (by omega))))))) (.a rfl rfl .nil))))))) ?_)
   refine zAB ?_
   have hkn2 := zM4 (s := s) (by omega)
   refine zAO (s' := mk [(0, .vs s), (2, .ptr 2 0), (4, .vi ((s.size - 8 : Nat) : Int)), (11, .vi ((kNum s : Nat) : Int))] [(2, [.vs ⟨#[]⟩, .vi 0, .vi 0])] []) ?_ ?_
   · exact zAJ ⟨rfl, rfl, rfl, rfl, trivial⟩ ⟨rfl, trivial⟩ trivial rfl
   refine zAA rfl (.m rfl rfl (.m rfl rfl (.r rfl (zAL (zA0 rfl rfl underlying9 .no (.at_ rfl rfl) (Nat.zero_le _) (by omega)) ((zA3 (show s.extract 0 (s.size - 8) = (keyE s).user from rfl)))) (.m rfl rfl (.r rfl (zAL (zDF rfl rfl rfl (by omega)) ((zAE (quo2b (by omega))))) (.m rfl rfl (.r rfl (zAL (zIo rfl rfl rfl (by omega)) ((zAE rfl))) (.r rfl (zAw (pl := [(0, 1), (1, 1), (2, 1)]) rfl underlying56 zFc (by kernel_rfl) rfl rfl) (.run [] [12] rfl (zBA rfl 12 zFc rfl (by decide) rfl (by decide)) (.r rfl (zAN rfl rfl rfl rfl rfl sizeOf56 rfl (nle rfl)) .nil)))))))))) ?_
   refine zAB ?_
   refine zAB (zAA rfl (.r rfl (zAZ rfl rfl rfl isAgg56 sizeOf56 (nle rfl)) (.run [5200] [] rfl (zAF rfl 5200 (X := []) en55 rfl (.val nod) (.cons (.agg (.cons (.bor .v) (.cons (.bor .v) (.cons (.bor .v) .nil)))) .nil) (by decide) all_nil .nil (zBz (⟨(keyE s).user, (keyE s).seq, (keyE s).kind, ⟨#[]⟩⟩ : Ent)) rfl rfl (nle rfl)) (.r rfl (zAa (b := zBp ((keyE s).user) ((keyE s).seq) ((keyE s).kind)) rfl rfl) .nil))) ?_)
   refine zAT (t := (!(zBp ((keyE s).user) ((keyE s).seq) ((keyE s).kind)))) rfl (fun h3 => ?_) (fun h3 => ?_)
   ·
    replace h3 : (zBp ((keyE s).user) ((keyE s).seq) ((keyE s).kind)) = false := zAm h3
    refine zAB ?_
    rw [zGd (show zBp (keyE s).user (keyE s).seq (keyE s).kind = false from h3)]
    refine zAA rfl (.r rfl (zAw (pl := [(0, 1), (1, 1), (2, 1)]) rfl underlying56 zFc (by kernel_rfl) rfl rfl) (.r rfl (zAN rfl rfl rfl rfl rfl sizeOf56 rfl (nle rfl)) (.a rfl rfl .nil))) ?_
    refine zAI ?_
    exact ends [_, _] [] (.cons (.cell rfl rfl isAgg56 sizeOf56 (nle rfl)) (.cons (.tmp rfl) .nil)) (.cons (.agg (.cons .v (.cons .v (.cons .v .nil))) (zAM (.v _) (zAM (.v _) (zAM (.v _) zBQ)))) (.cons (.one .v (.v _)) .nil)) (by decide) trivial
   ·
    replace h3 : (zBp ((keyE s).user) ((keyE s).seq) ((keyE s).kind)) = true := zAn h3
    refine zAK ?_
    refine zAB ?_
    rw [zGb (by omega) (show zBp (keyE s).user (keyE s).seq (keyE s).kind = true from h3)]
    refine zAA rfl (.r rfl (zAZ rfl rfl rfl isAgg56 sizeOf56 (nle rfl)) (.r rfl (zAN rfl rfl rfl rfl rfl sizeOf56 rfl (nle rfl)) (.a rfl rfl .nil))) ?_
    refine zAI ?_
    exact ends [_, _] [] (.cons (.cell rfl rfl isAgg56 sizeOf56 (nle rfl)) (.cons (.tmp rfl) .nil)) (.cons (.agg (.cons .v (.cons .v (.cons .v .nil))) (zAM (.v _) (zAM (.v _) (zAM (.v _) zBQ)))) (.cons (.one .v (.v _)) .nil)) (by decide) trivial
theorem zKW (l : List Ent) (ev : Nat) (hlb : l.length ≤ 2000000) (hevb : ev < 4294967296) : Con Tryd.prog 111 [.one (PV.sl false 4 (pvE l)), .one (PV.v (.int .i64 (ev:Int)))] [] [.one (.v (.string ((zBs l ev).getD ⟨#[]⟩))), .one (.v (.bool ((zBs l ev).isSome)))] := by
 refine zAR func111 rfl rfl rfl rfl ?_
 have hle := zAf l
 refine zAB (zAA rfl (.a rfl rfl (.a rfl rfl .nil)) ?_)
 refine zAB ?_
 refine zAB ?_
 rcases bfc (!(zBJ l)) with h1 | h1
 ·
  have h1' := h1
  replace h1' : (zBJ l) = true := zAn h1'
  rcases bfc (decide (((pvE l).length : Int) = 0)) with h2 | h2
  ·
   have h2' := h2
   replace h2' := of_decide_eq_false h2'
   refine zAA rfl (.m rfl rfl (.run [800] [] rfl (zAF rfl 800 (X := []) en36 rfl (.val nod) (.cons (.one (.bor (.sl nod))) .nil) (by decide) all_nil .nil (zCa l (by omega)) rfl rfl (nle rfl)) (.r rfl (zAL (zAa (b := zBJ l) rfl rfl) (zAG h1)) (.m rfl rfl (.m rfl rfl (.r rfl (zAp rfl rfl underlying28) (.r rfl (zAL (zBB rfl rfl rfl) (zAG h2)) (.r rfl (zAg rfl rfl) (.m rfl rfl (.m rfl rfl (.run [1700] [] rfl (zAF rfl 1700 (X := []) en65 rfl (.val nod) (.cons (.one (.bor .v)) (.cons (.one (.bor .v)) (.cons (.one (.bor .v)) .nil))) (by decide) all_nil .nil (zBW (ev:Int) 1 16) rfl rfl (nle rfl)) (.r rfl (zAa (b := zAl (ev:Int) 1 16) rfl rfl) (.r rfl (zAg rfl rfl) .nil))))))))))))) ?_
   refine zAT (t := (!(zAl (ev:Int) 1 16))) rfl (fun h3 => ?_) (fun h3 => ?_)
   ·
    replace h3 : (zAl (ev:Int) 1 16) = false := zAm h3
    refine zAB ?_
    rw [zDy (l := l) (ev := ev) (.inr (.inr (fun q => by rw [show zAl (ev : Int) 1 16 = true by simp only [zAl, Bool.and_eq_true, decide_eq_true_eq]; omega] at h3; cases h3)))]
    refine zAO (s' := mk [] [] []) ?_ ?_
    · exact zAJ trivial trivial trivial rfl
    refine zAA rfl (.a rfl rfl (.a rfl rfl .nil)) ?_
    refine zAI ?_
    exact ends [_, _] [] (.cons (.tmp rfl) (.cons (.tmp rfl) .nil)) (.cons (.one .v (.v _)) (.cons (.one .v (.v _)) .nil)) (by decide) trivial
   ·
    replace h3 : (zAl (ev:Int) 1 16) = true := zAn h3
    refine zAK ?_
    refine zAB ?_
    have hok := h1'
    have hev : 1 ≤ ev ∧ ev ≤ 16 := by have q := h3; simp only [zAl, Bool.and_eq_true, decide_eq_true_eq] at q; omega
    have h0 : 0 < l.length := by omega
    have hl : ∀ e ∈ l, zBt e = true := fun e he => zCZ hok he
    have hn := zBj hok
    refine zAO (s' := mk [(0, .p none (.sl false 4 (pvE l))), (1, .vi (ev:Int))] [] []) ?_ ?_
    · exact zAJ ⟨rfl, rfl, trivial⟩ trivial trivial rfl
    refine zAA rfl (.m rfl rfl (.m rfl rfl (.run [2200] [] rfl (zAF rfl 2200 (X := []) en66 rfl (.val nod) (.cons (.one (.bor (.sl nod))) (.cons (.one (.bor .v)) .nil)) (by decide) all_nil .nil (zJc l ev hl (by omega) hev) rfl rfl (nle rfl)) (.a rfl rfl .nil)))) ?_
    refine zAB ?_
    refine zAB (zAA rfl (.m rfl rfl (.r rfl (zAP rfl rfl underlying9) (.r rfl (zBE rfl rfl rfl) .nil))) ?_)
    refine zAT (t := decide (60000 < ((blkF l ev).size : Int))) rfl (fun h4 => ?_) (fun h4 => ?_)
    ·
     replace h4 := of_decide_eq_true h4
     refine zAB ?_
     rw [zHo (l := l) (ev := ev) (show 60000 < (blkF l ev).size by omega)]
     refine zAA rfl (.a rfl rfl (.a rfl rfl .nil)) ?_
     refine zAI ?_
     exact ends [_, _] [] (.cons (.tmp rfl) (.cons (.tmp rfl) .nil)) (.cons (.one .v (.v _)) (.cons (.one .v (.v _)) .nil)) (by decide) trivial
    ·
     replace h4 := of_decide_eq_false h4
     refine zAK ?_
     refine zAB ?_
     rw [zEk (l := l) hok h0 hev (show (blkF l ev).size ≤ 60000 by omega)]
     refine zAA rfl (.m rfl rfl (.a rfl rfl (.a rfl rfl .nil))) ?_
     refine zAI ?_
     exact ends [_, _] [] (.cons (.tmp rfl) (.cons (.tmp rfl) .nil)) (.cons (.one .v (.v _)) (.cons (.one .v (.v _)) .nil)) (by decide) trivial
  ·
   have h2' := h2
   replace h2' := of_decide_eq_true h2'
   refine zAA rfl (.m rfl rfl (.run [800] [] rfl (zAF rfl 800 (X := []) en36 rfl (.val nod) (.cons (.one (.bor (.sl nod))) .nil) (by decide) all_nil .nil (zCa l (by omega)) rfl rfl (nle rfl)) (.r rfl (zAL (zAa (b := zBJ l) rfl rfl) (zAG h1)) (.m rfl rfl (.m rfl rfl (.r rfl (zAp rfl rfl underlying28) (.r rfl (zAL (zBB rfl rfl rfl) (zAG h2)) (.r rfl (zAg rfl rfl) (.m rfl rfl (.not rfl (.not rfl (.not rfl (.r rfl (zAo rfl rfl) .nil))))))))))))) ?_
   refine zAT (t := true) rfl (fun _ => ?_) (fun h => nomatch h)
   refine zAB ?_
   rw [zDy (l := l) (ev := ev) (.inr (.inl (by omega)))]
   refine zAO (s' := mk [] [] []) ?_ ?_
   · exact zAJ trivial trivial trivial rfl
   refine zAA rfl (.a rfl rfl (.a rfl rfl .nil)) ?_
   refine zAI ?_
   exact ends [_, _] [] (.cons (.tmp rfl) (.cons (.tmp rfl) .nil)) (.cons (.one .v (.v _)) (.cons (.one .v (.v _)) .nil)) (by decide) trivial
 ·
  have h1' := h1
  replace h1' : (zBJ l) = false := zAm h1'
  refine zAA rfl (.m rfl rfl (.run [800] [] rfl (zAF rfl 800 (X := []) en36 rfl (.val nod) (.cons (.one (.bor (.sl nod))) .nil) (by decide) all_nil .nil (zCa l (by omega)) rfl rfl (nle rfl)) (.r rfl (zAL (zAa (b := zBJ l) rfl rfl) (zAG h1)) (.m rfl rfl (.not rfl (.not rfl (.not rfl (.r rfl (zAo rfl rfl) (.m rfl rfl (.not rfl (.not rfl (.not rfl (.r rfl (zAo rfl rfl) .nil))))))))))))) ?_
  refine zAT (t := true) rfl (fun _ => ?_) (fun h => nomatch h)
  refine zAB ?_
  rw [zDy (l := l) (ev := ev) (.inl h1')]
  refine zAO (s' := mk [] [] []) ?_ ?_
  · exact zAJ trivial trivial trivial rfl
  refine zAA rfl (.a rfl rfl (.a rfl rfl .nil)) ?_
  refine zAI ?_
  exact ends [_, _] [] (.cons (.tmp rfl) (.cons (.tmp rfl) .nil)) (.cons (.one .v (.v _)) (.cons (.one .v (.v _)) .nil)) (by decide) trivial
theorem zH7 (s : ByteArray) (hs : s.size ≤ 9000000000000000000) : Con Tryd.prog 81 [.one (PV.v (.string s))] [] [.one (.sl true 4 (pvE ((zBI s).getD []))), .one (.v (.bool ((zBI s).isSome)))] := by
 refine zAR func81 rfl rfl rfl rfl ?_
 refine zAB (zAA rfl (.a rfl rfl (.a rfl rfl .nil)) ?_)
 refine zAB ?_
 refine zAB ?_
 rcases bfc (decide ((s.size : Int) < 8)) with h1 | h1
 ·
  have h1' := h1
  replace h1' := of_decide_eq_false h1'
  refine zAA rfl (.m rfl rfl (.r rfl (zAP rfl rfl underlying9) (.r rfl (zAL (zAt rfl rfl rfl) (zAG h1)) (.m rfl rfl (.m rfl rfl (.r rfl (zAP rfl rfl underlying9) (.r rfl (zBE rfl rfl rfl) (.r rfl (zAg rfl rfl) .nil)))))))) ?_
  refine zAT (t := decide (60000 < (s.size : Int))) rfl (fun h2 => ?_) (fun h2 => ?_)
  ·
   replace h2 := of_decide_eq_true h2
   refine zAB ?_
   rw [zEa (s := s) (.inr (by omega))]
   refine zAA rfl (.a rfl rfl (.a rfl rfl .nil)) ?_
   refine zAI ?_
   exact ends [_, _] [] (.cons (.tmp rfl) (.cons (.tmp rfl) .nil)) (.cons (.one (.nil _) (.sl _ _ (fun _ h => nomatch h))) (.cons (.one .v (.v _)) .nil)) (by decide) trivial
  ·
   replace h2 := of_decide_eq_false h2
   refine zAK ?_
   refine zAB ?_
   refine zAO (s' := mk [(0, .vs s)] [] []) ?_ ?_
   · exact zAJ ⟨rfl, trivial⟩ trivial trivial rfl
   refine zAA rfl (.m rfl rfl (.m rfl rfl (.r rfl (zAP rfl rfl underlying9) (.r rfl (zAL (zBw rfl rfl rfl (by omega)) ((zAE (show (s.size : Int) - 8 = ((s.size - 8 : Nat) : Int) by omega)))) (.r rfl (zAL (zA0 rfl rfl underlying9 (.at_ rfl rfl) .no (by omega) (Nat.le_refl _)) ((zA3 (show s.extract (s.size - 8) s.size = zCl s from rfl)))) (.r rfl (zAw (pl := [(0, 1), (1, 1)]) rfl underlying104 zFn (by kernel_rfl) rfl rfl) (.run [3100] [] rfl (zCm rfl 3100 rfl rfl rfl (by decide) rfl (by decide)) (.a rfl rfl .nil)))))))) ?_
   refine zAB ?_
   have hbt := zEl (s := s) (by omega)
   have hfs := zOZ (zCl s) false
   have hm := zNP (b := false) (zLT (s := s) (by omega))
   have hml := zLU s
   have hel := zJl s
   refine zAA rfl (.m rfl rfl (.run [3100, 3300] [] rfl (zAF rfl 3300 (X := [3100]) en77 rfl (.val nod) (.cons (.rptr rfl) .nil) (by decide) (all_cons rfl all_nil) (.keep (xs := pvTk (zCl s, false)) rfl (FlatP.nf (zAy _)) .nil) (zCh (zCl s) false (by omega)) rfl rfl (nle rfl)) (.m rfl rfl (.run [3100, 3500] [] rfl (zAF rfl 3500 (X := [3100]) en77 rfl (.val nod) (.cons (.rptr rfl) .nil) (by decide) (all_cons rfl all_nil) (.keep (xs := pvTk (fS (zCl s) false)) rfl (FlatP.nf (zAy _)) .nil) (zCh ((fS (zCl s) false).1) ((fS (zCl s) false).2) (by omega)) rfl rfl (nle rfl)) (.a rfl rfl (.a rfl rfl .nil)))))) ?_
   refine zAB ?_
   refine zAO (s' := mk [(0, .vs s), (5, .vi ((zEI s : Nat) : Int)), (6, .vi ((zBV s : Nat) : Int))] [] []) ?_ ?_
   · exact zAJ ⟨rfl, (zAE (by rw [hm.1])), (zAE (by rw [hm.2]; exact congrArg Nat.cast (zJk (s := s) (by omega)).1)), trivial⟩ trivial trivial rfl
   refine zAA rfl (.m rfl rfl (.r rfl (zAP rfl rfl underlying9) (.r rfl (zBw rfl rfl rfl (by omega)) (.m rfl rfl (.r rfl (zCj rfl rfl rfl (by omega)) (.r rfl (zBw rfl rfl rfl (by omega)) (.a rfl rfl .nil))))))) ?_
   refine zAB ?_
   refine zAB (zAA rfl (.m rfl rfl (.r rfl (zAt rfl rfl rfl) .nil)) ?_)
   refine zAT (t := decide ((((s.size : Int) - 8) - (4 * ((zEI s : Nat) : Int))) < 0)) rfl (fun h3 => ?_) (fun h3 => ?_)
   ·
    replace h3 := of_decide_eq_true h3
    refine zAB ?_
    rw [zHZ (s := s) (by omega)]
    refine zAA rfl (.a rfl rfl (.a rfl rfl .nil)) ?_
    refine zAI ?_
    exact ends [_, _] [] (.cons (.tmp rfl) (.cons (.tmp rfl) .nil)) (.cons (.one (.nil _) (.sl _ _ (fun _ h => nomatch h))) (.cons (.one .v (.v _)) .nil)) (by decide) trivial
   ·
    replace h3 := of_decide_eq_false h3
    refine zAK ?_
    refine zAB ?_
    refine zAO (s' := mk [(0, .vs s), (6, .vi ((zBV s : Nat) : Int)), (7, .vi ((s.size - 8 - 4 * zEI s : Nat) : Int))] [] []) ?_ ?_
    · exact zAJ ⟨rfl, rfl, (zAE (by omega)), trivial⟩ trivial trivial rfl
    refine zAA rfl (.run [4400] [] rfl (zAv rfl 4400 underlying28 zEH (nle rfl) (by decide) rfl rfl rfl .nil (by decide) rfl (by decide) rfl (by decide) rfl) (.a rfl rfl (.a rfl rfl .nil))) ?_
    refine zAB ?_
    refine zAB (zAA rfl (.m rfl rfl (.m rfl rfl (.r rfl (zA0 rfl rfl underlying9 .no (.at_ rfl rfl) (Nat.zero_le _) (by omega)) (.r rfl (zAw (pl := [(0, 1), (1, 1)]) rfl underlying104 zFn (by kernel_rfl) rfl rfl) (.run [4900] [] rfl (zCm rfl 4900 rfl rfl rfl (by decide) rfl (by decide)) (.a rfl rfl .nil)))))) ?_)
    refine zAS ?_
    refine zAO (zCd 4900 1 rfl rfl (by decide)) ?_
    refine zAO (zCd 4400 2 rfl rfl (by decide)) ?_
    refine zAj (σ := ByteArray × ByteArray × List Ent) (fun (left, last, out) => mk [(0, .vs s), (4, .ea 1 0 0), (6, .vi ((zBV s : Nat) : Int)), (8, .sl 2 0 ((pvE out).length)), (9, .vs last)] [] [(1, 2, pvTk (left, false)), (2, 4, pvE out)]) (fun (left, last, out) => (left.size ≤ s.size ∧ last.size ≤ 48 ∧ out.length ≤ 400) ∧ BI s left last out) (fun (left, last, out) => left.size) (s.extract 0 (s.size - 8 - 4 * zEI s), ⟨#[]⟩, []) ⟨⟨by rw [ByteArray.size_extract]; omega, by decide, by decide⟩, BI.start s⟩ (zAJ ⟨rfl, rfl, rfl, rfl, rfl, trivial⟩ trivial ⟨(congrArg (fun x => some (2, x)) (by rfl)), (congrArg (fun x => some (4, x)) (by rfl)), trivial⟩ rfl) ?_
    rintro ⟨left, last, out⟩ hG
    replace hG : (left.size ≤ s.size ∧ last.size ≤ 48 ∧ out.length ≤ 400) ∧ BI s left last out := hG
    obtain ⟨⟨hls, hla, hlo⟩, hB⟩ := hG
    have hvo := zAf out
    refine zAB ?_
    refine zAB (zAA rfl (.m rfl rfl (.r rfl (zAd rfl rfl) (.r rfl (zAs rfl rfl underlying104 rfl sizeOf9 (by decide)) (.r rfl (zBl (.string left) rfl rfl rfl rfl isAgg9 rfl) (.r rfl (zCC rfl rfl rfl) .nil))))) ?_)
    refine zAT (t := (!(decide (left = ⟨#[]⟩)))) rfl (fun h4 => ?_) (fun h4 => ?_)
    ·
     replace h4 : ¬ (left = ⟨#[]⟩) := of_decide_eq_false (zAm h4)
     refine zAK ?_
     refine zAS ?_
     refine zAB ?_
     have hne := h4
     have hn1 := zGl left false
     have hn2 := zJq (nS left false).1 (nS left false).2
     refine zAA rfl (.m rfl rfl (.run [1, 5600] [] rfl (zAF rfl 5600 (X := [1]) en80 rfl (.val nod) (.cons (.rptr rfl) .nil) (by decide) (all_cons rfl all_nil) (.keep (xs := pvTk (left, false)) rfl (FlatP.nf (zAy _)) .nil) (zCH left false (by omega)) rfl rfl (nle rfl)) (.m rfl rfl (.run [1, 5800] [] rfl (zAF rfl 5800 (X := [1]) zOb rfl (.val nod) (.cons (.rptr rfl) .nil) (by decide) (all_cons rfl all_nil) (.keep (xs := pvTk (nS left false)) rfl (FlatP.nf (zAy _)) .nil) (zES ((nS left false).1) ((nS left false).2) (by omega)) rfl rfl (nle rfl)) (.m rfl rfl (.run [1, 6000] [] rfl (zAF rfl 6000 (X := [1]) zOb rfl (.val nod) (.cons (.rptr rfl) .nil) (by decide) (all_cons rfl all_nil) (.keep (xs := pvTk (xS ((nS left false).1) ((nS left false).2))) rfl (FlatP.nf (zAy _)) .nil) (zES ((xS ((nS left false).1) ((nS left false).2)).1) ((xS ((nS left false).1) ((nS left false).2)).2) (by omega)) rfl rfl (nle rfl)) (.a rfl rfl (.a rfl rfl (.a rfl rfl .nil))))))))) ?_
     have hr5 : pvTk (xS ((xS ((nS left false).1) ((nS left false).2)).1) ((xS ((nS left false).1) ((nS left false).2)).2)) = pvTk (r3 left) := by rfl
     refine zAO (s' := mk [(0, .vs s), (4, .ea 1 0 0), (6, .vi ((zBV s : Nat) : Int)), (8, .sl 2 0 ((pvE out).length)), (9, .vs last), (10, .vi (nV left)), (11, .vs (xV ((nS left false).1))), (12, .vs (xV ((xS ((nS left false).1) ((nS left false).2)).1)))] [] [(1, 2, pvTk (r3 left)), (2, 4, pvE out)]) ?_ ?_
     · exact zAJ ⟨rfl, rfl, rfl, rfl, rfl, rfl, rfl, rfl, trivial⟩ trivial ⟨(congrArg (fun x => some (2, x)) hr5), rfl, trivial⟩ rfl
     refine zAB ?_
     refine zAB ?_
     refine zAO (s' := mk [(0, .vs s), (4, .ea 1 0 0), (6, .vi ((zBV s : Nat) : Int)), (8, .sl 2 0 ((pvE out).length)), (9, .vs last), (10, .vi (nV left)), (11, .vs (xV (r1 left).1)), (12, .vs (xV (r2 left).1))] [] [(1, 2, pvTk (r3 left)), (2, 4, pvE out)]) ?_ ?_
     · exact zAJ ⟨rfl, rfl, rfl, rfl, rfl, rfl, rfl, rfl, trivial⟩ trivial ⟨rfl, rfl, trivial⟩ rfl
     rcases bfc ((r3 left).2) with h6 | h6
     ·
      have h6' := h6
      rcases bfc (decide ((last.size : Int) < (nV left))) with h7 | h7
      ·
       have h7' := h7
       replace h7' := of_decide_eq_false h7'
       refine zAA rfl (.m rfl rfl (.r rfl (zAd rfl rfl) (.r rfl (zAs rfl rfl underlying104 rfl sizeOf4 (by decide)) (.r rfl (zAL (zBl (.bool ((r3 left).2)) rfl rfl rfl rfl isAgg4 rfl) (zAG h6)) (.m rfl rfl (.m rfl rfl (.m rfl rfl (.r rfl (zAP rfl rfl underlying9) (.r rfl (zAL (zBE rfl rfl rfl) (zAG h7)) (.r rfl (zAg rfl rfl) (.m rfl rfl (.m rfl rfl (.r rfl (zB5 rfl rfl underlying28) (.r rfl (zBB rfl rfl rfl) (.r rfl (zAg rfl rfl) .nil))))))))))))))) ?_
       refine zAT (t := decide (((pvE out).length : Int) = 400)) rfl (fun h8 => ?_) (fun h8 => ?_)
       ·
        replace h8 := of_decide_eq_true h8
        refine zAB ?_
        rw [hB.stop hne (by omega) (.inr (.inr (by omega)))]
        refine zAO (s' := mk [] [] []) ?_ ?_
        · exact zAJ trivial trivial trivial rfl
        refine zAA rfl (.a rfl rfl (.a rfl rfl .nil)) ?_
        refine zAI ?_
        exact ends [_, _] [] (.cons (.tmp rfl) (.cons (.tmp rfl) .nil)) (.cons (.one (.nil _) (.sl _ _ (fun _ h => nomatch h))) (.cons (.one .v (.v _)) .nil)) (by decide) trivial
       ·
        replace h8 := of_decide_eq_false h8
        refine zAK ?_
        refine zAB ?_
        have hbd := h6'
        obtain ⟨n, a, b, g1, g2, g3, g4, g5⟩ := r3_good hbd
        have hxl := zLb (r1 left).1
        have hex : (last.extract 0 n).size ≤ 48 := by rw [ByteArray.size_extract]; omega
        refine zAO (s' := mk [(0, .vs s), (4, .ea 1 0 0), (6, .vi ((zBV s : Nat) : Int)), (8, .sl 2 0 ((pvE out).length)), (9, .vs last), (10, .vi ((n : Nat) : Int)), (11, .vs (xV (r1 left).1)), (12, .vs (xV (r2 left).1)), (66, .vi (nV left)), (67, .vs last), (68, .vi (last.size : Int)), (69, .vb false), (72, .sl 2 0 ((pvE out).length)), (73, .vi ((pvE out).length : Int)), (74, .vb (decide (((pvE out).length : Int) = 400)))] [] [(1, 2, pvTk (r3 left)), (2, 4, pvE out)]) ?_ ?_
        · exact zAJ ⟨rfl, rfl, rfl, rfl, rfl, (zAE g3), rfl, rfl, rfl, rfl, rfl, rfl, rfl, rfl, rfl, trivial⟩ trivial ⟨rfl, rfl, trivial⟩ rfl
        refine zAA rfl (.m rfl rfl (.m rfl rfl (.r rfl (zA0 rfl rfl underlying9 .no (.at_ rfl rfl) (Nat.zero_le _) (by omega)) (.m rfl rfl (.r rfl (zAu rfl rfl rfl (by first | omega | (simp only [zAY, zAU]; omega))) (.a rfl rfl .nil)))))) ?_
        refine zAB ?_
        have hsk : (last.extract 0 n ++ xV (r1 left).1).size ≤ 100000 := by rw [zAY]; omega
        refine zAA rfl (.m rfl rfl (.run [8300, 8301, 8302, 8303] [] rfl (zAF rfl 8300 (X := []) en110 rfl (.val nod) (.cons (.one (.bor .v)) .nil) (by decide) all_nil .nil (zKB ((last.extract 0 n) ++ (xV (r1 left).1)) (by omega)) rfl rfl (nle rfl)) (.m rfl rfl (.r rfl (zAH rfl rfl rfl) (.r rfl (zAH rfl rfl rfl) (.run [] [13] rfl (zBA rfl 13 zFc rfl (by decide) rfl (by decide)) (.r rfl (zAN rfl rfl rfl rfl rfl sizeOf56 rfl (nle rfl)) (.a rfl rfl .nil)))))))) ?_
        refine zAB ?_
        refine zAB (zAA rfl (.m rfl rfl (.r rfl (zAa (b := (zBC ((last.extract 0 n) ++ (xV (r1 left).1))).isSome) rfl rfl) .nil)) ?_)
        refine zAT (t := (!((zBC ((last.extract 0 n) ++ (xV (r1 left).1))).isSome))) rfl (fun h9 => ?_) (fun h9 => ?_)
        ·
         replace h9 : ((zBC ((last.extract 0 n) ++ (xV (r1 left).1))).isSome) = false := zAm h9
         refine zAB ?_
         rw [hB.nokey hne g1 g4 g5 (zCz h9)]
         refine zAO (s' := mk [] [] []) ?_ ?_
         · exact zAJ trivial trivial trivial rfl
         refine zAA rfl (.a rfl rfl (.a rfl rfl .nil)) ?_
         refine zAI ?_
         exact ends [_, _] [] (.cons (.tmp rfl) (.cons (.tmp rfl) .nil)) (.cons (.one (.nil _) (.sl _ _ (fun _ h => nomatch h))) (.cons (.one .v (.v _)) .nil)) (by decide) trivial
        ·
         replace h9 : ((zBC ((last.extract 0 n) ++ (xV (r1 left).1))).isSome) = true := zAn h9
         refine zAK ?_
         have hkk := zDT (d := entZ) h9
         refine zAO (s' := mk [(0, .vs s), (4, .ea 1 0 0), (6, .vi ((zBV s : Nat) : Int)), (8, .sl 2 0 ((pvE out).length)), (9, .vs ((last.extract 0 n) ++ (xV (r1 left).1))), (12, .vs (xV (r2 left).1)), (13, .ptr 13 0), (66, .vi (nV left)), (67, .vs last), (68, .vi (last.size : Int)), (69, .vb false), (72, .sl 2 0 ((pvE out).length)), (73, .vi ((pvE out).length : Int)), (74, .vb (decide (((pvE out).length : Int) = 400)))] [(13, [.vs (((zBC ((last.extract 0 n) ++ (xV (r1 left).1))).getD entZ).user), .vi (((zBC ((last.extract 0 n) ++ (xV (r1 left).1))).getD entZ).seq), .vi (((zBC ((last.extract 0 n) ++ (xV (r1 left).1))).getD entZ).kind)])] [(1, 2, pvTk (r3 left)), (2, 4, pvE out)]) ?_ ?_
         · exact zAJ ⟨rfl, rfl, rfl, rfl, rfl, rfl, rfl, rfl, rfl, rfl, rfl, rfl, rfl, rfl, trivial⟩ ⟨rfl, trivial⟩ ⟨rfl, rfl, trivial⟩ rfl
         refine zAA rfl (.m rfl rfl (.r rfl (zAZ rfl rfl rfl isAgg56 sizeOf56 (nle rfl)) (.m rfl rfl (.r rfl (zAw (pl := [(0, 3), (3, 1)]) rfl underlying58 zEH (by kernel_rfl) rfl rfl) (.run [9200] [] rfl (zAv rfl 9200 underlying28 zEH (nle rfl) (by decide) rfl rfl rfl (.cons .v (.cons .v (.cons .v (.cons .v .nil)))) (by decide) rfl (by decide) rfl (by decide) rfl) (.run [2] [] rfl (zB6 rfl 2 (ib := 2) (len := ((pvE out) ++ [[PV.v (.string (((zBC ((last.extract 0 n) ++ (xV (r1 left).1))).getD entZ).user)), PV.v (.int .i64 (((zBC ((last.extract 0 n) ++ (xV (r1 left).1))).getD entZ).seq)), PV.v (.int .i64 (((zBC ((last.extract 0 n) ++ (xV (r1 left).1))).getD entZ).kind)), PV.v (.string (xV (r2 left).1))]]).length) rfl rfl (.row (len := (pvE out).length) (xs := pvE out) rfl rfl (.inl rfl)) (.give (len := 1) (xs := [[PV.v (.string (((zBC ((last.extract 0 n) ++ (xV (r1 left).1))).getD entZ).user)), PV.v (.int .i64 (((zBC ((last.extract 0 n) ++ (xV (r1 left).1))).getD entZ).seq)), PV.v (.int .i64 (((zBC ((last.extract 0 n) ++ (xV (r1 left).1))).getD entZ).kind)), PV.v (.string (xV (r2 left).1))]]) rfl rfl) underlying28 (sk underlying28 rfl) zEH rfl (by decide) (by decide) (by decide) List.length_append (by simp only [maxLen, List.length_append, List.length_cons, List.length_nil, zAf]; omega) (by simp only [maxLen, List.length_append, List.length_cons, List.length_nil, zAf]; omega)) (.a rfl rfl .nil))))))) ?_
         have hr10 : (pvE out) ++ [[PV.v (.string (((zBC ((last.extract 0 n) ++ (xV (r1 left).1))).getD entZ).user)), PV.v (.int .i64 (((zBC ((last.extract 0 n) ++ (xV (r1 left).1))).getD entZ).seq)), PV.v (.int .i64 (((zBC ((last.extract 0 n) ++ (xV (r1 left).1))).getD entZ).kind)), PV.v (.string (xV (r2 left).1))]] = pvE (out ++ [(⟨((zBC (last.extract 0 n ++ xV (r1 left).1)).getD entZ).user, ((zBC (last.extract 0 n ++ xV (r1 left).1)).getD entZ).seq, ((zBC (last.extract 0 n ++ xV (r1 left).1)).getD entZ).kind, xV (r2 left).1⟩ : Ent)]) := by exact zGf out (⟨((zBC (last.extract 0 n ++ xV (r1 left).1)).getD entZ).user, ((zBC (last.extract 0 n ++ xV (r1 left).1)).getD entZ).seq, ((zBC (last.extract 0 n ++ xV (r1 left).1)).getD entZ).kind, xV (r2 left).1⟩ : Ent)
         have hp11 : (.sl 2 0 (((pvE out) ++ [[PV.v (.string (((zBC ((last.extract 0 n) ++ (xV (r1 left).1))).getD entZ).user)), PV.v (.int .i64 (((zBC ((last.extract 0 n) ++ (xV (r1 left).1))).getD entZ).seq)), PV.v (.int .i64 (((zBC ((last.extract 0 n) ++ (xV (r1 left).1))).getD entZ).kind)), PV.v (.string (xV (r2 left).1))]]).length) : AV) = .sl 2 0 ((pvE (out ++ [(⟨((zBC (last.extract 0 n ++ xV (r1 left).1)).getD entZ).user, ((zBC (last.extract 0 n ++ xV (r1 left).1)).getD entZ).seq, ((zBC (last.extract 0 n ++ xV (r1 left).1)).getD entZ).kind, xV (r2 left).1⟩ : Ent)])).length) := by rw [hr10]
         refine nxt (Q := fun _ _ => False) (z := (left, last, out)) ((r3 left).1, last.extract 0 n ++ xV (r1 left).1, out ++ [(⟨((zBC (last.extract 0 n ++ xV (r1 left).1)).getD entZ).user, ((zBC (last.extract 0 n ++ xV (r1 left).1)).getD entZ).seq, ((zBC (last.extract 0 n ++ xV (r1 left).1)).getD entZ).kind, xV (r2 left).1⟩ : Ent)]) ?_ ?_ ?_
         ·
          show (((r3 left).1).size ≤ s.size ∧ (last.extract 0 n ++ xV (r1 left).1).size ≤ 48 ∧ (out ++ [(⟨((zBC (last.extract 0 n ++ xV (r1 left).1)).getD entZ).user, ((zBC (last.extract 0 n ++ xV (r1 left).1)).getD entZ).seq, ((zBC (last.extract 0 n ++ xV (r1 left).1)).getD entZ).kind, xV (r2 left).1⟩ : Ent)]).length ≤ 400) ∧ BI s ((r3 left).1) (last.extract 0 n ++ xV (r1 left).1) (out ++ [(⟨((zBC (last.extract 0 n ++ xV (r1 left).1)).getD entZ).user, ((zBC (last.extract 0 n ++ xV (r1 left).1)).getD entZ).seq, ((zBC (last.extract 0 n ++ xV (r1 left).1)).getD entZ).kind, xV (r2 left).1⟩ : Ent)])
          exact ⟨⟨by have := r3_le left; omega, zHX hkk, by rw [List.length_append, List.length_singleton]; omega⟩, hB.step hne g1 g4 g5 hkk⟩
         ·
          show ((r3 left).1).size < left.size
          have q1 := zE7 g1; have q2 := zD3 g4; have q3 := zD3 g5; omega
         · exact zAJ ⟨rfl, rfl, rfl, hp11, rfl, trivial⟩ trivial ⟨(congrArg (fun x => some (2, x)) (by exact congrArg pvTk (Prod.ext rfl hbd))), (congrArg (fun x => some (4, x)) hr10), trivial⟩ rfl
      ·
       have h7' := h7
       replace h7' := of_decide_eq_true h7'
       refine zAA rfl (.m rfl rfl (.r rfl (zAd rfl rfl) (.r rfl (zAs rfl rfl underlying104 rfl sizeOf4 (by decide)) (.r rfl (zAL (zBl (.bool ((r3 left).2)) rfl rfl rfl rfl isAgg4 rfl) (zAG h6)) (.m rfl rfl (.m rfl rfl (.m rfl rfl (.r rfl (zAP rfl rfl underlying9) (.r rfl (zAL (zBE rfl rfl rfl) (zAG h7)) (.r rfl (zAg rfl rfl) (.m rfl rfl (.not rfl (.not rfl (.not rfl (.r rfl (zAo rfl rfl) .nil))))))))))))))) ?_
       refine zAT (t := true) rfl (fun _ => ?_) (fun h => nomatch h)
       refine zAB ?_
       rw [hB.stop hne (by omega) (.inr (.inl (by omega)))]
       refine zAO (s' := mk [] [] []) ?_ ?_
       · exact zAJ trivial trivial trivial rfl
       refine zAA rfl (.a rfl rfl (.a rfl rfl .nil)) ?_
       refine zAI ?_
       exact ends [_, _] [] (.cons (.tmp rfl) (.cons (.tmp rfl) .nil)) (.cons (.one (.nil _) (.sl _ _ (fun _ h => nomatch h))) (.cons (.one .v (.v _)) .nil)) (by decide) trivial
     ·
      have h6' := h6
      refine zAA rfl (.m rfl rfl (.r rfl (zAd rfl rfl) (.r rfl (zAs rfl rfl underlying104 rfl sizeOf4 (by decide)) (.r rfl (zAL (zBl (.bool ((r3 left).2)) rfl rfl rfl rfl isAgg4 rfl) (zAG h6)) (.m rfl rfl (.not rfl (.not rfl (.not rfl (.not rfl (.r rfl (zAo rfl rfl) (.m rfl rfl (.not rfl (.not rfl (.not rfl (.r rfl (zAo rfl rfl) .nil))))))))))))))) ?_
      refine zAT (t := true) rfl (fun _ => ?_) (fun h => nomatch h)
      refine zAB ?_
      rw [hB.stop hne (by omega) (.inl h6')]
      refine zAO (s' := mk [] [] []) ?_ ?_
      · exact zAJ trivial trivial trivial rfl
      refine zAA rfl (.a rfl rfl (.a rfl rfl .nil)) ?_
      refine zAI ?_
      exact ends [_, _] [] (.cons (.tmp rfl) (.cons (.tmp rfl) .nil)) (.cons (.one (.nil _) (.sl _ _ (fun _ h => nomatch h))) (.cons (.one .v (.v _)) .nil)) (by decide) trivial
    ·
     replace h4 : left = ⟨#[]⟩ := of_decide_eq_true (zAn h4)
     refine zAi ?_
     refine zAB ?_
     refine zAB ?_
     have hB0 : BI s ⟨#[]⟩ last out := by rw [← show left = ⟨#[]⟩ from h4]; exact hB
     refine zAA rfl (.m rfl rfl (.m rfl rfl (.run [2, 9700, 9701] [] rfl (zAF rfl 9700 (X := []) en111 rfl (.val nod) (.cons (.one (.bor (.all (len := (pvE out).length) (xs := pvE out) rfl rfl (by decide)))) (.cons (.one (.bor .v)) .nil)) (by decide) all_nil .nil (zKW out (zBV s) (by omega) (by omega)) rfl rfl (nle rfl)) (.m rfl rfl (.r rfl (zAH rfl rfl rfl) (.r rfl (zAH rfl rfl rfl) (.a rfl rfl (.a rfl rfl .nil)))))))) ?_
     refine zAB ?_
     refine zAO (s' := mk [(0, .vs s), (8, .sl 2 0 ((pvE out).length)), (15, .vs ((zBs out (zBV s)).getD ⟨#[]⟩)), (16, .vb ((zBs out (zBV s)).isSome))] [] [(2, 4, pvE out)]) ?_ ?_
     · exact zAJ ⟨rfl, rfl, rfl, rfl, trivial⟩ trivial ⟨rfl, trivial⟩ rfl
     rcases bfc (!((zBs out (zBV s)).isSome)) with h12 | h12
     ·
      have h12' := h12
      replace h12' : ((zBs out (zBV s)).isSome) = true := zAn h12'
      refine zAA rfl (.m rfl rfl (.r rfl (zAL (zAa (b := (zBs out (zBV s)).isSome) rfl rfl) (zAG h12)) (.m rfl rfl (.m rfl rfl (.m rfl rfl (.r rfl (zCC rfl rfl rfl) (.r rfl (zAg rfl rfl) .nil))))))) ?_
      refine zAT (t := (!(decide (((zBs out (zBV s)).getD ⟨#[]⟩) = s)))) rfl (fun h13 => ?_) (fun h13 => ?_)
      ·
       replace h13 : ¬ (((zBs out (zBV s)).getD ⟨#[]⟩) = s) := of_decide_eq_false (zAm h13)
       refine zAB ?_
       rw [hB0.bad (fun q => h13 (by rw [q]; rfl))]
       refine zAA rfl (.a rfl rfl (.a rfl rfl .nil)) ?_
       refine zAI ?_
       exact ends [_, _] [] (.cons (.tmp rfl) (.cons (.tmp rfl) .nil)) (.cons (.one (.nil _) (.sl _ _ (fun _ h => nomatch h))) (.cons (.one .v (.v _)) .nil)) (by decide) trivial
      ·
       replace h13 : ((zBs out (zBV s)).getD ⟨#[]⟩) = s := of_decide_eq_true (zAn h13)
       refine zAK ?_
       refine zAB ?_
       rw [hB0.good (zHy h12' h13)]
       refine zAA rfl (.m rfl rfl (.a rfl rfl (.a rfl rfl .nil))) ?_
       refine zAI ?_
       exact ends [_, _] [2] (.cons (.tmp rfl) (.cons (.tmp rfl) .nil)) (.cons (.one (.row (len := (pvE out).length) (xs := pvE out) rfl rfl) (.sl _ _ (FlatP.clean (zCf _)))) (.cons (.one .v (.v _)) .nil)) (by decide) trivial
     ·
      have h12' := h12
      replace h12' : ((zBs out (zBV s)).isSome) = false := zAm h12'
      refine zAA rfl (.m rfl rfl (.r rfl (zAL (zAa (b := (zBs out (zBV s)).isSome) rfl rfl) (zAG h12)) (.m rfl rfl (.not rfl (.not rfl (.not rfl (.r rfl (zAo rfl rfl) .nil))))))) ?_
      refine zAT (t := true) rfl (fun _ => ?_) (fun h => nomatch h)
      refine zAB ?_
      rw [hB0.bad (fun q => by rw [q] at h12'; cases h12')]
      refine zAA rfl (.a rfl rfl (.a rfl rfl .nil)) ?_
      refine zAI ?_
      exact ends [_, _] [] (.cons (.tmp rfl) (.cons (.tmp rfl) .nil)) (.cons (.one (.nil _) (.sl _ _ (fun _ h => nomatch h))) (.cons (.one .v (.v _)) .nil)) (by decide) trivial
 ·
  have h1' := h1
  replace h1' := of_decide_eq_true h1'
  refine zAA rfl (.m rfl rfl (.r rfl (zAP rfl rfl underlying9) (.r rfl (zAL (zAt rfl rfl rfl) (zAG h1)) (.m rfl rfl (.not rfl (.not rfl (.not rfl (.r rfl (zAo rfl rfl) .nil)))))))) ?_
  refine zAT (t := true) rfl (fun _ => ?_) (fun h => nomatch h)
  refine zAB ?_
  rw [zEa (s := s) (.inl (by omega))]
  refine zAA rfl (.a rfl rfl (.a rfl rfl .nil)) ?_
  refine zAI ?_
  exact ends [_, _] [] (.cons (.tmp rfl) (.cons (.tmp rfl) .nil)) (.cons (.one (.nil _) (.sl _ _ (fun _ h => nomatch h))) (.cons (.one .v (.v _)) .nil)) (by decide) trivial
theorem zHC (s : ByteArray) (hs : s.size ≤ 9000000000000000000) : Con Tryd.prog 48 [.one (PV.v (.string s))] [] [.one (.sl true 4 (pvE ((zBI s).getD []))), .one (.v (.bool ((zBI s).isSome)))] := by
 refine zAR func48 rfl rfl rfl rfl ?_
 refine zAB (zAA rfl (.a rfl rfl (.a rfl rfl .nil)) ?_)
 refine zAB ?_
 refine zAB ?_
 rcases bfc (decide ((s.size : Int) < 8)) with h1 | h1
 ·
  have h1' := h1
  replace h1' := of_decide_eq_false h1'
  refine zAA rfl (.m rfl rfl (.r rfl (zAP rfl rfl underlying9) (.r rfl (zAL (zAt rfl rfl rfl) (zAG h1)) (.m rfl rfl (.m rfl rfl (.r rfl (zAP rfl rfl underlying9) (.r rfl (zBE rfl rfl rfl) (.r rfl (zAg rfl rfl) .nil)))))))) ?_
  refine zAT (t := decide (60000 < (s.size : Int))) rfl (fun h2 => ?_) (fun h2 => ?_)
  ·
   replace h2 := of_decide_eq_true h2
   refine zAB ?_
   rw [zEa (s := s) (.inr (by omega))]
   refine zAA rfl (.a rfl rfl (.a rfl rfl .nil)) ?_
   refine zAI ?_
   exact ends [_, _] [] (.cons (.tmp rfl) (.cons (.tmp rfl) .nil)) (.cons (.one (.nil _) (.sl _ _ (fun _ h => nomatch h))) (.cons (.one .v (.v _)) .nil)) (by decide) trivial
  ·
   replace h2 := of_decide_eq_false h2
   refine zAK ?_
   refine zAB ?_
   have hml := zLU s
   have hel := zJl s
   have hbt := zEl (s := s) (by omega)
   refine zAO (s' := mk [(0, .vs s)] [] []) ?_ ?_
   · exact zAJ ⟨rfl, trivial⟩ trivial trivial rfl
   refine zAA rfl (.m rfl rfl (.m rfl rfl (.r rfl (zAP rfl rfl underlying9) (.r rfl (zAL (zBw rfl rfl rfl (by omega)) ((zAE (show (s.size : Int) - 8 = ((s.size - 8 : Nat) : Int) by omega)))) (.r rfl (zAL (zA0 rfl rfl underlying9 (.at_ rfl rfl) .no (by omega) (Nat.le_refl _)) ((zA3 (show s.extract (s.size - 8) s.size = zCl s from rfl)))) (.run [4000, 4001, 4002] [] rfl (zAF rfl 4000 (X := []) en86 rfl (.val nod) (.cons (.one (.bor .v)) .nil) (by decide) all_nil .nil (zCO (zCl s) (by omega)) rfl rfl (nle rfl)) (.m rfl rfl (.r rfl (zAH rfl rfl rfl) (.r rfl (zAH rfl rfl rfl) (.r rfl (zAH rfl rfl rfl) (.a rfl rfl (.a rfl rfl (.a rfl rfl .nil))))))))))))) ?_
   refine zAB ?_
   have hm := zLT (s := s) (by omega)
   have hmr : (tvR (zBL (zCl s))).size ≤ 8 := by rw [hm]; show ((zCl s).extract 4 (zCl s).size).size ≤ 8; rw [ByteArray.size_extract]; omega
   refine zAO (s' := mk [(0, .vs s), (4, .p none (.v (.int .u32 ((tvN (zBL (zCl s)) : Nat) : Int)))), (5, .vs (tvR (zBL (zCl s))))] [] []) ?_ ?_
   · exact zAJ ⟨rfl, rfl, rfl, trivial⟩ trivial trivial rfl
   refine zAA rfl (.m rfl rfl (.run [4600, 4601, 4602] [] rfl (zAF rfl 4600 (X := []) en86 rfl (.val nod) (.cons (.one (.bor .v)) .nil) (by decide) all_nil .nil (zCO (tvR (zBL (zCl s))) (by omega)) rfl rfl (nle rfl)) (.m rfl rfl (.r rfl (zAH rfl rfl rfl) (.r rfl (zAH rfl rfl rfl) (.r rfl (zAH rfl rfl rfl) (.a rfl rfl (.a rfl rfl (.a rfl rfl .nil))))))))) ?_
   refine zAB ?_
   refine zAB ?_
   refine zAO (s' := mk [(0, .vs s), (4, .p none (.v (.int .u32 ((zEI s : Nat) : Int)))), (7, .p none (.v (.int .u32 ((zBV s : Nat) : Int))))] [] []) ?_ ?_
   · exact zAJ ⟨rfl, (zAE (by rw [hm]; rfl)), (zAE (by rw [hm]; exact congrArg Nat.cast (zJk (s := s) (by omega)).1)), trivial⟩ trivial trivial rfl
   refine zAA rfl (.m rfl rfl (.r rfl (zBn rfl rfl underlying67 underlying2 (by omega)) (.m rfl rfl (.r rfl (zAP rfl rfl underlying9) (.r rfl (zAL (zBw rfl rfl rfl (by omega)) ((zAE (show (s.size : Int) - 8 = ((s.size - 8 : Nat) : Int) by omega)))) (.r rfl (zAL (zDF rfl rfl rfl (by omega)) ((zAE (quo4b (by omega))))) (.r rfl (zBE rfl rfl rfl) .nil))))))) ?_
   refine zAT (t := decide ((((s.size - 8) / 4 : Nat) : Int) < ((zEI s : Nat) : Int))) rfl (fun h3 => ?_) (fun h3 => ?_)
   ·
    replace h3 := of_decide_eq_true h3
    refine zAB ?_
    rw [zHZ (s := s) (by omega)]
    refine zAA rfl (.a rfl rfl (.a rfl rfl .nil)) ?_
    refine zAI ?_
    exact ends [_, _] [] (.cons (.tmp rfl) (.cons (.tmp rfl) .nil)) (.cons (.one (.nil _) (.sl _ _ (fun _ h => nomatch h))) (.cons (.one .v (.v _)) .nil)) (by decide) trivial
   ·
    replace h3 := of_decide_eq_false h3
    refine zAK ?_
    refine zAB ?_
    refine zAO (s' := mk [(0, .vs s), (4, .p none (.v (.int .u32 ((zEI s : Nat) : Int)))), (7, .p none (.v (.int .u32 ((zBV s : Nat) : Int))))] [] []) ?_ ?_
    · exact zAJ ⟨rfl, rfl, rfl, trivial⟩ trivial trivial rfl
    refine zAA rfl (.m rfl rfl (.m rfl rfl (.r rfl (zAP rfl rfl underlying9) (.r rfl (zAL (zBw rfl rfl rfl (by omega)) ((zAE (show (s.size : Int) - 8 = ((s.size - 8 : Nat) : Int) by omega)))) (.m rfl rfl (.r rfl (zBn rfl rfl underlying67 underlying3 (by omega)) (.r rfl (zCj rfl rfl rfl (by omega)) (.r rfl (zAL (zBw rfl rfl rfl (by omega)) ((zAE (show ((s.size - 8 : Nat) : Int) - 4 * ((zEI s : Nat) : Int) = ((s.size - 8 - 4 * zEI s : Nat) : Int) by omega)))) (.r rfl (zA0 rfl rfl underlying9 .no (.at_ rfl rfl) (Nat.zero_le _) (by omega)) (.a rfl rfl .nil)))))))))) ?_
    refine zAB (zAA rfl (.run [6600] [] rfl (zAv rfl 6600 underlying28 zEH (nle rfl) (by decide) rfl rfl rfl .nil (by decide) rfl (by decide) rfl (by decide) rfl) (.a rfl rfl .nil)) ?_)
    refine zAB (zAA rfl (.a rfl rfl .nil) ?_)
    refine zAB ?_
    refine zAS ?_
    refine zAO (zCd 6600 2 rfl rfl (by decide)) ?_
    refine zAj (σ := ByteArray × ByteArray × List Ent) (fun (left, last, out) => mk [(0, .vs s), (7, .p none (.v (.int .u32 ((zBV s : Nat) : Int)))), (10, .vs left), (11, .sl 2 0 ((pvE out).length)), (12, .vs last)] [] [(2, 4, pvE out)]) (fun (left, last, out) => (left.size ≤ s.size ∧ last.size ≤ 48 ∧ out.length ≤ 400) ∧ BI s left last out) (fun (left, last, out) => left.size) (s.extract 0 (s.size - 8 - 4 * zEI s), ⟨#[]⟩, []) ⟨⟨by rw [ByteArray.size_extract]; omega, by decide, by decide⟩, BI.start s⟩ (zAJ ⟨rfl, rfl, rfl, rfl, rfl, trivial⟩ trivial ⟨(congrArg (fun x => some (4, x)) (by rfl)), trivial⟩ rfl) ?_
    rintro ⟨left, last, out⟩ hG
    replace hG : (left.size ≤ s.size ∧ last.size ≤ 48 ∧ out.length ≤ 400) ∧ BI s left last out := hG
    obtain ⟨⟨hls, hla, hlo⟩, hB⟩ := hG
    have hvo := zAf out
    refine zAB ?_
    refine zAB (zAA rfl (.m rfl rfl (.r rfl (zCC rfl rfl rfl) .nil)) ?_)
    refine zAT (t := (!(decide (left = ⟨#[]⟩)))) rfl (fun h4 => ?_) (fun h4 => ?_)
    ·
     replace h4 : ¬ (left = ⟨#[]⟩) := of_decide_eq_false (zAm h4)
     refine zAK ?_
     refine zAS ?_
     refine zAB ?_
     have hne := h4
     have hn1 := zFh left
     have hn2 := zIf (tvR (zAQ left))
     have hn3 := zME left
     refine zAA rfl (.m rfl rfl (.run [7100, 7101, 7102] [] rfl (zAF rfl 7100 (X := []) en83 rfl (.val nod) (.cons (.one (.bor .v)) .nil) (by decide) all_nil .nil (zCo left (by omega)) rfl rfl (nle rfl)) (.m rfl rfl (.r rfl (zAH rfl rfl rfl) (.r rfl (zAH rfl rfl rfl) (.r rfl (zAH rfl rfl rfl) (.a rfl rfl (.a rfl rfl (.a rfl rfl .nil))))))))) ?_
     refine zAB ?_
     refine zAO (s' := mk [(0, .vs s), (7, .p none (.v (.int .u32 ((zBV s : Nat) : Int)))), (11, .sl 2 0 ((pvE out).length)), (12, .vs last), (13, .p none (.v (.int .u64 ((tvN (zAQ left) : Nat) : Int)))), (14, .vs (tvR (zAQ left))), (15, .vb ((zAQ left).isSome))] [] [(2, 4, pvE out)]) ?_ ?_
     · exact zAJ ⟨rfl, rfl, rfl, rfl, rfl, rfl, rfl, trivial⟩ trivial ⟨rfl, trivial⟩ rfl
     refine zAA rfl (.m rfl rfl (.run [7700, 7701, 7702] [] rfl (zAF rfl 7700 (X := []) en87 rfl (.val nod) (.cons (.one (.bor .v)) .nil) (by decide) all_nil .nil (zEA (tvR (zAQ left)) (by omega)) rfl rfl (nle rfl)) (.m rfl rfl (.r rfl (zAH rfl rfl rfl) (.r rfl (zAH rfl rfl rfl) (.r rfl (zAH rfl rfl rfl) (.a rfl rfl (.a rfl rfl (.a rfl rfl .nil))))))))) ?_
     refine zAB ?_
     refine zAO (s' := mk [(0, .vs s), (7, .p none (.v (.int .u32 ((zBV s : Nat) : Int)))), (11, .sl 2 0 ((pvE out).length)), (12, .vs last), (13, .p none (.v (.int .u64 ((tvN (zAQ left) : Nat) : Int)))), (15, .vb ((zAQ left).isSome)), (16, .vs (txX (zAX (tvR (zAQ left))))), (17, .vs (txR (zAX (tvR (zAQ left))))), (18, .vb ((zAX (tvR (zAQ left))).isSome))] [] [(2, 4, pvE out)]) ?_ ?_
     · exact zAJ ⟨rfl, rfl, rfl, rfl, rfl, rfl, rfl, rfl, rfl, trivial⟩ trivial ⟨rfl, trivial⟩ rfl
     refine zAA rfl (.m rfl rfl (.run [8300, 8301, 8302] [] rfl (zAF rfl 8300 (X := []) en87 rfl (.val nod) (.cons (.one (.bor .v)) .nil) (by decide) all_nil .nil (zEA (txR (zAX (tvR (zAQ left)))) (by omega)) rfl rfl (nle rfl)) (.m rfl rfl (.r rfl (zAH rfl rfl rfl) (.r rfl (zAH rfl rfl rfl) (.r rfl (zAH rfl rfl rfl) (.a rfl rfl (.a rfl rfl (.a rfl rfl .nil))))))))) ?_
     refine zAB ?_
     refine zAB ?_
     refine zAO (s' := mk [(0, .vs s), (7, .p none (.v (.int .u32 ((zBV s : Nat) : Int)))), (11, .sl 2 0 ((pvE out).length)), (12, .vs last), (13, .p none (.v (.int .u64 ((tvN (zAQ left) : Nat) : Int)))), (15, .vb ((zAQ left).isSome)), (16, .vs (txX (zAX (tvR (zAQ left))))), (18, .vb ((zAX (tvR (zAQ left))).isSome)), (19, .vs (txX (zAX (txR (zAX (tvR (zAQ left))))))), (20, .vs (txR (zAX (txR (zAX (tvR (zAQ left))))))), (21, .vb ((zAX (txR (zAX (tvR (zAQ left))))).isSome))] [] [(2, 4, pvE out)]) ?_ ?_
     · exact zAJ ⟨rfl, rfl, rfl, rfl, rfl, rfl, rfl, rfl, rfl, rfl, rfl, trivial⟩ trivial ⟨rfl, trivial⟩ rfl
     rcases bfc (!((zAQ left).isSome)) with h5 | h5
     ·
      have h5' := h5
      replace h5' : ((zAQ left).isSome) = true := zAn h5'
      rcases bfc (!((zAX (tvR (zAQ left))).isSome)) with h6 | h6
      ·
       have h6' := h6
       replace h6' : ((zAX (tvR (zAQ left))).isSome) = true := zAn h6'
       rcases bfc (!((zAX (txR (zAX (tvR (zAQ left))))).isSome)) with h7 | h7
       ·
        have h7' := h7
        replace h7' : ((zAX (txR (zAX (tvR (zAQ left))))).isSome) = true := zAn h7'
        refine zAA rfl (.m rfl rfl (.r rfl (zAL (zAa (b := (zAQ left).isSome) rfl rfl) (zAG h5)) (.m rfl rfl (.m rfl rfl (.r rfl (zAL (zAa (b := (zAX (tvR (zAQ left))).isSome) rfl rfl) (zAG h6)) (.r rfl (zAg rfl rfl) (.m rfl rfl (.m rfl rfl (.r rfl (zAL (zAa (b := (zAX (txR (zAX (tvR (zAQ left))))).isSome) rfl rfl) (zAG h7)) (.r rfl (zAg rfl rfl) (.m rfl rfl (.m rfl rfl (.m rfl rfl (.r rfl (zAP rfl rfl underlying9) (.r rfl (zAL (zAe (k' := .u64) 18446744073709551616 rfl last.size rfl rfl rfl underlying3 underlying53) ((zAE (show ((last.size % 18446744073709551616 : Nat) : Int) = ((last.size : Nat) : Int) by omega)))) (.r rfl (zBE rfl rfl rfl) (.r rfl (zAg rfl rfl) .nil))))))))))))))))) ?_
        refine zAT (t := decide (((last.size : Nat) : Int) < ((tvN (zAQ left) : Nat) : Int))) rfl (fun h8 => ?_) (fun h8 => ?_)
        ·
         replace h8 := of_decide_eq_true h8
         refine zAB ?_
         rw [hB.stop1 hne (.inr (.inr (.inr (by omega))))]
         refine zAO (s' := mk [] [] []) ?_ ?_
         · exact zAJ trivial trivial trivial rfl
         refine zAA rfl (.a rfl rfl (.a rfl rfl .nil)) ?_
         refine zAI ?_
         exact ends [_, _] [] (.cons (.tmp rfl) (.cons (.tmp rfl) .nil)) (.cons (.one (.nil _) (.sl _ _ (fun _ h => nomatch h))) (.cons (.one .v (.v _)) .nil)) (by decide) trivial
        ·
         replace h8 := of_decide_eq_false h8
         refine zAK ?_
         refine zAB ?_
         have g1 := zIg h5'
         have g2 := zJs h6'
         have g3 := zJs h7'
         have hxl := zMD (tvR (zAQ left))
         have hex : (last.extract 0 (tvN (zAQ left))).size ≤ 48 := by rw [ByteArray.size_extract]; omega
         refine zAO (s' := mk [(0, .vs s), (7, .p none (.v (.int .u32 ((zBV s : Nat) : Int)))), (11, .sl 2 0 ((pvE out).length)), (12, .vs last), (13, .p none (.v (.int .u64 ((tvN (zAQ left) : Nat) : Int)))), (16, .vs (txX (zAX (tvR (zAQ left))))), (19, .vs (txX (zAX (txR (zAX (tvR (zAQ left))))))), (20, .vs (txR (zAX (txR (zAX (tvR (zAQ left))))))), (90, .vb ((zAX (tvR (zAQ left))).isSome)), (91, .vb false), (94, .vb ((zAX (txR (zAX (tvR (zAQ left))))).isSome)), (95, .vb false), (98, .p none (.v (.int .u64 ((tvN (zAQ left) : Nat) : Int)))), (99, .vs last), (100, .vi (last.size : Int)), (101, .p none (.v (.int .u64 ((last.size : Nat) : Int)))), (102, .vb (decide (((last.size : Nat) : Int) < ((tvN (zAQ left) : Nat) : Int))))] [] [(2, 4, pvE out)]) ?_ ?_
         · exact zAJ ⟨rfl, rfl, rfl, rfl, rfl, rfl, rfl, rfl, rfl, rfl, rfl, rfl, rfl, rfl, rfl, rfl, rfl, trivial⟩ trivial ⟨rfl, trivial⟩ rfl
         refine zAA rfl (.m rfl rfl (.m rfl rfl (.r rfl (zA0 rfl rfl underlying9 .no (.at_ rfl rfl) (Nat.zero_le _) (by omega)) (.m rfl rfl (.r rfl (zAu rfl rfl rfl (by first | omega | (simp only [zAY, zAU]; omega))) (.a rfl rfl .nil)))))) ?_
         refine zAB ?_
         have hsk : ((last.extract 0 (tvN (zAQ left))) ++ (txX (zAX (tvR (zAQ left))))).size ≤ 100000 := by rw [zAY]; omega
         refine zAA rfl (.m rfl rfl (.run [11100, 11101, 11102, 11103] [] rfl (zAF rfl 11100 (X := []) en88 rfl (.val nod) (.cons (.one (.bor .v)) .nil) (by decide) all_nil .nil (zIw ((last.extract 0 (tvN (zAQ left))) ++ (txX (zAX (tvR (zAQ left))))) (by omega)) rfl rfl (nle rfl)) (.m rfl rfl (.r rfl (zAH rfl rfl rfl) (.r rfl (zAH rfl rfl rfl) (.run [] [22] rfl (zBA rfl 22 zFc rfl (by decide) rfl (by decide)) (.r rfl (zAN rfl rfl rfl rfl rfl sizeOf56 rfl (nle rfl)) (.a rfl rfl .nil)))))))) ?_
         refine zAB ?_
         refine zAB ?_
         refine zAO (s' := mk [(0, .vs s), (7, .p none (.v (.int .u32 ((zBV s : Nat) : Int)))), (11, .sl 2 0 ((pvE out).length)), (12, .vs ((last.extract 0 (tvN (zAQ left))) ++ (txX (zAX (tvR (zAQ left)))))), (19, .vs (txX (zAX (txR (zAX (tvR (zAQ left))))))), (20, .vs (txR (zAX (txR (zAX (tvR (zAQ left))))))), (22, .ptr 22 0), (23, .vb ((zBC ((last.extract 0 (tvN (zAQ left))) ++ (txX (zAX (tvR (zAQ left)))))).isSome)), (90, .vb ((zAX (tvR (zAQ left))).isSome)), (91, .vb false), (94, .vb ((zAX (txR (zAX (tvR (zAQ left))))).isSome)), (95, .vb false), (98, .p none (.v (.int .u64 ((tvN (zAQ left) : Nat) : Int)))), (99, .vs last), (100, .vi (last.size : Int)), (101, .p none (.v (.int .u64 ((last.size : Nat) : Int)))), (102, .vb (decide (((last.size : Nat) : Int) < ((tvN (zAQ left) : Nat) : Int))))] [(22, [.vs (((zBC ((last.extract 0 (tvN (zAQ left))) ++ (txX (zAX (tvR (zAQ left)))))).getD entZ).user), .vi (((zBC ((last.extract 0 (tvN (zAQ left))) ++ (txX (zAX (tvR (zAQ left)))))).getD entZ).seq), .vi (((zBC ((last.extract 0 (tvN (zAQ left))) ++ (txX (zAX (tvR (zAQ left)))))).getD entZ).kind)])] [(2, 4, pvE out)]) ?_ ?_
         · exact zAJ ⟨rfl, rfl, rfl, rfl, rfl, rfl, rfl, rfl, rfl, rfl, rfl, rfl, rfl, rfl, rfl, rfl, rfl, trivial⟩ ⟨rfl, trivial⟩ ⟨rfl, trivial⟩ rfl
         rcases bfc (!((zBC ((last.extract 0 (tvN (zAQ left))) ++ (txX (zAX (tvR (zAQ left)))))).isSome)) with h9 | h9
         ·
          have h9' := h9
          replace h9' : ((zBC ((last.extract 0 (tvN (zAQ left))) ++ (txX (zAX (tvR (zAQ left)))))).isSome) = true := zAn h9'
          refine zAA rfl (.m rfl rfl (.r rfl (zAL (zAa (b := (zBC ((last.extract 0 (tvN (zAQ left))) ++ (txX (zAX (tvR (zAQ left)))))).isSome) rfl rfl) (zAG h9)) (.m rfl rfl (.m rfl rfl (.r rfl (zB5 rfl rfl underlying28) (.r rfl (zDH rfl rfl rfl) (.r rfl (zAg rfl rfl) .nil))))))) ?_
          refine zAT (t := decide (400 ≤ ((pvE out).length : Int))) rfl (fun h10 => ?_) (fun h10 => ?_)
          ·
           replace h10 := of_decide_eq_true h10
           refine zAB ?_
           rw [hB.full hne (by omega)]
           refine zAA rfl (.a rfl rfl (.a rfl rfl .nil)) ?_
           refine zAI ?_
           exact ends [_, _] [] (.cons (.tmp rfl) (.cons (.tmp rfl) .nil)) (.cons (.one (.nil _) (.sl _ _ (fun _ h => nomatch h))) (.cons (.one .v (.v _)) .nil)) (by decide) trivial
          ·
           replace h10 := of_decide_eq_false h10
           refine zAK ?_
           refine zAB ?_
           have hkk := zDT (d := entZ) h9'
           refine zAA rfl (.m rfl rfl (.r rfl (zAZ rfl rfl rfl isAgg56 sizeOf56 (nle rfl)) (.m rfl rfl (.r rfl (zAw (pl := [(0, 3), (3, 1)]) rfl underlying58 zEH (by kernel_rfl) rfl rfl) (.run [12500] [] rfl (zAv rfl 12500 underlying28 zEH (nle rfl) (by decide) rfl rfl rfl (.cons .v (.cons .v (.cons .v (.cons .v .nil)))) (by decide) rfl (by decide) rfl (by decide) rfl) (.run [2] [] rfl (zB6 rfl 2 (ib := 2) (len := ((pvE out) ++ [[PV.v (.string (((zBC ((last.extract 0 (tvN (zAQ left))) ++ (txX (zAX (tvR (zAQ left)))))).getD entZ).user)), PV.v (.int .i64 (((zBC ((last.extract 0 (tvN (zAQ left))) ++ (txX (zAX (tvR (zAQ left)))))).getD entZ).seq)), PV.v (.int .i64 (((zBC ((last.extract 0 (tvN (zAQ left))) ++ (txX (zAX (tvR (zAQ left)))))).getD entZ).kind)), PV.v (.string (txX (zAX (txR (zAX (tvR (zAQ left)))))))]]).length) rfl rfl (.row (len := (pvE out).length) (xs := pvE out) rfl rfl (.inl rfl)) (.give (len := 1) (xs := [[PV.v (.string (((zBC ((last.extract 0 (tvN (zAQ left))) ++ (txX (zAX (tvR (zAQ left)))))).getD entZ).user)), PV.v (.int .i64 (((zBC ((last.extract 0 (tvN (zAQ left))) ++ (txX (zAX (tvR (zAQ left)))))).getD entZ).seq)), PV.v (.int .i64 (((zBC ((last.extract 0 (tvN (zAQ left))) ++ (txX (zAX (tvR (zAQ left)))))).getD entZ).kind)), PV.v (.string (txX (zAX (txR (zAX (tvR (zAQ left)))))))]]) rfl rfl) underlying28 (sk underlying28 rfl) zEH rfl (by decide) (by decide) (by decide) List.length_append (by simp only [maxLen, List.length_append, List.length_cons, List.length_nil, List.length_take, zAf]; omega) (by simp only [maxLen, List.length_append, List.length_cons, List.length_nil, List.length_take, zAf]; omega)) (.a rfl rfl .nil))))))) ?_
           have hr11 : (pvE out) ++ [[PV.v (.string (((zBC ((last.extract 0 (tvN (zAQ left))) ++ (txX (zAX (tvR (zAQ left)))))).getD entZ).user)), PV.v (.int .i64 (((zBC ((last.extract 0 (tvN (zAQ left))) ++ (txX (zAX (tvR (zAQ left)))))).getD entZ).seq)), PV.v (.int .i64 (((zBC ((last.extract 0 (tvN (zAQ left))) ++ (txX (zAX (tvR (zAQ left)))))).getD entZ).kind)), PV.v (.string (txX (zAX (txR (zAX (tvR (zAQ left)))))))]] = pvE (out ++ [(⟨((zBC ((last.extract 0 (tvN (zAQ left))) ++ (txX (zAX (tvR (zAQ left)))))).getD entZ).user, ((zBC ((last.extract 0 (tvN (zAQ left))) ++ (txX (zAX (tvR (zAQ left)))))).getD entZ).seq, ((zBC ((last.extract 0 (tvN (zAQ left))) ++ (txX (zAX (tvR (zAQ left)))))).getD entZ).kind, txX (zAX (txR (zAX (tvR (zAQ left)))))⟩ : Ent)]) := by exact zGf out (⟨((zBC ((last.extract 0 (tvN (zAQ left))) ++ (txX (zAX (tvR (zAQ left)))))).getD entZ).user, ((zBC ((last.extract 0 (tvN (zAQ left))) ++ (txX (zAX (tvR (zAQ left)))))).getD entZ).seq, ((zBC ((last.extract 0 (tvN (zAQ left))) ++ (txX (zAX (tvR (zAQ left)))))).getD entZ).kind, txX (zAX (txR (zAX (tvR (zAQ left)))))⟩ : Ent)
           have hp12 : (.sl 2 0 (((pvE out) ++ [[PV.v (.string (((zBC ((last.extract 0 (tvN (zAQ left))) ++ (txX (zAX (tvR (zAQ left)))))).getD entZ).user)), PV.v (.int .i64 (((zBC ((last.extract 0 (tvN (zAQ left))) ++ (txX (zAX (tvR (zAQ left)))))).getD entZ).seq)), PV.v (.int .i64 (((zBC ((last.extract 0 (tvN (zAQ left))) ++ (txX (zAX (tvR (zAQ left)))))).getD entZ).kind)), PV.v (.string (txX (zAX (txR (zAX (tvR (zAQ left)))))))]]).length) : AV) = .sl 2 0 ((pvE (out ++ [(⟨((zBC ((last.extract 0 (tvN (zAQ left))) ++ (txX (zAX (tvR (zAQ left)))))).getD entZ).user, ((zBC ((last.extract 0 (tvN (zAQ left))) ++ (txX (zAX (tvR (zAQ left)))))).getD entZ).seq, ((zBC ((last.extract 0 (tvN (zAQ left))) ++ (txX (zAX (tvR (zAQ left)))))).getD entZ).kind, txX (zAX (txR (zAX (tvR (zAQ left)))))⟩ : Ent)])).length) := by simp only [hr11]
           refine zAO (s' := mk [(0, .vs s), (7, .p none (.v (.int .u32 ((zBV s : Nat) : Int)))), (11, .sl 2 0 ((pvE (out ++ [(⟨((zBC ((last.extract 0 (tvN (zAQ left))) ++ (txX (zAX (tvR (zAQ left)))))).getD entZ).user, ((zBC ((last.extract 0 (tvN (zAQ left))) ++ (txX (zAX (tvR (zAQ left)))))).getD entZ).seq, ((zBC ((last.extract 0 (tvN (zAQ left))) ++ (txX (zAX (tvR (zAQ left)))))).getD entZ).kind, txX (zAX (txR (zAX (tvR (zAQ left)))))⟩ : Ent)])).length)), (12, .vs ((last.extract 0 (tvN (zAQ left))) ++ (txX (zAX (tvR (zAQ left)))))), (20, .vs (txR (zAX (txR (zAX (tvR (zAQ left))))))), (90, .vb ((zAX (tvR (zAQ left))).isSome)), (91, .vb false), (94, .vb ((zAX (txR (zAX (tvR (zAQ left))))).isSome)), (95, .vb false), (98, .p none (.v (.int .u64 ((tvN (zAQ left) : Nat) : Int)))), (99, .vs last), (100, .vi (last.size : Int)), (101, .p none (.v (.int .u64 ((last.size : Nat) : Int)))), (102, .vb (decide (((last.size : Nat) : Int) < ((tvN (zAQ left) : Nat) : Int)))), (118, .vi ((pvE out).length : Int)), (119, .vb (decide (400 ≤ ((pvE out).length : Int))))] [] [(2, 4, pvE (out ++ [(⟨((zBC ((last.extract 0 (tvN (zAQ left))) ++ (txX (zAX (tvR (zAQ left)))))).getD entZ).user, ((zBC ((last.extract 0 (tvN (zAQ left))) ++ (txX (zAX (tvR (zAQ left)))))).getD entZ).seq, ((zBC ((last.extract 0 (tvN (zAQ left))) ++ (txX (zAX (tvR (zAQ left)))))).getD entZ).kind, txX (zAX (txR (zAX (tvR (zAQ left)))))⟩ : Ent)]))]) ?_ ?_
           · exact zAJ ⟨rfl, rfl, hp12, rfl, rfl, rfl, rfl, rfl, rfl, rfl, rfl, rfl, rfl, rfl, rfl, rfl, trivial⟩ trivial ⟨(congrArg (fun x => some (4, x)) hr11), trivial⟩ rfl
           refine zAA rfl (.m rfl rfl (.a rfl rfl .nil)) ?_
           refine nxt (Q := fun _ _ => False) (z := (left, last, out)) (txR (zAX (txR (zAX (tvR (zAQ left))))), (last.extract 0 (tvN (zAQ left))) ++ (txX (zAX (tvR (zAQ left)))), out ++ [(⟨((zBC ((last.extract 0 (tvN (zAQ left))) ++ (txX (zAX (tvR (zAQ left)))))).getD entZ).user, ((zBC ((last.extract 0 (tvN (zAQ left))) ++ (txX (zAX (tvR (zAQ left)))))).getD entZ).seq, ((zBC ((last.extract 0 (tvN (zAQ left))) ++ (txX (zAX (tvR (zAQ left)))))).getD entZ).kind, txX (zAX (txR (zAX (tvR (zAQ left)))))⟩ : Ent)]) ?_ ?_ ?_
           ·
            show ((txR (zAX (txR (zAX (tvR (zAQ left)))))).size ≤ s.size ∧ ((last.extract 0 (tvN (zAQ left))) ++ (txX (zAX (tvR (zAQ left))))).size ≤ 48 ∧ (out ++ [(⟨((zBC ((last.extract 0 (tvN (zAQ left))) ++ (txX (zAX (tvR (zAQ left)))))).getD entZ).user, ((zBC ((last.extract 0 (tvN (zAQ left))) ++ (txX (zAX (tvR (zAQ left)))))).getD entZ).seq, ((zBC ((last.extract 0 (tvN (zAQ left))) ++ (txX (zAX (tvR (zAQ left)))))).getD entZ).kind, txX (zAX (txR (zAX (tvR (zAQ left)))))⟩ : Ent)]).length ≤ 400) ∧ BI s (txR (zAX (txR (zAX (tvR (zAQ left)))))) ((last.extract 0 (tvN (zAQ left))) ++ (txX (zAX (tvR (zAQ left))))) (out ++ [(⟨((zBC ((last.extract 0 (tvN (zAQ left))) ++ (txX (zAX (tvR (zAQ left)))))).getD entZ).user, ((zBC ((last.extract 0 (tvN (zAQ left))) ++ (txX (zAX (tvR (zAQ left)))))).getD entZ).seq, ((zBC ((last.extract 0 (tvN (zAQ left))) ++ (txX (zAX (tvR (zAQ left)))))).getD entZ).kind, txX (zAX (txR (zAX (tvR (zAQ left)))))⟩ : Ent)])
            exact ⟨⟨by have q1 := zFh left; have q2 := zIf (tvR (zAQ left)); have q3 := zIf (txR (zAX (tvR (zAQ left)))); omega, zHX hkk, by rw [List.length_append, List.length_singleton]; omega⟩, hB.step hne g1 g2 g3 hkk⟩
           ·
            show (txR (zAX (txR (zAX (tvR (zAQ left)))))).size < left.size
            have q1 := zE7 g1; have q2 := zD3 g2; have q3 := zD3 g3; omega
           · exact zAJ ⟨rfl, rfl, rfl, rfl, rfl, trivial⟩ trivial ⟨rfl, trivial⟩ rfl
         ·
          have h9' := h9
          replace h9' : ((zBC ((last.extract 0 (tvN (zAQ left))) ++ (txX (zAX (tvR (zAQ left)))))).isSome) = false := zAm h9'
          refine zAA rfl (.m rfl rfl (.r rfl (zAL (zAa (b := (zBC ((last.extract 0 (tvN (zAQ left))) ++ (txX (zAX (tvR (zAQ left)))))).isSome) rfl rfl) (zAG h9)) (.m rfl rfl (.not rfl (.not rfl (.not rfl (.r rfl (zAo rfl rfl) .nil))))))) ?_
          refine zAT (t := true) rfl (fun _ => ?_) (fun h => nomatch h)
          refine zAB ?_
          rw [hB.nokey hne g1 g2 g3 (zCz h9')]
          refine zAA rfl (.a rfl rfl (.a rfl rfl .nil)) ?_
          refine zAI ?_
          exact ends [_, _] [] (.cons (.tmp rfl) (.cons (.tmp rfl) .nil)) (.cons (.one (.nil _) (.sl _ _ (fun _ h => nomatch h))) (.cons (.one .v (.v _)) .nil)) (by decide) trivial
       ·
        have h7' := h7
        replace h7' : ((zAX (txR (zAX (tvR (zAQ left))))).isSome) = false := zAm h7'
        refine zAA rfl (.m rfl rfl (.r rfl (zAL (zAa (b := (zAQ left).isSome) rfl rfl) (zAG h5)) (.m rfl rfl (.m rfl rfl (.r rfl (zAL (zAa (b := (zAX (tvR (zAQ left))).isSome) rfl rfl) (zAG h6)) (.r rfl (zAg rfl rfl) (.m rfl rfl (.m rfl rfl (.r rfl (zAL (zAa (b := (zAX (txR (zAX (tvR (zAQ left))))).isSome) rfl rfl) (zAG h7)) (.r rfl (zAg rfl rfl) (.m rfl rfl (.not rfl (.not rfl (.not rfl (.not rfl (.not rfl (.r rfl (zAo rfl rfl) .nil))))))))))))))))) ?_
        refine zAT (t := true) rfl (fun _ => ?_) (fun h => nomatch h)
        refine zAB ?_
        rw [hB.stop1 hne (.inr (.inr (.inl (zCz h7'))))]
        refine zAO (s' := mk [] [] []) ?_ ?_
        · exact zAJ trivial trivial trivial rfl
        refine zAA rfl (.a rfl rfl (.a rfl rfl .nil)) ?_
        refine zAI ?_
        exact ends [_, _] [] (.cons (.tmp rfl) (.cons (.tmp rfl) .nil)) (.cons (.one (.nil _) (.sl _ _ (fun _ h => nomatch h))) (.cons (.one .v (.v _)) .nil)) (by decide) trivial
      ·
       have h6' := h6
       replace h6' : ((zAX (tvR (zAQ left))).isSome) = false := zAm h6'
       refine zAA rfl (.m rfl rfl (.r rfl (zAL (zAa (b := (zAQ left).isSome) rfl rfl) (zAG h5)) (.m rfl rfl (.m rfl rfl (.r rfl (zAL (zAa (b := (zAX (tvR (zAQ left))).isSome) rfl rfl) (zAG h6)) (.r rfl (zAg rfl rfl) (.m rfl rfl (.not rfl (.not rfl (.r rfl (zAo rfl rfl) (.m rfl rfl (.not rfl (.not rfl (.not rfl (.not rfl (.not rfl (.r rfl (zAo rfl rfl) .nil))))))))))))))))) ?_
       refine zAT (t := true) rfl (fun _ => ?_) (fun h => nomatch h)
       refine zAB ?_
       rw [hB.stop1 hne (.inr (.inl (zCz h6')))]
       refine zAO (s' := mk [] [] []) ?_ ?_
       · exact zAJ trivial trivial trivial rfl
       refine zAA rfl (.a rfl rfl (.a rfl rfl .nil)) ?_
       refine zAI ?_
       exact ends [_, _] [] (.cons (.tmp rfl) (.cons (.tmp rfl) .nil)) (.cons (.one (.nil _) (.sl _ _ (fun _ h => nomatch h))) (.cons (.one .v (.v _)) .nil)) (by decide) trivial
     ·
      have h5' := h5
      replace h5' : ((zAQ left).isSome) = false := zAm h5'
      refine zAA rfl (.m rfl rfl (.r rfl (zAL (zAa (b := (zAQ left).isSome) rfl rfl) (zAG h5)) (.m rfl rfl (.not rfl (.not rfl (.r rfl (zAo rfl rfl) (.m rfl rfl (.not rfl (.not rfl (.r rfl (zAo rfl rfl) (.m rfl rfl (.not rfl (.not rfl (.not rfl (.not rfl (.not rfl (.r rfl (zAo rfl rfl) .nil))))))))))))))))) ?_
      refine zAT (t := true) rfl (fun _ => ?_) (fun h => nomatch h)
      refine zAB ?_
      rw [hB.stop1 hne (.inl (zCz h5'))]
      refine zAO (s' := mk [] [] []) ?_ ?_
      · exact zAJ trivial trivial trivial rfl
      refine zAA rfl (.a rfl rfl (.a rfl rfl .nil)) ?_
      refine zAI ?_
      exact ends [_, _] [] (.cons (.tmp rfl) (.cons (.tmp rfl) .nil)) (.cons (.one (.nil _) (.sl _ _ (fun _ h => nomatch h))) (.cons (.one .v (.v _)) .nil)) (by decide) trivial
    ·
     replace h4 : left = ⟨#[]⟩ := of_decide_eq_true (zAn h4)
     refine zAi ?_
     refine zAB ?_
     have hB0 : BI s ⟨#[]⟩ last out := by rw [← show left = ⟨#[]⟩ from h4]; exact hB
     refine zAA rfl (.m rfl rfl (.m rfl rfl (.r rfl (zBn rfl rfl underlying67 underlying2 (by omega)) (.run [2, 13200, 13201] [] rfl (zAF rfl 13200 (X := []) en25 rfl (.val nod) (.cons (.one (.bor (.all (len := (pvE out).length) (xs := pvE out) rfl rfl (by decide)))) (.cons (.one (.bor .v)) .nil)) (by decide) all_nil .nil (zGT out (zBV s) (by omega) (by omega)) rfl rfl (nle rfl)) (.m rfl rfl (.r rfl (zAH rfl rfl rfl) (.r rfl (zAH rfl rfl rfl) (.a rfl rfl (.a rfl rfl .nil))))))))) ?_
     refine zAB ?_
     refine zAB ?_
     refine zAO (s' := mk [(0, .vs s), (11, .sl 2 0 ((pvE out).length)), (24, .vs ((zBs out (zBV s)).getD ⟨#[]⟩)), (25, .vb ((zBs out (zBV s)).isSome))] [] [(2, 4, pvE out)]) ?_ ?_
     · exact zAJ ⟨rfl, rfl, rfl, rfl, trivial⟩ trivial ⟨rfl, trivial⟩ rfl
     rcases bfc (!((zBs out (zBV s)).isSome)) with h13 | h13
     ·
      have h13' := h13
      replace h13' : ((zBs out (zBV s)).isSome) = true := zAn h13'
      refine zAA rfl (.m rfl rfl (.r rfl (zAL (zAa (b := (zBs out (zBV s)).isSome) rfl rfl) (zAG h13)) (.m rfl rfl (.m rfl rfl (.m rfl rfl (.r rfl (zCC rfl rfl rfl) (.r rfl (zAg rfl rfl) .nil))))))) ?_
      refine zAT (t := (!(decide (((zBs out (zBV s)).getD ⟨#[]⟩) = s)))) rfl (fun h14 => ?_) (fun h14 => ?_)
      ·
       replace h14 : ¬ (((zBs out (zBV s)).getD ⟨#[]⟩) = s) := of_decide_eq_false (zAm h14)
       refine zAB ?_
       rw [hB0.bad (fun q => h14 (by rw [q]; rfl))]
       refine zAA rfl (.a rfl rfl (.a rfl rfl .nil)) ?_
       refine zAI ?_
       exact ends [_, _] [] (.cons (.tmp rfl) (.cons (.tmp rfl) .nil)) (.cons (.one (.nil _) (.sl _ _ (fun _ h => nomatch h))) (.cons (.one .v (.v _)) .nil)) (by decide) trivial
      ·
       replace h14 : ((zBs out (zBV s)).getD ⟨#[]⟩) = s := of_decide_eq_true (zAn h14)
       refine zAK ?_
       refine zAB ?_
       rw [hB0.good (zHy h13' h14)]
       refine zAA rfl (.m rfl rfl (.a rfl rfl (.a rfl rfl .nil))) ?_
       refine zAI ?_
       exact ends [_, _] [2] (.cons (.tmp rfl) (.cons (.tmp rfl) .nil)) (.cons (.one (.row (len := (pvE out).length) (xs := pvE out) rfl rfl) (.sl _ _ (FlatP.clean (zCf _)))) (.cons (.one .v (.v _)) .nil)) (by decide) trivial
     ·
      have h13' := h13
      replace h13' : ((zBs out (zBV s)).isSome) = false := zAm h13'
      refine zAA rfl (.m rfl rfl (.r rfl (zAL (zAa (b := (zBs out (zBV s)).isSome) rfl rfl) (zAG h13)) (.m rfl rfl (.not rfl (.not rfl (.not rfl (.r rfl (zAo rfl rfl) .nil))))))) ?_
      refine zAT (t := true) rfl (fun _ => ?_) (fun h => nomatch h)
      refine zAB ?_
      rw [hB0.bad (fun q => by rw [q] at h13'; cases h13')]
      refine zAA rfl (.a rfl rfl (.a rfl rfl .nil)) ?_
      refine zAI ?_
      exact ends [_, _] [] (.cons (.tmp rfl) (.cons (.tmp rfl) .nil)) (.cons (.one (.nil _) (.sl _ _ (fun _ h => nomatch h))) (.cons (.one .v (.v _)) .nil)) (by decide) trivial
 ·
  have h1' := h1
  replace h1' := of_decide_eq_true h1'
  refine zAA rfl (.m rfl rfl (.r rfl (zAP rfl rfl underlying9) (.r rfl (zAL (zAt rfl rfl rfl) (zAG h1)) (.m rfl rfl (.not rfl (.not rfl (.not rfl (.r rfl (zAo rfl rfl) .nil)))))))) ?_
  refine zAT (t := true) rfl (fun _ => ?_) (fun h => nomatch h)
  refine zAB ?_
  rw [zEa (s := s) (.inl (by omega))]
  refine zAA rfl (.a rfl rfl (.a rfl rfl .nil)) ?_
  refine zAI ?_
  exact ends [_, _] [] (.cons (.tmp rfl) (.cons (.tmp rfl) .nil)) (.cons (.one (.nil _) (.sl _ _ (fun _ h => nomatch h))) (.cons (.one .v (.v _)) .nil)) (by decide) trivial
end Go.Rl

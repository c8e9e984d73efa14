/- Promises of functions, proved by walks over their operations; no conditions beyond those that each theorem states. -/
import Derived.Test.YtgdfpjpfomcilaaGreatRtEx
import Derived.Test.YtgdfpjpfomcilaaGreatRnC
import Derived.Maps.Own
set_option linter.unusedSimpArgs false
set_option linter.unusedVariables false
namespace Go.Rl
open Go.Proofs Go.Proofs.Tryz
set_option maxRecDepth 1000000
set_option maxHeartbeats 2000000
theorem en81 : En Tryz.prog 81 := zAm func81 (by decide) rfl
theorem op_con {γ : Gho} {cv : Value} {bs : List Nat} (hc : zCe γ cv bs) (hl : bs.length ≤ 1152921504606846976) (p : Nat) (hp : p ≤ bs.length)  : ConG γ Tryz.prog 81 [.rptr 2 [PV.v (cv), PV.v (.int .i64 (p:Int))]] [some (pvRd (cv, opP bs p))] [.agg [.v (.int .i64 (opV bs p).kind), .v (.string (opV bs p).user), .v (.string (opV bs p).value)]] := by
 refine zAQ func81 rfl rfl rfl rfl ?_
 refine zAB (zAA rfl (.run [] [2] rfl (zAj rfl 2 zFa rfl (by decide) rfl (by decide)) .nil) ?_)
 refine zAB (zAA rfl (.m rfl rfl (.run [100000, 500] [] rfl (zAz (.inr rfl) rfl 500 (X := [100000]) en52 rfl (.val nod) (.cons (.rptr rfl) (.cons (.one (.bor .v)) .nil)) (by decide) (all_cons rfl all_nil) (.keep (xs := pvRd (cv, p)) rfl (FlatP.nf (zAb _)) .nil) (zBx hc hl p hp 3 (by omega)) rfl rfl (nle rfl)) (.r rfl (zLr rfl rfl rfl (by omega)) (.m rfl rfl (.run [100000, 800] [] rfl (zAz (.inr rfl) rfl 800 (X := [100000]) en102 rfl (.val nod) (.cons (.rptr rfl) .nil) (by decide) (all_cons rfl all_nil) (.keep (xs := pvRd (cv, zAH bs p 3)) rfl (FlatP.nf (zAb _)) .nil) (zLm hc hl (zAH bs p 3) (zAV hp)) rfl rfl (nle rfl)) (.m rfl rfl (.run [100000, 1000] [] rfl (zAz (.inr rfl) rfl 1000 (X := [100000]) en89 rfl (.val nod) (.cons (.rptr rfl) .nil) (by decide) (all_cons rfl all_nil) (.keep (xs := pvRd (cv, zBy bs (zAH bs p 3))) rfl (FlatP.nf (zAb _)) .nil) (zJR hc hl (zBy bs (zAH bs p 3)) (zAV (zAV hp))) rfl rfl (nle rfl)) (.r rfl (zBC (pl := [(0, 1), (1, 1), (2, 1)]) rfl underlying110 zFa (by kernel_rfl) rfl rfl) (.run [] [3] rfl (zAj rfl 3 zFa rfl (by decide) rfl (by decide)) (.r rfl (zAE rfl rfl rfl rfl rfl sizeOf110 rfl (nle rfl)) .nil)))))))))) ?_)
 refine zDx (σ := ByteArray) (fun v => mk [(0, .ea 100000 0 0), (2, .ptr 2 0), (3, .ptr 3 0)] [(2, [.vi 0, .vs ⟨#[]⟩, .vs ⟨#[]⟩]), (3, [.vi ((op0 bs p).kind), .vs ((op0 bs p).user), .vs v])] [(100000, 2, pvRd (cv, zAH bs (zBy bs (zAH bs p 3)) 5))]) (fun v => v = op1v bs p) ?_ ?_
 ·
  refine zAB (zAA rfl (.r rfl (zAC rfl rfl underlying110 rfl sizeOf2 (by decide)) (.r rfl (zAD rfl rfl rfl isAgg2 rfl) (.r rfl (zA8 rfl rfl rfl) .nil))) ?_)
  refine zAZ (t := decide ((((zAk bs p 3 : Nat) : Int).tmod 2) = 0)) rfl (fun h1 => ?_) (fun h1 => ?_)
  ·
   replace h1 := of_decide_eq_true h1
   refine zAA rfl (.r rfl (zAC rfl rfl underlying110 rfl sizeOf9 (by decide)) (.r rfl (zAE rfl rfl rfl rfl rfl sizeOf9 rfl (nle rfl)) .nil)) ?_
   refine ⟨⟨#[]⟩, ?_, ?_⟩
   ·
    show ⟨#[]⟩ = op1v bs p
    exact (if_pos h1).symm
   · exact zAJ ⟨rfl, rfl, rfl, trivial⟩ ⟨rfl, rfl, trivial⟩ ⟨rfl, trivial⟩ rfl
  ·
   replace h1 := of_decide_eq_false h1
   refine zAM ?_
   refine ⟨(op0 bs p).value, ?_, ?_⟩
   ·
    show ((op0 bs p).value) = op1v bs p
    exact (if_neg h1).symm
   · exact zAJ ⟨rfl, rfl, rfl, trivial⟩ ⟨rfl, rfl, trivial⟩ ⟨rfl, trivial⟩ rfl
 ·
  rintro v hG
  replace hG : v = op1v bs p := hG
  subst hG
  refine zAB ?_
  refine zAB (zAA rfl (.m rfl rfl (.run [100000, 1700] [] rfl (zAz (.inr rfl) rfl 1700 (X := [100000]) en56 rfl (.val nod) (.cons (.rptr rfl) (.cons (.one (.bor .v)) .nil)) (by decide) (all_cons rfl all_nil) (.keep (xs := pvRd (cv, zAH bs (zBy bs (zAH bs p 3)) 5)) rfl (FlatP.nf (zAb _)) .nil) (zEf hc hl (zAH bs (zBy bs (zAH bs p 3)) 5) (zAV (zAV (zAV hp))) 30 (by omega)) rfl rfl (nle rfl)) .nil)) ?_)
  refine zAZ (t := zCl bs (zAH bs (zBy bs (zAH bs p 3)) 5) 30) rfl (fun h2 => ?_) (fun h2 => ?_)
  ·
   refine zAA rfl (.m rfl rfl (.run [100000, 1900] [] rfl (zAz (.inr rfl) rfl 1900 (X := [100000]) en58 rfl (.val nod) (.cons (.rptr rfl) (.cons (.one (.bor .v)) (.cons (.one (.bor .v)) .nil))) (by decide) (all_cons rfl all_nil) (.keep (xs := pvRd (cv, zAH bs (zAH bs (zBy bs (zAH bs p 3)) 5) 30)) rfl (FlatP.nf (zAb _)) .nil) (zIy hc hl (zAH bs (zAH bs (zBy bs (zAH bs p 3)) 5) 30) (zAV (zAV (zAV (zAV hp)))) 0 1 (by omega) (by omega)) rfl rfl (nle rfl)) (.m rfl rfl (.run [100000, 2100] [] rfl (zAz (.inr rfl) rfl 2100 (X := [100000]) en103 rfl (.val nod) (.cons (.rptr rfl) (.cons (.one (.bor .v)) .nil)) (by decide) (all_cons rfl all_nil) (.keep (xs := pvRd (cv, offP bs (zAH bs (zAH bs (zBy bs (zAH bs p 3)) 5) 30) 0 1)) rfl (FlatP.nf (zAb _)) .nil) (zHX hc hl (offP bs (zAH bs (zAH bs (zBy bs (zAH bs p 3)) 5) 30) 0 1) (zFB (zAV (zAV (zAV (zAV hp))))) 44 (by omega)) rfl rfl (nle rfl)) (.m rfl rfl (.run [100000, 2300] [] rfl (zAz (.inr rfl) rfl 2300 (X := [100000]) en103 rfl (.val nod) (.cons (.rptr rfl) (.cons (.one (.bor .v)) .nil)) (by decide) (all_cons rfl all_nil) (.keep (xs := pvRd (cv, zEy bs (offP bs (zAH bs (zAH bs (zBy bs (zAH bs p 3)) 5) 30) 0 1) 44)) rfl (FlatP.nf (zAb _)) .nil) (zHX hc hl (zEy bs (offP bs (zAH bs (zAH bs (zBy bs (zAH bs p 3)) 5) 30) 0 1) 44) (zFo (zFB (zAV (zAV (zAV (zAV hp)))))) 9 (by omega)) rfl rfl (nle rfl)) (.r rfl (zBC (pl := [(0, 1), (1, 1), (2, 1)]) rfl underlying110 zFa (by kernel_rfl) rfl rfl) (.r rfl (zAE rfl rfl rfl rfl rfl sizeOf110 rfl (nle rfl)) .nil)))))))) ?_
   refine zAB ?_
   have hv : opV bs p = _ := if_pos h2
   have hpp : opP bs p = _ := if_pos h2
   rw [hv, hpp]
   refine zAA rfl (.r rfl (zAG rfl rfl rfl isAgg110 sizeOf110 (nle rfl)) (.r rfl (zAE rfl rfl rfl rfl rfl sizeOf110 rfl (nle rfl)) .nil)) ?_
   refine zAO ?_
   exact ends [_] [] (.cons (.cell rfl rfl isAgg110 sizeOf110 (nle rfl)) .nil) (.cons (.agg (.cons .v (.cons .v (.cons .v .nil))) (zAI (.v _) (zAI (.v _) (zAI (.v _) zBE)))) .nil) (by decide) (zB7 (congrArg (fun x => some (2, x)) (congrArg pvRd (congrArg (Prod.mk cv) rfl))) (zAb _) (by decide))
  ·
   refine zAM ?_
   refine zAB ?_
   have hv : opV bs p = _ := if_neg (fun z => Bool.noConfusion ((show zCl bs (op0P bs p) 30 = false from h2).symm.trans z))
   have hpp : opP bs p = _ := if_neg (fun z => Bool.noConfusion ((show zCl bs (op0P bs p) 30 = false from h2).symm.trans z))
   rw [hv, hpp]
   refine zAA rfl (.r rfl (zAG rfl rfl rfl isAgg110 sizeOf110 (nle rfl)) (.r rfl (zAE rfl rfl rfl rfl rfl sizeOf110 rfl (nle rfl)) .nil)) ?_
   refine zAO ?_
   exact ends [_] [] (.cons (.cell rfl rfl isAgg110 sizeOf110 (nle rfl)) .nil) (.cons (.agg (.cons .v (.cons .v (.cons .v .nil))) (zAI (.v _) (zAI (.v _) (zAI (.v _) zBE)))) .nil) (by decide) (zB7 (congrArg (fun x => some (2, x)) (congrArg pvRd (congrArg (Prod.mk cv) rfl))) (zAb _) (by decide))
theorem zOI {γ : Gho} {cv : Value} {bs : List Nat} (hc : zCe γ cv bs) (hl : bs.length ≤ 1152921504606846976) (p : Nat) (hp : p ≤ bs.length)  : ConG γ Tryz.prog 45 [.rptr 2 [PV.v (cv), PV.v (.int .i64 (p:Int))]] [some (pvRd (cv, opsP bs p))] [.one (.sl true 3 (pvO (opsV bs p)))] := by
 refine zAQ func45 rfl rfl rfl rfl ?_
 have hb0 := zCC (bs := bs) (p := p) (n := 4) (by omega)
 refine zAB (zAA rfl (.a rfl rfl .nil) ?_)
 refine zAB (zAA rfl (.run [500] [] rfl (zAR rfl 500 underlying37 zFa (nle rfl) (by decide) rfl rfl rfl .nil (by decide) rfl (by decide) rfl (by decide) rfl) (.a rfl rfl .nil)) ?_)
 refine zAB ?_
 refine zAB (zAA rfl (.m rfl rfl (.run [100000, 700] [] rfl (zAz (.inr rfl) rfl 700 (X := [100000]) en52 rfl (.val nod) (.cons (.rptr rfl) (.cons (.one (.bor .v)) .nil)) (by decide) (all_cons rfl all_nil) (.keep (xs := pvRd (cv, p)) rfl (FlatP.nf (zAb _)) .nil) (zBx hc hl p hp 4 (by omega)) rfl rfl (nle rfl)) (.r rfl (zAf rfl rfl rfl (by omega)) (.a rfl rfl .nil)))) ?_)
 refine zAS ?_
 refine zAY (zBi 500 1 rfl rfl (by decide)) ?_
-- entry row 100000: pvRd (cv, (zAH bs p 4)) now pvRd (cv, zAH bs p 4)
 refine zAp (σ := Nat × List Bop × Nat) (fun (i, l, q) => mk [(0, .ea 100000 0 0), (3, .sl 1 0 ((pvO l).length)), (4, .vi (i:Int))] [] [(1, 3, pvO l), (100000, 2, pvRd (cv, q))]) (fun (i, l, q) => i ≤ 10 ∧ l.length + i ≤ 10 ∧ q ≤ bs.length ∧ zDd bs i (l, q) = opsR bs p) (fun (i, l, q) => i) (1 + zAk bs p 4, [], zAH bs p 4) ⟨by omega, by simp only [List.length_nil]; omega, zAV hp, rfl⟩ (zAJ ⟨rfl, rfl, (zAL (by omega)), trivial⟩ trivial ⟨(congrArg (fun x => some (3, x)) (by rfl)), rfl, trivial⟩ rfl) ?_
 rintro ⟨i, l, q⟩ hG
 replace hG : i ≤ 10 ∧ l.length + i ≤ 10 ∧ q ≤ bs.length ∧ zDd bs i (l, q) = opsR bs p := hG
 obtain ⟨hi, hll, hp, hE⟩ := hG
 have hle := zBz l
 refine zAB ?_
 refine zAB (zAA rfl (.m rfl rfl (.r rfl (zBN rfl rfl rfl) .nil)) ?_)
 refine zAZ (t := decide (0 < (i:Int))) rfl (fun h1 => ?_) (fun h1 => ?_)
 ·
  replace h1 := of_decide_eq_true h1
  refine zAM ?_
  refine zAB ?_
  refine zAS ?_
  refine zAA rfl (.m rfl rfl (.m rfl rfl (.run [100000, 1500, 1501, 1502] [] rfl (zAz (.inr rfl) rfl 1500 (X := [100000]) en81 rfl (.val nod) (.cons (.rptr rfl) .nil) (by decide) (all_cons rfl all_nil) (.keep (xs := pvRd (cv, q)) rfl (FlatP.nf (zAb _)) .nil) (op_con hc hl q hp) rfl rfl (nle rfl)) (.run [1600] [] rfl (zAR rfl 1600 underlying37 zFa (nle rfl) (by decide) rfl rfl rfl (.cons .v (.cons .v (.cons .v .nil))) (by decide) rfl (by decide) rfl (by decide) rfl) (.run [1] [] rfl (zAu rfl 1 (ib := 1) (len := ((pvO l) ++ [[PV.v (.int .i64 ((opV bs q).kind)), PV.v (.string ((opV bs q).user)), PV.v (.string ((opV bs q).value))]]).length) rfl rfl (.row (len := (pvO l).length) (xs := pvO l) rfl rfl (.inl rfl)) (.give (len := 1) (xs := [[PV.v (.int .i64 ((opV bs q).kind)), PV.v (.string ((opV bs q).user)), PV.v (.string ((opV bs q).value))]]) rfl rfl) underlying37 (sk underlying37 rfl) zFa rfl (by decide) (by decide) (by decide) List.length_append (by simp only [maxLen, List.length_append, List.length_cons, List.length_nil, zBz]; omega) (by simp only [maxLen, List.length_append, List.length_cons, List.length_nil, zBz]; omega)) (.a rfl rfl .nil)))))) ?_
  have hr2 : (pvO l) ++ [[PV.v (.int .i64 ((opV bs q).kind)), PV.v (.string ((opV bs q).user)), PV.v (.string ((opV bs q).value))]] = pvO (l ++ [opV bs q]) := by exact zPn _ _
  have hp3 : (.sl 1 0 (((pvO l) ++ [[PV.v (.int .i64 ((opV bs q).kind)), PV.v (.string ((opV bs q).user)), PV.v (.string ((opV bs q).value))]]).length) : AV) = .sl 1 0 ((pvO (l ++ [opV bs q])).length) := by simp only [hr2]
  refine zAY (s' := mk [(0, .ea 100000 0 0), (3, .sl 1 0 ((pvO (l ++ [opV bs q])).length)), (4, .vi (i:Int))] [] [(1, 3, pvO (l ++ [opV bs q])), (100000, 2, pvRd (cv, opP bs q))]) ?_ ?_
  · exact zAJ ⟨rfl, hp3, rfl, trivial⟩ trivial ⟨(congrArg (fun x => some (3, x)) hr2), rfl, trivial⟩ rfl
  refine zAA rfl (.m rfl rfl (.r rfl (zAv rfl rfl rfl (by omega)) (.a rfl rfl .nil))) ?_
-- round row 100000: pvRd (cv, (opP bs q)) now pvRd (cv, opP bs q)
  refine nxt (Q := fun _ _ => False) (z := (i, l, q)) (i - 1, l ++ [opV bs q], opP bs q) ?_ ?_ ?_
  ·
   show (i - 1) ≤ 10 ∧ (l ++ [opV bs q]).length + (i - 1) ≤ 10 ∧ (opP bs q) ≤ bs.length ∧ zDd bs (i - 1) ((l ++ [opV bs q]), (opP bs q)) = opsR bs p
   exact ⟨by omega, by simp only [List.length_append, List.length_cons, List.length_nil]; omega, zQp hp, zNA (by omega) hE⟩
  ·
   show (i - 1) < i
   omega
  · exact zAJ ⟨rfl, rfl, (zAL (by omega)), trivial⟩ trivial ⟨rfl, rfl, trivial⟩ rfl
 ·
  replace h1 := of_decide_eq_false h1
  refine zAx ?_
  refine zAB ?_
  refine zAB ?_
  have hi0 : i = 0 := (by omega)
  rw [hi0] at hE
  have hEm : opsR bs p = (l, q) := hE.symm
  refine zAA rfl (.m rfl rfl (.run [100000, 1900] [] rfl (zAz (.inr rfl) rfl 1900 (X := [100000]) en56 rfl (.val nod) (.cons (.rptr rfl) (.cons (.one (.bor .v)) .nil)) (by decide) (all_cons rfl all_nil) (.keep (xs := pvRd (cv, q)) rfl (FlatP.nf (zAb _)) .nil) (zEf hc hl q hp 30 (by omega)) rfl rfl (nle rfl)) .nil)) ?_
  refine zAZ (t := zCl bs q 30) rfl (fun h4 => ?_) (fun h4 => ?_)
  ·
   refine zAB ?_
   have hv : opsV bs p = [] := by rw [opsV, hEm, if_pos h4]
   have hpp : opsP bs p = zAH bs q 30 := by rw [opsP, hEm]
   rw [hv, hpp]
   refine zAA rfl (.run [2000] [] rfl (zAR rfl 2000 underlying37 zFa (nle rfl) (by decide) rfl rfl rfl .nil (by decide) rfl (by decide) rfl (by decide) rfl) (.a rfl rfl .nil)) ?_
   refine zAO ?_
   exact ends [_] [2000] (.cons (.tmp rfl) .nil) (.cons (.one (.row (len := 0) (xs := []) rfl rfl) (.sl _ _ (fun _ h => nomatch h))) .nil) (by decide) (zB7 (congrArg (fun x => some (2, x)) (congrArg pvRd (congrArg (Prod.mk cv) rfl))) (zAb _) (by decide))
  ·
   refine zAM ?_
   refine zAB ?_
   have hv : opsV bs p = l := by rw [opsV, hEm, if_neg (by simp [h4])]
   have hpp : opsP bs p = zAH bs q 30 := by rw [opsP, hEm]
   rw [hv, hpp]
   refine zAA rfl (.m rfl rfl (.a rfl rfl .nil)) ?_
   refine zAO ?_
   exact ends [_] [1] (.cons (.tmp rfl) .nil) (.cons (.one (.row (len := (pvO l).length) (xs := pvO l) rfl rfl) (.sl _ _ (FlatP.clean (zL6 _)))) .nil) (by decide) (zB7 (congrArg (fun x => some (2, x)) (congrArg pvRd (congrArg (Prod.mk cv) rfl))) (zAb _) (by decide))
end Go.Rl
namespace Go.Rl
noncomputable def zCR (bs : List Nat) (x : Eng × Nat) : Eng × Nat :=
 if zAk bs x.2 7 = 0 then (if (zBm x.1).2 = 0 then (zBm x.1).1 else x.1, zAH bs x.2 7)
 else if zAk bs x.2 7 = 1 then (if (zCA x.1).2.2 = 0 then (zCA x.1).1 else x.1, zAH bs x.2 7)
 else if zAk bs x.2 7 = 2 then (if (zBD x.1).2 = 0 then (zBD x.1).1 else x.1, zAH bs x.2 7)
 else if zAk bs x.2 7 = 3 then
  (if 0 < x.1.snaps.length then (if (zCE x.1 (x.1.snaps.getD (zAk bs (zAH bs x.2 7) x.1.snaps.length) 0)).2 = 0 then (zCE x.1 (x.1.snaps.getD (zAk bs (zAH bs x.2 7) x.1.snaps.length) 0)).1 else x.1, zAH bs (zAH bs x.2 7) x.1.snaps.length) else (x.1, zAH bs x.2 7))
 else (if (zBh x.1 (opsV bs (zAH bs x.2 7))).2 = 0 then (zBh x.1 (opsV bs (zAH bs x.2 7))).1 else x.1, opsP bs (zAH bs x.2 7))
noncomputable def zCW (bs : List Nat) : Nat → Eng × Nat → Eng × Nat
 | 0, x => x
 | i + 1, x => zCW bs i (zCR bs x)
noncomputable def zCV (bs : List Nat) (p : Nat) : Eng × Nat := zCW bs (zAk bs p 9) (Eng.nil, zAH bs p 9)
noncomputable def zFg (bs : List Nat) (x : Eng × Nat) : Eng × Nat := if zCl bs x.2 20 = true then ({ x.1 with mem := x.1.mem ++ [zCI bs (zAH bs x.2 20)] }, zC3 bs (zAH bs x.2 20)) else (x.1, zAH bs x.2 20)
noncomputable def zHi (bs : List Nat) (x : Eng × Nat) : Eng × Nat := if zCl bs x.2 24 = true then ({ x.1 with seq := offV bs (zAH bs x.2 24) 0 12 }, offP bs (zAH bs x.2 24) 0 12) else (x.1, zAH bs x.2 24)
noncomputable def dbV (bs : List Nat) (p : Nat) : Eng := (zHi bs (zFg bs (zCV bs p))).1
noncomputable def dbP (bs : List Nat) (p : Nat) : Nat := (zHi bs (zFg bs (zCV bs p))).2
theorem zCJ {bs : List Nat} {i : Nat} {x y z : Eng × Nat} (hi : 0 < i) (hs : zCR bs x = y) (h : zCW bs i x = z) : zCW bs (i - 1) y = z := by
 obtain ⟨j, rfl⟩ : ∃ j, i = j + 1 := ⟨i - 1, by omega⟩
 rw [← h, ← hs]
 rfl
theorem zJC {d : Eng} (h : EB d) : EB (zBm d).1 := by
 by_cases ho : okE d = true
 ·
  have s := zCU ho
  unfold zBm
  rw [if_pos ho]
  split
  · exact h
  ·
   split
   · exact h
   ·
    refine ⟨Nat.zero_le _, by have := s.runs; simp only [List.length_cons]; omega, fun l hl => ?_, h.snaps⟩
    rcases List.mem_cons.1 hl with rfl | hl
    · exact h.mem
    · exact h.each l hl
 · unfold zBm; rw [if_neg ho]; exact zGH
theorem zKo {d : Eng} (h : EB d) : EB (zCA d).1 := by
 by_cases ho : okE d = true
 ·
  have s := zCU ho
  unfold zCA
  rw [if_pos ho]
  split
  · exact h
  ·
   split
   · exact h
   · exact ⟨h.mem, h.runs, h.each, by have := s.snaps; simp only [List.length_append, List.length_cons, List.length_nil]; omega⟩
 · unfold zCA; rw [if_neg ho]; exact zGH
theorem zLG {d : Eng} {a : Int} (h : EB d) : EB (zCE d a).1 := by
 by_cases ho : okE d = true
 ·
  unfold zCE
  rw [if_pos ho]
  exact ⟨h.mem, h.runs, h.each, Nat.le_trans (List.length_filter_le _ _) h.snaps⟩
 · unfold zCE; rw [if_neg ho]; exact zGH
theorem zIZ {d : Eng} {ops : List Bop} (h : EB d) (hn : ops.length ≤ 100) : EB (zBh d ops).1 := by
 by_cases ho : okE d = true
 ·
  have s := zCU ho
  unfold zBh
  rw [if_pos ho]
  split
  · exact h
  ·
   split
   · exact h
   · exact ⟨by have := zDW (zAq (d.seq + 1) ops) d.mem; have := s.mem; have := zB2 (d.seq + 1) ops; show (zBp d.mem (zAq (d.seq + 1) ops)).length ≤ 2000000; omega, h.runs, h.each, h.snaps⟩
 · unfold zBh; rw [if_neg ho]; exact zGH
theorem zKL (l : List Ent) (s : List Int) : (zCX l s).length ≤ l.length := Nat.le_trans (zFk _ _ _ (Nat.le_refl _)) (zDJ _ _ _)
theorem zF8 {d : Eng} (h : EB d) : EB (zBD d).1 := by
 by_cases ho : okE d = true
 ·
  have s := zCU ho
  unfold zBD
  rw [if_pos ho]
  split
  · exact h
  ·
   have hc := zKL (zA1 d.runs) d.snaps
   have hm := zC9 d.runs
   have he := s.ents
   refine ⟨h.mem, ?_, fun l hl => ?_, h.snaps⟩
   ·
    show (if 0 < (zCX (zA1 d.runs) d.snaps).length then [zCX (zA1 d.runs) d.snaps] else []).length ≤ 1000000
    split
    · simp
    · simp
   ·
    have hl' : l ∈ (if 0 < (zCX (zA1 d.runs) d.snaps).length then [zCX (zA1 d.runs) d.snaps] else []) := hl
    split at hl'
    · rw [List.mem_singleton.1 hl']; omega
    · cases hl'
 · unfold zBD; rw [if_neg ho]; exact zGH
section
variable {bs : List Nat} {d : Eng} {q : Nat}
theorem st_0 (h : zAk bs q 7 = 0) {c : Bool} (hc : decide ((zBm d).2 = 0) = c) : zCR bs (d, q) = (if c = true then (zBm d).1 else d, zAH bs q 7) := by
 subst hc
 unfold zCR
 rw [if_pos h]
 simp only [decide_eq_true_eq]
theorem st_1 (h : zAk bs q 7 = 1) {c : Bool} (hc : decide ((zCA d).2.2 = 0) = c) : zCR bs (d, q) = (if c = true then (zCA d).1 else d, zAH bs q 7) := by
 subst hc
 unfold zCR
 rw [if_neg (by show ¬ zAk bs q 7 = 0; omega), if_pos h]
 simp only [decide_eq_true_eq]
theorem st_2 (h : zAk bs q 7 = 2) {c : Bool} (hc : decide ((zBD d).2 = 0) = c) : zCR bs (d, q) = (if c = true then (zBD d).1 else d, zAH bs q 7) := by
 subst hc
 unfold zCR
 rw [if_neg (by show ¬ zAk bs q 7 = 0; omega), if_neg (by show ¬ zAk bs q 7 = 1; omega), if_pos h]
 simp only [decide_eq_true_eq]
theorem st_3n (h : zAk bs q 7 = 3) (hn : ¬ 0 < d.snaps.length) : zCR bs (d, q) = (d, zAH bs q 7) := by
 unfold zCR
 rw [if_neg (by show ¬ zAk bs q 7 = 0; omega), if_neg (by show ¬ zAk bs q 7 = 1; omega), if_neg (by show ¬ zAk bs q 7 = 2; omega), if_pos h, if_neg hn]
theorem st_3 (h : zAk bs q 7 = 3) {a : Int} (ha : d.snaps[zAk bs (zAH bs q 7) d.snaps.length]? = some a) {c : Bool} (hc : decide ((zCE d a).2 = 0) = c) : zCR bs (d, q) = (if c = true then (zCE d a).1 else d, zAH bs (zAH bs q 7) d.snaps.length) := by
 subst hc
 have hp : 0 < d.snaps.length := by have := (List.getElem?_eq_some_iff.1 ha).1; omega
 have hg : d.snaps.getD (zAk bs (zAH bs q 7) d.snaps.length) 0 = a := by rw [List.getD_eq_getElem?_getD, ha]; rfl
 unfold zCR
 rw [if_neg (by show ¬ zAk bs q 7 = 0; omega), if_neg (by show ¬ zAk bs q 7 = 1; omega), if_neg (by show ¬ zAk bs q 7 = 2; omega), if_pos h, if_pos hp]
 simp only [hg, decide_eq_true_eq]
theorem st_4 (h0 : ¬ zAk bs q 7 = 0) (h1 : ¬ zAk bs q 7 = 1) (h2 : ¬ zAk bs q 7 = 2) (h3 : ¬ zAk bs q 7 = 3) {c : Bool} (hc : decide ((zBh d (opsV bs (zAH bs q 7))).2 = 0) = c) : zCR bs (d, q) = (if c = true then (zBh d (opsV bs (zAH bs q 7))).1 else d, opsP bs (zAH bs q 7)) := by
 subst hc
 unfold zCR
 rw [if_neg h0, if_neg h1, if_neg h2, if_neg h3]
 simp only [decide_eq_true_eq]
end
theorem zKC {bs : List Nat} {x : Eng × Nat} (h : EB x.1) (hp : x.2 ≤ bs.length) : EB (zCR bs x).1 ∧ (zCR bs x).2 ≤ bs.length := by
 have hq : zAH bs x.2 7 ≤ bs.length := zAV hp
 unfold zCR
 split
 ·
  refine ⟨?_, hq⟩
  show EB (if _ then _ else _)
  split
  · exact zJC h
  · exact h
 ·
  split
  ·
   refine ⟨?_, hq⟩
   show EB (if _ then _ else _)
   split
   · exact zKo h
   · exact h
  ·
   split
   ·
    refine ⟨?_, hq⟩
    show EB (if _ then _ else _)
    split
    · exact zF8 h
    · exact h
   ·
    split
    ·
     split
     ·
      refine ⟨?_, zAV hq⟩
      show EB (if _ then _ else _)
      split
      · exact zLG h
      · exact h
     · exact ⟨h, hq⟩
    ·
     refine ⟨?_, zK1 hq⟩
     show EB (if _ then _ else _)
     split
     · exact zIZ h (by have := zEe bs (zAH bs x.2 7); omega)
     · exact h
theorem zKD {bs : List Nat} : ∀ (i : Nat) (x : Eng × Nat), EB x.1 → x.2 ≤ bs.length → EB (zCW bs i x).1 ∧ (zCW bs i x).2 ≤ bs.length
 | 0, _, h, hp => ⟨h, hp⟩
 | i + 1, x, h, hp => zKD i _ (zKC h hp).1 (zKC h hp).2
theorem zMi {bs : List Nat} {p : Nat} (hp : p ≤ bs.length) : EB (zCV bs p).1 ∧ (zCV bs p).2 ≤ bs.length := zKD _ (Eng.nil, zAH bs p 9) zGH (show zAH bs p 9 ≤ bs.length from zAV hp)
structure EB1 (d : Eng) : Prop where
 mem : d.mem.length ≤ 2000001
 runs : d.runs.length ≤ 1000000
 each : ∀ l ∈ d.runs, l.length ≤ 2000000
 snaps : d.snaps.length ≤ 1000000
theorem zQr {bs : List Nat} {p : Nat} (hp : p ≤ bs.length) : dbP bs p ≤ bs.length := by
 have h := zMi hp
 have h1 : (zFg bs (zCV bs p)).2 ≤ bs.length := by
  unfold zFg
  split
  · exact (show zC3 bs (zAH bs (zCV bs p).2 20) ≤ bs.length from zKB (zAV h.2))
  · exact (show zAH bs (zCV bs p).2 20 ≤ bs.length from zAV h.2)
 unfold dbP zHi
 split
 · exact (show offP bs (zAH bs (zFg bs (zCV bs p)).2 24) 0 12 ≤ bs.length from zFB (zAV h1))
 · exact (show zAH bs (zFg bs (zCV bs p)).2 24 ≤ bs.length from zAV h1)
def atQ (bs : List Nat) (sn : List Int) (p : Nat) : Nat := if 0 < sn.length then zAH bs p 2 else p
def atV (bs : List Nat) (sn : List Int) (p : Nat) : Int := if 0 < sn.length ∧ zCl bs p 2 = true then sn.getD (zAk bs (zAH bs p 2) sn.length) 0 else if zCl bs (atQ bs sn p) 4 = true then offV bs (zAH bs (atQ bs sn p) 4) 0 9 else -1
def atP (bs : List Nat) (sn : List Int) (p : Nat) : Nat := if 0 < sn.length ∧ zCl bs p 2 = true then zAH bs (zAH bs p 2) sn.length else if zCl bs (atQ bs sn p) 4 = true then offP bs (zAH bs (atQ bs sn p) 4) 0 9 else zAH bs (atQ bs sn p) 4
theorem zOn (bs : List Nat) (p : Nat) (hp : p ≤ bs.length) : (dbV bs p).snaps.length ≤ 1000000 := by
 have h := (zMi hp).1.snaps
 unfold dbV zHi zFg
 split <;> split <;> exact h
end Go.Rl
namespace Go.Rl
open Go.Proofs Go.Proofs.Tryz
set_option maxRecDepth 1000000
set_option maxHeartbeats 2000000
theorem en53 : En Tryz.prog 53 := zAm func53 (by decide) rfl
theorem en16 : En Tryz.prog 16 := zAm func16 (by decide) rfl
theorem en11 : En Tryz.prog 11 := zAm func11 (by decide) rfl
theorem en54 : En Tryz.prog 54 := zAm func54 (by decide) rfl
theorem en45 : En Tryz.prog 45 := zAm func45 (by decide) rfl
theorem en55 : En Tryz.prog 55 := zAm func55 (by decide) rfl
theorem en57 : En Tryz.prog 57 := zAm func57 (by decide) rfl
theorem db_con {γ : Gho} {cv : Value} {bs : List Nat} (hc : zCe γ cv bs) (hl : bs.length ≤ 1152921504606846976) (p : Nat) (hp : p ≤ bs.length)  : ConG γ Tryz.prog 20 [.rptr 2 [PV.v (cv), PV.v (.int .i64 (p:Int))]] [some (pvRd (cv, dbP bs p))] [.agg [.v (.int .i64 ((dbV bs p).seq)), .sl true 4 (pvE ((dbV bs p).mem)), .sl true 1 (pvR (tagT (dbV bs p).runs)), .sl true 1 (pvI ((dbV bs p).snaps))]] := by
 refine zAQ func20 rfl rfl rfl rfl ?_
 have hb0 := zCC (bs := bs) (p := p) (n := 9) (by omega)
 refine zAB (zAA rfl (.run [] [2] rfl (zAj rfl 2 zBk rfl (by decide) rfl (by decide)) .nil) ?_)
 refine zAB (zAA rfl (.r rfl (zBC (pl := [(0, 1), (1, 1), (2, 1), (3, 1)]) rfl underlying28 zBk (by kernel_rfl) rfl rfl) (.run [] [3] rfl (zAj rfl 3 zBk rfl (by decide) rfl (by decide)) (.r rfl (zAE rfl rfl rfl rfl rfl sizeOf28 rfl (nle rfl)) .nil))) ?_)
 refine zAB ?_
 refine zAB (zAA rfl (.m rfl rfl (.run [100000, 900] [] rfl (zAz (.inr rfl) rfl 900 (X := [100000]) en52 rfl (.val nod) (.cons (.rptr rfl) (.cons (.one (.bor .v)) .nil)) (by decide) (all_cons rfl all_nil) (.keep (xs := pvRd (cv, p)) rfl (FlatP.nf (zAb _)) .nil) (zBx hc hl p hp 9 (by omega)) rfl rfl (nle rfl)) (.a rfl rfl .nil))) ?_)
 refine zAS ?_
 refine zAY (zLj 3 1 1 4 rfl rfl rfl (by decide)) ?_
 refine zAY (zLj 3 2 2 1 rfl rfl rfl (by decide)) ?_
 refine zAY (zLj 3 3 3 1 rfl rfl rfl (by decide)) ?_
-- entry row 100000: pvRd (cv, (zAH bs p 9)) now pvRd (cv, zAH bs p 9)
 refine zAp (σ := Nat × Eng × Nat) (fun (i, d, q) => mk [(0, .ea 100000 0 0), (2, .ptr 2 0), (3, .ptr 3 0), (4, .vi (i:Int))] [(2, [.vi 0, .nils, .nils, .nils]), (3, [.vi d.seq, .sl 1 0 ((pvE d.mem).length), .sl 2 0 ((pvR (tagT d.runs)).length), .sl 3 0 ((pvI d.snaps).length)])] [(1, 4, pvE d.mem), (2, 1, pvR (tagT d.runs)), (3, 1, pvI d.snaps), (100000, 2, pvRd (cv, q))]) (fun (i, d, q) => i ≤ 9 ∧ EB d ∧ q ≤ bs.length ∧ zCW bs i (d, q) = zCV bs p) (fun (i, d, q) => i) (zAk bs p 9, Eng.nil, zAH bs p 9) ⟨by omega, zGH, zAV hp, rfl⟩ (zAJ ⟨rfl, rfl, rfl, (zAL (by omega)), trivial⟩ ⟨rfl, rfl, trivial⟩ ⟨(congrArg (fun x => some (4, x)) (by rfl)), (congrArg (fun x => some (1, x)) (by rfl)), (congrArg (fun x => some (1, x)) (by rfl)), rfl, trivial⟩ rfl) ?_
 rintro ⟨i, d, q⟩ hG
 replace hG : i ≤ 9 ∧ EB d ∧ q ≤ bs.length ∧ zCW bs i (d, q) = zCV bs p := hG
 obtain ⟨hi, hD, hp, hE⟩ := hG
 have hsn := hD.snaps
 have hl3 := zAT d.snaps
 refine zAB ?_
 refine zAB (zAA rfl (.m rfl rfl (.r rfl (zBN rfl rfl rfl) .nil)) ?_)
 refine zAZ (t := decide (0 < (i:Int))) rfl (fun h1 => ?_) (fun h1 => ?_)
 ·
  replace h1 := of_decide_eq_true h1
  refine zAM ?_
  refine zAB ?_
  refine zAS ?_
  refine zAB (zAA rfl (.r rfl (zAG rfl rfl rfl isAgg28 sizeOf28 (nle rfl)) (.run [] [5] rfl (zAj rfl 5 zBk rfl (by decide) rfl (by decide)) (.r rfl (zAE rfl rfl rfl rfl rfl sizeOf28 rfl (nle rfl)) .nil))) ?_)
  refine zAB (zAA rfl (.a rfl rfl .nil) ?_)
  refine zAB ?_
  refine zAB (zAA rfl (.m rfl rfl (.run [100000, 1600] [] rfl (zAz (.inr rfl) rfl 1600 (X := [100000]) en52 rfl (.val nod) (.cons (.rptr rfl) (.cons (.one (.bor .v)) .nil)) (by decide) (all_cons rfl all_nil) (.keep (xs := pvRd (cv, q)) rfl (FlatP.nf (zAb _)) .nil) (zBx hc hl q hp 7 (by omega)) rfl rfl (nle rfl)) .nil)) ?_)
  refine zAS ?_
  refine zAB (zAA rfl (.r rfl (zA8 rfl rfl rfl) (.a rfl rfl .nil)) ?_)
  refine zAZ (t := decide (((zAk bs q 7 : Nat) : Int) = 0)) rfl (fun h2 => ?_) (fun h2 => ?_)
  ·
   replace h2 := of_decide_eq_true h2
   refine zAY (s' := mk [(0, .ea 100000 0 0), (2, .ptr 2 0), (3, .ptr 3 0), (4, .vi (i:Int)), (5, .ptr 5 0)] [(2, [.vi 0, .nils, .nils, .nils]), (3, [.vi d.seq, .sl 1 0 ((pvE d.mem).length), .sl 2 0 ((pvR (tagT d.runs)).length), .sl 3 0 ((pvI d.snaps).length)]), (5, [.vi d.seq, .sl 1 0 ((pvE d.mem).length), .sl 2 0 ((pvR (tagT d.runs)).length), .sl 3 0 ((pvI d.snaps).length)])] [(1, 4, pvE d.mem), (2, 1, pvR (tagT d.runs)), (3, 1, pvI d.snaps), (100000, 2, pvRd (cv, zAH bs q 7))]) ?_ ?_
   · exact zAJ ⟨rfl, rfl, rfl, rfl, rfl, trivial⟩ ⟨rfl, rfl, rfl, trivial⟩ ⟨rfl, rfl, rfl, rfl, trivial⟩ rfl
   refine zAA rfl (.r rfl (zAG rfl rfl rfl isAgg28 sizeOf28 (nle rfl)) (.run [1, 2, 3, 2800, 2801, 2802, 2803, 2804] [] rfl (zAK rfl 2800 (X := []) en53 rfl (.val nod) (.cons (.agg (.cons (.bor .v) (.cons (.bor (.all (len := (pvE d.mem).length) (xs := pvE d.mem) rfl rfl (by decide))) (.cons (.bor (.all (len := (pvR (tagT d.runs)).length) (xs := pvR (tagT d.runs)) rfl rfl (by decide))) (.cons (.bor (.all (len := (pvI d.snaps).length) (xs := pvI d.snaps) rfl rfl (by decide))) .nil))))) .nil) (by decide) all_nil .nil (zNT d hD) rfl rfl (nle rfl)) (.m rfl rfl (.r rfl (zAa rfl rfl rfl) (.r rfl (zAa rfl rfl rfl) (.r rfl (zAE rfl rfl rfl rfl rfl sizeOf28 rfl (nle rfl)) (.a rfl rfl .nil))))))) ?_
   refine zAB (zAA rfl (.m rfl rfl (.r rfl (zA8 rfl rfl rfl) .nil)) ?_)
   refine zAZ (t := decide (((zBm d).2) = 0)) rfl (fun h3 => ?_) (fun h3 => ?_)
   ·
    replace h3 := of_decide_eq_true h3
    refine zAA rfl (.r rfl (zAG rfl rfl rfl isAgg28 sizeOf28 (nle rfl)) (.r rfl (zAE rfl rfl rfl rfl rfl sizeOf28 rfl (nle rfl)) .nil)) ?_
    refine zAA rfl (.m rfl rfl (.r rfl (zAv rfl rfl rfl (by omega)) (.a rfl rfl .nil))) ?_
-- round row 100000: pvRd (cv, (zAH bs q 7)) now pvRd (cv, zAH bs q 7)
    refine nxt (Q := fun _ _ => False) (z := (i, d, q)) (i - 1, (zBm d).1, zAH bs q 7) ?_ ?_ ?_
    ·
     show (i - 1) ≤ 9 ∧ EB ((zBm d).1) ∧ (zAH bs q 7) ≤ bs.length ∧ zCW bs (i - 1) (((zBm d).1), (zAH bs q 7)) = zCV bs p
     exact ⟨by omega, zJC hD, zAV hp, zCJ (by omega) (st_0 (by omega) (decide_eq_true h3)) hE⟩
    ·
     show (i - 1) < i
     omega
    · exact (show Wk _ _ (mk [(0, .ea 100000 0 0), (2, .ptr 2 0), (3, .ptr 3 0), (4, .vi ((i:Int) - 1))] [(2, [.vi 0, .nils, .nils, .nils]), (3, [.vi ((zBm d).1.seq), .sl 2801 0 ((pvE ((zBm d).1.mem)).length), .sl 2802 0 ((pvR (tagT (zBm d).1.runs)).length), .sl 2803 0 ((pvI ((zBm d).1.snaps)).length)])] [(2801, 4, pvE ((zBm d).1.mem)), (2802, 1, pvR (tagT (zBm d).1.runs)), (2803, 1, pvI ((zBm d).1.snaps)), (100000, 2, pvRd (cv, zAH bs q 7))]) from zAJ ⟨rfl, rfl, rfl, rfl, trivial⟩ ⟨rfl, rfl, trivial⟩ ⟨rfl, rfl, rfl, rfl, trivial⟩ rfl).trans ((zBi 2801 1 rfl rfl (by decide)).trans ((zBi 2802 2 rfl rfl (by decide)).trans ((zBi 2803 3 rfl rfl (by decide)).trans (zAJ ⟨rfl, rfl, rfl, (zAL (by omega)), trivial⟩ ⟨rfl, rfl, trivial⟩ ⟨(congrArg (fun x => some (4, x)) (by rfl)), (congrArg (fun x => some (1, x)) (by rfl)), (congrArg (fun x => some (1, x)) (by rfl)), rfl, trivial⟩ rfl))))
   ·
    replace h3 := of_decide_eq_false h3
    refine zAM ?_
    refine zAA rfl (.m rfl rfl (.r rfl (zAv rfl rfl rfl (by omega)) (.a rfl rfl .nil))) ?_
-- round row 100000: pvRd (cv, (zAH bs q 7)) now pvRd (cv, zAH bs q 7)
    refine nxt (Q := fun _ _ => False) (z := (i, d, q)) (i - 1, d, zAH bs q 7) ?_ ?_ ?_
    ·
     show (i - 1) ≤ 9 ∧ EB d ∧ (zAH bs q 7) ≤ bs.length ∧ zCW bs (i - 1) (d, (zAH bs q 7)) = zCV bs p
     exact ⟨by omega, hD, zAV hp, zCJ (by omega) (st_0 (by omega) (decide_eq_false h3)) hE⟩
    ·
     show (i - 1) < i
     omega
    · exact zAJ ⟨rfl, rfl, rfl, (zAL (by omega)), trivial⟩ ⟨rfl, rfl, trivial⟩ ⟨(congrArg (fun x => some (4, x)) (by rfl)), (congrArg (fun x => some (1, x)) (by rfl)), (congrArg (fun x => some (1, x)) (by rfl)), rfl, trivial⟩ rfl
  ·
   replace h2 := of_decide_eq_false h2
   refine zAB (zAA rfl (.r rfl (zA8 rfl rfl rfl) (.a rfl rfl .nil)) ?_)
   refine zAZ (t := decide (((zAk bs q 7 : Nat) : Int) = 1)) rfl (fun h4 => ?_) (fun h4 => ?_)
   ·
    replace h4 := of_decide_eq_true h4
    refine zAY (s' := mk [(0, .ea 100000 0 0), (2, .ptr 2 0), (3, .ptr 3 0), (4, .vi (i:Int)), (5, .ptr 5 0)] [(2, [.vi 0, .nils, .nils, .nils]), (3, [.vi d.seq, .sl 1 0 ((pvE d.mem).length), .sl 2 0 ((pvR (tagT d.runs)).length), .sl 3 0 ((pvI d.snaps).length)]), (5, [.vi d.seq, .sl 1 0 ((pvE d.mem).length), .sl 2 0 ((pvR (tagT d.runs)).length), .sl 3 0 ((pvI d.snaps).length)])] [(1, 4, pvE d.mem), (2, 1, pvR (tagT d.runs)), (3, 1, pvI d.snaps), (100000, 2, pvRd (cv, zAH bs q 7))]) ?_ ?_
    · exact zAJ ⟨rfl, rfl, rfl, rfl, rfl, trivial⟩ ⟨rfl, rfl, rfl, trivial⟩ ⟨rfl, rfl, rfl, rfl, trivial⟩ rfl
    refine zAA rfl (.r rfl (zAG rfl rfl rfl isAgg28 sizeOf28 (nle rfl)) (.run [1, 2, 3, 3500, 3501, 3502, 3503, 3504, 3505] [] rfl (zAK rfl 3500 (X := []) en16 rfl (.val nod) (.cons (.agg (.cons (.bor .v) (.cons (.bor (.all (len := (pvE d.mem).length) (xs := pvE d.mem) rfl rfl (by decide))) (.cons (.bor (.all (len := (pvR (tagT d.runs)).length) (xs := pvR (tagT d.runs)) rfl rfl (by decide))) (.cons (.bor (.all (len := (pvI d.snaps).length) (xs := pvI d.snaps) rfl rfl (by decide))) .nil))))) .nil) (by decide) all_nil .nil (zFR d hD) rfl rfl (nle rfl)) (.m rfl rfl (.r rfl (zAa rfl rfl rfl) (.r rfl (zAa rfl rfl rfl) (.r rfl (zAa rfl rfl rfl) (.r rfl (zAE rfl rfl rfl rfl rfl sizeOf28 rfl (nle rfl)) (.a rfl rfl .nil)))))))) ?_
    refine zAB (zAA rfl (.m rfl rfl (.r rfl (zA8 rfl rfl rfl) .nil)) ?_)
    refine zAZ (t := decide (((zCA d).2.2) = 0)) rfl (fun h5 => ?_) (fun h5 => ?_)
    ·
     replace h5 := of_decide_eq_true h5
     refine zAA rfl (.r rfl (zAG rfl rfl rfl isAgg28 sizeOf28 (nle rfl)) (.r rfl (zAE rfl rfl rfl rfl rfl sizeOf28 rfl (nle rfl)) .nil)) ?_
     refine zAA rfl (.m rfl rfl (.r rfl (zAv rfl rfl rfl (by omega)) (.a rfl rfl .nil))) ?_
-- round row 100000: pvRd (cv, (zAH bs q 7)) now pvRd (cv, zAH bs q 7)
     refine nxt (Q := fun _ _ => False) (z := (i, d, q)) (i - 1, (zCA d).1, zAH bs q 7) ?_ ?_ ?_
     ·
      show (i - 1) ≤ 9 ∧ EB ((zCA d).1) ∧ (zAH bs q 7) ≤ bs.length ∧ zCW bs (i - 1) (((zCA d).1), (zAH bs q 7)) = zCV bs p
      exact ⟨by omega, zKo hD, zAV hp, zCJ (by omega) (st_1 (by omega) (decide_eq_true h5)) hE⟩
     ·
      show (i - 1) < i
      omega
     · exact (show Wk _ _ (mk [(0, .ea 100000 0 0), (2, .ptr 2 0), (3, .ptr 3 0), (4, .vi ((i:Int) - 1))] [(2, [.vi 0, .nils, .nils, .nils]), (3, [.vi ((zCA d).1.seq), .sl 3501 0 ((pvE ((zCA d).1.mem)).length), .sl 3502 0 ((pvR (tagT (zCA d).1.runs)).length), .sl 3503 0 ((pvI ((zCA d).1.snaps)).length)])] [(3501, 4, pvE ((zCA d).1.mem)), (3502, 1, pvR (tagT (zCA d).1.runs)), (3503, 1, pvI ((zCA d).1.snaps)), (100000, 2, pvRd (cv, zAH bs q 7))]) from zAJ ⟨rfl, rfl, rfl, rfl, trivial⟩ ⟨rfl, rfl, trivial⟩ ⟨rfl, rfl, rfl, rfl, trivial⟩ rfl).trans ((zBi 3501 1 rfl rfl (by decide)).trans ((zBi 3502 2 rfl rfl (by decide)).trans ((zBi 3503 3 rfl rfl (by decide)).trans (zAJ ⟨rfl, rfl, rfl, (zAL (by omega)), trivial⟩ ⟨rfl, rfl, trivial⟩ ⟨(congrArg (fun x => some (4, x)) (by rfl)), (congrArg (fun x => some (1, x)) (by rfl)), (congrArg (fun x => some (1, x)) (by rfl)), rfl, trivial⟩ rfl))))
    ·
     replace h5 := of_decide_eq_false h5
     refine zAM ?_
     refine zAA rfl (.m rfl rfl (.r rfl (zAv rfl rfl rfl (by omega)) (.a rfl rfl .nil))) ?_
-- round row 100000: pvRd (cv, (zAH bs q 7)) now pvRd (cv, zAH bs q 7)
     refine nxt (Q := fun _ _ => False) (z := (i, d, q)) (i - 1, d, zAH bs q 7) ?_ ?_ ?_
     ·
      show (i - 1) ≤ 9 ∧ EB d ∧ (zAH bs q 7) ≤ bs.length ∧ zCW bs (i - 1) (d, (zAH bs q 7)) = zCV bs p
      exact ⟨by omega, hD, zAV hp, zCJ (by omega) (st_1 (by omega) (decide_eq_false h5)) hE⟩
     ·
      show (i - 1) < i
      omega
     · exact zAJ ⟨rfl, rfl, rfl, (zAL (by omega)), trivial⟩ ⟨rfl, rfl, trivial⟩ ⟨(congrArg (fun x => some (4, x)) (by rfl)), (congrArg (fun x => some (1, x)) (by rfl)), (congrArg (fun x => some (1, x)) (by rfl)), rfl, trivial⟩ rfl
   ·
    replace h4 := of_decide_eq_false h4
    refine zAB (zAA rfl (.r rfl (zA8 rfl rfl rfl) (.a rfl rfl .nil)) ?_)
    refine zAZ (t := decide (((zAk bs q 7 : Nat) : Int) = 2)) rfl (fun h6 => ?_) (fun h6 => ?_)
    ·
     replace h6 := of_decide_eq_true h6
     refine zAY (s' := mk [(0, .ea 100000 0 0), (2, .ptr 2 0), (3, .ptr 3 0), (4, .vi (i:Int)), (5, .ptr 5 0)] [(2, [.vi 0, .nils, .nils, .nils]), (3, [.vi d.seq, .sl 1 0 ((pvE d.mem).length), .sl 2 0 ((pvR (tagT d.runs)).length), .sl 3 0 ((pvI d.snaps).length)]), (5, [.vi d.seq, .sl 1 0 ((pvE d.mem).length), .sl 2 0 ((pvR (tagT d.runs)).length), .sl 3 0 ((pvI d.snaps).length)])] [(1, 4, pvE d.mem), (2, 1, pvR (tagT d.runs)), (3, 1, pvI d.snaps), (100000, 2, pvRd (cv, zAH bs q 7))]) ?_ ?_
     · exact zAJ ⟨rfl, rfl, rfl, rfl, rfl, trivial⟩ ⟨rfl, rfl, rfl, trivial⟩ ⟨rfl, rfl, rfl, rfl, trivial⟩ rfl
     refine zAA rfl (.r rfl (zAG rfl rfl rfl isAgg28 sizeOf28 (nle rfl)) (.run [1, 2, 3, 4300, 4301, 4302, 4303, 4304] [] rfl (zAK rfl 4300 (X := []) en11 rfl (.val nod) (.cons (.agg (.cons (.bor .v) (.cons (.bor (.all (len := (pvE d.mem).length) (xs := pvE d.mem) rfl rfl (by decide))) (.cons (.bor (.all (len := (pvR (tagT d.runs)).length) (xs := pvR (tagT d.runs)) rfl rfl (by decide))) (.cons (.bor (.all (len := (pvI d.snaps).length) (xs := pvI d.snaps) rfl rfl (by decide))) .nil))))) .nil) (by decide) all_nil .nil (zKH d hD) rfl rfl (nle rfl)) (.m rfl rfl (.r rfl (zAa rfl rfl rfl) (.r rfl (zAa rfl rfl rfl) (.r rfl (zAE rfl rfl rfl rfl rfl sizeOf28 rfl (nle rfl)) (.a rfl rfl .nil))))))) ?_
     refine zAB (zAA rfl (.m rfl rfl (.r rfl (zA8 rfl rfl rfl) .nil)) ?_)
     refine zAZ (t := decide (((zBD d).2) = 0)) rfl (fun h7 => ?_) (fun h7 => ?_)
     ·
      replace h7 := of_decide_eq_true h7
      refine zAA rfl (.r rfl (zAG rfl rfl rfl isAgg28 sizeOf28 (nle rfl)) (.r rfl (zAE rfl rfl rfl rfl rfl sizeOf28 rfl (nle rfl)) .nil)) ?_
      refine zAA rfl (.m rfl rfl (.r rfl (zAv rfl rfl rfl (by omega)) (.a rfl rfl .nil))) ?_
-- round row 100000: pvRd (cv, (zAH bs q 7)) now pvRd (cv, zAH bs q 7)
      refine nxt (Q := fun _ _ => False) (z := (i, d, q)) (i - 1, (zBD d).1, zAH bs q 7) ?_ ?_ ?_
      ·
       show (i - 1) ≤ 9 ∧ EB ((zBD d).1) ∧ (zAH bs q 7) ≤ bs.length ∧ zCW bs (i - 1) (((zBD d).1), (zAH bs q 7)) = zCV bs p
       exact ⟨by omega, zF8 hD, zAV hp, zCJ (by omega) (st_2 (by omega) (decide_eq_true h7)) hE⟩
      ·
       show (i - 1) < i
       omega
      · exact (show Wk _ _ (mk [(0, .ea 100000 0 0), (2, .ptr 2 0), (3, .ptr 3 0), (4, .vi ((i:Int) - 1))] [(2, [.vi 0, .nils, .nils, .nils]), (3, [.vi ((zBD d).1.seq), .sl 4301 0 ((pvE ((zBD d).1.mem)).length), .sl 4302 0 ((pvR (tagT (zBD d).1.runs)).length), .sl 4303 0 ((pvI ((zBD d).1.snaps)).length)])] [(4301, 4, pvE ((zBD d).1.mem)), (4302, 1, pvR (tagT (zBD d).1.runs)), (4303, 1, pvI ((zBD d).1.snaps)), (100000, 2, pvRd (cv, zAH bs q 7))]) from zAJ ⟨rfl, rfl, rfl, rfl, trivial⟩ ⟨rfl, rfl, trivial⟩ ⟨rfl, rfl, rfl, rfl, trivial⟩ rfl).trans ((zBi 4301 1 rfl rfl (by decide)).trans ((zBi 4302 2 rfl rfl (by decide)).trans ((zBi 4303 3 rfl rfl (by decide)).trans (zAJ ⟨rfl, rfl, rfl, (zAL (by omega)), trivial⟩ ⟨rfl, rfl, trivial⟩ ⟨(congrArg (fun x => some (4, x)) (by rfl)), (congrArg (fun x => some (1, x)) (by rfl)), (congrArg (fun x => some (1, x)) (by rfl)), rfl, trivial⟩ rfl))))
     ·
      replace h7 := of_decide_eq_false h7
      refine zAM ?_
      refine zAA rfl (.m rfl rfl (.r rfl (zAv rfl rfl rfl (by omega)) (.a rfl rfl .nil))) ?_
-- round row 100000: pvRd (cv, (zAH bs q 7)) now pvRd (cv, zAH bs q 7)
      refine nxt (Q := fun _ _ => False) (z := (i, d, q)) (i - 1, d, zAH bs q 7) ?_ ?_ ?_
      ·
       show (i - 1) ≤ 9 ∧ EB d ∧ (zAH bs q 7) ≤ bs.length ∧ zCW bs (i - 1) (d, (zAH bs q 7)) = zCV bs p
       exact ⟨by omega, hD, zAV hp, zCJ (by omega) (st_2 (by omega) (decide_eq_false h7)) hE⟩
      ·
       show (i - 1) < i
       omega
      · exact zAJ ⟨rfl, rfl, rfl, (zAL (by omega)), trivial⟩ ⟨rfl, rfl, trivial⟩ ⟨(congrArg (fun x => some (4, x)) (by rfl)), (congrArg (fun x => some (1, x)) (by rfl)), (congrArg (fun x => some (1, x)) (by rfl)), rfl, trivial⟩ rfl
    ·
     replace h6 := of_decide_eq_false h6
     refine zAB (zAA rfl (.r rfl (zA8 rfl rfl rfl) (.a rfl rfl .nil)) ?_)
     refine zAZ (t := decide (((zAk bs q 7 : Nat) : Int) = 3)) rfl (fun h8 => ?_) (fun h8 => ?_)
     ·
      replace h8 := of_decide_eq_true h8
      refine zAB ?_
      refine zAY (s' := mk [(0, .ea 100000 0 0), (2, .ptr 2 0), (3, .ptr 3 0), (4, .vi (i:Int)), (5, .ptr 5 0), (6, .vi 0)] [(2, [.vi 0, .nils, .nils, .nils]), (3, [.vi d.seq, .sl 1 0 ((pvE d.mem).length), .sl 2 0 ((pvR (tagT d.runs)).length), .sl 3 0 ((pvI d.snaps).length)]), (5, [.vi d.seq, .sl 1 0 ((pvE d.mem).length), .sl 2 0 ((pvR (tagT d.runs)).length), .sl 3 0 ((pvI d.snaps).length)])] [(1, 4, pvE d.mem), (2, 1, pvR (tagT d.runs)), (3, 1, pvI d.snaps), (100000, 2, pvRd (cv, zAH bs q 7))]) ?_ ?_
      · exact zAJ ⟨rfl, rfl, rfl, rfl, rfl, rfl, trivial⟩ ⟨rfl, rfl, rfl, trivial⟩ ⟨rfl, rfl, rfl, rfl, trivial⟩ rfl
      refine zAA rfl (.r rfl (zAC rfl rfl underlying28 rfl sizeOf26 (by decide)) (.r rfl (zAD rfl rfl rfl isAgg26 rfl) (.r rfl (zAy rfl rfl underlying26) (.r rfl (zBN rfl rfl rfl) .nil)))) ?_
      refine zAZ (t := decide (0 < ((pvI d.snaps).length : Int))) rfl (fun h9 => ?_) (fun h9 => ?_)
      ·
       replace h9 := of_decide_eq_true h9
       obtain ⟨a, ha⟩ : ∃ a, d.snaps[zAk bs (zAH bs q 7) d.snaps.length]? = some a := ⟨_, List.getElem?_eq_getElem (zCC (by omega))⟩
       refine zAY (s' := mk [(0, .ea 100000 0 0), (2, .ptr 2 0), (3, .ptr 3 0), (4, .vi (i:Int)), (5, .ptr 5 0)] [(2, [.vi 0, .nils, .nils, .nils]), (3, [.vi d.seq, .sl 1 0 ((pvE d.mem).length), .sl 2 0 ((pvR (tagT d.runs)).length), .sl 3 0 ((pvI d.snaps).length)]), (5, [.vi d.seq, .sl 1 0 ((pvE d.mem).length), .sl 2 0 ((pvR (tagT d.runs)).length), .sl 3 0 ((pvI d.snaps).length)])] [(1, 4, pvE d.mem), (2, 1, pvR (tagT d.runs)), (3, 1, pvI d.snaps), (100000, 2, pvRd (cv, zAH bs q 7))]) ?_ ?_
       · exact zAJ ⟨rfl, rfl, rfl, rfl, rfl, trivial⟩ ⟨rfl, rfl, rfl, trivial⟩ ⟨rfl, rfl, rfl, rfl, trivial⟩ rfl
       refine zAc zBL rfl (.r rfl (zAG rfl rfl rfl isAgg28 sizeOf28 (nle rfl)) (.r rfl (zAC rfl rfl underlying28 rfl sizeOf26 (by decide)) (.r rfl (zAD rfl rfl rfl isAgg26 rfl) (.m rfl rfl (.r rfl (zAC rfl rfl underlying28 rfl sizeOf26 (by decide)) (.r rfl (zAD rfl rfl rfl isAgg26 rfl) (.r rfl (zAW (zAy rfl rfl underlying26) ((show (AV.p none (.v (.int .i64 ((pvI d.snaps).length : Int)))) = AV.p none (.v (.int .i64 (d.snaps.length : Int))) from zAL (by omega)))) (.run [100000, 6000] [] rfl (zAz (.inr rfl) rfl 6000 (X := [100000]) en52 rfl (.val nod) (.cons (.rptr rfl) (.cons (.one (.bor .v)) .nil)) (by decide) (all_cons rfl all_nil) (.keep (xs := pvRd (cv, zAH bs q 7)) rfl (FlatP.nf (zAb _)) .nil) (zBx hc hl (zAH bs q 7) (zAV hp) d.snaps.length (by omega)) rfl rfl (nle rfl)) (.r rfl (zAe (zAk bs (zAH bs q 7) d.snaps.length) rfl rfl rfl rfl underlying26 sizeOf2 rfl rfl (by rw [zAT]; exact zCC (by omega))) (.r rfl (zA6 rfl rfl rfl (zB0 ha) isAgg2 rfl) (.run [1, 2, 3, 6300, 6301, 6302, 6303, 6304] [] rfl (zAK rfl 6300 (X := []) en54 rfl (.val nod) (.cons (.agg (.cons (.bor .v) (.cons (.bor (.all (len := (pvE d.mem).length) (xs := pvE d.mem) rfl rfl (by decide))) (.cons (.bor (.all (len := (pvR (tagT d.runs)).length) (xs := pvR (tagT d.runs)) rfl rfl (by decide))) (.cons (.bor (.all (len := (pvI d.snaps).length) (xs := pvI d.snaps) rfl rfl (by decide))) .nil))))) (.cons (.one (.bor .v)) .nil)) (by decide) all_nil .nil (zOf d hD a) rfl rfl (nle rfl)) (.m rfl rfl (.r rfl (zAa rfl rfl rfl) (.r rfl (zAa rfl rfl rfl) (.r rfl (zAE rfl rfl rfl rfl rfl sizeOf28 rfl (nle rfl)) (.a rfl rfl .nil)))))))))))))))) (by kernel_rfl) ?_
       refine zAB ?_
       refine zAY (s' := mk [(0, .ea 100000 0 0), (2, .ptr 2 0), (3, .ptr 3 0), (4, .vi (i:Int)), (5, .ptr 5 0), (6, .vi ((zCE d a).2))] [(2, [.vi 0, .nils, .nils, .nils]), (3, [.vi d.seq, .sl 1 0 ((pvE d.mem).length), .sl 2 0 ((pvR (tagT d.runs)).length), .sl 3 0 ((pvI d.snaps).length)]), (5, [.vi ((zCE d a).1.seq), .sl 6301 0 ((pvE ((zCE d a).1.mem)).length), .sl 6302 0 ((pvR (tagT (zCE d a).1.runs)).length), .sl 6303 0 ((pvI ((zCE d a).1.snaps)).length)])] [(1, 4, pvE d.mem), (2, 1, pvR (tagT d.runs)), (3, 1, pvI d.snaps), (6301, 4, pvE ((zCE d a).1.mem)), (6302, 1, pvR (tagT (zCE d a).1.runs)), (6303, 1, pvI ((zCE d a).1.snaps)), (100000, 2, pvRd (cv, zAH bs (zAH bs q 7) d.snaps.length))]) ?_ ?_
       · exact zAJ ⟨rfl, rfl, rfl, rfl, rfl, rfl, trivial⟩ ⟨rfl, rfl, rfl, trivial⟩ ⟨rfl, rfl, rfl, rfl, rfl, rfl, rfl, trivial⟩ rfl
       refine zAA rfl (.m rfl rfl (.r rfl (zA8 rfl rfl rfl) .nil)) ?_
       refine zAZ (t := decide (((zCE d a).2) = 0)) rfl (fun h10 => ?_) (fun h10 => ?_)
       ·
        replace h10 := of_decide_eq_true h10
        refine zAA rfl (.r rfl (zAG rfl rfl rfl isAgg28 sizeOf28 (nle rfl)) (.r rfl (zAE rfl rfl rfl rfl rfl sizeOf28 rfl (nle rfl)) .nil)) ?_
        refine zAA rfl (.m rfl rfl (.r rfl (zAv rfl rfl rfl (by omega)) (.a rfl rfl .nil))) ?_
-- round row 100000: pvRd (cv, (zAH bs (zAH bs q 7) d.snaps.length)) now pvRd (cv, zAH bs (zAH bs q 7) d.snaps.length)
        refine nxt (Q := fun _ _ => False) (z := (i, d, q)) (i - 1, (zCE d a).1, zAH bs (zAH bs q 7) d.snaps.length) ?_ ?_ ?_
        ·
         show (i - 1) ≤ 9 ∧ EB ((zCE d a).1) ∧ (zAH bs (zAH bs q 7) d.snaps.length) ≤ bs.length ∧ zCW bs (i - 1) (((zCE d a).1), (zAH bs (zAH bs q 7) d.snaps.length)) = zCV bs p
         exact ⟨by omega, zLG hD, zAV (zAV hp), zCJ (by omega) (st_3 (by omega) ha (decide_eq_true h10)) hE⟩
        ·
         show (i - 1) < i
         omega
        · exact (show Wk _ _ (mk [(0, .ea 100000 0 0), (2, .ptr 2 0), (3, .ptr 3 0), (4, .vi ((i:Int) - 1))] [(2, [.vi 0, .nils, .nils, .nils]), (3, [.vi ((zCE d a).1.seq), .sl 6301 0 ((pvE ((zCE d a).1.mem)).length), .sl 6302 0 ((pvR (tagT (zCE d a).1.runs)).length), .sl 6303 0 ((pvI ((zCE d a).1.snaps)).length)])] [(6301, 4, pvE ((zCE d a).1.mem)), (6302, 1, pvR (tagT (zCE d a).1.runs)), (6303, 1, pvI ((zCE d a).1.snaps)), (100000, 2, pvRd (cv, zAH bs (zAH bs q 7) d.snaps.length))]) from zAJ ⟨rfl, rfl, rfl, rfl, trivial⟩ ⟨rfl, rfl, trivial⟩ ⟨rfl, rfl, rfl, rfl, trivial⟩ rfl).trans ((zBi 6301 1 rfl rfl (by decide)).trans ((zBi 6302 2 rfl rfl (by decide)).trans ((zBi 6303 3 rfl rfl (by decide)).trans (zAJ ⟨rfl, rfl, rfl, (zAL (by omega)), trivial⟩ ⟨rfl, rfl, trivial⟩ ⟨(congrArg (fun x => some (4, x)) (by rfl)), (congrArg (fun x => some (1, x)) (by rfl)), (congrArg (fun x => some (1, x)) (by rfl)), rfl, trivial⟩ rfl))))
       ·
        replace h10 := of_decide_eq_false h10
        refine zAM ?_
        refine zAA rfl (.m rfl rfl (.r rfl (zAv rfl rfl rfl (by omega)) (.a rfl rfl .nil))) ?_
-- round row 100000: pvRd (cv, (zAH bs (zAH bs q 7) d.snaps.length)) now pvRd (cv, zAH bs (zAH bs q 7) d.snaps.length)
        refine nxt (Q := fun _ _ => False) (z := (i, d, q)) (i - 1, d, zAH bs (zAH bs q 7) d.snaps.length) ?_ ?_ ?_
        ·
         show (i - 1) ≤ 9 ∧ EB d ∧ (zAH bs (zAH bs q 7) d.snaps.length) ≤ bs.length ∧ zCW bs (i - 1) (d, (zAH bs (zAH bs q 7) d.snaps.length)) = zCV bs p
         exact ⟨by omega, hD, zAV (zAV hp), zCJ (by omega) (st_3 (by omega) ha (decide_eq_false h10)) hE⟩
        ·
         show (i - 1) < i
         omega
        · exact zAJ ⟨rfl, rfl, rfl, (zAL (by omega)), trivial⟩ ⟨rfl, rfl, trivial⟩ ⟨(congrArg (fun x => some (4, x)) (by rfl)), (congrArg (fun x => some (1, x)) (by rfl)), (congrArg (fun x => some (1, x)) (by rfl)), rfl, trivial⟩ rfl
      ·
       replace h9 := of_decide_eq_false h9
       refine zAM ?_
       refine zAB (zAA rfl (.m rfl rfl (.r rfl (zAW (zA8 rfl rfl rfl) (zAN (decide_eq_true (by simp)))) .nil)) ?_)
       refine zAZ (t := true) rfl (fun _ => ?_) (fun h => nomatch h)
       refine zAA rfl (.r rfl (zAG rfl rfl rfl isAgg28 sizeOf28 (nle rfl)) (.r rfl (zAE rfl rfl rfl rfl rfl sizeOf28 rfl (nle rfl)) .nil)) ?_
       refine zAA rfl (.m rfl rfl (.r rfl (zAv rfl rfl rfl (by omega)) (.a rfl rfl .nil))) ?_
-- round row 100000: pvRd (cv, (zAH bs q 7)) now pvRd (cv, zAH bs q 7)
       refine nxt (Q := fun _ _ => False) (z := (i, d, q)) (i - 1, d, zAH bs q 7) ?_ ?_ ?_
       ·
        show (i - 1) ≤ 9 ∧ EB d ∧ (zAH bs q 7) ≤ bs.length ∧ zCW bs (i - 1) (d, (zAH bs q 7)) = zCV bs p
        exact ⟨by omega, hD, zAV hp, zCJ (by omega) (st_3n (by omega) (by omega)) hE⟩
       ·
        show (i - 1) < i
        omega
       · exact zAJ ⟨rfl, rfl, rfl, (zAL (by omega)), trivial⟩ ⟨rfl, rfl, trivial⟩ ⟨(congrArg (fun x => some (4, x)) (by rfl)), (congrArg (fun x => some (1, x)) (by rfl)), (congrArg (fun x => some (1, x)) (by rfl)), rfl, trivial⟩ rfl
     ·
      replace h8 := of_decide_eq_false h8
      refine zAY (s' := mk [(0, .ea 100000 0 0), (2, .ptr 2 0), (3, .ptr 3 0), (4, .vi (i:Int)), (5, .ptr 5 0)] [(2, [.vi 0, .nils, .nils, .nils]), (3, [.vi d.seq, .sl 1 0 ((pvE d.mem).length), .sl 2 0 ((pvR (tagT d.runs)).length), .sl 3 0 ((pvI d.snaps).length)]), (5, [.vi d.seq, .sl 1 0 ((pvE d.mem).length), .sl 2 0 ((pvR (tagT d.runs)).length), .sl 3 0 ((pvI d.snaps).length)])] [(1, 4, pvE d.mem), (2, 1, pvR (tagT d.runs)), (3, 1, pvI d.snaps), (100000, 2, pvRd (cv, zAH bs q 7))]) ?_ ?_
      · exact zAJ ⟨rfl, rfl, rfl, rfl, rfl, trivial⟩ ⟨rfl, rfl, rfl, trivial⟩ ⟨rfl, rfl, rfl, rfl, trivial⟩ rfl
      refine zAc zBL rfl (.r rfl (zAG rfl rfl rfl isAgg28 sizeOf28 (nle rfl)) (.m rfl rfl (.run [100000, 2000] [] rfl (zAz (.inr rfl) rfl 2000 (X := [100000]) en45 rfl (.val nod) (.cons (.rptr rfl) .nil) (by decide) (all_cons rfl all_nil) (.keep (xs := pvRd (cv, zAH bs q 7)) rfl (FlatP.nf (zAb _)) .nil) (zOI hc hl (zAH bs q 7) (zAV hp)) rfl rfl (nle rfl)) (.run [1, 2, 3, 2000, 2100, 2101, 2102, 2103, 2104] [] rfl (zAK rfl 2100 (X := []) en55 rfl (.val nod) (.cons (.agg (.cons (.bor .v) (.cons (.bor (.all (len := (pvE d.mem).length) (xs := pvE d.mem) rfl rfl (by decide))) (.cons (.bor (.all (len := (pvR (tagT d.runs)).length) (xs := pvR (tagT d.runs)) rfl rfl (by decide))) (.cons (.bor (.all (len := (pvI d.snaps).length) (xs := pvI d.snaps) rfl rfl (by decide))) .nil))))) (.cons (.one (.bor (.all (len := (pvO (opsV bs (zAH bs q 7))).length) (xs := pvO (opsV bs (zAH bs q 7))) rfl rfl (by decide)))) .nil)) (by decide) all_nil .nil (zMu d hD (opsV bs (zAH bs q 7)) (by have := zEe bs (zAH bs q 7); omega)) rfl rfl (nle rfl)) (.m rfl rfl (.r rfl (zAa rfl rfl rfl) (.r rfl (zAa rfl rfl rfl) (.r rfl (zAE rfl rfl rfl rfl rfl sizeOf28 rfl (nle rfl)) (.a rfl rfl .nil))))))))) (by kernel_rfl) ?_
      refine zAB (zAA rfl (.m rfl rfl (.r rfl (zA8 rfl rfl rfl) .nil)) ?_)
      refine zAZ (t := decide (((zBh d (opsV bs (zAH bs q 7))).2) = 0)) rfl (fun h11 => ?_) (fun h11 => ?_)
      ·
       replace h11 := of_decide_eq_true h11
       refine zAA rfl (.r rfl (zAG rfl rfl rfl isAgg28 sizeOf28 (nle rfl)) (.r rfl (zAE rfl rfl rfl rfl rfl sizeOf28 rfl (nle rfl)) .nil)) ?_
       refine zAA rfl (.m rfl rfl (.r rfl (zAv rfl rfl rfl (by omega)) (.a rfl rfl .nil))) ?_
-- round row 100000: pvRd (cv, (opsP bs (zAH bs q 7))) now pvRd (cv, opsP bs (zAH bs q 7))
       refine nxt (Q := fun _ _ => False) (z := (i, d, q)) (i - 1, (zBh d (opsV bs (zAH bs q 7))).1, opsP bs (zAH bs q 7)) ?_ ?_ ?_
       ·
        show (i - 1) ≤ 9 ∧ EB ((zBh d (opsV bs (zAH bs q 7))).1) ∧ (opsP bs (zAH bs q 7)) ≤ bs.length ∧ zCW bs (i - 1) (((zBh d (opsV bs (zAH bs q 7))).1), (opsP bs (zAH bs q 7))) = zCV bs p
        exact ⟨by omega, zIZ hD (by have := zEe bs (zAH bs q 7); omega), zK1 (zAV hp), zCJ (by omega) (st_4 (by omega) (by omega) (by omega) (by omega) (decide_eq_true h11)) hE⟩
       ·
        show (i - 1) < i
        omega
       · exact (show Wk _ _ (mk [(0, .ea 100000 0 0), (2, .ptr 2 0), (3, .ptr 3 0), (4, .vi ((i:Int) - 1))] [(2, [.vi 0, .nils, .nils, .nils]), (3, [.vi ((zBh d (opsV bs (zAH bs q 7))).1.seq), .sl 2101 0 ((pvE ((zBh d (opsV bs (zAH bs q 7))).1.mem)).length), .sl 2102 0 ((pvR (tagT (zBh d (opsV bs (zAH bs q 7))).1.runs)).length), .sl 2103 0 ((pvI ((zBh d (opsV bs (zAH bs q 7))).1.snaps)).length)])] [(2101, 4, pvE ((zBh d (opsV bs (zAH bs q 7))).1.mem)), (2102, 1, pvR (tagT (zBh d (opsV bs (zAH bs q 7))).1.runs)), (2103, 1, pvI ((zBh d (opsV bs (zAH bs q 7))).1.snaps)), (100000, 2, pvRd (cv, opsP bs (zAH bs q 7)))]) from zAJ ⟨rfl, rfl, rfl, rfl, trivial⟩ ⟨rfl, rfl, trivial⟩ ⟨rfl, rfl, rfl, rfl, trivial⟩ rfl).trans ((zBi 2101 1 rfl rfl (by decide)).trans ((zBi 2102 2 rfl rfl (by decide)).trans ((zBi 2103 3 rfl rfl (by decide)).trans (zAJ ⟨rfl, rfl, rfl, (zAL (by omega)), trivial⟩ ⟨rfl, rfl, trivial⟩ ⟨(congrArg (fun x => some (4, x)) (by rfl)), (congrArg (fun x => some (1, x)) (by rfl)), (congrArg (fun x => some (1, x)) (by rfl)), rfl, trivial⟩ rfl))))
      ·
       replace h11 := of_decide_eq_false h11
       refine zAM ?_
       refine zAA rfl (.m rfl rfl (.r rfl (zAv rfl rfl rfl (by omega)) (.a rfl rfl .nil))) ?_
-- round row 100000: pvRd (cv, (opsP bs (zAH bs q 7))) now pvRd (cv, opsP bs (zAH bs q 7))
       refine nxt (Q := fun _ _ => False) (z := (i, d, q)) (i - 1, d, opsP bs (zAH bs q 7)) ?_ ?_ ?_
       ·
        show (i - 1) ≤ 9 ∧ EB d ∧ (opsP bs (zAH bs q 7)) ≤ bs.length ∧ zCW bs (i - 1) (d, (opsP bs (zAH bs q 7))) = zCV bs p
        exact ⟨by omega, hD, zK1 (zAV hp), zCJ (by omega) (st_4 (by omega) (by omega) (by omega) (by omega) (decide_eq_false h11)) hE⟩
       ·
        show (i - 1) < i
        omega
       · exact zAJ ⟨rfl, rfl, rfl, (zAL (by omega)), trivial⟩ ⟨rfl, rfl, trivial⟩ ⟨(congrArg (fun x => some (4, x)) (by rfl)), (congrArg (fun x => some (1, x)) (by rfl)), (congrArg (fun x => some (1, x)) (by rfl)), rfl, trivial⟩ rfl
 ·
  replace h1 := of_decide_eq_false h1
  refine zAx ?_
  refine zDx (σ := List Ent × Nat) (fun (m, q2) => mk [(0, .ea 100000 0 0), (2, .ptr 2 0), (3, .ptr 3 0)] [(2, [.vi 0, .nils, .nils, .nils]), (3, [.vi d.seq, .sl 1 0 ((pvE m).length), .sl 2 0 ((pvR (tagT d.runs)).length), .sl 3 0 ((pvI d.snaps).length)])] [(1, 4, pvE m), (2, 1, pvR (tagT d.runs)), (3, 1, pvI d.snaps), (100000, 2, pvRd (cv, q2))]) (fun (m, q2) => q2 ≤ bs.length ∧ zFg bs (d, q) = (⟨d.seq, m, d.runs, d.snaps⟩, q2) ∧ zCV bs p = (d, q)) ?_ ?_
  ·
   refine zAB ?_
   have hi0 : i = 0 := (by omega)
   rw [hi0] at hE
   have hEm : zCV bs p = (d, q) := hE.symm
   have hmm := hD.mem
   have hl1 := zAF d.mem
   refine zAA rfl (.m rfl rfl (.run [100000, 7000] [] rfl (zAz (.inr rfl) rfl 7000 (X := [100000]) en56 rfl (.val nod) (.cons (.rptr rfl) (.cons (.one (.bor .v)) .nil)) (by decide) (all_cons rfl all_nil) (.keep (xs := pvRd (cv, q)) rfl (FlatP.nf (zAb _)) .nil) (zEf hc hl q hp 20 (by omega)) rfl rfl (nle rfl)) .nil)) ?_
   refine zAZ (t := zCl bs q 20) rfl (fun h12 => ?_) (fun h12 => ?_)
   ·
    refine zAc zBL rfl (.r rfl (zAC rfl rfl underlying28 rfl sizeOf24 (by decide)) (.r rfl (zAD rfl rfl rfl isAgg24 rfl) (.m rfl rfl (.run [100000, 7400, 7401, 7402, 7403] [] rfl (zAz (.inr rfl) rfl 7400 (X := [100000]) en57 rfl (.val nod) (.cons (.rptr rfl) .nil) (by decide) (all_cons rfl all_nil) (.keep (xs := pvRd (cv, zAH bs q 20)) rfl (FlatP.nf (zAb _)) .nil) (zOk hc hl (zAH bs q 20) (zAV hp)) rfl rfl (nle rfl)) (.run [7500] [] rfl (zAR rfl 7500 underlying24 zBb (nle rfl) (by decide) rfl rfl rfl (.cons .v (.cons .v (.cons .v (.cons .v .nil)))) (by decide) rfl (by decide) rfl (by decide) rfl) (.run [1] [] rfl (zAu rfl 1 (ib := 1) (len := ((pvE d.mem) ++ [[PV.v (.string ((zCI bs (zAH bs q 20)).user)), PV.v (.int .i64 ((zCI bs (zAH bs q 20)).seq)), PV.v (.int .i64 ((zCI bs (zAH bs q 20)).kind)), PV.v (.string ((zCI bs (zAH bs q 20)).value))]]).length) rfl rfl (.row (len := (pvE d.mem).length) (xs := pvE d.mem) rfl rfl (.inl rfl)) (.give (len := 1) (xs := [[PV.v (.string ((zCI bs (zAH bs q 20)).user)), PV.v (.int .i64 ((zCI bs (zAH bs q 20)).seq)), PV.v (.int .i64 ((zCI bs (zAH bs q 20)).kind)), PV.v (.string ((zCI bs (zAH bs q 20)).value))]]) rfl rfl) underlying24 (sk underlying24 rfl) zBb rfl (by decide) (by decide) (by decide) List.length_append (by simp only [maxLen, List.length_append, List.length_cons, List.length_nil, zAF]; omega) (by simp only [maxLen, List.length_append, List.length_cons, List.length_nil, zAF]; omega)) (.r rfl (zAC rfl rfl underlying28 rfl sizeOf24 (by decide)) (.r rfl (zAE rfl rfl rfl rfl rfl sizeOf24 rfl (nle rfl)) .nil)))))))) (by kernel_rfl) ?_
    refine ⟨(d.mem ++ [zCI bs (zAH bs q 20)], zC3 bs (zAH bs q 20)), ?_, ?_⟩
    ·
     show (zC3 bs (zAH bs q 20)) ≤ bs.length ∧ zFg bs (d, q) = (⟨d.seq, (d.mem ++ [zCI bs (zAH bs q 20)]), d.runs, d.snaps⟩, (zC3 bs (zAH bs q 20))) ∧ zCV bs p = (d, q)
     exact ⟨zKB (zAV hp), if_pos h12, hEm⟩
    · exact zAJ ⟨rfl, rfl, rfl, trivial⟩ ⟨rfl, (by rw [← zDz] <;> rfl), trivial⟩ ⟨(congrArg (fun x => some (4, x)) (by exact zDz _ _)), rfl, rfl, rfl, trivial⟩ rfl
   ·
    refine zAM ?_
    refine ⟨(d.mem, zAH bs q 20), ?_, ?_⟩
    ·
     show (zAH bs q 20) ≤ bs.length ∧ zFg bs (d, q) = (⟨d.seq, d.mem, d.runs, d.snaps⟩, (zAH bs q 20)) ∧ zCV bs p = (d, q)
     exact ⟨zAV hp, if_neg (by simp [h12]), hEm⟩
    · exact zAJ ⟨rfl, rfl, rfl, trivial⟩ ⟨rfl, rfl, trivial⟩ ⟨(congrArg (fun x => some (4, x)) (by rfl)), rfl, rfl, rfl, trivial⟩ rfl
  ·
   rintro ⟨m, q2⟩ hG
   replace hG : q2 ≤ bs.length ∧ zFg bs (d, q) = (⟨d.seq, m, d.runs, d.snaps⟩, q2) ∧ zCV bs p = (d, q) := hG
   obtain ⟨hp2, hA, hEm⟩ := hG
   refine zDx (σ := Int × Nat) (fun (s, q3) => mk [(2, .ptr 2 0), (3, .ptr 3 0)] [(2, [.vi 0, .nils, .nils, .nils]), (3, [.vi s, .sl 1 0 ((pvE m).length), .sl 2 0 ((pvR (tagT d.runs)).length), .sl 3 0 ((pvI d.snaps).length)])] [(1, 4, pvE m), (2, 1, pvR (tagT d.runs)), (3, 1, pvI d.snaps), (100000, 2, pvRd (cv, q3))]) (fun (s, q3) => q3 ≤ bs.length ∧ zHi bs (⟨d.seq, m, d.runs, d.snaps⟩, q2) = (⟨s, m, d.runs, d.snaps⟩, q3)) ?_ ?_
   ·
    refine zAB ?_
    have hp := hp2
    refine zAA rfl (.m rfl rfl (.run [100000, 7900] [] rfl (zAz (.inr rfl) rfl 7900 (X := [100000]) en56 rfl (.val nod) (.cons (.rptr rfl) (.cons (.one (.bor .v)) .nil)) (by decide) (all_cons rfl all_nil) (.keep (xs := pvRd (cv, q2)) rfl (FlatP.nf (zAb _)) .nil) (zEf hc hl q2 hp 24 (by omega)) rfl rfl (nle rfl)) .nil)) ?_
    refine zAZ (t := zCl bs q2 24) rfl (fun h13 => ?_) (fun h13 => ?_)
    ·
     refine zAA rfl (.m rfl rfl (.run [100000, 8100] [] rfl (zAz (.inr rfl) rfl 8100 (X := [100000]) en58 rfl (.val nod) (.cons (.rptr rfl) (.cons (.one (.bor .v)) (.cons (.one (.bor .v)) .nil))) (by decide) (all_cons rfl all_nil) (.keep (xs := pvRd (cv, zAH bs q2 24)) rfl (FlatP.nf (zAb _)) .nil) (zIy hc hl (zAH bs q2 24) (zAV hp) 0 12 (by omega) (by omega)) rfl rfl (nle rfl)) (.r rfl (zAC rfl rfl underlying28 rfl sizeOf2 (by decide)) (.r rfl (zAE rfl rfl rfl rfl rfl sizeOf2 rfl (nle rfl)) .nil)))) ?_
     refine ⟨(offV bs (zAH bs q2 24) 0 12, offP bs (zAH bs q2 24) 0 12), ?_, ?_⟩
     ·
      show (offP bs (zAH bs q2 24) 0 12) ≤ bs.length ∧ zHi bs (⟨d.seq, m, d.runs, d.snaps⟩, q2) = (⟨(offV bs (zAH bs q2 24) 0 12), m, d.runs, d.snaps⟩, (offP bs (zAH bs q2 24) 0 12))
      exact ⟨zFB (zAV hp2), if_pos h13⟩
     · exact zAJ ⟨rfl, rfl, trivial⟩ ⟨rfl, rfl, trivial⟩ ⟨rfl, rfl, rfl, rfl, trivial⟩ rfl
    ·
     refine zAM ?_
     refine ⟨(d.seq, zAH bs q2 24), ?_, ?_⟩
     ·
      show (zAH bs q2 24) ≤ bs.length ∧ zHi bs (⟨d.seq, m, d.runs, d.snaps⟩, q2) = (⟨d.seq, m, d.runs, d.snaps⟩, (zAH bs q2 24))
      exact ⟨zAV hp2, if_neg (by simp [h13])⟩
     · exact zAJ ⟨rfl, rfl, trivial⟩ ⟨rfl, rfl, trivial⟩ ⟨rfl, rfl, rfl, rfl, trivial⟩ rfl
   ·
    rintro ⟨s, q3⟩ hG
    replace hG : q3 ≤ bs.length ∧ zHi bs (⟨d.seq, m, d.runs, d.snaps⟩, q2) = (⟨s, m, d.runs, d.snaps⟩, q3) := hG
    obtain ⟨hp3, hO⟩ := hG
    refine zAB ?_
    have hv : dbV bs p = ⟨s, m, d.runs, d.snaps⟩ := by rw [dbV, hEm, hA, hO]
    have hpp : dbP bs p = q3 := by rw [dbP, hEm, hA, hO]
    rw [hv, hpp]
    refine zAA rfl (.r rfl (zAG rfl rfl rfl isAgg28 sizeOf28 (nle rfl)) (.r rfl (zAE rfl rfl rfl rfl rfl sizeOf28 rfl (nle rfl)) .nil)) ?_
    refine zAO ?_
    exact ends [_] [1, 2, 3] (.cons (.cell rfl rfl isAgg28 sizeOf28 (nle rfl)) .nil) (.cons (.agg (.cons .v (.cons (.row (len := (pvE m).length) (xs := pvE m) rfl rfl) (.cons (.row (len := (pvR (tagT d.runs)).length) (xs := pvR (tagT d.runs)) rfl rfl) (.cons (.row (len := (pvI d.snaps).length) (xs := pvI d.snaps) rfl rfl) .nil)))) (zAI (.v _) (zAI (.sl _ _ (FlatP.clean (zAd _))) (zAI (zAl _) (zAI (.sl _ _ (FlatP.clean (zA3 _))) zBE))))) .nil) (by decide) (zB7 (congrArg (fun x => some (2, x)) (congrArg pvRd (congrArg (Prod.mk cv) rfl))) (zAb _) (by decide))
end Go.Rl
namespace Go.Rl
open Go.Proofs Go.Proofs.Tryz
set_option maxRecDepth 1000000
set_option maxHeartbeats 2000000
theorem en19 : En Tryz.prog 19 := zAm func19 (by decide) rfl
theorem en20 : En Tryz.prog 20 := zAm func20 (by decide) rfl
theorem zHQ {γ : Gho} {cv : Value} {bs : List Nat} (hc : zCe γ cv bs) (hl : bs.length ≤ 1152921504606846976) : ConG γ Tryz.prog 14 [.one (PV.v (cv))] [] [.agg [.v (.int .i64 ((dbV bs 0).seq)), .sl true 4 (pvE ((dbV bs 0).mem)), .sl true 1 (pvR (tagT (dbV bs 0).runs)), .sl true 1 (pvI ((dbV bs 0).snaps))], .one (.sl true 3 (pvO (opsV bs (dbP bs 0))))] := by
 refine zAQ func14 rfl rfl rfl rfl ?_
 have hp : (0:Nat) ≤ bs.length := Nat.zero_le _
 refine zAB (zAA rfl (.run [] [2] rfl (zAj rfl 2 zBk rfl (by decide) rfl (by decide)) (.a rfl rfl .nil)) ?_)
 refine zAB (zAA rfl (.m rfl rfl (.run [700] [] rfl (zAz (.inr rfl) rfl 700 (X := []) en19 rfl (.val nod) (.cons (.one (.bor .v)) .nil) (by decide) all_nil .nil (zPx cv) rfl rfl (nle rfl)) (.a rfl rfl .nil))) ?_)
 refine zAB (zAA rfl (.m rfl rfl (.run [700, 900, 901, 902, 903] [] rfl (zAz (.inr rfl) rfl 900 (X := [700]) en20 rfl (.val nod) (.cons (.rptr rfl) .nil) (by decide) (all_cons rfl all_nil) (.keep (xs := pvRd (cv, 0)) rfl (FlatP.nf (zAb _)) .nil) (db_con hc hl 0 (Nat.zero_le _)) rfl rfl (nle rfl)) (.run [] [5] rfl (zAj rfl 5 zBk rfl (by decide) rfl (by decide)) (.r rfl (zAE rfl rfl rfl rfl rfl sizeOf28 rfl (nle rfl)) .nil)))) ?_)
 refine zAB ?_
 have hp : (0:Nat) ≤ bs.length := Nat.zero_le _
 have hp2 := zQr hp
 have hsn := zOn bs 0 hp
 refine zAc zBL rfl (.r rfl (zAG rfl rfl rfl isAgg28 sizeOf28 (nle rfl)) (.m rfl rfl (.run [700, 1200] [] rfl (zAz (.inr rfl) rfl 1200 (X := [700]) en45 rfl (.val nod) (.cons (.rptr rfl) .nil) (by decide) (all_cons rfl all_nil) (.keep (xs := pvRd (cv, dbP bs 0)) rfl (FlatP.nf (zAb _)) .nil) (zOI hc hl (dbP bs 0) (zQr (Nat.zero_le _))) rfl rfl (nle rfl)) (.r rfl (zAE rfl rfl rfl rfl rfl sizeOf28 rfl (nle rfl)) (.a rfl rfl .nil))))) (by kernel_rfl) ?_
 refine zAO ?_
 exact ends [_, _] [901, 902, 903, 1200] (.cons (.cell rfl rfl isAgg28 sizeOf28 (nle rfl)) (.cons (.tmp rfl) .nil)) (.cons (.agg (.cons .v (.cons (.row (len := (pvE ((dbV bs 0).mem)).length) (xs := pvE ((dbV bs 0).mem)) rfl rfl) (.cons (.row (len := (pvR (tagT (dbV bs 0).runs)).length) (xs := pvR (tagT (dbV bs 0).runs)) rfl rfl) (.cons (.row (len := (pvI ((dbV bs 0).snaps)).length) (xs := pvI ((dbV bs 0).snaps)) rfl rfl) .nil)))) (zAI (.v _) (zAI (.sl _ _ (FlatP.clean (zAd _))) (zAI (zAl _) (zAI (.sl _ _ (FlatP.clean (zA3 _))) zBE))))) (.cons (.one (.row (len := (pvO (opsV bs (dbP bs 0))).length) (xs := pvO (opsV bs (dbP bs 0))) rfl rfl) (.sl _ _ (FlatP.clean (zL6 _)))) .nil)) (by decide) trivial
end Go.Rl
namespace Go.Rl
structure EL (d : Eng) : Prop where
 eb : EB d
 mem : d.mem.length ≤ 1000
theorem el_nil : EL Eng.nil := ⟨zGH, Nat.zero_le _⟩
theorem zQO {d : Eng} (h : EL d) : EL (zBm d).1 := ⟨zJC h.eb, by
 unfold zBm
 split
 ·
  split
  · exact h.mem
  ·
   split
   · exact h.mem
   · exact Nat.zero_le _
 · exact Nat.zero_le _⟩
theorem snap_el {d : Eng} (h : EL d) : EL (zCA d).1 := ⟨zKo h.eb, by
 unfold zCA
 split
 ·
  split
  · exact h.mem
  ·
   split
   · exact h.mem
   · exact h.mem
 · exact Nat.zero_le _⟩
theorem free_el {d : Eng} {a : Int} (h : EL d) : EL (zCE d a).1 := ⟨zLG h.eb, by
 unfold zCE
 split
 · exact h.mem
 · exact Nat.zero_le _⟩
theorem zNY {d : Eng} (h : EL d) : EL (zBD d).1 := ⟨zF8 h.eb, by
 unfold zBD
 split
 ·
  split
  · exact h.mem
  · exact h.mem
 · exact Nat.zero_le _⟩
theorem zPN {d : Eng} {ops : List Bop} (h : EL d) (hn : ops.length ≤ 100) : EL (zBh d ops).1 := ⟨zIZ h.eb hn, by
 by_cases ho : okE d = true
 ·
  have s := zCU ho
  unfold zBh
  rw [if_pos ho]
  split
  · exact h.mem
  ·
   split
   · exact h.mem
   ·
    have := zDW (zAq (d.seq + 1) ops) d.mem
    have := s.mem
    have := zB2 (d.seq + 1) ops
    show (zBp d.mem (zAq (d.seq + 1) ops)).length ≤ 1000
    omega
 · unfold zBh; rw [if_neg ho]; exact Nat.zero_le _⟩
theorem zOp {bs : List Nat} {x : Eng × Nat} (h : EL x.1) : EL (zCR bs x).1 := by
 unfold zCR
 split
 ·
  show EL (if _ then _ else _)
  split
  · exact zQO h
  · exact h
 ·
  split
  ·
   show EL (if _ then _ else _)
   split
   · exact snap_el h
   · exact h
  ·
   split
   ·
    show EL (if _ then _ else _)
    split
    · exact zNY h
    · exact h
   ·
    split
    ·
     split
     ·
      show EL (if _ then _ else _)
      split
      · exact free_el h
      · exact h
     · exact h
    ·
     show EL (if _ then _ else _)
     split
     · exact zPN h (by have := zEe bs (zAH bs x.2 7); omega)
     · exact h
theorem zKF {bs : List Nat} : ∀ (i : Nat) (x : Eng × Nat), EL x.1 → EL (zCW bs i x).1
 | 0, _, h => h
 | i + 1, x, h => zKF i _ (zOp h)
theorem dbV_eb (bs : List Nat) (p : Nat) : EB (dbV bs p) := by
 have h : EL (zCV bs p).1 := zKF _ (Eng.nil, zAH bs p 9) el_nil
 have hm := h.mem
 have he := h.eb
 have h1 : EB (zFg bs (zCV bs p)).1 := by
  unfold zFg
  split
  · exact ⟨by show ((zCV bs p).1.mem ++ [_]).length ≤ 2000000; simp only [List.length_append, List.length_cons, List.length_nil]; omega, he.runs, he.each, he.snaps⟩
  · exact he
 unfold dbV zHi
 split
 · exact ⟨h1.mem, h1.runs, h1.each, h1.snaps⟩
 · exact h1
end Go.Rl
namespace Go.Rl
def zFE (d : Eng) (a : Int) : Bool := decide (a = -1) || atI d.snaps a
def askSeq (d : Eng) (a : Int) : Int := if a = -1 then d.seq else if atI d.snaps a = true then a else 0
def getE (l : List Ent) (u : ByteArray) (p : Int) : Int × ByteArray := if zI9 (zDM l u p) = 1 then (1, zHM (zDM l u p)) else (0, ⟨#[]⟩)
noncomputable def getS (d : Eng) (u : ByteArray) (a : Int) : Int × ByteArray := if okE d = true then (if zFE d a = true then getE (zA1 (d.mem :: d.runs)) u (askSeq d a) else (3, ⟨#[]⟩)) else (3, ⟨#[]⟩)
variable {d : Eng} {u : ByteArray} {a : Int}
end Go.Rl
namespace Go.Rl
open Go.Proofs
end Go.Rl
namespace Go.Rl
def zCc (l : List Ent) : Int := l.foldl (fun a e => max a e.seq) (-1)
theorem zLS {l : List Ent} {i : Nat} {e : Ent} (h : l[i]? = some e) : zCc (l.take (i + 1)) = max (zCc (l.take i)) e.seq := by
 unfold zCc
 rw [List.take_add_one, h]
 simp [List.foldl_append]
theorem zNR {l : List Ent} {z : Int} : ∀ {a : Int}, l.foldl (fun a e => max a e.seq) a ≤ z ↔ a ≤ z ∧ ∀ e ∈ l, e.seq ≤ z := by
 induction l with
 | nil => intro a; simp
 | cons x l ih =>
  intro a
  rw [List.foldl_cons, ih]
  constructor
  ·
   rintro ⟨h1, h2⟩
   refine ⟨by omega, fun e he => ?_⟩
   rcases List.mem_cons.1 he with rfl | he
   · omega
   · exact h2 e he
  ·
   rintro ⟨h1, h2⟩
   have := h2 x (by simp)
   exact ⟨by omega, fun e he => h2 e (by simp [he])⟩
theorem zO6 {l : List Ent} {z : Int} : zCc l ≤ z ↔ -1 ≤ z ∧ ∀ e ∈ l, e.seq ≤ z := zNR
theorem zKS {l : List Ent} {z : Int} (hz : 0 ≤ z) : zCc l < z ↔ ∀ e ∈ l, e.seq < z := by
 have h := zO6 (l := l) (z := z - 1)
 constructor
 ·
  intro h1 e he
  have := (h.1 (by omega)).2 e he
  omega
 ·
  intro h1
  have := h.2 ⟨by omega, fun e he => by have := h1 e he; omega⟩
  omega
def zEK (l : List Ent) : List Int := l.map (·.seq)
theorem zKp {l : List Ent} {i : Nat} {e : Ent} (h : l[i]? = some e) : zEK (l.take i) ++ [e.seq] = zEK (l.take (i + 1)) := by
 rw [List.take_add_one, h]; simp [zEK]
theorem zM1 (l : List Ent) : (zEK l).length = l.length := by simp [zEK]
theorem not_met {l : List Ent} {i : Nat} {x : Ent} (h : ¬ x.seq ∈ zEK (l.take i)) : zGM l x i := fun k y hk hy q => h (by
 rw [← q]
 exact List.mem_map.2 ⟨y, List.mem_of_getElem? (i := k) (by rw [List.getElem?_take_of_lt hk]; exact hy), rfl⟩)
theorem is_met {l : List Ent} {i : Nat} {x : Ent} (h : x.seq ∈ zEK (l.take i)) : ∃ (k : Nat) (y : Ent), k < i ∧ l[k]? = some y ∧ y.seq = x.seq := by
 obtain ⟨y, hy, q⟩ := List.mem_map.1 h
 obtain ⟨k, hk⟩ := List.getElem?_of_mem hy
 rw [List.getElem?_take] at hk
 split at hk
 · exact ⟨k, y, ‹_›, hk, q⟩
 · cases hk
def zED (b : Int) (x : Ent) : Bool := decide (x.seq ≤ b)
structure IOk (sq : Int) (mem : List Ent) (rs : RunL) (sn : List Int) : Prop where
 few : (mem ++ ents rs).length ≤ 400
 seqs : Seqs sq (mem ++ ents rs) (mem ++ ents rs).length
 mem : idxF (zED (zCc (ents rs))) mem < 0
 last : ∀ z, sn[sn.length - 1]? = some z → z ≤ sq
noncomputable instance decIOk (sq : Int) (mem : List Ent) (rs : RunL) (sn : List Int) : Decidable (IOk sq mem rs sn) := Classical.propDecidable _
noncomputable def okB (sq : Int) (mem : List Ent) (rs : RunL) (sn : List Int) : Bool := zBe sq mem rs sn && decide (IOk sq mem rs sn)
variable {sq : Int} {mem : List Ent} {rs : RunL} {sn : List Int}
theorem zGX (h : zBe sq mem rs sn = false) : false = okB sq mem rs sn := by unfold okB; rw [h]; rfl
theorem zJq (h : ¬ IOk sq mem rs sn) : false = okB sq mem rs sn := by unfold okB; rw [decide_eq_false h, Bool.and_false]
theorem zIx (hb : zBe sq mem rs sn = true) (h : IOk sq mem rs sn) : true = okB sq mem rs sn := by unfold okB; rw [decide_eq_true h, hb]; rfl
theorem zC1 (h : okB sq mem rs sn = true) : zBe sq mem rs sn = true ∧ IOk sq mem rs sn := by
 unfold okB at h
 rw [Bool.and_eq_true] at h
 exact ⟨h.1, of_decide_eq_true h.2⟩
theorem zP2 (hb : zBe sq mem rs sn = true) (h1 : (mem ++ ents rs).length ≤ 400) (h2 : Seqs sq (mem ++ ents rs) (mem ++ ents rs).length) (h3 : ¬ 0 ≤ idxF (zED (zCc (ents rs))) mem) {x : Int} (hx : sn[sn.length - 1]? = some x) : decide (x ≤ sq) = okB sq mem rs sn := by
 by_cases h : x ≤ sq
 ·
  rw [decide_eq_true h]
  exact zIx hb ⟨h1, h2, by omega, fun z hz => by rw [hx] at hz; cases hz; exact h⟩
 ·
  rw [decide_eq_false h]
  exact zJq (fun q => h (q.last x hx))
theorem zP1 (hb : zBe sq mem rs sn = true) (h1 : (mem ++ ents rs).length ≤ 400) (h2 : Seqs sq (mem ++ ents rs) (mem ++ ents rs).length) (h3 : ¬ 0 ≤ idxF (zED (zCc (ents rs))) mem) (hx : sn.length = 0) : true = okB sq mem rs sn :=
 zIx hb ⟨h1, h2, by omega, fun z hz => by
  have := (List.getElem?_eq_some_iff.1 hz).1
  omega⟩
theorem ok_met {i : Nat} {x : Ent} (hx : (mem ++ ents rs)[i]? = some x) (h : x.seq ∈ zEK ((mem ++ ents rs).take i)) : ¬ IOk sq mem rs sn := fun q => by
 obtain ⟨k, y, hk, hy, e⟩ := is_met h
 exact (q.seqs i x (List.getElem?_eq_some_iff.1 hx).1 hx).2 k y hk hy e
theorem ok_big {i : Nat} {x : Ent} (hx : (mem ++ ents rs)[i]? = some x) (h : sq < x.seq) : ¬ IOk sq mem rs sn := fun q => by
 have := (q.seqs i x (List.getElem?_eq_some_iff.1 hx).1 hx).1
 omega
theorem zDa (h : zBe sq mem rs sn = true) {e : Ent} (he : e ∈ mem ++ ents rs) : zBc e = true := by
 simp only [zBe, Bool.and_eq_true] at h
 obtain ⟨_, h2, h3, _⟩ := h
 rcases List.mem_append.1 he with h4 | h4
 · exact zGc h2 h4
 ·
  simp only [ents, zBt, List.mem_flatten, rows, List.mem_map] at h4
  obtain ⟨l, ⟨r, hr, rfl⟩, hl⟩ := h4
  simp only [zBQ, Bool.and_eq_true, decide_eq_true_eq] at h3
  have h5 := zD6.1 h3.2.1 r hr
  exact zGc (by simpa using h5) hl
theorem zF7 {e : Ent} (h : zBc e = true) : 0 ≤ e.seq ∧ e.seq ≤ 1000000000000 := by
 have := zFe h
 simp only [zCn, zAs, Bool.and_eq_true, decide_eq_true_eq] at this
 exact this.1.2
theorem seq_wf {x : Int} (h : 0 ≤ x ∧ x ≤ 1000000000000) : (Lit.int .i64 x).wf = true := by
 have h1 : IntKind.min .i64 = -9223372036854775808 := by decide
 have h2 : IntKind.max .i64 = 9223372036854775807 := by decide
 simp only [Lit.wf, h1, h2, Bool.and_eq_true, decide_eq_true_eq]
 omega
end Go.Rl
namespace Go.Rl
open Go.RowKit
section
variable {γ : Gho} {P : Program} {n : Nat} {k e : TypeId}
def Knows (D : DataW Unit) (ks : List Int) : Prop := (∃ es, D = .map es) ∧ ∀ x : Int, D.atKey (.int .i64 x) (.lit (.bool false)) = .lit (.bool (decide (x ∈ ks)))
def MapAt (P : Program) (k e : TypeId) (w : World) (b : Nat) (ks : List Int) : Prop := ∃ m D, w.ownsMap P k (plainElem P e) b m D ∧ m ≤ ks.length ∧ Knows D ks
theorem MapAt.obj {w : World} {b : Nat} {ks : List Int} (h : MapAt P k e w b ks) : ∃ es clock, w.heap[b]? = some (.map es clock) ∧ ∀ w' : World, w'.heap[b]? = some (.map es clock) → MapAt P k e w' b ks := by
 obtain ⟨m, D, ⟨es, clock, hb, F, hs, hD⟩, hm, hk⟩ := h
 exact ⟨es, clock, hb, fun w' hw => ⟨m, D, ⟨es, clock, hw, F, hs, hD⟩, hm, hk⟩⟩
theorem MapAt.made (w : World) : MapAt P k e (w.alloc (.map #[] 0)) w.heap.size [] :=
 ⟨0, .map [], World.ownsMap_made w P k _, Nat.le_refl _, ⟨[], rfl⟩, fun x => by simp [DataW.atKey]⟩
theorem MapAt.look {w : World} {b : Nat} {ks : List Int} (h : MapAt P k e w b ks) (hk : P.underlying k = some (.int .i64)) (he : P.underlying e = some .bool) {t : TypeId} (ht : P.underlying t = some (.map k e)) (hz : (zeroValue e).run P w = .ok (.bool false) w) {x : Int} (hx : (Lit.int .i64 x).wf = true) :
  (Instr.lookup t (.map (some b)) (.int .i64 x) false).run P w = .ok (.bool (decide (x ∈ ks))) w := by
 obtain ⟨m, D, h, _, _, hK⟩ := h
 obtain ⟨v, ps, hrun, hv⟩ := h.lookup (Maps.int_keyed hk) ht hz (plainElem_bool he false) (Maps.keyOf_int_mk hk hx)
 rw [hK x] at hv
 have : v = .bool (decide (x ∈ ks)) := by
  unfold plainElem at hv
  rw [he] at hv
  cases v <;> simp at hv
  rw [hv.1]
 rw [hrun, this]
theorem MapAt.upd {w : World} {b : Nat} {ks : List Int} (h : MapAt P k e w b ks) (hk : P.underlying k = some (.int .i64)) (he : P.underlying e = some .bool) {t : TypeId} (ht : P.underlying t = some (.map k e)) {x : Int} (hx : (Lit.int .i64 x).wf = true) (hn : ks.length < maxLen) :
  ∃ w', (Instr.mapUpdate t (.map (some b)) (.int .i64 x) (.bool true)).run P w = .ok () w' ∧ MapAt P k e w' b (ks ++ [x]) ∧ w.grownBy w' (some b) ∧ ∃ o, w.heap[b]? = some o ∧ o.isCells = false := by
 obtain ⟨m, D, h, hm, hI, hK⟩ := h
 obtain ⟨w', hrun, hown, hg⟩ := h.update (Maps.int_keyed hk) ht (Nat.lt_of_le_of_lt hm hn) (Maps.keyOf_int_mk hk hx) (plainElem_bool he true)
 obtain ⟨es, clock, hb, _⟩ := h
 refine ⟨w', hrun, ⟨m + 1, _, hown, by simp; omega, ?_, fun y => ?_⟩, hg, _, hb, rfl⟩
 ·
  obtain ⟨es, rfl⟩ := hI
  exact ⟨_, rfl⟩
 ·
  by_cases hy : y = x
  ·
   subst hy
   rw [Maps.atKey_put_same hI (by simp [WideAt.IsKeyLit])]
   simp
  ·
   rw [Maps.atKey_put_other (by intro q; cases q; exact hy rfl), hK y]
   simp [hy]
def TrM (γ : Gho) (P : Program) (k e : TypeId) (n : Nat) (b : Nat) (c : Code) (s : St) (ks : List Int) (Q : Exit → St → List Int → Prop) : Prop :=
 ∀ w0 I L a w, Gh γ w0 I.I → Rel w0 I n L s a w → w0.heap.size ≤ b → (∀ x, I.Z x → x < w0.heap.size) → MapAt P k e w b ks →
  c.wp P (fun ex a' w' => ∃ s' L' ks', Q ex s' ks' ∧ Rel w0 I n L' s' a' w' ∧ MapAt P k e w' b ks') a w
variable {b : Nat} {ks : List Int} {s : St} {Q : Exit → St → List Int → Prop}
theorem zQe {c : Code} (h : ∀ o : Obj, (∀ w : World, w.heap[b]? = some o → MapAt P k e w b ks) → Tr (some (b, o)) P n c s (fun ex s' => Q ex s' ks)) : TrM γ P k e n b c s ks Q := by
 intro w0 I L a w hG hr hb hz hm
 obtain ⟨es, clock, ho, hall⟩ := hm.obj
 have hni : b ∉ (I.root L w).I := fun hx => by
  obtain ⟨l, _, c, t, z, hc⟩ := zDU hx
  rw [ho] at hc
  cases hc
 have h1 := h _ hall w (I.root L w) (L.trim w) a w (fun k' o' e' => by cases e'; exact ⟨ho, hni⟩) hr.root
 refine wp_mono h1 (fun ex a' w' ⟨s', L', hq, hr'⟩ => ⟨s', L', ks, hq, hr.unroot hr', hall w' ?_⟩)
 have hlt := (Array.getElem?_eq_some_iff.1 ho).1
 exact (hr'.same.block b hlt hni).trans ho
theorem zFI {c : Code} {s' : St} (hw : Wk n s s') (h : TrM γ P k e n b c s' ks Q) : TrM γ P k e n b c s ks Q := fun w0 I L a w hG hr hb hz hm => by
 obtain ⟨L', h'⟩ := hw w0 I L a w hr
 exact h w0 I L' a w hG h' hb hz hm
theorem zGT (h : Q .normal s ks) : TrM γ P k e n b .skip s ks Q := fun _ _ L _ _ _ hr _ _ hm => wp_skip ⟨s, L, ks, h, hr, hm⟩
theorem zLn {id : Nat} (h : Q (.exit id) s ks) : TrM γ P k e n b (.exit id) s ks Q := fun _ _ L _ _ _ hr _ _ hm => wp_exit ⟨s, L, ks, h, hr, hm⟩
theorem zFs (h : Q .ret s ks) : TrM γ P k e n b .ret s ks Q := fun _ _ L _ _ _ hr _ _ hm => wp_ret ⟨s, L, ks, h, hr, hm⟩
def thnM (next : St → List Int → Prop) (Q : Exit → St → List Int → Prop) : Exit → St → List Int → Prop
 | .normal, s, ks => next s ks
 | e, s, ks => Q e s ks
def inbM (id : Nat) (Q : Exit → St → List Int → Prop) : Exit → St → List Int → Prop
 | .exit id', s, ks => match Nat.beq id' id with
  | true => Q .normal s ks
  | false => Q (.exit id') s ks
 | e, s, ks => Q e s ks
theorem zBu {x y : Code} (h : TrM γ P k e n b x s ks (thnM (fun s' ks' => TrM γ P k e n b y s' ks' Q) Q)) : TrM γ P k e n b (.seq x y) s ks Q := fun w0 I L a w hG hr hb hz hm => by
 refine wp_seq (wp_mono (h w0 I L a w hG hr hb hz hm) (fun ex a' w' ⟨s', L', ks', h1, h2, h3⟩ => ?_))
 cases ex with
 | normal => exact h1 w0 I L' a' w' hG h2 hb hz h3
 | _ => exact ⟨s', L', ks', h1, h2, h3⟩
theorem zHr {c : Operand} {x y : Code} {d : Option Nat} {t : Bool} (hc : s.ev c = .p d (.v (.bool t))) (ht : t = true → TrM γ P k e n b x s ks Q) (hf : t = false → TrM γ P k e n b y s ks Q) : TrM γ P k e n b (.cond c x y) s ks Q := fun w0 I L a w hG hr hb hz hm =>
 wp_cond_split (hr.evv hc) (fun q => ht q w0 I L a w hG hr hb hz hm) (fun q => hf q w0 I L a w hG hr hb hz hm)
theorem zFJ {id : Nat} {c : Code} (h : TrM γ P k e n b c s ks (inbM id Q)) : TrM γ P k e n b (.block id c) s ks Q := fun w0 I L a w hG hr hb hz hm => by
 refine wp_block (wp_mono (h w0 I L a w hG hr hb hz hm) (fun ex a' w' ⟨s', L', ks', h1, h2, h3⟩ => ?_))
 cases ex with
 | exit id' =>
  simp only [Exit.inBlock]
  by_cases hi : id' = id
  ·
   subst hi
   rw [if_pos rfl]
   simp only [inbM, Nat.beq_refl] at h1
   exact ⟨s', L', ks', h1, h2, h3⟩
  ·
   rw [if_neg hi]
   have hbq : Nat.beq id' id = false := by
    cases q : Nat.beq id' id with
    | false => rfl
    | true => exact absurd (Nat.eq_of_beq_eq_true q) hi
   simp only [inbM, hbq] at h1
   exact ⟨s', L', ks', h1, h2, h3⟩
 | _ => exact ⟨s', L', ks', h1, h2, h3⟩
theorem zPW {c : Code} (Inv : Nat → St → List Int → Prop) (q : Nat) (h0 : Inv q s ks) (hr : ∀ q s ks, Inv q s ks → TrM γ P k e n b c s ks (thnM (fun s' ks' => ∃ q', q' < q ∧ Inv q' s' ks') Q)) : TrM γ P k e n b (.loop c) s ks Q := by
 intro w0 I L a w hG hrel hb hz hm bb fr cs
 have key : ∀ q s L a w ks, Inv q s ks → Rel w0 I n L s a w → MapAt P k e w b ks → ∃ ex a' w', (∃ s' L' ks', Q ex s' ks' ∧ Rel w0 I n L' s' a' w' ∧ MapAt P k e w' b ks') ∧ Arrives P (lone (bb.at a (.code c :: .inLoop c :: fr)) cs w) bb fr cs ex a' w' := by
  intro q
  induction q using Nat.strongRecOn with
  | _ q ih =>
   intro s L a w ks hI hrel hm
   obtain ⟨ex, a1, w1, ⟨s1, L1, ks1, hq, hrel1, hm1⟩, harr⟩ := hr q s ks hI w0 I L a w hG hrel hb hz hm bb (.inLoop c :: fr) cs
   cases ex with
   | normal =>
    obtain ⟨q', hlt, hI1⟩ := hq
    obtain ⟨e2, a2, w2, hq2, harr2⟩ := ih q' hlt s1 L1 a1 w1 ks1 hI1 hrel1 hm1
    exact ⟨e2, a2, w2, hq2, .of_steps (Steps.trans harr (.one step_inLoop)) harr2⟩
   | exit id => exact ⟨_, a1, w1, ⟨s1, L1, ks1, hq, hrel1, hm1⟩, .pass (x := .inLoop c) rfl (fun _ _ => .inl (by simp)) harr⟩
   | goto l => exact ⟨_, a1, w1, ⟨s1, L1, ks1, hq, hrel1, hm1⟩, .pass (x := .inLoop c) rfl (fun _ _ => .inl (by simp)) harr⟩
   | ret => exact ⟨_, a1, w1, ⟨s1, L1, ks1, hq, hrel1, hm1⟩, .pass (x := .inLoop c) rfl (fun _ _ => .inl (by simp)) harr⟩
   | panic ch => exact ⟨_, a1, w1, ⟨s1, L1, ks1, hq, hrel1, hm1⟩, .pass (x := .inLoop c) rfl (fun _ _ => .inl (by simp)) harr⟩
   | outgrown => exact ⟨_, a1, w1, ⟨s1, L1, ks1, hq, hrel1, hm1⟩, .pass (x := .inLoop c) rfl (fun _ _ => .inl (by simp)) harr⟩
 obtain ⟨ex, a', w', hq, harr⟩ := key q s L a w ks h0 hrel hm
 exact ⟨ex, a', w', hq, .of_steps (.one step_loop) harr⟩
end
end Go.Rl

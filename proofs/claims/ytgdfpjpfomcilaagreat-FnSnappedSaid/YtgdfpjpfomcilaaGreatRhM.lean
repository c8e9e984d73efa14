/- Promises of functions, proved by walks over their operations; no conditions beyond those that each theorem states. -/
import Derived.Test.YtgdfpjpfomcilaaGreatRhL
set_option linter.unusedSimpArgs false
set_option linter.unusedVariables false
namespace Go.Rl
open Go.Proofs Go.Proofs.Tryz
set_option maxRecDepth 1000000
set_option maxHeartbeats 2000000
theorem en5 : En Tryz.prog 5 := zAm func5 (by decide) rfl
theorem en9 : En Tryz.prog 9 := zAm func9 (by decide) rfl
theorem en10 : En Tryz.prog 10 := zAm func10 (by decide) rfl
theorem en12 : En Tryz.prog 12 := zAm func12 (by decide) rfl
theorem en13 : En Tryz.prog 13 := zAm func13 (by decide) rfl
theorem en14 : En Tryz.prog 14 := zAm func14 (by decide) rfl
theorem en15 : En Tryz.prog 15 := zAm func15 (by decide) rfl
theorem en17 : En Tryz.prog 17 := zAm func17 (by decide) rfl
theorem en18 : En Tryz.prog 18 := zAm func18 (by decide) rfl
theorem zN1 (d : Eng) (a : Int) (f t : ByteArray) : (zBn d a f t).1.length ≤ 400 := by
 unfold zBn
 split
 ·
  rename_i ho
  split
  ·
   have h1 := zGS (allI d) (askI d a) (zAt (allI d))
   rw [← visF] at h1
   have h2 := zFH (allI d)
   have h3 := zFF (d := d) ho
   exact Nat.le_trans (List.length_filter_le _ _) (by omega)
  · exact Nat.zero_le _
 · exact Nat.zero_le _
theorem zHG {γ : Gho} {cv : Value} {bs : List Nat} (hc0 : zCe γ cv bs) : ConG γ Tryz.prog 4 [.one (PV.v (cv))] [] [.one (.v (.bool true))] := by
 refine zAQ func4 rfl rfl rfl rfl ?_
 refine zAB (zAA rfl (.a rfl rfl .nil) ?_)
 refine zAB ?_
 refine zAB (zAA rfl (.m rfl rfl (.run [2200] [] rfl (zAz (.inr rfl) rfl 2200 (X := []) en5 rfl (.val nod) (.cons (.one (.bor .v)) .nil) (by decide) all_nil .nil (big_con hc0) rfl rfl (nle rfl)) .nil)) ?_)
 refine zAZ (t := decide ((1048576 : Int) < (bs.length : Int))) rfl (fun h1 => ?_) (fun h1 => ?_)
 ·
  replace h1 := of_decide_eq_true h1
  refine zAB (zAA rfl (.a rfl rfl .nil) ?_)
  refine zAO ?_
  exact ends [_] [] (.cons (.tmp rfl) .nil) (.cons (.one .v (.v _)) .nil) (by decide) trivial
 ·
  replace h1 := of_decide_eq_false h1
  refine zAM ?_
  refine zAB (zAA rfl (.m rfl rfl (.run [2500, 2501, 2502, 2503, 2504] [] rfl (zAz (.inr rfl) rfl 2500 (X := []) en14 rfl (.val nod) (.cons (.one (.bor .v)) .nil) (by decide) all_nil .nil (zHQ hc0 (by omega)) rfl rfl (nle rfl)) (.m rfl rfl (.r rfl (zAa rfl rfl rfl) (.r rfl (zAa rfl rfl rfl) (.run [] [3] rfl (zAj rfl 3 zBk rfl (by decide) rfl (by decide)) (.r rfl (zAE rfl rfl rfl rfl rfl sizeOf28 rfl (nle rfl)) (.a rfl rfl .nil)))))))) ?_)
  refine zAY (wk_frz 2504 rfl) ?_
  have hp2 : (.p none (.sl false 3 (((pvO (opsV bs (dbP bs 0))).drop 0).take ((pvO (opsV bs (dbP bs 0))).length))) : AV) = .p none (.sl false 3 (pvO (opsV bs (dbP bs 0)))) := by simp only [frz_all]
  refine zAY (s' := mk [(3, .ptr 3 0), (4, .p none (.sl false 3 (pvO (opsV bs (dbP bs 0)))))] [(3, [.vi ((dbV bs 0).seq), .sl 2501 0 ((pvE ((dbV bs 0).mem)).length), .sl 2502 0 ((pvR (tagT (dbV bs 0).runs)).length), .sl 2503 0 ((pvI ((dbV bs 0).snaps)).length)])] [(2501, 4, pvE ((dbV bs 0).mem)), (2502, 1, pvR (tagT (dbV bs 0).runs)), (2503, 1, pvI ((dbV bs 0).snaps))]) ?_ ?_
  · exact zAJ ⟨rfl, hp2, trivial⟩ ⟨rfl, trivial⟩ ⟨rfl, rfl, rfl, trivial⟩ rfl
  have hD := dbV_eb bs 0
  have hR := dbV_er bs 0
  have hol := zEe bs (dbP bs 0)
  generalize opsV bs (dbP bs 0) = ops at hol ⊢
  generalize dbV bs 0 = d at hD hR ⊢
  have hlo := zBz ops
  have hsl := zN1 d (-1) ⟨#[]⟩ ⟨#[]⟩
  have hsv := zBl (zBn d (-1) ⟨#[]⟩ ⟨#[]⟩).1
  have hld1 := zAF d.mem
  have hld2 := zAi (tagT d.runs)
  have hld3 := zAT d.snaps
  have hld4 := zBU d.runs
  refine zAB ?_
  rcases zKj hR ops with ⟨s, z, c, h1, h2, hc⟩ | ⟨s, h1, h2, hdo, hso, ⟨b, f, g, x, cf, cg, l, hw, hS⟩ | ⟨b, e, f, g, x, cf, cg, l, hw, he, hS⟩⟩
  ·
   have hsn := zGs d hD
   rw [h1] at hsn
   try dsimp only at hsn
   have hss := zFR d hD
   rw [h2] at hss
   try dsimp only at hss
   have hls1 := zAF s.mem
   have hls2 := zAi (tagT s.runs)
   have hls3 := zAT s.snaps
   have hls4 := zBU s.runs
   refine zAA rfl (.r rfl (zAG rfl rfl rfl isAgg28 sizeOf28 (nle rfl)) (.run [2501, 2502, 2503, 3000, 3001, 3002, 3003, 3004, 3005] [] rfl (zAK rfl 3000 (X := []) en15 rfl (.val nod) (.cons (.agg (.cons (.bor .v) (.cons (.bor (.all (len := (pvE (d.mem)).length) (xs := pvE (d.mem)) rfl rfl (by decide))) (.cons (.bor (.all (len := (pvR (tagT d.runs)).length) (xs := pvR (tagT d.runs)) rfl rfl (by decide))) (.cons (.bor (.all (len := (pvI (d.snaps)).length) (xs := pvI (d.snaps)) rfl rfl (by decide))) .nil))))) .nil) (by decide) all_nil .nil (hsn) rfl rfl (nle rfl)) (.m rfl rfl (.r rfl (zAa rfl rfl rfl) (.r rfl (zAa rfl rfl rfl) (.r rfl (zAa rfl rfl rfl) (.run [] [5] rfl (zAj rfl 5 zBk rfl (by decide) rfl (by decide)) (.r rfl (zAE rfl rfl rfl rfl rfl sizeOf28 rfl (nle rfl)) (.a rfl rfl (.a rfl rfl .nil)))))))))) ?_
   refine zAB ?_
   refine zAY (s' := mk [(3, .ptr 3 0), (4, .p none (.sl false 3 (pvO ops))), (5, .ptr 5 0), (6, .vi z), (7, .vi c)] [(3, [.vi d.seq, .sl 2501 0 ((pvE (d.mem)).length), .sl 2502 0 ((pvR (tagT d.runs)).length), .sl 2503 0 ((pvI (d.snaps)).length)]), (5, [.vi s.seq, .sl 3001 0 ((pvE s.mem).length), .sl 3002 0 ((pvR (tagT s.runs)).length), .sl 3003 0 ((pvI s.snaps).length)])] [(2501, 4, pvE (d.mem)), (2502, 1, pvR (tagT d.runs)), (2503, 1, pvI (d.snaps)), (3001, 4, pvE s.mem), (3002, 1, pvR (tagT s.runs)), (3003, 1, pvI s.snaps)]) ?_ ?_
   · exact zAJ ⟨rfl, rfl, rfl, rfl, rfl, trivial⟩ ⟨rfl, rfl, trivial⟩ ⟨rfl, rfl, rfl, rfl, rfl, rfl, trivial⟩ rfl
   refine zAA rfl (.r rfl (zAG rfl rfl rfl isAgg28 sizeOf28 (nle rfl)) (.run [2501, 2502, 2503, 3600, 3601, 3602, 3603, 3604, 3605] [] rfl (zAK rfl 3600 (X := []) en16 rfl (.val nod) (.cons (.agg (.cons (.bor .v) (.cons (.bor (.all (len := (pvE (d.mem)).length) (xs := pvE (d.mem)) rfl rfl (by decide))) (.cons (.bor (.all (len := (pvR (tagT d.runs)).length) (xs := pvR (tagT d.runs)) rfl rfl (by decide))) (.cons (.bor (.all (len := (pvI (d.snaps)).length) (xs := pvI (d.snaps)) rfl rfl (by decide))) .nil))))) .nil) (by decide) all_nil .nil (hss) rfl rfl (nle rfl)) (.m rfl rfl (.r rfl (zAa rfl rfl rfl) (.r rfl (zAa rfl rfl rfl) (.r rfl (zAa rfl rfl rfl) (.run [] [8] rfl (zAj rfl 8 zBk rfl (by decide) rfl (by decide)) (.r rfl (zAE rfl rfl rfl rfl rfl sizeOf28 rfl (nle rfl)) (.a rfl rfl (.a rfl rfl .nil)))))))))) ?_
   refine zAB ?_
   refine zAB ?_
   refine zAY (s' := mk [(3, .ptr 3 0), (4, .p none (.sl false 3 (pvO ops))), (5, .ptr 5 0), (6, .vi z), (7, .vi c), (10, .vi c)] [(3, [.vi d.seq, .sl 2501 0 ((pvE (d.mem)).length), .sl 2502 0 ((pvR (tagT d.runs)).length), .sl 2503 0 ((pvI (d.snaps)).length)]), (5, [.vi s.seq, .sl 3001 0 ((pvE s.mem).length), .sl 3002 0 ((pvR (tagT s.runs)).length), .sl 3003 0 ((pvI s.snaps).length)])] [(2501, 4, pvE (d.mem)), (2502, 1, pvR (tagT d.runs)), (2503, 1, pvI (d.snaps)), (3001, 4, pvE s.mem), (3002, 1, pvR (tagT s.runs)), (3003, 1, pvI s.snaps)]) ?_ ?_
   · exact zAJ ⟨rfl, rfl, rfl, rfl, rfl, rfl, trivial⟩ ⟨rfl, rfl, trivial⟩ ⟨rfl, rfl, rfl, rfl, rfl, rfl, trivial⟩ rfl
   refine zAA rfl (.m rfl rfl (.m rfl rfl (.r rfl (zAW (zCg rfl rfl rfl) (zAN (congrArg Bool.not (decide_eq_true (by simp))))) (.m rfl rfl (.m rfl rfl (.r rfl (zCg rfl rfl rfl) (.r rfl (zBI rfl rfl) .nil))))))) ?_
   refine zAZ (t := (!(decide (c = 0)))) rfl (fun h3 => ?_) (fun h3 => ?_)
   ·
    replace h3 : ¬ (c = 0) := of_decide_eq_false (zBF h3)
    refine zAB (zAA rfl (.m rfl rfl (.m rfl rfl (.r rfl (zAW (zA8 rfl rfl rfl) (zAN (decide_eq_true (by simp)))) (.a rfl rfl .nil)))) ?_)
    refine zAO ?_
    exact ends [_] [] (.cons (.tmp rfl) .nil) (.cons (.one .v (.v _)) .nil) (by decide) trivial
   ·
    replace h3 : c = 0 := of_decide_eq_true (zBG h3)
    exact absurd h3 hc
  ·
   have hsn := zGs d hD
   rw [h1] at hsn
   try dsimp only at hsn
   have hss := zFR d hD
   rw [h2] at hss
   try dsimp only at hss
   have hls1 := zAF s.mem
   have hls2 := zAi (tagT s.runs)
   have hls3 := zAT s.snaps
   have hls4 := zBU s.runs
   have hDs := zEu hso
   have hDX := zEu hS.okX
   have hDf := zEu hS.okf
   have hDg := zEu hS.okg
   have hDx := zEu hS.okx
   have hwr := zHn s hDs ops (by omega)
   rw [hw] at hwr
   try dsimp only at hwr
   have hfl := zIK b hDX
   rw [hS.fl] at hfl
   try dsimp only at hfl
   have hcm := zGJ f hDf
   rw [hS.cm] at hcm
   try dsimp only at hcm
   have hfr := zJ8 g hDg d.seq
   rw [hS.fr] at hfr
   try dsimp only at hfr
   have hokx := zCa x hDx
   rw [hS.okx] at hokx
   try dsimp only at hokx
   have hscg := zDh g hDg d.seq ⟨#[]⟩ ⟨#[]⟩
   rw [hS.sc] at hscg
   try dsimp only at hscg
   have hscx := zDh x hDx d.seq ⟨#[]⟩ ⟨#[]⟩
   rw [hS.no] at hscx
   try dsimp only at hscx
   have hscd := zDh d hD (-1) ⟨#[]⟩ ⟨#[]⟩
   have hlb1 := zAF b.mem
   have hlb2 := zAi (tagT b.runs)
   have hlb3 := zAT b.snaps
   have hlb4 := zBU b.runs
   have hlf1 := zAF f.mem
   have hlf2 := zAi (tagT f.runs)
   have hlf3 := zAT f.snaps
   have hlf4 := zBU f.runs
   have hlg1 := zAF g.mem
   have hlg2 := zAi (tagT g.runs)
   have hlg3 := zAT g.snaps
   have hlg4 := zBU g.runs
   have hlx1 := zAF x.mem
   have hlx2 := zAi (tagT x.runs)
   have hlx3 := zAT x.snaps
   have hlx4 := zBU x.runs
   refine zAA rfl (.r rfl (zAG rfl rfl rfl isAgg28 sizeOf28 (nle rfl)) (.run [2501, 2502, 2503, 3000, 3001, 3002, 3003, 3004, 3005] [] rfl (zAK rfl 3000 (X := []) en15 rfl (.val nod) (.cons (.agg (.cons (.bor .v) (.cons (.bor (.all (len := (pvE (d.mem)).length) (xs := pvE (d.mem)) rfl rfl (by decide))) (.cons (.bor (.all (len := (pvR (tagT d.runs)).length) (xs := pvR (tagT d.runs)) rfl rfl (by decide))) (.cons (.bor (.all (len := (pvI (d.snaps)).length) (xs := pvI (d.snaps)) rfl rfl (by decide))) .nil))))) .nil) (by decide) all_nil .nil (hsn) rfl rfl (nle rfl)) (.m rfl rfl (.r rfl (zAa rfl rfl rfl) (.r rfl (zAa rfl rfl rfl) (.r rfl (zAa rfl rfl rfl) (.run [] [5] rfl (zAj rfl 5 zBk rfl (by decide) rfl (by decide)) (.r rfl (zAE rfl rfl rfl rfl rfl sizeOf28 rfl (nle rfl)) (.a rfl rfl (.a rfl rfl .nil)))))))))) ?_
   refine zAB ?_
   refine zAY (s' := mk [(3, .ptr 3 0), (4, .p none (.sl false 3 (pvO ops))), (5, .ptr 5 0), (6, .vi d.seq), (7, .vi 0)] [(3, [.vi d.seq, .sl 2501 0 ((pvE (d.mem)).length), .sl 2502 0 ((pvR (tagT d.runs)).length), .sl 2503 0 ((pvI (d.snaps)).length)]), (5, [.vi s.seq, .sl 3001 0 ((pvE s.mem).length), .sl 3002 0 ((pvR (tagT s.runs)).length), .sl 3003 0 ((pvI s.snaps).length)])] [(2501, 4, pvE (d.mem)), (2502, 1, pvR (tagT d.runs)), (2503, 1, pvI (d.snaps)), (3001, 4, pvE s.mem), (3002, 1, pvR (tagT s.runs)), (3003, 1, pvI s.snaps)]) ?_ ?_
   · exact zAJ ⟨rfl, rfl, rfl, rfl, rfl, trivial⟩ ⟨rfl, rfl, trivial⟩ ⟨rfl, rfl, rfl, rfl, rfl, rfl, trivial⟩ rfl
   refine zAA rfl (.r rfl (zAG rfl rfl rfl isAgg28 sizeOf28 (nle rfl)) (.run [2501, 2502, 2503, 3600, 3601, 3602, 3603, 3604, 3605] [] rfl (zAK rfl 3600 (X := []) en16 rfl (.val nod) (.cons (.agg (.cons (.bor .v) (.cons (.bor (.all (len := (pvE (d.mem)).length) (xs := pvE (d.mem)) rfl rfl (by decide))) (.cons (.bor (.all (len := (pvR (tagT d.runs)).length) (xs := pvR (tagT d.runs)) rfl rfl (by decide))) (.cons (.bor (.all (len := (pvI (d.snaps)).length) (xs := pvI (d.snaps)) rfl rfl (by decide))) .nil))))) .nil) (by decide) all_nil .nil (hss) rfl rfl (nle rfl)) (.m rfl rfl (.r rfl (zAa rfl rfl rfl) (.r rfl (zAa rfl rfl rfl) (.r rfl (zAa rfl rfl rfl) (.run [] [8] rfl (zAj rfl 8 zBk rfl (by decide) rfl (by decide)) (.r rfl (zAE rfl rfl rfl rfl rfl sizeOf28 rfl (nle rfl)) (.a rfl rfl (.a rfl rfl .nil)))))))))) ?_
   refine zAB ?_
   refine zAB ?_
   refine zAY (s' := mk [(3, .ptr 3 0), (4, .p none (.sl false 3 (pvO ops))), (5, .ptr 5 0), (6, .vi d.seq), (7, .vi 0), (10, .vi 0)] [(3, [.vi d.seq, .sl 2501 0 ((pvE (d.mem)).length), .sl 2502 0 ((pvR (tagT d.runs)).length), .sl 2503 0 ((pvI (d.snaps)).length)]), (5, [.vi s.seq, .sl 3001 0 ((pvE s.mem).length), .sl 3002 0 ((pvR (tagT s.runs)).length), .sl 3003 0 ((pvI s.snaps).length)])] [(2501, 4, pvE (d.mem)), (2502, 1, pvR (tagT d.runs)), (2503, 1, pvI (d.snaps)), (3001, 4, pvE s.mem), (3002, 1, pvR (tagT s.runs)), (3003, 1, pvI s.snaps)]) ?_ ?_
   · exact zAJ ⟨rfl, rfl, rfl, rfl, rfl, rfl, trivial⟩ ⟨rfl, rfl, trivial⟩ ⟨rfl, rfl, rfl, rfl, rfl, rfl, trivial⟩ rfl
   refine zAA rfl (.m rfl rfl (.m rfl rfl (.r rfl (zAW (zCg rfl rfl rfl) (zAN (congrArg Bool.not (decide_eq_true (by simp))))) (.m rfl rfl (.m rfl rfl (.r rfl (zAW (zCg rfl rfl rfl) (zAN (congrArg Bool.not (decide_eq_true (by simp))))) (.r rfl (zBI rfl rfl) .nil))))))) ?_
   refine zAZ (t := false) rfl (fun h => nomatch h) (fun _ => ?_)
   refine zAM ?_
   refine zAB (zAA rfl (.r rfl (zAG rfl rfl rfl isAgg28 sizeOf28 (nle rfl)) (.run [2501, 2502, 2503, 5200, 5201] [] rfl (zAK rfl 5200 (X := []) en12 rfl (.val nod) (.cons (.agg (.cons (.bor .v) (.cons (.bor (.all (len := (pvE (d.mem)).length) (xs := pvE (d.mem)) rfl rfl (by decide))) (.cons (.bor (.all (len := (pvR (tagT d.runs)).length) (xs := pvR (tagT d.runs)) rfl rfl (by decide))) (.cons (.bor (.all (len := (pvI (d.snaps)).length) (xs := pvI (d.snaps)) rfl rfl (by decide))) .nil))))) (.cons (.one (.bor .v)) (.cons (.one (.bor .v)) (.cons (.one (.bor .v)) .nil)))) (by decide) all_nil .nil (hscd) rfl rfl (nle rfl)) (.m rfl rfl (.r rfl (zAa rfl rfl rfl) (.r rfl (zAa rfl rfl rfl) (.a rfl rfl (.a rfl rfl .nil))))))) ?_)
   refine zAB ?_
   refine zAY (s' := mk [(3, .ptr 3 0), (4, .p none (.sl false 3 (pvO ops))), (5, .ptr 5 0), (6, .vi d.seq), (11, .sl 5200 0 ((pvP ((zBn d (-1) ⟨#[]⟩ ⟨#[]⟩).1)).length))] [(3, [.vi d.seq, .sl 2501 0 ((pvE (d.mem)).length), .sl 2502 0 ((pvR (tagT d.runs)).length), .sl 2503 0 ((pvI (d.snaps)).length)]), (5, [.vi s.seq, .sl 3001 0 ((pvE s.mem).length), .sl 3002 0 ((pvR (tagT s.runs)).length), .sl 3003 0 ((pvI s.snaps).length)])] [(2501, 4, pvE (d.mem)), (2502, 1, pvR (tagT d.runs)), (2503, 1, pvI (d.snaps)), (3001, 4, pvE s.mem), (3002, 1, pvR (tagT s.runs)), (3003, 1, pvI s.snaps), (5200, 2, pvP ((zBn d (-1) ⟨#[]⟩ ⟨#[]⟩).1))]) ?_ ?_
   · exact zAJ ⟨rfl, rfl, rfl, rfl, rfl, trivial⟩ ⟨rfl, rfl, trivial⟩ ⟨rfl, rfl, rfl, rfl, rfl, rfl, rfl, trivial⟩ rfl
   refine zAA rfl (.r rfl (zAG rfl rfl rfl isAgg28 sizeOf28 (nle rfl)) (.m rfl rfl (.run [3001, 3002, 3003, 5800, 5801, 5802, 5803, 5804] [] rfl (zAK rfl 5800 (X := []) en17 rfl (.val nod) (.cons (.agg (.cons (.bor .v) (.cons (.bor (.all (len := (pvE s.mem).length) (xs := pvE s.mem) rfl rfl (by decide))) (.cons (.bor (.all (len := (pvR (tagT s.runs)).length) (xs := pvR (tagT s.runs)) rfl rfl (by decide))) (.cons (.bor (.all (len := (pvI s.snaps).length) (xs := pvI s.snaps) rfl rfl (by decide))) .nil))))) (.cons (.one (.bor (.sl nod))) .nil)) (by decide) all_nil .nil (hwr) rfl rfl (nle rfl)) (.m rfl rfl (.r rfl (zAa rfl rfl rfl) (.r rfl (zAa rfl rfl rfl) (.run [] [13] rfl (zAj rfl 13 zBk rfl (by decide) rfl (by decide)) (.r rfl (zAE rfl rfl rfl rfl rfl sizeOf28 rfl (nle rfl)) (.a rfl rfl .nil))))))))) ?_
   refine zAB ?_
   refine zAB (zAA rfl (.m rfl rfl (.r rfl (zAW (zCg rfl rfl rfl) (zAN (congrArg Bool.not (decide_eq_true (by simp))))) .nil)) ?_)
   refine zAZ (t := false) rfl (fun h => nomatch h) (fun _ => ?_)
   refine zAM ?_
   refine zAB ?_
   refine zAY (s' := mk [(3, .ptr 3 0), (6, .vi d.seq), (11, .sl 5200 0 ((pvP ((zBn d (-1) ⟨#[]⟩ ⟨#[]⟩).1)).length)), (13, .ptr 13 0)] [(3, [.vi d.seq, .sl 2501 0 ((pvE (d.mem)).length), .sl 2502 0 ((pvR (tagT d.runs)).length), .sl 2503 0 ((pvI (d.snaps)).length)]), (13, [.vi b.seq, .sl 5801 0 ((pvE b.mem).length), .sl 5802 0 ((pvR (tagT b.runs)).length), .sl 5803 0 ((pvI b.snaps).length)])] [(2501, 4, pvE (d.mem)), (2502, 1, pvR (tagT d.runs)), (2503, 1, pvI (d.snaps)), (5200, 2, pvP ((zBn d (-1) ⟨#[]⟩ ⟨#[]⟩).1)), (5801, 4, pvE b.mem), (5802, 1, pvR (tagT b.runs)), (5803, 1, pvI b.snaps)]) ?_ ?_
   · exact zAJ ⟨rfl, rfl, rfl, rfl, trivial⟩ ⟨rfl, rfl, trivial⟩ ⟨rfl, rfl, rfl, rfl, rfl, rfl, rfl, trivial⟩ rfl
   refine zAA rfl (.r rfl (zAG rfl rfl rfl isAgg28 sizeOf28 (nle rfl)) (.run [5801, 5802, 5803, 6600, 6601, 6602, 6603, 6604] [] rfl (zAK rfl 6600 (X := []) en9 rfl (.val nod) (.cons (.agg (.cons (.bor .v) (.cons (.bor (.all (len := (pvE b.mem).length) (xs := pvE b.mem) rfl rfl (by decide))) (.cons (.bor (.all (len := (pvR (tagT b.runs)).length) (xs := pvR (tagT b.runs)) rfl rfl (by decide))) (.cons (.bor (.all (len := (pvI b.snaps).length) (xs := pvI b.snaps) rfl rfl (by decide))) .nil))))) .nil) (by decide) all_nil .nil (hfl) rfl rfl (nle rfl)) (.m rfl rfl (.r rfl (zAa rfl rfl rfl) (.r rfl (zAa rfl rfl rfl) (.r rfl (zAE rfl rfl rfl rfl rfl sizeOf28 rfl (nle rfl)) .nil)))))) ?_
   refine zAB (zAA rfl (.r rfl (zAG rfl rfl rfl isAgg28 sizeOf28 (nle rfl)) (.run [6601, 6602, 6603, 7100, 7101, 7102, 7103, 7104] [] rfl (zAK rfl 7100 (X := []) en10 rfl (.val nod) (.cons (.agg (.cons (.bor .v) (.cons (.bor (.all (len := (pvE f.mem).length) (xs := pvE f.mem) rfl rfl (by decide))) (.cons (.bor (.all (len := (pvR (tagT f.runs)).length) (xs := pvR (tagT f.runs)) rfl rfl (by decide))) (.cons (.bor (.all (len := (pvI f.snaps).length) (xs := pvI f.snaps) rfl rfl (by decide))) .nil))))) .nil) (by decide) all_nil .nil (hcm) rfl rfl (nle rfl)) (.m rfl rfl (.r rfl (zAa rfl rfl rfl) (.r rfl (zAa rfl rfl rfl) (.r rfl (zAE rfl rfl rfl rfl rfl sizeOf28 rfl (nle rfl)) .nil)))))) ?_)
   refine zAB ?_
   refine zAY (s' := mk [(3, .ptr 3 0), (6, .vi d.seq), (11, .sl 5200 0 ((pvP ((zBn d (-1) ⟨#[]⟩ ⟨#[]⟩).1)).length)), (13, .ptr 13 0)] [(3, [.vi d.seq, .sl 2501 0 ((pvE (d.mem)).length), .sl 2502 0 ((pvR (tagT d.runs)).length), .sl 2503 0 ((pvI (d.snaps)).length)]), (13, [.vi g.seq, .sl 7101 0 ((pvE g.mem).length), .sl 7102 0 ((pvR (tagT g.runs)).length), .sl 7103 0 ((pvI g.snaps).length)])] [(2501, 4, pvE (d.mem)), (2502, 1, pvR (tagT d.runs)), (2503, 1, pvI (d.snaps)), (5200, 2, pvP ((zBn d (-1) ⟨#[]⟩ ⟨#[]⟩).1)), (7101, 4, pvE g.mem), (7102, 1, pvR (tagT g.runs)), (7103, 1, pvI g.snaps)]) ?_ ?_
   · exact zAJ ⟨rfl, rfl, rfl, rfl, trivial⟩ ⟨rfl, rfl, trivial⟩ ⟨rfl, rfl, rfl, rfl, rfl, rfl, rfl, trivial⟩ rfl
   refine zAA rfl (.r rfl (zAG rfl rfl rfl isAgg28 sizeOf28 (nle rfl)) (.m rfl rfl (.run [7101, 7102, 7103, 7700, 7701] [] rfl (zAK rfl 7700 (X := []) en12 rfl (.val nod) (.cons (.agg (.cons (.bor .v) (.cons (.bor (.all (len := (pvE g.mem).length) (xs := pvE g.mem) rfl rfl (by decide))) (.cons (.bor (.all (len := (pvR (tagT g.runs)).length) (xs := pvR (tagT g.runs)) rfl rfl (by decide))) (.cons (.bor (.all (len := (pvI g.snaps).length) (xs := pvI g.snaps) rfl rfl (by decide))) .nil))))) (.cons (.one (.bor .v)) (.cons (.one (.bor .v)) (.cons (.one (.bor .v)) .nil)))) (by decide) all_nil .nil (hscg) rfl rfl (nle rfl)) (.m rfl rfl (.r rfl (zAa rfl rfl rfl) (.r rfl (zAa rfl rfl rfl) (.a rfl rfl (.a rfl rfl .nil)))))))) ?_
   refine zAB ?_
   refine zAB ?_
   refine zAY (s' := mk [(3, .ptr 3 0), (6, .vi d.seq), (11, .sl 5200 0 ((pvP ((zBn d (-1) ⟨#[]⟩ ⟨#[]⟩).1)).length)), (13, .ptr 13 0), (15, .sl 7700 0 ((pvP ((zBn d (-1) ⟨#[]⟩ ⟨#[]⟩).1)).length)), (16, .vi 0)] [(3, [.vi d.seq, .sl 2501 0 ((pvE (d.mem)).length), .sl 2502 0 ((pvR (tagT d.runs)).length), .sl 2503 0 ((pvI (d.snaps)).length)]), (13, [.vi g.seq, .sl 7101 0 ((pvE g.mem).length), .sl 7102 0 ((pvR (tagT g.runs)).length), .sl 7103 0 ((pvI g.snaps).length)])] [(2501, 4, pvE (d.mem)), (2502, 1, pvR (tagT d.runs)), (2503, 1, pvI (d.snaps)), (5200, 2, pvP ((zBn d (-1) ⟨#[]⟩ ⟨#[]⟩).1)), (7101, 4, pvE g.mem), (7102, 1, pvR (tagT g.runs)), (7103, 1, pvI g.snaps), (7700, 2, pvP ((zBn d (-1) ⟨#[]⟩ ⟨#[]⟩).1))]) ?_ ?_
   · exact zAJ ⟨rfl, rfl, rfl, rfl, rfl, rfl, trivial⟩ ⟨rfl, rfl, trivial⟩ ⟨rfl, rfl, rfl, rfl, rfl, rfl, rfl, rfl, trivial⟩ rfl
   refine zAA rfl (.m rfl rfl (.r rfl (zAW (zCg rfl rfl rfl) (zAN (congrArg Bool.not (decide_eq_true (by simp))))) (.m rfl rfl (.m rfl rfl (.m rfl rfl (.run [5200, 7700, 8500] [] rfl (zAK rfl 8500 (X := []) en13 rfl (.val nod) (.cons (.one (.bor (.all (len := (pvP ((zBn d (-1) ⟨#[]⟩ ⟨#[]⟩).1)).length) (xs := pvP ((zBn d (-1) ⟨#[]⟩ ⟨#[]⟩).1)) rfl rfl (by decide)))) (.cons (.one (.bor (.all (len := (pvP ((zBn d (-1) ⟨#[]⟩ ⟨#[]⟩).1)).length) (xs := pvP ((zBn d (-1) ⟨#[]⟩ ⟨#[]⟩).1)) rfl rfl (by decide)))) .nil)) (by decide) all_nil .nil (zEt ((zBn d (-1) ⟨#[]⟩ ⟨#[]⟩).1) (by omega)) rfl rfl (nle rfl)) (.r rfl (zA5 (b := true) rfl rfl) (.r rfl (zBI rfl rfl) (.m rfl rfl (.m rfl rfl (.r rfl (zAC rfl rfl underlying28 rfl sizeOf2 (by decide)) (.r rfl (zAD rfl rfl rfl isAgg2 rfl) (.r rfl (zAW (zCg rfl rfl rfl) (zAN (congrArg Bool.not (decide_eq_true (by simp))))) (.r rfl (zBI rfl rfl) .nil)))))))))))))) ?_
   refine zAZ (t := false) rfl (fun h => nomatch h) (fun _ => ?_)
   refine zAM ?_
   refine zAB ?_
   refine zAY (s' := mk [(6, .vi d.seq), (13, .ptr 13 0)] [(13, [.vi g.seq, .sl 7101 0 ((pvE g.mem).length), .sl 7102 0 ((pvR (tagT g.runs)).length), .sl 7103 0 ((pvI g.snaps).length)])] [(7101, 4, pvE g.mem), (7102, 1, pvR (tagT g.runs)), (7103, 1, pvI g.snaps)]) ?_ ?_
   · exact zAJ ⟨rfl, rfl, trivial⟩ ⟨rfl, trivial⟩ ⟨rfl, rfl, rfl, trivial⟩ rfl
   refine zAA rfl (.r rfl (zAG rfl rfl rfl isAgg28 sizeOf28 (nle rfl)) (.m rfl rfl (.run [7101, 7102, 7103, 9700, 9701, 9702, 9703, 9704] [] rfl (zAK rfl 9700 (X := []) en18 rfl (.val nod) (.cons (.agg (.cons (.bor .v) (.cons (.bor (.all (len := (pvE g.mem).length) (xs := pvE g.mem) rfl rfl (by decide))) (.cons (.bor (.all (len := (pvR (tagT g.runs)).length) (xs := pvR (tagT g.runs)) rfl rfl (by decide))) (.cons (.bor (.all (len := (pvI g.snaps).length) (xs := pvI g.snaps) rfl rfl (by decide))) .nil))))) (.cons (.one (.bor .v)) .nil)) (by decide) all_nil .nil (hfr) rfl rfl (nle rfl)) (.m rfl rfl (.r rfl (zAa rfl rfl rfl) (.r rfl (zAa rfl rfl rfl) (.run [] [17] rfl (zAj rfl 17 zBk rfl (by decide) rfl (by decide)) (.r rfl (zAE rfl rfl rfl rfl rfl sizeOf28 rfl (nle rfl)) (.a rfl rfl .nil))))))))) ?_
   refine zAB ?_
   refine zAY (s' := mk [(6, .vi d.seq), (17, .ptr 17 0), (18, .vi 0)] [(17, [.vi x.seq, .sl 9701 0 ((pvE x.mem).length), .sl 9702 0 ((pvR (tagT x.runs)).length), .sl 9703 0 ((pvI x.snaps).length)])] [(9701, 4, pvE x.mem), (9702, 1, pvR (tagT x.runs)), (9703, 1, pvI x.snaps)]) ?_ ?_
   · exact zAJ ⟨rfl, rfl, rfl, trivial⟩ ⟨rfl, trivial⟩ ⟨rfl, rfl, rfl, trivial⟩ rfl
   refine zAA rfl (.r rfl (zAG rfl rfl rfl isAgg28 sizeOf28 (nle rfl)) (.m rfl rfl (.run [9701, 9702, 9703, 10300, 10301] [] rfl (zAK rfl 10300 (X := []) en12 rfl (.val nod) (.cons (.agg (.cons (.bor .v) (.cons (.bor (.all (len := (pvE x.mem).length) (xs := pvE x.mem) rfl rfl (by decide))) (.cons (.bor (.all (len := (pvR (tagT x.runs)).length) (xs := pvR (tagT x.runs)) rfl rfl (by decide))) (.cons (.bor (.all (len := (pvI x.snaps).length) (xs := pvI x.snaps) rfl rfl (by decide))) .nil))))) (.cons (.one (.bor .v)) (.cons (.one (.bor .v)) (.cons (.one (.bor .v)) .nil)))) (by decide) all_nil .nil (hscx) rfl rfl (nle rfl)) (.m rfl rfl (.r rfl (zAa rfl rfl rfl) (.r rfl (zAa rfl rfl rfl) (.a rfl rfl (.a rfl rfl .nil)))))))) ?_
   refine zAB ?_
   refine zAY (s' := mk [(17, .ptr 17 0), (18, .vi 0), (20, .vi 4)] [(17, [.vi x.seq, .sl 9701 0 ((pvE x.mem).length), .sl 9702 0 ((pvR (tagT x.runs)).length), .sl 9703 0 ((pvI x.snaps).length)])] [(9701, 4, pvE x.mem), (9702, 1, pvR (tagT x.runs)), (9703, 1, pvI x.snaps)]) ?_ ?_
   · exact zAJ ⟨rfl, rfl, rfl, trivial⟩ ⟨rfl, trivial⟩ ⟨rfl, rfl, rfl, trivial⟩ rfl
   refine zAA rfl (.m rfl rfl (.r rfl (zAW (zA8 rfl rfl rfl) (zAN (decide_eq_true (by simp)))) (.m rfl rfl (.m rfl rfl (.r rfl (zAW (zA8 rfl rfl rfl) (zAN (decide_eq_true (by simp)))) (.r rfl (zBM rfl rfl) (.m rfl rfl (.r rfl (zAG rfl rfl rfl isAgg28 sizeOf28 (nle rfl)) (.run [9701, 9702, 9703, 11400] [] rfl (zAK rfl 11400 (X := []) en7 rfl (.val nod) (.cons (.agg (.cons (.bor .v) (.cons (.bor (.all (len := (pvE x.mem).length) (xs := pvE x.mem) rfl rfl (by decide))) (.cons (.bor (.all (len := (pvR (tagT x.runs)).length) (xs := pvR (tagT x.runs)) rfl rfl (by decide))) (.cons (.bor (.all (len := (pvI x.snaps).length) (xs := pvI x.snaps) rfl rfl (by decide))) .nil))))) .nil) (by decide) all_nil .nil (hokx) rfl rfl (nle rfl)) (.r rfl (zBM rfl rfl) (.a rfl rfl .nil))))))))))) ?_
   refine zAO ?_
   exact ends [_] [] (.cons (.tmp rfl) .nil) (.cons (.one .v (.v _)) .nil) (by decide) trivial
  ·
   have hsn := zGs d hD
   rw [h1] at hsn
   try dsimp only at hsn
   have hss := zFR d hD
   rw [h2] at hss
   try dsimp only at hss
   have hls1 := zAF s.mem
   have hls2 := zAi (tagT s.runs)
   have hls3 := zAT s.snaps
   have hls4 := zBU s.runs
   have hDs := zEu hso
   have hDX := zEu hS.okX
   have hDf := zEu hS.okf
   have hDg := zEu hS.okg
   have hDx := zEu hS.okx
   have hwr := zHn s hDs ops (by omega)
   rw [hw] at hwr
   try dsimp only at hwr
   have hfl := zIK s hDX
   rw [hS.fl] at hfl
   try dsimp only at hfl
   have hcm := zGJ f hDf
   rw [hS.cm] at hcm
   try dsimp only at hcm
   have hfr := zJ8 g hDg d.seq
   rw [hS.fr] at hfr
   try dsimp only at hfr
   have hokx := zCa x hDx
   rw [hS.okx] at hokx
   try dsimp only at hokx
   have hscg := zDh g hDg d.seq ⟨#[]⟩ ⟨#[]⟩
   rw [hS.sc] at hscg
   try dsimp only at hscg
   have hscx := zDh x hDx d.seq ⟨#[]⟩ ⟨#[]⟩
   rw [hS.no] at hscx
   try dsimp only at hscx
   have hscd := zDh d hD (-1) ⟨#[]⟩ ⟨#[]⟩
   have hlb1 := zAF b.mem
   have hlb2 := zAi (tagT b.runs)
   have hlb3 := zAT b.snaps
   have hlb4 := zBU b.runs
   have hlf1 := zAF f.mem
   have hlf2 := zAi (tagT f.runs)
   have hlf3 := zAT f.snaps
   have hlf4 := zBU f.runs
   have hlg1 := zAF g.mem
   have hlg2 := zAi (tagT g.runs)
   have hlg3 := zAT g.snaps
   have hlg4 := zBU g.runs
   have hlx1 := zAF x.mem
   have hlx2 := zAi (tagT x.runs)
   have hlx3 := zAT x.snaps
   have hlx4 := zBU x.runs
   refine zAA rfl (.r rfl (zAG rfl rfl rfl isAgg28 sizeOf28 (nle rfl)) (.run [2501, 2502, 2503, 3000, 3001, 3002, 3003, 3004, 3005] [] rfl (zAK rfl 3000 (X := []) en15 rfl (.val nod) (.cons (.agg (.cons (.bor .v) (.cons (.bor (.all (len := (pvE (d.mem)).length) (xs := pvE (d.mem)) rfl rfl (by decide))) (.cons (.bor (.all (len := (pvR (tagT d.runs)).length) (xs := pvR (tagT d.runs)) rfl rfl (by decide))) (.cons (.bor (.all (len := (pvI (d.snaps)).length) (xs := pvI (d.snaps)) rfl rfl (by decide))) .nil))))) .nil) (by decide) all_nil .nil (hsn) rfl rfl (nle rfl)) (.m rfl rfl (.r rfl (zAa rfl rfl rfl) (.r rfl (zAa rfl rfl rfl) (.r rfl (zAa rfl rfl rfl) (.run [] [5] rfl (zAj rfl 5 zBk rfl (by decide) rfl (by decide)) (.r rfl (zAE rfl rfl rfl rfl rfl sizeOf28 rfl (nle rfl)) (.a rfl rfl (.a rfl rfl .nil)))))))))) ?_
   refine zAB ?_
   refine zAY (s' := mk [(3, .ptr 3 0), (4, .p none (.sl false 3 (pvO ops))), (5, .ptr 5 0), (6, .vi d.seq), (7, .vi 0)] [(3, [.vi d.seq, .sl 2501 0 ((pvE (d.mem)).length), .sl 2502 0 ((pvR (tagT d.runs)).length), .sl 2503 0 ((pvI (d.snaps)).length)]), (5, [.vi s.seq, .sl 3001 0 ((pvE s.mem).length), .sl 3002 0 ((pvR (tagT s.runs)).length), .sl 3003 0 ((pvI s.snaps).length)])] [(2501, 4, pvE (d.mem)), (2502, 1, pvR (tagT d.runs)), (2503, 1, pvI (d.snaps)), (3001, 4, pvE s.mem), (3002, 1, pvR (tagT s.runs)), (3003, 1, pvI s.snaps)]) ?_ ?_
   · exact zAJ ⟨rfl, rfl, rfl, rfl, rfl, trivial⟩ ⟨rfl, rfl, trivial⟩ ⟨rfl, rfl, rfl, rfl, rfl, rfl, trivial⟩ rfl
   refine zAA rfl (.r rfl (zAG rfl rfl rfl isAgg28 sizeOf28 (nle rfl)) (.run [2501, 2502, 2503, 3600, 3601, 3602, 3603, 3604, 3605] [] rfl (zAK rfl 3600 (X := []) en16 rfl (.val nod) (.cons (.agg (.cons (.bor .v) (.cons (.bor (.all (len := (pvE (d.mem)).length) (xs := pvE (d.mem)) rfl rfl (by decide))) (.cons (.bor (.all (len := (pvR (tagT d.runs)).length) (xs := pvR (tagT d.runs)) rfl rfl (by decide))) (.cons (.bor (.all (len := (pvI (d.snaps)).length) (xs := pvI (d.snaps)) rfl rfl (by decide))) .nil))))) .nil) (by decide) all_nil .nil (hss) rfl rfl (nle rfl)) (.m rfl rfl (.r rfl (zAa rfl rfl rfl) (.r rfl (zAa rfl rfl rfl) (.r rfl (zAa rfl rfl rfl) (.run [] [8] rfl (zAj rfl 8 zBk rfl (by decide) rfl (by decide)) (.r rfl (zAE rfl rfl rfl rfl rfl sizeOf28 rfl (nle rfl)) (.a rfl rfl (.a rfl rfl .nil)))))))))) ?_
   refine zAB ?_
   refine zAB ?_
   refine zAY (s' := mk [(3, .ptr 3 0), (4, .p none (.sl false 3 (pvO ops))), (5, .ptr 5 0), (6, .vi d.seq), (7, .vi 0), (10, .vi 0)] [(3, [.vi d.seq, .sl 2501 0 ((pvE (d.mem)).length), .sl 2502 0 ((pvR (tagT d.runs)).length), .sl 2503 0 ((pvI (d.snaps)).length)]), (5, [.vi s.seq, .sl 3001 0 ((pvE s.mem).length), .sl 3002 0 ((pvR (tagT s.runs)).length), .sl 3003 0 ((pvI s.snaps).length)])] [(2501, 4, pvE (d.mem)), (2502, 1, pvR (tagT d.runs)), (2503, 1, pvI (d.snaps)), (3001, 4, pvE s.mem), (3002, 1, pvR (tagT s.runs)), (3003, 1, pvI s.snaps)]) ?_ ?_
   · exact zAJ ⟨rfl, rfl, rfl, rfl, rfl, rfl, trivial⟩ ⟨rfl, rfl, trivial⟩ ⟨rfl, rfl, rfl, rfl, rfl, rfl, trivial⟩ rfl
   refine zAA rfl (.m rfl rfl (.m rfl rfl (.r rfl (zAW (zCg rfl rfl rfl) (zAN (congrArg Bool.not (decide_eq_true (by simp))))) (.m rfl rfl (.m rfl rfl (.r rfl (zAW (zCg rfl rfl rfl) (zAN (congrArg Bool.not (decide_eq_true (by simp))))) (.r rfl (zBI rfl rfl) .nil))))))) ?_
   refine zAZ (t := false) rfl (fun h => nomatch h) (fun _ => ?_)
   refine zAM ?_
   refine zAB (zAA rfl (.r rfl (zAG rfl rfl rfl isAgg28 sizeOf28 (nle rfl)) (.run [2501, 2502, 2503, 5200, 5201] [] rfl (zAK rfl 5200 (X := []) en12 rfl (.val nod) (.cons (.agg (.cons (.bor .v) (.cons (.bor (.all (len := (pvE (d.mem)).length) (xs := pvE (d.mem)) rfl rfl (by decide))) (.cons (.bor (.all (len := (pvR (tagT d.runs)).length) (xs := pvR (tagT d.runs)) rfl rfl (by decide))) (.cons (.bor (.all (len := (pvI (d.snaps)).length) (xs := pvI (d.snaps)) rfl rfl (by decide))) .nil))))) (.cons (.one (.bor .v)) (.cons (.one (.bor .v)) (.cons (.one (.bor .v)) .nil)))) (by decide) all_nil .nil (hscd) rfl rfl (nle rfl)) (.m rfl rfl (.r rfl (zAa rfl rfl rfl) (.r rfl (zAa rfl rfl rfl) (.a rfl rfl (.a rfl rfl .nil))))))) ?_)
   refine zAB ?_
   refine zAY (s' := mk [(3, .ptr 3 0), (4, .p none (.sl false 3 (pvO ops))), (5, .ptr 5 0), (6, .vi d.seq), (11, .sl 5200 0 ((pvP ((zBn d (-1) ⟨#[]⟩ ⟨#[]⟩).1)).length))] [(3, [.vi d.seq, .sl 2501 0 ((pvE (d.mem)).length), .sl 2502 0 ((pvR (tagT d.runs)).length), .sl 2503 0 ((pvI (d.snaps)).length)]), (5, [.vi s.seq, .sl 3001 0 ((pvE s.mem).length), .sl 3002 0 ((pvR (tagT s.runs)).length), .sl 3003 0 ((pvI s.snaps).length)])] [(2501, 4, pvE (d.mem)), (2502, 1, pvR (tagT d.runs)), (2503, 1, pvI (d.snaps)), (3001, 4, pvE s.mem), (3002, 1, pvR (tagT s.runs)), (3003, 1, pvI s.snaps), (5200, 2, pvP ((zBn d (-1) ⟨#[]⟩ ⟨#[]⟩).1))]) ?_ ?_
   · exact zAJ ⟨rfl, rfl, rfl, rfl, rfl, trivial⟩ ⟨rfl, rfl, trivial⟩ ⟨rfl, rfl, rfl, rfl, rfl, rfl, rfl, trivial⟩ rfl
   refine zAA rfl (.r rfl (zAG rfl rfl rfl isAgg28 sizeOf28 (nle rfl)) (.m rfl rfl (.run [3001, 3002, 3003, 5800, 5801, 5802, 5803, 5804] [] rfl (zAK rfl 5800 (X := []) en17 rfl (.val nod) (.cons (.agg (.cons (.bor .v) (.cons (.bor (.all (len := (pvE s.mem).length) (xs := pvE s.mem) rfl rfl (by decide))) (.cons (.bor (.all (len := (pvR (tagT s.runs)).length) (xs := pvR (tagT s.runs)) rfl rfl (by decide))) (.cons (.bor (.all (len := (pvI s.snaps).length) (xs := pvI s.snaps) rfl rfl (by decide))) .nil))))) (.cons (.one (.bor (.sl nod))) .nil)) (by decide) all_nil .nil (hwr) rfl rfl (nle rfl)) (.m rfl rfl (.r rfl (zAa rfl rfl rfl) (.r rfl (zAa rfl rfl rfl) (.run [] [13] rfl (zAj rfl 13 zBk rfl (by decide) rfl (by decide)) (.r rfl (zAE rfl rfl rfl rfl rfl sizeOf28 rfl (nle rfl)) (.a rfl rfl .nil))))))))) ?_
   refine zAB ?_
   refine zAB (zAA rfl (.m rfl rfl (.r rfl (zCg rfl rfl rfl) .nil)) ?_)
   refine zAZ (t := (!(decide (e = 0)))) rfl (fun h4 => ?_) (fun h4 => ?_)
   ·
    replace h4 : ¬ (e = 0) := of_decide_eq_false (zBF h4)
    refine zAA rfl (.r rfl (zAG rfl rfl rfl isAgg28 sizeOf28 (nle rfl)) (.r rfl (zAE rfl rfl rfl rfl rfl sizeOf28 rfl (nle rfl)) .nil)) ?_
    refine zAB ?_
    refine zAY (s' := mk [(3, .ptr 3 0), (6, .vi d.seq), (11, .sl 5200 0 ((pvP ((zBn d (-1) ⟨#[]⟩ ⟨#[]⟩).1)).length)), (13, .ptr 13 0)] [(3, [.vi d.seq, .sl 2501 0 ((pvE (d.mem)).length), .sl 2502 0 ((pvR (tagT d.runs)).length), .sl 2503 0 ((pvI (d.snaps)).length)]), (13, [.vi s.seq, .sl 3001 0 ((pvE s.mem).length), .sl 3002 0 ((pvR (tagT s.runs)).length), .sl 3003 0 ((pvI s.snaps).length)])] [(2501, 4, pvE (d.mem)), (2502, 1, pvR (tagT d.runs)), (2503, 1, pvI (d.snaps)), (3001, 4, pvE s.mem), (3002, 1, pvR (tagT s.runs)), (3003, 1, pvI s.snaps), (5200, 2, pvP ((zBn d (-1) ⟨#[]⟩ ⟨#[]⟩).1))]) ?_ ?_
    · exact zAJ ⟨rfl, rfl, rfl, rfl, trivial⟩ ⟨rfl, rfl, trivial⟩ ⟨rfl, rfl, rfl, rfl, rfl, rfl, rfl, trivial⟩ rfl
    refine zAA rfl (.r rfl (zAG rfl rfl rfl isAgg28 sizeOf28 (nle rfl)) (.run [3001, 3002, 3003, 6600, 6601, 6602, 6603, 6604] [] rfl (zAK rfl 6600 (X := []) en9 rfl (.val nod) (.cons (.agg (.cons (.bor .v) (.cons (.bor (.all (len := (pvE s.mem).length) (xs := pvE s.mem) rfl rfl (by decide))) (.cons (.bor (.all (len := (pvR (tagT s.runs)).length) (xs := pvR (tagT s.runs)) rfl rfl (by decide))) (.cons (.bor (.all (len := (pvI s.snaps).length) (xs := pvI s.snaps) rfl rfl (by decide))) .nil))))) .nil) (by decide) all_nil .nil (hfl) rfl rfl (nle rfl)) (.m rfl rfl (.r rfl (zAa rfl rfl rfl) (.r rfl (zAa rfl rfl rfl) (.r rfl (zAE rfl rfl rfl rfl rfl sizeOf28 rfl (nle rfl)) .nil)))))) ?_
    refine zAB (zAA rfl (.r rfl (zAG rfl rfl rfl isAgg28 sizeOf28 (nle rfl)) (.run [6601, 6602, 6603, 7100, 7101, 7102, 7103, 7104] [] rfl (zAK rfl 7100 (X := []) en10 rfl (.val nod) (.cons (.agg (.cons (.bor .v) (.cons (.bor (.all (len := (pvE f.mem).length) (xs := pvE f.mem) rfl rfl (by decide))) (.cons (.bor (.all (len := (pvR (tagT f.runs)).length) (xs := pvR (tagT f.runs)) rfl rfl (by decide))) (.cons (.bor (.all (len := (pvI f.snaps).length) (xs := pvI f.snaps) rfl rfl (by decide))) .nil))))) .nil) (by decide) all_nil .nil (hcm) rfl rfl (nle rfl)) (.m rfl rfl (.r rfl (zAa rfl rfl rfl) (.r rfl (zAa rfl rfl rfl) (.r rfl (zAE rfl rfl rfl rfl rfl sizeOf28 rfl (nle rfl)) .nil)))))) ?_)
    refine zAB ?_
    refine zAY (s' := mk [(3, .ptr 3 0), (6, .vi d.seq), (11, .sl 5200 0 ((pvP ((zBn d (-1) ⟨#[]⟩ ⟨#[]⟩).1)).length)), (13, .ptr 13 0)] [(3, [.vi d.seq, .sl 2501 0 ((pvE (d.mem)).length), .sl 2502 0 ((pvR (tagT d.runs)).length), .sl 2503 0 ((pvI (d.snaps)).length)]), (13, [.vi g.seq, .sl 7101 0 ((pvE g.mem).length), .sl 7102 0 ((pvR (tagT g.runs)).length), .sl 7103 0 ((pvI g.snaps).length)])] [(2501, 4, pvE (d.mem)), (2502, 1, pvR (tagT d.runs)), (2503, 1, pvI (d.snaps)), (5200, 2, pvP ((zBn d (-1) ⟨#[]⟩ ⟨#[]⟩).1)), (7101, 4, pvE g.mem), (7102, 1, pvR (tagT g.runs)), (7103, 1, pvI g.snaps)]) ?_ ?_
    · exact zAJ ⟨rfl, rfl, rfl, rfl, trivial⟩ ⟨rfl, rfl, trivial⟩ ⟨rfl, rfl, rfl, rfl, rfl, rfl, rfl, trivial⟩ rfl
    refine zAA rfl (.r rfl (zAG rfl rfl rfl isAgg28 sizeOf28 (nle rfl)) (.m rfl rfl (.run [7101, 7102, 7103, 7700, 7701] [] rfl (zAK rfl 7700 (X := []) en12 rfl (.val nod) (.cons (.agg (.cons (.bor .v) (.cons (.bor (.all (len := (pvE g.mem).length) (xs := pvE g.mem) rfl rfl (by decide))) (.cons (.bor (.all (len := (pvR (tagT g.runs)).length) (xs := pvR (tagT g.runs)) rfl rfl (by decide))) (.cons (.bor (.all (len := (pvI g.snaps).length) (xs := pvI g.snaps) rfl rfl (by decide))) .nil))))) (.cons (.one (.bor .v)) (.cons (.one (.bor .v)) (.cons (.one (.bor .v)) .nil)))) (by decide) all_nil .nil (hscg) rfl rfl (nle rfl)) (.m rfl rfl (.r rfl (zAa rfl rfl rfl) (.r rfl (zAa rfl rfl rfl) (.a rfl rfl (.a rfl rfl .nil)))))))) ?_
    refine zAB ?_
    refine zAB ?_
    refine zAY (s' := mk [(3, .ptr 3 0), (6, .vi d.seq), (11, .sl 5200 0 ((pvP ((zBn d (-1) ⟨#[]⟩ ⟨#[]⟩).1)).length)), (13, .ptr 13 0), (15, .sl 7700 0 ((pvP ((zBn d (-1) ⟨#[]⟩ ⟨#[]⟩).1)).length)), (16, .vi 0)] [(3, [.vi d.seq, .sl 2501 0 ((pvE (d.mem)).length), .sl 2502 0 ((pvR (tagT d.runs)).length), .sl 2503 0 ((pvI (d.snaps)).length)]), (13, [.vi g.seq, .sl 7101 0 ((pvE g.mem).length), .sl 7102 0 ((pvR (tagT g.runs)).length), .sl 7103 0 ((pvI g.snaps).length)])] [(2501, 4, pvE (d.mem)), (2502, 1, pvR (tagT d.runs)), (2503, 1, pvI (d.snaps)), (5200, 2, pvP ((zBn d (-1) ⟨#[]⟩ ⟨#[]⟩).1)), (7101, 4, pvE g.mem), (7102, 1, pvR (tagT g.runs)), (7103, 1, pvI g.snaps), (7700, 2, pvP ((zBn d (-1) ⟨#[]⟩ ⟨#[]⟩).1))]) ?_ ?_
    · exact zAJ ⟨rfl, rfl, rfl, rfl, rfl, rfl, trivial⟩ ⟨rfl, rfl, trivial⟩ ⟨rfl, rfl, rfl, rfl, rfl, rfl, rfl, rfl, trivial⟩ rfl
    refine zAA rfl (.m rfl rfl (.r rfl (zAW (zCg rfl rfl rfl) (zAN (congrArg Bool.not (decide_eq_true (by simp))))) (.m rfl rfl (.m rfl rfl (.m rfl rfl (.run [5200, 7700, 8500] [] rfl (zAK rfl 8500 (X := []) en13 rfl (.val nod) (.cons (.one (.bor (.all (len := (pvP ((zBn d (-1) ⟨#[]⟩ ⟨#[]⟩).1)).length) (xs := pvP ((zBn d (-1) ⟨#[]⟩ ⟨#[]⟩).1)) rfl rfl (by decide)))) (.cons (.one (.bor (.all (len := (pvP ((zBn d (-1) ⟨#[]⟩ ⟨#[]⟩).1)).length) (xs := pvP ((zBn d (-1) ⟨#[]⟩ ⟨#[]⟩).1)) rfl rfl (by decide)))) .nil)) (by decide) all_nil .nil (zEt ((zBn d (-1) ⟨#[]⟩ ⟨#[]⟩).1) (by omega)) rfl rfl (nle rfl)) (.r rfl (zA5 (b := true) rfl rfl) (.r rfl (zBI rfl rfl) (.m rfl rfl (.m rfl rfl (.r rfl (zAC rfl rfl underlying28 rfl sizeOf2 (by decide)) (.r rfl (zAD rfl rfl rfl isAgg2 rfl) (.r rfl (zAW (zCg rfl rfl rfl) (zAN (congrArg Bool.not (decide_eq_true (by simp))))) (.r rfl (zBI rfl rfl) .nil)))))))))))))) ?_
    refine zAZ (t := false) rfl (fun h => nomatch h) (fun _ => ?_)
    refine zAM ?_
    refine zAB ?_
    refine zAY (s' := mk [(6, .vi d.seq), (13, .ptr 13 0)] [(13, [.vi g.seq, .sl 7101 0 ((pvE g.mem).length), .sl 7102 0 ((pvR (tagT g.runs)).length), .sl 7103 0 ((pvI g.snaps).length)])] [(7101, 4, pvE g.mem), (7102, 1, pvR (tagT g.runs)), (7103, 1, pvI g.snaps)]) ?_ ?_
    · exact zAJ ⟨rfl, rfl, trivial⟩ ⟨rfl, trivial⟩ ⟨rfl, rfl, rfl, trivial⟩ rfl
    refine zAA rfl (.r rfl (zAG rfl rfl rfl isAgg28 sizeOf28 (nle rfl)) (.m rfl rfl (.run [7101, 7102, 7103, 9700, 9701, 9702, 9703, 9704] [] rfl (zAK rfl 9700 (X := []) en18 rfl (.val nod) (.cons (.agg (.cons (.bor .v) (.cons (.bor (.all (len := (pvE g.mem).length) (xs := pvE g.mem) rfl rfl (by decide))) (.cons (.bor (.all (len := (pvR (tagT g.runs)).length) (xs := pvR (tagT g.runs)) rfl rfl (by decide))) (.cons (.bor (.all (len := (pvI g.snaps).length) (xs := pvI g.snaps) rfl rfl (by decide))) .nil))))) (.cons (.one (.bor .v)) .nil)) (by decide) all_nil .nil (hfr) rfl rfl (nle rfl)) (.m rfl rfl (.r rfl (zAa rfl rfl rfl) (.r rfl (zAa rfl rfl rfl) (.run [] [17] rfl (zAj rfl 17 zBk rfl (by decide) rfl (by decide)) (.r rfl (zAE rfl rfl rfl rfl rfl sizeOf28 rfl (nle rfl)) (.a rfl rfl .nil))))))))) ?_
    refine zAB ?_
    refine zAY (s' := mk [(6, .vi d.seq), (17, .ptr 17 0), (18, .vi 0)] [(17, [.vi x.seq, .sl 9701 0 ((pvE x.mem).length), .sl 9702 0 ((pvR (tagT x.runs)).length), .sl 9703 0 ((pvI x.snaps).length)])] [(9701, 4, pvE x.mem), (9702, 1, pvR (tagT x.runs)), (9703, 1, pvI x.snaps)]) ?_ ?_
    · exact zAJ ⟨rfl, rfl, rfl, trivial⟩ ⟨rfl, trivial⟩ ⟨rfl, rfl, rfl, trivial⟩ rfl
    refine zAA rfl (.r rfl (zAG rfl rfl rfl isAgg28 sizeOf28 (nle rfl)) (.m rfl rfl (.run [9701, 9702, 9703, 10300, 10301] [] rfl (zAK rfl 10300 (X := []) en12 rfl (.val nod) (.cons (.agg (.cons (.bor .v) (.cons (.bor (.all (len := (pvE x.mem).length) (xs := pvE x.mem) rfl rfl (by decide))) (.cons (.bor (.all (len := (pvR (tagT x.runs)).length) (xs := pvR (tagT x.runs)) rfl rfl (by decide))) (.cons (.bor (.all (len := (pvI x.snaps).length) (xs := pvI x.snaps) rfl rfl (by decide))) .nil))))) (.cons (.one (.bor .v)) (.cons (.one (.bor .v)) (.cons (.one (.bor .v)) .nil)))) (by decide) all_nil .nil (hscx) rfl rfl (nle rfl)) (.m rfl rfl (.r rfl (zAa rfl rfl rfl) (.r rfl (zAa rfl rfl rfl) (.a rfl rfl (.a rfl rfl .nil)))))))) ?_
    refine zAB ?_
    refine zAY (s' := mk [(17, .ptr 17 0), (18, .vi 0), (20, .vi 4)] [(17, [.vi x.seq, .sl 9701 0 ((pvE x.mem).length), .sl 9702 0 ((pvR (tagT x.runs)).length), .sl 9703 0 ((pvI x.snaps).length)])] [(9701, 4, pvE x.mem), (9702, 1, pvR (tagT x.runs)), (9703, 1, pvI x.snaps)]) ?_ ?_
    · exact zAJ ⟨rfl, rfl, rfl, trivial⟩ ⟨rfl, trivial⟩ ⟨rfl, rfl, rfl, trivial⟩ rfl
    refine zAA rfl (.m rfl rfl (.r rfl (zAW (zA8 rfl rfl rfl) (zAN (decide_eq_true (by simp)))) (.m rfl rfl (.m rfl rfl (.r rfl (zAW (zA8 rfl rfl rfl) (zAN (decide_eq_true (by simp)))) (.r rfl (zBM rfl rfl) (.m rfl rfl (.r rfl (zAG rfl rfl rfl isAgg28 sizeOf28 (nle rfl)) (.run [9701, 9702, 9703, 11400] [] rfl (zAK rfl 11400 (X := []) en7 rfl (.val nod) (.cons (.agg (.cons (.bor .v) (.cons (.bor (.all (len := (pvE x.mem).length) (xs := pvE x.mem) rfl rfl (by decide))) (.cons (.bor (.all (len := (pvR (tagT x.runs)).length) (xs := pvR (tagT x.runs)) rfl rfl (by decide))) (.cons (.bor (.all (len := (pvI x.snaps).length) (xs := pvI x.snaps) rfl rfl (by decide))) .nil))))) .nil) (by decide) all_nil .nil (hokx) rfl rfl (nle rfl)) (.r rfl (zBM rfl rfl) (.a rfl rfl .nil))))))))))) ?_
    refine zAO ?_
    exact ends [_] [] (.cons (.tmp rfl) .nil) (.cons (.one .v (.v _)) .nil) (by decide) trivial
   ·
    replace h4 : e = 0 := of_decide_eq_true (zBG h4)
    exact absurd h4 he
end Go.Rl

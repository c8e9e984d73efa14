/- Promises of functions, proved by walks over their operations; no conditions beyond those that each theorem states. -/
import Derived.Test.YtgdfpjpfomcilaaGreatRhL
set_option linter.unusedSimpArgs false
set_option linter.unusedVariables false
namespace Go.Rl
open Go.Proofs Go.Proofs.Tryz
set_option maxRecDepth 1000000
set_option maxHeartbeats 2000000
theorem en5 : En Tryz.prog 5 := zAn func5 (by decide) rfl
theorem en6 : En Tryz.prog 6 := zAn func6 (by decide) rfl
theorem en9 : En Tryz.prog 9 := zAn func9 (by decide) rfl
theorem en10 : En Tryz.prog 10 := zAn func10 (by decide) rfl
theorem en12 : En Tryz.prog 12 := zAn func12 (by decide) rfl
theorem en13 : En Tryz.prog 13 := zAn func13 (by decide) rfl
theorem zJE (d : Eng) (a : Int) (f t : ByteArray) : (zD8 d a f t).1.length ≤ 400 := by
 unfold zD8
 split
 ·
  rename_i ho
  split
  ·
   have h1 := zF8 (allI d) (askI d a) (zAr (allI d))
   rw [← visF] at h1
   have h2 := zE3 (allI d)
   have h3 := zIw (d := d) ho
   exact Nat.le_trans (List.length_filter_le _ _) (by omega)
  · exact Nat.zero_le _
 · exact Nat.zero_le _
theorem zFp {γ : Gho} {cv : Value} {bs : List Nat} (hc : zCW γ cv bs) (hl : bs.length ≤ 1152921504606846976) : ConG γ Tryz.prog 6 [.one (PV.v (cv))] [] [.agg [.v (.int .i64 ((dbV bs 0).seq)), .sl true 4 (pvE ((dbV bs 0).mem)), .sl true 1 (pvR (tagT (dbV bs 0).runs)), .sl true 1 (pvI ((dbV bs 0).snaps))]] := by
 refine zAS func6 rfl rfl rfl rfl ?_
 have hp : (0:Nat) ≤ bs.length := Nat.zero_le _
 refine zAB (zAA rfl (.run [] [2] rfl (zAl rfl 2 zBy rfl (by decide) rfl (by decide)) .nil) ?_)
 refine zAB (zAA rfl (.m rfl rfl (.run [500] [] rfl (zAx (.inr rfl) rfl 500 (X := []) en19 rfl (.val nod) (.cons (.one (.bor .v)) .nil) (by decide) all_nil .nil (zO2 cv) rfl rfl (nle rfl)) (.a rfl rfl .nil))) ?_)
 refine zAB (zAA rfl (.m rfl rfl (.run [500, 700, 701, 702, 703] [] rfl (zAx (.inr rfl) rfl 700 (X := [500]) en20 rfl (.val nod) (.cons (.rptr rfl) .nil) (by decide) (all_cons rfl all_nil) (.keep (xs := pvRd (cv, 0)) rfl (FlatP.nf (zAc _)) .nil) (db_con hc hl 0 (Nat.zero_le _)) rfl rfl (nle rfl)) (.r rfl (zAE rfl rfl rfl rfl rfl sizeOf28 rfl (nle rfl)) .nil))) ?_)
 refine zAO ?_
 exact ends [_] [701, 702, 703] (.cons (.cell rfl rfl isAgg28 sizeOf28 (nle rfl)) .nil) (.cons (.agg (.cons .v (.cons (.row (len := (pvE ((dbV bs 0).mem)).length) (xs := pvE ((dbV bs 0).mem)) rfl rfl) (.cons (.row (len := (pvR (tagT (dbV bs 0).runs)).length) (xs := pvR (tagT (dbV bs 0).runs)) rfl rfl) (.cons (.row (len := (pvI ((dbV bs 0).snaps)).length) (xs := pvI ((dbV bs 0).snaps)) rfl rfl) .nil)))) (zAN (.v _) (zAN (.sl _ _ (FlatP.clean (zAg _))) (zAN (zAv _) (zAN (.sl _ _ (FlatP.clean (zA7 _))) zBQ))))) .nil) (by decide) trivial
theorem zHH {γ : Gho} {cv : Value} {bs : List Nat} (hc0 : zCW γ cv bs) : ConG γ Tryz.prog 3 [.one (PV.v (cv))] [] [.one (.v (.bool true))] := by
 refine zAS func3 rfl rfl rfl rfl ?_
 refine zAB (zAA rfl (.a rfl rfl .nil) ?_)
 refine zAB ?_
 refine zAB (zAA rfl (.m rfl rfl (.run [2100] [] rfl (zAx (.inr rfl) rfl 2100 (X := []) en5 rfl (.val nod) (.cons (.one (.bor .v)) .nil) (by decide) all_nil .nil (big_con hc0) rfl rfl (nle rfl)) .nil)) ?_)
 refine zAb (t := decide ((1048576 : Int) < (bs.length : Int))) rfl (fun h1 => ?_) (fun h1 => ?_)
 ·
  replace h1 := of_decide_eq_true h1
  refine zAB (zAA rfl (.a rfl rfl .nil) ?_)
  refine zAO ?_
  exact ends [_] [] (.cons (.tmp rfl) .nil) (.cons (.one .v (.v _)) .nil) (by decide) trivial
 ·
  replace h1 := of_decide_eq_false h1
  refine zAL ?_
  refine zAB (zAA rfl (.m rfl rfl (.run [2300, 2301, 2302, 2303] [] rfl (zAx (.inr rfl) rfl 2300 (X := []) en6 rfl (.val nod) (.cons (.one (.bor .v)) .nil) (by decide) all_nil .nil (zFp hc0 (by omega)) rfl rfl (nle rfl)) (.run [] [3] rfl (zAl rfl 3 zBy rfl (by decide) rfl (by decide)) (.r rfl (zAE rfl rfl rfl rfl rfl sizeOf28 rfl (nle rfl)) .nil)))) ?_)
  have hD := dbV_eb bs 0
  have hR := dbV_er bs 0
  generalize dbV bs 0 = d at hD hR ⊢
  have hld1 := zAF d.mem
  have hld2 := zAk (tagT d.runs)
  have hld3 := zAU d.snaps
  have hld4 := zBv d.runs
  refine zAB ?_
  refine zAB ?_
  rcases zMD hR with ⟨h1, h2⟩ | ⟨h1, h2, a, ca, b, c, b2, e, hf, hcc, rfl | rfl, hcd, hs, hu⟩
  ·
   have hokd := zB6 d hD
   rw [h1] at hokd
   try dsimp only at hokd
   have hos := zCT d hD
   rw [h2] at hos
   try dsimp only at hos
   refine zAV (s' := mk [(3, .ptr 3 0)] [(3, [.vi d.seq, .sl 2301 0 ((pvE (d.mem)).length), .sl 2302 0 ((pvR (tagT d.runs)).length), .sl 2303 0 ((pvI (d.snaps)).length)])] [(2301, 4, pvE (d.mem)), (2302, 1, pvR (tagT d.runs)), (2303, 1, pvI (d.snaps))]) ?_ ?_
   · exact zAI ⟨rfl, trivial⟩ ⟨rfl, trivial⟩ ⟨rfl, rfl, rfl, trivial⟩ rfl
   refine zAZ zBD rfl (.r rfl (zAG rfl rfl rfl isAgg28 sizeOf28 (nle rfl)) (.run [2301, 2302, 2303, 2500] [] rfl (zAK rfl 2500 (X := []) en7 rfl (.val nod) (.cons (.agg (.cons (.bor .v) (.cons (.bor (.all (len := (pvE (d.mem)).length) (xs := pvE (d.mem)) rfl rfl (by decide))) (.cons (.bor (.all (len := (pvR (tagT d.runs)).length) (xs := pvR (tagT d.runs)) rfl rfl (by decide))) (.cons (.bor (.all (len := (pvI (d.snaps)).length) (xs := pvI (d.snaps)) rfl rfl (by decide))) .nil))))) .nil) (by decide) all_nil .nil (hokd) rfl rfl (nle rfl)) (.r rfl (zAG rfl rfl rfl isAgg28 sizeOf28 (nle rfl)) (.run [2301, 2302, 2303, 2700] [] rfl (zAK rfl 2700 (X := []) en8 rfl (.val nod) (.cons (.agg (.cons (.bor .v) (.cons (.bor (.all (len := (pvE (d.mem)).length) (xs := pvE (d.mem)) rfl rfl (by decide))) (.cons (.bor (.all (len := (pvR (tagT d.runs)).length) (xs := pvR (tagT d.runs)) rfl rfl (by decide))) (.cons (.bor (.all (len := (pvI (d.snaps)).length) (xs := pvI (d.snaps)) rfl rfl (by decide))) .nil))))) .nil) (by decide) all_nil .nil (hos) rfl rfl (nle rfl)) (.r rfl (zAX (zKD rfl rfl rfl underlying4) (zAM (show (!(false == false)) = false from by simp))) (.m rfl rfl (.r rfl (zAG rfl rfl rfl isAgg28 sizeOf28 (nle rfl)) (.run [2301, 2302, 2303, 3100] [] rfl (zAK rfl 3100 (X := []) en7 rfl (.val nod) (.cons (.agg (.cons (.bor .v) (.cons (.bor (.all (len := (pvE (d.mem)).length) (xs := pvE (d.mem)) rfl rfl (by decide))) (.cons (.bor (.all (len := (pvR (tagT d.runs)).length) (xs := pvR (tagT d.runs)) rfl rfl (by decide))) (.cons (.bor (.all (len := (pvI (d.snaps)).length) (xs := pvI (d.snaps)) rfl rfl (by decide))) .nil))))) .nil) (by decide) all_nil .nil (hokd) rfl rfl (nle rfl)) (.r rfl (zA3 (b := false) rfl rfl) (.r rfl (zA5 rfl rfl) .nil)))))))))) (by kernel_rfl) ?_
   refine zAb (t := true) rfl (fun _ => ?_) (fun h => nomatch h)
   refine zAB (zAZ zBD rfl (.r rfl (zAG rfl rfl rfl isAgg28 sizeOf28 (nle rfl)) (.run [2301, 2302, 2303, 3500] [] rfl (zAK rfl 3500 (X := []) en7 rfl (.val nod) (.cons (.agg (.cons (.bor .v) (.cons (.bor (.all (len := (pvE (d.mem)).length) (xs := pvE (d.mem)) rfl rfl (by decide))) (.cons (.bor (.all (len := (pvR (tagT d.runs)).length) (xs := pvR (tagT d.runs)) rfl rfl (by decide))) (.cons (.bor (.all (len := (pvI (d.snaps)).length) (xs := pvI (d.snaps)) rfl rfl (by decide))) .nil))))) .nil) (by decide) all_nil .nil (hokd) rfl rfl (nle rfl)) (.r rfl (zAG rfl rfl rfl isAgg28 sizeOf28 (nle rfl)) (.run [2301, 2302, 2303, 3700] [] rfl (zAK rfl 3700 (X := []) en8 rfl (.val nod) (.cons (.agg (.cons (.bor .v) (.cons (.bor (.all (len := (pvE (d.mem)).length) (xs := pvE (d.mem)) rfl rfl (by decide))) (.cons (.bor (.all (len := (pvR (tagT d.runs)).length) (xs := pvR (tagT d.runs)) rfl rfl (by decide))) (.cons (.bor (.all (len := (pvI (d.snaps)).length) (xs := pvI (d.snaps)) rfl rfl (by decide))) .nil))))) .nil) (by decide) all_nil .nil (hos) rfl rfl (nle rfl)) (.r rfl (zAX (st_beql rfl rfl rfl underlying4) (zAM (show (false == false) = true from by simp))) (.a rfl rfl .nil)))))) (by kernel_rfl) ?_)
   refine zAO ?_
   exact ends [_] [] (.cons (.tmp rfl) .nil) (.cons (.one .v (.v _)) .nil) (by decide) trivial
  ·
   have hokd := zB6 d hD
   rw [h1] at hokd
   try dsimp only at hokd
   have hos := zCT d hD
   rw [h2] at hos
   try dsimp only at hos
   have hsnn := (zCC h1).snaps
   have hpt : (d.snaps ++ [-1]).length = d.snaps.length + 1 := by simp
   have hDa := zLh hu.oka
   have hDb := zLh hu.okb
   have hone := hu.one
   have hoka := zB6 a hDa
   rw [hu.oka] at hoka
   try dsimp only at hoka
   have hokb := zB6 b hDb
   rw [hu.okb] at hokb
   try dsimp only at hokb
   have hfl := zHq d hD
   rw [hf] at hfl
   try dsimp only at hfl
   have hcma := zDT a hDa
   rw [hcc] at hcma
   try dsimp only at hcma
   have hcmd := zDT d hD
   rw [hcd] at hcmd
   try dsimp only at hcmd
   have hcs := zEJ d hD
   rw [hs] at hcs
   try dsimp only at hcs
   have hla1 := zAF a.mem
   have hla2 := zAk (tagT a.runs)
   have hla3 := zAU a.snaps
   have hla4 := zBv a.runs
   have hlb1 := zAF b.mem
   have hlb2 := zAk (tagT b.runs)
   have hlb3 := zAU b.snaps
   have hlb4 := zBv b.runs
   refine zAV (s' := mk [(3, .ptr 3 0)] [(3, [.vi d.seq, .sl 2301 0 ((pvE (d.mem)).length), .sl 2302 0 ((pvR (tagT d.runs)).length), .sl 2303 0 ((pvI (d.snaps)).length)])] [(2301, 4, pvE (d.mem)), (2302, 1, pvR (tagT d.runs)), (2303, 1, pvI (d.snaps))]) ?_ ?_
   · exact zAI ⟨rfl, trivial⟩ ⟨rfl, trivial⟩ ⟨rfl, rfl, rfl, trivial⟩ rfl
   refine zAZ zBD rfl (.r rfl (zAG rfl rfl rfl isAgg28 sizeOf28 (nle rfl)) (.run [2301, 2302, 2303, 2500] [] rfl (zAK rfl 2500 (X := []) en7 rfl (.val nod) (.cons (.agg (.cons (.bor .v) (.cons (.bor (.all (len := (pvE (d.mem)).length) (xs := pvE (d.mem)) rfl rfl (by decide))) (.cons (.bor (.all (len := (pvR (tagT d.runs)).length) (xs := pvR (tagT d.runs)) rfl rfl (by decide))) (.cons (.bor (.all (len := (pvI (d.snaps)).length) (xs := pvI (d.snaps)) rfl rfl (by decide))) .nil))))) .nil) (by decide) all_nil .nil (hokd) rfl rfl (nle rfl)) (.r rfl (zAG rfl rfl rfl isAgg28 sizeOf28 (nle rfl)) (.run [2301, 2302, 2303, 2700] [] rfl (zAK rfl 2700 (X := []) en8 rfl (.val nod) (.cons (.agg (.cons (.bor .v) (.cons (.bor (.all (len := (pvE (d.mem)).length) (xs := pvE (d.mem)) rfl rfl (by decide))) (.cons (.bor (.all (len := (pvR (tagT d.runs)).length) (xs := pvR (tagT d.runs)) rfl rfl (by decide))) (.cons (.bor (.all (len := (pvI (d.snaps)).length) (xs := pvI (d.snaps)) rfl rfl (by decide))) .nil))))) .nil) (by decide) all_nil .nil (hos) rfl rfl (nle rfl)) (.r rfl (zAX (zKD rfl rfl rfl underlying4) (zAM (show (!(true == true)) = false from by simp))) (.m rfl rfl (.r rfl (zAG rfl rfl rfl isAgg28 sizeOf28 (nle rfl)) (.run [2301, 2302, 2303, 3100] [] rfl (zAK rfl 3100 (X := []) en7 rfl (.val nod) (.cons (.agg (.cons (.bor .v) (.cons (.bor (.all (len := (pvE (d.mem)).length) (xs := pvE (d.mem)) rfl rfl (by decide))) (.cons (.bor (.all (len := (pvR (tagT d.runs)).length) (xs := pvR (tagT d.runs)) rfl rfl (by decide))) (.cons (.bor (.all (len := (pvI (d.snaps)).length) (xs := pvI (d.snaps)) rfl rfl (by decide))) .nil))))) .nil) (by decide) all_nil .nil (hokd) rfl rfl (nle rfl)) (.r rfl (zA3 (b := true) rfl rfl) (.r rfl (zA5 rfl rfl) .nil)))))))))) (by kernel_rfl) ?_
   refine zAb (t := false) rfl (fun h => nomatch h) (fun _ => ?_)
   refine zAL ?_
   refine zAB ?_
   refine zAV (s' := mk [(3, .ptr 3 0)] [(3, [.vi d.seq, .sl 2301 0 ((pvE (d.mem)).length), .sl 2302 0 ((pvR (tagT d.runs)).length), .sl 2303 0 ((pvI (d.snaps)).length)])] [(2301, 4, pvE (d.mem)), (2302, 1, pvR (tagT d.runs)), (2303, 1, pvI (d.snaps))]) ?_ ?_
   · exact zAI ⟨rfl, trivial⟩ ⟨rfl, trivial⟩ ⟨rfl, rfl, rfl, trivial⟩ rfl
   refine zAA rfl (.r rfl (zAG rfl rfl rfl isAgg28 sizeOf28 (nle rfl)) (.run [2301, 2302, 2303, 4100, 4101, 4102, 4103, 4104] [] rfl (zAK rfl 4100 (X := []) en9 rfl (.val nod) (.cons (.agg (.cons (.bor .v) (.cons (.bor (.all (len := (pvE (d.mem)).length) (xs := pvE (d.mem)) rfl rfl (by decide))) (.cons (.bor (.all (len := (pvR (tagT d.runs)).length) (xs := pvR (tagT d.runs)) rfl rfl (by decide))) (.cons (.bor (.all (len := (pvI (d.snaps)).length) (xs := pvI (d.snaps)) rfl rfl (by decide))) .nil))))) .nil) (by decide) all_nil .nil (hfl) rfl rfl (nle rfl)) (.m rfl rfl (.r rfl (zAm rfl rfl rfl) (.r rfl (zAm rfl rfl rfl) (.run [] [4] rfl (zAl rfl 4 zBy rfl (by decide) rfl (by decide)) (.r rfl (zAE rfl rfl rfl rfl rfl sizeOf28 rfl (nle rfl)) (.a rfl rfl .nil)))))))) ?_
   refine zAB (zAA rfl (.r rfl (zAG rfl rfl rfl isAgg28 sizeOf28 (nle rfl)) (.run [4101, 4102, 4103, 4600, 4601, 4602, 4603, 4604] [] rfl (zAK rfl 4600 (X := []) en10 rfl (.val nod) (.cons (.agg (.cons (.bor .v) (.cons (.bor (.all (len := (pvE a.mem).length) (xs := pvE a.mem) rfl rfl (by decide))) (.cons (.bor (.all (len := (pvR (tagT a.runs)).length) (xs := pvR (tagT a.runs)) rfl rfl (by decide))) (.cons (.bor (.all (len := (pvI a.snaps).length) (xs := pvI a.snaps) rfl rfl (by decide))) .nil))))) .nil) (by decide) all_nil .nil (hcma) rfl rfl (nle rfl)) (.m rfl rfl (.r rfl (zAm rfl rfl rfl) (.r rfl (zAm rfl rfl rfl) (.run [] [6] rfl (zAl rfl 6 zBy rfl (by decide) rfl (by decide)) (.r rfl (zAE rfl rfl rfl rfl rfl sizeOf28 rfl (nle rfl)) (.a rfl rfl .nil)))))))) ?_)
   refine zAB ?_
   refine zAV (s' := mk [(3, .ptr 3 0), (4, .ptr 4 0), (6, .ptr 6 0), (7, .vi 0)] [(3, [.vi d.seq, .sl 2301 0 ((pvE (d.mem)).length), .sl 2302 0 ((pvR (tagT d.runs)).length), .sl 2303 0 ((pvI (d.snaps)).length)]), (4, [.vi a.seq, .sl 4101 0 ((pvE a.mem).length), .sl 4102 0 ((pvR (tagT a.runs)).length), .sl 4103 0 ((pvI a.snaps).length)]), (6, [.vi b.seq, .sl 4601 0 ((pvE b.mem).length), .sl 4602 0 ((pvR (tagT b.runs)).length), .sl 4603 0 ((pvI b.snaps).length)])] [(2301, 4, pvE (d.mem)), (2302, 1, pvR (tagT d.runs)), (2303, 1, pvI (d.snaps)), (4101, 4, pvE a.mem), (4102, 1, pvR (tagT a.runs)), (4103, 1, pvI a.snaps), (4601, 4, pvE b.mem), (4602, 1, pvR (tagT b.runs)), (4603, 1, pvI b.snaps)]) ?_ ?_
   · exact zAI ⟨rfl, rfl, rfl, rfl, trivial⟩ ⟨rfl, rfl, rfl, trivial⟩ ⟨rfl, rfl, rfl, rfl, rfl, rfl, rfl, rfl, rfl, trivial⟩ rfl
   refine zAA rfl (.r rfl (zAG rfl rfl rfl isAgg28 sizeOf28 (nle rfl)) (.run [2301, 2302, 2303, 5100, 5101, 5102, 5103, 5104] [] rfl (zAK rfl 5100 (X := []) en10 rfl (.val nod) (.cons (.agg (.cons (.bor .v) (.cons (.bor (.all (len := (pvE (d.mem)).length) (xs := pvE (d.mem)) rfl rfl (by decide))) (.cons (.bor (.all (len := (pvR (tagT d.runs)).length) (xs := pvR (tagT d.runs)) rfl rfl (by decide))) (.cons (.bor (.all (len := (pvI (d.snaps)).length) (xs := pvI (d.snaps)) rfl rfl (by decide))) .nil))))) .nil) (by decide) all_nil .nil (hcmd) rfl rfl (nle rfl)) (.m rfl rfl (.r rfl (zAm rfl rfl rfl) (.r rfl (zAm rfl rfl rfl) (.run [] [8] rfl (zAl rfl 8 zBy rfl (by decide) rfl (by decide)) (.r rfl (zAE rfl rfl rfl rfl rfl sizeOf28 rfl (nle rfl)) (.a rfl rfl .nil)))))))) ?_
   refine zAB (zAA rfl (.r rfl (zAG rfl rfl rfl isAgg28 sizeOf28 (nle rfl)) (.run [2301, 2302, 2303, 5600, 5601, 5602, 5603, 5604] [] rfl (zAK rfl 5600 (X := []) en11 rfl (.val nod) (.cons (.agg (.cons (.bor .v) (.cons (.bor (.all (len := (pvE (d.mem)).length) (xs := pvE (d.mem)) rfl rfl (by decide))) (.cons (.bor (.all (len := (pvR (tagT d.runs)).length) (xs := pvR (tagT d.runs)) rfl rfl (by decide))) (.cons (.bor (.all (len := (pvI (d.snaps)).length) (xs := pvI (d.snaps)) rfl rfl (by decide))) .nil))))) .nil) (by decide) all_nil .nil (hcs) rfl rfl (nle rfl)) (.m rfl rfl (.r rfl (zAm rfl rfl rfl) (.r rfl (zAm rfl rfl rfl) (.run [] [10] rfl (zAl rfl 10 zBy rfl (by decide) rfl (by decide)) (.r rfl (zAE rfl rfl rfl rfl rfl sizeOf28 rfl (nle rfl)) (.a rfl rfl .nil)))))))) ?_)
   refine zAV (zCk 2301 rfl) ?_
   have hp2 : (some [.vi d.seq, .p none (.sl false 4 (((pvE (d.mem)).drop 0).take ((pvE (d.mem)).length))), .sl 2302 0 ((pvR (tagT d.runs)).length), .sl 2303 0 ((pvI (d.snaps)).length)] : Option (List AV)) = some [.vi d.seq, .p none (.sl false 4 (pvE (d.mem))), .sl 2302 0 ((pvR (tagT d.runs)).length), .sl 2303 0 ((pvI (d.snaps)).length)] := by simp only [zB7]
   refine zAV (s' := mk [(3, .ptr 3 0), (4, .ptr 4 0), (6, .ptr 6 0), (7, .vi 0), (9, .vi e), (11, .vi e)] [(3, [.vi d.seq, .p none (.sl false 4 (pvE (d.mem))), .sl 2302 0 ((pvR (tagT d.runs)).length), .sl 2303 0 ((pvI (d.snaps)).length)]), (4, [.vi a.seq, .sl 4101 0 ((pvE a.mem).length), .sl 4102 0 ((pvR (tagT a.runs)).length), .sl 4103 0 ((pvI a.snaps).length)]), (6, [.vi b.seq, .sl 4601 0 ((pvE b.mem).length), .sl 4602 0 ((pvR (tagT b.runs)).length), .sl 4603 0 ((pvI b.snaps).length)])] [(2302, 1, pvR (tagT d.runs)), (2303, 1, pvI (d.snaps)), (4101, 4, pvE a.mem), (4102, 1, pvR (tagT a.runs)), (4103, 1, pvI a.snaps), (4601, 4, pvE b.mem), (4602, 1, pvR (tagT b.runs)), (4603, 1, pvI b.snaps)]) ?_ ?_
   · exact zAI ⟨rfl, rfl, rfl, rfl, rfl, rfl, trivial⟩ ⟨hp2, rfl, rfl, trivial⟩ ⟨rfl, rfl, rfl, rfl, rfl, rfl, rfl, rfl, trivial⟩ rfl
   refine zAV (zCk 2302 rfl) ?_
   have hp3 : (some [.vi d.seq, .p none (.sl false 4 (pvE (d.mem))), .p none (.sl false 1 (((pvR (tagT d.runs)).drop 0).take ((pvR (tagT d.runs)).length))), .sl 2303 0 ((pvI (d.snaps)).length)] : Option (List AV)) = some [.vi d.seq, .p none (.sl false 4 (pvE (d.mem))), .p none (.sl false 1 (pvR (tagT d.runs))), .sl 2303 0 ((pvI (d.snaps)).length)] := by simp only [zB7]
   refine zAV (s' := mk [(3, .ptr 3 0), (4, .ptr 4 0), (6, .ptr 6 0), (7, .vi 0), (9, .vi e), (11, .vi e)] [(3, [.vi d.seq, .p none (.sl false 4 (pvE (d.mem))), .p none (.sl false 1 (pvR (tagT d.runs))), .sl 2303 0 ((pvI (d.snaps)).length)]), (4, [.vi a.seq, .sl 4101 0 ((pvE a.mem).length), .sl 4102 0 ((pvR (tagT a.runs)).length), .sl 4103 0 ((pvI a.snaps).length)]), (6, [.vi b.seq, .sl 4601 0 ((pvE b.mem).length), .sl 4602 0 ((pvR (tagT b.runs)).length), .sl 4603 0 ((pvI b.snaps).length)])] [(2303, 1, pvI (d.snaps)), (4101, 4, pvE a.mem), (4102, 1, pvR (tagT a.runs)), (4103, 1, pvI a.snaps), (4601, 4, pvE b.mem), (4602, 1, pvR (tagT b.runs)), (4603, 1, pvI b.snaps)]) ?_ ?_
   · exact zAI ⟨rfl, rfl, rfl, rfl, rfl, rfl, trivial⟩ ⟨hp3, rfl, rfl, trivial⟩ ⟨rfl, rfl, rfl, rfl, rfl, rfl, rfl, trivial⟩ rfl
   refine zAV (zCk 2303 rfl) ?_
   have hp4 : (some [.vi d.seq, .p none (.sl false 4 (pvE (d.mem))), .p none (.sl false 1 (pvR (tagT d.runs))), .p none (.sl false 1 (((pvI (d.snaps)).drop 0).take ((pvI (d.snaps)).length)))] : Option (List AV)) = some [.vi d.seq, .p none (.sl false 4 (pvE (d.mem))), .p none (.sl false 1 (pvR (tagT d.runs))), .p none (.sl false 1 (pvI (d.snaps)))] := by simp only [zB7]
   refine zAV (s' := mk [(3, .ptr 3 0), (4, .ptr 4 0), (6, .ptr 6 0), (7, .vi 0), (9, .vi e), (11, .vi e)] [(3, [.vi d.seq, .p none (.sl false 4 (pvE (d.mem))), .p none (.sl false 1 (pvR (tagT d.runs))), .p none (.sl false 1 (pvI (d.snaps)))]), (4, [.vi a.seq, .sl 4101 0 ((pvE a.mem).length), .sl 4102 0 ((pvR (tagT a.runs)).length), .sl 4103 0 ((pvI a.snaps).length)]), (6, [.vi b.seq, .sl 4601 0 ((pvE b.mem).length), .sl 4602 0 ((pvR (tagT b.runs)).length), .sl 4603 0 ((pvI b.snaps).length)])] [(4101, 4, pvE a.mem), (4102, 1, pvR (tagT a.runs)), (4103, 1, pvI a.snaps), (4601, 4, pvE b.mem), (4602, 1, pvR (tagT b.runs)), (4603, 1, pvI b.snaps)]) ?_ ?_
   · exact zAI ⟨rfl, rfl, rfl, rfl, rfl, rfl, trivial⟩ ⟨hp4, rfl, rfl, trivial⟩ ⟨rfl, rfl, rfl, rfl, rfl, rfl, trivial⟩ rfl
   refine zAV (zCk 4101 rfl) ?_
   have hp5 : (some [.vi a.seq, .p none (.sl false 4 (((pvE a.mem).drop 0).take ((pvE a.mem).length))), .sl 4102 0 ((pvR (tagT a.runs)).length), .sl 4103 0 ((pvI a.snaps).length)] : Option (List AV)) = some [.vi a.seq, .p none (.sl false 4 (pvE a.mem)), .sl 4102 0 ((pvR (tagT a.runs)).length), .sl 4103 0 ((pvI a.snaps).length)] := by simp only [zB7]
   refine zAV (s' := mk [(3, .ptr 3 0), (4, .ptr 4 0), (6, .ptr 6 0), (7, .vi 0), (9, .vi e), (11, .vi e)] [(3, [.vi d.seq, .p none (.sl false 4 (pvE (d.mem))), .p none (.sl false 1 (pvR (tagT d.runs))), .p none (.sl false 1 (pvI (d.snaps)))]), (4, [.vi a.seq, .p none (.sl false 4 (pvE a.mem)), .sl 4102 0 ((pvR (tagT a.runs)).length), .sl 4103 0 ((pvI a.snaps).length)]), (6, [.vi b.seq, .sl 4601 0 ((pvE b.mem).length), .sl 4602 0 ((pvR (tagT b.runs)).length), .sl 4603 0 ((pvI b.snaps).length)])] [(4102, 1, pvR (tagT a.runs)), (4103, 1, pvI a.snaps), (4601, 4, pvE b.mem), (4602, 1, pvR (tagT b.runs)), (4603, 1, pvI b.snaps)]) ?_ ?_
   · exact zAI ⟨rfl, rfl, rfl, rfl, rfl, rfl, trivial⟩ ⟨rfl, hp5, rfl, trivial⟩ ⟨rfl, rfl, rfl, rfl, rfl, trivial⟩ rfl
   refine zAV (zCk 4102 rfl) ?_
   have hp6 : (some [.vi a.seq, .p none (.sl false 4 (pvE a.mem)), .p none (.sl false 1 (((pvR (tagT a.runs)).drop 0).take ((pvR (tagT a.runs)).length))), .sl 4103 0 ((pvI a.snaps).length)] : Option (List AV)) = some [.vi a.seq, .p none (.sl false 4 (pvE a.mem)), .p none (.sl false 1 (pvR (tagT a.runs))), .sl 4103 0 ((pvI a.snaps).length)] := by simp only [zB7]
   refine zAV (s' := mk [(3, .ptr 3 0), (4, .ptr 4 0), (6, .ptr 6 0), (7, .vi 0), (9, .vi e), (11, .vi e)] [(3, [.vi d.seq, .p none (.sl false 4 (pvE (d.mem))), .p none (.sl false 1 (pvR (tagT d.runs))), .p none (.sl false 1 (pvI (d.snaps)))]), (4, [.vi a.seq, .p none (.sl false 4 (pvE a.mem)), .p none (.sl false 1 (pvR (tagT a.runs))), .sl 4103 0 ((pvI a.snaps).length)]), (6, [.vi b.seq, .sl 4601 0 ((pvE b.mem).length), .sl 4602 0 ((pvR (tagT b.runs)).length), .sl 4603 0 ((pvI b.snaps).length)])] [(4103, 1, pvI a.snaps), (4601, 4, pvE b.mem), (4602, 1, pvR (tagT b.runs)), (4603, 1, pvI b.snaps)]) ?_ ?_
   · exact zAI ⟨rfl, rfl, rfl, rfl, rfl, rfl, trivial⟩ ⟨rfl, hp6, rfl, trivial⟩ ⟨rfl, rfl, rfl, rfl, trivial⟩ rfl
   refine zAV (zCk 4103 rfl) ?_
   have hp7 : (some [.vi a.seq, .p none (.sl false 4 (pvE a.mem)), .p none (.sl false 1 (pvR (tagT a.runs))), .p none (.sl false 1 (((pvI a.snaps).drop 0).take ((pvI a.snaps).length)))] : Option (List AV)) = some [.vi a.seq, .p none (.sl false 4 (pvE a.mem)), .p none (.sl false 1 (pvR (tagT a.runs))), .p none (.sl false 1 (pvI a.snaps))] := by simp only [zB7]
   refine zAV (s' := mk [(3, .ptr 3 0), (4, .ptr 4 0), (6, .ptr 6 0), (7, .vi 0), (9, .vi e), (11, .vi e)] [(3, [.vi d.seq, .p none (.sl false 4 (pvE (d.mem))), .p none (.sl false 1 (pvR (tagT d.runs))), .p none (.sl false 1 (pvI (d.snaps)))]), (4, [.vi a.seq, .p none (.sl false 4 (pvE a.mem)), .p none (.sl false 1 (pvR (tagT a.runs))), .p none (.sl false 1 (pvI a.snaps))]), (6, [.vi b.seq, .sl 4601 0 ((pvE b.mem).length), .sl 4602 0 ((pvR (tagT b.runs)).length), .sl 4603 0 ((pvI b.snaps).length)])] [(4601, 4, pvE b.mem), (4602, 1, pvR (tagT b.runs)), (4603, 1, pvI b.snaps)]) ?_ ?_
   · exact zAI ⟨rfl, rfl, rfl, rfl, rfl, rfl, trivial⟩ ⟨rfl, hp7, rfl, trivial⟩ ⟨rfl, rfl, rfl, trivial⟩ rfl
   refine zAV (zCk 4601 rfl) ?_
   have hp8 : (some [.vi b.seq, .p none (.sl false 4 (((pvE b.mem).drop 0).take ((pvE b.mem).length))), .sl 4602 0 ((pvR (tagT b.runs)).length), .sl 4603 0 ((pvI b.snaps).length)] : Option (List AV)) = some [.vi b.seq, .p none (.sl false 4 (pvE b.mem)), .sl 4602 0 ((pvR (tagT b.runs)).length), .sl 4603 0 ((pvI b.snaps).length)] := by simp only [zB7]
   refine zAV (s' := mk [(3, .ptr 3 0), (4, .ptr 4 0), (6, .ptr 6 0), (7, .vi 0), (9, .vi e), (11, .vi e)] [(3, [.vi d.seq, .p none (.sl false 4 (pvE (d.mem))), .p none (.sl false 1 (pvR (tagT d.runs))), .p none (.sl false 1 (pvI (d.snaps)))]), (4, [.vi a.seq, .p none (.sl false 4 (pvE a.mem)), .p none (.sl false 1 (pvR (tagT a.runs))), .p none (.sl false 1 (pvI a.snaps))]), (6, [.vi b.seq, .p none (.sl false 4 (pvE b.mem)), .sl 4602 0 ((pvR (tagT b.runs)).length), .sl 4603 0 ((pvI b.snaps).length)])] [(4602, 1, pvR (tagT b.runs)), (4603, 1, pvI b.snaps)]) ?_ ?_
   · exact zAI ⟨rfl, rfl, rfl, rfl, rfl, rfl, trivial⟩ ⟨rfl, rfl, hp8, trivial⟩ ⟨rfl, rfl, trivial⟩ rfl
   refine zAV (zCk 4602 rfl) ?_
   have hp9 : (some [.vi b.seq, .p none (.sl false 4 (pvE b.mem)), .p none (.sl false 1 (((pvR (tagT b.runs)).drop 0).take ((pvR (tagT b.runs)).length))), .sl 4603 0 ((pvI b.snaps).length)] : Option (List AV)) = some [.vi b.seq, .p none (.sl false 4 (pvE b.mem)), .p none (.sl false 1 (pvR (tagT b.runs))), .sl 4603 0 ((pvI b.snaps).length)] := by simp only [zB7]
   refine zAV (s' := mk [(3, .ptr 3 0), (4, .ptr 4 0), (6, .ptr 6 0), (7, .vi 0), (9, .vi e), (11, .vi e)] [(3, [.vi d.seq, .p none (.sl false 4 (pvE (d.mem))), .p none (.sl false 1 (pvR (tagT d.runs))), .p none (.sl false 1 (pvI (d.snaps)))]), (4, [.vi a.seq, .p none (.sl false 4 (pvE a.mem)), .p none (.sl false 1 (pvR (tagT a.runs))), .p none (.sl false 1 (pvI a.snaps))]), (6, [.vi b.seq, .p none (.sl false 4 (pvE b.mem)), .p none (.sl false 1 (pvR (tagT b.runs))), .sl 4603 0 ((pvI b.snaps).length)])] [(4603, 1, pvI b.snaps)]) ?_ ?_
   · exact zAI ⟨rfl, rfl, rfl, rfl, rfl, rfl, trivial⟩ ⟨rfl, rfl, hp9, trivial⟩ ⟨rfl, trivial⟩ rfl
   refine zAV (zCk 4603 rfl) ?_
   have hp10 : (some [.vi b.seq, .p none (.sl false 4 (pvE b.mem)), .p none (.sl false 1 (pvR (tagT b.runs))), .p none (.sl false 1 (((pvI b.snaps).drop 0).take ((pvI b.snaps).length)))] : Option (List AV)) = some [.vi b.seq, .p none (.sl false 4 (pvE b.mem)), .p none (.sl false 1 (pvR (tagT b.runs))), .p none (.sl false 1 (pvI b.snaps))] := by simp only [zB7]
   refine zAV (s' := mk [(3, .ptr 3 0), (4, .ptr 4 0), (6, .ptr 6 0), (7, .vi 0), (9, .vi e), (11, .vi e)] [(3, [.vi d.seq, .p none (.sl false 4 (pvE (d.mem))), .p none (.sl false 1 (pvR (tagT d.runs))), .p none (.sl false 1 (pvI (d.snaps)))]), (4, [.vi a.seq, .p none (.sl false 4 (pvE a.mem)), .p none (.sl false 1 (pvR (tagT a.runs))), .p none (.sl false 1 (pvI a.snaps))]), (6, [.vi b.seq, .p none (.sl false 4 (pvE b.mem)), .p none (.sl false 1 (pvR (tagT b.runs))), .p none (.sl false 1 (pvI b.snaps))])] []) ?_ ?_
   · exact zAI ⟨rfl, rfl, rfl, rfl, rfl, rfl, trivial⟩ ⟨rfl, rfl, hp10, trivial⟩ trivial rfl
   refine zAB ?_
   refine zAB (zAA rfl (.m rfl rfl (.m rfl rfl (.r rfl (zAX (zCl rfl rfl rfl) (zAM (congrArg Bool.not (decide_eq_true (by simp))))) (.m rfl rfl (.m rfl rfl (.r rfl (zAX (zCl rfl rfl rfl) (zAM (congrArg Bool.not (decide_eq_true (by simp))))) (.m rfl rfl (.not rfl (.not rfl (.r rfl (zA5 rfl rfl) (.r rfl (zA5 rfl rfl) (.m rfl rfl (.r rfl (zAG rfl rfl rfl isAgg28 sizeOf28 (nle rfl)) (.run [7200] [] rfl (zAK rfl 7200 (X := []) en7 rfl (.val nod) (.cons (.agg (.cons (.bor .v) (.cons (.bor (.sl nod)) (.cons (.bor (.sl nod)) (.cons (.bor (.sl nod)) .nil))))) .nil) (by decide) all_nil .nil (hoka) rfl rfl (nle rfl)) (.r rfl (zA3 (b := true) rfl rfl) (.r rfl (zA5 rfl rfl) (.m rfl rfl (.r rfl (zAG rfl rfl rfl isAgg28 sizeOf28 (nle rfl)) (.run [7700] [] rfl (zAK rfl 7700 (X := []) en7 rfl (.val nod) (.cons (.agg (.cons (.bor .v) (.cons (.bor (.sl nod)) (.cons (.bor (.sl nod)) (.cons (.bor (.sl nod)) .nil))))) .nil) (by decide) all_nil .nil (hokb) rfl rfl (nle rfl)) (.r rfl (zA3 (b := true) rfl rfl) (.r rfl (zA5 rfl rfl) (.m rfl rfl (.r rfl (zAC rfl rfl underlying28 rfl sizeOf25 (by decide)) (.r rfl (zAD rfl rfl rfl isAgg25 rfl) (.r rfl (zAa rfl rfl underlying25) (.r rfl (zBF rfl rfl rfl) (.r rfl (zA5 rfl rfl) .nil))))))))))))))))))))))))))) ?_)
   refine zAb (t := decide (1 < ((pvR (tagT b.runs)).length : Int))) rfl (fun h11 => ?_) (fun h11 => ?_)
   ·
    replace h11 := of_decide_eq_true h11
    omega
   ·
    replace h11 := of_decide_eq_false h11
    refine zAL ?_
    refine zAB ?_
    refine zAV (s' := mk [(3, .ptr 3 0), (4, .ptr 4 0), (6, .ptr 6 0)] [(3, [.vi d.seq, .p none (.sl false 4 (pvE (d.mem))), .p none (.sl false 1 (pvR (tagT d.runs))), .p none (.sl false 1 (pvI (d.snaps)))]), (4, [.vi a.seq, .p none (.sl false 4 (pvE a.mem)), .p none (.sl false 1 (pvR (tagT a.runs))), .p none (.sl false 1 (pvI a.snaps))]), (6, [.vi b.seq, .p none (.sl false 4 (pvE b.mem)), .p none (.sl false 1 (pvR (tagT b.runs))), .p none (.sl false 1 (pvI b.snaps))])] []) ?_ ?_
    · exact zAI ⟨rfl, rfl, rfl, trivial⟩ ⟨rfl, rfl, rfl, trivial⟩ trivial rfl
    refine zAA rfl (.run [8600] [] rfl (zAQ rfl 8600 underlying26 inf2 (nle rfl) (by decide) rfl rfl rfl .nil (by decide) rfl (by decide) rfl (by decide) rfl) (.r rfl (zAC rfl rfl underlying28 rfl sizeOf26 (by decide)) (.r rfl (zAD rfl rfl rfl isAgg26 rfl) (.run [8600] [] rfl (zAq rfl 8600 (ib := 8600) (len := ([] ++ (pvI (d.snaps))).length) rfl rfl (.row (len := 0) (xs := []) rfl rfl (.inl rfl)) (.fro (zA7 _)) underlying26 (sk underlying26 rfl) inf2 rfl (by decide) (by decide) (by decide) List.length_append (by simp only [maxLen, List.length_append, List.length_cons, List.length_nil, zAU]; omega) (by simp only [maxLen, List.length_append, List.length_cons, List.length_nil, zAU]; omega)) (.run [9000] [] rfl (zAQ rfl 9000 underlying26 inf2 (nle rfl) (by decide) rfl rfl rfl (.cons .v .nil) (by decide) rfl (by decide) rfl (by decide) rfl) (.run [8600] [] rfl (zAq rfl 8600 (ib := 8600) (len := (([] ++ (pvI (d.snaps))) ++ [[PV.v (.int .i64 (-1))]]).length) rfl rfl (.row (len := ([] ++ (pvI (d.snaps))).length) (xs := [] ++ (pvI (d.snaps))) rfl rfl (.inl rfl)) (.give (len := 1) (xs := [[PV.v (.int .i64 (-1))]]) rfl rfl) underlying26 (sk underlying26 rfl) inf2 rfl (by decide) (by decide) (by decide) List.length_append (by simp only [maxLen, List.length_append, List.length_cons, List.length_nil, zAU]; omega) (by simp only [maxLen, List.length_append, List.length_cons, List.length_nil, zAU]; omega)) (.a rfl rfl .nil))))))) ?_
    have hr12 : ([] ++ (pvI (d.snaps))) ++ [[PV.v (.int .i64 (-1))]] = pvI (d.snaps ++ [-1]) := by simp [pvI]
    have hp13 : (.sl 8600 0 ((([] ++ (pvI (d.snaps))) ++ [[PV.v (.int .i64 (-1))]]).length) : AV) = .sl 8600 0 ((pvI (d.snaps ++ [-1])).length) := by simp only [hr12]
    refine zAV (s' := mk [(3, .ptr 3 0), (4, .ptr 4 0), (6, .ptr 6 0), (12, .sl 8600 0 ((pvI (d.snaps ++ [-1])).length))] [(3, [.vi d.seq, .p none (.sl false 4 (pvE (d.mem))), .p none (.sl false 1 (pvR (tagT d.runs))), .p none (.sl false 1 (pvI (d.snaps)))]), (4, [.vi a.seq, .p none (.sl false 4 (pvE a.mem)), .p none (.sl false 1 (pvR (tagT a.runs))), .p none (.sl false 1 (pvI a.snaps))]), (6, [.vi b.seq, .p none (.sl false 4 (pvE b.mem)), .p none (.sl false 1 (pvR (tagT b.runs))), .p none (.sl false 1 (pvI b.snaps))])] [(8600, 1, pvI (d.snaps ++ [-1]))]) ?_ ?_
    · exact zAI ⟨rfl, rfl, rfl, hp13, trivial⟩ ⟨rfl, rfl, rfl, trivial⟩ ⟨(congrArg (fun x => some (1, x)) hr12), trivial⟩ rfl
    refine zAB ?_
    refine zAB (zAA rfl (.a rfl rfl .nil) ?_)
    refine zAR ?_
    refine zAo (σ := Nat) (fun i => mk [(3, .ptr 3 0), (4, .ptr 4 0), (6, .ptr 6 0), (12, .sl 8600 0 ((pvI (d.snaps ++ [-1])).length)), (13, .vi (i:Int))] [(3, [.vi d.seq, .p none (.sl false 4 (pvE (d.mem))), .p none (.sl false 1 (pvR (tagT d.runs))), .p none (.sl false 1 (pvI (d.snaps)))]), (4, [.vi a.seq, .p none (.sl false 4 (pvE a.mem)), .p none (.sl false 1 (pvR (tagT a.runs))), .p none (.sl false 1 (pvI a.snaps))]), (6, [.vi b.seq, .p none (.sl false 4 (pvE b.mem)), .p none (.sl false 1 (pvR (tagT b.runs))), .p none (.sl false 1 (pvI b.snaps))])] [(8600, 1, pvI (d.snaps ++ [-1]))]) (fun i => i ≤ (d.snaps ++ [-1]).length) (fun i => (d.snaps ++ [-1]).length - i) 0 (by simp) (zAI ⟨rfl, rfl, rfl, rfl, (zAJ (by omega)), trivial⟩ ⟨rfl, rfl, rfl, trivial⟩ ⟨rfl, trivial⟩ rfl) ?_
    rintro i hG
    replace hG : i ≤ (d.snaps ++ [-1]).length := hG
    have hpl := zAU (d.snaps ++ [-1])
    refine zAB ?_
    refine zAB (zAA rfl (.m rfl rfl (.m rfl rfl (.r rfl (zA2 rfl rfl underlying26) (.r rfl (zA4 rfl rfl rfl) .nil)))) ?_)
    refine zAb (t := decide ((i:Int) < ((pvI (d.snaps ++ [-1])).length : Int))) rfl (fun h14 => ?_) (fun h14 => ?_)
    ·
     replace h14 := of_decide_eq_true h14
     refine zAL ?_
     refine zAB ?_
     refine zAR ?_
     refine zAB ?_
     obtain ⟨p, hp⟩ : ∃ p, (d.snaps ++ [-1])[i]? = some p := ⟨_, List.getElem?_eq_getElem (by omega)⟩
     obtain ⟨l, s1, s2, s3⟩ := hu.sa p (by simpa using List.mem_of_getElem? hp)
     have hll := zJE d p ⟨#[]⟩ ⟨#[]⟩
     rw [s1] at hll
     dsimp only at hll
     have hlv := zBa l
     have hscd := zDX d hD p ⟨#[]⟩ ⟨#[]⟩
     rw [s1] at hscd
     try dsimp only at hscd
     have hsca := zDX a hDa p ⟨#[]⟩ ⟨#[]⟩
     rw [s2] at hsca
     try dsimp only at hsca
     have hscb := zDX b hDb p ⟨#[]⟩ ⟨#[]⟩
     rw [s3] at hscb
     try dsimp only at hscb
     refine zAZ zBD rfl (.r rfl (zAG rfl rfl rfl isAgg28 sizeOf28 (nle rfl)) (.m rfl rfl (.m rfl rfl (.r rfl (zAW i rfl rfl rfl rfl underlying26 sizeOf2 rfl rfl (by omega)) (.r rfl (zAt rfl rfl rfl (zBe hp) isAgg2 rfl) (.run [10400, 10401] [] rfl (zAK rfl 10400 (X := []) en12 rfl (.val nod) (.cons (.agg (.cons (.bor .v) (.cons (.bor (.sl nod)) (.cons (.bor (.sl nod)) (.cons (.bor (.sl nod)) .nil))))) (.cons (.one (.bor .v)) (.cons (.one (.bor .v)) (.cons (.one (.bor .v)) .nil)))) (by decide) all_nil .nil (hscd) rfl rfl (nle rfl)) (.m rfl rfl (.r rfl (zAm rfl rfl rfl) (.r rfl (zAm rfl rfl rfl) (.a rfl rfl (.a rfl rfl .nil))))))))))) (by kernel_rfl) ?_
     refine zAB ?_
     refine zAV (s' := mk [(3, .ptr 3 0), (4, .ptr 4 0), (6, .ptr 6 0), (12, .sl 8600 0 ((pvI (d.snaps ++ [-1])).length)), (13, .vi (i:Int)), (14, .sl 10400 0 ((pvP l).length)), (15, .vi 0)] [(3, [.vi d.seq, .p none (.sl false 4 (pvE (d.mem))), .p none (.sl false 1 (pvR (tagT d.runs))), .p none (.sl false 1 (pvI (d.snaps)))]), (4, [.vi a.seq, .p none (.sl false 4 (pvE a.mem)), .p none (.sl false 1 (pvR (tagT a.runs))), .p none (.sl false 1 (pvI a.snaps))]), (6, [.vi b.seq, .p none (.sl false 4 (pvE b.mem)), .p none (.sl false 1 (pvR (tagT b.runs))), .p none (.sl false 1 (pvI b.snaps))])] [(8600, 1, pvI (d.snaps ++ [-1])), (10400, 2, pvP l)]) ?_ ?_
     · exact zAI ⟨rfl, rfl, rfl, rfl, rfl, rfl, rfl, trivial⟩ ⟨rfl, rfl, rfl, trivial⟩ ⟨rfl, rfl, trivial⟩ rfl
     refine zAZ zBD rfl (.r rfl (zAG rfl rfl rfl isAgg28 sizeOf28 (nle rfl)) (.m rfl rfl (.m rfl rfl (.r rfl (zAW i rfl rfl rfl rfl underlying26 sizeOf2 rfl rfl (by omega)) (.r rfl (zAt rfl rfl rfl (zBe hp) isAgg2 rfl) (.run [11300, 11301] [] rfl (zAK rfl 11300 (X := []) en12 rfl (.val nod) (.cons (.agg (.cons (.bor .v) (.cons (.bor (.sl nod)) (.cons (.bor (.sl nod)) (.cons (.bor (.sl nod)) .nil))))) (.cons (.one (.bor .v)) (.cons (.one (.bor .v)) (.cons (.one (.bor .v)) .nil)))) (by decide) all_nil .nil (hsca) rfl rfl (nle rfl)) (.m rfl rfl (.r rfl (zAm rfl rfl rfl) (.r rfl (zAm rfl rfl rfl) (.a rfl rfl (.a rfl rfl .nil))))))))))) (by kernel_rfl) ?_
     refine zAB ?_
     refine zAV (s' := mk [(3, .ptr 3 0), (4, .ptr 4 0), (6, .ptr 6 0), (12, .sl 8600 0 ((pvI (d.snaps ++ [-1])).length)), (13, .vi (i:Int)), (14, .sl 10400 0 ((pvP l).length)), (15, .vi 0), (16, .sl 11300 0 ((pvP l).length)), (17, .vi 0)] [(3, [.vi d.seq, .p none (.sl false 4 (pvE (d.mem))), .p none (.sl false 1 (pvR (tagT d.runs))), .p none (.sl false 1 (pvI (d.snaps)))]), (4, [.vi a.seq, .p none (.sl false 4 (pvE a.mem)), .p none (.sl false 1 (pvR (tagT a.runs))), .p none (.sl false 1 (pvI a.snaps))]), (6, [.vi b.seq, .p none (.sl false 4 (pvE b.mem)), .p none (.sl false 1 (pvR (tagT b.runs))), .p none (.sl false 1 (pvI b.snaps))])] [(8600, 1, pvI (d.snaps ++ [-1])), (10400, 2, pvP l), (11300, 2, pvP l)]) ?_ ?_
     · exact zAI ⟨rfl, rfl, rfl, rfl, rfl, rfl, rfl, rfl, rfl, trivial⟩ ⟨rfl, rfl, rfl, trivial⟩ ⟨rfl, rfl, rfl, trivial⟩ rfl
     refine zAZ zBD rfl (.r rfl (zAG rfl rfl rfl isAgg28 sizeOf28 (nle rfl)) (.m rfl rfl (.m rfl rfl (.r rfl (zAW i rfl rfl rfl rfl underlying26 sizeOf2 rfl rfl (by omega)) (.r rfl (zAt rfl rfl rfl (zBe hp) isAgg2 rfl) (.run [12200, 12201] [] rfl (zAK rfl 12200 (X := []) en12 rfl (.val nod) (.cons (.agg (.cons (.bor .v) (.cons (.bor (.sl nod)) (.cons (.bor (.sl nod)) (.cons (.bor (.sl nod)) .nil))))) (.cons (.one (.bor .v)) (.cons (.one (.bor .v)) (.cons (.one (.bor .v)) .nil)))) (by decide) all_nil .nil (hscb) rfl rfl (nle rfl)) (.m rfl rfl (.r rfl (zAm rfl rfl rfl) (.r rfl (zAm rfl rfl rfl) (.a rfl rfl (.a rfl rfl .nil))))))))))) (by kernel_rfl) ?_
     refine zAB ?_
     refine zAV (s' := mk [(3, .ptr 3 0), (4, .ptr 4 0), (6, .ptr 6 0), (12, .sl 8600 0 ((pvI (d.snaps ++ [-1])).length)), (13, .vi (i:Int)), (14, .sl 10400 0 ((pvP l).length)), (15, .vi 0), (16, .sl 11300 0 ((pvP l).length)), (17, .vi 0), (18, .sl 12200 0 ((pvP l).length)), (19, .vi 0)] [(3, [.vi d.seq, .p none (.sl false 4 (pvE (d.mem))), .p none (.sl false 1 (pvR (tagT d.runs))), .p none (.sl false 1 (pvI (d.snaps)))]), (4, [.vi a.seq, .p none (.sl false 4 (pvE a.mem)), .p none (.sl false 1 (pvR (tagT a.runs))), .p none (.sl false 1 (pvI a.snaps))]), (6, [.vi b.seq, .p none (.sl false 4 (pvE b.mem)), .p none (.sl false 1 (pvR (tagT b.runs))), .p none (.sl false 1 (pvI b.snaps))])] [(8600, 1, pvI (d.snaps ++ [-1])), (10400, 2, pvP l), (11300, 2, pvP l), (12200, 2, pvP l)]) ?_ ?_
     · exact zAI ⟨rfl, rfl, rfl, rfl, rfl, rfl, rfl, rfl, rfl, rfl, rfl, trivial⟩ ⟨rfl, rfl, rfl, trivial⟩ ⟨rfl, rfl, rfl, rfl, trivial⟩ rfl
     refine zAA rfl (.m rfl rfl (.r rfl (zAX (zCl rfl rfl rfl) (zAM (congrArg Bool.not (decide_eq_true (by simp))))) (.m rfl rfl (.m rfl rfl (.m rfl rfl (.r rfl (zAX (zCl rfl rfl rfl) (zAM (congrArg Bool.not (decide_eq_true (by simp))))) (.r rfl (zA5 rfl rfl) (.m rfl rfl (.m rfl rfl (.m rfl rfl (.r rfl (zAX (zCl rfl rfl rfl) (zAM (congrArg Bool.not (decide_eq_true (by simp))))) (.r rfl (zA5 rfl rfl) (.m rfl rfl (.m rfl rfl (.m rfl rfl (.run [10400, 11300, 14000] [] rfl (zAK rfl 14000 (X := []) en13 rfl (.val nod) (.cons (.one (.bor (.all (len := (pvP l).length) (xs := pvP l) rfl rfl (by decide)))) (.cons (.one (.bor (.all (len := (pvP l).length) (xs := pvP l) rfl rfl (by decide)))) .nil)) (by decide) all_nil .nil (zCu l (by omega)) rfl rfl (nle rfl)) (.r rfl (zA3 (b := true) rfl rfl) (.r rfl (zA5 rfl rfl) (.m rfl rfl (.m rfl rfl (.m rfl rfl (.run [10400, 12200, 14600] [] rfl (zAK rfl 14600 (X := []) en13 rfl (.val nod) (.cons (.one (.bor (.all (len := (pvP l).length) (xs := pvP l) rfl rfl (by decide)))) (.cons (.one (.bor (.all (len := (pvP l).length) (xs := pvP l) rfl rfl (by decide)))) .nil)) (by decide) all_nil .nil (zCu l (by omega)) rfl rfl (nle rfl)) (.r rfl (zA3 (b := true) rfl rfl) (.r rfl (zA5 rfl rfl) .nil)))))))))))))))))))))))) ?_
     refine zAb (t := false) rfl (fun h => nomatch h) (fun _ => ?_)
     refine zAL ?_
     refine zAV (s' := mk [(3, .ptr 3 0), (4, .ptr 4 0), (6, .ptr 6 0), (12, .sl 8600 0 ((pvI (d.snaps ++ [-1])).length)), (13, .vi (i:Int)), (128, .vi 0), (129, .vi 0), (130, .vb false), (133, .vi 0), (134, .vi 0), (135, .vb false), (138, .sl 11300 0 ((pvP l).length)), (139, .sl 10400 0 ((pvP l).length)), (140, .vb true), (141, .vb false), (144, .sl 12200 0 ((pvP l).length)), (145, .sl 10400 0 ((pvP l).length)), (146, .vb true), (147, .vb false)] [(3, [.vi d.seq, .p none (.sl false 4 (pvE (d.mem))), .p none (.sl false 1 (pvR (tagT d.runs))), .p none (.sl false 1 (pvI (d.snaps)))]), (4, [.vi a.seq, .p none (.sl false 4 (pvE a.mem)), .p none (.sl false 1 (pvR (tagT a.runs))), .p none (.sl false 1 (pvI a.snaps))]), (6, [.vi b.seq, .p none (.sl false 4 (pvE b.mem)), .p none (.sl false 1 (pvR (tagT b.runs))), .p none (.sl false 1 (pvI b.snaps))])] [(8600, 1, pvI (d.snaps ++ [-1])), (10400, 2, pvP l), (11300, 2, pvP l), (12200, 2, pvP l)]) ?_ ?_
     · exact zAI ⟨rfl, rfl, rfl, rfl, rfl, rfl, rfl, rfl, rfl, rfl, rfl, rfl, rfl, rfl, rfl, rfl, rfl, rfl, rfl, trivial⟩ ⟨rfl, rfl, rfl, trivial⟩ ⟨rfl, rfl, rfl, rfl, trivial⟩ rfl
     refine zAA rfl (.m rfl rfl (.r rfl (zAe rfl rfl rfl (by omega)) (.a rfl rfl .nil))) ?_
     refine nxt (Q := fun _ _ => False) (z := i) (i + 1) ?_ ?_ ?_
     ·
      show (i + 1) ≤ (d.snaps ++ [-1]).length
      omega
     ·
      show (d.snaps ++ [-1]).length - (i + 1) < (d.snaps ++ [-1]).length - i
      omega
     · exact zAI ⟨rfl, rfl, rfl, rfl, (zAJ (by omega)), trivial⟩ ⟨rfl, rfl, rfl, trivial⟩ ⟨rfl, trivial⟩ rfl
    ·
     replace h14 := of_decide_eq_false h14
     refine zAu ?_
     refine zAB (zAA rfl (.a rfl rfl .nil) ?_)
     refine zAO ?_
     exact ends [_] [] (.cons (.tmp rfl) .nil) (.cons (.one .v (.v _)) .nil) (by decide) trivial
  ·
   have hokd := zB6 d hD
   rw [h1] at hokd
   try dsimp only at hokd
   have hos := zCT d hD
   rw [h2] at hos
   try dsimp only at hos
   have hsnn := (zCC h1).snaps
   have hpt : (d.snaps ++ [-1]).length = d.snaps.length + 1 := by simp
   have hDa := zLh hu.oka
   have hDb := zLh hu.okb
   have hone := hu.one
   have hoka := zB6 a hDa
   rw [hu.oka] at hoka
   try dsimp only at hoka
   have hokb := zB6 b hDb
   rw [hu.okb] at hokb
   try dsimp only at hokb
   have hfl := zHq d hD
   rw [hf] at hfl
   try dsimp only at hfl
   have hcma := zDT a hDa
   rw [hcc] at hcma
   try dsimp only at hcma
   have hcmd := zDT d hD
   rw [hcd] at hcmd
   try dsimp only at hcmd
   have hcs := zEJ d hD
   rw [hs] at hcs
   try dsimp only at hcs
   have hla1 := zAF a.mem
   have hla2 := zAk (tagT a.runs)
   have hla3 := zAU a.snaps
   have hla4 := zBv a.runs
   have hlb1 := zAF b.mem
   have hlb2 := zAk (tagT b.runs)
   have hlb3 := zAU b.snaps
   have hlb4 := zBv b.runs
   refine zAV (s' := mk [(3, .ptr 3 0)] [(3, [.vi d.seq, .sl 2301 0 ((pvE (d.mem)).length), .sl 2302 0 ((pvR (tagT d.runs)).length), .sl 2303 0 ((pvI (d.snaps)).length)])] [(2301, 4, pvE (d.mem)), (2302, 1, pvR (tagT d.runs)), (2303, 1, pvI (d.snaps))]) ?_ ?_
   · exact zAI ⟨rfl, trivial⟩ ⟨rfl, trivial⟩ ⟨rfl, rfl, rfl, trivial⟩ rfl
   refine zAZ zBD rfl (.r rfl (zAG rfl rfl rfl isAgg28 sizeOf28 (nle rfl)) (.run [2301, 2302, 2303, 2500] [] rfl (zAK rfl 2500 (X := []) en7 rfl (.val nod) (.cons (.agg (.cons (.bor .v) (.cons (.bor (.all (len := (pvE (d.mem)).length) (xs := pvE (d.mem)) rfl rfl (by decide))) (.cons (.bor (.all (len := (pvR (tagT d.runs)).length) (xs := pvR (tagT d.runs)) rfl rfl (by decide))) (.cons (.bor (.all (len := (pvI (d.snaps)).length) (xs := pvI (d.snaps)) rfl rfl (by decide))) .nil))))) .nil) (by decide) all_nil .nil (hokd) rfl rfl (nle rfl)) (.r rfl (zAG rfl rfl rfl isAgg28 sizeOf28 (nle rfl)) (.run [2301, 2302, 2303, 2700] [] rfl (zAK rfl 2700 (X := []) en8 rfl (.val nod) (.cons (.agg (.cons (.bor .v) (.cons (.bor (.all (len := (pvE (d.mem)).length) (xs := pvE (d.mem)) rfl rfl (by decide))) (.cons (.bor (.all (len := (pvR (tagT d.runs)).length) (xs := pvR (tagT d.runs)) rfl rfl (by decide))) (.cons (.bor (.all (len := (pvI (d.snaps)).length) (xs := pvI (d.snaps)) rfl rfl (by decide))) .nil))))) .nil) (by decide) all_nil .nil (hos) rfl rfl (nle rfl)) (.r rfl (zAX (zKD rfl rfl rfl underlying4) (zAM (show (!(true == true)) = false from by simp))) (.m rfl rfl (.r rfl (zAG rfl rfl rfl isAgg28 sizeOf28 (nle rfl)) (.run [2301, 2302, 2303, 3100] [] rfl (zAK rfl 3100 (X := []) en7 rfl (.val nod) (.cons (.agg (.cons (.bor .v) (.cons (.bor (.all (len := (pvE (d.mem)).length) (xs := pvE (d.mem)) rfl rfl (by decide))) (.cons (.bor (.all (len := (pvR (tagT d.runs)).length) (xs := pvR (tagT d.runs)) rfl rfl (by decide))) (.cons (.bor (.all (len := (pvI (d.snaps)).length) (xs := pvI (d.snaps)) rfl rfl (by decide))) .nil))))) .nil) (by decide) all_nil .nil (hokd) rfl rfl (nle rfl)) (.r rfl (zA3 (b := true) rfl rfl) (.r rfl (zA5 rfl rfl) .nil)))))))))) (by kernel_rfl) ?_
   refine zAb (t := false) rfl (fun h => nomatch h) (fun _ => ?_)
   refine zAL ?_
   refine zAB ?_
   refine zAV (s' := mk [(3, .ptr 3 0)] [(3, [.vi d.seq, .sl 2301 0 ((pvE (d.mem)).length), .sl 2302 0 ((pvR (tagT d.runs)).length), .sl 2303 0 ((pvI (d.snaps)).length)])] [(2301, 4, pvE (d.mem)), (2302, 1, pvR (tagT d.runs)), (2303, 1, pvI (d.snaps))]) ?_ ?_
   · exact zAI ⟨rfl, trivial⟩ ⟨rfl, trivial⟩ ⟨rfl, rfl, rfl, trivial⟩ rfl
   refine zAA rfl (.r rfl (zAG rfl rfl rfl isAgg28 sizeOf28 (nle rfl)) (.run [2301, 2302, 2303, 4100, 4101, 4102, 4103, 4104] [] rfl (zAK rfl 4100 (X := []) en9 rfl (.val nod) (.cons (.agg (.cons (.bor .v) (.cons (.bor (.all (len := (pvE (d.mem)).length) (xs := pvE (d.mem)) rfl rfl (by decide))) (.cons (.bor (.all (len := (pvR (tagT d.runs)).length) (xs := pvR (tagT d.runs)) rfl rfl (by decide))) (.cons (.bor (.all (len := (pvI (d.snaps)).length) (xs := pvI (d.snaps)) rfl rfl (by decide))) .nil))))) .nil) (by decide) all_nil .nil (hfl) rfl rfl (nle rfl)) (.m rfl rfl (.r rfl (zAm rfl rfl rfl) (.r rfl (zAm rfl rfl rfl) (.run [] [4] rfl (zAl rfl 4 zBy rfl (by decide) rfl (by decide)) (.r rfl (zAE rfl rfl rfl rfl rfl sizeOf28 rfl (nle rfl)) (.a rfl rfl .nil)))))))) ?_
   refine zAB (zAA rfl (.r rfl (zAG rfl rfl rfl isAgg28 sizeOf28 (nle rfl)) (.run [4101, 4102, 4103, 4600, 4601, 4602, 4603, 4604] [] rfl (zAK rfl 4600 (X := []) en10 rfl (.val nod) (.cons (.agg (.cons (.bor .v) (.cons (.bor (.all (len := (pvE a.mem).length) (xs := pvE a.mem) rfl rfl (by decide))) (.cons (.bor (.all (len := (pvR (tagT a.runs)).length) (xs := pvR (tagT a.runs)) rfl rfl (by decide))) (.cons (.bor (.all (len := (pvI a.snaps).length) (xs := pvI a.snaps) rfl rfl (by decide))) .nil))))) .nil) (by decide) all_nil .nil (hcma) rfl rfl (nle rfl)) (.m rfl rfl (.r rfl (zAm rfl rfl rfl) (.r rfl (zAm rfl rfl rfl) (.run [] [6] rfl (zAl rfl 6 zBy rfl (by decide) rfl (by decide)) (.r rfl (zAE rfl rfl rfl rfl rfl sizeOf28 rfl (nle rfl)) (.a rfl rfl .nil)))))))) ?_)
   refine zAB ?_
   refine zAV (s' := mk [(3, .ptr 3 0), (4, .ptr 4 0), (6, .ptr 6 0), (7, .vi 4)] [(3, [.vi d.seq, .sl 2301 0 ((pvE (d.mem)).length), .sl 2302 0 ((pvR (tagT d.runs)).length), .sl 2303 0 ((pvI (d.snaps)).length)]), (4, [.vi a.seq, .sl 4101 0 ((pvE a.mem).length), .sl 4102 0 ((pvR (tagT a.runs)).length), .sl 4103 0 ((pvI a.snaps).length)]), (6, [.vi b.seq, .sl 4601 0 ((pvE b.mem).length), .sl 4602 0 ((pvR (tagT b.runs)).length), .sl 4603 0 ((pvI b.snaps).length)])] [(2301, 4, pvE (d.mem)), (2302, 1, pvR (tagT d.runs)), (2303, 1, pvI (d.snaps)), (4101, 4, pvE a.mem), (4102, 1, pvR (tagT a.runs)), (4103, 1, pvI a.snaps), (4601, 4, pvE b.mem), (4602, 1, pvR (tagT b.runs)), (4603, 1, pvI b.snaps)]) ?_ ?_
   · exact zAI ⟨rfl, rfl, rfl, rfl, trivial⟩ ⟨rfl, rfl, rfl, trivial⟩ ⟨rfl, rfl, rfl, rfl, rfl, rfl, rfl, rfl, rfl, trivial⟩ rfl
   refine zAA rfl (.r rfl (zAG rfl rfl rfl isAgg28 sizeOf28 (nle rfl)) (.run [2301, 2302, 2303, 5100, 5101, 5102, 5103, 5104] [] rfl (zAK rfl 5100 (X := []) en10 rfl (.val nod) (.cons (.agg (.cons (.bor .v) (.cons (.bor (.all (len := (pvE (d.mem)).length) (xs := pvE (d.mem)) rfl rfl (by decide))) (.cons (.bor (.all (len := (pvR (tagT d.runs)).length) (xs := pvR (tagT d.runs)) rfl rfl (by decide))) (.cons (.bor (.all (len := (pvI (d.snaps)).length) (xs := pvI (d.snaps)) rfl rfl (by decide))) .nil))))) .nil) (by decide) all_nil .nil (hcmd) rfl rfl (nle rfl)) (.m rfl rfl (.r rfl (zAm rfl rfl rfl) (.r rfl (zAm rfl rfl rfl) (.run [] [8] rfl (zAl rfl 8 zBy rfl (by decide) rfl (by decide)) (.r rfl (zAE rfl rfl rfl rfl rfl sizeOf28 rfl (nle rfl)) (.a rfl rfl .nil)))))))) ?_
   refine zAB (zAA rfl (.r rfl (zAG rfl rfl rfl isAgg28 sizeOf28 (nle rfl)) (.run [2301, 2302, 2303, 5600, 5601, 5602, 5603, 5604] [] rfl (zAK rfl 5600 (X := []) en11 rfl (.val nod) (.cons (.agg (.cons (.bor .v) (.cons (.bor (.all (len := (pvE (d.mem)).length) (xs := pvE (d.mem)) rfl rfl (by decide))) (.cons (.bor (.all (len := (pvR (tagT d.runs)).length) (xs := pvR (tagT d.runs)) rfl rfl (by decide))) (.cons (.bor (.all (len := (pvI (d.snaps)).length) (xs := pvI (d.snaps)) rfl rfl (by decide))) .nil))))) .nil) (by decide) all_nil .nil (hcs) rfl rfl (nle rfl)) (.m rfl rfl (.r rfl (zAm rfl rfl rfl) (.r rfl (zAm rfl rfl rfl) (.run [] [10] rfl (zAl rfl 10 zBy rfl (by decide) rfl (by decide)) (.r rfl (zAE rfl rfl rfl rfl rfl sizeOf28 rfl (nle rfl)) (.a rfl rfl .nil)))))))) ?_)
   refine zAV (zCk 2301 rfl) ?_
   have hp15 : (some [.vi d.seq, .p none (.sl false 4 (((pvE (d.mem)).drop 0).take ((pvE (d.mem)).length))), .sl 2302 0 ((pvR (tagT d.runs)).length), .sl 2303 0 ((pvI (d.snaps)).length)] : Option (List AV)) = some [.vi d.seq, .p none (.sl false 4 (pvE (d.mem))), .sl 2302 0 ((pvR (tagT d.runs)).length), .sl 2303 0 ((pvI (d.snaps)).length)] := by simp only [zB7]
   refine zAV (s' := mk [(3, .ptr 3 0), (4, .ptr 4 0), (6, .ptr 6 0), (7, .vi 4), (9, .vi e), (11, .vi e)] [(3, [.vi d.seq, .p none (.sl false 4 (pvE (d.mem))), .sl 2302 0 ((pvR (tagT d.runs)).length), .sl 2303 0 ((pvI (d.snaps)).length)]), (4, [.vi a.seq, .sl 4101 0 ((pvE a.mem).length), .sl 4102 0 ((pvR (tagT a.runs)).length), .sl 4103 0 ((pvI a.snaps).length)]), (6, [.vi b.seq, .sl 4601 0 ((pvE b.mem).length), .sl 4602 0 ((pvR (tagT b.runs)).length), .sl 4603 0 ((pvI b.snaps).length)])] [(2302, 1, pvR (tagT d.runs)), (2303, 1, pvI (d.snaps)), (4101, 4, pvE a.mem), (4102, 1, pvR (tagT a.runs)), (4103, 1, pvI a.snaps), (4601, 4, pvE b.mem), (4602, 1, pvR (tagT b.runs)), (4603, 1, pvI b.snaps)]) ?_ ?_
   · exact zAI ⟨rfl, rfl, rfl, rfl, rfl, rfl, trivial⟩ ⟨hp15, rfl, rfl, trivial⟩ ⟨rfl, rfl, rfl, rfl, rfl, rfl, rfl, rfl, trivial⟩ rfl
   refine zAV (zCk 2302 rfl) ?_
   have hp16 : (some [.vi d.seq, .p none (.sl false 4 (pvE (d.mem))), .p none (.sl false 1 (((pvR (tagT d.runs)).drop 0).take ((pvR (tagT d.runs)).length))), .sl 2303 0 ((pvI (d.snaps)).length)] : Option (List AV)) = some [.vi d.seq, .p none (.sl false 4 (pvE (d.mem))), .p none (.sl false 1 (pvR (tagT d.runs))), .sl 2303 0 ((pvI (d.snaps)).length)] := by simp only [zB7]
   refine zAV (s' := mk [(3, .ptr 3 0), (4, .ptr 4 0), (6, .ptr 6 0), (7, .vi 4), (9, .vi e), (11, .vi e)] [(3, [.vi d.seq, .p none (.sl false 4 (pvE (d.mem))), .p none (.sl false 1 (pvR (tagT d.runs))), .sl 2303 0 ((pvI (d.snaps)).length)]), (4, [.vi a.seq, .sl 4101 0 ((pvE a.mem).length), .sl 4102 0 ((pvR (tagT a.runs)).length), .sl 4103 0 ((pvI a.snaps).length)]), (6, [.vi b.seq, .sl 4601 0 ((pvE b.mem).length), .sl 4602 0 ((pvR (tagT b.runs)).length), .sl 4603 0 ((pvI b.snaps).length)])] [(2303, 1, pvI (d.snaps)), (4101, 4, pvE a.mem), (4102, 1, pvR (tagT a.runs)), (4103, 1, pvI a.snaps), (4601, 4, pvE b.mem), (4602, 1, pvR (tagT b.runs)), (4603, 1, pvI b.snaps)]) ?_ ?_
   · exact zAI ⟨rfl, rfl, rfl, rfl, rfl, rfl, trivial⟩ ⟨hp16, rfl, rfl, trivial⟩ ⟨rfl, rfl, rfl, rfl, rfl, rfl, rfl, trivial⟩ rfl
   refine zAV (zCk 2303 rfl) ?_
   have hp17 : (some [.vi d.seq, .p none (.sl false 4 (pvE (d.mem))), .p none (.sl false 1 (pvR (tagT d.runs))), .p none (.sl false 1 (((pvI (d.snaps)).drop 0).take ((pvI (d.snaps)).length)))] : Option (List AV)) = some [.vi d.seq, .p none (.sl false 4 (pvE (d.mem))), .p none (.sl false 1 (pvR (tagT d.runs))), .p none (.sl false 1 (pvI (d.snaps)))] := by simp only [zB7]
   refine zAV (s' := mk [(3, .ptr 3 0), (4, .ptr 4 0), (6, .ptr 6 0), (7, .vi 4), (9, .vi e), (11, .vi e)] [(3, [.vi d.seq, .p none (.sl false 4 (pvE (d.mem))), .p none (.sl false 1 (pvR (tagT d.runs))), .p none (.sl false 1 (pvI (d.snaps)))]), (4, [.vi a.seq, .sl 4101 0 ((pvE a.mem).length), .sl 4102 0 ((pvR (tagT a.runs)).length), .sl 4103 0 ((pvI a.snaps).length)]), (6, [.vi b.seq, .sl 4601 0 ((pvE b.mem).length), .sl 4602 0 ((pvR (tagT b.runs)).length), .sl 4603 0 ((pvI b.snaps).length)])] [(4101, 4, pvE a.mem), (4102, 1, pvR (tagT a.runs)), (4103, 1, pvI a.snaps), (4601, 4, pvE b.mem), (4602, 1, pvR (tagT b.runs)), (4603, 1, pvI b.snaps)]) ?_ ?_
   · exact zAI ⟨rfl, rfl, rfl, rfl, rfl, rfl, trivial⟩ ⟨hp17, rfl, rfl, trivial⟩ ⟨rfl, rfl, rfl, rfl, rfl, rfl, trivial⟩ rfl
   refine zAV (zCk 4101 rfl) ?_
   have hp18 : (some [.vi a.seq, .p none (.sl false 4 (((pvE a.mem).drop 0).take ((pvE a.mem).length))), .sl 4102 0 ((pvR (tagT a.runs)).length), .sl 4103 0 ((pvI a.snaps).length)] : Option (List AV)) = some [.vi a.seq, .p none (.sl false 4 (pvE a.mem)), .sl 4102 0 ((pvR (tagT a.runs)).length), .sl 4103 0 ((pvI a.snaps).length)] := by simp only [zB7]
   refine zAV (s' := mk [(3, .ptr 3 0), (4, .ptr 4 0), (6, .ptr 6 0), (7, .vi 4), (9, .vi e), (11, .vi e)] [(3, [.vi d.seq, .p none (.sl false 4 (pvE (d.mem))), .p none (.sl false 1 (pvR (tagT d.runs))), .p none (.sl false 1 (pvI (d.snaps)))]), (4, [.vi a.seq, .p none (.sl false 4 (pvE a.mem)), .sl 4102 0 ((pvR (tagT a.runs)).length), .sl 4103 0 ((pvI a.snaps).length)]), (6, [.vi b.seq, .sl 4601 0 ((pvE b.mem).length), .sl 4602 0 ((pvR (tagT b.runs)).length), .sl 4603 0 ((pvI b.snaps).length)])] [(4102, 1, pvR (tagT a.runs)), (4103, 1, pvI a.snaps), (4601, 4, pvE b.mem), (4602, 1, pvR (tagT b.runs)), (4603, 1, pvI b.snaps)]) ?_ ?_
   · exact zAI ⟨rfl, rfl, rfl, rfl, rfl, rfl, trivial⟩ ⟨rfl, hp18, rfl, trivial⟩ ⟨rfl, rfl, rfl, rfl, rfl, trivial⟩ rfl
   refine zAV (zCk 4102 rfl) ?_
   have hp19 : (some [.vi a.seq, .p none (.sl false 4 (pvE a.mem)), .p none (.sl false 1 (((pvR (tagT a.runs)).drop 0).take ((pvR (tagT a.runs)).length))), .sl 4103 0 ((pvI a.snaps).length)] : Option (List AV)) = some [.vi a.seq, .p none (.sl false 4 (pvE a.mem)), .p none (.sl false 1 (pvR (tagT a.runs))), .sl 4103 0 ((pvI a.snaps).length)] := by simp only [zB7]
   refine zAV (s' := mk [(3, .ptr 3 0), (4, .ptr 4 0), (6, .ptr 6 0), (7, .vi 4), (9, .vi e), (11, .vi e)] [(3, [.vi d.seq, .p none (.sl false 4 (pvE (d.mem))), .p none (.sl false 1 (pvR (tagT d.runs))), .p none (.sl false 1 (pvI (d.snaps)))]), (4, [.vi a.seq, .p none (.sl false 4 (pvE a.mem)), .p none (.sl false 1 (pvR (tagT a.runs))), .sl 4103 0 ((pvI a.snaps).length)]), (6, [.vi b.seq, .sl 4601 0 ((pvE b.mem).length), .sl 4602 0 ((pvR (tagT b.runs)).length), .sl 4603 0 ((pvI b.snaps).length)])] [(4103, 1, pvI a.snaps), (4601, 4, pvE b.mem), (4602, 1, pvR (tagT b.runs)), (4603, 1, pvI b.snaps)]) ?_ ?_
   · exact zAI ⟨rfl, rfl, rfl, rfl, rfl, rfl, trivial⟩ ⟨rfl, hp19, rfl, trivial⟩ ⟨rfl, rfl, rfl, rfl, trivial⟩ rfl
   refine zAV (zCk 4103 rfl) ?_
   have hp20 : (some [.vi a.seq, .p none (.sl false 4 (pvE a.mem)), .p none (.sl false 1 (pvR (tagT a.runs))), .p none (.sl false 1 (((pvI a.snaps).drop 0).take ((pvI a.snaps).length)))] : Option (List AV)) = some [.vi a.seq, .p none (.sl false 4 (pvE a.mem)), .p none (.sl false 1 (pvR (tagT a.runs))), .p none (.sl false 1 (pvI a.snaps))] := by simp only [zB7]
   refine zAV (s' := mk [(3, .ptr 3 0), (4, .ptr 4 0), (6, .ptr 6 0), (7, .vi 4), (9, .vi e), (11, .vi e)] [(3, [.vi d.seq, .p none (.sl false 4 (pvE (d.mem))), .p none (.sl false 1 (pvR (tagT d.runs))), .p none (.sl false 1 (pvI (d.snaps)))]), (4, [.vi a.seq, .p none (.sl false 4 (pvE a.mem)), .p none (.sl false 1 (pvR (tagT a.runs))), .p none (.sl false 1 (pvI a.snaps))]), (6, [.vi b.seq, .sl 4601 0 ((pvE b.mem).length), .sl 4602 0 ((pvR (tagT b.runs)).length), .sl 4603 0 ((pvI b.snaps).length)])] [(4601, 4, pvE b.mem), (4602, 1, pvR (tagT b.runs)), (4603, 1, pvI b.snaps)]) ?_ ?_
   · exact zAI ⟨rfl, rfl, rfl, rfl, rfl, rfl, trivial⟩ ⟨rfl, hp20, rfl, trivial⟩ ⟨rfl, rfl, rfl, trivial⟩ rfl
   refine zAV (zCk 4601 rfl) ?_
   have hp21 : (some [.vi b.seq, .p none (.sl false 4 (((pvE b.mem).drop 0).take ((pvE b.mem).length))), .sl 4602 0 ((pvR (tagT b.runs)).length), .sl 4603 0 ((pvI b.snaps).length)] : Option (List AV)) = some [.vi b.seq, .p none (.sl false 4 (pvE b.mem)), .sl 4602 0 ((pvR (tagT b.runs)).length), .sl 4603 0 ((pvI b.snaps).length)] := by simp only [zB7]
   refine zAV (s' := mk [(3, .ptr 3 0), (4, .ptr 4 0), (6, .ptr 6 0), (7, .vi 4), (9, .vi e), (11, .vi e)] [(3, [.vi d.seq, .p none (.sl false 4 (pvE (d.mem))), .p none (.sl false 1 (pvR (tagT d.runs))), .p none (.sl false 1 (pvI (d.snaps)))]), (4, [.vi a.seq, .p none (.sl false 4 (pvE a.mem)), .p none (.sl false 1 (pvR (tagT a.runs))), .p none (.sl false 1 (pvI a.snaps))]), (6, [.vi b.seq, .p none (.sl false 4 (pvE b.mem)), .sl 4602 0 ((pvR (tagT b.runs)).length), .sl 4603 0 ((pvI b.snaps).length)])] [(4602, 1, pvR (tagT b.runs)), (4603, 1, pvI b.snaps)]) ?_ ?_
   · exact zAI ⟨rfl, rfl, rfl, rfl, rfl, rfl, trivial⟩ ⟨rfl, rfl, hp21, trivial⟩ ⟨rfl, rfl, trivial⟩ rfl
   refine zAV (zCk 4602 rfl) ?_
   have hp22 : (some [.vi b.seq, .p none (.sl false 4 (pvE b.mem)), .p none (.sl false 1 (((pvR (tagT b.runs)).drop 0).take ((pvR (tagT b.runs)).length))), .sl 4603 0 ((pvI b.snaps).length)] : Option (List AV)) = some [.vi b.seq, .p none (.sl false 4 (pvE b.mem)), .p none (.sl false 1 (pvR (tagT b.runs))), .sl 4603 0 ((pvI b.snaps).length)] := by simp only [zB7]
   refine zAV (s' := mk [(3, .ptr 3 0), (4, .ptr 4 0), (6, .ptr 6 0), (7, .vi 4), (9, .vi e), (11, .vi e)] [(3, [.vi d.seq, .p none (.sl false 4 (pvE (d.mem))), .p none (.sl false 1 (pvR (tagT d.runs))), .p none (.sl false 1 (pvI (d.snaps)))]), (4, [.vi a.seq, .p none (.sl false 4 (pvE a.mem)), .p none (.sl false 1 (pvR (tagT a.runs))), .p none (.sl false 1 (pvI a.snaps))]), (6, [.vi b.seq, .p none (.sl false 4 (pvE b.mem)), .p none (.sl false 1 (pvR (tagT b.runs))), .sl 4603 0 ((pvI b.snaps).length)])] [(4603, 1, pvI b.snaps)]) ?_ ?_
   · exact zAI ⟨rfl, rfl, rfl, rfl, rfl, rfl, trivial⟩ ⟨rfl, rfl, hp22, trivial⟩ ⟨rfl, trivial⟩ rfl
   refine zAV (zCk 4603 rfl) ?_
   have hp23 : (some [.vi b.seq, .p none (.sl false 4 (pvE b.mem)), .p none (.sl false 1 (pvR (tagT b.runs))), .p none (.sl false 1 (((pvI b.snaps).drop 0).take ((pvI b.snaps).length)))] : Option (List AV)) = some [.vi b.seq, .p none (.sl false 4 (pvE b.mem)), .p none (.sl false 1 (pvR (tagT b.runs))), .p none (.sl false 1 (pvI b.snaps))] := by simp only [zB7]
   refine zAV (s' := mk [(3, .ptr 3 0), (4, .ptr 4 0), (6, .ptr 6 0), (7, .vi 4), (9, .vi e), (11, .vi e)] [(3, [.vi d.seq, .p none (.sl false 4 (pvE (d.mem))), .p none (.sl false 1 (pvR (tagT d.runs))), .p none (.sl false 1 (pvI (d.snaps)))]), (4, [.vi a.seq, .p none (.sl false 4 (pvE a.mem)), .p none (.sl false 1 (pvR (tagT a.runs))), .p none (.sl false 1 (pvI a.snaps))]), (6, [.vi b.seq, .p none (.sl false 4 (pvE b.mem)), .p none (.sl false 1 (pvR (tagT b.runs))), .p none (.sl false 1 (pvI b.snaps))])] []) ?_ ?_
   · exact zAI ⟨rfl, rfl, rfl, rfl, rfl, rfl, trivial⟩ ⟨rfl, rfl, hp23, trivial⟩ trivial rfl
   refine zAB ?_
   refine zAB (zAA rfl (.m rfl rfl (.m rfl rfl (.r rfl (zAX (zCl rfl rfl rfl) (zAM (congrArg Bool.not (decide_eq_true (by simp))))) (.m rfl rfl (.m rfl rfl (.r rfl (zAX (zCl rfl rfl rfl) (zAM (congrArg Bool.not (decide_eq_false (by omega))))) (.m rfl rfl (.m rfl rfl (.r rfl (zAX (zCl rfl rfl rfl) (zAM (congrArg Bool.not (decide_eq_true (by simp))))) (.r rfl (zBZ rfl rfl) (.r rfl (zA5 rfl rfl) (.m rfl rfl (.r rfl (zAG rfl rfl rfl isAgg28 sizeOf28 (nle rfl)) (.run [7200] [] rfl (zAK rfl 7200 (X := []) en7 rfl (.val nod) (.cons (.agg (.cons (.bor .v) (.cons (.bor (.sl nod)) (.cons (.bor (.sl nod)) (.cons (.bor (.sl nod)) .nil))))) .nil) (by decide) all_nil .nil (hoka) rfl rfl (nle rfl)) (.r rfl (zA3 (b := true) rfl rfl) (.r rfl (zA5 rfl rfl) (.m rfl rfl (.r rfl (zAG rfl rfl rfl isAgg28 sizeOf28 (nle rfl)) (.run [7700] [] rfl (zAK rfl 7700 (X := []) en7 rfl (.val nod) (.cons (.agg (.cons (.bor .v) (.cons (.bor (.sl nod)) (.cons (.bor (.sl nod)) (.cons (.bor (.sl nod)) .nil))))) .nil) (by decide) all_nil .nil (hokb) rfl rfl (nle rfl)) (.r rfl (zA3 (b := true) rfl rfl) (.r rfl (zA5 rfl rfl) (.m rfl rfl (.r rfl (zAC rfl rfl underlying28 rfl sizeOf25 (by decide)) (.r rfl (zAD rfl rfl rfl isAgg25 rfl) (.r rfl (zAa rfl rfl underlying25) (.r rfl (zBF rfl rfl rfl) (.r rfl (zA5 rfl rfl) .nil))))))))))))))))))))))))))) ?_)
   refine zAb (t := decide (1 < ((pvR (tagT b.runs)).length : Int))) rfl (fun h24 => ?_) (fun h24 => ?_)
   ·
    replace h24 := of_decide_eq_true h24
    omega
   ·
    replace h24 := of_decide_eq_false h24
    refine zAL ?_
    refine zAB ?_
    refine zAV (s' := mk [(3, .ptr 3 0), (4, .ptr 4 0), (6, .ptr 6 0)] [(3, [.vi d.seq, .p none (.sl false 4 (pvE (d.mem))), .p none (.sl false 1 (pvR (tagT d.runs))), .p none (.sl false 1 (pvI (d.snaps)))]), (4, [.vi a.seq, .p none (.sl false 4 (pvE a.mem)), .p none (.sl false 1 (pvR (tagT a.runs))), .p none (.sl false 1 (pvI a.snaps))]), (6, [.vi b.seq, .p none (.sl false 4 (pvE b.mem)), .p none (.sl false 1 (pvR (tagT b.runs))), .p none (.sl false 1 (pvI b.snaps))])] []) ?_ ?_
    · exact zAI ⟨rfl, rfl, rfl, trivial⟩ ⟨rfl, rfl, rfl, trivial⟩ trivial rfl
    refine zAA rfl (.run [8600] [] rfl (zAQ rfl 8600 underlying26 inf2 (nle rfl) (by decide) rfl rfl rfl .nil (by decide) rfl (by decide) rfl (by decide) rfl) (.r rfl (zAC rfl rfl underlying28 rfl sizeOf26 (by decide)) (.r rfl (zAD rfl rfl rfl isAgg26 rfl) (.run [8600] [] rfl (zAq rfl 8600 (ib := 8600) (len := ([] ++ (pvI (d.snaps))).length) rfl rfl (.row (len := 0) (xs := []) rfl rfl (.inl rfl)) (.fro (zA7 _)) underlying26 (sk underlying26 rfl) inf2 rfl (by decide) (by decide) (by decide) List.length_append (by simp only [maxLen, List.length_append, List.length_cons, List.length_nil, zAU]; omega) (by simp only [maxLen, List.length_append, List.length_cons, List.length_nil, zAU]; omega)) (.run [9000] [] rfl (zAQ rfl 9000 underlying26 inf2 (nle rfl) (by decide) rfl rfl rfl (.cons .v .nil) (by decide) rfl (by decide) rfl (by decide) rfl) (.run [8600] [] rfl (zAq rfl 8600 (ib := 8600) (len := (([] ++ (pvI (d.snaps))) ++ [[PV.v (.int .i64 (-1))]]).length) rfl rfl (.row (len := ([] ++ (pvI (d.snaps))).length) (xs := [] ++ (pvI (d.snaps))) rfl rfl (.inl rfl)) (.give (len := 1) (xs := [[PV.v (.int .i64 (-1))]]) rfl rfl) underlying26 (sk underlying26 rfl) inf2 rfl (by decide) (by decide) (by decide) List.length_append (by simp only [maxLen, List.length_append, List.length_cons, List.length_nil, zAU]; omega) (by simp only [maxLen, List.length_append, List.length_cons, List.length_nil, zAU]; omega)) (.a rfl rfl .nil))))))) ?_
    have hr25 : ([] ++ (pvI (d.snaps))) ++ [[PV.v (.int .i64 (-1))]] = pvI (d.snaps ++ [-1]) := by simp [pvI]
    have hp26 : (.sl 8600 0 ((([] ++ (pvI (d.snaps))) ++ [[PV.v (.int .i64 (-1))]]).length) : AV) = .sl 8600 0 ((pvI (d.snaps ++ [-1])).length) := by simp only [hr25]
    refine zAV (s' := mk [(3, .ptr 3 0), (4, .ptr 4 0), (6, .ptr 6 0), (12, .sl 8600 0 ((pvI (d.snaps ++ [-1])).length))] [(3, [.vi d.seq, .p none (.sl false 4 (pvE (d.mem))), .p none (.sl false 1 (pvR (tagT d.runs))), .p none (.sl false 1 (pvI (d.snaps)))]), (4, [.vi a.seq, .p none (.sl false 4 (pvE a.mem)), .p none (.sl false 1 (pvR (tagT a.runs))), .p none (.sl false 1 (pvI a.snaps))]), (6, [.vi b.seq, .p none (.sl false 4 (pvE b.mem)), .p none (.sl false 1 (pvR (tagT b.runs))), .p none (.sl false 1 (pvI b.snaps))])] [(8600, 1, pvI (d.snaps ++ [-1]))]) ?_ ?_
    · exact zAI ⟨rfl, rfl, rfl, hp26, trivial⟩ ⟨rfl, rfl, rfl, trivial⟩ ⟨(congrArg (fun x => some (1, x)) hr25), trivial⟩ rfl
    refine zAB ?_
    refine zAB (zAA rfl (.a rfl rfl .nil) ?_)
    refine zAR ?_
    refine zAo (σ := Nat) (fun i => mk [(3, .ptr 3 0), (4, .ptr 4 0), (6, .ptr 6 0), (12, .sl 8600 0 ((pvI (d.snaps ++ [-1])).length)), (13, .vi (i:Int))] [(3, [.vi d.seq, .p none (.sl false 4 (pvE (d.mem))), .p none (.sl false 1 (pvR (tagT d.runs))), .p none (.sl false 1 (pvI (d.snaps)))]), (4, [.vi a.seq, .p none (.sl false 4 (pvE a.mem)), .p none (.sl false 1 (pvR (tagT a.runs))), .p none (.sl false 1 (pvI a.snaps))]), (6, [.vi b.seq, .p none (.sl false 4 (pvE b.mem)), .p none (.sl false 1 (pvR (tagT b.runs))), .p none (.sl false 1 (pvI b.snaps))])] [(8600, 1, pvI (d.snaps ++ [-1]))]) (fun i => i ≤ (d.snaps ++ [-1]).length) (fun i => (d.snaps ++ [-1]).length - i) 0 (by simp) (zAI ⟨rfl, rfl, rfl, rfl, (zAJ (by omega)), trivial⟩ ⟨rfl, rfl, rfl, trivial⟩ ⟨rfl, trivial⟩ rfl) ?_
    rintro i hG
    replace hG : i ≤ (d.snaps ++ [-1]).length := hG
    have hpl := zAU (d.snaps ++ [-1])
    refine zAB ?_
    refine zAB (zAA rfl (.m rfl rfl (.m rfl rfl (.r rfl (zA2 rfl rfl underlying26) (.r rfl (zA4 rfl rfl rfl) .nil)))) ?_)
    refine zAb (t := decide ((i:Int) < ((pvI (d.snaps ++ [-1])).length : Int))) rfl (fun h27 => ?_) (fun h27 => ?_)
    ·
     replace h27 := of_decide_eq_true h27
     refine zAL ?_
     refine zAB ?_
     refine zAR ?_
     refine zAB ?_
     obtain ⟨p, hp⟩ : ∃ p, (d.snaps ++ [-1])[i]? = some p := ⟨_, List.getElem?_eq_getElem (by omega)⟩
     obtain ⟨l, s1, s2, s3⟩ := hu.sa p (by simpa using List.mem_of_getElem? hp)
     have hll := zJE d p ⟨#[]⟩ ⟨#[]⟩
     rw [s1] at hll
     dsimp only at hll
     have hlv := zBa l
     have hscd := zDX d hD p ⟨#[]⟩ ⟨#[]⟩
     rw [s1] at hscd
     try dsimp only at hscd
     have hsca := zDX a hDa p ⟨#[]⟩ ⟨#[]⟩
     rw [s2] at hsca
     try dsimp only at hsca
     have hscb := zDX b hDb p ⟨#[]⟩ ⟨#[]⟩
     rw [s3] at hscb
     try dsimp only at hscb
     refine zAZ zBD rfl (.r rfl (zAG rfl rfl rfl isAgg28 sizeOf28 (nle rfl)) (.m rfl rfl (.m rfl rfl (.r rfl (zAW i rfl rfl rfl rfl underlying26 sizeOf2 rfl rfl (by omega)) (.r rfl (zAt rfl rfl rfl (zBe hp) isAgg2 rfl) (.run [10400, 10401] [] rfl (zAK rfl 10400 (X := []) en12 rfl (.val nod) (.cons (.agg (.cons (.bor .v) (.cons (.bor (.sl nod)) (.cons (.bor (.sl nod)) (.cons (.bor (.sl nod)) .nil))))) (.cons (.one (.bor .v)) (.cons (.one (.bor .v)) (.cons (.one (.bor .v)) .nil)))) (by decide) all_nil .nil (hscd) rfl rfl (nle rfl)) (.m rfl rfl (.r rfl (zAm rfl rfl rfl) (.r rfl (zAm rfl rfl rfl) (.a rfl rfl (.a rfl rfl .nil))))))))))) (by kernel_rfl) ?_
     refine zAB ?_
     refine zAV (s' := mk [(3, .ptr 3 0), (4, .ptr 4 0), (6, .ptr 6 0), (12, .sl 8600 0 ((pvI (d.snaps ++ [-1])).length)), (13, .vi (i:Int)), (14, .sl 10400 0 ((pvP l).length)), (15, .vi 0)] [(3, [.vi d.seq, .p none (.sl false 4 (pvE (d.mem))), .p none (.sl false 1 (pvR (tagT d.runs))), .p none (.sl false 1 (pvI (d.snaps)))]), (4, [.vi a.seq, .p none (.sl false 4 (pvE a.mem)), .p none (.sl false 1 (pvR (tagT a.runs))), .p none (.sl false 1 (pvI a.snaps))]), (6, [.vi b.seq, .p none (.sl false 4 (pvE b.mem)), .p none (.sl false 1 (pvR (tagT b.runs))), .p none (.sl false 1 (pvI b.snaps))])] [(8600, 1, pvI (d.snaps ++ [-1])), (10400, 2, pvP l)]) ?_ ?_
     · exact zAI ⟨rfl, rfl, rfl, rfl, rfl, rfl, rfl, trivial⟩ ⟨rfl, rfl, rfl, trivial⟩ ⟨rfl, rfl, trivial⟩ rfl
     refine zAZ zBD rfl (.r rfl (zAG rfl rfl rfl isAgg28 sizeOf28 (nle rfl)) (.m rfl rfl (.m rfl rfl (.r rfl (zAW i rfl rfl rfl rfl underlying26 sizeOf2 rfl rfl (by omega)) (.r rfl (zAt rfl rfl rfl (zBe hp) isAgg2 rfl) (.run [11300, 11301] [] rfl (zAK rfl 11300 (X := []) en12 rfl (.val nod) (.cons (.agg (.cons (.bor .v) (.cons (.bor (.sl nod)) (.cons (.bor (.sl nod)) (.cons (.bor (.sl nod)) .nil))))) (.cons (.one (.bor .v)) (.cons (.one (.bor .v)) (.cons (.one (.bor .v)) .nil)))) (by decide) all_nil .nil (hsca) rfl rfl (nle rfl)) (.m rfl rfl (.r rfl (zAm rfl rfl rfl) (.r rfl (zAm rfl rfl rfl) (.a rfl rfl (.a rfl rfl .nil))))))))))) (by kernel_rfl) ?_
     refine zAB ?_
     refine zAV (s' := mk [(3, .ptr 3 0), (4, .ptr 4 0), (6, .ptr 6 0), (12, .sl 8600 0 ((pvI (d.snaps ++ [-1])).length)), (13, .vi (i:Int)), (14, .sl 10400 0 ((pvP l).length)), (15, .vi 0), (16, .sl 11300 0 ((pvP l).length)), (17, .vi 0)] [(3, [.vi d.seq, .p none (.sl false 4 (pvE (d.mem))), .p none (.sl false 1 (pvR (tagT d.runs))), .p none (.sl false 1 (pvI (d.snaps)))]), (4, [.vi a.seq, .p none (.sl false 4 (pvE a.mem)), .p none (.sl false 1 (pvR (tagT a.runs))), .p none (.sl false 1 (pvI a.snaps))]), (6, [.vi b.seq, .p none (.sl false 4 (pvE b.mem)), .p none (.sl false 1 (pvR (tagT b.runs))), .p none (.sl false 1 (pvI b.snaps))])] [(8600, 1, pvI (d.snaps ++ [-1])), (10400, 2, pvP l), (11300, 2, pvP l)]) ?_ ?_
     · exact zAI ⟨rfl, rfl, rfl, rfl, rfl, rfl, rfl, rfl, rfl, trivial⟩ ⟨rfl, rfl, rfl, trivial⟩ ⟨rfl, rfl, rfl, trivial⟩ rfl
     refine zAZ zBD rfl (.r rfl (zAG rfl rfl rfl isAgg28 sizeOf28 (nle rfl)) (.m rfl rfl (.m rfl rfl (.r rfl (zAW i rfl rfl rfl rfl underlying26 sizeOf2 rfl rfl (by omega)) (.r rfl (zAt rfl rfl rfl (zBe hp) isAgg2 rfl) (.run [12200, 12201] [] rfl (zAK rfl 12200 (X := []) en12 rfl (.val nod) (.cons (.agg (.cons (.bor .v) (.cons (.bor (.sl nod)) (.cons (.bor (.sl nod)) (.cons (.bor (.sl nod)) .nil))))) (.cons (.one (.bor .v)) (.cons (.one (.bor .v)) (.cons (.one (.bor .v)) .nil)))) (by decide) all_nil .nil (hscb) rfl rfl (nle rfl)) (.m rfl rfl (.r rfl (zAm rfl rfl rfl) (.r rfl (zAm rfl rfl rfl) (.a rfl rfl (.a rfl rfl .nil))))))))))) (by kernel_rfl) ?_
     refine zAB ?_
     refine zAV (s' := mk [(3, .ptr 3 0), (4, .ptr 4 0), (6, .ptr 6 0), (12, .sl 8600 0 ((pvI (d.snaps ++ [-1])).length)), (13, .vi (i:Int)), (14, .sl 10400 0 ((pvP l).length)), (15, .vi 0), (16, .sl 11300 0 ((pvP l).length)), (17, .vi 0), (18, .sl 12200 0 ((pvP l).length)), (19, .vi 0)] [(3, [.vi d.seq, .p none (.sl false 4 (pvE (d.mem))), .p none (.sl false 1 (pvR (tagT d.runs))), .p none (.sl false 1 (pvI (d.snaps)))]), (4, [.vi a.seq, .p none (.sl false 4 (pvE a.mem)), .p none (.sl false 1 (pvR (tagT a.runs))), .p none (.sl false 1 (pvI a.snaps))]), (6, [.vi b.seq, .p none (.sl false 4 (pvE b.mem)), .p none (.sl false 1 (pvR (tagT b.runs))), .p none (.sl false 1 (pvI b.snaps))])] [(8600, 1, pvI (d.snaps ++ [-1])), (10400, 2, pvP l), (11300, 2, pvP l), (12200, 2, pvP l)]) ?_ ?_
     · exact zAI ⟨rfl, rfl, rfl, rfl, rfl, rfl, rfl, rfl, rfl, rfl, rfl, trivial⟩ ⟨rfl, rfl, rfl, trivial⟩ ⟨rfl, rfl, rfl, rfl, trivial⟩ rfl
     refine zAA rfl (.m rfl rfl (.r rfl (zAX (zCl rfl rfl rfl) (zAM (congrArg Bool.not (decide_eq_true (by simp))))) (.m rfl rfl (.m rfl rfl (.m rfl rfl (.r rfl (zAX (zCl rfl rfl rfl) (zAM (congrArg Bool.not (decide_eq_true (by simp))))) (.r rfl (zA5 rfl rfl) (.m rfl rfl (.m rfl rfl (.m rfl rfl (.r rfl (zAX (zCl rfl rfl rfl) (zAM (congrArg Bool.not (decide_eq_true (by simp))))) (.r rfl (zA5 rfl rfl) (.m rfl rfl (.m rfl rfl (.m rfl rfl (.run [10400, 11300, 14000] [] rfl (zAK rfl 14000 (X := []) en13 rfl (.val nod) (.cons (.one (.bor (.all (len := (pvP l).length) (xs := pvP l) rfl rfl (by decide)))) (.cons (.one (.bor (.all (len := (pvP l).length) (xs := pvP l) rfl rfl (by decide)))) .nil)) (by decide) all_nil .nil (zCu l (by omega)) rfl rfl (nle rfl)) (.r rfl (zA3 (b := true) rfl rfl) (.r rfl (zA5 rfl rfl) (.m rfl rfl (.m rfl rfl (.m rfl rfl (.run [10400, 12200, 14600] [] rfl (zAK rfl 14600 (X := []) en13 rfl (.val nod) (.cons (.one (.bor (.all (len := (pvP l).length) (xs := pvP l) rfl rfl (by decide)))) (.cons (.one (.bor (.all (len := (pvP l).length) (xs := pvP l) rfl rfl (by decide)))) .nil)) (by decide) all_nil .nil (zCu l (by omega)) rfl rfl (nle rfl)) (.r rfl (zA3 (b := true) rfl rfl) (.r rfl (zA5 rfl rfl) .nil)))))))))))))))))))))))) ?_
     refine zAb (t := false) rfl (fun h => nomatch h) (fun _ => ?_)
     refine zAL ?_
     refine zAV (s' := mk [(3, .ptr 3 0), (4, .ptr 4 0), (6, .ptr 6 0), (12, .sl 8600 0 ((pvI (d.snaps ++ [-1])).length)), (13, .vi (i:Int)), (128, .vi 0), (129, .vi 0), (130, .vb false), (133, .vi 0), (134, .vi 0), (135, .vb false), (138, .sl 11300 0 ((pvP l).length)), (139, .sl 10400 0 ((pvP l).length)), (140, .vb true), (141, .vb false), (144, .sl 12200 0 ((pvP l).length)), (145, .sl 10400 0 ((pvP l).length)), (146, .vb true), (147, .vb false)] [(3, [.vi d.seq, .p none (.sl false 4 (pvE (d.mem))), .p none (.sl false 1 (pvR (tagT d.runs))), .p none (.sl false 1 (pvI (d.snaps)))]), (4, [.vi a.seq, .p none (.sl false 4 (pvE a.mem)), .p none (.sl false 1 (pvR (tagT a.runs))), .p none (.sl false 1 (pvI a.snaps))]), (6, [.vi b.seq, .p none (.sl false 4 (pvE b.mem)), .p none (.sl false 1 (pvR (tagT b.runs))), .p none (.sl false 1 (pvI b.snaps))])] [(8600, 1, pvI (d.snaps ++ [-1])), (10400, 2, pvP l), (11300, 2, pvP l), (12200, 2, pvP l)]) ?_ ?_
     · exact zAI ⟨rfl, rfl, rfl, rfl, rfl, rfl, rfl, rfl, rfl, rfl, rfl, rfl, rfl, rfl, rfl, rfl, rfl, rfl, rfl, trivial⟩ ⟨rfl, rfl, rfl, trivial⟩ ⟨rfl, rfl, rfl, rfl, trivial⟩ rfl
     refine zAA rfl (.m rfl rfl (.r rfl (zAe rfl rfl rfl (by omega)) (.a rfl rfl .nil))) ?_
     refine nxt (Q := fun _ _ => False) (z := i) (i + 1) ?_ ?_ ?_
     ·
      show (i + 1) ≤ (d.snaps ++ [-1]).length
      omega
     ·
      show (d.snaps ++ [-1]).length - (i + 1) < (d.snaps ++ [-1]).length - i
      omega
     · exact zAI ⟨rfl, rfl, rfl, rfl, (zAJ (by omega)), trivial⟩ ⟨rfl, rfl, rfl, trivial⟩ ⟨rfl, trivial⟩ rfl
    ·
     replace h27 := of_decide_eq_false h27
     refine zAu ?_
     refine zAB (zAA rfl (.a rfl rfl .nil) ?_)
     refine zAO ?_
     exact ends [_] [] (.cons (.tmp rfl) .nil) (.cons (.one .v (.v _)) .nil) (by decide) trivial
end Go.Rl

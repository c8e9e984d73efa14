/- Promises of functions, proved by walks over their operations; no conditions beyond those that each theorem states. -/
import Derived.Test.YtgdfpjpfomcilaaGreatReY
import Derived.Test.YtgdfpjpfomcilaaGreatReN
set_option linter.unusedSimpArgs false
set_option linter.unusedVariables false
namespace Go.Rl
open Go.Proofs Go.Proofs.Tryz
set_option maxRecDepth 1000000
set_option maxHeartbeats 2000000
theorem inf76 : (Tryz.prog.info? 76).map (fun i => (i.zero, i.size, i.bytes)) = some (some (.agg #[.int .i64 0, .slice none 0 0]), 2, 32) := by kernel_rfl
theorem en8 : En Tryz.prog 8 := zAn func8 (by decide) rfl
theorem en38 : En Tryz.prog 38 := zAn func38 (by decide) rfl
theorem en39 : En Tryz.prog 39 := zAn func39 (by decide) rfl
theorem en86 : En Tryz.prog 86 := zAn func86 (by decide) rfl
theorem zAv (ls : List (List Ent)) : Clean (.sl true 1 (pvR (tagT ls))) := by rw [← zKR]; exact zC0 _
theorem zCT (d : Eng) (h : EB d) : Con Tryz.prog 8 [.agg [.v (.int .i64 d.seq), .sl false 4 (pvE d.mem), .sl false 1 (pvR (tagT d.runs)), .sl false 1 (pvI d.snaps)]] [] [.one (.v (.bool (zBN d.seq d.mem (tagT d.runs) d.snaps)))] := zJA d.seq d.mem (tagT d.runs) d.snaps h.mem h.tag h.b h.snaps
theorem zEC (d : Eng) (h : Small d) : Con Tryz.prog 38 [.agg [.v (.int .i64 d.seq), .sl false 4 (pvE d.mem), .sl false 1 (pvR (tagT d.runs)), .sl false 1 (pvI d.snaps)]] [] [.agg [.v (.int .i64 d.seq), .sl true 4 (pvE d.mem), .sl true 1 (pvR (tagT d.runs)), .sl true 1 (pvI d.snaps)]] := by
 have q := zKc d.seq d.mem (tagT d.runs) d.snaps (by rw [zCK]; have := h.mem; have := h.ents; omega) h.eb.tag h.eb.snaps
 rwa [zKR] at q
theorem zGc (l : List Int) (x : Int) : pvI l ++ [[PV.v (.int .i64 x)]] = pvI (l ++ [x]) := by simp [pvI]
theorem zMa (d : Eng) (h : Small d) : Con Tryz.prog 40 [.one (PV.sl false 1 (pvR (tagT d.runs)))] [] [.one (.sl true 4 (pvE (zAy d.runs)))] := by
 have q := zFy (tagT d.runs) (by rw [zCK]; have := h.ents; omega) (by rw [zBv]; have := h.runs; omega)
 rwa [zIJ] at q
theorem l14C (l : List Ent) (s : List Int) (hl : l.length ≤ 2000000) (hs : s.length ≤ 2000000) : Con Tryz.prog 39 [.one (PV.sl false 4 (pvE l)), .one (PV.sl false 1 (pvI s)), .one (.v (.bool true))] [] [.one (.sl true 4 (pvE (zCQ l s)))] := zF6 l s true _ rfl hl hs
theorem zPG (d : Eng) (h : Small d) : Con Tryz.prog 33 [.agg [.v (.int .i64 d.seq), .sl false 4 (pvE d.mem), .sl false 1 (pvR (tagT d.runs)), .sl false 1 (pvI d.snaps)]] [] [.one (.sl true 4 (pvE (zAy (d.mem :: d.runs))))] := by
 have q := zHm d.seq d.mem (tagT d.runs) d.snaps (by rw [zCK]; have := h.mem; have := h.ents; omega) h.eb.tag
 rwa [zOO] at q
theorem zKX {d : Eng} (h : Small d) : (zAy d.runs).length ≤ 400 := Nat.le_trans (zC3 _) h.ents
theorem zJV {d : Eng} (h : Small d) : (zAy (d.mem :: d.runs)).length ≤ 800 := Nat.le_trans (zC3 _) (by have := h.mem; have := h.ents; simp only [zBp, List.flatten_cons, List.length_append] at this ⊢; omega)
theorem zOG {s : Int} {ops : List Bop} (h : zBX s ops = true) : zA1 s 1 999999999980 = true := by
 simp only [zBX, Bool.and_eq_true] at h
 exact h.2.1
theorem zOH {s : Int} {ops : List Bop} (h : zBX s ops = true) : 1 ≤ ops.length ∧ ops.length ≤ 20 := by
 simp only [zBX, Bool.and_eq_true] at h
 exact zEP.1 h.1
theorem zMj (d : Eng) (hD : EB d) : Con Tryz.prog 53 [.agg [PV.v (.int .i64 d.seq), PV.sl false 4 (pvE d.mem), PV.sl false 1 (pvR (tagT d.runs)), PV.sl false 1 (pvI d.snaps)]] [] [.agg [.v (.int .i64 ((zBj d).1.seq)), .sl true 4 (pvE ((zBj d).1.mem)), .sl true 1 (pvR (tagT (zBj d).1.runs)), .sl true 1 (pvI ((zBj d).1.snaps))], .one (.v (.int .i64 ((zBj d).2)))] := by
 refine zAS func53 rfl rfl rfl rfl ?_
 have hl1 := zAF d.mem
 have hl2 := zAk (tagT d.runs)
 have hl3 := zAU d.snaps
 have hl4 := zBv d.runs
 refine zAB (zAA rfl (.run [] [1] rfl (zBT rfl 1 rfl rfl (by decide) rfl (by decide)) (.run [] [2] rfl (zAl rfl 2 zBy rfl (by decide) rfl (by decide)) (.a rfl rfl .nil))) ?_)
 refine zAB ?_
 refine zAB (zAA rfl (.r rfl (zAG rfl rfl rfl isAgg28 sizeOf28 (nle rfl)) (.run [600] [] rfl (zAK rfl 600 (X := []) en8 rfl (.val nod) (.cons (.agg (.cons (.bor .v) (.cons (.bor (.sl nod)) (.cons (.bor (.sl nod)) (.cons (.bor (.sl nod)) .nil))))) .nil) (by decide) all_nil .nil (zCT d hD) rfl rfl (nle rfl)) (.r rfl (zA3 (b := zBN d.seq d.mem (tagT d.runs) d.snaps) rfl rfl) .nil))) ?_)
 refine zAb (t := (!(zBN d.seq d.mem (tagT d.runs) d.snaps))) rfl (fun h1 => ?_) (fun h1 => ?_)
 ·
  replace h1 : (zBN d.seq d.mem (tagT d.runs) d.snaps) = false := zBH h1
  refine zAB ?_
  have hw : zBN d.seq d.mem (tagT d.runs) d.snaps = false := by simpa using h1
  rw [flush_w hw]
  refine zAA rfl (.r rfl (zBM (pl := [(0, 1), (1, 1), (2, 1), (3, 1)]) rfl underlying28 zBy (by kernel_rfl) rfl rfl) (.r rfl (zAE rfl rfl rfl rfl rfl sizeOf28 rfl (nle rfl)) (.a rfl rfl .nil))) ?_
  refine zAO ?_
  exact ends [_, _] [] (.cons (.cell rfl rfl isAgg28 sizeOf28 (nle rfl)) (.cons (.tmp rfl) .nil)) (.cons (.agg (.cons .v (.cons (.nil _) (.cons (.nil _) (.cons (.nil _) .nil)))) (zAN (.v _) (zAN (.sl _ _ (fun _ h => nomatch h)) (zAN (.sl _ _ (fun _ h => nomatch h)) (zAN (.sl _ _ (fun _ h => nomatch h)) zBQ))))) (.cons (.one .v (.v _)) .nil)) (by decide) trivial
 ·
  replace h1 : (zBN d.seq d.mem (tagT d.runs) d.snaps) = true := zBI h1
  refine zAL ?_
  refine zAB ?_
  have hok : zBN d.seq d.mem (tagT d.runs) d.snaps = true := by simpa using h1
  have hsm := zCP hok
  have hm1 := hsm.mem
  have hm2 := hsm.runs
  have hm3 := hsm.snaps
  have hm4 := hsm.seq
  refine zAA rfl (.r rfl (zAG rfl rfl rfl isAgg28 sizeOf28 (nle rfl)) (.run [1000, 1001, 1002, 1003] [] rfl (zAK rfl 1000 (X := []) en38 rfl (.val nod) (.cons (.agg (.cons (.bor .v) (.cons (.bor (.sl nod)) (.cons (.bor (.sl nod)) (.cons (.bor (.sl nod)) .nil))))) .nil) (by decide) all_nil .nil (zEC d hsm) rfl rfl (nle rfl)) (.run [] [4] rfl (zAl rfl 4 zBy rfl (by decide) rfl (by decide)) (.r rfl (zAE rfl rfl rfl rfl rfl sizeOf28 rfl (nle rfl)) .nil)))) ?_
  refine zAB ?_
  refine zAB (zAA rfl (.r rfl (zAC rfl rfl underlying28 rfl sizeOf24 (by decide)) (.r rfl (zAD rfl rfl rfl isAgg24 rfl) (.r rfl (zAa rfl rfl underlying24) (.r rfl (zA9 rfl rfl rfl) .nil)))) ?_)
  refine zAb (t := decide (((pvE d.mem).length : Int) = 0)) rfl (fun h2 => ?_) (fun h2 => ?_)
  ·
   replace h2 := of_decide_eq_true h2
   refine zAB ?_
   rw [flush_e hok (by omega)]
   refine zAV (s' := mk [(2, .ptr 2 0), (4, .ptr 4 0)] [(2, [.vi 0, .nils, .nils, .nils]), (4, [.vi d.seq, .sl 1001 0 ((pvE d.mem).length), .sl 1002 0 ((pvR (tagT d.runs)).length), .sl 1003 0 ((pvI d.snaps).length)])] [(1001, 4, pvE d.mem), (1002, 1, pvR (tagT d.runs)), (1003, 1, pvI d.snaps)]) ?_ ?_
   · exact zAI ⟨rfl, rfl, trivial⟩ ⟨rfl, rfl, trivial⟩ ⟨rfl, rfl, rfl, trivial⟩ rfl
   refine zAA rfl (.r rfl (zAG rfl rfl rfl isAgg28 sizeOf28 (nle rfl)) (.r rfl (zAE rfl rfl rfl rfl rfl sizeOf28 rfl (nle rfl)) (.a rfl rfl .nil))) ?_
   refine zAO ?_
   exact ends [_, _] [1001, 1002, 1003] (.cons (.cell rfl rfl isAgg28 sizeOf28 (nle rfl)) (.cons (.tmp rfl) .nil)) (.cons (.agg (.cons .v (.cons (.row (len := (pvE d.mem).length) (xs := pvE d.mem) rfl rfl) (.cons (.row (len := (pvR (tagT d.runs)).length) (xs := pvR (tagT d.runs)) rfl rfl) (.cons (.row (len := (pvI d.snaps).length) (xs := pvI d.snaps) rfl rfl) .nil)))) (zAN (.v _) (zAN (.sl _ _ (FlatP.clean (zAg _))) (zAN (zAv _) (zAN (.sl _ _ (FlatP.clean (zA7 _))) zBQ))))) (.cons (.one .v (.v _)) .nil)) (by decide) trivial
  ·
   replace h2 := of_decide_eq_false h2
   refine zAL ?_
   refine zAB ?_
   refine zAB ?_
   refine zAV (s' := mk [(1, .ptr 1 0), (2, .ptr 2 0), (4, .ptr 4 0)] [(1, [.vi d.seq, .p none (.sl false 4 (pvE d.mem)), .p none (.sl false 1 (pvR (tagT d.runs))), .p none (.sl false 1 (pvI d.snaps))]), (2, [.vi 0, .nils, .nils, .nils]), (4, [.vi d.seq, .sl 1001 0 ((pvE d.mem).length), .sl 1002 0 ((pvR (tagT d.runs)).length), .sl 1003 0 ((pvI d.snaps).length)])] [(1001, 4, pvE d.mem), (1002, 1, pvR (tagT d.runs)), (1003, 1, pvI d.snaps)]) ?_ ?_
   · exact zAI ⟨rfl, rfl, rfl, trivial⟩ ⟨rfl, rfl, rfl, trivial⟩ ⟨rfl, rfl, rfl, trivial⟩ rfl
   refine zAA rfl (.r rfl (zAC rfl rfl underlying28 rfl sizeOf25 (by decide)) (.r rfl (zAD rfl rfl rfl isAgg25 rfl) (.r rfl (zAa rfl rfl underlying25) (.r rfl (zCM rfl rfl rfl) .nil)))) ?_
   refine zAb (t := decide (19 ≤ ((pvR (tagT d.runs)).length : Int))) rfl (fun h3 => ?_) (fun h3 => ?_)
   ·
    replace h3 := of_decide_eq_true h3
    refine zAB ?_
    rw [flush_f hok (by omega) (by omega)]
    refine zAA rfl (.r rfl (zAG rfl rfl rfl isAgg28 sizeOf28 (nle rfl)) (.r rfl (zAE rfl rfl rfl rfl rfl sizeOf28 rfl (nle rfl)) (.a rfl rfl .nil))) ?_
    refine zAO ?_
    exact ends [_, _] [1001, 1002, 1003] (.cons (.cell rfl rfl isAgg28 sizeOf28 (nle rfl)) (.cons (.tmp rfl) .nil)) (.cons (.agg (.cons .v (.cons (.row (len := (pvE d.mem).length) (xs := pvE d.mem) rfl rfl) (.cons (.row (len := (pvR (tagT d.runs)).length) (xs := pvR (tagT d.runs)) rfl rfl) (.cons (.row (len := (pvI d.snaps).length) (xs := pvI d.snaps) rfl rfl) .nil)))) (zAN (.v _) (zAN (.sl _ _ (FlatP.clean (zAg _))) (zAN (zAv _) (zAN (.sl _ _ (FlatP.clean (zA7 _))) zBQ))))) (.cons (.one .v (.v _)) .nil)) (by decide) trivial
   ·
    replace h3 := of_decide_eq_false h3
    refine zAL ?_
    refine zAB ?_
    rw [flush_y hok (by omega) (by omega)]
    refine zAA rfl (.r rfl (zAC rfl rfl underlying28 rfl sizeOf24 (by decide)) (.r rfl (zAD rfl rfl rfl isAgg24 rfl) (.r rfl (zBM (pl := [(0, 1)]) rfl underlying61 zDH (by kernel_rfl) rfl rfl) (.run [2400, 1001] [] rfl (zAQ rfl 2400 underlying25 zDH (nle rfl) (by decide) rfl rfl rfl (.cons (.row rfl rfl) .nil) (by decide) rfl (by decide) rfl (by decide) rfl) (.r rfl (zAC rfl rfl underlying28 rfl sizeOf25 (by decide)) (.r rfl (zAD rfl rfl rfl isAgg25 rfl) (.run [2400] [] rfl (zAq rfl 2400 (ib := 2400) (len := ([[PV.sl true 4 (pvE d.mem)]] ++ (pvR (tagT d.runs))).length) rfl rfl (.row (len := 1) (xs := [[PV.sl true 4 (pvE d.mem)]]) rfl rfl (.inl rfl)) (.give (len := (pvR (tagT d.runs)).length) (xs := pvR (tagT d.runs)) rfl rfl) underlying25 (sk underlying25 rfl) zDH rfl (by decide) (by decide) (by decide) List.length_append (by simp only [maxLen, List.length_append, List.length_cons, List.length_nil, zAF, zAk]; omega) (by simp only [maxLen, List.length_append, List.length_cons, List.length_nil, zAF, zAk]; omega)) (.r rfl (zAC rfl rfl underlying28 rfl sizeOf25 (by decide)) (.r rfl (zAE rfl rfl rfl rfl rfl sizeOf25 rfl (nle rfl)) .nil))))))))) ?_
    have hr4 : [[PV.sl true 4 (pvE d.mem)]] ++ (pvR (tagT d.runs)) = pvR (tagT (d.mem :: d.runs)) := by exact zOe _ _
    have hp5 : (some [.vi d.seq, .undef, .sl 2400 0 (([[PV.sl true 4 (pvE d.mem)]] ++ (pvR (tagT d.runs))).length), .sl 1003 0 ((pvI d.snaps).length)] : Option (List AV)) = some [.vi d.seq, .undef, .sl 2400 0 ((pvR (tagT (d.mem :: d.runs))).length), .sl 1003 0 ((pvI d.snaps).length)] := by simp only [hr4]
    refine zAV (s' := mk [(2, .ptr 2 0), (4, .ptr 4 0)] [(2, [.vi 0, .nils, .nils, .nils]), (4, [.vi d.seq, .undef, .sl 2400 0 ((pvR (tagT (d.mem :: d.runs))).length), .sl 1003 0 ((pvI d.snaps).length)])] [(1003, 1, pvI d.snaps), (2400, 1, pvR (tagT (d.mem :: d.runs)))]) ?_ ?_
    · exact zAI ⟨rfl, rfl, trivial⟩ ⟨rfl, hp5, trivial⟩ ⟨rfl, (congrArg (fun x => some (1, x)) hr4), trivial⟩ rfl
    refine zAB (zAA rfl (.run [2900] [] rfl (zAQ rfl 2900 underlying24 zBb (nle rfl) (by decide) rfl rfl rfl .nil (by decide) rfl (by decide) rfl (by decide) rfl) (.r rfl (zAC rfl rfl underlying28 rfl sizeOf24 (by decide)) (.r rfl (zAE rfl rfl rfl rfl rfl sizeOf24 rfl (nle rfl)) .nil))) ?_)
    have hr6 : [] = pvE [] := by rfl
    have hl7 : 0 = (pvE []).length := by first | (rw [← hr6, List.length_set]; done) | simp [zAF]
    have hp8 : (some [.vi d.seq, .sl 2900 0 0, .sl 2400 0 ((pvR (tagT (d.mem :: d.runs))).length), .sl 1003 0 ((pvI d.snaps).length)] : Option (List AV)) = some [.vi d.seq, .sl 2900 0 ((pvE []).length), .sl 2400 0 ((pvR (tagT (d.mem :: d.runs))).length), .sl 1003 0 ((pvI d.snaps).length)] := by simp only [hr6, hl7]
    refine zAV (s' := mk [(2, .ptr 2 0), (4, .ptr 4 0)] [(2, [.vi 0, .nils, .nils, .nils]), (4, [.vi d.seq, .sl 2900 0 ((pvE []).length), .sl 2400 0 ((pvR (tagT (d.mem :: d.runs))).length), .sl 1003 0 ((pvI d.snaps).length)])] [(1003, 1, pvI d.snaps), (2400, 1, pvR (tagT (d.mem :: d.runs))), (2900, 4, pvE [])]) ?_ ?_
    · exact zAI ⟨rfl, rfl, trivial⟩ ⟨rfl, hp8, trivial⟩ ⟨rfl, rfl, (congrArg (fun x => some (4, x)) hr6), trivial⟩ rfl
    refine zAB (zAA rfl (.r rfl (zAG rfl rfl rfl isAgg28 sizeOf28 (nle rfl)) (.r rfl (zAE rfl rfl rfl rfl rfl sizeOf28 rfl (nle rfl)) (.a rfl rfl .nil))) ?_)
    refine zAO ?_
    exact ends [_, _] [2900, 2400, 1003] (.cons (.cell rfl rfl isAgg28 sizeOf28 (nle rfl)) (.cons (.tmp rfl) .nil)) (.cons (.agg (.cons .v (.cons (.row (len := (pvE []).length) (xs := pvE []) rfl rfl) (.cons (.row (len := (pvR (tagT (d.mem :: d.runs))).length) (xs := pvR (tagT (d.mem :: d.runs))) rfl rfl) (.cons (.row (len := (pvI d.snaps).length) (xs := pvI d.snaps) rfl rfl) .nil)))) (zAN (.v _) (zAN (.sl _ _ (FlatP.clean (zAg _))) (zAN (zAv _) (zAN (.sl _ _ (FlatP.clean (zA7 _))) zBQ))))) (.cons (.one .v (.v _)) .nil)) (by decide) trivial
theorem zNC (d : Eng) (hD : EB d) : Con Tryz.prog 16 [.agg [PV.v (.int .i64 d.seq), PV.sl false 4 (pvE d.mem), PV.sl false 1 (pvR (tagT d.runs)), PV.sl false 1 (pvI d.snaps)]] [] [.agg [.v (.int .i64 ((zB9 d).1.seq)), .sl true 4 (pvE ((zB9 d).1.mem)), .sl true 1 (pvR (tagT (zB9 d).1.runs)), .sl true 1 (pvI ((zB9 d).1.snaps))], .one (.v (.int .i64 ((zB9 d).2.1))), .one (.v (.int .i64 ((zB9 d).2.2)))] := by
 refine zAS func16 rfl rfl rfl rfl ?_
 have hl1 := zAF d.mem
 have hl2 := zAk (tagT d.runs)
 have hl3 := zAU d.snaps
 have hl4 := zBv d.runs
 refine zAB (zAA rfl (.run [] [1] rfl (zBT rfl 1 rfl rfl (by decide) rfl (by decide)) (.run [] [2] rfl (zAl rfl 2 zBy rfl (by decide) rfl (by decide)) (.a rfl rfl (.a rfl rfl .nil)))) ?_)
 refine zAB ?_
 refine zAB (zAA rfl (.r rfl (zAG rfl rfl rfl isAgg28 sizeOf28 (nle rfl)) (.run [700] [] rfl (zAK rfl 700 (X := []) en8 rfl (.val nod) (.cons (.agg (.cons (.bor .v) (.cons (.bor (.sl nod)) (.cons (.bor (.sl nod)) (.cons (.bor (.sl nod)) .nil))))) .nil) (by decide) all_nil .nil (zCT d hD) rfl rfl (nle rfl)) (.r rfl (zA3 (b := zBN d.seq d.mem (tagT d.runs) d.snaps) rfl rfl) .nil))) ?_)
 refine zAb (t := (!(zBN d.seq d.mem (tagT d.runs) d.snaps))) rfl (fun h1 => ?_) (fun h1 => ?_)
 ·
  replace h1 : (zBN d.seq d.mem (tagT d.runs) d.snaps) = false := zBH h1
  refine zAB ?_
  have hw : zBN d.seq d.mem (tagT d.runs) d.snaps = false := by simpa using h1
  rw [snap_w hw]
  refine zAA rfl (.r rfl (zBM (pl := [(0, 1), (1, 1), (2, 1), (3, 1)]) rfl underlying28 zBy (by kernel_rfl) rfl rfl) (.r rfl (zAE rfl rfl rfl rfl rfl sizeOf28 rfl (nle rfl)) (.a rfl rfl (.a rfl rfl .nil)))) ?_
  refine zAO ?_
  exact ends [_, _, _] [] (.cons (.cell rfl rfl isAgg28 sizeOf28 (nle rfl)) (.cons (.tmp rfl) (.cons (.tmp rfl) .nil))) (.cons (.agg (.cons .v (.cons (.nil _) (.cons (.nil _) (.cons (.nil _) .nil)))) (zAN (.v _) (zAN (.sl _ _ (fun _ h => nomatch h)) (zAN (.sl _ _ (fun _ h => nomatch h)) (zAN (.sl _ _ (fun _ h => nomatch h)) zBQ))))) (.cons (.one .v (.v _)) (.cons (.one .v (.v _)) .nil))) (by decide) trivial
 ·
  replace h1 : (zBN d.seq d.mem (tagT d.runs) d.snaps) = true := zBI h1
  refine zAL ?_
  refine zAB ?_
  have hok : zBN d.seq d.mem (tagT d.runs) d.snaps = true := by simpa using h1
  have hsm := zCP hok
  have hm1 := hsm.mem
  have hm2 := hsm.runs
  have hm3 := hsm.snaps
  have hm4 := hsm.seq
  refine zAA rfl (.r rfl (zAG rfl rfl rfl isAgg28 sizeOf28 (nle rfl)) (.run [1100, 1101, 1102, 1103] [] rfl (zAK rfl 1100 (X := []) en38 rfl (.val nod) (.cons (.agg (.cons (.bor .v) (.cons (.bor (.sl nod)) (.cons (.bor (.sl nod)) (.cons (.bor (.sl nod)) .nil))))) .nil) (by decide) all_nil .nil (zEC d hsm) rfl rfl (nle rfl)) (.run [] [5] rfl (zAl rfl 5 zBy rfl (by decide) rfl (by decide)) (.r rfl (zAE rfl rfl rfl rfl rfl sizeOf28 rfl (nle rfl)) .nil)))) ?_
  refine zAB ?_
  refine zAB ?_
  rcases Nat.eq_zero_or_pos d.snaps.length with hz | hz
  ·
   have hnl : ¬ zD1 d.snaps d.seq := last_no hz
   refine zAV (s' := mk [(1, .ptr 1 0), (2, .ptr 2 0), (5, .ptr 5 0)] [(1, [.vi d.seq, .p none (.sl false 4 (pvE d.mem)), .p none (.sl false 1 (pvR (tagT d.runs))), .p none (.sl false 1 (pvI d.snaps))]), (2, [.vi 0, .nils, .nils, .nils]), (5, [.vi d.seq, .sl 1101 0 ((pvE d.mem).length), .sl 1102 0 ((pvR (tagT d.runs)).length), .sl 1103 0 ((pvI d.snaps).length)])] [(1101, 4, pvE d.mem), (1102, 1, pvR (tagT d.runs)), (1103, 1, pvI d.snaps)]) ?_ ?_
   · exact zAI ⟨rfl, rfl, rfl, trivial⟩ ⟨rfl, rfl, rfl, trivial⟩ ⟨rfl, rfl, rfl, trivial⟩ rfl
   rcases bfc (decide (0 < ((pvI d.snaps).length : Int))) with h2 | h2
   ·
    have h2' := h2
    replace h2' := of_decide_eq_false h2'
    refine zAZ zBD rfl (.r rfl (zAC rfl rfl underlying28 rfl sizeOf26 (by decide)) (.r rfl (zAD rfl rfl rfl isAgg26 rfl) (.r rfl (zAa rfl rfl underlying26) (.r rfl (zAX (zBF rfl rfl rfl) (zAM h2)) (.m rfl rfl (.not rfl (.not rfl (.not rfl (.not rfl (.not rfl (.not rfl (.not rfl (.not rfl (.not rfl (.not rfl (.not rfl (.r rfl (zA5 rfl rfl) .nil))))))))))))))))) (by kernel_rfl) ?_
    refine zAb (t := false) rfl (fun h => nomatch h) (fun _ => ?_)
    refine zAL ?_
    refine zAB ?_
    refine zAB ?_
    refine zAV (s' := mk [(1, .ptr 1 0), (2, .ptr 2 0), (5, .ptr 5 0)] [(1, [.vi d.seq, .p none (.sl false 4 (pvE d.mem)), .p none (.sl false 1 (pvR (tagT d.runs))), .p none (.sl false 1 (pvI d.snaps))]), (2, [.vi 0, .nils, .nils, .nils]), (5, [.vi d.seq, .sl 1101 0 ((pvE d.mem).length), .sl 1102 0 ((pvR (tagT d.runs)).length), .sl 1103 0 ((pvI d.snaps).length)])] [(1101, 4, pvE d.mem), (1102, 1, pvR (tagT d.runs)), (1103, 1, pvI d.snaps)]) ?_ ?_
    · exact zAI ⟨rfl, rfl, rfl, trivial⟩ ⟨rfl, rfl, rfl, trivial⟩ ⟨rfl, rfl, rfl, trivial⟩ rfl
    refine zAA rfl (.r rfl (zAC rfl rfl underlying28 rfl sizeOf26 (by decide)) (.r rfl (zAD rfl rfl rfl isAgg26 rfl) (.r rfl (zAa rfl rfl underlying26) (.r rfl (zCM rfl rfl rfl) .nil)))) ?_
    refine zAb (t := decide (20 ≤ ((pvI d.snaps).length : Int))) rfl (fun h3 => ?_) (fun h3 => ?_)
    ·
     replace h3 := of_decide_eq_true h3
     refine zAB ?_
     rw [zPp hok hnl (by omega)]
     refine zAA rfl (.r rfl (zAG rfl rfl rfl isAgg28 sizeOf28 (nle rfl)) (.r rfl (zAE rfl rfl rfl rfl rfl sizeOf28 rfl (nle rfl)) (.a rfl rfl (.a rfl rfl .nil)))) ?_
     refine zAO ?_
     exact ends [_, _, _] [1101, 1102, 1103] (.cons (.cell rfl rfl isAgg28 sizeOf28 (nle rfl)) (.cons (.tmp rfl) (.cons (.tmp rfl) .nil))) (.cons (.agg (.cons .v (.cons (.row (len := (pvE d.mem).length) (xs := pvE d.mem) rfl rfl) (.cons (.row (len := (pvR (tagT d.runs)).length) (xs := pvR (tagT d.runs)) rfl rfl) (.cons (.row (len := (pvI d.snaps).length) (xs := pvI d.snaps) rfl rfl) .nil)))) (zAN (.v _) (zAN (.sl _ _ (FlatP.clean (zAg _))) (zAN (zAv _) (zAN (.sl _ _ (FlatP.clean (zA7 _))) zBQ))))) (.cons (.one .v (.v _)) (.cons (.one .v (.v _)) .nil))) (by decide) trivial
    ·
     replace h3 := of_decide_eq_false h3
     refine zAL ?_
     refine zAB ?_
     rw [zPo hok hnl (by omega)]
     refine zAA rfl (.r rfl (zAC rfl rfl underlying28 rfl sizeOf26 (by decide)) (.r rfl (zAD rfl rfl rfl isAgg26 rfl) (.r rfl (zAC rfl rfl underlying28 rfl sizeOf2 (by decide)) (.r rfl (zAD rfl rfl rfl isAgg2 rfl) (.run [4100] [] rfl (zAQ rfl 4100 underlying26 inf2 (nle rfl) (by decide) rfl rfl rfl (.cons .v .nil) (by decide) rfl (by decide) rfl (by decide) rfl) (.run [1103] [] rfl (zAq rfl 1103 (ib := 1103) (len := ((pvI d.snaps) ++ [[PV.v (.int .i64 d.seq)]]).length) rfl rfl (.row (len := (pvI d.snaps).length) (xs := pvI d.snaps) rfl rfl (.inl rfl)) (.give (len := 1) (xs := [[PV.v (.int .i64 d.seq)]]) rfl rfl) underlying26 (sk underlying26 rfl) inf2 rfl (by decide) (by decide) (by decide) List.length_append (by simp only [maxLen, List.length_append, List.length_cons, List.length_nil, zAU]; omega) (by simp only [maxLen, List.length_append, List.length_cons, List.length_nil, zAU]; omega)) (.r rfl (zAC rfl rfl underlying28 rfl sizeOf26 (by decide)) (.r rfl (zAE rfl rfl rfl rfl rfl sizeOf26 rfl (nle rfl)) .nil)))))))) ?_
     have hr4 : (pvI d.snaps) ++ [[PV.v (.int .i64 d.seq)]] = pvI (d.snaps ++ [d.seq]) := by exact zGc _ _
     have hp5 : (some [.vi d.seq, .sl 1101 0 ((pvE d.mem).length), .sl 1102 0 ((pvR (tagT d.runs)).length), .sl 1103 0 (((pvI d.snaps) ++ [[PV.v (.int .i64 d.seq)]]).length)] : Option (List AV)) = some [.vi d.seq, .sl 1101 0 ((pvE d.mem).length), .sl 1102 0 ((pvR (tagT d.runs)).length), .sl 1103 0 ((pvI (d.snaps ++ [d.seq])).length)] := by simp only [hr4]
     refine zAV (s' := mk [(1, .ptr 1 0), (2, .ptr 2 0), (5, .ptr 5 0)] [(1, [.vi d.seq, .p none (.sl false 4 (pvE d.mem)), .p none (.sl false 1 (pvR (tagT d.runs))), .p none (.sl false 1 (pvI d.snaps))]), (2, [.vi 0, .nils, .nils, .nils]), (5, [.vi d.seq, .sl 1101 0 ((pvE d.mem).length), .sl 1102 0 ((pvR (tagT d.runs)).length), .sl 1103 0 ((pvI (d.snaps ++ [d.seq])).length)])] [(1101, 4, pvE d.mem), (1102, 1, pvR (tagT d.runs)), (1103, 1, pvI (d.snaps ++ [d.seq]))]) ?_ ?_
     · exact zAI ⟨rfl, rfl, rfl, trivial⟩ ⟨rfl, rfl, hp5, trivial⟩ ⟨rfl, rfl, (congrArg (fun x => some (1, x)) hr4), trivial⟩ rfl
     refine zAB (zAZ zBD rfl (.r rfl (zAG rfl rfl rfl isAgg28 sizeOf28 (nle rfl)) (.r rfl (zAC rfl rfl underlying28 rfl sizeOf2 (by decide)) (.r rfl (zAD rfl rfl rfl isAgg2 rfl) (.r rfl (zAE rfl rfl rfl rfl rfl sizeOf28 rfl (nle rfl)) (.a rfl rfl (.a rfl rfl .nil)))))) (by kernel_rfl) ?_)
     refine zAO ?_
     exact ends [_, _, _] [1101, 1102, 1103] (.cons (.cell rfl rfl isAgg28 sizeOf28 (nle rfl)) (.cons (.tmp rfl) (.cons (.tmp rfl) .nil))) (.cons (.agg (.cons .v (.cons (.row (len := (pvE d.mem).length) (xs := pvE d.mem) rfl rfl) (.cons (.row (len := (pvR (tagT d.runs)).length) (xs := pvR (tagT d.runs)) rfl rfl) (.cons (.row (len := (pvI (d.snaps ++ [d.seq])).length) (xs := pvI (d.snaps ++ [d.seq])) rfl rfl) .nil)))) (zAN (.v _) (zAN (.sl _ _ (FlatP.clean (zAg _))) (zAN (zAv _) (zAN (.sl _ _ (FlatP.clean (zA7 _))) zBQ))))) (.cons (.one .v (.v _)) (.cons (.one .v (.v _)) .nil))) (by decide) trivial
   ·
    have h2' := h2
    replace h2' := of_decide_eq_true h2'
    omega
  ·
   obtain ⟨x, hx⟩ : ∃ x, d.snaps[d.snaps.length - 1]? = some x := ⟨_, List.getElem?_eq_getElem (by omega)⟩
   refine zAV (s' := mk [(1, .ptr 1 0), (2, .ptr 2 0), (5, .ptr 5 0)] [(1, [.vi d.seq, .p none (.sl false 4 (pvE d.mem)), .p none (.sl false 1 (pvR (tagT d.runs))), .p none (.sl false 1 (pvI d.snaps))]), (2, [.vi 0, .nils, .nils, .nils]), (5, [.vi d.seq, .sl 1101 0 ((pvE d.mem).length), .sl 1102 0 ((pvR (tagT d.runs)).length), .sl 1103 0 ((pvI d.snaps).length)])] [(1101, 4, pvE d.mem), (1102, 1, pvR (tagT d.runs)), (1103, 1, pvI d.snaps)]) ?_ ?_
   · exact zAI ⟨rfl, rfl, rfl, trivial⟩ ⟨rfl, rfl, rfl, trivial⟩ ⟨rfl, rfl, rfl, trivial⟩ rfl
   rcases bfc (decide (0 < ((pvI d.snaps).length : Int))) with h6 | h6
   ·
    have h6' := h6
    replace h6' := of_decide_eq_false h6'
    omega
   ·
    have h6' := h6
    replace h6' := of_decide_eq_true h6'
    refine zAZ zBD rfl (.r rfl (zAC rfl rfl underlying28 rfl sizeOf26 (by decide)) (.r rfl (zAD rfl rfl rfl isAgg26 rfl) (.r rfl (zAa rfl rfl underlying26) (.r rfl (zAX (zBF rfl rfl rfl) (zAM h6)) (.m rfl rfl (.r rfl (zAC rfl rfl underlying28 rfl sizeOf26 (by decide)) (.r rfl (zAD rfl rfl rfl isAgg26 rfl) (.r rfl (zAC rfl rfl underlying28 rfl sizeOf26 (by decide)) (.r rfl (zAD rfl rfl rfl isAgg26 rfl) (.r rfl (zAa rfl rfl underlying26) (.r rfl (zAX (zAs rfl rfl rfl (by omega)) ((show (AV.p none (.v (.int .i64 (((pvI d.snaps).length : Int) - 1)))) = AV.p none (.v (.int .i64 ((d.snaps.length - 1 : Nat) : Int))) from zAJ (by omega)))) (.r rfl (zAf rfl rfl rfl underlying26 sizeOf2 rfl (by omega) (zBe hx)) (.r rfl (zAd rfl rfl isAgg2 rfl) (.r rfl (zAC rfl rfl underlying28 rfl sizeOf2 (by decide)) (.r rfl (zAD rfl rfl rfl isAgg2 rfl) (.r rfl (zA9 rfl rfl rfl) (.r rfl (zBZ rfl rfl) .nil))))))))))))))))) (by kernel_rfl) ?_
    refine zAb (t := decide (x = d.seq)) rfl (fun h7 => ?_) (fun h7 => ?_)
    ·
     replace h7 := of_decide_eq_true h7
     refine zAB ?_
     have hla : zD1 d.snaps d.seq := by rw [zD1, hx, h7]
     rw [snap_l hok hla]
     refine zAV (s' := mk [(1, .ptr 1 0), (2, .ptr 2 0), (5, .ptr 5 0)] [(1, [.vi d.seq, .p none (.sl false 4 (pvE d.mem)), .p none (.sl false 1 (pvR (tagT d.runs))), .p none (.sl false 1 (pvI d.snaps))]), (2, [.vi 0, .nils, .nils, .nils]), (5, [.vi d.seq, .sl 1101 0 ((pvE d.mem).length), .sl 1102 0 ((pvR (tagT d.runs)).length), .sl 1103 0 ((pvI d.snaps).length)])] [(1101, 4, pvE d.mem), (1102, 1, pvR (tagT d.runs)), (1103, 1, pvI d.snaps)]) ?_ ?_
     · exact zAI ⟨rfl, rfl, rfl, trivial⟩ ⟨rfl, rfl, rfl, trivial⟩ ⟨rfl, rfl, rfl, trivial⟩ rfl
     refine zAZ zBD rfl (.r rfl (zAG rfl rfl rfl isAgg28 sizeOf28 (nle rfl)) (.r rfl (zAC rfl rfl underlying28 rfl sizeOf2 (by decide)) (.r rfl (zAD rfl rfl rfl isAgg2 rfl) (.r rfl (zAE rfl rfl rfl rfl rfl sizeOf28 rfl (nle rfl)) (.a rfl rfl (.a rfl rfl .nil)))))) (by kernel_rfl) ?_
     refine zAO ?_
     exact ends [_, _, _] [1101, 1102, 1103] (.cons (.cell rfl rfl isAgg28 sizeOf28 (nle rfl)) (.cons (.tmp rfl) (.cons (.tmp rfl) .nil))) (.cons (.agg (.cons .v (.cons (.row (len := (pvE d.mem).length) (xs := pvE d.mem) rfl rfl) (.cons (.row (len := (pvR (tagT d.runs)).length) (xs := pvR (tagT d.runs)) rfl rfl) (.cons (.row (len := (pvI d.snaps).length) (xs := pvI d.snaps) rfl rfl) .nil)))) (zAN (.v _) (zAN (.sl _ _ (FlatP.clean (zAg _))) (zAN (zAv _) (zAN (.sl _ _ (FlatP.clean (zA7 _))) zBQ))))) (.cons (.one .v (.v _)) (.cons (.one .v (.v _)) .nil))) (by decide) trivial
    ·
     replace h7 := of_decide_eq_false h7
     refine zAL ?_
     refine zAB ?_
     refine zAB ?_
     have hnl : ¬ zD1 d.snaps d.seq := last_ne hx h7
     refine zAV (s' := mk [(1, .ptr 1 0), (2, .ptr 2 0), (5, .ptr 5 0)] [(1, [.vi d.seq, .p none (.sl false 4 (pvE d.mem)), .p none (.sl false 1 (pvR (tagT d.runs))), .p none (.sl false 1 (pvI d.snaps))]), (2, [.vi 0, .nils, .nils, .nils]), (5, [.vi d.seq, .sl 1101 0 ((pvE d.mem).length), .sl 1102 0 ((pvR (tagT d.runs)).length), .sl 1103 0 ((pvI d.snaps).length)])] [(1101, 4, pvE d.mem), (1102, 1, pvR (tagT d.runs)), (1103, 1, pvI d.snaps)]) ?_ ?_
     · exact zAI ⟨rfl, rfl, rfl, trivial⟩ ⟨rfl, rfl, rfl, trivial⟩ ⟨rfl, rfl, rfl, trivial⟩ rfl
     refine zAA rfl (.r rfl (zAC rfl rfl underlying28 rfl sizeOf26 (by decide)) (.r rfl (zAD rfl rfl rfl isAgg26 rfl) (.r rfl (zAa rfl rfl underlying26) (.r rfl (zCM rfl rfl rfl) .nil)))) ?_
     refine zAb (t := decide (20 ≤ ((pvI d.snaps).length : Int))) rfl (fun h8 => ?_) (fun h8 => ?_)
     ·
      replace h8 := of_decide_eq_true h8
      refine zAB ?_
      rw [zPp hok hnl (by omega)]
      refine zAA rfl (.r rfl (zAG rfl rfl rfl isAgg28 sizeOf28 (nle rfl)) (.r rfl (zAE rfl rfl rfl rfl rfl sizeOf28 rfl (nle rfl)) (.a rfl rfl (.a rfl rfl .nil)))) ?_
      refine zAO ?_
      exact ends [_, _, _] [1101, 1102, 1103] (.cons (.cell rfl rfl isAgg28 sizeOf28 (nle rfl)) (.cons (.tmp rfl) (.cons (.tmp rfl) .nil))) (.cons (.agg (.cons .v (.cons (.row (len := (pvE d.mem).length) (xs := pvE d.mem) rfl rfl) (.cons (.row (len := (pvR (tagT d.runs)).length) (xs := pvR (tagT d.runs)) rfl rfl) (.cons (.row (len := (pvI d.snaps).length) (xs := pvI d.snaps) rfl rfl) .nil)))) (zAN (.v _) (zAN (.sl _ _ (FlatP.clean (zAg _))) (zAN (zAv _) (zAN (.sl _ _ (FlatP.clean (zA7 _))) zBQ))))) (.cons (.one .v (.v _)) (.cons (.one .v (.v _)) .nil))) (by decide) trivial
     ·
      replace h8 := of_decide_eq_false h8
      refine zAL ?_
      refine zAB ?_
      rw [zPo hok hnl (by omega)]
      refine zAA rfl (.r rfl (zAC rfl rfl underlying28 rfl sizeOf26 (by decide)) (.r rfl (zAD rfl rfl rfl isAgg26 rfl) (.r rfl (zAC rfl rfl underlying28 rfl sizeOf2 (by decide)) (.r rfl (zAD rfl rfl rfl isAgg2 rfl) (.run [4100] [] rfl (zAQ rfl 4100 underlying26 inf2 (nle rfl) (by decide) rfl rfl rfl (.cons .v .nil) (by decide) rfl (by decide) rfl (by decide) rfl) (.run [1103] [] rfl (zAq rfl 1103 (ib := 1103) (len := ((pvI d.snaps) ++ [[PV.v (.int .i64 d.seq)]]).length) rfl rfl (.row (len := (pvI d.snaps).length) (xs := pvI d.snaps) rfl rfl (.inl rfl)) (.give (len := 1) (xs := [[PV.v (.int .i64 d.seq)]]) rfl rfl) underlying26 (sk underlying26 rfl) inf2 rfl (by decide) (by decide) (by decide) List.length_append (by simp only [maxLen, List.length_append, List.length_cons, List.length_nil, zAU]; omega) (by simp only [maxLen, List.length_append, List.length_cons, List.length_nil, zAU]; omega)) (.r rfl (zAC rfl rfl underlying28 rfl sizeOf26 (by decide)) (.r rfl (zAE rfl rfl rfl rfl rfl sizeOf26 rfl (nle rfl)) .nil)))))))) ?_
      have hr9 : (pvI d.snaps) ++ [[PV.v (.int .i64 d.seq)]] = pvI (d.snaps ++ [d.seq]) := by exact zGc _ _
      have hp10 : (some [.vi d.seq, .sl 1101 0 ((pvE d.mem).length), .sl 1102 0 ((pvR (tagT d.runs)).length), .sl 1103 0 (((pvI d.snaps) ++ [[PV.v (.int .i64 d.seq)]]).length)] : Option (List AV)) = some [.vi d.seq, .sl 1101 0 ((pvE d.mem).length), .sl 1102 0 ((pvR (tagT d.runs)).length), .sl 1103 0 ((pvI (d.snaps ++ [d.seq])).length)] := by simp only [hr9]
      refine zAV (s' := mk [(1, .ptr 1 0), (2, .ptr 2 0), (5, .ptr 5 0)] [(1, [.vi d.seq, .p none (.sl false 4 (pvE d.mem)), .p none (.sl false 1 (pvR (tagT d.runs))), .p none (.sl false 1 (pvI d.snaps))]), (2, [.vi 0, .nils, .nils, .nils]), (5, [.vi d.seq, .sl 1101 0 ((pvE d.mem).length), .sl 1102 0 ((pvR (tagT d.runs)).length), .sl 1103 0 ((pvI (d.snaps ++ [d.seq])).length)])] [(1101, 4, pvE d.mem), (1102, 1, pvR (tagT d.runs)), (1103, 1, pvI (d.snaps ++ [d.seq]))]) ?_ ?_
      · exact zAI ⟨rfl, rfl, rfl, trivial⟩ ⟨rfl, rfl, hp10, trivial⟩ ⟨rfl, rfl, (congrArg (fun x => some (1, x)) hr9), trivial⟩ rfl
      refine zAB (zAZ zBD rfl (.r rfl (zAG rfl rfl rfl isAgg28 sizeOf28 (nle rfl)) (.r rfl (zAC rfl rfl underlying28 rfl sizeOf2 (by decide)) (.r rfl (zAD rfl rfl rfl isAgg2 rfl) (.r rfl (zAE rfl rfl rfl rfl rfl sizeOf28 rfl (nle rfl)) (.a rfl rfl (.a rfl rfl .nil)))))) (by kernel_rfl) ?_)
      refine zAO ?_
      exact ends [_, _, _] [1101, 1102, 1103] (.cons (.cell rfl rfl isAgg28 sizeOf28 (nle rfl)) (.cons (.tmp rfl) (.cons (.tmp rfl) .nil))) (.cons (.agg (.cons .v (.cons (.row (len := (pvE d.mem).length) (xs := pvE d.mem) rfl rfl) (.cons (.row (len := (pvR (tagT d.runs)).length) (xs := pvR (tagT d.runs)) rfl rfl) (.cons (.row (len := (pvI (d.snaps ++ [d.seq])).length) (xs := pvI (d.snaps ++ [d.seq])) rfl rfl) .nil)))) (zAN (.v _) (zAN (.sl _ _ (FlatP.clean (zAg _))) (zAN (zAv _) (zAN (.sl _ _ (FlatP.clean (zA7 _))) zBQ))))) (.cons (.one .v (.v _)) (.cons (.one .v (.v _)) .nil))) (by decide) trivial
theorem zNp (d : Eng) (hD : EB d) (a : Int) : Con Tryz.prog 54 [.agg [PV.v (.int .i64 d.seq), PV.sl false 4 (pvE d.mem), PV.sl false 1 (pvR (tagT d.runs)), PV.sl false 1 (pvI d.snaps)], .one (PV.v (.int .i64 a))] [] [.agg [.v (.int .i64 ((zB8 d a).1.seq)), .sl true 4 (pvE ((zB8 d a).1.mem)), .sl true 1 (pvR (tagT (zB8 d a).1.runs)), .sl true 1 (pvI ((zB8 d a).1.snaps))], .one (.v (.int .i64 ((zB8 d a).2)))] := by
 refine zAS func54 rfl rfl rfl rfl ?_
 have hl1 := zAF d.mem
 have hl2 := zAk (tagT d.runs)
 have hl3 := zAU d.snaps
 have hl4 := zBv d.runs
 refine zAB (zAA rfl (.run [] [2] rfl (zBT rfl 2 rfl rfl (by decide) rfl (by decide)) (.run [] [4] rfl (zAl rfl 4 zBy rfl (by decide) rfl (by decide)) (.a rfl rfl .nil))) ?_)
 refine zAB ?_
 refine zAB (zAA rfl (.r rfl (zAG rfl rfl rfl isAgg28 sizeOf28 (nle rfl)) (.run [900] [] rfl (zAK rfl 900 (X := []) en8 rfl (.val nod) (.cons (.agg (.cons (.bor .v) (.cons (.bor (.sl nod)) (.cons (.bor (.sl nod)) (.cons (.bor (.sl nod)) .nil))))) .nil) (by decide) all_nil .nil (zCT d hD) rfl rfl (nle rfl)) (.r rfl (zA3 (b := zBN d.seq d.mem (tagT d.runs) d.snaps) rfl rfl) .nil))) ?_)
 refine zAb (t := (!(zBN d.seq d.mem (tagT d.runs) d.snaps))) rfl (fun h1 => ?_) (fun h1 => ?_)
 ·
  replace h1 : (zBN d.seq d.mem (tagT d.runs) d.snaps) = false := zBH h1
  refine zAB ?_
  have hw : zBN d.seq d.mem (tagT d.runs) d.snaps = false := by simpa using h1
  rw [free_w hw]
  refine zAA rfl (.r rfl (zBM (pl := [(0, 1), (1, 1), (2, 1), (3, 1)]) rfl underlying28 zBy (by kernel_rfl) rfl rfl) (.r rfl (zAE rfl rfl rfl rfl rfl sizeOf28 rfl (nle rfl)) (.a rfl rfl .nil))) ?_
  refine zAO ?_
  exact ends [_, _] [] (.cons (.cell rfl rfl isAgg28 sizeOf28 (nle rfl)) (.cons (.tmp rfl) .nil)) (.cons (.agg (.cons .v (.cons (.nil _) (.cons (.nil _) (.cons (.nil _) .nil)))) (zAN (.v _) (zAN (.sl _ _ (fun _ h => nomatch h)) (zAN (.sl _ _ (fun _ h => nomatch h)) (zAN (.sl _ _ (fun _ h => nomatch h)) zBQ))))) (.cons (.one .v (.v _)) .nil)) (by decide) trivial
 ·
  replace h1 : (zBN d.seq d.mem (tagT d.runs) d.snaps) = true := zBI h1
  refine zAL ?_
  refine zAB ?_
  have hok : zBN d.seq d.mem (tagT d.runs) d.snaps = true := by simpa using h1
  have hsm := zCP hok
  have hm1 := hsm.mem
  have hm2 := hsm.runs
  have hm3 := hsm.snaps
  have hm4 := hsm.seq
  refine zAA rfl (.r rfl (zAG rfl rfl rfl isAgg28 sizeOf28 (nle rfl)) (.run [1300, 1301, 1302, 1303] [] rfl (zAK rfl 1300 (X := []) en38 rfl (.val nod) (.cons (.agg (.cons (.bor .v) (.cons (.bor (.sl nod)) (.cons (.bor (.sl nod)) (.cons (.bor (.sl nod)) .nil))))) .nil) (by decide) all_nil .nil (zEC d hsm) rfl rfl (nle rfl)) (.run [] [6] rfl (zAl rfl 6 zBy rfl (by decide) rfl (by decide)) (.r rfl (zAE rfl rfl rfl rfl rfl sizeOf28 rfl (nle rfl)) .nil)))) ?_
  refine zAB (zAA rfl (.run [1400] [] rfl (zAQ rfl 1400 underlying26 inf2 (nle rfl) (by decide) rfl rfl rfl .nil (by decide) rfl (by decide) rfl (by decide) rfl) (.r rfl (zAC rfl rfl underlying28 rfl sizeOf26 (by decide)) (.r rfl (zAE rfl rfl rfl rfl rfl sizeOf26 rfl (nle rfl)) .nil))) ?_)
  refine zAB ?_
  refine zAB ?_
  rw [free_y hok]
  refine zAA rfl (.a rfl rfl .nil) ?_
  refine zAR ?_
  refine zAo (σ := Nat) (fun i => mk [(1, .vi a), (2, .ptr 2 0), (4, .ptr 4 0), (6, .ptr 6 0), (7, .vi (i:Int))] [(2, [.vi d.seq, .p none (.sl false 4 (pvE d.mem)), .p none (.sl false 1 (pvR (tagT d.runs))), .p none (.sl false 1 (pvI d.snaps))]), (4, [.vi 0, .nils, .nils, .nils]), (6, [.vi d.seq, .sl 1301 0 ((pvE d.mem).length), .sl 1302 0 ((pvR (tagT d.runs)).length), .sl 1400 0 ((pvI (zBC (d.snaps.take i) a)).length)])] [(1301, 4, pvE d.mem), (1302, 1, pvR (tagT d.runs)), (1400, 1, pvI (zBC (d.snaps.take i) a))]) (fun i => i ≤ d.snaps.length) (fun i => d.snaps.length - i) 0 (by simp) (zAI ⟨rfl, rfl, rfl, rfl, (zAJ (by omega)), trivial⟩ ⟨rfl, rfl, rfl, trivial⟩ ⟨rfl, rfl, (congrArg (fun x => some (1, x)) (by rfl)), trivial⟩ rfl) ?_
  rintro i hG
  replace hG : i ≤ d.snaps.length := hG
  have hwl := zJ4 d.snaps a i
  have hwv := zAU (zBC (d.snaps.take i) a)
  refine zAB ?_
  refine zAB (zAA rfl (.m rfl rfl (.r rfl (zAC rfl rfl underlying28 rfl sizeOf26 (by decide)) (.r rfl (zAD rfl rfl rfl isAgg26 rfl) (.r rfl (zAa rfl rfl underlying26) (.r rfl (zA4 rfl rfl rfl) .nil))))) ?_)
  refine zAb (t := decide ((i:Int) < ((pvI d.snaps).length : Int))) rfl (fun h2 => ?_) (fun h2 => ?_)
  ·
   replace h2 := of_decide_eq_true h2
   refine zAL ?_
   refine zAB ?_
   refine zAR ?_
   refine zAB ?_
   obtain ⟨e, he⟩ : ∃ e, d.snaps[i]? = some e := ⟨_, List.getElem?_eq_getElem (by omega)⟩
   refine zAA rfl (.r rfl (zAC rfl rfl underlying28 rfl sizeOf26 (by decide)) (.r rfl (zAD rfl rfl rfl isAgg26 rfl) (.m rfl rfl (.r rfl (zAf rfl rfl rfl underlying26 sizeOf2 rfl (by omega) (zBe he)) (.r rfl (zAd rfl rfl isAgg2 rfl) (.m rfl rfl (.r rfl (zCl rfl rfl rfl) .nil))))))) ?_
   refine zAb (t := (!(decide (e = a)))) rfl (fun h3 => ?_) (fun h3 => ?_)
   ·
    replace h3 : ¬ (e = a) := of_decide_eq_false (zBH h3)
    refine zAV (s' := mk [(1, .vi a), (2, .ptr 2 0), (4, .ptr 4 0), (6, .ptr 6 0), (7, .vi (i:Int))] [(2, [.vi d.seq, .p none (.sl false 4 (pvE d.mem)), .p none (.sl false 1 (pvR (tagT d.runs))), .p none (.sl false 1 (pvI d.snaps))]), (4, [.vi 0, .nils, .nils, .nils]), (6, [.vi d.seq, .sl 1301 0 ((pvE d.mem).length), .sl 1302 0 ((pvR (tagT d.runs)).length), .sl 1400 0 ((pvI (zBC (d.snaps.take i) a)).length)])] [(1301, 4, pvE d.mem), (1302, 1, pvR (tagT d.runs)), (1400, 1, pvI (zBC (d.snaps.take i) a))]) ?_ ?_
    · exact zAI ⟨rfl, rfl, rfl, rfl, rfl, trivial⟩ ⟨rfl, rfl, rfl, trivial⟩ ⟨rfl, rfl, rfl, trivial⟩ rfl
    refine zAZ zBD rfl (.r rfl (zAC rfl rfl underlying28 rfl sizeOf26 (by decide)) (.r rfl (zAD rfl rfl rfl isAgg26 rfl) (.r rfl (zAC rfl rfl underlying28 rfl sizeOf26 (by decide)) (.r rfl (zAD rfl rfl rfl isAgg26 rfl) (.m rfl rfl (.r rfl (zAf rfl rfl rfl underlying26 sizeOf2 rfl (by omega) (zBe he)) (.r rfl (zAd rfl rfl isAgg2 rfl) (.run [3700] [] rfl (zAQ rfl 3700 underlying26 inf2 (nle rfl) (by decide) rfl rfl rfl (.cons .v .nil) (by decide) rfl (by decide) rfl (by decide) rfl) (.run [1400] [] rfl (zAq rfl 1400 (ib := 1400) (len := ((pvI (zBC (d.snaps.take i) a)) ++ [[PV.v (.int .i64 e)]]).length) rfl rfl (.row (len := (pvI (zBC (d.snaps.take i) a)).length) (xs := pvI (zBC (d.snaps.take i) a)) rfl rfl (.inl rfl)) (.give (len := 1) (xs := [[PV.v (.int .i64 e)]]) rfl rfl) underlying26 (sk underlying26 rfl) inf2 rfl (by decide) (by decide) (by decide) List.length_append (by simp only [maxLen, List.length_append, List.length_cons, List.length_nil, List.length_take, zAU]; omega) (by simp only [maxLen, List.length_append, List.length_cons, List.length_nil, List.length_take, zAU]; omega)) (.r rfl (zAC rfl rfl underlying28 rfl sizeOf26 (by decide)) (.r rfl (zAE rfl rfl rfl rfl rfl sizeOf26 rfl (nle rfl)) .nil))))))))))) (by kernel_rfl) ?_
    have hr4 : (pvI (zBC (d.snaps.take i) a)) ++ [[PV.v (.int .i64 e)]] = pvI (zBC (d.snaps.take (i + 1)) a) := by rw [zJ3 he h3]; exact zGc _ _
    have hp5 : (some [.vi d.seq, .sl 1301 0 ((pvE d.mem).length), .sl 1302 0 ((pvR (tagT d.runs)).length), .sl 1400 0 (((pvI (zBC (d.snaps.take i) a)) ++ [[PV.v (.int .i64 e)]]).length)] : Option (List AV)) = some [.vi d.seq, .sl 1301 0 ((pvE d.mem).length), .sl 1302 0 ((pvR (tagT d.runs)).length), .sl 1400 0 ((pvI (zBC (d.snaps.take (i + 1)) a)).length)] := by simp only [hr4]
    refine zAV (s' := mk [(1, .vi a), (2, .ptr 2 0), (4, .ptr 4 0), (6, .ptr 6 0), (7, .vi (i:Int))] [(2, [.vi d.seq, .p none (.sl false 4 (pvE d.mem)), .p none (.sl false 1 (pvR (tagT d.runs))), .p none (.sl false 1 (pvI d.snaps))]), (4, [.vi 0, .nils, .nils, .nils]), (6, [.vi d.seq, .sl 1301 0 ((pvE d.mem).length), .sl 1302 0 ((pvR (tagT d.runs)).length), .sl 1400 0 ((pvI (zBC (d.snaps.take (i + 1)) a)).length)])] [(1301, 4, pvE d.mem), (1302, 1, pvR (tagT d.runs)), (1400, 1, pvI (zBC (d.snaps.take (i + 1)) a))]) ?_ ?_
    · exact zAI ⟨rfl, rfl, rfl, rfl, rfl, trivial⟩ ⟨rfl, rfl, hp5, trivial⟩ ⟨rfl, rfl, (congrArg (fun x => some (1, x)) hr4), trivial⟩ rfl
    refine zAA rfl (.m rfl rfl (.r rfl (zAe rfl rfl rfl (by omega)) (.a rfl rfl .nil))) ?_
    refine nxt (Q := fun _ _ => False) (z := i) (i + 1) ?_ ?_ ?_
    ·
     show (i + 1) ≤ d.snaps.length
     omega
    ·
     show d.snaps.length - (i + 1) < d.snaps.length - i
     omega
    · exact zAI ⟨rfl, rfl, rfl, rfl, (zAJ (by omega)), trivial⟩ ⟨rfl, rfl, rfl, trivial⟩ ⟨rfl, rfl, rfl, trivial⟩ rfl
   ·
    replace h3 : e = a := of_decide_eq_true (zBI h3)
    refine zAL ?_
    refine zAA rfl (.m rfl rfl (.r rfl (zAe rfl rfl rfl (by omega)) (.a rfl rfl .nil))) ?_
    refine nxt (Q := fun _ _ => False) (z := i) (i + 1) ?_ ?_ ?_
    ·
     show (i + 1) ≤ d.snaps.length
     omega
    ·
     show d.snaps.length - (i + 1) < d.snaps.length - i
     omega
    · exact zAI ⟨rfl, rfl, rfl, rfl, (zAJ (by omega)), trivial⟩ ⟨rfl, rfl, (by rw [zHM he h3] <;> rfl), trivial⟩ ⟨rfl, rfl, (congrArg (fun x => some (1, x)) (by rw [zHM he h3])), trivial⟩ rfl
  ·
   replace h2 := of_decide_eq_false h2
   refine zAu ?_
   refine zAB ?_
   refine zAB ?_
   have hwo : (zBC (d.snaps.take i) a) = zBC d.snaps a := by rw [List.take_of_length_le (by omega)]
   have hwo2 := congrArg List.length hwo
   refine zAA rfl (.r rfl (zAC rfl rfl underlying28 rfl sizeOf26 (by decide)) (.r rfl (zAD rfl rfl rfl isAgg26 rfl) (.r rfl (zA2 rfl rfl underlying26) (.r rfl (zAC rfl rfl underlying28 rfl sizeOf26 (by decide)) (.r rfl (zAD rfl rfl rfl isAgg26 rfl) (.r rfl (zAa rfl rfl underlying26) (.r rfl (zA9 rfl rfl rfl) .nil))))))) ?_
   have hr6 : pvI (zBC (d.snaps.take i) a) = pvI (zBC d.snaps a) := by rw [List.take_of_length_le (by omega)]
   have hp7 : (some [.vi d.seq, .sl 1301 0 ((pvE d.mem).length), .sl 1302 0 ((pvR (tagT d.runs)).length), .sl 1400 0 ((pvI (zBC (d.snaps.take i) a)).length)] : Option (List AV)) = some [.vi d.seq, .sl 1301 0 ((pvE d.mem).length), .sl 1302 0 ((pvR (tagT d.runs)).length), .sl 1400 0 ((pvI (zBC d.snaps a)).length)] := by simp only [hr6]
   refine zAV (s' := mk [(4, .ptr 4 0), (6, .ptr 6 0), (46, .vb (decide (((pvI (zBC (d.snaps.take i) a)).length : Int) = ((pvI d.snaps).length : Int))))] [(4, [.vi 0, .nils, .nils, .nils]), (6, [.vi d.seq, .sl 1301 0 ((pvE d.mem).length), .sl 1302 0 ((pvR (tagT d.runs)).length), .sl 1400 0 ((pvI (zBC d.snaps a)).length)])] [(1301, 4, pvE d.mem), (1302, 1, pvR (tagT d.runs)), (1400, 1, pvI (zBC d.snaps a))]) ?_ ?_
   · exact zAI ⟨rfl, rfl, rfl, trivial⟩ ⟨rfl, hp7, trivial⟩ ⟨rfl, rfl, (congrArg (fun x => some (1, x)) hr6), trivial⟩ rfl
   refine zAb (t := decide (((pvI (zBC (d.snaps.take i) a)).length : Int) = ((pvI d.snaps).length : Int))) rfl (fun h8 => ?_) (fun h8 => ?_)
   ·
    replace h8 := of_decide_eq_true h8
    refine zAB (zAA rfl (.r rfl (zAG rfl rfl rfl isAgg28 sizeOf28 (nle rfl)) (.r rfl (zAE rfl rfl rfl rfl rfl sizeOf28 rfl (nle rfl)) (.a rfl rfl .nil))) ?_)
    refine zAO ?_
    exact ends [_, _] [1301, 1302, 1400] (.cons (.cell rfl rfl isAgg28 sizeOf28 (nle rfl)) (.cons (.tmp (zAJ (if_pos (by omega)).symm)) .nil)) (.cons (.agg (.cons .v (.cons (.row (len := (pvE d.mem).length) (xs := pvE d.mem) rfl rfl) (.cons (.row (len := (pvR (tagT d.runs)).length) (xs := pvR (tagT d.runs)) rfl rfl) (.cons (.row (len := (pvI (zBC d.snaps a)).length) (xs := pvI (zBC d.snaps a)) rfl rfl) .nil)))) (zAN (.v _) (zAN (.sl _ _ (FlatP.clean (zAg _))) (zAN (zAv _) (zAN (.sl _ _ (FlatP.clean (zA7 _))) zBQ))))) (.cons (.one .v (.v _)) .nil)) (by decide) trivial
   ·
    replace h8 := of_decide_eq_false h8
    refine zAL ?_
    refine zAB (zAA rfl (.r rfl (zAG rfl rfl rfl isAgg28 sizeOf28 (nle rfl)) (.r rfl (zAE rfl rfl rfl rfl rfl sizeOf28 rfl (nle rfl)) (.a rfl rfl .nil))) ?_)
    refine zAO ?_
    exact ends [_, _] [1301, 1302, 1400] (.cons (.cell rfl rfl isAgg28 sizeOf28 (nle rfl)) (.cons (.tmp (zAJ (if_neg (by omega)).symm)) .nil)) (.cons (.agg (.cons .v (.cons (.row (len := (pvE d.mem).length) (xs := pvE d.mem) rfl rfl) (.cons (.row (len := (pvR (tagT d.runs)).length) (xs := pvR (tagT d.runs)) rfl rfl) (.cons (.row (len := (pvI (zBC d.snaps a)).length) (xs := pvI (zBC d.snaps a)) rfl rfl) .nil)))) (zAN (.v _) (zAN (.sl _ _ (FlatP.clean (zAg _))) (zAN (zAv _) (zAN (.sl _ _ (FlatP.clean (zA7 _))) zBQ))))) (.cons (.one .v (.v _)) .nil)) (by decide) trivial
theorem zEJ (d : Eng) (hD : EB d) : Con Tryz.prog 11 [.agg [PV.v (.int .i64 d.seq), PV.sl false 4 (pvE d.mem), PV.sl false 1 (pvR (tagT d.runs)), PV.sl false 1 (pvI d.snaps)]] [] [.agg [.v (.int .i64 ((zA8 d).1.seq)), .sl true 4 (pvE ((zA8 d).1.mem)), .sl true 1 (pvR (tagT (zA8 d).1.runs)), .sl true 1 (pvI ((zA8 d).1.snaps))], .one (.v (.int .i64 ((zA8 d).2)))] := by
 refine zAS func11 rfl rfl rfl rfl ?_
 have hl1 := zAF d.mem
 have hl2 := zAk (tagT d.runs)
 have hl3 := zAU d.snaps
 have hl4 := zBv d.runs
 refine zAB (zAA rfl (.run [] [1] rfl (zBT rfl 1 rfl rfl (by decide) rfl (by decide)) (.run [] [2] rfl (zAl rfl 2 zBy rfl (by decide) rfl (by decide)) (.a rfl rfl .nil))) ?_)
 refine zAB ?_
 refine zAB (zAA rfl (.r rfl (zAG rfl rfl rfl isAgg28 sizeOf28 (nle rfl)) (.run [700] [] rfl (zAK rfl 700 (X := []) en8 rfl (.val nod) (.cons (.agg (.cons (.bor .v) (.cons (.bor (.sl nod)) (.cons (.bor (.sl nod)) (.cons (.bor (.sl nod)) .nil))))) .nil) (by decide) all_nil .nil (zCT d hD) rfl rfl (nle rfl)) (.r rfl (zA3 (b := zBN d.seq d.mem (tagT d.runs) d.snaps) rfl rfl) .nil))) ?_)
 refine zAb (t := (!(zBN d.seq d.mem (tagT d.runs) d.snaps))) rfl (fun h1 => ?_) (fun h1 => ?_)
 ·
  replace h1 : (zBN d.seq d.mem (tagT d.runs) d.snaps) = false := zBH h1
  refine zAB ?_
  have hw : zBN d.seq d.mem (tagT d.runs) d.snaps = false := by simpa using h1
  rw [zPy hw]
  refine zAA rfl (.r rfl (zBM (pl := [(0, 1), (1, 1), (2, 1), (3, 1)]) rfl underlying28 zBy (by kernel_rfl) rfl rfl) (.r rfl (zAE rfl rfl rfl rfl rfl sizeOf28 rfl (nle rfl)) (.a rfl rfl .nil))) ?_
  refine zAO ?_
  exact ends [_, _] [] (.cons (.cell rfl rfl isAgg28 sizeOf28 (nle rfl)) (.cons (.tmp rfl) .nil)) (.cons (.agg (.cons .v (.cons (.nil _) (.cons (.nil _) (.cons (.nil _) .nil)))) (zAN (.v _) (zAN (.sl _ _ (fun _ h => nomatch h)) (zAN (.sl _ _ (fun _ h => nomatch h)) (zAN (.sl _ _ (fun _ h => nomatch h)) zBQ))))) (.cons (.one .v (.v _)) .nil)) (by decide) trivial
 ·
  replace h1 : (zBN d.seq d.mem (tagT d.runs) d.snaps) = true := zBI h1
  refine zAL ?_
  refine zAB ?_
  have hok : zBN d.seq d.mem (tagT d.runs) d.snaps = true := by simpa using h1
  have hsm := zCP hok
  have hm1 := hsm.mem
  have hm2 := hsm.runs
  have hm3 := hsm.snaps
  have hm4 := hsm.seq
  refine zAA rfl (.r rfl (zAG rfl rfl rfl isAgg28 sizeOf28 (nle rfl)) (.run [1100, 1101, 1102, 1103] [] rfl (zAK rfl 1100 (X := []) en38 rfl (.val nod) (.cons (.agg (.cons (.bor .v) (.cons (.bor (.sl nod)) (.cons (.bor (.sl nod)) (.cons (.bor (.sl nod)) .nil))))) .nil) (by decide) all_nil .nil (zEC d hsm) rfl rfl (nle rfl)) (.run [] [4] rfl (zAl rfl 4 zBy rfl (by decide) rfl (by decide)) (.r rfl (zAE rfl rfl rfl rfl rfl sizeOf28 rfl (nle rfl)) .nil)))) ?_
  refine zAB ?_
  refine zAB (zAA rfl (.r rfl (zAC rfl rfl underlying28 rfl sizeOf25 (by decide)) (.r rfl (zAD rfl rfl rfl isAgg25 rfl) (.r rfl (zAa rfl rfl underlying25) (.r rfl (zA9 rfl rfl rfl) .nil)))) ?_)
  refine zAb (t := decide (((pvR (tagT d.runs)).length : Int) = 0)) rfl (fun h2 => ?_) (fun h2 => ?_)
  ·
   replace h2 := of_decide_eq_true h2
   refine zAB ?_
   rw [zPz hok (by omega)]
   refine zAV (s' := mk [(2, .ptr 2 0), (4, .ptr 4 0)] [(2, [.vi 0, .nils, .nils, .nils]), (4, [.vi d.seq, .sl 1101 0 ((pvE d.mem).length), .sl 1102 0 ((pvR (tagT d.runs)).length), .sl 1103 0 ((pvI d.snaps).length)])] [(1101, 4, pvE d.mem), (1102, 1, pvR (tagT d.runs)), (1103, 1, pvI d.snaps)]) ?_ ?_
   · exact zAI ⟨rfl, rfl, trivial⟩ ⟨rfl, rfl, trivial⟩ ⟨rfl, rfl, rfl, trivial⟩ rfl
   refine zAA rfl (.r rfl (zAG rfl rfl rfl isAgg28 sizeOf28 (nle rfl)) (.r rfl (zAE rfl rfl rfl rfl rfl sizeOf28 rfl (nle rfl)) (.a rfl rfl .nil))) ?_
   refine zAO ?_
   exact ends [_, _] [1101, 1102, 1103] (.cons (.cell rfl rfl isAgg28 sizeOf28 (nle rfl)) (.cons (.tmp rfl) .nil)) (.cons (.agg (.cons .v (.cons (.row (len := (pvE d.mem).length) (xs := pvE d.mem) rfl rfl) (.cons (.row (len := (pvR (tagT d.runs)).length) (xs := pvR (tagT d.runs)) rfl rfl) (.cons (.row (len := (pvI d.snaps).length) (xs := pvI d.snaps) rfl rfl) .nil)))) (zAN (.v _) (zAN (.sl _ _ (FlatP.clean (zAg _))) (zAN (zAv _) (zAN (.sl _ _ (FlatP.clean (zA7 _))) zBQ))))) (.cons (.one .v (.v _)) .nil)) (by decide) trivial
  ·
   replace h2 := of_decide_eq_false h2
   refine zAL ?_
   refine zAB ?_
   refine zAV (s' := mk [(1, .ptr 1 0), (2, .ptr 2 0), (4, .ptr 4 0)] [(1, [.vi d.seq, .p none (.sl false 4 (pvE d.mem)), .p none (.sl false 1 (pvR (tagT d.runs))), .p none (.sl false 1 (pvI d.snaps))]), (2, [.vi 0, .nils, .nils, .nils]), (4, [.vi d.seq, .sl 1101 0 ((pvE d.mem).length), .sl 1102 0 ((pvR (tagT d.runs)).length), .sl 1103 0 ((pvI d.snaps).length)])] [(1101, 4, pvE d.mem), (1102, 1, pvR (tagT d.runs)), (1103, 1, pvI d.snaps)]) ?_ ?_
   · exact zAI ⟨rfl, rfl, rfl, trivial⟩ ⟨rfl, rfl, rfl, trivial⟩ ⟨rfl, rfl, rfl, trivial⟩ rfl
   refine zAZ zBD rfl (.r rfl (zAC rfl rfl underlying28 rfl sizeOf25 (by decide)) (.r rfl (zAD rfl rfl rfl isAgg25 rfl) (.run [1900] [] rfl (zAK rfl 1900 (X := []) en40 rfl (.val nod) (.cons (.one (.bor (.sl nod))) .nil) (by decide) all_nil .nil (zMa d hsm) rfl rfl (nle rfl)) (.r rfl (zAC rfl rfl underlying28 rfl sizeOf26 (by decide)) (.r rfl (zAD rfl rfl rfl isAgg26 rfl) (.run [1900, 2200] [] rfl (zAK rfl 2200 (X := []) en39 rfl (.val nod) (.cons (.one (.bor (.all (len := (pvE (zAy d.runs)).length) (xs := pvE (zAy d.runs)) rfl rfl (by decide)))) (.cons (.one (.bor (.sl nod))) (.cons (.one (.bor .v)) .nil))) (by decide) all_nil .nil (l14C (zAy d.runs) d.snaps (by have := zKX hsm; omega) (by omega)) rfl rfl (nle rfl)) (.a rfl rfl .nil))))))) (by kernel_rfl) ?_
   refine zAB ?_
   rw [zPx hok (by omega)]
   have hcl := zAF (zCQ (zAy d.runs) d.snaps)
   refine zAA rfl (.run [2300] [] rfl (zAQ rfl 2300 underlying25 zDH (nle rfl) (by decide) rfl rfl rfl .nil (by decide) rfl (by decide) rfl (by decide) rfl) (.r rfl (zAC rfl rfl underlying28 rfl sizeOf25 (by decide)) (.r rfl (zAE rfl rfl rfl rfl rfl sizeOf25 rfl (nle rfl)) .nil))) ?_
   refine zAB ?_
   refine zAB (zAA rfl (.m rfl rfl (.r rfl (zA2 rfl rfl underlying24) (.r rfl (zBF rfl rfl rfl) .nil))) ?_)
   refine zAb (t := decide (0 < ((pvE (zCQ (zAy d.runs) d.snaps)).length : Int))) rfl (fun h3 => ?_) (fun h3 => ?_)
   ·
    replace h3 := of_decide_eq_true h3
    refine zAV (s' := mk [(2, .ptr 2 0), (4, .ptr 4 0), (5, .sl 2200 0 ((pvE (zCQ (zAy d.runs) d.snaps)).length))] [(2, [.vi 0, .nils, .nils, .nils]), (4, [.vi d.seq, .sl 1101 0 ((pvE d.mem).length), .sl 2300 0 0, .sl 1103 0 ((pvI d.snaps).length)])] [(1101, 4, pvE d.mem), (1103, 1, pvI d.snaps), (2200, 4, pvE (zCQ (zAy d.runs) d.snaps)), (2300, 1, [])]) ?_ ?_
    · exact zAI ⟨rfl, rfl, rfl, trivial⟩ ⟨rfl, rfl, trivial⟩ ⟨rfl, rfl, rfl, rfl, trivial⟩ rfl
    refine zAA rfl (.m rfl rfl (.r rfl (zBM (pl := [(0, 1)]) rfl underlying61 zDH (by kernel_rfl) rfl rfl) (.run [3000, 2200] [] rfl (zAQ rfl 3000 underlying25 zDH (nle rfl) (by decide) rfl rfl rfl (.cons (.row rfl rfl) .nil) (by decide) rfl (by decide) rfl (by decide) rfl) (.r rfl (zAC rfl rfl underlying28 rfl sizeOf25 (by decide)) (.r rfl (zAE rfl rfl rfl rfl rfl sizeOf25 rfl (nle rfl)) .nil))))) ?_
    refine zAB ?_
    rw [if_pos (by omega)]
    refine zAA rfl (.r rfl (zAG rfl rfl rfl isAgg28 sizeOf28 (nle rfl)) (.r rfl (zAE rfl rfl rfl rfl rfl sizeOf28 rfl (nle rfl)) (.a rfl rfl .nil))) ?_
    refine zAO ?_
    exact ends [_, _] [1101, 3000, 1103] (.cons (.cell rfl rfl isAgg28 sizeOf28 (nle rfl)) (.cons (.tmp rfl) .nil)) (.cons (.agg (.cons .v (.cons (.row (len := (pvE d.mem).length) (xs := pvE d.mem) rfl rfl) (.cons (.row (len := 1) (xs := [[PV.sl true 4 (pvE (zCQ (zAy d.runs) d.snaps))]]) rfl rfl) (.cons (.row (len := (pvI d.snaps).length) (xs := pvI d.snaps) rfl rfl) .nil)))) (zAN (.v _) (zAN (.sl _ _ (FlatP.clean (zAg _))) (zAN (show Clean (PV.sl true 1 (pvR (tagT [zCQ (zAy d.runs) d.snaps]))) from zAv _) (zAN (.sl _ _ (FlatP.clean (zA7 _))) zBQ))))) (.cons (.one .v (.v _)) .nil)) (by decide) trivial
   ·
    replace h3 := of_decide_eq_false h3
    refine zAL ?_
    refine zAB ?_
    rw [if_neg (by omega)]
    refine zAA rfl (.r rfl (zAG rfl rfl rfl isAgg28 sizeOf28 (nle rfl)) (.r rfl (zAE rfl rfl rfl rfl rfl sizeOf28 rfl (nle rfl)) (.a rfl rfl .nil))) ?_
    refine zAO ?_
    exact ends [_, _] [1101, 2300, 1103] (.cons (.cell rfl rfl isAgg28 sizeOf28 (nle rfl)) (.cons (.tmp rfl) .nil)) (.cons (.agg (.cons .v (.cons (.row (len := (pvE d.mem).length) (xs := pvE d.mem) rfl rfl) (.cons (.row (len := 0) (xs := []) rfl rfl) (.cons (.row (len := (pvI d.snaps).length) (xs := pvI d.snaps) rfl rfl) .nil)))) (zAN (.v _) (zAN (.sl _ _ (FlatP.clean (zAg _))) (zAN (.sl _ _ (fun _ h => nomatch h)) (zAN (.sl _ _ (FlatP.clean (zA7 _))) zBQ))))) (.cons (.one .v (.v _)) .nil)) (by decide) trivial
theorem zMB (d : Eng) (hD : EB d) (ops : List Bop) (ho : ops.length ≤ 2000000) : Con Tryz.prog 55 [.agg [PV.v (.int .i64 d.seq), PV.sl false 4 (pvE d.mem), PV.sl false 1 (pvR (tagT d.runs)), PV.sl false 1 (pvI d.snaps)], .one (PV.sl false 3 (pvO ops))] [] [.agg [.v (.int .i64 ((zBc d ops).1.seq)), .sl true 4 (pvE ((zBc d ops).1.mem)), .sl true 1 (pvR (tagT (zBc d ops).1.runs)), .sl true 1 (pvI ((zBc d ops).1.snaps))], .one (.v (.int .i64 ((zBc d ops).2)))] := by
 refine zAS func55 rfl rfl rfl rfl ?_
 have hl1 := zAF d.mem
 have hl2 := zAk (tagT d.runs)
 have hl3 := zAU d.snaps
 have hl4 := zBv d.runs
 have hlo := zC2 ops
 refine zAB (zAA rfl (.run [] [2] rfl (zBT rfl 2 rfl rfl (by decide) rfl (by decide)) (.run [] [4] rfl (zAl rfl 4 zBy rfl (by decide) rfl (by decide)) (.a rfl rfl .nil))) ?_)
 refine zAB ?_
 refine zAB (zAA rfl (.r rfl (zAG rfl rfl rfl isAgg28 sizeOf28 (nle rfl)) (.run [1000] [] rfl (zAK rfl 1000 (X := []) en8 rfl (.val nod) (.cons (.agg (.cons (.bor .v) (.cons (.bor (.sl nod)) (.cons (.bor (.sl nod)) (.cons (.bor (.sl nod)) .nil))))) .nil) (by decide) all_nil .nil (zCT d hD) rfl rfl (nle rfl)) (.r rfl (zA3 (b := zBN d.seq d.mem (tagT d.runs) d.snaps) rfl rfl) .nil))) ?_)
 refine zAb (t := (!(zBN d.seq d.mem (tagT d.runs) d.snaps))) rfl (fun h1 => ?_) (fun h1 => ?_)
 ·
  replace h1 : (zBN d.seq d.mem (tagT d.runs) d.snaps) = false := zBH h1
  refine zAB ?_
  have hw : zBN d.seq d.mem (tagT d.runs) d.snaps = false := by simpa using h1
  rw [write_w hw]
  refine zAA rfl (.r rfl (zBM (pl := [(0, 1), (1, 1), (2, 1), (3, 1)]) rfl underlying28 zBy (by kernel_rfl) rfl rfl) (.r rfl (zAE rfl rfl rfl rfl rfl sizeOf28 rfl (nle rfl)) (.a rfl rfl .nil))) ?_
  refine zAO ?_
  exact ends [_, _] [] (.cons (.cell rfl rfl isAgg28 sizeOf28 (nle rfl)) (.cons (.tmp rfl) .nil)) (.cons (.agg (.cons .v (.cons (.nil _) (.cons (.nil _) (.cons (.nil _) .nil)))) (zAN (.v _) (zAN (.sl _ _ (fun _ h => nomatch h)) (zAN (.sl _ _ (fun _ h => nomatch h)) (zAN (.sl _ _ (fun _ h => nomatch h)) zBQ))))) (.cons (.one .v (.v _)) .nil)) (by decide) trivial
 ·
  replace h1 : (zBN d.seq d.mem (tagT d.runs) d.snaps) = true := zBI h1
  refine zAL ?_
  refine zAB ?_
  have hok : zBN d.seq d.mem (tagT d.runs) d.snaps = true := by simpa using h1
  have hsm := zCP hok
  have hm1 := hsm.mem
  have hm2 := hsm.runs
  have hm3 := hsm.snaps
  have hm4 := hsm.seq
  refine zAA rfl (.r rfl (zAG rfl rfl rfl isAgg28 sizeOf28 (nle rfl)) (.run [1400, 1401, 1402, 1403] [] rfl (zAK rfl 1400 (X := []) en38 rfl (.val nod) (.cons (.agg (.cons (.bor .v) (.cons (.bor (.sl nod)) (.cons (.bor (.sl nod)) (.cons (.bor (.sl nod)) .nil))))) .nil) (by decide) all_nil .nil (zEC d hsm) rfl rfl (nle rfl)) (.run [] [6] rfl (zAl rfl 6 zBy rfl (by decide) rfl (by decide)) (.r rfl (zAE rfl rfl rfl rfl rfl sizeOf28 rfl (nle rfl)) .nil)))) ?_
  refine zAB ?_
  refine zAV (s' := mk [(1, .p none (.sl false 3 (pvO ops))), (2, .ptr 2 0), (4, .ptr 4 0), (6, .ptr 6 0)] [(2, [.vi d.seq, .p none (.sl false 4 (pvE d.mem)), .p none (.sl false 1 (pvR (tagT d.runs))), .p none (.sl false 1 (pvI d.snaps))]), (4, [.vi 0, .nils, .nils, .nils]), (6, [.vi d.seq, .sl 1401 0 ((pvE d.mem).length), .sl 1402 0 ((pvR (tagT d.runs)).length), .sl 1403 0 ((pvI d.snaps).length)])] [(1401, 4, pvE d.mem), (1402, 1, pvR (tagT d.runs)), (1403, 1, pvI d.snaps)]) ?_ ?_
  · exact zAI ⟨rfl, rfl, rfl, rfl, trivial⟩ ⟨rfl, rfl, rfl, trivial⟩ ⟨rfl, rfl, rfl, trivial⟩ rfl
  refine zAA rfl (.r rfl (zAC rfl rfl underlying28 rfl sizeOf2 (by decide)) (.r rfl (zAD rfl rfl rfl isAgg2 rfl) (.r rfl (zAe rfl rfl rfl (by omega)) (.m rfl rfl (.r rfl (zBM (pl := [(0, 1), (1, 1)]) rfl underlying76 inf76 (by kernel_rfl) rfl rfl) (.run [] [7] rfl (zAl rfl 7 inf76 rfl (by decide) rfl (by decide)) (.r rfl (zAE rfl rfl rfl rfl rfl sizeOf76 rfl (nle rfl)) .nil))))))) ?_
  refine zAB ?_
  refine zAB (zAA rfl (.r rfl (zAG rfl rfl rfl isAgg76 sizeOf76 (nle rfl)) (.run [2100] [] rfl (zAK rfl 2100 (X := []) en86 rfl (.val nod) (.cons (.agg (.cons (.bor .v) (.cons (.bor (.sl nod)) .nil))) .nil) (by decide) all_nil .nil (zGW (d.seq + 1) ops ho) rfl rfl (nle rfl)) (.r rfl (zA3 (b := zBX (d.seq + 1) ops) rfl rfl) .nil))) ?_)
  refine zAb (t := (!(zBX (d.seq + 1) ops))) rfl (fun h2 => ?_) (fun h2 => ?_)
  ·
   replace h2 : (zBX (d.seq + 1) ops) = false := zBH h2
   refine zAB ?_
   rw [write_b hok (by simpa using h2)]
   refine zAA rfl (.r rfl (zAG rfl rfl rfl isAgg28 sizeOf28 (nle rfl)) (.r rfl (zAE rfl rfl rfl rfl rfl sizeOf28 rfl (nle rfl)) (.a rfl rfl .nil))) ?_
   refine zAO ?_
   exact ends [_, _] [1401, 1402, 1403] (.cons (.cell rfl rfl isAgg28 sizeOf28 (nle rfl)) (.cons (.tmp rfl) .nil)) (.cons (.agg (.cons .v (.cons (.row (len := (pvE d.mem).length) (xs := pvE d.mem) rfl rfl) (.cons (.row (len := (pvR (tagT d.runs)).length) (xs := pvR (tagT d.runs)) rfl rfl) (.cons (.row (len := (pvI d.snaps).length) (xs := pvI d.snaps) rfl rfl) .nil)))) (zAN (.v _) (zAN (.sl _ _ (FlatP.clean (zAg _))) (zAN (zAv _) (zAN (.sl _ _ (FlatP.clean (zA7 _))) zBQ))))) (.cons (.one .v (.v _)) .nil)) (by decide) trivial
  ·
   replace h2 : (zBX (d.seq + 1) ops) = true := zBI h2
   refine zAL ?_
   refine zAB ?_
   refine zAB ?_
   have hbo : zBX (d.seq + 1) ops = true := by simpa using h2
   have hs := zOG hbo
   have hn20 := zOH hbo
   have hml := zAF (zAy (d.mem :: d.runs))
   have hm2' := zJV hsm
   refine zAV (s' := mk [(1, .p none (.sl false 3 (pvO ops))), (2, .ptr 2 0), (4, .ptr 4 0), (6, .ptr 6 0), (7, .ptr 7 0)] [(2, [.vi d.seq, .p none (.sl false 4 (pvE d.mem)), .p none (.sl false 1 (pvR (tagT d.runs))), .p none (.sl false 1 (pvI d.snaps))]), (4, [.vi 0, .nils, .nils, .nils]), (6, [.vi d.seq, .sl 1401 0 ((pvE d.mem).length), .sl 1402 0 ((pvR (tagT d.runs)).length), .sl 1403 0 ((pvI d.snaps).length)]), (7, [.vi (d.seq + 1), .p none (.sl false 3 (pvO ops))])] [(1401, 4, pvE d.mem), (1402, 1, pvR (tagT d.runs)), (1403, 1, pvI d.snaps)]) ?_ ?_
   · exact zAI ⟨rfl, rfl, rfl, rfl, rfl, trivial⟩ ⟨rfl, rfl, rfl, rfl, trivial⟩ ⟨rfl, rfl, rfl, trivial⟩ rfl
   refine zAA rfl (.r rfl (zAG rfl rfl rfl isAgg28 sizeOf28 (nle rfl)) (.run [2500] [] rfl (zAK rfl 2500 (X := []) en33 rfl (.val nod) (.cons (.agg (.cons (.bor .v) (.cons (.bor (.sl nod)) (.cons (.bor (.sl nod)) (.cons (.bor (.sl nod)) .nil))))) .nil) (by decide) all_nil .nil (zPG d hsm) rfl rfl (nle rfl)) (.r rfl (zA2 rfl rfl underlying24) (.m rfl rfl (.r rfl (zAa rfl rfl underlying37) (.r rfl (zAe rfl rfl rfl (by omega)) (.r rfl (zBF rfl rfl rfl) .nil))))))) ?_
   refine zAb (t := decide (400 < (((pvE (zAy (d.mem :: d.runs))).length : Int) + ((pvO ops).length : Int)))) rfl (fun h3 => ?_) (fun h3 => ?_)
   ·
    replace h3 := of_decide_eq_true h3
    refine zAB ?_
    rw [write_f hok hbo (by omega)]
    refine zAA rfl (.r rfl (zAG rfl rfl rfl isAgg28 sizeOf28 (nle rfl)) (.r rfl (zAE rfl rfl rfl rfl rfl sizeOf28 rfl (nle rfl)) (.a rfl rfl .nil))) ?_
    refine zAO ?_
    exact ends [_, _] [1401, 1402, 1403] (.cons (.cell rfl rfl isAgg28 sizeOf28 (nle rfl)) (.cons (.tmp rfl) .nil)) (.cons (.agg (.cons .v (.cons (.row (len := (pvE d.mem).length) (xs := pvE d.mem) rfl rfl) (.cons (.row (len := (pvR (tagT d.runs)).length) (xs := pvR (tagT d.runs)) rfl rfl) (.cons (.row (len := (pvI d.snaps).length) (xs := pvI d.snaps) rfl rfl) .nil)))) (zAN (.v _) (zAN (.sl _ _ (FlatP.clean (zAg _))) (zAN (zAv _) (zAN (.sl _ _ (FlatP.clean (zA7 _))) zBQ))))) (.cons (.one .v (.v _)) .nil)) (by decide) trivial
   ·
    replace h3 := of_decide_eq_false h3
    refine zAL ?_
    refine zAB ?_
    refine zAB ?_
    rw [write_y hok hbo (by omega)]
    have hbl := zC5 (d.seq + 1) ops
    refine zAA rfl (.a rfl rfl .nil) ?_
    refine zAR ?_
    refine zAV (zBi 1401 1 rfl rfl (by decide)) ?_
    refine zAo (σ := Nat) (fun i => mk [(1, .p none (.sl false 3 (pvO ops))), (2, .ptr 2 0), (4, .ptr 4 0), (6, .ptr 6 0), (7, .ptr 7 0), (8, .vi (i:Int))] [(2, [.vi d.seq, .p none (.sl false 4 (pvE d.mem)), .p none (.sl false 1 (pvR (tagT d.runs))), .p none (.sl false 1 (pvI d.snaps))]), (4, [.vi 0, .nils, .nils, .nils]), (6, [.vi d.seq, .sl 1 0 ((pvE (zBl d.mem ((zBg (d.seq + 1) ops).take i))).length), .sl 1402 0 ((pvR (tagT d.runs)).length), .sl 1403 0 ((pvI d.snaps).length)]), (7, [.vi (d.seq + 1), .p none (.sl false 3 (pvO ops))])] [(1, 4, pvE (zBl d.mem ((zBg (d.seq + 1) ops).take i))), (1402, 1, pvR (tagT d.runs)), (1403, 1, pvI d.snaps)]) (fun i => i ≤ ops.length) (fun i => ops.length - i) 0 (by simp) (zAI ⟨rfl, rfl, rfl, rfl, rfl, (zAJ (by omega)), trivial⟩ ⟨rfl, rfl, rfl, rfl, trivial⟩ ⟨(congrArg (fun x => some (4, x)) (by rfl)), rfl, rfl, trivial⟩ rfl) ?_
    rintro i hG
    replace hG : i ≤ ops.length := hG
    have hpl := zDP ((zBg (d.seq + 1) ops).take i) d.mem
    have htl := List.length_take_le i (zBg (d.seq + 1) ops)
    have hpv := zAF (zBl d.mem ((zBg (d.seq + 1) ops).take i))
    refine zAB ?_
    refine zAB (zAA rfl (.m rfl rfl (.m rfl rfl (.r rfl (zAa rfl rfl underlying37) (.r rfl (zA4 rfl rfl rfl) .nil)))) ?_)
    refine zAb (t := decide ((i:Int) < ((pvO ops).length : Int))) rfl (fun h4 => ?_) (fun h4 => ?_)
    ·
     replace h4 := of_decide_eq_true h4
     refine zAL ?_
     refine zAB ?_
     refine zAR ?_
     obtain ⟨e, he⟩ : ∃ e, ops[i]? = some e := ⟨_, List.getElem?_eq_getElem (by omega)⟩
     refine zAZ zBD rfl (.r rfl (zAC rfl rfl underlying28 rfl sizeOf24 (by decide)) (.r rfl (zAD rfl rfl rfl isAgg24 rfl) (.r rfl (zAG rfl rfl rfl isAgg76 sizeOf76 (nle rfl)) (.m rfl rfl (.run [4200, 4201, 4202, 4203] [] rfl (zAK rfl 4200 (X := []) en87 rfl (.val nod) (.cons (.agg (.cons (.bor .v) (.cons (.bor (.sl nod)) .nil))) (.cons (.one (.bor .v)) .nil)) (by decide) all_nil .nil (zGs (d.seq + 1) ops i e he (by omega) hs) rfl rfl (nle rfl)) (.run [1, 4300] [] rfl (zAK rfl 4300 (X := []) en76 rfl (.val nod) (.cons (.one (.bor (.all (len := (pvE (zBl d.mem ((zBg (d.seq + 1) ops).take i))).length) (xs := pvE (zBl d.mem ((zBg (d.seq + 1) ops).take i))) rfl rfl (by decide)))) (.cons (.agg (.cons (.bor .v) (.cons (.bor .v) (.cons (.bor .v) (.cons (.bor .v) .nil))))) .nil)) (by decide) all_nil .nil (zJZ (zBl d.mem ((zBg (d.seq + 1) ops).take i)) (bent (d.seq + 1) i e) (by omega)) rfl rfl (nle rfl)) (.r rfl (zAC rfl rfl underlying28 rfl sizeOf24 (by decide)) (.r rfl (zAE rfl rfl rfl rfl rfl sizeOf24 rfl (nle rfl)) .nil)))))))) (by kernel_rfl) ?_
     refine zAA rfl (.m rfl rfl (.r rfl (zAe rfl rfl rfl (by omega)) (.a rfl rfl .nil))) ?_
     refine nxt (Q := fun _ _ => False) (z := i) (i + 1) ?_ ?_ ?_
     ·
      show (i + 1) ≤ ops.length
      omega
     ·
      show ops.length - (i + 1) < ops.length - i
      omega
     · exact (show Wk _ _ (mk [(1, .p none (.sl false 3 (pvO ops))), (2, .ptr 2 0), (4, .ptr 4 0), (6, .ptr 6 0), (7, .ptr 7 0), (8, .vi ((i:Int) + 1))] [(2, [.vi d.seq, .p none (.sl false 4 (pvE d.mem)), .p none (.sl false 1 (pvR (tagT d.runs))), .p none (.sl false 1 (pvI d.snaps))]), (4, [.vi 0, .nils, .nils, .nils]), (6, [.vi d.seq, .sl 4300 0 ((pvE (putF (zBl d.mem ((zBg (d.seq + 1) ops).take i)) (bent (d.seq + 1) i e))).length), .sl 1402 0 ((pvR (tagT d.runs)).length), .sl 1403 0 ((pvI d.snaps).length)]), (7, [.vi (d.seq + 1), .p none (.sl false 3 (pvO ops))])] [(1402, 1, pvR (tagT d.runs)), (1403, 1, pvI d.snaps), (4300, 4, pvE (putF (zBl d.mem ((zBg (d.seq + 1) ops).take i)) (bent (d.seq + 1) i e)))]) from zAI ⟨rfl, rfl, rfl, rfl, rfl, rfl, trivial⟩ ⟨rfl, rfl, rfl, rfl, trivial⟩ ⟨rfl, rfl, rfl, trivial⟩ rfl).trans ((zBi 4300 1 rfl rfl (by decide)).trans (zAI ⟨rfl, rfl, rfl, rfl, rfl, (zAJ (by omega)), trivial⟩ ⟨rfl, rfl, (by rw [zEW (zDj he)] <;> rfl), rfl, trivial⟩ ⟨(congrArg (fun x => some (4, x)) (by rw [zEW (zDj he)])), rfl, rfl, trivial⟩ rfl))
    ·
     replace h4 := of_decide_eq_false h4
     refine zAu ?_
     refine zAB (zAA rfl (.r rfl (zAC rfl rfl underlying28 rfl sizeOf2 (by decide)) (.r rfl (zAD rfl rfl rfl isAgg2 rfl) (.m rfl rfl (.r rfl (zAa rfl rfl underlying37) (.r rfl (zAX (zAe rfl rfl rfl (by omega)) ((show (AV.p none (.v (.int .i64 (d.seq + ((pvO ops).length : Int))))) = AV.p none (.v (.int .i64 (d.seq + (ops.length : Int)))) from zAJ (by omega)))) (.r rfl (zAC rfl rfl underlying28 rfl sizeOf2 (by decide)) (.r rfl (zAE rfl rfl rfl rfl rfl sizeOf2 rfl (nle rfl)) .nil))))))) ?_)
     have hr5 : pvE (zBl d.mem ((zBg (d.seq + 1) ops).take i)) = pvE (zBl d.mem (zBg (d.seq + 1) ops)) := by rw [List.take_of_length_le (by omega)]
     have hp6 : (some [.vi (d.seq + (ops.length : Int)), .sl 1 0 ((pvE (zBl d.mem ((zBg (d.seq + 1) ops).take i))).length), .sl 1402 0 ((pvR (tagT d.runs)).length), .sl 1403 0 ((pvI d.snaps).length)] : Option (List AV)) = some [.vi (d.seq + (ops.length : Int)), .sl 1 0 ((pvE (zBl d.mem (zBg (d.seq + 1) ops))).length), .sl 1402 0 ((pvR (tagT d.runs)).length), .sl 1403 0 ((pvI d.snaps).length)] := by simp only [hr5]
     refine zAV (s' := mk [(4, .ptr 4 0), (6, .ptr 6 0)] [(4, [.vi 0, .nils, .nils, .nils]), (6, [.vi (d.seq + (ops.length : Int)), .sl 1 0 ((pvE (zBl d.mem (zBg (d.seq + 1) ops))).length), .sl 1402 0 ((pvR (tagT d.runs)).length), .sl 1403 0 ((pvI d.snaps).length)])] [(1, 4, pvE (zBl d.mem (zBg (d.seq + 1) ops))), (1402, 1, pvR (tagT d.runs)), (1403, 1, pvI d.snaps)]) ?_ ?_
     · exact zAI ⟨rfl, rfl, trivial⟩ ⟨rfl, hp6, trivial⟩ ⟨(congrArg (fun x => some (4, x)) hr5), rfl, rfl, trivial⟩ rfl
     refine zAB (zAA rfl (.r rfl (zAG rfl rfl rfl isAgg28 sizeOf28 (nle rfl)) (.r rfl (zAE rfl rfl rfl rfl rfl sizeOf28 rfl (nle rfl)) (.a rfl rfl .nil))) ?_)
     refine zAO ?_
     exact ends [_, _] [1, 1402, 1403] (.cons (.cell rfl rfl isAgg28 sizeOf28 (nle rfl)) (.cons (.tmp rfl) .nil)) (.cons (.agg (.cons .v (.cons (.row (len := (pvE (zBl d.mem (zBg (d.seq + 1) ops))).length) (xs := pvE (zBl d.mem (zBg (d.seq + 1) ops))) rfl rfl) (.cons (.row (len := (pvR (tagT d.runs)).length) (xs := pvR (tagT d.runs)) rfl rfl) (.cons (.row (len := (pvI d.snaps).length) (xs := pvI d.snaps) rfl rfl) .nil)))) (zAN (.v _) (zAN (.sl _ _ (FlatP.clean (zAg _))) (zAN (zAv _) (zAN (.sl _ _ (FlatP.clean (zA7 _))) zBQ))))) (.cons (.one .v (.v _)) .nil)) (by decide) trivial
end Go.Rl
namespace Go.Rl
def op0 (bs : List Nat) (p : Nat) : Bop := ⟨(((zAh bs p 3 : Nat) : Int)).tmod 2, zJ6 bs (zAH bs p 3), zIz bs (zBu bs (zAH bs p 3))⟩
def op0P (bs : List Nat) (p : Nat) : Nat := zAH bs (zBu bs (zAH bs p 3)) 5
def op1v (bs : List Nat) (p : Nat) : ByteArray := if (op0 bs p).kind = 0 then ⟨#[]⟩ else (op0 bs p).value
def opQ (bs : List Nat) (p : Nat) : Nat := zAH bs (op0P bs p) 30
def opV (bs : List Nat) (p : Nat) : Bop := if zCe bs (op0P bs p) 30 = true then ⟨offV bs (opQ bs p) 0 1, zHz bs (offP bs (opQ bs p) 0 1) 44, zHz bs (zEm bs (offP bs (opQ bs p) 0 1) 44) 9⟩ else ⟨(op0 bs p).kind, (op0 bs p).user, op1v bs p⟩
def opP (bs : List Nat) (p : Nat) : Nat := if zCe bs (op0P bs p) 30 = true then zEm bs (zEm bs (offP bs (opQ bs p) 0 1) 44) 9 else opQ bs p
theorem op0P_le {bs : List Nat} {p : Nat} (h : p ≤ bs.length) : op0P bs p ≤ bs.length := zAY (zAY (zAY h))
theorem zPs {bs : List Nat} {p : Nat} (h : p ≤ bs.length) : opQ bs p ≤ bs.length := zAY (op0P_le h)
theorem zPt {bs : List Nat} {p : Nat} (h : p ≤ bs.length) : opP bs p ≤ bs.length := by
 unfold opP
 split
 · exact zFT (zFT (zFi (zPs h)))
 · exact zPs h
def zDV (bs : List Nat) : Nat → List Bop × Nat → List Bop × Nat
 | 0, x => x
 | i + 1, x => zDV bs i (x.1 ++ [opV bs x.2], opP bs x.2)
def opsR (bs : List Nat) (p : Nat) : List Bop × Nat := zDV bs (1 + zAh bs p 4) ([], zAH bs p 4)
def opsV (bs : List Nat) (p : Nat) : List Bop := if zCe bs (opsR bs p).2 30 = true then [] else (opsR bs p).1
def opsP (bs : List Nat) (p : Nat) : Nat := zAH bs (opsR bs p).2 30
theorem zMS {bs : List Nat} {i : Nat} {l : List Bop} {q : Nat} {z : List Bop × Nat} (hi : 0 < i) (h : zDV bs i (l, q) = z) : zDV bs (i - 1) (l ++ [opV bs q], opP bs q) = z := by
 obtain ⟨j, rfl⟩ : ∃ j, i = j + 1 := ⟨i - 1, by omega⟩
 exact h
theorem zGd (bs : List Nat) : ∀ (i : Nat) (x : List Bop × Nat), (zDV bs i x).1.length = x.1.length + i
 | 0, x => rfl
 | i + 1, x => by
  rw [zDV, zGd bs i]
  simp only [List.length_append, List.length_cons, List.length_nil]
  omega
theorem zHZ {bs : List Nat} : ∀ (i : Nat) (x : List Bop × Nat), x.2 ≤ bs.length → (zDV bs i x).2 ≤ bs.length
 | 0, _, h => h
 | i + 1, _, h => zHZ i _ (zPt h)
theorem zNT {bs : List Nat} {p : Nat} (h : p ≤ bs.length) : opsP bs p ≤ bs.length := zAY (zHZ _ ([], zAH bs p 4) (show zAH bs p 4 ≤ bs.length from zAY h))
theorem zGD (bs : List Nat) (p : Nat) : (opsV bs p).length ≤ 4 := by
 unfold opsV
 split
 · exact Nat.zero_le _
 ·
  rw [opsR, zGd]
  have := zB3 (bs := bs) (p := p) (n := 4) (by decide)
  simp only [List.length_nil]
  omega
end Go.Rl
namespace Go.Rl
open Go.Proofs Go.Proofs.Tryz
set_option maxRecDepth 1000000
set_option maxHeartbeats 2000000
theorem en81 : En Tryz.prog 81 := zAn func81 (by decide) rfl
theorem op_con {γ : Gho} {cv : Value} {bs : List Nat} (hc : zCW γ cv bs) (hl : bs.length ≤ 1152921504606846976) (p : Nat) (hp : p ≤ bs.length)  : ConG γ Tryz.prog 81 [.rptr 2 [PV.v (cv), PV.v (.int .i64 (p:Int))]] [some (pvRd (cv, opP bs p))] [.agg [.v (.int .i64 (opV bs p).kind), .v (.string (opV bs p).user), .v (.string (opV bs p).value)]] := by
 refine zAS func81 rfl rfl rfl rfl ?_
 refine zAB (zAA rfl (.run [] [2] rfl (zAl rfl 2 zFz rfl (by decide) rfl (by decide)) .nil) ?_)
 refine zAB (zAA rfl (.m rfl rfl (.run [100000, 500] [] rfl (zAx (.inr rfl) rfl 500 (X := [100000]) en52 rfl (.val nod) (.cons (.rptr rfl) (.cons (.one (.bor .v)) .nil)) (by decide) (all_cons rfl all_nil) (.keep (xs := pvRd (cv, p)) rfl (FlatP.nf (zAc _)) .nil) (zBt hc hl p hp 3 (by omega)) rfl rfl (nle rfl)) (.r rfl (zLD rfl rfl rfl (by omega)) (.m rfl rfl (.run [100000, 800] [] rfl (zAx (.inr rfl) rfl 800 (X := [100000]) en102 rfl (.val nod) (.cons (.rptr rfl) .nil) (by decide) (all_cons rfl all_nil) (.keep (xs := pvRd (cv, zAH bs p 3)) rfl (FlatP.nf (zAc _)) .nil) (zK8 hc hl (zAH bs p 3) (zAY hp)) rfl rfl (nle rfl)) (.m rfl rfl (.run [100000, 1000] [] rfl (zAx (.inr rfl) rfl 1000 (X := [100000]) en89 rfl (.val nod) (.cons (.rptr rfl) .nil) (by decide) (all_cons rfl all_nil) (.keep (xs := pvRd (cv, zBu bs (zAH bs p 3))) rfl (FlatP.nf (zAc _)) .nil) (zIy hc hl (zBu bs (zAH bs p 3)) (zAY (zAY hp))) rfl rfl (nle rfl)) (.r rfl (zBM (pl := [(0, 1), (1, 1), (2, 1)]) rfl underlying110 zFz (by kernel_rfl) rfl rfl) (.run [] [3] rfl (zAl rfl 3 zFz rfl (by decide) rfl (by decide)) (.r rfl (zAE rfl rfl rfl rfl rfl sizeOf110 rfl (nle rfl)) .nil)))))))))) ?_)
 refine zDl (σ := ByteArray) (fun v => mk [(0, .ea 100000 0 0), (2, .ptr 2 0), (3, .ptr 3 0)] [(2, [.vi 0, .vs ⟨#[]⟩, .vs ⟨#[]⟩]), (3, [.vi ((op0 bs p).kind), .vs ((op0 bs p).user), .vs v])] [(100000, 2, pvRd (cv, zAH bs (zBu bs (zAH bs p 3)) 5))]) (fun v => v = op1v bs p) ?_ ?_
 ·
  refine zAB (zAA rfl (.r rfl (zAC rfl rfl underlying110 rfl sizeOf2 (by decide)) (.r rfl (zAD rfl rfl rfl isAgg2 rfl) (.r rfl (zA9 rfl rfl rfl) .nil))) ?_)
  refine zAb (t := decide ((((zAh bs p 3 : Nat) : Int).tmod 2) = 0)) rfl (fun h1 => ?_) (fun h1 => ?_)
  ·
   replace h1 := of_decide_eq_true h1
   refine zAA rfl (.r rfl (zAC rfl rfl underlying110 rfl sizeOf9 (by decide)) (.r rfl (zAE rfl rfl rfl rfl rfl sizeOf9 rfl (nle rfl)) .nil)) ?_
   refine ⟨⟨#[]⟩, ?_, ?_⟩
   ·
    show ⟨#[]⟩ = op1v bs p
    exact (if_pos h1).symm
   · exact zAI ⟨rfl, rfl, rfl, trivial⟩ ⟨rfl, rfl, trivial⟩ ⟨rfl, trivial⟩ rfl
  ·
   replace h1 := of_decide_eq_false h1
   refine zAL ?_
   refine ⟨(op0 bs p).value, ?_, ?_⟩
   ·
    show ((op0 bs p).value) = op1v bs p
    exact (if_neg h1).symm
   · exact zAI ⟨rfl, rfl, rfl, trivial⟩ ⟨rfl, rfl, trivial⟩ ⟨rfl, trivial⟩ rfl
 ·
  rintro v hG
  replace hG : v = op1v bs p := hG
  subst hG
  refine zAB ?_
  refine zAB (zAA rfl (.m rfl rfl (.run [100000, 1700] [] rfl (zAx (.inr rfl) rfl 1700 (X := [100000]) en56 rfl (.val nod) (.cons (.rptr rfl) (.cons (.one (.bor .v)) .nil)) (by decide) (all_cons rfl all_nil) (.keep (xs := pvRd (cv, zAH bs (zBu bs (zAH bs p 3)) 5)) rfl (FlatP.nf (zAc _)) .nil) (zEX hc hl (zAH bs (zBu bs (zAH bs p 3)) 5) (zAY (zAY (zAY hp))) 30 (by omega)) rfl rfl (nle rfl)) .nil)) ?_)
  refine zAb (t := zCe bs (zAH bs (zBu bs (zAH bs p 3)) 5) 30) rfl (fun h2 => ?_) (fun h2 => ?_)
  ·
   refine zAA rfl (.m rfl rfl (.run [100000, 1900] [] rfl (zAx (.inr rfl) rfl 1900 (X := [100000]) en58 rfl (.val nod) (.cons (.rptr rfl) (.cons (.one (.bor .v)) (.cons (.one (.bor .v)) .nil))) (by decide) (all_cons rfl all_nil) (.keep (xs := pvRd (cv, zAH bs (zAH bs (zBu bs (zAH bs p 3)) 5) 30)) rfl (FlatP.nf (zAc _)) .nil) (zIT hc hl (zAH bs (zAH bs (zBu bs (zAH bs p 3)) 5) 30) (zAY (zAY (zAY (zAY hp)))) 0 1 (by omega) (by omega)) rfl rfl (nle rfl)) (.m rfl rfl (.run [100000, 2100] [] rfl (zAx (.inr rfl) rfl 2100 (X := [100000]) en103 rfl (.val nod) (.cons (.rptr rfl) (.cons (.one (.bor .v)) .nil)) (by decide) (all_cons rfl all_nil) (.keep (xs := pvRd (cv, offP bs (zAH bs (zAH bs (zBu bs (zAH bs p 3)) 5) 30) 0 1)) rfl (FlatP.nf (zAc _)) .nil) (zG9 hc hl (offP bs (zAH bs (zAH bs (zBu bs (zAH bs p 3)) 5) 30) 0 1) (zFi (zAY (zAY (zAY (zAY hp))))) 44 (by omega)) rfl rfl (nle rfl)) (.m rfl rfl (.run [100000, 2300] [] rfl (zAx (.inr rfl) rfl 2300 (X := [100000]) en103 rfl (.val nod) (.cons (.rptr rfl) (.cons (.one (.bor .v)) .nil)) (by decide) (all_cons rfl all_nil) (.keep (xs := pvRd (cv, zEm bs (offP bs (zAH bs (zAH bs (zBu bs (zAH bs p 3)) 5) 30) 0 1) 44)) rfl (FlatP.nf (zAc _)) .nil) (zG9 hc hl (zEm bs (offP bs (zAH bs (zAH bs (zBu bs (zAH bs p 3)) 5) 30) 0 1) 44) (zFT (zFi (zAY (zAY (zAY (zAY hp)))))) 9 (by omega)) rfl rfl (nle rfl)) (.r rfl (zBM (pl := [(0, 1), (1, 1), (2, 1)]) rfl underlying110 zFz (by kernel_rfl) rfl rfl) (.r rfl (zAE rfl rfl rfl rfl rfl sizeOf110 rfl (nle rfl)) .nil)))))))) ?_
   refine zAB ?_
   have hv : opV bs p = _ := if_pos h2
   have hpp : opP bs p = _ := if_pos h2
   rw [hv, hpp]
   refine zAA rfl (.r rfl (zAG rfl rfl rfl isAgg110 sizeOf110 (nle rfl)) (.r rfl (zAE rfl rfl rfl rfl rfl sizeOf110 rfl (nle rfl)) .nil)) ?_
   refine zAO ?_
   exact ends [_] [] (.cons (.cell rfl rfl isAgg110 sizeOf110 (nle rfl)) .nil) (.cons (.agg (.cons .v (.cons .v (.cons .v .nil))) (zAN (.v _) (zAN (.v _) (zAN (.v _) zBQ)))) .nil) (by decide) (zB1 (congrArg (fun x => some (2, x)) (congrArg pvRd (congrArg (Prod.mk cv) rfl))) (zAc _) (by decide))
  ·
   refine zAL ?_
   refine zAB ?_
   have hv : opV bs p = _ := if_neg (fun z => Bool.noConfusion ((show zCe bs (op0P bs p) 30 = false from h2).symm.trans z))
   have hpp : opP bs p = _ := if_neg (fun z => Bool.noConfusion ((show zCe bs (op0P bs p) 30 = false from h2).symm.trans z))
   rw [hv, hpp]
   refine zAA rfl (.r rfl (zAG rfl rfl rfl isAgg110 sizeOf110 (nle rfl)) (.r rfl (zAE rfl rfl rfl rfl rfl sizeOf110 rfl (nle rfl)) .nil)) ?_
   refine zAO ?_
   exact ends [_] [] (.cons (.cell rfl rfl isAgg110 sizeOf110 (nle rfl)) .nil) (.cons (.agg (.cons .v (.cons .v (.cons .v .nil))) (zAN (.v _) (zAN (.v _) (zAN (.v _) zBQ)))) .nil) (by decide) (zB1 (congrArg (fun x => some (2, x)) (congrArg pvRd (congrArg (Prod.mk cv) rfl))) (zAc _) (by decide))
theorem ops_con {γ : Gho} {cv : Value} {bs : List Nat} (hc : zCW γ cv bs) (hl : bs.length ≤ 1152921504606846976) (p : Nat) (hp : p ≤ bs.length)  : ConG γ Tryz.prog 45 [.rptr 2 [PV.v (cv), PV.v (.int .i64 (p:Int))]] [some (pvRd (cv, opsP bs p))] [.one (.sl true 3 (pvO (opsV bs p)))] := by
 refine zAS func45 rfl rfl rfl rfl ?_
 have hb0 := zB3 (bs := bs) (p := p) (n := 4) (by omega)
 refine zAB (zAA rfl (.a rfl rfl .nil) ?_)
 refine zAB (zAA rfl (.run [500] [] rfl (zAQ rfl 500 underlying37 zFz (nle rfl) (by decide) rfl rfl rfl .nil (by decide) rfl (by decide) rfl (by decide) rfl) (.a rfl rfl .nil)) ?_)
 refine zAB ?_
 refine zAB (zAA rfl (.m rfl rfl (.run [100000, 700] [] rfl (zAx (.inr rfl) rfl 700 (X := [100000]) en52 rfl (.val nod) (.cons (.rptr rfl) (.cons (.one (.bor .v)) .nil)) (by decide) (all_cons rfl all_nil) (.keep (xs := pvRd (cv, p)) rfl (FlatP.nf (zAc _)) .nil) (zBt hc hl p hp 4 (by omega)) rfl rfl (nle rfl)) (.r rfl (zAe rfl rfl rfl (by omega)) (.a rfl rfl .nil)))) ?_)
 refine zAR ?_
 refine zAV (zBi 500 1 rfl rfl (by decide)) ?_
-- entry row 100000: pvRd (cv, (zAH bs p 4)) now pvRd (cv, zAH bs p 4)
 refine zAo (σ := Nat × List Bop × Nat) (fun (i, l, q) => mk [(0, .ea 100000 0 0), (3, .sl 1 0 ((pvO l).length)), (4, .vi (i:Int))] [] [(1, 3, pvO l), (100000, 2, pvRd (cv, q))]) (fun (i, l, q) => i ≤ 10 ∧ l.length + i ≤ 10 ∧ q ≤ bs.length ∧ zDV bs i (l, q) = opsR bs p) (fun (i, l, q) => i) (1 + zAh bs p 4, [], zAH bs p 4) ⟨by omega, by simp only [List.length_nil]; omega, zAY hp, rfl⟩ (zAI ⟨rfl, rfl, (zAJ (by omega)), trivial⟩ trivial ⟨(congrArg (fun x => some (3, x)) (by rfl)), rfl, trivial⟩ rfl) ?_
 rintro ⟨i, l, q⟩ hG
 replace hG : i ≤ 10 ∧ l.length + i ≤ 10 ∧ q ≤ bs.length ∧ zDV bs i (l, q) = opsR bs p := hG
 obtain ⟨hi, hll, hp, hE⟩ := hG
 have hle := zC2 l
 refine zAB ?_
 refine zAB (zAA rfl (.m rfl rfl (.r rfl (zBF rfl rfl rfl) .nil)) ?_)
 refine zAb (t := decide (0 < (i:Int))) rfl (fun h1 => ?_) (fun h1 => ?_)
 ·
  replace h1 := of_decide_eq_true h1
  refine zAL ?_
  refine zAB ?_
  refine zAR ?_
  refine zAA rfl (.m rfl rfl (.m rfl rfl (.run [100000, 1500, 1501, 1502] [] rfl (zAx (.inr rfl) rfl 1500 (X := [100000]) en81 rfl (.val nod) (.cons (.rptr rfl) .nil) (by decide) (all_cons rfl all_nil) (.keep (xs := pvRd (cv, q)) rfl (FlatP.nf (zAc _)) .nil) (op_con hc hl q hp) rfl rfl (nle rfl)) (.run [1600] [] rfl (zAQ rfl 1600 underlying37 zFz (nle rfl) (by decide) rfl rfl rfl (.cons .v (.cons .v (.cons .v .nil))) (by decide) rfl (by decide) rfl (by decide) rfl) (.run [1] [] rfl (zAq rfl 1 (ib := 1) (len := ((pvO l) ++ [[PV.v (.int .i64 ((opV bs q).kind)), PV.v (.string ((opV bs q).user)), PV.v (.string ((opV bs q).value))]]).length) rfl rfl (.row (len := (pvO l).length) (xs := pvO l) rfl rfl (.inl rfl)) (.give (len := 1) (xs := [[PV.v (.int .i64 ((opV bs q).kind)), PV.v (.string ((opV bs q).user)), PV.v (.string ((opV bs q).value))]]) rfl rfl) underlying37 (sk underlying37 rfl) zFz rfl (by decide) (by decide) (by decide) List.length_append (by simp only [maxLen, List.length_append, List.length_cons, List.length_nil, zC2]; omega) (by simp only [maxLen, List.length_append, List.length_cons, List.length_nil, zC2]; omega)) (.a rfl rfl .nil)))))) ?_
  have hr2 : (pvO l) ++ [[PV.v (.int .i64 ((opV bs q).kind)), PV.v (.string ((opV bs q).user)), PV.v (.string ((opV bs q).value))]] = pvO (l ++ [opV bs q]) := by exact zOr _ _
  have hp3 : (.sl 1 0 (((pvO l) ++ [[PV.v (.int .i64 ((opV bs q).kind)), PV.v (.string ((opV bs q).user)), PV.v (.string ((opV bs q).value))]]).length) : AV) = .sl 1 0 ((pvO (l ++ [opV bs q])).length) := by simp only [hr2]
  refine zAV (s' := mk [(0, .ea 100000 0 0), (3, .sl 1 0 ((pvO (l ++ [opV bs q])).length)), (4, .vi (i:Int))] [] [(1, 3, pvO (l ++ [opV bs q])), (100000, 2, pvRd (cv, opP bs q))]) ?_ ?_
  · exact zAI ⟨rfl, hp3, rfl, trivial⟩ trivial ⟨(congrArg (fun x => some (3, x)) hr2), rfl, trivial⟩ rfl
  refine zAA rfl (.m rfl rfl (.r rfl (zAs rfl rfl rfl (by omega)) (.a rfl rfl .nil))) ?_
-- round row 100000: pvRd (cv, (opP bs q)) now pvRd (cv, opP bs q)
  refine nxt (Q := fun _ _ => False) (z := (i, l, q)) (i - 1, l ++ [opV bs q], opP bs q) ?_ ?_ ?_
  ·
   show (i - 1) ≤ 10 ∧ (l ++ [opV bs q]).length + (i - 1) ≤ 10 ∧ (opP bs q) ≤ bs.length ∧ zDV bs (i - 1) ((l ++ [opV bs q]), (opP bs q)) = opsR bs p
   exact ⟨by omega, by simp only [List.length_append, List.length_cons, List.length_nil]; omega, zPt hp, zMS (by omega) hE⟩
  ·
   show (i - 1) < i
   omega
  · exact zAI ⟨rfl, rfl, (zAJ (by omega)), trivial⟩ trivial ⟨rfl, rfl, trivial⟩ rfl
 ·
  replace h1 := of_decide_eq_false h1
  refine zAu ?_
  refine zAB ?_
  refine zAB ?_
  have hi0 : i = 0 := (by omega)
  rw [hi0] at hE
  have hEm : opsR bs p = (l, q) := hE.symm
  refine zAA rfl (.m rfl rfl (.run [100000, 1900] [] rfl (zAx (.inr rfl) rfl 1900 (X := [100000]) en56 rfl (.val nod) (.cons (.rptr rfl) (.cons (.one (.bor .v)) .nil)) (by decide) (all_cons rfl all_nil) (.keep (xs := pvRd (cv, q)) rfl (FlatP.nf (zAc _)) .nil) (zEX hc hl q hp 30 (by omega)) rfl rfl (nle rfl)) .nil)) ?_
  refine zAb (t := zCe bs q 30) rfl (fun h4 => ?_) (fun h4 => ?_)
  ·
   refine zAB ?_
   have hv : opsV bs p = [] := by rw [opsV, hEm, if_pos h4]
   have hpp : opsP bs p = zAH bs q 30 := by rw [opsP, hEm]
   rw [hv, hpp]
   refine zAA rfl (.run [2000] [] rfl (zAQ rfl 2000 underlying37 zFz (nle rfl) (by decide) rfl rfl rfl .nil (by decide) rfl (by decide) rfl (by decide) rfl) (.a rfl rfl .nil)) ?_
   refine zAO ?_
   exact ends [_] [2000] (.cons (.tmp rfl) .nil) (.cons (.one (.row (len := 0) (xs := []) rfl rfl) (.sl _ _ (fun _ h => nomatch h))) .nil) (by decide) (zB1 (congrArg (fun x => some (2, x)) (congrArg pvRd (congrArg (Prod.mk cv) rfl))) (zAc _) (by decide))
  ·
   refine zAL ?_
   refine zAB ?_
   have hv : opsV bs p = l := by rw [opsV, hEm, if_neg (by simp [h4])]
   have hpp : opsP bs p = zAH bs q 30 := by rw [opsP, hEm]
   rw [hv, hpp]
   refine zAA rfl (.m rfl rfl (.a rfl rfl .nil)) ?_
   refine zAO ?_
   exact ends [_] [1] (.cons (.tmp rfl) .nil) (.cons (.one (.row (len := (pvO l).length) (xs := pvO l) rfl rfl) (.sl _ _ (FlatP.clean (zOs _)))) .nil) (by decide) (zB1 (congrArg (fun x => some (2, x)) (congrArg pvRd (congrArg (Prod.mk cv) rfl))) (zAc _) (by decide))
end Go.Rl
namespace Go.Rl
noncomputable def zCh (bs : List Nat) (x : Eng × Nat) : Eng × Nat :=
 if zAh bs x.2 7 = 0 then (if (zBj x.1).2 = 0 then (zBj x.1).1 else x.1, zAH bs x.2 7)
 else if zAh bs x.2 7 = 1 then (if (zB9 x.1).2.2 = 0 then (zB9 x.1).1 else x.1, zAH bs x.2 7)
 else if zAh bs x.2 7 = 2 then (if (zA8 x.1).2 = 0 then (zA8 x.1).1 else x.1, zAH bs x.2 7)
 else if zAh bs x.2 7 = 3 then
  (if 0 < x.1.snaps.length then (if (zB8 x.1 (x.1.snaps.getD (zAh bs (zAH bs x.2 7) x.1.snaps.length) 0)).2 = 0 then (zB8 x.1 (x.1.snaps.getD (zAh bs (zAH bs x.2 7) x.1.snaps.length) 0)).1 else x.1, zAH bs (zAH bs x.2 7) x.1.snaps.length) else (x.1, zAH bs x.2 7))
 else (if (zBc x.1 (opsV bs (zAH bs x.2 7))).2 = 0 then (zBc x.1 (opsV bs (zAH bs x.2 7))).1 else x.1, opsP bs (zAH bs x.2 7))
noncomputable def zCi (bs : List Nat) : Nat → Eng × Nat → Eng × Nat
 | 0, x => x
 | i + 1, x => zCi bs i (zCh bs x)
noncomputable def zCx (bs : List Nat) (p : Nat) : Eng × Nat := zCi bs (zAh bs p 9) (Eng.nil, zAH bs p 9)
noncomputable def zIq (bs : List Nat) (x : Eng × Nat) : Eng × Nat := if zCe bs x.2 20 = true then ({ x.1 with mem := x.1.mem ++ [zCE bs (zAH bs x.2 20)] }, zDI bs (zAH bs x.2 20)) else (x.1, zAH bs x.2 20)
noncomputable def zJk (bs : List Nat) (x : Eng × Nat) : Eng × Nat := if zCe bs x.2 24 = true then ({ x.1 with seq := offV bs (zAH bs x.2 24) 0 12 }, offP bs (zAH bs x.2 24) 0 12) else (x.1, zAH bs x.2 24)
noncomputable def dbV (bs : List Nat) (p : Nat) : Eng := (zJk bs (zIq bs (zCx bs p))).1
noncomputable def dbP (bs : List Nat) (p : Nat) : Nat := (zJk bs (zIq bs (zCx bs p))).2
theorem zCF {bs : List Nat} {i : Nat} {x y z : Eng × Nat} (hi : 0 < i) (hs : zCh bs x = y) (h : zCi bs i x = z) : zCi bs (i - 1) y = z := by
 obtain ⟨j, rfl⟩ : ∃ j, i = j + 1 := ⟨i - 1, by omega⟩
 rw [← h, ← hs]
 rfl
theorem zLw {d : Eng} (h : EB d) : EB (zBj d).1 := by
 by_cases ho : okE d = true
 ·
  have s := zCP ho
  unfold zBj
  rw [if_pos ho]
  split
  · exact h
  ·
   split
   · exact h
   ·
    refine ⟨Nat.zero_le _, by have := s.runs; simp only [List.length_cons]; omega, fun l hl => ?_, h.snaps⟩
    rcases List.mem_cons.1 hl with rfl | hl
    · exact h.mem
    · exact h.each l hl
 · unfold zBj; rw [if_neg ho]; exact zG1
theorem zNB {d : Eng} (h : EB d) : EB (zB9 d).1 := by
 by_cases ho : okE d = true
 ·
  have s := zCP ho
  unfold zB9
  rw [if_pos ho]
  split
  · exact h
  ·
   split
   · exact h
   · exact ⟨h.mem, h.runs, h.each, by have := s.snaps; simp only [List.length_append, List.length_cons, List.length_nil]; omega⟩
 · unfold zB9; rw [if_neg ho]; exact zG1
theorem zNo {d : Eng} {a : Int} (h : EB d) : EB (zB8 d a).1 := by
 by_cases ho : okE d = true
 ·
  unfold zB8
  rw [if_pos ho]
  exact ⟨h.mem, h.runs, h.each, Nat.le_trans (List.length_filter_le _ _) h.snaps⟩
 · unfold zB8; rw [if_neg ho]; exact zG1
theorem zK3 {d : Eng} {ops : List Bop} (h : EB d) (hn : ops.length ≤ 100) : EB (zBc d ops).1 := by
 by_cases ho : okE d = true
 ·
  have s := zCP ho
  unfold zBc
  rw [if_pos ho]
  split
  · exact h
  ·
   split
   · exact h
   · exact ⟨by have := zDP (zBg (d.seq + 1) ops) d.mem; have := s.mem; have := zC5 (d.seq + 1) ops; show (zBl d.mem (zBg (d.seq + 1) ops)).length ≤ 2000000; omega, h.runs, h.each, h.snaps⟩
 · unfold zBc; rw [if_neg ho]; exact zG1
theorem zJs (l : List Ent) (s : List Int) : (zCQ l s).length ≤ l.length := Nat.le_trans (zFP _ _ _ (Nat.le_refl _)) (zDD _ _ _)
theorem zHu {d : Eng} (h : EB d) : EB (zA8 d).1 := by
 by_cases ho : okE d = true
 ·
  have s := zCP ho
  unfold zA8
  rw [if_pos ho]
  split
  · exact h
  ·
   have hc := zJs (zAy d.runs) d.snaps
   have hm := zC3 d.runs
   have he := s.ents
   refine ⟨h.mem, ?_, fun l hl => ?_, h.snaps⟩
   ·
    show (if 0 < (zCQ (zAy d.runs) d.snaps).length then [zCQ (zAy d.runs) d.snaps] else []).length ≤ 1000000
    split
    · simp
    · simp
   ·
    have hl' : l ∈ (if 0 < (zCQ (zAy d.runs) d.snaps).length then [zCQ (zAy d.runs) d.snaps] else []) := hl
    split at hl'
    · rw [List.mem_singleton.1 hl']; omega
    · cases hl'
 · unfold zA8; rw [if_neg ho]; exact zG1
section
variable {bs : List Nat} {d : Eng} {q : Nat}
theorem st_0 (h : zAh bs q 7 = 0) {c : Bool} (hc : decide ((zBj d).2 = 0) = c) : zCh bs (d, q) = (if c = true then (zBj d).1 else d, zAH bs q 7) := by
 subst hc
 unfold zCh
 rw [if_pos h]
 simp only [decide_eq_true_eq]
theorem st_1 (h : zAh bs q 7 = 1) {c : Bool} (hc : decide ((zB9 d).2.2 = 0) = c) : zCh bs (d, q) = (if c = true then (zB9 d).1 else d, zAH bs q 7) := by
 subst hc
 unfold zCh
 rw [if_neg (by show ¬ zAh bs q 7 = 0; omega), if_pos h]
 simp only [decide_eq_true_eq]
theorem st_2 (h : zAh bs q 7 = 2) {c : Bool} (hc : decide ((zA8 d).2 = 0) = c) : zCh bs (d, q) = (if c = true then (zA8 d).1 else d, zAH bs q 7) := by
 subst hc
 unfold zCh
 rw [if_neg (by show ¬ zAh bs q 7 = 0; omega), if_neg (by show ¬ zAh bs q 7 = 1; omega), if_pos h]
 simp only [decide_eq_true_eq]
theorem st_3n (h : zAh bs q 7 = 3) (hn : ¬ 0 < d.snaps.length) : zCh bs (d, q) = (d, zAH bs q 7) := by
 unfold zCh
 rw [if_neg (by show ¬ zAh bs q 7 = 0; omega), if_neg (by show ¬ zAh bs q 7 = 1; omega), if_neg (by show ¬ zAh bs q 7 = 2; omega), if_pos h, if_neg hn]
theorem st_3 (h : zAh bs q 7 = 3) {a : Int} (ha : d.snaps[zAh bs (zAH bs q 7) d.snaps.length]? = some a) {c : Bool} (hc : decide ((zB8 d a).2 = 0) = c) : zCh bs (d, q) = (if c = true then (zB8 d a).1 else d, zAH bs (zAH bs q 7) d.snaps.length) := by
 subst hc
 have hp : 0 < d.snaps.length := by have := (List.getElem?_eq_some_iff.1 ha).1; omega
 have hg : d.snaps.getD (zAh bs (zAH bs q 7) d.snaps.length) 0 = a := by rw [List.getD_eq_getElem?_getD, ha]; rfl
 unfold zCh
 rw [if_neg (by show ¬ zAh bs q 7 = 0; omega), if_neg (by show ¬ zAh bs q 7 = 1; omega), if_neg (by show ¬ zAh bs q 7 = 2; omega), if_pos h, if_pos hp]
 simp only [hg, decide_eq_true_eq]
theorem st_4 (h0 : ¬ zAh bs q 7 = 0) (h1 : ¬ zAh bs q 7 = 1) (h2 : ¬ zAh bs q 7 = 2) (h3 : ¬ zAh bs q 7 = 3) {c : Bool} (hc : decide ((zBc d (opsV bs (zAH bs q 7))).2 = 0) = c) : zCh bs (d, q) = (if c = true then (zBc d (opsV bs (zAH bs q 7))).1 else d, opsP bs (zAH bs q 7)) := by
 subst hc
 unfold zCh
 rw [if_neg h0, if_neg h1, if_neg h2, if_neg h3]
 simp only [decide_eq_true_eq]
end
structure EB1 (d : Eng) : Prop where
 mem : d.mem.length ≤ 2000001
 runs : d.runs.length ≤ 1000000
 each : ∀ l ∈ d.runs, l.length ≤ 2000000
 snaps : d.snaps.length ≤ 1000000
def atQ (bs : List Nat) (sn : List Int) (p : Nat) : Nat := if 0 < sn.length then zAH bs p 2 else p
def atV (bs : List Nat) (sn : List Int) (p : Nat) : Int := if 0 < sn.length ∧ zCe bs p 2 = true then sn.getD (zAh bs (zAH bs p 2) sn.length) 0 else if zCe bs (atQ bs sn p) 4 = true then offV bs (zAH bs (atQ bs sn p) 4) 0 9 else -1
def atP (bs : List Nat) (sn : List Int) (p : Nat) : Nat := if 0 < sn.length ∧ zCe bs p 2 = true then zAH bs (zAH bs p 2) sn.length else if zCe bs (atQ bs sn p) 4 = true then offP bs (zAH bs (atQ bs sn p) 4) 0 9 else zAH bs (atQ bs sn p) 4
end Go.Rl

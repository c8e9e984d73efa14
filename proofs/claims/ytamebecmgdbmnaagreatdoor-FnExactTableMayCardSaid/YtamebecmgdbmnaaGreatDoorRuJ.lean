/- Promises of functions, proved by walks over their operations; no conditions beyond those that each theorem states. -/
import Derived.Test.YtamebecmgdbmnaaGreatDoorRmB
import Derived.Test.YtamebecmgdbmnaaGreatDoorRuC
import Derived.Test.YtamebecmgdbmnaaGreatDoorRmI
import Derived.Laws.IdiomStrings
import Derived.Lib.TrailingZeros
set_option linter.unusedSimpArgs false
set_option linter.unusedVariables false
namespace Go.Rl
open Go.Proofs Go.Proofs.Tryz
set_option maxRecDepth 1000000
set_option maxHeartbeats 2000000
theorem en114 : En Tryz.prog 114 := zAl func114 (by decide) rfl
theorem zMK {us : List ByteArray} {n : Nat} (h : n = us.length) : (n : Int) + ((n / 4 : Nat) : Int) + 20 = ((ribM us : Nat) : Int) := by rw [ribM, h]; omega
theorem zOp {us : List ByteArray} (h : us.length ≤ 400) : 20 ≤ ribM us ∧ ribM us ≤ 520 := by rw [ribM]; omega
theorem zH1 (us : List ByteArray) (sd : Nat) (hsd : sd ≤ 3) (hu : ∀ u ∈ us, zBa u = true) (hn : us.length ≤ 400) : Con Tryz.prog 76 [.one (PV.sl false 1 (pvT us)), .one (PV.v (.int .i64 (sd:Int)))] [] [.agg [.v (.int .i64 ((zBO us sd).getD .zero).kind), .v (.int .i64 ((zBO us sd).getD .zero).seed), .v (.int .i64 ((zBO us sd).getD .zero).probes), .v (.string ((zBO us sd).getD .zero).bits)], .one (.v (.bool ((zBO us sd).isSome)))] := by
 refine zAR func76 rfl rfl rfl rfl ?_
 have hle := zBD us
 have hM := zOp hn
 refine zAB (zAA rfl (.run [] [4] rfl (zA7 rfl 4 zCm rfl (by decide) rfl (by decide)) (.a rfl rfl .nil)) ?_)
 refine zAB ?_
 refine zAB (zAA rfl (.m rfl rfl (.run [1900] [] rfl (zAF rfl 1900 (X := []) en75 rfl (.val nod) (.cons (.one (.bor (.sl nod))) .nil) (by decide) all_nil .nil (zDd us (by assumption) (by omega)) rfl rfl (nle rfl)) (.r rfl (zAa (b := true) rfl rfl) (.m rfl rfl (.m rfl rfl (.run [2300] [] rfl (zAF rfl 2300 (X := []) en71 rfl (.val nod) (.cons (.one (.bor .v)) (.cons (.one (.bor .v)) (.cons (.one (.bor .v)) .nil))) (by decide) all_nil .nil (zBv (sd:Int) 0 3) rfl rfl (nle rfl)) (.r rfl (zAa (b := zAi (sd:Int) 0 3) rfl rfl) (.r rfl (zAb (t := false) rfl rfl) .nil)))))))) ?_)
 refine zAT (t := (!(zAi (sd:Int) 0 3))) rfl (fun h1 => ?_) (fun h1 => ?_)
 ·
  replace h1 : (zAi (sd:Int) 0 3) = false := zAp h1
  rw [show zAi (sd : Int) 0 3 = true by simp only [zAi, Bool.and_eq_true, decide_eq_true_eq]; omega] at h1; cases h1
 ·
  replace h1 : (zAi (sd:Int) 0 3) = true := zAq h1
  refine zAM ?_
  refine zAB (zAA rfl (.m rfl rfl (.r rfl (zAu rfl rfl underlying61) (.a rfl rfl .nil))) ?_)
  refine zAB ?_
  refine zAQ (s' := mk [(0, .p none (.sl false 1 (pvT us))), (1, .vi (sd:Int)), (4, .ptr 4 0), (6, .vi ((pvT us).length : Int))] [(4, [.vi 0, .vi 0, .vi 0, .vs ⟨#[]⟩])] []) ?_ ?_
  · exact zAJ ⟨rfl, rfl, rfl, rfl, trivial⟩ ⟨rfl, trivial⟩ trivial rfl
  refine zAA rfl (.m rfl rfl (.m rfl rfl (.r rfl (zAI (zE8 rfl rfl rfl (by omega)) ((zAG (quo4 (by omega))))) (.r rfl (zAd rfl rfl rfl (by omega)) (.r rfl (zAI (zAd rfl rfl rfl (by omega)) ((zAG (zMK hle)))) (.a rfl rfl .nil)))))) ?_
  refine zAB (zAA rfl (.m rfl rfl (.run [3500] [] rfl (zD3 rfl 3500 (l := ribM us) (c := ribM us) rfl rfl underlying124 zMp rfl rfl (by decide) rfl (by decide) (by omega) (by omega) (by simp only [maxLen]; omega)) (.a rfl rfl .nil))) ?_)
  have hr2 : List.replicate (ribM us) [PV.v (.int .u64 0)] = pvQ ((eq0 (ribM us)).map Eqn.row) := by exact eq0_row _
  have hl3 : ribM us = (pvQ ((eq0 (ribM us)).map Eqn.row)).length := by first | (rw [← hr2, List.length_set]; done) | simp [zBj, eq0]
  have hp4 : (.sl 3500 0 (ribM us) : AV) = .sl 3500 0 ((pvQ ((eq0 (ribM us)).map Eqn.row)).length) := by first | exact congrArg (AV.sl 3500 0) hl3 | simp only [hr2, hl3]
  refine zAQ (s' := mk [(0, .p none (.sl false 1 (pvT us))), (1, .vi (sd:Int)), (4, .ptr 4 0), (7, .vi ((ribM us : Nat) : Int)), (8, .sl 3500 0 ((pvQ ((eq0 (ribM us)).map Eqn.row)).length))] [(4, [.vi 0, .vi 0, .vi 0, .vs ⟨#[]⟩])] [(3500, 1, pvQ ((eq0 (ribM us)).map Eqn.row))]) ?_ ?_
  · exact zAJ ⟨rfl, rfl, rfl, rfl, hp4, trivial⟩ ⟨rfl, trivial⟩ ⟨(congrArg (fun x => some (1, x)) hr2), trivial⟩ rfl
  refine zAB (zAA rfl (.m rfl rfl (.run [3700] [] rfl (zD3 rfl 3700 (l := ribM us) (c := ribM us) rfl rfl underlying124 zMp rfl rfl (by decide) rfl (by decide) (by omega) (by omega) (by simp only [maxLen]; omega)) (.a rfl rfl .nil))) ?_)
  have hr5 : List.replicate (ribM us) [PV.v (.int .u64 0)] = pvQ ((eq0 (ribM us)).map Eqn.sum) := by exact eq0_sum _
  have hl6 : ribM us = (pvQ ((eq0 (ribM us)).map Eqn.sum)).length := by first | (rw [← hr5, List.length_set]; done) | simp [zBj, eq0]
  have hp7 : (.sl 3700 0 (ribM us) : AV) = .sl 3700 0 ((pvQ ((eq0 (ribM us)).map Eqn.sum)).length) := by first | exact congrArg (AV.sl 3700 0) hl6 | simp only [hr5, hl6]
  refine zAQ (s' := mk [(0, .p none (.sl false 1 (pvT us))), (1, .vi (sd:Int)), (4, .ptr 4 0), (7, .vi ((ribM us : Nat) : Int)), (8, .sl 3500 0 ((pvQ ((eq0 (ribM us)).map Eqn.row)).length)), (9, .sl 3700 0 ((pvQ ((eq0 (ribM us)).map Eqn.sum)).length))] [(4, [.vi 0, .vi 0, .vi 0, .vs ⟨#[]⟩])] [(3500, 1, pvQ ((eq0 (ribM us)).map Eqn.row)), (3700, 1, pvQ ((eq0 (ribM us)).map Eqn.sum))]) ?_ ?_
  · exact zAJ ⟨rfl, rfl, rfl, rfl, rfl, hp7, trivial⟩ ⟨rfl, trivial⟩ ⟨rfl, (congrArg (fun x => some (1, x)) hr5), trivial⟩ rfl
  refine zAB ?_
  refine zAB (zAA rfl (.a rfl rfl .nil) ?_)
  refine zAS ?_
  refine zAQ (zCc 3500 1 rfl rfl (by decide)) ?_
  refine zAQ (zCc 3700 2 rfl rfl (by decide)) ?_
  refine zAo (σ := Nat × List Eqn) (fun (i, K) => mk [(0, .p none (.sl false 1 (pvT us))), (1, .vi (sd:Int)), (4, .ptr 4 0), (7, .vi ((ribM us : Nat) : Int)), (8, .sl 1 0 ((pvQ (K.map Eqn.row)).length)), (9, .sl 2 0 ((pvQ (K.map Eqn.sum)).length)), (10, .vi (i:Int))] [(4, [.vi 0, .vi 0, .vi 0, .vs ⟨#[]⟩])] [(1, 1, pvQ (K.map Eqn.row)), (2, 1, pvQ (K.map Eqn.sum))]) (fun (i, K) => (i ≤ us.length ∧ KOk (ribM us) K) ∧ zB6 us sd (ribM us) i = some K) (fun (i, K) => us.length - i) (0, eq0 (ribM us)) ⟨⟨Nat.zero_le _, zIM _⟩, rfl⟩ (zAJ ⟨rfl, rfl, rfl, rfl, rfl, rfl, (zAG (by omega)), trivial⟩ ⟨rfl, trivial⟩ ⟨(congrArg (fun x => some (1, x)) (by rfl)), (congrArg (fun x => some (1, x)) (by rfl)), trivial⟩ rfl) ?_
  rintro ⟨i, K⟩ hG
  replace hG : (i ≤ us.length ∧ KOk (ribM us) K) ∧ zB6 us sd (ribM us) i = some K := hG
  obtain ⟨⟨hi, hK⟩, hA⟩ := hG
  refine zAB ?_
  refine zAB (zAA rfl (.m rfl rfl (.m rfl rfl (.r rfl (zAu rfl rfl underlying61) (.r rfl (zAz rfl rfl rfl) .nil)))) ?_)
  refine zAT (t := decide ((i:Int) < ((pvT us).length : Int))) rfl (fun h8 => ?_) (fun h8 => ?_)
  ·
   replace h8 := of_decide_eq_true h8
   refine zAM ?_
   refine zAB ?_
   refine zAS ?_
   refine zAB ?_
   obtain ⟨x, hx⟩ : ∃ x, us[i]? = some x := ⟨_, List.getElem?_eq_getElem (by omega)⟩
   have huo := hu _ (List.mem_of_getElem? hx)
   have hus := zC7 huo
   refine zAQ (s' := mk [(0, .p none (.sl false 1 (pvT us))), (1, .vi (sd:Int)), (4, .ptr 4 0), (7, .vi ((ribM us : Nat) : Int)), (8, .sl 1 0 ((pvQ (K.map Eqn.row)).length)), (9, .sl 2 0 ((pvQ (K.map Eqn.sum)).length)), (10, .vi (i:Int))] [(4, [.vi 0, .vi 0, .vi 0, .vs ⟨#[]⟩])] [(1, 1, pvQ (K.map Eqn.row)), (2, 1, pvQ (K.map Eqn.sum))]) ?_ ?_
   · exact zAJ ⟨rfl, rfl, rfl, rfl, rfl, rfl, rfl, trivial⟩ ⟨rfl, trivial⟩ ⟨rfl, rfl, trivial⟩ rfl
   refine zAA rfl (.m rfl rfl (.m rfl rfl (.r rfl (zA8 rfl rfl rfl underlying61 sizeOf9 rfl (by omega) (zCl hx)) (.r rfl (zBP rfl rfl isAgg9 rfl) (.m rfl rfl (.m rfl rfl (.run [5100, 5101, 5102] [] rfl (zAF rfl 5100 (X := []) en114 rfl (.val nod) (.cons (.one (.bor .v)) (.cons (.one (.bor .v)) (.cons (.one (.bor .v)) .nil))) (by decide) all_nil .nil (zMH x sd (ribM us) (by omega) (by omega) (by omega)) rfl rfl (nle rfl)) (.m rfl rfl (.r rfl (zAH rfl rfl rfl) (.r rfl (zAH rfl rfl rfl) (.r rfl (zAH rfl rfl rfl) (.a rfl rfl (.a rfl rfl (.a rfl rfl .nil)))))))))))))) ?_
   refine zAB ?_
   refine zAS ?_
   refine zAo (σ := Nat × Nat × Nat × List Eqn) (fun (a, r, s, T) => mk [(0, .p none (.sl false 1 (pvT us))), (1, .vi (sd:Int)), (4, .ptr 4 0), (7, .vi ((ribM us : Nat) : Int)), (8, .sl 1 0 ((pvQ (T.map Eqn.row)).length)), (9, .sl 2 0 ((pvQ (T.map Eqn.sum)).length)), (10, .vi (i:Int)), (11, .vi (a:Int)), (12, .p none (.v (.int .u64 (r:Int)))), (13, .p none (.v (.int .u64 (s:Int))))] [(4, [.vi 0, .vi 0, .vi 0, .vs ⟨#[]⟩])] [(1, 1, pvQ (T.map Eqn.row)), (2, 1, pvQ (T.map Eqn.sum))]) (fun (a, r, s, T) => (RI (ribM us) a r s ∧ KOk (ribM us) T) ∧ ribE (ribM us) a r s T = ribE (ribM us) (atN (zAj sd x) (ribM us)) (rowN (zAj sd x)) (sumN (zAj sd x)) K) (fun (a, r, s, T) => 2 * (ribM us - a) + r % 2) (atN (zAj sd x) (ribM us), rowN (zAj sd x), sumN (zAj sd x), K) ⟨⟨zF7 _ _ (by omega), hK⟩, rfl⟩ (zAJ ⟨rfl, rfl, rfl, rfl, rfl, rfl, rfl, rfl, rfl, rfl, trivial⟩ ⟨rfl, trivial⟩ ⟨rfl, rfl, trivial⟩ rfl) ?_
   rintro ⟨a, r, s, T⟩ hG
   replace hG : (RI (ribM us) a r s ∧ KOk (ribM us) T) ∧ ribE (ribM us) a r s T = ribE (ribM us) (atN (zAj sd x) (ribM us)) (rowN (zAj sd x)) (sumN (zAj sd x)) K := hG
   obtain ⟨⟨hI, hT⟩, hR⟩ := hG
   have hI1 := hI.at_
   have hI2 := hI.row
   have hI3 := hI.sum
   refine zAB ?_
   refine zAB (zAA rfl (.m rfl rfl (.r rfl (zBH rfl rfl rfl) .nil)) ?_)
   refine zAT (t := decide (0 < (r:Int))) rfl (fun h9 => ?_) (fun h9 => ?_)
   ·
    replace h9 := of_decide_eq_true h9
    refine zAM ?_
    refine zAS ?_
    refine zAB ?_
    refine zAB (zAA rfl (.m rfl rfl (.r rfl (zB1 r 2 rfl rfl rfl (by omega)) (.r rfl (zA9 rfl rfl rfl) .nil))) ?_)
    refine zAT (t := decide (((r % 2 : Nat) : Int) = 0)) rfl (fun h10 => ?_) (fun h10 => ?_)
    ·
     replace h10 := of_decide_eq_true h10
     refine zAB (zAA rfl (.m rfl rfl (.r rfl (zAI (zDP (k := .u64) 18446744073709551616 rfl r 2 rfl rfl rfl rfl (by omega)) ((zAG (show (((r / 2) % 18446744073709551616 : Nat) : Int) = ((r / 2 : Nat) : Int) by omega)))) (.a rfl rfl .nil))) ?_)
     refine zAB (zAA rfl (.m rfl rfl (.r rfl (zAd rfl rfl rfl (by omega)) (.a rfl rfl .nil))) ?_)
     refine zAn ?_
     refine nxt (Q := fun _ _ => False) (z := (a, r, s, T)) (a + 1, r / 2, s, T) ?_ ?_ ?_
     ·
      show (RI (ribM us) (a + 1) (r / 2) s ∧ KOk (ribM us) T) ∧ ribE (ribM us) (a + 1) (r / 2) s T = ribE (ribM us) (atN (zAj sd x) (ribM us)) (rowN (zAj sd x)) (sumN (zAj sd x)) K
      exact ⟨⟨(zFE (K := T) hI (by omega) (by omega)).2, hT⟩, (zFE (K := T) hI (by omega) (by omega)).1.trans hR⟩
     ·
      show 2 * (ribM us - (a + 1)) + (r / 2) % 2 < 2 * (ribM us - a) + r % 2
      have := hI.in_ (by omega); omega
     · exact zAJ ⟨rfl, rfl, rfl, rfl, rfl, rfl, rfl, (zAG (by omega)), rfl, rfl, trivial⟩ ⟨rfl, trivial⟩ ⟨rfl, rfl, trivial⟩ rfl
    ·
     replace h10 := of_decide_eq_false h10
     refine zAM ?_
     refine zAB ?_
     have ha := hI.in_ (by omega)
     have hTl := hT.len
     obtain ⟨e, he⟩ : ∃ e, T[a]? = some e := ⟨_, List.getElem?_eq_getElem (by omega)⟩
     have hTr : (pvQ (T.map Eqn.row)).length = ribM us := by rw [zBj, List.length_map, hTl]
     have hTs : (pvQ (T.map Eqn.sum)).length = ribM us := by rw [zBj, List.length_map, hTl]
     refine zAA rfl (.m rfl rfl (.m rfl rfl (.r rfl (zA0 a rfl rfl rfl rfl underlying124 sizeOf58 rfl rfl (by omega)) (.r rfl (zA3 rfl rfl rfl (zD6 (zH5 he)) isAgg58 rfl) (.r rfl (zA9 rfl rfl rfl) .nil))))) ?_
     refine zAT (t := decide (((e.row : Nat) : Int) = 0)) rfl (fun h11 => ?_) (fun h11 => ?_)
     ·
      replace h11 := of_decide_eq_true h11
      refine zAB (zAA rfl (.m rfl rfl (.m rfl rfl (.m rfl rfl (.r rfl (zA0 a rfl rfl rfl rfl underlying124 sizeOf58 rfl rfl (by omega)) (.r rfl (zBC rfl rfl rfl (FlatP.nf (zIF _)) (zD6 (zH5 he)) rfl rfl (.cons .v .nil) sizeOf58 rfl (nle rfl)) .nil))))) ?_)
      have hr12 : (pvQ (T.map Eqn.row)).set a [PV.v (.int .u64 (r:Int))] = pvQ ((T.set a ⟨a, r, s⟩).map Eqn.row) := by exact zNu ⟨a, r, s⟩
      have hl13 : (pvQ (T.map Eqn.row)).length = (pvQ ((T.set a ⟨a, r, s⟩).map Eqn.row)).length := by first | (rw [← hr12, List.length_set]; done) | simp [zBj]
      have hp14 : (.sl 1 0 ((pvQ (T.map Eqn.row)).length) : AV) = .sl 1 0 ((pvQ ((T.set a ⟨a, r, s⟩).map Eqn.row)).length) := by first | exact congrArg (AV.sl 1 0) hl13 | simp only [hr12, hl13]
      refine zAQ (s' := mk [(0, .p none (.sl false 1 (pvT us))), (1, .vi (sd:Int)), (4, .ptr 4 0), (7, .vi ((ribM us : Nat) : Int)), (8, .sl 1 0 ((pvQ ((T.set a ⟨a, r, s⟩).map Eqn.row)).length)), (9, .sl 2 0 ((pvQ (T.map Eqn.sum)).length)), (10, .vi (i:Int)), (11, .vi (a:Int)), (13, .p none (.v (.int .u64 (s:Int))))] [(4, [.vi 0, .vi 0, .vi 0, .vs ⟨#[]⟩])] [(1, 1, pvQ ((T.set a ⟨a, r, s⟩).map Eqn.row)), (2, 1, pvQ (T.map Eqn.sum))]) ?_ ?_
      · exact zAJ ⟨rfl, rfl, rfl, rfl, hp14, rfl, rfl, rfl, rfl, trivial⟩ ⟨rfl, trivial⟩ ⟨(congrArg (fun x => some (1, x)) hr12), rfl, trivial⟩ rfl
      refine zAB (zAA rfl (.m rfl rfl (.m rfl rfl (.m rfl rfl (.r rfl (zA0 a rfl rfl rfl rfl underlying124 sizeOf58 rfl rfl (by omega)) (.r rfl (zBC rfl rfl rfl (FlatP.nf (zIF _)) (zD6 (zJw he)) rfl rfl (.cons .v .nil) sizeOf58 rfl (nle rfl)) .nil))))) ?_)
      have hr15 : (pvQ (T.map Eqn.sum)).set a [PV.v (.int .u64 (s:Int))] = pvQ ((T.set a ⟨a, r, s⟩).map Eqn.sum) := by exact zNt ⟨a, r, s⟩
      have hl16 : (pvQ (T.map Eqn.sum)).length = (pvQ ((T.set a ⟨a, r, s⟩).map Eqn.sum)).length := by first | (rw [← hr15, List.length_set]; done) | simp [zBj]
      have hp17 : (.sl 2 0 ((pvQ (T.map Eqn.sum)).length) : AV) = .sl 2 0 ((pvQ ((T.set a ⟨a, r, s⟩).map Eqn.sum)).length) := by first | exact congrArg (AV.sl 2 0) hl16 | simp only [hr15, hl16]
      refine zAQ (s' := mk [(0, .p none (.sl false 1 (pvT us))), (1, .vi (sd:Int)), (4, .ptr 4 0), (7, .vi ((ribM us : Nat) : Int)), (8, .sl 1 0 ((pvQ ((T.set a ⟨a, r, s⟩).map Eqn.row)).length)), (9, .sl 2 0 ((pvQ ((T.set a ⟨a, r, s⟩).map Eqn.sum)).length)), (10, .vi (i:Int)), (11, .vi (a:Int))] [(4, [.vi 0, .vi 0, .vi 0, .vs ⟨#[]⟩])] [(1, 1, pvQ ((T.set a ⟨a, r, s⟩).map Eqn.row)), (2, 1, pvQ ((T.set a ⟨a, r, s⟩).map Eqn.sum))]) ?_ ?_
      · exact zAJ ⟨rfl, rfl, rfl, rfl, rfl, hp17, rfl, rfl, trivial⟩ ⟨rfl, trivial⟩ ⟨rfl, (congrArg (fun x => some (1, x)) hr15), trivial⟩ rfl
      refine zAB (zAA rfl (.a rfl rfl .nil) ?_)
      refine zAA rfl (.a rfl rfl .nil) ?_
      refine nxt (Q := fun _ _ => False) (z := (a, r, s, T)) (a, 0, 0, T.set a ⟨a, r, s⟩) ?_ ?_ ?_
      ·
       show (RI (ribM us) a 0 0 ∧ KOk (ribM us) (T.set a ⟨a, r, s⟩)) ∧ ribE (ribM us) a 0 0 (T.set a ⟨a, r, s⟩) = ribE (ribM us) (atN (zAj sd x) (ribM us)) (rowN (zAj sd x)) (sumN (zAj sd x)) K
       exact ⟨⟨(zFD hI hT (by omega) he (by omega)).2.1, (zFD hI hT (by omega) he (by omega)).2.2⟩, (zFD hI hT (by omega) he (by omega)).1.trans hR⟩
      ·
       show 2 * (ribM us - a) + 0 % 2 < 2 * (ribM us - a) + r % 2
       have : r % 2 = 1 := by omega
       omega
      · exact zAJ ⟨rfl, rfl, rfl, rfl, rfl, rfl, rfl, (zAG (by omega)), rfl, rfl, trivial⟩ ⟨rfl, trivial⟩ ⟨rfl, rfl, trivial⟩ rfl
     ·
      replace h11 := of_decide_eq_false h11
      refine zAB ?_
      have hx := zJ7 hI hT (by omega) he (by omega)
      have hx1 := hx.2.1.row
      have hx2 := hx.2.1.sum
      refine zAQ (s' := mk [(0, .p none (.sl false 1 (pvT us))), (1, .vi (sd:Int)), (4, .ptr 4 0), (7, .vi ((ribM us : Nat) : Int)), (8, .sl 1 0 ((pvQ (T.map Eqn.row)).length)), (9, .sl 2 0 ((pvQ (T.map Eqn.sum)).length)), (10, .vi (i:Int)), (11, .vi (a:Int)), (12, .p none (.v (.int .u64 (r:Int)))), (13, .p none (.v (.int .u64 (s:Int))))] [(4, [.vi 0, .vi 0, .vi 0, .vs ⟨#[]⟩])] [(1, 1, pvQ (T.map Eqn.row)), (2, 1, pvQ (T.map Eqn.sum))]) ?_ ?_
      · exact zAJ ⟨rfl, rfl, rfl, rfl, rfl, rfl, rfl, rfl, rfl, rfl, trivial⟩ ⟨rfl, trivial⟩ ⟨rfl, rfl, trivial⟩ rfl
      refine zAA rfl (.m rfl rfl (.m rfl rfl (.m rfl rfl (.r rfl (zA0 a rfl rfl rfl rfl underlying124 sizeOf58 rfl rfl (by omega)) (.r rfl (zA3 rfl rfl rfl (zD6 (zH5 he)) isAgg58 rfl) (.r rfl (zAI (zBw (k := .u64) 18446744073709551616 rfl r e.row rfl rfl rfl rfl) ((zAG (show (((r ^^^ e.row) % 18446744073709551616 : Nat) : Int) = ((r ^^^ e.row : Nat) : Int) by omega)))) (.a rfl rfl .nil))))))) ?_
      refine zAA rfl (.m rfl rfl (.m rfl rfl (.m rfl rfl (.r rfl (zA0 a rfl rfl rfl rfl underlying124 sizeOf58 rfl rfl (by omega)) (.r rfl (zA3 rfl rfl rfl (zD6 (zJw he)) isAgg58 rfl) (.r rfl (zAI (zBw (k := .u64) 18446744073709551616 rfl s e.sum rfl rfl rfl rfl) ((zAG (show (((s ^^^ e.sum) % 18446744073709551616 : Nat) : Int) = ((s ^^^ e.sum : Nat) : Int) by omega)))) (.a rfl rfl .nil))))))) ?_
      refine nxt (Q := fun _ _ => False) (z := (a, r, s, T)) (a, r ^^^ e.row, s ^^^ e.sum, T) ?_ ?_ ?_
      ·
       show (RI (ribM us) a (r ^^^ e.row) (s ^^^ e.sum) ∧ KOk (ribM us) T) ∧ ribE (ribM us) a (r ^^^ e.row) (s ^^^ e.sum) T = ribE (ribM us) (atN (zAj sd x) (ribM us)) (rowN (zAj sd x)) (sumN (zAj sd x)) K
       exact ⟨⟨hx.2.1, hT⟩, hx.1.trans hR⟩
      ·
       show 2 * (ribM us - a) + (r ^^^ e.row) % 2 < 2 * (ribM us - a) + r % 2
       have := hx.2.2; omega
      · exact zAJ ⟨rfl, rfl, rfl, rfl, rfl, rfl, rfl, (zAG (by omega)), rfl, rfl, trivial⟩ ⟨rfl, trivial⟩ ⟨rfl, rfl, trivial⟩ rfl
   ·
    replace h9 := of_decide_eq_false h9
    refine zAn ?_
    refine zAB (zAA rfl (.m rfl rfl (.r rfl (zB8 rfl rfl rfl) .nil)) ?_)
    refine zAT (t := (!(decide ((s:Int) = 0)))) rfl (fun h18 => ?_) (fun h18 => ?_)
    ·
     replace h18 : ¬ ((s:Int) = 0) := of_decide_eq_false (zAp h18)
     refine zAB ?_
     have hN := zEv (zFc ((zCJ hA hx).trans (hR.symm.trans (by rw [show r = 0 by omega, zDe, if_neg (by omega)]))) (show i + 1 ≤ us.length by omega))
     rw [hN]
     refine zAA rfl (.r rfl (zAt (pl := [(0, 1), (1, 1), (2, 1), (3, 1)]) rfl underlying64 zCm (by kernel_rfl) rfl rfl) (.r rfl (zAN rfl rfl rfl rfl rfl sizeOf64 rfl (nle rfl)) (.a rfl rfl .nil))) ?_
     refine zAK ?_
     exact ends [_, _] [] (.cons (.cell rfl rfl isAgg64 sizeOf64 (nle rfl)) (.cons (.tmp rfl) .nil)) (.cons (.agg (.cons .v (.cons .v (.cons .v (.cons .v .nil)))) (zAL (.v _) (zAL (.v _) (zAL (.v _) (zAL (.v _) zBR))))) (.cons (.one .v (.v _)) .nil)) (by decide) trivial
    ·
     replace h18 : (s:Int) = 0 := of_decide_eq_true (zAq h18)
     refine zAM ?_
     refine zAA rfl (.m rfl rfl (.r rfl (zAd rfl rfl rfl (by omega)) (.a rfl rfl .nil))) ?_
     refine nxt (Q := fun _ _ => False) (z := (i, K)) (i + 1, T) ?_ ?_ ?_
     ·
      show ((i + 1) ≤ us.length ∧ KOk (ribM us) T) ∧ zB6 us sd (ribM us) (i + 1) = some T
      exact ⟨⟨by omega, hT⟩, (zCJ hA hx).trans (hR.symm.trans (by rw [show r = 0 by omega, show s = 0 by omega, zDe, if_pos rfl]))⟩
     ·
      show us.length - (i + 1) < us.length - i
      omega
     · exact zAJ ⟨rfl, rfl, rfl, rfl, rfl, rfl, (zAG (by omega)), trivial⟩ ⟨rfl, trivial⟩ ⟨rfl, rfl, trivial⟩ rfl
  ·
   replace h8 := of_decide_eq_false h8
   refine zAn ?_
   refine zAB ?_
   have hS := zGU (show zB6 us sd (ribM us) us.length = some K by rw [show us.length = i by omega]; exact hA)
   rw [hS]
   refine zAA rfl (.m rfl rfl (.run [9300] [] rfl (zD3 rfl 9300 (l := ribM us) (c := ribM us) rfl rfl underlying22 inf5 rfl rfl (by decide) rfl (by decide) (by omega) (by omega) (by simp only [maxLen]; omega)) (.a rfl rfl .nil))) ?_
   have hr19 : List.replicate (ribM us) [PV.v (.int .u8 0)] = pvNb (bitK K (ribM us) 0) := by exact zHq K _
   have hl20 : ribM us = (pvNb (bitK K (ribM us) 0)).length := by first | (rw [← hr19, List.length_set]; done) | simp [zBK, zDi]
   have hp21 : (.sl 9300 0 (ribM us) : AV) = .sl 9300 0 ((pvNb (bitK K (ribM us) 0)).length) := by first | exact congrArg (AV.sl 9300 0) hl20 | simp only [hr19, hl20]
   refine zAQ (s' := mk [(1, .vi (sd:Int)), (4, .ptr 4 0), (7, .vi ((ribM us : Nat) : Int)), (8, .sl 1 0 ((pvQ (K.map Eqn.row)).length)), (9, .sl 2 0 ((pvQ (K.map Eqn.sum)).length)), (14, .sl 9300 0 ((pvNb (bitK K (ribM us) 0)).length))] [(4, [.vi 0, .vi 0, .vi 0, .vs ⟨#[]⟩])] [(1, 1, pvQ (K.map Eqn.row)), (2, 1, pvQ (K.map Eqn.sum)), (9300, 1, pvNb (bitK K (ribM us) 0))]) ?_ ?_
   · exact zAJ ⟨rfl, rfl, rfl, rfl, rfl, hp21, trivial⟩ ⟨rfl, trivial⟩ ⟨rfl, rfl, (congrArg (fun x => some (1, x)) hr19), trivial⟩ rfl
   refine zAB ?_
   refine zAB (zAA rfl (.m rfl rfl (.r rfl (zBt rfl rfl rfl (by omega)) (.a rfl rfl .nil))) ?_)
   refine zAS ?_
   refine zAQ (zCc 9300 3 rfl rfl (by decide)) ?_
   refine zAo (σ := Nat) (fun j => mk [(1, .vi (sd:Int)), (4, .ptr 4 0), (8, .sl 1 0 ((pvQ (K.map Eqn.row)).length)), (9, .sl 2 0 ((pvQ (K.map Eqn.sum)).length)), (14, .sl 3 0 ((pvNb (bitK K (ribM us) j)).length)), (15, .vi (((ribM us : Nat) : Int) - 1 - (j : Int)))] [(4, [.vi 0, .vi 0, .vi 0, .vs ⟨#[]⟩])] [(1, 1, pvQ (K.map Eqn.row)), (2, 1, pvQ (K.map Eqn.sum)), (3, 1, pvNb (bitK K (ribM us) j))]) (fun j => j ≤ ribM us) (fun j => ribM us - j) 0 (by simp) (zAJ ⟨rfl, rfl, rfl, rfl, rfl, (zAG (by omega)), trivial⟩ ⟨rfl, trivial⟩ ⟨rfl, rfl, (congrArg (fun x => some (1, x)) (by rfl)), trivial⟩ rfl) ?_
   rintro j hG
   replace hG : j ≤ ribM us := hG
   have hbt := zIe hK j
   have hbl := zDi K (ribM us) j
   have hbv := zBK (bitK K (ribM us) j)
   refine zAB ?_
   refine zAB (zAA rfl (.m rfl rfl (.r rfl (zDF rfl rfl rfl) .nil)) ?_)
   refine zAT (t := decide (0 ≤ (((ribM us : Nat) : Int) - 1 - (j : Int)))) rfl (fun h22 => ?_) (fun h22 => ?_)
   ·
    replace h22 := of_decide_eq_true h22
    refine zAM ?_
    refine zAB ?_
    refine zAS ?_
    refine zAB ?_
    have hKl := hK.len
    obtain ⟨e, he⟩ : ∃ e, K[ribM us - 1 - j]? = some e := ⟨_, List.getElem?_eq_getElem (by omega)⟩
    have hE := hK.all _ e he
    have hE1 := hE.1
    have hE3 := hE.2.2.1
    have hKr : (pvQ (K.map Eqn.row)).length = ribM us := by rw [zBj, List.length_map, hKl]
    have hKs : (pvQ (K.map Eqn.sum)).length = ribM us := by rw [zBj, List.length_map, hKl]
    refine zAA rfl (.m rfl rfl (.r rfl (zAI (zBF rfl) ((zAG (by omega)))) (.r rfl (zA0 (ribM us - 1 - j) rfl rfl rfl rfl underlying124 sizeOf58 rfl rfl (by omega)) (.r rfl (zA3 rfl rfl rfl (zD6 (zJw he)) isAgg58 rfl) (.a rfl rfl .nil))))) ?_
    refine zAB ?_
    refine zAB (zAA rfl (.a rfl rfl .nil) ?_)
    refine zAS ?_
    refine zAo (σ := Nat) (fun k => mk [(1, .vi (sd:Int)), (4, .ptr 4 0), (8, .sl 1 0 ((pvQ (K.map Eqn.row)).length)), (9, .sl 2 0 ((pvQ (K.map Eqn.sum)).length)), (14, .sl 3 0 ((pvNb (bitK K (ribM us) j)).length)), (15, .vi (((ribM us : Nat) : Int) - 1 - (j : Int))), (16, .p none (.v (.int .u64 ((e.sum ^^^ solT (bitK K (ribM us) j) (ribM us - 1 - j) (e.row / 2 * 2) k : Nat) : Int)))), (17, .vi (k:Int))] [(4, [.vi 0, .vi 0, .vi 0, .vs ⟨#[]⟩])] [(1, 1, pvQ (K.map Eqn.row)), (2, 1, pvQ (K.map Eqn.sum)), (3, 1, pvNb (bitK K (ribM us) j))]) (fun k => 1 ≤ k ∧ k ≤ 16) (fun k => 16 - k) 1 (by decide) (zAJ ⟨rfl, rfl, rfl, rfl, rfl, rfl, (zAG (by rw [sol_one, Nat.xor_zero])), (zAG (by omega)), trivial⟩ ⟨rfl, trivial⟩ ⟨rfl, rfl, rfl, trivial⟩ rfl) ?_
    rintro k hG
    replace hG : 1 ≤ k ∧ k ≤ 16 := hG
    obtain ⟨hk1, hk2⟩ := hG
    refine zAB ?_
    refine zAB (zAA rfl (.m rfl rfl (.r rfl (zAz rfl rfl rfl) .nil)) ?_)
    refine zAT (t := decide ((k:Int) < 16)) rfl (fun h23 => ?_) (fun h23 => ?_)
    ·
     replace h23 := of_decide_eq_true h23
     refine zAM ?_
     refine zAB ?_
     refine zAS ?_
     refine zAB (zAA rfl (.m rfl rfl (.r rfl (zAI (zBF rfl) ((zAG (by omega)))) (.r rfl (zA0 (ribM us - 1 - j) rfl rfl rfl rfl underlying124 sizeOf58 rfl rfl (by omega)) (.r rfl (zA3 rfl rfl rfl (zD6 (zH5 he)) isAgg58 rfl) (.m rfl rfl (.r rfl (zAI (zAc (k' := .u64) 18446744073709551616 rfl k rfl rfl rfl underlying2 underlying97) ((zAG (show ((k % 18446744073709551616 : Nat) : Int) = ((k : Nat) : Int) by omega)))) (.r rfl (zBZ e.row k rfl rfl rfl (by show _ ≤ 64; omega)) (.r rfl (zB1 (e.row / 2 ^ k) 2 rfl rfl rfl (by omega)) (.r rfl (zA9 rfl rfl rfl) .nil))))))))) ?_)
     refine zAT (t := decide ((((e.row / 2 ^ k) % 2 : Nat) : Int) = 1)) rfl (fun h24 => ?_) (fun h24 => ?_)
     ·
      replace h24 := of_decide_eq_true h24
      have hpk : ribM us - 1 - j + k < ribM us := zMV hE.2.1 (by have := h24; intro q; rw [q] at this; exact absurd this (by decide))
      obtain ⟨b, hb⟩ : ∃ b, (bitK K (ribM us) j)[ribM us - 1 - j + k]? = some b := ⟨_, List.getElem?_eq_getElem (by omega)⟩
      have hb8 := hbt b (List.mem_of_getElem? hb)
      refine zAQ (s' := mk [(1, .vi (sd:Int)), (4, .ptr 4 0), (8, .sl 1 0 ((pvQ (K.map Eqn.row)).length)), (9, .sl 2 0 ((pvQ (K.map Eqn.sum)).length)), (14, .sl 3 0 ((pvNb (bitK K (ribM us) j)).length)), (15, .vi (((ribM us : Nat) : Int) - 1 - (j : Int))), (16, .p none (.v (.int .u64 ((e.sum ^^^ solT (bitK K (ribM us) j) (ribM us - 1 - j) (e.row / 2 * 2) k : Nat) : Int)))), (17, .vi (k:Int))] [(4, [.vi 0, .vi 0, .vi 0, .vs ⟨#[]⟩])] [(1, 1, pvQ (K.map Eqn.row)), (2, 1, pvQ (K.map Eqn.sum)), (3, 1, pvNb (bitK K (ribM us) j))]) ?_ ?_
      · exact zAJ ⟨rfl, rfl, rfl, rfl, rfl, rfl, rfl, rfl, trivial⟩ ⟨rfl, trivial⟩ ⟨rfl, rfl, rfl, trivial⟩ rfl
      refine zAA rfl (.m rfl rfl (.m rfl rfl (.r rfl (zAI (zBF rfl) ((zAG (by omega)))) (.m rfl rfl (.r rfl (zAI (zAd rfl rfl rfl (by omega)) ((zAG (show ((ribM us - 1 - j : Nat) : Int) + (k : Int) = ((ribM us - 1 - j + k : Nat) : Int) by omega)))) (.r rfl (zA0 (ribM us - 1 - j + k) rfl rfl rfl rfl underlying22 sizeOf5 rfl rfl (by omega)) (.r rfl (zA3 rfl rfl rfl (zCT hb) isAgg5 rfl) (.r rfl (zAI (zAc (k' := .u64) 18446744073709551616 rfl b rfl rfl rfl underlying5 underlying58) ((zAG (show ((b % 18446744073709551616 : Nat) : Int) = ((b : Nat) : Int) by omega)))) (.r rfl (zBw (k := .u64) 18446744073709551616 rfl (e.sum ^^^ solT (bitK K (ribM us) j) (ribM us - 1 - j) (e.row / 2 * 2) k) b rfl rfl rfl rfl) (.a rfl rfl .nil)))))))))) ?_
      refine zAA rfl (.m rfl rfl (.r rfl (zAd rfl rfl rfl (by omega)) (.a rfl rfl .nil))) ?_
      refine nxt (Q := fun _ _ => False) (z := k) (k + 1) ?_ ?_ ?_
      ·
       show 1 ≤ (k + 1) ∧ (k + 1) ≤ 16
       omega
      ·
       show 16 - (k + 1) < 16 - k
       omega
      · exact zAJ ⟨rfl, rfl, rfl, rfl, rfl, rfl, (zAG (congrArg Nat.cast (zL8 hk1 (by omega) hb hE3 hbt))), (zAG (by omega)), trivial⟩ ⟨rfl, trivial⟩ ⟨rfl, rfl, rfl, trivial⟩ rfl
     ·
      replace h24 := of_decide_eq_false h24
      refine zAM ?_
      refine zAA rfl (.m rfl rfl (.r rfl (zAd rfl rfl rfl (by omega)) (.a rfl rfl .nil))) ?_
      refine nxt (Q := fun _ _ => False) (z := k) (k + 1) ?_ ?_ ?_
      ·
       show 1 ≤ (k + 1) ∧ (k + 1) ≤ 16
       omega
      ·
       show 16 - (k + 1) < 16 - k
       omega
      · exact zAJ ⟨rfl, rfl, rfl, rfl, rfl, rfl, (zAG (congrArg Nat.cast (congrArg (e.sum ^^^ ·) (zL9 hk1 (by omega)).symm))), (zAG (by omega)), trivial⟩ ⟨rfl, trivial⟩ ⟨rfl, rfl, rfl, trivial⟩ rfl
    ·
     replace h23 := of_decide_eq_false h23
     refine zAn ?_
     obtain ⟨b, hb⟩ : ∃ b, (bitK K (ribM us) j)[ribM us - 1 - j]? = some b := ⟨_, List.getElem?_eq_getElem (by omega)⟩
     refine zAA rfl (.m rfl rfl (.r rfl (zAI (zBF rfl) ((zAG (by omega)))) (.m rfl rfl (.r rfl (zAc (k' := .u8) 256 rfl (e.sum ^^^ solT (bitK K (ribM us) j) (ribM us - 1 - j) (e.row / 2 * 2) k) rfl rfl rfl underlying58 underlying5) (.r rfl (zA0 (ribM us - 1 - j) rfl rfl rfl rfl underlying22 sizeOf5 rfl rfl (by omega)) (.r rfl (zBC rfl rfl rfl (FlatP.nf (zDV _)) (zCT hb) rfl rfl (.cons .v .nil) sizeOf5 rfl (nle rfl)) .nil)))))) ?_
     have hr25 : (pvNb (bitK K (ribM us) j)).set (ribM us - 1 - j) [PV.v (.int .u8 (((e.sum ^^^ solT (bitK K (ribM us) j) (ribM us - 1 - j) (e.row / 2 * 2) k) % 256 : Nat) : Int))] = pvNb (bitK K (ribM us) (j + 1)) := by rw [show k = 16 by omega, Nat.mod_eq_of_lt (Nat.lt_trans (Nat.xor_lt_two_pow (n := 7) hE3 (zEG hbt _ _ _)) (by decide)), zFH, zG2 he]
     have hl26 : (pvNb (bitK K (ribM us) j)).length = (pvNb (bitK K (ribM us) (j + 1))).length := by first | (rw [← hr25, List.length_set]; done) | simp [zBK]
     have hp27 : (.sl 3 0 ((pvNb (bitK K (ribM us) j)).length) : AV) = .sl 3 0 ((pvNb (bitK K (ribM us) (j + 1))).length) := by first | exact congrArg (AV.sl 3 0) hl26 | simp only [hr25, hl26]
     refine zAQ (s' := mk [(1, .vi (sd:Int)), (4, .ptr 4 0), (8, .sl 1 0 ((pvQ (K.map Eqn.row)).length)), (9, .sl 2 0 ((pvQ (K.map Eqn.sum)).length)), (14, .sl 3 0 ((pvNb (bitK K (ribM us) (j + 1))).length)), (15, .vi (((ribM us : Nat) : Int) - 1 - (j : Int)))] [(4, [.vi 0, .vi 0, .vi 0, .vs ⟨#[]⟩])] [(1, 1, pvQ (K.map Eqn.row)), (2, 1, pvQ (K.map Eqn.sum)), (3, 1, pvNb (bitK K (ribM us) (j + 1)))]) ?_ ?_
     · exact zAJ ⟨rfl, rfl, rfl, rfl, hp27, rfl, trivial⟩ ⟨rfl, trivial⟩ ⟨rfl, rfl, (congrArg (fun x => some (1, x)) hr25), trivial⟩ rfl
     refine zAA rfl (.m rfl rfl (.r rfl (zBt rfl rfl rfl (by omega)) (.a rfl rfl .nil))) ?_
     refine nxt (Q := fun _ _ => False) (z := j) (j + 1) ?_ ?_ ?_
     ·
      show (j + 1) ≤ ribM us
      omega
     ·
      show ribM us - (j + 1) < ribM us - j
      omega
     · exact zAJ ⟨rfl, rfl, rfl, rfl, rfl, (zAG (by omega)), trivial⟩ ⟨rfl, trivial⟩ ⟨rfl, rfl, rfl, trivial⟩ rfl
   ·
    replace h22 := of_decide_eq_false h22
    refine zAn ?_
    refine zAB (zAA rfl (.m rfl rfl (.m rfl rfl (.r rfl (zCj (ints (bitK K (ribM us) (ribM us))) rfl rfl (.give (len := (pvNb (bitK K (ribM us) j)).length) (xs := pvNb (bitK K (ribM us) j)) rfl rfl) rfl (by rw [show j = ribM us by omega]; exact zC0 _) underlying22 underlying9 underlying5) (.r rfl (zAt (pl := [(0, 1), (1, 1), (2, 1), (3, 1)]) rfl underlying64 zCm (by kernel_rfl) rfl rfl) (.r rfl (zAN rfl rfl rfl rfl rfl sizeOf64 rfl (nle rfl)) (.a rfl rfl .nil)))))) ?_)
    refine zAK ?_
    exact ends [_, _] [] (.cons (.cell rfl rfl isAgg64 sizeOf64 (nle rfl)) (.cons (.tmp rfl) .nil)) (.cons (.agg (.cons .v (.cons .v (.cons .v (.cons .v .nil)))) (zAL (.v _) (zAL (.v _) (zAL (.v _) (zAL (.v _) zBR))))) (.cons (.one .v (.v _)) .nil)) (by decide) trivial
end Go.Rl
namespace Go.Rl
open Go.Proofs Go.Proofs.Tryz
set_option maxRecDepth 1000000
set_option maxHeartbeats 2000000
theorem en127 : En Tryz.prog 127 := zAl func127 (by decide) rfl
theorem en128 : En Tryz.prog 128 := zAl func128 (by decide) rfl
theorem zN8 {c : Nat} (h : (((c &&& 1) % 18446744073709551616 : Nat) : Int) = 0) : c % 2 = 0 := by rw [Nat.and_one_is_mod] at h; omega
theorem low_n {c : Nat} (h : ¬ (((c &&& 1) % 18446744073709551616 : Nat) : Int) = 0) : c % 2 = 1 := by rw [Nat.and_one_is_mod] at h; omega
theorem zI0 (us : List ByteArray) (sd : Nat) (hsd : sd ≤ 3) (hu : ∀ u ∈ us, zBa u = true) (hn : us.length ≤ 400) : Con Tryz.prog 109 [.one (PV.sl false 1 (pvT us)), .one (PV.v (.int .i64 (sd:Int)))] [] [.agg [.v (.int .i64 ((zBO us sd).getD .zero).kind), .v (.int .i64 ((zBO us sd).getD .zero).seed), .v (.int .i64 ((zBO us sd).getD .zero).probes), .v (.string ((zBO us sd).getD .zero).bits)], .one (.v (.bool ((zBO us sd).isSome)))] := by
 refine zAR func109 rfl rfl rfl rfl ?_
 have hle := zBD us
 have hM := zOp hn
 refine zAB (zAA rfl (.run [] [4] rfl (zA7 rfl 4 zCm rfl (by decide) rfl (by decide)) (.a rfl rfl .nil)) ?_)
 refine zAB ?_
 refine zAB (zAA rfl (.m rfl rfl (.run [1600] [] rfl (zAF rfl 1600 (X := []) zOO rfl (.val nod) (.cons (.one (.bor (.sl nod))) .nil) (by decide) all_nil .nil (zDw us (by assumption) (by omega)) rfl rfl (nle rfl)) (.r rfl (zAa (b := true) rfl rfl) (.m rfl rfl (.m rfl rfl (.run [2000] [] rfl (zAF rfl 2000 (X := []) en60 rfl (.val nod) (.cons (.one (.bor .v)) (.cons (.one (.bor .v)) (.cons (.one (.bor .v)) .nil))) (by decide) all_nil .nil (zBU (sd:Int) 0 3) rfl rfl (nle rfl)) (.r rfl (zAa (b := zAi (sd:Int) 0 3) rfl rfl) (.r rfl (zAb (t := false) rfl rfl) .nil)))))))) ?_)
 refine zAT (t := (!(zAi (sd:Int) 0 3))) rfl (fun h1 => ?_) (fun h1 => ?_)
 ·
  replace h1 : (zAi (sd:Int) 0 3) = false := zAp h1
  rw [show zAi (sd : Int) 0 3 = true by simp only [zAi, Bool.and_eq_true, decide_eq_true_eq]; omega] at h1; cases h1
 ·
  replace h1 : (zAi (sd:Int) 0 3) = true := zAq h1
  refine zAM ?_
  refine zAB ?_
  refine zAQ (s' := mk [(0, .p none (.sl false 1 (pvT us))), (1, .vi (sd:Int)), (4, .ptr 4 0)] [(4, [.vi 0, .vi 0, .vi 0, .vs ⟨#[]⟩])] []) ?_ ?_
  · exact zAJ ⟨rfl, rfl, rfl, trivial⟩ ⟨rfl, trivial⟩ trivial rfl
  refine zAA rfl (.m rfl rfl (.r rfl (zAu rfl rfl underlying61) (.m rfl rfl (.r rfl (zAu rfl rfl underlying61) (.r rfl (zAI (zE8 rfl rfl rfl (by omega)) ((zAG (quo4 (by omega))))) (.r rfl (zAd rfl rfl rfl (by omega)) (.r rfl (zAI (zAd rfl rfl rfl (by omega)) ((zAG (zMK hle)))) (.a rfl rfl .nil)))))))) ?_
  refine zAB (zAA rfl (.m rfl rfl (.run [3200] [] rfl (zD3 rfl 3200 (l := ribM us) (c := ribM us) rfl rfl underlying137 zHf rfl rfl (by decide) rfl (by decide) (by omega) (by omega) (by simp only [maxLen]; omega)) (.a rfl rfl .nil))) ?_)
  have hr2 : List.replicate (ribM us) [PV.v (.int .i64 0), PV.v (.int .u64 0), PV.v (.int .u8 0)] = pvK (eq0 (ribM us)) := by exact eq0_all _
  have hl3 : ribM us = (pvK (eq0 (ribM us))).length := by first | (rw [← hr2, List.length_set]; done) | simp [zEY, eq0]
  have hp4 : (.sl 3200 0 (ribM us) : AV) = .sl 3200 0 ((pvK (eq0 (ribM us))).length) := by first | exact congrArg (AV.sl 3200 0) hl3 | simp only [hr2, hl3]
  refine zAQ (s' := mk [(0, .p none (.sl false 1 (pvT us))), (1, .vi (sd:Int)), (4, .ptr 4 0), (6, .vi ((ribM us : Nat) : Int)), (7, .sl 3200 0 ((pvK (eq0 (ribM us))).length))] [(4, [.vi 0, .vi 0, .vi 0, .vs ⟨#[]⟩])] [(3200, 3, pvK (eq0 (ribM us)))]) ?_ ?_
  · exact zAJ ⟨rfl, rfl, rfl, rfl, hp4, trivial⟩ ⟨rfl, trivial⟩ ⟨(congrArg (fun x => some (3, x)) hr2), trivial⟩ rfl
  refine zAB ?_
  refine zAB (zAA rfl (.m rfl rfl (.r rfl (zAu rfl rfl underlying61) (.m rfl rfl .nil))) ?_)
  refine zAS ?_
  refine zAQ (zCc 3200 1 rfl rfl (by decide)) ?_
  refine zAo (σ := Nat × List Eqn) (fun (i, K) => mk [(1, .vi (sd:Int)), (4, .ptr 4 0), (6, .vi ((ribM us : Nat) : Int)), (7, .sl 1 0 ((pvK K).length)), (33, .p none (.sl false 1 (pvT us))), (34, .vi ((pvT us).length : Int)), (35, .vi (i:Int))] [(4, [.vi 0, .vi 0, .vi 0, .vs ⟨#[]⟩])] [(1, 3, pvK K)]) (fun (i, K) => (i ≤ us.length ∧ KOk (ribM us) K) ∧ zB6 us sd (ribM us) i = some K) (fun (i, K) => us.length - i) (0, eq0 (ribM us)) ⟨⟨Nat.zero_le _, zIM _⟩, rfl⟩ (zAJ ⟨rfl, rfl, rfl, rfl, rfl, rfl, (zAG (by omega)), trivial⟩ ⟨rfl, trivial⟩ ⟨(congrArg (fun x => some (3, x)) (by rfl)), trivial⟩ rfl) ?_
  rintro ⟨i, K⟩ hG
  replace hG : (i ≤ us.length ∧ KOk (ribM us) K) ∧ zB6 us sd (ribM us) i = some K := hG
  obtain ⟨⟨hi, hK⟩, hA⟩ := hG
  refine zAB (zAA rfl (.r rfl (zAz rfl rfl rfl) .nil) ?_)
  refine zAB ?_
  refine zAT (t := decide ((i:Int) < ((pvT us).length : Int))) rfl (fun h5 => ?_) (fun h5 => ?_)
  ·
   replace h5 := of_decide_eq_true h5
   refine zAM ?_
   refine zAB ?_
   refine zAS ?_
   refine zAB ?_
   obtain ⟨x, hx⟩ : ∃ x, us[i]? = some x := ⟨_, List.getElem?_eq_getElem (by omega)⟩
   have huo := hu _ (List.mem_of_getElem? hx)
   have hus := zC7 huo
   refine zAA rfl (.r rfl (zA8 rfl rfl rfl underlying61 sizeOf9 rfl (by omega) (zCl hx)) (.r rfl (zBP rfl rfl isAgg9 rfl) (.a rfl rfl .nil))) ?_
   refine zAB (zAA rfl (.m rfl rfl (.m rfl rfl (.m rfl rfl (.run [4200, 4201, 4202] [] rfl (zAF rfl 4200 (X := []) en127 rfl (.val nod) (.cons (.one (.bor .v)) (.cons (.one (.bor .v)) (.cons (.one (.bor .v)) .nil))) (by decide) all_nil .nil (zK4 x sd (ribM us) (by omega) (by omega) (by omega)) rfl rfl (nle rfl)) (.run [] [10] rfl (zA7 rfl 10 zHf rfl (by decide) rfl (by decide)) (.r rfl (zAN rfl rfl rfl rfl rfl sizeOf132 rfl (nle rfl)) .nil)))))) ?_)
   refine zAB ?_
   refine zAS ?_
   refine zAo (σ := Nat × Nat × Nat × List Eqn) (fun (a, r, s, T) => mk [(1, .vi (sd:Int)), (4, .ptr 4 0), (6, .vi ((ribM us : Nat) : Int)), (7, .sl 1 0 ((pvK T).length)), (10, .ptr 10 0), (33, .p none (.sl false 1 (pvT us))), (34, .vi ((pvT us).length : Int)), (35, .vi (i:Int))] [(4, [.vi 0, .vi 0, .vi 0, .vs ⟨#[]⟩]), (10, [.vi (a:Int), .p none (.v (.int .u64 (r:Int))), .p none (.v (.int .u8 (s:Int)))])] [(1, 3, pvK T)]) (fun (a, r, s, T) => (RI (ribM us) a r s ∧ KOk (ribM us) T) ∧ ribE (ribM us) a r s T = ribE (ribM us) (atN (zAj sd x) (ribM us)) (rowN (zAj sd x)) (sumN (zAj sd x)) K) (fun (a, r, s, T) => 2 * (ribM us - a) + r % 2) (atN (zAj sd x) (ribM us), rowN (zAj sd x), sumN (zAj sd x), K) ⟨⟨zF7 _ _ (by omega), hK⟩, rfl⟩ (zAJ ⟨rfl, rfl, rfl, rfl, rfl, rfl, rfl, rfl, trivial⟩ ⟨rfl, rfl, trivial⟩ ⟨rfl, trivial⟩ rfl) ?_
   rintro ⟨a, r, s, T⟩ hG
   replace hG : (RI (ribM us) a r s ∧ KOk (ribM us) T) ∧ ribE (ribM us) a r s T = ribE (ribM us) (atN (zAj sd x) (ribM us)) (rowN (zAj sd x)) (sumN (zAj sd x)) K := hG
   obtain ⟨⟨hI, hT⟩, hR⟩ := hG
   have hI1 := hI.at_
   have hI2 := hI.row
   have hI3 := hI.sum
   refine zAB ?_
   refine zAB (zAA rfl (.r rfl (zAC rfl rfl underlying132 rfl sizeOf58 (by decide)) (.r rfl (zAD rfl rfl rfl isAgg58 rfl) (.r rfl (zB8 rfl rfl rfl) .nil))) ?_)
   refine zAT (t := (!(decide ((r:Int) = 0)))) rfl (fun h6 => ?_) (fun h6 => ?_)
   ·
    replace h6 : ¬ ((r:Int) = 0) := of_decide_eq_false (zAp h6)
    refine zAM ?_
    refine zAS ?_
    refine zAB ?_
    refine zAS ?_
    refine zAo (σ := Nat × Nat) (fun (b, q) => mk [(1, .vi (sd:Int)), (4, .ptr 4 0), (6, .vi ((ribM us : Nat) : Int)), (7, .sl 1 0 ((pvK T).length)), (10, .ptr 10 0), (33, .p none (.sl false 1 (pvT us))), (34, .vi ((pvT us).length : Int)), (35, .vi (i:Int))] [(4, [.vi 0, .vi 0, .vi 0, .vs ⟨#[]⟩]), (10, [.vi (b:Int), .p none (.v (.int .u64 (q:Int))), .p none (.v (.int .u8 (s:Int)))])] [(1, 3, pvK T)]) (fun (b, q) => ((RI (ribM us) b q s ∧ ¬ q = 0) ∧ ribE (ribM us) b q s T = ribE (ribM us) (atN (zAj sd x) (ribM us)) (rowN (zAj sd x)) (sumN (zAj sd x)) K) ∧ 2 * (ribM us - b) + q % 2 ≤ 2 * (ribM us - a) + r % 2) (fun (b, q) => ribM us - b) (a, r) ⟨⟨⟨hI, by omega⟩, hR⟩, Nat.le_refl _⟩ (zAJ ⟨rfl, rfl, rfl, rfl, rfl, rfl, rfl, rfl, trivial⟩ ⟨rfl, rfl, trivial⟩ ⟨rfl, trivial⟩ rfl) ?_
    rintro ⟨b, q⟩ hG
    replace hG : ((RI (ribM us) b q s ∧ ¬ q = 0) ∧ ribE (ribM us) b q s T = ribE (ribM us) (atN (zAj sd x) (ribM us)) (rowN (zAj sd x)) (sumN (zAj sd x)) K) ∧ 2 * (ribM us - b) + q % 2 ≤ 2 * (ribM us - a) + r % 2 := hG
    obtain ⟨⟨⟨hJ, hq⟩, hS⟩, hμ⟩ := hG
    have hJ1 := hJ.at_
    have hJ2 := hJ.row
    have hJ3 := hJ.sum
    refine zAB ?_
    refine zAB (zAA rfl (.r rfl (zAC rfl rfl underlying132 rfl sizeOf58 (by decide)) (.r rfl (zAD rfl rfl rfl isAgg58 rfl) (.r rfl (zFa (k := .u64) 18446744073709551616 rfl q 1 rfl rfl rfl rfl) (.r rfl (zA9 rfl rfl rfl) .nil)))) ?_)
    refine zAT (t := decide ((((q &&& 1) % 18446744073709551616 : Nat) : Int) = 0)) rfl (fun h7 => ?_) (fun h7 => ?_)
    ·
     replace h7 := of_decide_eq_true h7
     refine zAM ?_
     refine zAS ?_
     refine zAB (zAA rfl (.r rfl (zAC rfl rfl underlying132 rfl sizeOf58 (by decide)) (.r rfl (zAD rfl rfl rfl isAgg58 rfl) (.r rfl (zAI (zBZ q 1 rfl rfl rfl (by decide)) ((zAG (show ((q / 2 ^ 1 : Nat) : Int) = ((q / 2 : Nat) : Int) by rw [Nat.pow_one])))) (.r rfl (zAC rfl rfl underlying132 rfl sizeOf58 (by decide)) (.r rfl (zAN rfl rfl rfl rfl rfl sizeOf58 rfl (nle rfl)) .nil))))) ?_)
     refine zAA rfl (.r rfl (zAC rfl rfl underlying132 rfl sizeOf3 (by decide)) (.r rfl (zAD rfl rfl rfl isAgg3 rfl) (.r rfl (zAd rfl rfl rfl (by omega)) (.r rfl (zAC rfl rfl underlying132 rfl sizeOf3 (by decide)) (.r rfl (zAN rfl rfl rfl rfl rfl sizeOf3 rfl (nle rfl)) .nil))))) ?_
     refine nxt (Q := fun _ _ => False) (z := (b, q)) (b + 1, q / 2) ?_ ?_ ?_
     ·
      show ((RI (ribM us) (b + 1) (q / 2) s ∧ ¬ (q / 2) = 0) ∧ ribE (ribM us) (b + 1) (q / 2) s T = ribE (ribM us) (atN (zAj sd x) (ribM us)) (rowN (zAj sd x)) (sumN (zAj sd x)) K) ∧ 2 * (ribM us - (b + 1)) + (q / 2) % 2 ≤ 2 * (ribM us - a) + r % 2
      exact ⟨⟨⟨(zFE (K := T) hJ (zN8 h7) hq).2, by have := zN8 h7; omega⟩, (zFE (K := T) hJ (zN8 h7) hq).1.trans hS⟩, by have := zN8 h7; have := hJ.in_ hq; omega⟩
     ·
      show ribM us - (b + 1) < ribM us - b
      have := hJ.in_ hq; omega
     · exact zAJ ⟨rfl, rfl, rfl, rfl, rfl, rfl, rfl, rfl, trivial⟩ ⟨rfl, rfl, trivial⟩ ⟨rfl, trivial⟩ rfl
    ·
     replace h7 := of_decide_eq_false h7
     refine zAn ?_
     refine zAB ?_
     have hb0 := hJ.in_ hq
     have hodd := low_n h7
     have hTl := hT.len
     have hTk := zEY T
     obtain ⟨e, he⟩ : ∃ e, T[b]? = some e := ⟨_, List.getElem?_eq_getElem (by omega)⟩
     refine zAA rfl (.m rfl rfl (.r rfl (zAC rfl rfl underlying132 rfl sizeOf3 (by decide)) (.r rfl (zAD rfl rfl rfl isAgg3 rfl) (.r rfl (zA0 b rfl rfl rfl rfl underlying137 sizeOf132 rfl rfl (by omega)) (.a rfl rfl .nil))))) ?_
     refine zAB ?_
     refine zAB (zAA rfl (.m rfl rfl (.r rfl (zAe rfl rfl) (.r rfl (zA1 rfl rfl underlying132 rfl sizeOf58 (by decide)) (.r rfl (zA3 rfl rfl rfl (zGg he) isAgg58 rfl) (.r rfl (zA9 rfl rfl rfl) .nil))))) ?_)
     refine zAT (t := decide (((e.row : Nat) : Int) = 0)) rfl (fun h8 => ?_) (fun h8 => ?_)
     ·
      replace h8 := of_decide_eq_true h8
      refine zAB ?_
      refine zAQ (s' := mk [(1, .vi (sd:Int)), (4, .ptr 4 0), (6, .vi ((ribM us : Nat) : Int)), (7, .sl 1 0 ((pvK T).length)), (10, .ptr 10 0), (11, .ea 1 b 0), (33, .p none (.sl false 1 (pvT us))), (34, .vi ((pvT us).length : Int)), (35, .vi (i:Int))] [(4, [.vi 0, .vi 0, .vi 0, .vs ⟨#[]⟩]), (10, [.vi (b:Int), .p none (.v (.int .u64 (q:Int))), .p none (.v (.int .u8 (s:Int)))])] [(1, 3, pvK T)]) ?_ ?_
      · exact zAJ ⟨rfl, rfl, rfl, rfl, rfl, rfl, rfl, rfl, rfl, trivial⟩ ⟨rfl, rfl, trivial⟩ ⟨rfl, trivial⟩ rfl
      refine zAA rfl (.m rfl rfl (.r rfl (zAW rfl rfl rfl isAgg132 sizeOf132 (nle rfl)) (.r rfl (zAe rfl rfl) (.r rfl (zBC rfl rfl rfl (FlatP.nf (zNv _)) (zGg he) rfl rfl (.cons .v (.cons .v (.cons .v .nil))) sizeOf132 rfl (nle rfl)) .nil)))) ?_
      have hr9 : (pvK T).set b [PV.v (.int .i64 (b:Int)), PV.v (.int .u64 (q:Int)), PV.v (.int .u8 (s:Int))] = pvK (T.set b ⟨b, q, s⟩) := by exact pvK_set ⟨b, q, s⟩
      have hl10 : (pvK T).length = (pvK (T.set b ⟨b, q, s⟩)).length := by first | (rw [← hr9, List.length_set]; done) | simp [zEY]
      have hp11 : (.sl 1 0 ((pvK T).length) : AV) = .sl 1 0 ((pvK (T.set b ⟨b, q, s⟩)).length) := by first | exact congrArg (AV.sl 1 0) hl10 | simp only [hr9, hl10]
      refine zAQ (s' := mk [(1, .vi (sd:Int)), (4, .ptr 4 0), (6, .vi ((ribM us : Nat) : Int)), (7, .sl 1 0 ((pvK (T.set b ⟨b, q, s⟩)).length)), (10, .ptr 10 0), (33, .p none (.sl false 1 (pvT us))), (34, .vi ((pvT us).length : Int)), (35, .vi (i:Int))] [(4, [.vi 0, .vi 0, .vi 0, .vs ⟨#[]⟩]), (10, [.vi (b:Int), .p none (.v (.int .u64 (q:Int))), .p none (.v (.int .u8 (s:Int)))])] [(1, 3, pvK (T.set b ⟨b, q, s⟩))]) ?_ ?_
      · exact zAJ ⟨rfl, rfl, rfl, hp11, rfl, rfl, rfl, rfl, trivial⟩ ⟨rfl, rfl, trivial⟩ ⟨(congrArg (fun x => some (3, x)) hr9), trivial⟩ rfl
      refine zAn ?_
      refine zAB ?_
      rcases bfc (decide ((q:Int) = 0)) with h12 | h12
      ·
       have h12' := h12
       replace h12' := of_decide_eq_false h12'
       refine zAA rfl (.r rfl (zAC rfl rfl underlying132 rfl sizeOf58 (by decide)) (.r rfl (zAD rfl rfl rfl isAgg58 rfl) (.r rfl (zAI (zA9 rfl rfl rfl) (zAE h12)) (.m rfl rfl (.not rfl (.not rfl (.not rfl (.r rfl (zAb (t := false) rfl rfl) .nil)))))))) ?_
       refine zAT (t := false) rfl (fun h => nomatch h) (fun _ => ?_)
       refine zAM ?_
       refine zAA rfl (.r rfl (zAd rfl rfl rfl (by omega)) (.m rfl rfl .nil)) ?_
       refine nxt (Q := fun _ _ => False) (z := (i, K)) (i + 1, T.set b ⟨b, q, s⟩) ?_ ?_ ?_
       ·
        show ((i + 1) ≤ us.length ∧ KOk (ribM us) (T.set b ⟨b, q, s⟩)) ∧ zB6 us sd (ribM us) (i + 1) = some (T.set b ⟨b, q, s⟩)
        exact ⟨⟨by omega, (zFD hJ hT hodd he (by omega)).2.2⟩, (zCJ hA hx).trans (hS.symm.trans (zH8 hJ hT hodd he (by omega)).1)⟩
       ·
        show us.length - (i + 1) < us.length - i
        omega
       · exact zAJ ⟨rfl, rfl, rfl, rfl, rfl, rfl, (zAG (by omega)), trivial⟩ ⟨rfl, trivial⟩ ⟨rfl, trivial⟩ rfl
      ·
       have h12' := h12
       replace h12' := of_decide_eq_true h12'
       refine zAA rfl (.r rfl (zAC rfl rfl underlying132 rfl sizeOf58 (by decide)) (.r rfl (zAD rfl rfl rfl isAgg58 rfl) (.r rfl (zAI (zA9 rfl rfl rfl) (zAE h12)) (.m rfl rfl (.r rfl (zAC rfl rfl underlying132 rfl sizeOf5 (by decide)) (.r rfl (zAD rfl rfl rfl isAgg5 rfl) (.r rfl (zB8 rfl rfl rfl) (.r rfl (zAb (t := true) rfl rfl) .nil)))))))) ?_
       refine zAT (t := (!(decide ((s:Int) = 0)))) rfl (fun h13 => ?_) (fun h13 => ?_)
       ·
        replace h13 : ¬ ((s:Int) = 0) := of_decide_eq_false (zAp h13)
        refine zAB ?_
        have hN := zEv (zFc ((zCJ hA hx).trans (hR.symm.trans (by rw [show r = 0 by omega, zDe, if_neg (by omega)]))) (show i + 1 ≤ us.length by omega))
        rw [hN]
        refine zAA rfl (.r rfl (zAt (pl := [(0, 1), (1, 1), (2, 1), (3, 1)]) rfl underlying64 zCm (by kernel_rfl) rfl rfl) (.r rfl (zAN rfl rfl rfl rfl rfl sizeOf64 rfl (nle rfl)) (.a rfl rfl .nil))) ?_
        refine zAK ?_
        exact ends [_, _] [] (.cons (.cell rfl rfl isAgg64 sizeOf64 (nle rfl)) (.cons (.tmp rfl) .nil)) (.cons (.agg (.cons .v (.cons .v (.cons .v (.cons .v .nil)))) (zAL (.v _) (zAL (.v _) (zAL (.v _) (zAL (.v _) zBR))))) (.cons (.one .v (.v _)) .nil)) (by decide) trivial
       ·
        replace h13 : (s:Int) = 0 := of_decide_eq_true (zAq h13)
        refine zAM ?_
        refine zAA rfl (.r rfl (zAd rfl rfl rfl (by omega)) (.m rfl rfl .nil)) ?_
        refine nxt (Q := fun _ _ => False) (z := (i, K)) (i + 1, T.set b ⟨b, q, s⟩) ?_ ?_ ?_
        ·
         show ((i + 1) ≤ us.length ∧ KOk (ribM us) (T.set b ⟨b, q, s⟩)) ∧ zB6 us sd (ribM us) (i + 1) = some (T.set b ⟨b, q, s⟩)
         exact ⟨⟨by omega, (zFD hJ hT hodd he (by omega)).2.2⟩, (zCJ hA hx).trans (hS.symm.trans (zH8 hJ hT hodd he (by omega)).1)⟩
        ·
         show us.length - (i + 1) < us.length - i
         omega
        · exact zAJ ⟨rfl, rfl, rfl, rfl, rfl, rfl, (zAG (by omega)), trivial⟩ ⟨rfl, trivial⟩ ⟨rfl, trivial⟩ rfl
     ·
      replace h8 := of_decide_eq_false h8
      refine zAM ?_
      refine zAB ?_
      have hxx := zJ7 hJ hT hodd he (by omega)
      have hx1 := hxx.2.1.row
      have hx2 := hxx.2.1.sum
      refine zAQ (s' := mk [(1, .vi (sd:Int)), (4, .ptr 4 0), (6, .vi ((ribM us : Nat) : Int)), (7, .sl 1 0 ((pvK T).length)), (10, .ptr 10 0), (11, .ea 1 b 0), (33, .p none (.sl false 1 (pvT us))), (34, .vi ((pvT us).length : Int)), (35, .vi (i:Int))] [(4, [.vi 0, .vi 0, .vi 0, .vs ⟨#[]⟩]), (10, [.vi (b:Int), .p none (.v (.int .u64 (q:Int))), .p none (.v (.int .u8 (s:Int)))])] [(1, 3, pvK T)]) ?_ ?_
      · exact zAJ ⟨rfl, rfl, rfl, rfl, rfl, rfl, rfl, rfl, rfl, trivial⟩ ⟨rfl, rfl, trivial⟩ ⟨rfl, trivial⟩ rfl
      refine zAf zBo rfl (.r rfl (zAC rfl rfl underlying132 rfl sizeOf58 (by decide)) (.r rfl (zAD rfl rfl rfl isAgg58 rfl) (.m rfl rfl (.r rfl (zAe rfl rfl) (.r rfl (zA1 rfl rfl underlying132 rfl sizeOf58 (by decide)) (.r rfl (zA3 rfl rfl rfl (zGg he) isAgg58 rfl) (.r rfl (zAI (zBw (k := .u64) 18446744073709551616 rfl q e.row rfl rfl rfl rfl) ((zAG (show (((q ^^^ e.row) % 18446744073709551616 : Nat) : Int) = ((q ^^^ e.row : Nat) : Int) by omega)))) (.r rfl (zAC rfl rfl underlying132 rfl sizeOf58 (by decide)) (.r rfl (zAN rfl rfl rfl rfl rfl sizeOf58 rfl (nle rfl)) .nil))))))))) (by kernel_rfl) ?_
      refine zAQ (s' := mk [(1, .vi (sd:Int)), (4, .ptr 4 0), (6, .vi ((ribM us : Nat) : Int)), (7, .sl 1 0 ((pvK T).length)), (10, .ptr 10 0), (11, .ea 1 b 0), (33, .p none (.sl false 1 (pvT us))), (34, .vi ((pvT us).length : Int)), (35, .vi (i:Int))] [(4, [.vi 0, .vi 0, .vi 0, .vs ⟨#[]⟩]), (10, [.vi (b:Int), .p none (.v (.int .u64 ((q ^^^ e.row : Nat) : Int))), .p none (.v (.int .u8 (s:Int)))])] [(1, 3, pvK T)]) ?_ ?_
      · exact zAJ ⟨rfl, rfl, rfl, rfl, rfl, rfl, rfl, rfl, rfl, trivial⟩ ⟨rfl, rfl, trivial⟩ ⟨rfl, trivial⟩ rfl
      refine zAf zBo rfl (.r rfl (zAC rfl rfl underlying132 rfl sizeOf5 (by decide)) (.r rfl (zAD rfl rfl rfl isAgg5 rfl) (.m rfl rfl (.r rfl (zAe rfl rfl) (.r rfl (zA1 rfl rfl underlying132 rfl sizeOf5 (by decide)) (.r rfl (zA3 rfl rfl rfl (zGg he) isAgg5 rfl) (.r rfl (zAI (zBw (k := .u8) 256 rfl s e.sum rfl rfl rfl rfl) ((zAG (show (((s ^^^ e.sum) % 256 : Nat) : Int) = ((s ^^^ e.sum : Nat) : Int) by omega)))) (.r rfl (zAC rfl rfl underlying132 rfl sizeOf5 (by decide)) (.r rfl (zAN rfl rfl rfl rfl rfl sizeOf5 rfl (nle rfl)) .nil))))))))) (by kernel_rfl) ?_
      refine nxt (Q := fun _ _ => False) (z := (a, r, s, T)) (b, q ^^^ e.row, s ^^^ e.sum, T) ?_ ?_ ?_
      ·
       show (RI (ribM us) b (q ^^^ e.row) (s ^^^ e.sum) ∧ KOk (ribM us) T) ∧ ribE (ribM us) b (q ^^^ e.row) (s ^^^ e.sum) T = ribE (ribM us) (atN (zAj sd x) (ribM us)) (rowN (zAj sd x)) (sumN (zAj sd x)) K
       exact ⟨⟨hxx.2.1, hT⟩, hxx.1.trans hS⟩
      ·
       show 2 * (ribM us - b) + (q ^^^ e.row) % 2 < 2 * (ribM us - a) + r % 2
       have := hxx.2.2; omega
      · exact zAJ ⟨rfl, rfl, rfl, rfl, rfl, rfl, rfl, rfl, trivial⟩ ⟨rfl, rfl, trivial⟩ ⟨rfl, trivial⟩ rfl
   ·
    replace h6 : (r:Int) = 0 := of_decide_eq_true (zAq h6)
    refine zAn ?_
    refine zAB ?_
    rcases bfc (decide ((r:Int) = 0)) with h14 | h14
    ·
     have h14' := h14
     replace h14' := of_decide_eq_false h14'
     refine zAA rfl (.r rfl (zAC rfl rfl underlying132 rfl sizeOf58 (by decide)) (.r rfl (zAD rfl rfl rfl isAgg58 rfl) (.r rfl (zAI (zA9 rfl rfl rfl) (zAE h14)) (.m rfl rfl (.not rfl (.not rfl (.not rfl (.r rfl (zAb (t := false) rfl rfl) .nil)))))))) ?_
     refine zAT (t := false) rfl (fun h => nomatch h) (fun _ => ?_)
     refine zAM ?_
     refine zAA rfl (.r rfl (zAd rfl rfl rfl (by omega)) (.m rfl rfl .nil)) ?_
     refine nxt (Q := fun _ _ => False) (z := (i, K)) (i + 1, T) ?_ ?_ ?_
     ·
      show ((i + 1) ≤ us.length ∧ KOk (ribM us) T) ∧ zB6 us sd (ribM us) (i + 1) = some T
      exact ⟨⟨by omega, hT⟩, (zCJ hA hx).trans (hR.symm.trans (by rw [show r = 0 by omega, show s = 0 by omega, zDe, if_pos rfl]))⟩
     ·
      show us.length - (i + 1) < us.length - i
      omega
     · exact zAJ ⟨rfl, rfl, rfl, rfl, rfl, rfl, (zAG (by omega)), trivial⟩ ⟨rfl, trivial⟩ ⟨rfl, trivial⟩ rfl
    ·
     have h14' := h14
     replace h14' := of_decide_eq_true h14'
     refine zAA rfl (.r rfl (zAC rfl rfl underlying132 rfl sizeOf58 (by decide)) (.r rfl (zAD rfl rfl rfl isAgg58 rfl) (.r rfl (zAI (zA9 rfl rfl rfl) (zAE h14)) (.m rfl rfl (.r rfl (zAC rfl rfl underlying132 rfl sizeOf5 (by decide)) (.r rfl (zAD rfl rfl rfl isAgg5 rfl) (.r rfl (zB8 rfl rfl rfl) (.r rfl (zAb (t := true) rfl rfl) .nil)))))))) ?_
     refine zAT (t := (!(decide ((s:Int) = 0)))) rfl (fun h15 => ?_) (fun h15 => ?_)
     ·
      replace h15 : ¬ ((s:Int) = 0) := of_decide_eq_false (zAp h15)
      refine zAB ?_
      have hN := zEv (zFc ((zCJ hA hx).trans (hR.symm.trans (by rw [show r = 0 by omega, zDe, if_neg (by omega)]))) (show i + 1 ≤ us.length by omega))
      rw [hN]
      refine zAA rfl (.r rfl (zAt (pl := [(0, 1), (1, 1), (2, 1), (3, 1)]) rfl underlying64 zCm (by kernel_rfl) rfl rfl) (.r rfl (zAN rfl rfl rfl rfl rfl sizeOf64 rfl (nle rfl)) (.a rfl rfl .nil))) ?_
      refine zAK ?_
      exact ends [_, _] [] (.cons (.cell rfl rfl isAgg64 sizeOf64 (nle rfl)) (.cons (.tmp rfl) .nil)) (.cons (.agg (.cons .v (.cons .v (.cons .v (.cons .v .nil)))) (zAL (.v _) (zAL (.v _) (zAL (.v _) (zAL (.v _) zBR))))) (.cons (.one .v (.v _)) .nil)) (by decide) trivial
     ·
      replace h15 : (s:Int) = 0 := of_decide_eq_true (zAq h15)
      refine zAM ?_
      refine zAA rfl (.r rfl (zAd rfl rfl rfl (by omega)) (.m rfl rfl .nil)) ?_
      refine nxt (Q := fun _ _ => False) (z := (i, K)) (i + 1, T) ?_ ?_ ?_
      ·
       show ((i + 1) ≤ us.length ∧ KOk (ribM us) T) ∧ zB6 us sd (ribM us) (i + 1) = some T
       exact ⟨⟨by omega, hT⟩, (zCJ hA hx).trans (hR.symm.trans (by rw [show r = 0 by omega, show s = 0 by omega, zDe, if_pos rfl]))⟩
      ·
       show us.length - (i + 1) < us.length - i
       omega
      · exact zAJ ⟨rfl, rfl, rfl, rfl, rfl, rfl, (zAG (by omega)), trivial⟩ ⟨rfl, trivial⟩ ⟨rfl, trivial⟩ rfl
  ·
   replace h5 := of_decide_eq_false h5
   refine zAn ?_
   refine zAB ?_
   have hQ := zGU (show zB6 us sd (ribM us) us.length = some K by rw [show us.length = i by omega]; exact hA)
   rw [hQ]
   refine zAA rfl (.m rfl rfl (.run [9700] [] rfl (zD3 rfl 9700 (l := ribM us) (c := ribM us) rfl rfl underlying22 inf5 rfl rfl (by decide) rfl (by decide) (by omega) (by omega) (by simp only [maxLen]; omega)) (.a rfl rfl .nil))) ?_
   have hr16 : List.replicate (ribM us) [PV.v (.int .u8 0)] = pvNb (bitK K (ribM us) 0) := by exact zHq K _
   have hl17 : ribM us = (pvNb (bitK K (ribM us) 0)).length := by first | (rw [← hr16, List.length_set]; done) | simp [zBK, zDi]
   have hp18 : (.sl 9700 0 (ribM us) : AV) = .sl 9700 0 ((pvNb (bitK K (ribM us) 0)).length) := by first | exact congrArg (AV.sl 9700 0) hl17 | simp only [hr16, hl17]
   refine zAQ (s' := mk [(1, .vi (sd:Int)), (4, .ptr 4 0), (6, .vi ((ribM us : Nat) : Int)), (7, .sl 1 0 ((pvK K).length)), (12, .sl 9700 0 ((pvNb (bitK K (ribM us) 0)).length))] [(4, [.vi 0, .vi 0, .vi 0, .vs ⟨#[]⟩])] [(1, 3, pvK K), (9700, 1, pvNb (bitK K (ribM us) 0))]) ?_ ?_
   · exact zAJ ⟨rfl, rfl, rfl, rfl, hp18, trivial⟩ ⟨rfl, trivial⟩ ⟨rfl, (congrArg (fun x => some (1, x)) hr16), trivial⟩ rfl
   refine zAB ?_
   refine zAB (zAA rfl (.m rfl rfl (.r rfl (zBt rfl rfl rfl (by omega)) (.a rfl rfl .nil))) ?_)
   refine zAS ?_
   refine zAQ (zCc 9700 3 rfl rfl (by decide)) ?_
   refine zAo (σ := Nat) (fun j => mk [(1, .vi (sd:Int)), (4, .ptr 4 0), (7, .sl 1 0 ((pvK K).length)), (12, .sl 3 0 ((pvNb (bitK K (ribM us) j)).length)), (13, .vi (((ribM us : Nat) : Int) - 1 - (j : Int)))] [(4, [.vi 0, .vi 0, .vi 0, .vs ⟨#[]⟩])] [(1, 3, pvK K), (3, 1, pvNb (bitK K (ribM us) j))]) (fun j => j ≤ ribM us) (fun j => ribM us - j) 0 (by simp) (zAJ ⟨rfl, rfl, rfl, rfl, (zAG (by omega)), trivial⟩ ⟨rfl, trivial⟩ ⟨rfl, (congrArg (fun x => some (1, x)) (by rfl)), trivial⟩ rfl) ?_
   rintro j hG
   replace hG : j ≤ ribM us := hG
   have hbt := zIe hK j
   have hbl := zDi K (ribM us) j
   have hbv := zBK (bitK K (ribM us) j)
   refine zAB ?_
   refine zAB (zAA rfl (.m rfl rfl (.r rfl (zDF rfl rfl rfl) .nil)) ?_)
   refine zAT (t := decide (0 ≤ (((ribM us : Nat) : Int) - 1 - (j : Int)))) rfl (fun h19 => ?_) (fun h19 => ?_)
   ·
    replace h19 := of_decide_eq_true h19
    refine zAM ?_
    refine zAB ?_
    refine zAS ?_
    refine zAB ?_
    have hKl := hK.len
    have hKk := zEY K
    obtain ⟨e, he⟩ : ∃ e, K[ribM us - 1 - j]? = some e := ⟨_, List.getElem?_eq_getElem (by omega)⟩
    have hE := hK.all _ e he
    have hE1 := hE.1
    have hE3 := hE.2.2.1
    refine zAA rfl (.m rfl rfl (.r rfl (zAI (zBF rfl) ((zAG (by omega)))) (.r rfl (zA0 (ribM us - 1 - j) rfl rfl rfl rfl underlying137 sizeOf132 rfl rfl (by omega)) (.r rfl (zLM rfl rfl rfl (zGg he) isAgg132 sizeOf132 (nle rfl)) (.run [] [14] rfl (zA7 rfl 14 zHf rfl (by decide) rfl (by decide)) (.r rfl (zAN rfl rfl rfl rfl rfl sizeOf132 rfl (nle rfl)) .nil)))))) ?_
    refine zAB (zAA rfl (.r rfl (zAC rfl rfl underlying132 rfl sizeOf58 (by decide)) (.r rfl (zAD rfl rfl rfl isAgg58 rfl) (.r rfl (zB8 rfl rfl rfl) .nil))) ?_)
    refine zAT (t := (!(decide (((e.row : Nat) : Int) = 0)))) rfl (fun h20 => ?_) (fun h20 => ?_)
    ·
     replace h20 : ¬ (((e.row : Nat) : Int) = 0) := of_decide_eq_false (zAp h20)
     obtain ⟨b, hb⟩ : ∃ b, (bitK K (ribM us) j)[ribM us - 1 - j]? = some b := ⟨_, List.getElem?_eq_getElem (by omega)⟩
     refine zAQ (s' := mk [(1, .vi (sd:Int)), (4, .ptr 4 0), (7, .sl 1 0 ((pvK K).length)), (12, .sl 3 0 ((pvNb (bitK K (ribM us) j)).length)), (13, .vi (((ribM us : Nat) : Int) - 1 - (j : Int))), (14, .ptr 14 0)] [(4, [.vi 0, .vi 0, .vi 0, .vs ⟨#[]⟩]), (14, [.vi ((e.place : Nat) : Int), .p none (.v (.int .u64 ((e.row : Nat) : Int))), .p none (.v (.int .u8 ((e.sum : Nat) : Int)))])] [(1, 3, pvK K), (3, 1, pvNb (bitK K (ribM us) j))]) ?_ ?_
     · exact zAJ ⟨rfl, rfl, rfl, rfl, rfl, rfl, trivial⟩ ⟨rfl, rfl, trivial⟩ ⟨rfl, rfl, trivial⟩ rfl
     refine zAf zBo rfl (.m rfl rfl (.r rfl (zAI (zBF rfl) ((zAG (by omega)))) (.r rfl (zAC rfl rfl underlying132 rfl sizeOf5 (by decide)) (.r rfl (zAD rfl rfl rfl isAgg5 rfl) (.m rfl rfl (.r rfl (zAI (zBF rfl) ((zAG (by omega)))) (.r rfl (zAC rfl rfl underlying132 rfl sizeOf58 (by decide)) (.r rfl (zAD rfl rfl rfl isAgg58 rfl) (.r rfl (st_not1 e.row rfl rfl rfl (by omega)) (.run [3, 12000] [] rfl (zAF rfl 12000 (X := []) en128 rfl (.val nod) (.cons (.one (.bor (.all (len := (pvNb (bitK K (ribM us) j)).length) (xs := pvNb (bitK K (ribM us) j)) rfl rfl (by decide)))) (.cons (.one (.bor .v)) (.cons (.one (.bor .v)) .nil))) (by decide) all_nil .nil (zIr (bitK K (ribM us) j) (ribM us - 1 - j) (e.row / 2 * 2) (ribM us) hbt hbl (by omega) (Nat.lt_of_le_of_lt (by omega) hE.2.1) (by omega) (by omega)) rfl rfl (nle rfl)) (.r rfl (zBw (k := .u8) 256 rfl e.sum (solT (bitK K (ribM us) j) (ribM us - 1 - j) (e.row / 2 * 2) 16) rfl rfl rfl rfl) (.r rfl (zA0 (ribM us - 1 - j) rfl rfl rfl rfl underlying22 sizeOf5 rfl rfl (by omega)) (.r rfl (zBC rfl rfl rfl (FlatP.nf (zDV _)) (zCT hb) rfl rfl (.cons .v .nil) sizeOf5 rfl (nle rfl)) .nil))))))))))))) (by kernel_rfl) ?_
     have hr21 : (pvNb (bitK K (ribM us) j)).set (ribM us - 1 - j) [PV.v (.int .u8 (((e.sum ^^^ (solT (bitK K (ribM us) j) (ribM us - 1 - j) (e.row / 2 * 2) 16)) % 256 : Nat) : Int))] = pvNb (bitK K (ribM us) (j + 1)) := by rw [Nat.mod_eq_of_lt (Nat.lt_trans (Nat.xor_lt_two_pow (n := 7) hE3 (zEG hbt _ _ _)) (by decide)), zFH, zG2 he]
     have hl22 : (pvNb (bitK K (ribM us) j)).length = (pvNb (bitK K (ribM us) (j + 1))).length := by first | (rw [← hr21, List.length_set]; done) | simp [zBK]
     have hp23 : (.sl 3 0 ((pvNb (bitK K (ribM us) j)).length) : AV) = .sl 3 0 ((pvNb (bitK K (ribM us) (j + 1))).length) := by first | exact congrArg (AV.sl 3 0) hl22 | simp only [hr21, hl22]
     refine zAQ (s' := mk [(1, .vi (sd:Int)), (4, .ptr 4 0), (7, .sl 1 0 ((pvK K).length)), (12, .sl 3 0 ((pvNb (bitK K (ribM us) (j + 1))).length)), (13, .vi (((ribM us : Nat) : Int) - 1 - (j : Int)))] [(4, [.vi 0, .vi 0, .vi 0, .vs ⟨#[]⟩])] [(1, 3, pvK K), (3, 1, pvNb (bitK K (ribM us) (j + 1)))]) ?_ ?_
     · exact zAJ ⟨rfl, rfl, rfl, hp23, rfl, trivial⟩ ⟨rfl, trivial⟩ ⟨rfl, (congrArg (fun x => some (1, x)) hr21), trivial⟩ rfl
     refine zAA rfl (.m rfl rfl (.r rfl (zBt rfl rfl rfl (by omega)) (.a rfl rfl .nil))) ?_
     refine nxt (Q := fun _ _ => False) (z := j) (j + 1) ?_ ?_ ?_
     ·
      show (j + 1) ≤ ribM us
      omega
     ·
      show ribM us - (j + 1) < ribM us - j
      omega
     · exact zAJ ⟨rfl, rfl, rfl, rfl, (zAG (by omega)), trivial⟩ ⟨rfl, trivial⟩ ⟨rfl, rfl, trivial⟩ rfl
    ·
     replace h20 : ((e.row : Nat) : Int) = 0 := of_decide_eq_true (zAq h20)
     refine zAM ?_
     refine zAA rfl (.m rfl rfl (.r rfl (zBt rfl rfl rfl (by omega)) (.a rfl rfl .nil))) ?_
     refine nxt (Q := fun _ _ => False) (z := j) (j + 1) ?_ ?_ ?_
     ·
      show (j + 1) ≤ ribM us
      omega
     ·
      show ribM us - (j + 1) < ribM us - j
      omega
     · exact zAJ ⟨rfl, rfl, rfl, (congrArg (fun z => AV.sl 3 0 (pvNb z).length) (zJi hK (by omega) he (by omega)).symm), (zAG (by omega)), trivial⟩ ⟨rfl, trivial⟩ ⟨rfl, (congrArg (fun x => some (1, x)) (by rw [zJi hK (by omega) he (by omega)])), trivial⟩ rfl
   ·
    replace h19 := of_decide_eq_false h19
    refine zAn ?_
    refine zAB (zAA rfl (.m rfl rfl (.m rfl rfl (.r rfl (zCj (ints (bitK K (ribM us) (ribM us))) rfl rfl (.give (len := (pvNb (bitK K (ribM us) j)).length) (xs := pvNb (bitK K (ribM us) j)) rfl rfl) rfl (by rw [show j = ribM us by omega]; exact zC0 _) underlying22 underlying9 underlying5) (.r rfl (zAt (pl := [(0, 1), (1, 1), (2, 1), (3, 1)]) rfl underlying64 zCm (by kernel_rfl) rfl rfl) (.r rfl (zAN rfl rfl rfl rfl rfl sizeOf64 rfl (nle rfl)) (.a rfl rfl .nil)))))) ?_)
    refine zAK ?_
    exact ends [_, _] [] (.cons (.cell rfl rfl isAgg64 sizeOf64 (nle rfl)) (.cons (.tmp rfl) .nil)) (.cons (.agg (.cons .v (.cons .v (.cons .v (.cons .v .nil)))) (zAL (.v _) (zAL (.v _) (zAL (.v _) (zAL (.v _) zBR))))) (.cons (.one .v (.v _)) .nil)) (by decide) trivial
end Go.Rl
namespace Go.Rl
open Go.RowKit
section
variable {w0 : World} {I : Fr} {n : Nat} {L : Pl} {s : St} {a : Act} {w : World}
theorem Rel.freshZ (h : Rel w0 I n L s a w) (id : Nat) {cur : Array Value} (e : TypeId) {fz : Nat × Nat} {c : Nat} {xs : List (List PV)} (hlen : ∀ es ∈ xs, es.length = 1) (hsz : cur.size = c * 1) (hc : xs.length ≤ c) (hc0 : 0 < c) (hm : c ≤ maxLen)
  (hp : ∀ (j : Nat) p, xs.flatten[j]? = some p → ∃ u, cur[j]? = some u ∧ PVO L.Z w p u []) (hfz : FzOk fz cur.size 1) (hid1 : id < pinT) (hid : s.r id = none ∨ id ∈ ([] : List Nat)) :
  ∃ N, Rel w0 I n (L.row id (.slice (some ⟨w.heap.size, 0, none⟩) xs.length c) N) { t := fun i => (s.t i).kill [], b := fun j => (s.b j).map (AV.kills []), r := upd (s.kill []).r id (some (1, xs)) } a (w.alloc (.cells cur e fz)) := by
 refine ⟨w.heap.size :: (List.range xs.flatten.length).flatMap (fun _ => []), ?_⟩
 refine h.setrow [] (J := []) ((Same.refl [] w).push _) (by simp) (zID hlen (heap_alloc_new w _) hsz hc hc0 hm (fun _ => []) (fun j p hj => ?_) hfz) (fun k hk => ?_) (by rw [zBX]; simp) hid1 hid
 ·
  obtain ⟨u, hu, hr⟩ := hp j p hj
  exact ⟨u, hu, zOr hr (fun k hk => (h.zlt k hk).1) _⟩
 ·
  rw [zBX, List.mem_singleton] at hk
  exact .inr (Nat.le_of_eq hk.symm)
end
def zAw (b : ByteArray) : List Nat := b.data.toList.map UInt8.toNat
theorem zC5 (b : ByteArray) : (zAw b).length = b.size := by simp [zAw]
theorem zGx {b : ByteArray} : ∀ x ∈ zAw b, x < 256 := fun x hx => by
 obtain ⟨y, _, rfl⟩ := List.mem_map.1 hx
 exact y.toNat_lt
theorem zJX {b : ByteArray} {c j : Nat} {x : Nat} (h : (zAw b)[j]? = some x) : (bytesRow b c)[j]? = some (.int .u8 ((x : Nat) : Int)) := by
 have hlt : j < b.data.size := by
  have := (List.getElem?_eq_some_iff.1 h).1
  simpa [zAw] using this
 rw [zAw, List.getElem?_map] at h
 rw [bytesRow, Array.getElem?_append_left (by simpa using hlt), Array.getElem?_map]
 have e : b.data.toList[j]? = b.data[j]? := by simp
 rw [e, Array.getElem?_eq_getElem hlt] at h
 rw [Array.getElem?_eq_getElem hlt]
 simp only [Option.map_some, Option.some.injEq] at h ⊢
 rw [h]
section
variable {γ : Gho} {P : Program} {n : Nat} {o : Oper} {M B : List Nat} {s : St}
theorem zF5 {t u e : TypeId} {x : Operand} (ho : o.op = .convert t u x) (id : Nat) {d : Option Nat} (b : ByteArray) (hx : s.ev x = .p d (.v (.string b))) (ht : P.underlying t = some .string) (hu : P.underlying u = some (.slice e)) (he : P.underlying e = some (.int .u8))
  (hid1 : id < pinT) (hid : s.r id = none) (hM : id ∈ M) (hpos : 0 < b.size) (hm : b.size ≤ maxLen) :
  StepD γ P n o M B s { put := .sl id 0 (pvNb (zAw b)).length, setR := [(id, 1, pvNb (zAw b))] } := by
 intro s' ag hd w0 I L a w hG hr K Q hK
 have e1 := hr.evv ((ag.ev1 ho (by simp [Op.operands])).trans hx)
 have hid' : s'.r id = none := (ag.m id hM).trans hid
 have hrun := run_bytes_of_string (P := P) w t u e b ht hu he
 have hge := grownCap_ge w b.size 0 e
 have hcm := grownCap_le_maxLen w b.size 0 e hm
 have hdr : Rel w0 I n L s' a w.drew := hr.drawn _
 have hnl : (pvNb (zAw b)).length = b.size := by rw [zBK, zC5]
 have hsize : (bytesRow b (grownCap w b.size 0 e)).size = grownCap w b.size 0 e * 1 := by
  have hs : b.data.size = b.size := rfl
  simp only [bytesRow, Array.size_append, Array.size_map, Array.size_replicate]
  omega
 obtain ⟨N, hfr⟩ := hdr.freshZ id (cur := bytesRow b (grownCap w b.size 0 e)) e (fz := ((bytesRow b (grownCap w b.size 0 e)).size, (bytesRow b (grownCap w b.size 0 e)).size + 1)) (c := grownCap w b.size 0 e) (xs := pvNb (zAw b)) (fun es hes => by
  obtain ⟨x, _, rfl⟩ := List.mem_map.1 hes; rfl) hsize (by omega) (by omega) hcm (fun j p hj => by
  have hfl : (pvNb (zAw b)).flatten = (zAw b).map fun x => PV.v (.int .u8 ((x : Nat) : Int)) := by
   rw [pvNb, ← List.flatMap_def, ← List.map_eq_flatMap]
  rw [hfl, List.getElem?_map] at hj
  cases hq : (zAw b)[j]? with
  | none => rw [hq] at hj; cases hj
  | some x =>
   rw [hq] at hj
   cases hj
   exact ⟨_, zJX hq, .v _ rfl⟩) (.inr ⟨Nat.le_refl _, rfl⟩) hid1 (.inl hid')
 have hex : (execOp a.eval o).run P w = .ok (.value (.slice (some ⟨w.drew.heap.size, 0, none⟩) (pvNb (zAw b)).length (grownCap w b.size 0 e))) (w.drew.alloc (.cells (bytesRow b (grownCap w b.size 0 e)) e ((bytesRow b (grownCap w b.size 0 e)).size, (bytesRow b (grownCap w b.size 0 e)).size + 1))) := by
  rw [hnl]
  simp [execOp, ho, e1, hrun]
 unfold Oper.wp
 rw [hex, Oper.upon_value]
 have hfin := hfr.put hd (av := .sl id 0 (pvNb (zAw b)).length) (v := .slice (some ⟨w.drew.heap.size, 0, none⟩) (pvNb (zAw b)).length (grownCap w b.size 0 e)) (zFm (sz := 1) (xs := pvNb (zAw b)) (by simp) (by simp [Pl.row]) (hfr.rw id 1 _ (by simp)).1 rfl)
 exact hK _ _ _ (by rw [Dl.app, zDX]; exact hfin)
theorem zBb (u : Value) {t : TypeId} {x : Operand} (ho : o.op = .load t x) {id i off sz : Nat} {xs : List (List PV)} {es : List PV} (hx : s.ev x = .ea id i off) (hr : s.r id = some (sz, xs)) (hi : xs[i]? = some es) (hag : ∀ w, (isAgg t).run P w = .ok false w) (hp : es[off]? = some (.v u)) :
  StepD γ P n o M B s { put := .p none (.v u) } := zA3 ho hx hr hi hag hp
theorem zAh {c x y : Operand} (ho : o.op = .pick c x y) {d : Option Nat} (hc : s.ev c = .p d (.v (.bool true))) : StepD γ P n o M B s { put := s.ev x } := zAb ho hc
theorem zAg {c x y : Operand} (ho : o.op = .pick c x y) {d : Option Nat} (hc : s.ev c = .p d (.v (.bool false))) : StepD γ P n o M B s { put := s.ev y } := zAb ho hc
end
theorem zLj {a b : ByteArray} : a.toList = b.toList ↔ a = b := ⟨toList_inj, fun e => by rw [e]⟩
end Go.Rl
namespace Go.Rl
def zDG (s : ByteArray) (m i : Nat) : Prop := ∀ j b, j < i → s.data.toList[j]? = some b → UInt8.toNat b ≤ m
def allB (s : ByteArray) (m : Nat) : Bool := s.data.toList.all fun b => decide (b.toNat ≤ m)
theorem zEU (s : ByteArray) (m : Nat) : zDG s m 0 := fun _ _ h => absurd h (Nat.not_lt_zero _)
theorem zEV {s : ByteArray} {m i : Nat} {b : UInt8} (h : zDG s m i) (hb : s[i]? = some b) (h1 : b.toNat ≤ m) : zDG s m (i + 1) := fun j x hj hx => by
 by_cases q : j = i
 ·
  subst q
  rw [zEQ hb] at hx
  cases hx
  exact h1
 · exact h j x (by omega) hx
theorem zIg {s : ByteArray} {m i : Nat} (h : zDG s m i) (hi : s.size ≤ i) : allB s m = true := by
 rw [allB, List.all_eq_true]
 intro b hb
 obtain ⟨j, hj⟩ := List.getElem?_of_mem hb
 have := (List.getElem?_eq_some_iff.1 hj).1
 rw [zFz] at this
 exact decide_eq_true (h j b (by omega) hj)
theorem zLG {s : ByteArray} {m i : Nat} {b : UInt8} (hb : s[i]? = some b) (h : m < b.toNat) : allB s m = false := by
 cases q : allB s m with
 | false => rfl
 | true =>
  rw [allB, List.all_eq_true] at q
  have := of_decide_eq_true (q b (List.mem_of_getElem? (zEQ hb)))
  omega
def zAY (f : Flt) : Bool :=
 if f.kind = 0 then decide (f = (⟨0, 0, 0, ⟨#[]⟩⟩ : Flt))
 else if f.kind = 1 then decide (f.seed = 0) && (zAi f.probes 1 30 && zAi f.bits.size 1 1000)
 else if f.kind = 2 then decide (f.probes = 0) && (zAi f.seed 0 3 && (zAi f.bits.size 20 600 && allB f.bits 127))
 else false
theorem zOJ {f : Flt} (h : f.kind = 0) : decide (f = (⟨0, 0, 0, ⟨#[]⟩⟩ : Flt)) = zAY f := by rw [zAY, if_pos h]
theorem zIS {f : Flt} (h : f.kind = 1) : zAY f = (decide (f.seed = 0) && (zAi f.probes 1 30 && zAi f.bits.size 1 1000)) := by rw [zAY, if_neg (by omega), if_pos h]
theorem zFh {f : Flt} (h : f.kind = 2) : zAY f = (decide (f.probes = 0) && (zAi f.seed 0 3 && (zAi f.bits.size 20 600 && allB f.bits 127))) := by rw [zAY, if_neg (by omega), if_neg (by omega), if_pos h]
theorem fok_x {f : Flt} (h0 : ¬ f.kind = 0) (h1 : ¬ f.kind = 1) (h2 : ¬ f.kind = 2) : false = zAY f := by rw [zAY, if_neg h0, if_neg h1, if_neg h2]
theorem zDK {f : Flt} (h : zAY f = true) : 0 ≤ f.kind ∧ f.kind ≤ 2 ∧ 0 ≤ f.seed ∧ f.seed ≤ 3 ∧ 0 ≤ f.probes ∧ f.probes ≤ 30 ∧ f.bits.size ≤ 1000 := by
 rcases Classical.em (f.kind = 0) with q | q
 ·
  rw [← zOJ q, decide_eq_true_eq] at h
  subst h
  decide
 rcases Classical.em (f.kind = 1) with q1 | q1
 ·
  rw [zIS q1] at h
  simp only [zAi, Bool.and_eq_true, decide_eq_true_eq] at h
  omega
 rcases Classical.em (f.kind = 2) with q2 | q2
 ·
  rw [zFh q2] at h
  simp only [zAi, Bool.and_eq_true, decide_eq_true_eq] at h
  omega
 · rw [← fok_x q q1 q2] at h; cases h
def zBf (f : Flt) : ByteArray := if zAY f then putV f.kind.toNat ++ putV f.seed.toNat ++ putV f.probes.toNat ++ putX f.bits else ⟨#[]⟩
theorem zFi {f : Flt} (h : zAY f = false) : (⟨#[]⟩ : ByteArray) = zBf f := by rw [zBf, h]; rfl
theorem zD8 {f : Flt} (h : zAY f = true) : putV f.kind.toNat ++ putV f.seed.toNat ++ putV f.probes.toNat ++ putX f.bits = zBf f := by rw [zBf, h]; rfl
theorem zEN (f : Flt) : (zBf f).size ≤ 1040 := by
 cases h : zAY f with
 | false => rw [← zFi h]; decide
 | true =>
  have hn := zDK h
  rw [← zD8 h]
  have h1 := zA4 (n := f.kind.toNat) (by omega)
  have h2 := zA4 (n := f.seed.toNat) (by omega)
  have h3 := zA4 (n := f.probes.toNat) (by omega)
  have h4 := zBS (s := f.bits) (by omega)
  simp only [zAZ]
  omega
theorem zGZ {us : List ByteArray} {n : Nat} (h : zCV us n = none) (h1 : (zBO us n).isSome = false) : zCV us (n + 1) = none := by
 rw [zCV, h]
 cases q : zBO us n with
 | none => rfl
 | some f => rw [q] at h1; cases h1
theorem zGa {us : List ByteArray} {n : Nat} {f : Flt} (h : zCV us n = some f) : ∀ k, zCV us (n + k) = some f
 | 0 => h
 | k + 1 => by rw [← Nat.add_assoc, zCV, zGa h k]
theorem zHQ {us : List ByteArray} {n : Nat} (h : zCV us n = none) (h1 : (zBO us n).isSome = true) (hn : n < 4) : (zBO us n).getD .zero = zAr us 2 := by
 have h2 : zCV us (n + 1) = zBO us n := by rw [zCV, h]
 cases q : zBO us n with
 | none => rw [q] at h1; cases h1
 | some f =>
  have := zGa (h2.trans q) (3 - n)
  rw [show n + 1 + (3 - n) = 4 by omega] at this
  rw [zAr, if_neg (by decide), if_pos rfl, this]
  rfl
theorem zDL {us : List ByteArray} {kd : Int} (h0 : ¬ kd = 0) (h : kd = 2 → zCV us 4 = none) : zCf us = zAr us kd := by
 rw [zAr, if_neg h0]
 split
 · next q => rw [h q]; rfl
 · rfl
def zCI (h : ByteArray) : Bool := decide (h.size = 64) && allB h 58
theorem zE3 {h : ByteArray} (q : zCI h = true) : h.size = 64 := by simp only [zCI, Bool.and_eq_true, decide_eq_true_eq] at q; exact q.1
def hllS (r : List Nat) (u : ByteArray) : List Nat := r.set (zC1 u) (max (r.getD (zC1 u) 0) (zBV u))
def hllA (h : ByteArray) (u : ByteArray) : ByteArray := zB0 (ints (hllS (zAw h) u))
def hll0 : ByteArray := zB0 (ints (List.replicate 64 0))
def hllN (us : List ByteArray) : Nat → ByteArray
 | 0 => hll0
 | i + 1 => match us[i]? with
  | some u => hllA (hllN us i) u
  | none => hllN us i
def hllF (us : List ByteArray) : ByteArray := hllN us us.length
theorem zJJ {us : List ByteArray} {i : Nat} {u : ByteArray} (h : us[i]? = some u) : hllN us (i + 1) = hllA (hllN us i) u := by rw [hllN, h]
theorem zGr (u : ByteArray) : 1 ≤ zBV u ∧ zBV u ≤ 58 := by
 have := zLo (zAj 7 u / 64) 57
 rw [zBV]; omega
theorem zKy (u : ByteArray) : zC1 u < 64 := Nat.mod_lt _ (by decide)
theorem zGL : ∀ (l : List Nat) (a : ByteArray), ((ints l).foldl (fun r n => r.push (UInt8.ofNat n.toNat)) a).data.toList = a.data.toList ++ l.map UInt8.ofNat
 | [], a => by simp [ints]
 | x :: l, a => by
  have := zGL l (a.push (UInt8.ofNat (x : Int).toNat))
  rw [show (ints (x :: l)) = (x : Int) :: ints l from rfl, List.foldl_cons, this]
  simp [ByteArray.push]
theorem zHH (l : List Nat) : (zB0 (ints l)).data.toList = l.map UInt8.ofNat := by rw [zB0, zGL]; simp
theorem zDO (l : List Nat) : (zB0 (ints l)).size = l.length := by rw [← zFz, zHH, List.length_map]
theorem zFw {l : List Nat} (h : ∀ x ∈ l, x < 256) : zAw (zB0 (ints l)) = l := by
 rw [zAw, zHH, List.map_map]
 conv => rhs; rw [← List.map_id l]
 refine List.map_congr_left fun x hx => ?_
 have := h x hx
 simp only [Function.comp_apply, id, UInt8.toNat_ofNat']
 omega
theorem zEj {s : ByteArray} {m : Nat} : allB s m = true ↔ ∀ x ∈ zAw s, x ≤ m := by
 rw [allB, List.all_eq_true, zAw]
 simp
theorem hllA_ok {h u : ByteArray} (q : zCI h = true) : zCI (hllA h u) = true := by
 have hl := zE3 q
 have ha : ∀ x ∈ zAw h, x ≤ 58 := by simp only [zCI, Bool.and_eq_true] at q; exact zEj.1 q.2
 have hs : ∀ x ∈ hllS (zAw h) u, x ≤ 58 := fun x hx => by
  rcases List.mem_or_eq_of_mem_set hx with p | p
  · exact ha x p
  ·
   have h1 : (zAw h).getD (zC1 u) 0 ≤ 58 := by
    rw [List.getD_eq_getElem?_getD]
    cases e : (zAw h)[zC1 u]? with
    | none => exact Nat.zero_le _
    | some y => exact ha y (List.mem_of_getElem? e)
   have := zGr u
   rw [p]; omega
 rw [zCI, Bool.and_eq_true, decide_eq_true_eq]
 refine ⟨?_, ?_⟩
 · rw [hllA, zDO, hllS, List.length_set, zC5, hl]
 ·
  rw [zEj, hllA, zFw (fun x hx => Nat.lt_of_le_of_lt (hs x hx) (by decide))]
  exact hs
theorem hll0_ok : zCI hll0 = true := by decide +kernel
theorem zEM (us : List ByteArray) : ∀ i, zCI (hllN us i) = true
 | 0 => hll0_ok
 | i + 1 => by
  rw [hllN]
  split
  · exact hllA_ok (zEM us i)
  · exact zEM us i
theorem zJS : ∀ (f k x : Nat), k < f → (Lib.ctzFrom f x < k → zB7 x k = Lib.ctzFrom f x) ∧ (k ≤ Lib.ctzFrom f x → zB7 x k = k)
 | 0, k, _, h => absurd h (Nat.not_lt_zero _)
 | f + 1, 0, x, _ => ⟨fun h => absurd h (Nat.not_lt_zero _), fun _ => rfl⟩
 | f + 1, k + 1, x, h => by
  have ih := zJS f k (x / 2) (by omega)
  rw [Lib.ctzFrom, zB7]
  by_cases q : x % 2 = 1
  ·
   rw [if_pos q, if_neg (by omega)]
   exact ⟨fun _ => rfl, fun h => by omega⟩
  ·
   rw [if_neg q, if_pos (by omega)]
   refine ⟨fun h => ?_, fun h => ?_⟩
   · rw [ih.1 (by omega)]; omega
   · rw [ih.2 (by omega)]
theorem zHE : ∀ k, zB7 0 k = k
 | 0 => rfl
 | k + 1 => by rw [zB7, if_pos (by decide), zHE k]
theorem zNq (x : Nat) : min (1 + Lib.ctz 64 x) 58 = zB7 x 57 + 1 := by
 rw [Lib.ctz]
 split
 · next h => subst h; rw [zHE]; decide
 ·
  have h := zJS 64 57 x (by decide)
  rcases Nat.lt_or_ge (Lib.ctzFrom 64 x) 57 with q | q
  · rw [h.1 q]; omega
  · rw [h.2 q]; omega
theorem ctz_le (x : Nat) (h : x < 2 ^ 64) : Lib.ctz 64 x ≤ 64 := by
 rw [Lib.ctz]
 split
 · exact Nat.le_refl _
 ·
  next h0 =>
  obtain ⟨_, _, h2⟩ := Lib.ctzFrom_spec 64 x (by omega) h
  omega
theorem zLJ {x k : Nat} (h : x % 2 = 0) : zB7 x (k + 1) = zB7 (x / 2) k + 1 := by rw [zB7, if_pos h]
theorem zLn {x k : Nat} (h : ¬ x % 2 = 0) : zB7 x k = 0 := by
 cases k with
 | zero => rfl
 | succ k => rw [zB7, if_neg h]
end Go.Rl
namespace Go.Rl
structure TabS where
 out : ByteArray
 index : ByteArray
 start : Nat
def curT (l : List Ent) (f i : Nat) : List Ent := (l.drop f).take (i - f)
def tabS (l : List Ent) (ev sz i : Nat) (e : Ent) (t : TabS) : TabS :=
 if (blkF (curT l t.start (i + 1)) ev).size < sz ∧ i + 1 < l.length then t
 else ⟨t.out ++ secF (blkF (curT l t.start (i + 1)) ev), t.index ++ (putV t.out.size ++ putX (keyT e)), i + 1⟩
def tabN (l : List Ent) (ev sz : Nat) : Nat → TabS
 | 0 => ⟨⟨#[]⟩, ⟨#[]⟩, 0⟩
 | i + 1 => match l[i]? with
  | some e => tabS l ev sz i e (tabN l ev sz i)
  | none => tabN l ev sz i
section
variable {l : List Ent} {ev sz i : Nat} {e : Ent}
theorem zES (he : l[i]? = some e) (h1 : (blkF (curT l (tabN l ev sz i).start (i + 1)) ev).size < sz) (h2 : i + 1 < l.length) : tabN l ev sz (i + 1) = tabN l ev sz i := by
 simp only [tabN, he]
 rw [tabS, if_pos ⟨h1, h2⟩]
theorem zCu (he : l[i]? = some e) (h : ¬ ((blkF (curT l (tabN l ev sz i).start (i + 1)) ev).size < sz ∧ i + 1 < l.length)) :
  tabN l ev sz (i + 1) = ⟨(tabN l ev sz i).out ++ secF (blkF (curT l (tabN l ev sz i).start (i + 1)) ev), (tabN l ev sz i).index ++ (putV (tabN l ev sz i).out.size ++ putX (keyT e)), i + 1⟩ := by
 simp only [tabN, he]
 rw [tabS, if_neg h]
theorem zOR (he : l[i]? = some e) {f : Nat} (hf : f ≤ i) : curT l f i ++ [e] = curT l f (i + 1) := by
 have h : (l.drop f)[i - f]? = some e := by rw [List.getElem?_drop, show f + (i - f) = i by omega]; exact he
 rw [curT, curT, show i + 1 - f = (i - f) + 1 by omega, List.take_add_one, h]
 rfl
theorem zEg (l : List Ent) (i : Nat) : curT l i i = [] := by rw [curT, Nat.sub_self, List.take_zero]
theorem zE5 {f : Nat} (h1 : f ≤ i) (h2 : i ≤ l.length) : (curT l f i).length = i - f := by
 rw [curT, List.length_take, List.length_drop]; omega
theorem cur_mem {f : Nat} {x : Ent} (h : x ∈ curT l f i) : x ∈ l := List.mem_of_mem_drop (List.mem_of_mem_take h)
theorem zM8 {f j : Nat} {x : Ent} (h : (curT l f i)[j]? = some x) : l[f + j]? = some x := by
 rw [curT, List.getElem?_take] at h
 split at h
 · rw [List.getElem?_drop] at h; exact h
 · cases h
theorem zO1 (h : zBJ l = true) (f i : Nat) : zBJ (curT l f i) = true := by
 have hm := zBm h
 have hs := (Bool.and_eq_true _ _).mp h
 rw [zBJ, Bool.and_eq_true, decide_eq_true_eq]
 refine ⟨?_, zJl (Nat.le_refl _) fun j x _ hx => ?_⟩
 ·
  have : (curT l f i).length ≤ l.length := by rw [curT, List.length_take, List.length_drop]; omega
  omega
 ·
  have hl := zJm hs.2 (zM8 hx)
  simp only [zDW, Bool.and_eq_true, Bool.or_eq_true, decide_eq_true_eq] at hl ⊢
  refine ⟨hl.1, ?_⟩
  by_cases h0 : j = 0
  · exact .inl h0
  ·
   refine .inr ?_
   cases hy : (curT l f i)[j - 1]? with
   | none => rfl
   | some y =>
    have hy' := zM8 hy
    rcases hl.2 with q | q
    · omega
    ·
     rw [show f + j - 1 = f + (j - 1) by omega, hy'] at q
     exact q
theorem zNK {L : List Ent} {k : Nat} (hl : ∀ e ∈ L, zBp e = true) (hk : k < L.length) : (blkN L ev (k + 1)).out.size ≤ (blkN L ev k).out.size + 290 ∧ (blkN L ev (k + 1)).anew.size ≤ (blkN L ev k).anew.size + 4 := by
 obtain ⟨e, he⟩ : ∃ e, L[k]? = some e := ⟨_, List.getElem?_eq_getElem (by omega)⟩
 have hb := zG0 hl (ev := ev) k (by omega)
 have hn := zDg (hl e (List.mem_of_getElem? he))
 have h3 := hb.ahead
 have h4 := zA4 (n := 0) (by decide)
 have h5 := zDl (blkN L ev k).ahead (keyT e)
 have h6 := zA4 (n := zBN (blkN L ev k).ahead (keyT e)) (by omega)
 have h7 := zC6 (keyT e) (zBN (blkN L ev k).ahead (keyT e))
 have h8 := zBS (s := keyT e) (by omega)
 have h9 := zBS (s := (keyT e).extract (zBN (blkN L ev k).ahead (keyT e)) (keyT e).size) (by omega)
 have h10 := zBS (s := e.value) (by omega)
 rw [zCC he, blkS]
 split
 · exact ⟨by simp only [zAZ]; omega, by simp only [zAZ, zAU]; omega⟩
 · exact ⟨by simp only [zAZ]; omega, Nat.le_add_right _ _⟩
theorem zJh {L : List Ent} {k : Nat} (hk : k ≤ L.length) : (blkF (L.take k) ev).size = (blkN L ev k).out.size + (blkN L ev k).anew.size + 8 := by
 have hl : (L.take k).length = k := by rw [List.length_take]; omega
 simp only [blkF, zAZ, zAU, hl, zJg (Nat.le_refl k)]
theorem zOY (hl : ∀ e ∈ l, zBp e = true) {f : Nat} (h1 : f ≤ i) (h2 : i < l.length) : (blkF (curT l f (i + 1)) ev).size ≤ (blkF (curT l f i) ev).size + 294 := by
 have hd : ∀ e ∈ l.drop f, zBp e = true := fun e he => hl e (List.mem_of_mem_drop he)
 have hk : i - f < (l.drop f).length := by rw [List.length_drop]; omega
 have := zNK (ev := ev) hd hk
 rw [curT, curT, zJh (by omega), show i + 1 - f = (i - f) + 1 by omega, zJh (by omega)]
 omega
theorem zHw (hl : ∀ e ∈ l, zBp e = true) : ∀ i, i ≤ l.length → (tabN l ev sz i).start ≤ i ∧ (i < l.length → (blkF (curT l (tabN l ev sz i).start i) ev).size ≤ sz + 8)
 | 0, _ => ⟨Nat.le_refl _, fun _ => by
  have : (curT l (tabN l ev sz 0).start 0) = [] := zEg l 0
  rw [this]
  have h : (blkF [] ev).size = 8 := by simp only [blkF, zAZ, zAU]; rfl
  omega⟩
 | i + 1, h => by
  have ih := zHw hl i (by omega)
  obtain ⟨e, he⟩ : ∃ e, l[i]? = some e := ⟨_, List.getElem?_eq_getElem (by omega)⟩
  by_cases q : (blkF (curT l (tabN l ev sz i).start (i + 1)) ev).size < sz ∧ i + 1 < l.length
  ·
   rw [zES he q.1 q.2]
   exact ⟨by omega, fun _ => by omega⟩
  ·
   rw [zCu he q]
   refine ⟨Nat.le_refl _, fun _ => ?_⟩
   rw [zEg]
   have h : (blkF [] ev).size = 8 := by simp only [blkF, zAZ, zAU]; rfl
   omega
theorem zJv (hl : ∀ e ∈ l, zBp e = true) (hi : i < l.length) : (tabN l ev sz i).start ≤ i ∧ (blkF (curT l (tabN l ev sz i).start (i + 1)) ev).size ≤ sz + 302 := by
 have h := zHw hl (ev := ev) (sz := sz) i (by omega)
 have := zOY (ev := ev) hl h.1 hi
 have := h.2 hi
 exact ⟨h.1, by omega⟩
theorem zD1 (hl : ∀ e ∈ l, zBp e = true) (hn : l.length ≤ 400) (hs : sz ≤ 4000) : ∀ i, i ≤ l.length → (tabN l ev sz i).out.size ≤ 5000 * i ∧ (tabN l ev sz i).index.size ≤ 68 * i
 | 0, _ => ⟨Nat.le_refl _, Nat.le_refl _⟩
 | i + 1, h => by
  have ih := zD1 hl hn hs i (by omega)
  obtain ⟨e, he⟩ : ∃ e, l[i]? = some e := ⟨_, List.getElem?_eq_getElem (by omega)⟩
  have hn := zDg (hl e (List.mem_of_getElem? he))
  have hb := zJv (ev := ev) (sz := sz) hl (show i < l.length by omega)
  have h1 := zBS (s := blkF (curT l (tabN l ev sz i).start (i + 1)) ev) (by omega)
  have h2 := zBS (s := keyT e) (by omega)
  have h3 := zA4 (n := (tabN l ev sz i).out.size) (by omega)
  by_cases q : (blkF (curT l (tabN l ev sz i).start (i + 1)) ev).size < sz ∧ i + 1 < l.length
  · rw [zES he q.1 q.2]; omega
  ·
   rw [zCu he q]
   simp only [secF, zAZ, zAU]
   omega
end
theorem zIh {l : List Ent} (h : zBJ l = true) : ∀ u ∈ zAm l, zBa u = true := fun u hu => by
 obtain ⟨e, he, rfl⟩ := zNX.1 hu
 have := zCa h he
 simp only [zBp, zBl, Bool.and_eq_true] at this
 exact this.1.1.1.1
theorem zFU {l : List Ent} (h : zBJ l = true) : (zAm l).length ≤ 400 := by
 have h1 := zEO (l.map (·.user)) (l.map (·.user)).length
 have h2 := zBm h
 rw [zAm, zCM]
 rw [List.length_map] at h1 ⊢
 omega
theorem zHm (us : List ByteArray) : (zCf us).bits.size = zAk us := by
 show (zB0 (ints (bitB us us.length))).size = _
 rw [zDO, zDM]
theorem zGV {us : List ByteArray} {sd : Nat} {f : Flt} (h : zBO us sd = some f) : f.bits.size = ribM us := by
 rw [zBO] at h
 split at h
 · cases h
 ·
  cases h
  show (zB0 (ints (bitK _ (ribM us) (ribM us)))).size = _
  rw [zDO, zDi]
theorem zEw {us : List ByteArray} {f : Flt} : ∀ {n : Nat}, zCV us n = some f → ∃ k, k < n ∧ zBO us k = some f
 | 0, h => by cases h
 | n + 1, h => by
  rw [zCV] at h
  cases q : zCV us n with
  | none => rw [q] at h; exact ⟨n, Nat.lt_succ_self n, h⟩
  | some g =>
   rw [q] at h
   cases h
   obtain ⟨k, h1, h2⟩ := zEw q
   exact ⟨k, by omega, h2⟩
theorem zFt {us : List ByteArray} (kd : Int) (h : us.length ≤ 400) : (zAr us kd).bits.size ≤ 600 := by
 have hb := zGD h
 have hr : ribM us ≤ 520 := by rw [ribM]; omega
 have h1 : (zCf us).bits.size ≤ 600 := by rw [zHm]; omega
 rw [zAr]
 split
 · decide
 ·
  split
  ·
   cases q : zCV us 4 with
   | none => exact h1
   | some f =>
    obtain ⟨k, _, h2⟩ := zEw q
    have := zGV h2
    show f.bits.size ≤ 600
    omega
  · exact h1
def zBx (l : List Ent) (ev sz kd : Nat) : ByteArray := putV l.length ++ hllF (zAm l) ++ putV ev ++ putV sz ++ putV kd
def fixS (s : ByteArray) : ByteArray := fixV (s.size % 4294967296)
def tab1 (l : List Ent) (ev sz : Nat) : ByteArray := (tabN l ev sz l.length).out
def tab2 (l : List Ent) (ev sz : Nat) : ByteArray := tab1 l ev sz ++ secF (tabN l ev sz l.length).index
def tab3 (l : List Ent) (ev sz kd : Nat) : ByteArray := tab2 l ev sz ++ secF (zBf (zAr (zAm l) (kd : Int)))
def tab4 (l : List Ent) (ev sz kd : Nat) : ByteArray := tab3 l ev sz kd ++ secF (zBx l ev sz kd)
def zOI (l : List Ent) (ev sz kd : Nat) : ByteArray := fixS (tab1 l ev sz) ++ fixS (tab2 l ev sz) ++ fixS (tab3 l ev sz kd)
def zDE (l : List Ent) (ev sz kd : Nat) : ByteArray := tab4 l ev sz kd ++ zOI l ev sz kd ++ fixV 1279478321
def secL (l : List Ent) (ev sz kd : Nat) : List ByteArray := [(tabN l ev sz l.length).index, zBf (zAr (zAm l) (kd : Int)), zBx l ev sz kd]
def tabJ (l : List Ent) (ev sz kd : Nat) : Nat → ByteArray
 | 0 => tab1 l ev sz
 | j + 1 => match (secL l ev sz kd)[j]? with
  | some x => tabJ l ev sz kd j ++ secF x
  | none => tabJ l ev sz kd j
def plJ (l : List Ent) (ev sz kd : Nat) : Nat → ByteArray
 | 0 => ⟨#[]⟩
 | j + 1 => plJ l ev sz kd j ++ fixS (tabJ l ev sz kd j)
theorem zIo {l : List Ent} {ev sz kd j : Nat} {x : ByteArray} (h : (secL l ev sz kd)[j]? = some x) : tabJ l ev sz kd (j + 1) = tabJ l ev sz kd j ++ secF x := by rw [tabJ, h]
theorem zOP (b : ByteArray) : (⟨#[]⟩ : ByteArray) ++ b = b := ByteArray.ext (by simp [ByteArray.data_append])
theorem plJ_3 (l : List Ent) (ev sz kd : Nat) : plJ l ev sz kd 3 = zOI l ev sz kd := by
 show (⟨#[]⟩ ++ fixS (tabJ l ev sz kd 0)) ++ fixS (tabJ l ev sz kd 1) ++ fixS (tabJ l ev sz kd 2) = _
 rw [zOP]
 rfl
section
variable {l : List Ent} {ev sz kd : Nat}
theorem zFd (hn : l.length ≤ 400) (hev : ev ≤ 16) (hs : sz ≤ 4000) (hkd : kd ≤ 2) : (zBx l ev sz kd).size ≤ 104 := by
 have h1 := zA4 (n := l.length) (by omega)
 have h2 := zA4 (n := ev) (by omega)
 have h3 := zA4 (n := sz) (by omega)
 have h4 := zA4 (n := kd) (by omega)
 have h5 : (hllF (zAm l)).size = 64 := zE3 (zEM _ _)
 simp only [zBx, zAZ]
 omega
theorem zKc (hl : ∀ e ∈ l, zBp e = true) (hn : l.length ≤ 400) (hev : ev ≤ 16) (hs : sz ≤ 4000) (hkd : kd ≤ 2) {j : Nat} {x : ByteArray} (h : (secL l ev sz kd)[j]? = some x) : x.size ≤ 30000 := by
 have h1 := (zD1 (ev := ev) hl hn hs l.length (Nat.le_refl _)).2
 have h2 := zEN (zAr (zAm l) (kd : Int))
 have h3 := zFd hn hev hs hkd
 match j, h with
 | 0, h => cases h; omega
 | 1, h => cases h; omega
 | 2, h => cases h; omega
 | j + 3, h => simp [secL] at h
theorem zIp (hl : ∀ e ∈ l, zBp e = true) (hn : l.length ≤ 400) (hev : ev ≤ 16) (hs : sz ≤ 4000) (hkd : kd ≤ 2) : ∀ j, (tabJ l ev sz kd j).size ≤ 2000000 + 30014 * j
 | 0 => by
  have := (zD1 (ev := ev) hl hn hs l.length (Nat.le_refl _)).1
  show (tab1 l ev sz).size ≤ _
  rw [tab1]; omega
 | j + 1 => by
  have ih := zIp hl hn hev hs hkd j
  cases h : (secL l ev sz kd)[j]? with
  | none => rw [tabJ, h]; simp only []; omega
  | some x =>
   have hx := zKc hl hn hev hs hkd h
   have := zBS (s := x) (by omega)
   rw [zIo h]
   simp only [secF, zAZ, zAU]
   omega
theorem zKl (l : List Ent) (ev sz kd : Nat) : ∀ j, (plJ l ev sz kd j).size = 4 * j
 | 0 => rfl
 | j + 1 => by
  have ih := zKl l ev sz kd j
  simp only [plJ, fixS, zAZ, zAU, ih]
  omega
end
structure Shp where
 every : Int
 size : Int
 kind : Int
 deriving DecidableEq
def zBg (p : Shp) : Bool := zAi p.every 1 16 && (zAi p.size 20 4000 && zAi p.kind 0 2)
theorem zHz {p : Shp} (h : zBg p = true) : (1 ≤ p.every ∧ p.every ≤ 16) ∧ (20 ≤ p.size ∧ p.size ≤ 4000) ∧ 0 ≤ p.kind ∧ p.kind ≤ 2 := by simp only [zBg, zAi, Bool.and_eq_true, decide_eq_true_eq] at h; exact h
def zHF (l : List Ent) (p : Shp) : ByteArray := zDE l p.every.toNat p.size.toNat p.kind.toNat
def zBW (l : List Ent) (p : Shp) : Option ByteArray := if (zBJ l = true ∧ 0 < l.length) ∧ zBg p = true then (if (zHF l p).size ≤ 60000 then some (zHF l p) else none) else none
theorem zDk {l : List Ent} {p : Shp} (h : zBJ l = false ∨ l.length = 0 ∨ zBg p = false) : zBW l p = none := by
 rw [zBW, if_neg]
 rintro ⟨⟨h1, h2⟩, h3⟩
 rcases h with h | h | h
 · rw [h] at h1; cases h1
 · omega
 · rw [h] at h3; cases h3
theorem zHG {l : List Ent} {p : Shp} (h : 60000 < (zHF l p).size) : zBW l p = none := by
 rw [zBW]
 split
 · rw [if_neg (by omega)]
 · rfl
theorem zFW {l : List Ent} {p : Shp} (h1 : zBJ l = true) (h2 : 0 < l.length) (h3 : zBg p = true) (h : (zHF l p).size ≤ 60000) : zBW l p = some (zHF l p) := by
 rw [zBW, if_pos ⟨⟨h1, h2⟩, h3⟩, if_pos h]
end Go.Rl

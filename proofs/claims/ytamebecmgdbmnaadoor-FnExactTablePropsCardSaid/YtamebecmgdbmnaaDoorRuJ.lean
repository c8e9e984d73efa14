/- Promises of functions, proved by walks over their operations; no conditions beyond those that each theorem states. -/
import Derived.Test.YtamebecmgdbmnaaDoorRtTf
import Derived.Test.YtamebecmgdbmnaaDoorReH
import Derived.Laws.IdiomStrings
import Derived.Lib.TrailingZeros
import Derived.Test.YtamebecmgdbmnaaDoorRuB
set_option linter.unusedSimpArgs false
set_option linter.unusedVariables false
namespace Go.Rl
open Go.Proofs Go.Proofs.Tryd
set_option maxRecDepth 1000000
set_option maxHeartbeats 2000000
theorem en90 : En Tryd.prog 90 := zAh func90 (by decide) rfl
theorem zMc {us : List ByteArray} {n : Nat} (h : n = us.length) : (n : Int) + ((n / 4 : Nat) : Int) + 20 = ((ribM us : Nat) : Int) := by rw [ribM, h]; omega
theorem zO4 {us : List ByteArray} (h : us.length ≤ 400) : 20 ≤ ribM us ∧ ribM us ≤ 520 := by rw [ribM]; omega
theorem zH1 (us : List ByteArray) (sd : Nat) (hsd : sd ≤ 3) (hu : ∀ u ∈ us, zBd u = true) (hn : us.length ≤ 400) : Con Tryd.prog 58 [.one (PV.sl false 1 (pvT us)), .one (PV.v (.int .i64 (sd:Int)))] [] [.agg [.v (.int .i64 ((zBR us sd).getD .zero).kind), .v (.int .i64 ((zBR us sd).getD .zero).seed), .v (.int .i64 ((zBR us sd).getD .zero).probes), .v (.string ((zBR us sd).getD .zero).bits)], .one (.v (.bool ((zBR us sd).isSome)))] := by
 refine zAR func58 rfl rfl rfl rfl ?_
 have hle := zBG us
 have hM := zO4 hn
 refine zAB (zAA rfl (.run [] [4] rfl (zBA rfl 4 zC5 rfl (by decide) rfl (by decide)) (.a rfl rfl .nil)) ?_)
 refine zAB ?_
 refine zAB (zAA rfl (.m rfl rfl (.run [1900] [] rfl (zAF rfl 1900 (X := []) en57 rfl (.val nod) (.cons (.one (.bor (.sl nod))) .nil) (by decide) all_nil .nil (zDe us (by assumption) (by omega)) rfl rfl (nle rfl)) (.r rfl (zAa (b := true) rfl rfl) (.m rfl rfl (.m rfl rfl (.run [2300] [] rfl (zAF rfl 2300 (X := []) en53 rfl (.val nod) (.cons (.one (.bor .v)) (.cons (.one (.bor .v)) (.cons (.one (.bor .v)) .nil))) (by decide) all_nil .nil (zB0 (sd:Int) 0 3) rfl rfl (nle rfl)) (.r rfl (zAa (b := zAl (sd:Int) 0 3) rfl rfl) (.r rfl (zAc (t := false) rfl rfl) .nil)))))))) ?_)
 refine zAT (t := (!(zAl (sd:Int) 0 3))) rfl (fun h1 => ?_) (fun h1 => ?_)
 ·
  replace h1 : (zAl (sd:Int) 0 3) = false := zAm h1
  rw [show zAl (sd : Int) 0 3 = true by simp only [zAl, Bool.and_eq_true, decide_eq_true_eq]; omega] at h1; cases h1
 ·
  replace h1 : (zAl (sd:Int) 0 3) = true := zAn h1
  refine zAK ?_
  refine zAB (zAA rfl (.m rfl rfl (.r rfl (zAp rfl rfl underlying59) (.a rfl rfl .nil))) ?_)
  refine zAB ?_
  refine zAO (s' := mk [(0, .p none (.sl false 1 (pvT us))), (1, .vi (sd:Int)), (4, .ptr 4 0), (6, .vi ((pvT us).length : Int))] [(4, [.vi 0, .vi 0, .vi 0, .vs ⟨#[]⟩])] []) ?_ ?_
  · exact zAJ ⟨rfl, rfl, rfl, rfl, trivial⟩ ⟨rfl, trivial⟩ trivial rfl
  refine zAA rfl (.m rfl rfl (.m rfl rfl (.r rfl (zAL (zDF rfl rfl rfl (by omega)) ((zAE (quo4 (by omega))))) (.r rfl (zAW rfl rfl rfl (by omega)) (.r rfl (zAL (zAW rfl rfl rfl (by omega)) ((zAE (zMc hle)))) (.a rfl rfl .nil)))))) ?_
  refine zAB (zAA rfl (.m rfl rfl (.run [3500] [] rfl (zD8 rfl 3500 (l := ribM us) (c := ribM us) rfl rfl underlying117 zM7 rfl rfl (by decide) rfl (by decide) (by omega) (by omega) (by simp only [maxLen]; omega)) (.a rfl rfl .nil))) ?_)
  have hr2 : List.replicate (ribM us) [PV.v (.int .u64 0)] = pvQ ((eq0 (ribM us)).map Eqn.row) := by exact eq0_row _
  have hl3 : ribM us = (pvQ ((eq0 (ribM us)).map Eqn.row)).length := by first | (rw [← hr2, List.length_set]; done) | simp [zB1, eq0]
  have hp4 : (.sl 3500 0 (ribM us) : AV) = .sl 3500 0 ((pvQ ((eq0 (ribM us)).map Eqn.row)).length) := by first | exact congrArg (AV.sl 3500 0) hl3 | simp only [hr2, hl3]
  refine zAO (s' := mk [(0, .p none (.sl false 1 (pvT us))), (1, .vi (sd:Int)), (4, .ptr 4 0), (7, .vi ((ribM us : Nat) : Int)), (8, .sl 3500 0 ((pvQ ((eq0 (ribM us)).map Eqn.row)).length))] [(4, [.vi 0, .vi 0, .vi 0, .vs ⟨#[]⟩])] [(3500, 1, pvQ ((eq0 (ribM us)).map Eqn.row))]) ?_ ?_
  · exact zAJ ⟨rfl, rfl, rfl, rfl, hp4, trivial⟩ ⟨rfl, trivial⟩ ⟨(congrArg (fun x => some (1, x)) hr2), trivial⟩ rfl
  refine zAB (zAA rfl (.m rfl rfl (.run [3700] [] rfl (zD8 rfl 3700 (l := ribM us) (c := ribM us) rfl rfl underlying117 zM7 rfl rfl (by decide) rfl (by decide) (by omega) (by omega) (by simp only [maxLen]; omega)) (.a rfl rfl .nil))) ?_)
  have hr5 : List.replicate (ribM us) [PV.v (.int .u64 0)] = pvQ ((eq0 (ribM us)).map Eqn.sum) := by exact eq0_sum _
  have hl6 : ribM us = (pvQ ((eq0 (ribM us)).map Eqn.sum)).length := by first | (rw [← hr5, List.length_set]; done) | simp [zB1, eq0]
  have hp7 : (.sl 3700 0 (ribM us) : AV) = .sl 3700 0 ((pvQ ((eq0 (ribM us)).map Eqn.sum)).length) := by first | exact congrArg (AV.sl 3700 0) hl6 | simp only [hr5, hl6]
  refine zAO (s' := mk [(0, .p none (.sl false 1 (pvT us))), (1, .vi (sd:Int)), (4, .ptr 4 0), (7, .vi ((ribM us : Nat) : Int)), (8, .sl 3500 0 ((pvQ ((eq0 (ribM us)).map Eqn.row)).length)), (9, .sl 3700 0 ((pvQ ((eq0 (ribM us)).map Eqn.sum)).length))] [(4, [.vi 0, .vi 0, .vi 0, .vs ⟨#[]⟩])] [(3500, 1, pvQ ((eq0 (ribM us)).map Eqn.row)), (3700, 1, pvQ ((eq0 (ribM us)).map Eqn.sum))]) ?_ ?_
  · exact zAJ ⟨rfl, rfl, rfl, rfl, rfl, hp7, trivial⟩ ⟨rfl, trivial⟩ ⟨rfl, (congrArg (fun x => some (1, x)) hr5), trivial⟩ rfl
  refine zAB ?_
  refine zAB (zAA rfl (.a rfl rfl .nil) ?_)
  refine zAS ?_
  refine zAO (zCd 3500 1 rfl rfl (by decide)) ?_
  refine zAO (zCd 3700 2 rfl rfl (by decide)) ?_
  refine zAj (σ := Nat × List Eqn) (fun (i, K) => mk [(0, .p none (.sl false 1 (pvT us))), (1, .vi (sd:Int)), (4, .ptr 4 0), (7, .vi ((ribM us : Nat) : Int)), (8, .sl 1 0 ((pvQ (K.map Eqn.row)).length)), (9, .sl 2 0 ((pvQ (K.map Eqn.sum)).length)), (10, .vi (i:Int))] [(4, [.vi 0, .vi 0, .vi 0, .vs ⟨#[]⟩])] [(1, 1, pvQ (K.map Eqn.row)), (2, 1, pvQ (K.map Eqn.sum))]) (fun (i, K) => (i ≤ us.length ∧ KOk (ribM us) K) ∧ zCV us sd (ribM us) i = some K) (fun (i, K) => us.length - i) (0, eq0 (ribM us)) ⟨⟨Nat.zero_le _, zK8 _⟩, rfl⟩ (zAJ ⟨rfl, rfl, rfl, rfl, rfl, rfl, (zAE (by omega)), trivial⟩ ⟨rfl, trivial⟩ ⟨(congrArg (fun x => some (1, x)) (by rfl)), (congrArg (fun x => some (1, x)) (by rfl)), trivial⟩ rfl) ?_
  rintro ⟨i, K⟩ hG
  replace hG : (i ≤ us.length ∧ KOk (ribM us) K) ∧ zCV us sd (ribM us) i = some K := hG
  obtain ⟨⟨hi, hK⟩, hA⟩ := hG
  refine zAB ?_
  refine zAB (zAA rfl (.m rfl rfl (.m rfl rfl (.r rfl (zAp rfl rfl underlying59) (.r rfl (zAt rfl rfl rfl) .nil)))) ?_)
  refine zAT (t := decide ((i:Int) < ((pvT us).length : Int))) rfl (fun h8 => ?_) (fun h8 => ?_)
  ·
   replace h8 := of_decide_eq_true h8
   refine zAK ?_
   refine zAB ?_
   refine zAS ?_
   refine zAB ?_
   obtain ⟨x, hx⟩ : ∃ x, us[i]? = some x := ⟨_, List.getElem?_eq_getElem (by omega)⟩
   have huo := hu _ (List.mem_of_getElem? hx)
   have hus := zC7 huo
   refine zAO (s' := mk [(0, .p none (.sl false 1 (pvT us))), (1, .vi (sd:Int)), (4, .ptr 4 0), (7, .vi ((ribM us : Nat) : Int)), (8, .sl 1 0 ((pvQ (K.map Eqn.row)).length)), (9, .sl 2 0 ((pvQ (K.map Eqn.sum)).length)), (10, .vi (i:Int))] [(4, [.vi 0, .vi 0, .vi 0, .vs ⟨#[]⟩])] [(1, 1, pvQ (K.map Eqn.row)), (2, 1, pvQ (K.map Eqn.sum))]) ?_ ?_
   · exact zAJ ⟨rfl, rfl, rfl, rfl, rfl, rfl, rfl, trivial⟩ ⟨rfl, trivial⟩ ⟨rfl, rfl, trivial⟩ rfl
   refine zAA rfl (.m rfl rfl (.m rfl rfl (.r rfl (zAq rfl rfl rfl underlying59 sizeOf9 rfl (by omega) (zCk hx)) (.r rfl (zAx rfl rfl isAgg9 rfl) (.m rfl rfl (.m rfl rfl (.run [5100, 5101, 5102] [] rfl (zAF rfl 5100 (X := []) en90 rfl (.val nod) (.cons (.one (.bor .v)) (.cons (.one (.bor .v)) (.cons (.one (.bor .v)) .nil))) (by decide) all_nil .nil (row_con x sd (ribM us) (by omega) (by omega) (by omega)) rfl rfl (nle rfl)) (.m rfl rfl (.r rfl (zAH rfl rfl rfl) (.r rfl (zAH rfl rfl rfl) (.r rfl (zAH rfl rfl rfl) (.a rfl rfl (.a rfl rfl (.a rfl rfl .nil)))))))))))))) ?_
   refine zAB ?_
   refine zAS ?_
   refine zAj (σ := Nat × Nat × Nat × List Eqn) (fun (a, r, s, T) => mk [(0, .p none (.sl false 1 (pvT us))), (1, .vi (sd:Int)), (4, .ptr 4 0), (7, .vi ((ribM us : Nat) : Int)), (8, .sl 1 0 ((pvQ (T.map Eqn.row)).length)), (9, .sl 2 0 ((pvQ (T.map Eqn.sum)).length)), (10, .vi (i:Int)), (11, .vi (a:Int)), (12, .p none (.v (.int .u64 (r:Int)))), (13, .p none (.v (.int .u64 (s:Int))))] [(4, [.vi 0, .vi 0, .vi 0, .vs ⟨#[]⟩])] [(1, 1, pvQ (T.map Eqn.row)), (2, 1, pvQ (T.map Eqn.sum))]) (fun (a, r, s, T) => (RI (ribM us) a r s ∧ KOk (ribM us) T) ∧ ribE (ribM us) a r s T = ribE (ribM us) (atN (zA2 sd x) (ribM us)) (rowN (zA2 sd x)) (sumN (zA2 sd x)) K) (fun (a, r, s, T) => 2 * (ribM us - a) + r % 2) (atN (zA2 sd x) (ribM us), rowN (zA2 sd x), sumN (zA2 sd x), K) ⟨⟨zKn _ _ (by omega), hK⟩, rfl⟩ (zAJ ⟨rfl, rfl, rfl, rfl, rfl, rfl, rfl, rfl, rfl, rfl, trivial⟩ ⟨rfl, trivial⟩ ⟨rfl, rfl, trivial⟩ rfl) ?_
   rintro ⟨a, r, s, T⟩ hG
   replace hG : (RI (ribM us) a r s ∧ KOk (ribM us) T) ∧ ribE (ribM us) a r s T = ribE (ribM us) (atN (zA2 sd x) (ribM us)) (rowN (zA2 sd x)) (sumN (zA2 sd x)) K := hG
   obtain ⟨⟨hI, hT⟩, hR⟩ := hG
   have hI1 := hI.at_
   have hI2 := hI.row
   have hI3 := hI.sum
   refine zAB ?_
   refine zAB (zAA rfl (.m rfl rfl (.r rfl (zBE rfl rfl rfl) .nil)) ?_)
   refine zAT (t := decide (0 < (r:Int))) rfl (fun h9 => ?_) (fun h9 => ?_)
   ·
    replace h9 := of_decide_eq_true h9
    refine zAK ?_
    refine zAS ?_
    refine zAB ?_
    refine zAB (zAA rfl (.m rfl rfl (.r rfl (zCR r 2 rfl rfl rfl (by omega)) (.r rfl (zBB rfl rfl rfl) .nil))) ?_)
    refine zAT (t := decide (((r % 2 : Nat) : Int) = 0)) rfl (fun h10 => ?_) (fun h10 => ?_)
    ·
     replace h10 := of_decide_eq_true h10
     refine zAB (zAA rfl (.m rfl rfl (.r rfl (zAL (zD7 (k := .u64) 18446744073709551616 rfl r 2 rfl rfl rfl rfl (by omega)) ((zAE (show (((r / 2) % 18446744073709551616 : Nat) : Int) = ((r / 2 : Nat) : Int) by omega)))) (.a rfl rfl .nil))) ?_)
     refine zAB (zAA rfl (.m rfl rfl (.r rfl (zAW rfl rfl rfl (by omega)) (.a rfl rfl .nil))) ?_)
     refine zAi ?_
     refine nxt (Q := fun _ _ => False) (z := (a, r, s, T)) (a + 1, r / 2, s, T) ?_ ?_ ?_
     ·
      show (RI (ribM us) (a + 1) (r / 2) s ∧ KOk (ribM us) T) ∧ ribE (ribM us) (a + 1) (r / 2) s T = ribE (ribM us) (atN (zA2 sd x) (ribM us)) (rowN (zA2 sd x)) (sumN (zA2 sd x)) K
      exact ⟨⟨(zF2 (K := T) hI (by omega) (by omega)).2, hT⟩, (zF2 (K := T) hI (by omega) (by omega)).1.trans hR⟩
     ·
      show 2 * (ribM us - (a + 1)) + (r / 2) % 2 < 2 * (ribM us - a) + r % 2
      have := hI.in_ (by omega); omega
     · exact zAJ ⟨rfl, rfl, rfl, rfl, rfl, rfl, rfl, (zAE (by omega)), rfl, rfl, trivial⟩ ⟨rfl, trivial⟩ ⟨rfl, rfl, trivial⟩ rfl
    ·
     replace h10 := of_decide_eq_false h10
     refine zAK ?_
     refine zAB ?_
     have ha := hI.in_ (by omega)
     have hTl := hT.len
     obtain ⟨e, he⟩ : ∃ e, T[a]? = some e := ⟨_, List.getElem?_eq_getElem (by omega)⟩
     have hTr : (pvQ (T.map Eqn.row)).length = ribM us := by rw [zB1, List.length_map, hTl]
     have hTs : (pvQ (T.map Eqn.sum)).length = ribM us := by rw [zB1, List.length_map, hTl]
     refine zAA rfl (.m rfl rfl (.m rfl rfl (.r rfl (zA1 a rfl rfl rfl rfl underlying117 sizeOf53 rfl rfl (by omega)) (.r rfl (zA4 rfl rfl rfl (zEL (zH6 he)) isAgg53 rfl) (.r rfl (zBB rfl rfl rfl) .nil))))) ?_
     refine zAT (t := decide (((e.row : Nat) : Int) = 0)) rfl (fun h11 => ?_) (fun h11 => ?_)
     ·
      replace h11 := of_decide_eq_true h11
      refine zAB (zAA rfl (.m rfl rfl (.m rfl rfl (.m rfl rfl (.r rfl (zA1 a rfl rfl rfl rfl underlying117 sizeOf53 rfl rfl (by omega)) (.r rfl (zA9 rfl rfl rfl (FlatP.nf (zIC _)) (zEL (zH6 he)) rfl rfl (.cons .v .nil) sizeOf53 rfl (nle rfl)) .nil))))) ?_)
      have hr12 : (pvQ (T.map Eqn.row)).set a [PV.v (.int .u64 (r:Int))] = pvQ ((T.set a ⟨a, r, s⟩).map Eqn.row) := by exact zOC ⟨a, r, s⟩
      have hl13 : (pvQ (T.map Eqn.row)).length = (pvQ ((T.set a ⟨a, r, s⟩).map Eqn.row)).length := by first | (rw [← hr12, List.length_set]; done) | simp [zB1]
      have hp14 : (.sl 1 0 ((pvQ (T.map Eqn.row)).length) : AV) = .sl 1 0 ((pvQ ((T.set a ⟨a, r, s⟩).map Eqn.row)).length) := by first | exact congrArg (AV.sl 1 0) hl13 | simp only [hr12, hl13]
      refine zAO (s' := mk [(0, .p none (.sl false 1 (pvT us))), (1, .vi (sd:Int)), (4, .ptr 4 0), (7, .vi ((ribM us : Nat) : Int)), (8, .sl 1 0 ((pvQ ((T.set a ⟨a, r, s⟩).map Eqn.row)).length)), (9, .sl 2 0 ((pvQ (T.map Eqn.sum)).length)), (10, .vi (i:Int)), (11, .vi (a:Int)), (13, .p none (.v (.int .u64 (s:Int))))] [(4, [.vi 0, .vi 0, .vi 0, .vs ⟨#[]⟩])] [(1, 1, pvQ ((T.set a ⟨a, r, s⟩).map Eqn.row)), (2, 1, pvQ (T.map Eqn.sum))]) ?_ ?_
      · exact zAJ ⟨rfl, rfl, rfl, rfl, hp14, rfl, rfl, rfl, rfl, trivial⟩ ⟨rfl, trivial⟩ ⟨(congrArg (fun x => some (1, x)) hr12), rfl, trivial⟩ rfl
      refine zAB (zAA rfl (.m rfl rfl (.m rfl rfl (.m rfl rfl (.r rfl (zA1 a rfl rfl rfl rfl underlying117 sizeOf53 rfl rfl (by omega)) (.r rfl (zA9 rfl rfl rfl (FlatP.nf (zIC _)) (zEL (zJx he)) rfl rfl (.cons .v .nil) sizeOf53 rfl (nle rfl)) .nil))))) ?_)
      have hr15 : (pvQ (T.map Eqn.sum)).set a [PV.v (.int .u64 (s:Int))] = pvQ ((T.set a ⟨a, r, s⟩).map Eqn.sum) := by exact zOB ⟨a, r, s⟩
      have hl16 : (pvQ (T.map Eqn.sum)).length = (pvQ ((T.set a ⟨a, r, s⟩).map Eqn.sum)).length := by first | (rw [← hr15, List.length_set]; done) | simp [zB1]
      have hp17 : (.sl 2 0 ((pvQ (T.map Eqn.sum)).length) : AV) = .sl 2 0 ((pvQ ((T.set a ⟨a, r, s⟩).map Eqn.sum)).length) := by first | exact congrArg (AV.sl 2 0) hl16 | simp only [hr15, hl16]
      refine zAO (s' := mk [(0, .p none (.sl false 1 (pvT us))), (1, .vi (sd:Int)), (4, .ptr 4 0), (7, .vi ((ribM us : Nat) : Int)), (8, .sl 1 0 ((pvQ ((T.set a ⟨a, r, s⟩).map Eqn.row)).length)), (9, .sl 2 0 ((pvQ ((T.set a ⟨a, r, s⟩).map Eqn.sum)).length)), (10, .vi (i:Int)), (11, .vi (a:Int))] [(4, [.vi 0, .vi 0, .vi 0, .vs ⟨#[]⟩])] [(1, 1, pvQ ((T.set a ⟨a, r, s⟩).map Eqn.row)), (2, 1, pvQ ((T.set a ⟨a, r, s⟩).map Eqn.sum))]) ?_ ?_
      · exact zAJ ⟨rfl, rfl, rfl, rfl, rfl, hp17, rfl, rfl, trivial⟩ ⟨rfl, trivial⟩ ⟨rfl, (congrArg (fun x => some (1, x)) hr15), trivial⟩ rfl
      refine zAB (zAA rfl (.a rfl rfl .nil) ?_)
      refine zAA rfl (.a rfl rfl .nil) ?_
      refine nxt (Q := fun _ _ => False) (z := (a, r, s, T)) (a, 0, 0, T.set a ⟨a, r, s⟩) ?_ ?_ ?_
      ·
       show (RI (ribM us) a 0 0 ∧ KOk (ribM us) (T.set a ⟨a, r, s⟩)) ∧ ribE (ribM us) a 0 0 (T.set a ⟨a, r, s⟩) = ribE (ribM us) (atN (zA2 sd x) (ribM us)) (rowN (zA2 sd x)) (sumN (zA2 sd x)) K
       exact ⟨⟨(zFB hI hT (by omega) he (by omega)).2.1, (zFB hI hT (by omega) he (by omega)).2.2⟩, (zFB hI hT (by omega) he (by omega)).1.trans hR⟩
      ·
       show 2 * (ribM us - a) + 0 % 2 < 2 * (ribM us - a) + r % 2
       have : r % 2 = 1 := by omega
       omega
      · exact zAJ ⟨rfl, rfl, rfl, rfl, rfl, rfl, rfl, (zAE (by omega)), rfl, rfl, trivial⟩ ⟨rfl, trivial⟩ ⟨rfl, rfl, trivial⟩ rfl
     ·
      replace h11 := of_decide_eq_false h11
      refine zAB ?_
      have hx := zMb hI hT (by omega) he (by omega)
      have hx1 := hx.2.1.row
      have hx2 := hx.2.1.sum
      refine zAO (s' := mk [(0, .p none (.sl false 1 (pvT us))), (1, .vi (sd:Int)), (4, .ptr 4 0), (7, .vi ((ribM us : Nat) : Int)), (8, .sl 1 0 ((pvQ (T.map Eqn.row)).length)), (9, .sl 2 0 ((pvQ (T.map Eqn.sum)).length)), (10, .vi (i:Int)), (11, .vi (a:Int)), (12, .p none (.v (.int .u64 (r:Int)))), (13, .p none (.v (.int .u64 (s:Int))))] [(4, [.vi 0, .vi 0, .vi 0, .vs ⟨#[]⟩])] [(1, 1, pvQ (T.map Eqn.row)), (2, 1, pvQ (T.map Eqn.sum))]) ?_ ?_
      · exact zAJ ⟨rfl, rfl, rfl, rfl, rfl, rfl, rfl, rfl, rfl, rfl, trivial⟩ ⟨rfl, trivial⟩ ⟨rfl, rfl, trivial⟩ rfl
      refine zAA rfl (.m rfl rfl (.m rfl rfl (.m rfl rfl (.r rfl (zA1 a rfl rfl rfl rfl underlying117 sizeOf53 rfl rfl (by omega)) (.r rfl (zA4 rfl rfl rfl (zEL (zH6 he)) isAgg53 rfl) (.r rfl (zAL (zB4 (k := .u64) 18446744073709551616 rfl r e.row rfl rfl rfl rfl) ((zAE (show (((r ^^^ e.row) % 18446744073709551616 : Nat) : Int) = ((r ^^^ e.row : Nat) : Int) by omega)))) (.a rfl rfl .nil))))))) ?_
      refine zAA rfl (.m rfl rfl (.m rfl rfl (.m rfl rfl (.r rfl (zA1 a rfl rfl rfl rfl underlying117 sizeOf53 rfl rfl (by omega)) (.r rfl (zA4 rfl rfl rfl (zEL (zJx he)) isAgg53 rfl) (.r rfl (zAL (zB4 (k := .u64) 18446744073709551616 rfl s e.sum rfl rfl rfl rfl) ((zAE (show (((s ^^^ e.sum) % 18446744073709551616 : Nat) : Int) = ((s ^^^ e.sum : Nat) : Int) by omega)))) (.a rfl rfl .nil))))))) ?_
      refine nxt (Q := fun _ _ => False) (z := (a, r, s, T)) (a, r ^^^ e.row, s ^^^ e.sum, T) ?_ ?_ ?_
      ·
       show (RI (ribM us) a (r ^^^ e.row) (s ^^^ e.sum) ∧ KOk (ribM us) T) ∧ ribE (ribM us) a (r ^^^ e.row) (s ^^^ e.sum) T = ribE (ribM us) (atN (zA2 sd x) (ribM us)) (rowN (zA2 sd x)) (sumN (zA2 sd x)) K
       exact ⟨⟨hx.2.1, hT⟩, hx.1.trans hR⟩
      ·
       show 2 * (ribM us - a) + (r ^^^ e.row) % 2 < 2 * (ribM us - a) + r % 2
       have := hx.2.2; omega
      · exact zAJ ⟨rfl, rfl, rfl, rfl, rfl, rfl, rfl, (zAE (by omega)), rfl, rfl, trivial⟩ ⟨rfl, trivial⟩ ⟨rfl, rfl, trivial⟩ rfl
   ·
    replace h9 := of_decide_eq_false h9
    refine zAi ?_
    refine zAB (zAA rfl (.m rfl rfl (.r rfl (zB2 rfl rfl rfl) .nil)) ?_)
    refine zAT (t := (!(decide ((s:Int) = 0)))) rfl (fun h18 => ?_) (fun h18 => ?_)
    ·
     replace h18 : ¬ ((s:Int) = 0) := of_decide_eq_false (zAm h18)
     refine zAB ?_
     have hN := zEy (zFX ((zCU hA hx).trans (hR.symm.trans (by rw [show r = 0 by omega, zEB, if_neg (by omega)]))) (show i + 1 ≤ us.length by omega))
     rw [hN]
     refine zAA rfl (.r rfl (zAw (pl := [(0, 1), (1, 1), (2, 1), (3, 1)]) rfl underlying62 zC5 (by kernel_rfl) rfl rfl) (.r rfl (zAN rfl rfl rfl rfl rfl sizeOf62 rfl (nle rfl)) (.a rfl rfl .nil))) ?_
     refine zAI ?_
     exact ends [_, _] [] (.cons (.cell rfl rfl isAgg62 sizeOf62 (nle rfl)) (.cons (.tmp rfl) .nil)) (.cons (.agg (.cons .v (.cons .v (.cons .v (.cons .v .nil)))) (zAM (.v _) (zAM (.v _) (zAM (.v _) (zAM (.v _) zBQ))))) (.cons (.one .v (.v _)) .nil)) (by decide) trivial
    ·
     replace h18 : (s:Int) = 0 := of_decide_eq_true (zAn h18)
     refine zAK ?_
     refine zAA rfl (.m rfl rfl (.r rfl (zAW rfl rfl rfl (by omega)) (.a rfl rfl .nil))) ?_
     refine nxt (Q := fun _ _ => False) (z := (i, K)) (i + 1, T) ?_ ?_ ?_
     ·
      show ((i + 1) ≤ us.length ∧ KOk (ribM us) T) ∧ zCV us sd (ribM us) (i + 1) = some T
      exact ⟨⟨by omega, hT⟩, (zCU hA hx).trans (hR.symm.trans (by rw [show r = 0 by omega, show s = 0 by omega, zEB, if_pos rfl]))⟩
     ·
      show us.length - (i + 1) < us.length - i
      omega
     · exact zAJ ⟨rfl, rfl, rfl, rfl, rfl, rfl, (zAE (by omega)), trivial⟩ ⟨rfl, trivial⟩ ⟨rfl, rfl, trivial⟩ rfl
  ·
   replace h8 := of_decide_eq_false h8
   refine zAi ?_
   refine zAB ?_
   have hS := zGW (show zCV us sd (ribM us) us.length = some K by rw [show us.length = i by omega]; exact hA)
   rw [hS]
   refine zAA rfl (.m rfl rfl (.run [9300] [] rfl (zD8 rfl 9300 (l := ribM us) (c := ribM us) rfl rfl underlying90 inf5 rfl rfl (by decide) rfl (by decide) (by omega) (by omega) (by simp only [maxLen]; omega)) (.a rfl rfl .nil))) ?_
   have hr19 : List.replicate (ribM us) [PV.v (.int .u8 0)] = pvNb (bitK K (ribM us) 0) := by exact zHp K _
   have hl20 : ribM us = (pvNb (bitK K (ribM us) 0)).length := by first | (rw [← hr19, List.length_set]; done) | simp [zBK, zDj]
   have hp21 : (.sl 9300 0 (ribM us) : AV) = .sl 9300 0 ((pvNb (bitK K (ribM us) 0)).length) := by first | exact congrArg (AV.sl 9300 0) hl20 | simp only [hr19, hl20]
   refine zAO (s' := mk [(1, .vi (sd:Int)), (4, .ptr 4 0), (7, .vi ((ribM us : Nat) : Int)), (8, .sl 1 0 ((pvQ (K.map Eqn.row)).length)), (9, .sl 2 0 ((pvQ (K.map Eqn.sum)).length)), (14, .sl 9300 0 ((pvNb (bitK K (ribM us) 0)).length))] [(4, [.vi 0, .vi 0, .vi 0, .vs ⟨#[]⟩])] [(1, 1, pvQ (K.map Eqn.row)), (2, 1, pvQ (K.map Eqn.sum)), (9300, 1, pvNb (bitK K (ribM us) 0))]) ?_ ?_
   · exact zAJ ⟨rfl, rfl, rfl, rfl, rfl, hp21, trivial⟩ ⟨rfl, trivial⟩ ⟨rfl, rfl, (congrArg (fun x => some (1, x)) hr19), trivial⟩ rfl
   refine zAB ?_
   refine zAB (zAA rfl (.m rfl rfl (.r rfl (zBw rfl rfl rfl (by omega)) (.a rfl rfl .nil))) ?_)
   refine zAS ?_
   refine zAO (zCd 9300 3 rfl rfl (by decide)) ?_
   refine zAj (σ := Nat) (fun j => mk [(1, .vi (sd:Int)), (4, .ptr 4 0), (8, .sl 1 0 ((pvQ (K.map Eqn.row)).length)), (9, .sl 2 0 ((pvQ (K.map Eqn.sum)).length)), (14, .sl 3 0 ((pvNb (bitK K (ribM us) j)).length)), (15, .vi (((ribM us : Nat) : Int) - 1 - (j : Int)))] [(4, [.vi 0, .vi 0, .vi 0, .vs ⟨#[]⟩])] [(1, 1, pvQ (K.map Eqn.row)), (2, 1, pvQ (K.map Eqn.sum)), (3, 1, pvNb (bitK K (ribM us) j))]) (fun j => j ≤ ribM us) (fun j => ribM us - j) 0 (by simp) (zAJ ⟨rfl, rfl, rfl, rfl, rfl, (zAE (by omega)), trivial⟩ ⟨rfl, trivial⟩ ⟨rfl, rfl, (congrArg (fun x => some (1, x)) (by rfl)), trivial⟩ rfl) ?_
   rintro j hG
   replace hG : j ≤ ribM us := hG
   have hbt := zKX hK j
   have hbl := zDj K (ribM us) j
   have hbv := zBK (bitK K (ribM us) j)
   refine zAB ?_
   refine zAB (zAA rfl (.m rfl rfl (.r rfl (zDH rfl rfl rfl) .nil)) ?_)
   refine zAT (t := decide (0 ≤ (((ribM us : Nat) : Int) - 1 - (j : Int)))) rfl (fun h22 => ?_) (fun h22 => ?_)
   ·
    replace h22 := of_decide_eq_true h22
    refine zAK ?_
    refine zAB ?_
    refine zAS ?_
    refine zAB ?_
    have hKl := hK.len
    obtain ⟨e, he⟩ : ∃ e, K[ribM us - 1 - j]? = some e := ⟨_, List.getElem?_eq_getElem (by omega)⟩
    have hE := hK.all _ e he
    have hE1 := hE.1
    have hE3 := hE.2.2.1
    have hKr : (pvQ (K.map Eqn.row)).length = ribM us := by rw [zB1, List.length_map, hKl]
    have hKs : (pvQ (K.map Eqn.sum)).length = ribM us := by rw [zB1, List.length_map, hKl]
    refine zAA rfl (.m rfl rfl (.r rfl (zAL (zBM rfl) ((zAE (by omega)))) (.r rfl (zA1 (ribM us - 1 - j) rfl rfl rfl rfl underlying117 sizeOf53 rfl rfl (by omega)) (.r rfl (zA4 rfl rfl rfl (zEL (zJx he)) isAgg53 rfl) (.a rfl rfl .nil))))) ?_
    refine zAB ?_
    refine zAB (zAA rfl (.a rfl rfl .nil) ?_)
    refine zAS ?_
    refine zAj (σ := Nat) (fun k => mk [(1, .vi (sd:Int)), (4, .ptr 4 0), (8, .sl 1 0 ((pvQ (K.map Eqn.row)).length)), (9, .sl 2 0 ((pvQ (K.map Eqn.sum)).length)), (14, .sl 3 0 ((pvNb (bitK K (ribM us) j)).length)), (15, .vi (((ribM us : Nat) : Int) - 1 - (j : Int))), (16, .p none (.v (.int .u64 ((e.sum ^^^ solT (bitK K (ribM us) j) (ribM us - 1 - j) (e.row / 2 * 2) k : Nat) : Int)))), (17, .vi (k:Int))] [(4, [.vi 0, .vi 0, .vi 0, .vs ⟨#[]⟩])] [(1, 1, pvQ (K.map Eqn.row)), (2, 1, pvQ (K.map Eqn.sum)), (3, 1, pvNb (bitK K (ribM us) j))]) (fun k => 1 ≤ k ∧ k ≤ 16) (fun k => 16 - k) 1 (by decide) (zAJ ⟨rfl, rfl, rfl, rfl, rfl, rfl, (zAE (by rw [sol_one, Nat.xor_zero])), (zAE (by omega)), trivial⟩ ⟨rfl, trivial⟩ ⟨rfl, rfl, rfl, trivial⟩ rfl) ?_
    rintro k hG
    replace hG : 1 ≤ k ∧ k ≤ 16 := hG
    obtain ⟨hk1, hk2⟩ := hG
    refine zAB ?_
    refine zAB (zAA rfl (.m rfl rfl (.r rfl (zAt rfl rfl rfl) .nil)) ?_)
    refine zAT (t := decide ((k:Int) < 16)) rfl (fun h23 => ?_) (fun h23 => ?_)
    ·
     replace h23 := of_decide_eq_true h23
     refine zAK ?_
     refine zAB ?_
     refine zAS ?_
     refine zAB (zAA rfl (.m rfl rfl (.r rfl (zAL (zBM rfl) ((zAE (by omega)))) (.r rfl (zA1 (ribM us - 1 - j) rfl rfl rfl rfl underlying117 sizeOf53 rfl rfl (by omega)) (.r rfl (zA4 rfl rfl rfl (zEL (zH6 he)) isAgg53 rfl) (.m rfl rfl (.r rfl (zAL (zAe (k' := .u64) 18446744073709551616 rfl k rfl rfl rfl underlying2 underlying92) ((zAE (show ((k % 18446744073709551616 : Nat) : Int) = ((k : Nat) : Int) by omega)))) (.r rfl (zBg e.row k rfl rfl rfl (by show _ ≤ 64; omega)) (.r rfl (zCR (e.row / 2 ^ k) 2 rfl rfl rfl (by omega)) (.r rfl (zBB rfl rfl rfl) .nil))))))))) ?_)
     refine zAT (t := decide ((((e.row / 2 ^ k) % 2 : Nat) : Int) = 1)) rfl (fun h24 => ?_) (fun h24 => ?_)
     ·
      replace h24 := of_decide_eq_true h24
      have hpk : ribM us - 1 - j + k < ribM us := zMl hE.2.1 (by have := h24; intro q; rw [q] at this; exact absurd this (by decide))
      obtain ⟨b, hb⟩ : ∃ b, (bitK K (ribM us) j)[ribM us - 1 - j + k]? = some b := ⟨_, List.getElem?_eq_getElem (by omega)⟩
      have hb8 := hbt b (List.mem_of_getElem? hb)
      refine zAO (s' := mk [(1, .vi (sd:Int)), (4, .ptr 4 0), (8, .sl 1 0 ((pvQ (K.map Eqn.row)).length)), (9, .sl 2 0 ((pvQ (K.map Eqn.sum)).length)), (14, .sl 3 0 ((pvNb (bitK K (ribM us) j)).length)), (15, .vi (((ribM us : Nat) : Int) - 1 - (j : Int))), (16, .p none (.v (.int .u64 ((e.sum ^^^ solT (bitK K (ribM us) j) (ribM us - 1 - j) (e.row / 2 * 2) k : Nat) : Int)))), (17, .vi (k:Int))] [(4, [.vi 0, .vi 0, .vi 0, .vs ⟨#[]⟩])] [(1, 1, pvQ (K.map Eqn.row)), (2, 1, pvQ (K.map Eqn.sum)), (3, 1, pvNb (bitK K (ribM us) j))]) ?_ ?_
      · exact zAJ ⟨rfl, rfl, rfl, rfl, rfl, rfl, rfl, rfl, trivial⟩ ⟨rfl, trivial⟩ ⟨rfl, rfl, rfl, trivial⟩ rfl
      refine zAA rfl (.m rfl rfl (.m rfl rfl (.r rfl (zAL (zBM rfl) ((zAE (by omega)))) (.m rfl rfl (.r rfl (zAL (zAW rfl rfl rfl (by omega)) ((zAE (show ((ribM us - 1 - j : Nat) : Int) + (k : Int) = ((ribM us - 1 - j + k : Nat) : Int) by omega)))) (.r rfl (zA1 (ribM us - 1 - j + k) rfl rfl rfl rfl underlying90 sizeOf5 rfl rfl (by omega)) (.r rfl (zA4 rfl rfl rfl (zCS hb) isAgg5 rfl) (.r rfl (zAL (zAe (k' := .u64) 18446744073709551616 rfl b rfl rfl rfl underlying5 underlying53) ((zAE (show ((b % 18446744073709551616 : Nat) : Int) = ((b : Nat) : Int) by omega)))) (.r rfl (zB4 (k := .u64) 18446744073709551616 rfl (e.sum ^^^ solT (bitK K (ribM us) j) (ribM us - 1 - j) (e.row / 2 * 2) k) b rfl rfl rfl rfl) (.a rfl rfl .nil)))))))))) ?_
      refine zAA rfl (.m rfl rfl (.r rfl (zAW rfl rfl rfl (by omega)) (.a rfl rfl .nil))) ?_
      refine nxt (Q := fun _ _ => False) (z := k) (k + 1) ?_ ?_ ?_
      ·
       show 1 ≤ (k + 1) ∧ (k + 1) ≤ 16
       omega
      ·
       show 16 - (k + 1) < 16 - k
       omega
      · exact zAJ ⟨rfl, rfl, rfl, rfl, rfl, rfl, (zAE (congrArg Nat.cast (zMQ hk1 (by omega) hb hE3 hbt))), (zAE (by omega)), trivial⟩ ⟨rfl, trivial⟩ ⟨rfl, rfl, rfl, trivial⟩ rfl
     ·
      replace h24 := of_decide_eq_false h24
      refine zAK ?_
      refine zAA rfl (.m rfl rfl (.r rfl (zAW rfl rfl rfl (by omega)) (.a rfl rfl .nil))) ?_
      refine nxt (Q := fun _ _ => False) (z := k) (k + 1) ?_ ?_ ?_
      ·
       show 1 ≤ (k + 1) ∧ (k + 1) ≤ 16
       omega
      ·
       show 16 - (k + 1) < 16 - k
       omega
      · exact zAJ ⟨rfl, rfl, rfl, rfl, rfl, rfl, (zAE (congrArg Nat.cast (congrArg (e.sum ^^^ ·) (zMR hk1 (by omega)).symm))), (zAE (by omega)), trivial⟩ ⟨rfl, trivial⟩ ⟨rfl, rfl, rfl, trivial⟩ rfl
    ·
     replace h23 := of_decide_eq_false h23
     refine zAi ?_
     obtain ⟨b, hb⟩ : ∃ b, (bitK K (ribM us) j)[ribM us - 1 - j]? = some b := ⟨_, List.getElem?_eq_getElem (by omega)⟩
     refine zAA rfl (.m rfl rfl (.r rfl (zAL (zBM rfl) ((zAE (by omega)))) (.m rfl rfl (.r rfl (zAe (k' := .u8) 256 rfl (e.sum ^^^ solT (bitK K (ribM us) j) (ribM us - 1 - j) (e.row / 2 * 2) k) rfl rfl rfl underlying53 underlying5) (.r rfl (zA1 (ribM us - 1 - j) rfl rfl rfl rfl underlying90 sizeOf5 rfl rfl (by omega)) (.r rfl (zA9 rfl rfl rfl (FlatP.nf (zDW _)) (zCS hb) rfl rfl (.cons .v .nil) sizeOf5 rfl (nle rfl)) .nil)))))) ?_
     have hr25 : (pvNb (bitK K (ribM us) j)).set (ribM us - 1 - j) [PV.v (.int .u8 (((e.sum ^^^ solT (bitK K (ribM us) j) (ribM us - 1 - j) (e.row / 2 * 2) k) % 256 : Nat) : Int))] = pvNb (bitK K (ribM us) (j + 1)) := by rw [show k = 16 by omega, Nat.mod_eq_of_lt (Nat.lt_trans (Nat.xor_lt_two_pow (n := 7) hE3 (zEu hbt _ _ _)) (by decide)), zFE, zG6 he]
     have hl26 : (pvNb (bitK K (ribM us) j)).length = (pvNb (bitK K (ribM us) (j + 1))).length := by first | (rw [← hr25, List.length_set]; done) | simp [zBK]
     have hp27 : (.sl 3 0 ((pvNb (bitK K (ribM us) j)).length) : AV) = .sl 3 0 ((pvNb (bitK K (ribM us) (j + 1))).length) := by first | exact congrArg (AV.sl 3 0) hl26 | simp only [hr25, hl26]
     refine zAO (s' := mk [(1, .vi (sd:Int)), (4, .ptr 4 0), (8, .sl 1 0 ((pvQ (K.map Eqn.row)).length)), (9, .sl 2 0 ((pvQ (K.map Eqn.sum)).length)), (14, .sl 3 0 ((pvNb (bitK K (ribM us) (j + 1))).length)), (15, .vi (((ribM us : Nat) : Int) - 1 - (j : Int)))] [(4, [.vi 0, .vi 0, .vi 0, .vs ⟨#[]⟩])] [(1, 1, pvQ (K.map Eqn.row)), (2, 1, pvQ (K.map Eqn.sum)), (3, 1, pvNb (bitK K (ribM us) (j + 1)))]) ?_ ?_
     · exact zAJ ⟨rfl, rfl, rfl, rfl, hp27, rfl, trivial⟩ ⟨rfl, trivial⟩ ⟨rfl, rfl, (congrArg (fun x => some (1, x)) hr25), trivial⟩ rfl
     refine zAA rfl (.m rfl rfl (.r rfl (zBw rfl rfl rfl (by omega)) (.a rfl rfl .nil))) ?_
     refine nxt (Q := fun _ _ => False) (z := j) (j + 1) ?_ ?_ ?_
     ·
      show (j + 1) ≤ ribM us
      omega
     ·
      show ribM us - (j + 1) < ribM us - j
      omega
     · exact zAJ ⟨rfl, rfl, rfl, rfl, rfl, (zAE (by omega)), trivial⟩ ⟨rfl, trivial⟩ ⟨rfl, rfl, rfl, trivial⟩ rfl
   ·
    replace h22 := of_decide_eq_false h22
    refine zAi ?_
    refine zAB (zAA rfl (.m rfl rfl (.m rfl rfl (.r rfl (zCc (ints (bitK K (ribM us) (ribM us))) rfl rfl (.give (len := (pvNb (bitK K (ribM us) j)).length) (xs := pvNb (bitK K (ribM us) j)) rfl rfl) rfl (by rw [show j = ribM us by omega]; exact zCy _) underlying90 underlying9 underlying5) (.r rfl (zAw (pl := [(0, 1), (1, 1), (2, 1), (3, 1)]) rfl underlying62 zC5 (by kernel_rfl) rfl rfl) (.r rfl (zAN rfl rfl rfl rfl rfl sizeOf62 rfl (nle rfl)) (.a rfl rfl .nil)))))) ?_)
    refine zAI ?_
    exact ends [_, _] [] (.cons (.cell rfl rfl isAgg62 sizeOf62 (nle rfl)) (.cons (.tmp rfl) .nil)) (.cons (.agg (.cons .v (.cons .v (.cons .v (.cons .v .nil)))) (zAM (.v _) (zAM (.v _) (zAM (.v _) (zAM (.v _) zBQ))))) (.cons (.one .v (.v _)) .nil)) (by decide) trivial
end Go.Rl
namespace Go.Rl
open Go.Proofs Go.Proofs.Tryd
set_option maxRecDepth 1000000
set_option maxHeartbeats 2000000
theorem en117 : En Tryd.prog 117 := zAh func117 (by decide) rfl
theorem en118 : En Tryd.prog 118 := zAh func118 (by decide) rfl
theorem zON {c : Nat} (h : (((c &&& 1) % 18446744073709551616 : Nat) : Int) = 0) : c % 2 = 0 := by rw [Nat.and_one_is_mod] at h; omega
theorem low_n {c : Nat} (h : ¬ (((c &&& 1) % 18446744073709551616 : Nat) : Int) = 0) : c % 2 = 1 := by rw [Nat.and_one_is_mod] at h; omega
theorem zIz (us : List ByteArray) (sd : Nat) (hsd : sd ≤ 3) (hu : ∀ u ∈ us, zBd u = true) (hn : us.length ≤ 400) : Con Tryd.prog 102 [.one (PV.sl false 1 (pvT us)), .one (PV.v (.int .i64 (sd:Int)))] [] [.agg [.v (.int .i64 ((zBR us sd).getD .zero).kind), .v (.int .i64 ((zBR us sd).getD .zero).seed), .v (.int .i64 ((zBR us sd).getD .zero).probes), .v (.string ((zBR us sd).getD .zero).bits)], .one (.v (.bool ((zBR us sd).isSome)))] := by
 refine zAR func102 rfl rfl rfl rfl ?_
 have hle := zBG us
 have hM := zO4 hn
 refine zAB (zAA rfl (.run [] [4] rfl (zBA rfl 4 zC5 rfl (by decide) rfl (by decide)) (.a rfl rfl .nil)) ?_)
 refine zAB ?_
 refine zAB (zAA rfl (.m rfl rfl (.run [1600] [] rfl (zAF rfl 1600 (X := []) zOc rfl (.val nod) (.cons (.one (.bor (.sl nod))) .nil) (by decide) all_nil .nil (zD0 us (by assumption) (by omega)) rfl rfl (nle rfl)) (.r rfl (zAa (b := true) rfl rfl) (.m rfl rfl (.m rfl rfl (.run [2000] [] rfl (zAF rfl 2000 (X := []) en65 rfl (.val nod) (.cons (.one (.bor .v)) (.cons (.one (.bor .v)) (.cons (.one (.bor .v)) .nil))) (by decide) all_nil .nil (zBW (sd:Int) 0 3) rfl rfl (nle rfl)) (.r rfl (zAa (b := zAl (sd:Int) 0 3) rfl rfl) (.r rfl (zAc (t := false) rfl rfl) .nil)))))))) ?_)
 refine zAT (t := (!(zAl (sd:Int) 0 3))) rfl (fun h1 => ?_) (fun h1 => ?_)
 ·
  replace h1 : (zAl (sd:Int) 0 3) = false := zAm h1
  rw [show zAl (sd : Int) 0 3 = true by simp only [zAl, Bool.and_eq_true, decide_eq_true_eq]; omega] at h1; cases h1
 ·
  replace h1 : (zAl (sd:Int) 0 3) = true := zAn h1
  refine zAK ?_
  refine zAB ?_
  refine zAO (s' := mk [(0, .p none (.sl false 1 (pvT us))), (1, .vi (sd:Int)), (4, .ptr 4 0)] [(4, [.vi 0, .vi 0, .vi 0, .vs ⟨#[]⟩])] []) ?_ ?_
  · exact zAJ ⟨rfl, rfl, rfl, trivial⟩ ⟨rfl, trivial⟩ trivial rfl
  refine zAA rfl (.m rfl rfl (.r rfl (zAp rfl rfl underlying59) (.m rfl rfl (.r rfl (zAp rfl rfl underlying59) (.r rfl (zAL (zDF rfl rfl rfl (by omega)) ((zAE (quo4 (by omega))))) (.r rfl (zAW rfl rfl rfl (by omega)) (.r rfl (zAL (zAW rfl rfl rfl (by omega)) ((zAE (zMc hle)))) (.a rfl rfl .nil)))))))) ?_
  refine zAB (zAA rfl (.m rfl rfl (.run [3200] [] rfl (zD8 rfl 3200 (l := ribM us) (c := ribM us) rfl rfl underlying130 zJH rfl rfl (by decide) rfl (by decide) (by omega) (by omega) (by simp only [maxLen]; omega)) (.a rfl rfl .nil))) ?_)
  have hr2 : List.replicate (ribM us) [PV.v (.int .i64 0), PV.v (.int .u64 0), PV.v (.int .u8 0)] = pvK (eq0 (ribM us)) := by exact eq0_all _
  have hl3 : ribM us = (pvK (eq0 (ribM us))).length := by first | (rw [← hr2, List.length_set]; done) | simp [zEb, eq0]
  have hp4 : (.sl 3200 0 (ribM us) : AV) = .sl 3200 0 ((pvK (eq0 (ribM us))).length) := by first | exact congrArg (AV.sl 3200 0) hl3 | simp only [hr2, hl3]
  refine zAO (s' := mk [(0, .p none (.sl false 1 (pvT us))), (1, .vi (sd:Int)), (4, .ptr 4 0), (6, .vi ((ribM us : Nat) : Int)), (7, .sl 3200 0 ((pvK (eq0 (ribM us))).length))] [(4, [.vi 0, .vi 0, .vi 0, .vs ⟨#[]⟩])] [(3200, 3, pvK (eq0 (ribM us)))]) ?_ ?_
  · exact zAJ ⟨rfl, rfl, rfl, rfl, hp4, trivial⟩ ⟨rfl, trivial⟩ ⟨(congrArg (fun x => some (3, x)) hr2), trivial⟩ rfl
  refine zAB ?_
  refine zAB (zAA rfl (.m rfl rfl (.r rfl (zAp rfl rfl underlying59) (.m rfl rfl .nil))) ?_)
  refine zAS ?_
  refine zAO (zCd 3200 1 rfl rfl (by decide)) ?_
  refine zAj (σ := Nat × List Eqn) (fun (i, K) => mk [(1, .vi (sd:Int)), (4, .ptr 4 0), (6, .vi ((ribM us : Nat) : Int)), (7, .sl 1 0 ((pvK K).length)), (33, .p none (.sl false 1 (pvT us))), (34, .vi ((pvT us).length : Int)), (35, .vi (i:Int))] [(4, [.vi 0, .vi 0, .vi 0, .vs ⟨#[]⟩])] [(1, 3, pvK K)]) (fun (i, K) => (i ≤ us.length ∧ KOk (ribM us) K) ∧ zCV us sd (ribM us) i = some K) (fun (i, K) => us.length - i) (0, eq0 (ribM us)) ⟨⟨Nat.zero_le _, zK8 _⟩, rfl⟩ (zAJ ⟨rfl, rfl, rfl, rfl, rfl, rfl, (zAE (by omega)), trivial⟩ ⟨rfl, trivial⟩ ⟨(congrArg (fun x => some (3, x)) (by rfl)), trivial⟩ rfl) ?_
  rintro ⟨i, K⟩ hG
  replace hG : (i ≤ us.length ∧ KOk (ribM us) K) ∧ zCV us sd (ribM us) i = some K := hG
  obtain ⟨⟨hi, hK⟩, hA⟩ := hG
  refine zAB (zAA rfl (.r rfl (zAt rfl rfl rfl) .nil) ?_)
  refine zAB ?_
  refine zAT (t := decide ((i:Int) < ((pvT us).length : Int))) rfl (fun h5 => ?_) (fun h5 => ?_)
  ·
   replace h5 := of_decide_eq_true h5
   refine zAK ?_
   refine zAB ?_
   refine zAS ?_
   refine zAB ?_
   obtain ⟨x, hx⟩ : ∃ x, us[i]? = some x := ⟨_, List.getElem?_eq_getElem (by omega)⟩
   have huo := hu _ (List.mem_of_getElem? hx)
   have hus := zC7 huo
   refine zAA rfl (.r rfl (zAq rfl rfl rfl underlying59 sizeOf9 rfl (by omega) (zCk hx)) (.r rfl (zAx rfl rfl isAgg9 rfl) (.a rfl rfl .nil))) ?_
   refine zAB (zAA rfl (.m rfl rfl (.m rfl rfl (.m rfl rfl (.run [4200, 4201, 4202] [] rfl (zAF rfl 4200 (X := []) en117 rfl (.val nod) (.cons (.one (.bor .v)) (.cons (.one (.bor .v)) (.cons (.one (.bor .v)) .nil))) (by decide) all_nil .nil (zOa x sd (ribM us) (by omega) (by omega) (by omega)) rfl rfl (nle rfl)) (.run [] [10] rfl (zBA rfl 10 zJH rfl (by decide) rfl (by decide)) (.r rfl (zAN rfl rfl rfl rfl rfl sizeOf132 rfl (nle rfl)) .nil)))))) ?_)
   refine zAB ?_
   refine zAS ?_
   refine zAj (σ := Nat × Nat × Nat × List Eqn) (fun (a, r, s, T) => mk [(1, .vi (sd:Int)), (4, .ptr 4 0), (6, .vi ((ribM us : Nat) : Int)), (7, .sl 1 0 ((pvK T).length)), (10, .ptr 10 0), (33, .p none (.sl false 1 (pvT us))), (34, .vi ((pvT us).length : Int)), (35, .vi (i:Int))] [(4, [.vi 0, .vi 0, .vi 0, .vs ⟨#[]⟩]), (10, [.vi (a:Int), .p none (.v (.int .u64 (r:Int))), .p none (.v (.int .u8 (s:Int)))])] [(1, 3, pvK T)]) (fun (a, r, s, T) => (RI (ribM us) a r s ∧ KOk (ribM us) T) ∧ ribE (ribM us) a r s T = ribE (ribM us) (atN (zA2 sd x) (ribM us)) (rowN (zA2 sd x)) (sumN (zA2 sd x)) K) (fun (a, r, s, T) => 2 * (ribM us - a) + r % 2) (atN (zA2 sd x) (ribM us), rowN (zA2 sd x), sumN (zA2 sd x), K) ⟨⟨zKn _ _ (by omega), hK⟩, rfl⟩ (zAJ ⟨rfl, rfl, rfl, rfl, rfl, rfl, rfl, rfl, trivial⟩ ⟨rfl, rfl, trivial⟩ ⟨rfl, trivial⟩ rfl) ?_
   rintro ⟨a, r, s, T⟩ hG
   replace hG : (RI (ribM us) a r s ∧ KOk (ribM us) T) ∧ ribE (ribM us) a r s T = ribE (ribM us) (atN (zA2 sd x) (ribM us)) (rowN (zA2 sd x)) (sumN (zA2 sd x)) K := hG
   obtain ⟨⟨hI, hT⟩, hR⟩ := hG
   have hI1 := hI.at_
   have hI2 := hI.row
   have hI3 := hI.sum
   refine zAB ?_
   refine zAB (zAA rfl (.r rfl (zAC rfl rfl underlying132 rfl sizeOf53 (by decide)) (.r rfl (zAD rfl rfl rfl isAgg53 rfl) (.r rfl (zB2 rfl rfl rfl) .nil))) ?_)
   refine zAT (t := (!(decide ((r:Int) = 0)))) rfl (fun h6 => ?_) (fun h6 => ?_)
   ·
    replace h6 : ¬ ((r:Int) = 0) := of_decide_eq_false (zAm h6)
    refine zAK ?_
    refine zAS ?_
    refine zAB ?_
    refine zAS ?_
    refine zAj (σ := Nat × Nat) (fun (b, q) => mk [(1, .vi (sd:Int)), (4, .ptr 4 0), (6, .vi ((ribM us : Nat) : Int)), (7, .sl 1 0 ((pvK T).length)), (10, .ptr 10 0), (33, .p none (.sl false 1 (pvT us))), (34, .vi ((pvT us).length : Int)), (35, .vi (i:Int))] [(4, [.vi 0, .vi 0, .vi 0, .vs ⟨#[]⟩]), (10, [.vi (b:Int), .p none (.v (.int .u64 (q:Int))), .p none (.v (.int .u8 (s:Int)))])] [(1, 3, pvK T)]) (fun (b, q) => ((RI (ribM us) b q s ∧ ¬ q = 0) ∧ ribE (ribM us) b q s T = ribE (ribM us) (atN (zA2 sd x) (ribM us)) (rowN (zA2 sd x)) (sumN (zA2 sd x)) K) ∧ 2 * (ribM us - b) + q % 2 ≤ 2 * (ribM us - a) + r % 2) (fun (b, q) => ribM us - b) (a, r) ⟨⟨⟨hI, by omega⟩, hR⟩, Nat.le_refl _⟩ (zAJ ⟨rfl, rfl, rfl, rfl, rfl, rfl, rfl, rfl, trivial⟩ ⟨rfl, rfl, trivial⟩ ⟨rfl, trivial⟩ rfl) ?_
    rintro ⟨b, q⟩ hG
    replace hG : ((RI (ribM us) b q s ∧ ¬ q = 0) ∧ ribE (ribM us) b q s T = ribE (ribM us) (atN (zA2 sd x) (ribM us)) (rowN (zA2 sd x)) (sumN (zA2 sd x)) K) ∧ 2 * (ribM us - b) + q % 2 ≤ 2 * (ribM us - a) + r % 2 := hG
    obtain ⟨⟨⟨hJ, hq⟩, hS⟩, hμ⟩ := hG
    have hJ1 := hJ.at_
    have hJ2 := hJ.row
    have hJ3 := hJ.sum
    refine zAB ?_
    refine zAB (zAA rfl (.r rfl (zAC rfl rfl underlying132 rfl sizeOf53 (by decide)) (.r rfl (zAD rfl rfl rfl isAgg53 rfl) (.r rfl (zGO (k := .u64) 18446744073709551616 rfl q 1 rfl rfl rfl rfl) (.r rfl (zBB rfl rfl rfl) .nil)))) ?_)
    refine zAT (t := decide ((((q &&& 1) % 18446744073709551616 : Nat) : Int) = 0)) rfl (fun h7 => ?_) (fun h7 => ?_)
    ·
     replace h7 := of_decide_eq_true h7
     refine zAK ?_
     refine zAS ?_
     refine zAB (zAA rfl (.r rfl (zAC rfl rfl underlying132 rfl sizeOf53 (by decide)) (.r rfl (zAD rfl rfl rfl isAgg53 rfl) (.r rfl (zAL (zBg q 1 rfl rfl rfl (by decide)) ((zAE (show ((q / 2 ^ 1 : Nat) : Int) = ((q / 2 : Nat) : Int) by rw [Nat.pow_one])))) (.r rfl (zAC rfl rfl underlying132 rfl sizeOf53 (by decide)) (.r rfl (zAN rfl rfl rfl rfl rfl sizeOf53 rfl (nle rfl)) .nil))))) ?_)
     refine zAA rfl (.r rfl (zAC rfl rfl underlying132 rfl sizeOf3 (by decide)) (.r rfl (zAD rfl rfl rfl isAgg3 rfl) (.r rfl (zAW rfl rfl rfl (by omega)) (.r rfl (zAC rfl rfl underlying132 rfl sizeOf3 (by decide)) (.r rfl (zAN rfl rfl rfl rfl rfl sizeOf3 rfl (nle rfl)) .nil))))) ?_
     refine nxt (Q := fun _ _ => False) (z := (b, q)) (b + 1, q / 2) ?_ ?_ ?_
     ·
      show ((RI (ribM us) (b + 1) (q / 2) s ∧ ¬ (q / 2) = 0) ∧ ribE (ribM us) (b + 1) (q / 2) s T = ribE (ribM us) (atN (zA2 sd x) (ribM us)) (rowN (zA2 sd x)) (sumN (zA2 sd x)) K) ∧ 2 * (ribM us - (b + 1)) + (q / 2) % 2 ≤ 2 * (ribM us - a) + r % 2
      exact ⟨⟨⟨(zF2 (K := T) hJ (zON h7) hq).2, by have := zON h7; omega⟩, (zF2 (K := T) hJ (zON h7) hq).1.trans hS⟩, by have := zON h7; have := hJ.in_ hq; omega⟩
     ·
      show ribM us - (b + 1) < ribM us - b
      have := hJ.in_ hq; omega
     · exact zAJ ⟨rfl, rfl, rfl, rfl, rfl, rfl, rfl, rfl, trivial⟩ ⟨rfl, rfl, trivial⟩ ⟨rfl, trivial⟩ rfl
    ·
     replace h7 := of_decide_eq_false h7
     refine zAi ?_
     refine zAB ?_
     have hb0 := hJ.in_ hq
     have hodd := low_n h7
     have hTl := hT.len
     have hTk := zEb T
     obtain ⟨e, he⟩ : ∃ e, T[b]? = some e := ⟨_, List.getElem?_eq_getElem (by omega)⟩
     refine zAA rfl (.m rfl rfl (.r rfl (zAC rfl rfl underlying132 rfl sizeOf3 (by decide)) (.r rfl (zAD rfl rfl rfl isAgg3 rfl) (.r rfl (zA1 b rfl rfl rfl rfl underlying130 sizeOf132 rfl rfl (by omega)) (.a rfl rfl .nil))))) ?_
     refine zAB ?_
     refine zAB (zAA rfl (.m rfl rfl (.r rfl (zAd rfl rfl) (.r rfl (zAs rfl rfl underlying132 rfl sizeOf53 (by decide)) (.r rfl (zA4 rfl rfl rfl (zGe he) isAgg53 rfl) (.r rfl (zBB rfl rfl rfl) .nil))))) ?_)
     refine zAT (t := decide (((e.row : Nat) : Int) = 0)) rfl (fun h8 => ?_) (fun h8 => ?_)
     ·
      replace h8 := of_decide_eq_true h8
      refine zAB ?_
      refine zAO (s' := mk [(1, .vi (sd:Int)), (4, .ptr 4 0), (6, .vi ((ribM us : Nat) : Int)), (7, .sl 1 0 ((pvK T).length)), (10, .ptr 10 0), (11, .ea 1 b 0), (33, .p none (.sl false 1 (pvT us))), (34, .vi ((pvT us).length : Int)), (35, .vi (i:Int))] [(4, [.vi 0, .vi 0, .vi 0, .vs ⟨#[]⟩]), (10, [.vi (b:Int), .p none (.v (.int .u64 (q:Int))), .p none (.v (.int .u8 (s:Int)))])] [(1, 3, pvK T)]) ?_ ?_
      · exact zAJ ⟨rfl, rfl, rfl, rfl, rfl, rfl, rfl, rfl, rfl, trivial⟩ ⟨rfl, rfl, trivial⟩ ⟨rfl, trivial⟩ rfl
      refine zAA rfl (.m rfl rfl (.r rfl (zAZ rfl rfl rfl isAgg132 sizeOf132 (nle rfl)) (.r rfl (zAd rfl rfl) (.r rfl (zA9 rfl rfl rfl (FlatP.nf (zOD _)) (zGe he) rfl rfl (.cons .v (.cons .v (.cons .v .nil))) sizeOf132 rfl (nle rfl)) .nil)))) ?_
      have hr9 : (pvK T).set b [PV.v (.int .i64 (b:Int)), PV.v (.int .u64 (q:Int)), PV.v (.int .u8 (s:Int))] = pvK (T.set b ⟨b, q, s⟩) := by exact pvK_set ⟨b, q, s⟩
      have hl10 : (pvK T).length = (pvK (T.set b ⟨b, q, s⟩)).length := by first | (rw [← hr9, List.length_set]; done) | simp [zEb]
      have hp11 : (.sl 1 0 ((pvK T).length) : AV) = .sl 1 0 ((pvK (T.set b ⟨b, q, s⟩)).length) := by first | exact congrArg (AV.sl 1 0) hl10 | simp only [hr9, hl10]
      refine zAO (s' := mk [(1, .vi (sd:Int)), (4, .ptr 4 0), (6, .vi ((ribM us : Nat) : Int)), (7, .sl 1 0 ((pvK (T.set b ⟨b, q, s⟩)).length)), (10, .ptr 10 0), (33, .p none (.sl false 1 (pvT us))), (34, .vi ((pvT us).length : Int)), (35, .vi (i:Int))] [(4, [.vi 0, .vi 0, .vi 0, .vs ⟨#[]⟩]), (10, [.vi (b:Int), .p none (.v (.int .u64 (q:Int))), .p none (.v (.int .u8 (s:Int)))])] [(1, 3, pvK (T.set b ⟨b, q, s⟩))]) ?_ ?_
      · exact zAJ ⟨rfl, rfl, rfl, hp11, rfl, rfl, rfl, rfl, trivial⟩ ⟨rfl, rfl, trivial⟩ ⟨(congrArg (fun x => some (3, x)) hr9), trivial⟩ rfl
      refine zAi ?_
      refine zAB ?_
      rcases bfc (decide ((q:Int) = 0)) with h12 | h12
      ·
       have h12' := h12
       replace h12' := of_decide_eq_false h12'
       refine zAA rfl (.r rfl (zAC rfl rfl underlying132 rfl sizeOf53 (by decide)) (.r rfl (zAD rfl rfl rfl isAgg53 rfl) (.r rfl (zAL (zBB rfl rfl rfl) (zAG h12)) (.m rfl rfl (.not rfl (.not rfl (.not rfl (.r rfl (zAc (t := false) rfl rfl) .nil)))))))) ?_
       refine zAT (t := false) rfl (fun h => nomatch h) (fun _ => ?_)
       refine zAK ?_
       refine zAA rfl (.r rfl (zAW rfl rfl rfl (by omega)) (.m rfl rfl .nil)) ?_
       refine nxt (Q := fun _ _ => False) (z := (i, K)) (i + 1, T.set b ⟨b, q, s⟩) ?_ ?_ ?_
       ·
        show ((i + 1) ≤ us.length ∧ KOk (ribM us) (T.set b ⟨b, q, s⟩)) ∧ zCV us sd (ribM us) (i + 1) = some (T.set b ⟨b, q, s⟩)
        exact ⟨⟨by omega, (zFB hJ hT hodd he (by omega)).2.2⟩, (zCU hA hx).trans (hS.symm.trans (zJ9 hJ hT hodd he (by omega)).1)⟩
       ·
        show us.length - (i + 1) < us.length - i
        omega
       · exact zAJ ⟨rfl, rfl, rfl, rfl, rfl, rfl, (zAE (by omega)), trivial⟩ ⟨rfl, trivial⟩ ⟨rfl, trivial⟩ rfl
      ·
       have h12' := h12
       replace h12' := of_decide_eq_true h12'
       refine zAA rfl (.r rfl (zAC rfl rfl underlying132 rfl sizeOf53 (by decide)) (.r rfl (zAD rfl rfl rfl isAgg53 rfl) (.r rfl (zAL (zBB rfl rfl rfl) (zAG h12)) (.m rfl rfl (.r rfl (zAC rfl rfl underlying132 rfl sizeOf5 (by decide)) (.r rfl (zAD rfl rfl rfl isAgg5 rfl) (.r rfl (zB2 rfl rfl rfl) (.r rfl (zAc (t := true) rfl rfl) .nil)))))))) ?_
       refine zAT (t := (!(decide ((s:Int) = 0)))) rfl (fun h13 => ?_) (fun h13 => ?_)
       ·
        replace h13 : ¬ ((s:Int) = 0) := of_decide_eq_false (zAm h13)
        refine zAB ?_
        have hN := zEy (zFX ((zCU hA hx).trans (hR.symm.trans (by rw [show r = 0 by omega, zEB, if_neg (by omega)]))) (show i + 1 ≤ us.length by omega))
        rw [hN]
        refine zAA rfl (.r rfl (zAw (pl := [(0, 1), (1, 1), (2, 1), (3, 1)]) rfl underlying62 zC5 (by kernel_rfl) rfl rfl) (.r rfl (zAN rfl rfl rfl rfl rfl sizeOf62 rfl (nle rfl)) (.a rfl rfl .nil))) ?_
        refine zAI ?_
        exact ends [_, _] [] (.cons (.cell rfl rfl isAgg62 sizeOf62 (nle rfl)) (.cons (.tmp rfl) .nil)) (.cons (.agg (.cons .v (.cons .v (.cons .v (.cons .v .nil)))) (zAM (.v _) (zAM (.v _) (zAM (.v _) (zAM (.v _) zBQ))))) (.cons (.one .v (.v _)) .nil)) (by decide) trivial
       ·
        replace h13 : (s:Int) = 0 := of_decide_eq_true (zAn h13)
        refine zAK ?_
        refine zAA rfl (.r rfl (zAW rfl rfl rfl (by omega)) (.m rfl rfl .nil)) ?_
        refine nxt (Q := fun _ _ => False) (z := (i, K)) (i + 1, T.set b ⟨b, q, s⟩) ?_ ?_ ?_
        ·
         show ((i + 1) ≤ us.length ∧ KOk (ribM us) (T.set b ⟨b, q, s⟩)) ∧ zCV us sd (ribM us) (i + 1) = some (T.set b ⟨b, q, s⟩)
         exact ⟨⟨by omega, (zFB hJ hT hodd he (by omega)).2.2⟩, (zCU hA hx).trans (hS.symm.trans (zJ9 hJ hT hodd he (by omega)).1)⟩
        ·
         show us.length - (i + 1) < us.length - i
         omega
        · exact zAJ ⟨rfl, rfl, rfl, rfl, rfl, rfl, (zAE (by omega)), trivial⟩ ⟨rfl, trivial⟩ ⟨rfl, trivial⟩ rfl
     ·
      replace h8 := of_decide_eq_false h8
      refine zAK ?_
      refine zAB ?_
      have hxx := zMb hJ hT hodd he (by omega)
      have hx1 := hxx.2.1.row
      have hx2 := hxx.2.1.sum
      refine zAO (s' := mk [(1, .vi (sd:Int)), (4, .ptr 4 0), (6, .vi ((ribM us : Nat) : Int)), (7, .sl 1 0 ((pvK T).length)), (10, .ptr 10 0), (11, .ea 1 b 0), (33, .p none (.sl false 1 (pvT us))), (34, .vi ((pvT us).length : Int)), (35, .vi (i:Int))] [(4, [.vi 0, .vi 0, .vi 0, .vs ⟨#[]⟩]), (10, [.vi (b:Int), .p none (.v (.int .u64 (q:Int))), .p none (.v (.int .u8 (s:Int)))])] [(1, 3, pvK T)]) ?_ ?_
      · exact zAJ ⟨rfl, rfl, rfl, rfl, rfl, rfl, rfl, rfl, rfl, trivial⟩ ⟨rfl, rfl, trivial⟩ ⟨rfl, trivial⟩ rfl
      refine zAb zBh rfl (.r rfl (zAC rfl rfl underlying132 rfl sizeOf53 (by decide)) (.r rfl (zAD rfl rfl rfl isAgg53 rfl) (.m rfl rfl (.r rfl (zAd rfl rfl) (.r rfl (zAs rfl rfl underlying132 rfl sizeOf53 (by decide)) (.r rfl (zA4 rfl rfl rfl (zGe he) isAgg53 rfl) (.r rfl (zAL (zB4 (k := .u64) 18446744073709551616 rfl q e.row rfl rfl rfl rfl) ((zAE (show (((q ^^^ e.row) % 18446744073709551616 : Nat) : Int) = ((q ^^^ e.row : Nat) : Int) by omega)))) (.r rfl (zAC rfl rfl underlying132 rfl sizeOf53 (by decide)) (.r rfl (zAN rfl rfl rfl rfl rfl sizeOf53 rfl (nle rfl)) .nil))))))))) (by kernel_rfl) ?_
      refine zAO (s' := mk [(1, .vi (sd:Int)), (4, .ptr 4 0), (6, .vi ((ribM us : Nat) : Int)), (7, .sl 1 0 ((pvK T).length)), (10, .ptr 10 0), (11, .ea 1 b 0), (33, .p none (.sl false 1 (pvT us))), (34, .vi ((pvT us).length : Int)), (35, .vi (i:Int))] [(4, [.vi 0, .vi 0, .vi 0, .vs ⟨#[]⟩]), (10, [.vi (b:Int), .p none (.v (.int .u64 ((q ^^^ e.row : Nat) : Int))), .p none (.v (.int .u8 (s:Int)))])] [(1, 3, pvK T)]) ?_ ?_
      · exact zAJ ⟨rfl, rfl, rfl, rfl, rfl, rfl, rfl, rfl, rfl, trivial⟩ ⟨rfl, rfl, trivial⟩ ⟨rfl, trivial⟩ rfl
      refine zAb zBh rfl (.r rfl (zAC rfl rfl underlying132 rfl sizeOf5 (by decide)) (.r rfl (zAD rfl rfl rfl isAgg5 rfl) (.m rfl rfl (.r rfl (zAd rfl rfl) (.r rfl (zAs rfl rfl underlying132 rfl sizeOf5 (by decide)) (.r rfl (zA4 rfl rfl rfl (zGe he) isAgg5 rfl) (.r rfl (zAL (zB4 (k := .u8) 256 rfl s e.sum rfl rfl rfl rfl) ((zAE (show (((s ^^^ e.sum) % 256 : Nat) : Int) = ((s ^^^ e.sum : Nat) : Int) by omega)))) (.r rfl (zAC rfl rfl underlying132 rfl sizeOf5 (by decide)) (.r rfl (zAN rfl rfl rfl rfl rfl sizeOf5 rfl (nle rfl)) .nil))))))))) (by kernel_rfl) ?_
      refine nxt (Q := fun _ _ => False) (z := (a, r, s, T)) (b, q ^^^ e.row, s ^^^ e.sum, T) ?_ ?_ ?_
      ·
       show (RI (ribM us) b (q ^^^ e.row) (s ^^^ e.sum) ∧ KOk (ribM us) T) ∧ ribE (ribM us) b (q ^^^ e.row) (s ^^^ e.sum) T = ribE (ribM us) (atN (zA2 sd x) (ribM us)) (rowN (zA2 sd x)) (sumN (zA2 sd x)) K
       exact ⟨⟨hxx.2.1, hT⟩, hxx.1.trans hS⟩
      ·
       show 2 * (ribM us - b) + (q ^^^ e.row) % 2 < 2 * (ribM us - a) + r % 2
       have := hxx.2.2; omega
      · exact zAJ ⟨rfl, rfl, rfl, rfl, rfl, rfl, rfl, rfl, trivial⟩ ⟨rfl, rfl, trivial⟩ ⟨rfl, trivial⟩ rfl
   ·
    replace h6 : (r:Int) = 0 := of_decide_eq_true (zAn h6)
    refine zAi ?_
    refine zAB ?_
    rcases bfc (decide ((r:Int) = 0)) with h14 | h14
    ·
     have h14' := h14
     replace h14' := of_decide_eq_false h14'
     refine zAA rfl (.r rfl (zAC rfl rfl underlying132 rfl sizeOf53 (by decide)) (.r rfl (zAD rfl rfl rfl isAgg53 rfl) (.r rfl (zAL (zBB rfl rfl rfl) (zAG h14)) (.m rfl rfl (.not rfl (.not rfl (.not rfl (.r rfl (zAc (t := false) rfl rfl) .nil)))))))) ?_
     refine zAT (t := false) rfl (fun h => nomatch h) (fun _ => ?_)
     refine zAK ?_
     refine zAA rfl (.r rfl (zAW rfl rfl rfl (by omega)) (.m rfl rfl .nil)) ?_
     refine nxt (Q := fun _ _ => False) (z := (i, K)) (i + 1, T) ?_ ?_ ?_
     ·
      show ((i + 1) ≤ us.length ∧ KOk (ribM us) T) ∧ zCV us sd (ribM us) (i + 1) = some T
      exact ⟨⟨by omega, hT⟩, (zCU hA hx).trans (hR.symm.trans (by rw [show r = 0 by omega, show s = 0 by omega, zEB, if_pos rfl]))⟩
     ·
      show us.length - (i + 1) < us.length - i
      omega
     · exact zAJ ⟨rfl, rfl, rfl, rfl, rfl, rfl, (zAE (by omega)), trivial⟩ ⟨rfl, trivial⟩ ⟨rfl, trivial⟩ rfl
    ·
     have h14' := h14
     replace h14' := of_decide_eq_true h14'
     refine zAA rfl (.r rfl (zAC rfl rfl underlying132 rfl sizeOf53 (by decide)) (.r rfl (zAD rfl rfl rfl isAgg53 rfl) (.r rfl (zAL (zBB rfl rfl rfl) (zAG h14)) (.m rfl rfl (.r rfl (zAC rfl rfl underlying132 rfl sizeOf5 (by decide)) (.r rfl (zAD rfl rfl rfl isAgg5 rfl) (.r rfl (zB2 rfl rfl rfl) (.r rfl (zAc (t := true) rfl rfl) .nil)))))))) ?_
     refine zAT (t := (!(decide ((s:Int) = 0)))) rfl (fun h15 => ?_) (fun h15 => ?_)
     ·
      replace h15 : ¬ ((s:Int) = 0) := of_decide_eq_false (zAm h15)
      refine zAB ?_
      have hN := zEy (zFX ((zCU hA hx).trans (hR.symm.trans (by rw [show r = 0 by omega, zEB, if_neg (by omega)]))) (show i + 1 ≤ us.length by omega))
      rw [hN]
      refine zAA rfl (.r rfl (zAw (pl := [(0, 1), (1, 1), (2, 1), (3, 1)]) rfl underlying62 zC5 (by kernel_rfl) rfl rfl) (.r rfl (zAN rfl rfl rfl rfl rfl sizeOf62 rfl (nle rfl)) (.a rfl rfl .nil))) ?_
      refine zAI ?_
      exact ends [_, _] [] (.cons (.cell rfl rfl isAgg62 sizeOf62 (nle rfl)) (.cons (.tmp rfl) .nil)) (.cons (.agg (.cons .v (.cons .v (.cons .v (.cons .v .nil)))) (zAM (.v _) (zAM (.v _) (zAM (.v _) (zAM (.v _) zBQ))))) (.cons (.one .v (.v _)) .nil)) (by decide) trivial
     ·
      replace h15 : (s:Int) = 0 := of_decide_eq_true (zAn h15)
      refine zAK ?_
      refine zAA rfl (.r rfl (zAW rfl rfl rfl (by omega)) (.m rfl rfl .nil)) ?_
      refine nxt (Q := fun _ _ => False) (z := (i, K)) (i + 1, T) ?_ ?_ ?_
      ·
       show ((i + 1) ≤ us.length ∧ KOk (ribM us) T) ∧ zCV us sd (ribM us) (i + 1) = some T
       exact ⟨⟨by omega, hT⟩, (zCU hA hx).trans (hR.symm.trans (by rw [show r = 0 by omega, show s = 0 by omega, zEB, if_pos rfl]))⟩
      ·
       show us.length - (i + 1) < us.length - i
       omega
      · exact zAJ ⟨rfl, rfl, rfl, rfl, rfl, rfl, (zAE (by omega)), trivial⟩ ⟨rfl, trivial⟩ ⟨rfl, trivial⟩ rfl
  ·
   replace h5 := of_decide_eq_false h5
   refine zAi ?_
   refine zAB ?_
   have hQ := zGW (show zCV us sd (ribM us) us.length = some K by rw [show us.length = i by omega]; exact hA)
   rw [hQ]
   refine zAA rfl (.m rfl rfl (.run [9700] [] rfl (zD8 rfl 9700 (l := ribM us) (c := ribM us) rfl rfl underlying90 inf5 rfl rfl (by decide) rfl (by decide) (by omega) (by omega) (by simp only [maxLen]; omega)) (.a rfl rfl .nil))) ?_
   have hr16 : List.replicate (ribM us) [PV.v (.int .u8 0)] = pvNb (bitK K (ribM us) 0) := by exact zHp K _
   have hl17 : ribM us = (pvNb (bitK K (ribM us) 0)).length := by first | (rw [← hr16, List.length_set]; done) | simp [zBK, zDj]
   have hp18 : (.sl 9700 0 (ribM us) : AV) = .sl 9700 0 ((pvNb (bitK K (ribM us) 0)).length) := by first | exact congrArg (AV.sl 9700 0) hl17 | simp only [hr16, hl17]
   refine zAO (s' := mk [(1, .vi (sd:Int)), (4, .ptr 4 0), (6, .vi ((ribM us : Nat) : Int)), (7, .sl 1 0 ((pvK K).length)), (12, .sl 9700 0 ((pvNb (bitK K (ribM us) 0)).length))] [(4, [.vi 0, .vi 0, .vi 0, .vs ⟨#[]⟩])] [(1, 3, pvK K), (9700, 1, pvNb (bitK K (ribM us) 0))]) ?_ ?_
   · exact zAJ ⟨rfl, rfl, rfl, rfl, hp18, trivial⟩ ⟨rfl, trivial⟩ ⟨rfl, (congrArg (fun x => some (1, x)) hr16), trivial⟩ rfl
   refine zAB ?_
   refine zAB (zAA rfl (.m rfl rfl (.r rfl (zBw rfl rfl rfl (by omega)) (.a rfl rfl .nil))) ?_)
   refine zAS ?_
   refine zAO (zCd 9700 3 rfl rfl (by decide)) ?_
   refine zAj (σ := Nat) (fun j => mk [(1, .vi (sd:Int)), (4, .ptr 4 0), (7, .sl 1 0 ((pvK K).length)), (12, .sl 3 0 ((pvNb (bitK K (ribM us) j)).length)), (13, .vi (((ribM us : Nat) : Int) - 1 - (j : Int)))] [(4, [.vi 0, .vi 0, .vi 0, .vs ⟨#[]⟩])] [(1, 3, pvK K), (3, 1, pvNb (bitK K (ribM us) j))]) (fun j => j ≤ ribM us) (fun j => ribM us - j) 0 (by simp) (zAJ ⟨rfl, rfl, rfl, rfl, (zAE (by omega)), trivial⟩ ⟨rfl, trivial⟩ ⟨rfl, (congrArg (fun x => some (1, x)) (by rfl)), trivial⟩ rfl) ?_
   rintro j hG
   replace hG : j ≤ ribM us := hG
   have hbt := zKX hK j
   have hbl := zDj K (ribM us) j
   have hbv := zBK (bitK K (ribM us) j)
   refine zAB ?_
   refine zAB (zAA rfl (.m rfl rfl (.r rfl (zDH rfl rfl rfl) .nil)) ?_)
   refine zAT (t := decide (0 ≤ (((ribM us : Nat) : Int) - 1 - (j : Int)))) rfl (fun h19 => ?_) (fun h19 => ?_)
   ·
    replace h19 := of_decide_eq_true h19
    refine zAK ?_
    refine zAB ?_
    refine zAS ?_
    refine zAB ?_
    have hKl := hK.len
    have hKk := zEb K
    obtain ⟨e, he⟩ : ∃ e, K[ribM us - 1 - j]? = some e := ⟨_, List.getElem?_eq_getElem (by omega)⟩
    have hE := hK.all _ e he
    have hE1 := hE.1
    have hE3 := hE.2.2.1
    refine zAA rfl (.m rfl rfl (.r rfl (zAL (zBM rfl) ((zAE (by omega)))) (.r rfl (zA1 (ribM us - 1 - j) rfl rfl rfl rfl underlying130 sizeOf132 rfl rfl (by omega)) (.r rfl (zLd rfl rfl rfl (zGe he) isAgg132 sizeOf132 (nle rfl)) (.run [] [14] rfl (zBA rfl 14 zJH rfl (by decide) rfl (by decide)) (.r rfl (zAN rfl rfl rfl rfl rfl sizeOf132 rfl (nle rfl)) .nil)))))) ?_
    refine zAB (zAA rfl (.r rfl (zAC rfl rfl underlying132 rfl sizeOf53 (by decide)) (.r rfl (zAD rfl rfl rfl isAgg53 rfl) (.r rfl (zB2 rfl rfl rfl) .nil))) ?_)
    refine zAT (t := (!(decide (((e.row : Nat) : Int) = 0)))) rfl (fun h20 => ?_) (fun h20 => ?_)
    ·
     replace h20 : ¬ (((e.row : Nat) : Int) = 0) := of_decide_eq_false (zAm h20)
     obtain ⟨b, hb⟩ : ∃ b, (bitK K (ribM us) j)[ribM us - 1 - j]? = some b := ⟨_, List.getElem?_eq_getElem (by omega)⟩
     refine zAO (s' := mk [(1, .vi (sd:Int)), (4, .ptr 4 0), (7, .sl 1 0 ((pvK K).length)), (12, .sl 3 0 ((pvNb (bitK K (ribM us) j)).length)), (13, .vi (((ribM us : Nat) : Int) - 1 - (j : Int))), (14, .ptr 14 0)] [(4, [.vi 0, .vi 0, .vi 0, .vs ⟨#[]⟩]), (14, [.vi ((e.place : Nat) : Int), .p none (.v (.int .u64 ((e.row : Nat) : Int))), .p none (.v (.int .u8 ((e.sum : Nat) : Int)))])] [(1, 3, pvK K), (3, 1, pvNb (bitK K (ribM us) j))]) ?_ ?_
     · exact zAJ ⟨rfl, rfl, rfl, rfl, rfl, rfl, trivial⟩ ⟨rfl, rfl, trivial⟩ ⟨rfl, rfl, trivial⟩ rfl
     refine zAb zBh rfl (.m rfl rfl (.r rfl (zAL (zBM rfl) ((zAE (by omega)))) (.r rfl (zAC rfl rfl underlying132 rfl sizeOf5 (by decide)) (.r rfl (zAD rfl rfl rfl isAgg5 rfl) (.m rfl rfl (.r rfl (zAL (zBM rfl) ((zAE (by omega)))) (.r rfl (zAC rfl rfl underlying132 rfl sizeOf53 (by decide)) (.r rfl (zAD rfl rfl rfl isAgg53 rfl) (.r rfl (st_not1 e.row rfl rfl rfl (by omega)) (.run [3, 12000] [] rfl (zAF rfl 12000 (X := []) en118 rfl (.val nod) (.cons (.one (.bor (.all (len := (pvNb (bitK K (ribM us) j)).length) (xs := pvNb (bitK K (ribM us) j)) rfl rfl (by decide)))) (.cons (.one (.bor .v)) (.cons (.one (.bor .v)) .nil))) (by decide) all_nil .nil (zMO (bitK K (ribM us) j) (ribM us - 1 - j) (e.row / 2 * 2) (ribM us) hbt hbl (by omega) (Nat.lt_of_le_of_lt (by omega) hE.2.1) (by omega) (by omega)) rfl rfl (nle rfl)) (.r rfl (zB4 (k := .u8) 256 rfl e.sum (solT (bitK K (ribM us) j) (ribM us - 1 - j) (e.row / 2 * 2) 16) rfl rfl rfl rfl) (.r rfl (zA1 (ribM us - 1 - j) rfl rfl rfl rfl underlying90 sizeOf5 rfl rfl (by omega)) (.r rfl (zA9 rfl rfl rfl (FlatP.nf (zDW _)) (zCS hb) rfl rfl (.cons .v .nil) sizeOf5 rfl (nle rfl)) .nil))))))))))))) (by kernel_rfl) ?_
     have hr21 : (pvNb (bitK K (ribM us) j)).set (ribM us - 1 - j) [PV.v (.int .u8 (((e.sum ^^^ (solT (bitK K (ribM us) j) (ribM us - 1 - j) (e.row / 2 * 2) 16)) % 256 : Nat) : Int))] = pvNb (bitK K (ribM us) (j + 1)) := by rw [Nat.mod_eq_of_lt (Nat.lt_trans (Nat.xor_lt_two_pow (n := 7) hE3 (zEu hbt _ _ _)) (by decide)), zFE, zG6 he]
     have hl22 : (pvNb (bitK K (ribM us) j)).length = (pvNb (bitK K (ribM us) (j + 1))).length := by first | (rw [← hr21, List.length_set]; done) | simp [zBK]
     have hp23 : (.sl 3 0 ((pvNb (bitK K (ribM us) j)).length) : AV) = .sl 3 0 ((pvNb (bitK K (ribM us) (j + 1))).length) := by first | exact congrArg (AV.sl 3 0) hl22 | simp only [hr21, hl22]
     refine zAO (s' := mk [(1, .vi (sd:Int)), (4, .ptr 4 0), (7, .sl 1 0 ((pvK K).length)), (12, .sl 3 0 ((pvNb (bitK K (ribM us) (j + 1))).length)), (13, .vi (((ribM us : Nat) : Int) - 1 - (j : Int)))] [(4, [.vi 0, .vi 0, .vi 0, .vs ⟨#[]⟩])] [(1, 3, pvK K), (3, 1, pvNb (bitK K (ribM us) (j + 1)))]) ?_ ?_
     · exact zAJ ⟨rfl, rfl, rfl, hp23, rfl, trivial⟩ ⟨rfl, trivial⟩ ⟨rfl, (congrArg (fun x => some (1, x)) hr21), trivial⟩ rfl
     refine zAA rfl (.m rfl rfl (.r rfl (zBw rfl rfl rfl (by omega)) (.a rfl rfl .nil))) ?_
     refine nxt (Q := fun _ _ => False) (z := j) (j + 1) ?_ ?_ ?_
     ·
      show (j + 1) ≤ ribM us
      omega
     ·
      show ribM us - (j + 1) < ribM us - j
      omega
     · exact zAJ ⟨rfl, rfl, rfl, rfl, (zAE (by omega)), trivial⟩ ⟨rfl, trivial⟩ ⟨rfl, rfl, trivial⟩ rfl
    ·
     replace h20 : ((e.row : Nat) : Int) = 0 := of_decide_eq_true (zAn h20)
     refine zAK ?_
     refine zAA rfl (.m rfl rfl (.r rfl (zBw rfl rfl rfl (by omega)) (.a rfl rfl .nil))) ?_
     refine nxt (Q := fun _ _ => False) (z := j) (j + 1) ?_ ?_ ?_
     ·
      show (j + 1) ≤ ribM us
      omega
     ·
      show ribM us - (j + 1) < ribM us - j
      omega
     · exact zAJ ⟨rfl, rfl, rfl, (congrArg (fun z => AV.sl 3 0 (pvNb z).length) (zJj hK (by omega) he (by omega)).symm), (zAE (by omega)), trivial⟩ ⟨rfl, trivial⟩ ⟨rfl, (congrArg (fun x => some (1, x)) (by rw [zJj hK (by omega) he (by omega)])), trivial⟩ rfl
   ·
    replace h19 := of_decide_eq_false h19
    refine zAi ?_
    refine zAB (zAA rfl (.m rfl rfl (.m rfl rfl (.r rfl (zCc (ints (bitK K (ribM us) (ribM us))) rfl rfl (.give (len := (pvNb (bitK K (ribM us) j)).length) (xs := pvNb (bitK K (ribM us) j)) rfl rfl) rfl (by rw [show j = ribM us by omega]; exact zCy _) underlying90 underlying9 underlying5) (.r rfl (zAw (pl := [(0, 1), (1, 1), (2, 1), (3, 1)]) rfl underlying62 zC5 (by kernel_rfl) rfl rfl) (.r rfl (zAN rfl rfl rfl rfl rfl sizeOf62 rfl (nle rfl)) (.a rfl rfl .nil)))))) ?_)
    refine zAI ?_
    exact ends [_, _] [] (.cons (.cell rfl rfl isAgg62 sizeOf62 (nle rfl)) (.cons (.tmp rfl) .nil)) (.cons (.agg (.cons .v (.cons .v (.cons .v (.cons .v .nil)))) (zAM (.v _) (zAM (.v _) (zAM (.v _) (zAM (.v _) zBQ))))) (.cons (.one .v (.v _)) .nil)) (by decide) trivial
end Go.Rl
namespace Go.Rl
open Go.RowKit
section
variable {w0 : World} {I : Fr} {n : Nat} {L : Pl} {s : St} {a : Act} {w : World}
theorem Rel.freshZ (h : Rel w0 I n L s a w) (id : Nat) {cur : Array Value} (e : TypeId) {fz : Nat × Nat} {c : Nat} {xs : List (List PV)} (hlen : ∀ es ∈ xs, es.length = 1) (hsz : cur.size = c * 1) (hc : xs.length ≤ c) (hc0 : 0 < c) (hm : c ≤ maxLen)
  (hp : ∀ (j : Nat) p, xs.flatten[j]? = some p → ∃ u, cur[j]? = some u ∧ PVO L.Z w p u []) (hfz : FzOk fz cur.size 1) (hid1 : id < pinT) (hid : s.r id = none ∨ id ∈ ([] : List Nat)) :
  ∃ N, Rel w0 I n (L.row id (.slice (some ⟨w.heap.size, 0, none⟩) xs.length c) N) { t := fun i => (s.t i).kill [], b := fun j => (s.b j).map (AV.kills []), r := upd (s.kill []).r id (some (1, xs)) } a (w.alloc (.cells cur e fz)) := by
 refine ⟨w.heap.size :: (List.range xs.flatten.length).flatMap (fun _ => []), ?_⟩
 refine h.setrow [] (J := []) ((Same.refl [] w).push _) (by simp) (zIA hlen (heap_alloc_new w _) hsz hc hc0 hm (fun _ => []) (fun j p hj => ?_) hfz) (fun k hk => ?_) (by rw [zBc]; simp) hid1 hid
 ·
  obtain ⟨u, hu, hr⟩ := hp j p hj
  exact ⟨u, hu, zO7 hr (fun k hk => (h.zlt k hk).1) _⟩
 ·
  rw [zBc, List.mem_singleton] at hk
  exact .inr (Nat.le_of_eq hk.symm)
end
def zA8 (b : ByteArray) : List Nat := b.data.toList.map UInt8.toNat
theorem zDM (b : ByteArray) : (zA8 b).length = b.size := by simp [zA8]
theorem zG1 {b : ByteArray} : ∀ x ∈ zA8 b, x < 256 := fun x hx => by
 obtain ⟨y, _, rfl⟩ := List.mem_map.1 hx
 exact y.toNat_lt
theorem zJY {b : ByteArray} {c j : Nat} {x : Nat} (h : (zA8 b)[j]? = some x) : (bytesRow b c)[j]? = some (.int .u8 ((x : Nat) : Int)) := by
 have hlt : j < b.data.size := by
  have := (List.getElem?_eq_some_iff.1 h).1
  simpa [zA8] using this
 rw [zA8, List.getElem?_map] at h
 rw [bytesRow, Array.getElem?_append_left (by simpa using hlt), Array.getElem?_map]
 have e : b.data.toList[j]? = b.data[j]? := by simp
 rw [e, Array.getElem?_eq_getElem hlt] at h
 rw [Array.getElem?_eq_getElem hlt]
 simp only [Option.map_some, Option.some.injEq] at h ⊢
 rw [h]
section
variable {γ : Gho} {P : Program} {n : Nat} {o : Oper} {M B : List Nat} {s : St}
theorem zHx {t u e : TypeId} {x : Operand} (ho : o.op = .convert t u x) (id : Nat) {d : Option Nat} (b : ByteArray) (hx : s.ev x = .p d (.v (.string b))) (ht : P.underlying t = some .string) (hu : P.underlying u = some (.slice e)) (he : P.underlying e = some (.int .u8))
  (hid1 : id < pinT) (hid : s.r id = none) (hM : id ∈ M) (hpos : 0 < b.size) (hm : b.size ≤ maxLen) :
  StepD γ P n o M B s { put := .sl id 0 (pvNb (zA8 b)).length, setR := [(id, 1, pvNb (zA8 b))] } := by
 intro s' ag hd w0 I L a w hG hr K Q hK
 have e1 := hr.evv ((ag.ev1 ho (by simp [Op.operands])).trans hx)
 have hid' : s'.r id = none := (ag.m id hM).trans hid
 have hrun := run_bytes_of_string (P := P) w t u e b ht hu he
 have hge := grownCap_ge w b.size 0 e
 have hcm := grownCap_le_maxLen w b.size 0 e hm
 have hdr : Rel w0 I n L s' a w.drew := hr.drawn _
 have hnl : (pvNb (zA8 b)).length = b.size := by rw [zBK, zDM]
 have hsize : (bytesRow b (grownCap w b.size 0 e)).size = grownCap w b.size 0 e * 1 := by
  have hs : b.data.size = b.size := rfl
  simp only [bytesRow, Array.size_append, Array.size_map, Array.size_replicate]
  omega
 obtain ⟨N, hfr⟩ := hdr.freshZ id (cur := bytesRow b (grownCap w b.size 0 e)) e (fz := ((bytesRow b (grownCap w b.size 0 e)).size, (bytesRow b (grownCap w b.size 0 e)).size + 1)) (c := grownCap w b.size 0 e) (xs := pvNb (zA8 b)) (fun es hes => by
  obtain ⟨x, _, rfl⟩ := List.mem_map.1 hes; rfl) hsize (by omega) (by omega) hcm (fun j p hj => by
  have hfl : (pvNb (zA8 b)).flatten = (zA8 b).map fun x => PV.v (.int .u8 ((x : Nat) : Int)) := by
   rw [pvNb, ← List.flatMap_def, ← List.map_eq_flatMap]
  rw [hfl, List.getElem?_map] at hj
  cases hq : (zA8 b)[j]? with
  | none => rw [hq] at hj; cases hj
  | some x =>
   rw [hq] at hj
   cases hj
   exact ⟨_, zJY hq, .v _ rfl⟩) (.inr ⟨Nat.le_refl _, rfl⟩) hid1 (.inl hid')
 have hex : (execOp a.eval o).run P w = .ok (.value (.slice (some ⟨w.drew.heap.size, 0, none⟩) (pvNb (zA8 b)).length (grownCap w b.size 0 e))) (w.drew.alloc (.cells (bytesRow b (grownCap w b.size 0 e)) e ((bytesRow b (grownCap w b.size 0 e)).size, (bytesRow b (grownCap w b.size 0 e)).size + 1))) := by
  rw [hnl]
  simp [execOp, ho, e1, hrun]
 unfold Oper.wp
 rw [hex, Oper.upon_value]
 have hfin := hfr.put hd (av := .sl id 0 (pvNb (zA8 b)).length) (v := .slice (some ⟨w.drew.heap.size, 0, none⟩) (pvNb (zA8 b)).length (grownCap w b.size 0 e)) (zFg (sz := 1) (xs := pvNb (zA8 b)) (by simp) (by simp [Pl.row]) (hfr.rw id 1 _ (by simp)).1 rfl)
 exact hK _ _ _ (by rw [Dl.app, zDY]; exact hfin)
theorem zBl (u : Value) {t : TypeId} {x : Operand} (ho : o.op = .load t x) {id i off sz : Nat} {xs : List (List PV)} {es : List PV} (hx : s.ev x = .ea id i off) (hr : s.r id = some (sz, xs)) (hi : xs[i]? = some es) (hag : ∀ w, (isAgg t).run P w = .ok false w) (hp : es[off]? = some (.v u)) :
  StepD γ P n o M B s { put := .p none (.v u) } := zA4 ho hx hr hi hag hp
theorem zAo {c x y : Operand} (ho : o.op = .pick c x y) {d : Option Nat} (hc : s.ev c = .p d (.v (.bool true))) : StepD γ P n o M B s { put := s.ev x } := zAc ho hc
theorem zAg {c x y : Operand} (ho : o.op = .pick c x y) {d : Option Nat} (hc : s.ev c = .p d (.v (.bool false))) : StepD γ P n o M B s { put := s.ev y } := zAc ho hc
end
theorem zL3 {a b : ByteArray} : a.toList = b.toList ↔ a = b := ⟨toList_inj, fun e => by rw [e]⟩
end Go.Rl
namespace Go.Rl
def zDI (s : ByteArray) (m i : Nat) : Prop := ∀ j b, j < i → s.data.toList[j]? = some b → UInt8.toNat b ≤ m
def allB (s : ByteArray) (m : Nat) : Bool := s.data.toList.all fun b => decide (b.toNat ≤ m)
theorem zEW (s : ByteArray) (m : Nat) : zDI s m 0 := fun _ _ h => absurd h (Nat.not_lt_zero _)
theorem zEX {s : ByteArray} {m i : Nat} {b : UInt8} (h : zDI s m i) (hb : s[i]? = some b) (h1 : b.toNat ≤ m) : zDI s m (i + 1) := fun j x hj hx => by
 by_cases q : j = i
 ·
  subst q
  rw [zEp hb] at hx
  cases hx
  exact h1
 · exact h j x (by omega) hx
theorem zId {s : ByteArray} {m i : Nat} (h : zDI s m i) (hi : s.size ≤ i) : allB s m = true := by
 rw [allB, List.all_eq_true]
 intro b hb
 obtain ⟨j, hj⟩ := List.getElem?_of_mem hb
 have := (List.getElem?_eq_some_iff.1 hj).1
 rw [zFt] at this
 exact decide_eq_true (h j b (by omega) hj)
theorem zLX {s : ByteArray} {m i : Nat} {b : UInt8} (hb : s[i]? = some b) (h : m < b.toNat) : allB s m = false := by
 cases q : allB s m with
 | false => rfl
 | true =>
  rw [allB, List.all_eq_true] at q
  have := of_decide_eq_true (q b (List.mem_of_getElem? (zEp hb)))
  omega
def zBF (f : Flt) : Bool :=
 if f.kind = 0 then decide (f = (⟨0, 0, 0, ⟨#[]⟩⟩ : Flt))
 else if f.kind = 1 then decide (f.seed = 0) && (zAl f.probes 1 30 && zAl f.bits.size 1 1000)
 else if f.kind = 2 then decide (f.probes = 0) && (zAl f.seed 0 3 && (zAl f.bits.size 20 600 && allB f.bits 127))
 else false
theorem fok_0 {f : Flt} (h : f.kind = 0) : decide (f = (⟨0, 0, 0, ⟨#[]⟩⟩ : Flt)) = zBF f := by rw [zBF, if_pos h]
theorem zKL {f : Flt} (h : f.kind = 1) : zBF f = (decide (f.seed = 0) && (zAl f.probes 1 30 && zAl f.bits.size 1 1000)) := by rw [zBF, if_neg (by omega), if_pos h]
theorem zGv {f : Flt} (h : f.kind = 2) : zBF f = (decide (f.probes = 0) && (zAl f.seed 0 3 && (zAl f.bits.size 20 600 && allB f.bits 127))) := by rw [zBF, if_neg (by omega), if_neg (by omega), if_pos h]
theorem fok_x {f : Flt} (h0 : ¬ f.kind = 0) (h1 : ¬ f.kind = 1) (h2 : ¬ f.kind = 2) : false = zBF f := by rw [zBF, if_neg h0, if_neg h1, if_neg h2]
theorem zIQ {f : Flt} (h : zBF f = true) : 0 ≤ f.kind ∧ f.kind ≤ 2 ∧ 0 ≤ f.seed ∧ f.seed ≤ 3 ∧ 0 ≤ f.probes ∧ f.probes ≤ 30 ∧ f.bits.size ≤ 1000 := by
 rcases Classical.em (f.kind = 0) with q | q
 ·
  rw [← fok_0 q, decide_eq_true_eq] at h
  subst h
  decide
 rcases Classical.em (f.kind = 1) with q1 | q1
 ·
  rw [zKL q1] at h
  simp only [zAl, Bool.and_eq_true, decide_eq_true_eq] at h
  omega
 rcases Classical.em (f.kind = 2) with q2 | q2
 ·
  rw [zGv q2] at h
  simp only [zAl, Bool.and_eq_true, decide_eq_true_eq] at h
  omega
 · rw [← fok_x q q1 q2] at h; cases h
def zB8 (f : Flt) : ByteArray := if zBF f then putV f.kind.toNat ++ putV f.seed.toNat ++ putV f.probes.toNat ++ putX f.bits else ⟨#[]⟩
theorem zFd {f : Flt} (h : zBF f = false) : (⟨#[]⟩ : ByteArray) = zB8 f := by rw [zB8, h]; rfl
theorem zE3 {f : Flt} (h : zBF f = true) : putV f.kind.toNat ++ putV f.seed.toNat ++ putV f.probes.toNat ++ putX f.bits = zB8 f := by rw [zB8, h]; rfl
theorem zEP (f : Flt) : (zB8 f).size ≤ 1040 := by
 cases h : zBF f with
 | false => rw [← zFd h]; decide
 | true =>
  have hn := zIQ h
  rw [← zE3 h]
  have h1 := zA5 (n := f.kind.toNat) (by omega)
  have h2 := zA5 (n := f.seed.toNat) (by omega)
  have h3 := zA5 (n := f.probes.toNat) (by omega)
  have h4 := zBT (s := f.bits) (by omega)
  simp only [zAY]
  omega
theorem zGX {us : List ByteArray} {n : Nat} (h : zCb us n = none) (h1 : (zBR us n).isSome = false) : zCb us (n + 1) = none := by
 rw [zCb, h]
 cases q : zBR us n with
 | none => rfl
 | some f => rw [q] at h1; cases h1
theorem zGZ {us : List ByteArray} {n : Nat} {f : Flt} (h : zCb us n = some f) : ∀ k, zCb us (n + k) = some f
 | 0 => h
 | k + 1 => by rw [← Nat.add_assoc, zCb, zGZ h k]
theorem zHV {us : List ByteArray} {n : Nat} (h : zCb us n = none) (h1 : (zBR us n).isSome = true) (hn : n < 4) : (zBR us n).getD .zero = zA6 us 2 := by
 have h2 : zCb us (n + 1) = zBR us n := by rw [zCb, h]
 cases q : zBR us n with
 | none => rw [q] at h1; cases h1
 | some f =>
  have := zGZ (h2.trans q) (3 - n)
  rw [show n + 1 + (3 - n) = 4 by omega] at this
  rw [zA6, if_neg (by decide), if_pos rfl, this]
  rfl
theorem zDK {us : List ByteArray} {kd : Int} (h0 : ¬ kd = 0) (h : kd = 2 → zCb us 4 = none) : zDD us = zA6 us kd := by
 rw [zA6, if_neg h0]
 split
 · next q => rw [h q]; rfl
 · rfl
def zBk (h : ByteArray) : Bool := decide (h.size = 64) && allB h 58
theorem zDl {h : ByteArray} (q : zBk h = true) : h.size = 64 := by simp only [zBk, Bool.and_eq_true, decide_eq_true_eq] at q; exact q.1
def hllS (r : List Nat) (u : ByteArray) : List Nat := r.set (zC0 u) (max (r.getD (zC0 u) 0) (zBa u))
def hllA (h : ByteArray) (u : ByteArray) : ByteArray := zBv (ints (hllS (zA8 h) u))
def hll0 : ByteArray := zBv (ints (List.replicate 64 0))
def hllN (us : List ByteArray) : Nat → ByteArray
 | 0 => hll0
 | i + 1 => match us[i]? with
  | some u => hllA (hllN us i) u
  | none => hllN us i
def hllF (us : List ByteArray) : ByteArray := hllN us us.length
theorem zJJ {us : List ByteArray} {i : Nat} {u : ByteArray} (h : us[i]? = some u) : hllN us (i + 1) = hllA (hllN us i) u := by rw [hllN, h]
theorem zGs (u : ByteArray) : 1 ≤ zBa u ∧ zBa u ≤ 58 := by
 have := zL8 (zA2 7 u / 64) 57
 rw [zBa]; omega
theorem zLD (u : ByteArray) : zC0 u < 64 := Nat.mod_lt _ (by decide)
theorem zGM : ∀ (l : List Nat) (a : ByteArray), ((ints l).foldl (fun r n => r.push (UInt8.ofNat n.toNat)) a).data.toList = a.data.toList ++ l.map UInt8.ofNat
 | [], a => by simp [ints]
 | x :: l, a => by
  have := zGM l (a.push (UInt8.ofNat (x : Int).toNat))
  rw [show (ints (x :: l)) = (x : Int) :: ints l from rfl, List.foldl_cons, this]
  simp [ByteArray.push]
theorem zHM (l : List Nat) : (zBv (ints l)).data.toList = l.map UInt8.ofNat := by rw [zBv, zGM]; simp
theorem zDP (l : List Nat) : (zBv (ints l)).size = l.length := by rw [← zFt, zHM, List.length_map]
theorem zJZ {l : List Nat} (h : ∀ x ∈ l, x < 256) : zA8 (zBv (ints l)) = l := by
 rw [zA8, zHM, List.map_map]
 conv => rhs; rw [← List.map_id l]
 refine List.map_congr_left fun x hx => ?_
 have := h x hx
 simp only [Function.comp_apply, id, UInt8.toNat_ofNat']
 omega
theorem zHq {s : ByteArray} {m : Nat} : allB s m = true ↔ ∀ x ∈ zA8 s, x ≤ m := by
 rw [allB, List.all_eq_true, zA8]
 simp
theorem hllA_ok {h u : ByteArray} (q : zBk h = true) : zBk (hllA h u) = true := by
 have hl := zDl q
 have ha : ∀ x ∈ zA8 h, x ≤ 58 := by simp only [zBk, Bool.and_eq_true] at q; exact zHq.1 q.2
 have hs : ∀ x ∈ hllS (zA8 h) u, x ≤ 58 := fun x hx => by
  rcases List.mem_or_eq_of_mem_set hx with p | p
  · exact ha x p
  ·
   have h1 : (zA8 h).getD (zC0 u) 0 ≤ 58 := by
    rw [List.getD_eq_getElem?_getD]
    cases e : (zA8 h)[zC0 u]? with
    | none => exact Nat.zero_le _
    | some y => exact ha y (List.mem_of_getElem? e)
   have := zGs u
   rw [p]; omega
 rw [zBk, Bool.and_eq_true, decide_eq_true_eq]
 refine ⟨?_, ?_⟩
 · rw [hllA, zDP, hllS, List.length_set, zDM, hl]
 ·
  rw [zHq, hllA, zJZ (fun x hx => Nat.lt_of_le_of_lt (hs x hx) (by decide))]
  exact hs
theorem hll0_ok : zBk hll0 = true := by decide +kernel
theorem zEE (us : List ByteArray) : ∀ i, zBk (hllN us i) = true
 | 0 => hll0_ok
 | i + 1 => by
  rw [hllN]
  split
  · exact hllA_ok (zEE us i)
  · exact zEE us i
theorem zJT : ∀ (f k x : Nat), k < f → (Lib.ctzFrom f x < k → zCB x k = Lib.ctzFrom f x) ∧ (k ≤ Lib.ctzFrom f x → zCB x k = k)
 | 0, k, _, h => absurd h (Nat.not_lt_zero _)
 | f + 1, 0, x, _ => ⟨fun h => absurd h (Nat.not_lt_zero _), fun _ => rfl⟩
 | f + 1, k + 1, x, h => by
  have ih := zJT f k (x / 2) (by omega)
  rw [Lib.ctzFrom, zCB]
  by_cases q : x % 2 = 1
  ·
   rw [if_pos q, if_neg (by omega)]
   exact ⟨fun _ => rfl, fun h => by omega⟩
  ·
   rw [if_neg q, if_pos (by omega)]
   refine ⟨fun h => ?_, fun h => ?_⟩
   · rw [ih.1 (by omega)]; omega
   · rw [ih.2 (by omega)]
theorem zHI : ∀ k, zCB 0 k = k
 | 0 => rfl
 | k + 1 => by rw [zCB, if_pos (by decide), zHI k]
theorem zN8 (x : Nat) : min (1 + Lib.ctz 64 x) 58 = zCB x 57 + 1 := by
 rw [Lib.ctz]
 split
 · next h => subst h; rw [zHI]; decide
 ·
  have h := zJT 64 57 x (by decide)
  rcases Nat.lt_or_ge (Lib.ctzFrom 64 x) 57 with q | q
  · rw [h.1 q]; omega
  · rw [h.2 q]; omega
theorem ctz_le (x : Nat) (h : x < 2 ^ 64) : Lib.ctz 64 x ≤ 64 := by
 rw [Lib.ctz]
 split
 · exact Nat.le_refl _
 ·
  next h0 =>
  obtain ⟨_, _, h2⟩ := Lib.ctzFrom_spec 64 x (by omega) h
  omega
theorem zLa {x k : Nat} (h : x % 2 = 0) : zCB x (k + 1) = zCB (x / 2) k + 1 := by rw [zCB, if_pos h]
theorem zL7 {x k : Nat} (h : ¬ x % 2 = 0) : zCB x k = 0 := by
 cases k with
 | zero => rfl
 | succ k => rw [zCB, if_neg h]
end Go.Rl
namespace Go.Rl
structure TabS where
 out : ByteArray
 index : ByteArray
 start : Nat
def curT (l : List Ent) (f i : Nat) : List Ent := (l.drop f).take (i - f)
def tabS (l : List Ent) (ev sz i : Nat) (e : Ent) (t : TabS) : TabS :=
 if (blkF (curT l t.start (i + 1)) ev).size < sz ∧ i + 1 < l.length then t
 else ⟨t.out ++ secF (blkF (curT l t.start (i + 1)) ev), t.index ++ (putV t.out.size ++ putX (keyT e)), i + 1⟩
def tabN (l : List Ent) (ev sz : Nat) : Nat → TabS
 | 0 => ⟨⟨#[]⟩, ⟨#[]⟩, 0⟩
 | i + 1 => match l[i]? with
  | some e => tabS l ev sz i e (tabN l ev sz i)
  | none => tabN l ev sz i
section
variable {l : List Ent} {ev sz i : Nat} {e : Ent}
theorem zET (he : l[i]? = some e) (h1 : (blkF (curT l (tabN l ev sz i).start (i + 1)) ev).size < sz) (h2 : i + 1 < l.length) : tabN l ev sz (i + 1) = tabN l ev sz i := by
 simp only [tabN, he]
 rw [tabS, if_pos ⟨h1, h2⟩]
theorem zCv (he : l[i]? = some e) (h : ¬ ((blkF (curT l (tabN l ev sz i).start (i + 1)) ev).size < sz ∧ i + 1 < l.length)) :
  tabN l ev sz (i + 1) = ⟨(tabN l ev sz i).out ++ secF (blkF (curT l (tabN l ev sz i).start (i + 1)) ev), (tabN l ev sz i).index ++ (putV (tabN l ev sz i).out.size ++ putX (keyT e)), i + 1⟩ := by
 simp only [tabN, he]
 rw [tabS, if_neg h]
theorem zOh (he : l[i]? = some e) {f : Nat} (hf : f ≤ i) : curT l f i ++ [e] = curT l f (i + 1) := by
 have h : (l.drop f)[i - f]? = some e := by rw [List.getElem?_drop, show f + (i - f) = i by omega]; exact he
 rw [curT, curT, show i + 1 - f = (i - f) + 1 by omega, List.take_add_one, h]
 rfl
theorem zEj (l : List Ent) (i : Nat) : curT l i i = [] := by rw [curT, Nat.sub_self, List.take_zero]
theorem zE5 {f : Nat} (h1 : f ≤ i) (h2 : i ≤ l.length) : (curT l f i).length = i - f := by
 rw [curT, List.length_take, List.length_drop]; omega
theorem cur_mem {f : Nat} {x : Ent} (h : x ∈ curT l f i) : x ∈ l := List.mem_of_mem_drop (List.mem_of_mem_take h)
theorem zNT {f j : Nat} {x : Ent} (h : (curT l f i)[j]? = some x) : l[f + j]? = some x := by
 rw [curT, List.getElem?_take] at h
 split at h
 · rw [List.getElem?_drop] at h; exact h
 · cases h
theorem zPJ (h : zBJ l = true) (f i : Nat) : zBJ (curT l f i) = true := by
 have hm := zBj h
 have hs := (Bool.and_eq_true _ _).mp h
 rw [zBJ, Bool.and_eq_true, decide_eq_true_eq]
 refine ⟨?_, zJm (Nat.le_refl _) fun j x _ hx => ?_⟩
 ·
  have : (curT l f i).length ≤ l.length := by rw [curT, List.length_take, List.length_drop]; omega
  omega
 ·
  have hl := zJn hs.2 (zNT hx)
  simp only [zDX, Bool.and_eq_true, Bool.or_eq_true, decide_eq_true_eq] at hl ⊢
  refine ⟨hl.1, ?_⟩
  by_cases h0 : j = 0
  · exact .inl h0
  ·
   refine .inr ?_
   cases hy : (curT l f i)[j - 1]? with
   | none => rfl
   | some y =>
    have hy' := zNT hy
    rcases hl.2 with q | q
    · omega
    ·
     rw [show f + j - 1 = f + (j - 1) by omega, hy'] at q
     exact q
theorem zNf {L : List Ent} {k : Nat} (hl : ∀ e ∈ L, zBt e = true) (hk : k < L.length) : (blkN L ev (k + 1)).out.size ≤ (blkN L ev k).out.size + 290 ∧ (blkN L ev (k + 1)).anew.size ≤ (blkN L ev k).anew.size + 4 := by
 obtain ⟨e, he⟩ : ∃ e, L[k]? = some e := ⟨_, List.getElem?_eq_getElem (by omega)⟩
 have hb := zG4 hl (ev := ev) k (by omega)
 have hn := zDh (hl e (List.mem_of_getElem? he))
 have h3 := hb.ahead
 have h4 := zA5 (n := 0) (by decide)
 have h5 := zDp (blkN L ev k).ahead (keyT e)
 have h6 := zA5 (n := zBN (blkN L ev k).ahead (keyT e)) (by omega)
 have h7 := zC6 (keyT e) (zBN (blkN L ev k).ahead (keyT e))
 have h8 := zBT (s := keyT e) (by omega)
 have h9 := zBT (s := (keyT e).extract (zBN (blkN L ev k).ahead (keyT e)) (keyT e).size) (by omega)
 have h10 := zBT (s := e.value) (by omega)
 rw [zCF he, blkS]
 split
 · exact ⟨by simp only [zAY]; omega, by simp only [zAY, zAU]; omega⟩
 · exact ⟨by simp only [zAY]; omega, Nat.le_add_right _ _⟩
theorem zJi {L : List Ent} {k : Nat} (hk : k ≤ L.length) : (blkF (L.take k) ev).size = (blkN L ev k).out.size + (blkN L ev k).anew.size + 8 := by
 have hl : (L.take k).length = k := by rw [List.length_take]; omega
 simp only [blkF, zAY, zAU, hl, zJh (Nat.le_refl k)]
theorem zOn (hl : ∀ e ∈ l, zBt e = true) {f : Nat} (h1 : f ≤ i) (h2 : i < l.length) : (blkF (curT l f (i + 1)) ev).size ≤ (blkF (curT l f i) ev).size + 294 := by
 have hd : ∀ e ∈ l.drop f, zBt e = true := fun e he => hl e (List.mem_of_mem_drop he)
 have hk : i - f < (l.drop f).length := by rw [List.length_drop]; omega
 have := zNf (ev := ev) hd hk
 rw [curT, curT, zJi (by omega), show i + 1 - f = (i - f) + 1 by omega, zJi (by omega)]
 omega
theorem zHw (hl : ∀ e ∈ l, zBt e = true) : ∀ i, i ≤ l.length → (tabN l ev sz i).start ≤ i ∧ (i < l.length → (blkF (curT l (tabN l ev sz i).start i) ev).size ≤ sz + 8)
 | 0, _ => ⟨Nat.le_refl _, fun _ => by
  have : (curT l (tabN l ev sz 0).start 0) = [] := zEj l 0
  rw [this]
  have h : (blkF [] ev).size = 8 := by simp only [blkF, zAY, zAU]; rfl
  omega⟩
 | i + 1, h => by
  have ih := zHw hl i (by omega)
  obtain ⟨e, he⟩ : ∃ e, l[i]? = some e := ⟨_, List.getElem?_eq_getElem (by omega)⟩
  by_cases q : (blkF (curT l (tabN l ev sz i).start (i + 1)) ev).size < sz ∧ i + 1 < l.length
  ·
   rw [zET he q.1 q.2]
   exact ⟨by omega, fun _ => by omega⟩
  ·
   rw [zCv he q]
   refine ⟨Nat.le_refl _, fun _ => ?_⟩
   rw [zEj]
   have h : (blkF [] ev).size = 8 := by simp only [blkF, zAY, zAU]; rfl
   omega
theorem zJw (hl : ∀ e ∈ l, zBt e = true) (hi : i < l.length) : (tabN l ev sz i).start ≤ i ∧ (blkF (curT l (tabN l ev sz i).start (i + 1)) ev).size ≤ sz + 302 := by
 have h := zHw hl (ev := ev) (sz := sz) i (by omega)
 have := zOn (ev := ev) hl h.1 hi
 have := h.2 hi
 exact ⟨h.1, by omega⟩
theorem zD5 (hl : ∀ e ∈ l, zBt e = true) (hn : l.length ≤ 400) (hs : sz ≤ 4000) : ∀ i, i ≤ l.length → (tabN l ev sz i).out.size ≤ 5000 * i ∧ (tabN l ev sz i).index.size ≤ 68 * i
 | 0, _ => ⟨Nat.le_refl _, Nat.le_refl _⟩
 | i + 1, h => by
  have ih := zD5 hl hn hs i (by omega)
  obtain ⟨e, he⟩ : ∃ e, l[i]? = some e := ⟨_, List.getElem?_eq_getElem (by omega)⟩
  have hn := zDh (hl e (List.mem_of_getElem? he))
  have hb := zJw (ev := ev) (sz := sz) hl (show i < l.length by omega)
  have h1 := zBT (s := blkF (curT l (tabN l ev sz i).start (i + 1)) ev) (by omega)
  have h2 := zBT (s := keyT e) (by omega)
  have h3 := zA5 (n := (tabN l ev sz i).out.size) (by omega)
  by_cases q : (blkF (curT l (tabN l ev sz i).start (i + 1)) ev).size < sz ∧ i + 1 < l.length
  · rw [zET he q.1 q.2]; omega
  ·
   rw [zCv he q]
   simp only [secF, zAY, zAU]
   omega
end
theorem zIe {l : List Ent} (h : zBJ l = true) : ∀ u ∈ zAz l, zBd u = true := fun u hu => by
 obtain ⟨e, he, rfl⟩ := zNq.1 hu
 have := zCZ h he
 simp only [zBt, zBp, Bool.and_eq_true] at this
 exact this.1.1.1.1
theorem zHJ {l : List Ent} (h : zBJ l = true) : (zAz l).length ≤ 400 := by
 have h1 := zEQ (l.map (·.user)) (l.map (·.user)).length
 have h2 := zBj h
 rw [zAz, zCK]
 rw [List.length_map] at h1 ⊢
 omega
theorem zL4 (us : List ByteArray) : (zDD us).bits.size = zAr us := by
 show (zBv (ints (bitB us us.length))).size = _
 rw [zDP, zDL]
theorem zJ8 {us : List ByteArray} {sd : Nat} {f : Flt} (h : zBR us sd = some f) : f.bits.size = ribM us := by
 rw [zBR] at h
 split at h
 · cases h
 ·
  cases h
  show (zBv (ints (bitK _ (ribM us) (ribM us)))).size = _
  rw [zDP, zDj]
theorem zGY {us : List ByteArray} {f : Flt} : ∀ {n : Nat}, zCb us n = some f → ∃ k, k < n ∧ zBR us k = some f
 | 0, h => by cases h
 | n + 1, h => by
  rw [zCb] at h
  cases q : zCb us n with
  | none => rw [q] at h; exact ⟨n, Nat.lt_succ_self n, h⟩
  | some g =>
   rw [q] at h
   cases h
   obtain ⟨k, h1, h2⟩ := zGY q
   exact ⟨k, by omega, h2⟩
theorem zFp {us : List ByteArray} (kd : Int) (h : us.length ≤ 400) : (zA6 us kd).bits.size ≤ 600 := by
 have hb := zIa h
 have hr : ribM us ≤ 520 := by rw [ribM]; omega
 have h1 : (zDD us).bits.size ≤ 600 := by rw [zL4]; omega
 rw [zA6]
 split
 · decide
 ·
  split
  ·
   cases q : zCb us 4 with
   | none => exact h1
   | some f =>
    obtain ⟨k, _, h2⟩ := zGY q
    have := zJ8 h2
    show f.bits.size ≤ 600
    omega
  · exact h1
def zCA (l : List Ent) (ev sz kd : Nat) : ByteArray := putV l.length ++ hllF (zAz l) ++ putV ev ++ putV sz ++ putV kd
def fixS (s : ByteArray) : ByteArray := fixV (s.size % 4294967296)
def tab1 (l : List Ent) (ev sz : Nat) : ByteArray := (tabN l ev sz l.length).out
def tab2 (l : List Ent) (ev sz : Nat) : ByteArray := tab1 l ev sz ++ secF (tabN l ev sz l.length).index
def tab3 (l : List Ent) (ev sz kd : Nat) : ByteArray := tab2 l ev sz ++ secF (zB8 (zA6 (zAz l) (kd : Int)))
def tab4 (l : List Ent) (ev sz kd : Nat) : ByteArray := tab3 l ev sz kd ++ secF (zCA l ev sz kd)
def zOX (l : List Ent) (ev sz kd : Nat) : ByteArray := fixS (tab1 l ev sz) ++ fixS (tab2 l ev sz) ++ fixS (tab3 l ev sz kd)
def zDN (l : List Ent) (ev sz kd : Nat) : ByteArray := tab4 l ev sz kd ++ zOX l ev sz kd ++ fixV 1279478321
def secL (l : List Ent) (ev sz kd : Nat) : List ByteArray := [(tabN l ev sz l.length).index, zB8 (zA6 (zAz l) (kd : Int)), zCA l ev sz kd]
def tabJ (l : List Ent) (ev sz kd : Nat) : Nat → ByteArray
 | 0 => tab1 l ev sz
 | j + 1 => match (secL l ev sz kd)[j]? with
  | some x => tabJ l ev sz kd j ++ secF x
  | none => tabJ l ev sz kd j
def plJ (l : List Ent) (ev sz kd : Nat) : Nat → ByteArray
 | 0 => ⟨#[]⟩
 | j + 1 => plJ l ev sz kd j ++ fixS (tabJ l ev sz kd j)
theorem zIl {l : List Ent} {ev sz kd j : Nat} {x : ByteArray} (h : (secL l ev sz kd)[j]? = some x) : tabJ l ev sz kd (j + 1) = tabJ l ev sz kd j ++ secF x := by rw [tabJ, h]
theorem zOd (b : ByteArray) : (⟨#[]⟩ : ByteArray) ++ b = b := ByteArray.ext (by simp [ByteArray.data_append])
theorem plJ_3 (l : List Ent) (ev sz kd : Nat) : plJ l ev sz kd 3 = zOX l ev sz kd := by
 show (⟨#[]⟩ ++ fixS (tabJ l ev sz kd 0)) ++ fixS (tabJ l ev sz kd 1) ++ fixS (tabJ l ev sz kd 2) = _
 rw [zOd]
 rfl
section
variable {l : List Ent} {ev sz kd : Nat}
theorem zFY (hn : l.length ≤ 400) (hev : ev ≤ 16) (hs : sz ≤ 4000) (hkd : kd ≤ 2) : (zCA l ev sz kd).size ≤ 104 := by
 have h1 := zA5 (n := l.length) (by omega)
 have h2 := zA5 (n := ev) (by omega)
 have h3 := zA5 (n := sz) (by omega)
 have h4 := zA5 (n := kd) (by omega)
 have h5 : (hllF (zAz l)).size = 64 := zDl (zEE _ _)
 simp only [zCA, zAY]
 omega
theorem zKl (hl : ∀ e ∈ l, zBt e = true) (hn : l.length ≤ 400) (hev : ev ≤ 16) (hs : sz ≤ 4000) (hkd : kd ≤ 2) {j : Nat} {x : ByteArray} (h : (secL l ev sz kd)[j]? = some x) : x.size ≤ 30000 := by
 have h1 := (zD5 (ev := ev) hl hn hs l.length (Nat.le_refl _)).2
 have h2 := zEP (zA6 (zAz l) (kd : Int))
 have h3 := zFY hn hev hs hkd
 match j, h with
 | 0, h => cases h; omega
 | 1, h => cases h; omega
 | 2, h => cases h; omega
 | j + 3, h => simp [secL] at h
theorem zIm (hl : ∀ e ∈ l, zBt e = true) (hn : l.length ≤ 400) (hev : ev ≤ 16) (hs : sz ≤ 4000) (hkd : kd ≤ 2) : ∀ j, (tabJ l ev sz kd j).size ≤ 2000000 + 30014 * j
 | 0 => by
  have := (zD5 (ev := ev) hl hn hs l.length (Nat.le_refl _)).1
  show (tab1 l ev sz).size ≤ _
  rw [tab1]; omega
 | j + 1 => by
  have ih := zIm hl hn hev hs hkd j
  cases h : (secL l ev sz kd)[j]? with
  | none => rw [tabJ, h]; simp only []; omega
  | some x =>
   have hx := zKl hl hn hev hs hkd h
   have := zBT (s := x) (by omega)
   rw [zIl h]
   simp only [secF, zAY, zAU]
   omega
theorem zKw (l : List Ent) (ev sz kd : Nat) : ∀ j, (plJ l ev sz kd j).size = 4 * j
 | 0 => rfl
 | j + 1 => by
  have ih := zKw l ev sz kd j
  simp only [plJ, fixS, zAY, zAU, ih]
  omega
end
structure Shp where
 every : Int
 size : Int
 kind : Int
 deriving DecidableEq
def zBi (p : Shp) : Bool := zAl p.every 1 16 && (zAl p.size 20 4000 && zAl p.kind 0 2)
theorem zHz {p : Shp} (h : zBi p = true) : (1 ≤ p.every ∧ p.every ≤ 16) ∧ (20 ≤ p.size ∧ p.size ≤ 4000) ∧ 0 ≤ p.kind ∧ p.kind ≤ 2 := by simp only [zBi, zAl, Bool.and_eq_true, decide_eq_true_eq] at h; exact h
def zHK (l : List Ent) (p : Shp) : ByteArray := zDN l p.every.toNat p.size.toNat p.kind.toNat
def zBb (l : List Ent) (p : Shp) : Option ByteArray := if (zBJ l = true ∧ 0 < l.length) ∧ zBi p = true then (if (zHK l p).size ≤ 60000 then some (zHK l p) else none) else none
theorem zDo {l : List Ent} {p : Shp} (h : zBJ l = false ∨ l.length = 0 ∨ zBi p = false) : zBb l p = none := by
 rw [zBb, if_neg]
 rintro ⟨⟨h1, h2⟩, h3⟩
 rcases h with h | h | h
 · rw [h] at h1; cases h1
 · omega
 · rw [h] at h3; cases h3
theorem zHL {l : List Ent} {p : Shp} (h : 60000 < (zHK l p).size) : zBb l p = none := by
 rw [zBb]
 split
 · rw [if_neg (by omega)]
 · rfl
theorem zFT {l : List Ent} {p : Shp} (h1 : zBJ l = true) (h2 : 0 < l.length) (h3 : zBi p = true) (h : (zHK l p).size ≤ 60000) : zBb l p = some (zHK l p) := by
 rw [zBb, if_pos ⟨⟨h1, h2⟩, h3⟩, if_pos h]
end Go.Rl

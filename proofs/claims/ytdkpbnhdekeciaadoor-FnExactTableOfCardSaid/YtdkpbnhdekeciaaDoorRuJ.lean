/- Promises of functions, proved by walks over their operations; no conditions beyond those that each theorem states. -/
import Derived.Test.YtdkpbnhdekeciaaDoorRuH
import Derived.Test.YtdkpbnhdekeciaaDoorRuF
import Derived.Test.YtdkpbnhdekeciaaDoorReG
import Derived.Laws.IdiomStrings
import Derived.Lib.TrailingZeros
set_option linter.unusedSimpArgs false
set_option linter.unusedVariables false
namespace Go.Rl
open Go.Proofs
theorem en56 : ∀ vs w, (callFunc 56 vs).run Tryd.prog w = .ok (.enter 56 vs) w := zAn Tryd.func56 (by decide) rfl
theorem zIy {us : List ByteArray} {n : Nat} (h : n = us.length) : (n : Int) + ((n / 4 : Nat) : Int) + 20 = ((ribM us : Nat) : Int) := by rw [ribM, h]; omega
theorem zKl {us : List ByteArray} (h : us.length ≤ 400) : 20 ≤ ribM us ∧ ribM us ≤ 520 := by rw [ribM]; omega
set_option maxRecDepth 1000000 in
set_option maxHeartbeats 2000000 in
theorem zFd (us : List ByteArray) (sd : Nat) (hsd : sd ≤ 3) (hu : ∀ u ∈ us, zBI u = true) (hn : us.length ≤ 400) : Con Tryd.prog 36 [.one (PV.sl false 1 (pvT us)), .one (PV.v (.int .i64 (sd:Int)))] [] [.agg [.v (.int .i64 ((zA8 us sd).getD .zero).kind), .v (.int .i64 ((zA8 us sd).getD .zero).seed), .v (.int .i64 ((zA8 us sd).getD .zero).probes), .v (.string ((zA8 us sd).getD .zero).bits)], .one (.v (.bool ((zA8 us sd).isSome)))] := by
 refine zAP Tryd.func36 rfl rfl rfl rfl ?_
 have hle := zAg us
 have hM := zKl hn
 refine zAC ?_
 refine zAA rfl (.run [] [4] rfl (zA7 rfl 4 zCd rfl (by decide) rfl (by decide)) (.run [] [] rfl (zAD rfl) .nil)) ?_
 refine zAC ?_
 refine zAC ?_
 refine zAA rfl (.run [] [] rfl (zAB rfl) (.run [1900] [] rfl (zAG rfl 1900 (X := []) en35 rfl (.val nod) (.cons (.one (.bor (.sl nod))) .nil) (by decide) all_nil .nil (zCh us (by assumption) (by omega)) rfl rfl (nle rfl)) (.run [] [] rfl (zA1 (b := true) rfl rfl) (.run [] [] rfl (zAB rfl) (.run [] [] rfl (zAB rfl) (.run [2300] [] rfl (zAG rfl 2300 (X := []) en31 rfl (.val nod) (.cons (.one (.bor .v)) (.cons (.one (.bor .v)) (.cons (.one (.bor .v)) .nil))) (by decide) all_nil .nil (zBU (sd:Int) 0 3) rfl rfl (nle rfl)) (.run [] [] rfl (zA1 (b := zAd (sd:Int) 0 3) rfl rfl) (.run [] [] rfl (zAT (t := false) rfl rfl) .nil)))))))) ?_
 refine zAW (t := (!(zAd (sd:Int) 0 3))) rfl (fun h1 => ?_) (fun h1 => ?_)
 ·
  replace h1 : (zAd (sd:Int) 0 3) = false := zA4 h1
  rw [show zAd (sd : Int) 0 3 = true by simp only [zAd, Bool.and_eq_true, decide_eq_true_eq]; omega] at h1; cases h1
 ·
  replace h1 : (zAd (sd:Int) 0 3) = true := zA5 h1
  refine zAJ ?_
  refine zAC ?_
  refine zAA rfl (.run [] [] rfl (zAB rfl) (.run [] [] rfl (zAa rfl rfl Tryd.underlying49) (.run [] [] rfl (zAD rfl) .nil))) ?_
  refine zAC ?_
  refine zAU (s' := mk [(0, .p none (.sl false 1 (pvT us))), (1, .p none (.v (.int .i64 (sd:Int)))), (4, .ptr 4 0), (6, .p none (.v (.int .i64 ((pvT us).length : Int))))] [(4, [.p none (.v (.int .i64 0)), .p none (.v (.int .i64 0)), .p none (.v (.int .i64 0)), .p none (.v (.string ⟨#[]⟩))])] []) ?_ ?_
  · exact zAK ⟨rfl, ⟨rfl, ⟨rfl, ⟨rfl, trivial⟩⟩⟩⟩ ⟨rfl, trivial⟩ trivial rfl
  refine zAA rfl (.run [] [] rfl (zAB rfl) (.run [] [] rfl (zAB rfl) (.run [] [] rfl (zAO (zEZ rfl rfl rfl (by omega)) ((zAH (quo4 (by omega))))) (.run [] [] rfl (zAX rfl rfl rfl (by omega)) (.run [] [] rfl (zAO (zAX rfl rfl rfl (by omega)) ((zAH (zIy hle)))) (.run [] [] rfl (zAD rfl) .nil)))))) ?_
  refine zAC ?_
  refine zAA rfl (.run [] [] rfl (zAB rfl) (.run [3500] [] rfl (zCl rfl 3500 (l := ribM us) (c := ribM us) rfl rfl Tryd.underlying80 zJH rfl rfl (by decide) rfl (by decide) (by omega) (by omega) (by simp only [maxLen]; omega)) (.run [] [] rfl (zAD rfl) .nil))) ?_
  have hr2 : List.replicate (ribM us) [PV.v (.int .u64 0)] = pvQ ((eq0 (ribM us)).map Eqn.row) := by exact eq0_row _
  have hl3 : ribM us = (pvQ ((eq0 (ribM us)).map Eqn.row)).length := by first | (rw [← hr2, List.length_set]; done) | simp [zBN, eq0]
  have hp4 : (.sl 3500 0 (ribM us) : AV) = .sl 3500 0 ((pvQ ((eq0 (ribM us)).map Eqn.row)).length) := by first | exact congrArg (AV.sl 3500 0) hl3 | simp only [hr2, hl3]
  refine zAU (s' := mk [(0, .p none (.sl false 1 (pvT us))), (1, .p none (.v (.int .i64 (sd:Int)))), (4, .ptr 4 0), (7, .p none (.v (.int .i64 ((ribM us : Nat) : Int)))), (8, .sl 3500 0 ((pvQ ((eq0 (ribM us)).map Eqn.row)).length))] [(4, [.p none (.v (.int .i64 0)), .p none (.v (.int .i64 0)), .p none (.v (.int .i64 0)), .p none (.v (.string ⟨#[]⟩))])] [(3500, 1, pvQ ((eq0 (ribM us)).map Eqn.row))]) ?_ ?_
  · exact zAK ⟨rfl, ⟨rfl, ⟨rfl, ⟨rfl, ⟨hp4, trivial⟩⟩⟩⟩⟩ ⟨rfl, trivial⟩ ⟨(congrArg (fun x => some (1, x)) hr2), trivial⟩ rfl
  refine zAC ?_
  refine zAA rfl (.run [] [] rfl (zAB rfl) (.run [3700] [] rfl (zCl rfl 3700 (l := ribM us) (c := ribM us) rfl rfl Tryd.underlying80 zJH rfl rfl (by decide) rfl (by decide) (by omega) (by omega) (by simp only [maxLen]; omega)) (.run [] [] rfl (zAD rfl) .nil))) ?_
  have hr5 : List.replicate (ribM us) [PV.v (.int .u64 0)] = pvQ ((eq0 (ribM us)).map Eqn.sum) := by exact eq0_sum _
  have hl6 : ribM us = (pvQ ((eq0 (ribM us)).map Eqn.sum)).length := by first | (rw [← hr5, List.length_set]; done) | simp [zBN, eq0]
  have hp7 : (.sl 3700 0 (ribM us) : AV) = .sl 3700 0 ((pvQ ((eq0 (ribM us)).map Eqn.sum)).length) := by first | exact congrArg (AV.sl 3700 0) hl6 | simp only [hr5, hl6]
  refine zAU (s' := mk [(0, .p none (.sl false 1 (pvT us))), (1, .p none (.v (.int .i64 (sd:Int)))), (4, .ptr 4 0), (7, .p none (.v (.int .i64 ((ribM us : Nat) : Int)))), (8, .sl 3500 0 ((pvQ ((eq0 (ribM us)).map Eqn.row)).length)), (9, .sl 3700 0 ((pvQ ((eq0 (ribM us)).map Eqn.sum)).length))] [(4, [.p none (.v (.int .i64 0)), .p none (.v (.int .i64 0)), .p none (.v (.int .i64 0)), .p none (.v (.string ⟨#[]⟩))])] [(3500, 1, pvQ ((eq0 (ribM us)).map Eqn.row)), (3700, 1, pvQ ((eq0 (ribM us)).map Eqn.sum))]) ?_ ?_
  · exact zAK ⟨rfl, ⟨rfl, ⟨rfl, ⟨rfl, ⟨rfl, ⟨hp7, trivial⟩⟩⟩⟩⟩⟩ ⟨rfl, trivial⟩ ⟨rfl, ⟨(congrArg (fun x => some (1, x)) hr5), trivial⟩⟩ rfl
  refine zAC ?_
  refine zAC ?_
  refine zAA rfl (.run [] [] rfl (zAD rfl) .nil) ?_
  refine zAM ?_
  refine zAU (zCe 3500 1 rfl rfl (by decide)) ?_
  refine zAU (zCe 3700 2 rfl rfl (by decide)) ?_
  refine zAj (σ := Nat × List Eqn) (fun (i, K) => mk [(0, .p none (.sl false 1 (pvT us))), (1, .p none (.v (.int .i64 (sd:Int)))), (4, .ptr 4 0), (7, .p none (.v (.int .i64 ((ribM us : Nat) : Int)))), (8, .sl 1 0 ((pvQ (K.map Eqn.row)).length)), (9, .sl 2 0 ((pvQ (K.map Eqn.sum)).length)), (10, .p none (.v (.int .i64 (i:Int))))] [(4, [.p none (.v (.int .i64 0)), .p none (.v (.int .i64 0)), .p none (.v (.int .i64 0)), .p none (.v (.string ⟨#[]⟩))])] [(1, 1, pvQ (K.map Eqn.row)), (2, 1, pvQ (K.map Eqn.sum))]) (fun (i, K) => (i ≤ us.length ∧ KOk (ribM us) K) ∧ zBp us sd (ribM us) i = some K) (fun (i, K) => us.length - i) (0, eq0 (ribM us)) ⟨⟨Nat.zero_le _, zHs _⟩, rfl⟩ (zAK ⟨rfl, ⟨rfl, ⟨rfl, ⟨rfl, ⟨rfl, ⟨rfl, ⟨(zAH (by omega)), trivial⟩⟩⟩⟩⟩⟩⟩ ⟨rfl, trivial⟩ ⟨(congrArg (fun x => some (1, x)) (by rfl)), ⟨(congrArg (fun x => some (1, x)) (by rfl)), trivial⟩⟩ rfl) ?_
  rintro ⟨i, K⟩ hG
  replace hG : (i ≤ us.length ∧ KOk (ribM us) K) ∧ zBp us sd (ribM us) i = some K := hG
  obtain ⟨⟨hi, hK⟩, hA⟩ := hG
  refine zAC ?_
  refine zAC ?_
  refine zAA rfl (.run [] [] rfl (zAB rfl) (.run [] [] rfl (zAB rfl) (.run [] [] rfl (zAa rfl rfl Tryd.underlying49) (.run [] [] rfl (zAu rfl rfl rfl) .nil)))) ?_
  refine zAW (t := decide ((i:Int) < ((pvT us).length : Int))) rfl (fun h8 => ?_) (fun h8 => ?_)
  ·
   replace h8 := of_decide_eq_true h8
   refine zAJ ?_
   refine zAC ?_
   refine zAM ?_
   refine zAC ?_
   obtain ⟨x, hx⟩ : ∃ x, us[i]? = some x := ⟨_, List.getElem?_eq_getElem (by omega)⟩
   have huo := hu _ (List.mem_of_getElem? hx)
   have hus := zCK huo
   refine zAU (s' := mk [(0, .p none (.sl false 1 (pvT us))), (1, .p none (.v (.int .i64 (sd:Int)))), (4, .ptr 4 0), (7, .p none (.v (.int .i64 ((ribM us : Nat) : Int)))), (8, .sl 1 0 ((pvQ (K.map Eqn.row)).length)), (9, .sl 2 0 ((pvQ (K.map Eqn.sum)).length)), (10, .p none (.v (.int .i64 (i:Int))))] [(4, [.p none (.v (.int .i64 0)), .p none (.v (.int .i64 0)), .p none (.v (.int .i64 0)), .p none (.v (.string ⟨#[]⟩))])] [(1, 1, pvQ (K.map Eqn.row)), (2, 1, pvQ (K.map Eqn.sum))]) ?_ ?_
   · exact zAK ⟨rfl, ⟨rfl, ⟨rfl, ⟨rfl, ⟨rfl, ⟨rfl, ⟨rfl, trivial⟩⟩⟩⟩⟩⟩⟩ ⟨rfl, trivial⟩ ⟨rfl, ⟨rfl, trivial⟩⟩ rfl
   refine zAA rfl (.run [] [] rfl (zAB rfl) (.run [] [] rfl (zAB rfl) (.run [] [] rfl (zAm rfl rfl rfl Tryd.underlying49 Tryd.sizeOf9 rfl (by omega) (zB3 hx)) (.run [] [] rfl (zA2 rfl rfl Tryd.isAgg9 rfl) (.run [] [] rfl (zAB rfl) (.run [] [] rfl (zAB rfl) (.run [5100, 5101, 5102] [] rfl (zAG rfl 5100 (X := []) en56 rfl (.val nod) (.cons (.one (.bor .v)) (.cons (.one (.bor .v)) (.cons (.one (.bor .v)) .nil))) (by decide) all_nil .nil (row_con x sd (ribM us) (by omega) (by omega) (by omega)) rfl rfl (nle rfl)) (.run [] [] rfl (zAB rfl) (.run [] [] rfl (zAx rfl rfl rfl) (.run [] [] rfl (zAx rfl rfl rfl) (.run [] [] rfl (zAx rfl rfl rfl) (.run [] [] rfl (zAD rfl) (.run [] [] rfl (zAD rfl) (.run [] [] rfl (zAD rfl) .nil)))))))))))))) ?_
   refine zAC ?_
   refine zAM ?_
   refine zAj (σ := Nat × Nat × Nat × List Eqn) (fun (a, r, s, T) => mk [(0, .p none (.sl false 1 (pvT us))), (1, .p none (.v (.int .i64 (sd:Int)))), (4, .ptr 4 0), (7, .p none (.v (.int .i64 ((ribM us : Nat) : Int)))), (8, .sl 1 0 ((pvQ (T.map Eqn.row)).length)), (9, .sl 2 0 ((pvQ (T.map Eqn.sum)).length)), (10, .p none (.v (.int .i64 (i:Int)))), (11, .p none (.v (.int .i64 (a:Int)))), (12, .p none (.v (.int .u64 (r:Int)))), (13, .p none (.v (.int .u64 (s:Int))))] [(4, [.p none (.v (.int .i64 0)), .p none (.v (.int .i64 0)), .p none (.v (.int .i64 0)), .p none (.v (.string ⟨#[]⟩))])] [(1, 1, pvQ (T.map Eqn.row)), (2, 1, pvQ (T.map Eqn.sum))]) (fun (a, r, s, T) => (RI (ribM us) a r s ∧ KOk (ribM us) T) ∧ ribE (ribM us) a r s T = ribE (ribM us) (atN (zAh sd x) (ribM us)) (rowN (zAh sd x)) (sumN (zAh sd x)) K) (fun (a, r, s, T) => 2 * (ribM us - a) + r % 2) (atN (zAh sd x) (ribM us), rowN (zAh sd x), sumN (zAh sd x), K) ⟨⟨zHe _ _ (by omega), hK⟩, rfl⟩ (zAK ⟨rfl, ⟨rfl, ⟨rfl, ⟨rfl, ⟨rfl, ⟨rfl, ⟨rfl, ⟨rfl, ⟨rfl, ⟨rfl, trivial⟩⟩⟩⟩⟩⟩⟩⟩⟩⟩ ⟨rfl, trivial⟩ ⟨rfl, ⟨rfl, trivial⟩⟩ rfl) ?_
   rintro ⟨a, r, s, T⟩ hG
   replace hG : (RI (ribM us) a r s ∧ KOk (ribM us) T) ∧ ribE (ribM us) a r s T = ribE (ribM us) (atN (zAh sd x) (ribM us)) (rowN (zAh sd x)) (sumN (zAh sd x)) K := hG
   obtain ⟨⟨hI, hT⟩, hR⟩ := hG
   have hI1 := hI.at_
   have hI2 := hI.row
   have hI3 := hI.sum
   refine zAC ?_
   refine zAC ?_
   refine zAA rfl (.run [] [] rfl (zAB rfl) (.run [] [] rfl (zBy rfl rfl rfl) .nil)) ?_
   refine zAW (t := decide (0 < (r:Int))) rfl (fun h9 => ?_) (fun h9 => ?_)
   ·
    replace h9 := of_decide_eq_true h9
    refine zAJ ?_
    refine zAM ?_
    refine zAC ?_
    refine zAC ?_
    refine zAA rfl (.run [] [] rfl (zAB rfl) (.run [] [] rfl (zBx r 2 rfl rfl rfl (by omega)) (.run [] [] rfl (zA6 rfl rfl rfl) .nil))) ?_
    refine zAW (t := decide (((r % 2 : Nat) : Int) = 0)) rfl (fun h10 => ?_) (fun h10 => ?_)
    ·
     replace h10 := of_decide_eq_true h10
     refine zAC ?_
     refine zAA rfl (.run [] [] rfl (zAB rfl) (.run [] [] rfl (zAO (zDC (k := .u64) 18446744073709551616 rfl r 2 rfl rfl rfl rfl (by omega)) ((zAH (show (((r / 2) % 18446744073709551616 : Nat) : Int) = ((r / 2 : Nat) : Int) by omega)))) (.run [] [] rfl (zAD rfl) .nil))) ?_
     refine zAC ?_
     refine zAA rfl (.run [] [] rfl (zAB rfl) (.run [] [] rfl (zAX rfl rfl rfl (by omega)) (.run [] [] rfl (zAD rfl) .nil))) ?_
     refine zAk ?_
     refine nxt (Q := fun _ _ => False) (z := (a, r, s, T)) (a + 1, r / 2, s, T) ?_ ?_ ?_
     ·
      show (RI (ribM us) (a + 1) (r / 2) s ∧ KOk (ribM us) T) ∧ ribE (ribM us) (a + 1) (r / 2) s T = ribE (ribM us) (atN (zAh sd x) (ribM us)) (rowN (zAh sd x)) (sumN (zAh sd x)) K
      exact ⟨⟨(zET (K := T) hI (by omega) (by omega)).2, hT⟩, (zET (K := T) hI (by omega) (by omega)).1.trans hR⟩
     ·
      show 2 * (ribM us - (a + 1)) + (r / 2) % 2 < 2 * (ribM us - a) + r % 2
      have := hI.in_ (by omega); omega
     · exact zAK ⟨rfl, ⟨rfl, ⟨rfl, ⟨rfl, ⟨rfl, ⟨rfl, ⟨rfl, ⟨(zAH (by omega)), ⟨rfl, ⟨rfl, trivial⟩⟩⟩⟩⟩⟩⟩⟩⟩⟩ ⟨rfl, trivial⟩ ⟨rfl, ⟨rfl, trivial⟩⟩ rfl
    ·
     replace h10 := of_decide_eq_false h10
     refine zAJ ?_
     refine zAC ?_
     have ha := hI.in_ (by omega)
     have hTl := hT.len
     obtain ⟨e, he⟩ : ∃ e, T[a]? = some e := ⟨_, List.getElem?_eq_getElem (by omega)⟩
     have hTr : (pvQ (T.map Eqn.row)).length = ribM us := by rw [zBN, List.length_map, hTl]
     have hTs : (pvQ (T.map Eqn.sum)).length = ribM us := by rw [zBN, List.length_map, hTl]
     refine zAA rfl (.run [] [] rfl (zAB rfl) (.run [] [] rfl (zAB rfl) (.run [] [] rfl (zAq a rfl rfl rfl rfl Tryd.underlying80 Tryd.sizeOf43 rfl rfl (by omega)) (.run [] [] rfl (zAy rfl rfl rfl (zDF (zFh he)) Tryd.isAgg43 rfl) (.run [] [] rfl (zA6 rfl rfl rfl) .nil))))) ?_
     refine zAW (t := decide (((e.row : Nat) : Int) = 0)) rfl (fun h11 => ?_) (fun h11 => ?_)
     ·
      replace h11 := of_decide_eq_true h11
      refine zAC ?_
      refine zAA rfl (.run [] [] rfl (zAB rfl) (.run [] [] rfl (zAB rfl) (.run [] [] rfl (zAB rfl) (.run [] [] rfl (zAq a rfl rfl rfl rfl Tryd.underlying80 Tryd.sizeOf43 rfl rfl (by omega)) (.run [] [] rfl (zBM rfl rfl rfl (FlatP.nf (zFm _)) (zDF (zFh he)) rfl rfl (.cons .v .nil) Tryd.sizeOf43 rfl (nle rfl)) .nil))))) ?_
      have hr12 : (pvQ (T.map Eqn.row)).set a [PV.v (.int .u64 (r:Int))] = pvQ ((T.set a ⟨a, r, s⟩).map Eqn.row) := by exact zJ6 ⟨a, r, s⟩
      have hl13 : (pvQ (T.map Eqn.row)).length = (pvQ ((T.set a ⟨a, r, s⟩).map Eqn.row)).length := by first | (rw [← hr12, List.length_set]; done) | simp [zBN]
      have hp14 : (.sl 1 0 ((pvQ (T.map Eqn.row)).length) : AV) = .sl 1 0 ((pvQ ((T.set a ⟨a, r, s⟩).map Eqn.row)).length) := by first | exact congrArg (AV.sl 1 0) hl13 | simp only [hr12, hl13]
      refine zAU (s' := mk [(0, .p none (.sl false 1 (pvT us))), (1, .p none (.v (.int .i64 (sd:Int)))), (4, .ptr 4 0), (7, .p none (.v (.int .i64 ((ribM us : Nat) : Int)))), (8, .sl 1 0 ((pvQ ((T.set a ⟨a, r, s⟩).map Eqn.row)).length)), (9, .sl 2 0 ((pvQ (T.map Eqn.sum)).length)), (10, .p none (.v (.int .i64 (i:Int)))), (11, .p none (.v (.int .i64 (a:Int)))), (13, .p none (.v (.int .u64 (s:Int))))] [(4, [.p none (.v (.int .i64 0)), .p none (.v (.int .i64 0)), .p none (.v (.int .i64 0)), .p none (.v (.string ⟨#[]⟩))])] [(1, 1, pvQ ((T.set a ⟨a, r, s⟩).map Eqn.row)), (2, 1, pvQ (T.map Eqn.sum))]) ?_ ?_
      · exact zAK ⟨rfl, ⟨rfl, ⟨rfl, ⟨rfl, ⟨hp14, ⟨rfl, ⟨rfl, ⟨rfl, ⟨rfl, trivial⟩⟩⟩⟩⟩⟩⟩⟩⟩ ⟨rfl, trivial⟩ ⟨(congrArg (fun x => some (1, x)) hr12), ⟨rfl, trivial⟩⟩ rfl
      refine zAC ?_
      refine zAA rfl (.run [] [] rfl (zAB rfl) (.run [] [] rfl (zAB rfl) (.run [] [] rfl (zAB rfl) (.run [] [] rfl (zAq a rfl rfl rfl rfl Tryd.underlying80 Tryd.sizeOf43 rfl rfl (by omega)) (.run [] [] rfl (zBM rfl rfl rfl (FlatP.nf (zFm _)) (zDF (zG4 he)) rfl rfl (.cons .v .nil) Tryd.sizeOf43 rfl (nle rfl)) .nil))))) ?_
      have hr15 : (pvQ (T.map Eqn.sum)).set a [PV.v (.int .u64 (s:Int))] = pvQ ((T.set a ⟨a, r, s⟩).map Eqn.sum) := by exact zJ5 ⟨a, r, s⟩
      have hl16 : (pvQ (T.map Eqn.sum)).length = (pvQ ((T.set a ⟨a, r, s⟩).map Eqn.sum)).length := by first | (rw [← hr15, List.length_set]; done) | simp [zBN]
      have hp17 : (.sl 2 0 ((pvQ (T.map Eqn.sum)).length) : AV) = .sl 2 0 ((pvQ ((T.set a ⟨a, r, s⟩).map Eqn.sum)).length) := by first | exact congrArg (AV.sl 2 0) hl16 | simp only [hr15, hl16]
      refine zAU (s' := mk [(0, .p none (.sl false 1 (pvT us))), (1, .p none (.v (.int .i64 (sd:Int)))), (4, .ptr 4 0), (7, .p none (.v (.int .i64 ((ribM us : Nat) : Int)))), (8, .sl 1 0 ((pvQ ((T.set a ⟨a, r, s⟩).map Eqn.row)).length)), (9, .sl 2 0 ((pvQ ((T.set a ⟨a, r, s⟩).map Eqn.sum)).length)), (10, .p none (.v (.int .i64 (i:Int)))), (11, .p none (.v (.int .i64 (a:Int))))] [(4, [.p none (.v (.int .i64 0)), .p none (.v (.int .i64 0)), .p none (.v (.int .i64 0)), .p none (.v (.string ⟨#[]⟩))])] [(1, 1, pvQ ((T.set a ⟨a, r, s⟩).map Eqn.row)), (2, 1, pvQ ((T.set a ⟨a, r, s⟩).map Eqn.sum))]) ?_ ?_
      · exact zAK ⟨rfl, ⟨rfl, ⟨rfl, ⟨rfl, ⟨rfl, ⟨hp17, ⟨rfl, ⟨rfl, trivial⟩⟩⟩⟩⟩⟩⟩⟩ ⟨rfl, trivial⟩ ⟨rfl, ⟨(congrArg (fun x => some (1, x)) hr15), trivial⟩⟩ rfl
      refine zAC ?_
      refine zAA rfl (.run [] [] rfl (zAD rfl) .nil) ?_
      refine zAA rfl (.run [] [] rfl (zAD rfl) .nil) ?_
      refine nxt (Q := fun _ _ => False) (z := (a, r, s, T)) (a, 0, 0, T.set a ⟨a, r, s⟩) ?_ ?_ ?_
      ·
       show (RI (ribM us) a 0 0 ∧ KOk (ribM us) (T.set a ⟨a, r, s⟩)) ∧ ribE (ribM us) a 0 0 (T.set a ⟨a, r, s⟩) = ribE (ribM us) (atN (zAh sd x) (ribM us)) (rowN (zAh sd x)) (sumN (zAh sd x)) K
       exact ⟨⟨(zDu hI hT (by omega) he (by omega)).2.1, (zDu hI hT (by omega) he (by omega)).2.2⟩, (zDu hI hT (by omega) he (by omega)).1.trans hR⟩
      ·
       show 2 * (ribM us - a) + 0 % 2 < 2 * (ribM us - a) + r % 2
       have : r % 2 = 1 := by omega
       omega
      · exact zAK ⟨rfl, ⟨rfl, ⟨rfl, ⟨rfl, ⟨rfl, ⟨rfl, ⟨rfl, ⟨(zAH (by omega)), ⟨rfl, ⟨rfl, trivial⟩⟩⟩⟩⟩⟩⟩⟩⟩⟩ ⟨rfl, trivial⟩ ⟨rfl, ⟨rfl, trivial⟩⟩ rfl
     ·
      replace h11 := of_decide_eq_false h11
      refine zAC ?_
      have hx := zIx hI hT (by omega) he (by omega)
      have hx1 := hx.2.1.row
      have hx2 := hx.2.1.sum
      refine zAU (s' := mk [(0, .p none (.sl false 1 (pvT us))), (1, .p none (.v (.int .i64 (sd:Int)))), (4, .ptr 4 0), (7, .p none (.v (.int .i64 ((ribM us : Nat) : Int)))), (8, .sl 1 0 ((pvQ (T.map Eqn.row)).length)), (9, .sl 2 0 ((pvQ (T.map Eqn.sum)).length)), (10, .p none (.v (.int .i64 (i:Int)))), (11, .p none (.v (.int .i64 (a:Int)))), (12, .p none (.v (.int .u64 (r:Int)))), (13, .p none (.v (.int .u64 (s:Int))))] [(4, [.p none (.v (.int .i64 0)), .p none (.v (.int .i64 0)), .p none (.v (.int .i64 0)), .p none (.v (.string ⟨#[]⟩))])] [(1, 1, pvQ (T.map Eqn.row)), (2, 1, pvQ (T.map Eqn.sum))]) ?_ ?_
      · exact zAK ⟨rfl, ⟨rfl, ⟨rfl, ⟨rfl, ⟨rfl, ⟨rfl, ⟨rfl, ⟨rfl, ⟨rfl, ⟨rfl, trivial⟩⟩⟩⟩⟩⟩⟩⟩⟩⟩ ⟨rfl, trivial⟩ ⟨rfl, ⟨rfl, trivial⟩⟩ rfl
      refine zAA rfl (.run [] [] rfl (zAB rfl) (.run [] [] rfl (zAB rfl) (.run [] [] rfl (zAB rfl) (.run [] [] rfl (zAq a rfl rfl rfl rfl Tryd.underlying80 Tryd.sizeOf43 rfl rfl (by omega)) (.run [] [] rfl (zAy rfl rfl rfl (zDF (zFh he)) Tryd.isAgg43 rfl) (.run [] [] rfl (zAO (zBY (k := .u64) 18446744073709551616 rfl r e.row rfl rfl rfl rfl) ((zAH (show (((r ^^^ e.row) % 18446744073709551616 : Nat) : Int) = ((r ^^^ e.row : Nat) : Int) by omega)))) (.run [] [] rfl (zAD rfl) .nil))))))) ?_
      refine zAA rfl (.run [] [] rfl (zAB rfl) (.run [] [] rfl (zAB rfl) (.run [] [] rfl (zAB rfl) (.run [] [] rfl (zAq a rfl rfl rfl rfl Tryd.underlying80 Tryd.sizeOf43 rfl rfl (by omega)) (.run [] [] rfl (zAy rfl rfl rfl (zDF (zG4 he)) Tryd.isAgg43 rfl) (.run [] [] rfl (zAO (zBY (k := .u64) 18446744073709551616 rfl s e.sum rfl rfl rfl rfl) ((zAH (show (((s ^^^ e.sum) % 18446744073709551616 : Nat) : Int) = ((s ^^^ e.sum : Nat) : Int) by omega)))) (.run [] [] rfl (zAD rfl) .nil))))))) ?_
      refine nxt (Q := fun _ _ => False) (z := (a, r, s, T)) (a, r ^^^ e.row, s ^^^ e.sum, T) ?_ ?_ ?_
      ·
       show (RI (ribM us) a (r ^^^ e.row) (s ^^^ e.sum) ∧ KOk (ribM us) T) ∧ ribE (ribM us) a (r ^^^ e.row) (s ^^^ e.sum) T = ribE (ribM us) (atN (zAh sd x) (ribM us)) (rowN (zAh sd x)) (sumN (zAh sd x)) K
       exact ⟨⟨hx.2.1, hT⟩, hx.1.trans hR⟩
      ·
       show 2 * (ribM us - a) + (r ^^^ e.row) % 2 < 2 * (ribM us - a) + r % 2
       have := hx.2.2; omega
      · exact zAK ⟨rfl, ⟨rfl, ⟨rfl, ⟨rfl, ⟨rfl, ⟨rfl, ⟨rfl, ⟨(zAH (by omega)), ⟨rfl, ⟨rfl, trivial⟩⟩⟩⟩⟩⟩⟩⟩⟩⟩ ⟨rfl, trivial⟩ ⟨rfl, ⟨rfl, trivial⟩⟩ rfl
   ·
    replace h9 := of_decide_eq_false h9
    refine zAk ?_
    refine zAC ?_
    refine zAA rfl (.run [] [] rfl (zAB rfl) (.run [] [] rfl (zCH rfl rfl rfl) .nil)) ?_
    refine zAW (t := (!(decide ((s:Int) = 0)))) rfl (fun h18 => ?_) (fun h18 => ?_)
    ·
     replace h18 : ¬ ((s:Int) = 0) := of_decide_eq_false (zA4 h18)
     refine zAC ?_
     have hN := zDl (zD8 ((zBo hA hx).trans (hR.symm.trans (by rw [show r = 0 by omega, zCz, if_neg (by omega)]))) (show i + 1 ≤ us.length by omega))
     rw [hN]
     refine zAA rfl (.run [] [] rfl (zB0 (pl := [(0, 1), (1, 1), (2, 1), (3, 1)]) rfl Tryd.underlying52 zCd (by kernel_rfl) rfl rfl) (.run [] [] rfl (zAS rfl rfl rfl rfl rfl Tryd.sizeOf52 rfl (nle rfl)) (.run [] [] rfl (zAD rfl) .nil))) ?_
     refine zAL ?_
     exact ends [_, _] [] (.cons (.cell rfl rfl Tryd.isAgg52 Tryd.sizeOf52 (nle rfl)) (.cons (.tmp rfl) .nil)) (.cons (.agg (.cons .v (.cons .v (.cons .v (.cons .v .nil)))) (zAb (.v _) (zAb (.v _) (zAb (.v _) (zAb (.v _) zCF))))) (.cons (.one .v (.v _)) .nil)) (by decide) trivial
    ·
     replace h18 : (s:Int) = 0 := of_decide_eq_true (zA5 h18)
     refine zAJ ?_
     refine zAA rfl (.run [] [] rfl (zAB rfl) (.run [] [] rfl (zAX rfl rfl rfl (by omega)) (.run [] [] rfl (zAD rfl) .nil))) ?_
     refine nxt (Q := fun _ _ => False) (z := (i, K)) (i + 1, T) ?_ ?_ ?_
     ·
      show ((i + 1) ≤ us.length ∧ KOk (ribM us) T) ∧ zBp us sd (ribM us) (i + 1) = some T
      exact ⟨⟨by omega, hT⟩, (zBo hA hx).trans (hR.symm.trans (by rw [show r = 0 by omega, show s = 0 by omega, zCz, if_pos rfl]))⟩
     ·
      show us.length - (i + 1) < us.length - i
      omega
     · exact zAK ⟨rfl, ⟨rfl, ⟨rfl, ⟨rfl, ⟨rfl, ⟨rfl, ⟨(zAH (by omega)), trivial⟩⟩⟩⟩⟩⟩⟩ ⟨rfl, trivial⟩ ⟨rfl, ⟨rfl, trivial⟩⟩ rfl
  ·
   replace h8 := of_decide_eq_false h8
   refine zAk ?_
   refine zAC ?_
   have hS := zEf (show zBp us sd (ribM us) us.length = some K by rw [show us.length = i by omega]; exact hA)
   rw [hS]
   refine zAA rfl (.run [] [] rfl (zAB rfl) (.run [9300] [] rfl (zCl rfl 9300 (l := ribM us) (c := ribM us) rfl rfl Tryd.underlying67 inf5 rfl rfl (by decide) rfl (by decide) (by omega) (by omega) (by simp only [maxLen]; omega)) (.run [] [] rfl (zAD rfl) .nil))) ?_
   have hr19 : List.replicate (ribM us) [PV.v (.int .u8 0)] = pvNb (bitK K (ribM us) 0) := by exact zFU K _
   have hl20 : ribM us = (pvNb (bitK K (ribM us) 0)).length := by first | (rw [← hr19, List.length_set]; done) | simp [zAt, zCk]
   have hp21 : (.sl 9300 0 (ribM us) : AV) = .sl 9300 0 ((pvNb (bitK K (ribM us) 0)).length) := by first | exact congrArg (AV.sl 9300 0) hl20 | simp only [hr19, hl20]
   refine zAU (s' := mk [(1, .p none (.v (.int .i64 (sd:Int)))), (4, .ptr 4 0), (7, .p none (.v (.int .i64 ((ribM us : Nat) : Int)))), (8, .sl 1 0 ((pvQ (K.map Eqn.row)).length)), (9, .sl 2 0 ((pvQ (K.map Eqn.sum)).length)), (14, .sl 9300 0 ((pvNb (bitK K (ribM us) 0)).length))] [(4, [.p none (.v (.int .i64 0)), .p none (.v (.int .i64 0)), .p none (.v (.int .i64 0)), .p none (.v (.string ⟨#[]⟩))])] [(1, 1, pvQ (K.map Eqn.row)), (2, 1, pvQ (K.map Eqn.sum)), (9300, 1, pvNb (bitK K (ribM us) 0))]) ?_ ?_
   · exact zAK ⟨rfl, ⟨rfl, ⟨rfl, ⟨rfl, ⟨rfl, ⟨hp21, trivial⟩⟩⟩⟩⟩⟩ ⟨rfl, trivial⟩ ⟨rfl, ⟨rfl, ⟨(congrArg (fun x => some (1, x)) hr19), trivial⟩⟩⟩ rfl
   refine zAC ?_
   refine zAC ?_
   refine zAA rfl (.run [] [] rfl (zAB rfl) (.run [] [] rfl (zBw rfl rfl rfl (by omega)) (.run [] [] rfl (zAD rfl) .nil))) ?_
   refine zAM ?_
   refine zAU (zCe 9300 3 rfl rfl (by decide)) ?_
   refine zAj (σ := Nat) (fun j => mk [(1, .p none (.v (.int .i64 (sd:Int)))), (4, .ptr 4 0), (8, .sl 1 0 ((pvQ (K.map Eqn.row)).length)), (9, .sl 2 0 ((pvQ (K.map Eqn.sum)).length)), (14, .sl 3 0 ((pvNb (bitK K (ribM us) j)).length)), (15, .p none (.v (.int .i64 (((ribM us : Nat) : Int) - 1 - (j : Int)))))] [(4, [.p none (.v (.int .i64 0)), .p none (.v (.int .i64 0)), .p none (.v (.int .i64 0)), .p none (.v (.string ⟨#[]⟩))])] [(1, 1, pvQ (K.map Eqn.row)), (2, 1, pvQ (K.map Eqn.sum)), (3, 1, pvNb (bitK K (ribM us) j))]) (fun j => j ≤ ribM us) (fun j => ribM us - j) 0 (by simp) (zAK ⟨rfl, ⟨rfl, ⟨rfl, ⟨rfl, ⟨rfl, ⟨(zAH (by omega)), trivial⟩⟩⟩⟩⟩⟩ ⟨rfl, trivial⟩ ⟨rfl, ⟨rfl, ⟨(congrArg (fun x => some (1, x)) (by rfl)), trivial⟩⟩⟩ rfl) ?_
   rintro j hG
   replace hG : j ≤ ribM us := hG
   have hbt := zHV hK j
   have hbl := zCk K (ribM us) j
   have hbv := zAt (bitK K (ribM us) j)
   refine zAC ?_
   refine zAC ?_
   refine zAA rfl (.run [] [] rfl (zAB rfl) (.run [] [] rfl (zC8 rfl rfl rfl) .nil)) ?_
   refine zAW (t := decide (0 ≤ (((ribM us : Nat) : Int) - 1 - (j : Int)))) rfl (fun h22 => ?_) (fun h22 => ?_)
   ·
    replace h22 := of_decide_eq_true h22
    refine zAJ ?_
    refine zAC ?_
    refine zAM ?_
    refine zAC ?_
    have hKl := hK.len
    obtain ⟨e, he⟩ : ∃ e, K[ribM us - 1 - j]? = some e := ⟨_, List.getElem?_eq_getElem (by omega)⟩
    have hE := hK.all _ e he
    have hE1 := hE.1
    have hE3 := hE.2.2.1
    have hKr : (pvQ (K.map Eqn.row)).length = ribM us := by rw [zBN, List.length_map, hKl]
    have hKs : (pvQ (K.map Eqn.sum)).length = ribM us := by rw [zBN, List.length_map, hKl]
    refine zAA rfl (.run [] [] rfl (zAB rfl) (.run [] [] rfl (zAO (zAB rfl) ((zAH (by omega)))) (.run [] [] rfl (zAq (ribM us - 1 - j) rfl rfl rfl rfl Tryd.underlying80 Tryd.sizeOf43 rfl rfl (by omega)) (.run [] [] rfl (zAy rfl rfl rfl (zDF (zG4 he)) Tryd.isAgg43 rfl) (.run [] [] rfl (zAD rfl) .nil))))) ?_
    refine zAC ?_
    refine zAC ?_
    refine zAA rfl (.run [] [] rfl (zAD rfl) .nil) ?_
    refine zAM ?_
    refine zAj (σ := Nat) (fun k => mk [(1, .p none (.v (.int .i64 (sd:Int)))), (4, .ptr 4 0), (8, .sl 1 0 ((pvQ (K.map Eqn.row)).length)), (9, .sl 2 0 ((pvQ (K.map Eqn.sum)).length)), (14, .sl 3 0 ((pvNb (bitK K (ribM us) j)).length)), (15, .p none (.v (.int .i64 (((ribM us : Nat) : Int) - 1 - (j : Int))))), (16, .p none (.v (.int .u64 ((e.sum ^^^ solT (bitK K (ribM us) j) (ribM us - 1 - j) (e.row / 2 * 2) k : Nat) : Int)))), (17, .p none (.v (.int .i64 (k:Int))))] [(4, [.p none (.v (.int .i64 0)), .p none (.v (.int .i64 0)), .p none (.v (.int .i64 0)), .p none (.v (.string ⟨#[]⟩))])] [(1, 1, pvQ (K.map Eqn.row)), (2, 1, pvQ (K.map Eqn.sum)), (3, 1, pvNb (bitK K (ribM us) j))]) (fun k => 1 ≤ k ∧ k ≤ 16) (fun k => 16 - k) 1 (by decide) (zAK ⟨rfl, ⟨rfl, ⟨rfl, ⟨rfl, ⟨rfl, ⟨rfl, ⟨(zAH (by rw [sol_one, Nat.xor_zero])), ⟨(zAH (by omega)), trivial⟩⟩⟩⟩⟩⟩⟩⟩ ⟨rfl, trivial⟩ ⟨rfl, ⟨rfl, ⟨rfl, trivial⟩⟩⟩ rfl) ?_
    rintro k hG
    replace hG : 1 ≤ k ∧ k ≤ 16 := hG
    obtain ⟨hk1, hk2⟩ := hG
    refine zAC ?_
    refine zAC ?_
    refine zAA rfl (.run [] [] rfl (zAB rfl) (.run [] [] rfl (zAu rfl rfl rfl) .nil)) ?_
    refine zAW (t := decide ((k:Int) < 16)) rfl (fun h23 => ?_) (fun h23 => ?_)
    ·
     replace h23 := of_decide_eq_true h23
     refine zAJ ?_
     refine zAC ?_
     refine zAM ?_
     refine zAC ?_
     refine zAA rfl (.run [] [] rfl (zAB rfl) (.run [] [] rfl (zAO (zAB rfl) ((zAH (by omega)))) (.run [] [] rfl (zAq (ribM us - 1 - j) rfl rfl rfl rfl Tryd.underlying80 Tryd.sizeOf43 rfl rfl (by omega)) (.run [] [] rfl (zAy rfl rfl rfl (zDF (zFh he)) Tryd.isAgg43 rfl) (.run [] [] rfl (zAB rfl) (.run [] [] rfl (zAO (zAe (k' := .u64) 18446744073709551616 rfl k rfl rfl rfl Tryd.underlying2 Tryd.underlying69) ((zAH (show ((k % 18446744073709551616 : Nat) : Int) = ((k : Nat) : Int) by omega)))) (.run [] [] rfl (zBK e.row k rfl rfl rfl (by show _ ≤ 64; omega)) (.run [] [] rfl (zBx (e.row / 2 ^ k) 2 rfl rfl rfl (by omega)) (.run [] [] rfl (zA6 rfl rfl rfl) .nil))))))))) ?_
     refine zAW (t := decide ((((e.row / 2 ^ k) % 2 : Nat) : Int) = 1)) rfl (fun h24 => ?_) (fun h24 => ?_)
     ·
      replace h24 := of_decide_eq_true h24
      have hpk : ribM us - 1 - j + k < ribM us := zI3 hE.2.1 (by have := h24; intro q; rw [q] at this; exact absurd this (by decide))
      obtain ⟨b, hb⟩ : ∃ b, (bitK K (ribM us) j)[ribM us - 1 - j + k]? = some b := ⟨_, List.getElem?_eq_getElem (by omega)⟩
      have hb8 := hbt b (List.mem_of_getElem? hb)
      refine zAU (s' := mk [(1, .p none (.v (.int .i64 (sd:Int)))), (4, .ptr 4 0), (8, .sl 1 0 ((pvQ (K.map Eqn.row)).length)), (9, .sl 2 0 ((pvQ (K.map Eqn.sum)).length)), (14, .sl 3 0 ((pvNb (bitK K (ribM us) j)).length)), (15, .p none (.v (.int .i64 (((ribM us : Nat) : Int) - 1 - (j : Int))))), (16, .p none (.v (.int .u64 ((e.sum ^^^ solT (bitK K (ribM us) j) (ribM us - 1 - j) (e.row / 2 * 2) k : Nat) : Int)))), (17, .p none (.v (.int .i64 (k:Int))))] [(4, [.p none (.v (.int .i64 0)), .p none (.v (.int .i64 0)), .p none (.v (.int .i64 0)), .p none (.v (.string ⟨#[]⟩))])] [(1, 1, pvQ (K.map Eqn.row)), (2, 1, pvQ (K.map Eqn.sum)), (3, 1, pvNb (bitK K (ribM us) j))]) ?_ ?_
      · exact zAK ⟨rfl, ⟨rfl, ⟨rfl, ⟨rfl, ⟨rfl, ⟨rfl, ⟨rfl, ⟨rfl, trivial⟩⟩⟩⟩⟩⟩⟩⟩ ⟨rfl, trivial⟩ ⟨rfl, ⟨rfl, ⟨rfl, trivial⟩⟩⟩ rfl
      refine zAA rfl (.run [] [] rfl (zAB rfl) (.run [] [] rfl (zAB rfl) (.run [] [] rfl (zAO (zAB rfl) ((zAH (by omega)))) (.run [] [] rfl (zAB rfl) (.run [] [] rfl (zAO (zAX rfl rfl rfl (by omega)) ((zAH (show ((ribM us - 1 - j : Nat) : Int) + (k : Int) = ((ribM us - 1 - j + k : Nat) : Int) by omega)))) (.run [] [] rfl (zAq (ribM us - 1 - j + k) rfl rfl rfl rfl Tryd.underlying67 Tryd.sizeOf5 rfl rfl (by omega)) (.run [] [] rfl (zAy rfl rfl rfl (zBm hb) Tryd.isAgg5 rfl) (.run [] [] rfl (zAO (zAe (k' := .u64) 18446744073709551616 rfl b rfl rfl rfl Tryd.underlying5 Tryd.underlying43) ((zAH (show ((b % 18446744073709551616 : Nat) : Int) = ((b : Nat) : Int) by omega)))) (.run [] [] rfl (zBY (k := .u64) 18446744073709551616 rfl (e.sum ^^^ solT (bitK K (ribM us) j) (ribM us - 1 - j) (e.row / 2 * 2) k) b rfl rfl rfl rfl) (.run [] [] rfl (zAD rfl) .nil)))))))))) ?_
      refine zAA rfl (.run [] [] rfl (zAB rfl) (.run [] [] rfl (zAX rfl rfl rfl (by omega)) (.run [] [] rfl (zAD rfl) .nil))) ?_
      refine nxt (Q := fun _ _ => False) (z := k) (k + 1) ?_ ?_ ?_
      ·
       show 1 ≤ (k + 1) ∧ (k + 1) ≤ 16
       omega
      ·
       show 16 - (k + 1) < 16 - k
       omega
      · exact zAK ⟨rfl, ⟨rfl, ⟨rfl, ⟨rfl, ⟨rfl, ⟨rfl, ⟨(zAH (congrArg Nat.cast (zIr hk1 (by omega) hb hE3 hbt))), ⟨(zAH (by omega)), trivial⟩⟩⟩⟩⟩⟩⟩⟩ ⟨rfl, trivial⟩ ⟨rfl, ⟨rfl, ⟨rfl, trivial⟩⟩⟩ rfl
     ·
      replace h24 := of_decide_eq_false h24
      refine zAJ ?_
      refine zAA rfl (.run [] [] rfl (zAB rfl) (.run [] [] rfl (zAX rfl rfl rfl (by omega)) (.run [] [] rfl (zAD rfl) .nil))) ?_
      refine nxt (Q := fun _ _ => False) (z := k) (k + 1) ?_ ?_ ?_
      ·
       show 1 ≤ (k + 1) ∧ (k + 1) ≤ 16
       omega
      ·
       show 16 - (k + 1) < 16 - k
       omega
      · exact zAK ⟨rfl, ⟨rfl, ⟨rfl, ⟨rfl, ⟨rfl, ⟨rfl, ⟨(zAH (congrArg Nat.cast (congrArg (e.sum ^^^ ·) (zIs hk1 (by omega)).symm))), ⟨(zAH (by omega)), trivial⟩⟩⟩⟩⟩⟩⟩⟩ ⟨rfl, trivial⟩ ⟨rfl, ⟨rfl, ⟨rfl, trivial⟩⟩⟩ rfl
    ·
     replace h23 := of_decide_eq_false h23
     refine zAk ?_
     obtain ⟨b, hb⟩ : ∃ b, (bitK K (ribM us) j)[ribM us - 1 - j]? = some b := ⟨_, List.getElem?_eq_getElem (by omega)⟩
     refine zAA rfl (.run [] [] rfl (zAB rfl) (.run [] [] rfl (zAO (zAB rfl) ((zAH (by omega)))) (.run [] [] rfl (zAB rfl) (.run [] [] rfl (zAe (k' := .u8) 256 rfl (e.sum ^^^ solT (bitK K (ribM us) j) (ribM us - 1 - j) (e.row / 2 * 2) k) rfl rfl rfl Tryd.underlying43 Tryd.underlying5) (.run [] [] rfl (zAq (ribM us - 1 - j) rfl rfl rfl rfl Tryd.underlying67 Tryd.sizeOf5 rfl rfl (by omega)) (.run [] [] rfl (zBM rfl rfl rfl (FlatP.nf (zCa _)) (zBm hb) rfl rfl (.cons .v .nil) Tryd.sizeOf5 rfl (nle rfl)) .nil)))))) ?_
     have hr25 : (pvNb (bitK K (ribM us) j)).set (ribM us - 1 - j) [PV.v (.int .u8 (((e.sum ^^^ solT (bitK K (ribM us) j) (ribM us - 1 - j) (e.row / 2 * 2) k) % 256 : Nat) : Int))] = pvNb (bitK K (ribM us) (j + 1)) := by rw [show k = 16 by omega, Nat.mod_eq_of_lt (Nat.lt_trans (Nat.xor_lt_two_pow (n := 7) hE3 (zDh hbt _ _ _)) (by decide)), zDv, zE1 he]
     have hl26 : (pvNb (bitK K (ribM us) j)).length = (pvNb (bitK K (ribM us) (j + 1))).length := by first | (rw [← hr25, List.length_set]; done) | simp [zAt]
     have hp27 : (.sl 3 0 ((pvNb (bitK K (ribM us) j)).length) : AV) = .sl 3 0 ((pvNb (bitK K (ribM us) (j + 1))).length) := by first | exact congrArg (AV.sl 3 0) hl26 | simp only [hr25, hl26]
     refine zAU (s' := mk [(1, .p none (.v (.int .i64 (sd:Int)))), (4, .ptr 4 0), (8, .sl 1 0 ((pvQ (K.map Eqn.row)).length)), (9, .sl 2 0 ((pvQ (K.map Eqn.sum)).length)), (14, .sl 3 0 ((pvNb (bitK K (ribM us) (j + 1))).length)), (15, .p none (.v (.int .i64 (((ribM us : Nat) : Int) - 1 - (j : Int)))))] [(4, [.p none (.v (.int .i64 0)), .p none (.v (.int .i64 0)), .p none (.v (.int .i64 0)), .p none (.v (.string ⟨#[]⟩))])] [(1, 1, pvQ (K.map Eqn.row)), (2, 1, pvQ (K.map Eqn.sum)), (3, 1, pvNb (bitK K (ribM us) (j + 1)))]) ?_ ?_
     · exact zAK ⟨rfl, ⟨rfl, ⟨rfl, ⟨rfl, ⟨hp27, ⟨rfl, trivial⟩⟩⟩⟩⟩⟩ ⟨rfl, trivial⟩ ⟨rfl, ⟨rfl, ⟨(congrArg (fun x => some (1, x)) hr25), trivial⟩⟩⟩ rfl
     refine zAA rfl (.run [] [] rfl (zAB rfl) (.run [] [] rfl (zBw rfl rfl rfl (by omega)) (.run [] [] rfl (zAD rfl) .nil))) ?_
     refine nxt (Q := fun _ _ => False) (z := j) (j + 1) ?_ ?_ ?_
     ·
      show (j + 1) ≤ ribM us
      omega
     ·
      show ribM us - (j + 1) < ribM us - j
      omega
     · exact zAK ⟨rfl, ⟨rfl, ⟨rfl, ⟨rfl, ⟨rfl, ⟨(zAH (by omega)), trivial⟩⟩⟩⟩⟩⟩ ⟨rfl, trivial⟩ ⟨rfl, ⟨rfl, ⟨rfl, trivial⟩⟩⟩ rfl
   ·
    replace h22 := of_decide_eq_false h22
    refine zAk ?_
    refine zAC ?_
    refine zAA rfl (.run [] [] rfl (zAB rfl) (.run [] [] rfl (zAB rfl) (.run [] [] rfl (zB2 (ints (bitK K (ribM us) (ribM us))) rfl rfl (.give (len := (pvNb (bitK K (ribM us) j)).length) (xs := pvNb (bitK K (ribM us) j)) rfl rfl) rfl (by rw [show j = ribM us by omega]; exact zCB _) Tryd.underlying67 Tryd.underlying9 Tryd.underlying5) (.run [] [] rfl (zB0 (pl := [(0, 1), (1, 1), (2, 1), (3, 1)]) rfl Tryd.underlying52 zCd (by kernel_rfl) rfl rfl) (.run [] [] rfl (zAS rfl rfl rfl rfl rfl Tryd.sizeOf52 rfl (nle rfl)) (.run [] [] rfl (zAD rfl) .nil)))))) ?_
    refine zAL ?_
    exact ends [_, _] [] (.cons (.cell rfl rfl Tryd.isAgg52 Tryd.sizeOf52 (nle rfl)) (.cons (.tmp rfl) .nil)) (.cons (.agg (.cons .v (.cons .v (.cons .v (.cons .v .nil)))) (zAb (.v _) (zAb (.v _) (zAb (.v _) (zAb (.v _) zCF))))) (.cons (.one .v (.v _)) .nil)) (by decide) trivial
end Go.Rl
namespace Go.Rl
open Go.Proofs
theorem en76 : ∀ vs w, (callFunc 76 vs).run Tryd.prog w = .ok (.enter 76 vs) w := zAn Tryd.func76 (by decide) rfl
theorem en77 : ∀ vs w, (callFunc 77 vs).run Tryd.prog w = .ok (.enter 77 vs) w := zAn Tryd.func77 (by decide) rfl
theorem zKF {c : Nat} (h : (((c &&& 1) % 18446744073709551616 : Nat) : Int) = 0) : c % 2 = 0 := by rw [Nat.and_one_is_mod] at h; omega
theorem low_n {c : Nat} (h : ¬ (((c &&& 1) % 18446744073709551616 : Nat) : Int) = 0) : c % 2 = 1 := by rw [Nat.and_one_is_mod] at h; omega
set_option maxRecDepth 1000000 in
set_option maxHeartbeats 2000000 in
theorem zGM (us : List ByteArray) (sd : Nat) (hsd : sd ≤ 3) (hu : ∀ u ∈ us, zBI u = true) (hn : us.length ≤ 400) : Con Tryd.prog 69 [.one (PV.sl false 1 (pvT us)), .one (PV.v (.int .i64 (sd:Int)))] [] [.agg [.v (.int .i64 ((zA8 us sd).getD .zero).kind), .v (.int .i64 ((zA8 us sd).getD .zero).seed), .v (.int .i64 ((zA8 us sd).getD .zero).probes), .v (.string ((zA8 us sd).getD .zero).bits)], .one (.v (.bool ((zA8 us sd).isSome)))] := by
 refine zAP Tryd.func69 rfl rfl rfl rfl ?_
 have hle := zAg us
 have hM := zKl hn
 refine zAC ?_
 refine zAA rfl (.run [] [4] rfl (zA7 rfl 4 zCd rfl (by decide) rfl (by decide)) (.run [] [] rfl (zAD rfl) .nil)) ?_
 refine zAC ?_
 refine zAC ?_
 refine zAA rfl (.run [] [] rfl (zAB rfl) (.run [1600] [] rfl (zAG rfl 1600 (X := []) en68 rfl (.val nod) (.cons (.one (.bor (.sl nod))) .nil) (by decide) all_nil .nil (zCx us (by assumption) (by omega)) rfl rfl (nle rfl)) (.run [] [] rfl (zA1 (b := true) rfl rfl) (.run [] [] rfl (zAB rfl) (.run [] [] rfl (zAB rfl) (.run [2000] [] rfl (zAG rfl 2000 (X := []) en43 rfl (.val nod) (.cons (.one (.bor .v)) (.cons (.one (.bor .v)) (.cons (.one (.bor .v)) .nil))) (by decide) all_nil .nil (zBF (sd:Int) 0 3) rfl rfl (nle rfl)) (.run [] [] rfl (zA1 (b := zAd (sd:Int) 0 3) rfl rfl) (.run [] [] rfl (zAT (t := false) rfl rfl) .nil)))))))) ?_
 refine zAW (t := (!(zAd (sd:Int) 0 3))) rfl (fun h1 => ?_) (fun h1 => ?_)
 ·
  replace h1 : (zAd (sd:Int) 0 3) = false := zA4 h1
  rw [show zAd (sd : Int) 0 3 = true by simp only [zAd, Bool.and_eq_true, decide_eq_true_eq]; omega] at h1; cases h1
 ·
  replace h1 : (zAd (sd:Int) 0 3) = true := zA5 h1
  refine zAJ ?_
  refine zAC ?_
  refine zAU (s' := mk [(0, .p none (.sl false 1 (pvT us))), (1, .p none (.v (.int .i64 (sd:Int)))), (4, .ptr 4 0)] [(4, [.p none (.v (.int .i64 0)), .p none (.v (.int .i64 0)), .p none (.v (.int .i64 0)), .p none (.v (.string ⟨#[]⟩))])] []) ?_ ?_
  · exact zAK ⟨rfl, ⟨rfl, ⟨rfl, trivial⟩⟩⟩ ⟨rfl, trivial⟩ trivial rfl
  refine zAA rfl (.run [] [] rfl (zAB rfl) (.run [] [] rfl (zAa rfl rfl Tryd.underlying49) (.run [] [] rfl (zAB rfl) (.run [] [] rfl (zAa rfl rfl Tryd.underlying49) (.run [] [] rfl (zAO (zEZ rfl rfl rfl (by omega)) ((zAH (quo4 (by omega))))) (.run [] [] rfl (zAX rfl rfl rfl (by omega)) (.run [] [] rfl (zAO (zAX rfl rfl rfl (by omega)) ((zAH (zIy hle)))) (.run [] [] rfl (zAD rfl) .nil)))))))) ?_
  refine zAC ?_
  refine zAA rfl (.run [] [] rfl (zAB rfl) (.run [3200] [] rfl (zCl rfl 3200 (l := ribM us) (c := ribM us) rfl rfl Tryd.underlying91 zJG rfl rfl (by decide) rfl (by decide) (by omega) (by omega) (by simp only [maxLen]; omega)) (.run [] [] rfl (zAD rfl) .nil))) ?_
  have hr2 : List.replicate (ribM us) [PV.v (.int .i64 0), PV.v (.int .u64 0), PV.v (.int .u8 0)] = pvK (eq0 (ribM us)) := by exact eq0_all _
  have hl3 : ribM us = (pvK (eq0 (ribM us))).length := by first | (rw [← hr2, List.length_set]; done) | simp [zCU, eq0]
  have hp4 : (.sl 3200 0 (ribM us) : AV) = .sl 3200 0 ((pvK (eq0 (ribM us))).length) := by first | exact congrArg (AV.sl 3200 0) hl3 | simp only [hr2, hl3]
  refine zAU (s' := mk [(0, .p none (.sl false 1 (pvT us))), (1, .p none (.v (.int .i64 (sd:Int)))), (4, .ptr 4 0), (6, .p none (.v (.int .i64 ((ribM us : Nat) : Int)))), (7, .sl 3200 0 ((pvK (eq0 (ribM us))).length))] [(4, [.p none (.v (.int .i64 0)), .p none (.v (.int .i64 0)), .p none (.v (.int .i64 0)), .p none (.v (.string ⟨#[]⟩))])] [(3200, 3, pvK (eq0 (ribM us)))]) ?_ ?_
  · exact zAK ⟨rfl, ⟨rfl, ⟨rfl, ⟨rfl, ⟨hp4, trivial⟩⟩⟩⟩⟩ ⟨rfl, trivial⟩ ⟨(congrArg (fun x => some (3, x)) hr2), trivial⟩ rfl
  refine zAC ?_
  refine zAC ?_
  refine zAA rfl (.run [] [] rfl (zAB rfl) (.run [] [] rfl (zAa rfl rfl Tryd.underlying49) (.run [] [] rfl (zAB rfl) .nil))) ?_
  refine zAM ?_
  refine zAU (zCe 3200 1 rfl rfl (by decide)) ?_
  refine zAj (σ := Nat × List Eqn) (fun (i, K) => mk [(1, .p none (.v (.int .i64 (sd:Int)))), (4, .ptr 4 0), (6, .p none (.v (.int .i64 ((ribM us : Nat) : Int)))), (7, .sl 1 0 ((pvK K).length)), (33, .p none (.sl false 1 (pvT us))), (34, .p none (.v (.int .i64 ((pvT us).length : Int)))), (35, .p none (.v (.int .i64 (i:Int))))] [(4, [.p none (.v (.int .i64 0)), .p none (.v (.int .i64 0)), .p none (.v (.int .i64 0)), .p none (.v (.string ⟨#[]⟩))])] [(1, 3, pvK K)]) (fun (i, K) => (i ≤ us.length ∧ KOk (ribM us) K) ∧ zBp us sd (ribM us) i = some K) (fun (i, K) => us.length - i) (0, eq0 (ribM us)) ⟨⟨Nat.zero_le _, zHs _⟩, rfl⟩ (zAK ⟨rfl, ⟨rfl, ⟨rfl, ⟨rfl, ⟨rfl, ⟨rfl, ⟨(zAH (by omega)), trivial⟩⟩⟩⟩⟩⟩⟩ ⟨rfl, trivial⟩ ⟨(congrArg (fun x => some (3, x)) (by rfl)), trivial⟩ rfl) ?_
  rintro ⟨i, K⟩ hG
  replace hG : (i ≤ us.length ∧ KOk (ribM us) K) ∧ zBp us sd (ribM us) i = some K := hG
  obtain ⟨⟨hi, hK⟩, hA⟩ := hG
  refine zAC ?_
  refine zAA rfl (.run [] [] rfl (zAu rfl rfl rfl) .nil) ?_
  refine zAC ?_
  refine zAW (t := decide ((i:Int) < ((pvT us).length : Int))) rfl (fun h5 => ?_) (fun h5 => ?_)
  ·
   replace h5 := of_decide_eq_true h5
   refine zAJ ?_
   refine zAC ?_
   refine zAM ?_
   refine zAC ?_
   obtain ⟨x, hx⟩ : ∃ x, us[i]? = some x := ⟨_, List.getElem?_eq_getElem (by omega)⟩
   have huo := hu _ (List.mem_of_getElem? hx)
   have hus := zCK huo
   refine zAA rfl (.run [] [] rfl (zAm rfl rfl rfl Tryd.underlying49 Tryd.sizeOf9 rfl (by omega) (zB3 hx)) (.run [] [] rfl (zA2 rfl rfl Tryd.isAgg9 rfl) (.run [] [] rfl (zAD rfl) .nil))) ?_
   refine zAC ?_
   refine zAA rfl (.run [] [] rfl (zAB rfl) (.run [] [] rfl (zAB rfl) (.run [] [] rfl (zAB rfl) (.run [4200, 4201, 4202] [] rfl (zAG rfl 4200 (X := []) en76 rfl (.val nod) (.cons (.one (.bor .v)) (.cons (.one (.bor .v)) (.cons (.one (.bor .v)) .nil))) (by decide) all_nil .nil (zKS x sd (ribM us) (by omega) (by omega) (by omega)) rfl rfl (nle rfl)) (.run [] [10] rfl (zA7 rfl 10 zJG rfl (by decide) rfl (by decide)) (.run [] [] rfl (zAS rfl rfl rfl rfl rfl Tryd.sizeOf93 rfl (nle rfl)) .nil)))))) ?_
   refine zAC ?_
   refine zAM ?_
   refine zAj (σ := Nat × Nat × Nat × List Eqn) (fun (a, r, s, T) => mk [(1, .p none (.v (.int .i64 (sd:Int)))), (4, .ptr 4 0), (6, .p none (.v (.int .i64 ((ribM us : Nat) : Int)))), (7, .sl 1 0 ((pvK T).length)), (10, .ptr 10 0), (33, .p none (.sl false 1 (pvT us))), (34, .p none (.v (.int .i64 ((pvT us).length : Int)))), (35, .p none (.v (.int .i64 (i:Int))))] [(4, [.p none (.v (.int .i64 0)), .p none (.v (.int .i64 0)), .p none (.v (.int .i64 0)), .p none (.v (.string ⟨#[]⟩))]), (10, [.p none (.v (.int .i64 (a:Int))), .p none (.v (.int .u64 (r:Int))), .p none (.v (.int .u8 (s:Int)))])] [(1, 3, pvK T)]) (fun (a, r, s, T) => (RI (ribM us) a r s ∧ KOk (ribM us) T) ∧ ribE (ribM us) a r s T = ribE (ribM us) (atN (zAh sd x) (ribM us)) (rowN (zAh sd x)) (sumN (zAh sd x)) K) (fun (a, r, s, T) => 2 * (ribM us - a) + r % 2) (atN (zAh sd x) (ribM us), rowN (zAh sd x), sumN (zAh sd x), K) ⟨⟨zHe _ _ (by omega), hK⟩, rfl⟩ (zAK ⟨rfl, ⟨rfl, ⟨rfl, ⟨rfl, ⟨rfl, ⟨rfl, ⟨rfl, ⟨rfl, trivial⟩⟩⟩⟩⟩⟩⟩⟩ ⟨rfl, ⟨rfl, trivial⟩⟩ ⟨rfl, trivial⟩ rfl) ?_
   rintro ⟨a, r, s, T⟩ hG
   replace hG : (RI (ribM us) a r s ∧ KOk (ribM us) T) ∧ ribE (ribM us) a r s T = ribE (ribM us) (atN (zAh sd x) (ribM us)) (rowN (zAh sd x)) (sumN (zAh sd x)) K := hG
   obtain ⟨⟨hI, hT⟩, hR⟩ := hG
   have hI1 := hI.at_
   have hI2 := hI.row
   have hI3 := hI.sum
   refine zAC ?_
   refine zAC ?_
   refine zAA rfl (.run [] [] rfl (zAE rfl rfl Tryd.underlying93 rfl Tryd.sizeOf43 (by decide)) (.run [] [] rfl (zAF rfl rfl rfl Tryd.isAgg43 rfl) (.run [] [] rfl (zCH rfl rfl rfl) .nil))) ?_
   refine zAW (t := (!(decide ((r:Int) = 0)))) rfl (fun h6 => ?_) (fun h6 => ?_)
   ·
    replace h6 : ¬ ((r:Int) = 0) := of_decide_eq_false (zA4 h6)
    refine zAJ ?_
    refine zAM ?_
    refine zAC ?_
    refine zAM ?_
    refine zAj (σ := Nat × Nat) (fun (b, q) => mk [(1, .p none (.v (.int .i64 (sd:Int)))), (4, .ptr 4 0), (6, .p none (.v (.int .i64 ((ribM us : Nat) : Int)))), (7, .sl 1 0 ((pvK T).length)), (10, .ptr 10 0), (33, .p none (.sl false 1 (pvT us))), (34, .p none (.v (.int .i64 ((pvT us).length : Int)))), (35, .p none (.v (.int .i64 (i:Int))))] [(4, [.p none (.v (.int .i64 0)), .p none (.v (.int .i64 0)), .p none (.v (.int .i64 0)), .p none (.v (.string ⟨#[]⟩))]), (10, [.p none (.v (.int .i64 (b:Int))), .p none (.v (.int .u64 (q:Int))), .p none (.v (.int .u8 (s:Int)))])] [(1, 3, pvK T)]) (fun (b, q) => ((RI (ribM us) b q s ∧ ¬ q = 0) ∧ ribE (ribM us) b q s T = ribE (ribM us) (atN (zAh sd x) (ribM us)) (rowN (zAh sd x)) (sumN (zAh sd x)) K) ∧ 2 * (ribM us - b) + q % 2 ≤ 2 * (ribM us - a) + r % 2) (fun (b, q) => ribM us - b) (a, r) ⟨⟨⟨hI, by omega⟩, hR⟩, Nat.le_refl _⟩ (zAK ⟨rfl, ⟨rfl, ⟨rfl, ⟨rfl, ⟨rfl, ⟨rfl, ⟨rfl, ⟨rfl, trivial⟩⟩⟩⟩⟩⟩⟩⟩ ⟨rfl, ⟨rfl, trivial⟩⟩ ⟨rfl, trivial⟩ rfl) ?_
    rintro ⟨b, q⟩ hG
    replace hG : ((RI (ribM us) b q s ∧ ¬ q = 0) ∧ ribE (ribM us) b q s T = ribE (ribM us) (atN (zAh sd x) (ribM us)) (rowN (zAh sd x)) (sumN (zAh sd x)) K) ∧ 2 * (ribM us - b) + q % 2 ≤ 2 * (ribM us - a) + r % 2 := hG
    obtain ⟨⟨⟨hJ, hq⟩, hS⟩, hμ⟩ := hG
    have hJ1 := hJ.at_
    have hJ2 := hJ.row
    have hJ3 := hJ.sum
    refine zAC ?_
    refine zAC ?_
    refine zAA rfl (.run [] [] rfl (zAE rfl rfl Tryd.underlying93 rfl Tryd.sizeOf43 (by decide)) (.run [] [] rfl (zAF rfl rfl rfl Tryd.isAgg43 rfl) (.run [] [] rfl (zFc (k := .u64) 18446744073709551616 rfl q 1 rfl rfl rfl rfl) (.run [] [] rfl (zA6 rfl rfl rfl) .nil)))) ?_
    refine zAW (t := decide ((((q &&& 1) % 18446744073709551616 : Nat) : Int) = 0)) rfl (fun h7 => ?_) (fun h7 => ?_)
    ·
     replace h7 := of_decide_eq_true h7
     refine zAJ ?_
     refine zAM ?_
     refine zAC ?_
     refine zAA rfl (.run [] [] rfl (zAE rfl rfl Tryd.underlying93 rfl Tryd.sizeOf43 (by decide)) (.run [] [] rfl (zAF rfl rfl rfl Tryd.isAgg43 rfl) (.run [] [] rfl (zAO (zBK q 1 rfl rfl rfl (by decide)) ((zAH (show ((q / 2 ^ 1 : Nat) : Int) = ((q / 2 : Nat) : Int) by rw [Nat.pow_one])))) (.run [] [] rfl (zAE rfl rfl Tryd.underlying93 rfl Tryd.sizeOf43 (by decide)) (.run [] [] rfl (zAS rfl rfl rfl rfl rfl Tryd.sizeOf43 rfl (nle rfl)) .nil))))) ?_
     refine zAA rfl (.run [] [] rfl (zAE rfl rfl Tryd.underlying93 rfl Tryd.sizeOf3 (by decide)) (.run [] [] rfl (zAF rfl rfl rfl Tryd.isAgg3 rfl) (.run [] [] rfl (zAX rfl rfl rfl (by omega)) (.run [] [] rfl (zAE rfl rfl Tryd.underlying93 rfl Tryd.sizeOf3 (by decide)) (.run [] [] rfl (zAS rfl rfl rfl rfl rfl Tryd.sizeOf3 rfl (nle rfl)) .nil))))) ?_
     refine nxt (Q := fun _ _ => False) (z := (b, q)) (b + 1, q / 2) ?_ ?_ ?_
     ·
      show ((RI (ribM us) (b + 1) (q / 2) s ∧ ¬ (q / 2) = 0) ∧ ribE (ribM us) (b + 1) (q / 2) s T = ribE (ribM us) (atN (zAh sd x) (ribM us)) (rowN (zAh sd x)) (sumN (zAh sd x)) K) ∧ 2 * (ribM us - (b + 1)) + (q / 2) % 2 ≤ 2 * (ribM us - a) + r % 2
      exact ⟨⟨⟨(zET (K := T) hJ (zKF h7) hq).2, by have := zKF h7; omega⟩, (zET (K := T) hJ (zKF h7) hq).1.trans hS⟩, by have := zKF h7; have := hJ.in_ hq; omega⟩
     ·
      show ribM us - (b + 1) < ribM us - b
      have := hJ.in_ hq; omega
     · exact zAK ⟨rfl, ⟨rfl, ⟨rfl, ⟨rfl, ⟨rfl, ⟨rfl, ⟨rfl, ⟨rfl, trivial⟩⟩⟩⟩⟩⟩⟩⟩ ⟨rfl, ⟨rfl, trivial⟩⟩ ⟨rfl, trivial⟩ rfl
    ·
     replace h7 := of_decide_eq_false h7
     refine zAk ?_
     refine zAC ?_
     have hb0 := hJ.in_ hq
     have hodd := low_n h7
     have hTl := hT.len
     have hTk := zCU T
     obtain ⟨e, he⟩ : ∃ e, T[b]? = some e := ⟨_, List.getElem?_eq_getElem (by omega)⟩
     refine zAA rfl (.run [] [] rfl (zAB rfl) (.run [] [] rfl (zAE rfl rfl Tryd.underlying93 rfl Tryd.sizeOf3 (by decide)) (.run [] [] rfl (zAF rfl rfl rfl Tryd.isAgg3 rfl) (.run [] [] rfl (zAq b rfl rfl rfl rfl Tryd.underlying91 Tryd.sizeOf93 rfl rfl (by omega)) (.run [] [] rfl (zAD rfl) .nil))))) ?_
     refine zAC ?_
     refine zAC ?_
     refine zAA rfl (.run [] [] rfl (zAB rfl) (.run [] [] rfl (zBl rfl rfl) (.run [] [] rfl (zDe rfl rfl Tryd.underlying93 rfl Tryd.sizeOf43 (by decide)) (.run [] [] rfl (zAy rfl rfl rfl (zEk he) Tryd.isAgg43 rfl) (.run [] [] rfl (zA6 rfl rfl rfl) .nil))))) ?_
     refine zAW (t := decide (((e.row : Nat) : Int) = 0)) rfl (fun h8 => ?_) (fun h8 => ?_)
     ·
      replace h8 := of_decide_eq_true h8
      refine zAC ?_
      refine zAU (s' := mk [(1, .p none (.v (.int .i64 (sd:Int)))), (4, .ptr 4 0), (6, .p none (.v (.int .i64 ((ribM us : Nat) : Int)))), (7, .sl 1 0 ((pvK T).length)), (10, .ptr 10 0), (11, .ea 1 b 0), (33, .p none (.sl false 1 (pvT us))), (34, .p none (.v (.int .i64 ((pvT us).length : Int)))), (35, .p none (.v (.int .i64 (i:Int))))] [(4, [.p none (.v (.int .i64 0)), .p none (.v (.int .i64 0)), .p none (.v (.int .i64 0)), .p none (.v (.string ⟨#[]⟩))]), (10, [.p none (.v (.int .i64 (b:Int))), .p none (.v (.int .u64 (q:Int))), .p none (.v (.int .u8 (s:Int)))])] [(1, 3, pvK T)]) ?_ ?_
      · exact zAK ⟨rfl, ⟨rfl, ⟨rfl, ⟨rfl, ⟨rfl, ⟨rfl, ⟨rfl, ⟨rfl, ⟨rfl, trivial⟩⟩⟩⟩⟩⟩⟩⟩⟩ ⟨rfl, ⟨rfl, trivial⟩⟩ ⟨rfl, trivial⟩ rfl
      refine zAA rfl (.run [] [] rfl (zAB rfl) (.run [] [] rfl (zAV rfl rfl rfl Tryd.isAgg93 Tryd.sizeOf93 (nle rfl)) (.run [] [] rfl (zBl rfl rfl) (.run [] [] rfl (zBM rfl rfl rfl (FlatP.nf (zJ7 _)) (zEk he) rfl rfl (.cons .v (.cons .v (.cons .v .nil))) Tryd.sizeOf93 rfl (nle rfl)) .nil)))) ?_
      have hr9 : (pvK T).set b [PV.v (.int .i64 (b:Int)), PV.v (.int .u64 (q:Int)), PV.v (.int .u8 (s:Int))] = pvK (T.set b ⟨b, q, s⟩) := by exact pvK_set ⟨b, q, s⟩
      have hl10 : (pvK T).length = (pvK (T.set b ⟨b, q, s⟩)).length := by first | (rw [← hr9, List.length_set]; done) | simp [zCU]
      have hp11 : (.sl 1 0 ((pvK T).length) : AV) = .sl 1 0 ((pvK (T.set b ⟨b, q, s⟩)).length) := by first | exact congrArg (AV.sl 1 0) hl10 | simp only [hr9, hl10]
      refine zAU (s' := mk [(1, .p none (.v (.int .i64 (sd:Int)))), (4, .ptr 4 0), (6, .p none (.v (.int .i64 ((ribM us : Nat) : Int)))), (7, .sl 1 0 ((pvK (T.set b ⟨b, q, s⟩)).length)), (10, .ptr 10 0), (33, .p none (.sl false 1 (pvT us))), (34, .p none (.v (.int .i64 ((pvT us).length : Int)))), (35, .p none (.v (.int .i64 (i:Int))))] [(4, [.p none (.v (.int .i64 0)), .p none (.v (.int .i64 0)), .p none (.v (.int .i64 0)), .p none (.v (.string ⟨#[]⟩))]), (10, [.p none (.v (.int .i64 (b:Int))), .p none (.v (.int .u64 (q:Int))), .p none (.v (.int .u8 (s:Int)))])] [(1, 3, pvK (T.set b ⟨b, q, s⟩))]) ?_ ?_
      · exact zAK ⟨rfl, ⟨rfl, ⟨rfl, ⟨hp11, ⟨rfl, ⟨rfl, ⟨rfl, ⟨rfl, trivial⟩⟩⟩⟩⟩⟩⟩⟩ ⟨rfl, ⟨rfl, trivial⟩⟩ ⟨(congrArg (fun x => some (3, x)) hr9), trivial⟩ rfl
      refine zAk ?_
      refine zAC ?_
      rcases bfc (decide ((q:Int) = 0)) with h12 | h12
      ·
       have h12' := h12
       replace h12' := of_decide_eq_false h12'
       refine zAA rfl (.run [] [] rfl (zAE rfl rfl Tryd.underlying93 rfl Tryd.sizeOf43 (by decide)) (.run [] [] rfl (zAF rfl rfl rfl Tryd.isAgg43 rfl) (.run [] [] rfl (zAO (zA6 rfl rfl rfl) (zAI h12)) (.run [] [] rfl (zAB rfl) (.not rfl (.not rfl (.not rfl (.run [] [] rfl (zAT (t := false) rfl rfl) .nil)))))))) ?_
       refine zAW (t := false) rfl (fun h => nomatch h) (fun _ => ?_)
       refine zAJ ?_
       refine zAA rfl (.run [] [] rfl (zAX rfl rfl rfl (by omega)) (.run [] [] rfl (zAB rfl) .nil)) ?_
       refine nxt (Q := fun _ _ => False) (z := (i, K)) (i + 1, T.set b ⟨b, q, s⟩) ?_ ?_ ?_
       ·
        show ((i + 1) ≤ us.length ∧ KOk (ribM us) (T.set b ⟨b, q, s⟩)) ∧ zBp us sd (ribM us) (i + 1) = some (T.set b ⟨b, q, s⟩)
        exact ⟨⟨by omega, (zDu hJ hT hodd he (by omega)).2.2⟩, (zBo hA hx).trans (hS.symm.trans (zHF hJ hT hodd he (by omega)).1)⟩
       ·
        show us.length - (i + 1) < us.length - i
        omega
       · exact zAK ⟨rfl, ⟨rfl, ⟨rfl, ⟨rfl, ⟨rfl, ⟨rfl, ⟨(zAH (by omega)), trivial⟩⟩⟩⟩⟩⟩⟩ ⟨rfl, trivial⟩ ⟨rfl, trivial⟩ rfl
      ·
       have h12' := h12
       replace h12' := of_decide_eq_true h12'
       refine zAA rfl (.run [] [] rfl (zAE rfl rfl Tryd.underlying93 rfl Tryd.sizeOf43 (by decide)) (.run [] [] rfl (zAF rfl rfl rfl Tryd.isAgg43 rfl) (.run [] [] rfl (zAO (zA6 rfl rfl rfl) (zAI h12)) (.run [] [] rfl (zAB rfl) (.run [] [] rfl (zAE rfl rfl Tryd.underlying93 rfl Tryd.sizeOf5 (by decide)) (.run [] [] rfl (zAF rfl rfl rfl Tryd.isAgg5 rfl) (.run [] [] rfl (zCH rfl rfl rfl) (.run [] [] rfl (zAT (t := true) rfl rfl) .nil)))))))) ?_
       refine zAW (t := (!(decide ((s:Int) = 0)))) rfl (fun h13 => ?_) (fun h13 => ?_)
       ·
        replace h13 : ¬ ((s:Int) = 0) := of_decide_eq_false (zA4 h13)
        refine zAC ?_
        have hN := zDl (zD8 ((zBo hA hx).trans (hR.symm.trans (by rw [show r = 0 by omega, zCz, if_neg (by omega)]))) (show i + 1 ≤ us.length by omega))
        rw [hN]
        refine zAA rfl (.run [] [] rfl (zB0 (pl := [(0, 1), (1, 1), (2, 1), (3, 1)]) rfl Tryd.underlying52 zCd (by kernel_rfl) rfl rfl) (.run [] [] rfl (zAS rfl rfl rfl rfl rfl Tryd.sizeOf52 rfl (nle rfl)) (.run [] [] rfl (zAD rfl) .nil))) ?_
        refine zAL ?_
        exact ends [_, _] [] (.cons (.cell rfl rfl Tryd.isAgg52 Tryd.sizeOf52 (nle rfl)) (.cons (.tmp rfl) .nil)) (.cons (.agg (.cons .v (.cons .v (.cons .v (.cons .v .nil)))) (zAb (.v _) (zAb (.v _) (zAb (.v _) (zAb (.v _) zCF))))) (.cons (.one .v (.v _)) .nil)) (by decide) trivial
       ·
        replace h13 : (s:Int) = 0 := of_decide_eq_true (zA5 h13)
        refine zAJ ?_
        refine zAA rfl (.run [] [] rfl (zAX rfl rfl rfl (by omega)) (.run [] [] rfl (zAB rfl) .nil)) ?_
        refine nxt (Q := fun _ _ => False) (z := (i, K)) (i + 1, T.set b ⟨b, q, s⟩) ?_ ?_ ?_
        ·
         show ((i + 1) ≤ us.length ∧ KOk (ribM us) (T.set b ⟨b, q, s⟩)) ∧ zBp us sd (ribM us) (i + 1) = some (T.set b ⟨b, q, s⟩)
         exact ⟨⟨by omega, (zDu hJ hT hodd he (by omega)).2.2⟩, (zBo hA hx).trans (hS.symm.trans (zHF hJ hT hodd he (by omega)).1)⟩
        ·
         show us.length - (i + 1) < us.length - i
         omega
        · exact zAK ⟨rfl, ⟨rfl, ⟨rfl, ⟨rfl, ⟨rfl, ⟨rfl, ⟨(zAH (by omega)), trivial⟩⟩⟩⟩⟩⟩⟩ ⟨rfl, trivial⟩ ⟨rfl, trivial⟩ rfl
     ·
      replace h8 := of_decide_eq_false h8
      refine zAJ ?_
      refine zAC ?_
      have hxx := zIx hJ hT hodd he (by omega)
      have hx1 := hxx.2.1.row
      have hx2 := hxx.2.1.sum
      refine zAU (s' := mk [(1, .p none (.v (.int .i64 (sd:Int)))), (4, .ptr 4 0), (6, .p none (.v (.int .i64 ((ribM us : Nat) : Int)))), (7, .sl 1 0 ((pvK T).length)), (10, .ptr 10 0), (11, .ea 1 b 0), (33, .p none (.sl false 1 (pvT us))), (34, .p none (.v (.int .i64 ((pvT us).length : Int)))), (35, .p none (.v (.int .i64 (i:Int))))] [(4, [.p none (.v (.int .i64 0)), .p none (.v (.int .i64 0)), .p none (.v (.int .i64 0)), .p none (.v (.string ⟨#[]⟩))]), (10, [.p none (.v (.int .i64 (b:Int))), .p none (.v (.int .u64 (q:Int))), .p none (.v (.int .u8 (s:Int)))])] [(1, 3, pvK T)]) ?_ ?_
      · exact zAK ⟨rfl, ⟨rfl, ⟨rfl, ⟨rfl, ⟨rfl, ⟨rfl, ⟨rfl, ⟨rfl, ⟨rfl, trivial⟩⟩⟩⟩⟩⟩⟩⟩⟩ ⟨rfl, ⟨rfl, trivial⟩⟩ ⟨rfl, trivial⟩ rfl
      refine zAf zBj rfl (.run [] [] rfl (zAE rfl rfl Tryd.underlying93 rfl Tryd.sizeOf43 (by decide)) (.run [] [] rfl (zAF rfl rfl rfl Tryd.isAgg43 rfl) (.run [] [] rfl (zAB rfl) (.run [] [] rfl (zBl rfl rfl) (.run [] [] rfl (zDe rfl rfl Tryd.underlying93 rfl Tryd.sizeOf43 (by decide)) (.run [] [] rfl (zAy rfl rfl rfl (zEk he) Tryd.isAgg43 rfl) (.run [] [] rfl (zAO (zBY (k := .u64) 18446744073709551616 rfl q e.row rfl rfl rfl rfl) ((zAH (show (((q ^^^ e.row) % 18446744073709551616 : Nat) : Int) = ((q ^^^ e.row : Nat) : Int) by omega)))) (.run [] [] rfl (zAE rfl rfl Tryd.underlying93 rfl Tryd.sizeOf43 (by decide)) (.run [] [] rfl (zAS rfl rfl rfl rfl rfl Tryd.sizeOf43 rfl (nle rfl)) .nil))))))))) (by kernel_rfl) ?_
      refine zAU (s' := mk [(1, .p none (.v (.int .i64 (sd:Int)))), (4, .ptr 4 0), (6, .p none (.v (.int .i64 ((ribM us : Nat) : Int)))), (7, .sl 1 0 ((pvK T).length)), (10, .ptr 10 0), (11, .ea 1 b 0), (33, .p none (.sl false 1 (pvT us))), (34, .p none (.v (.int .i64 ((pvT us).length : Int)))), (35, .p none (.v (.int .i64 (i:Int))))] [(4, [.p none (.v (.int .i64 0)), .p none (.v (.int .i64 0)), .p none (.v (.int .i64 0)), .p none (.v (.string ⟨#[]⟩))]), (10, [.p none (.v (.int .i64 (b:Int))), .p none (.v (.int .u64 ((q ^^^ e.row : Nat) : Int))), .p none (.v (.int .u8 (s:Int)))])] [(1, 3, pvK T)]) ?_ ?_
      · exact zAK ⟨rfl, ⟨rfl, ⟨rfl, ⟨rfl, ⟨rfl, ⟨rfl, ⟨rfl, ⟨rfl, ⟨rfl, trivial⟩⟩⟩⟩⟩⟩⟩⟩⟩ ⟨rfl, ⟨rfl, trivial⟩⟩ ⟨rfl, trivial⟩ rfl
      refine zAf zBj rfl (.run [] [] rfl (zAE rfl rfl Tryd.underlying93 rfl Tryd.sizeOf5 (by decide)) (.run [] [] rfl (zAF rfl rfl rfl Tryd.isAgg5 rfl) (.run [] [] rfl (zAB rfl) (.run [] [] rfl (zBl rfl rfl) (.run [] [] rfl (zDe rfl rfl Tryd.underlying93 rfl Tryd.sizeOf5 (by decide)) (.run [] [] rfl (zAy rfl rfl rfl (zEk he) Tryd.isAgg5 rfl) (.run [] [] rfl (zAO (zBY (k := .u8) 256 rfl s e.sum rfl rfl rfl rfl) ((zAH (show (((s ^^^ e.sum) % 256 : Nat) : Int) = ((s ^^^ e.sum : Nat) : Int) by omega)))) (.run [] [] rfl (zAE rfl rfl Tryd.underlying93 rfl Tryd.sizeOf5 (by decide)) (.run [] [] rfl (zAS rfl rfl rfl rfl rfl Tryd.sizeOf5 rfl (nle rfl)) .nil))))))))) (by kernel_rfl) ?_
      refine nxt (Q := fun _ _ => False) (z := (a, r, s, T)) (b, q ^^^ e.row, s ^^^ e.sum, T) ?_ ?_ ?_
      ·
       show (RI (ribM us) b (q ^^^ e.row) (s ^^^ e.sum) ∧ KOk (ribM us) T) ∧ ribE (ribM us) b (q ^^^ e.row) (s ^^^ e.sum) T = ribE (ribM us) (atN (zAh sd x) (ribM us)) (rowN (zAh sd x)) (sumN (zAh sd x)) K
       exact ⟨⟨hxx.2.1, hT⟩, hxx.1.trans hS⟩
      ·
       show 2 * (ribM us - b) + (q ^^^ e.row) % 2 < 2 * (ribM us - a) + r % 2
       have := hxx.2.2; omega
      · exact zAK ⟨rfl, ⟨rfl, ⟨rfl, ⟨rfl, ⟨rfl, ⟨rfl, ⟨rfl, ⟨rfl, trivial⟩⟩⟩⟩⟩⟩⟩⟩ ⟨rfl, ⟨rfl, trivial⟩⟩ ⟨rfl, trivial⟩ rfl
   ·
    replace h6 : (r:Int) = 0 := of_decide_eq_true (zA5 h6)
    refine zAk ?_
    refine zAC ?_
    rcases bfc (decide ((r:Int) = 0)) with h14 | h14
    ·
     have h14' := h14
     replace h14' := of_decide_eq_false h14'
     refine zAA rfl (.run [] [] rfl (zAE rfl rfl Tryd.underlying93 rfl Tryd.sizeOf43 (by decide)) (.run [] [] rfl (zAF rfl rfl rfl Tryd.isAgg43 rfl) (.run [] [] rfl (zAO (zA6 rfl rfl rfl) (zAI h14)) (.run [] [] rfl (zAB rfl) (.not rfl (.not rfl (.not rfl (.run [] [] rfl (zAT (t := false) rfl rfl) .nil)))))))) ?_
     refine zAW (t := false) rfl (fun h => nomatch h) (fun _ => ?_)
     refine zAJ ?_
     refine zAA rfl (.run [] [] rfl (zAX rfl rfl rfl (by omega)) (.run [] [] rfl (zAB rfl) .nil)) ?_
     refine nxt (Q := fun _ _ => False) (z := (i, K)) (i + 1, T) ?_ ?_ ?_
     ·
      show ((i + 1) ≤ us.length ∧ KOk (ribM us) T) ∧ zBp us sd (ribM us) (i + 1) = some T
      exact ⟨⟨by omega, hT⟩, (zBo hA hx).trans (hR.symm.trans (by rw [show r = 0 by omega, show s = 0 by omega, zCz, if_pos rfl]))⟩
     ·
      show us.length - (i + 1) < us.length - i
      omega
     · exact zAK ⟨rfl, ⟨rfl, ⟨rfl, ⟨rfl, ⟨rfl, ⟨rfl, ⟨(zAH (by omega)), trivial⟩⟩⟩⟩⟩⟩⟩ ⟨rfl, trivial⟩ ⟨rfl, trivial⟩ rfl
    ·
     have h14' := h14
     replace h14' := of_decide_eq_true h14'
     refine zAA rfl (.run [] [] rfl (zAE rfl rfl Tryd.underlying93 rfl Tryd.sizeOf43 (by decide)) (.run [] [] rfl (zAF rfl rfl rfl Tryd.isAgg43 rfl) (.run [] [] rfl (zAO (zA6 rfl rfl rfl) (zAI h14)) (.run [] [] rfl (zAB rfl) (.run [] [] rfl (zAE rfl rfl Tryd.underlying93 rfl Tryd.sizeOf5 (by decide)) (.run [] [] rfl (zAF rfl rfl rfl Tryd.isAgg5 rfl) (.run [] [] rfl (zCH rfl rfl rfl) (.run [] [] rfl (zAT (t := true) rfl rfl) .nil)))))))) ?_
     refine zAW (t := (!(decide ((s:Int) = 0)))) rfl (fun h15 => ?_) (fun h15 => ?_)
     ·
      replace h15 : ¬ ((s:Int) = 0) := of_decide_eq_false (zA4 h15)
      refine zAC ?_
      have hN := zDl (zD8 ((zBo hA hx).trans (hR.symm.trans (by rw [show r = 0 by omega, zCz, if_neg (by omega)]))) (show i + 1 ≤ us.length by omega))
      rw [hN]
      refine zAA rfl (.run [] [] rfl (zB0 (pl := [(0, 1), (1, 1), (2, 1), (3, 1)]) rfl Tryd.underlying52 zCd (by kernel_rfl) rfl rfl) (.run [] [] rfl (zAS rfl rfl rfl rfl rfl Tryd.sizeOf52 rfl (nle rfl)) (.run [] [] rfl (zAD rfl) .nil))) ?_
      refine zAL ?_
      exact ends [_, _] [] (.cons (.cell rfl rfl Tryd.isAgg52 Tryd.sizeOf52 (nle rfl)) (.cons (.tmp rfl) .nil)) (.cons (.agg (.cons .v (.cons .v (.cons .v (.cons .v .nil)))) (zAb (.v _) (zAb (.v _) (zAb (.v _) (zAb (.v _) zCF))))) (.cons (.one .v (.v _)) .nil)) (by decide) trivial
     ·
      replace h15 : (s:Int) = 0 := of_decide_eq_true (zA5 h15)
      refine zAJ ?_
      refine zAA rfl (.run [] [] rfl (zAX rfl rfl rfl (by omega)) (.run [] [] rfl (zAB rfl) .nil)) ?_
      refine nxt (Q := fun _ _ => False) (z := (i, K)) (i + 1, T) ?_ ?_ ?_
      ·
       show ((i + 1) ≤ us.length ∧ KOk (ribM us) T) ∧ zBp us sd (ribM us) (i + 1) = some T
       exact ⟨⟨by omega, hT⟩, (zBo hA hx).trans (hR.symm.trans (by rw [show r = 0 by omega, show s = 0 by omega, zCz, if_pos rfl]))⟩
      ·
       show us.length - (i + 1) < us.length - i
       omega
      · exact zAK ⟨rfl, ⟨rfl, ⟨rfl, ⟨rfl, ⟨rfl, ⟨rfl, ⟨(zAH (by omega)), trivial⟩⟩⟩⟩⟩⟩⟩ ⟨rfl, trivial⟩ ⟨rfl, trivial⟩ rfl
  ·
   replace h5 := of_decide_eq_false h5
   refine zAk ?_
   refine zAC ?_
   have hQ := zEf (show zBp us sd (ribM us) us.length = some K by rw [show us.length = i by omega]; exact hA)
   rw [hQ]
   refine zAA rfl (.run [] [] rfl (zAB rfl) (.run [9700] [] rfl (zCl rfl 9700 (l := ribM us) (c := ribM us) rfl rfl Tryd.underlying67 inf5 rfl rfl (by decide) rfl (by decide) (by omega) (by omega) (by simp only [maxLen]; omega)) (.run [] [] rfl (zAD rfl) .nil))) ?_
   have hr16 : List.replicate (ribM us) [PV.v (.int .u8 0)] = pvNb (bitK K (ribM us) 0) := by exact zFU K _
   have hl17 : ribM us = (pvNb (bitK K (ribM us) 0)).length := by first | (rw [← hr16, List.length_set]; done) | simp [zAt, zCk]
   have hp18 : (.sl 9700 0 (ribM us) : AV) = .sl 9700 0 ((pvNb (bitK K (ribM us) 0)).length) := by first | exact congrArg (AV.sl 9700 0) hl17 | simp only [hr16, hl17]
   refine zAU (s' := mk [(1, .p none (.v (.int .i64 (sd:Int)))), (4, .ptr 4 0), (6, .p none (.v (.int .i64 ((ribM us : Nat) : Int)))), (7, .sl 1 0 ((pvK K).length)), (12, .sl 9700 0 ((pvNb (bitK K (ribM us) 0)).length))] [(4, [.p none (.v (.int .i64 0)), .p none (.v (.int .i64 0)), .p none (.v (.int .i64 0)), .p none (.v (.string ⟨#[]⟩))])] [(1, 3, pvK K), (9700, 1, pvNb (bitK K (ribM us) 0))]) ?_ ?_
   · exact zAK ⟨rfl, ⟨rfl, ⟨rfl, ⟨rfl, ⟨hp18, trivial⟩⟩⟩⟩⟩ ⟨rfl, trivial⟩ ⟨rfl, ⟨(congrArg (fun x => some (1, x)) hr16), trivial⟩⟩ rfl
   refine zAC ?_
   refine zAC ?_
   refine zAA rfl (.run [] [] rfl (zAB rfl) (.run [] [] rfl (zBw rfl rfl rfl (by omega)) (.run [] [] rfl (zAD rfl) .nil))) ?_
   refine zAM ?_
   refine zAU (zCe 9700 3 rfl rfl (by decide)) ?_
   refine zAj (σ := Nat) (fun j => mk [(1, .p none (.v (.int .i64 (sd:Int)))), (4, .ptr 4 0), (7, .sl 1 0 ((pvK K).length)), (12, .sl 3 0 ((pvNb (bitK K (ribM us) j)).length)), (13, .p none (.v (.int .i64 (((ribM us : Nat) : Int) - 1 - (j : Int)))))] [(4, [.p none (.v (.int .i64 0)), .p none (.v (.int .i64 0)), .p none (.v (.int .i64 0)), .p none (.v (.string ⟨#[]⟩))])] [(1, 3, pvK K), (3, 1, pvNb (bitK K (ribM us) j))]) (fun j => j ≤ ribM us) (fun j => ribM us - j) 0 (by simp) (zAK ⟨rfl, ⟨rfl, ⟨rfl, ⟨rfl, ⟨(zAH (by omega)), trivial⟩⟩⟩⟩⟩ ⟨rfl, trivial⟩ ⟨rfl, ⟨(congrArg (fun x => some (1, x)) (by rfl)), trivial⟩⟩ rfl) ?_
   rintro j hG
   replace hG : j ≤ ribM us := hG
   have hbt := zHV hK j
   have hbl := zCk K (ribM us) j
   have hbv := zAt (bitK K (ribM us) j)
   refine zAC ?_
   refine zAC ?_
   refine zAA rfl (.run [] [] rfl (zAB rfl) (.run [] [] rfl (zC8 rfl rfl rfl) .nil)) ?_
   refine zAW (t := decide (0 ≤ (((ribM us : Nat) : Int) - 1 - (j : Int)))) rfl (fun h19 => ?_) (fun h19 => ?_)
   ·
    replace h19 := of_decide_eq_true h19
    refine zAJ ?_
    refine zAC ?_
    refine zAM ?_
    refine zAC ?_
    have hKl := hK.len
    have hKk := zCU K
    obtain ⟨e, he⟩ : ∃ e, K[ribM us - 1 - j]? = some e := ⟨_, List.getElem?_eq_getElem (by omega)⟩
    have hE := hK.all _ e he
    have hE1 := hE.1
    have hE3 := hE.2.2.1
    refine zAA rfl (.run [] [] rfl (zAB rfl) (.run [] [] rfl (zAO (zAB rfl) ((zAH (by omega)))) (.run [] [] rfl (zAq (ribM us - 1 - j) rfl rfl rfl rfl Tryd.underlying91 Tryd.sizeOf93 rfl rfl (by omega)) (.run [] [] rfl (zID rfl rfl rfl (zEk he) Tryd.isAgg93 Tryd.sizeOf93 (nle rfl)) (.run [] [14] rfl (zA7 rfl 14 zJG rfl (by decide) rfl (by decide)) (.run [] [] rfl (zAS rfl rfl rfl rfl rfl Tryd.sizeOf93 rfl (nle rfl)) .nil)))))) ?_
    refine zAC ?_
    refine zAA rfl (.run [] [] rfl (zAE rfl rfl Tryd.underlying93 rfl Tryd.sizeOf43 (by decide)) (.run [] [] rfl (zAF rfl rfl rfl Tryd.isAgg43 rfl) (.run [] [] rfl (zCH rfl rfl rfl) .nil))) ?_
    refine zAW (t := (!(decide (((e.row : Nat) : Int) = 0)))) rfl (fun h20 => ?_) (fun h20 => ?_)
    ·
     replace h20 : ¬ (((e.row : Nat) : Int) = 0) := of_decide_eq_false (zA4 h20)
     obtain ⟨b, hb⟩ : ∃ b, (bitK K (ribM us) j)[ribM us - 1 - j]? = some b := ⟨_, List.getElem?_eq_getElem (by omega)⟩
     refine zAU (s' := mk [(1, .p none (.v (.int .i64 (sd:Int)))), (4, .ptr 4 0), (7, .sl 1 0 ((pvK K).length)), (12, .sl 3 0 ((pvNb (bitK K (ribM us) j)).length)), (13, .p none (.v (.int .i64 (((ribM us : Nat) : Int) - 1 - (j : Int))))), (14, .ptr 14 0)] [(4, [.p none (.v (.int .i64 0)), .p none (.v (.int .i64 0)), .p none (.v (.int .i64 0)), .p none (.v (.string ⟨#[]⟩))]), (14, [.p none (.v (.int .i64 ((e.place : Nat) : Int))), .p none (.v (.int .u64 ((e.row : Nat) : Int))), .p none (.v (.int .u8 ((e.sum : Nat) : Int)))])] [(1, 3, pvK K), (3, 1, pvNb (bitK K (ribM us) j))]) ?_ ?_
     · exact zAK ⟨rfl, ⟨rfl, ⟨rfl, ⟨rfl, ⟨rfl, ⟨rfl, trivial⟩⟩⟩⟩⟩⟩ ⟨rfl, ⟨rfl, trivial⟩⟩ ⟨rfl, ⟨rfl, trivial⟩⟩ rfl
     refine zAf zBj rfl (.run [] [] rfl (zAB rfl) (.run [] [] rfl (zAO (zAB rfl) ((zAH (by omega)))) (.run [] [] rfl (zAE rfl rfl Tryd.underlying93 rfl Tryd.sizeOf5 (by decide)) (.run [] [] rfl (zAF rfl rfl rfl Tryd.isAgg5 rfl) (.run [] [] rfl (zAB rfl) (.run [] [] rfl (zAO (zAB rfl) ((zAH (by omega)))) (.run [] [] rfl (zAE rfl rfl Tryd.underlying93 rfl Tryd.sizeOf43 (by decide)) (.run [] [] rfl (zAF rfl rfl rfl Tryd.isAgg43 rfl) (.run [] [] rfl (st_not1 e.row rfl rfl rfl (by omega)) (.run [3, 12000] [] rfl (zAG rfl 12000 (X := []) en77 rfl (.val nod) (.cons (.one (.bor (.all (len := (pvNb (bitK K (ribM us) j)).length) (xs := pvNb (bitK K (ribM us) j)) rfl rfl (by decide)))) (.cons (.one (.bor .v)) (.cons (.one (.bor .v)) .nil))) (by decide) all_nil .nil (zIp (bitK K (ribM us) j) (ribM us - 1 - j) (e.row / 2 * 2) (ribM us) hbt hbl (by omega) (Nat.lt_of_le_of_lt (by omega) hE.2.1) (by omega) (by omega)) rfl rfl (nle rfl)) (.run [] [] rfl (zBY (k := .u8) 256 rfl e.sum (solT (bitK K (ribM us) j) (ribM us - 1 - j) (e.row / 2 * 2) 16) rfl rfl rfl rfl) (.run [] [] rfl (zAq (ribM us - 1 - j) rfl rfl rfl rfl Tryd.underlying67 Tryd.sizeOf5 rfl rfl (by omega)) (.run [] [] rfl (zBM rfl rfl rfl (FlatP.nf (zCa _)) (zBm hb) rfl rfl (.cons .v .nil) Tryd.sizeOf5 rfl (nle rfl)) .nil))))))))))))) (by kernel_rfl) ?_
     have hr21 : (pvNb (bitK K (ribM us) j)).set (ribM us - 1 - j) [PV.v (.int .u8 (((e.sum ^^^ (solT (bitK K (ribM us) j) (ribM us - 1 - j) (e.row / 2 * 2) 16)) % 256 : Nat) : Int))] = pvNb (bitK K (ribM us) (j + 1)) := by rw [Nat.mod_eq_of_lt (Nat.lt_trans (Nat.xor_lt_two_pow (n := 7) hE3 (zDh hbt _ _ _)) (by decide)), zDv, zE1 he]
     have hl22 : (pvNb (bitK K (ribM us) j)).length = (pvNb (bitK K (ribM us) (j + 1))).length := by first | (rw [← hr21, List.length_set]; done) | simp [zAt]
     have hp23 : (.sl 3 0 ((pvNb (bitK K (ribM us) j)).length) : AV) = .sl 3 0 ((pvNb (bitK K (ribM us) (j + 1))).length) := by first | exact congrArg (AV.sl 3 0) hl22 | simp only [hr21, hl22]
     refine zAU (s' := mk [(1, .p none (.v (.int .i64 (sd:Int)))), (4, .ptr 4 0), (7, .sl 1 0 ((pvK K).length)), (12, .sl 3 0 ((pvNb (bitK K (ribM us) (j + 1))).length)), (13, .p none (.v (.int .i64 (((ribM us : Nat) : Int) - 1 - (j : Int)))))] [(4, [.p none (.v (.int .i64 0)), .p none (.v (.int .i64 0)), .p none (.v (.int .i64 0)), .p none (.v (.string ⟨#[]⟩))])] [(1, 3, pvK K), (3, 1, pvNb (bitK K (ribM us) (j + 1)))]) ?_ ?_
     · exact zAK ⟨rfl, ⟨rfl, ⟨rfl, ⟨hp23, ⟨rfl, trivial⟩⟩⟩⟩⟩ ⟨rfl, trivial⟩ ⟨rfl, ⟨(congrArg (fun x => some (1, x)) hr21), trivial⟩⟩ rfl
     refine zAA rfl (.run [] [] rfl (zAB rfl) (.run [] [] rfl (zBw rfl rfl rfl (by omega)) (.run [] [] rfl (zAD rfl) .nil))) ?_
     refine nxt (Q := fun _ _ => False) (z := j) (j + 1) ?_ ?_ ?_
     ·
      show (j + 1) ≤ ribM us
      omega
     ·
      show ribM us - (j + 1) < ribM us - j
      omega
     · exact zAK ⟨rfl, ⟨rfl, ⟨rfl, ⟨rfl, ⟨(zAH (by omega)), trivial⟩⟩⟩⟩⟩ ⟨rfl, trivial⟩ ⟨rfl, ⟨rfl, trivial⟩⟩ rfl
    ·
     replace h20 : ((e.row : Nat) : Int) = 0 := of_decide_eq_true (zA5 h20)
     refine zAJ ?_
     refine zAA rfl (.run [] [] rfl (zAB rfl) (.run [] [] rfl (zBw rfl rfl rfl (by omega)) (.run [] [] rfl (zAD rfl) .nil))) ?_
     refine nxt (Q := fun _ _ => False) (z := j) (j + 1) ?_ ?_ ?_
     ·
      show (j + 1) ≤ ribM us
      omega
     ·
      show ribM us - (j + 1) < ribM us - j
      omega
     · exact zAK ⟨rfl, ⟨rfl, ⟨rfl, ⟨(congrArg (fun z => AV.sl 3 0 (pvNb z).length) (zGv hK (by omega) he (by omega)).symm), ⟨(zAH (by omega)), trivial⟩⟩⟩⟩⟩ ⟨rfl, trivial⟩ ⟨rfl, ⟨(congrArg (fun x => some (1, x)) (by rw [zGv hK (by omega) he (by omega)])), trivial⟩⟩ rfl
   ·
    replace h19 := of_decide_eq_false h19
    refine zAk ?_
    refine zAC ?_
    refine zAA rfl (.run [] [] rfl (zAB rfl) (.run [] [] rfl (zAB rfl) (.run [] [] rfl (zB2 (ints (bitK K (ribM us) (ribM us))) rfl rfl (.give (len := (pvNb (bitK K (ribM us) j)).length) (xs := pvNb (bitK K (ribM us) j)) rfl rfl) rfl (by rw [show j = ribM us by omega]; exact zCB _) Tryd.underlying67 Tryd.underlying9 Tryd.underlying5) (.run [] [] rfl (zB0 (pl := [(0, 1), (1, 1), (2, 1), (3, 1)]) rfl Tryd.underlying52 zCd (by kernel_rfl) rfl rfl) (.run [] [] rfl (zAS rfl rfl rfl rfl rfl Tryd.sizeOf52 rfl (nle rfl)) (.run [] [] rfl (zAD rfl) .nil)))))) ?_
    refine zAL ?_
    exact ends [_, _] [] (.cons (.cell rfl rfl Tryd.isAgg52 Tryd.sizeOf52 (nle rfl)) (.cons (.tmp rfl) .nil)) (.cons (.agg (.cons .v (.cons .v (.cons .v (.cons .v .nil)))) (zAb (.v _) (zAb (.v _) (zAb (.v _) (zAb (.v _) zCF))))) (.cons (.one .v (.v _)) .nil)) (by decide) trivial
end Go.Rl
namespace Go.Rl
open Go.RowKit
section
variable {w0 : World} {I : Fr} {n : Nat} {L : Pl} {s : St} {a : Act} {w : World}
theorem Rel.freshZ (h : Rel w0 I n L s a w) (id : Nat) {cur : Array Value} (e : TypeId) {fz : Nat × Nat} {c : Nat} {xs : List (List PV)} (hlen : ∀ es ∈ xs, es.length = 1) (hsz : cur.size = c * 1) (hc : xs.length ≤ c) (hc0 : 0 < c) (hm : c ≤ maxLen)
  (hp : ∀ (j : Nat) p, xs.flatten[j]? = some p → ∃ u, cur[j]? = some u ∧ PVO L.Z w p u []) (hfz : FzOk fz cur.size 1) (hid1 : id < pinT) (hid : s.r id = none ∨ id ∈ ([] : List Nat)) :
  ∃ N, Rel w0 I n (L.row id (.slice (some ⟨w.heap.size, 0, none⟩) xs.length c) N) { t := fun i => (s.t i).kill [], b := fun j => (s.b j).map (AV.kills []), r := upd (s.kill []).r id (some (1, xs)) } a (w.alloc (.cells cur e fz)) := by
 refine ⟨w.heap.size :: (List.range xs.flatten.length).flatMap (fun _ => []), ?_⟩
 refine h.setrow [] (J := []) ((Same.refl [] w).push _) (by simp) (zFk hlen (heap_alloc_new w _) hsz hc hc0 hm (fun _ => []) (fun j p hj => ?_) hfz) (fun k hk => ?_) (by rw [zBL]; simp) hid1 hid
 ·
  obtain ⟨u, hu, hr⟩ := hp j p hj
  exact ⟨u, hu, zKn hr (fun k hk => (h.zlt k hk).1) _⟩
 ·
  rw [zBL, List.mem_singleton] at hk
  exact .inr (Nat.le_of_eq hk.symm)
end
def zAo (b : ByteArray) : List Nat := b.data.toList.map UInt8.toNat
theorem zCV (b : ByteArray) : (zAo b).length = b.size := by simp [zAo]
theorem zEy {b : ByteArray} : ∀ x ∈ zAo b, x < 256 := fun x hx => by
 obtain ⟨y, _, rfl⟩ := List.mem_map.1 hx
 exact y.toNat_lt
theorem zGl {b : ByteArray} {c j : Nat} {x : Nat} (h : (zAo b)[j]? = some x) : (bytesRow b c)[j]? = some (.int .u8 ((x : Nat) : Int)) := by
 have hlt : j < b.data.size := by
  have := (List.getElem?_eq_some_iff.1 h).1
  simpa [zAo] using this
 rw [zAo, List.getElem?_map] at h
 rw [bytesRow, Array.getElem?_append_left (by simpa using hlt), Array.getElem?_map]
 have e : b.data.toList[j]? = b.data[j]? := by simp
 rw [e, Array.getElem?_eq_getElem hlt] at h
 rw [Array.getElem?_eq_getElem hlt]
 simp only [Option.map_some, Option.some.injEq] at h ⊢
 rw [h]
section
variable {γ : Gho} {P : Program} {n : Nat} {o : Oper} {M B : List Nat} {s : St}
theorem zFa {t u e : TypeId} {x : Operand} (ho : o.op = .convert t u x) (id : Nat) {d : Option Nat} (b : ByteArray) (hx : s.ev x = .p d (.v (.string b))) (ht : P.underlying t = some .string) (hu : P.underlying u = some (.slice e)) (he : P.underlying e = some (.int .u8))
  (hid1 : id < pinT) (hid : s.r id = none) (hM : id ∈ M) (hpos : 0 < b.size) (hm : b.size ≤ maxLen) :
  StepD γ P n o M B s { put := .sl id 0 (pvNb (zAo b)).length, setR := [(id, 1, pvNb (zAo b))] } := by
 intro s' ag hd w0 I L a w hG hr K Q hK
 have e1 := hr.evv ((ag.ev1 ho (by simp [Op.operands])).trans hx)
 have hid' : s'.r id = none := (ag.m id hM).trans hid
 have hrun := run_bytes_of_string (P := P) w t u e b ht hu he
 have hge := grownCap_ge w b.size 0 e
 have hcm := grownCap_le_maxLen w b.size 0 e hm
 have hdr : Rel w0 I n L s' a w.drew := hr.drawn _
 have hnl : (pvNb (zAo b)).length = b.size := by rw [zAt, zCV]
 have hsize : (bytesRow b (grownCap w b.size 0 e)).size = grownCap w b.size 0 e * 1 := by
  have hs : b.data.size = b.size := rfl
  simp only [bytesRow, Array.size_append, Array.size_map, Array.size_replicate]
  omega
 obtain ⟨N, hfr⟩ := hdr.freshZ id (cur := bytesRow b (grownCap w b.size 0 e)) e (fz := ((bytesRow b (grownCap w b.size 0 e)).size, (bytesRow b (grownCap w b.size 0 e)).size + 1)) (c := grownCap w b.size 0 e) (xs := pvNb (zAo b)) (fun es hes => by
  obtain ⟨x, _, rfl⟩ := List.mem_map.1 hes; rfl) hsize (by omega) (by omega) hcm (fun j p hj => by
  have hfl : (pvNb (zAo b)).flatten = (zAo b).map fun x => PV.v (.int .u8 ((x : Nat) : Int)) := by
   rw [pvNb, ← List.flatMap_def, ← List.map_eq_flatMap]
  rw [hfl, List.getElem?_map] at hj
  cases hq : (zAo b)[j]? with
  | none => rw [hq] at hj; cases hj
  | some x =>
   rw [hq] at hj
   cases hj
   exact ⟨_, zGl hq, .v _ rfl⟩) (.inr ⟨Nat.le_refl _, rfl⟩) hid1 (.inl hid')
 have hex : (execOp a.eval o).run P w = .ok (.value (.slice (some ⟨w.drew.heap.size, 0, none⟩) (pvNb (zAo b)).length (grownCap w b.size 0 e))) (w.drew.alloc (.cells (bytesRow b (grownCap w b.size 0 e)) e ((bytesRow b (grownCap w b.size 0 e)).size, (bytesRow b (grownCap w b.size 0 e)).size + 1))) := by
  rw [hnl]
  simp [execOp, ho, e1, hrun]
 unfold Oper.wp
 rw [hex, Oper.upon_value]
 have hfin := hfr.put hd (av := .sl id 0 (pvNb (zAo b)).length) (v := .slice (some ⟨w.drew.heap.size, 0, none⟩) (pvNb (zAo b)).length (grownCap w b.size 0 e)) (zEF (sz := 1) (xs := pvNb (zAo b)) (by simp) (by simp [Pl.row]) (hfr.rw id 1 _ (by simp)).1 rfl)
 exact hK _ _ _ (by rw [Dl.app, zCs]; exact hfin)
theorem zBZ {c x y : Operand} (ho : o.op = .pick c x y) {d : Option Nat} (hc : s.ev c = .p d (.v (.bool true))) : StepD γ P n o M B s { put := s.ev x } := zAT ho hc
theorem zBR {c x y : Operand} (ho : o.op = .pick c x y) {d : Option Nat} (hc : s.ev c = .p d (.v (.bool false))) : StepD γ P n o M B s { put := s.ev y } := zAT ho hc
end
theorem zIT {a b : ByteArray} : a.toList = b.toList ↔ a = b := ⟨zD4, fun e => by rw [e]⟩
end Go.Rl
namespace Go.Rl
def zCQ (s : ByteArray) (m i : Nat) : Prop := ∀ j b, j < i → s.data.toList[j]? = some b → UInt8.toNat b ≤ m
def allB (s : ByteArray) (m : Nat) : Bool := s.data.toList.all fun b => decide (b.toNat ≤ m)
theorem zDN (s : ByteArray) (m : Nat) : zCQ s m 0 := fun _ _ h => absurd h (Nat.not_lt_zero _)
theorem zDO {s : ByteArray} {m i : Nat} {b : UInt8} (h : zCQ s m i) (hb : s[i]? = some b) (h1 : b.toNat ≤ m) : zCQ s m (i + 1) := fun j x hj hx => by
 by_cases q : j = i
 ·
  subst q
  rw [zDZ hb] at hx
  cases hx
  exact h1
 · exact h j x (by omega) hx
theorem zF6 {s : ByteArray} {m i : Nat} (h : zCQ s m i) (hi : s.size ≤ i) : allB s m = true := by
 rw [allB, List.all_eq_true]
 intro b hb
 obtain ⟨j, hj⟩ := List.getElem?_of_mem hb
 have := (List.getElem?_eq_some_iff.1 hj).1
 rw [zEN] at this
 exact decide_eq_true (h j b (by omega) hj)
theorem zH9 {s : ByteArray} {m i : Nat} {b : UInt8} (hb : s[i]? = some b) (h : m < b.toNat) : allB s m = false := by
 cases q : allB s m with
 | false => rfl
 | true =>
  rw [allB, List.all_eq_true] at q
  have := of_decide_eq_true (q b (List.mem_of_getElem? (zDZ hb)))
  omega
def zBC (f : Flt) : Bool :=
 if f.kind = 0 then decide (f = (⟨0, 0, 0, ⟨#[]⟩⟩ : Flt))
 else if f.kind = 1 then decide (f.seed = 0) && (zAd f.probes 1 30 && zAd f.bits.size 1 1000)
 else if f.kind = 2 then decide (f.probes = 0) && (zAd f.seed 0 3 && (zAd f.bits.size 20 600 && allB f.bits 127))
 else false
theorem fok_0 {f : Flt} (h : f.kind = 0) : decide (f = (⟨0, 0, 0, ⟨#[]⟩⟩ : Flt)) = zBC f := by rw [zBC, if_pos h]
theorem zHM {f : Flt} (h : f.kind = 1) : zBC f = (decide (f.seed = 0) && (zAd f.probes 1 30 && zAd f.bits.size 1 1000)) := by rw [zBC, if_neg (by omega), if_pos h]
theorem zEt {f : Flt} (h : f.kind = 2) : zBC f = (decide (f.probes = 0) && (zAd f.seed 0 3 && (zAd f.bits.size 20 600 && allB f.bits 127))) := by rw [zBC, if_neg (by omega), if_neg (by omega), if_pos h]
theorem fok_x {f : Flt} (h0 : ¬ f.kind = 0) (h1 : ¬ f.kind = 1) (h2 : ¬ f.kind = 2) : false = zBC f := by rw [zBC, if_neg h0, if_neg h1, if_neg h2]
theorem zFv {f : Flt} (h : zBC f = true) : 0 ≤ f.kind ∧ f.kind ≤ 2 ∧ 0 ≤ f.seed ∧ f.seed ≤ 3 ∧ 0 ≤ f.probes ∧ f.probes ≤ 30 ∧ f.bits.size ≤ 1000 := by
 rcases Classical.em (f.kind = 0) with q | q
 ·
  rw [← fok_0 q, decide_eq_true_eq] at h
  subst h
  decide
 rcases Classical.em (f.kind = 1) with q1 | q1
 ·
  rw [zHM q1] at h
  simp only [zAd, Bool.and_eq_true, decide_eq_true_eq] at h
  omega
 rcases Classical.em (f.kind = 2) with q2 | q2
 ·
  rw [zEt q2] at h
  simp only [zAd, Bool.and_eq_true, decide_eq_true_eq] at h
  omega
 · rw [← fok_x q q1 q2] at h; cases h
def zBs (f : Flt) : ByteArray := if zBC f then putV f.kind.toNat ++ putV f.seed.toNat ++ putV f.probes.toNat ++ putX f.bits else ⟨#[]⟩
theorem zED {f : Flt} (h : zBC f = false) : (⟨#[]⟩ : ByteArray) = zBs f := by rw [zBs, h]; rfl
theorem zDp {f : Flt} (h : zBC f = true) : putV f.kind.toNat ++ putV f.seed.toNat ++ putV f.probes.toNat ++ putX f.bits = zBs f := by rw [zBs, h]; rfl
theorem zDH (f : Flt) : (zBs f).size ≤ 1040 := by
 cases h : zBC f with
 | false => rw [← zED h]; decide
 | true =>
  have hn := zFv h
  rw [← zDp h]
  have h1 := zAl (n := f.kind.toNat) (by omega)
  have h2 := zAl (n := f.seed.toNat) (by omega)
  have h3 := zAl (n := f.probes.toNat) (by omega)
  have h4 := zBB (s := f.bits) (by omega)
  simp only [zAY]
  omega
theorem zEg {us : List ByteArray} {n : Nat} (h : zBv us n = none) (h1 : (zA8 us n).isSome = false) : zBv us (n + 1) = none := by
 rw [zBv, h]
 cases q : zA8 us n with
 | none => rfl
 | some f => rw [q] at h1; cases h1
theorem zEi {us : List ByteArray} {n : Nat} {f : Flt} (h : zBv us n = some f) : ∀ k, zBv us (n + k) = some f
 | 0 => h
 | k + 1 => by rw [← Nat.add_assoc, zBv, zEi h k]
theorem zFJ {us : List ByteArray} {n : Nat} (h : zBv us n = none) (h1 : (zA8 us n).isSome = true) (hn : n < 4) : (zA8 us n).getD .zero = zAr us 2 := by
 have h2 : zBv us (n + 1) = zA8 us n := by rw [zBv, h]
 cases q : zA8 us n with
 | none => rw [q] at h1; cases h1
 | some f =>
  have := zEi (h2.trans q) (3 - n)
  rw [show n + 1 + (3 - n) = 4 by omega] at this
  rw [zAr, if_neg (by decide), if_pos rfl, this]
  rfl
theorem zCR {us : List ByteArray} {kd : Int} (h0 : ¬ kd = 0) (h : kd = 2 → zBv us 4 = none) : zCN us = zAr us kd := by
 rw [zAr, if_neg h0]
 split
 · next q => rw [h q]; rfl
 · rfl
def zBk (h : ByteArray) : Bool := decide (h.size = 64) && allB h 58
theorem zEC {h : ByteArray} (q : zBk h = true) : h.size = 64 := by simp only [zBk, Bool.and_eq_true, decide_eq_true_eq] at q; exact q.1
def hllS (r : List Nat) (u : ByteArray) : List Nat := r.set (zCC u) (max (r.getD (zCC u) 0) (zBE u))
def hllA (h : ByteArray) (u : ByteArray) : ByteArray := zCc (ints (hllS (zAo h) u))
def hll0 : ByteArray := zCc (ints (List.replicate 64 0))
def hllN (us : List ByteArray) : Nat → ByteArray
 | 0 => hll0
 | i + 1 => match us[i]? with
  | some u => hllA (hllN us i) u
  | none => hllN us i
def hllF (us : List ByteArray) : ByteArray := hllN us us.length
theorem zGY {us : List ByteArray} {i : Nat} {u : ByteArray} (h : us[i]? = some u) : hllN us (i + 1) = hllA (hllN us i) u := by rw [hllN, h]
theorem zEr (u : ByteArray) : 1 ≤ zBE u ∧ zBE u ≤ 58 := by
 have := zIY (zAh 7 u / 64) 57
 rw [zBE]; omega
theorem zHu (u : ByteArray) : zCC u < 64 := Nat.mod_lt _ (by decide)
theorem zEY : ∀ (l : List Nat) (a : ByteArray), ((ints l).foldl (fun r n => r.push (UInt8.ofNat n.toNat)) a).data.toList = a.data.toList ++ l.map UInt8.ofNat
 | [], a => by simp [ints]
 | x :: l, a => by
  have := zEY l (a.push (UInt8.ofNat (x : Int).toNat))
  rw [show (ints (x :: l)) = (x : Int) :: ints l from rfl, List.foldl_cons, this]
  simp [ByteArray.push]
theorem zFB (l : List Nat) : (zCc (ints l)).data.toList = l.map UInt8.ofNat := by rw [zCc, zEY]; simp
theorem zCW (l : List Nat) : (zCc (ints l)).size = l.length := by rw [← zEN, zFB, List.length_map]
theorem zGm {l : List Nat} (h : ∀ x ∈ l, x < 256) : zAo (zCc (ints l)) = l := by
 rw [zAo, zFB, List.map_map]
 conv => rhs; rw [← List.map_id l]
 refine List.map_congr_left fun x hx => ?_
 have := h x hx
 simp only [Function.comp_apply, id, UInt8.toNat_ofNat']
 omega
theorem zFV {s : ByteArray} {m : Nat} : allB s m = true ↔ ∀ x ∈ zAo s, x ≤ m := by
 rw [allB, List.all_eq_true, zAo]
 simp
theorem hllA_ok {h u : ByteArray} (q : zBk h = true) : zBk (hllA h u) = true := by
 have hl := zEC q
 have ha : ∀ x ∈ zAo h, x ≤ 58 := by simp only [zBk, Bool.and_eq_true] at q; exact zFV.1 q.2
 have hs : ∀ x ∈ hllS (zAo h) u, x ≤ 58 := fun x hx => by
  rcases List.mem_or_eq_of_mem_set hx with p | p
  · exact ha x p
  ·
   have h1 : (zAo h).getD (zCC u) 0 ≤ 58 := by
    rw [List.getD_eq_getElem?_getD]
    cases e : (zAo h)[zCC u]? with
    | none => exact Nat.zero_le _
    | some y => exact ha y (List.mem_of_getElem? e)
   have := zEr u
   rw [p]; omega
 rw [zBk, Bool.and_eq_true, decide_eq_true_eq]
 refine ⟨?_, ?_⟩
 · rw [hllA, zCW, hllS, List.length_set, zCV, hl]
 ·
  rw [zFV, hllA, zGm (fun x hx => Nat.lt_of_le_of_lt (hs x hx) (by decide))]
  exact hs
theorem hll0_ok : zBk hll0 = true := by decide +kernel
theorem zDo (us : List ByteArray) : ∀ i, zBk (hllN us i) = true
 | 0 => hll0_ok
 | i + 1 => by
  rw [hllN]
  split
  · exact hllA_ok (zDo us i)
  · exact zDo us i
theorem zGg : ∀ (f k x : Nat), k < f → (Lib.ctzFrom f x < k → zBd x k = Lib.ctzFrom f x) ∧ (k ≤ Lib.ctzFrom f x → zBd x k = k)
 | 0, k, _, h => absurd h (Nat.not_lt_zero _)
 | f + 1, 0, x, _ => ⟨fun h => absurd h (Nat.not_lt_zero _), fun _ => rfl⟩
 | f + 1, k + 1, x, h => by
  have ih := zGg f k (x / 2) (by omega)
  rw [Lib.ctzFrom, zBd]
  by_cases q : x % 2 = 1
  ·
   rw [if_pos q, if_neg (by omega)]
   exact ⟨fun _ => rfl, fun h => by omega⟩
  ·
   rw [if_neg q, if_pos (by omega)]
   refine ⟨fun h => ?_, fun h => ?_⟩
   · rw [ih.1 (by omega)]; omega
   · rw [ih.2 (by omega)]
theorem zE7 : ∀ k, zBd 0 k = k
 | 0 => rfl
 | k + 1 => by rw [zBd, if_pos (by decide), zE7 k]
theorem zJ2 (x : Nat) : min (1 + Lib.ctz 64 x) 58 = zBd x 57 + 1 := by
 rw [Lib.ctz]
 split
 · next h => subst h; rw [zE7]; decide
 ·
  have h := zGg 64 57 x (by decide)
  rcases Nat.lt_or_ge (Lib.ctzFrom 64 x) 57 with q | q
  · rw [h.1 q]; omega
  · rw [h.2 q]; omega
theorem ctz_le (x : Nat) (h : x < 2 ^ 64) : Lib.ctz 64 x ≤ 64 := by
 rw [Lib.ctz]
 split
 · exact Nat.le_refl _
 ·
  next h0 =>
  obtain ⟨_, _, h2⟩ := Lib.ctzFrom_spec 64 x (by omega) h
  omega
theorem zIC {x k : Nat} (h : x % 2 = 0) : zBd x (k + 1) = zBd (x / 2) k + 1 := by rw [zBd, if_pos h]
theorem zIX {x k : Nat} (h : ¬ x % 2 = 0) : zBd x k = 0 := by
 cases k with
 | zero => rfl
 | succ k => rw [zBd, if_neg h]
end Go.Rl

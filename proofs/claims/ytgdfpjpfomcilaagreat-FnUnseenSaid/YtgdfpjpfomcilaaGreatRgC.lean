/- Promises of functions, proved by walks over their operations; no conditions beyond those that each theorem states. -/
import Derived.Test.YtgdfpjpfomcilaaGreatRgA
import Derived.Test.YtgdfpjpfomcilaaGreatRnC
import Derived.Maps.Own
import Derived.Test.YtgdfpjpfomcilaaGreatRlT
set_option linter.unusedSimpArgs false
set_option linter.unusedVariables false
namespace Go.Rl
open Go.Proofs Go.Proofs.Tryz
set_option maxRecDepth 1000000
set_option maxHeartbeats 2000000
theorem en53 : En Tryz.prog 53 := zAn func53 (by decide) rfl
theorem en16 : En Tryz.prog 16 := zAn func16 (by decide) rfl
theorem en11 : En Tryz.prog 11 := zAn func11 (by decide) rfl
theorem en54 : En Tryz.prog 54 := zAn func54 (by decide) rfl
theorem en45 : En Tryz.prog 45 := zAn func45 (by decide) rfl
theorem en55 : En Tryz.prog 55 := zAn func55 (by decide) rfl
theorem en57 : En Tryz.prog 57 := zAn func57 (by decide) rfl
theorem db_con {γ : Gho} {cv : Value} {bs : List Nat} (hc : zCW γ cv bs) (hl : bs.length ≤ 1152921504606846976) (p : Nat) (hp : p ≤ bs.length)  : ConG γ Tryz.prog 20 [.rptr 2 [PV.v (cv), PV.v (.int .i64 (p:Int))]] [some (pvRd (cv, dbP bs p))] [.agg [.v (.int .i64 ((dbV bs p).seq)), .sl true 4 (pvE ((dbV bs p).mem)), .sl true 1 (pvR (tagT (dbV bs p).runs)), .sl true 1 (pvI ((dbV bs p).snaps))]] := by
 refine zAS func20 rfl rfl rfl rfl ?_
 have hb0 := zB3 (bs := bs) (p := p) (n := 9) (by omega)
 refine zAB (zAA rfl (.run [] [2] rfl (zAl rfl 2 zBy rfl (by decide) rfl (by decide)) .nil) ?_)
 refine zAB (zAA rfl (.r rfl (zBM (pl := [(0, 1), (1, 1), (2, 1), (3, 1)]) rfl underlying28 zBy (by kernel_rfl) rfl rfl) (.run [] [3] rfl (zAl rfl 3 zBy rfl (by decide) rfl (by decide)) (.r rfl (zAE rfl rfl rfl rfl rfl sizeOf28 rfl (nle rfl)) .nil))) ?_)
 refine zAB ?_
 refine zAB (zAA rfl (.m rfl rfl (.run [100000, 900] [] rfl (zAx (.inr rfl) rfl 900 (X := [100000]) en52 rfl (.val nod) (.cons (.rptr rfl) (.cons (.one (.bor .v)) .nil)) (by decide) (all_cons rfl all_nil) (.keep (xs := pvRd (cv, p)) rfl (FlatP.nf (zAc _)) .nil) (zBt hc hl p hp 9 (by omega)) rfl rfl (nle rfl)) (.a rfl rfl .nil))) ?_)
 refine zAR ?_
 refine zAV (zK5 3 1 1 4 rfl rfl rfl (by decide)) ?_
 refine zAV (zK5 3 2 2 1 rfl rfl rfl (by decide)) ?_
 refine zAV (zK5 3 3 3 1 rfl rfl rfl (by decide)) ?_
-- entry row 100000: pvRd (cv, (zAH bs p 9)) now pvRd (cv, zAH bs p 9)
 refine zAo (σ := Nat × Eng × Nat) (fun (i, d, q) => mk [(0, .ea 100000 0 0), (2, .ptr 2 0), (3, .ptr 3 0), (4, .vi (i:Int))] [(2, [.vi 0, .nils, .nils, .nils]), (3, [.vi d.seq, .sl 1 0 ((pvE d.mem).length), .sl 2 0 ((pvR (tagT d.runs)).length), .sl 3 0 ((pvI d.snaps).length)])] [(1, 4, pvE d.mem), (2, 1, pvR (tagT d.runs)), (3, 1, pvI d.snaps), (100000, 2, pvRd (cv, q))]) (fun (i, d, q) => i ≤ 9 ∧ EB d ∧ q ≤ bs.length ∧ zCi bs i (d, q) = zCx bs p) (fun (i, d, q) => i) (zAh bs p 9, Eng.nil, zAH bs p 9) ⟨by omega, zG1, zAY hp, rfl⟩ (zAI ⟨rfl, rfl, rfl, (zAJ (by omega)), trivial⟩ ⟨rfl, rfl, trivial⟩ ⟨(congrArg (fun x => some (4, x)) (by rfl)), (congrArg (fun x => some (1, x)) (by rfl)), (congrArg (fun x => some (1, x)) (by rfl)), rfl, trivial⟩ rfl) ?_
 rintro ⟨i, d, q⟩ hG
 replace hG : i ≤ 9 ∧ EB d ∧ q ≤ bs.length ∧ zCi bs i (d, q) = zCx bs p := hG
 obtain ⟨hi, hD, hp, hE⟩ := hG
 have hsn := hD.snaps
 have hl3 := zAU d.snaps
 refine zAB ?_
 refine zAB (zAA rfl (.m rfl rfl (.r rfl (zBF rfl rfl rfl) .nil)) ?_)
 refine zAb (t := decide (0 < (i:Int))) rfl (fun h1 => ?_) (fun h1 => ?_)
 ·
  replace h1 := of_decide_eq_true h1
  refine zAL ?_
  refine zAB ?_
  refine zAR ?_
  refine zAB (zAA rfl (.r rfl (zAG rfl rfl rfl isAgg28 sizeOf28 (nle rfl)) (.run [] [5] rfl (zAl rfl 5 zBy rfl (by decide) rfl (by decide)) (.r rfl (zAE rfl rfl rfl rfl rfl sizeOf28 rfl (nle rfl)) .nil))) ?_)
  refine zAB (zAA rfl (.a rfl rfl .nil) ?_)
  refine zAB ?_
  refine zAB (zAA rfl (.m rfl rfl (.run [100000, 1600] [] rfl (zAx (.inr rfl) rfl 1600 (X := [100000]) en52 rfl (.val nod) (.cons (.rptr rfl) (.cons (.one (.bor .v)) .nil)) (by decide) (all_cons rfl all_nil) (.keep (xs := pvRd (cv, q)) rfl (FlatP.nf (zAc _)) .nil) (zBt hc hl q hp 7 (by omega)) rfl rfl (nle rfl)) .nil)) ?_)
  refine zAR ?_
  refine zAB (zAA rfl (.r rfl (zA9 rfl rfl rfl) (.a rfl rfl .nil)) ?_)
  refine zAb (t := decide (((zAh bs q 7 : Nat) : Int) = 0)) rfl (fun h2 => ?_) (fun h2 => ?_)
  ·
   replace h2 := of_decide_eq_true h2
   refine zAV (s' := mk [(0, .ea 100000 0 0), (2, .ptr 2 0), (3, .ptr 3 0), (4, .vi (i:Int)), (5, .ptr 5 0)] [(2, [.vi 0, .nils, .nils, .nils]), (3, [.vi d.seq, .sl 1 0 ((pvE d.mem).length), .sl 2 0 ((pvR (tagT d.runs)).length), .sl 3 0 ((pvI d.snaps).length)]), (5, [.vi d.seq, .sl 1 0 ((pvE d.mem).length), .sl 2 0 ((pvR (tagT d.runs)).length), .sl 3 0 ((pvI d.snaps).length)])] [(1, 4, pvE d.mem), (2, 1, pvR (tagT d.runs)), (3, 1, pvI d.snaps), (100000, 2, pvRd (cv, zAH bs q 7))]) ?_ ?_
   · exact zAI ⟨rfl, rfl, rfl, rfl, rfl, trivial⟩ ⟨rfl, rfl, rfl, trivial⟩ ⟨rfl, rfl, rfl, rfl, trivial⟩ rfl
   refine zAA rfl (.r rfl (zAG rfl rfl rfl isAgg28 sizeOf28 (nle rfl)) (.run [1, 2, 3, 2800, 2801, 2802, 2803, 2804] [] rfl (zAK rfl 2800 (X := []) en53 rfl (.val nod) (.cons (.agg (.cons (.bor .v) (.cons (.bor (.all (len := (pvE d.mem).length) (xs := pvE d.mem) rfl rfl (by decide))) (.cons (.bor (.all (len := (pvR (tagT d.runs)).length) (xs := pvR (tagT d.runs)) rfl rfl (by decide))) (.cons (.bor (.all (len := (pvI d.snaps).length) (xs := pvI d.snaps) rfl rfl (by decide))) .nil))))) .nil) (by decide) all_nil .nil (zMj d hD) rfl rfl (nle rfl)) (.m rfl rfl (.r rfl (zAm rfl rfl rfl) (.r rfl (zAm rfl rfl rfl) (.r rfl (zAE rfl rfl rfl rfl rfl sizeOf28 rfl (nle rfl)) (.a rfl rfl .nil))))))) ?_
   refine zAB (zAA rfl (.m rfl rfl (.r rfl (zA9 rfl rfl rfl) .nil)) ?_)
   refine zAb (t := decide (((zBj d).2) = 0)) rfl (fun h3 => ?_) (fun h3 => ?_)
   ·
    replace h3 := of_decide_eq_true h3
    refine zAA rfl (.r rfl (zAG rfl rfl rfl isAgg28 sizeOf28 (nle rfl)) (.r rfl (zAE rfl rfl rfl rfl rfl sizeOf28 rfl (nle rfl)) .nil)) ?_
    refine zAA rfl (.m rfl rfl (.r rfl (zAs rfl rfl rfl (by omega)) (.a rfl rfl .nil))) ?_
-- round row 100000: pvRd (cv, (zAH bs q 7)) now pvRd (cv, zAH bs q 7)
    refine nxt (Q := fun _ _ => False) (z := (i, d, q)) (i - 1, (zBj d).1, zAH bs q 7) ?_ ?_ ?_
    ·
     show (i - 1) ≤ 9 ∧ EB ((zBj d).1) ∧ (zAH bs q 7) ≤ bs.length ∧ zCi bs (i - 1) (((zBj d).1), (zAH bs q 7)) = zCx bs p
     exact ⟨by omega, zLw hD, zAY hp, zCF (by omega) (st_0 (by omega) (decide_eq_true h3)) hE⟩
    ·
     show (i - 1) < i
     omega
    · exact (show Wk _ _ (mk [(0, .ea 100000 0 0), (2, .ptr 2 0), (3, .ptr 3 0), (4, .vi ((i:Int) - 1))] [(2, [.vi 0, .nils, .nils, .nils]), (3, [.vi ((zBj d).1.seq), .sl 2801 0 ((pvE ((zBj d).1.mem)).length), .sl 2802 0 ((pvR (tagT (zBj d).1.runs)).length), .sl 2803 0 ((pvI ((zBj d).1.snaps)).length)])] [(2801, 4, pvE ((zBj d).1.mem)), (2802, 1, pvR (tagT (zBj d).1.runs)), (2803, 1, pvI ((zBj d).1.snaps)), (100000, 2, pvRd (cv, zAH bs q 7))]) from zAI ⟨rfl, rfl, rfl, rfl, trivial⟩ ⟨rfl, rfl, trivial⟩ ⟨rfl, rfl, rfl, rfl, trivial⟩ rfl).trans ((zBi 2801 1 rfl rfl (by decide)).trans ((zBi 2802 2 rfl rfl (by decide)).trans ((zBi 2803 3 rfl rfl (by decide)).trans (zAI ⟨rfl, rfl, rfl, (zAJ (by omega)), trivial⟩ ⟨rfl, rfl, trivial⟩ ⟨(congrArg (fun x => some (4, x)) (by rfl)), (congrArg (fun x => some (1, x)) (by rfl)), (congrArg (fun x => some (1, x)) (by rfl)), rfl, trivial⟩ rfl))))
   ·
    replace h3 := of_decide_eq_false h3
    refine zAL ?_
    refine zAA rfl (.m rfl rfl (.r rfl (zAs rfl rfl rfl (by omega)) (.a rfl rfl .nil))) ?_
-- round row 100000: pvRd (cv, (zAH bs q 7)) now pvRd (cv, zAH bs q 7)
    refine nxt (Q := fun _ _ => False) (z := (i, d, q)) (i - 1, d, zAH bs q 7) ?_ ?_ ?_
    ·
     show (i - 1) ≤ 9 ∧ EB d ∧ (zAH bs q 7) ≤ bs.length ∧ zCi bs (i - 1) (d, (zAH bs q 7)) = zCx bs p
     exact ⟨by omega, hD, zAY hp, zCF (by omega) (st_0 (by omega) (decide_eq_false h3)) hE⟩
    ·
     show (i - 1) < i
     omega
    · exact zAI ⟨rfl, rfl, rfl, (zAJ (by omega)), trivial⟩ ⟨rfl, rfl, trivial⟩ ⟨(congrArg (fun x => some (4, x)) (by rfl)), (congrArg (fun x => some (1, x)) (by rfl)), (congrArg (fun x => some (1, x)) (by rfl)), rfl, trivial⟩ rfl
  ·
   replace h2 := of_decide_eq_false h2
   refine zAB (zAA rfl (.r rfl (zA9 rfl rfl rfl) (.a rfl rfl .nil)) ?_)
   refine zAb (t := decide (((zAh bs q 7 : Nat) : Int) = 1)) rfl (fun h4 => ?_) (fun h4 => ?_)
   ·
    replace h4 := of_decide_eq_true h4
    refine zAV (s' := mk [(0, .ea 100000 0 0), (2, .ptr 2 0), (3, .ptr 3 0), (4, .vi (i:Int)), (5, .ptr 5 0)] [(2, [.vi 0, .nils, .nils, .nils]), (3, [.vi d.seq, .sl 1 0 ((pvE d.mem).length), .sl 2 0 ((pvR (tagT d.runs)).length), .sl 3 0 ((pvI d.snaps).length)]), (5, [.vi d.seq, .sl 1 0 ((pvE d.mem).length), .sl 2 0 ((pvR (tagT d.runs)).length), .sl 3 0 ((pvI d.snaps).length)])] [(1, 4, pvE d.mem), (2, 1, pvR (tagT d.runs)), (3, 1, pvI d.snaps), (100000, 2, pvRd (cv, zAH bs q 7))]) ?_ ?_
    · exact zAI ⟨rfl, rfl, rfl, rfl, rfl, trivial⟩ ⟨rfl, rfl, rfl, trivial⟩ ⟨rfl, rfl, rfl, rfl, trivial⟩ rfl
    refine zAA rfl (.r rfl (zAG rfl rfl rfl isAgg28 sizeOf28 (nle rfl)) (.run [1, 2, 3, 3500, 3501, 3502, 3503, 3504, 3505] [] rfl (zAK rfl 3500 (X := []) en16 rfl (.val nod) (.cons (.agg (.cons (.bor .v) (.cons (.bor (.all (len := (pvE d.mem).length) (xs := pvE d.mem) rfl rfl (by decide))) (.cons (.bor (.all (len := (pvR (tagT d.runs)).length) (xs := pvR (tagT d.runs)) rfl rfl (by decide))) (.cons (.bor (.all (len := (pvI d.snaps).length) (xs := pvI d.snaps) rfl rfl (by decide))) .nil))))) .nil) (by decide) all_nil .nil (zNC d hD) rfl rfl (nle rfl)) (.m rfl rfl (.r rfl (zAm rfl rfl rfl) (.r rfl (zAm rfl rfl rfl) (.r rfl (zAm rfl rfl rfl) (.r rfl (zAE rfl rfl rfl rfl rfl sizeOf28 rfl (nle rfl)) (.a rfl rfl .nil)))))))) ?_
    refine zAB (zAA rfl (.m rfl rfl (.r rfl (zA9 rfl rfl rfl) .nil)) ?_)
    refine zAb (t := decide (((zB9 d).2.2) = 0)) rfl (fun h5 => ?_) (fun h5 => ?_)
    ·
     replace h5 := of_decide_eq_true h5
     refine zAA rfl (.r rfl (zAG rfl rfl rfl isAgg28 sizeOf28 (nle rfl)) (.r rfl (zAE rfl rfl rfl rfl rfl sizeOf28 rfl (nle rfl)) .nil)) ?_
     refine zAA rfl (.m rfl rfl (.r rfl (zAs rfl rfl rfl (by omega)) (.a rfl rfl .nil))) ?_
-- round row 100000: pvRd (cv, (zAH bs q 7)) now pvRd (cv, zAH bs q 7)
     refine nxt (Q := fun _ _ => False) (z := (i, d, q)) (i - 1, (zB9 d).1, zAH bs q 7) ?_ ?_ ?_
     ·
      show (i - 1) ≤ 9 ∧ EB ((zB9 d).1) ∧ (zAH bs q 7) ≤ bs.length ∧ zCi bs (i - 1) (((zB9 d).1), (zAH bs q 7)) = zCx bs p
      exact ⟨by omega, zNB hD, zAY hp, zCF (by omega) (st_1 (by omega) (decide_eq_true h5)) hE⟩
     ·
      show (i - 1) < i
      omega
     · exact (show Wk _ _ (mk [(0, .ea 100000 0 0), (2, .ptr 2 0), (3, .ptr 3 0), (4, .vi ((i:Int) - 1))] [(2, [.vi 0, .nils, .nils, .nils]), (3, [.vi ((zB9 d).1.seq), .sl 3501 0 ((pvE ((zB9 d).1.mem)).length), .sl 3502 0 ((pvR (tagT (zB9 d).1.runs)).length), .sl 3503 0 ((pvI ((zB9 d).1.snaps)).length)])] [(3501, 4, pvE ((zB9 d).1.mem)), (3502, 1, pvR (tagT (zB9 d).1.runs)), (3503, 1, pvI ((zB9 d).1.snaps)), (100000, 2, pvRd (cv, zAH bs q 7))]) from zAI ⟨rfl, rfl, rfl, rfl, trivial⟩ ⟨rfl, rfl, trivial⟩ ⟨rfl, rfl, rfl, rfl, trivial⟩ rfl).trans ((zBi 3501 1 rfl rfl (by decide)).trans ((zBi 3502 2 rfl rfl (by decide)).trans ((zBi 3503 3 rfl rfl (by decide)).trans (zAI ⟨rfl, rfl, rfl, (zAJ (by omega)), trivial⟩ ⟨rfl, rfl, trivial⟩ ⟨(congrArg (fun x => some (4, x)) (by rfl)), (congrArg (fun x => some (1, x)) (by rfl)), (congrArg (fun x => some (1, x)) (by rfl)), rfl, trivial⟩ rfl))))
    ·
     replace h5 := of_decide_eq_false h5
     refine zAL ?_
     refine zAA rfl (.m rfl rfl (.r rfl (zAs rfl rfl rfl (by omega)) (.a rfl rfl .nil))) ?_
-- round row 100000: pvRd (cv, (zAH bs q 7)) now pvRd (cv, zAH bs q 7)
     refine nxt (Q := fun _ _ => False) (z := (i, d, q)) (i - 1, d, zAH bs q 7) ?_ ?_ ?_
     ·
      show (i - 1) ≤ 9 ∧ EB d ∧ (zAH bs q 7) ≤ bs.length ∧ zCi bs (i - 1) (d, (zAH bs q 7)) = zCx bs p
      exact ⟨by omega, hD, zAY hp, zCF (by omega) (st_1 (by omega) (decide_eq_false h5)) hE⟩
     ·
      show (i - 1) < i
      omega
     · exact zAI ⟨rfl, rfl, rfl, (zAJ (by omega)), trivial⟩ ⟨rfl, rfl, trivial⟩ ⟨(congrArg (fun x => some (4, x)) (by rfl)), (congrArg (fun x => some (1, x)) (by rfl)), (congrArg (fun x => some (1, x)) (by rfl)), rfl, trivial⟩ rfl
   ·
    replace h4 := of_decide_eq_false h4
    refine zAB (zAA rfl (.r rfl (zA9 rfl rfl rfl) (.a rfl rfl .nil)) ?_)
    refine zAb (t := decide (((zAh bs q 7 : Nat) : Int) = 2)) rfl (fun h6 => ?_) (fun h6 => ?_)
    ·
     replace h6 := of_decide_eq_true h6
     refine zAV (s' := mk [(0, .ea 100000 0 0), (2, .ptr 2 0), (3, .ptr 3 0), (4, .vi (i:Int)), (5, .ptr 5 0)] [(2, [.vi 0, .nils, .nils, .nils]), (3, [.vi d.seq, .sl 1 0 ((pvE d.mem).length), .sl 2 0 ((pvR (tagT d.runs)).length), .sl 3 0 ((pvI d.snaps).length)]), (5, [.vi d.seq, .sl 1 0 ((pvE d.mem).length), .sl 2 0 ((pvR (tagT d.runs)).length), .sl 3 0 ((pvI d.snaps).length)])] [(1, 4, pvE d.mem), (2, 1, pvR (tagT d.runs)), (3, 1, pvI d.snaps), (100000, 2, pvRd (cv, zAH bs q 7))]) ?_ ?_
     · exact zAI ⟨rfl, rfl, rfl, rfl, rfl, trivial⟩ ⟨rfl, rfl, rfl, trivial⟩ ⟨rfl, rfl, rfl, rfl, trivial⟩ rfl
     refine zAA rfl (.r rfl (zAG rfl rfl rfl isAgg28 sizeOf28 (nle rfl)) (.run [1, 2, 3, 4300, 4301, 4302, 4303, 4304] [] rfl (zAK rfl 4300 (X := []) en11 rfl (.val nod) (.cons (.agg (.cons (.bor .v) (.cons (.bor (.all (len := (pvE d.mem).length) (xs := pvE d.mem) rfl rfl (by decide))) (.cons (.bor (.all (len := (pvR (tagT d.runs)).length) (xs := pvR (tagT d.runs)) rfl rfl (by decide))) (.cons (.bor (.all (len := (pvI d.snaps).length) (xs := pvI d.snaps) rfl rfl (by decide))) .nil))))) .nil) (by decide) all_nil .nil (zEJ d hD) rfl rfl (nle rfl)) (.m rfl rfl (.r rfl (zAm rfl rfl rfl) (.r rfl (zAm rfl rfl rfl) (.r rfl (zAE rfl rfl rfl rfl rfl sizeOf28 rfl (nle rfl)) (.a rfl rfl .nil))))))) ?_
     refine zAB (zAA rfl (.m rfl rfl (.r rfl (zA9 rfl rfl rfl) .nil)) ?_)
     refine zAb (t := decide (((zA8 d).2) = 0)) rfl (fun h7 => ?_) (fun h7 => ?_)
     ·
      replace h7 := of_decide_eq_true h7
      refine zAA rfl (.r rfl (zAG rfl rfl rfl isAgg28 sizeOf28 (nle rfl)) (.r rfl (zAE rfl rfl rfl rfl rfl sizeOf28 rfl (nle rfl)) .nil)) ?_
      refine zAA rfl (.m rfl rfl (.r rfl (zAs rfl rfl rfl (by omega)) (.a rfl rfl .nil))) ?_
-- round row 100000: pvRd (cv, (zAH bs q 7)) now pvRd (cv, zAH bs q 7)
      refine nxt (Q := fun _ _ => False) (z := (i, d, q)) (i - 1, (zA8 d).1, zAH bs q 7) ?_ ?_ ?_
      ·
       show (i - 1) ≤ 9 ∧ EB ((zA8 d).1) ∧ (zAH bs q 7) ≤ bs.length ∧ zCi bs (i - 1) (((zA8 d).1), (zAH bs q 7)) = zCx bs p
       exact ⟨by omega, zHu hD, zAY hp, zCF (by omega) (st_2 (by omega) (decide_eq_true h7)) hE⟩
      ·
       show (i - 1) < i
       omega
      · exact (show Wk _ _ (mk [(0, .ea 100000 0 0), (2, .ptr 2 0), (3, .ptr 3 0), (4, .vi ((i:Int) - 1))] [(2, [.vi 0, .nils, .nils, .nils]), (3, [.vi ((zA8 d).1.seq), .sl 4301 0 ((pvE ((zA8 d).1.mem)).length), .sl 4302 0 ((pvR (tagT (zA8 d).1.runs)).length), .sl 4303 0 ((pvI ((zA8 d).1.snaps)).length)])] [(4301, 4, pvE ((zA8 d).1.mem)), (4302, 1, pvR (tagT (zA8 d).1.runs)), (4303, 1, pvI ((zA8 d).1.snaps)), (100000, 2, pvRd (cv, zAH bs q 7))]) from zAI ⟨rfl, rfl, rfl, rfl, trivial⟩ ⟨rfl, rfl, trivial⟩ ⟨rfl, rfl, rfl, rfl, trivial⟩ rfl).trans ((zBi 4301 1 rfl rfl (by decide)).trans ((zBi 4302 2 rfl rfl (by decide)).trans ((zBi 4303 3 rfl rfl (by decide)).trans (zAI ⟨rfl, rfl, rfl, (zAJ (by omega)), trivial⟩ ⟨rfl, rfl, trivial⟩ ⟨(congrArg (fun x => some (4, x)) (by rfl)), (congrArg (fun x => some (1, x)) (by rfl)), (congrArg (fun x => some (1, x)) (by rfl)), rfl, trivial⟩ rfl))))
     ·
      replace h7 := of_decide_eq_false h7
      refine zAL ?_
      refine zAA rfl (.m rfl rfl (.r rfl (zAs rfl rfl rfl (by omega)) (.a rfl rfl .nil))) ?_
-- round row 100000: pvRd (cv, (zAH bs q 7)) now pvRd (cv, zAH bs q 7)
      refine nxt (Q := fun _ _ => False) (z := (i, d, q)) (i - 1, d, zAH bs q 7) ?_ ?_ ?_
      ·
       show (i - 1) ≤ 9 ∧ EB d ∧ (zAH bs q 7) ≤ bs.length ∧ zCi bs (i - 1) (d, (zAH bs q 7)) = zCx bs p
       exact ⟨by omega, hD, zAY hp, zCF (by omega) (st_2 (by omega) (decide_eq_false h7)) hE⟩
      ·
       show (i - 1) < i
       omega
      · exact zAI ⟨rfl, rfl, rfl, (zAJ (by omega)), trivial⟩ ⟨rfl, rfl, trivial⟩ ⟨(congrArg (fun x => some (4, x)) (by rfl)), (congrArg (fun x => some (1, x)) (by rfl)), (congrArg (fun x => some (1, x)) (by rfl)), rfl, trivial⟩ rfl
    ·
     replace h6 := of_decide_eq_false h6
     refine zAB (zAA rfl (.r rfl (zA9 rfl rfl rfl) (.a rfl rfl .nil)) ?_)
     refine zAb (t := decide (((zAh bs q 7 : Nat) : Int) = 3)) rfl (fun h8 => ?_) (fun h8 => ?_)
     ·
      replace h8 := of_decide_eq_true h8
      refine zAB ?_
      refine zAV (s' := mk [(0, .ea 100000 0 0), (2, .ptr 2 0), (3, .ptr 3 0), (4, .vi (i:Int)), (5, .ptr 5 0), (6, .vi 0)] [(2, [.vi 0, .nils, .nils, .nils]), (3, [.vi d.seq, .sl 1 0 ((pvE d.mem).length), .sl 2 0 ((pvR (tagT d.runs)).length), .sl 3 0 ((pvI d.snaps).length)]), (5, [.vi d.seq, .sl 1 0 ((pvE d.mem).length), .sl 2 0 ((pvR (tagT d.runs)).length), .sl 3 0 ((pvI d.snaps).length)])] [(1, 4, pvE d.mem), (2, 1, pvR (tagT d.runs)), (3, 1, pvI d.snaps), (100000, 2, pvRd (cv, zAH bs q 7))]) ?_ ?_
      · exact zAI ⟨rfl, rfl, rfl, rfl, rfl, rfl, trivial⟩ ⟨rfl, rfl, rfl, trivial⟩ ⟨rfl, rfl, rfl, rfl, trivial⟩ rfl
      refine zAA rfl (.r rfl (zAC rfl rfl underlying28 rfl sizeOf26 (by decide)) (.r rfl (zAD rfl rfl rfl isAgg26 rfl) (.r rfl (zA2 rfl rfl underlying26) (.r rfl (zBF rfl rfl rfl) .nil)))) ?_
      refine zAb (t := decide (0 < ((pvI d.snaps).length : Int))) rfl (fun h9 => ?_) (fun h9 => ?_)
      ·
       replace h9 := of_decide_eq_true h9
       obtain ⟨a, ha⟩ : ∃ a, d.snaps[zAh bs (zAH bs q 7) d.snaps.length]? = some a := ⟨_, List.getElem?_eq_getElem (zB3 (by omega))⟩
       refine zAV (s' := mk [(0, .ea 100000 0 0), (2, .ptr 2 0), (3, .ptr 3 0), (4, .vi (i:Int)), (5, .ptr 5 0)] [(2, [.vi 0, .nils, .nils, .nils]), (3, [.vi d.seq, .sl 1 0 ((pvE d.mem).length), .sl 2 0 ((pvR (tagT d.runs)).length), .sl 3 0 ((pvI d.snaps).length)]), (5, [.vi d.seq, .sl 1 0 ((pvE d.mem).length), .sl 2 0 ((pvR (tagT d.runs)).length), .sl 3 0 ((pvI d.snaps).length)])] [(1, 4, pvE d.mem), (2, 1, pvR (tagT d.runs)), (3, 1, pvI d.snaps), (100000, 2, pvRd (cv, zAH bs q 7))]) ?_ ?_
       · exact zAI ⟨rfl, rfl, rfl, rfl, rfl, trivial⟩ ⟨rfl, rfl, rfl, trivial⟩ ⟨rfl, rfl, rfl, rfl, trivial⟩ rfl
       refine zAZ zBD rfl (.r rfl (zAG rfl rfl rfl isAgg28 sizeOf28 (nle rfl)) (.r rfl (zAC rfl rfl underlying28 rfl sizeOf26 (by decide)) (.r rfl (zAD rfl rfl rfl isAgg26 rfl) (.m rfl rfl (.r rfl (zAC rfl rfl underlying28 rfl sizeOf26 (by decide)) (.r rfl (zAD rfl rfl rfl isAgg26 rfl) (.r rfl (zAX (zA2 rfl rfl underlying26) ((show (AV.p none (.v (.int .i64 ((pvI d.snaps).length : Int)))) = AV.p none (.v (.int .i64 (d.snaps.length : Int))) from zAJ (by omega)))) (.run [100000, 6000] [] rfl (zAx (.inr rfl) rfl 6000 (X := [100000]) en52 rfl (.val nod) (.cons (.rptr rfl) (.cons (.one (.bor .v)) .nil)) (by decide) (all_cons rfl all_nil) (.keep (xs := pvRd (cv, zAH bs q 7)) rfl (FlatP.nf (zAc _)) .nil) (zBt hc hl (zAH bs q 7) (zAY hp) d.snaps.length (by omega)) rfl rfl (nle rfl)) (.r rfl (zAW (zAh bs (zAH bs q 7) d.snaps.length) rfl rfl rfl rfl underlying26 sizeOf2 rfl rfl (by rw [zAU]; exact zB3 (by omega))) (.r rfl (zAt rfl rfl rfl (zBe ha) isAgg2 rfl) (.run [1, 2, 3, 6300, 6301, 6302, 6303, 6304] [] rfl (zAK rfl 6300 (X := []) en54 rfl (.val nod) (.cons (.agg (.cons (.bor .v) (.cons (.bor (.all (len := (pvE d.mem).length) (xs := pvE d.mem) rfl rfl (by decide))) (.cons (.bor (.all (len := (pvR (tagT d.runs)).length) (xs := pvR (tagT d.runs)) rfl rfl (by decide))) (.cons (.bor (.all (len := (pvI d.snaps).length) (xs := pvI d.snaps) rfl rfl (by decide))) .nil))))) (.cons (.one (.bor .v)) .nil)) (by decide) all_nil .nil (zNp d hD a) rfl rfl (nle rfl)) (.m rfl rfl (.r rfl (zAm rfl rfl rfl) (.r rfl (zAm rfl rfl rfl) (.r rfl (zAE rfl rfl rfl rfl rfl sizeOf28 rfl (nle rfl)) (.a rfl rfl .nil)))))))))))))))) (by kernel_rfl) ?_
       refine zAB ?_
       refine zAV (s' := mk [(0, .ea 100000 0 0), (2, .ptr 2 0), (3, .ptr 3 0), (4, .vi (i:Int)), (5, .ptr 5 0), (6, .vi ((zB8 d a).2))] [(2, [.vi 0, .nils, .nils, .nils]), (3, [.vi d.seq, .sl 1 0 ((pvE d.mem).length), .sl 2 0 ((pvR (tagT d.runs)).length), .sl 3 0 ((pvI d.snaps).length)]), (5, [.vi ((zB8 d a).1.seq), .sl 6301 0 ((pvE ((zB8 d a).1.mem)).length), .sl 6302 0 ((pvR (tagT (zB8 d a).1.runs)).length), .sl 6303 0 ((pvI ((zB8 d a).1.snaps)).length)])] [(1, 4, pvE d.mem), (2, 1, pvR (tagT d.runs)), (3, 1, pvI d.snaps), (6301, 4, pvE ((zB8 d a).1.mem)), (6302, 1, pvR (tagT (zB8 d a).1.runs)), (6303, 1, pvI ((zB8 d a).1.snaps)), (100000, 2, pvRd (cv, zAH bs (zAH bs q 7) d.snaps.length))]) ?_ ?_
       · exact zAI ⟨rfl, rfl, rfl, rfl, rfl, rfl, trivial⟩ ⟨rfl, rfl, rfl, trivial⟩ ⟨rfl, rfl, rfl, rfl, rfl, rfl, rfl, trivial⟩ rfl
       refine zAA rfl (.m rfl rfl (.r rfl (zA9 rfl rfl rfl) .nil)) ?_
       refine zAb (t := decide (((zB8 d a).2) = 0)) rfl (fun h10 => ?_) (fun h10 => ?_)
       ·
        replace h10 := of_decide_eq_true h10
        refine zAA rfl (.r rfl (zAG rfl rfl rfl isAgg28 sizeOf28 (nle rfl)) (.r rfl (zAE rfl rfl rfl rfl rfl sizeOf28 rfl (nle rfl)) .nil)) ?_
        refine zAA rfl (.m rfl rfl (.r rfl (zAs rfl rfl rfl (by omega)) (.a rfl rfl .nil))) ?_
-- round row 100000: pvRd (cv, (zAH bs (zAH bs q 7) d.snaps.length)) now pvRd (cv, zAH bs (zAH bs q 7) d.snaps.length)
        refine nxt (Q := fun _ _ => False) (z := (i, d, q)) (i - 1, (zB8 d a).1, zAH bs (zAH bs q 7) d.snaps.length) ?_ ?_ ?_
        ·
         show (i - 1) ≤ 9 ∧ EB ((zB8 d a).1) ∧ (zAH bs (zAH bs q 7) d.snaps.length) ≤ bs.length ∧ zCi bs (i - 1) (((zB8 d a).1), (zAH bs (zAH bs q 7) d.snaps.length)) = zCx bs p
         exact ⟨by omega, zNo hD, zAY (zAY hp), zCF (by omega) (st_3 (by omega) ha (decide_eq_true h10)) hE⟩
        ·
         show (i - 1) < i
         omega
        · exact (show Wk _ _ (mk [(0, .ea 100000 0 0), (2, .ptr 2 0), (3, .ptr 3 0), (4, .vi ((i:Int) - 1))] [(2, [.vi 0, .nils, .nils, .nils]), (3, [.vi ((zB8 d a).1.seq), .sl 6301 0 ((pvE ((zB8 d a).1.mem)).length), .sl 6302 0 ((pvR (tagT (zB8 d a).1.runs)).length), .sl 6303 0 ((pvI ((zB8 d a).1.snaps)).length)])] [(6301, 4, pvE ((zB8 d a).1.mem)), (6302, 1, pvR (tagT (zB8 d a).1.runs)), (6303, 1, pvI ((zB8 d a).1.snaps)), (100000, 2, pvRd (cv, zAH bs (zAH bs q 7) d.snaps.length))]) from zAI ⟨rfl, rfl, rfl, rfl, trivial⟩ ⟨rfl, rfl, trivial⟩ ⟨rfl, rfl, rfl, rfl, trivial⟩ rfl).trans ((zBi 6301 1 rfl rfl (by decide)).trans ((zBi 6302 2 rfl rfl (by decide)).trans ((zBi 6303 3 rfl rfl (by decide)).trans (zAI ⟨rfl, rfl, rfl, (zAJ (by omega)), trivial⟩ ⟨rfl, rfl, trivial⟩ ⟨(congrArg (fun x => some (4, x)) (by rfl)), (congrArg (fun x => some (1, x)) (by rfl)), (congrArg (fun x => some (1, x)) (by rfl)), rfl, trivial⟩ rfl))))
       ·
        replace h10 := of_decide_eq_false h10
        refine zAL ?_
        refine zAA rfl (.m rfl rfl (.r rfl (zAs rfl rfl rfl (by omega)) (.a rfl rfl .nil))) ?_
-- round row 100000: pvRd (cv, (zAH bs (zAH bs q 7) d.snaps.length)) now pvRd (cv, zAH bs (zAH bs q 7) d.snaps.length)
        refine nxt (Q := fun _ _ => False) (z := (i, d, q)) (i - 1, d, zAH bs (zAH bs q 7) d.snaps.length) ?_ ?_ ?_
        ·
         show (i - 1) ≤ 9 ∧ EB d ∧ (zAH bs (zAH bs q 7) d.snaps.length) ≤ bs.length ∧ zCi bs (i - 1) (d, (zAH bs (zAH bs q 7) d.snaps.length)) = zCx bs p
         exact ⟨by omega, hD, zAY (zAY hp), zCF (by omega) (st_3 (by omega) ha (decide_eq_false h10)) hE⟩
        ·
         show (i - 1) < i
         omega
        · exact zAI ⟨rfl, rfl, rfl, (zAJ (by omega)), trivial⟩ ⟨rfl, rfl, trivial⟩ ⟨(congrArg (fun x => some (4, x)) (by rfl)), (congrArg (fun x => some (1, x)) (by rfl)), (congrArg (fun x => some (1, x)) (by rfl)), rfl, trivial⟩ rfl
      ·
       replace h9 := of_decide_eq_false h9
       refine zAL ?_
       refine zAB (zAA rfl (.m rfl rfl (.r rfl (zAX (zA9 rfl rfl rfl) (zAM (decide_eq_true (by simp)))) .nil)) ?_)
       refine zAb (t := true) rfl (fun _ => ?_) (fun h => nomatch h)
       refine zAA rfl (.r rfl (zAG rfl rfl rfl isAgg28 sizeOf28 (nle rfl)) (.r rfl (zAE rfl rfl rfl rfl rfl sizeOf28 rfl (nle rfl)) .nil)) ?_
       refine zAA rfl (.m rfl rfl (.r rfl (zAs rfl rfl rfl (by omega)) (.a rfl rfl .nil))) ?_
-- round row 100000: pvRd (cv, (zAH bs q 7)) now pvRd (cv, zAH bs q 7)
       refine nxt (Q := fun _ _ => False) (z := (i, d, q)) (i - 1, d, zAH bs q 7) ?_ ?_ ?_
       ·
        show (i - 1) ≤ 9 ∧ EB d ∧ (zAH bs q 7) ≤ bs.length ∧ zCi bs (i - 1) (d, (zAH bs q 7)) = zCx bs p
        exact ⟨by omega, hD, zAY hp, zCF (by omega) (st_3n (by omega) (by omega)) hE⟩
       ·
        show (i - 1) < i
        omega
       · exact zAI ⟨rfl, rfl, rfl, (zAJ (by omega)), trivial⟩ ⟨rfl, rfl, trivial⟩ ⟨(congrArg (fun x => some (4, x)) (by rfl)), (congrArg (fun x => some (1, x)) (by rfl)), (congrArg (fun x => some (1, x)) (by rfl)), rfl, trivial⟩ rfl
     ·
      replace h8 := of_decide_eq_false h8
      refine zAV (s' := mk [(0, .ea 100000 0 0), (2, .ptr 2 0), (3, .ptr 3 0), (4, .vi (i:Int)), (5, .ptr 5 0)] [(2, [.vi 0, .nils, .nils, .nils]), (3, [.vi d.seq, .sl 1 0 ((pvE d.mem).length), .sl 2 0 ((pvR (tagT d.runs)).length), .sl 3 0 ((pvI d.snaps).length)]), (5, [.vi d.seq, .sl 1 0 ((pvE d.mem).length), .sl 2 0 ((pvR (tagT d.runs)).length), .sl 3 0 ((pvI d.snaps).length)])] [(1, 4, pvE d.mem), (2, 1, pvR (tagT d.runs)), (3, 1, pvI d.snaps), (100000, 2, pvRd (cv, zAH bs q 7))]) ?_ ?_
      · exact zAI ⟨rfl, rfl, rfl, rfl, rfl, trivial⟩ ⟨rfl, rfl, rfl, trivial⟩ ⟨rfl, rfl, rfl, rfl, trivial⟩ rfl
      refine zAZ zBD rfl (.r rfl (zAG rfl rfl rfl isAgg28 sizeOf28 (nle rfl)) (.m rfl rfl (.run [100000, 2000] [] rfl (zAx (.inr rfl) rfl 2000 (X := [100000]) en45 rfl (.val nod) (.cons (.rptr rfl) .nil) (by decide) (all_cons rfl all_nil) (.keep (xs := pvRd (cv, zAH bs q 7)) rfl (FlatP.nf (zAc _)) .nil) (ops_con hc hl (zAH bs q 7) (zAY hp)) rfl rfl (nle rfl)) (.run [1, 2, 3, 2000, 2100, 2101, 2102, 2103, 2104] [] rfl (zAK rfl 2100 (X := []) en55 rfl (.val nod) (.cons (.agg (.cons (.bor .v) (.cons (.bor (.all (len := (pvE d.mem).length) (xs := pvE d.mem) rfl rfl (by decide))) (.cons (.bor (.all (len := (pvR (tagT d.runs)).length) (xs := pvR (tagT d.runs)) rfl rfl (by decide))) (.cons (.bor (.all (len := (pvI d.snaps).length) (xs := pvI d.snaps) rfl rfl (by decide))) .nil))))) (.cons (.one (.bor (.all (len := (pvO (opsV bs (zAH bs q 7))).length) (xs := pvO (opsV bs (zAH bs q 7))) rfl rfl (by decide)))) .nil)) (by decide) all_nil .nil (zMB d hD (opsV bs (zAH bs q 7)) (by have := zGD bs (zAH bs q 7); omega)) rfl rfl (nle rfl)) (.m rfl rfl (.r rfl (zAm rfl rfl rfl) (.r rfl (zAm rfl rfl rfl) (.r rfl (zAE rfl rfl rfl rfl rfl sizeOf28 rfl (nle rfl)) (.a rfl rfl .nil))))))))) (by kernel_rfl) ?_
      refine zAB (zAA rfl (.m rfl rfl (.r rfl (zA9 rfl rfl rfl) .nil)) ?_)
      refine zAb (t := decide (((zBc d (opsV bs (zAH bs q 7))).2) = 0)) rfl (fun h11 => ?_) (fun h11 => ?_)
      ·
       replace h11 := of_decide_eq_true h11
       refine zAA rfl (.r rfl (zAG rfl rfl rfl isAgg28 sizeOf28 (nle rfl)) (.r rfl (zAE rfl rfl rfl rfl rfl sizeOf28 rfl (nle rfl)) .nil)) ?_
       refine zAA rfl (.m rfl rfl (.r rfl (zAs rfl rfl rfl (by omega)) (.a rfl rfl .nil))) ?_
-- round row 100000: pvRd (cv, (opsP bs (zAH bs q 7))) now pvRd (cv, opsP bs (zAH bs q 7))
       refine nxt (Q := fun _ _ => False) (z := (i, d, q)) (i - 1, (zBc d (opsV bs (zAH bs q 7))).1, opsP bs (zAH bs q 7)) ?_ ?_ ?_
       ·
        show (i - 1) ≤ 9 ∧ EB ((zBc d (opsV bs (zAH bs q 7))).1) ∧ (opsP bs (zAH bs q 7)) ≤ bs.length ∧ zCi bs (i - 1) (((zBc d (opsV bs (zAH bs q 7))).1), (opsP bs (zAH bs q 7))) = zCx bs p
        exact ⟨by omega, zK3 hD (by have := zGD bs (zAH bs q 7); omega), zNT (zAY hp), zCF (by omega) (st_4 (by omega) (by omega) (by omega) (by omega) (decide_eq_true h11)) hE⟩
       ·
        show (i - 1) < i
        omega
       · exact (show Wk _ _ (mk [(0, .ea 100000 0 0), (2, .ptr 2 0), (3, .ptr 3 0), (4, .vi ((i:Int) - 1))] [(2, [.vi 0, .nils, .nils, .nils]), (3, [.vi ((zBc d (opsV bs (zAH bs q 7))).1.seq), .sl 2101 0 ((pvE ((zBc d (opsV bs (zAH bs q 7))).1.mem)).length), .sl 2102 0 ((pvR (tagT (zBc d (opsV bs (zAH bs q 7))).1.runs)).length), .sl 2103 0 ((pvI ((zBc d (opsV bs (zAH bs q 7))).1.snaps)).length)])] [(2101, 4, pvE ((zBc d (opsV bs (zAH bs q 7))).1.mem)), (2102, 1, pvR (tagT (zBc d (opsV bs (zAH bs q 7))).1.runs)), (2103, 1, pvI ((zBc d (opsV bs (zAH bs q 7))).1.snaps)), (100000, 2, pvRd (cv, opsP bs (zAH bs q 7)))]) from zAI ⟨rfl, rfl, rfl, rfl, trivial⟩ ⟨rfl, rfl, trivial⟩ ⟨rfl, rfl, rfl, rfl, trivial⟩ rfl).trans ((zBi 2101 1 rfl rfl (by decide)).trans ((zBi 2102 2 rfl rfl (by decide)).trans ((zBi 2103 3 rfl rfl (by decide)).trans (zAI ⟨rfl, rfl, rfl, (zAJ (by omega)), trivial⟩ ⟨rfl, rfl, trivial⟩ ⟨(congrArg (fun x => some (4, x)) (by rfl)), (congrArg (fun x => some (1, x)) (by rfl)), (congrArg (fun x => some (1, x)) (by rfl)), rfl, trivial⟩ rfl))))
      ·
       replace h11 := of_decide_eq_false h11
       refine zAL ?_
       refine zAA rfl (.m rfl rfl (.r rfl (zAs rfl rfl rfl (by omega)) (.a rfl rfl .nil))) ?_
-- round row 100000: pvRd (cv, (opsP bs (zAH bs q 7))) now pvRd (cv, opsP bs (zAH bs q 7))
       refine nxt (Q := fun _ _ => False) (z := (i, d, q)) (i - 1, d, opsP bs (zAH bs q 7)) ?_ ?_ ?_
       ·
        show (i - 1) ≤ 9 ∧ EB d ∧ (opsP bs (zAH bs q 7)) ≤ bs.length ∧ zCi bs (i - 1) (d, (opsP bs (zAH bs q 7))) = zCx bs p
        exact ⟨by omega, hD, zNT (zAY hp), zCF (by omega) (st_4 (by omega) (by omega) (by omega) (by omega) (decide_eq_false h11)) hE⟩
       ·
        show (i - 1) < i
        omega
       · exact zAI ⟨rfl, rfl, rfl, (zAJ (by omega)), trivial⟩ ⟨rfl, rfl, trivial⟩ ⟨(congrArg (fun x => some (4, x)) (by rfl)), (congrArg (fun x => some (1, x)) (by rfl)), (congrArg (fun x => some (1, x)) (by rfl)), rfl, trivial⟩ rfl
 ·
  replace h1 := of_decide_eq_false h1
  refine zAu ?_
  refine zDl (σ := List Ent × Nat) (fun (m, q2) => mk [(0, .ea 100000 0 0), (2, .ptr 2 0), (3, .ptr 3 0)] [(2, [.vi 0, .nils, .nils, .nils]), (3, [.vi d.seq, .sl 1 0 ((pvE m).length), .sl 2 0 ((pvR (tagT d.runs)).length), .sl 3 0 ((pvI d.snaps).length)])] [(1, 4, pvE m), (2, 1, pvR (tagT d.runs)), (3, 1, pvI d.snaps), (100000, 2, pvRd (cv, q2))]) (fun (m, q2) => q2 ≤ bs.length ∧ zIq bs (d, q) = (⟨d.seq, m, d.runs, d.snaps⟩, q2) ∧ zCx bs p = (d, q)) ?_ ?_
  ·
   refine zAB ?_
   have hi0 : i = 0 := (by omega)
   rw [hi0] at hE
   have hEm : zCx bs p = (d, q) := hE.symm
   have hmm := hD.mem
   have hl1 := zAF d.mem
   refine zAA rfl (.m rfl rfl (.run [100000, 7000] [] rfl (zAx (.inr rfl) rfl 7000 (X := [100000]) en56 rfl (.val nod) (.cons (.rptr rfl) (.cons (.one (.bor .v)) .nil)) (by decide) (all_cons rfl all_nil) (.keep (xs := pvRd (cv, q)) rfl (FlatP.nf (zAc _)) .nil) (zEX hc hl q hp 20 (by omega)) rfl rfl (nle rfl)) .nil)) ?_
   refine zAb (t := zCe bs q 20) rfl (fun h12 => ?_) (fun h12 => ?_)
   ·
    refine zAZ zBD rfl (.r rfl (zAC rfl rfl underlying28 rfl sizeOf24 (by decide)) (.r rfl (zAD rfl rfl rfl isAgg24 rfl) (.m rfl rfl (.run [100000, 7400, 7401, 7402, 7403] [] rfl (zAx (.inr rfl) rfl 7400 (X := [100000]) en57 rfl (.val nod) (.cons (.rptr rfl) .nil) (by decide) (all_cons rfl all_nil) (.keep (xs := pvRd (cv, zAH bs q 20)) rfl (FlatP.nf (zAc _)) .nil) (zNu hc hl (zAH bs q 20) (zAY hp)) rfl rfl (nle rfl)) (.run [7500] [] rfl (zAQ rfl 7500 underlying24 zBb (nle rfl) (by decide) rfl rfl rfl (.cons .v (.cons .v (.cons .v (.cons .v .nil)))) (by decide) rfl (by decide) rfl (by decide) rfl) (.run [1] [] rfl (zAq rfl 1 (ib := 1) (len := ((pvE d.mem) ++ [[PV.v (.string ((zCE bs (zAH bs q 20)).user)), PV.v (.int .i64 ((zCE bs (zAH bs q 20)).seq)), PV.v (.int .i64 ((zCE bs (zAH bs q 20)).kind)), PV.v (.string ((zCE bs (zAH bs q 20)).value))]]).length) rfl rfl (.row (len := (pvE d.mem).length) (xs := pvE d.mem) rfl rfl (.inl rfl)) (.give (len := 1) (xs := [[PV.v (.string ((zCE bs (zAH bs q 20)).user)), PV.v (.int .i64 ((zCE bs (zAH bs q 20)).seq)), PV.v (.int .i64 ((zCE bs (zAH bs q 20)).kind)), PV.v (.string ((zCE bs (zAH bs q 20)).value))]]) rfl rfl) underlying24 (sk underlying24 rfl) zBb rfl (by decide) (by decide) (by decide) List.length_append (by simp only [maxLen, List.length_append, List.length_cons, List.length_nil, zAF]; omega) (by simp only [maxLen, List.length_append, List.length_cons, List.length_nil, zAF]; omega)) (.r rfl (zAC rfl rfl underlying28 rfl sizeOf24 (by decide)) (.r rfl (zAE rfl rfl rfl rfl rfl sizeOf24 rfl (nle rfl)) .nil)))))))) (by kernel_rfl) ?_
    refine ⟨(d.mem ++ [zCE bs (zAH bs q 20)], zDI bs (zAH bs q 20)), ?_, ?_⟩
    ·
     show (zDI bs (zAH bs q 20)) ≤ bs.length ∧ zIq bs (d, q) = (⟨d.seq, (d.mem ++ [zCE bs (zAH bs q 20)]), d.runs, d.snaps⟩, (zDI bs (zAH bs q 20))) ∧ zCx bs p = (d, q)
     exact ⟨zNv (zAY hp), if_pos h12, hEm⟩
    · exact zAI ⟨rfl, rfl, rfl, trivial⟩ ⟨rfl, (by rw [← zEV] <;> rfl), trivial⟩ ⟨(congrArg (fun x => some (4, x)) (by exact zEV _ _)), rfl, rfl, rfl, trivial⟩ rfl
   ·
    refine zAL ?_
    refine ⟨(d.mem, zAH bs q 20), ?_, ?_⟩
    ·
     show (zAH bs q 20) ≤ bs.length ∧ zIq bs (d, q) = (⟨d.seq, d.mem, d.runs, d.snaps⟩, (zAH bs q 20)) ∧ zCx bs p = (d, q)
     exact ⟨zAY hp, if_neg (by simp [h12]), hEm⟩
    · exact zAI ⟨rfl, rfl, rfl, trivial⟩ ⟨rfl, rfl, trivial⟩ ⟨(congrArg (fun x => some (4, x)) (by rfl)), rfl, rfl, rfl, trivial⟩ rfl
  ·
   rintro ⟨m, q2⟩ hG
   replace hG : q2 ≤ bs.length ∧ zIq bs (d, q) = (⟨d.seq, m, d.runs, d.snaps⟩, q2) ∧ zCx bs p = (d, q) := hG
   obtain ⟨hp2, hA, hEm⟩ := hG
   refine zDl (σ := Int × Nat) (fun (s, q3) => mk [(2, .ptr 2 0), (3, .ptr 3 0)] [(2, [.vi 0, .nils, .nils, .nils]), (3, [.vi s, .sl 1 0 ((pvE m).length), .sl 2 0 ((pvR (tagT d.runs)).length), .sl 3 0 ((pvI d.snaps).length)])] [(1, 4, pvE m), (2, 1, pvR (tagT d.runs)), (3, 1, pvI d.snaps), (100000, 2, pvRd (cv, q3))]) (fun (s, q3) => q3 ≤ bs.length ∧ zJk bs (⟨d.seq, m, d.runs, d.snaps⟩, q2) = (⟨s, m, d.runs, d.snaps⟩, q3)) ?_ ?_
   ·
    refine zAB ?_
    have hp := hp2
    refine zAA rfl (.m rfl rfl (.run [100000, 7900] [] rfl (zAx (.inr rfl) rfl 7900 (X := [100000]) en56 rfl (.val nod) (.cons (.rptr rfl) (.cons (.one (.bor .v)) .nil)) (by decide) (all_cons rfl all_nil) (.keep (xs := pvRd (cv, q2)) rfl (FlatP.nf (zAc _)) .nil) (zEX hc hl q2 hp 24 (by omega)) rfl rfl (nle rfl)) .nil)) ?_
    refine zAb (t := zCe bs q2 24) rfl (fun h13 => ?_) (fun h13 => ?_)
    ·
     refine zAA rfl (.m rfl rfl (.run [100000, 8100] [] rfl (zAx (.inr rfl) rfl 8100 (X := [100000]) en58 rfl (.val nod) (.cons (.rptr rfl) (.cons (.one (.bor .v)) (.cons (.one (.bor .v)) .nil))) (by decide) (all_cons rfl all_nil) (.keep (xs := pvRd (cv, zAH bs q2 24)) rfl (FlatP.nf (zAc _)) .nil) (zIT hc hl (zAH bs q2 24) (zAY hp) 0 12 (by omega) (by omega)) rfl rfl (nle rfl)) (.r rfl (zAC rfl rfl underlying28 rfl sizeOf2 (by decide)) (.r rfl (zAE rfl rfl rfl rfl rfl sizeOf2 rfl (nle rfl)) .nil)))) ?_
     refine ⟨(offV bs (zAH bs q2 24) 0 12, offP bs (zAH bs q2 24) 0 12), ?_, ?_⟩
     ·
      show (offP bs (zAH bs q2 24) 0 12) ≤ bs.length ∧ zJk bs (⟨d.seq, m, d.runs, d.snaps⟩, q2) = (⟨(offV bs (zAH bs q2 24) 0 12), m, d.runs, d.snaps⟩, (offP bs (zAH bs q2 24) 0 12))
      exact ⟨zFi (zAY hp2), if_pos h13⟩
     · exact zAI ⟨rfl, rfl, trivial⟩ ⟨rfl, rfl, trivial⟩ ⟨rfl, rfl, rfl, rfl, trivial⟩ rfl
    ·
     refine zAL ?_
     refine ⟨(d.seq, zAH bs q2 24), ?_, ?_⟩
     ·
      show (zAH bs q2 24) ≤ bs.length ∧ zJk bs (⟨d.seq, m, d.runs, d.snaps⟩, q2) = (⟨d.seq, m, d.runs, d.snaps⟩, (zAH bs q2 24))
      exact ⟨zAY hp2, if_neg (by simp [h13])⟩
     · exact zAI ⟨rfl, rfl, trivial⟩ ⟨rfl, rfl, trivial⟩ ⟨rfl, rfl, rfl, rfl, trivial⟩ rfl
   ·
    rintro ⟨s, q3⟩ hG
    replace hG : q3 ≤ bs.length ∧ zJk bs (⟨d.seq, m, d.runs, d.snaps⟩, q2) = (⟨s, m, d.runs, d.snaps⟩, q3) := hG
    obtain ⟨hp3, hO⟩ := hG
    refine zAB ?_
    have hv : dbV bs p = ⟨s, m, d.runs, d.snaps⟩ := by rw [dbV, hEm, hA, hO]
    have hpp : dbP bs p = q3 := by rw [dbP, hEm, hA, hO]
    rw [hv, hpp]
    refine zAA rfl (.r rfl (zAG rfl rfl rfl isAgg28 sizeOf28 (nle rfl)) (.r rfl (zAE rfl rfl rfl rfl rfl sizeOf28 rfl (nle rfl)) .nil)) ?_
    refine zAO ?_
    exact ends [_] [1, 2, 3] (.cons (.cell rfl rfl isAgg28 sizeOf28 (nle rfl)) .nil) (.cons (.agg (.cons .v (.cons (.row (len := (pvE m).length) (xs := pvE m) rfl rfl) (.cons (.row (len := (pvR (tagT d.runs)).length) (xs := pvR (tagT d.runs)) rfl rfl) (.cons (.row (len := (pvI d.snaps).length) (xs := pvI d.snaps) rfl rfl) .nil)))) (zAN (.v _) (zAN (.sl _ _ (FlatP.clean (zAg _))) (zAN (zAv _) (zAN (.sl _ _ (FlatP.clean (zA7 _))) zBQ))))) .nil) (by decide) (zB1 (congrArg (fun x => some (2, x)) (congrArg pvRd (congrArg (Prod.mk cv) rfl))) (zAc _) (by decide))
end Go.Rl
namespace Go.Rl
open Go.Proofs
theorem en19 : ∀ vs w, (callFunc 19 vs).run Tryz.prog w = .ok (.enter 19 vs) w := zAn Tryz.func19 (by decide) rfl
theorem en20 : ∀ vs w, (callFunc 20 vs).run Tryz.prog w = .ok (.enter 20 vs) w := zAn Tryz.func20 (by decide) rfl
end Go.Rl
namespace Go.Rl
structure EL (d : Eng) : Prop where
 eb : EB d
 mem : d.mem.length ≤ 1000
theorem el_nil : EL Eng.nil := ⟨zG1, Nat.zero_le _⟩
theorem zPS {d : Eng} (h : EL d) : EL (zBj d).1 := ⟨zLw h.eb, by
 unfold zBj
 split
 ·
  split
  · exact h.mem
  ·
   split
   · exact h.mem
   · exact Nat.zero_le _
 · exact Nat.zero_le _⟩
theorem snap_el {d : Eng} (h : EL d) : EL (zB9 d).1 := ⟨zNB h.eb, by
 unfold zB9
 split
 ·
  split
  · exact h.mem
  ·
   split
   · exact h.mem
   · exact h.mem
 · exact Nat.zero_le _⟩
theorem free_el {d : Eng} {a : Int} (h : EL d) : EL (zB8 d a).1 := ⟨zNo h.eb, by
 unfold zB8
 split
 · exact h.mem
 · exact Nat.zero_le _⟩
theorem zMo {d : Eng} (h : EL d) : EL (zA8 d).1 := ⟨zHu h.eb, by
 unfold zA8
 split
 ·
  split
  · exact h.mem
  · exact h.mem
 · exact Nat.zero_le _⟩
theorem zOU {d : Eng} {ops : List Bop} (h : EL d) (hn : ops.length ≤ 100) : EL (zBc d ops).1 := ⟨zK3 h.eb hn, by
 by_cases ho : okE d = true
 ·
  have s := zCP ho
  unfold zBc
  rw [if_pos ho]
  split
  · exact h.mem
  ·
   split
   · exact h.mem
   ·
    have := zDP (zBg (d.seq + 1) ops) d.mem
    have := s.mem
    have := zC5 (d.seq + 1) ops
    show (zBl d.mem (zBg (d.seq + 1) ops)).length ≤ 1000
    omega
 · unfold zBc; rw [if_neg ho]; exact Nat.zero_le _⟩
theorem zNz {bs : List Nat} {x : Eng × Nat} (h : EL x.1) : EL (zCh bs x).1 := by
 unfold zCh
 split
 ·
  show EL (if _ then _ else _)
  split
  · exact zPS h
  · exact h
 ·
  split
  ·
   show EL (if _ then _ else _)
   split
   · exact snap_el h
   · exact h
  ·
   split
   ·
    show EL (if _ then _ else _)
    split
    · exact zMo h
    · exact h
   ·
    split
    ·
     split
     ·
      show EL (if _ then _ else _)
      split
      · exact free_el h
      · exact h
     · exact h
    ·
     show EL (if _ then _ else _)
     split
     · exact zOU h (by have := zGD bs (zAH bs x.2 7); omega)
     · exact h
theorem zJm {bs : List Nat} : ∀ (i : Nat) (x : Eng × Nat), EL x.1 → EL (zCi bs i x).1
 | 0, _, h => h
 | i + 1, x, h => zJm i _ (zNz h)
theorem dbV_eb (bs : List Nat) (p : Nat) : EB (dbV bs p) := by
 have h : EL (zCx bs p).1 := zJm _ (Eng.nil, zAH bs p 9) el_nil
 have hm := h.mem
 have he := h.eb
 have h1 : EB (zIq bs (zCx bs p)).1 := by
  unfold zIq
  split
  · exact ⟨by show ((zCx bs p).1.mem ++ [_]).length ≤ 2000000; simp only [List.length_append, List.length_cons, List.length_nil]; omega, he.runs, he.each, he.snaps⟩
  · exact he
 unfold dbV zJk
 split
 · exact ⟨h1.mem, h1.runs, h1.each, h1.snaps⟩
 · exact h1
end Go.Rl
namespace Go.Rl
def zFW (d : Eng) (a : Int) : Bool := decide (a = -1) || atI d.snaps a
def askSeq (d : Eng) (a : Int) : Int := if a = -1 then d.seq else if atI d.snaps a = true then a else 0
def getE (l : List Ent) (u : ByteArray) (p : Int) : Int × ByteArray := if zIe (zDG l u p) = 1 then (1, zGx (zDG l u p)) else (0, ⟨#[]⟩)
noncomputable def getS (d : Eng) (u : ByteArray) (a : Int) : Int × ByteArray := if okE d = true then (if zFW d a = true then getE (zAy (d.mem :: d.runs)) u (askSeq d a) else (3, ⟨#[]⟩)) else (3, ⟨#[]⟩)
variable {d : Eng} {u : ByteArray} {a : Int}
end Go.Rl
namespace Go.Rl
open Go.Proofs
end Go.Rl
namespace Go.Rl
def zCV (l : List Ent) : Int := l.foldl (fun a e => max a e.seq) (-1)
theorem zKt {l : List Ent} {i : Nat} {e : Ent} (h : l[i]? = some e) : zCV (l.take (i + 1)) = max (zCV (l.take i)) e.seq := by
 unfold zCV
 rw [List.take_add_one, h]
 simp [List.foldl_append]
theorem zMh {l : List Ent} {z : Int} : ∀ {a : Int}, l.foldl (fun a e => max a e.seq) a ≤ z ↔ a ≤ z ∧ ∀ e ∈ l, e.seq ≤ z := by
 induction l with
 | nil => intro a; simp
 | cons x l ih =>
  intro a
  rw [List.foldl_cons, ih]
  constructor
  ·
   rintro ⟨h1, h2⟩
   refine ⟨by omega, fun e he => ?_⟩
   rcases List.mem_cons.1 he with rfl | he
   · omega
   · exact h2 e he
  ·
   rintro ⟨h1, h2⟩
   have := h2 x (by simp)
   exact ⟨by omega, fun e he => h2 e (by simp [he])⟩
theorem zOF {l : List Ent} {z : Int} : zCV l ≤ z ↔ -1 ≤ z ∧ ∀ e ∈ l, e.seq ≤ z := zMh
theorem zJz {l : List Ent} {z : Int} (hz : 0 ≤ z) : zCV l < z ↔ ∀ e ∈ l, e.seq < z := by
 have h := zOF (l := l) (z := z - 1)
 constructor
 ·
  intro h1 e he
  have := (h.1 (by omega)).2 e he
  omega
 ·
  intro h1
  have := h.2 ⟨by omega, fun e he => by have := h1 e he; omega⟩
  omega
def zD7 (l : List Ent) : List Int := l.map (·.seq)
theorem zKH {l : List Ent} {i : Nat} {e : Ent} (h : l[i]? = some e) : zD7 (l.take i) ++ [e.seq] = zD7 (l.take (i + 1)) := by
 rw [List.take_add_one, h]; simp [zD7]
theorem zMJ (l : List Ent) : (zD7 l).length = l.length := by simp [zD7]
theorem not_met {l : List Ent} {i : Nat} {x : Ent} (h : ¬ x.seq ∈ zD7 (l.take i)) : zF3 l x i := fun k y hk hy q => h (by
 rw [← q]
 exact List.mem_map.2 ⟨y, List.mem_of_getElem? (i := k) (by rw [List.getElem?_take_of_lt hk]; exact hy), rfl⟩)
theorem is_met {l : List Ent} {i : Nat} {x : Ent} (h : x.seq ∈ zD7 (l.take i)) : ∃ (k : Nat) (y : Ent), k < i ∧ l[k]? = some y ∧ y.seq = x.seq := by
 obtain ⟨y, hy, q⟩ := List.mem_map.1 h
 obtain ⟨k, hk⟩ := List.getElem?_of_mem hy
 rw [List.getElem?_take] at hk
 split at hk
 · exact ⟨k, y, ‹_›, hk, q⟩
 · cases hk
def zDy (b : Int) (x : Ent) : Bool := decide (x.seq ≤ b)
structure IOk (sq : Int) (mem : List Ent) (rs : RunL) (sn : List Int) : Prop where
 few : (mem ++ ents rs).length ≤ 400
 seqs : Seqs sq (mem ++ ents rs) (mem ++ ents rs).length
 mem : idxF (zDy (zCV (ents rs))) mem < 0
 last : ∀ z, sn[sn.length - 1]? = some z → z ≤ sq
noncomputable instance decIOk (sq : Int) (mem : List Ent) (rs : RunL) (sn : List Int) : Decidable (IOk sq mem rs sn) := Classical.propDecidable _
noncomputable def okB (sq : Int) (mem : List Ent) (rs : RunL) (sn : List Int) : Bool := zBf sq mem rs sn && decide (IOk sq mem rs sn)
variable {sq : Int} {mem : List Ent} {rs : RunL} {sn : List Int}
theorem zGE (h : zBf sq mem rs sn = false) : false = okB sq mem rs sn := by unfold okB; rw [h]; rfl
theorem zJO (h : ¬ IOk sq mem rs sn) : false = okB sq mem rs sn := by unfold okB; rw [decide_eq_false h, Bool.and_false]
theorem zKU (hb : zBf sq mem rs sn = true) (h : IOk sq mem rs sn) : true = okB sq mem rs sn := by unfold okB; rw [decide_eq_true h, hb]; rfl
theorem zD0 (h : okB sq mem rs sn = true) : zBf sq mem rs sn = true ∧ IOk sq mem rs sn := by
 unfold okB at h
 rw [Bool.and_eq_true] at h
 exact ⟨h.1, of_decide_eq_true h.2⟩
theorem zO7 (hb : zBf sq mem rs sn = true) (h1 : (mem ++ ents rs).length ≤ 400) (h2 : Seqs sq (mem ++ ents rs) (mem ++ ents rs).length) (h3 : ¬ 0 ≤ idxF (zDy (zCV (ents rs))) mem) {x : Int} (hx : sn[sn.length - 1]? = some x) : decide (x ≤ sq) = okB sq mem rs sn := by
 by_cases h : x ≤ sq
 ·
  rw [decide_eq_true h]
  exact zKU hb ⟨h1, h2, by omega, fun z hz => by rw [hx] at hz; cases hz; exact h⟩
 ·
  rw [decide_eq_false h]
  exact zJO (fun q => h (q.last x hx))
theorem zO6 (hb : zBf sq mem rs sn = true) (h1 : (mem ++ ents rs).length ≤ 400) (h2 : Seqs sq (mem ++ ents rs) (mem ++ ents rs).length) (h3 : ¬ 0 ≤ idxF (zDy (zCV (ents rs))) mem) (hx : sn.length = 0) : true = okB sq mem rs sn :=
 zKU hb ⟨h1, h2, by omega, fun z hz => by
  have := (List.getElem?_eq_some_iff.1 hz).1
  omega⟩
theorem ok_met {i : Nat} {x : Ent} (hx : (mem ++ ents rs)[i]? = some x) (h : x.seq ∈ zD7 ((mem ++ ents rs).take i)) : ¬ IOk sq mem rs sn := fun q => by
 obtain ⟨k, y, hk, hy, e⟩ := is_met h
 exact (q.seqs i x (List.getElem?_eq_some_iff.1 hx).1 hx).2 k y hk hy e
theorem ok_big {i : Nat} {x : Ent} (hx : (mem ++ ents rs)[i]? = some x) (h : sq < x.seq) : ¬ IOk sq mem rs sn := fun q => by
 have := (q.seqs i x (List.getElem?_eq_some_iff.1 hx).1 hx).1
 omega
theorem zEc (h : zBf sq mem rs sn = true) {e : Ent} (he : e ∈ mem ++ ents rs) : zBh e = true := by
 simp only [zBf, Bool.and_eq_true] at h
 obtain ⟨_, h2, h3, _⟩ := h
 rcases List.mem_append.1 he with h4 | h4
 · exact zIm h2 h4
 ·
  simp only [ents, zBp, List.mem_flatten, rows, List.mem_map] at h4
  obtain ⟨l, ⟨r, hr, rfl⟩, hl⟩ := h4
  simp only [zBG, Bool.and_eq_true, decide_eq_true_eq] at h3
  have h5 := zEH.1 h3.2.1 r hr
  exact zIm (by simpa using h5) hl
theorem zIn {e : Ent} (h : zBh e = true) : 0 ≤ e.seq ∧ e.seq ≤ 1000000000000 := by
 have := zFM h
 simp only [zCg, zA1, Bool.and_eq_true, decide_eq_true_eq] at this
 exact this.1.2
theorem seq_wf {x : Int} (h : 0 ≤ x ∧ x ≤ 1000000000000) : (Lit.int .i64 x).wf = true := by
 have h1 : IntKind.min .i64 = -9223372036854775808 := by decide
 have h2 : IntKind.max .i64 = 9223372036854775807 := by decide
 simp only [Lit.wf, h1, h2, Bool.and_eq_true, decide_eq_true_eq]
 omega
end Go.Rl
namespace Go.Rl
open Go.RowKit
section
variable {γ : Gho} {P : Program} {n : Nat} {k e : TypeId}
def Knows (D : DataW Unit) (ks : List Int) : Prop := (∃ es, D = .map es) ∧ ∀ x : Int, D.atKey (.int .i64 x) (.lit (.bool false)) = .lit (.bool (decide (x ∈ ks)))
def MapAt (P : Program) (k e : TypeId) (w : World) (b : Nat) (ks : List Int) : Prop := ∃ m D, w.ownsMap P k (plainElem P e) b m D ∧ m ≤ ks.length ∧ Knows D ks
theorem MapAt.obj {w : World} {b : Nat} {ks : List Int} (h : MapAt P k e w b ks) : ∃ es clock, w.heap[b]? = some (.map es clock) ∧ ∀ w' : World, w'.heap[b]? = some (.map es clock) → MapAt P k e w' b ks := by
 obtain ⟨m, D, ⟨es, clock, hb, F, hs, hD⟩, hm, hk⟩ := h
 exact ⟨es, clock, hb, fun w' hw => ⟨m, D, ⟨es, clock, hw, F, hs, hD⟩, hm, hk⟩⟩
theorem MapAt.made (w : World) : MapAt P k e (w.alloc (.map #[] 0)) w.heap.size [] :=
 ⟨0, .map [], World.ownsMap_made w P k _, Nat.le_refl _, ⟨[], rfl⟩, fun x => by simp [DataW.atKey]⟩
theorem MapAt.look {w : World} {b : Nat} {ks : List Int} (h : MapAt P k e w b ks) (hk : P.underlying k = some (.int .i64)) (he : P.underlying e = some .bool) {t : TypeId} (ht : P.underlying t = some (.map k e)) (hz : (zeroValue e).run P w = .ok (.bool false) w) {x : Int} (hx : (Lit.int .i64 x).wf = true) :
  (Instr.lookup t (.map (some b)) (.int .i64 x) false).run P w = .ok (.bool (decide (x ∈ ks))) w := by
 obtain ⟨m, D, h, _, _, hK⟩ := h
 obtain ⟨v, ps, hrun, hv⟩ := h.lookup (Maps.int_keyed hk) ht hz (plainElem_bool he false) (Maps.keyOf_int_mk hk hx)
 rw [hK x] at hv
 have : v = .bool (decide (x ∈ ks)) := by
  unfold plainElem at hv
  rw [he] at hv
  cases v <;> simp at hv
  rw [hv.1]
 rw [hrun, this]
theorem MapAt.upd {w : World} {b : Nat} {ks : List Int} (h : MapAt P k e w b ks) (hk : P.underlying k = some (.int .i64)) (he : P.underlying e = some .bool) {t : TypeId} (ht : P.underlying t = some (.map k e)) {x : Int} (hx : (Lit.int .i64 x).wf = true) (hn : ks.length < maxLen) :
  ∃ w', (Instr.mapUpdate t (.map (some b)) (.int .i64 x) (.bool true)).run P w = .ok () w' ∧ MapAt P k e w' b (ks ++ [x]) ∧ w.grownBy w' (some b) ∧ ∃ o, w.heap[b]? = some o ∧ o.isCells = false := by
 obtain ⟨m, D, h, hm, hI, hK⟩ := h
 obtain ⟨w', hrun, hown, hg⟩ := h.update (Maps.int_keyed hk) ht (Nat.lt_of_le_of_lt hm hn) (Maps.keyOf_int_mk hk hx) (plainElem_bool he true)
 obtain ⟨es, clock, hb, _⟩ := h
 refine ⟨w', hrun, ⟨m + 1, _, hown, by simp; omega, ?_, fun y => ?_⟩, hg, _, hb, rfl⟩
 ·
  obtain ⟨es, rfl⟩ := hI
  exact ⟨_, rfl⟩
 ·
  by_cases hy : y = x
  ·
   subst hy
   rw [Maps.atKey_put_same hI (by simp [WideAt.IsKeyLit])]
   simp
  ·
   rw [Maps.atKey_put_other (by intro q; cases q; exact hy rfl), hK y]
   simp [hy]
def TrM (γ : Gho) (P : Program) (k e : TypeId) (n : Nat) (b : Nat) (c : Code) (s : St) (ks : List Int) (Q : Exit → St → List Int → Prop) : Prop :=
 ∀ w0 I L a w, Gh γ w0 I.I → Rel w0 I n L s a w → w0.heap.size ≤ b → (∀ x, I.Z x → x < w0.heap.size) → MapAt P k e w b ks →
  c.wp P (fun ex a' w' => ∃ s' L' ks', Q ex s' ks' ∧ Rel w0 I n L' s' a' w' ∧ MapAt P k e w' b ks') a w
variable {b : Nat} {ks : List Int} {s : St} {Q : Exit → St → List Int → Prop}
theorem zPk {c : Code} (h : ∀ o : Obj, (∀ w : World, w.heap[b]? = some o → MapAt P k e w b ks) → Tr (some (b, o)) P n c s (fun ex s' => Q ex s' ks)) : TrM γ P k e n b c s ks Q := by
 intro w0 I L a w hG hr hb hz hm
 obtain ⟨es, clock, ho, hall⟩ := hm.obj
 have hni : b ∉ (I.root L w).I := fun hx => by
  obtain ⟨l, _, c, t, z, hc⟩ := zDN hx
  rw [ho] at hc
  cases hc
 have h1 := h _ hall w (I.root L w) (L.trim w) a w (fun k' o' e' => by cases e'; exact ⟨ho, hni⟩) hr.root
 refine wp_mono h1 (fun ex a' w' ⟨s', L', hq, hr'⟩ => ⟨s', L', ks, hq, hr.unroot hr', hall w' ?_⟩)
 have hlt := (Array.getElem?_eq_some_iff.1 ho).1
 exact (hr'.same.block b hlt hni).trans ho
theorem zE4 {c : Code} {s' : St} (hw : Wk n s s') (h : TrM γ P k e n b c s' ks Q) : TrM γ P k e n b c s ks Q := fun w0 I L a w hG hr hb hz hm => by
 obtain ⟨L', h'⟩ := hw w0 I L a w hr
 exact h w0 I L' a w hG h' hb hz hm
theorem zF9 (h : Q .normal s ks) : TrM γ P k e n b .skip s ks Q := fun _ _ L _ _ _ hr _ _ hm => wp_skip ⟨s, L, ks, h, hr, hm⟩
theorem zK9 {id : Nat} (h : Q (.exit id) s ks) : TrM γ P k e n b (.exit id) s ks Q := fun _ _ L _ _ _ hr _ _ hm => wp_exit ⟨s, L, ks, h, hr, hm⟩
theorem zFZ (h : Q .ret s ks) : TrM γ P k e n b .ret s ks Q := fun _ _ L _ _ _ hr _ _ hm => wp_ret ⟨s, L, ks, h, hr, hm⟩
def thnM (next : St → List Int → Prop) (Q : Exit → St → List Int → Prop) : Exit → St → List Int → Prop
 | .normal, s, ks => next s ks
 | e, s, ks => Q e s ks
def inbM (id : Nat) (Q : Exit → St → List Int → Prop) : Exit → St → List Int → Prop
 | .exit id', s, ks => match Nat.beq id' id with
  | true => Q .normal s ks
  | false => Q (.exit id') s ks
 | e, s, ks => Q e s ks
theorem zBq {x y : Code} (h : TrM γ P k e n b x s ks (thnM (fun s' ks' => TrM γ P k e n b y s' ks' Q) Q)) : TrM γ P k e n b (.seq x y) s ks Q := fun w0 I L a w hG hr hb hz hm => by
 refine wp_seq (wp_mono (h w0 I L a w hG hr hb hz hm) (fun ex a' w' ⟨s', L', ks', h1, h2, h3⟩ => ?_))
 cases ex with
 | normal => exact h1 w0 I L' a' w' hG h2 hb hz h3
 | _ => exact ⟨s', L', ks', h1, h2, h3⟩
theorem zHO {c : Operand} {x y : Code} {d : Option Nat} {t : Bool} (hc : s.ev c = .p d (.v (.bool t))) (ht : t = true → TrM γ P k e n b x s ks Q) (hf : t = false → TrM γ P k e n b y s ks Q) : TrM γ P k e n b (.cond c x y) s ks Q := fun w0 I L a w hG hr hb hz hm =>
 wp_cond_split (hr.evv hc) (fun q => ht q w0 I L a w hG hr hb hz hm) (fun q => hf q w0 I L a w hG hr hb hz hm)
theorem zE5 {id : Nat} {c : Code} (h : TrM γ P k e n b c s ks (inbM id Q)) : TrM γ P k e n b (.block id c) s ks Q := fun w0 I L a w hG hr hb hz hm => by
 refine wp_block (wp_mono (h w0 I L a w hG hr hb hz hm) (fun ex a' w' ⟨s', L', ks', h1, h2, h3⟩ => ?_))
 cases ex with
 | exit id' =>
  simp only [Exit.inBlock]
  by_cases hi : id' = id
  ·
   subst hi
   rw [if_pos rfl]
   simp only [inbM, Nat.beq_refl] at h1
   exact ⟨s', L', ks', h1, h2, h3⟩
  ·
   rw [if_neg hi]
   have hbq : Nat.beq id' id = false := by
    cases q : Nat.beq id' id with
    | false => rfl
    | true => exact absurd (Nat.eq_of_beq_eq_true q) hi
   simp only [inbM, hbq] at h1
   exact ⟨s', L', ks', h1, h2, h3⟩
 | _ => exact ⟨s', L', ks', h1, h2, h3⟩
theorem zOd {c : Code} (Inv : Nat → St → List Int → Prop) (q : Nat) (h0 : Inv q s ks) (hr : ∀ q s ks, Inv q s ks → TrM γ P k e n b c s ks (thnM (fun s' ks' => ∃ q', q' < q ∧ Inv q' s' ks') Q)) : TrM γ P k e n b (.loop c) s ks Q := by
 intro w0 I L a w hG hrel hb hz hm bb fr cs
 have key : ∀ q s L a w ks, Inv q s ks → Rel w0 I n L s a w → MapAt P k e w b ks → ∃ ex a' w', (∃ s' L' ks', Q ex s' ks' ∧ Rel w0 I n L' s' a' w' ∧ MapAt P k e w' b ks') ∧ Arrives P (lone (bb.at a (.code c :: .inLoop c :: fr)) cs w) bb fr cs ex a' w' := by
  intro q
  induction q using Nat.strongRecOn with
  | _ q ih =>
   intro s L a w ks hI hrel hm
   obtain ⟨ex, a1, w1, ⟨s1, L1, ks1, hq, hrel1, hm1⟩, harr⟩ := hr q s ks hI w0 I L a w hG hrel hb hz hm bb (.inLoop c :: fr) cs
   cases ex with
   | normal =>
    obtain ⟨q', hlt, hI1⟩ := hq
    obtain ⟨e2, a2, w2, hq2, harr2⟩ := ih q' hlt s1 L1 a1 w1 ks1 hI1 hrel1 hm1
    exact ⟨e2, a2, w2, hq2, .of_steps (Steps.trans harr (.one step_inLoop)) harr2⟩
   | exit id => exact ⟨_, a1, w1, ⟨s1, L1, ks1, hq, hrel1, hm1⟩, .pass (x := .inLoop c) rfl (fun _ _ => .inl (by simp)) harr⟩
   | goto l => exact ⟨_, a1, w1, ⟨s1, L1, ks1, hq, hrel1, hm1⟩, .pass (x := .inLoop c) rfl (fun _ _ => .inl (by simp)) harr⟩
   | ret => exact ⟨_, a1, w1, ⟨s1, L1, ks1, hq, hrel1, hm1⟩, .pass (x := .inLoop c) rfl (fun _ _ => .inl (by simp)) harr⟩
   | panic ch => exact ⟨_, a1, w1, ⟨s1, L1, ks1, hq, hrel1, hm1⟩, .pass (x := .inLoop c) rfl (fun _ _ => .inl (by simp)) harr⟩
   | outgrown => exact ⟨_, a1, w1, ⟨s1, L1, ks1, hq, hrel1, hm1⟩, .pass (x := .inLoop c) rfl (fun _ _ => .inl (by simp)) harr⟩
 obtain ⟨ex, a', w', hq, harr⟩ := key q s L a w ks h0 hrel hm
 exact ⟨ex, a', w', hq, .of_steps (.one step_loop) harr⟩
end
end Go.Rl
namespace Go.Rl
open Go.RowKit
section
variable {γ : Gho} {P : Program} {n : Nat} {k e : TypeId} {w0 : World} {I : Fr} {Qm : Exit → Act → World → Prop} {ops : Array Oper}
theorem run_wpK (hG : Gh γ w0 I.I) (hdst : zEf n ops = true) {s' : St} {rest : List Nat} : ∀ {Fs : List Fp} {l : List Oper} {s : St} (_ : Run γ P n ops Fs l s s') (_ : ∀ L a w, Rel w0 I n L s' a w → wpOps P ops Qm rest a w) (k : Nat), (∀ j o, l[j]? = some o → ops[k + j]? = some o) → ∀ {L : Pl} {a : Act} {w : World}, Rel w0 I n L s a w → wpOps P ops Qm (List.range' k l.length ++ rest) a w := by
 intro Fs l s h
 induction h with
 | nil => intro hQ k _ L a w hr; exact hQ _ _ _ hr
 | run M B hg h _ ih =>
  rename_i o l s s' δ hrun
  intro hQ k hl L a w hr
  have h0 : ops[k]? = some o := by simpa using hl 0 o rfl
  rw [List.length_cons, List.range'_succ, List.cons_append, wpOps_cons]
  exact zGv hG h0 (zCL hdst h0) (.run M B hg h (zPP ..) (zIg ..)) hr (fun L' a' w' hr' => ih hQ (k + 1) (fun j o hj => by have := hl (j + 1) o (by simpa using hj); simpa [Nat.add_assoc, Nat.add_comm 1 j] using this) hr')
 | not hg _ ih =>
  rename_i o l s s' hrun
  intro hQ k hl L a w hr
  have h0 : ops[k]? = some o := by simpa using hl 0 o rfl
  rw [List.length_cons, List.range'_succ, List.cons_append, wpOps_cons]
  exact zGv (F := default) hG h0 (zCL hdst h0) (.not hg) hr (fun L' a' w' hr' => ih hQ (k + 1) (fun j o hj => by have := hl (j + 1) o (by simpa using hj); simpa [Nat.add_assoc, Nat.add_comm 1 j] using this) hr')
variable {b : Nat} {ks : List Int}
theorem runM (hdst : zEf n ops = true) {s s' : St} {rest : List Nat} {Fs : List Fp} {l : List Oper} (h : ∀ o : Obj, (∀ w : World, w.heap[b]? = some o → MapAt P k e w b ks) → Run (some (b, o)) P n ops Fs l s s')
  (kk : Nat) (hl : ∀ j o, l[j]? = some o → ops[kk + j]? = some o) {L : Pl} {a : Act} {w : World} (hr : Rel w0 I n L s a w) (hm : MapAt P k e w b ks)
  (hQ : ∀ L a w, Rel w0 I n L s' a w → MapAt P k e w b ks → wpOps P ops Qm rest a w) : wpOps P ops Qm (List.range' kk l.length ++ rest) a w := by
 obtain ⟨es, clock, ho, hall⟩ := hm.obj
 have hni : b ∉ (I.root L w).I := fun hx => by
  obtain ⟨l, _, c, t, z, hc⟩ := zDN hx
  rw [ho] at hc
  cases hc
 have hlt := (Array.getElem?_eq_some_iff.1 ho).1
 refine run_wpK (w0 := w) (I := I.root L w) (fun k' o' e' => by cases e'; exact ⟨ho, hni⟩) hdst (h _ hall) (fun L' a' w' hr' => hQ L' a' w' (hr.unroot hr') (hall w' ((hr'.same.block b hlt hni).trans ho))) kk hl hr.root
variable {s : St} {Q : Exit → St → List Int → Prop}
theorem zBS {id : Nat} {ops : List Oper} {Fs : List Fp} {s' : St} (hd : zEf n ops.toArray = true) (h : ∀ o : Obj, (∀ w : World, w.heap[b]? = some o → MapAt P k e w b ks) → Run (some (b, o)) P n ops.toArray Fs ops s s') (hq : Q .normal s' ks) : TrM γ P k e n b (.region id ops.toArray false) s ks Q :=
 zPk fun o ho => zAA hd (h o ho) hq
theorem zEn {id : Nat} {ops : List Oper} {Fs : List Fp} {s' : St} (hm : P.follows .mixedOrders = true) (hd : zEf n ops.toArray = true) (h : ∀ o : Obj, (∀ w : World, w.heap[b]? = some o → MapAt P k e w b ks) → Run (some (b, o)) P n ops.toArray Fs ops s s') (hl : lexF ops.toArray Fs ops.length 0 (Array.replicate ops.length false) = true) (hq : Q .normal s' ks) : TrM γ P k e n b (.region id ops.toArray true) s ks Q :=
 zPk fun o ho => zAZ hm hd (h o ho) hl hq
theorem zI8 {ob : Obj} (hall : ∀ w : World, w.heap[b]? = some ob → MapAt P k e w b ks) {o : Oper} {M B : List Nat} {t : TypeId} {xm xk : Operand} (ho : o.op = .lookup t xm xk false) (hk : P.underlying k = some (.int .i64)) (he : P.underlying e = some .bool) (ht : P.underlying t = some (.map k e))
  (hz : ∀ w, (zeroValue e).run P w = .ok (.bool false) w) {d1 d2 : Option Nat} {x : Int} (hm : s.ev xm = .p d1 (.v (.map (some b)))) (hx : s.ev xk = .p d2 (.v (.int .i64 x))) (hw : (Lit.int .i64 x).wf = true) : StepD (some (b, ob)) P n o M B s { put := .p none (.v (.bool (decide (x ∈ ks)))) } := by
 intro s' ag hd w0 I L a w hG hr K Q hK
 have h1 := hr.evv ((ag.ev1 ho (by simp [Op.operands])).trans hm)
 have h2 := hr.evv ((ag.ev1 ho (by simp [Op.operands])).trans hx)
 obtain ⟨g1, g2⟩ := hG b _ rfl
 have hlt := (Array.getElem?_eq_some_iff.1 g1).1
 have hb : w.heap[b]? = some ob := (hr.same.block b hlt g2).trans g1
 have he' : (execOp a.eval o).run P w = .ok (.value (.bool (decide (x ∈ ks)))) w := by
  simp only [execOp, ho, h1, h2, Sem.run_bind, (hall w hb).look hk he ht (hz w) hw]
  rfl
 unfold Oper.wp
 rw [he', Oper.upon_value]
 exact hK L _ w (by
  have := hr.put hd (av := .p none (.v (.bool (decide (x ∈ ks))))) (v := .bool (decide (x ∈ ks))) (by simp only [AVR]; exact ⟨.v _ rfl, fun _ h => by cases h⟩)
  rw [zKy]
  exact this)
theorem zJ9 {id : Nat} {ops : List Oper} (m : Nat) {o : Oper} {Fs : List Fp} {s' : St} {t : TypeId} {xm xk xv : Operand} {d1 d2 d3 : Option Nat} {x : Int} (hd : zEf n ops.toArray = true)
  (h : ∀ o : Obj, (∀ w : World, w.heap[b]? = some o → MapAt P k e w b ks) → Run (some (b, o)) P n ops.toArray Fs (ops.take m) s s') (hlen : ops.length = m + 1) (hlast : ops[m]? = some o)
  (ho : o.op = .mapUpdate t xm xk xv) (hg : o.guard = none) (hdst : o.dst = none) (hm : s'.ev xm = .p d1 (.v (.map (some b)))) (hx : s'.ev xk = .p d2 (.v (.int .i64 x))) (hv : s'.ev xv = .p d3 (.v (.bool true)))
  (hk : P.underlying k = some (.int .i64)) (he : P.underlying e = some .bool) (ht : P.underlying t = some (.map k e)) (hw : (Lit.int .i64 x).wf = true) (hn : ks.length < maxLen) (hq : Q .normal s' (ks ++ [x])) : TrM γ P k e n b (.region id ops.toArray false) s ks Q := by
 intro w0 I L a w hG hr hb hz hma
 refine wp_region ?_
 have key := runM (rest := [m]) (Qm := fun ex a' w' => ∃ s' L' ks', Q ex s' ks' ∧ Rel w0 I n L' s' a' w' ∧ MapAt P k e w' b ks') hd h 0 (fun j oj hj => by
   rw [List.getElem?_take] at hj
   split at hj
   · simpa using hj
   · cases hj) hr hma (fun L' a' w' hr' hma' => by
  have h1 := hr'.evv hm
  have h2 := hr'.evv hx
  have h3 := hr'.evv hv
  obtain ⟨w2, hrun, hma2, hgrow, ob, hob, hoc⟩ := hma'.upd hk he ht hw hn
  have he' : (execOp a'.eval o).run P w' = .ok .skip w2 := by
   simp only [execOp, ho, h1, h2, h3, Sem.run_bind, hrun]
   rfl
  rw [wpOps_cons]
  unfold wpOp
  have hlast' : ops.toArray[m]? = some o := by simpa using hlast
  simp only [hlast', Region.wanted, hg, if_true]
  refine .inl ?_
  unfold Oper.wp
  rw [he', Oper.upon_skip, hdst]
  exact ⟨s', L', _, hq, hr'.grown (B := b) hb (fun x hx => Nat.lt_of_lt_of_le (hz x hx) hb) hgrow (fun r hr2 => by cases hr2; exact ⟨Nat.le_refl _, ob, hob, hoc⟩), hma2⟩)
 have e1 : List.range' 0 (ops.take m).length ++ [m] = List.range ops.length := by
  rw [List.length_take, hlen, Nat.min_eq_left (by omega), List.range_eq_range', List.range'_concat]
  simp
 rw [e1] at key
 simpa using key
end
section
variable {γ : Gho} {P : Program} {n : Nat} {k e : TypeId} {s : St}
theorem tr_made {Q : Exit → St → Prop} {id : Nat} {o : Oper} {ops : List Oper} {d : Nat} {t : TypeId} {c : Code} (ho : o.op = .makeMap t none) (hdst : o.dst = some d) (hg : o.guard = none) (hd : zEf n (o :: ops).toArray = true)
  (h : ∀ b : Nat, ∃ Fs s', (∀ ob : Obj, (∀ w : World, w.heap[b]? = some ob → MapAt P k e w b []) → Run (some (b, ob)) P n (o :: ops).toArray Fs ops (s.put (some d) (.p none (.v (.map (some b))))) s') ∧ TrM none P k e n b c s' [] (fun ex s1 _ => Q ex s1)) : Tr γ P n (.seq (.region id (o :: ops).toArray false) c) s Q := by
 intro w0 I L a w hG hr
 obtain ⟨Fs, s', hrun, hc⟩ := h w.heap.size
 have hdn : d < n := zCL hd (i := 0) (o := o) (by simp) d hdst
 refine wp_seq (wp_region ?_)
 have hr1 : Rel w (I.root L w) n (L.trim w) (s.put (some d) (.p none (.v (.map (some w.heap.size))))) (a.put (some d) (.map (some w.heap.size))) (w.alloc (.map #[] 0)) :=
  (hr.root.grown (B := w.heap.size) (Nat.le_refl _) (fun x hx => (hr.zlt x hx).1) (World.grownBy_alloc w _ none) (fun r hr2 => by cases hr2)).put (by intro x hx; cases hx; exact hdn) (by simp only [AVR]; exact ⟨.v _ rfl, fun _ h => by cases h⟩)
 have key : wpOps P (o :: ops).toArray (Exit.then (c.wp P (fun e a' w' => ∃ s' L', Q e s' ∧ Rel w0 I n L' s' a' w')) (fun e a' w' => ∃ s' L', Q e s' ∧ Rel w0 I n L' s' a' w')) (List.range' 1 ops.length ++ []) (a.put (some d) (.map (some w.heap.size))) (w.alloc (.map #[] 0)) :=
  runM hd hrun 1 (fun j oj hj => by simpa [Nat.add_comm 1 j] using hj) hr1 (MapAt.made w) (fun L' a' w' hr' hma' => by
   refine wp_mono (hc w (I.root L w) L' a' w' (fun _ _ q => nomatch q) hr' (Nat.le_refl _) (fun x hx => (hr.zlt x hx).1) hma') (fun ex a2 w2 ⟨s2, L2, ks2, hq, hr2, _⟩ => ⟨s2, L2, hq, hr.unroot hr2⟩))
 rw [List.append_nil] at key
 have e1 : List.range (o :: ops).toArray.size = 0 :: List.range' 1 ops.length := by
  rw [List.range_eq_range']
  simp [List.range'_succ]
 rw [e1, wpOps_cons]
 unfold wpOp
 have h0 : (o :: ops).toArray[0]? = some o := by simp
 simp only [h0, Region.wanted, hg, if_true]
 refine .inl ?_
 unfold Oper.wp
 have he' : (execOp a.eval o).run P w = .ok (.value (.map (some w.heap.size))) (w.alloc (.map #[] 0)) := by
  simp only [execOp, ho, Option.map_none, Sem.run_bind, run_makeMap]
  rfl
 rw [he', Oper.upon_value, hdst]
 exact key
theorem zI1 {b : Nat} {ks : List Int} {Q : Exit → St → List Int → Prop} {c : Code} {σ : Type} (KS : σ → List Int) (S : σ → St) (G : σ → Prop) (μ : σ → Nat) (x0 : σ) (h0 : G x0) (hw : Wk n s (S x0)) (hk : ks = KS x0) (round : ∀ x, G x → TrM γ P k e n b c (S x) (KS x) (thnM (fun s' ks' => ∃ x', G x' ∧ μ x' < μ x ∧ Wk n s' (S x') ∧ ks' = KS x') Q)) : TrM γ P k e n b (.loop c) s ks Q := by
 refine zOd (fun q s ks => ∃ x, G x ∧ μ x = q ∧ Wk n s (S x) ∧ ks = KS x) (μ x0) ⟨x0, h0, rfl, hw, hk⟩ (fun q s ks hI => ?_)
 obtain ⟨x, hG, rfl, hW, rfl⟩ := hI
 intro w0 I L a w hG2 hr hb hz hm
 refine wp_mono (zE4 hW (round x hG) w0 I L a w hG2 hr hb hz hm) (fun ex a' w' ⟨s', L', ks', hq, h2⟩ => ⟨s', L', ks', ?_, h2⟩)
 cases ex with
 | normal =>
  obtain ⟨x', h1, h2, h3, h4⟩ := hq
  exact ⟨μ x', h2, x', h1, rfl, h3, h4⟩
 | _ => exact hq
theorem nxtM {σ : Type} {KS : σ → List Int} {S : σ → St} {G : σ → Prop} {μ : σ → Nat} {z : σ} {ks : List Int} {Q : Exit → St → List Int → Prop} (z' : σ) (hk : ks = KS z') (h1 : G z') (h2 : μ z' < μ z) (h3 : Wk n s (S z')) : thnM (fun s' ks' => ∃ x', G x' ∧ μ x' < μ z ∧ Wk n s' (S x') ∧ ks' = KS x') Q .normal s ks := ⟨z', h1, h2, h3, hk⟩
end
end Go.Rl

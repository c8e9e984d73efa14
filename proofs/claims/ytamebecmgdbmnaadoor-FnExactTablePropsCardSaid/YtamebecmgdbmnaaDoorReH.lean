/- Promises of functions, proved by walks over their operations; no conditions beyond those that each theorem states. -/
import Derived.Test.YtamebecmgdbmnaaDoorReA
import Derived.Test.YtamebecmgdbmnaaDoorRlT
import Derived.Test.YtamebecmgdbmnaaDoorRlJ
import Derived.RangeFuncNested
set_option linter.unusedSimpArgs false
set_option linter.unusedVariables false
namespace Go.Rl
open Go.Proofs Go.Proofs.Tryd
set_option maxRecDepth 1000000
set_option maxHeartbeats 2000000
theorem inf5 : (Tryd.prog.info? 5).map (fun i => (i.zero, i.size, i.bytes)) = some (some (.int .u8 0), 1, 1) := by kernel_rfl
theorem en49 : En Tryd.prog 49 := zAh func49 (by decide) rfl
def zCs (k i : Nat) : Ent := ⟨zCr (k + 4 * i), ((k + 4 * i : Nat) : Int) + 1, ((k + 4 * i : Nat) : Int) + 1 + 1, zCr (k + 4 * i + 3)⟩
theorem zDg (k : Nat) (hk : k ≤ 1099511627776) : Con Tryd.prog 49 [.one (PV.v (.int .i64 (k:Int)))] [] [.one (.v (.string (zCr k)))] := by
 refine zAR func49 rfl rfl rfl rfl ?_
 refine zAB (zAA rfl (.a rfl rfl .nil) ?_)
 refine zAB ?_
 refine zAB (zAA rfl (.m rfl rfl (.r rfl (zDG rfl rfl rfl) .nil)) ?_)
 refine zAT (t := decide ((k:Int) ≤ 0)) rfl (fun h1 => ?_) (fun h1 => ?_)
 ·
  replace h1 := of_decide_eq_true h1
  refine zAB (zAA rfl (.a rfl rfl .nil) ?_)
  refine zAI ?_
  exact ends [_] [] (.cons (.tmp (zA3 (by simp [zCr, show k = 0 by omega]))) .nil) (.cons (.one .v (.v _)) .nil) (by decide) trivial
 ·
  replace h1 := of_decide_eq_false h1
  refine zAK ?_
  refine zAB (zAA rfl (.a rfl rfl .nil) ?_)
  refine zAB ?_
  refine zAS ?_
  refine zAj (σ := Nat × ByteArray × Nat) (fun (n, acc, f) => mk [(0, .vi (n:Int)), (3, .vs acc)] [] []) (fun (n, acc, f) => n ≤ f ∧ n + acc.size ≤ k ∧ dig k k ⟨#[]⟩ = dig f n acc) (fun (n, acc, f) => n) (k, ⟨#[]⟩, k) ⟨Nat.le_refl _, Nat.le_refl _, rfl⟩ (zAJ ⟨rfl, rfl, trivial⟩ trivial trivial rfl) ?_
  rintro ⟨n, acc, f⟩ hG
  replace hG : n ≤ f ∧ n + acc.size ≤ k ∧ dig k k ⟨#[]⟩ = dig f n acc := hG
  obtain ⟨hG, hG2, hG3⟩ := hG
  refine zAB ?_
  refine zAB (zAA rfl (.m rfl rfl (.r rfl (zBE rfl rfl rfl) .nil)) ?_)
  refine zAT (t := decide (0 < (n:Int))) rfl (fun h2 => ?_) (fun h2 => ?_)
  ·
   replace h2 := of_decide_eq_true h2
   refine zAK ?_
   refine zAS ?_
   refine zAB (zAA rfl (.m rfl rfl (.r rfl (zIo rfl rfl rfl (by decide)) (.r rfl (zAW rfl rfl rfl (by have h1 := Int.tmod_lt_of_pos (n : Int) (show (0:Int) < 10 by decide); have h2 := Int.tmod_nonneg 10 (show (0:Int) ≤ (n:Int) by omega); omega)) (.r rfl (zD9 rfl rfl underlying3 underlying5) (.run [1200] [] rfl (zAv rfl 1200 underlying90 inf5 (nle rfl) (by decide) rfl rfl rfl (.cons .v .nil) (by decide) rfl (by decide) rfl (by decide) rfl) (.r rfl (zCc [IntKind.u8.wrap (48 + (n:Int).tmod 10)] rfl rfl (.give (len := 1) (xs := [[PV.v (.int .u8 (IntKind.u8.wrap (48 + ((n:Int).tmod 10))))]]) rfl rfl) rfl rfl underlying90 underlying9 underlying5) (.m rfl rfl (.r rfl (zAu rfl rfl rfl (by rw [zIn]; omega)) (.a rfl rfl .nil))))))))) ?_)
   refine zAA rfl (.m rfl rfl (.r rfl (zDF rfl rfl rfl (by decide)) (.a rfl rfl .nil))) ?_
   refine nxt (Q := fun _ _ => False) (z := (n, acc, f)) (n / 10, zBv [IntKind.u8.wrap (48 + (n:Int).tmod 10)] ++ acc, f - 1) ?_ ?_ ?_
   ·
    show (n / 10) ≤ (f - 1) ∧ (n / 10) + (zBv [IntKind.u8.wrap (48 + (n:Int).tmod 10)] ++ acc).size ≤ k ∧ dig k k ⟨#[]⟩ = dig (f - 1) (n / 10) (zBv [IntKind.u8.wrap (48 + (n:Int).tmod 10)] ++ acc)
    exact ⟨by omega, by rw [zNx, zIn]; omega, zOf hG hG3 (by omega)⟩
   ·
    show (n / 10) < n
    omega
   · exact zAJ ⟨(zAE (by exact quo_nat n (by omega))), (zA3 (by rfl)), trivial⟩ trivial trivial rfl
  ·
   replace h2 := of_decide_eq_false h2
   refine zAi ?_
   refine zAB (zAA rfl (.m rfl rfl (.r rfl (zAu rfl rfl rfl (by have hz : (⟨#[109]⟩ : ByteArray).size = 1 := rfl; omega)) (.a rfl rfl .nil))) ?_)
   refine zAI ?_
   exact ends [_] [] (.cons (.tmp (zA3 (by rw [zCr, if_neg (by omega), hG3, show n = 0 by omega, zOe]))) .nil) (.cons (.one .v (.v _)) .nil) (by decide) trivial
theorem zHE (l : List Ent) (k : Nat) (hk : k + 4 * l.length ≤ 1099511627776) : Con Tryd.prog 20 [.one (.sl true 4 (pvE l)), .one (PV.v (.int .i64 (k:Int)))] [some (pvE (zBr zCs k l.length))] [.one (.v (.int .i64 ((k + 4 * l.length : Nat) : Int)))] := by
 refine zAR func20 rfl rfl rfl rfl ?_
 have hle := zAf l
 refine zAB (zAA rfl (.a rfl rfl .nil) ?_)
 refine zAB ?_
 refine zAB (zAA rfl (.a rfl rfl .nil) ?_)
 refine zAS ?_
 refine zAj (σ := Nat) (fun i => mk [(0, .sl 100000 0 ((pvE l).length)), (1, .vi ((k + 4 * i : Nat) : Int)), (5, .vi (i:Int))] [] [(100000, 4, pvE (zBr zCs k i ++ l.drop i))]) (fun i => i ≤ l.length) (fun i => l.length - i) 0 (by simp) (zAJ ⟨rfl, (zAE (by omega)), (zAE (by omega)), trivial⟩ trivial ⟨(congrArg (fun x => some (4, x)) (by rfl)), trivial⟩ rfl) ?_
 rintro i hG
 replace hG : i ≤ l.length := hG
 refine zAB ?_
 refine zAB (zAA rfl (.m rfl rfl (.m rfl rfl (.r rfl (zB5 rfl rfl underlying28) (.r rfl (zAt rfl rfl rfl) .nil)))) ?_)
 refine zAT (t := decide ((i:Int) < ((pvE l).length : Int))) rfl (fun h1 => ?_) (fun h1 => ?_)
 ·
  replace h1 := of_decide_eq_true h1
  refine zAK ?_
  refine zAB ?_
  refine zAS ?_
  refine zAB ?_
  obtain ⟨e, he⟩ : ∃ e, l[i]? = some e := ⟨_, List.getElem?_eq_getElem (by omega)⟩
  refine zAA rfl (.m rfl rfl (.m rfl rfl (.m rfl rfl (.run [1500] [] rfl (zAF rfl 1500 (X := []) en49 rfl (.val nod) (.cons (.one (.bor .v)) .nil) (by decide) all_nil .nil (zDg (k + 4 * i) (by omega)) rfl rfl (nle rfl)) (.r rfl (zA1 i rfl rfl rfl rfl underlying28 sizeOf58 rfl rfl (by omega)) (.r rfl (zAs rfl rfl underlying58 rfl sizeOf56 (by decide)) (.r rfl (zAs rfl rfl underlying56 rfl sizeOf9 (by decide)) (.r rfl (zA9 rfl rfl rfl (FlatP.nf (zCf _)) (by exact zIO (mk := zCs) he) rfl rfl (.cons .v .nil) sizeOf9 rfl (nle rfl)) .nil)))))))) ?_
  refine zAB (zAA rfl (.m rfl rfl (.r rfl (zAW rfl rfl rfl (by omega)) (.a rfl rfl .nil))) ?_)
  refine zAB ?_
  refine zAO (s' := mk [(0, .sl 100000 0 ((pvE l).length)), (1, .vi (((k + 4 * i : Nat) : Int) + 1)), (5, .vi (i:Int))] [] [(100000, 4, (pvE (zBr zCs k i ++ l.drop i)).set i [PV.v (.string (zCr (k + 4 * i))), PV.v (.int .i64 e.seq), PV.v (.int .i64 e.kind), PV.v (.string e.value)])]) ?_ ?_
  · exact zAJ ⟨rfl, rfl, rfl, trivial⟩ trivial ⟨rfl, trivial⟩ rfl
  refine zAA rfl (.m rfl rfl (.m rfl rfl (.m rfl rfl (.r rfl (zA1 i rfl rfl rfl rfl underlying28 sizeOf58 rfl rfl (by omega)) (.r rfl (zAs rfl rfl underlying58 rfl sizeOf56 (by decide)) (.r rfl (zAs rfl rfl underlying56 rfl sizeOf2 (by decide)) (.r rfl (zA9 rfl rfl rfl (FlatP.nf (FlatP.set (i := i) (cs := [PV.v (.string (zCr (k + 4 * i))), PV.v (.int .i64 e.seq), PV.v (.int .i64 e.kind), PV.v (.string e.value)]) (zCf _) rfl)) (zEY (b := [PV.v (.string (zCr (k + 4 * i))), PV.v (.int .i64 e.seq), PV.v (.int .i64 e.kind), PV.v (.string e.value)]) (by exact zIO (mk := zCs) he)) rfl rfl (.cons .v .nil) sizeOf2 rfl (nle rfl)) .nil))))))) ?_
  refine zAB (zAA rfl (.m rfl rfl (.r rfl (zAW rfl rfl rfl (by omega)) (.a rfl rfl .nil))) ?_)
  refine zAB ?_
  refine zAO (s' := mk [(0, .sl 100000 0 ((pvE l).length)), (1, .vi ((((k + 4 * i : Nat) : Int) + 1) + 1)), (5, .vi (i:Int))] [] [(100000, 4, ((pvE (zBr zCs k i ++ l.drop i)).set i [PV.v (.string (zCr (k + 4 * i))), PV.v (.int .i64 e.seq), PV.v (.int .i64 e.kind), PV.v (.string e.value)]).set i [PV.v (.string (zCr (k + 4 * i))), PV.v (.int .i64 (((k + 4 * i : Nat) : Int) + 1)), PV.v (.int .i64 e.kind), PV.v (.string e.value)])]) ?_ ?_
  · exact zAJ ⟨rfl, rfl, rfl, trivial⟩ trivial ⟨rfl, trivial⟩ rfl
  refine zAA rfl (.m rfl rfl (.m rfl rfl (.m rfl rfl (.r rfl (zA1 i rfl rfl rfl rfl underlying28 sizeOf58 rfl rfl (by omega)) (.r rfl (zAs rfl rfl underlying58 rfl sizeOf56 (by decide)) (.r rfl (zAs rfl rfl underlying56 rfl sizeOf2 (by decide)) (.r rfl (zA9 rfl rfl rfl (FlatP.nf (FlatP.set (i := i) (cs := [PV.v (.string (zCr (k + 4 * i))), PV.v (.int .i64 (((k + 4 * i : Nat) : Int) + 1)), PV.v (.int .i64 e.kind), PV.v (.string e.value)]) (FlatP.set (i := i) (cs := [PV.v (.string (zCr (k + 4 * i))), PV.v (.int .i64 e.seq), PV.v (.int .i64 e.kind), PV.v (.string e.value)]) (zCf _) rfl) rfl)) (zEY (b := [PV.v (.string (zCr (k + 4 * i))), PV.v (.int .i64 (((k + 4 * i : Nat) : Int) + 1)), PV.v (.int .i64 e.kind), PV.v (.string e.value)]) (zEY (b := [PV.v (.string (zCr (k + 4 * i))), PV.v (.int .i64 e.seq), PV.v (.int .i64 e.kind), PV.v (.string e.value)]) (by exact zIO (mk := zCs) he))) rfl rfl (.cons .v .nil) sizeOf2 rfl (nle rfl)) .nil))))))) ?_
  refine zAB (zAA rfl (.m rfl rfl (.r rfl (zAL (zAW rfl rfl rfl (by omega)) ((show (AV.p none (.v (.int .i64 (((k + 4 * i : Nat) : Int) + 1 + 1 + 1)))) = AV.p none (.v (.int .i64 ((k + 4 * i + 3 : Nat) : Int))) from zAE (by omega)))) (.a rfl rfl .nil))) ?_)
  refine zAB ?_
  refine zAO (s' := mk [(0, .sl 100000 0 ((pvE l).length)), (1, .vi ((k + 4 * i + 3 : Nat) : Int)), (5, .vi (i:Int))] [] [(100000, 4, (((pvE (zBr zCs k i ++ l.drop i)).set i [PV.v (.string (zCr (k + 4 * i))), PV.v (.int .i64 e.seq), PV.v (.int .i64 e.kind), PV.v (.string e.value)]).set i [PV.v (.string (zCr (k + 4 * i))), PV.v (.int .i64 (((k + 4 * i : Nat) : Int) + 1)), PV.v (.int .i64 e.kind), PV.v (.string e.value)]).set i [PV.v (.string (zCr (k + 4 * i))), PV.v (.int .i64 (((k + 4 * i : Nat) : Int) + 1)), PV.v (.int .i64 ((((k + 4 * i : Nat) : Int) + 1) + 1)), PV.v (.string e.value)])]) ?_ ?_
  · exact zAJ ⟨rfl, rfl, rfl, trivial⟩ trivial ⟨rfl, trivial⟩ rfl
  refine zAA rfl (.m rfl rfl (.m rfl rfl (.m rfl rfl (.run [4000] [] rfl (zAF rfl 4000 (X := []) en49 rfl (.val nod) (.cons (.one (.bor .v)) .nil) (by decide) all_nil .nil (zDg (k + 4 * i + 3) (by omega)) rfl rfl (nle rfl)) (.r rfl (zA1 i rfl rfl rfl rfl underlying28 sizeOf58 rfl rfl (by omega)) (.r rfl (zAs rfl rfl underlying58 rfl sizeOf9 (by decide)) (.r rfl (zA9 rfl rfl rfl (FlatP.nf (FlatP.set (i := i) (cs := [PV.v (.string (zCr (k + 4 * i))), PV.v (.int .i64 (((k + 4 * i : Nat) : Int) + 1)), PV.v (.int .i64 ((((k + 4 * i : Nat) : Int) + 1) + 1)), PV.v (.string e.value)]) (FlatP.set (i := i) (cs := [PV.v (.string (zCr (k + 4 * i))), PV.v (.int .i64 (((k + 4 * i : Nat) : Int) + 1)), PV.v (.int .i64 e.kind), PV.v (.string e.value)]) (FlatP.set (i := i) (cs := [PV.v (.string (zCr (k + 4 * i))), PV.v (.int .i64 e.seq), PV.v (.int .i64 e.kind), PV.v (.string e.value)]) (zCf _) rfl) rfl) rfl)) (zEY (b := [PV.v (.string (zCr (k + 4 * i))), PV.v (.int .i64 (((k + 4 * i : Nat) : Int) + 1)), PV.v (.int .i64 ((((k + 4 * i : Nat) : Int) + 1) + 1)), PV.v (.string e.value)]) (zEY (b := [PV.v (.string (zCr (k + 4 * i))), PV.v (.int .i64 (((k + 4 * i : Nat) : Int) + 1)), PV.v (.int .i64 e.kind), PV.v (.string e.value)]) (zEY (b := [PV.v (.string (zCr (k + 4 * i))), PV.v (.int .i64 e.seq), PV.v (.int .i64 e.kind), PV.v (.string e.value)]) (by exact zIO (mk := zCs) he)))) rfl rfl (.cons .v .nil) sizeOf9 rfl (nle rfl)) .nil))))))) ?_
  refine zAA rfl (.m rfl rfl (.r rfl (zAW rfl rfl rfl (by omega)) (.a rfl rfl .nil))) ?_
  refine zAA rfl (.m rfl rfl (.r rfl (zAW rfl rfl rfl (by omega)) (.a rfl rfl .nil))) ?_
  refine nxt (Q := fun _ _ => False) (z := i) (i + 1) ?_ ?_ ?_
  ·
   show (i + 1) ≤ l.length
   omega
  ·
   show l.length - (i + 1) < l.length - i
   omega
  · exact zAJ ⟨rfl, (zAE (by omega)), (zAE (by omega)), trivial⟩ trivial ⟨(congrArg (fun x => some (4, x)) (by rw [List.set_set, List.set_set, List.set_set]; exact zOR (mk := zCs) he)), trivial⟩ rfl
 ·
  replace h1 := of_decide_eq_false h1
  refine zAi ?_
  refine zAB (zAA rfl (.m rfl rfl (.a rfl rfl .nil)) ?_)
  refine zAI ?_
  exact ends [_] [] (.cons (.tmp (zAE (by rw [show i = l.length by omega]))) .nil) (.cons (.one .v (.v _)) .nil) (by decide) (zFv (congrArg (fun x => some (4, x)) (congrArg pvE (gmc_all (by omega) (by omega)))) (zCf _) (by decide))
end Go.Rl
namespace Go.Rl
open Go.Proofs Go.Proofs.Tryd
set_option maxRecDepth 1000000
set_option maxHeartbeats 2000000
theorem inf9 : (Tryd.prog.info? 9).map (fun i => (i.zero, i.size, i.bytes)) = some (some (.string ⟨#[]⟩), 1, 16) := by kernel_rfl
theorem zJU (l : List ByteArray) (hl : l.length ≤ 2000000) : Con Tryd.prog 100 [.one (.sl true 1 (pvT l))] [none] [.one (.sl true 1 (pvT (zCK l)))] := by
 refine zAR func100 rfl rfl rfl rfl ?_
 have hle := zBG l
 refine zAB (zAA rfl (.a rfl rfl .nil) ?_)
 refine zAB ?_
 refine zAB (zAA rfl (.m rfl rfl (.r rfl (zB5 rfl rfl underlying59) (.r rfl (zAt rfl rfl rfl) .nil))) ?_)
 refine zAT (t := decide (((pvT l).length : Int) < 2)) rfl (fun h1 => ?_) (fun h1 => ?_)
 ·
  replace h1 := of_decide_eq_true h1
  refine zAB ?_
  have hs : zCK l = l := zNa (by omega)
  rw [hs]
  refine zAA rfl (.m rfl rfl (.a rfl rfl .nil)) ?_
  refine zAI ?_
  exact ends [_] [100000] (.cons (.tmp rfl) .nil) (.cons (.one (.row (len := (pvT l).length) (xs := pvT l) rfl rfl) (.sl _ _ (FlatP.clean (zED _)))) .nil) (by decide) ⟨trivial, trivial⟩
 ·
  replace h1 := of_decide_eq_false h1
  refine zAK ?_
  refine zAB ?_
  refine zAB (zAA rfl (.a rfl rfl .nil) ?_)
  refine zAS ?_
  refine zAj (σ := Nat) (fun k => mk [(0, .sl 100000 0 ((pvT l).length)), (3, .vi (k:Int))] [] [(100000, 1, pvT l)]) (fun k => 1 ≤ k ∧ k ≤ l.length ∧ zAV l k = l.take k) (fun k => l.length - k) 1 ⟨Nat.le_refl _, by omega, cpt_one (by omega)⟩ (zAJ ⟨rfl, (zAE (by omega)), trivial⟩ trivial ⟨rfl, trivial⟩ rfl) ?_
  rintro k hG
  replace hG : 1 ≤ k ∧ k ≤ l.length ∧ zAV l k = l.take k := hG
  obtain ⟨h1k, hkl, hC⟩ := hG
  refine zAB ?_
  refine zAB (zAA rfl (.m rfl rfl (.m rfl rfl (.r rfl (zB5 rfl rfl underlying59) (.r rfl (zAt rfl rfl rfl) .nil)))) ?_)
  refine zAT (t := decide ((k:Int) < ((pvT l).length : Int))) rfl (fun h2 => ?_) (fun h2 => ?_)
  ·
   replace h2 := of_decide_eq_true h2
   refine zAK ?_
   refine zAB ?_
   refine zAS ?_
   refine zAB ?_
   obtain ⟨e, he⟩ : ∃ e, l[k]? = some e := ⟨_, List.getElem?_eq_getElem (by (have hL := zBG l; omega))⟩
   have hlte := (List.getElem?_eq_some_iff.1 he).1
   obtain ⟨e2, he2⟩ : ∃ e, l[k - 1]? = some e := ⟨_, List.getElem?_eq_getElem (by (have hL := zBG l; omega))⟩
   have hlte2 := (List.getElem?_eq_some_iff.1 he2).1
   refine zAb zBh rfl (.m rfl rfl (.m rfl rfl (.r rfl (zA1 k rfl rfl rfl rfl underlying59 sizeOf9 rfl rfl (by omega)) (.r rfl (zA4 rfl rfl rfl (zCk he) isAgg9 rfl) (.m rfl rfl (.m rfl rfl (.r rfl (zAL (zBw rfl rfl rfl (by omega)) ((show (AV.p none (.v (.int .i64 ((k:Int) - 1)))) = AV.p none (.v (.int .i64 ((k - 1 : Nat) : Int))) from zAE (by omega)))) (.r rfl (zA1 (k - 1) rfl rfl rfl rfl underlying59 sizeOf9 rfl rfl (by omega)) (.r rfl (zA4 rfl rfl rfl (zCk he2) isAgg9 rfl) (.r rfl (zDQ rfl rfl rfl) .nil)))))))))) (by kernel_rfl) ?_
   refine zAT (t := decide (e = e2)) rfl (fun h3 => ?_) (fun h3 => ?_)
   ·
    replace h3 := of_decide_eq_true h3
    refine zAB ?_
    have hd0 : zAV l (k + 1) = zAV l k := zDB h1k he2 he h3
    refine zAO (s' := mk [(0, .sl 100000 0 ((pvT l).length)), (3, .vi (k:Int))] [] [(100000, 1, pvT l)]) ?_ ?_
    · exact zAJ ⟨rfl, rfl, trivial⟩ trivial ⟨rfl, trivial⟩ rfl
    refine zAA rfl (.m rfl rfl (.m rfl rfl (.r rfl (zEs (l := k) (h := (pvT l).length) rfl rfl rfl underlying59 sizeOf9 (.at_ rfl rfl) .no (by omega) (Nat.le_refl _) rfl) (.a rfl rfl .nil)))) ?_
    refine zAB ?_
    refine zAB (zAA rfl (.a rfl rfl .nil) ?_)
    refine zAS ?_
    refine zAj (σ := Nat) (fun q => mk [(0, .sl 100000 0 ((pvT l).length)), (3, .vi ((zAV l (k + q)).length : Int)), (4, .sl 100000 k (((pvT l).length) - k)), (5, .vi (q:Int))] [] [(100000, 1, pvT (zAV l (k + q) ++ l.drop (zAV l (k + q)).length))]) (fun q => 1 ≤ q ∧ k + q ≤ l.length ∧ (zAV l (k + q)).length + 1 ≤ k + q) (fun q => l.length - q) 1 ⟨Nat.le_refl _, by omega, by rw [hd0, hC, List.length_take]; omega⟩ (zAJ ⟨rfl, (zAE (by rw [hd0, hC, List.length_take]; omega)), rfl, (zAE (by omega)), trivial⟩ trivial ⟨(congrArg (fun x => some (1, x)) (by rw [hd0, zNZ hC hkl])), trivial⟩ rfl) ?_
    rintro q hG
    replace hG : 1 ≤ q ∧ k + q ≤ l.length ∧ (zAV l (k + q)).length + 1 ≤ k + q := hG
    obtain ⟨h1q, hql, hcq⟩ := hG
    have hlr := zBG (zAV l (k + q) ++ l.drop (zAV l (k + q)).length)
    have hlc : (zAV l (k + q) ++ l.drop (zAV l (k + q)).length).length = l.length := by rw [List.length_append, List.length_drop]; omega
    refine zAB ?_
    refine zAB (zAA rfl (.m rfl rfl (.m rfl rfl (.r rfl (zB5 rfl rfl underlying59) (.r rfl (zAt rfl rfl rfl) .nil)))) ?_)
    refine zAT (t := decide ((q:Int) < ((((pvT l).length) - k : Nat) : Int))) rfl (fun h4 => ?_) (fun h4 => ?_)
    ·
     replace h4 := of_decide_eq_true h4
     refine zAK ?_
     refine zAB ?_
     refine zAS ?_
     refine zAB ?_
     obtain ⟨y, hy⟩ : ∃ y, l[k + q]? = some y := ⟨_, List.getElem?_eq_getElem (by omega)⟩
     obtain ⟨x, hx⟩ : ∃ x, l[k + (q - 1)]? = some x := ⟨_, List.getElem?_eq_getElem (by omega)⟩
     have hx2 : l[k + q - 1]? = some x := by rw [show k + q - 1 = k + (q - 1) by omega]; exact hx
     obtain ⟨w, hw⟩ : ∃ w, l[(zAV l (k + q)).length]? = some w := ⟨_, List.getElem?_eq_getElem (by omega)⟩
     refine zAb zBh rfl (.m rfl rfl (.m rfl rfl (.r rfl (zEr q rfl rfl rfl rfl underlying59 sizeOf9 rfl rfl (by omega)) (.r rfl (zA4 rfl rfl rfl (by exact zCk (by rw [zIZ (by omega)]; exact hy)) isAgg9 rfl) (.m rfl rfl (.m rfl rfl (.r rfl (zAL (zBw rfl rfl rfl (by omega)) ((show (AV.p none (.v (.int .i64 ((q:Int) - 1)))) = AV.p none (.v (.int .i64 ((q - 1 : Nat) : Int))) from zAE (by omega)))) (.r rfl (zEr (q - 1) rfl rfl rfl rfl underlying59 sizeOf9 rfl rfl (by omega)) (.r rfl (zA4 rfl rfl rfl (by exact zCk (by rw [zIZ (by omega)]; exact hx)) isAgg9 rfl) (.r rfl (zCC rfl rfl rfl) .nil)))))))))) (by kernel_rfl) ?_
     refine zAT (t := (!(decide (y = x)))) rfl (fun h5 => ?_) (fun h5 => ?_)
     ·
      replace h5 : ¬ (y = x) := of_decide_eq_false (zAm h5)
      refine zAB ?_
      refine zAO (s' := mk [(0, .sl 100000 0 ((pvT l).length)), (3, .vi ((zAV l (k + q)).length : Int)), (4, .sl 100000 k (((pvT l).length) - k)), (5, .vi (q:Int))] [] [(100000, 1, pvT (zAV l (k + q) ++ l.drop (zAV l (k + q)).length))]) ?_ ?_
      · exact zAJ ⟨rfl, rfl, rfl, rfl, trivial⟩ trivial ⟨rfl, trivial⟩ rfl
      refine zAA rfl (.m rfl rfl (.m rfl rfl (.m rfl rfl (.m rfl rfl (.r rfl (zEr q rfl rfl rfl rfl underlying59 sizeOf9 rfl rfl (by omega)) (.r rfl (zA4 rfl rfl rfl (by exact zCk (by rw [zIZ (by omega)]; exact hy)) isAgg9 rfl) (.r rfl (zA1 ((zAV l (k + q)).length) rfl rfl rfl rfl underlying59 sizeOf9 rfl rfl (by omega)) (.r rfl (zA9 rfl rfl rfl (FlatP.nf (zED _)) (by exact zCk (by rw [zIZ (Nat.le_refl _)]; exact hw)) rfl rfl (.cons .v .nil) sizeOf9 rfl (nle rfl)) .nil)))))))) ?_
      refine zAA rfl (.m rfl rfl (.r rfl (zAW rfl rfl rfl (by omega)) (.a rfl rfl .nil))) ?_
      refine zAA rfl (.m rfl rfl (.r rfl (zAW rfl rfl rfl (by omega)) (.a rfl rfl .nil))) ?_
      refine nxt (Q := fun _ _ => False) (z := q) (q + 1) ?_ ?_ ?_
      ·
       show 1 ≤ (q + 1) ∧ k + (q + 1) ≤ l.length ∧ (zAV l (k + (q + 1))).length + 1 ≤ k + (q + 1)
       exact ⟨by omega, by omega, by rw [show k + (q + 1) = k + q + 1 from rfl, zDi hx2 hy h5]; simp only [List.length_append, List.length_cons, List.length_nil]; omega⟩
      ·
       show l.length - (q + 1) < l.length - q
       omega
      · exact zAJ ⟨rfl, (zAE (by rw [show k + (q + 1) = k + q + 1 from rfl, zDi hx2 hy h5]; simp)), rfl, (zAE (by omega)), trivial⟩ trivial ⟨(congrArg (fun x => some (1, x)) (by rw [show k + (q + 1) = k + q + 1 from rfl, zDi hx2 hy h5, ← cpt_set (by omega)]; simp [pvT, List.map_set, over])), trivial⟩ rfl
     ·
      replace h5 : y = x := of_decide_eq_true (zAn h5)
      refine zAK ?_
      refine zAO (s' := mk [(0, .sl 100000 0 ((pvT l).length)), (3, .vi ((zAV l (k + q)).length : Int)), (4, .sl 100000 k (((pvT l).length) - k)), (5, .vi (q:Int))] [] [(100000, 1, pvT (zAV l (k + q) ++ l.drop (zAV l (k + q)).length))]) ?_ ?_
      · exact zAJ ⟨rfl, rfl, rfl, rfl, trivial⟩ trivial ⟨rfl, trivial⟩ rfl
      refine zAA rfl (.m rfl rfl (.r rfl (zAW rfl rfl rfl (by omega)) (.a rfl rfl .nil))) ?_
      refine nxt (Q := fun _ _ => False) (z := q) (q + 1) ?_ ?_ ?_
      ·
       show 1 ≤ (q + 1) ∧ k + (q + 1) ≤ l.length ∧ (zAV l (k + (q + 1))).length + 1 ≤ k + (q + 1)
       exact ⟨by omega, by omega, by rw [show k + (q + 1) = k + q + 1 from rfl, zDB (by omega) hx2 hy h5]; omega⟩
      ·
       show l.length - (q + 1) < l.length - q
       omega
      · exact zAJ ⟨rfl, (zAE (by rw [show k + (q + 1) = k + q + 1 from rfl, zDB (by omega) hx2 hy h5])), rfl, (zAE (by omega)), trivial⟩ trivial ⟨(congrArg (fun x => some (1, x)) (by rw [show k + (q + 1) = k + q + 1 from rfl, zDB (by omega) hx2 hy h5])), trivial⟩ rfl
    ·
     replace h4 := of_decide_eq_false h4
     refine zAi ?_
     refine zAB ?_
     have hlr0 := zBG (zAV l (k + q) ++ l.drop (zAV l (k + q)).length)
     have hlc0 : (zAV l (k + q) ++ l.drop (zAV l (k + q)).length).length = l.length := by rw [List.length_append, List.length_drop]; omega
     have hkq : k + q = l.length := (by omega)
     refine zAA rfl (.m rfl rfl (.m rfl rfl (.r rfl (zEs (l := (zAV l (k + q)).length) (h := (pvT l).length) rfl rfl rfl underlying59 sizeOf9 (.at_ rfl rfl) .no (by omega) (Nat.le_refl _) rfl) (.r rfl (zNu (lo := (zAV l (k + q)).length) (len := (pvT l).length - (zAV l (k + q)).length) rfl rfl rfl (zED _) underlying59 inf9 rfl rfl (by rw [hlr0, hlc0]; omega)) .nil)))) ?_
     refine zAB ?_
     have hs : zCK l = zAV l (k + q) := by rw [zCK, hkq]
     rw [hs]
     refine zAA rfl (.m rfl rfl (.m rfl rfl (.r rfl (zEs (l := 0) (h := (zAV l (k + q)).length) rfl rfl rfl underlying59 sizeOf9 .no (.at_ rfl rfl) (Nat.zero_le _) (by omega) rfl) (.a rfl rfl .nil)))) ?_
     refine zAI ?_
     exact ends [_] [100000] (.cons (.tmp rfl) .nil) (.cons (.one (gv_eq (.pre (len := ((zAV l (k + q)).length) - 0) (xs := (pvT (zAV l (k + q) ++ l.drop (zAV l (k + q)).length)).take (zAV l (k + q)).length ++ List.replicate ((pvT l).length - (zAV l (k + q)).length) [PV.v (.string ⟨#[]⟩)]) rfl (by rw [List.length_append, List.length_take, hlr0, List.length_replicate]; omega) zOj) (congrArg (PV.sl true 1) (cpt_row rfl))) (.sl _ _ (FlatP.clean (zED _)))) .nil) (by decide) ⟨trivial, trivial⟩
   ·
    replace h3 := of_decide_eq_false h3
    refine zAK ?_
    refine zAO (s' := mk [(0, .sl 100000 0 ((pvT l).length)), (3, .vi (k:Int))] [] [(100000, 1, pvT l)]) ?_ ?_
    · exact zAJ ⟨rfl, rfl, trivial⟩ trivial ⟨rfl, trivial⟩ rfl
    refine zAA rfl (.m rfl rfl (.r rfl (zAW rfl rfl rfl (by omega)) (.a rfl rfl .nil))) ?_
    refine nxt (Q := fun _ _ => False) (z := k) (k + 1) ?_ ?_ ?_
    ·
     show 1 ≤ (k + 1) ∧ (k + 1) ≤ l.length ∧ zAV l (k + 1) = l.take (k + 1)
     exact ⟨by omega, by omega, zOi hC he2 he h3⟩
    ·
     show l.length - (k + 1) < l.length - k
     omega
    · exact zAJ ⟨rfl, (zAE (by omega)), trivial⟩ trivial ⟨rfl, trivial⟩ rfl
  ·
   replace h2 := of_decide_eq_false h2
   refine zAi ?_
   refine zAB ?_
   have hkk : k = l.length := (by omega)
   have hs : zCK l = l := by rw [zCK, ← hkk, hC, List.take_of_length_le (by omega)]
   rw [hs]
   refine zAA rfl (.m rfl rfl (.a rfl rfl .nil)) ?_
   refine zAI ?_
   exact ends [_] [100000] (.cons (.tmp rfl) .nil) (.cons (.one (.row (len := (pvT l).length) (xs := pvT l) rfl rfl) (.sl _ _ (FlatP.clean (zED _)))) .nil) (by decide) ⟨trivial, trivial⟩
end Go.Rl
namespace Go.Rl
open Go.Proofs Go.Proofs.Tryd
set_option maxRecDepth 1000000
set_option maxHeartbeats 2000000
theorem en100 : En Tryd.prog 100 := zAh func100 (by decide) rfl
def usrN (l : List Ent) (i : Nat) : List ByteArray := (l.take i).map fun e => e.user
theorem zNo {l : List Ent} {i : Nat} (h : i ≤ l.length) : (usrN l i).length = i := by simp [usrN]; omega
theorem zNp {l : List Ent} {i : Nat} (h : l.length ≤ i) : zCK (usrN l i) = zAz l := by rw [usrN, List.take_of_length_le h]; rfl
theorem zMA (l : List Ent) (hl : l.length ≤ 2000000) : Con Tryd.prog 71 [.one (PV.sl false 4 (pvE l))] [] [.one (.sl true 1 (pvT (zAz l)))] := by
 refine zAR func71 rfl rfl rfl rfl ?_
 have hle := zAf l
 refine zAB (zAA rfl (.a rfl rfl .nil) ?_)
 refine zAB (zAA rfl (.run [600] [] rfl (zAv rfl 600 underlying59 inf9 (nle rfl) (by decide) rfl rfl rfl .nil (by decide) rfl (by decide) rfl (by decide) rfl) (.a rfl rfl .nil)) ?_)
 refine zAB ?_
 refine zAB (zAA rfl (.m rfl rfl (.r rfl (zAp rfl rfl underlying28) (.m rfl rfl .nil))) ?_)
 refine zAS ?_
 refine zAO (zCd 600 1 rfl rfl (by decide)) ?_
 refine zAj (σ := Nat) (fun i => mk [(3, .sl 1 0 ((pvT (usrN l i)).length)), (7, .p none (.sl false 4 (pvE l))), (8, .vi ((pvE l).length : Int)), (9, .vi (i:Int))] [] [(1, 1, pvT (usrN l i))]) (fun i => i ≤ l.length) (fun i => l.length - i) 0 (by simp) (zAJ ⟨rfl, rfl, rfl, (zAE (by omega)), trivial⟩ trivial ⟨(congrArg (fun x => some (1, x)) (by rfl)), trivial⟩ rfl) ?_
 rintro i hG
 replace hG : i ≤ l.length := hG
 have hlu := zBG (usrN l i)
 have hun := zNo hG
 refine zAB (zAA rfl (.r rfl (zAt rfl rfl rfl) .nil) ?_)
 refine zAB ?_
 refine zAT (t := decide ((i:Int) < ((pvE l).length : Int))) rfl (fun h1 => ?_) (fun h1 => ?_)
 ·
  replace h1 := of_decide_eq_true h1
  refine zAK ?_
  refine zAB ?_
  refine zAS ?_
  refine zAB ?_
  obtain ⟨e, he⟩ : ∃ e, l[i]? = some e := ⟨_, List.getElem?_eq_getElem (by (have hL := zAf l; omega))⟩
  have hlte := (List.getElem?_eq_some_iff.1 he).1
  refine zAA rfl (.r rfl (zAq rfl rfl rfl underlying28 sizeOf58 rfl (by omega) (zBZ he)) (.r rfl (zBY rfl rfl isAgg58 sizeOf58 (nle rfl)) (.run [] [5] rfl (zBA rfl 5 zEH rfl (by decide) rfl (by decide)) (.r rfl (zAN rfl rfl rfl rfl rfl sizeOf58 rfl (nle rfl)) .nil)))) ?_
  refine zAA rfl (.m rfl rfl (.r rfl (zAC rfl rfl underlying58 rfl sizeOf56 (by decide)) (.r rfl (zAC rfl rfl underlying56 rfl sizeOf9 (by decide)) (.r rfl (zAD rfl rfl rfl isAgg9 rfl) (.run [1700] [] rfl (zAv rfl 1700 underlying59 inf9 (nle rfl) (by decide) rfl rfl rfl (.cons .v .nil) (by decide) rfl (by decide) rfl (by decide) rfl) (.run [1] [] rfl (zB6 rfl 1 (ib := 1) (len := ((pvT (usrN l i)) ++ [[PV.v (.string e.user)]]).length) rfl rfl (.row (len := (pvT (usrN l i)).length) (xs := pvT (usrN l i)) rfl rfl (.inl rfl)) (.give (len := 1) (xs := [[PV.v (.string e.user)]]) rfl rfl) underlying59 (sk underlying59 rfl) inf9 rfl (by decide) (by decide) (by decide) List.length_append (by simp only [maxLen, List.length_append, List.length_cons, List.length_nil, zBG]; omega) (by simp only [maxLen, List.length_append, List.length_cons, List.length_nil, zBG]; omega)) (.a rfl rfl .nil))))))) ?_
  have hr2 : (pvT (usrN l i)) ++ [[PV.v (.string e.user)]] = pvT (usrN l (i + 1)) := by simp [pvT, usrN, List.take_add_one, he]
  have hp3 : (.sl 1 0 (((pvT (usrN l i)) ++ [[PV.v (.string e.user)]]).length) : AV) = .sl 1 0 ((pvT (usrN l (i + 1))).length) := by simp only [hr2]
  refine zAO (s' := mk [(3, .sl 1 0 ((pvT (usrN l (i + 1))).length)), (7, .p none (.sl false 4 (pvE l))), (8, .vi ((pvE l).length : Int)), (9, .vi (i:Int))] [] [(1, 1, pvT (usrN l (i + 1)))]) ?_ ?_
  · exact zAJ ⟨hp3, rfl, rfl, rfl, trivial⟩ trivial ⟨(congrArg (fun x => some (1, x)) hr2), trivial⟩ rfl
  refine zAA rfl (.r rfl (zAW rfl rfl rfl (by omega)) (.m rfl rfl .nil)) ?_
  refine nxt (Q := fun _ _ => False) (z := i) (i + 1) ?_ ?_ ?_
  ·
   show (i + 1) ≤ l.length
   omega
  ·
   show l.length - (i + 1) < l.length - i
   omega
  · exact zAJ ⟨rfl, rfl, rfl, (zAE (by omega)), trivial⟩ trivial ⟨rfl, trivial⟩ rfl
 ·
  replace h1 := of_decide_eq_false h1
  refine zAi ?_
  refine zAB ?_
  rw [← zNp (i := i) (by omega)]
  refine zAA rfl (.m rfl rfl (.run [1, 2100] [] rfl (zAF rfl 2100 (X := [1]) en100 rfl (.val nod) (.cons (.one (.own (len := (pvT (usrN l i)).length) (xs := pvT (usrN l i)) rfl rfl)) .nil) (by decide) (all_cons rfl all_nil) (.gone .nil) (zJU (usrN l i) (by omega)) rfl rfl (nle rfl)) (.a rfl rfl .nil))) ?_
  refine zAI ?_
  exact ends [_] [2100] (.cons (.tmp rfl) .nil) (.cons (.one (.row (len := (pvT (zCK (usrN l i))).length) (xs := pvT (zCK (usrN l i))) rfl rfl) (.sl _ _ (FlatP.clean (zED _)))) .nil) (by decide) trivial
end Go.Rl
namespace Go.Rl
def pvBo (l : List Bool) : List (List PV) := l.map fun b => [.v (.bool b)]
def setK (n : List Bool) (j : Int) : List Bool := if 0 ≤ j then n.set j.toNat true else n
def markPs (l : List Ent) (u : ByteArray) (ps : List Int) (n : List Bool) : List Bool := ps.foldl (fun n s => setK n (idxF (asOf u s) l)) n
def markUs (l : List Ent) (ps : List Int) (us : List ByteArray) (n : List Bool) : List Bool := us.foldl (fun n u => markPs l u ps n) n
def marksF (l : List Ent) (ps : List Int) : List Bool := markUs l ps (zAz l) (List.replicate l.length false)
end Go.Rl
namespace Go.Rl
open Go.Proofs
theorem idx_bnd {α : Type} {p : α → Bool} {l : List α} (h : 0 ≤ idxF p l) : (idxF p l).toNat < l.length := by
 unfold idxF at h ⊢
 cases hf : l.findIdx? p with
 | none => rw [hf] at h; simp at h
 | some q => simp only [Int.toNat_natCast]; exact (List.findIdx?_eq_some_iff_getElem.1 hf).1
end Go.Rl
namespace Go.Rl
open Go.Proofs
end Go.Rl
namespace Go.Rl
open Go.Proofs
theorem zLL (a : List Ent) (hl : a.length ≤ 1000000000) : Con Tryd.prog 12 [.one (PV.sl false 4 (pvE a)), .one (PV.sl false 4 (pvE a))] [] [.one (.v (.bool true))] := by
 simpa using zJR a a hl
theorem zMg : reachBytes ≤ 9223372036854775807 := by decide
end Go.Rl
namespace Go.Rl
@[reducible] def modU : IntKind → Nat
 | .u8 => 256
 | .u16 => 65536
 | .u32 => 4294967296
 | _ => 18446744073709551616
theorem zIH {k : IntKind} (hs : k.signed = false) : modU k = 2 ^ k.bits := by cases k <;> simp_all [IntKind.signed, IntKind.bits]
theorem zKc {k : IntKind} (hs : k.signed = false) (x : Int) : k.wrap x = x % (modU k : Nat) := by
 rw [zIH hs]
 cases k <;> simp_all [IntKind.signed, IntKind.wrap, IntKind.bits]
theorem zCt {k : IntKind} (hs : k.signed = false) (a : Nat) : k.wrap (a : Int) = ((a % modU k : Nat) : Int) := by rw [zKc hs]; omega
theorem zEf (w a : Nat) : BitVec.ofInt w (a : Int) = BitVec.ofNat w a := by simp
theorem zLR {k : IntKind} (hs : k.signed = false) (a b : Nat) : zDz .xor k (a : Int) (b : Int) = (((a ^^^ b) % modU k : Nat) : Int) := by
 simp only [zDz, zEf, BitVec.toNat_xor, BitVec.toNat_ofNat]
 rw [zCt hs, zIH hs, ← Nat.xor_mod_two_pow, Nat.mod_mod]
theorem zOp {k : IntKind} (hs : k.signed = false) (a b : Nat) : zDz .and k (a : Int) (b : Int) = (((a &&& b) % modU k : Nat) : Int) := by
 simp only [zDz, zEf, BitVec.toNat_and, BitVec.toNat_ofNat]
 rw [zCt hs, zIH hs, ← Nat.and_mod_two_pow, Nat.mod_mod]
theorem bits_or {k : IntKind} (hs : k.signed = false) (a b : Nat) : zDz .or k (a : Int) (b : Int) = (((a ||| b) % modU k : Nat) : Int) := by
 simp only [zDz, zEf, BitVec.toNat_or, BitVec.toNat_ofNat]
 rw [zCt hs, zIH hs, ← Nat.or_mod_two_pow, Nat.mod_mod]
section
variable {γ : Gho} {P : Program} {n : Nat} {o : Oper} {M B : List Nat} {s : St} {xt yt : TypeId} {x y : Operand} {d d' : Option Nat} {k k' : IntKind}
theorem zB4 (w : Nat) (hw : modU k = w) (a b : Nat) (hs : k.signed = false) (ho : o.op = .binOp .xor xt x y yt) (hx : s.ev x = .p d (.v (.int k (a : Int)))) (hy : s.ev y = .p d' (.v (.int k (b : Int)))) : StepD γ P n o M B s { put := (.p none (.v (.int k (((a ^^^ b) % w : Nat) : Int)))) } := by
 subst hw
 rw [← zLR hs]; exact zGN ho (.inr (.inr (.inl rfl))) hx hy
theorem zGO (w : Nat) (hw : modU k = w) (a b : Nat) (hs : k.signed = false) (ho : o.op = .binOp .and xt x y yt) (hx : s.ev x = .p d (.v (.int k (a : Int)))) (hy : s.ev y = .p d' (.v (.int k (b : Int)))) : StepD γ P n o M B s { put := (.p none (.v (.int k (((a &&& b) % w : Nat) : Int)))) } := by
 subst hw
 rw [← zOp hs]; exact zGN ho (.inl rfl) hx hy
theorem zC1 (w : Nat) (hw : modU k = w) (a b : Nat) (hs : k.signed = false) (ho : o.op = .binOp .or xt x y yt) (hx : s.ev x = .p d (.v (.int k (a : Int)))) (hy : s.ev y = .p d' (.v (.int k (b : Int)))) : StepD γ P n o M B s { put := (.p none (.v (.int k (((a ||| b) % w : Nat) : Int)))) } := by
 subst hw
 rw [← bits_or hs]; exact zGN ho (.inr (.inl rfl)) hx hy
theorem zFW (w : Nat) (hw : modU k = w) (a b : Nat) (hs : k.signed = false) (ho : o.op = .binOp .add xt x y yt) (hx : s.ev x = .p d (.v (.int k (a : Int)))) (hy : s.ev y = .p d' (.v (.int k (b : Int)))) : StepD γ P n o M B s { put := (.p none (.v (.int k (((a + b) % w : Nat) : Int)))) } := by
 subst hw
 have h := zOz (γ := γ) (P := P) (n := n) (M := M) (B := B) ho hx hy
 rw [show ((a : Int) + (b : Int)) = ((a + b : Nat) : Int) from (Int.natCast_add a b).symm, zCt hs] at h
 exact h
theorem zDR (w : Nat) (hw : modU k = w) (a b : Nat) (hs : k.signed = false) (ho : o.op = .binOp .mul xt x y yt) (hx : s.ev x = .p d (.v (.int k (a : Int)))) (hy : s.ev y = .p d' (.v (.int k (b : Int)))) : StepD γ P n o M B s { put := (.p none (.v (.int k (((a * b) % w : Nat) : Int)))) } := by
 subst hw
 have h := zOy (γ := γ) (P := P) (n := n) (M := M) (B := B) ho hx hy
 rw [← Int.natCast_mul, zCt hs] at h
 exact h
theorem zD7 (w : Nat) (hw : modU k = w) (a b : Nat) (hs : k.signed = false) (ho : o.op = .binOp .quo xt x y yt) (hx : s.ev x = .p d (.v (.int k (a : Int)))) (hy : s.ev y = .p d' (.v (.int k (b : Int)))) (hb : 0 < b) : StepD γ P n o M B s { put := (.p none (.v (.int k (((a / b) % w : Nat) : Int)))) } := by
 subst hw
 rw [← zCt hs, Int.natCast_ediv, ← Int.tdiv_eq_ediv_of_nonneg (Int.natCast_nonneg a)]; exact zDF ho hx hy (by omega)
theorem zCR (a b : Nat) (ho : o.op = .binOp .rem xt x y yt) (hx : s.ev x = .p d (.v (.int k (a : Int)))) (hy : s.ev y = .p d' (.v (.int k (b : Int)))) (hb : 0 < b) : StepD γ P n o M B s { put := (.p none (.v (.int k ((a % b : Nat) : Int)))) } := by
 have : ((a % b : Nat) : Int) = (a : Int).tmod (b : Int) := by rw [Int.tmod_eq_emod_of_nonneg (Int.natCast_nonneg a)]; exact Int.natCast_emod a b
 rw [this]; exact zIo ho hx hy (by omega)
theorem zCi (w : Nat) (hw : modU k = w) (a c : Nat) (hs : k.signed = false) (ho : o.op = .binOp .shl xt x y yt) (hx : s.ev x = .p d (.v (.int k (a : Int)))) (hy : s.ev y = .p d' (.v (.int k' (c : Int)))) (hc : c ≤ k.bits) : StepD γ P n o M B s { put := (.p none (.v (.int k (((a * 2 ^ c) % w : Nat) : Int)))) } := by
 subst hw
 have h := zKi (γ := γ) (P := P) (n := n) (M := M) (B := B) ho hx hy (Int.natCast_nonneg c)
 rw [Int.toNat_natCast, Nat.min_eq_left hc, show ((a : Int) * 2 ^ c) = ((a * 2 ^ c : Nat) : Int) by push_cast; rfl, zCt hs] at h
 exact h
theorem zBg (a c : Nat) (ho : o.op = .binOp .shr xt x y yt) (hx : s.ev x = .p d (.v (.int k (a : Int)))) (hy : s.ev y = .p d' (.v (.int k' (c : Int)))) (hc : c ≤ k.bits) : StepD γ P n o M B s { put := (.p none (.v (.int k ((a / 2 ^ c : Nat) : Int)))) } := by
 have h := st_shr (γ := γ) (P := P) (n := n) (M := M) (B := B) ho hx hy (Int.natCast_nonneg c)
 rw [Int.toNat_natCast, Nat.min_eq_left hc, show ((a : Int).fdiv (2 ^ c)) = ((a / 2 ^ c : Nat) : Int) by rw [Int.fdiv_eq_ediv_of_nonneg _ (by exact Int.le_of_lt (Int.pow_pos (by decide)))]; push_cast; rfl] at h
 exact h
theorem st_comU (w : Nat) (hw : modU k = w) (a : Nat) (hs : k.signed = false) (ho : o.op = .unOp .xor xt x) (hx : s.ev x = .p d (.v (.int k (a : Int)))) : StepD γ P n o M B s { put := (.p none (.v (.int k ((((w - 1) ^^^ a) % w : Nat) : Int)))) } := by
 subst hw
 rw [← zLR hs]
 have h := st_com (γ := γ) (P := P) (n := n) (M := M) (B := B) ho hx
 have hm : ((modU k - 1 : Nat) : Int) = if k.signed then -1 else k.max := by cases k <;> simp_all [IntKind.signed, IntKind.max, IntKind.bits]
 rw [hm]; exact h
theorem zAe (w : Nat) (hw : modU k' = w) (a : Nat) {t u : TypeId} {ds : TypeDesc} (hs : k'.signed = false) (ho : o.op = .convert t u x) (hx : s.ev x = .p d (.v (.int k (a : Int)))) (ht : P.underlying t = some ds) (hu : P.underlying u = some (.int k')) : StepD γ P n o M B s { put := .p none (.v (.int k' ((a % w : Nat) : Int))) } := by
 subst hw
 rw [← zCt hs]; exact zD9 ho hx ht hu
end
end Go.Rl
namespace Go.Proofs
open Go.RowKit
def Bw.Reads (Bs : Nat) (zs : List Int) (W : World) : Prop :=
 ((∃ A c, W.cell? ⟨Bs, 0, none⟩ = some (.slice A 0 c)) ∧ zs = []) ∨ ∃ b off cap, W.cell? ⟨Bs, 0, none⟩ = some (.slice (some ⟨b, off, none⟩) zs.length cap) ∧ ∀ (j : Nat) (z : Int), zs[j]? = some z → W.cell? ⟨b, off + j, none⟩ = some (.int .i64 z)
def Bw.enc (zs : List Int) (k : Fin zs.length) : Array Value := #[.int .i64 (k.1 : Int), .int .i64 (zs[k.1]'k.2)]
def Bw.upto (zs : List Int) : Nat → List (Fin zs.length)
 | 0 => []
 | k + 1 => Bw.upto zs k ++ (if h : zs.length - 1 - k < zs.length then [⟨zs.length - 1 - k, h⟩] else [])
def Bw.Contract (P : Program) (gf : Nat) : Prop :=
 ∀ (F : Fence) (n : Nat), F.fn gf → F.round = none → 1 ≤ n → ∀ (l Bs : Nat) (zs : List Int), zs.length ≤ 1000000000 → ∀ (J Jx : List (Fin zs.length) → World → Prop),
  (∀ pre x W, J pre W → pre.length < zs.length → YieldAt F (n - 1) P l (Bw.enc zs x) W fun e W' =>
   (e = .returned (.bool true) ∧ J (pre ++ [x]) W' ∧ (Bw.Reads Bs zs W → Bw.Reads Bs zs W')) ∨ (e = .returned (.bool false) ∧ Jx (pre ++ [x]) W')) →
  ∀ W : World, Bw.Reads Bs zs W → J [] W →
   CallsIn F n P gf #[.func (.yield l) #[] #[], .pointer (some ⟨Bs, 0, none⟩)] W fun e W' => (∃ v, e = .returned v) ∧
    ((∃ ys, ys = Bw.upto zs zs.length ∧ J ys W') ∨ (∃ pre, True ∧ Jx pre W'))
theorem Bw.Reads.below {Bs : Nat} {zs : List Int} {A B : World} {n₀ : Nat} (h : Below n₀ A B) (hn : A.heap.size ≤ n₀) (hr : Bw.Reads Bs zs A) : Bw.Reads Bs zs B := by
 have old : ∀ (k j : Nat) v, A.cell? ⟨k, j, none⟩ = some v → B.cell? ⟨k, j, none⟩ = some v := fun k j v hv => by
  have hk : k < A.heap.size := by
   cases e : A.heap[k]? with
   | none => simp [World.cell?, e] at hv
   | some o => exact (Array.getElem?_eq_some_iff.1 e).1
  exact (h.cell (p := ⟨k, j, none⟩) (Nat.lt_of_lt_of_le hk hn)).trans hv
 rcases hr with ⟨⟨A, c, h1⟩, h2⟩ | ⟨b, off, cap, h1, h2⟩
 · exact .inl ⟨⟨A, c, old _ _ _ h1⟩, h2⟩
 · exact .inr ⟨b, off, cap, old _ _ _ h1, fun j z hz => old _ _ _ (h2 j z hz)⟩
theorem Bw.Contract.stops {P : Program} {gf : Nat} (hC : Bw.Contract P gf) {F : Fence} {n : Nat} (hf : F.fn gf) (hro : F.round = none) (hn : 1 ≤ n) {Bs : Nat} {zs : List Int} (hz : zs.length ≤ 1000000000) {w : World} (hr : Bw.Reads Bs zs w) :
  SeqStopsK F n P gf #[.pointer (some ⟨Bs, 0, none⟩)] (Bw.enc zs) (fun A B => Bw.Reads Bs zs A → Bw.Reads Bs zs B) (fun xs => xs = Bw.upto zs zs.length) (fun _ => True) zs.length w := fun l J Jx W hW _ _ hY h0 =>
 hC F n hf hro hn l Bs zs hz J Jx hY W (hr.below hW (Nat.le_refl _)) h0
end Go.Proofs
namespace Go.Rl
open Go.Proofs
def older (out : List Ent) (e : Ent) : Bool := match out with
 | [] => false
 | o :: _ => decide (o.user = e.user)
def cstep (bot : Bool) (out : List Ent) (e : Ent) : List Ent := if (bot && decide (e.kind = 0) && !older out e) = true then out else e :: out
def cplace (l : List Ent) (bot : Bool) (out : List Ent) (z : Int) : List Ent := match l[z.toNat]? with
 | some e => cstep bot out e
 | none => out
def compP (l : List Ent) (bot : Bool) (zs : List Int) (pre : List (Fin zs.length)) : List Ent := pre.foldl (fun out x => cplace l bot out (zs[x.1]'x.2)) []
def compU (l : List Ent) (bot : Bool) (zs : List Int) (k : Nat) : List Ent := compP l bot zs (Bw.upto zs k)
def compactedF (l : List Ent) (s : List Int) (bot : Bool) : List Ent := if zBJ l = true ∧ zMS s = true then compU l bot (zOM l (zKG s) l.length) (zOM l (zKG s) l.length).length else []
def lastU (out : List Ent) : ByteArray := match out with
 | [] => ⟨#[]⟩
 | o :: _ => o.user
def anyE (out : List Ent) : Bool := match out with
 | [] => false
 | _ :: _ => true
def pvE_rev (l : List Ent) : List (List PV) := pvE l.reverse
def Swapped (l m : List Ent) (i : Nat) : Prop := m.length = l.length ∧ ∀ k, k < l.length → m[k]? = if k < i ∨ l.length - i ≤ k then l[l.length - 1 - k]? else l[k]?
end Go.Rl
namespace Go.Rl
def pvRd (x : Value × Nat) : List (List PV) := [[.v x.1, .v (.int .i64 x.2)]]
def zOL (bs : List Nat) (p : Nat) : Nat := bs.getD p 0
def zMv (bs : List Nat) (p : Nat) : Nat := if p < bs.length then p + 1 else p
def zCq (bs : List Nat) (p n : Nat) : Nat := if n ≤ 1 then 0 else if n ≤ 256 then zOL bs p % n else (zOL bs p * 256 + zOL bs (zMv bs p)) % n
def zB3 (bs : List Nat) (p n : Nat) : Nat := if n ≤ 1 then p else if n ≤ 256 then zMv bs p else zMv bs (zMv bs p)
def zNm (x : Int) (v : Nat) : Int := zDz .or .u64 (IntKind.u64.wrap (x * 2 ^ min (8 : Int).toNat IntKind.u64.bits)) (IntKind.u64.wrap (v : Int))
def wordF (bs : List Nat) : Nat → Int → Nat → Int × Nat
 | 0, x, p => (x, p)
 | n + 1, x, p => wordF bs n (zNm x (zOL bs p)) (zMv bs p)
def wordV (bs : List Nat) (p : Nat) : Int := (wordF bs 8 0 p).1
def wordP (bs : List Nat) (p : Nat) : Nat := (wordF bs 8 0 p).2
def nearV (bs : List Nat) (p : Nat) (low high : Int) : Int :=
 if zCq bs p 8 = 0 then low else if zCq bs p 8 = 1 then high else if high < low then low
 else IntKind.i64.wrap (low + IntKind.i64.wrap (((wordV bs (zB3 bs p 8)).fdiv (2 ^ min (1 : Int).toNat IntKind.u64.bits)).tmod (IntKind.u64.wrap (high - low + 1))))
def nearP (bs : List Nat) (p : Nat) (low high : Int) : Nat :=
 if zCq bs p 8 = 0 then zB3 bs p 8 else if zCq bs p 8 = 1 then zB3 bs p 8 else if high < low then zB3 bs p 8 else wordP bs (zB3 bs p 8)
def zMu (bs : List Nat) (p n : Nat) : Bool := decide (zCq bs p n = n - 1)
def offL (low high : Int) : List Int := [low - 1, high + 1, -9223372036854775808, 9223372036854775807]
def offV (bs : List Nat) (p : Nat) (low high : Int) : Int :=
 if zMu bs p 24 = true then (offL low high).getD (zCq bs (zB3 bs p 24) 4) 0 else nearV bs (zB3 bs p 24) low high
def offP (bs : List Nat) (p : Nat) (low high : Int) : Nat :=
 if zMu bs p 24 = true then zB3 bs (zB3 bs p 24) 4 else nearP bs (zB3 bs p 24) low high
theorem getD_some {α : Type} {l : List α} {k : Nat} {d : α} (h : k < l.length) : l[k]? = some (l.getD k d) := by
 rw [List.getD_eq_getElem?_getD, List.getElem?_eq_getElem h]
 rfl
def usersL : List ByteArray := [⟨#[97]⟩, ⟨#[98]⟩, ⟨#[97, 98]⟩, ⟨#[97, 98, 99]⟩, ⟨#[97, 98, 100]⟩, ⟨#[107, 101, 121]⟩, ⟨#[107, 101, 121, 49]⟩, ⟨#[107, 101, 121, 50]⟩, ⟨#[122, 122]⟩, ⟨#[97, 0]⟩]
def userV (bs : List Nat) (p : Nat) : ByteArray := usersL.getD (zCq bs p 10) ⟨#[]⟩
def userP (bs : List Nat) (p : Nat) : Nat := zB3 bs p 10
end Go.Rl
namespace Go.Rl
section
variable {X : List (List PV)} {k : Nat} {z : List PV}
abbrev delL (X : List (List PV)) (k : Nat) : Nat := k + (X.length - (k + 1))
end
def cntF {α : Type} (p : α → Bool) (l : List α) : Nat := (l.takeWhile p).length
def MonoP {α : Type} (p : α → Bool) (l : List α) : Prop := ∀ (i j : Nat) x y, i ≤ j → l[i]? = some x → l[j]? = some y → p y = true → p x = true
def Halves {α : Type} (p : α → Bool) (l : List α) (i j : Nat) : Prop := (∀ (k : Nat) x, k < i → l[k]? = some x → p x = true) ∧ ∀ (k : Nat) x, j ≤ k → l[k]? = some x → p x = false
end Go.Rl
namespace Go.Rl
theorem zJy (ns : List Int) : ∀ r : ByteArray, (ns.foldl (fun r n => r.push (UInt8.ofNat n.toNat)) r).size = r.size + ns.length := by
 induction ns with
 | nil => intro r; simp
 | cons n ns ih => intro r; rw [List.foldl_cons, ih, ByteArray.size_push, List.length_cons]; omega
theorem zDO (ns : List Int) : (zBv ns).size = ns.length := by
 have := zJy ns ByteArray.empty
 simpa [zBv] using this
def pvU (l : List Int) : List (List PV) := l.map fun n => [.v (.int .u8 n)]
def zPL (bs : List Nat) : Nat → List Int → Nat → List Int × Nat
 | 0, l, p => (l, p)
 | n + 1, l, p => zPL bs n (l ++ [IntKind.u8.wrap ((zCq bs p 256 : Nat) : Int)]) (zB3 bs p 256)
def zPK (bs : List Nat) (p most : Nat) : List Int × Nat := zPL bs (zCq bs p (most + 1)) [] (zB3 bs p (most + 1))
def bytesV (bs : List Nat) (p most : Nat) : ByteArray := zBv (zPK bs p most).1
def bytesP (bs : List Nat) (p most : Nat) : Nat := (zPK bs p most).2
def valuesL : List ByteArray := [⟨#[]⟩, ⟨#[49]⟩, ⟨#[50]⟩, ⟨#[118, 97, 108, 117, 101]⟩, ⟨#[118, 118]⟩]
def valueV (bs : List Nat) (p : Nat) : ByteArray := valuesL.getD (zCq bs p 5) ⟨#[]⟩
def key0 (bs : List Nat) (p : Nat) : Ent := ⟨userV bs p, nearV bs (userP bs p) 0 12, ((zCq bs (nearP bs (userP bs p) 0 12) 2 : Nat) : Int), ⟨#[]⟩⟩
def zFa (bs : List Nat) (p : Nat) : Nat := zB3 bs (nearP bs (userP bs p) 0 12) 2
def keyV (bs : List Nat) (p : Nat) : Ent :=
 if zCq bs (zFa bs p) 24 = 0 then { key0 bs p with seq := offV bs (zB3 bs (zFa bs p) 24) 0 1000000000000 }
 else if zCq bs (zFa bs p) 24 = 1 then { key0 bs p with kind := offV bs (zB3 bs (zFa bs p) 24) 0 1 }
 else if zCq bs (zFa bs p) 24 = 2 then { key0 bs p with user := bytesV bs (zB3 bs (zFa bs p) 24) 45 }
 else key0 bs p
def keyP (bs : List Nat) (p : Nat) : Nat :=
 if zCq bs (zFa bs p) 24 = 0 then offP bs (zB3 bs (zFa bs p) 24) 0 1000000000000
 else if zCq bs (zFa bs p) 24 = 1 then offP bs (zB3 bs (zFa bs p) 24) 0 1
 else if zCq bs (zFa bs p) 24 = 2 then bytesP bs (zB3 bs (zFa bs p) 24) 45
 else zB3 bs (zFa bs p) 24
def ent0 (bs : List Nat) (p : Nat) : Ent := { keyV bs p with value := valueV bs (keyP bs p) }
def ent0P (bs : List Nat) (p : Nat) : Nat := zB3 bs (keyP bs p) 5
def zPH (bs : List Nat) (p : Nat) : Ent := if (ent0 bs p).kind = 0 then (if zMu bs (ent0P bs p) 12 = true then ent0 bs p else { ent0 bs p with value := ⟨#[]⟩ }) else ent0 bs p
def zPI (bs : List Nat) (p : Nat) : Nat := if (ent0 bs p).kind = 0 then zB3 bs (ent0P bs p) 12 else ent0P bs p
def zJo (out : List Ent) (e : Ent) : Nat := cntF (fun x => decide (kcmp x e < 0)) out
def sameKey (a b : Ent) : Bool := decide (a.user = b.user ∧ a.seq = b.seq ∧ a.kind = b.kind)
def entIns (out : List Ent) (e : Ent) : List Ent :=
 if zBt e = true then (match out[zJo out e]? with
  | some x => if (x.user, x.seq, x.kind) = (e.user, e.seq, e.kind) then out else out.take (zJo out e) ++ [e] ++ out.drop (zJo out e)
  | none => out.take (zJo out e) ++ [e] ++ out.drop (zJo out e)) else out
def zNR (bs : List Nat) : Nat → List Ent × Nat → List Ent × Nat
 | 0, x => x
 | i + 1, x => zNR bs i (entIns x.1 (zPH bs x.2), zPI bs x.2)
def entBase (bs : List Nat) (p most : Nat) : List Ent × Nat := zNR bs (zCq bs p (most + 1)) ([], zB3 bs p (most + 1))
def entsR (bs : List Nat) (p most : Nat) : List Ent × Nat :=
 let x := entBase bs p most
 if zMu bs x.2 24 = true then (x.1 ++ [zPH bs (zB3 bs x.2 24)], zPI bs (zB3 bs x.2 24)) else (x.1, zB3 bs x.2 24)
abbrev SnSt := List Int × Int × Nat
def snLast (out : List Int) (n : Int) : Bool := match out[out.length - 1]? with
 | some x => decide (x < n)
 | none => true
def snStep (bs : List Nat) (x : SnSt) : SnSt :=
 let n := x.2.1 + ((zCq bs x.2.2 6 : Nat) : Int)
 let q := zB3 bs x.2.2 6
 if snLast x.1 n = true then (x.1 ++ [n], n, q)
 else if zMu bs q 12 = true then (x.1 ++ [n], n, zB3 bs q 12) else (x.1, n, zB3 bs q 12)
def zO3 (bs : List Nat) : Nat → SnSt → SnSt
 | 0, x => x
 | i + 1, x => zO3 bs i (snStep bs x)
def zO2 (bs : List Nat) (p : Nat) : SnSt := zO3 bs (zCq bs p 4) ([], 0, zB3 bs p 4)
def snapsV (bs : List Nat) (p : Nat) : List Int := (zO2 bs p).1
def snapsP (bs : List Nat) (p : Nat) : Nat := (zO2 bs p).2.2
end Go.Rl
namespace Go.Rl
def putL (n : Nat) : List Int := if n < 128 then [(n : Int)] else ((n % 128 + 128 : Nat) : Int) :: putL (n / 128)
termination_by n
decreasing_by omega
theorem zID {n : Nat} (h : n < 128) : putL n = [(n : Int)] := by rw [putL, if_pos h]
theorem zKD {n : Nat} (h : ¬ n < 128) : putL n = ((n % 128 + 128 : Nat) : Int) :: putL (n / 128) := by rw [putL, if_neg h]
def putV (n : Nat) : ByteArray := zBv (putL n)
set_option maxRecDepth 100000 in
theorem or_128 (m : Nat) : ((m % 256) ||| 128) % 256 = m % 128 + 128 := by
 have key : ∀ r : Fin 256, (r.1 ||| 128) % 256 = r.1 % 128 + 128 := by decide
 have := key ⟨m % 256, Nat.mod_lt _ (by decide)⟩
 simp only at this
 omega
theorem zIE : ∀ (k n : Nat), n < 128 ^ (k + 1) → (putL n).length ≤ k + 1
 | 0, n, h => by rw [zID (by simpa using h)]; simp
 | k + 1, n, h => by
  by_cases hn : n < 128
  · rw [zID hn]; simp
  ·
   rw [zKD hn]
   have := zIE k (n / 128) (by rw [Nat.pow_succ] at h; exact Nat.div_lt_of_lt_mul (by rw [Nat.mul_comm]; exact h))
   simp only [List.length_cons]
   omega
theorem zA5 {n : Nat} (h : n < 18446744073709551616) : (putV n).size ≤ 10 := by
 rw [putV, zDO]
 exact zIE 9 n (Nat.lt_of_lt_of_le h (by decide))
def putX (s : ByteArray) : ByteArray := putV s.size ++ s
def fixL (x : Nat) : List Int := [((x % 256 : Nat) : Int), (((x / 2 ^ 8) % 256 : Nat) : Int), (((x / 2 ^ 16) % 256 : Nat) : Int), (((x / 2 ^ 24) % 256 : Nat) : Int)]
def fixV (x : Nat) : ByteArray := zBv (fixL x)
theorem zAU (x : Nat) : (fixV x).size = 4 := by rw [fixV, zDO]; rfl
def crcB (x : Nat) : Nat := if x % 2 = 1 then ((x / 2) ^^^ 2197175160) % 4294967296 else x / 2
def crcI : Nat → Nat → Nat
 | 0, x => x
 | k + 1, x => crcB (crcI k x)
def crcS (x b : Nat) : Nat := crcI 8 ((x ^^^ (b % 4294967296)) % 4294967296)
theorem crcB_lt {x : Nat} (h : x < 4294967296) : crcB x < 4294967296 := by
 unfold crcB
 split <;> omega
theorem zIY {x : Nat} (h : x < 4294967296) : ∀ k, crcI k x < 4294967296
 | 0 => h
 | k + 1 => crcB_lt (zIY h k)
theorem crcS_lt (x b : Nat) : crcS x b < 4294967296 := zIY (Nat.mod_lt _ (by decide)) 8
theorem zHn {α β : Type} {f : α → β → α} {a : α} {l : List β} {i : Nat} {b : β} (h : l[i]? = some b) : (l.take (i + 1)).foldl f a = f ((l.take i).foldl f a) b := by
 rw [List.take_add_one, h]
 simp [List.foldl_append]
def crcT (s : ByteArray) (i : Nat) : Nat := (s.data.toList.take i).foldl (fun x b => crcS x b.toNat) 4294967295
theorem zG0 {s : ByteArray} {i : Nat} {b : UInt8} (h : s.data.toList[i]? = some b) : crcT s (i + 1) = crcS (crcT s i) b.toNat := zHn (f := fun (x : Nat) (b : UInt8) => crcS x b.toNat) h
theorem zKR (s : ByteArray) : ∀ i, crcT s i < 4294967296
 | 0 => by simp [crcT]
 | i + 1 => by
  cases h : s.data.toList[i]? with
  | none =>
   have : crcT s (i + 1) = crcT s i := by unfold crcT; rw [List.take_add_one, h]; simp
   rw [this]; exact zKR s i
  | some b => rw [zG0 h]; exact crcS_lt _ _
def crcF (s : ByteArray) : Nat := (crcT s s.size ^^^ 4294967295) % 4294967296
theorem zNY (s : ByteArray) : crcF s < 4294967296 := Nat.mod_lt _ (by decide)
abbrev M64 : Nat := 18446744073709551616
def zND (h b : Nat) : Nat := (((h ^^^ (b % 18446744073709551616)) % 18446744073709551616) * 1099511628211) % 18446744073709551616
def zOQ (seed : Nat) : Nat := (14695981039346656037 ^^^ (((seed % 18446744073709551616) * 11400714819323198485) % 18446744073709551616)) % 18446744073709551616
def zB7 (seed : Nat) (s : ByteArray) (i : Nat) : Nat := (s.data.toList.take i).foldl (fun h b => zND h b.toNat) (zOQ seed)
theorem zHk {seed : Nat} {s : ByteArray} {i : Nat} {b : UInt8} (h : s.data.toList[i]? = some b) : zB7 seed s (i + 1) = zND (zB7 seed s i) b.toNat := zHn (f := fun (x : Nat) (b : UInt8) => zND x b.toNat) h
def mixA (h : Nat) : Nat := (((h ^^^ (h / 2 ^ 30)) % 18446744073709551616) * 13787848793156543929) % 18446744073709551616
def mixB (h : Nat) : Nat := (((h ^^^ (h / 2 ^ 27)) % 18446744073709551616) * 10723151780598845931) % 18446744073709551616
def mixC (h : Nat) : Nat := (h ^^^ (h / 2 ^ 31)) % 18446744073709551616
def zA2 (seed : Nat) (s : ByteArray) : Nat := mixC (mixB (mixA (zB7 seed s s.size)))
theorem zLF (seed : Nat) (s : ByteArray) : zA2 seed s < 18446744073709551616 := Nat.mod_lt _ (by decide)
def zCT : List UInt8 → List UInt8 → Nat
 | a :: l, b :: m => if a = b then zCT l m + 1 else 0
 | _, _ => 0
def zBN (a b : ByteArray) : Nat := zCT a.data.toList b.data.toList
theorem zHP : ∀ l m : List UInt8, zCT l m ≤ l.length ∧ zCT l m ≤ m.length
 | [], m => by simp [zCT]
 | a :: l, [] => by simp [zCT]
 | a :: l, b :: m => by
  have := zHP l m
  unfold zCT
  split <;> simp <;> omega
theorem zHQ : ∀ {l m : List UInt8} {n : Nat}, (∀ j x y, j < n → l[j]? = some x → m[j]? = some y → x = y) → n ≤ l.length → n ≤ m.length → (n = l.length ∨ n = m.length ∨ ∃ x y, l[n]? = some x ∧ m[n]? = some y ∧ x ≠ y) → zCT l m = n
 | [], m, n, _, h1, _, _ => by simp at h1; simp [zCT, h1]
 | a :: l, [], n, _, _, h2, _ => by simp at h2; simp [zCT, h2]
 | a :: l, b :: m, 0, _, _, _, h => by
  rcases h with h | h | ⟨x, y, hx, hy, hn⟩
  · simp at h
  · simp at h
  ·
   simp at hx hy
   subst hx hy
   simp [zCT, hn]
 | a :: l, b :: m, n + 1, hG, h1, h2, h => by
  have h0 := hG 0 a b (by omega) rfl rfl
  have := zHQ (l := l) (m := m) (n := n) (fun j x y hj hx hy => hG (j + 1) x y (by omega) (by simpa using hx) (by simpa using hy)) (by simpa using h1) (by simpa using h2) (by
   rcases h with h | h | ⟨x, y, hx, hy, hn⟩
   · exact .inl (by simpa using h)
   · exact .inr (.inl (by simpa using h))
   · exact .inr (.inr ⟨x, y, by simpa using hx, by simpa using hy, hn⟩))
  simp [zCT, h0, this]
end Go.Rl
namespace Go.Rl
theorem zFu (a b c : ByteArray) : a ++ b ++ c = a ++ (b ++ c) := ByteArray.append_assoc
theorem zAY (a b : ByteArray) : (a ++ b).size = a.size + b.size := ByteArray.size_append
theorem zPQ (s : ByteArray) : s.extract 0 s.size = s := by simp
theorem zEp {s : ByteArray} {i : Nat} {c : UInt8} (h : s[i]? = some c) : s.data.toList[i]? = some c := by
 have := (getElem?_eq_some_iff.1 h)
 obtain ⟨hi, hc⟩ := this
 rw [List.getElem?_eq_some_iff]
 exact ⟨hi, hc⟩
theorem zFt (s : ByteArray) : s.data.toList.length = s.size := by simp
def keyN (e : Ent) : Nat := (2 * e.seq + e.kind).toNat
def keyT (e : Ent) : ByteArray := e.user ++ fixV (keyN e % 4294967296) ++ fixV ((keyN e / 2 ^ 32) % 4294967296)
structure Blk where
 out : ByteArray
 anew : ByteArray
 ahead : ByteArray
 many : Nat
def blkS (ev i : Nat) (b : Blk) (e : Ent) : Blk :=
 if i % ev = 0 then ⟨b.out ++ putV 0 ++ putX (keyT e) ++ putX e.value, b.anew ++ fixV (b.out.size % 4294967296), keyT e, b.many + 1⟩
 else ⟨b.out ++ putV (zBN b.ahead (keyT e)) ++ putX ((keyT e).extract (zBN b.ahead (keyT e)) (keyT e).size) ++ putX e.value, b.anew, keyT e, b.many⟩
def blkN (l : List Ent) (ev : Nat) : Nat → Blk
 | 0 => ⟨⟨#[]⟩, ⟨#[]⟩, ⟨#[]⟩, 0⟩
 | i + 1 => match l[i]? with
  | some e => blkS ev i (blkN l ev i) e
  | none => blkN l ev i
theorem zCF {l : List Ent} {ev i : Nat} {e : Ent} (h : l[i]? = some e) : blkN l ev (i + 1) = blkS ev i (blkN l ev i) e := by simp [blkN, h]
def blkF (l : List Ent) (ev : Nat) : ByteArray := (blkN l ev l.length).out ++ (blkN l ev l.length).anew ++ fixV (blkN l ev l.length).many ++ fixV (ev % 4294967296)
theorem zJh {l : List Ent} {ev : Nat} : ∀ {i k : Nat}, i ≤ k → blkN (l.take k) ev i = blkN l ev i
 | 0, _, _ => rfl
 | i + 1, k, h => by
  have e1 : (l.take k)[i]? = l[i]? := by rw [List.getElem?_take, if_pos (by omega)]
  simp only [blkN, e1]
  rw [zJh (by omega)]
end Go.Rl
namespace Go.Rl
def zDx (h : Nat) : Nat := ((h / 2 ^ 33) ||| ((h * 2 ^ 31) % 18446744073709551616)) % 18446744073709551616
def bloomP (u : ByteArray) (i m : Nat) : Nat := ((zA2 0 u + (i * zDx (zA2 0 u)) % 18446744073709551616) % 18446744073709551616) % m
def zOm (bits : List Int) (p : Nat) : List Int := match bits[p / 8]? with
 | some b => bits.set (p / 8) ((((b.toNat ||| ((1 * 2 ^ (p % 8)) % 256)) % 256 : Nat) : Int))
 | none => bits
def zPM (bits : List Int) (u : ByteArray) (m : Nat) : Nat → List Int
 | 0 => bits
 | k + 1 => zOm (zPM bits u m k) (bloomP u k m)
def zPN (us : List ByteArray) (m n : Nat) (k : Nat) : Nat → List Int
 | 0 => List.replicate n 0
 | i + 1 => match us[i]? with
  | some u => zPM (zPN us m n k i) u m k
  | none => zPN us m n k i
def zCB (x : Nat) : Nat → Nat
 | 0 => 0
 | k + 1 => if x % 2 = 0 then zCB (x / 2) k + 1 else 0
theorem zL8 (x : Nat) : ∀ k, zCB x k ≤ k := by
 intro k
 induction k generalizing x with
 | zero => exact Nat.le_refl 0
 | succ k ih =>
  unfold zCB
  have := ih (x / 2)
  split <;> omega
def zBa (u : ByteArray) : Nat := zCB (zA2 7 u / 64) 57 + 1
def zC0 (u : ByteArray) : Nat := zA2 7 u % 64
end Go.Rl
namespace Go.Rl
theorem zJp {a b : Nat} (ha : a % 2 = 1) (hb : b % 2 = 1) : (a ^^^ b) % 2 = 0 := by
 have := Nat.xor_mod_two_pow (a := a) (b := b) (n := 1)
 simp only [Nat.pow_one] at this
 rw [this, ha, hb]
 rfl
def zO5 (m at_ row sum : Nat) (B S : List Nat) : Option (List Nat × List Nat) :=
 if h : at_ < m then
  if h0 : row = 0 then (if sum = 0 then some (B, S) else none)
  else if h1 : row % 2 = 0 then zO5 m (at_ + 1) (row / 2) sum B S
  else if B.getD at_ 0 = 0 then some (B.set at_ row, S.set at_ sum)
  else if h2 : B.getD at_ 0 % 2 = 0 then none
  else zO5 m at_ (row ^^^ B.getD at_ 0) (sum ^^^ S.getD at_ 0) B S
 else if row = 0 ∧ sum = 0 then some (B, S) else none
termination_by 2 * (m - at_) + row % 2
decreasing_by
 · omega
 ·
  have := zJp (a := row) (b := B.getD at_ 0) (by omega) (by omega)
  omega
end Go.Rl
namespace Go.Rl
open Go.Proofs Go.Proofs.Tryd
set_option maxRecDepth 1000000
set_option maxHeartbeats 2000000
theorem en98 : En Tryd.prog 98 := zAh func98 (by decide) rfl
theorem en26 : En Tryd.prog 26 := zAh func26 (by decide) rfl
theorem zGg (l : List Int) (x : Int) : pvB l ++ [[PV.v (.int .u8 x)]] = pvB (l ++ [x]) := by simp [pvB]
theorem zCP (l : List Int) : (pvB l).length = l.length := by simp [pvB]
theorem zMk {n : Nat} (h : n < 18446744073709551616) : (putL n).length ≤ 10 := zIE 9 n (Nat.lt_of_lt_of_le h (by decide))
theorem zI4 {out : List Int} {m n : Nat} (h : ¬ (m : Int) < 128) (hE : out ++ putL m = putL n) : (out ++ [((m % 128 + 128 : Nat) : Int)]) ++ putL (m / 128) = putL n := by rw [← hE, zKD (n := m) (by omega), List.append_assoc]; rfl
theorem zI5 {out : List Int} {m n : Nat} {x : Nat} (h : ¬ (128 : Int) ≤ (m : Int)) (hE : out ++ putL m = putL n) (hx : x = m) : pvB out ++ [[PV.v (.int .u8 (x : Int))]] = pvB (putL n) := by rw [← hE, zID (by omega), hx]; exact zGg _ _
theorem zNW {c : Nat} (h : (((c &&& 1) % 4294967296 : Nat) : Int) = 1) : c % 2 = 1 := by rw [Nat.and_one_is_mod] at h; omega
theorem zNX {c : Nat} (h : ¬ (((c &&& 1) % 4294967296 : Nat) : Int) = 1) : ¬ c % 2 = 1 := by rw [Nat.and_one_is_mod] at h; omega
theorem zNU {c : Nat} (h : ((c % 2 : Nat) : Int) = 1) : c % 2 = 1 := by omega
theorem zNV {c : Nat} (h : ¬ ((c % 2 : Nat) : Int) = 1) : ¬ c % 2 = 1 := by omega
theorem zHb (n : Nat) (hn : n < 18446744073709551616) : Con Tryd.prog 98 [.one (PV.v (.int .u64 (n:Int)))] [] [.one (.v (.string (putV n)))] := by
 refine zAR func98 rfl rfl rfl rfl ?_
 refine zAB (zAA rfl (.a rfl rfl .nil) ?_)
 refine zAB (zAA rfl (.run [400] [] rfl (zAv rfl 400 underlying90 inf5 (nle rfl) (by decide) rfl rfl rfl .nil (by decide) rfl (by decide) rfl (by decide) rfl) (.a rfl rfl .nil)) ?_)
 refine zAB ?_
 refine zAS ?_
 refine zAO (zCd 400 1 rfl rfl (by decide)) ?_
 refine zAj (σ := Nat × List Int) (fun (m, out) => mk [(0, .p none (.v (.int .u64 (m:Int)))), (3, .sl 1 0 ((pvB out).length))] [] [(1, 1, pvB out)]) (fun (m, out) => m < 18446744073709551616 ∧ out ++ putL m = putL n) (fun (m, out) => m) (n, []) ⟨hn, rfl⟩ (zAJ ⟨rfl, rfl, trivial⟩ trivial ⟨(congrArg (fun x => some (1, x)) (by rfl)), trivial⟩ rfl) ?_
 rintro ⟨m, out⟩ hG
 replace hG : m < 18446744073709551616 ∧ out ++ putL m = putL n := hG
 obtain ⟨hm, hE⟩ := hG
 have hlo := congrArg List.length hE
 rw [List.length_append] at hlo
 have hln := zMk hn
 have hob := zCP out
 refine zAB ?_
 refine zAB (zAA rfl (.m rfl rfl (.r rfl (zDH rfl rfl rfl) .nil)) ?_)
 refine zAT (t := decide (128 ≤ (m:Int))) rfl (fun h1 => ?_) (fun h1 => ?_)
 ·
  replace h1 := of_decide_eq_true h1
  refine zAK ?_
  refine zAB ?_
  refine zAS ?_
  refine zAA rfl (.m rfl rfl (.m rfl rfl (.r rfl (zAe (k' := .u8) 256 rfl m rfl rfl rfl underlying53 underlying5) (.r rfl (zC1 (k := .u8) 256 rfl (m % 256) 128 rfl rfl rfl rfl) (.run [1300] [] rfl (zAv rfl 1300 underlying90 inf5 (nle rfl) (by decide) rfl rfl rfl (.cons .v .nil) (by decide) rfl (by decide) rfl (by decide) rfl) (.run [1] [] rfl (zB6 rfl 1 (ib := 1) (len := ((pvB out) ++ [[PV.v (.int .u8 ((((m % 256) ||| 128) % 256 : Nat) : Int))]]).length) rfl rfl (.row (len := (pvB out).length) (xs := pvB out) rfl rfl (.inl rfl)) (.give (len := 1) (xs := [[PV.v (.int .u8 ((((m % 256) ||| 128) % 256 : Nat) : Int))]]) rfl rfl) underlying90 (sk underlying90 rfl) inf5 rfl (by decide) (by decide) (by decide) List.length_append (by simp only [maxLen, List.length_append, List.length_cons, List.length_nil, zCP]; omega) (by simp only [maxLen, List.length_append, List.length_cons, List.length_nil, zCP]; omega)) (.a rfl rfl .nil))))))) ?_
  have hr2 : (pvB out) ++ [[PV.v (.int .u8 ((((m % 256) ||| 128) % 256 : Nat) : Int))]] = pvB (out ++ [((m % 128 + 128 : Nat) : Int)]) := by rw [or_128]; exact zGg _ _
  have hp3 : (.sl 1 0 (((pvB out) ++ [[PV.v (.int .u8 ((((m % 256) ||| 128) % 256 : Nat) : Int))]]).length) : AV) = .sl 1 0 ((pvB (out ++ [((m % 128 + 128 : Nat) : Int)])).length) := by simp only [hr2]
  refine zAO (s' := mk [(0, .p none (.v (.int .u64 (m:Int)))), (3, .sl 1 0 ((pvB (out ++ [((m % 128 + 128 : Nat) : Int)])).length))] [] [(1, 1, pvB (out ++ [((m % 128 + 128 : Nat) : Int)]))]) ?_ ?_
  · exact zAJ ⟨rfl, hp3, trivial⟩ trivial ⟨(congrArg (fun x => some (1, x)) hr2), trivial⟩ rfl
  refine zAA rfl (.m rfl rfl (.r rfl (zBg m 7 rfl rfl rfl (by decide)) (.a rfl rfl .nil))) ?_
  refine nxt (Q := fun _ _ => False) (z := (m, out)) (m / 128, out ++ [((m % 128 + 128 : Nat) : Int)]) ?_ ?_ ?_
  ·
   show (m / 128) < 18446744073709551616 ∧ (out ++ [((m % 128 + 128 : Nat) : Int)]) ++ putL (m / 128) = putL n
   exact ⟨by omega, zI4 (by omega) hE⟩
  ·
   show (m / 128) < m
   omega
  · exact zAJ ⟨rfl, rfl, trivial⟩ trivial ⟨rfl, trivial⟩ rfl
 ·
  replace h1 := of_decide_eq_false h1
  refine zAi ?_
  refine zAB (zAA rfl (.m rfl rfl (.m rfl rfl (.r rfl (zAe (k' := .u8) 256 rfl m rfl rfl rfl underlying53 underlying5) (.run [1800] [] rfl (zAv rfl 1800 underlying90 inf5 (nle rfl) (by decide) rfl rfl rfl (.cons .v .nil) (by decide) rfl (by decide) rfl (by decide) rfl) (.run [1] [] rfl (zB6 rfl 1 (ib := 1) (len := ((pvB out) ++ [[PV.v (.int .u8 ((m % 256 : Nat) : Int))]]).length) rfl rfl (.row (len := (pvB out).length) (xs := pvB out) rfl rfl (.inl rfl)) (.give (len := 1) (xs := [[PV.v (.int .u8 ((m % 256 : Nat) : Int))]]) rfl rfl) underlying90 (sk underlying90 rfl) inf5 rfl (by decide) (by decide) (by decide) List.length_append (by simp only [maxLen, List.length_append, List.length_cons, List.length_nil, zCP]; omega) (by simp only [maxLen, List.length_append, List.length_cons, List.length_nil, zCP]; omega)) (.r rfl (zCc (putL n) rfl rfl (.give (len := ((pvB out) ++ [[PV.v (.int .u8 ((m % 256 : Nat) : Int))]]).length) (xs := (pvB out) ++ [[PV.v (.int .u8 ((m % 256 : Nat) : Int))]]) rfl rfl) rfl (zI5 (by assumption) hE (by omega)) underlying90 underlying9 underlying5) (.a rfl rfl .nil))))))) ?_)
  refine zAI ?_
  exact ends [_] [] (.cons (.tmp rfl) .nil) (.cons (.one .v (.v _)) .nil) (by decide) trivial
theorem zBy (n : Nat) (hn : n < 18446744073709551616) : Con Tryd.prog 26 [.one (PV.v (.int .u64 (n:Int)))] [] [.one (.v (.string (putV n)))] := by
 refine zAR func26 rfl rfl rfl rfl ?_
 refine zAB (zAA rfl (.a rfl rfl .nil) ?_)
 refine zAB (zAA rfl (.run [400] [] rfl (zAv rfl 400 underlying90 inf5 (nle rfl) (by decide) rfl rfl rfl .nil (by decide) rfl (by decide) rfl (by decide) rfl) (.a rfl rfl .nil)) ?_)
 refine zAB ?_
 refine zAS ?_
 refine zAO (zCd 400 1 rfl rfl (by decide)) ?_
 refine zAj (σ := Nat × List Int) (fun (m, out) => mk [(0, .p none (.v (.int .u64 (m:Int)))), (3, .sl 1 0 ((pvB out).length))] [] [(1, 1, pvB out)]) (fun (m, out) => m < 18446744073709551616 ∧ out ++ putL m = putL n) (fun (m, out) => m) (n, []) ⟨hn, rfl⟩ (zAJ ⟨rfl, rfl, trivial⟩ trivial ⟨(congrArg (fun x => some (1, x)) (by rfl)), trivial⟩ rfl) ?_
 rintro ⟨m, out⟩ hG
 replace hG : m < 18446744073709551616 ∧ out ++ putL m = putL n := hG
 obtain ⟨hm, hE⟩ := hG
 have hlo := congrArg List.length hE
 rw [List.length_append] at hlo
 have hln := zMk hn
 have hob := zCP out
 refine zAB ?_
 refine zAB (zAA rfl (.m rfl rfl (.r rfl (zDH rfl rfl rfl) .nil)) ?_)
 refine zAT (t := decide (128 ≤ (m:Int))) rfl (fun h1 => ?_) (fun h1 => ?_)
 ·
  replace h1 := of_decide_eq_true h1
  refine zAK ?_
  refine zAS ?_
  refine zAB (zAA rfl (.m rfl rfl (.m rfl rfl (.r rfl (zCR m 128 rfl rfl rfl (by omega)) (.r rfl (zFW (k := .u64) 18446744073709551616 rfl (m % 128) 128 rfl rfl rfl rfl) (.r rfl (zAe (k' := .u8) 256 rfl (((m % 128) + 128) % 18446744073709551616) rfl rfl rfl underlying53 underlying5) (.run [1200] [] rfl (zAv rfl 1200 underlying90 inf5 (nle rfl) (by decide) rfl rfl rfl (.cons .v .nil) (by decide) rfl (by decide) rfl (by decide) rfl) (.run [1] [] rfl (zB6 rfl 1 (ib := 1) (len := ((pvB out) ++ [[PV.v (.int .u8 (((((m % 128) + 128) % 18446744073709551616) % 256 : Nat) : Int))]]).length) rfl rfl (.row (len := (pvB out).length) (xs := pvB out) rfl rfl (.inl rfl)) (.give (len := 1) (xs := [[PV.v (.int .u8 (((((m % 128) + 128) % 18446744073709551616) % 256 : Nat) : Int))]]) rfl rfl) underlying90 (sk underlying90 rfl) inf5 rfl (by decide) (by decide) (by decide) List.length_append (by simp only [maxLen, List.length_append, List.length_cons, List.length_nil, zCP]; omega) (by simp only [maxLen, List.length_append, List.length_cons, List.length_nil, zCP]; omega)) (.a rfl rfl .nil)))))))) ?_)
  have hr2 : (pvB out) ++ [[PV.v (.int .u8 (((((m % 128) + 128) % 18446744073709551616) % 256 : Nat) : Int))]] = pvB (out ++ [((m % 128 + 128 : Nat) : Int)]) := by rw [show ((m % 128 + 128) % 18446744073709551616) % 256 = m % 128 + 128 by omega]; exact zGg _ _
  have hp3 : (.sl 1 0 (((pvB out) ++ [[PV.v (.int .u8 (((((m % 128) + 128) % 18446744073709551616) % 256 : Nat) : Int))]]).length) : AV) = .sl 1 0 ((pvB (out ++ [((m % 128 + 128 : Nat) : Int)])).length) := by simp only [hr2]
  refine zAO (s' := mk [(0, .p none (.v (.int .u64 (m:Int)))), (3, .sl 1 0 ((pvB (out ++ [((m % 128 + 128 : Nat) : Int)])).length))] [] [(1, 1, pvB (out ++ [((m % 128 + 128 : Nat) : Int)]))]) ?_ ?_
  · exact zAJ ⟨rfl, hp3, trivial⟩ trivial ⟨(congrArg (fun x => some (1, x)) hr2), trivial⟩ rfl
  refine zAA rfl (.m rfl rfl (.r rfl (zD7 (k := .u64) 18446744073709551616 rfl m 128 rfl rfl rfl rfl (by omega)) (.a rfl rfl .nil))) ?_
  refine nxt (Q := fun _ _ => False) (z := (m, out)) (m / 128, out ++ [((m % 128 + 128 : Nat) : Int)]) ?_ ?_ ?_
  ·
   show (m / 128) < 18446744073709551616 ∧ (out ++ [((m % 128 + 128 : Nat) : Int)]) ++ putL (m / 128) = putL n
   exact ⟨by omega, zI4 (by omega) hE⟩
  ·
   show (m / 128) < m
   omega
  · exact zAJ ⟨(zAE (by omega)), rfl, trivial⟩ trivial ⟨rfl, trivial⟩ rfl
 ·
  replace h1 := of_decide_eq_false h1
  refine zAi ?_
  refine zAB (zAA rfl (.m rfl rfl (.m rfl rfl (.r rfl (zAe (k' := .u8) 256 rfl m rfl rfl rfl underlying53 underlying5) (.run [1900] [] rfl (zAv rfl 1900 underlying90 inf5 (nle rfl) (by decide) rfl rfl rfl (.cons .v .nil) (by decide) rfl (by decide) rfl (by decide) rfl) (.run [1] [] rfl (zB6 rfl 1 (ib := 1) (len := ((pvB out) ++ [[PV.v (.int .u8 ((m % 256 : Nat) : Int))]]).length) rfl rfl (.row (len := (pvB out).length) (xs := pvB out) rfl rfl (.inl rfl)) (.give (len := 1) (xs := [[PV.v (.int .u8 ((m % 256 : Nat) : Int))]]) rfl rfl) underlying90 (sk underlying90 rfl) inf5 rfl (by decide) (by decide) (by decide) List.length_append (by simp only [maxLen, List.length_append, List.length_cons, List.length_nil, zCP]; omega) (by simp only [maxLen, List.length_append, List.length_cons, List.length_nil, zCP]; omega)) (.r rfl (zCc (putL n) rfl rfl (.give (len := ((pvB out) ++ [[PV.v (.int .u8 ((m % 256 : Nat) : Int))]]).length) (xs := (pvB out) ++ [[PV.v (.int .u8 ((m % 256 : Nat) : Int))]]) rfl rfl) rfl (zI5 (by assumption) hE (by omega)) underlying90 underlying9 underlying5) (.a rfl rfl .nil))))))) ?_)
  refine zAI ?_
  exact ends [_] [] (.cons (.tmp rfl) .nil) (.cons (.one .v (.v _)) .nil) (by decide) trivial
theorem zCJ (x : Nat) : Con Tryd.prog 75 [.one (PV.v (.int .u32 (x:Int)))] [] [.one (.v (.string (fixV x)))] := by
 refine zAR func75 rfl rfl rfl rfl ?_
 refine zAB (zAA rfl (.a rfl rfl .nil) ?_)
 refine zAB (zAA rfl (.m rfl rfl (.r rfl (zAe (k' := .u8) 256 rfl x rfl rfl rfl underlying67 underlying5) (.m rfl rfl (.r rfl (zBg x 8 rfl rfl rfl (by decide)) (.r rfl (zAe (k' := .u8) 256 rfl (x / 2 ^ 8) rfl rfl rfl underlying67 underlying5) (.m rfl rfl (.r rfl (zBg x 16 rfl rfl rfl (by decide)) (.r rfl (zAe (k' := .u8) 256 rfl (x / 2 ^ 16) rfl rfl rfl underlying67 underlying5) (.m rfl rfl (.r rfl (zBg x 24 rfl rfl rfl (by decide)) (.r rfl (zAe (k' := .u8) 256 rfl (x / 2 ^ 24) rfl rfl rfl underlying67 underlying5) (.run [1400] [] rfl (zAv rfl 1400 underlying90 inf5 (nle rfl) (by decide) rfl rfl rfl (.cons .v (.cons .v (.cons .v (.cons .v .nil)))) (by decide) rfl (by decide) rfl (by decide) rfl) (.r rfl (zCc (fixL x) rfl rfl (.give (len := 4) (xs := [[PV.v (.int .u8 ((x % 256 : Nat) : Int))], [PV.v (.int .u8 (((x / 2 ^ 8) % 256 : Nat) : Int))], [PV.v (.int .u8 (((x / 2 ^ 16) % 256 : Nat) : Int))], [PV.v (.int .u8 (((x / 2 ^ 24) % 256 : Nat) : Int))]]) rfl rfl) rfl rfl underlying90 underlying9 underlying5) (.a rfl rfl .nil)))))))))))))) ?_)
 refine zAI ?_
 exact ends [_] [] (.cons (.tmp rfl) .nil) (.cons (.one .v (.v _)) .nil) (by decide) trivial
theorem zBo (x : Nat) : Con Tryd.prog 33 [.one (PV.v (.int .u32 (x:Int)))] [] [.one (.v (.string (fixV x)))] := by
 refine zAR func33 rfl rfl rfl rfl ?_
 refine zAB (zAA rfl (.a rfl rfl .nil) ?_)
 refine zAB (zAA rfl (.m rfl rfl (.r rfl (zAe (k' := .u8) 256 rfl x rfl rfl rfl underlying67 underlying5) (.m rfl rfl (.r rfl (zBg x 8 rfl rfl rfl (by decide)) (.r rfl (zAe (k' := .u8) 256 rfl (x / 2 ^ 8) rfl rfl rfl underlying67 underlying5) (.m rfl rfl (.r rfl (zBg x 16 rfl rfl rfl (by decide)) (.r rfl (zAe (k' := .u8) 256 rfl (x / 2 ^ 16) rfl rfl rfl underlying67 underlying5) (.m rfl rfl (.r rfl (zBg x 24 rfl rfl rfl (by decide)) (.r rfl (zAe (k' := .u8) 256 rfl (x / 2 ^ 24) rfl rfl rfl underlying67 underlying5) (.run [1400] [] rfl (zAv rfl 1400 underlying90 inf5 (nle rfl) (by decide) rfl rfl rfl (.cons .v (.cons .v (.cons .v (.cons .v .nil)))) (by decide) rfl (by decide) rfl (by decide) rfl) (.r rfl (zCc (fixL x) rfl rfl (.give (len := 4) (xs := [[PV.v (.int .u8 ((x % 256 : Nat) : Int))], [PV.v (.int .u8 (((x / 2 ^ 8) % 256 : Nat) : Int))], [PV.v (.int .u8 (((x / 2 ^ 16) % 256 : Nat) : Int))], [PV.v (.int .u8 (((x / 2 ^ 24) % 256 : Nat) : Int))]]) rfl rfl) rfl rfl underlying90 underlying9 underlying5) (.a rfl rfl .nil)))))))))))))) ?_)
 refine zAI ?_
 exact ends [_] [] (.cons (.tmp rfl) .nil) (.cons (.one .v (.v _)) .nil) (by decide) trivial
theorem zKQ (s : ByteArray) (hs : s.size ≤ 9000000000000000000) : Con Tryd.prog 99 [.one (PV.v (.string s))] [] [.one (.v (.int .u32 ((crcF s : Nat) : Int)))] := by
 refine zAR func99 rfl rfl rfl rfl ?_
 refine zAB (zAA rfl (.a rfl rfl .nil) ?_)
 refine zAB (zAA rfl (.a rfl rfl .nil) ?_)
 refine zAB ?_
 refine zAB (zAA rfl (.m rfl rfl (.r rfl (zAP rfl rfl underlying9) (.m rfl rfl .nil))) ?_)
 refine zAS ?_
 refine zAj (σ := Nat) (fun i => mk [(0, .vs s), (3, .p none (.v (.int .u32 ((crcT s i : Nat) : Int)))), (6, .vi (s.size : Int)), (7, .vi (i:Int))] [] []) (fun i => i ≤ s.size) (fun i => s.size - i) 0 (by simp) (zAJ ⟨rfl, (zAE (by rfl)), rfl, (zAE (by omega)), trivial⟩ trivial trivial rfl) ?_
 rintro i hG
 replace hG : i ≤ s.size := hG
 refine zAB (zAA rfl (.r rfl (zAt rfl rfl rfl) .nil) ?_)
 refine zAB ?_
 refine zAT (t := decide ((i:Int) < (s.size : Int))) rfl (fun h1 => ?_) (fun h1 => ?_)
 ·
  replace h1 := of_decide_eq_true h1
  refine zAK ?_
  refine zAB ?_
  refine zAS ?_
  refine zAB (zAA rfl (.m rfl rfl (.a rfl rfl .nil)) ?_)
  refine zAB ?_
  obtain ⟨b, hb⟩ : ∃ b : UInt8, s[i]? = some b := ⟨_, getElem?_pos s i (by omega)⟩
  have hcl := zKR s i
  refine zAA rfl (.m rfl rfl (.m rfl rfl (.m rfl rfl (.r rfl (zBX rfl rfl rfl underlying9 (by omega) hb) (.r rfl (zAe (k' := .u32) 4294967296 rfl b.toNat rfl rfl rfl underlying5 underlying67) (.r rfl (zB4 (k := .u32) 4294967296 rfl (crcT s i) (b.toNat % 4294967296) rfl rfl rfl rfl) (.a rfl rfl .nil))))))) ?_
  refine zAB (zAA rfl (.m rfl rfl .nil) ?_)
  refine zAS ?_
  refine zAj (σ := Nat) (fun k => mk [(0, .vs s), (3, .p none (.v (.int .u32 ((crcI k ((crcT s i ^^^ (b.toNat % 4294967296)) % 4294967296) : Nat) : Int)))), (6, .vi (s.size : Int)), (7, .vi (i:Int)), (16, .vi (k:Int))] [] []) (fun k => k ≤ 8) (fun k => 8 - k) 0 (by simp) (zAJ ⟨rfl, (zAE (by rfl)), rfl, rfl, (zAE (by omega)), trivial⟩ trivial trivial rfl) ?_
  rintro k hG
  replace hG : k ≤ 8 := hG
  have hxl : crcI k ((crcT s i ^^^ (b.toNat % 4294967296)) % 4294967296) < 4294967296 := zIY (Nat.mod_lt _ (by decide)) k
  refine zAB (zAA rfl (.r rfl (zAt rfl rfl rfl) .nil) ?_)
  refine zAB ?_
  refine zAT (t := decide ((k:Int) < 8)) rfl (fun h2 => ?_) (fun h2 => ?_)
  ·
   replace h2 := of_decide_eq_true h2
   refine zAK ?_
   refine zAB ?_
   refine zAS ?_
   refine zAB (zAA rfl (.m rfl rfl (.r rfl (zGO (k := .u32) 4294967296 rfl (crcI k ((crcT s i ^^^ (b.toNat % 4294967296)) % 4294967296)) 1 rfl rfl rfl rfl) (.r rfl (zBB rfl rfl rfl) .nil))) ?_)
   refine zAT (t := decide (((((crcI k ((crcT s i ^^^ (b.toNat % 4294967296)) % 4294967296)) &&& 1) % 4294967296 : Nat) : Int) = 1)) rfl (fun h3 => ?_) (fun h3 => ?_)
   ·
    replace h3 := of_decide_eq_true h3
    refine zAA rfl (.m rfl rfl (.r rfl (zBg (crcI k ((crcT s i ^^^ (b.toNat % 4294967296)) % 4294967296)) 1 rfl rfl rfl (by decide)) (.r rfl (zB4 (k := .u32) 4294967296 rfl ((crcI k ((crcT s i ^^^ (b.toNat % 4294967296)) % 4294967296)) / 2 ^ 1) 2197175160 rfl rfl rfl rfl) (.a rfl rfl .nil)))) ?_
    refine zAA rfl (.r rfl (zAW rfl rfl rfl (by omega)) (.m rfl rfl .nil)) ?_
    refine nxt (Q := fun _ _ => False) (z := k) (k + 1) ?_ ?_ ?_
    ·
     show (k + 1) ≤ 8
     omega
    ·
     show 8 - (k + 1) < 8 - k
     omega
    · exact zAJ ⟨rfl, (zAE (by rw [show crcI (k + 1) ((crcT s i ^^^ (b.toNat % 4294967296)) % 4294967296) = crcB (crcI k ((crcT s i ^^^ (b.toNat % 4294967296)) % 4294967296)) from rfl, crcB, if_pos (zNW h3)])), rfl, rfl, (zAE (by omega)), trivial⟩ trivial trivial rfl
   ·
    replace h3 := of_decide_eq_false h3
    refine zAA rfl (.m rfl rfl (.r rfl (zBg (crcI k ((crcT s i ^^^ (b.toNat % 4294967296)) % 4294967296)) 1 rfl rfl rfl (by decide)) (.a rfl rfl .nil))) ?_
    refine zAA rfl (.r rfl (zAW rfl rfl rfl (by omega)) (.m rfl rfl .nil)) ?_
    refine nxt (Q := fun _ _ => False) (z := k) (k + 1) ?_ ?_ ?_
    ·
     show (k + 1) ≤ 8
     omega
    ·
     show 8 - (k + 1) < 8 - k
     omega
    · exact zAJ ⟨rfl, (zAE (by rw [show crcI (k + 1) ((crcT s i ^^^ (b.toNat % 4294967296)) % 4294967296) = crcB (crcI k ((crcT s i ^^^ (b.toNat % 4294967296)) % 4294967296)) from rfl, crcB, if_neg (zNX h3)])), rfl, rfl, (zAE (by omega)), trivial⟩ trivial trivial rfl
  ·
   replace h2 := of_decide_eq_false h2
   refine zAi ?_
   refine zAA rfl (.r rfl (zAW rfl rfl rfl (by omega)) (.m rfl rfl .nil)) ?_
   refine nxt (Q := fun _ _ => False) (z := i) (i + 1) ?_ ?_ ?_
   ·
    show (i + 1) ≤ s.size
    omega
   ·
    show s.size - (i + 1) < s.size - i
    omega
   · exact zAJ ⟨rfl, (zAE (by rw [zG0 (zEp hb), show k = 8 by omega]; rfl)), rfl, (zAE (by omega)), trivial⟩ trivial trivial rfl
 ·
  replace h1 := of_decide_eq_false h1
  refine zAi ?_
  refine zAB ?_
  refine zAO (s' := mk [(3, .p none (.v (.int .u32 ((crcT s s.size : Nat) : Int))))] [] []) ?_ ?_
  · exact zAJ ⟨(zAE (by rw [show i = s.size by omega])), trivial⟩ trivial trivial rfl
  refine zAA rfl (.m rfl rfl (.r rfl (st_comU (k := .u32) 4294967296 rfl (crcT s s.size) rfl rfl rfl) (.a rfl rfl .nil))) ?_
  refine zAI ?_
  exact ends [_] [] (.cons (.tmp (zAE (by rw [crcF, Nat.xor_comm]))) .nil) (.cons (.one .v (.v _)) .nil) (by decide) trivial
theorem zKm (s : ByteArray) (hs : s.size ≤ 9000000000000000000) : Con Tryd.prog 56 [.one (PV.v (.string s))] [] [.one (.v (.int .u32 ((crcF s : Nat) : Int)))] := by
 refine zAR func56 rfl rfl rfl rfl ?_
 refine zAB (zAA rfl (.a rfl rfl .nil) ?_)
 refine zAB (zAA rfl (.a rfl rfl .nil) ?_)
 refine zAB ?_
 refine zAB (zAA rfl (.a rfl rfl .nil) ?_)
 refine zAS ?_
 refine zAj (σ := Nat) (fun i => mk [(0, .vs s), (3, .p none (.v (.int .u32 ((crcT s i : Nat) : Int)))), (4, .vi (i:Int))] [] []) (fun i => i ≤ s.size) (fun i => s.size - i) 0 (by simp) (zAJ ⟨rfl, (zAE (by rfl)), (zAE (by omega)), trivial⟩ trivial trivial rfl) ?_
 rintro i hG
 replace hG : i ≤ s.size := hG
 refine zAB ?_
 refine zAB (zAA rfl (.m rfl rfl (.m rfl rfl (.r rfl (zAP rfl rfl underlying9) (.r rfl (zAt rfl rfl rfl) .nil)))) ?_)
 refine zAT (t := decide ((i:Int) < (s.size : Int))) rfl (fun h1 => ?_) (fun h1 => ?_)
 ·
  replace h1 := of_decide_eq_true h1
  refine zAK ?_
  refine zAB ?_
  refine zAS ?_
  refine zAB ?_
  obtain ⟨b, hb⟩ : ∃ b : UInt8, s[i]? = some b := ⟨_, getElem?_pos s i (by omega)⟩
  have hcl := zKR s i
  refine zAA rfl (.m rfl rfl (.m rfl rfl (.m rfl rfl (.r rfl (zBX rfl rfl rfl underlying9 (by omega) hb) (.r rfl (zAe (k' := .u32) 4294967296 rfl b.toNat rfl rfl rfl underlying5 underlying67) (.r rfl (zB4 (k := .u32) 4294967296 rfl (crcT s i) (b.toNat % 4294967296) rfl rfl rfl rfl) (.a rfl rfl .nil))))))) ?_
  refine zAB (zAA rfl (.a rfl rfl .nil) ?_)
  refine zAS ?_
  refine zAj (σ := Nat) (fun k => mk [(0, .vs s), (3, .p none (.v (.int .u32 ((crcI k ((crcT s i ^^^ (b.toNat % 4294967296)) % 4294967296) : Nat) : Int)))), (4, .vi (i:Int)), (5, .vi (k:Int))] [] []) (fun k => k ≤ 8) (fun k => 8 - k) 0 (by simp) (zAJ ⟨rfl, (zAE (by rfl)), rfl, (zAE (by omega)), trivial⟩ trivial trivial rfl) ?_
  rintro k hG
  replace hG : k ≤ 8 := hG
  have hxl : crcI k ((crcT s i ^^^ (b.toNat % 4294967296)) % 4294967296) < 4294967296 := zIY (Nat.mod_lt _ (by decide)) k
  refine zAB ?_
  refine zAB (zAA rfl (.m rfl rfl (.r rfl (zAt rfl rfl rfl) .nil)) ?_)
  refine zAT (t := decide ((k:Int) < 8)) rfl (fun h2 => ?_) (fun h2 => ?_)
  ·
   replace h2 := of_decide_eq_true h2
   refine zAK ?_
   refine zAB ?_
   refine zAS ?_
   refine zAB (zAA rfl (.m rfl rfl (.r rfl (zCR (crcI k ((crcT s i ^^^ (b.toNat % 4294967296)) % 4294967296)) 2 rfl rfl rfl (by omega)) (.r rfl (zBB rfl rfl rfl) .nil))) ?_)
   refine zAT (t := decide ((((crcI k ((crcT s i ^^^ (b.toNat % 4294967296)) % 4294967296)) % 2 : Nat) : Int) = 1)) rfl (fun h3 => ?_) (fun h3 => ?_)
   ·
    replace h3 := of_decide_eq_true h3
    refine zAA rfl (.m rfl rfl (.r rfl (zBg (crcI k ((crcT s i ^^^ (b.toNat % 4294967296)) % 4294967296)) 1 rfl rfl rfl (by decide)) (.r rfl (zB4 (k := .u32) 4294967296 rfl ((crcI k ((crcT s i ^^^ (b.toNat % 4294967296)) % 4294967296)) / 2 ^ 1) 2197175160 rfl rfl rfl rfl) (.a rfl rfl .nil)))) ?_
    refine zAA rfl (.m rfl rfl (.r rfl (zAW rfl rfl rfl (by omega)) (.a rfl rfl .nil))) ?_
    refine nxt (Q := fun _ _ => False) (z := k) (k + 1) ?_ ?_ ?_
    ·
     show (k + 1) ≤ 8
     omega
    ·
     show 8 - (k + 1) < 8 - k
     omega
    · exact zAJ ⟨rfl, (zAE (by rw [show crcI (k + 1) ((crcT s i ^^^ (b.toNat % 4294967296)) % 4294967296) = crcB (crcI k ((crcT s i ^^^ (b.toNat % 4294967296)) % 4294967296)) from rfl, crcB, if_pos (zNU h3)])), rfl, (zAE (by omega)), trivial⟩ trivial trivial rfl
   ·
    replace h3 := of_decide_eq_false h3
    refine zAA rfl (.m rfl rfl (.r rfl (zBg (crcI k ((crcT s i ^^^ (b.toNat % 4294967296)) % 4294967296)) 1 rfl rfl rfl (by decide)) (.a rfl rfl .nil))) ?_
    refine zAA rfl (.m rfl rfl (.r rfl (zAW rfl rfl rfl (by omega)) (.a rfl rfl .nil))) ?_
    refine nxt (Q := fun _ _ => False) (z := k) (k + 1) ?_ ?_ ?_
    ·
     show (k + 1) ≤ 8
     omega
    ·
     show 8 - (k + 1) < 8 - k
     omega
    · exact zAJ ⟨rfl, (zAE (by rw [show crcI (k + 1) ((crcT s i ^^^ (b.toNat % 4294967296)) % 4294967296) = crcB (crcI k ((crcT s i ^^^ (b.toNat % 4294967296)) % 4294967296)) from rfl, crcB, if_neg (zNV h3)])), rfl, (zAE (by omega)), trivial⟩ trivial trivial rfl
  ·
   replace h2 := of_decide_eq_false h2
   refine zAi ?_
   refine zAA rfl (.m rfl rfl (.r rfl (zAW rfl rfl rfl (by omega)) (.a rfl rfl .nil))) ?_
   refine nxt (Q := fun _ _ => False) (z := i) (i + 1) ?_ ?_ ?_
   ·
    show (i + 1) ≤ s.size
    omega
   ·
    show s.size - (i + 1) < s.size - i
    omega
   · exact zAJ ⟨rfl, (zAE (by rw [zG0 (zEp hb), show k = 8 by omega]; rfl)), (zAE (by omega)), trivial⟩ trivial trivial rfl
 ·
  replace h1 := of_decide_eq_false h1
  refine zAi ?_
  refine zAB ?_
  refine zAO (s' := mk [(3, .p none (.v (.int .u32 ((crcT s s.size : Nat) : Int))))] [] []) ?_ ?_
  · exact zAJ ⟨(zAE (by rw [show i = s.size by omega])), trivial⟩ trivial trivial rfl
  refine zAA rfl (.m rfl rfl (.r rfl (zB4 (k := .u32) 4294967296 rfl (crcT s s.size) 4294967295 rfl rfl rfl rfl) (.a rfl rfl .nil))) ?_
  refine zAI ?_
  exact ends [_] [] (.cons (.tmp rfl) .nil) (.cons (.one .v (.v _)) .nil) (by decide) trivial
theorem zCW (s : ByteArray) (hs : s.size ≤ 4000000000000000000) : Con Tryd.prog 68 [.one (PV.v (.string s))] [] [.one (.v (.string (putX s)))] := by
 refine zAR func68 rfl rfl rfl rfl ?_
 refine zAB (zAA rfl (.a rfl rfl .nil) ?_)
 refine zAB ?_
 have hps := zA5 (n := s.size) (by omega)
 refine zAA rfl (.m rfl rfl (.r rfl (zAP rfl rfl underlying9) (.r rfl (zAL (zAe (k' := .u64) 18446744073709551616 rfl s.size rfl rfl rfl underlying3 underlying53) ((zAE (show ((s.size % 18446744073709551616 : Nat) : Int) = ((s.size : Nat) : Int) by omega)))) (.run [600] [] rfl (zAF rfl 600 (X := []) en98 rfl (.val nod) (.cons (.one (.bor .v)) .nil) (by decide) all_nil .nil (zHb s.size (by omega)) rfl rfl (nle rfl)) (.m rfl rfl (.r rfl (zAu rfl rfl rfl (by omega)) (.a rfl rfl .nil))))))) ?_
 refine zAI ?_
 exact ends [_] [] (.cons (.tmp rfl) .nil) (.cons (.one .v (.v _)) .nil) (by decide) trivial
theorem zCI (s : ByteArray) (hs : s.size ≤ 4000000000000000000) : Con Tryd.prog 27 [.one (PV.v (.string s))] [] [.one (.v (.string (putX s)))] := by
 refine zAR func27 rfl rfl rfl rfl ?_
 refine zAB (zAA rfl (.a rfl rfl .nil) ?_)
 refine zAB ?_
 have hps := zA5 (n := s.size) (by omega)
 refine zAA rfl (.m rfl rfl (.r rfl (zAP rfl rfl underlying9) (.r rfl (zAL (zAe (k' := .u64) 18446744073709551616 rfl s.size rfl rfl rfl underlying3 underlying53) ((zAE (show ((s.size % 18446744073709551616 : Nat) : Int) = ((s.size : Nat) : Int) by omega)))) (.run [600] [] rfl (zAF rfl 600 (X := []) en26 rfl (.val nod) (.cons (.one (.bor .v)) .nil) (by decide) all_nil .nil (zBy s.size (by omega)) rfl rfl (nle rfl)) (.m rfl rfl (.r rfl (zAu rfl rfl rfl (by omega)) (.a rfl rfl .nil))))))) ?_
 refine zAI ?_
 exact ends [_] [] (.cons (.tmp rfl) .nil) (.cons (.one .v (.v _)) .nil) (by decide) trivial
theorem zCD (n : Int) (h0 : 0 ≤ n) (h1 : n < 9223372036854775808) : Con Tryd.prog 67 [.one (PV.v (.int .i64 n))] [] [.one (.v (.string (putV n.toNat)))] := by
 refine zAR func67 rfl rfl rfl rfl ?_
 refine zAB (zAA rfl (.a rfl rfl .nil) ?_)
 refine zAB (zAA rfl (.m rfl rfl (.r rfl (zAL (zD9 rfl rfl underlying2 underlying53) ((show (AV.p none (.v (.int .u64 (IntKind.u64.wrap n)))) = AV.p none (.v (.int .u64 ((n.toNat : Nat) : Int))) from zAE (by rw [IntKind.wrap_u64]; omega)))) (.run [500] [] rfl (zAF rfl 500 (X := []) en98 rfl (.val nod) (.cons (.one (.bor .v)) .nil) (by decide) all_nil .nil (zHb n.toNat (by omega)) rfl rfl (nle rfl)) (.a rfl rfl .nil)))) ?_)
 refine zAI ?_
 exact ends [_] [] (.cons (.tmp rfl) .nil) (.cons (.one .v (.v _)) .nil) (by decide) trivial
end Go.Rl

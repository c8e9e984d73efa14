/- Promises of functions, proved by walks over their operations; no conditions beyond those that each theorem states. -/
import Derived.Test.YtgdfpjpfomcilaaGreatReN
import Derived.Test.YtgdfpjpfomcilaaGreatRlT
import Derived.Test.YtgdfpjpfomcilaaGreatReC
set_option linter.unusedSimpArgs false
set_option linter.unusedVariables false
namespace Go.Rl
open Go.Proofs Go.Proofs.Tryz
set_option maxRecDepth 1000000
set_option maxHeartbeats 2000000
theorem inf5 : (Tryz.prog.info? 5).map (fun i => (i.zero, i.size, i.bytes)) = some (some (.int .u8 0), 1, 1) := by kernel_rfl
theorem zOZ : (Tryz.prog.info? 54).map (fun i => (i.zero, i.size, i.bytes)) = some (some (.agg #[.string ⟨#[]⟩, .int .i64 0, .int .i64 0]), 3, 32) := by kernel_rfl
theorem inf81 : (Tryz.prog.info? 81).map (fun i => (i.zero, i.size, i.bytes)) = some (some (.agg #[.slice none 0 0, .int .i64 0]), 2, 32) := by kernel_rfl
theorem en85 : En Tryz.prog 85 := zAm func85 (by decide) rfl
theorem en52 : En Tryz.prog 52 := zAm func52 (by decide) rfl
theorem en105 : En Tryz.prog 105 := zAm func105 (by decide) rfl
theorem en56 : En Tryz.prog 56 := zAm func56 (by decide) rfl
theorem en90 : En Tryz.prog 90 := zAm func90 (by decide) rfl
theorem en102 : En Tryz.prog 102 := zAm func102 (by decide) rfl
theorem en58 : En Tryz.prog 58 := zAm func58 (by decide) rfl
theorem en103 : En Tryz.prog 103 := zAm func103 (by decide) rfl
theorem en88 : En Tryz.prog 88 := zAm func88 (by decide) rfl
theorem en89 : En Tryz.prog 89 := zAm func89 (by decide) rfl
theorem zOM {γ : Gho} (bs : List Nat) (A : Option Addr) (c p : Nat) (hp : p ≤ bs.length) (hl : bs.length ≤ 1152921504606846976) (hcc : bs = [] ∨ ∃ k off cur ty fz, A = some ⟨k, off, none⟩ ∧ γ = some (k, .cells cur ty fz) ∧ ∀ (i : Nat) (b : Nat), bs[i]? = some b → b < 256 ∧ cur[off + i]? = some (.int .u8 b)) : ConG γ Tryz.prog 85 [.rptr 2 [PV.v (.slice A bs.length c), PV.v (.int .i64 (p:Int))]] [some (pvRd (.slice A bs.length c, zCq bs p))] [.one (.v (.int .i64 ((zD2 bs p : Nat) : Int)))] := by
 refine zAQ func85 rfl rfl rfl rfl ?_
 refine zAB (zAA rfl (.a rfl rfl .nil) ?_)
 refine zAB ?_
 refine zAB (zAc zBL rfl (.m rfl rfl (.r rfl (zCD rfl rfl) (.r rfl (zBa rfl rfl underlying81 rfl sizeOf3 (by decide)) (.r rfl (zA6 rfl rfl rfl rfl isAgg3 rfl) (.m rfl rfl (.r rfl (zCD rfl rfl) (.r rfl (zBa rfl rfl underlying81 rfl sizeOf22 (by decide)) (.r rfl (zA6 rfl rfl rfl rfl isAgg22 rfl) (.r rfl (zLs rfl rfl underlying22) (.r rfl (zCQ rfl rfl rfl) .nil)))))))))) (by kernel_rfl) ?_)
 refine zAZ (t := decide ((bs.length : Int) ≤ (p:Int))) rfl (fun h1 => ?_) (fun h1 => ?_)
 ·
  replace h1 := of_decide_eq_true h1
  refine zAB ?_
  have hne := zP5 (bs := bs) (p := p) (by omega)
  refine zAA rfl (.a rfl rfl .nil) ?_
  refine zAO ?_
  exact ends [_] [] (.cons (.tmp (zAL (by rw [hne.1]; rfl))) .nil) (.cons (.one .v (.v _)) .nil) (by decide) (zB7 (congrArg (fun x => some (2, x)) (by rw [hne.2]; rfl)) (zAb _) (by decide))
 ·
  replace h1 := of_decide_eq_false h1
  refine zAM ?_
  refine zAB ?_
  obtain ⟨k, off, cur, ty, fz, rfl, hg, hcur⟩ : ∃ k off cur ty fz, A = some ⟨k, off, none⟩ ∧ γ = some (k, .cells cur ty fz) ∧ ∀ (i : Nat) (b : Nat), bs[i]? = some b → b < 256 ∧ cur[off + i]? = some (.int .u8 b) := by
   rcases hcc with rfl | h
   · simp at h1
   · exact h
  have hlt : p < bs.length := (by omega)
  obtain ⟨b, hb⟩ : ∃ b, bs[p]? = some b := ⟨_, List.getElem?_eq_getElem hlt⟩
  obtain ⟨hb1, hb2⟩ := hcur p b hb
  have hni := next_in hb
  refine zAY (s' := mk [(0, .ea 100000 0 0)] [] [(100000, 2, pvRd (.slice (some ⟨k, off, none⟩) bs.length c, p))]) ?_ ?_
  · exact zAJ ⟨rfl, trivial⟩ trivial ⟨rfl, trivial⟩ rfl
  refine zAA rfl (.m rfl rfl (.r rfl (zCD rfl rfl) (.r rfl (zBa rfl rfl underlying81 rfl sizeOf3 (by decide)) (.r rfl (zA6 rfl rfl rfl rfl isAgg3 rfl) (.r rfl (zAf rfl rfl rfl (by omega)) (.r rfl (zCD rfl rfl) (.r rfl (zBa rfl rfl underlying81 rfl sizeOf3 (by decide)) (.r rfl (zBR rfl rfl rfl (FlatP.nf (zAb _)) rfl rfl rfl (.cons .v .nil) sizeOf3 rfl (nle rfl)) .nil)))))))) ?_
  have hr2 : (pvRd (.slice (some ⟨k, off, none⟩) bs.length c, p)).set 0 [PV.v (.slice (some ⟨k, off, none⟩) bs.length c), PV.v (.int .i64 ((p:Int) + 1))] = pvRd (.slice (some ⟨k, off, none⟩) bs.length c, p + 1) := by rfl
  refine zAY (s' := mk [(0, .ea 100000 0 0)] [] [(100000, 2, pvRd (.slice (some ⟨k, off, none⟩) bs.length c, p + 1))]) ?_ ?_
  · exact zAJ ⟨rfl, trivial⟩ trivial ⟨(congrArg (fun x => some (2, x)) hr2), trivial⟩ rfl
  refine zAB (zAc zBL rfl (.m rfl rfl (.r rfl (zCD rfl rfl) (.r rfl (zBa rfl rfl underlying81 rfl sizeOf22 (by decide)) (.r rfl (zA6 rfl rfl rfl rfl isAgg22 rfl) (.m rfl rfl (.r rfl (zCD rfl rfl) (.r rfl (zBa rfl rfl underlying81 rfl sizeOf3 (by decide)) (.r rfl (zA6 rfl rfl rfl rfl isAgg3 rfl) (.r rfl (zAv rfl rfl rfl (by omega)) (.r rfl (zPY rfl rfl rfl underlying22 sizeOf5 (j := p) (by omega) hlt) (.r rfl (zNr rfl hg rfl hb2 rfl isAgg5) (.r rfl (zPZ rfl rfl underlying5 underlying3 (by omega)) (.a rfl rfl .nil))))))))))))) (by kernel_rfl) ?_)
  refine zAO ?_
  exact ends [_] [] (.cons (.tmp (zAL (by rw [hni.1]))) .nil) (.cons (.one .v (.v _)) .nil) (by decide) (zB7 (congrArg (fun x => some (2, x)) (by rw [hni.2])) (zAb _) (by decide))
theorem zGY {γ : Gho} {cv : Value} {bs : List Nat} (hc : zCe γ cv bs) (hl : bs.length ≤ 1152921504606846976) (p : Nat) (hp : p ≤ bs.length) : ConG γ Tryz.prog 85 [.rptr 2 [.v cv, .v (.int .i64 (p:Int))]] [some (pvRd (cv, zCq bs p))] [.one (.v (.int .i64 ((zD2 bs p : Nat) : Int)))] := by
 obtain ⟨A, c, rfl, hcc⟩ := hc
 exact zOM bs A c p hp hl hcc
theorem zBx {γ : Gho} {cv : Value} {bs : List Nat} (hc : zCe γ cv bs) (hl : bs.length ≤ 1152921504606846976) (p : Nat) (hp : p ≤ bs.length) (n : Nat) (hn : n ≤ 1000000) : ConG γ Tryz.prog 52 [.rptr 2 [PV.v (cv), PV.v (.int .i64 (p:Int))], .one (PV.v (.int .i64 (n:Int)))] [some (pvRd (cv, zAH bs p n))] [.one (.v (.int .i64 ((zAk bs p n : Nat) : Int)))] := by
 refine zAQ func52 rfl rfl rfl rfl ?_
 refine zAB (zAA rfl (.a rfl rfl .nil) ?_)
 refine zAB ?_
 refine zAB (zAA rfl (.m rfl rfl (.r rfl (zB5 rfl rfl rfl) .nil)) ?_)
 refine zAZ (t := decide ((n:Int) ≤ 1)) rfl (fun h1 => ?_) (fun h1 => ?_)
 ·
  replace h1 := of_decide_eq_true h1
  refine zAB ?_
  have hb := below_1 (bs := bs) (p := p) (n := n) (by omega)
  refine zAA rfl (.a rfl rfl .nil) ?_
  refine zAO ?_
  exact ends [_] [] (.cons (.tmp (zAL (by rw [hb.1]; rfl))) .nil) (.cons (.one .v (.v _)) .nil) (by decide) (zB7 (congrArg (fun x => some (2, x)) (congrArg pvRd (congrArg (Prod.mk cv) (by rw [hb.2])))) (zAb _) (by decide))
 ·
  replace h1 := of_decide_eq_false h1
  refine zAM ?_
  refine zAB ?_
  refine zAB (zAA rfl (.m rfl rfl (.r rfl (zB5 rfl rfl rfl) .nil)) ?_)
  refine zAZ (t := decide ((n:Int) ≤ 256)) rfl (fun h2 => ?_) (fun h2 => ?_)
  ·
   replace h2 := of_decide_eq_true h2
   refine zAB ?_
   have hb := below_2 (bs := bs) (p := p) (n := n) (by omega) (by omega)
   have hv := zIz (zF9 hc) p
   refine zAA rfl (.m rfl rfl (.run [100000, 1100] [] rfl (zAz (.inr rfl) rfl 1100 (X := [100000]) en85 rfl (.val nod) (.cons (.rptr rfl) .nil) (by decide) (all_cons rfl all_nil) (.keep (xs := pvRd (cv, p)) rfl (FlatP.nf (zAb _)) .nil) (zGY hc hl p hp) rfl rfl (nle rfl)) (.m rfl rfl (.r rfl (zLr rfl rfl rfl (by omega)) (.a rfl rfl .nil))))) ?_
   refine zAO ?_
   exact ends [_] [] (.cons (.tmp (zAL (by rw [hb.1]; rfl))) .nil) (.cons (.one .v (.v _)) .nil) (by decide) (zB7 (congrArg (fun x => some (2, x)) (congrArg pvRd (congrArg (Prod.mk cv) (by rw [hb.2])))) (zAb _) (by decide))
  ·
   replace h2 := of_decide_eq_false h2
   refine zAM ?_
   refine zAB ?_
   have hb := below_3 (bs := bs) (p := p) (n := n) (by omega) (by omega)
   have hv := zIz (zF9 hc) p
   have hv2 := zIz (zF9 hc) (zCq bs p)
   refine zAA rfl (.m rfl rfl (.run [100000, 1500] [] rfl (zAz (.inr rfl) rfl 1500 (X := [100000]) en85 rfl (.val nod) (.cons (.rptr rfl) .nil) (by decide) (all_cons rfl all_nil) (.keep (xs := pvRd (cv, p)) rfl (FlatP.nf (zAb _)) .nil) (zGY hc hl p hp) rfl rfl (nle rfl)) (.r rfl (zIg rfl rfl rfl (by omega)) (.a rfl rfl .nil)))) ?_
   refine zAB (zAA rfl (.m rfl rfl (.m rfl rfl (.run [100000, 1900] [] rfl (zAz (.inr rfl) rfl 1900 (X := [100000]) en85 rfl (.val nod) (.cons (.rptr rfl) .nil) (by decide) (all_cons rfl all_nil) (.keep (xs := pvRd (cv, zCq bs p)) rfl (FlatP.nf (zAb _)) .nil) (zGY hc hl (zCq bs p) (zEg hp)) rfl rfl (nle rfl)) (.r rfl (zAf rfl rfl rfl (by omega)) (.a rfl rfl .nil))))) ?_)
   refine zAB ?_
   refine zAY (s' := mk [(1, .vi (n:Int)), (5, .vi ((((zD2 bs p : Nat) : Int) * 256) + ((zD2 bs (zCq bs p) : Nat) : Int)))] [] [(100000, 2, pvRd (cv, zCq bs (zCq bs p)))]) ?_ ?_
   · exact zAJ ⟨rfl, rfl, trivial⟩ trivial ⟨rfl, trivial⟩ rfl
   refine zAA rfl (.m rfl rfl (.m rfl rfl (.r rfl (zLr rfl rfl rfl (by omega)) (.a rfl rfl .nil)))) ?_
   refine zAO ?_
   exact ends [_] [] (.cons (.tmp (zAL (by rw [hb.1]; rfl))) .nil) (.cons (.one .v (.v _)) .nil) (by decide) (zB7 (congrArg (fun x => some (2, x)) (congrArg pvRd (congrArg (Prod.mk cv) (by rw [hb.2])))) (zAb _) (by decide))
theorem zEf {γ : Gho} {cv : Value} {bs : List Nat} (hc : zCe γ cv bs) (hl : bs.length ≤ 1152921504606846976) (p : Nat) (hp : p ≤ bs.length) (n : Nat) (hn : 1 ≤ n ∧ n ≤ 1000000) : ConG γ Tryz.prog 56 [.rptr 2 [PV.v (cv), PV.v (.int .i64 (p:Int))], .one (PV.v (.int .i64 (n:Int)))] [some (pvRd (cv, zAH bs p n))] [.one (.v (.bool (zCl bs p n)))] := by
 refine zAQ func56 rfl rfl rfl rfl ?_
 refine zAB (zAA rfl (.a rfl rfl .nil) ?_)
 refine zAB (zAA rfl (.m rfl rfl (.m rfl rfl (.run [100000, 700] [] rfl (zAz (.inr rfl) rfl 700 (X := [100000]) en52 rfl (.val nod) (.cons (.rptr rfl) (.cons (.one (.bor .v)) .nil)) (by decide) (all_cons rfl all_nil) (.keep (xs := pvRd (cv, p)) rfl (FlatP.nf (zAb _)) .nil) (zBx hc hl p hp n (by omega)) rfl rfl (nle rfl)) (.m rfl rfl (.r rfl (zAv rfl rfl rfl (by omega)) (.r rfl (zA8 rfl rfl rfl) (.a rfl rfl .nil))))))) ?_)
 refine zAO ?_
 exact ends [_] [] (.cons (.tmp (zAN (by unfold zCl; rw [Bool.eq_iff_iff]; simp only [decide_eq_true_eq]; omega))) .nil) (.cons (.one .v (.v _)) .nil) (by decide) (zB7 (congrArg (fun x => some (2, x)) (congrArg pvRd (congrArg (Prod.mk cv) rfl))) (zAb _) (by decide))
theorem zPO {γ : Gho} {cv : Value} {bs : List Nat} (hc : zCe γ cv bs) (hl : bs.length ≤ 1152921504606846976) (p : Nat) (hp : p ≤ bs.length)  : ConG γ Tryz.prog 105 [.rptr 2 [PV.v (cv), PV.v (.int .i64 (p:Int))]] [some (pvRd (cv, zPQ bs p))] [.one (.v (.int .u64 (wordV bs p)))] := by
 refine zAQ func105 rfl rfl rfl rfl ?_
 refine zAB (zAA rfl (.a rfl rfl .nil) ?_)
 refine zAB (zAA rfl (.a rfl rfl .nil) ?_)
 refine zAB ?_
 refine zAB (zAA rfl (.a rfl rfl .nil) ?_)
 refine zAS ?_
 refine zAp (σ := Nat × Int × Nat) (fun (i, x, q) => mk [(0, .ea 100000 0 0), (3, .p none (.v (.int .u64 x))), (4, .vi (i:Int))] [] [(100000, 2, pvRd (cv, q))]) (fun (i, x, q) => i ≤ 8 ∧ q ≤ bs.length ∧ zHf bs (8 - i) x q = zHf bs 8 0 p) (fun (i, x, q) => 8 - i) (0, 0, p) ⟨Nat.zero_le _, hp, rfl⟩ (zAJ ⟨rfl, rfl, (zAL (by omega)), trivial⟩ trivial ⟨rfl, trivial⟩ rfl) ?_
 rintro ⟨i, x, q⟩ hG
 replace hG : i ≤ 8 ∧ q ≤ bs.length ∧ zHf bs (8 - i) x q = zHf bs 8 0 p := hG
 obtain ⟨hi, hp, hw⟩ := hG
 refine zAB ?_
 refine zAB (zAA rfl (.m rfl rfl (.r rfl (zA4 rfl rfl rfl) .nil)) ?_)
 refine zAZ (t := decide ((i:Int) < 8)) rfl (fun h1 => ?_) (fun h1 => ?_)
 ·
  replace h1 := of_decide_eq_true h1
  refine zAM ?_
  refine zAB ?_
  refine zAS ?_
  refine zAA rfl (.m rfl rfl (.r rfl (st_shl rfl rfl rfl (by omega)) (.m rfl rfl (.run [100000, 1200] [] rfl (zAz (.inr rfl) rfl 1200 (X := [100000]) en85 rfl (.val nod) (.cons (.rptr rfl) .nil) (by decide) (all_cons rfl all_nil) (.keep (xs := pvRd (cv, q)) rfl (FlatP.nf (zAb _)) .nil) (zGY hc hl q hp) rfl rfl (nle rfl)) (.r rfl (zCt rfl rfl underlying3 underlying130) (.r rfl (st_bits rfl (.inr (.inl rfl)) rfl rfl) (.a rfl rfl .nil))))))) ?_
  refine zAA rfl (.m rfl rfl (.r rfl (zAf rfl rfl rfl (by omega)) (.a rfl rfl .nil))) ?_
-- round row 100000: pvRd (cv, (zCq bs q)) now pvRd (cv, zCq bs q)
  refine nxt (Q := fun _ _ => False) (z := (i, x, q)) (i + 1, zIb x (zD2 bs q), zCq bs q) ?_ ?_ ?_
  ·
   show (i + 1) ≤ 8 ∧ (zCq bs q) ≤ bs.length ∧ zHf bs (8 - (i + 1)) (zIb x (zD2 bs q)) (zCq bs q) = zHf bs 8 0 p
   exact ⟨by omega, zEg hp, by rw [← hw, show 8 - i = (8 - (i + 1)) + 1 by omega]; rfl⟩
  ·
   show 8 - (i + 1) < 8 - i
   omega
  · exact zAJ ⟨rfl, (zAL (by rfl)), (zAL (by omega)), trivial⟩ trivial ⟨rfl, trivial⟩ rfl
 ·
  replace h1 := of_decide_eq_false h1
  refine zAx ?_
  refine zAB (zAA rfl (.m rfl rfl (.a rfl rfl .nil)) ?_)
  refine zAO ?_
  exact ends [_] [] (.cons (.tmp (zAL (by rw [show i = 8 by omega] at hw; exact congrArg Prod.fst hw))) .nil) (.cons (.one .v (.v _)) .nil) (by decide) (zB7 (congrArg (fun x => some (2, x)) (congrArg pvRd (congrArg (Prod.mk cv) (by rw [show i = 8 by omega] at hw; exact congrArg Prod.snd hw)))) (zAb _) (by decide))
theorem zMM {γ : Gho} {cv : Value} {bs : List Nat} (hc : zCe γ cv bs) (hl : bs.length ≤ 1152921504606846976) (p : Nat) (hp : p ≤ bs.length) (low high : Int) (hlo : -1000000000000000 ≤ low) (hhi : high ≤ 1000000000000000) : ConG γ Tryz.prog 90 [.rptr 2 [PV.v (cv), PV.v (.int .i64 (p:Int))], .one (PV.v (.int .i64 low)), .one (PV.v (.int .i64 high))] [some (pvRd (cv, zCN bs p low high))] [.one (.v (.int .i64 (zFX bs p low high)))] := by
 refine zAQ func90 rfl rfl rfl rfl ?_
 refine zAB (zAA rfl (.a rfl rfl .nil) ?_)
 refine zAB ?_
 refine zAB (zAA rfl (.m rfl rfl (.run [100000, 800] [] rfl (zAz (.inr rfl) rfl 800 (X := [100000]) en52 rfl (.val nod) (.cons (.rptr rfl) (.cons (.one (.bor .v)) .nil)) (by decide) (all_cons rfl all_nil) (.keep (xs := pvRd (cv, p)) rfl (FlatP.nf (zAb _)) .nil) (zBx hc hl p hp 8 (by omega)) rfl rfl (nle rfl)) .nil)) ?_)
 refine zAS ?_
 refine zAB (zAA rfl (.r rfl (zA8 rfl rfl rfl) (.a rfl rfl .nil)) ?_)
 refine zAZ (t := decide (((zAk bs p 8 : Nat) : Int) = 0)) rfl (fun h1 => ?_) (fun h1 => ?_)
 ·
  replace h1 := of_decide_eq_true h1
  refine zAB ?_
  have hn := near_a (bs := bs) (p := p) (low := low) (high := high) (by omega)
  refine zAA rfl (.m rfl rfl (.a rfl rfl .nil)) ?_
  refine zAO ?_
  exact ends [_] [] (.cons (.tmp (zAL hn.1.symm)) .nil) (.cons (.one .v (.v _)) .nil) (by decide) (zB7 (congrArg (fun x => some (2, x)) (congrArg pvRd (congrArg (Prod.mk cv) hn.2.symm))) (zAb _) (by decide))
 ·
  replace h1 := of_decide_eq_false h1
  refine zAB (zAA rfl (.r rfl (zA8 rfl rfl rfl) (.a rfl rfl .nil)) ?_)
  refine zAZ (t := decide (((zAk bs p 8 : Nat) : Int) = 1)) rfl (fun h2 => ?_) (fun h2 => ?_)
  ·
   replace h2 := of_decide_eq_true h2
   refine zAB ?_
   have hn := near_b (bs := bs) (p := p) (low := low) (high := high) (by omega)
   refine zAA rfl (.m rfl rfl (.a rfl rfl .nil)) ?_
   refine zAO ?_
   exact ends [_] [] (.cons (.tmp (zAL hn.1.symm)) .nil) (.cons (.one .v (.v _)) .nil) (by decide) (zB7 (congrArg (fun x => some (2, x)) (congrArg pvRd (congrArg (Prod.mk cv) hn.2.symm))) (zAb _) (by decide))
  ·
   replace h2 := of_decide_eq_false h2
   refine zAM ?_
   refine zAB ?_
   refine zAB (zAA rfl (.m rfl rfl (.m rfl rfl (.r rfl (zA4 rfl rfl rfl) .nil))) ?_)
   refine zAZ (t := decide (high < low)) rfl (fun h3 => ?_) (fun h3 => ?_)
   ·
    replace h3 := of_decide_eq_true h3
    refine zAB ?_
    have hn := near_c (bs := bs) (p := p) (low := low) (high := high) (by omega) (by omega) (by omega)
    refine zAA rfl (.m rfl rfl (.a rfl rfl .nil)) ?_
    refine zAO ?_
    exact ends [_] [] (.cons (.tmp (zAL hn.1.symm)) .nil) (.cons (.one .v (.v _)) .nil) (by decide) (zB7 (congrArg (fun x => some (2, x)) (congrArg pvRd (congrArg (Prod.mk cv) hn.2.symm))) (zAb _) (by decide))
   ·
    replace h3 := of_decide_eq_false h3
    refine zAM ?_
    refine zAB ?_
    have hwr : IntKind.u64.wrap (high - low + 1) = high - low + 1 := by rw [IntKind.wrap_u64]; omega
    have hn := near_d (bs := bs) (p := p) (low := low) (high := high) (by omega) (by omega) (by omega)
    refine zAY (s' := mk [(0, .ea 100000 0 0), (1, .vi low), (2, .vi high)] [] [(100000, 2, pvRd (cv, zAH bs p 8))]) ?_ ?_
    · exact zAJ ⟨rfl, rfl, rfl, trivial⟩ trivial ⟨rfl, trivial⟩ rfl
    refine zAA rfl (.m rfl rfl (.m rfl rfl (.run [100000, 2100] [] rfl (zAz (.inr rfl) rfl 2100 (X := [100000]) en105 rfl (.val nod) (.cons (.rptr rfl) .nil) (by decide) (all_cons rfl all_nil) (.keep (xs := pvRd (cv, zAH bs p 8)) rfl (FlatP.nf (zAb _)) .nil) (zPO hc hl (zAH bs p 8) (zAV hp)) rfl rfl (nle rfl)) (.r rfl (zJa rfl rfl rfl (by omega)) (.m rfl rfl (.m rfl rfl (.r rfl (zAv rfl rfl rfl (by omega)) (.r rfl (zAf rfl rfl rfl (by omega)) (.r rfl (zCt rfl rfl underlying2 underlying130) (.r rfl (zLr rfl rfl rfl (by omega)) (.r rfl (zCt rfl rfl underlying130 underlying2) (.r rfl (zQg rfl rfl rfl) (.a rfl rfl .nil))))))))))))) ?_
    refine zAO ?_
    exact ends [_] [] (.cons (.tmp (zAL hn.1.symm)) .nil) (.cons (.one .v (.v _)) .nil) (by decide) (zB7 (congrArg (fun x => some (2, x)) (congrArg pvRd (congrArg (Prod.mk cv) hn.2.symm))) (zAb _) (by decide))
theorem zIy {γ : Gho} {cv : Value} {bs : List Nat} (hc : zCe γ cv bs) (hl : bs.length ≤ 1152921504606846976) (p : Nat) (hp : p ≤ bs.length) (low high : Int) (hlo : -1000000000000000 ≤ low ∧ low ≤ 1000000000000000) (hhi : -1000000000000000 ≤ high ∧ high ≤ 1000000000000000) : ConG γ Tryz.prog 58 [.rptr 2 [PV.v (cv), PV.v (.int .i64 (p:Int))], .one (PV.v (.int .i64 low)), .one (PV.v (.int .i64 high))] [some (pvRd (cv, offP bs p low high))] [.one (.v (.int .i64 (offV bs p low high)))] := by
 refine zAQ func58 rfl rfl rfl rfl ?_
 refine zAB (zAA rfl (.a rfl rfl .nil) ?_)
 refine zAB ?_
 refine zAB (zAA rfl (.m rfl rfl (.run [100000, 800] [] rfl (zAz (.inr rfl) rfl 800 (X := [100000]) en56 rfl (.val nod) (.cons (.rptr rfl) (.cons (.one (.bor .v)) .nil)) (by decide) (all_cons rfl all_nil) (.keep (xs := pvRd (cv, p)) rfl (FlatP.nf (zAb _)) .nil) (zEf hc hl p hp 24 (by omega)) rfl rfl (nle rfl)) .nil)) ?_)
 refine zAZ (t := zCl bs p 24) rfl (fun h1 => ?_) (fun h1 => ?_)
 ·
  refine zAB (zAA rfl (.m rfl rfl (.r rfl (zAv rfl rfl rfl (by omega)) (.m rfl rfl (.r rfl (zAf rfl rfl rfl (by omega)) (.run [1300] [] rfl (zAR rfl 1300 underlying26 inf2 (nle rfl) (by decide) rfl rfl rfl (.cons .v (.cons .v (.cons .v (.cons .v .nil)))) (by decide) rfl (by decide) rfl (by decide) rfl) (.m rfl rfl (.run [100000, 1500] [] rfl (zAz (.inr rfl) rfl 1500 (X := [100000]) en52 rfl (.val nod) (.cons (.rptr rfl) (.cons (.one (.bor .v)) .nil)) (by decide) (all_cons rfl all_nil) (.keep (xs := pvRd (cv, zAH bs p 24)) rfl (FlatP.nf (zAb _)) .nil) (zBx hc hl (zAH bs p 24) (zAV hp) 4 (by omega)) rfl rfl (nle rfl)) (.r rfl (zAe (zAk bs (zAH bs p 24) 4) rfl rfl rfl rfl underlying26 sizeOf2 rfl rfl (zCC (by decide))) (.r rfl (zA6 rfl rfl rfl (zB0 (off_get bs (zAH bs p 24) low high)) isAgg2 rfl) (.a rfl rfl .nil)))))))))) ?_)
  refine zAO ?_
  exact ends [_] [] (.cons (.tmp (zAL (by rw [offV, if_pos h1]))) .nil) (.cons (.one .v (.v _)) .nil) (by decide) (zB7 (congrArg (fun x => some (2, x)) (congrArg pvRd (congrArg (Prod.mk cv) (by rw [offP, if_pos h1])))) (zAb _) (by decide))
 ·
  refine zAM ?_
  refine zAB (zAA rfl (.m rfl rfl (.m rfl rfl (.m rfl rfl (.run [100000, 2100] [] rfl (zAz (.inr rfl) rfl 2100 (X := [100000]) en90 rfl (.val nod) (.cons (.rptr rfl) (.cons (.one (.bor .v)) (.cons (.one (.bor .v)) .nil))) (by decide) (all_cons rfl all_nil) (.keep (xs := pvRd (cv, zAH bs p 24)) rfl (FlatP.nf (zAb _)) .nil) (zMM hc hl (zAH bs p 24) (zAV hp) low high (by omega) (by omega)) rfl rfl (nle rfl)) (.a rfl rfl .nil))))) ?_)
  refine zAO ?_
  exact ends [_] [] (.cons (.tmp (zAL (by rw [offV, if_neg (by simp [h1])]))) .nil) (.cons (.one .v (.v _)) .nil) (by decide) (zB7 (congrArg (fun x => some (2, x)) (congrArg pvRd (congrArg (Prod.mk cv) (by rw [offP, if_neg (by simp [h1])])))) (zAb _) (by decide))
theorem zLm {γ : Gho} {cv : Value} {bs : List Nat} (hc : zCe γ cv bs) (hl : bs.length ≤ 1152921504606846976) (p : Nat) (hp : p ≤ bs.length)  : ConG γ Tryz.prog 102 [.rptr 2 [PV.v (cv), PV.v (.int .i64 (p:Int))]] [some (pvRd (cv, zBy bs p))] [.one (.v (.string (zKc bs p)))] := by
 refine zAQ func102 rfl rfl rfl rfl ?_
 refine zAB (zAA rfl (.a rfl rfl .nil) ?_)
 refine zAB (zAA rfl (.run [300] [] rfl (zAR (cs := [.vs ⟨#[97]⟩, .vs ⟨#[98]⟩, .vs ⟨#[97, 98]⟩, .vs ⟨#[97, 98, 99]⟩, .vs ⟨#[97, 98, 100]⟩, .vs ⟨#[107, 101, 121]⟩, .vs ⟨#[107, 101, 121, 49]⟩, .vs ⟨#[107, 101, 121, 50]⟩, .vs ⟨#[122, 122]⟩, .vs ⟨#[97, 0]⟩]) (ps := [PV.v (.string ⟨#[97]⟩), PV.v (.string ⟨#[98]⟩), PV.v (.string ⟨#[97, 98]⟩), PV.v (.string ⟨#[97, 98, 99]⟩), PV.v (.string ⟨#[97, 98, 100]⟩), PV.v (.string ⟨#[107, 101, 121]⟩), PV.v (.string ⟨#[107, 101, 121, 49]⟩), PV.v (.string ⟨#[107, 101, 121, 50]⟩), PV.v (.string ⟨#[122, 122]⟩), PV.v (.string ⟨#[97, 0]⟩)]) (xs := [[PV.v (.string ⟨#[97]⟩)], [PV.v (.string ⟨#[98]⟩)], [PV.v (.string ⟨#[97, 98]⟩)], [PV.v (.string ⟨#[97, 98, 99]⟩)], [PV.v (.string ⟨#[97, 98, 100]⟩)], [PV.v (.string ⟨#[107, 101, 121]⟩)], [PV.v (.string ⟨#[107, 101, 121, 49]⟩)], [PV.v (.string ⟨#[107, 101, 121, 50]⟩)], [PV.v (.string ⟨#[122, 122]⟩)], [PV.v (.string ⟨#[97, 0]⟩)]]) rfl 300 underlying105 inf9 (nle rfl) (by decide) rfl rfl (by kernel_rfl) (.cons .v (.cons .v (.cons .v (.cons .v (.cons .v (.cons .v (.cons .v (.cons .v (.cons .v (.cons .v .nil)))))))))) (by decide) (by kernel_rfl) (by decide) rfl (by decide) rfl) (.m rfl rfl (.run [100000, 500] [] rfl (zAz (.inr rfl) rfl 500 (X := [100000]) en52 rfl (.val nod) (.cons (.rptr rfl) (.cons (.one (.bor .v)) .nil)) (by decide) (all_cons rfl all_nil) (.keep (xs := pvRd (cv, p)) rfl (FlatP.nf (zAb _)) .nil) (zBx hc hl p hp 10 (by omega)) rfl rfl (nle rfl)) (.r rfl (zAe (zAk bs p 10) rfl rfl rfl rfl underlying105 sizeOf9 rfl rfl (zCC (by decide))) (.r rfl (zA6 rfl rfl rfl (zDc (zPV bs p)) isAgg9 rfl) (.a rfl rfl .nil)))))) ?_)
 refine zAO ?_
 exact ends [_] [] (.cons (.tmp rfl) .nil) (.cons (.one .v (.v _)) .nil) (by decide) (zB7 (congrArg (fun x => some (2, x)) (congrArg pvRd (congrArg (Prod.mk cv) rfl))) (zAb _) (by decide))
theorem zHX {γ : Gho} {cv : Value} {bs : List Nat} (hc : zCe γ cv bs) (hl : bs.length ≤ 1152921504606846976) (p : Nat) (hp : p ≤ bs.length) (most : Nat) (hmo : most ≤ 1000) : ConG γ Tryz.prog 103 [.rptr 2 [PV.v (cv), PV.v (.int .i64 (p:Int))], .one (PV.v (.int .i64 (most:Int)))] [some (pvRd (cv, zEy bs p most))] [.one (.v (.string (zIS bs p most)))] := by
 refine zAQ func103 rfl rfl rfl rfl ?_
 have hb0 := zCC (bs := bs) (p := p) (n := most + 1) (by omega)
 refine zAB (zAA rfl (.a rfl rfl .nil) ?_)
 refine zAB (zAA rfl (.run [700] [] rfl (zAR rfl 700 underlying22 inf5 (nle rfl) (by decide) rfl rfl rfl .nil (by decide) rfl (by decide) rfl (by decide) rfl) (.a rfl rfl .nil)) ?_)
 refine zAB ?_
 refine zAB (zAA rfl (.m rfl rfl (.m rfl rfl (.r rfl (zAW (zAf rfl rfl rfl (by omega)) ((zAL (by omega)))) (.run [100000, 1100] [] rfl (zAz (.inr rfl) rfl 1100 (X := [100000]) en52 rfl (.val nod) (.cons (.rptr rfl) (.cons (.one (.bor .v)) .nil)) (by decide) (all_cons rfl all_nil) (.keep (xs := pvRd (cv, p)) rfl (FlatP.nf (zAb _)) .nil) (zBx hc hl p hp (most + 1) (by omega)) rfl rfl (nle rfl)) (.a rfl rfl .nil))))) ?_)
 refine zAS ?_
 refine zAY (zBi 700 1 rfl rfl (by decide)) ?_
-- entry row 100000: pvRd (cv, (zAH bs p (most + 1))) now pvRd (cv, zAH bs p (most + 1))
 refine zAp (σ := Nat × List Int × Nat) (fun (i, l, q) => mk [(0, .ea 100000 0 0), (5, .sl 1 0 ((pvU l).length)), (6, .vi (i:Int))] [] [(1, 1, pvU l), (100000, 2, pvRd (cv, q))]) (fun (i, l, q) => i ≤ 1001 ∧ l.length + i ≤ 1001 ∧ q ≤ bs.length ∧ zGK bs i l q = zIT bs p most) (fun (i, l, q) => i) (zAk bs p (most + 1), [], zAH bs p (most + 1)) ⟨by omega, by simp only [List.length_nil]; omega, zAV hp, rfl⟩ (zAJ ⟨rfl, rfl, (zAL (by omega)), trivial⟩ trivial ⟨(congrArg (fun x => some (1, x)) (by rfl)), rfl, trivial⟩ rfl) ?_
 rintro ⟨i, l, q⟩ hG
 replace hG : i ≤ 1001 ∧ l.length + i ≤ 1001 ∧ q ≤ bs.length ∧ zGK bs i l q = zIT bs p most := hG
 obtain ⟨hi, hll, hp, hE⟩ := hG
 have hle := zFz l
 refine zAB ?_
 refine zAB (zAA rfl (.m rfl rfl (.r rfl (zBN rfl rfl rfl) .nil)) ?_)
 refine zAZ (t := decide (0 < (i:Int))) rfl (fun h1 => ?_) (fun h1 => ?_)
 ·
  replace h1 := of_decide_eq_true h1
  refine zAM ?_
  refine zAB ?_
  refine zAS ?_
  refine zAA rfl (.m rfl rfl (.m rfl rfl (.run [100000, 1800] [] rfl (zAz (.inr rfl) rfl 1800 (X := [100000]) en52 rfl (.val nod) (.cons (.rptr rfl) (.cons (.one (.bor .v)) .nil)) (by decide) (all_cons rfl all_nil) (.keep (xs := pvRd (cv, q)) rfl (FlatP.nf (zAb _)) .nil) (zBx hc hl q hp 256 (by omega)) rfl rfl (nle rfl)) (.r rfl (zCt rfl rfl underlying3 underlying5) (.run [2000] [] rfl (zAR rfl 2000 underlying22 inf5 (nle rfl) (by decide) rfl rfl rfl (.cons .v .nil) (by decide) rfl (by decide) rfl (by decide) rfl) (.run [1] [] rfl (zAu rfl 1 (ib := 1) (len := ((pvU l) ++ [[PV.v (.int .u8 (IntKind.u8.wrap ((zAk bs q 256 : Nat) : Int)))]]).length) rfl rfl (.row (len := (pvU l).length) (xs := pvU l) rfl rfl (.inl rfl)) (.give (len := 1) (xs := [[PV.v (.int .u8 (IntKind.u8.wrap ((zAk bs q 256 : Nat) : Int)))]]) rfl rfl) underlying22 (sk underlying22 rfl) inf5 rfl (by decide) (by decide) (by decide) List.length_append (by simp only [maxLen, List.length_append, List.length_cons, List.length_nil, zFz]; omega) (by simp only [maxLen, List.length_append, List.length_cons, List.length_nil, zFz]; omega)) (.a rfl rfl .nil))))))) ?_
  have hr2 : (pvU l) ++ [[PV.v (.int .u8 (IntKind.u8.wrap ((zAk bs q 256 : Nat) : Int)))]] = pvU (l ++ [IntKind.u8.wrap ((zAk bs q 256 : Nat) : Int)]) := by simp [pvU]
  have hp3 : (.sl 1 0 (((pvU l) ++ [[PV.v (.int .u8 (IntKind.u8.wrap ((zAk bs q 256 : Nat) : Int)))]]).length) : AV) = .sl 1 0 ((pvU (l ++ [IntKind.u8.wrap ((zAk bs q 256 : Nat) : Int)])).length) := by simp only [hr2]
  refine zAY (s' := mk [(0, .ea 100000 0 0), (5, .sl 1 0 ((pvU (l ++ [IntKind.u8.wrap ((zAk bs q 256 : Nat) : Int)])).length)), (6, .vi (i:Int))] [] [(1, 1, pvU (l ++ [IntKind.u8.wrap ((zAk bs q 256 : Nat) : Int)])), (100000, 2, pvRd (cv, zAH bs q 256))]) ?_ ?_
  · exact zAJ ⟨rfl, hp3, rfl, trivial⟩ trivial ⟨(congrArg (fun x => some (1, x)) hr2), rfl, trivial⟩ rfl
  refine zAA rfl (.m rfl rfl (.r rfl (zAv rfl rfl rfl (by omega)) (.a rfl rfl .nil))) ?_
-- round row 100000: pvRd (cv, (zAH bs q 256)) now pvRd (cv, zAH bs q 256)
  refine nxt (Q := fun _ _ => False) (z := (i, l, q)) (i - 1, l ++ [IntKind.u8.wrap ((zAk bs q 256 : Nat) : Int)], zAH bs q 256) ?_ ?_ ?_
  ·
   show (i - 1) ≤ 1001 ∧ (l ++ [IntKind.u8.wrap ((zAk bs q 256 : Nat) : Int)]).length + (i - 1) ≤ 1001 ∧ (zAH bs q 256) ≤ bs.length ∧ zGK bs (i - 1) (l ++ [IntKind.u8.wrap ((zAk bs q 256 : Nat) : Int)]) (zAH bs q 256) = zIT bs p most
   exact ⟨by omega, by simp only [List.length_append, List.length_cons, List.length_nil]; omega, zAV hp, zO2 (by omega) hE⟩
  ·
   show (i - 1) < i
   omega
  · exact zAJ ⟨rfl, rfl, (zAL (by omega)), trivial⟩ trivial ⟨rfl, rfl, trivial⟩ rfl
 ·
  replace h1 := of_decide_eq_false h1
  refine zAx ?_
  refine zAB ?_
  have hi0 : i = 0 := (by omega)
  rw [hi0] at hE
  have hEm : (l, q) = zIT bs p most := hE
  refine zAA rfl (.m rfl rfl (.r rfl (st_strN l rfl rfl (.give (len := (pvU l).length) (xs := pvU l) rfl rfl) rfl rfl underlying22 underlying9 underlying5) (.a rfl rfl .nil))) ?_
  refine zAO ?_
  exact ends [_] [] (.cons (.tmp (zLq (by rw [zIS, ← hEm]))) .nil) (.cons (.one .v (.v _)) .nil) (by decide) (zB7 (congrArg (fun x => some (2, x)) (congrArg pvRd (congrArg (Prod.mk cv) (by rw [zEy, ← hEm])))) (zAb _) (by decide))
theorem zJR {γ : Gho} {cv : Value} {bs : List Nat} (hc : zCe γ cv bs) (hl : bs.length ≤ 1152921504606846976) (p : Nat) (hp : p ≤ bs.length)  : ConG γ Tryz.prog 89 [.rptr 2 [PV.v (cv), PV.v (.int .i64 (p:Int))]] [some (pvRd (cv, zAH bs p 5))] [.one (.v (.string (zJS bs p)))] := by
 refine zAQ func89 rfl rfl rfl rfl ?_
 refine zAB (zAA rfl (.a rfl rfl .nil) ?_)
 refine zAB (zAA rfl (.run [300] [] rfl (zAR rfl 300 underlying105 inf9 (nle rfl) (by decide) rfl rfl rfl (.cons .v (.cons .v (.cons .v (.cons .v (.cons .v .nil))))) (by decide) rfl (by decide) rfl (by decide) rfl) (.m rfl rfl (.run [100000, 500] [] rfl (zAz (.inr rfl) rfl 500 (X := [100000]) en52 rfl (.val nod) (.cons (.rptr rfl) (.cons (.one (.bor .v)) .nil)) (by decide) (all_cons rfl all_nil) (.keep (xs := pvRd (cv, p)) rfl (FlatP.nf (zAb _)) .nil) (zBx hc hl p hp 5 (by omega)) rfl rfl (nle rfl)) (.r rfl (zAe (zAk bs p 5) rfl rfl rfl rfl underlying105 sizeOf9 rfl rfl (zCC (by decide))) (.r rfl (zA6 rfl rfl rfl (zDc (zNh bs p)) isAgg9 rfl) (.a rfl rfl .nil)))))) ?_)
 refine zAO ?_
 exact ends [_] [] (.cons (.tmp rfl) .nil) (.cons (.one .v (.v _)) .nil) (by decide) (zB7 (congrArg (fun x => some (2, x)) (congrArg pvRd (congrArg (Prod.mk cv) rfl))) (zAb _) (by decide))
theorem key_con {γ : Gho} {cv : Value} {bs : List Nat} (hc : zCe γ cv bs) (hl : bs.length ≤ 1152921504606846976) (p : Nat) (hp : p ≤ bs.length)  : ConG γ Tryz.prog 88 [.rptr 2 [PV.v (cv), PV.v (.int .i64 (p:Int))]] [some (pvRd (cv, keyP bs p))] [.agg [.v (.string (keyV bs p).user), .v (.int .i64 (keyV bs p).seq), .v (.int .i64 (keyV bs p).kind)]] := by
 refine zAQ func88 rfl rfl rfl rfl ?_
 refine zAB (zAA rfl (.run [] [2] rfl (zAj rfl 2 zOZ rfl (by decide) rfl (by decide)) .nil) ?_)
 refine zAB (zAA rfl (.m rfl rfl (.run [100000, 500] [] rfl (zAz (.inr rfl) rfl 500 (X := [100000]) en102 rfl (.val nod) (.cons (.rptr rfl) .nil) (by decide) (all_cons rfl all_nil) (.keep (xs := pvRd (cv, p)) rfl (FlatP.nf (zAb _)) .nil) (zLm hc hl p hp) rfl rfl (nle rfl)) (.m rfl rfl (.run [100000, 700] [] rfl (zAz (.inr rfl) rfl 700 (X := [100000]) en90 rfl (.val nod) (.cons (.rptr rfl) (.cons (.one (.bor .v)) (.cons (.one (.bor .v)) .nil))) (by decide) (all_cons rfl all_nil) (.keep (xs := pvRd (cv, zBy bs p)) rfl (FlatP.nf (zAb _)) .nil) (zMM hc hl (zBy bs p) (zAV hp) 0 12 (by omega) (by omega)) rfl rfl (nle rfl)) (.m rfl rfl (.run [100000, 900] [] rfl (zAz (.inr rfl) rfl 900 (X := [100000]) en52 rfl (.val nod) (.cons (.rptr rfl) (.cons (.one (.bor .v)) .nil)) (by decide) (all_cons rfl all_nil) (.keep (xs := pvRd (cv, zCN bs (zBy bs p) 0 12)) rfl (FlatP.nf (zAb _)) .nil) (zBx hc hl (zCN bs (zBy bs p) 0 12) (zD3 (zAV hp)) 2 (by omega)) rfl rfl (nle rfl)) (.r rfl (zBC (pl := [(0, 1), (1, 1), (2, 1)]) rfl underlying54 zOZ (by kernel_rfl) rfl rfl) (.run [] [3] rfl (zAj rfl 3 zOZ rfl (by decide) rfl (by decide)) (.r rfl (zAE rfl rfl rfl rfl rfl sizeOf54 rfl (nle rfl)) .nil))))))))) ?_)
 refine zAB ?_
 refine zAB (zAA rfl (.m rfl rfl (.run [100000, 1200] [] rfl (zAz (.inr rfl) rfl 1200 (X := [100000]) en52 rfl (.val nod) (.cons (.rptr rfl) (.cons (.one (.bor .v)) .nil)) (by decide) (all_cons rfl all_nil) (.keep (xs := pvRd (cv, zAH bs (zCN bs (zBy bs p) 0 12) 2)) rfl (FlatP.nf (zAb _)) .nil) (zBx hc hl (zAH bs (zCN bs (zBy bs p) 0 12) 2) (zAV (zD3 (zAV hp))) 24 (by omega)) rfl rfl (nle rfl)) .nil)) ?_)
 refine zAS ?_
 refine zAB (zAA rfl (.r rfl (zA8 rfl rfl rfl) (.a rfl rfl .nil)) ?_)
 refine zAZ (t := decide (((zAk bs (zAH bs (zCN bs (zBy bs p) 0 12) 2) 24 : Nat) : Int) = 0)) rfl (fun h1 => ?_) (fun h1 => ?_)
 ·
  replace h1 := of_decide_eq_true h1
  refine zAY (s' := mk [(0, .ea 100000 0 0), (2, .ptr 2 0), (3, .ptr 3 0)] [(2, [.vs ⟨#[]⟩, .vi 0, .vi 0]), (3, [.vs (zKc bs p), .vi (zFX bs (zBy bs p) 0 12), .vi ((zAk bs (zCN bs (zBy bs p) 0 12) 2 : Nat) : Int)])] [(100000, 2, pvRd (cv, zAH bs (zAH bs (zCN bs (zBy bs p) 0 12) 2) 24))]) ?_ ?_
  · exact zAJ ⟨rfl, rfl, rfl, trivial⟩ ⟨rfl, rfl, trivial⟩ ⟨rfl, trivial⟩ rfl
  refine zAA rfl (.m rfl rfl (.run [100000, 1600] [] rfl (zAz (.inr rfl) rfl 1600 (X := [100000]) en58 rfl (.val nod) (.cons (.rptr rfl) (.cons (.one (.bor .v)) (.cons (.one (.bor .v)) .nil))) (by decide) (all_cons rfl all_nil) (.keep (xs := pvRd (cv, zAH bs (zAH bs (zCN bs (zBy bs p) 0 12) 2) 24)) rfl (FlatP.nf (zAb _)) .nil) (zIy hc hl (zAH bs (zAH bs (zCN bs (zBy bs p) 0 12) 2) 24) (zAV (zAV (zD3 (zAV hp)))) 0 1000000000000 (by omega) (by omega)) rfl rfl (nle rfl)) (.r rfl (zAC rfl rfl underlying54 rfl sizeOf2 (by decide)) (.r rfl (zAE rfl rfl rfl rfl rfl sizeOf2 rfl (nle rfl)) .nil)))) ?_
  refine zAB ?_
  have hk := key_0 (bs := bs) (p := p) (by show zAk bs (zBq bs p) 24 = 0; unfold zBq; omega)
  rw [hk.1, hk.2]
  refine zAA rfl (.r rfl (zAG rfl rfl rfl isAgg54 sizeOf54 (nle rfl)) (.r rfl (zAE rfl rfl rfl rfl rfl sizeOf54 rfl (nle rfl)) .nil)) ?_
  refine zAO ?_
  exact ends [_] [] (.cons (.cell rfl rfl isAgg54 sizeOf54 (nle rfl)) .nil) (.cons (.agg (.cons .v (.cons .v (.cons .v .nil))) (zAI (.v _) (zAI (.v _) (zAI (.v _) zBE)))) .nil) (by decide) (zB7 (congrArg (fun x => some (2, x)) (congrArg pvRd (congrArg (Prod.mk cv) rfl))) (zAb _) (by decide))
 ·
  replace h1 := of_decide_eq_false h1
  refine zAB (zAA rfl (.r rfl (zA8 rfl rfl rfl) (.a rfl rfl .nil)) ?_)
  refine zAZ (t := decide (((zAk bs (zAH bs (zCN bs (zBy bs p) 0 12) 2) 24 : Nat) : Int) = 1)) rfl (fun h2 => ?_) (fun h2 => ?_)
  ·
   replace h2 := of_decide_eq_true h2
   refine zAY (s' := mk [(0, .ea 100000 0 0), (2, .ptr 2 0), (3, .ptr 3 0)] [(2, [.vs ⟨#[]⟩, .vi 0, .vi 0]), (3, [.vs (zKc bs p), .vi (zFX bs (zBy bs p) 0 12), .vi ((zAk bs (zCN bs (zBy bs p) 0 12) 2 : Nat) : Int)])] [(100000, 2, pvRd (cv, zAH bs (zAH bs (zCN bs (zBy bs p) 0 12) 2) 24))]) ?_ ?_
   · exact zAJ ⟨rfl, rfl, rfl, trivial⟩ ⟨rfl, rfl, trivial⟩ ⟨rfl, trivial⟩ rfl
   refine zAA rfl (.m rfl rfl (.run [100000, 2100] [] rfl (zAz (.inr rfl) rfl 2100 (X := [100000]) en58 rfl (.val nod) (.cons (.rptr rfl) (.cons (.one (.bor .v)) (.cons (.one (.bor .v)) .nil))) (by decide) (all_cons rfl all_nil) (.keep (xs := pvRd (cv, zAH bs (zAH bs (zCN bs (zBy bs p) 0 12) 2) 24)) rfl (FlatP.nf (zAb _)) .nil) (zIy hc hl (zAH bs (zAH bs (zCN bs (zBy bs p) 0 12) 2) 24) (zAV (zAV (zD3 (zAV hp)))) 0 1 (by omega) (by omega)) rfl rfl (nle rfl)) (.r rfl (zAC rfl rfl underlying54 rfl sizeOf2 (by decide)) (.r rfl (zAE rfl rfl rfl rfl rfl sizeOf2 rfl (nle rfl)) .nil)))) ?_
   refine zAB ?_
   have hk := key_1 (bs := bs) (p := p) (by show ¬ zAk bs (zBq bs p) 24 = 0; unfold zBq; omega) (by show zAk bs (zBq bs p) 24 = 1; unfold zBq; omega)
   rw [hk.1, hk.2]
   refine zAA rfl (.r rfl (zAG rfl rfl rfl isAgg54 sizeOf54 (nle rfl)) (.r rfl (zAE rfl rfl rfl rfl rfl sizeOf54 rfl (nle rfl)) .nil)) ?_
   refine zAO ?_
   exact ends [_] [] (.cons (.cell rfl rfl isAgg54 sizeOf54 (nle rfl)) .nil) (.cons (.agg (.cons .v (.cons .v (.cons .v .nil))) (zAI (.v _) (zAI (.v _) (zAI (.v _) zBE)))) .nil) (by decide) (zB7 (congrArg (fun x => some (2, x)) (congrArg pvRd (congrArg (Prod.mk cv) rfl))) (zAb _) (by decide))
  ·
   replace h2 := of_decide_eq_false h2
   refine zAB ?_
   refine zAY (s' := mk [(0, .ea 100000 0 0), (2, .ptr 2 0), (3, .ptr 3 0), (12, .vi ((zAk bs (zAH bs (zCN bs (zBy bs p) 0 12) 2) 24 : Nat) : Int))] [(2, [.vs ⟨#[]⟩, .vi 0, .vi 0]), (3, [.vs (zKc bs p), .vi (zFX bs (zBy bs p) 0 12), .vi ((zAk bs (zCN bs (zBy bs p) 0 12) 2 : Nat) : Int)])] [(100000, 2, pvRd (cv, zAH bs (zAH bs (zCN bs (zBy bs p) 0 12) 2) 24))]) ?_ ?_
   · exact zAJ ⟨rfl, rfl, rfl, rfl, trivial⟩ ⟨rfl, rfl, trivial⟩ ⟨rfl, trivial⟩ rfl
   refine zAA rfl (.r rfl (zA8 rfl rfl rfl) (.a rfl rfl .nil)) ?_
   refine zAZ (t := decide (((zAk bs (zAH bs (zCN bs (zBy bs p) 0 12) 2) 24 : Nat) : Int) = 2)) rfl (fun h3 => ?_) (fun h3 => ?_)
   ·
    replace h3 := of_decide_eq_true h3
    refine zAA rfl (.m rfl rfl (.run [100000, 2600] [] rfl (zAz (.inr rfl) rfl 2600 (X := [100000]) en103 rfl (.val nod) (.cons (.rptr rfl) (.cons (.one (.bor .v)) .nil)) (by decide) (all_cons rfl all_nil) (.keep (xs := pvRd (cv, zAH bs (zAH bs (zCN bs (zBy bs p) 0 12) 2) 24)) rfl (FlatP.nf (zAb _)) .nil) (zHX hc hl (zAH bs (zAH bs (zCN bs (zBy bs p) 0 12) 2) 24) (zAV (zAV (zD3 (zAV hp)))) 45 (by omega)) rfl rfl (nle rfl)) (.r rfl (zAC rfl rfl underlying54 rfl sizeOf9 (by decide)) (.r rfl (zAE rfl rfl rfl rfl rfl sizeOf9 rfl (nle rfl)) .nil)))) ?_
    refine zAB ?_
    have hk := key_2 (bs := bs) (p := p) (by show ¬ zAk bs (zBq bs p) 24 = 0; unfold zBq; omega) (by show ¬ zAk bs (zBq bs p) 24 = 1; unfold zBq; omega) (by show zAk bs (zBq bs p) 24 = 2; unfold zBq; omega)
    rw [hk.1, hk.2]
    refine zAA rfl (.r rfl (zAG rfl rfl rfl isAgg54 sizeOf54 (nle rfl)) (.r rfl (zAE rfl rfl rfl rfl rfl sizeOf54 rfl (nle rfl)) .nil)) ?_
    refine zAO ?_
    exact ends [_] [] (.cons (.cell rfl rfl isAgg54 sizeOf54 (nle rfl)) .nil) (.cons (.agg (.cons .v (.cons .v (.cons .v .nil))) (zAI (.v _) (zAI (.v _) (zAI (.v _) zBE)))) .nil) (by decide) (zB7 (congrArg (fun x => some (2, x)) (congrArg pvRd (congrArg (Prod.mk cv) rfl))) (zAb _) (by decide))
   ·
    replace h3 := of_decide_eq_false h3
    refine zAM ?_
    refine zAB ?_
    have hk := key_3 (bs := bs) (p := p) (by show ¬ zAk bs (zBq bs p) 24 = 0; unfold zBq; omega) (by show ¬ zAk bs (zBq bs p) 24 = 1; unfold zBq; omega) (by show ¬ zAk bs (zBq bs p) 24 = 2; unfold zBq; omega)
    rw [hk.1, hk.2]
    refine zAA rfl (.r rfl (zAG rfl rfl rfl isAgg54 sizeOf54 (nle rfl)) (.r rfl (zAE rfl rfl rfl rfl rfl sizeOf54 rfl (nle rfl)) .nil)) ?_
    refine zAO ?_
    exact ends [_] [] (.cons (.cell rfl rfl isAgg54 sizeOf54 (nle rfl)) .nil) (.cons (.agg (.cons .v (.cons .v (.cons .v .nil))) (zAI (.v _) (zAI (.v _) (zAI (.v _) zBE)))) .nil) (by decide) (zB7 (congrArg (fun x => some (2, x)) (congrArg pvRd (congrArg (Prod.mk cv) rfl))) (zAb _) (by decide))
theorem zOk {γ : Gho} {cv : Value} {bs : List Nat} (hc : zCe γ cv bs) (hl : bs.length ≤ 1152921504606846976) (p : Nat) (hp : p ≤ bs.length)  : ConG γ Tryz.prog 57 [.rptr 2 [PV.v (cv), PV.v (.int .i64 (p:Int))]] [some (pvRd (cv, zC3 bs p))] [.agg [.v (.string (zCI bs p).user), .v (.int .i64 (zCI bs p).seq), .v (.int .i64 (zCI bs p).kind), .v (.string (zCI bs p).value)]] := by
 refine zAQ func57 rfl rfl rfl rfl ?_
 refine zAB (zAA rfl (.run [] [2] rfl (zAj rfl 2 zBb rfl (by decide) rfl (by decide)) .nil) ?_)
 refine zAB (zAA rfl (.m rfl rfl (.run [100000, 500, 501, 502] [] rfl (zAz (.inr rfl) rfl 500 (X := [100000]) en88 rfl (.val nod) (.cons (.rptr rfl) .nil) (by decide) (all_cons rfl all_nil) (.keep (xs := pvRd (cv, p)) rfl (FlatP.nf (zAb _)) .nil) (key_con hc hl p hp) rfl rfl (nle rfl)) (.m rfl rfl (.run [100000, 700] [] rfl (zAz (.inr rfl) rfl 700 (X := [100000]) en89 rfl (.val nod) (.cons (.rptr rfl) .nil) (by decide) (all_cons rfl all_nil) (.keep (xs := pvRd (cv, keyP bs p)) rfl (FlatP.nf (zAb _)) .nil) (zJR hc hl (keyP bs p) (zLA hp)) rfl rfl (nle rfl)) (.r rfl (zBC (pl := [(0, 3), (3, 1)]) rfl underlying56 zBb (by kernel_rfl) rfl rfl) (.run [] [3] rfl (zAj rfl 3 zBb rfl (by decide) rfl (by decide)) (.r rfl (zAE rfl rfl rfl rfl rfl sizeOf56 rfl (nle rfl)) .nil))))))) ?_)
 refine zAB ?_
 refine zAB ?_
 refine zAY (s' := mk [(0, .ea 100000 0 0), (2, .ptr 2 0), (3, .ptr 3 0)] [(2, [.vs ⟨#[]⟩, .vi 0, .vi 0, .vs ⟨#[]⟩]), (3, [.vs ((keyV bs p).user), .vi ((keyV bs p).seq), .vi ((keyV bs p).kind), .vs (zJS bs (keyP bs p))])] [(100000, 2, pvRd (cv, zAH bs (keyP bs p) 5))]) ?_ ?_
 · exact zAJ ⟨rfl, rfl, rfl, trivial⟩ ⟨rfl, rfl, trivial⟩ ⟨rfl, trivial⟩ rfl
 rcases bfc (decide (((keyV bs p).kind) = 0)) with h1 | h1
 ·
  have h1' := h1
  replace h1' := of_decide_eq_false h1'
  refine zAA rfl (.r rfl (zAC rfl rfl underlying56 rfl sizeOf54 (by decide)) (.r rfl (zAC rfl rfl underlying54 rfl sizeOf2 (by decide)) (.r rfl (zAD rfl rfl rfl isAgg2 rfl) (.r rfl (zAW (zA8 rfl rfl rfl) (zAN h1)) (.m rfl rfl (.not rfl (.not rfl (.not rfl (.r rfl (zAU (t := false) rfl rfl) .nil))))))))) ?_
  refine zAZ (t := false) rfl (fun h => nomatch h) (fun _ => ?_)
  refine zAM ?_
  refine zAB ?_
  have hk := ent_2 (bs := bs) (p := p) h1'
  rw [hk.1, hk.2]
  refine zAA rfl (.r rfl (zAG rfl rfl rfl isAgg56 sizeOf56 (nle rfl)) (.r rfl (zAE rfl rfl rfl rfl rfl sizeOf56 rfl (nle rfl)) .nil)) ?_
  refine zAO ?_
  exact ends [_] [] (.cons (.cell rfl rfl isAgg56 sizeOf56 (nle rfl)) .nil) (.cons (.agg (.cons .v (.cons .v (.cons .v (.cons .v .nil)))) (zAI (.v _) (zAI (.v _) (zAI (.v _) (zAI (.v _) zBE))))) .nil) (by decide) (zB7 (congrArg (fun x => some (2, x)) (congrArg pvRd (congrArg (Prod.mk cv) rfl))) (zAb _) (by decide))
 ·
  have h1' := h1
  replace h1' := of_decide_eq_true h1'
  refine zAA rfl (.r rfl (zAC rfl rfl underlying56 rfl sizeOf54 (by decide)) (.r rfl (zAC rfl rfl underlying54 rfl sizeOf2 (by decide)) (.r rfl (zAD rfl rfl rfl isAgg2 rfl) (.r rfl (zAW (zA8 rfl rfl rfl) (zAN h1)) (.m rfl rfl (.m rfl rfl (.run [100000, 1500] [] rfl (zAz (.inr rfl) rfl 1500 (X := [100000]) en56 rfl (.val nod) (.cons (.rptr rfl) (.cons (.one (.bor .v)) .nil)) (by decide) (all_cons rfl all_nil) (.keep (xs := pvRd (cv, zAH bs (keyP bs p) 5)) rfl (FlatP.nf (zAb _)) .nil) (zEf hc hl (zAH bs (keyP bs p) 5) (zAV (zLA hp)) 12 (by omega)) rfl rfl (nle rfl)) (.r rfl (zA5 (b := zCl bs (zAH bs (keyP bs p) 5) 12) rfl rfl) (.r rfl (zAU (t := true) rfl rfl) .nil))))))))) ?_
  refine zAZ (t := (!(zCl bs (zAH bs (keyP bs p) 5) 12))) rfl (fun h2 => ?_) (fun h2 => ?_)
  ·
   replace h2 : (zCl bs (zAH bs (keyP bs p) 5) 12) = false := zBF h2
   refine zAA rfl (.r rfl (zAC rfl rfl underlying56 rfl sizeOf9 (by decide)) (.r rfl (zAE rfl rfl rfl rfl rfl sizeOf9 rfl (nle rfl)) .nil)) ?_
   refine zAB ?_
   have hk := ent_1 (bs := bs) (p := p) h1' h2
   rw [hk.1, hk.2]
   refine zAA rfl (.r rfl (zAG rfl rfl rfl isAgg56 sizeOf56 (nle rfl)) (.r rfl (zAE rfl rfl rfl rfl rfl sizeOf56 rfl (nle rfl)) .nil)) ?_
   refine zAO ?_
   exact ends [_] [] (.cons (.cell rfl rfl isAgg56 sizeOf56 (nle rfl)) .nil) (.cons (.agg (.cons .v (.cons .v (.cons .v (.cons .v .nil)))) (zAI (.v _) (zAI (.v _) (zAI (.v _) (zAI (.v _) zBE))))) .nil) (by decide) (zB7 (congrArg (fun x => some (2, x)) (congrArg pvRd (congrArg (Prod.mk cv) rfl))) (zAb _) (by decide))
  ·
   replace h2 : (zCl bs (zAH bs (keyP bs p) 5) 12) = true := zBG h2
   refine zAM ?_
   refine zAB ?_
   have hk := ent_0 (bs := bs) (p := p) h1' h2
   rw [hk.1, hk.2]
   refine zAA rfl (.r rfl (zAG rfl rfl rfl isAgg56 sizeOf56 (nle rfl)) (.r rfl (zAE rfl rfl rfl rfl rfl sizeOf56 rfl (nle rfl)) .nil)) ?_
   refine zAO ?_
   exact ends [_] [] (.cons (.cell rfl rfl isAgg56 sizeOf56 (nle rfl)) .nil) (.cons (.agg (.cons .v (.cons .v (.cons .v (.cons .v .nil)))) (zAI (.v _) (zAI (.v _) (zAI (.v _) (zAI (.v _) zBE))))) .nil) (by decide) (zB7 (congrArg (fun x => some (2, x)) (congrArg pvRd (congrArg (Prod.mk cv) rfl))) (zAb _) (by decide))
theorem zQZ {γ : Gho} (bs : List Nat) (A : Option Addr) (c : Nat) : ConG γ Tryz.prog 5 [.one (PV.v (.slice A bs.length c))] [] [.one (.v (.bool (decide ((1048576 : Int) < (bs.length : Int)))))] := by
 refine zAQ func5 rfl rfl rfl rfl ?_
 refine zAB (zAA rfl (.a rfl rfl .nil) ?_)
 refine zAB (zAA rfl (.m rfl rfl (.r rfl (zLs rfl rfl underlying22) (.r rfl (zBN rfl rfl rfl) (.a rfl rfl .nil)))) ?_)
 refine zAO ?_
 exact ends [_] [] (.cons (.tmp rfl) .nil) (.cons (.one .v (.v _)) .nil) (by decide) trivial
theorem big_con {γ : Gho} {cv : Value} {bs : List Nat} (hc : zCe γ cv bs) : ConG γ Tryz.prog 5 [.one (.v cv)] [] [.one (.v (.bool (decide ((1048576 : Int) < (bs.length : Int)))))] := by
 obtain ⟨A, c, rfl, hcc⟩ := hc
 exact zQZ bs A c
theorem zPx {γ : Gho} (cv : Value) : ConG γ Tryz.prog 19 [.one (PV.v (cv))] [] [.rptr 2 [.v cv, .v (.int .i64 (0:Int))]] := by
 refine zAQ func19 rfl rfl rfl rfl ?_
 refine zAB (zAA rfl (.a rfl rfl .nil) ?_)
 refine zAB (zAA rfl (.m rfl rfl (.r rfl (zBC (pl := [(0, 1), (1, 1)]) rfl underlying81 inf81 (by kernel_rfl) rfl rfl) (.run [500] [] rfl (zMx rfl 500 rfl rfl rfl (by decide) rfl (by decide)) (.a rfl rfl .nil)))) ?_)
 refine zAO ?_
 exact ends [_] [500] (.cons (.tmp rfl) .nil) (.cons (.rptr rfl zM6) .nil) (by decide) trivial
end Go.Rl
namespace Go.Rl
theorem zC5 {a b : Ent} (h : cmpK a b < 0) : LessE a b := by
 by_cases h1 : LessE a b
 · exact h1
 ·
  by_cases h2 : a.user = b.user ∧ a.seq = b.seq ∧ a.kind = b.kind
  · rw [zHW h2.1 h2.2.1 h2.2.2] at h; omega
  · rw [zHV h1 h2] at h; omega
theorem LessE.trans {a b c : Ent} (h : LessE a b) (k : LessE b c) : LessE a c := by
 rcases h with h | ⟨hu, h⟩
 ·
  rcases k with k | ⟨ku, _⟩
  · exact .inl (zEN h k)
  · exact .inl (by rw [← ku]; exact h)
 ·
  rcases k with k | ⟨ku, k⟩
  · exact .inl (by rw [hu]; exact k)
  ·
   refine .inr ⟨hu.trans ku, ?_⟩
   rcases h with h | ⟨h1, h2⟩
   ·
    rcases k with k | ⟨k1, k2⟩
    · exact .inl (by omega)
    · exact .inl (by omega)
   ·
    rcases k with k | ⟨k1, k2⟩
    · exact .inl (by omega)
    · exact .inr ⟨by omega, by omega⟩
theorem LessE.irrefl {a : Ent} (h : LessE a a) : False := by
 rcases h with h | ⟨_, h | ⟨_, h⟩⟩
 · rw [zDL] at h; cases h
 · omega
 · omega
theorem zHO {l : List Ent} (h : zAr l = true) : ∀ (d i : Nat) (x e : Ent), l[i]? = some x → l[i + d + 1]? = some e → LessE x e
 | 0, i, x, e, hx, he => by
  simp only [zAr, Bool.and_eq_true] at h
  have := zHe h.2 he
  simp only [zCz, Nat.add_zero, Nat.add_sub_cancel, hx, Bool.and_eq_true, Bool.or_eq_true, decide_eq_true_eq] at this
  exact zC5 (this.2.resolve_left (by omega))
 | d + 1, i, x, e, hx, he => by
  obtain ⟨y, hy⟩ : ∃ y, l[i + d + 1]? = some y := ⟨_, List.getElem?_eq_getElem (by have := (List.getElem?_eq_some_iff.1 he).1; omega)⟩
  exact (zHO h d i x y hx hy).trans (zHO h 0 (i + d + 1) y e hy (by rw [← he]; congr 1))
theorem zF5 {l : List Ent} (h : zAr l = true) {i j : Nat} {x e : Ent} (hij : i < j) (hx : l[i]? = some x) (he : l[j]? = some e) : LessE x e :=
 zHO h (j - i - 1) i x e hx (by rw [← he]; congr 1; omega)
theorem zQR {l : List Ent} (h : zAr l = true) {i j : Nat} {e : Ent} (hx : l[i]? = some e) (he : l[j]? = some e) : i = j := by
 rcases Nat.lt_trichotomy i j with hij | hij | hij
 · exact (zF5 h hij hx he).irrefl.elim
 · exact hij
 · exact (zF5 h hij he hx).irrefl.elim
theorem zP7 {l : List Ent} {ps : List Int} {n : Nat} {z : Int} (h : z ∈ zBK l ps n) : z < (n : Int) := by
 obtain ⟨k, h1, h2, _⟩ := zDi (n := n) h
 omega
theorem zGE (l : List Ent) (ps : List Int) : ∀ n, (zBK l ps n).Pairwise (· < ·)
 | 0 => .nil
 | n + 1 => by
  rw [zBK, List.pairwise_append]
  refine ⟨zGE l ps n, ?_, fun a ha b hb => ?_⟩
  ·
   cases l[n]? with
   | none => exact .nil
   | some e =>
    simp only
    split
    · exact List.pairwise_singleton _ _
    · exact .nil
  ·
   have h1 := zP7 ha
   cases hn : l[n]? with
   | none => rw [hn] at hb; cases hb
   | some e =>
    rw [hn] at hb
    simp only at hb
    split at hb
    · rw [List.mem_singleton] at hb; omega
    · cases hb
theorem zFw {zs : List Int} (h : zs.Pairwise (· < ·)) {i j : Nat} {x y : Int} (hij : i < j) (hx : zs[i]? = some x) (hy : zs[j]? = some y) : x < y := by
 obtain ⟨h1, rfl⟩ := List.getElem?_eq_some_iff.1 hx
 obtain ⟨h2, rfl⟩ := List.getElem?_eq_some_iff.1 hy
 exact (List.pairwise_iff_getElem.1 h) i j h1 h2 hij
theorem zCw (b : Bool) (out : List Ent) (e : Ent) : (zEq b out e = e :: out) ∨ (zEq b out e = out ∧ b = true ∧ e.kind = 0 ∧ zG2 out e = false) := by
 by_cases h : b = true ∧ e.kind = 0 ∧ zG2 out e = false
 · exact .inr ⟨zCv h.1 h.2.1 h.2.2, h⟩
 · exact .inl (zB1 h)
theorem zEW {l : List Ent} {b : Bool} {zs : List Int} (hz : ∀ z ∈ zs, ∃ q : Nat, z = (q : Int) ∧ q < l.length) : ∀ {k : Nat} {x : Ent}, k ≤ zs.length → x ∈ zA2 l b zs k → ∃ (j q : Nat), zs.length - k ≤ j ∧ zs[j]? = some (q : Int) ∧ l[q]? = some x
 | 0, x, _, h => by simp [zA2, Go.Proofs.Bw.upto, zCx] at h
 | k + 1, x, hk, h => by
  obtain ⟨z, hzz⟩ : ∃ z, zs[zs.length - 1 - k]? = some z := ⟨_, List.getElem?_eq_getElem (by omega)⟩
  obtain ⟨q, rfl, hq⟩ := hz z (List.mem_of_getElem? hzz)
  obtain ⟨e, he⟩ : ∃ e, l[q]? = some e := ⟨_, List.getElem?_eq_getElem hq⟩
  have hs := zDA (l := l) (bot := b) (i := zs.length - 1 - k) (k := k) (by omega) hzz (e := e) (by simpa using he)
  rw [hs] at h
  have rec_ : x ∈ zA2 l b zs k → ∃ (j q : Nat), zs.length - (k + 1) ≤ j ∧ zs[j]? = some (q : Int) ∧ l[q]? = some x := fun hx => by
   obtain ⟨j, q', h1, h2, h3⟩ := zEW hz (by omega) hx
   exact ⟨j, q', by omega, h2, h3⟩
  rcases zCw b (zA2 l b zs k) e with hc | ⟨hc, _⟩
  ·
   rw [hc] at h
   rcases List.mem_cons.1 h with rfl | h
   · exact ⟨zs.length - 1 - k, q, by omega, hzz, he⟩
   · exact rec_ h
  · rw [hc] at h; exact rec_ h
theorem zEB {l : List Ent} {s : List Int} {b : Bool} (h1 : zAr l = true) (h2 : zBP s = true) : zBS l s b = zA2 l b (zBK l (zAP s) l.length) (zBK l (zAP s) l.length).length := if_pos ⟨h1, h2⟩
end Go.Rl
namespace Go.Rl
end Go.Rl
namespace Go.Rl
open Go.Proofs
end Go.Rl
namespace Go.Rl
structure Pr where
 user : ByteArray
 value : ByteArray
 deriving DecidableEq
def Pr.pv (e : Pr) : List PV := [.v (.string e.user), .v (.string e.value)]
def pvP (l : List Pr) : List (List PV) := l.map Pr.pv
theorem zBl (l : List Pr) : (pvP l).length = l.length := by simp [pvP]
theorem zGx {l : List Pr} {i : Nat} {e : Pr} (h : l[i]? = some e) : (pvP l)[i]? = some e.pv := by simp [pvP, h]
theorem zDV (l : List Pr) : FlatP (pvP l) := fun es he p hp => by
 obtain ⟨s, _, rfl⟩ := List.mem_map.1 he
 simp only [Pr.pv, List.mem_cons, List.not_mem_nil, or_false] at hp
 rcases hp with rfl | rfl <;> rfl
theorem zPm (l : List Pr) (e : Pr) : pvP l ++ [[PV.v (.string e.user), PV.v (.string e.value)]] = pvP (l ++ [e]) := by simp [pvP, Pr.pv]
def zDM (l : List Ent) (u : ByteArray) (p : Int) : Option Ent := if idxF (asOf u p) l < 0 then none else l[(idxF (asOf u p) l).toNat]?
def zI9 (o : Option Ent) : Int := match o with
 | some e => if e.kind = 0 then 2 else 1
 | none => 0
def zHM (o : Option Ent) : ByteArray := match o with
 | some e => if e.kind = 0 then ⟨#[]⟩ else e.value
 | none => ⟨#[]⟩
theorem zD6 {α : Type} {p : α → Bool} {l : List α} : idxF p l < 0 ↔ ∀ x ∈ l, p x = false := by
 unfold idxF
 cases hf : l.findIdx? p with
 | none =>
  simp only [show ((-1 : Int) < 0) = True by simp, true_iff]
  intro x hx
  exact List.findIdx?_eq_none_iff.1 hf x hx
 | some q =>
  simp only
  constructor
  · intro h; omega
  ·
   intro h
   obtain ⟨h1, h2, _⟩ := List.findIdx?_eq_some_iff_getElem.1 hf
   rw [h _ (List.getElem_mem h1)] at h2
   cases h2
theorem zJ0 {l : List Ent} {u : ByteArray} {p : Int} (h : idxF (asOf u p) l < 0) : zDM l u p = none := if_pos h
theorem zJz {l : List Ent} {u : ByteArray} {p : Int} {e : Ent} (h : ¬ idxF (asOf u p) l < 0) (he : l[(idxF (asOf u p) l).toNat]? = some e) : zDM l u p = some e := (if_neg h).trans he
def zCd (l : List Ent) : Prop := ∀ (i j : Nat) x e, i < j → l[i]? = some x → l[j]? = some e → LessE x e
theorem zD9 {l : List Ent} (h : zAr l = true) : zCd l := fun _ _ _ _ hij hx he => zF5 h hij hx he
def zCo (l : List Ent) (u : ByteArray) (p : Int) (e : Ent) : Prop := e ∈ l ∧ asOf u p e = true ∧ ∀ x ∈ l, asOf u p x = true → x = e ∨ LessE e x
theorem zI2 {l : List Ent} (hl : zCd l) {u : ByteArray} {p : Int} {e : Ent} {k : Nat} (hk : l[k]? = some e) (hp : asOf u p e = true) (hn : ∀ j e', j < k → l[j]? = some e' → asOf u p e' = false) : zCo l u p e := by
 refine ⟨List.mem_of_getElem? hk, hp, fun x hx hpx => ?_⟩
 obtain ⟨j, hj⟩ := List.getElem?_of_mem hx
 rcases Nat.lt_trichotomy j k with h | h | h
 · rw [hn j x h hj] at hpx; cases hpx
 · subst h; rw [hk] at hj; cases hj; exact .inl rfl
 · exact .inr (hl k j e x h hk hj)
theorem zHF {l : List Ent} (hl : zCd l) {u : ByteArray} {p : Int} {e : Ent} : zDM l u p = some e ↔ zCo l u p e := by
 constructor
 ·
  intro h
  unfold zDM at h
  split at h
  · cases h
  ·
   rename_i hn
   obtain ⟨k, hk⟩ : ∃ k : Nat, idxF (asOf u p) l = (k : Int) := ⟨(idxF (asOf u p) l).toNat, by omega⟩
   rw [hk] at h
   obtain ⟨e', he', hp, hlt⟩ := zJ5.1 hk
   simp only [Int.toNat_natCast] at h
   rw [he'] at h; cases h
   exact zI2 hl he' hp hlt
 ·
  rintro ⟨h1, h2, h3⟩
  have hn : ¬ idxF (asOf u p) l < 0 := fun h => by rw [zD6.1 h e h1] at h2; cases h2
  obtain ⟨k, hk⟩ : ∃ k : Nat, idxF (asOf u p) l = (k : Int) := ⟨(idxF (asOf u p) l).toNat, by omega⟩
  obtain ⟨e', he', hp, hlt⟩ := zJ5.1 hk
  have he : e' = e := by
   rcases h3 e' (List.mem_of_getElem? he') hp with h | h
   · exact h
   ·
    rcases (zI2 hl he' hp hlt).2.2 e h1 h2 with h4 | h4
    · exact h4.symm
    · exact (h.trans h4).irrefl.elim
  subst he
  exact zJz hn (by rw [hk]; exact he')
theorem look_ex {l : List Ent} (hl : zCd l) {u : ByteArray} {p : Int} {x : Ent} (hx : x ∈ l) (hp : asOf u p x = true) : ∃ e, zCo l u p e := by
 have hn : ¬ idxF (asOf u p) l < 0 := fun h => by rw [zD6.1 h x hx] at hp; cases hp
 obtain ⟨k, hk⟩ : ∃ k : Nat, idxF (asOf u p) l = (k : Int) := ⟨(idxF (asOf u p) l).toNat, by omega⟩
 obtain ⟨e', he', hp, hlt⟩ := zJ5.1 hk
 exact ⟨e', zI2 hl he' hp hlt⟩
theorem zG6 {l : List Ent} (h : zAr l = true) {ps : List Int} {k : Nat} {e : Ent} (he : l[k]? = some e) : zEo l ps k e = true ↔ ∃ p ∈ ps, zCo l e.user p e := by
 have hs := zD9 h
 simp only [zEo, List.any_eq_true]
 constructor
 ·
  rintro ⟨p, hp, hc⟩
  have hi := (zGa h he).2 ⟨rfl, hc⟩
  obtain ⟨e', he', hpe, hlt⟩ := zJ5.1 hi
  rw [he] at he'; cases he'
  exact ⟨p, hp, zI2 hs he hpe hlt⟩
 ·
  rintro ⟨p, hp, hl⟩
  refine ⟨p, hp, ((zGa h he (u := e.user)).1 ?_).2⟩
  have h1 := (zHF hs).2 hl
  unfold zDM at h1
  split at h1
  · cases h1
  ·
   have := zQR h h1 he
   omega
theorem zFx {α : Type} {R : α → α → Prop} (hir : ∀ a, ¬ R a a) (hasy : ∀ a b, R a b → ¬ R b a) : ∀ {l m : List α}, l.Pairwise R → m.Pairwise R → (∀ x, x ∈ l ↔ x ∈ m) → l = m
 | [], [], _, _, _ => rfl
 | [], b :: m, _, _, h => by have := (h b).2 (by simp); cases this
 | a :: l, [], _, _, h => by have := (h a).1 (by simp); cases this
 | a :: l, b :: m, hl, hm, h => by
  rw [List.pairwise_cons] at hl hm
  have hab : a = b := by
   rcases List.mem_cons.1 ((h a).1 (by simp)) with e | e
   · exact e
   ·
    rcases List.mem_cons.1 ((h b).2 (by simp)) with e' | e'
    · exact e'.symm
    · exact absurd (hm.1 a e) (hasy _ _ (hl.1 b e'))
  subst hab
  congr 1
  refine zFx hir hasy hl.2 hm.2 (fun x => ⟨fun hx => ?_, fun hx => ?_⟩)
  ·
   rcases List.mem_cons.1 ((h x).1 (List.mem_cons_of_mem _ hx)) with e | e
   · subst e; exact absurd (hl.1 x hx) (hir x)
   · exact e
  ·
   rcases List.mem_cons.1 ((h x).2 (List.mem_cons_of_mem _ hx)) with e | e
   · subst e; exact absurd (hm.1 x hx) (hir x)
   · exact e
def zFG (l : List Ent) (p : Int) (u : ByteArray) : List Pr := if zI9 (zDM l u p) = 1 then [⟨u, zHM (zDM l u p)⟩] else []
def visN (l : List Ent) (p : Int) (us : List ByteArray) : List Pr := us.flatMap (zFG l p)
def visF (l : List Ent) (p : Int) : List Pr := visN l p (zAt l)
theorem zPR {l : List Ent} {p : Int} {us : List ByteArray} {i : Nat} {u : ByteArray} (h : us[i]? = some u) (hg : zI9 (zDM l u p) = 1) : visN l p (us.take (i + 1)) = visN l p (us.take i) ++ [⟨u, zHM (zDM l u p)⟩] := by
 simp [visN, List.take_add_one, h, zFG, hg]
theorem zNg {l : List Ent} {p : Int} {us : List ByteArray} {i : Nat} {u : ByteArray} (h : us[i]? = some u) (hg : ¬ zI9 (zDM l u p) = 1) : visN l p (us.take (i + 1)) = visN l p (us.take i) := by
 simp [visN, List.take_add_one, h, zFG, hg]
theorem zGS (l : List Ent) (p : Int) : ∀ us : List ByteArray, (visN l p us).length ≤ us.length
 | [] => Nat.le_refl _
 | u :: us => by
  have := zGS l p us
  simp only [visN, List.flatMap_cons, List.length_append, List.length_cons] at this ⊢
  have h1 : (zFG l p u).length ≤ 1 := by unfold zFG; split <;> simp
  omega
theorem zLl {l : List Ent} {p : Int} {us : List ByteArray} {x : Pr} : x ∈ visN l p us ↔ x.user ∈ us ∧ ∃ e, zDM l x.user p = some e ∧ e.kind ≠ 0 ∧ e.value = x.value := by
 simp only [visN, List.mem_flatMap, zFG]
 constructor
 ·
  rintro ⟨u, hu, hx⟩
  split at hx
  ·
   rename_i hg
   rw [List.mem_singleton] at hx
   subst hx
   refine ⟨hu, ?_⟩
   simp only
   cases ho : zDM l u p with
   | none => rw [ho] at hg; simp [zI9] at hg
   | some e =>
    rw [ho] at hg
    have hk : ¬ e.kind = 0 := fun h => by simp [zI9, h] at hg
    exact ⟨e, rfl, hk, by simp [zHM, hk]⟩
  · cases hx
 ·
  rintro ⟨hu, e, ho, hk, hv⟩
  refine ⟨x.user, hu, ?_⟩
  rw [ho, if_pos (by simp [zI9, hk])]
  simp [zHM, hk, hv]
theorem zET {l : List ByteArray} (h : ∀ (i j : Nat) x y, i < j → l[i]? = some x → l[j]? = some y → ltB x y = true ∨ x = y) : ∀ n, (zAn l n).Pairwise (fun x y => ltB x y = true)
 | 0 => .nil
 | n + 1 => by
  have ih := zET h n
  rw [zAn]
  cases hy : l[n]? with
  | none => exact ih
  | some y =>
   simp only
   split
   · exact ih
   ·
    rename_i hd
    rw [List.pairwise_append]
    refine ⟨ih, List.pairwise_singleton _ _, fun a ha b hb => ?_⟩
    rw [List.mem_singleton] at hb
    subst hb
    obtain ⟨j, hj, hja⟩ := zEU.1 ha
    rcases h j n a b hj hja hy with h1 | h1
    · exact h1
    ·
     exfalso
     subst h1
     refine hd ⟨by omega, ?_⟩
     by_cases hjn : j = n - 1
     · rw [← hjn]; exact hja
     ·
      obtain ⟨z, hz⟩ : ∃ z, l[n - 1]? = some z := ⟨_, List.getElem?_eq_getElem (by have := (List.getElem?_eq_some_iff.1 hy).1; omega)⟩
      rw [hz]
      rcases h j (n - 1) a z (by omega) hja hz with h2 | h2
      ·
       rcases h (n - 1) n z a (by omega) hz hy with h3 | h3
       · rw [zHE h2] at h3; cases h3
       · rw [h3]
      · rw [h2]
theorem zEI {l : List Ent} (hl : zCd l) : (zAt l).Pairwise (fun x y => ltB x y = true) := by
 refine zET (fun i j x y hij hx hy => ?_) _
 rw [List.getElem?_map] at hx hy
 cases hi : l[i]? with
 | none => rw [hi] at hx; cases hx
 | some a =>
  cases hj : l[j]? with
  | none => rw [hj] at hy; cases hy
  | some b =>
   rw [hi] at hx; rw [hj] at hy
   cases hx; cases hy
   rcases hl i j a b hij hi hj with h | ⟨h, _⟩
   · exact .inl h
   · exact .inr h
theorem zDw {l : List Ent} {p : Int} : ∀ {us : List ByteArray}, us.Pairwise (fun x y => ltB x y = true) → (visN l p us).Pairwise (fun x y => ltB x.user y.user = true)
 | [], _ => .nil
 | u :: us, h => by
  rw [List.pairwise_cons] at h
  have ih := zDw (l := l) (p := p) h.2
  show (zFG l p u ++ visN l p us).Pairwise _
  rw [List.pairwise_append]
  refine ⟨?_, ih, fun a ha b hb => ?_⟩
  ·
   unfold zFG; split
   · exact List.pairwise_singleton _ _
   · exact .nil
  ·
   have hb := (zLl.1 hb).1
   unfold zFG at ha
   split at ha
   · rw [List.mem_singleton] at ha; subst ha; exact h.1 _ hb
   · cases ha
theorem zPU {l : List Ent} {u : ByteArray} : u ∈ zAt l ↔ ∃ e ∈ l, e.user = u := by
 rw [zAt, zHT, List.mem_map]
theorem zDb {l : List Ent} (hl : zCd l) {p : Int} {x : Pr} : x ∈ visF l p ↔ ∃ e, zCo l x.user p e ∧ e.kind ≠ 0 ∧ e.value = x.value := by
 rw [visF, zLl]
 constructor
 · rintro ⟨_, e, h1, h2, h3⟩; exact ⟨e, (zHF hl).1 h1, h2, h3⟩
 ·
  rintro ⟨e, h1, h2, h3⟩
  refine ⟨zPU.2 ⟨e, h1.1, ?_⟩, e, (zHF hl).2 h1, h2, h3⟩
  have := h1.2.1
  simp only [asOf, Bool.and_eq_true, decide_eq_true_eq] at this
  exact this.1
theorem vis_eq {l a : List Ent} (hl : zCd l) (ha : zCd a) {p : Int} (h : ∀ u e, e.kind ≠ 0 → (zCo l u p e ↔ zCo a u p e)) : visF a p = visF l p := by
 refine zFx (R := fun x y : Pr => ltB x.user y.user = true) (fun x h => by rw [zDL] at h; cases h) (fun x y h k => by rw [zHE h] at k; cases k) (zDw (zEI ha)) (zDw (zEI hl)) (fun x => ?_)
 show x ∈ visF a p ↔ x ∈ visF l p
 rw [zDb ha, zDb hl]
 constructor
 · rintro ⟨e, h1, h2, h3⟩; exact ⟨e, (h _ _ h2).2 h1, h2, h3⟩
 · rintro ⟨e, h1, h2, h3⟩; exact ⟨e, (h _ _ h2).1 h1, h2, h3⟩
section
variable {l : List Ent} {b : Bool} {zs : List Int}
theorem zEV (hl : zAr l = true) (hs : zs.Pairwise (· < ·)) (hz : ∀ z ∈ zs, ∃ q : Nat, z = (q : Int) ∧ q < l.length) : ∀ k, k ≤ zs.length → (zA2 l b zs k).Pairwise LessE
 | 0, _ => .nil
 | k + 1, hk => by
  have ih := zEV hl hs hz k (by omega)
  obtain ⟨z, hzz⟩ : ∃ z, zs[zs.length - 1 - k]? = some z := ⟨_, List.getElem?_eq_getElem (by omega)⟩
  obtain ⟨q, rfl, hq⟩ := hz z (List.mem_of_getElem? hzz)
  obtain ⟨e, he⟩ : ∃ e, l[q]? = some e := ⟨_, List.getElem?_eq_getElem hq⟩
  rw [zDA (l := l) (bot := b) (i := zs.length - 1 - k) (k := k) (by omega) hzz (e := e) (by simpa using he)]
  rcases zCw b (zA2 l b zs k) e with hc | ⟨hc, _⟩
  ·
   rw [hc, List.pairwise_cons]
   refine ⟨fun x hx => ?_, ih⟩
   obtain ⟨j, q', h1, h2, h3⟩ := zEW hz (by omega) hx
   have := zFw hs (show zs.length - 1 - k < j by omega) hzz h2
   exact zF5 hl (by omega) he h3
  · rw [hc]; exact ih
theorem zGj {a : List Ent} (h : a.Pairwise LessE) : zCd a := fun i j x e hij hx he => by
 obtain ⟨h1, rfl⟩ := List.getElem?_eq_some_iff.1 hx
 obtain ⟨h2, rfl⟩ := List.getElem?_eq_some_iff.1 he
 exact (List.pairwise_iff_getElem.1 h) i j h1 h2 hij
theorem zPy {out : List Ent} {e : Ent} (ho : out.Pairwise LessE) (he : ∀ x ∈ out, LessE e x) (h : zG2 out e = false) : ∀ x ∈ out, x.user ≠ e.user := by
 cases out with
 | nil => intro x hx; cases hx
 | cons o out =>
  intro x hx hxu
  have h1 : o.user ≠ e.user := of_decide_eq_false h
  rw [List.pairwise_cons] at ho
  rcases List.mem_cons.1 hx with rfl | hx
  · exact h1 hxu
  ·
   have h2 := ho.1 x hx
   have h3 := he o (by simp)
   rcases h3 with h3 | ⟨h3, _⟩
   ·
    rcases h2 with h2 | ⟨h2, _⟩
    · have := zEN h3 h2; rw [hxu, zDL] at this; cases this
    · rw [h2, hxu, zDL] at h3; cases h3
   · exact h1 h3.symm
theorem zIO (hl : zAr l = true) (hs : zs.Pairwise (· < ·)) (hz : ∀ z ∈ zs, ∃ q : Nat, z = (q : Int) ∧ q < l.length) : ∀ k, k ≤ zs.length → ∀ (j q : Nat) e, zs.length - k ≤ j → zs[j]? = some (q : Int) → l[q]? = some e → e ∈ zA2 l b zs k ∨ (e.kind = 0 ∧ ∀ x ∈ zA2 l b zs k, LessE e x → x.user ≠ e.user)
 | 0, _, j, q, e, hj, hzj, _ => by have := (List.getElem?_eq_some_iff.1 hzj).1; omega
 | k + 1, hk, j, q, e, hj, hzj, hqe => by
  have ih := zIO hl hs hz k (by omega)
  obtain ⟨z, hzz⟩ : ∃ z, zs[zs.length - 1 - k]? = some z := ⟨_, List.getElem?_eq_getElem (by omega)⟩
  obtain ⟨q0, rfl, hq⟩ := hz z (List.mem_of_getElem? hzz)
  obtain ⟨e0, he0⟩ : ∃ e, l[q0]? = some e := ⟨_, List.getElem?_eq_getElem hq⟩
  have hst := zEV (b := b) hl hs hz k (by omega)
  have hlt : ∀ x ∈ zA2 l b zs k, LessE e0 x := fun x hx => by
   obtain ⟨j', q', h1, h2, h3⟩ := zEW hz (by omega) hx
   have := zFw hs (show zs.length - 1 - k < j' by omega) hzz h2
   exact zF5 hl (by omega) he0 h3
  rw [zDA (l := l) (bot := b) (i := zs.length - 1 - k) (k := k) (by omega) hzz (e := e0) (by simpa using he0)]
  have sub : ∀ x ∈ zEq b (zA2 l b zs k) e0, x = e0 ∨ x ∈ zA2 l b zs k := fun x hx => by
   rcases zCw b (zA2 l b zs k) e0 with hc | ⟨hc, _⟩
   · rw [hc] at hx; exact List.mem_cons.1 hx
   · rw [hc] at hx; exact .inr hx
  by_cases hjk : j = zs.length - 1 - k
  ·
   subst hjk
   rw [hzz] at hzj
   simp only [Option.some.injEq, Int.ofNat_inj] at hzj
   subst hzj
   rw [he0] at hqe; cases hqe
   rcases zCw b (zA2 l b zs k) e with hc | ⟨hc, _, h3, h4⟩
   · rw [hc]; exact .inl (by simp)
   · rw [hc]; exact .inr ⟨h3, fun x hx _ => zPy hst hlt h4 x hx⟩
  ·
   rcases ih j q e (by omega) hzj hqe with h | ⟨h1, h2⟩
   ·
    left
    rcases zCw b (zA2 l b zs k) e0 with hc | ⟨hc, _⟩
    · rw [hc]; exact List.mem_cons_of_mem _ h
    · rw [hc]; exact h
   ·
    refine .inr ⟨h1, fun x hx hex => ?_⟩
    rcases sub x hx with hxe | hx
    ·
     rw [hxe] at hex
     have := zFw hs (show zs.length - 1 - k < j by have := (List.getElem?_eq_some_iff.1 hzj).1; omega) hzz hzj
     exact ((zF5 hl (by omega) he0 hqe).trans hex).irrefl.elim
    · exact h2 x hx hex
theorem zIP (hz : ∀ z ∈ zs, ∃ q : Nat, z = (q : Int) ∧ q < l.length) : ∀ k, k ≤ zs.length → ∀ (i : Nat) e, (zA2 l b zs k)[i]? = some e → zEq b ((zA2 l b zs k).drop (i + 1)) e = e :: (zA2 l b zs k).drop (i + 1)
 | 0, _, i, e, h => by simp [zA2, Go.Proofs.Bw.upto, zCx] at h
 | k + 1, hk, i, e, h => by
  have ih := zIP hz k (by omega)
  obtain ⟨z, hzz⟩ : ∃ z, zs[zs.length - 1 - k]? = some z := ⟨_, List.getElem?_eq_getElem (by omega)⟩
  obtain ⟨q0, rfl, hq⟩ := hz z (List.mem_of_getElem? hzz)
  obtain ⟨e0, he0⟩ : ∃ e, l[q0]? = some e := ⟨_, List.getElem?_eq_getElem hq⟩
  rw [zDA (l := l) (bot := b) (i := zs.length - 1 - k) (k := k) (by omega) hzz (e := e0) (by simpa using he0)] at h ⊢
  rcases zCw b (zA2 l b zs k) e0 with hc | ⟨hc, _⟩
  ·
   rw [hc] at h ⊢
   cases i with
   | zero =>
    simp only [List.getElem?_cons_zero, Option.some.injEq] at h
    subst h
    simpa using hc
   | succ i =>
    simp only [List.getElem?_cons_succ] at h
    simpa using ih i e h
  ·
   rw [hc] at h ⊢
   exact ih i e h
end
theorem zLI {a : List Ent} (h : a.Pairwise LessE) (hl : a.length ≤ 400) (he : ∀ e ∈ a, zBc e = true) : zAr a = true := by
 simp only [zAr, hl, decide_true, Bool.true_and]
 refine zHd (Nat.le_refl _) (fun j e _ hj => ?_)
 simp only [zCz, he e (List.mem_of_getElem? hj), Bool.true_and, Bool.or_eq_true, decide_eq_true_eq]
 by_cases h0 : j = 0
 · exact .inl h0
 ·
  right
  split
  ·
   rename_i x hx
   have := zGj h (j - 1) j x e (by omega) hx hj
   exact decide_eq_true (by rw [zEC this]; decide)
  · rfl
theorem zGc {l : List Ent} (h : zAr l = true) {e : Ent} (he : e ∈ l) : zBc e = true := by
 obtain ⟨i, hi⟩ := List.getElem?_of_mem he
 simp only [zAr, Bool.and_eq_true] at h
 exact zJs (zHe h.2 hi)
theorem zQQ {l : List Ent} (h : zAr l = true) : l.length ≤ 400 := by
 simp only [zAr, Bool.and_eq_true, decide_eq_true_eq] at h
 exact h.1
theorem zJv {l : List Ent} {ps : List Int} {q : Nat} {e : Ent} (he : l[q]? = some e) (h : zEo l ps q e = true) : ∀ {n}, q < n → (q : Int) ∈ zBK l ps n
 | 0, h => absurd h (Nat.not_lt_zero _)
 | n + 1, hn => by
  rw [zBK, List.mem_append]
  by_cases hq : q = n
  ·
   subst hq
   rw [he]
   exact .inr (by simp [h])
  · exact .inl (zJv he h (by omega))
theorem zH6 {l : List Ent} {ps : List Int} {q : Nat} {e : Ent} (he : l[q]? = some e) : ∀ {n}, (q : Int) ∈ zBK l ps n → zEo l ps q e = true
 | 0, h => by simp [zBK] at h
 | n + 1, h => by
  rw [zBK, List.mem_append] at h
  rcases h with h | h
  · exact zH6 he h
  ·
   cases hn : l[n]? with
   | none => rw [hn] at h; cases h
   | some e' =>
    rw [hn] at h
    simp only at h
    split at h
    ·
     rename_i hp
     rw [List.mem_singleton] at h
     have : q = n := by omega
     subst this
     rw [he] at hn; cases hn
     exact hp
    · cases h
theorem zFj {l : List Ent} {s : List Int} {b : Bool} (hl : zAr l = true) (hs : zBP s = true) :
  (∀ p ∈ zAP s, visF (zBS l s b) p = visF l p) ∧ zAr (zBS l s b) = true ∧ zBS (zBS l s b) s b = zBS l s b := by
 have hcd := zEB (b := b) hl hs
 generalize hzs : zBK l (zAP s) l.length = zs at hcd
 have hsd : zs.Pairwise (· < ·) := by rw [← hzs]; exact zGE _ _ _
 have hzb : ∀ z ∈ zs, ∃ q : Nat, z = (q : Int) ∧ q < l.length := fun z hz => by
  rw [← hzs] at hz
  obtain ⟨k, h1, _, h3⟩ := zDi (n := l.length) hz
  exact ⟨k, h1, h3⟩
 have hpw : (zBS l s b).Pairwise LessE := by rw [hcd]; exact zEV hl hsd hzb _ (Nat.le_refl _)
 have hmem : ∀ x ∈ zBS l s b, ∃ q : Nat, (q : Int) ∈ zs ∧ l[q]? = some x := fun x hx => by
  rw [hcd] at hx
  obtain ⟨j, q, _, h2, h3⟩ := zEW hzb (Nat.le_refl _) hx
  exact ⟨q, List.mem_of_getElem? h2, h3⟩
 have hsub : ∀ x ∈ zBS l s b, x ∈ l := fun x hx => by
  obtain ⟨q, _, h⟩ := hmem x hx
  exact List.mem_of_getElem? h
 have hlost : ∀ (q : Nat) e, (q : Int) ∈ zs → l[q]? = some e → e ∈ zBS l s b ∨ (e.kind = 0 ∧ ∀ x ∈ zBS l s b, LessE e x → x.user ≠ e.user) := fun q e hq he => by
  obtain ⟨j, hj⟩ := List.getElem?_of_mem hq
  rw [hcd]
  exact zIO hl hsd hzb _ (Nat.le_refl _) j q e (by omega) hj he
 have hkept : ∀ (i : Nat) e, (zBS l s b)[i]? = some e → zEq b ((zBS l s b).drop (i + 1)) e = e :: (zBS l s b).drop (i + 1) := by
  rw [hcd]; exact zIP hzb _ (Nat.le_refl _)
 have hlen := zHj l s b
 generalize zBS l s b = a at hpw hmem hsub hlost hkept hlen ⊢
 have hsl := zD9 hl
 have hsa := zGj hpw
 have look_down : ∀ {u p e}, e ∈ a → zCo l u p e → zCo a u p e := fun ha h => ⟨ha, h.2.1, fun x hx hp => h.2.2 x (hsub x hx) hp⟩
 have hoka : zAr a = true := zLI hpw (Nat.le_trans hlen (zQQ hl)) (fun e he => zGc hl (hsub e he))
 have needed : ∀ {u p e}, p ∈ zAP s → zCo l u p e → ∃ q : Nat, (q : Int) ∈ zs ∧ l[q]? = some e := fun {u p e} hp h => by
  obtain ⟨q, hq⟩ := List.getElem?_of_mem h.1
  refine ⟨q, ?_, hq⟩
  have hu : e.user = u := by
   have := h.2.1
   simp only [asOf, Bool.and_eq_true, decide_eq_true_eq] at this
   exact this.1
  subst hu
  rw [← hzs]
  exact zJv hq ((zG6 hl hq).2 ⟨p, hp, h⟩) (List.getElem?_eq_some_iff.1 hq).1
 refine ⟨fun p hp => vis_eq hsl hsa (fun u e hk => ⟨fun h => ?_, fun h => ?_⟩), hoka, ?_⟩
 ·
  obtain ⟨q, h1, h2⟩ := needed hp h
  rcases hlost q e h1 h2 with h3 | h3
  · exact look_down h3 h
  · exact absurd h3.1 hk
 ·
  obtain ⟨e', he'⟩ := look_ex hsl (hsub e h.1) h.2.1
  rcases he'.2.2 e (hsub e h.1) h.2.1 with h1 | h1
  · rw [h1]; exact he'
  ·
   exfalso
   obtain ⟨q, h2, h3⟩ := needed hp he'
   rcases hlost q e' h2 h3 with h4 | ⟨_, h4⟩
   ·
    rcases h.2.2 e' h4 he'.2.1 with h5 | h5
    · subst h5; exact h1.irrefl
    · exact (h1.trans h5).irrefl
   ·
    refine h4 e h.1 h1 ?_
    have h5 := h.2.1
    have h6 := he'.2.1
    simp only [asOf, Bool.and_eq_true, decide_eq_true_eq] at h5 h6
    rw [h5.1, h6.1]
 ·
  -- asked again
  have hall : ∀ (i : Nat) e, a[i]? = some e → zEo a (zAP s) i e = true := fun i e hi => by
   obtain ⟨q, h1, h2⟩ := hmem e (List.mem_of_getElem? hi)
   rw [← hzs] at h1
   obtain ⟨p, hp, h3⟩ := (zG6 hl h2).1 (zH6 h2 h1)
   exact (zG6 hoka hi).2 ⟨p, hp, look_down (List.mem_of_getElem? hi) h3⟩
  have hneed : ∀ n, n ≤ a.length → zBK a (zAP s) n = (List.range n).map (fun i : Nat => (i : Int)) := by
   intro n
   induction n with
   | zero => intro _; rfl
   | succ n ih =>
    intro hn
    obtain ⟨e, he⟩ : ∃ e, a[n]? = some e := ⟨_, List.getElem?_eq_getElem (by omega)⟩
    rw [zI0 he (hall n e he), ih (by omega), List.range_succ, List.map_append]
    rfl
  rw [zEB hoka hs, hneed a.length (Nat.le_refl _)]
  have hzl : ((List.range a.length).map (fun i : Nat => (i : Int))).length = a.length := by simp
  generalize hws : (List.range a.length).map (fun i : Nat => (i : Int)) = ws at hzl ⊢
  rw [hzl]
  have hget : ∀ i, i < a.length → ws[i]? = some (i : Int) := fun i hi => by rw [← hws]; simp [hi]
  have hk : ∀ k, k ≤ a.length → zA2 a b ws k = a.drop (a.length - k) := by
   intro k
   induction k with
   | zero => intro _; rw [Nat.sub_zero, List.drop_length]; rfl
   | succ k ih =>
    intro hk
    obtain ⟨e, he⟩ : ∃ e, a[a.length - (k + 1)]? = some e := ⟨_, List.getElem?_eq_getElem (by omega)⟩
    rw [zDA (i := a.length - (k + 1)) (by omega) (hget _ (by omega)) (e := e) (by simpa using he), ih (by omega)]
    have h1 := hkept _ e he
    rw [show a.length - (k + 1) + 1 = a.length - k by omega] at h1
    rw [h1, List.drop_eq_getElem_cons (show a.length - (k + 1) < a.length by omega), (List.getElem?_eq_some_iff.1 he).2, show a.length - (k + 1) + 1 = a.length - k by omega]
  rw [hk a.length (Nat.le_refl _), Nat.sub_self, List.drop_zero]
end Go.Rl
namespace Go.Rl
open Go.Proofs Go.Proofs.Tryz
set_option maxRecDepth 1000000
set_option maxHeartbeats 2000000
theorem zNM : (Tryz.prog.info? 72).map (fun i => (i.zero, i.size, i.bytes)) = some (some (.agg #[.string ⟨#[]⟩, .string ⟨#[]⟩]), 2, 32) := by kernel_rfl
theorem en80 : En Tryz.prog 80 := zAm func80 (by decide) rfl
theorem pr_eqIn (a b : Pr) (w : World) : (Op.equalIn 10000 72 (.agg ⟨[.string a.user, .string a.value]⟩) (.agg ⟨[.string b.user, .string b.value]⟩)).run Tryz.prog w = .ok (decide (a = b)) w := by
 rw [show (10000 : Nat) = 9999 + 1 from rfl, run_equalIn_agg w 9999 72 _ _ underlying72 (by kernel_rfl)]
 rw [show (Tryz.prog.fieldsOf 72).toList = [⟨"User", 9, 0, false, "", "", 0⟩, ⟨"Value", 9, 1, false, "", "", 16⟩] from rfl]
 rw [show (9999 : Nat) = 9998 + 1 from rfl]
 have hb : ∀ x y : ByteArray, x.toList = y.toList ↔ x = y := fun x y => ⟨zFu, fun h => by rw [h]⟩
 simp [Op.eqFields, part, isAgg9, sizeOf9, run_equalIn_string (h := underlying9), hb]
 cases a; cases b
 simp only [Pr.mk.injEq]
 split
 · split <;> simp_all
 · simp_all
theorem zBM {γ : Gho} {P : Program} {n : Nat} {o : Oper} {M B : List Nat} {s : St} {c x y : Operand} (ho : o.op = .pick c x y) {d : Option Nat} (hc : s.ev c = .p d (.v (.bool true))) : StepD γ P n o M B s { put := s.ev x } := zAU ho hc
theorem zBI {γ : Gho} {P : Program} {n : Nat} {o : Oper} {M B : List Nat} {s : St} {c x y : Operand} (ho : o.op = .pick c x y) {d : Option Nat} (hc : s.ev c = .p d (.v (.bool false))) : StepD γ P n o M B s { put := s.ev y } := zAU ho hc
theorem get_con (l : List Ent) (u : ByteArray) (p : Int) (hl : l.length ≤ 2000000) : Con Tryz.prog 80 [.one (PV.sl false 4 (pvE l)), .one (PV.v (.string u)), .one (PV.v (.int .i64 p))] [] [.one (.v (.int .i64 (zI9 (zDM l u p)))), .one (.v (.string (zHM (zDM l u p))))] := by
 refine zAQ func80 rfl rfl rfl rfl ?_
 have hle := zAF l
 refine zAB (zAA rfl (.a rfl rfl (.a rfl rfl .nil)) ?_)
 refine zAB (zAA rfl (.m rfl rfl (.m rfl rfl (.m rfl rfl (.run [1200] [] rfl (zAK rfl 1200 (X := []) en99 rfl (.val nod) (.cons (.one (.bor (.sl nod))) (.cons (.one (.bor .v)) (.cons (.one (.bor .v)) .nil))) (by decide) all_nil .nil (zIE l u p (by omega)) rfl rfl (nle rfl)) (.a rfl rfl .nil))))) ?_)
 refine zAB ?_
 refine zAS ?_
 refine zAB (zAA rfl (.m rfl rfl (.r rfl (zA4 rfl rfl rfl) (.a rfl rfl .nil))) ?_)
 refine zAZ (t := decide ((idxF (asOf u p) l) < 0)) rfl (fun h1 => ?_) (fun h1 => ?_)
 ·
  replace h1 := of_decide_eq_true h1
  refine zAB (zAA rfl (.a rfl rfl (.a rfl rfl .nil)) ?_)
  refine zAO ?_
  exact ends [_, _] [] (.cons (.tmp (zAL (by rw [zJ0 h1]; rfl))) (.cons (.tmp (zLq (by rw [zJ0 h1]; rfl))) .nil)) (.cons (.one .v (.v _)) (.cons (.one .v (.v _)) .nil)) (by decide) trivial
 ·
  replace h1 := of_decide_eq_false h1
  refine zAB ?_
  have hib := zOa (p := asOf u p) (l := l) (by omega)
  obtain ⟨e, he⟩ : ∃ e, l[(idxF (asOf u p) l).toNat]? = some e := ⟨_, List.getElem?_eq_getElem hib⟩
  have hlk : zDM l u p = some e := zJz (by omega) he
  refine zAY (s' := mk [(0, .p none (.sl false 4 (pvE l))), (8, .vi (idxF (asOf u p) l))] [] []) ?_ ?_
  · exact zAJ ⟨rfl, rfl, trivial⟩ trivial trivial rfl
  refine zAA rfl (.m rfl rfl (.m rfl rfl (.r rfl (zAh rfl rfl rfl underlying24 sizeOf56 rfl (by omega) (zA0 he)) (.r rfl (zAo rfl rfl underlying56 rfl sizeOf54 (by decide)) (.r rfl (zAo rfl rfl underlying54 rfl sizeOf2 (by decide)) (.r rfl (zAg rfl rfl isAgg2 rfl) (.r rfl (zA8 rfl rfl rfl) (.a rfl rfl .nil)))))))) ?_
  refine zAZ (t := decide (e.kind = 0)) rfl (fun h2 => ?_) (fun h2 => ?_)
  ·
   replace h2 := of_decide_eq_true h2
   refine zAB (zAA rfl (.a rfl rfl (.a rfl rfl .nil)) ?_)
   refine zAO ?_
   exact ends [_, _] [] (.cons (.tmp (zAL (by rw [hlk]; exact (if_pos h2).symm))) (.cons (.tmp (zLq (by rw [hlk]; exact (if_pos h2).symm))) .nil)) (.cons (.one .v (.v _)) (.cons (.one .v (.v _)) .nil)) (by decide) trivial
  ·
   replace h2 := of_decide_eq_false h2
   refine zAM ?_
   refine zAB (zAc zBL rfl (.m rfl rfl (.m rfl rfl (.r rfl (zAh rfl rfl rfl underlying24 sizeOf56 rfl (by omega) (zA0 he)) (.r rfl (zAo rfl rfl underlying56 rfl sizeOf9 (by decide)) (.r rfl (zAg rfl rfl isAgg9 rfl) (.a rfl rfl (.a rfl rfl .nil))))))) (by kernel_rfl) ?_)
   refine zAO ?_
   exact ends [_, _] [] (.cons (.tmp (zAL (by rw [hlk]; exact (if_neg h2).symm))) (.cons (.tmp (zLq (by rw [hlk]; exact (if_neg h2).symm))) .nil)) (.cons (.one .v (.v _)) (.cons (.one .v (.v _)) .nil)) (by decide) trivial
theorem zKb (l : List Ent) (p : Int) (hl : l.length ≤ 2000000) : Con Tryz.prog 43 [.one (PV.sl false 4 (pvE l)), .one (PV.v (.int .i64 p))] [] [.one (.sl true 2 (pvP (visF l p)))] := by
 refine zAQ func43 rfl rfl rfl rfl ?_
 have hle := zAF l
 have hul := zFH l
 have hlu := zBo (zAt l)
 refine zAB (zAA rfl (.a rfl rfl .nil) ?_)
 refine zAB (zAA rfl (.run [1000] [] rfl (zAR rfl 1000 underlying33 zNM (nle rfl) (by decide) rfl rfl rfl .nil (by decide) rfl (by decide) rfl (by decide) rfl) (.a rfl rfl .nil)) ?_)
 refine zAB ?_
 refine zAB (zAA rfl (.m rfl rfl (.run [1200] [] rfl (zAK rfl 1200 (X := []) en79 rfl (.val nod) (.cons (.one (.bor (.sl nod))) .nil) (by decide) all_nil .nil (zJT l (by omega)) rfl rfl (nle rfl)) (.r rfl (zAy rfl rfl underlying105) (.m rfl rfl .nil)))) ?_)
 refine zAS ?_
 refine zAY (zBi 1000 1 rfl rfl (by decide)) ?_
 refine zAp (σ := Nat) (fun i => mk [(0, .p none (.sl false 4 (pvE l))), (1, .vi p), (5, .sl 1 0 ((pvP (visN l p ((zAt l).take i))).length)), (12, .sl 1200 0 ((pvT (zAt l)).length)), (13, .vi ((pvT (zAt l)).length : Int)), (14, .vi (i:Int))] [] [(1, 2, pvP (visN l p ((zAt l).take i))), (1200, 1, pvT (zAt l))]) (fun i => i ≤ (zAt l).length) (fun i => (zAt l).length - i) 0 (by simp) (zAJ ⟨rfl, rfl, rfl, rfl, rfl, (zAL (by omega)), trivial⟩ trivial ⟨(congrArg (fun x => some (2, x)) (by rfl)), rfl, trivial⟩ rfl) ?_
 rintro i hG
 replace hG : i ≤ (zAt l).length := hG
 have hvn := zGS l p ((zAt l).take i)
 have hlv := zBl (visN l p ((zAt l).take i))
 rw [List.length_take] at hvn
 refine zAB (zAA rfl (.r rfl (zA4 rfl rfl rfl) .nil) ?_)
 refine zAB ?_
 refine zAZ (t := decide ((i:Int) < ((pvT (zAt l)).length : Int))) rfl (fun h1 => ?_) (fun h1 => ?_)
 ·
  replace h1 := of_decide_eq_true h1
  refine zAM ?_
  refine zAB ?_
  refine zAS ?_
  refine zAB ?_
  obtain ⟨e, he⟩ : ∃ e, (zAt l)[i]? = some e := ⟨_, List.getElem?_eq_getElem (by (have hL := zBo (zAt l); omega))⟩
  have hlte := (List.getElem?_eq_some_iff.1 he).1
  refine zAA rfl (.r rfl (zAe i rfl rfl rfl rfl underlying105 sizeOf9 rfl rfl (by omega)) (.r rfl (zA6 rfl rfl rfl (zDc he) isAgg9 rfl) (.a rfl rfl .nil))) ?_
  refine zAB (zAA rfl (.m rfl rfl (.m rfl rfl (.m rfl rfl (.run [2200, 2201] [] rfl (zAK rfl 2200 (X := []) en80 rfl (.val nod) (.cons (.one (.bor (.sl nod))) (.cons (.one (.bor .v)) (.cons (.one (.bor .v)) .nil))) (by decide) all_nil .nil (get_con l e p (by omega)) rfl rfl (nle rfl)) (.m rfl rfl (.r rfl (zAa rfl rfl rfl) (.r rfl (zAa rfl rfl rfl) (.a rfl rfl (.a rfl rfl .nil))))))))) ?_)
  refine zAB (zAA rfl (.m rfl rfl (.r rfl (zA8 rfl rfl rfl) .nil)) ?_)
  refine zAZ (t := decide ((zI9 (zDM l e p)) = 1)) rfl (fun h2 => ?_) (fun h2 => ?_)
  ·
   replace h2 := of_decide_eq_true h2
   refine zAY (s' := mk [(0, .p none (.sl false 4 (pvE l))), (1, .vi p), (5, .sl 1 0 ((pvP (visN l p ((zAt l).take i))).length)), (7, .vs e), (9, .vs (zHM (zDM l e p))), (12, .sl 1200 0 ((pvT (zAt l)).length)), (13, .vi ((pvT (zAt l)).length : Int)), (14, .vi (i:Int))] [] [(1, 2, pvP (visN l p ((zAt l).take i))), (1200, 1, pvT (zAt l))]) ?_ ?_
   · exact zAJ ⟨rfl, rfl, rfl, rfl, rfl, rfl, rfl, rfl, trivial⟩ trivial ⟨rfl, rfl, trivial⟩ rfl
   refine zAA rfl (.m rfl rfl (.m rfl rfl (.m rfl rfl (.r rfl (zBC (pl := [(0, 1), (1, 1)]) rfl underlying72 zNM (by kernel_rfl) rfl rfl) (.run [3100] [] rfl (zAR rfl 3100 underlying33 zNM (nle rfl) (by decide) rfl rfl rfl (.cons .v (.cons .v .nil)) (by decide) rfl (by decide) rfl (by decide) rfl) (.run [1] [] rfl (zAu rfl 1 (ib := 1) (len := ((pvP (visN l p ((zAt l).take i))) ++ [[PV.v (.string e), PV.v (.string (zHM (zDM l e p)))]]).length) rfl rfl (.row (len := (pvP (visN l p ((zAt l).take i))).length) (xs := pvP (visN l p ((zAt l).take i))) rfl rfl (.inl rfl)) (.give (len := 1) (xs := [[PV.v (.string e), PV.v (.string (zHM (zDM l e p)))]]) rfl rfl) underlying33 (sk underlying33 rfl) zNM rfl (by decide) (by decide) (by decide) List.length_append (by simp only [maxLen, List.length_append, List.length_cons, List.length_nil, List.length_take, zBl]; omega) (by simp only [maxLen, List.length_append, List.length_cons, List.length_nil, List.length_take, zBl]; omega)) (.a rfl rfl .nil))))))) ?_
   have hr3 : (pvP (visN l p ((zAt l).take i))) ++ [[PV.v (.string e), PV.v (.string (zHM (zDM l e p)))]] = pvP (visN l p ((zAt l).take (i + 1))) := by rw [zPR he h2]; exact zPm _ ⟨_, _⟩
   have hp4 : (.sl 1 0 (((pvP (visN l p ((zAt l).take i))) ++ [[PV.v (.string e), PV.v (.string (zHM (zDM l e p)))]]).length) : AV) = .sl 1 0 ((pvP (visN l p ((zAt l).take (i + 1)))).length) := by simp only [hr3]
   refine zAY (s' := mk [(0, .p none (.sl false 4 (pvE l))), (1, .vi p), (5, .sl 1 0 ((pvP (visN l p ((zAt l).take (i + 1)))).length)), (12, .sl 1200 0 ((pvT (zAt l)).length)), (13, .vi ((pvT (zAt l)).length : Int)), (14, .vi (i:Int))] [] [(1, 2, pvP (visN l p ((zAt l).take (i + 1)))), (1200, 1, pvT (zAt l))]) ?_ ?_
   · exact zAJ ⟨rfl, rfl, hp4, rfl, rfl, rfl, trivial⟩ trivial ⟨(congrArg (fun x => some (2, x)) hr3), rfl, trivial⟩ rfl
   refine zAA rfl (.r rfl (zAf rfl rfl rfl (by omega)) (.m rfl rfl .nil)) ?_
   refine nxt (Q := fun _ _ => False) (z := i) (i + 1) ?_ ?_ ?_
   ·
    show (i + 1) ≤ (zAt l).length
    omega
   ·
    show (zAt l).length - (i + 1) < (zAt l).length - i
    omega
   · exact zAJ ⟨rfl, rfl, rfl, rfl, rfl, (zAL (by omega)), trivial⟩ trivial ⟨rfl, rfl, trivial⟩ rfl
  ·
   replace h2 := of_decide_eq_false h2
   refine zAM ?_
   refine zAY (s' := mk [(0, .p none (.sl false 4 (pvE l))), (1, .vi p), (5, .sl 1 0 ((pvP (visN l p ((zAt l).take i))).length)), (12, .sl 1200 0 ((pvT (zAt l)).length)), (13, .vi ((pvT (zAt l)).length : Int)), (14, .vi (i:Int))] [] [(1, 2, pvP (visN l p ((zAt l).take i))), (1200, 1, pvT (zAt l))]) ?_ ?_
   · exact zAJ ⟨rfl, rfl, rfl, rfl, rfl, rfl, trivial⟩ trivial ⟨rfl, rfl, trivial⟩ rfl
   refine zAA rfl (.r rfl (zAf rfl rfl rfl (by omega)) (.m rfl rfl .nil)) ?_
   refine nxt (Q := fun _ _ => False) (z := i) (i + 1) ?_ ?_ ?_
   ·
    show (i + 1) ≤ (zAt l).length
    omega
   ·
    show (zAt l).length - (i + 1) < (zAt l).length - i
    omega
   · exact zAJ ⟨rfl, rfl, (congrArg (fun x => AV.sl 1 0 (pvP x).length) (zNg he h2).symm), rfl, rfl, (zAL (by omega)), trivial⟩ trivial ⟨(congrArg (fun x => some (2, x)) (by rw [zNg he h2])), rfl, trivial⟩ rfl
 ·
  replace h1 := of_decide_eq_false h1
  refine zAx ?_
  refine zAB (zAA rfl (.m rfl rfl (.a rfl rfl .nil)) ?_)
  have hr5 : pvP (visN l p ((zAt l).take i)) = pvP (visF l p) := by rw [List.take_of_length_le (by omega)]; rfl
  have hp6 : (.sl 1 0 ((pvP (visN l p ((zAt l).take i))).length) : AV) = .sl 1 0 ((pvP (visF l p)).length) := by simp only [hr5]
  refine zAY (s' := mk [(4, .sl 1 0 ((pvP (visF l p)).length))] [] [(1, 2, pvP (visF l p))]) ?_ ?_
  · exact zAJ ⟨hp6, trivial⟩ trivial ⟨(congrArg (fun x => some (2, x)) hr5), trivial⟩ rfl
  refine zAO ?_
  exact ends [_] [1] (.cons (.tmp rfl) .nil) (.cons (.one (.row (len := (pvP (visF l p)).length) (xs := pvP (visF l p)) rfl rfl) (.sl _ _ (FlatP.clean (zDV _)))) .nil) (by decide) trivial
theorem zIm (a b : List Pr) (hl : a.length ≤ 1000000000) : Con Tryz.prog 13 [.one (PV.sl false 2 (pvP a)), .one (PV.sl false 2 (pvP b))] [] [.one (.v (.bool (decide (a = b))))] := by
 refine zAQ func13 rfl rfl rfl rfl ?_
 have hla := zBl a
 have hlb := zBl b
 refine zAB (zAA rfl (.a rfl rfl .nil) ?_)
 refine zAB ?_
 refine zAB (zAA rfl (.m rfl rfl (.r rfl (zAX rfl rfl underlying33) (.m rfl rfl (.r rfl (zAX rfl rfl underlying33) (.r rfl (zCg rfl rfl rfl) .nil))))) ?_)
 refine zAZ (t := (!(decide (((pvP a).length : Int) = ((pvP b).length : Int))))) rfl (fun h1 => ?_) (fun h1 => ?_)
 ·
  replace h1 : ¬ (((pvP a).length : Int) = ((pvP b).length : Int)) := of_decide_eq_false (zBF h1)
  refine zAB (zAA rfl (.a rfl rfl .nil) ?_)
  refine zAO ?_
  exact ends [_] [] (.cons (.tmp (zAN (decide_eq_false (fun e => by subst e; omega)).symm)) .nil) (.cons (.one .v (.v _)) .nil) (by decide) trivial
 ·
  replace h1 : ((pvP a).length : Int) = ((pvP b).length : Int) := of_decide_eq_true (zBG h1)
  refine zAM ?_
  refine zAB ?_
  refine zAB (zAA rfl (.a rfl rfl .nil) ?_)
  refine zAS ?_
  refine zAp (σ := Nat) (fun i => mk [(0, .p none (.sl false 2 (pvP a))), (1, .p none (.sl false 2 (pvP b))), (5, .vi (i:Int))] [] []) (fun i => i ≤ a.length ∧ ∀ j, j < i → a[j]? = b[j]?) (fun i => a.length - i) 0 ⟨Nat.zero_le _, fun j hj => absurd hj (Nat.not_lt_zero j)⟩ (zAJ ⟨rfl, rfl, (zAL (by omega)), trivial⟩ trivial trivial rfl) ?_
  rintro i hG
  replace hG : i ≤ a.length ∧ ∀ j, j < i → a[j]? = b[j]? := hG
  obtain ⟨hi, hG⟩ := hG
  refine zAB ?_
  refine zAB (zAA rfl (.m rfl rfl (.m rfl rfl (.r rfl (zAX rfl rfl underlying33) (.r rfl (zA4 rfl rfl rfl) .nil)))) ?_)
  refine zAZ (t := decide ((i:Int) < ((pvP a).length : Int))) rfl (fun h2 => ?_) (fun h2 => ?_)
  ·
   replace h2 := of_decide_eq_true h2
   refine zAM ?_
   refine zAB ?_
   refine zAS ?_
   refine zAB ?_
   obtain ⟨e, he⟩ : ∃ e, a[i]? = some e := ⟨_, List.getElem?_eq_getElem (by (have hL := zBl a; omega))⟩
   have hlte := (List.getElem?_eq_some_iff.1 he).1
   obtain ⟨e2, he2⟩ : ∃ e, b[i]? = some e := ⟨_, List.getElem?_eq_getElem (by (have hL := zBl b; omega))⟩
   have hlte2 := (List.getElem?_eq_some_iff.1 he2).1
   refine zAc zBL rfl (.m rfl rfl (.m rfl rfl (.r rfl (zAh rfl rfl rfl underlying33 sizeOf72 rfl (by omega) (zGx he)) (.r rfl (zA9 rfl rfl isAgg72 sizeOf72 (nle rfl)) (.m rfl rfl (.m rfl rfl (.r rfl (zAh rfl rfl rfl underlying33 sizeOf72 rfl (by omega) (zGx he2)) (.r rfl (zA9 rfl rfl isAgg72 sizeOf72 (nle rfl)) (.r rfl (st_aneq rfl rfl rfl rfl rfl Tryz.eqGuardType72 (fun w => pr_eqIn e e2 w)) .nil))))))))) (by kernel_rfl) ?_
   refine zAZ (t := (!(decide (e = e2)))) rfl (fun h3 => ?_) (fun h3 => ?_)
   ·
    replace h3 : ¬ (e = e2) := of_decide_eq_false (zBF h3)
    refine zAB (zAA rfl (.a rfl rfl .nil) ?_)
    refine zAO ?_
    exact ends [_] [] (.cons (.tmp (zAN (decide_eq_false (zQH he he2 h3)).symm)) .nil) (.cons (.one .v (.v _)) .nil) (by decide) trivial
   ·
    replace h3 : e = e2 := of_decide_eq_true (zBG h3)
    refine zAM ?_
    refine zAA rfl (.m rfl rfl (.r rfl (zAf rfl rfl rfl (by omega)) (.a rfl rfl .nil))) ?_
    refine nxt (Q := fun _ _ => False) (z := i) (i + 1) ?_ ?_ ?_
    ·
     show (i + 1) ≤ a.length ∧ ∀ j, j < (i + 1) → a[j]? = b[j]?
     exact ⟨by omega, zNN hG he he2 h3⟩
    ·
     show a.length - (i + 1) < a.length - i
     omega
    · exact zAJ ⟨rfl, rfl, (zAL (by omega)), trivial⟩ trivial trivial rfl
  ·
   replace h2 := of_decide_eq_false h2
   refine zAx ?_
   refine zAB (zAA rfl (.a rfl rfl .nil) ?_)
   refine zAO ?_
   exact ends [_] [] (.cons (.tmp (zAN (decide_eq_true (zOb (by omega) (by omega) hG)).symm)) .nil) (.cons (.one .v (.v _)) .nil) (by decide) trivial
theorem zEt (a : List Pr) (hl : a.length ≤ 1000000000) : Con Tryz.prog 13 [.one (PV.sl false 2 (pvP a)), .one (PV.sl false 2 (pvP a))] [] [.one (.v (.bool true))] := by
 simpa using zIm a a hl
end Go.Rl

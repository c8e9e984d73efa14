/- Promises of functions, proved by walks over their operations; no conditions beyond those that each theorem states. -/
import Derived.Test.YtgdfpjpfomcilaaGreatRtSo
import Derived.Test.YtgdfpjpfomcilaaGreatReQ
import Derived.Test.YtgdfpjpfomcilaaGreatReN
set_option linter.unusedSimpArgs false
set_option linter.unusedVariables false
namespace Go.Rl
open Go.Proofs Go.Proofs.Tryz
set_option maxRecDepth 1000000
set_option maxHeartbeats 2000000
theorem en114 : En Tryz.prog 114 := zAm func114 (by decide) rfl
theorem zQS : En Tryz.prog 113 := zAm func113 (by decide) rfl
theorem en112 : En Tryz.prog 112 := zAm func112 (by decide) rfl
theorem en104 : En Tryz.prog 104 := zAm func104 (by decide) rfl
theorem zGf {c : Ent → Ent → Int} {l : List Ent} {a s b : Nat} (h1 : SrtI c l a s) (h2 : SrtI c l s b) (h : a = s ∨ s = b) : SrtI c l a b := by
 rcases h with rfl | rfl
 · exact h2
 · exact h1
theorem zHq {c : Ent → Ent → Int} {l : List Ent} {a s b : Nat} (h1 : SrtI c l a s) (h2 : SrtI c l s b) (h : a = s ∨ s = b) : SrtI c l a b := zGf h1 h2 h
theorem zFN (l : List Ent) (hl : l.length ≤ 2000000) (a m b : Nat) (ga : a < m) (gb : m < b) (gc : b ≤ l.length) (c : Ent → Ent → Int) (hc : CmpOk c) (f : Nat) (pss : List (List PV)) (hE : ∀ vs w, (callFunc f vs).run Tryz.prog w = .ok (.enter f vs) w) (hp : ∀ x y : Ent, Con Tryz.prog f ([.agg x.pv, .agg y.pv] ++ pss.map .fbox) [] [.one (.v (.int .i64 (c x y)))]) (hd : Dist c l) (hS1 : SrtI c l a m) (hS2 : SrtI c l m b) (ih : ∀ (l' : List Ent) (a' m' b' : Nat), b' - a' < b - a → l'.length ≤ 2000000 → a' < m' → m' < b' → b' ≤ l'.length → Dist c l' → SrtI c l' a' m' → SrtI c l' m' b' → Con Tryz.prog 113 [.one (.sl true 4 (pvE l')), .one (PV.v (.int .i64 (a':Int))), .one (PV.v (.int .i64 (m':Int))), .one (PV.v (.int .i64 (b':Int))), .one (PV.clo f pss)] [some (pvE (srtS c l' a' b'))] []) : Con Tryz.prog 113 [.one (.sl true 4 (pvE l)), .one (PV.v (.int .i64 (a:Int))), .one (PV.v (.int .i64 (m:Int))), .one (PV.v (.int .i64 (b:Int))), .one (PV.clo f pss)] [some (pvE (srtS c l a b))] [] := by
 refine zAQ func113 rfl rfl rfl rfl ?_
 have hle := zAF l
 obtain ⟨x, hx⟩ : ∃ x, l[a]? = some x := ⟨_, List.getElem?_eq_getElem (by omega)⟩
 obtain ⟨z, hz⟩ : ∃ z, l[m]? = some z := ⟨_, List.getElem?_eq_getElem (by omega)⟩
 refine zAB ?_
 refine zAB (zAA rfl (.m rfl rfl (.m rfl rfl (.r rfl (zAv rfl rfl rfl (by omega)) (.r rfl (zA8 rfl rfl rfl) .nil)))) ?_)
 refine zAZ (t := decide (((m:Int) - (a:Int)) = 1)) rfl (fun h1 => ?_) (fun h1 => ?_)
 ·
  replace h1 := of_decide_eq_true h1
  refine zAB ?_
  have hS2a : SrtI c l (a + 1) b := by have q : m = a + 1 := (by omega); rw [← q]; exact hS2
  refine zAA rfl (.m rfl rfl (.a rfl rfl .nil)) ?_
  refine zAB (zAA rfl (.m rfl rfl (.a rfl rfl .nil)) ?_)
  refine zAB ?_
  refine zAS ?_
  refine zAp (σ := Nat × Nat) (fun (i, j) => mk [(0, .sl 100000 0 ((pvE l).length)), (1, .vi (a:Int)), (4, .p none (.clo f pss)), (10, .vi (i:Int)), (11, .vi (j:Int))] [] [(100000, 4, pvE l)]) (fun (i, j) => m ≤ i ∧ i ≤ j ∧ j ≤ b ∧ BetU c l x (a + 1) b i j) (fun (i, j) => j - i) (m, b) ⟨Nat.le_refl _, by omega, Nat.le_refl _, ⟨.inl (by omega), .inl rfl⟩⟩ (zAJ ⟨rfl, rfl, rfl, rfl, rfl, trivial⟩ trivial ⟨rfl, trivial⟩ rfl) ?_
  rintro ⟨i, j⟩ hG
  replace hG : m ≤ i ∧ i ≤ j ∧ j ≤ b ∧ BetU c l x (a + 1) b i j := hG
  obtain ⟨hmi, hij, hjb, hB⟩ := hG
  refine zAB ?_
  refine zAB (zAA rfl (.m rfl rfl (.m rfl rfl (.r rfl (zA4 rfl rfl rfl) .nil))) ?_)
  refine zAZ (t := decide ((i:Int) < (j:Int))) rfl (fun h2 => ?_) (fun h2 => ?_)
  ·
   replace h2 := of_decide_eq_true h2
   refine zAM ?_
   refine zAS ?_
   refine zAB ?_
   obtain ⟨h, hh⟩ : ∃ h : Nat, h = (i + j) / 2 := ⟨_, rfl⟩
   refine zAA rfl (.m rfl rfl (.m rfl rfl (.r rfl (zAf rfl rfl rfl (by omega)) (.r rfl (zCt rfl rfl underlying3 underlying132) (.r rfl (zJa rfl rfl rfl (by omega)) (.r rfl (zAW (zCt rfl rfl underlying132 underlying3) ((zAL (b := (h:Int)) (by rw [hh, show (i:Int) + (j:Int) = ((i + j : Nat) : Int) from (Int.natCast_add i j).symm]; exact zIk (i + j) (by omega))))) (.a rfl rfl .nil))))))) ?_
   refine zAB ?_
   obtain ⟨y, hy⟩ : ∃ y, l[h]? = some y := ⟨_, List.getElem?_eq_getElem (by omega)⟩
   refine zAY (s' := mk [(0, .sl 100000 0 ((pvE l).length)), (1, .vi (a:Int)), (4, .p none (.clo f pss)), (10, .vi (i:Int)), (11, .vi (j:Int)), (12, .vi (h:Int))] [] [(100000, 4, pvE l)]) ?_ ?_
   · exact zAJ ⟨rfl, rfl, rfl, rfl, rfl, rfl, trivial⟩ trivial ⟨rfl, trivial⟩ rfl
   refine zAc zBL rfl (.m rfl rfl (.m rfl rfl (.m rfl rfl (.r rfl (zAe h rfl rfl rfl rfl underlying24 sizeOf56 rfl rfl (by omega)) (.r rfl (zBB rfl rfl rfl (zA0 hy) isAgg56 sizeOf56 (nle rfl)) (.m rfl rfl (.m rfl rfl (.r rfl (zAe a rfl rfl rfl rfl underlying24 sizeOf56 rfl rfl (by omega)) (.r rfl (zBB rfl rfl rfl (zA0 hx) isAgg56 sizeOf56 (nle rfl)) (.run [4900] [] rfl (zAK rfl 4900 (X := []) hE rfl (.val nod) (.cons (.agg (.cons (.bor .v) (.cons (.bor .v) (.cons (.bor .v) (.cons (.bor .v) .nil))))) (.cons (.agg (.cons (.bor .v) (.cons (.bor .v) (.cons (.bor .v) (.cons (.bor .v) .nil))))) .nil)) (by decide) all_nil .nil (hp y x) rfl rfl (nle rfl)) (.r rfl (zA4 rfl rfl rfl) .nil))))))))))) (by kernel_rfl) ?_
   refine zAZ (t := decide ((c y x) < 0)) rfl (fun h3 => ?_) (fun h3 => ?_)
   ·
    replace h3 := of_decide_eq_true h3
    refine zAA rfl (.m rfl rfl (.r rfl (zAf rfl rfl rfl (by omega)) (.a rfl rfl .nil))) ?_
    refine nxt (Q := fun _ _ => False) (z := (i, j)) (h + 1, j) ?_ ?_ ?_
    ·
     show m ≤ (h + 1) ∧ (h + 1) ≤ j ∧ j ≤ b ∧ BetU c l x (a + 1) b (h + 1) j
     exact ⟨by omega, by omega, by omega, ⟨.inr ⟨y, by rw [Nat.add_sub_cancel]; exact hy, h3⟩, hB.2⟩⟩
    ·
     show j - (h + 1) < j - i
     omega
    · exact zAJ ⟨rfl, rfl, rfl, (zAL (by omega)), rfl, trivial⟩ trivial ⟨rfl, trivial⟩ rfl
   ·
    replace h3 := of_decide_eq_false h3
    refine zAA rfl (.m rfl rfl (.a rfl rfl .nil)) ?_
    refine nxt (Q := fun _ _ => False) (z := (i, j)) (i, h) ?_ ?_ ?_
    ·
     show m ≤ i ∧ i ≤ h ∧ h ≤ b ∧ BetU c l x (a + 1) b i h
     exact ⟨by omega, by omega, by omega, ⟨hB.1, .inr ⟨y, hy, h3⟩⟩⟩
    ·
     show h - i < j - i
     omega
    · exact zAJ ⟨rfl, rfl, rfl, rfl, rfl, trivial⟩ trivial ⟨rfl, trivial⟩ rfl
  ·
   replace h2 := of_decide_eq_false h2
   refine zAx ?_
   refine zAB ?_
   refine zAB ?_
   have hB2 : BetU c l x (a + 1) b i i := by have q : j = i := (by omega); rw [q] at hB; exact hB
   refine zAA rfl (.m rfl rfl (.a rfl rfl .nil)) ?_
   refine zAS ?_
   refine zAp (σ := Nat × List Ent) (fun (k, dA) => mk [(0, .sl 100000 0 ((pvE l).length)), (10, .vi (i:Int)), (13, .vi (k:Int))] [] [(100000, 4, pvE dA)]) (fun (k, dA) => a ≤ k ∧ k + 1 ≤ i ∧ Res l dA a b ∧ MovU l dA a k x) (fun (k, dA) => i - k) (a, l) ⟨Nat.le_refl _, by omega, Res.refl l a b, zND hx⟩ (zAJ ⟨rfl, rfl, rfl, trivial⟩ trivial ⟨(congrArg (fun x => some (4, x)) (by rfl)), trivial⟩ rfl) ?_
   rintro ⟨k, dA⟩ hG
   replace hG : a ≤ k ∧ k + 1 ≤ i ∧ Res l dA a b ∧ MovU l dA a k x := hG
   obtain ⟨hak, hki, hR, hM⟩ := hG
   have hml := hR.len
   have hle2 := zAF dA
   refine zAB ?_
   refine zAB (zAA rfl (.m rfl rfl (.m rfl rfl (.r rfl (zAv rfl rfl rfl (by omega)) (.r rfl (zA4 rfl rfl rfl) .nil)))) ?_)
   refine zAZ (t := decide ((k:Int) < ((i:Int) - 1))) rfl (fun h4 => ?_) (fun h4 => ?_)
   ·
    replace h4 := of_decide_eq_true h4
    refine zAM ?_
    refine zAB ?_
    refine zAS ?_
    have hxk : dA[k]? = some x := (hM k).trans (by rw [if_neg (by omega), if_pos rfl])
    obtain ⟨v, hv⟩ : ∃ v, dA[k + 1]? = some v := ⟨_, List.getElem?_eq_getElem (by omega)⟩
    refine zAY (s' := mk [(0, .sl 100000 0 ((pvE l).length)), (10, .vi (i:Int)), (13, .vi (k:Int))] [] [(100000, 4, pvE dA)]) ?_ ?_
    · exact zAJ ⟨rfl, rfl, rfl, trivial⟩ trivial ⟨rfl, trivial⟩ rfl
    refine zAc zBL rfl (.m rfl rfl (.m rfl rfl (.m rfl rfl (.m rfl rfl (.r rfl (zAW (zAf rfl rfl rfl (by omega)) ((show AV.p none (.v (.int .i64 (((k : Nat):Int) + 1))) = AV.p none (.v (.int .i64 ((k + 1 : Nat):Int))) from zAL (by omega)))) (.m rfl rfl (.m rfl rfl (.r rfl (zAW (zAf rfl rfl rfl (by omega)) ((show AV.p none (.v (.int .i64 (((k : Nat):Int) + 1))) = AV.p none (.v (.int .i64 ((k + 1 : Nat):Int))) from zAL (by omega)))) (.r rfl (zAe (k + 1) rfl rfl rfl rfl underlying24 sizeOf56 rfl rfl (by omega)) (.r rfl (zBB rfl rfl rfl (zA0 hv) isAgg56 sizeOf56 (nle rfl)) (.m rfl rfl (.m rfl rfl (.r rfl (zAe k rfl rfl rfl rfl underlying24 sizeOf56 rfl rfl (by omega)) (.r rfl (zBB rfl rfl rfl (zA0 hxk) isAgg56 sizeOf56 (nle rfl)) (.r rfl (zAe k rfl rfl rfl rfl underlying24 sizeOf56 rfl rfl (by omega)) (.r rfl (zBR rfl rfl rfl (FlatP.nf (zAd _)) (zA0 hxk) rfl rfl (.cons .v (.cons .v (.cons .v (.cons .v .nil)))) sizeOf56 rfl (nle rfl)) (.r rfl (zAe (k + 1) rfl rfl rfl rfl underlying24 sizeOf56 rfl rfl (by omega)) (.r rfl (zBR rfl rfl rfl (FlatP.nf (FlatP.set (i := k) (cs := [PV.v (.string v.user), PV.v (.int .i64 v.seq), PV.v (.int .i64 v.kind), PV.v (.string v.value)]) (zAd dA) rfl)) (by rw [List.getElem?_set_ne (by omega)]; exact zA0 hv) rfl rfl (.cons .v (.cons .v (.cons .v (.cons .v .nil)))) sizeOf56 rfl (nle rfl)) .nil)))))))))))))))))) (by kernel_rfl) ?_
    refine zAY (s' := mk [(0, .sl 100000 0 ((pvE l).length)), (10, .vi (i:Int)), (13, .vi (k:Int))] [] [(100000, 4, ((pvE dA).set k [PV.v (.string v.user), PV.v (.int .i64 v.seq), PV.v (.int .i64 v.kind), PV.v (.string v.value)]).set (k + 1) [PV.v (.string x.user), PV.v (.int .i64 x.seq), PV.v (.int .i64 x.kind), PV.v (.string x.value)])]) ?_ ?_
    · exact zAJ ⟨rfl, rfl, rfl, trivial⟩ trivial ⟨rfl, trivial⟩ rfl
    refine zAA rfl (.m rfl rfl (.r rfl (zAf rfl rfl rfl (by omega)) (.a rfl rfl .nil))) ?_
    refine nxt (Q := fun _ _ => False) (z := (k, dA)) (k + 1, (dA.set k v).set (k + 1) x) ?_ ?_ ?_
    ·
     show a ≤ (k + 1) ∧ (k + 1) + 1 ≤ i ∧ Res l ((dA.set k v).set (k + 1) x) a b ∧ MovU l ((dA.set k v).set (k + 1) x) a (k + 1) x
     exact ⟨by omega, by omega, hR.swap hxk hv (by omega) (by omega), zOQ hM (by omega) hxk hv⟩
    ·
     show i - (k + 1) < i - k
     omega
    · exact zAJ ⟨rfl, rfl, (zAL (by omega)), trivial⟩ trivial ⟨(congrArg (fun x => some (4, x)) (by exact zFV)), trivial⟩ rfl
   ·
    replace h4 := of_decide_eq_false h4
    refine zAx ?_
    refine zAO ?_
    exact ends [] [] .nil .nil (by decide) (zB7 (congrArg (fun x => some (4, x)) (congrArg pvE (zDD hc (by omega) hR (zOS hc hS2a (zFf hd) hx ⟨by omega, by omega⟩ hB2 (by have q : k = i - 1 := (by omega); rw [q] at hM; exact hM)) hd))) (zAd _) (by decide))
 ·
  replace h1 := of_decide_eq_false h1
  refine zAM ?_
  refine zAB ?_
  refine zAB (zAA rfl (.m rfl rfl (.m rfl rfl (.r rfl (zAv rfl rfl rfl (by omega)) (.r rfl (zA8 rfl rfl rfl) .nil)))) ?_)
  refine zAZ (t := decide (((b:Int) - (m:Int)) = 1)) rfl (fun h5 => ?_) (fun h5 => ?_)
  ·
   replace h5 := of_decide_eq_true h5
   refine zAB ?_
   have hb1 : m + 1 = b := (by omega)
   refine zAA rfl (.m rfl rfl (.a rfl rfl .nil)) ?_
   refine zAB (zAA rfl (.m rfl rfl (.a rfl rfl .nil)) ?_)
   refine zAB ?_
   refine zAS ?_
   refine zAp (σ := Nat × Nat) (fun (i, j) => mk [(0, .sl 100000 0 ((pvE l).length)), (2, .vi (m:Int)), (4, .p none (.clo f pss)), (14, .vi (i:Int)), (15, .vi (j:Int))] [] [(100000, 4, pvE l)]) (fun (i, j) => a ≤ i ∧ i ≤ j ∧ j ≤ m ∧ BetD c l z a m i j) (fun (i, j) => j - i) (a, m) ⟨Nat.le_refl _, by omega, Nat.le_refl _, ⟨.inl rfl, .inl rfl⟩⟩ (zAJ ⟨rfl, rfl, rfl, rfl, rfl, trivial⟩ trivial ⟨rfl, trivial⟩ rfl) ?_
   rintro ⟨i, j⟩ hG
   replace hG : a ≤ i ∧ i ≤ j ∧ j ≤ m ∧ BetD c l z a m i j := hG
   obtain ⟨hai, hij, hjm, hB⟩ := hG
   refine zAB ?_
   refine zAB (zAA rfl (.m rfl rfl (.m rfl rfl (.r rfl (zA4 rfl rfl rfl) .nil))) ?_)
   refine zAZ (t := decide ((i:Int) < (j:Int))) rfl (fun h6 => ?_) (fun h6 => ?_)
   ·
    replace h6 := of_decide_eq_true h6
    refine zAM ?_
    refine zAS ?_
    refine zAB ?_
    obtain ⟨h, hh⟩ : ∃ h : Nat, h = (i + j) / 2 := ⟨_, rfl⟩
    refine zAA rfl (.m rfl rfl (.m rfl rfl (.r rfl (zAf rfl rfl rfl (by omega)) (.r rfl (zCt rfl rfl underlying3 underlying132) (.r rfl (zJa rfl rfl rfl (by omega)) (.r rfl (zAW (zCt rfl rfl underlying132 underlying3) ((zAL (b := (h:Int)) (by rw [hh, show (i:Int) + (j:Int) = ((i + j : Nat) : Int) from (Int.natCast_add i j).symm]; exact zIk (i + j) (by omega))))) (.a rfl rfl .nil))))))) ?_
    refine zAB ?_
    obtain ⟨y, hy⟩ : ∃ y, l[h]? = some y := ⟨_, List.getElem?_eq_getElem (by omega)⟩
    refine zAY (s' := mk [(0, .sl 100000 0 ((pvE l).length)), (2, .vi (m:Int)), (4, .p none (.clo f pss)), (14, .vi (i:Int)), (15, .vi (j:Int)), (16, .vi (h:Int))] [] [(100000, 4, pvE l)]) ?_ ?_
    · exact zAJ ⟨rfl, rfl, rfl, rfl, rfl, rfl, trivial⟩ trivial ⟨rfl, trivial⟩ rfl
    refine zAc zBL rfl (.m rfl rfl (.m rfl rfl (.m rfl rfl (.r rfl (zAe m rfl rfl rfl rfl underlying24 sizeOf56 rfl rfl (by omega)) (.r rfl (zBB rfl rfl rfl (zA0 hz) isAgg56 sizeOf56 (nle rfl)) (.m rfl rfl (.m rfl rfl (.r rfl (zAe h rfl rfl rfl rfl underlying24 sizeOf56 rfl rfl (by omega)) (.r rfl (zBB rfl rfl rfl (zA0 hy) isAgg56 sizeOf56 (nle rfl)) (.run [10100] [] rfl (zAK rfl 10100 (X := []) hE rfl (.val nod) (.cons (.agg (.cons (.bor .v) (.cons (.bor .v) (.cons (.bor .v) (.cons (.bor .v) .nil))))) (.cons (.agg (.cons (.bor .v) (.cons (.bor .v) (.cons (.bor .v) (.cons (.bor .v) .nil))))) .nil)) (by decide) all_nil .nil (hp z y) rfl rfl (nle rfl)) (.r rfl (zA4 rfl rfl rfl) (.r rfl (zA5 (b := decide ((c z y) < 0)) rfl rfl) .nil)))))))))))) (by kernel_rfl) ?_
    refine zAZ (t := (!(decide ((c z y) < 0)))) rfl (fun h7 => ?_) (fun h7 => ?_)
    ·
     replace h7 : ¬ ((c z y) < 0) := of_decide_eq_false (zBF h7)
     refine zAA rfl (.m rfl rfl (.r rfl (zAf rfl rfl rfl (by omega)) (.a rfl rfl .nil))) ?_
     refine nxt (Q := fun _ _ => False) (z := (i, j)) (h + 1, j) ?_ ?_ ?_
     ·
      show a ≤ (h + 1) ∧ (h + 1) ≤ j ∧ j ≤ m ∧ BetD c l z a m (h + 1) j
      exact ⟨by omega, by omega, by omega, ⟨.inr ⟨y, by rw [Nat.add_sub_cancel]; exact hy, h7⟩, hB.2⟩⟩
     ·
      show j - (h + 1) < j - i
      omega
     · exact zAJ ⟨rfl, rfl, rfl, (zAL (by omega)), rfl, trivial⟩ trivial ⟨rfl, trivial⟩ rfl
    ·
     replace h7 : (c z y) < 0 := of_decide_eq_true (zBG h7)
     refine zAA rfl (.m rfl rfl (.a rfl rfl .nil)) ?_
     refine nxt (Q := fun _ _ => False) (z := (i, j)) (i, h) ?_ ?_ ?_
     ·
      show a ≤ i ∧ i ≤ h ∧ h ≤ m ∧ BetD c l z a m i h
      exact ⟨by omega, by omega, by omega, ⟨hB.1, .inr ⟨y, hy, h7⟩⟩⟩
     ·
      show h - i < j - i
      omega
     · exact zAJ ⟨rfl, rfl, rfl, rfl, rfl, trivial⟩ trivial ⟨rfl, trivial⟩ rfl
   ·
    replace h6 := of_decide_eq_false h6
    refine zAx ?_
    refine zAB ?_
    refine zAB ?_
    have hB2 : BetD c l z a m i i := by have q : j = i := (by omega); rw [q] at hB; exact hB
    refine zAA rfl (.m rfl rfl (.a rfl rfl .nil)) ?_
    refine zAS ?_
    refine zAp (σ := Nat × List Ent) (fun (k, dB) => mk [(0, .sl 100000 0 ((pvE l).length)), (14, .vi (i:Int)), (17, .vi (k:Int))] [] [(100000, 4, pvE dB)]) (fun (k, dB) => i ≤ k ∧ k ≤ m ∧ Res l dB a b ∧ MovD l dB m k z) (fun (k, dB) => k) (m, l) ⟨by omega, Nat.le_refl _, Res.refl l a b, zNE hz⟩ (zAJ ⟨rfl, rfl, rfl, trivial⟩ trivial ⟨(congrArg (fun x => some (4, x)) (by rfl)), trivial⟩ rfl) ?_
    rintro ⟨k, dB⟩ hG
    replace hG : i ≤ k ∧ k ≤ m ∧ Res l dB a b ∧ MovD l dB m k z := hG
    obtain ⟨hik, hkm, hR, hM⟩ := hG
    have hml := hR.len
    have hle2 := zAF dB
    refine zAB ?_
    refine zAB (zAA rfl (.m rfl rfl (.m rfl rfl (.r rfl (zBN rfl rfl rfl) .nil))) ?_)
    refine zAZ (t := decide ((i:Int) < (k:Int))) rfl (fun h8 => ?_) (fun h8 => ?_)
    ·
     replace h8 := of_decide_eq_true h8
     refine zAM ?_
     refine zAB ?_
     refine zAS ?_
     have hzk : dB[k]? = some z := (hM k).trans (by rw [if_neg (by omega), if_pos rfl])
     obtain ⟨v, hv⟩ : ∃ v, dB[k - 1]? = some v := ⟨_, List.getElem?_eq_getElem (by omega)⟩
     refine zAY (s' := mk [(0, .sl 100000 0 ((pvE l).length)), (14, .vi (i:Int)), (17, .vi (k:Int))] [] [(100000, 4, pvE dB)]) ?_ ?_
     · exact zAJ ⟨rfl, rfl, rfl, trivial⟩ trivial ⟨rfl, trivial⟩ rfl
     refine zAc zBL rfl (.m rfl rfl (.m rfl rfl (.m rfl rfl (.m rfl rfl (.r rfl (zAW (zAv rfl rfl rfl (by omega)) ((show AV.p none (.v (.int .i64 (((k : Nat):Int) - 1))) = AV.p none (.v (.int .i64 ((k - 1 : Nat):Int))) from zAL (by omega)))) (.m rfl rfl (.m rfl rfl (.r rfl (zAW (zAv rfl rfl rfl (by omega)) ((show AV.p none (.v (.int .i64 (((k : Nat):Int) - 1))) = AV.p none (.v (.int .i64 ((k - 1 : Nat):Int))) from zAL (by omega)))) (.r rfl (zAe (k - 1) rfl rfl rfl rfl underlying24 sizeOf56 rfl rfl (by omega)) (.r rfl (zBB rfl rfl rfl (zA0 hv) isAgg56 sizeOf56 (nle rfl)) (.m rfl rfl (.m rfl rfl (.r rfl (zAe k rfl rfl rfl rfl underlying24 sizeOf56 rfl rfl (by omega)) (.r rfl (zBB rfl rfl rfl (zA0 hzk) isAgg56 sizeOf56 (nle rfl)) (.r rfl (zAe k rfl rfl rfl rfl underlying24 sizeOf56 rfl rfl (by omega)) (.r rfl (zBR rfl rfl rfl (FlatP.nf (zAd _)) (zA0 hzk) rfl rfl (.cons .v (.cons .v (.cons .v (.cons .v .nil)))) sizeOf56 rfl (nle rfl)) (.r rfl (zAe (k - 1) rfl rfl rfl rfl underlying24 sizeOf56 rfl rfl (by omega)) (.r rfl (zBR rfl rfl rfl (FlatP.nf (FlatP.set (i := k) (cs := [PV.v (.string v.user), PV.v (.int .i64 v.seq), PV.v (.int .i64 v.kind), PV.v (.string v.value)]) (zAd dB) rfl)) (by rw [List.getElem?_set_ne (by omega)]; exact zA0 hv) rfl rfl (.cons .v (.cons .v (.cons .v (.cons .v .nil)))) sizeOf56 rfl (nle rfl)) .nil)))))))))))))))))) (by kernel_rfl) ?_
     refine zAY (s' := mk [(0, .sl 100000 0 ((pvE l).length)), (14, .vi (i:Int)), (17, .vi (k:Int))] [] [(100000, 4, ((pvE dB).set k [PV.v (.string v.user), PV.v (.int .i64 v.seq), PV.v (.int .i64 v.kind), PV.v (.string v.value)]).set (k - 1) [PV.v (.string z.user), PV.v (.int .i64 z.seq), PV.v (.int .i64 z.kind), PV.v (.string z.value)])]) ?_ ?_
     · exact zAJ ⟨rfl, rfl, rfl, trivial⟩ trivial ⟨rfl, trivial⟩ rfl
     refine zAA rfl (.m rfl rfl (.r rfl (zAv rfl rfl rfl (by omega)) (.a rfl rfl .nil))) ?_
     refine nxt (Q := fun _ _ => False) (z := (k, dB)) (k - 1, (dB.set k v).set (k - 1) z) ?_ ?_ ?_
     ·
      show i ≤ (k - 1) ∧ (k - 1) ≤ m ∧ Res l ((dB.set k v).set (k - 1) z) a b ∧ MovD l ((dB.set k v).set (k - 1) z) m (k - 1) z
      exact ⟨by omega, by omega, hR.swap hzk hv (by omega) (by omega), zOR hM (by omega) (by omega) hzk hv⟩
     ·
      show (k - 1) < k
      omega
     · exact zAJ ⟨rfl, rfl, (zAL (by omega)), trivial⟩ trivial ⟨(congrArg (fun x => some (4, x)) (by exact zFV)), trivial⟩ rfl
    ·
     replace h8 := of_decide_eq_false h8
     refine zAx ?_
     refine zAO ?_
     exact ends [] [] .nil .nil (by decide) (zB7 (congrArg (fun x => some (4, x)) (congrArg pvE (zDD hc (by omega) hR (hb1 ▸ zNG hc hS1 (zFf hd) hz ⟨by omega, by omega⟩ hB2 (by have q : k = i := (by omega); rw [q] at hM; exact hM)) hd))) (zAd _) (by decide))
  ·
   replace h5 := of_decide_eq_false h5
   refine zAM ?_
   refine zAB ?_
   obtain ⟨mid, hmid⟩ : ∃ mid : Nat, mid = (a + b) / 2 := ⟨_, rfl⟩
   refine zAA rfl (.m rfl rfl (.m rfl rfl (.r rfl (zAf rfl rfl rfl (by omega)) (.r rfl (zCt rfl rfl underlying3 underlying132) (.r rfl (zJa rfl rfl rfl (by omega)) (.r rfl (zAW (zCt rfl rfl underlying132 underlying3) ((zAL (b := (mid:Int)) (by rw [hmid, show (a:Int) + (b:Int) = ((a + b : Nat) : Int) from (Int.natCast_add a b).symm]; exact zIk (a + b) (by omega))))) (.a rfl rfl .nil))))))) ?_
   refine zAB ?_
   refine zAY (s' := mk [(0, .sl 100000 0 ((pvE l).length)), (1, .vi (a:Int)), (2, .vi (m:Int)), (3, .vi (b:Int)), (4, .p none (.clo f pss)), (18, .vi (mid:Int))] [] [(100000, 4, pvE l)]) ?_ ?_
   · exact zAJ ⟨rfl, rfl, rfl, rfl, rfl, rfl, trivial⟩ trivial ⟨rfl, trivial⟩ rfl
   refine zAA rfl (.m rfl rfl (.m rfl rfl (.r rfl (zAW (zAf rfl rfl rfl (by omega)) ((show AV.p none (.v (.int .i64 (((mid : Nat):Int) + ((m : Nat):Int)))) = AV.p none (.v (.int .i64 ((mid + m : Nat):Int))) from zAL (by omega)))) (.a rfl rfl .nil)))) ?_
   refine zAB ?_
   obtain ⟨s0, r0, hs0, hr0, hsr⟩ : ∃ s0 r0 : Nat, s0 = (if mid < m then mid + m - b else a) ∧ r0 = (if mid < m then mid else m) ∧ ((mid < m ∧ s0 = mid + m - b ∧ r0 = mid) ∨ (m ≤ mid ∧ s0 = a ∧ r0 = m)) := ⟨_, _, rfl, rfl, (by by_cases q : mid < m; { rw [if_pos q, if_pos q]; omega }; { rw [if_neg q, if_neg q]; omega })⟩
   refine zAA rfl (.a rfl rfl (.a rfl rfl .nil)) ?_
   refine zDx (σ := Unit) (fun _ => mk [(0, .sl 100000 0 ((pvE l).length)), (1, .vi (a:Int)), (2, .vi (m:Int)), (3, .vi (b:Int)), (4, .p none (.clo f pss)), (18, .vi (mid:Int)), (19, .vi ((mid + m : Nat):Int)), (20, .vi (s0:Int)), (21, .vi (r0:Int))] [] [(100000, 4, pvE l)]) (fun _ => True) ?_ ?_
   ·
    refine zAB (zAA rfl (.m rfl rfl (.m rfl rfl (.r rfl (zBN rfl rfl rfl) .nil))) ?_)
    refine zAZ (t := decide ((mid:Int) < (m:Int))) rfl (fun h9 => ?_) (fun h9 => ?_)
    ·
     replace h9 := of_decide_eq_true h9
     refine zAB (zAA rfl (.m rfl rfl (.m rfl rfl (.r rfl (zAW (zAv rfl rfl rfl (by omega)) ((show AV.p none (.v (.int .i64 (((mid + m : Nat):Int) - ((b : Nat):Int)))) = AV.p none (.v (.int .i64 ((mid + m - b : Nat):Int))) from zAL (by omega)))) (.a rfl rfl .nil)))) ?_)
     refine zAA rfl (.m rfl rfl (.a rfl rfl .nil)) ?_
     refine ⟨(), ?_, ?_⟩
     ·
      show True
      trivial
     · exact zAJ ⟨rfl, rfl, rfl, rfl, rfl, rfl, rfl, (zAL (by omega)), (zAL (by omega)), trivial⟩ trivial ⟨rfl, trivial⟩ rfl
    ·
     replace h9 := of_decide_eq_false h9
     refine zAB (zAA rfl (.m rfl rfl (.a rfl rfl .nil)) ?_)
     refine zAA rfl (.m rfl rfl (.a rfl rfl .nil)) ?_
     refine ⟨(), ?_, ?_⟩
     ·
      show True
      trivial
     · exact zAJ ⟨rfl, rfl, rfl, rfl, rfl, rfl, rfl, (zAL (by omega)), (zAL (by omega)), trivial⟩ trivial ⟨rfl, trivial⟩ rfl
   ·
    rintro _ hG
    replace hG : True := hG
    refine zAB (zAA rfl (.m rfl rfl (.r rfl (zAW (zAv rfl rfl rfl (by omega)) ((show AV.p none (.v (.int .i64 (((mid + m : Nat):Int) - 1))) = AV.p none (.v (.int .i64 ((mid + m - 1 : Nat):Int))) from zAL (by omega)))) (.a rfl rfl .nil))) ?_)
    refine zAB ?_
    refine zAS ?_
    refine zAp (σ := Nat × Nat) (fun (s, r) => mk [(0, .sl 100000 0 ((pvE l).length)), (1, .vi (a:Int)), (2, .vi (m:Int)), (3, .vi (b:Int)), (4, .p none (.clo f pss)), (18, .vi (mid:Int)), (19, .vi ((mid + m : Nat):Int)), (20, .vi (s:Int)), (21, .vi (r:Int)), (22, .vi ((mid + m - 1 : Nat):Int))] [] [(100000, 4, pvE l)]) (fun (s, r) => s0 ≤ s ∧ s ≤ r ∧ r ≤ r0 ∧ BetS c l (mid + m - 1) s0 r0 s r) (fun (s, r) => r - s) (s0, r0) ⟨Nat.le_refl _, by omega, Nat.le_refl _, ⟨.inl rfl, .inl rfl⟩⟩ (zAJ ⟨rfl, rfl, rfl, rfl, rfl, rfl, rfl, rfl, rfl, rfl, trivial⟩ trivial ⟨rfl, trivial⟩ rfl) ?_
    rintro ⟨s, r⟩ hG
    replace hG : s0 ≤ s ∧ s ≤ r ∧ r ≤ r0 ∧ BetS c l (mid + m - 1) s0 r0 s r := hG
    obtain ⟨hs0s, hsr1, hrr0, hB⟩ := hG
    refine zAB ?_
    refine zAB (zAA rfl (.m rfl rfl (.m rfl rfl (.r rfl (zA4 rfl rfl rfl) .nil))) ?_)
    refine zAZ (t := decide ((s:Int) < (r:Int))) rfl (fun h10 => ?_) (fun h10 => ?_)
    ·
     replace h10 := of_decide_eq_true h10
     refine zAM ?_
     refine zAS ?_
     refine zAB ?_
     obtain ⟨h, hh⟩ : ∃ h : Nat, h = (s + r) / 2 := ⟨_, rfl⟩
     refine zAA rfl (.m rfl rfl (.m rfl rfl (.r rfl (zAf rfl rfl rfl (by omega)) (.r rfl (zCt rfl rfl underlying3 underlying132) (.r rfl (zJa rfl rfl rfl (by omega)) (.r rfl (zAW (zCt rfl rfl underlying132 underlying3) ((zAL (b := (h:Int)) (by rw [hh, show (s:Int) + (r:Int) = ((s + r : Nat) : Int) from (Int.natCast_add s r).symm]; exact zIk (s + r) (by omega))))) (.a rfl rfl .nil))))))) ?_
     refine zAB ?_
     obtain ⟨y, hy⟩ : ∃ y, l[h]? = some y := ⟨_, List.getElem?_eq_getElem (by omega)⟩
     obtain ⟨u, hu⟩ : ∃ u, l[mid + m - 1 - h]? = some u := ⟨_, List.getElem?_eq_getElem (by omega)⟩
     refine zAY (s' := mk [(0, .sl 100000 0 ((pvE l).length)), (1, .vi (a:Int)), (2, .vi (m:Int)), (3, .vi (b:Int)), (4, .p none (.clo f pss)), (18, .vi (mid:Int)), (19, .vi ((mid + m : Nat):Int)), (20, .vi (s:Int)), (21, .vi (r:Int)), (22, .vi ((mid + m - 1 : Nat):Int)), (23, .vi (h:Int))] [] [(100000, 4, pvE l)]) ?_ ?_
     · exact zAJ ⟨rfl, rfl, rfl, rfl, rfl, rfl, rfl, rfl, rfl, rfl, rfl, trivial⟩ trivial ⟨rfl, trivial⟩ rfl
     refine zAc zBL rfl (.m rfl rfl (.m rfl rfl (.m rfl rfl (.m rfl rfl (.r rfl (zAW (zAv rfl rfl rfl (by omega)) ((show AV.p none (.v (.int .i64 (((mid + m - 1 : Nat):Int) - ((h : Nat):Int)))) = AV.p none (.v (.int .i64 ((mid + m - 1 - h : Nat):Int))) from zAL (by omega)))) (.r rfl (zAe (mid + m - 1 - h) rfl rfl rfl rfl underlying24 sizeOf56 rfl rfl (by omega)) (.r rfl (zBB rfl rfl rfl (zA0 hu) isAgg56 sizeOf56 (nle rfl)) (.m rfl rfl (.m rfl rfl (.r rfl (zAe h rfl rfl rfl rfl underlying24 sizeOf56 rfl rfl (by omega)) (.r rfl (zBB rfl rfl rfl (zA0 hy) isAgg56 sizeOf56 (nle rfl)) (.run [16900] [] rfl (zAK rfl 16900 (X := []) hE rfl (.val nod) (.cons (.agg (.cons (.bor .v) (.cons (.bor .v) (.cons (.bor .v) (.cons (.bor .v) .nil))))) (.cons (.agg (.cons (.bor .v) (.cons (.bor .v) (.cons (.bor .v) (.cons (.bor .v) .nil))))) .nil)) (by decide) all_nil .nil (hp u y) rfl rfl (nle rfl)) (.r rfl (zA4 rfl rfl rfl) (.r rfl (zA5 (b := decide ((c u y) < 0)) rfl rfl) .nil)))))))))))))) (by kernel_rfl) ?_
     refine zAZ (t := (!(decide ((c u y) < 0)))) rfl (fun h11 => ?_) (fun h11 => ?_)
     ·
      replace h11 : ¬ ((c u y) < 0) := of_decide_eq_false (zBF h11)
      refine zAY (s' := mk [(0, .sl 100000 0 ((pvE l).length)), (1, .vi (a:Int)), (2, .vi (m:Int)), (3, .vi (b:Int)), (4, .p none (.clo f pss)), (18, .vi (mid:Int)), (19, .vi ((mid + m : Nat):Int)), (21, .vi (r:Int)), (22, .vi ((mid + m - 1 : Nat):Int)), (23, .vi (h:Int))] [] [(100000, 4, pvE l)]) ?_ ?_
      · exact zAJ ⟨rfl, rfl, rfl, rfl, rfl, rfl, rfl, rfl, rfl, rfl, trivial⟩ trivial ⟨rfl, trivial⟩ rfl
      refine zAA rfl (.m rfl rfl (.r rfl (zAf rfl rfl rfl (by omega)) (.a rfl rfl .nil))) ?_
      refine nxt (Q := fun _ _ => False) (z := (s, r)) (h + 1, r) ?_ ?_ ?_
      ·
       show s0 ≤ (h + 1) ∧ (h + 1) ≤ r ∧ r ≤ r0 ∧ BetS c l (mid + m - 1) s0 r0 (h + 1) r
       exact ⟨by omega, by omega, by omega, ⟨.inr ⟨u, y, by rw [Nat.add_sub_cancel]; exact hu, by rw [Nat.add_sub_cancel]; exact hy, h11⟩, hB.2⟩⟩
      ·
       show r - (h + 1) < r - s
       omega
      · exact zAJ ⟨rfl, rfl, rfl, rfl, rfl, rfl, rfl, (zAL (by omega)), rfl, rfl, trivial⟩ trivial ⟨rfl, trivial⟩ rfl
     ·
      replace h11 : (c u y) < 0 := of_decide_eq_true (zBG h11)
      refine zAA rfl (.m rfl rfl (.a rfl rfl .nil)) ?_
      refine nxt (Q := fun _ _ => False) (z := (s, r)) (s, h) ?_ ?_ ?_
      ·
       show s0 ≤ s ∧ s ≤ h ∧ h ≤ r0 ∧ BetS c l (mid + m - 1) s0 r0 s h
       exact ⟨by omega, by omega, by omega, ⟨hB.1, .inr ⟨u, y, hu, hy, h11⟩⟩⟩
      ·
       show h - s < r - s
       omega
      · exact zAJ ⟨rfl, rfl, rfl, rfl, rfl, rfl, rfl, rfl, rfl, rfl, trivial⟩ trivial ⟨rfl, trivial⟩ rfl
    ·
     replace h10 := of_decide_eq_false h10
     refine zAx ?_
     refine zAB ?_
     have hB2 : BetS c l (mid + m - 1) s0 r0 s s := by have q : r = s := (by omega); rw [q] at hB; exact hB
     have hT : Turned c l (rotL l s m (mid + m - s)) a s mid (mid + m - s) b := zNk hc hS1 hS2 (zFf hd) ga gb gc hmid ⟨by omega, by omega, by omega, by omega⟩ (by rw [← hs0, ← hr0]; exact hB2)
     have hdl : (rotL l s m (mid + m - s)).length = l.length := hT.res.len
     have hdd := zBT hT.res.perm hd
     have hR1 := zCh (c := c) (rotL l s m (mid + m - s)) (a := a) (b := mid) (by omega) (by omega)
     have hdl1 : (srtS c (rotL l s m (mid + m - s)) a mid).length = l.length := hR1.len.trans hdl
     have hdd1 := zBT hR1.perm hdd
     have hP3 : SrtI c (srtS c (rotL l s m (mid + m - s)) a mid) mid (mid + m - s) := zEJ hT.p3 (fun q h1 h2 => hR1.out q (.inr h1))
     have hP4 : SrtI c (srtS c (rotL l s m (mid + m - s)) a mid) (mid + m - s) b := zEJ hT.p4 (fun q h1 h2 => hR1.out q (.inr (by omega)))
     have hz1 := zAF (rotL l s m (mid + m - s))
     have hz2 := zAF (srtS c (rotL l s m (mid + m - s)) a mid)
     refine zAA rfl (.m rfl rfl (.m rfl rfl (.r rfl (zAW (zAv rfl rfl rfl (by omega)) ((show AV.p none (.v (.int .i64 (((mid + m : Nat):Int) - ((s : Nat):Int)))) = AV.p none (.v (.int .i64 ((mid + m - s : Nat):Int))) from zAL (by omega)))) (.a rfl rfl .nil)))) ?_
     refine zDx (σ := Unit) (fun _ => mk [(0, .sl 100000 0 ((pvE l).length)), (1, .vi (a:Int)), (3, .vi (b:Int)), (4, .p none (.clo f pss)), (18, .vi (mid:Int)), (20, .vi (s:Int)), (24, .vi ((mid + m - s : Nat):Int))] [] [(100000, 4, pvE (rotL l s m (mid + m - s)))]) (fun _ => True) ?_ ?_
     ·
      refine zAB ?_
      rcases bfc (decide ((s:Int) < (m:Int))) with h12 | h12
      ·
       have h12' := h12
       replace h12' := of_decide_eq_false h12'
       refine zAA rfl (.m rfl rfl (.m rfl rfl (.r rfl (zAW (zA4 rfl rfl rfl) (zAN h12)) (.m rfl rfl (.not rfl (.not rfl (.not rfl (.r rfl (zAU (t := false) rfl rfl) .nil)))))))) ?_
       refine zAZ (t := false) rfl (fun h => nomatch h) (fun _ => ?_)
       refine zAM ?_
       refine ⟨(), ?_, ?_⟩
       ·
        show True
        trivial
       · exact zAJ ⟨rfl, rfl, rfl, rfl, rfl, rfl, rfl, trivial⟩ trivial ⟨(congrArg (fun x => some (4, x)) (by exact congrArg pvE (zL2 (l := l) (by omega) (by omega) (by omega) (by omega)).symm)), trivial⟩ rfl
      ·
       have h12' := h12
       replace h12' := of_decide_eq_true h12'
       refine zAA rfl (.m rfl rfl (.m rfl rfl (.r rfl (zAW (zA4 rfl rfl rfl) (zAN h12)) (.m rfl rfl (.m rfl rfl (.m rfl rfl (.r rfl (zA4 rfl rfl rfl) (.r rfl (zAU (t := true) rfl rfl) .nil)))))))) ?_
       refine zAZ (t := decide ((m:Int) < ((mid + m - s : Nat):Int))) rfl (fun h13 => ?_) (fun h13 => ?_)
       ·
        replace h13 := of_decide_eq_true h13
        refine zAY (s' := mk [(0, .sl 100000 0 ((pvE l).length)), (1, .vi (a:Int)), (2, .vi (m:Int)), (3, .vi (b:Int)), (4, .p none (.clo f pss)), (18, .vi (mid:Int)), (20, .vi (s:Int)), (24, .vi ((mid + m - s : Nat):Int))] [] [(100000, 4, pvE l)]) ?_ ?_
        · exact zAJ ⟨rfl, rfl, rfl, rfl, rfl, rfl, rfl, rfl, trivial⟩ trivial ⟨rfl, trivial⟩ rfl
        refine zAA rfl (.m rfl rfl (.m rfl rfl (.m rfl rfl (.m rfl rfl (.m rfl rfl (.run [100000] [] rfl (zAK rfl 19100 (X := [100000]) en114 rfl (.val nod) (.cons (.one (.own (len := (pvE l).length) (xs := pvE l) rfl rfl)) (.cons (.one (.bor .v)) (.cons (.one (.bor .v)) (.cons (.one (.bor .v)) (.cons (.one (.bor (.cl nod))) .nil))))) (by decide) (all_cons rfl all_nil) (.keep (xs := pvE l) rfl (FlatP.nf (zAd _)) .nil) (zGw l (by omega) s m (mid + m - s) (by omega) (by omega) (by omega) _ _) rfl rfl (nle rfl)) .nil)))))) ?_
        refine ⟨(), ?_, ?_⟩
        ·
         show True
         trivial
        · exact zAJ ⟨rfl, rfl, rfl, rfl, rfl, rfl, rfl, trivial⟩ trivial ⟨rfl, trivial⟩ rfl
       ·
        replace h13 := of_decide_eq_false h13
        refine zAM ?_
        refine ⟨(), ?_, ?_⟩
        ·
         show True
         trivial
        · exact zAJ ⟨rfl, rfl, rfl, rfl, rfl, rfl, rfl, trivial⟩ trivial ⟨(congrArg (fun x => some (4, x)) (by exact congrArg pvE (zL2 (l := l) (by omega) (by omega) (by omega) (by omega)).symm)), trivial⟩ rfl
     ·
      rintro _ hG
      replace hG : True := hG
      refine zDx (σ := Unit) (fun _ => mk [(0, .sl 100000 0 ((pvE l).length)), (3, .vi (b:Int)), (4, .p none (.clo f pss)), (18, .vi (mid:Int)), (24, .vi ((mid + m - s : Nat):Int))] [] [(100000, 4, pvE (srtS c (rotL l s m (mid + m - s)) a mid))]) (fun _ => True) ?_ ?_
      ·
       refine zAB ?_
       rcases bfc (decide ((a:Int) < (s:Int))) with h14 | h14
       ·
        have h14' := h14
        replace h14' := of_decide_eq_false h14'
        refine zAA rfl (.m rfl rfl (.m rfl rfl (.r rfl (zAW (zA4 rfl rfl rfl) (zAN h14)) (.m rfl rfl (.not rfl (.not rfl (.not rfl (.r rfl (zAU (t := false) rfl rfl) .nil)))))))) ?_
        refine zAZ (t := false) rfl (fun h => nomatch h) (fun _ => ?_)
        refine zAM ?_
        refine ⟨(), ?_, ?_⟩
        ·
         show True
         trivial
        · exact zAJ ⟨rfl, rfl, rfl, rfl, rfl, trivial⟩ trivial ⟨(congrArg (fun x => some (4, x)) (by exact congrArg pvE (zIj hc (by omega) (zGf hT.p1 hT.p2 (by omega)) hdd).symm)), trivial⟩ rfl
       ·
        have h14' := h14
        replace h14' := of_decide_eq_true h14'
        refine zAA rfl (.m rfl rfl (.m rfl rfl (.r rfl (zAW (zA4 rfl rfl rfl) (zAN h14)) (.m rfl rfl (.m rfl rfl (.m rfl rfl (.r rfl (zA4 rfl rfl rfl) (.r rfl (zAU (t := true) rfl rfl) .nil)))))))) ?_
        refine zAZ (t := decide ((s:Int) < (mid:Int))) rfl (fun h15 => ?_) (fun h15 => ?_)
        ·
         replace h15 := of_decide_eq_true h15
         refine zAA rfl (.m rfl rfl (.m rfl rfl (.m rfl rfl (.m rfl rfl (.m rfl rfl (.run [100000] [] rfl (zAK rfl 20500 (X := [100000]) zQS rfl (.val nod) (.cons (.one (.own (len := (pvE l).length) (xs := pvE (rotL l s m (mid + m - s))) rfl (by first | rfl | omega))) (.cons (.one (.bor .v)) (.cons (.one (.bor .v)) (.cons (.one (.bor .v)) (.cons (.one (.bor (.cl nod))) .nil))))) (by decide) (all_cons rfl all_nil) (.keep (xs := pvE (rotL l s m (mid + m - s))) rfl (FlatP.nf (zAd _)) .nil) (ih (rotL l s m (mid + m - s)) a s mid (by omega) (by omega) (by omega) (by omega) (by omega) hdd hT.p1 hT.p2) rfl rfl (nle rfl)) .nil)))))) ?_
         refine ⟨(), ?_, ?_⟩
         ·
          show True
          trivial
         · exact zAJ ⟨rfl, rfl, rfl, rfl, rfl, trivial⟩ trivial ⟨rfl, trivial⟩ rfl
        ·
         replace h15 := of_decide_eq_false h15
         refine zAM ?_
         refine ⟨(), ?_, ?_⟩
         ·
          show True
          trivial
         · exact zAJ ⟨rfl, rfl, rfl, rfl, rfl, trivial⟩ trivial ⟨(congrArg (fun x => some (4, x)) (by exact congrArg pvE (zIj hc (by omega) (zGf hT.p1 hT.p2 (by omega)) hdd).symm)), trivial⟩ rfl
      ·
       rintro _ hG
       replace hG : True := hG
       refine zAB ?_
       rcases bfc (decide ((mid:Int) < ((mid + m - s : Nat):Int))) with h16 | h16
       ·
        have h16' := h16
        replace h16' := of_decide_eq_false h16'
        refine zAA rfl (.m rfl rfl (.m rfl rfl (.r rfl (zAW (zA4 rfl rfl rfl) (zAN h16)) (.m rfl rfl (.not rfl (.not rfl (.not rfl (.r rfl (zAU (t := false) rfl rfl) .nil)))))))) ?_
        refine zAZ (t := false) rfl (fun h => nomatch h) (fun _ => ?_)
        refine zAM ?_
        exact zJJ [] [] .nil .nil (by decide) (zB7 (congrArg (fun x => some (4, x)) (congrArg pvE ((zIj hc (by omega) (zHq hP3 hP4 (by omega)) hdd1).symm.trans (zG9 hc hd hT (by omega) (by omega) gc)))) (zAd _) (by decide))
       ·
        have h16' := h16
        replace h16' := of_decide_eq_true h16'
        refine zAA rfl (.m rfl rfl (.m rfl rfl (.r rfl (zAW (zA4 rfl rfl rfl) (zAN h16)) (.m rfl rfl (.m rfl rfl (.m rfl rfl (.r rfl (zA4 rfl rfl rfl) (.r rfl (zAU (t := true) rfl rfl) .nil)))))))) ?_
        refine zAZ (t := decide (((mid + m - s : Nat):Int) < (b:Int))) rfl (fun h17 => ?_) (fun h17 => ?_)
        ·
         replace h17 := of_decide_eq_true h17
         refine zAA rfl (.m rfl rfl (.m rfl rfl (.m rfl rfl (.m rfl rfl (.m rfl rfl (.run [100000] [] rfl (zAK rfl 21900 (X := [100000]) zQS rfl (.val nod) (.cons (.one (.own (len := (pvE l).length) (xs := pvE (srtS c (rotL l s m (mid + m - s)) a mid)) rfl (by first | rfl | omega))) (.cons (.one (.bor .v)) (.cons (.one (.bor .v)) (.cons (.one (.bor .v)) (.cons (.one (.bor (.cl nod))) .nil))))) (by decide) (all_cons rfl all_nil) (.keep (xs := pvE (srtS c (rotL l s m (mid + m - s)) a mid)) rfl (FlatP.nf (zAd _)) .nil) (ih (srtS c (rotL l s m (mid + m - s)) a mid) mid (mid + m - s) b (by omega) (by omega) (by omega) (by omega) (by omega) hdd1 hP3 hP4) rfl rfl (nle rfl)) .nil)))))) ?_
         exact zJJ [] [] .nil .nil (by decide) (zB7 (congrArg (fun x => some (4, x)) (congrArg pvE (zG9 hc hd hT (by omega) (by omega) gc))) (zAd _) (by decide))
        ·
         replace h17 := of_decide_eq_false h17
         refine zAM ?_
         exact zJJ [] [] .nil .nil (by decide) (zB7 (congrArg (fun x => some (4, x)) (congrArg pvE ((zIj hc (by omega) (zHq hP3 hP4 (by omega)) hdd1).symm.trans (zG9 hc hd hT (by omega) (by omega) gc)))) (zAd _) (by decide))
theorem zCs (c : Ent → Ent → Int) (hc : CmpOk c) (f : Nat) (pss : List (List PV)) (hE : ∀ vs w, (callFunc f vs).run Tryz.prog w = .ok (.enter f vs) w) (hp : ∀ x y : Ent, Con Tryz.prog f ([.agg x.pv, .agg y.pv] ++ pss.map .fbox) [] [.one (.v (.int .i64 (c x y)))]) : ∀ (n : Nat) (l : List Ent) (a m b : Nat), b - a < n → l.length ≤ 2000000 → a < m → m < b → b ≤ l.length → Dist c l → SrtI c l a m → SrtI c l m b → Con Tryz.prog 113 [.one (.sl true 4 (pvE l)), .one (PV.v (.int .i64 (a:Int))), .one (PV.v (.int .i64 (m:Int))), .one (PV.v (.int .i64 (b:Int))), .one (PV.clo f pss)] [some (pvE (srtS c l a b))] []
 | 0, _, _, _, _, h, _, _, _, _, _, _, _ => absurd h (Nat.not_lt_zero _)
 | n + 1, l, a, m, b, h, hl, ga, gb, gc, hd, h1, h2 => zFN l hl a m b ga gb gc c hc f pss hE hp hd h1 h2 (fun l' a' m' b' hlt => zCs c hc f pss hE hp n l' a' m' b' (by omega))
theorem zGk (l : List Ent) (hl : l.length ≤ 2000000) (c : Ent → Ent → Int) (hc : CmpOk c) (f : Nat) (pss : List (List PV)) (hE : ∀ vs w, (callFunc f vs).run Tryz.prog w = .ok (.enter f vs) w) (hp : ∀ x y : Ent, Con Tryz.prog f ([.agg x.pv, .agg y.pv] ++ pss.map .fbox) [] [.one (.v (.int .i64 (c x y)))]) (hd : Dist c l) : Con Tryz.prog 104 [.one (.sl true 4 (pvE l)), .one (PV.v (.int .i64 (l.length:Int))), .one (PV.clo f pss)] [some (pvE (zB4 c l))] [] := by
 refine zAQ func104 rfl rfl rfl rfl ?_
 have hle := zAF l
 refine zAB (zAA rfl (.a rfl rfl .nil) ?_)
 refine zAB (zAA rfl (.m rfl rfl (.a rfl rfl (.a rfl rfl .nil))) ?_)
 refine zAB ?_
 refine zAS ?_
 refine zAp (σ := Nat × List Ent) (fun (a, d) => mk [(0, .sl 100000 0 ((pvE l).length)), (1, .vi (l.length:Int)), (2, .p none (.clo f pss)), (6, .vi 20), (7, .vi (a:Int)), (8, .vi ((a + 20 : Nat):Int))] [] [(100000, 4, pvE d)]) (fun (a, d) => a ≤ l.length ∧ Al 20 a ∧ Res l d 0 l.length ∧ zFq c d 20 a) (fun (a, d) => l.length - a) (0, l) ⟨Nat.zero_le _, zLc 20, Res.refl _ _ _, zIV l (by decide)⟩ (zAJ ⟨rfl, rfl, rfl, rfl, (zAL (by rfl)), (zAL (by rfl)), trivial⟩ trivial ⟨(congrArg (fun x => some (4, x)) (by rfl)), trivial⟩ rfl) ?_
 rintro ⟨a, d⟩ hG
 replace hG : a ≤ l.length ∧ Al 20 a ∧ Res l d 0 l.length ∧ zFq c d 20 a := hG
 obtain ⟨han, hA, hR, hT⟩ := hG
 have hml := hR.len
 have hdd := zBT hR.perm hd
 have hle2 := zAF d
 refine zAB ?_
 refine zAB (zAA rfl (.m rfl rfl (.m rfl rfl (.r rfl (zB5 rfl rfl rfl) .nil))) ?_)
 refine zAZ (t := decide (((a + 20 : Nat):Int) ≤ (l.length:Int))) rfl (fun h1 => ?_) (fun h1 => ?_)
 ·
  replace h1 := of_decide_eq_true h1
  refine zAM ?_
  refine zAS ?_
  refine zAB (zAA rfl (.m rfl rfl (.m rfl rfl (.m rfl rfl (.m rfl rfl (.run [100000] [] rfl (zAK rfl 1800 (X := [100000]) en112 rfl (.val nod) (.cons (.one (.own (len := (pvE l).length) (xs := pvE d) rfl (by first | rfl | omega))) (.cons (.one (.bor .v)) (.cons (.one (.bor .v)) (.cons (.one (.bor (.cl nod))) .nil)))) (by decide) (all_cons rfl all_nil) (.keep (xs := pvE d) rfl (FlatP.nf (zAd _)) .nil) (zEF d (by omega) a (a + 20) (by omega) (by omega) c hc f pss hE hp (zBT hR.perm hd)) rfl rfl (nle rfl)) .nil))))) ?_)
  refine zAB (zAA rfl (.m rfl rfl (.a rfl rfl .nil)) ?_)
  refine zAA rfl (.m rfl rfl (.m rfl rfl (.r rfl (zAf rfl rfl rfl (by omega)) (.a rfl rfl .nil)))) ?_
  refine nxt (Q := fun _ _ => False) (z := (a, d)) (a + 20, srtS c d a (a + 20)) ?_ ?_ ?_
  ·
   show (a + 20) ≤ l.length ∧ Al 20 (a + 20) ∧ Res l (srtS c d a (a + 20)) 0 l.length ∧ zFq c (srtS c d a (a + 20)) 20 (a + 20)
   exact ⟨by omega, zLd hA, hR.trans ((zCh d (by omega) (by omega)).wide (Nat.zero_le _) (by omega)), zIW hA hT (fun q hq => (zCh d (by omega) (by omega)).out q (.inl hq)) (zEY hc (by omega) (by omega) hdd)⟩
  ·
   show l.length - (a + 20) < l.length - a
   omega
  · exact zAJ ⟨rfl, rfl, rfl, rfl, (zAL (by rfl)), (zAL (by omega)), trivial⟩ trivial ⟨(congrArg (fun x => some (4, x)) (by rfl)), trivial⟩ rfl
 ·
  replace h1 := of_decide_eq_false h1
  refine zAx ?_
  refine zAB (zAA rfl (.m rfl rfl (.m rfl rfl (.m rfl rfl (.m rfl rfl (.run [100000] [] rfl (zAK rfl 2700 (X := [100000]) en112 rfl (.val nod) (.cons (.one (.own (len := (pvE l).length) (xs := pvE d) rfl (by first | rfl | omega))) (.cons (.one (.bor .v)) (.cons (.one (.bor .v)) (.cons (.one (.bor (.cl nod))) .nil)))) (by decide) (all_cons rfl all_nil) (.keep (xs := pvE d) rfl (FlatP.nf (zAd _)) .nil) (zEF d (by omega) a l.length (by omega) (by omega) c hc f pss hE hp (zBT hR.perm hd)) rfl rfl (nle rfl)) .nil))))) ?_)
  refine zAS ?_
  refine zAp (σ := Nat × List Ent) (fun (z, d2) => mk [(0, .sl 100000 0 ((pvE l).length)), (1, .vi (l.length:Int)), (2, .p none (.clo f pss)), (6, .vi (z:Int))] [] [(100000, 4, pvE d2)]) (fun (z, d2) => 20 ≤ z ∧ z ≤ 4000000 ∧ Res l d2 0 l.length ∧ zB3 c d2 z 0) (fun (z, d2) => l.length - z) (20, srtS c d a l.length) ⟨Nat.le_refl _, by decide, hR.trans ((zCh d (by omega) (by omega)).wide (Nat.zero_le _) (Nat.le_refl _)), zHZ (by decide) hA (by rw [(zCh d (by omega) (by omega)).len]; omega) hT (fun q hq => (zCh d (by omega) (by omega)).out q (.inl hq)) (zGm (zEY hc (by omega) (by omega) hdd) (by rw [(zCh d (by omega) (by omega)).len]; omega))⟩ (zAJ ⟨rfl, rfl, rfl, (zAL (by rfl)), trivial⟩ trivial ⟨(congrArg (fun x => some (4, x)) (by rfl)), trivial⟩ rfl) ?_
  rintro ⟨z, d2⟩ hG
  replace hG : 20 ≤ z ∧ z ≤ 4000000 ∧ Res l d2 0 l.length ∧ zB3 c d2 z 0 := hG
  obtain ⟨hz20, hzm, hR, hF0⟩ := hG
  have hml := hR.len
  have hdd := zBT hR.perm hd
  have hle3 := zAF d2
  refine zAB ?_
  refine zAB (zAA rfl (.m rfl rfl (.m rfl rfl (.r rfl (zA4 rfl rfl rfl) .nil))) ?_)
  refine zAZ (t := decide ((z:Int) < (l.length:Int))) rfl (fun h2 => ?_) (fun h2 => ?_)
  ·
   replace h2 := of_decide_eq_true h2
   refine zAM ?_
   refine zAS ?_
   refine zAB (zAA rfl (.m rfl rfl (.r rfl (zIg rfl rfl rfl (by omega)) (.a rfl rfl (.a rfl rfl .nil)))) ?_)
   refine zAB ?_
   refine zAS ?_
   refine zAp (σ := Nat × List Ent) (fun (p, d3) => mk [(0, .sl 100000 0 ((pvE l).length)), (1, .vi (l.length:Int)), (2, .p none (.clo f pss)), (6, .vi (z:Int)), (7, .vi (p:Int)), (8, .vi ((p + 2 * z : Nat):Int))] [] [(100000, 4, pvE d3)]) (fun (p, d3) => p ≤ l.length ∧ Al (2 * z) p ∧ Res l d3 0 l.length ∧ zFq c d3 (2 * z) p ∧ zB3 c d3 z p) (fun (p, d3) => l.length - p) (0, d2) ⟨Nat.zero_le _, zLc _, hR, zIV d2 (by omega), hF0⟩ (zAJ ⟨rfl, rfl, rfl, rfl, (zAL (by rfl)), (zAL (by omega)), trivial⟩ trivial ⟨(congrArg (fun x => some (4, x)) (by rfl)), trivial⟩ rfl) ?_
   rintro ⟨p, d3⟩ hG
   replace hG : p ≤ l.length ∧ Al (2 * z) p ∧ Res l d3 0 l.length ∧ zFq c d3 (2 * z) p ∧ zB3 c d3 z p := hG
   obtain ⟨hpn, hA, hR, hT, hF⟩ := hG
   have hml := hR.len
   have hdd := zBT hR.perm hd
   have hle4 := zAF d3
   have hps := @zOD _ c hc l d3 z p (by omega) hA hR hd hT hF
   refine zAB ?_
   refine zAB (zAA rfl (.m rfl rfl (.m rfl rfl (.r rfl (zB5 rfl rfl rfl) .nil))) ?_)
   refine zAZ (t := decide (((p + 2 * z : Nat):Int) ≤ (l.length:Int))) rfl (fun h3 => ?_) (fun h3 => ?_)
   ·
    replace h3 := of_decide_eq_true h3
    refine zAM ?_
    refine zAS ?_
    refine zAB ?_
    have hH1 := (zD0 hA hF).1
    have hH2 : SrtI c d3 (p + z) (p + 2 * z) := by have q := (zD0 hA hF).2; rwa [show p + z + z = p + 2 * z by omega] at q
    refine zAA rfl (.m rfl rfl (.m rfl rfl (.m rfl rfl (.m rfl rfl (.r rfl (zAW (zAf rfl rfl rfl (by omega)) ((show AV.p none (.v (.int .i64 (((p : Nat):Int) + ((z : Nat):Int)))) = AV.p none (.v (.int .i64 ((p + z : Nat):Int))) from zAL (by omega)))) (.m rfl rfl (.m rfl rfl (.run [100000] [] rfl (zAK rfl 4300 (X := [100000]) zQS rfl (.val nod) (.cons (.one (.own (len := (pvE l).length) (xs := pvE d3) rfl (by first | rfl | omega))) (.cons (.one (.bor .v)) (.cons (.one (.bor .v)) (.cons (.one (.bor .v)) (.cons (.one (.bor (.cl nod))) .nil))))) (by decide) (all_cons rfl all_nil) (.keep (xs := pvE d3) rfl (FlatP.nf (zAd _)) .nil) (zCs c hc f pss hE hp ((p + 2 * z) - p + 1) d3 p (p + z) (p + 2 * z) (by omega) (by omega) (by omega) (by omega) (by omega) (zBT hR.perm hd) hH1 hH2) rfl rfl (nle rfl)) .nil)))))))) ?_
    refine zAB (zAA rfl (.m rfl rfl (.a rfl rfl .nil)) ?_)
    refine zAY (s' := mk [(0, .sl 100000 0 ((pvE l).length)), (1, .vi (l.length:Int)), (2, .p none (.clo f pss)), (6, .vi (z:Int)), (7, .vi ((p + 2 * z : Nat):Int)), (8, .vi ((p + 2 * z : Nat):Int))] [] [(100000, 4, pvE (srtS c d3 p (p + 2 * z)))]) ?_ ?_
    · exact zAJ ⟨rfl, rfl, rfl, rfl, rfl, rfl, trivial⟩ trivial ⟨rfl, trivial⟩ rfl
    refine zAA rfl (.m rfl rfl (.m rfl rfl (.r rfl (zIg rfl rfl rfl (by omega)) (.r rfl (zAf rfl rfl rfl (by omega)) (.a rfl rfl .nil))))) ?_
    refine nxt (Q := fun _ _ => False) (z := (p, d3)) (p + 2 * z, srtS c d3 p (p + 2 * z)) ?_ ?_ ?_
    ·
     show (p + 2 * z) ≤ l.length ∧ Al (2 * z) (p + 2 * z) ∧ Res l (srtS c d3 p (p + 2 * z)) 0 l.length ∧ zFq c (srtS c d3 p (p + 2 * z)) (2 * z) (p + 2 * z) ∧ zB3 c (srtS c d3 p (p + 2 * z)) z (p + 2 * z)
     exact ⟨by omega, zLd hA, hps (by omega)⟩
    ·
     show l.length - (p + 2 * z) < l.length - p
     omega
    · exact zAJ ⟨rfl, rfl, rfl, rfl, (zAL (by rfl)), (zAL (by omega)), trivial⟩ trivial ⟨(congrArg (fun x => some (4, x)) (by rfl)), trivial⟩ rfl
   ·
    replace h3 := of_decide_eq_false h3
    refine zAx ?_
    refine zDx (σ := List Ent) (fun d4 => mk [(0, .sl 100000 0 ((pvE l).length)), (1, .vi (l.length:Int)), (2, .p none (.clo f pss)), (6, .vi (z:Int))] [] [(100000, 4, pvE d4)]) (fun d4 => Res l d4 0 l.length ∧ zB3 c d4 (2 * z) 0) ?_ ?_
    ·
     refine zAB (zAA rfl (.m rfl rfl (.m rfl rfl (.r rfl (zAW (zAf rfl rfl rfl (by omega)) ((show AV.p none (.v (.int .i64 (((p : Nat):Int) + ((z : Nat):Int)))) = AV.p none (.v (.int .i64 ((p + z : Nat):Int))) from zAL (by omega)))) (.a rfl rfl .nil)))) ?_)
     refine zAB (zAA rfl (.m rfl rfl (.m rfl rfl (.r rfl (zA4 rfl rfl rfl) .nil))) ?_)
     refine zAZ (t := decide (((p + z : Nat):Int) < (l.length:Int))) rfl (fun h4 => ?_) (fun h4 => ?_)
     ·
      replace h4 := of_decide_eq_true h4
      have hH1 := (zD0 hA hF).1
      have hH2 : SrtI c d3 (p + z) l.length := zGn (zD0 hA hF).2 (Nat.le_refl _) (by omega)
      refine zAA rfl (.m rfl rfl (.m rfl rfl (.m rfl rfl (.m rfl rfl (.m rfl rfl (.run [100000] [] rfl (zAK rfl 6000 (X := [100000]) zQS rfl (.val nod) (.cons (.one (.own (len := (pvE l).length) (xs := pvE d3) rfl (by first | rfl | omega))) (.cons (.one (.bor .v)) (.cons (.one (.bor .v)) (.cons (.one (.bor .v)) (.cons (.one (.bor (.cl nod))) .nil))))) (by decide) (all_cons rfl all_nil) (.keep (xs := pvE d3) rfl (FlatP.nf (zAd _)) .nil) (zCs c hc f pss hE hp (l.length - p + 1) d3 p (p + z) l.length (by omega) (by omega) (by omega) (by omega) (by omega) (zBT hR.perm hd) hH1 hH2) rfl rfl (nle rfl)) .nil)))))) ?_
      refine ⟨srtS c d3 p l.length, ?_, ?_⟩
      ·
       show Res l (srtS c d3 p l.length) 0 l.length ∧ zB3 c (srtS c d3 p l.length) (2 * z) 0
       exact zPv hc (by omega) hA hR hd hT (by omega) (by omega)
      · exact zAJ ⟨rfl, rfl, rfl, rfl, trivial⟩ trivial ⟨(congrArg (fun x => some (4, x)) (by rfl)), trivial⟩ rfl
     ·
      replace h4 := of_decide_eq_false h4
      refine zAM ?_
      refine ⟨d3, ?_, ?_⟩
      ·
       show Res l d3 0 l.length ∧ zB3 c d3 (2 * z) 0
       exact ⟨hR, zOE (by omega) hA hR hT hF (by omega) (by omega)⟩
      · exact zAJ ⟨rfl, rfl, rfl, rfl, trivial⟩ trivial ⟨(congrArg (fun x => some (4, x)) (by rfl)), trivial⟩ rfl
    ·
     rintro d4 hG
     replace hG : Res l d4 0 l.length ∧ zB3 c d4 (2 * z) 0 := hG
     obtain ⟨hR4, hF4⟩ := hG
     have hml4 := hR4.len
     have hle5 := zAF d4
     refine zAA rfl (.m rfl rfl (.r rfl (zIg rfl rfl rfl (by omega)) (.a rfl rfl .nil))) ?_
     refine nxt (Q := fun _ _ => False) (z := (z, d2)) (2 * z, d4) ?_ ?_ ?_
     ·
      show 20 ≤ (2 * z) ∧ (2 * z) ≤ 4000000 ∧ Res l d4 0 l.length ∧ zB3 c d4 (2 * z) 0
      exact ⟨by omega, by omega, hR4, hF4⟩
     ·
      show l.length - (2 * z) < l.length - z
      omega
     · exact zAJ ⟨rfl, rfl, rfl, (zAL (by omega)), trivial⟩ trivial ⟨(congrArg (fun x => some (4, x)) (by rfl)), trivial⟩ rfl
  ·
   replace h2 := of_decide_eq_false h2
   refine zAx ?_
   exact zJJ [] [] .nil .nil (by decide) (zB7 (congrArg (fun x => some (4, x)) (congrArg pvE (blk_all hc hF0 (by omega) hR.perm hd))) (zAd _) (by decide))
theorem zE3 (l : List Ent) (hl : l.length ≤ 2000000) (c : Ent → Ent → Int) (hc : CmpOk c) (f : Nat) (pss : List (List PV)) (hE : ∀ vs w, (callFunc f vs).run Tryz.prog w = .ok (.enter f vs) w) (hp : ∀ x y : Ent, Con Tryz.prog f ([.agg x.pv, .agg y.pv] ++ pss.map .fbox) [] [.one (.v (.int .i64 (c x y)))]) (hd : Dist c l) : Con Tryz.prog 83 [.one (.sl true 4 (pvE l)), .one (PV.clo f pss)] [some (pvE (zB4 c l))] [] := by
 refine zAQ func83 rfl rfl rfl rfl ?_
 have hle := zAF l
 refine zAA rfl (.m rfl rfl (.m rfl rfl (.r rfl (zAW (zAy rfl rfl underlying24) ((show (AV.p none (.v (.int .i64 ((pvE l).length : Int)))) = AV.p none (.v (.int .i64 (l.length : Int))) from zAL (by omega)))) (.m rfl rfl (.run [100000] [] rfl (zAK rfl 800 (X := [100000]) en104 rfl (.val nod) (.cons (.one (.own (len := (pvE l).length) (xs := pvE l) rfl rfl)) (.cons (.one (.bor .v)) (.cons (.one (.bor (.cl nod))) .nil))) (by decide) (all_cons rfl all_nil) (.keep (xs := pvE l) rfl (FlatP.nf (zAd _)) .nil) (zGk l (by omega) c hc f pss hE hp hd) rfl rfl (nle rfl)) .nil))))) ?_
 exact zJJ [] [] .nil .nil (by decide) (zB7 (congrArg (fun x => some (4, x)) (congrArg pvE rfl)) (zAd _) (by decide))
end Go.Rl
namespace Go.Rl
theorem cmpK_ok : CmpOk cmpK where
 tr := fun x y z h1 h2 => by rw [zEC ((zC5 h1).trans (zC5 h2))]; decide
 asy := fun x y h1 h2 => ((zC5 h1).trans (zC5 h2)).irrefl
theorem zQX {x y : Ent} (h : x.seq ≠ y.seq) : cmpK x y < 0 ∨ cmpK y x < 0 := by
 by_cases h1 : LessE x y
 · exact .inl (by rw [zEC h1]; decide)
 ·
  refine .inr ?_
  by_cases h2 : LessE y x
  · rw [zEC h2]; decide
  ·
   exfalso
   unfold LessE at h1 h2
   cases ha : ltB x.user y.user with
   | true => exact h1 (.inl ha)
   | false =>
    cases hb : ltB y.user x.user with
    | true => exact h2 (.inl hb)
    | false =>
     have he := zHD ha hb
     by_cases h3 : y.seq < x.seq
     · exact h1 (.inr ⟨he, .inl h3⟩)
     · exact h2 (.inr ⟨he.symm, .inl (by omega)⟩)
theorem zHR {l : List Ent} (h : l.Pairwise (fun x y => x.seq ≠ y.seq)) : Dist cmpK l := h.imp zQX
theorem zDn {α : Type} {c : α → α → Int} (l : List α) : (zB4 c l).length = l.length := (zBX l).length_eq
theorem zPb {l : List Ent} (h : Srt cmpK l) {i : Nat} {x y : Ent} (hx : l[i]? = some x) (hy : l[i + 1]? = some y) : zFy y x = false := by
 have := List.pairwise_iff_getElem.1 h i (i + 1) (List.getElem?_eq_some_iff.1 hx).1 (List.getElem?_eq_some_iff.1 hy).1 (by omega)
 rw [(List.getElem?_eq_some_iff.1 hx).2, (List.getElem?_eq_some_iff.1 hy).2] at this
 cases e : zFy y x with
 | false => rfl
 | true =>
  simp only [zFy, decide_eq_true_eq] at e
  rw [zHW e.1.symm e.2.1.symm e.2.2.symm] at this
  exact absurd this (by decide)
def putS (e : Ent) (r : List Ent × Bool) (x : Ent) : List Ent × Bool :=
 let c := kcmp x e
 let r1 := if (!r.2 && decide (0 ≤ c)) = true then (r.1 ++ [e], true) else r
 if c ≠ 0 then (r1.1 ++ [x], r1.2) else r1
def putN (l : List Ent) (e : Ent) (i : Nat) : List Ent × Bool := (l.take i).foldl (putS e) ([], false)
def putF (l : List Ent) (e : Ent) : List Ent := if (putN l e l.length).2 = true then (putN l e l.length).1 else (putN l e l.length).1 ++ [e]
theorem zEL {l : List Ent} {e x : Ent} {i : Nat} (hx : l[i]? = some x) : putN l e (i + 1) = putS e (putN l e i) x := by
 unfold putN
 rw [List.take_add_one, hx]
 simp [List.foldl_append]
theorem zPs (e : Ent) (r : List Ent × Bool) (x : Ent) : (putS e r x).1.length + (if (putS e r x).2 = true then 0 else 1) ≤ r.1.length + (if r.2 = true then 0 else 1) + 1 := by
 obtain ⟨l, d⟩ := r
 unfold putS
 cases d <;> by_cases h : 0 ≤ kcmp x e <;> by_cases h2 : kcmp x e = 0 <;> simp [h, h2]
theorem zGW (l : List Ent) (e : Ent) : ∀ i, (putN l e i).1.length + (if (putN l e i).2 = true then 0 else 1) ≤ i + 1
 | 0 => by simp [putN]
 | i + 1 => by
  have ih := zGW l e i
  cases hx : l[i]? with
  | none =>
   have : putN l e (i + 1) = putN l e i := by unfold putN; rw [List.take_add_one, hx]; simp
   rw [this]; omega
  | some x => rw [zEL hx]; have := zPs e (putN l e i) x; omega
theorem zMC (l : List Ent) (e : Ent) : (putF l e).length ≤ l.length + 1 := by
 have := zGW l e l.length
 unfold putF
 split
 · rename_i h; rw [if_pos h] at this; omega
 · rename_i h; rw [if_neg h] at this; simp; omega
theorem zMX {α : Type} {c : α → α → Int} {e x : α} : ∀ {p : List α}, (∀ y ∈ p, ¬ c e y < 0) → c e x < 0 → insC c e (p ++ [x]) = p ++ [e, x]
 | [], _, h => by simp [insC, h]
 | y :: p, hp, h => by
  rw [List.cons_append, insC, if_neg (hp y (by simp)), zMX (fun z hz => hp z (by simp [hz])) h]
  rfl
theorem zMY {α : Type} {c : α → α → Int} {e : α} : ∀ {p : List α}, (∀ y ∈ p, ¬ c e y < 0) → insC c e p = p ++ [e]
 | [], _ => rfl
 | y :: p, hp => by rw [insC, if_neg (hp y (by simp)), zMY (fun z hz => hp z (by simp [hz]))]; rfl
theorem zJ4 {α : Type} {c : α → α → Int} {e x : α} : ∀ {p : List α}, (∃ y ∈ p, c e y < 0) → insC c e (p ++ [x]) = insC c e p ++ [x]
 | [], h => by obtain ⟨y, hy, _⟩ := h; simp at hy
 | y :: p, h => by
  rw [List.cons_append, insC, insC]
  split
  · rfl
  ·
   rename_i hn
   rw [zJ4 (by
    obtain ⟨z, hz, hc⟩ := h
    rcases List.mem_cons.1 hz with rfl | hz
    · exact absurd hc hn
    · exact ⟨z, hz, hc⟩)]
   rfl
theorem zMD {l : List Ent} {e : Ent} (he : zCn e.user e.seq e.kind = true) (hk : ∀ x ∈ l, zCn x.user x.seq x.kind = true) (hd : ∀ x ∈ l, cmpK x e < 0 ∨ cmpK e x < 0) : putF l e = insC cmpK e l := by
 have key : ∀ i, i ≤ l.length → (((putN l e i).2 = false ∧ (putN l e i).1 = l.take i ∧ ∀ y ∈ l.take i, ¬ cmpK e y < 0) ∨ ((putN l e i).2 = true ∧ (putN l e i).1 = insC cmpK e (l.take i) ∧ ∃ y ∈ l.take i, cmpK e y < 0)) := by
  intro i
  induction i with
  | zero => intro _; exact .inl ⟨rfl, rfl, by simp⟩
  | succ i ih =>
   intro hi
   obtain ⟨x, hx⟩ : ∃ x, l[i]? = some x := ⟨_, List.getElem?_eq_getElem (by omega)⟩
   have hm := List.mem_of_getElem? hx
   have ht : l.take (i + 1) = l.take i ++ [x] := by rw [List.take_add_one, hx]; rfl
   have hc : kcmp x e = cmpK x e := zDe (hk x hm) he
   rw [zEL hx, ht]
   have hne : cmpK x e ≠ 0 := by
    rcases hd x hm with h | h
    · omega
    ·
     intro h0
     have hl := zC5 h
     by_cases h1 : LessE x e
     · exact (h1.trans hl).irrefl
     ·
      have hn : ¬ (x.user = e.user ∧ x.seq = e.seq ∧ x.kind = e.kind) := fun ⟨a, b, c⟩ => by rw [zHW a.symm b.symm c.symm] at h; exact absurd h (by decide)
      rw [zHV h1 hn] at h0; cases h0
   rcases ih (by omega) with ⟨h1, h2, h3⟩ | ⟨h1, h2, h3⟩
   ·
    by_cases hlt : cmpK x e < 0
    ·
     refine .inl ?_
     have hna : ¬ 0 ≤ cmpK x e := by omega
     have hs : putS e (putN l e i) x = ((putN l e i).1 ++ [x], (putN l e i).2) := by unfold putS; simp [hc, hne, hna]
     rw [hs]
     refine ⟨h1, by rw [h2], fun y hy => ?_⟩
     rcases List.mem_append.1 hy with hy | hy
     · exact h3 y hy
     · rw [List.mem_singleton.1 hy]; exact cmpK_ok.asy _ _ hlt
    ·
     refine .inr ?_
     have hge : 0 ≤ cmpK x e := by omega
     have hgt : cmpK e x < 0 := (hd x hm).resolve_left hlt
     have hs : putS e (putN l e i) x = ((putN l e i).1 ++ [e] ++ [x], true) := by unfold putS; simp [hc, hne, hge, h1]
     rw [hs]
     refine ⟨rfl, by rw [h2, zMX h3 hgt]; simp, x, by simp, hgt⟩
   ·
    refine .inr ?_
    have hs : putS e (putN l e i) x = ((putN l e i).1 ++ [x], (putN l e i).2) := by unfold putS; simp [hc, hne, h1]
    rw [hs]
    obtain ⟨y, hy, hc'⟩ := h3
    exact ⟨h1, by rw [h2, zJ4 ⟨y, hy, hc'⟩], y, by simp [hy], hc'⟩
 rcases key l.length (Nat.le_refl _) with ⟨h1, h2, h3⟩ | ⟨h1, h2, h3⟩
 ·
  unfold putF
  rw [if_neg (by rw [h1]; decide), h2]
  rw [List.take_length] at h3 ⊢
  exact (zMY h3).symm
 ·
  unfold putF
  rw [if_pos h1, h2, List.take_length]
theorem zOC {l o : List Ent} {e x : Ent} {dn : Bool} {i : Nat} (hx : l[i]? = some x) (h : (o, dn) = (if (!(putN l e i).2 && decide (0 ≤ kcmp x e)) = true then ((putN l e i).1 ++ [e], true) else putN l e i)) : putN l e (i + 1) = if kcmp x e ≠ 0 then (o ++ [x], dn) else (o, dn) := by
 rw [zEL hx]
 unfold putS
 simp only [← h]
theorem zDz (l : List Ent) (e : Ent) : pvE l ++ [e.pv] = pvE (l ++ [e]) := by simp [pvE]
theorem put_a {r : List Ent × Bool} {e : Ent} {c : Int} (h : r.2 = true) : (r.1, r.2) = (if (!r.2 && decide (0 ≤ c)) = true then (r.1 ++ [e], true) else r) := by rw [if_neg (by simp [h])]
theorem put_b {r : List Ent × Bool} {e : Ent} {c : Int} (h : c < 0) : (r.1, r.2) = (if (!r.2 && decide (0 ≤ c)) = true then (r.1 ++ [e], true) else r) := by rw [if_neg (by simp; omega)]
theorem put_c {r : List Ent × Bool} {e : Ent} {c : Int} (h1 : r.2 = false) (h : 0 ≤ c) : (r.1 ++ [e], true) = (if (!r.2 && decide (0 ≤ c)) = true then (r.1 ++ [e], true) else r) := by rw [if_pos (by simp [h1, h])]
theorem zPq {r : List Ent × Bool} {e : Ent} {c : Int} {o : List Ent} {dn : Bool} {i : Nat} (h : (o, dn) = (if (!r.2 && decide (0 ≤ c)) = true then (r.1 ++ [e], true) else r)) (hr : r.1.length + (if r.2 = true then 0 else 1) ≤ i + 1) : o.length ≤ i + 1 := by
 split at h
 ·
  rename_i hc
  simp only [Bool.and_eq_true, Bool.not_eq_true'] at hc
  rw [hc.1] at hr
  cases h
  simpa using hr
 ·
  have : o = r.1 := congrArg Prod.fst h
  rw [this]; omega
def zBv {α : Type} (p : α → Bool) (l : List α) (j : Nat) : List α := (l.take j).filter (fun x => !p x)
theorem zJ3 {α : Type} (p : α → Bool) (l : List α) (j : Nat) : (zBv p l j).length ≤ j := Nat.le_trans (List.length_filter_le _ _) (by rw [List.length_take]; omega)
theorem zHJ {α : Type} {p : α → Bool} {l : List α} {j : Nat} {x : α} (hx : l[j]? = some x) (h : p x = false) : zBv p l (j + 1) = zBv p l j ++ [x] := by
 unfold zBv
 rw [List.take_add_one, hx, List.filter_append]
 simp [h]
theorem zGZ {α : Type} {p : α → Bool} {l : List α} {j : Nat} {x : α} (hx : l[j]? = some x) (h : p x = true) : zBv p l (j + 1) = zBv p l j := by
 unfold zBv
 rw [List.take_add_one, hx, List.filter_append]
 simp [h]
theorem zOX {α : Type} {p : α → Bool} {l : List α} {j : Nat} (hj : l.length ≤ j) : zBv p l j = l.filter (fun x => !p x) := by
 unfold zBv
 rw [List.take_of_length_le hj]
theorem zLB {α : Type} {p : α → Bool} {l : List α} {j : Nat} (h : ∀ k x, k < j → l[k]? = some x → p x = false) : zBv p l j = l.take j := by
 unfold zBv
 rw [List.filter_eq_self]
 intro x hx
 obtain ⟨k, hk⟩ := List.getElem?_of_mem hx
 rw [List.getElem?_take] at hk
 split at hk
 · rw [h k x (by assumption) hk]; rfl
 · cases hk
theorem zOm {α : Type} {F l : List α} {k : Nat} (h : F.length ≤ k) : (F ++ l.drop F.length)[k]? = l[k]? := by
 rw [List.getElem?_append_right h, List.getElem?_drop]
 congr 1; omega
theorem del_set {α : Type} {F l : List α} {x : α} (h : F.length < l.length) : (F ++ l.drop F.length).set F.length x = (F ++ [x]) ++ l.drop (F ++ [x]).length := by
 rw [List.set_append_right _ _ (Nat.le_refl _), Nat.sub_self, List.append_assoc]
 congr 1
 rw [List.drop_eq_getElem_cons h, List.set_cons_zero, List.length_append]
 rfl
theorem pr_row {c r : List Pr} {n m : Nat} {z : List PV} (h : n = c.length) : ((((pvP (c ++ r)).take n) ++ List.replicate m z).take (n - 0)) = pvP c := by
 subst h
 rw [Nat.sub_zero, List.take_append_of_le_length (by rw [List.length_take, zBl]; simp), List.take_take, Nat.min_self]
 simp [pvP, List.map_append]
theorem pr_flat {c : List Pr} {n m : Nat} {z : List PV} (hz : ∀ p ∈ z, PV.isV p = true) : ∀ es ∈ ((pvP c).take n ++ List.replicate m z), ∀ p ∈ es, (match p with | .v _ => true | _ => false) = true := fun es he p hp => by
 have : PV.isV p = true := by
  rcases List.mem_append.1 he with he | he
  · exact zDV c es (List.mem_of_mem_take he) p hp
  ·
   rw [List.eq_of_mem_replicate he] at hp
   exact hz p hp
 cases p <;> first | rfl | cases this
theorem zFc {α : Type} {p : α → Bool} {l : List α} (h : idxF p l ≠ -1) : ∃ k : Nat, idxF p l = (k : Int) ∧ k < l.length ∧ (∀ j x, j < k → l[j]? = some x → p x = false) ∧ ∃ x, l[k]? = some x ∧ p x = true := by
 unfold idxF at h ⊢
 cases e : l.findIdx? p with
 | none => rw [e] at h; exact absurd rfl h
 | some k =>
  rw [List.findIdx?_eq_some_iff_getElem] at e
  obtain ⟨hk, h1, h2⟩ := e
  refine ⟨k, rfl, hk, fun j x hj hx => ?_, _, List.getElem?_eq_getElem hk, h1⟩
  have := h2 j hj
  rw [(List.getElem?_eq_some_iff.1 hx).2] at this
  simpa using this
theorem zLH {α : Type} {p : α → Bool} {l : List α} (h : idxF p l = -1) : l.filter (fun x => !p x) = l := by
 unfold idxF at h
 cases e : l.findIdx? p with
 | some k => rw [e] at h; exact absurd h (by simp)
 | none =>
  rw [List.findIdx?_eq_none_iff] at e
  rw [List.filter_eq_self]
  intro x hx
  rw [e x hx]; rfl
def outP (f t : ByteArray) (q : Pr) : Bool := ltB q.user f || (!decide (t = ⟨#[]⟩) && !ltB q.user t)
theorem pvP_set {l : List Pr} {k : Nat} {x : Pr} : (pvP l).set k [PV.v (.string x.user), PV.v (.string x.value)] = pvP (l.set k x) := by simp [pvP, Pr.pv, List.map_set]
end Go.Rl

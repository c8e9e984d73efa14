/- Promises of functions, proved by walks over their operations; no conditions beyond those that each theorem states. -/
import Derived.Test.YtdkpbnhdekeciaaDoorReA
import Derived.Test.YtdkpbnhdekeciaaDoorRlT
import Derived.Test.YtdkpbnhdekeciaaDoorRlJ
import Derived.RangeFuncNested
set_option linter.unusedSimpArgs false
set_option linter.unusedVariables false
namespace Go.Rl
open Go.Proofs Go.Proofs.Tryd
set_option maxRecDepth 1000000
set_option maxHeartbeats 2000000
theorem en28 : En Tryd.prog 28 := zAn func28 (by decide) rfl
theorem en10 : En Tryd.prog 10 := zAn func10 (by decide) rfl
theorem zIk {n : Nat} {x : Int} (h : ¬ zB6 n x < 0) (h0 : 0 ≤ x ∧ x ≤ 1048576) : 0 ≤ zB6 n x ∧ zB6 n x ≤ 1048576 := by
 unfold zB6 at h ⊢
 split at h
 · omega
 ·
  rename_i hx
  rw [if_neg hx]
  omega
def wE (e : Ent) : Nat := e.user.size + e.value.size
theorem zIl (e : Ent) (left : Int) (h0 : 0 ≤ left ∧ left ≤ 1048576) (hu : e.user.size ≤ 9223372036854775807) : Con Tryd.prog 28 [.agg [PV.v (.string e.user), PV.v (.int .i64 e.seq), PV.v (.int .i64 e.kind)], .one (PV.v (.int .i64 left))] [] [.one (.v (.int .i64 (zB6 e.user.size left)))] := by
 refine zAP func28 rfl rfl rfl rfl ?_
 refine zAC (zAA rfl (.run [] [2] rfl (zBa rfl 2 rfl rfl (by decide) rfl (by decide)) (.a rfl rfl .nil)) ?_)
 refine zAC (zAA rfl (.m rfl rfl (.r rfl (zAE rfl rfl underlying36 rfl sizeOf9 (by decide)) (.r rfl (zAF rfl rfl rfl isAgg9 rfl) (.r rfl (zAR rfl rfl underlying9) (.r rfl (zBw rfl rfl rfl (by omega)) (.a rfl rfl .nil)))))) ?_)
 refine zAC ?_
 refine zAC (zAA rfl (.m rfl rfl (.r rfl (zAu rfl rfl rfl) .nil)) ?_)
 refine zAW (t := decide ((left - (e.user.size : Int)) < 0)) rfl (fun h1 => ?_) (fun h1 => ?_)
 ·
  replace h1 := of_decide_eq_true h1
  refine zAC (zAA rfl (.a rfl rfl .nil) ?_)
  refine zAL ?_
  exact ends [_] [] (.cons (.tmp (zAH (if_pos h1).symm)) .nil) (.cons (.one .v (.v _)) .nil) (by decide) trivial
 ·
  replace h1 := of_decide_eq_false h1
  refine zAJ ?_
  refine zAC (zAA rfl (.m rfl rfl (.a rfl rfl .nil)) ?_)
  refine zAL ?_
  exact ends [_] [] (.cons (.tmp (zAH (if_neg h1).symm)) .nil) (.cons (.one .v (.v _)) .nil) (by decide) trivial
theorem zG3 (e : Ent) (left : Int) (h0 : 0 ≤ left ∧ left ≤ 1048576) (hu : e.user.size ≤ 9223372036854775807) (hv : e.value.size ≤ 9223372036854775807) : Con Tryd.prog 10 [.agg [PV.v (.string e.user), PV.v (.int .i64 e.seq), PV.v (.int .i64 e.kind), PV.v (.string e.value)], .one (PV.v (.int .i64 left))] [] [.one (.v (.int .i64 (zB6 (wE e) left)))] := by
 refine zAP func10 rfl rfl rfl rfl ?_
 refine zAC (zAA rfl (.run [] [2] rfl (zBa rfl 2 rfl rfl (by decide) rfl (by decide)) (.a rfl rfl .nil)) ?_)
 refine zAC (zAA rfl (.r rfl (zAE rfl rfl underlying38 rfl sizeOf36 (by decide)) (.r rfl (zAV rfl rfl rfl isAgg36 sizeOf36 (nle rfl)) (.m rfl rfl (.run [800] [] rfl (zAG rfl 800 (X := []) en28 rfl (.val nod) (.cons (.agg (.cons (.bor .v) (.cons (.bor .v) (.cons (.bor .v) .nil)))) (.cons (.one (.bor .v)) .nil)) (by decide) all_nil .nil (zIl e left h0 hu) rfl rfl (nle rfl)) (.a rfl rfl .nil))))) ?_)
 refine zAC ?_
 refine zAC (zAA rfl (.m rfl rfl (.r rfl (zAu rfl rfl rfl) .nil)) ?_)
 refine zAW (t := decide ((zB6 e.user.size left) < 0)) rfl (fun h1 => ?_) (fun h1 => ?_)
 ·
  replace h1 := of_decide_eq_true h1
  refine zAC (zAA rfl (.a rfl rfl .nil) ?_)
  refine zAL ?_
  exact ends [_] [] (.cons (.tmp (zAH (zIj h1).symm)) .nil) (.cons (.one .v (.v _)) .nil) (by decide) trivial
 ·
  replace h1 := of_decide_eq_false h1
  refine zAJ ?_
  refine zAC ?_
  have hb1 := zIk h1 h0
  refine zAA rfl (.m rfl rfl (.r rfl (zAE rfl rfl underlying38 rfl sizeOf9 (by decide)) (.r rfl (zAF rfl rfl rfl isAgg9 rfl) (.r rfl (zAR rfl rfl underlying9) (.r rfl (zBw rfl rfl rfl (by omega)) (.a rfl rfl .nil)))))) ?_
  refine zAC ?_
  refine zAC ?_
  refine zAU (s' := mk [(1, .vi ((zB6 e.user.size left) - (e.value.size : Int)))] [] []) ?_ ?_
  · exact zAK ⟨rfl, trivial⟩ trivial trivial rfl
  refine zAA rfl (.m rfl rfl (.r rfl (zAu rfl rfl rfl) .nil)) ?_
  refine zAW (t := decide (((zB6 e.user.size left) - (e.value.size : Int)) < 0)) rfl (fun h2 => ?_) (fun h2 => ?_)
  ·
   replace h2 := of_decide_eq_true h2
   refine zAC (zAA rfl (.a rfl rfl .nil) ?_)
   refine zAL ?_
   exact ends [_] [] (.cons (.tmp (zAH ((zGB (b := e.value.size) h1).symm.trans (if_pos h2)).symm)) .nil) (.cons (.one .v (.v _)) .nil) (by decide) trivial
  ·
   replace h2 := of_decide_eq_false h2
   refine zAJ ?_
   refine zAC (zAA rfl (.m rfl rfl (.a rfl rfl .nil)) ?_)
   refine zAL ?_
   exact ends [_] [] (.cons (.tmp (zAH ((zGB (b := e.value.size) h1).symm.trans (if_neg h2)).symm)) .nil) (.cons (.one .v (.v _)) .nil) (by decide) trivial
theorem zGC (l : List Ent) (left : Int) (h0 : 0 ≤ left ∧ left ≤ 1048576) (hl : l.length ≤ 9223372036854775807) (hn : ∀ e ∈ l, e.user.size ≤ 9223372036854775807 ∧ e.value.size ≤ 9223372036854775807) : Con Tryd.prog 4 [.one (PV.sl false 4 (pvE l)), .one (PV.v (.int .i64 left))] [] [.one (.v (.int .i64 (szS wE l left)))] := by
 refine zAP func4 rfl rfl rfl rfl ?_
 have hle := zAc l
 refine zAC (zAA rfl (.a rfl rfl .nil) ?_)
 refine zAC (zAA rfl (.m rfl rfl (.m rfl rfl (.r rfl (zAa rfl rfl underlying22) (.r rfl (zBw rfl rfl rfl (by omega)) (.a rfl rfl .nil))))) ?_)
 refine zAC ?_
 refine zAC (zAA rfl (.m rfl rfl (.r rfl (zAu rfl rfl rfl) .nil)) ?_)
 refine zAW (t := decide ((left - ((pvE l).length : Int)) < 0)) rfl (fun h1 => ?_) (fun h1 => ?_)
 ·
  replace h1 := of_decide_eq_true h1
  refine zAC (zAA rfl (.a rfl rfl .nil) ?_)
  refine zAL ?_
  exact ends [_] [] (.cons (.tmp (zAH (by rw [szS, if_pos (by omega)]))) .nil) (.cons (.one .v (.v _)) .nil) (by decide) trivial
 ·
  replace h1 := of_decide_eq_false h1
  refine zAJ ?_
  refine zAC ?_
  refine zAC (zAA rfl (.a rfl rfl .nil) ?_)
  refine zAM ?_
  refine zAj (σ := Nat × Int) (fun (i, x) => mk [(0, .p none (.sl false 4 (pvE l))), (1, .vi x), (5, .vi (i:Int))] [] []) (fun (i, x) => i ≤ l.length ∧ (0 ≤ x ∧ x ≤ 1048576) ∧ szS wE l left = szL wE (l.drop i) x) (fun (i, x) => l.length - i) (0, left - ((pvE l).length : Int)) ⟨Nat.zero_le _, by omega, by rw [hle]; exact if_neg (by omega)⟩ (zAK ⟨rfl, rfl, (zAH (by omega)), trivial⟩ trivial trivial rfl) ?_
  rintro ⟨i, x⟩ hG
  replace hG : i ≤ l.length ∧ (0 ≤ x ∧ x ≤ 1048576) ∧ szS wE l left = szL wE (l.drop i) x := hG
  obtain ⟨hG, hG2, hG3⟩ := hG
  refine zAC ?_
  refine zAC (zAA rfl (.m rfl rfl (.m rfl rfl (.r rfl (zAa rfl rfl underlying22) (.r rfl (zAu rfl rfl rfl) .nil)))) ?_)
  refine zAW (t := decide ((i:Int) < ((pvE l).length : Int))) rfl (fun h2 => ?_) (fun h2 => ?_)
  ·
   replace h2 := of_decide_eq_true h2
   refine zAJ ?_
   refine zAC ?_
   refine zAM ?_
   refine zAC ?_
   obtain ⟨e, he⟩ : ∃ e, l[i]? = some e := ⟨_, List.getElem?_eq_getElem (by (have hL := zAc l; omega))⟩
   have hlte := (List.getElem?_eq_some_iff.1 he).1
   refine zAA rfl (.m rfl rfl (.m rfl rfl (.r rfl (zAm rfl rfl rfl underlying22 sizeOf38 rfl (by omega) (zBW he)) (.r rfl (zBA rfl rfl isAgg38 sizeOf38 (nle rfl)) (.m rfl rfl (.run [2300] [] rfl (zAG rfl 2300 (X := []) en10 rfl (.val nod) (.cons (.agg (.cons (.bor .v) (.cons (.bor .v) (.cons (.bor .v) (.cons (.bor .v) .nil))))) (.cons (.one (.bor .v)) .nil)) (by decide) all_nil .nil (zG3 e x hG2 (hn e (List.mem_of_getElem? he)).1 (hn e (List.mem_of_getElem? he)).2) rfl rfl (nle rfl)) (.a rfl rfl .nil))))))) ?_
   refine zAC (zAA rfl (.m rfl rfl (.r rfl (zAu rfl rfl rfl) .nil)) ?_)
   refine zAW (t := decide ((zB6 (wE e) x) < 0)) rfl (fun h3 => ?_) (fun h3 => ?_)
   ·
    replace h3 := of_decide_eq_true h3
    refine zAC (zAA rfl (.a rfl rfl .nil) ?_)
    refine zAL ?_
    exact ends [_] [] (.cons (.tmp (zAH (zKM he h3 hG2.1 hG3).symm)) .nil) (.cons (.one .v (.v _)) .nil) (by decide) trivial
   ·
    replace h3 := of_decide_eq_false h3
    refine zAJ ?_
    refine zAA rfl (.m rfl rfl (.r rfl (zAX rfl rfl rfl (by omega)) (.a rfl rfl .nil))) ?_
    refine nxt (Q := fun _ _ => False) (z := (i, x)) (i + 1, zB6 (wE e) x) ?_ ?_ ?_
    ·
     show (i + 1) ≤ l.length ∧ (0 ≤ (zB6 (wE e) x) ∧ (zB6 (wE e) x) ≤ 1048576) ∧ szS wE l left = szL wE (l.drop (i + 1)) (zB6 (wE e) x)
     exact ⟨by omega, zKN he hG2 h3 hG3⟩
    ·
     show l.length - (i + 1) < l.length - i
     omega
    · exact zAK ⟨rfl, rfl, (zAH (by omega)), trivial⟩ trivial trivial rfl
  ·
   replace h2 := of_decide_eq_false h2
   refine zAk ?_
   refine zAC (zAA rfl (.m rfl rfl (.a rfl rfl .nil)) ?_)
   refine zAL ?_
   exact ends [_] [] (.cons (.tmp (zAH (gsz_end (by omega) hG3).symm)) .nil) (.cons (.one .v (.v _)) .nil) (by decide) trivial
end Go.Rl
namespace Go.Rl
open Go.Proofs
def markE (k i : Nat) : Ent := ⟨markT (k + 4 * i), ((k + 4 * i : Nat) : Int) + 1, ((k + 4 * i : Nat) : Int) + 1 + 1, markT (k + 4 * i + 3)⟩
end Go.Rl
namespace Go.Rl
open Go.Proofs Go.Proofs.Tryd
set_option maxRecDepth 1000000
set_option maxHeartbeats 2000000
theorem inf9 : (Tryd.prog.info? 9).map (fun i => (i.zero, i.size, i.bytes)) = some (some (.string ⟨#[]⟩), 1, 16) := by kernel_rfl
theorem zGh (l : List ByteArray) (hl : l.length ≤ 2000000) : Con Tryd.prog 67 [.one (.sl true 1 (pvT l))] [none] [.one (.sl true 1 (pvT (zBi l)))] := by
 refine zAP func67 rfl rfl rfl rfl ?_
 have hle := zAg l
 refine zAC (zAA rfl (.a rfl rfl .nil) ?_)
 refine zAC ?_
 refine zAC (zAA rfl (.m rfl rfl (.r rfl (zCT rfl rfl underlying49) (.r rfl (zAu rfl rfl rfl) .nil))) ?_)
 refine zAW (t := decide (((pvT l).length : Int) < 2)) rfl (fun h1 => ?_) (fun h1 => ?_)
 ·
  replace h1 := of_decide_eq_true h1
  refine zAC ?_
  have hs : zBi l = l := zJb (by omega)
  rw [hs]
  refine zAA rfl (.m rfl rfl (.a rfl rfl .nil)) ?_
  refine zAL ?_
  exact ends [_] [100000] (.cons (.tmp rfl) .nil) (.cons (.one (.row (len := (pvT l).length) (xs := pvT l) rfl rfl) (.sl _ _ (FlatP.clean (zC0 _)))) .nil) (by decide) ⟨trivial, trivial⟩
 ·
  replace h1 := of_decide_eq_false h1
  refine zAJ ?_
  refine zAC ?_
  refine zAC (zAA rfl (.a rfl rfl .nil) ?_)
  refine zAM ?_
  refine zAj (σ := Nat) (fun k => mk [(0, .sl 100000 0 ((pvT l).length)), (3, .vi (k:Int))] [] [(100000, 1, pvT l)]) (fun k => 1 ≤ k ∧ k ≤ l.length ∧ zAN l k = l.take k) (fun k => l.length - k) 1 ⟨Nat.le_refl _, by omega, cpt_one (by omega)⟩ (zAK ⟨rfl, (zAH (by omega)), trivial⟩ trivial ⟨rfl, trivial⟩ rfl) ?_
  rintro k hG
  replace hG : 1 ≤ k ∧ k ≤ l.length ∧ zAN l k = l.take k := hG
  obtain ⟨h1k, hkl, hC⟩ := hG
  refine zAC ?_
  refine zAC (zAA rfl (.m rfl rfl (.m rfl rfl (.r rfl (zCT rfl rfl underlying49) (.r rfl (zAu rfl rfl rfl) .nil)))) ?_)
  refine zAW (t := decide ((k:Int) < ((pvT l).length : Int))) rfl (fun h2 => ?_) (fun h2 => ?_)
  ·
   replace h2 := of_decide_eq_true h2
   refine zAJ ?_
   refine zAC ?_
   refine zAM ?_
   refine zAC ?_
   obtain ⟨e, he⟩ : ∃ e, l[k]? = some e := ⟨_, List.getElem?_eq_getElem (by (have hL := zAg l; omega))⟩
   have hlte := (List.getElem?_eq_some_iff.1 he).1
   obtain ⟨e2, he2⟩ : ∃ e, l[k - 1]? = some e := ⟨_, List.getElem?_eq_getElem (by (have hL := zAg l; omega))⟩
   have hlte2 := (List.getElem?_eq_some_iff.1 he2).1
   refine zAf zBj rfl (.m rfl rfl (.m rfl rfl (.r rfl (zAq k rfl rfl rfl rfl underlying49 sizeOf9 rfl rfl (by omega)) (.r rfl (zAy rfl rfl rfl (zB3 he) isAgg9 rfl) (.m rfl rfl (.m rfl rfl (.r rfl (zAO (zBw rfl rfl rfl (by omega)) ((show (AV.p none (.v (.int .i64 ((k:Int) - 1)))) = AV.p none (.v (.int .i64 ((k - 1 : Nat) : Int))) from zAH (by omega)))) (.r rfl (zAq (k - 1) rfl rfl rfl rfl underlying49 sizeOf9 rfl rfl (by omega)) (.r rfl (zAy rfl rfl rfl (zB3 he2) isAgg9 rfl) (.r rfl (zDb rfl rfl rfl) .nil)))))))))) (by kernel_rfl) ?_
   refine zAW (t := decide (e = e2)) rfl (fun h3 => ?_) (fun h3 => ?_)
   ·
    replace h3 := of_decide_eq_true h3
    refine zAC ?_
    have hd0 : zAN l (k + 1) = zAN l k := zCM h1k he2 he h3
    refine zAU (s' := mk [(0, .sl 100000 0 ((pvT l).length)), (3, .vi (k:Int))] [] [(100000, 1, pvT l)]) ?_ ?_
    · exact zAK ⟨rfl, rfl, trivial⟩ trivial ⟨rfl, trivial⟩ rfl
    refine zAA rfl (.m rfl rfl (.m rfl rfl (.r rfl (zDf (l := k) (h := (pvT l).length) rfl rfl rfl underlying49 sizeOf9 (.at_ rfl rfl) .no (by omega) (Nat.le_refl _) rfl) (.a rfl rfl .nil)))) ?_
    refine zAC ?_
    refine zAC (zAA rfl (.a rfl rfl .nil) ?_)
    refine zAM ?_
    refine zAj (σ := Nat) (fun q => mk [(0, .sl 100000 0 ((pvT l).length)), (3, .vi ((zAN l (k + q)).length : Int)), (4, .sl 100000 k (((pvT l).length) - k)), (5, .vi (q:Int))] [] [(100000, 1, pvT (zAN l (k + q) ++ l.drop (zAN l (k + q)).length))]) (fun q => 1 ≤ q ∧ k + q ≤ l.length ∧ (zAN l (k + q)).length + 1 ≤ k + q) (fun q => l.length - q) 1 ⟨Nat.le_refl _, by omega, by rw [hd0, hC, List.length_take]; omega⟩ (zAK ⟨rfl, (zAH (by rw [hd0, hC, List.length_take]; omega)), rfl, (zAH (by omega)), trivial⟩ trivial ⟨(congrArg (fun x => some (1, x)) (by rw [hd0, zJa hC hkl])), trivial⟩ rfl) ?_
    rintro q hG
    replace hG : 1 ≤ q ∧ k + q ≤ l.length ∧ (zAN l (k + q)).length + 1 ≤ k + q := hG
    obtain ⟨h1q, hql, hcq⟩ := hG
    have hlr := zAg (zAN l (k + q) ++ l.drop (zAN l (k + q)).length)
    have hlc : (zAN l (k + q) ++ l.drop (zAN l (k + q)).length).length = l.length := by rw [List.length_append, List.length_drop]; omega
    refine zAC ?_
    refine zAC (zAA rfl (.m rfl rfl (.m rfl rfl (.r rfl (zCT rfl rfl underlying49) (.r rfl (zAu rfl rfl rfl) .nil)))) ?_)
    refine zAW (t := decide ((q:Int) < ((((pvT l).length) - k : Nat) : Int))) rfl (fun h4 => ?_) (fun h4 => ?_)
    ·
     replace h4 := of_decide_eq_true h4
     refine zAJ ?_
     refine zAC ?_
     refine zAM ?_
     refine zAC ?_
     obtain ⟨y, hy⟩ : ∃ y, l[k + q]? = some y := ⟨_, List.getElem?_eq_getElem (by omega)⟩
     obtain ⟨x, hx⟩ : ∃ x, l[k + (q - 1)]? = some x := ⟨_, List.getElem?_eq_getElem (by omega)⟩
     have hx2 : l[k + q - 1]? = some x := by rw [show k + q - 1 = k + (q - 1) by omega]; exact hx
     obtain ⟨w, hw⟩ : ∃ w, l[(zAN l (k + q)).length]? = some w := ⟨_, List.getElem?_eq_getElem (by omega)⟩
     refine zAf zBj rfl (.m rfl rfl (.m rfl rfl (.r rfl (zDd q rfl rfl rfl rfl underlying49 sizeOf9 rfl rfl (by omega)) (.r rfl (zAy rfl rfl rfl (by exact zB3 (by rw [zF3 (by omega)]; exact hy)) isAgg9 rfl) (.m rfl rfl (.m rfl rfl (.r rfl (zAO (zBw rfl rfl rfl (by omega)) ((show (AV.p none (.v (.int .i64 ((q:Int) - 1)))) = AV.p none (.v (.int .i64 ((q - 1 : Nat) : Int))) from zAH (by omega)))) (.r rfl (zDd (q - 1) rfl rfl rfl rfl underlying49 sizeOf9 rfl rfl (by omega)) (.r rfl (zAy rfl rfl rfl (by exact zB3 (by rw [zF3 (by omega)]; exact hx)) isAgg9 rfl) (.r rfl (zD5 rfl rfl rfl) .nil)))))))))) (by kernel_rfl) ?_
     refine zAW (t := (!(decide (y = x)))) rfl (fun h5 => ?_) (fun h5 => ?_)
     ·
      replace h5 : ¬ (y = x) := of_decide_eq_false (zA4 h5)
      refine zAC ?_
      refine zAU (s' := mk [(0, .sl 100000 0 ((pvT l).length)), (3, .vi ((zAN l (k + q)).length : Int)), (4, .sl 100000 k (((pvT l).length) - k)), (5, .vi (q:Int))] [] [(100000, 1, pvT (zAN l (k + q) ++ l.drop (zAN l (k + q)).length))]) ?_ ?_
      · exact zAK ⟨rfl, rfl, rfl, rfl, trivial⟩ trivial ⟨rfl, trivial⟩ rfl
      refine zAA rfl (.m rfl rfl (.m rfl rfl (.m rfl rfl (.m rfl rfl (.r rfl (zDd q rfl rfl rfl rfl underlying49 sizeOf9 rfl rfl (by omega)) (.r rfl (zAy rfl rfl rfl (by exact zB3 (by rw [zF3 (by omega)]; exact hy)) isAgg9 rfl) (.r rfl (zAq ((zAN l (k + q)).length) rfl rfl rfl rfl underlying49 sizeOf9 rfl rfl (by omega)) (.r rfl (zBM rfl rfl rfl (FlatP.nf (zC0 _)) (by exact zB3 (by rw [zF3 (Nat.le_refl _)]; exact hw)) rfl rfl (.cons .v .nil) sizeOf9 rfl (nle rfl)) .nil)))))))) ?_
      refine zAA rfl (.m rfl rfl (.r rfl (zAX rfl rfl rfl (by omega)) (.a rfl rfl .nil))) ?_
      refine zAA rfl (.m rfl rfl (.r rfl (zAX rfl rfl rfl (by omega)) (.a rfl rfl .nil))) ?_
      refine nxt (Q := fun _ _ => False) (z := q) (q + 1) ?_ ?_ ?_
      ·
       show 1 ≤ (q + 1) ∧ k + (q + 1) ≤ l.length ∧ (zAN l (k + (q + 1))).length + 1 ≤ k + (q + 1)
       exact ⟨by omega, by omega, by rw [show k + (q + 1) = k + q + 1 from rfl, zCj hx2 hy h5]; simp only [List.length_append, List.length_cons, List.length_nil]; omega⟩
      ·
       show l.length - (q + 1) < l.length - q
       omega
      · exact zAK ⟨rfl, (zAH (by rw [show k + (q + 1) = k + q + 1 from rfl, zCj hx2 hy h5]; simp)), rfl, (zAH (by omega)), trivial⟩ trivial ⟨(congrArg (fun x => some (1, x)) (by rw [show k + (q + 1) = k + q + 1 from rfl, zCj hx2 hy h5, ← cpt_set (by omega)]; simp [pvT, List.map_set, over])), trivial⟩ rfl
     ·
      replace h5 : y = x := of_decide_eq_true (zA5 h5)
      refine zAJ ?_
      refine zAU (s' := mk [(0, .sl 100000 0 ((pvT l).length)), (3, .vi ((zAN l (k + q)).length : Int)), (4, .sl 100000 k (((pvT l).length) - k)), (5, .vi (q:Int))] [] [(100000, 1, pvT (zAN l (k + q) ++ l.drop (zAN l (k + q)).length))]) ?_ ?_
      · exact zAK ⟨rfl, rfl, rfl, rfl, trivial⟩ trivial ⟨rfl, trivial⟩ rfl
      refine zAA rfl (.m rfl rfl (.r rfl (zAX rfl rfl rfl (by omega)) (.a rfl rfl .nil))) ?_
      refine nxt (Q := fun _ _ => False) (z := q) (q + 1) ?_ ?_ ?_
      ·
       show 1 ≤ (q + 1) ∧ k + (q + 1) ≤ l.length ∧ (zAN l (k + (q + 1))).length + 1 ≤ k + (q + 1)
       exact ⟨by omega, by omega, by rw [show k + (q + 1) = k + q + 1 from rfl, zCM (by omega) hx2 hy h5]; omega⟩
      ·
       show l.length - (q + 1) < l.length - q
       omega
      · exact zAK ⟨rfl, (zAH (by rw [show k + (q + 1) = k + q + 1 from rfl, zCM (by omega) hx2 hy h5])), rfl, (zAH (by omega)), trivial⟩ trivial ⟨(congrArg (fun x => some (1, x)) (by rw [show k + (q + 1) = k + q + 1 from rfl, zCM (by omega) hx2 hy h5])), trivial⟩ rfl
    ·
     replace h4 := of_decide_eq_false h4
     refine zAk ?_
     refine zAC ?_
     have hlr0 := zAg (zAN l (k + q) ++ l.drop (zAN l (k + q)).length)
     have hlc0 : (zAN l (k + q) ++ l.drop (zAN l (k + q)).length).length = l.length := by rw [List.length_append, List.length_drop]; omega
     have hkq : k + q = l.length := (by omega)
     refine zAA rfl (.m rfl rfl (.m rfl rfl (.r rfl (zDf (l := (zAN l (k + q)).length) (h := (pvT l).length) rfl rfl rfl underlying49 sizeOf9 (.at_ rfl rfl) .no (by omega) (Nat.le_refl _) rfl) (.r rfl (zJs (lo := (zAN l (k + q)).length) (len := (pvT l).length - (zAN l (k + q)).length) rfl rfl rfl (zC0 _) underlying49 inf9 rfl rfl (by rw [hlr0, hlc0]; omega)) .nil)))) ?_
     refine zAC ?_
     have hs : zBi l = zAN l (k + q) := by rw [zBi, hkq]
     rw [hs]
     refine zAA rfl (.m rfl rfl (.m rfl rfl (.r rfl (zDf (l := 0) (h := (zAN l (k + q)).length) rfl rfl rfl underlying49 sizeOf9 .no (.at_ rfl rfl) (Nat.zero_le _) (by omega) rfl) (.a rfl rfl .nil)))) ?_
     refine zAL ?_
     exact ends [_] [100000] (.cons (.tmp rfl) .nil) (.cons (.one (gv_eq (.pre (len := ((zAN l (k + q)).length) - 0) (xs := (pvT (zAN l (k + q) ++ l.drop (zAN l (k + q)).length)).take (zAN l (k + q)).length ++ List.replicate ((pvT l).length - (zAN l (k + q)).length) [PV.v (.string ⟨#[]⟩)]) rfl (by rw [List.length_append, List.length_take, hlr0, List.length_replicate]; omega) zKX) (congrArg (PV.sl true 1) (cpt_row rfl))) (.sl _ _ (FlatP.clean (zC0 _)))) .nil) (by decide) ⟨trivial, trivial⟩
   ·
    replace h3 := of_decide_eq_false h3
    refine zAJ ?_
    refine zAU (s' := mk [(0, .sl 100000 0 ((pvT l).length)), (3, .vi (k:Int))] [] [(100000, 1, pvT l)]) ?_ ?_
    · exact zAK ⟨rfl, rfl, trivial⟩ trivial ⟨rfl, trivial⟩ rfl
    refine zAA rfl (.m rfl rfl (.r rfl (zAX rfl rfl rfl (by omega)) (.a rfl rfl .nil))) ?_
    refine nxt (Q := fun _ _ => False) (z := k) (k + 1) ?_ ?_ ?_
    ·
     show 1 ≤ (k + 1) ∧ (k + 1) ≤ l.length ∧ zAN l (k + 1) = l.take (k + 1)
     exact ⟨by omega, by omega, zKW hC he2 he h3⟩
    ·
     show l.length - (k + 1) < l.length - k
     omega
    · exact zAK ⟨rfl, (zAH (by omega)), trivial⟩ trivial ⟨rfl, trivial⟩ rfl
  ·
   replace h2 := of_decide_eq_false h2
   refine zAk ?_
   refine zAC ?_
   have hkk : k = l.length := (by omega)
   have hs : zBi l = l := by rw [zBi, ← hkk, hC, List.take_of_length_le (by omega)]
   rw [hs]
   refine zAA rfl (.m rfl rfl (.a rfl rfl .nil)) ?_
   refine zAL ?_
   exact ends [_] [100000] (.cons (.tmp rfl) .nil) (.cons (.one (.row (len := (pvT l).length) (xs := pvT l) rfl rfl) (.sl _ _ (FlatP.clean (zC0 _)))) .nil) (by decide) ⟨trivial, trivial⟩
end Go.Rl
namespace Go.Rl
open Go.Proofs Go.Proofs.Tryd
set_option maxRecDepth 1000000
set_option maxHeartbeats 2000000
theorem en67 : En Tryd.prog 67 := zAn func67 (by decide) rfl
def usrN (l : List Ent) (i : Nat) : List ByteArray := (l.take i).map fun e => e.user
theorem zJp {l : List Ent} {i : Nat} (h : i ≤ l.length) : (usrN l i).length = i := by simp [usrN]; omega
theorem zJq {l : List Ent} {i : Nat} (h : l.length ≤ i) : zBi (usrN l i) = zAs l := by rw [usrN, List.take_of_length_le h]; rfl
theorem zIb (l : List Ent) (hl : l.length ≤ 2000000) : Con Tryd.prog 49 [.one (PV.sl false 4 (pvE l))] [] [.one (.sl true 1 (pvT (zAs l)))] := by
 refine zAP func49 rfl rfl rfl rfl ?_
 have hle := zAc l
 refine zAC (zAA rfl (.a rfl rfl .nil) ?_)
 refine zAC (zAA rfl (.run [600] [] rfl (zAv rfl 600 underlying49 inf9 (nle rfl) (by decide) rfl rfl rfl .nil (by decide) rfl (by decide) rfl (by decide) rfl) (.a rfl rfl .nil)) ?_)
 refine zAC ?_
 refine zAC (zAA rfl (.m rfl rfl (.r rfl (zAa rfl rfl underlying28) (.m rfl rfl .nil))) ?_)
 refine zAM ?_
 refine zAU (zCe 600 1 rfl rfl (by decide)) ?_
 refine zAj (σ := Nat) (fun i => mk [(3, .sl 1 0 ((pvT (usrN l i)).length)), (7, .p none (.sl false 4 (pvE l))), (8, .vi ((pvE l).length : Int)), (9, .vi (i:Int))] [] [(1, 1, pvT (usrN l i))]) (fun i => i ≤ l.length) (fun i => l.length - i) 0 (by simp) (zAK ⟨rfl, rfl, rfl, (zAH (by omega)), trivial⟩ trivial ⟨(congrArg (fun x => some (1, x)) (by rfl)), trivial⟩ rfl) ?_
 rintro i hG
 replace hG : i ≤ l.length := hG
 have hlu := zAg (usrN l i)
 have hun := zJp hG
 refine zAC (zAA rfl (.r rfl (zAu rfl rfl rfl) .nil) ?_)
 refine zAC ?_
 refine zAW (t := decide ((i:Int) < ((pvE l).length : Int))) rfl (fun h1 => ?_) (fun h1 => ?_)
 ·
  replace h1 := of_decide_eq_true h1
  refine zAJ ?_
  refine zAC ?_
  refine zAM ?_
  refine zAC ?_
  obtain ⟨e, he⟩ : ∃ e, l[i]? = some e := ⟨_, List.getElem?_eq_getElem (by (have hL := zAc l; omega))⟩
  have hlte := (List.getElem?_eq_some_iff.1 he).1
  refine zAA rfl (.r rfl (zAm rfl rfl rfl underlying28 sizeOf48 rfl (by omega) (zBW he)) (.r rfl (zBA rfl rfl isAgg48 sizeOf48 (nle rfl)) (.run [] [5] rfl (zA7 rfl 5 zE5 rfl (by decide) rfl (by decide)) (.r rfl (zAS rfl rfl rfl rfl rfl sizeOf48 rfl (nle rfl)) .nil)))) ?_
  refine zAA rfl (.m rfl rfl (.r rfl (zAE rfl rfl underlying48 rfl sizeOf46 (by decide)) (.r rfl (zAE rfl rfl underlying46 rfl sizeOf9 (by decide)) (.r rfl (zAF rfl rfl rfl isAgg9 rfl) (.run [1700] [] rfl (zAv rfl 1700 underlying49 inf9 (nle rfl) (by decide) rfl rfl rfl (.cons .v .nil) (by decide) rfl (by decide) rfl (by decide) rfl) (.run [1] [] rfl (zB8 rfl 1 (ib := 1) (len := ((pvT (usrN l i)) ++ [[PV.v (.string e.user)]]).length) rfl rfl (.row (len := (pvT (usrN l i)).length) (xs := pvT (usrN l i)) rfl rfl (.inl rfl)) (.give (len := 1) (xs := [[PV.v (.string e.user)]]) rfl rfl) underlying49 (sk underlying49 rfl) inf9 rfl (by decide) (by decide) (by decide) List.length_append (by simp only [maxLen, List.length_append, List.length_cons, List.length_nil, zAg]; omega) (by simp only [maxLen, List.length_append, List.length_cons, List.length_nil, zAg]; omega)) (.a rfl rfl .nil))))))) ?_
  have hr2 : (pvT (usrN l i)) ++ [[PV.v (.string e.user)]] = pvT (usrN l (i + 1)) := by simp [pvT, usrN, List.take_add_one, he]
  have hp3 : (.sl 1 0 (((pvT (usrN l i)) ++ [[PV.v (.string e.user)]]).length) : AV) = .sl 1 0 ((pvT (usrN l (i + 1))).length) := by simp only [hr2]
  refine zAU (s' := mk [(3, .sl 1 0 ((pvT (usrN l (i + 1))).length)), (7, .p none (.sl false 4 (pvE l))), (8, .vi ((pvE l).length : Int)), (9, .vi (i:Int))] [] [(1, 1, pvT (usrN l (i + 1)))]) ?_ ?_
  · exact zAK ⟨hp3, rfl, rfl, rfl, trivial⟩ trivial ⟨(congrArg (fun x => some (1, x)) hr2), trivial⟩ rfl
  refine zAA rfl (.r rfl (zAX rfl rfl rfl (by omega)) (.m rfl rfl .nil)) ?_
  refine nxt (Q := fun _ _ => False) (z := i) (i + 1) ?_ ?_ ?_
  ·
   show (i + 1) ≤ l.length
   omega
  ·
   show l.length - (i + 1) < l.length - i
   omega
  · exact zAK ⟨rfl, rfl, rfl, (zAH (by omega)), trivial⟩ trivial ⟨rfl, trivial⟩ rfl
 ·
  replace h1 := of_decide_eq_false h1
  refine zAk ?_
  refine zAC ?_
  rw [← zJq (i := i) (by omega)]
  refine zAA rfl (.m rfl rfl (.run [1, 2100] [] rfl (zAG rfl 2100 (X := [1]) en67 rfl (.val nod) (.cons (.one (.own (len := (pvT (usrN l i)).length) (xs := pvT (usrN l i)) rfl rfl)) .nil) (by decide) (all_cons rfl all_nil) (.gone .nil) (zGh (usrN l i) (by omega)) rfl rfl (nle rfl)) (.a rfl rfl .nil))) ?_
  refine zAL ?_
  exact ends [_] [2100] (.cons (.tmp rfl) .nil) (.cons (.one (.row (len := (pvT (zBi (usrN l i))).length) (xs := pvT (zBi (usrN l i))) rfl rfl) (.sl _ _ (FlatP.clean (zC0 _)))) .nil) (by decide) trivial
end Go.Rl
namespace Go.Rl
def pvBo (l : List Bool) : List (List PV) := l.map fun b => [.v (.bool b)]
def setK (n : List Bool) (j : Int) : List Bool := if 0 ≤ j then n.set j.toNat true else n
def markPs (l : List Ent) (u : ByteArray) (ps : List Int) (n : List Bool) : List Bool := ps.foldl (fun n s => setK n (idxF (asOf u s) l)) n
def markUs (l : List Ent) (ps : List Int) (us : List ByteArray) (n : List Bool) : List Bool := us.foldl (fun n u => markPs l u ps n) n
def marksF (l : List Ent) (ps : List Int) : List Bool := markUs l ps (zAs l) (List.replicate l.length false)
end Go.Rl
namespace Go.Rl
open Go.Proofs
end Go.Rl
namespace Go.Rl
open Go.Proofs
end Go.Rl
namespace Go.Rl
open Go.Proofs
theorem zKT (a : List Ent) (hl : a.length ≤ 1000000000) : Con Tryd.prog 9 [.one (PV.sl false 4 (pvE a)), .one (PV.sl false 4 (pvE a))] [] [.one (.v (.bool true))] := by
 simpa using zGe a a hl
theorem zKB {es : List PV} (h : Fits [.str, .int .i64, .int .i64, .str] es) : ∃ e : Ent, es = e.pv ∧ (e.user.size ≤ reachBytes ∧ e.value.size ≤ reachBytes) := by
 obtain ⟨p0, e0, rfl, f0, h⟩ := zCD h
 obtain ⟨p1, e1, rfl, f1, h⟩ := zCD h
 obtain ⟨p2, e2, rfl, f2, h⟩ := zCD h
 obtain ⟨p3, e3, rfl, f3, h⟩ := zCD h
 obtain rfl := zFx h
 obtain ⟨b, rfl, hb⟩ := zJS f0
 obtain ⟨n, rfl, hn⟩ := zEv f1
 obtain ⟨k, rfl, hk⟩ := zEv f2
 obtain ⟨v, rfl, hv⟩ := zJS f3
 exact ⟨⟨b, n, k, v⟩, rfl, hb, hv⟩
theorem zI7 {ps : List PV} (h : Fits [.sl [.str, .int .i64, .int .i64, .str]] ps) : ∃ l : List Ent, ps = [.sl false 4 (pvE l)] ∧ l.length ≤ maxLen ∧ ∀ e ∈ l, e.user.size ≤ reachBytes ∧ e.value.size ≤ reachBytes := by
 obtain ⟨x1, e1, rfl, f1, z1⟩ := zCD h
 obtain rfl := zFx z1
 obtain ⟨xs, rfl, hl, hx⟩ := fit_sl f1
 obtain ⟨l, rfl, hB⟩ := zGb (f := Ent.pv) (fun es he => zKB he) hx
 exact ⟨l, rfl, by simpa using hl, hB⟩
theorem zIO : maxLen ≤ 9223372036854775807 := by decide
theorem zGN : reachBytes ≤ 9223372036854775807 := by decide
end Go.Rl
namespace Go.Rl
@[reducible] def modU : IntKind → Nat
 | .u8 => 256
 | .u16 => 65536
 | .u32 => 4294967296
 | _ => 18446744073709551616
theorem zFo {k : IntKind} (hs : k.signed = false) : modU k = 2 ^ k.bits := by cases k <;> simp_all [IntKind.signed, IntKind.bits]
theorem zJm {k : IntKind} (hs : k.signed = false) (x : Int) : k.wrap x = x % (modU k : Nat) := by
 rw [zFo hs]
 cases k <;> simp_all [IntKind.signed, IntKind.wrap, IntKind.bits]
theorem zB7 {k : IntKind} (hs : k.signed = false) (a : Nat) : k.wrap (a : Int) = ((a % modU k : Nat) : Int) := by rw [zJm hs]; omega
theorem zDS (w a : Nat) : BitVec.ofInt w (a : Int) = BitVec.ofNat w a := by simp
theorem zH5 {k : IntKind} (hs : k.signed = false) (a b : Nat) : zC9 .xor k (a : Int) (b : Int) = (((a ^^^ b) % modU k : Nat) : Int) := by
 simp only [zC9, zDS, BitVec.toNat_xor, BitVec.toNat_ofNat]
 rw [zB7 hs, zFo hs, ← Nat.xor_mod_two_pow, Nat.mod_mod]
theorem zKc {k : IntKind} (hs : k.signed = false) (a b : Nat) : zC9 .and k (a : Int) (b : Int) = (((a &&& b) % modU k : Nat) : Int) := by
 simp only [zC9, zDS, BitVec.toNat_and, BitVec.toNat_ofNat]
 rw [zB7 hs, zFo hs, ← Nat.and_mod_two_pow, Nat.mod_mod]
theorem bits_or {k : IntKind} (hs : k.signed = false) (a b : Nat) : zC9 .or k (a : Int) (b : Int) = (((a ||| b) % modU k : Nat) : Int) := by
 simp only [zC9, zDS, BitVec.toNat_or, BitVec.toNat_ofNat]
 rw [zB7 hs, zFo hs, ← Nat.or_mod_two_pow, Nat.mod_mod]
section
variable {γ : Gho} {P : Program} {n : Nat} {o : Oper} {M B : List Nat} {s : St} {xt yt : TypeId} {x y : Operand} {d d' : Option Nat} {k k' : IntKind}
theorem zBY (w : Nat) (hw : modU k = w) (a b : Nat) (hs : k.signed = false) (ho : o.op = .binOp .xor xt x y yt) (hx : s.ev x = .p d (.v (.int k (a : Int)))) (hy : s.ev y = .p d' (.v (.int k (b : Int)))) : StepD γ P n o M B s { put := (.p none (.v (.int k (((a ^^^ b) % w : Nat) : Int)))) } := by
 subst hw
 rw [← zH5 hs]; exact zFb ho (.inr (.inr (.inl rfl))) hx hy
theorem zFc (w : Nat) (hw : modU k = w) (a b : Nat) (hs : k.signed = false) (ho : o.op = .binOp .and xt x y yt) (hx : s.ev x = .p d (.v (.int k (a : Int)))) (hy : s.ev y = .p d' (.v (.int k (b : Int)))) : StepD γ P n o M B s { put := (.p none (.v (.int k (((a &&& b) % w : Nat) : Int)))) } := by
 subst hw
 rw [← zKc hs]; exact zFb ho (.inl rfl) hx hy
theorem zEa (w : Nat) (hw : modU k = w) (a b : Nat) (hs : k.signed = false) (ho : o.op = .binOp .or xt x y yt) (hx : s.ev x = .p d (.v (.int k (a : Int)))) (hy : s.ev y = .p d' (.v (.int k (b : Int)))) : StepD γ P n o M B s { put := (.p none (.v (.int k (((a ||| b) % w : Nat) : Int)))) } := by
 subst hw
 rw [← bits_or hs]; exact zFb ho (.inr (.inl rfl)) hx hy
theorem zD7 (w : Nat) (hw : modU k = w) (a b : Nat) (hs : k.signed = false) (ho : o.op = .binOp .add xt x y yt) (hx : s.ev x = .p d (.v (.int k (a : Int)))) (hy : s.ev y = .p d' (.v (.int k (b : Int)))) : StepD γ P n o M B s { put := (.p none (.v (.int k (((a + b) % w : Nat) : Int)))) } := by
 subst hw
 have h := zKh (γ := γ) (P := P) (n := n) (M := M) (B := B) ho hx hy
 rw [show ((a : Int) + (b : Int)) = ((a + b : Nat) : Int) from (Int.natCast_add a b).symm, zB7 hs] at h
 exact h
theorem zCX (w : Nat) (hw : modU k = w) (a b : Nat) (hs : k.signed = false) (ho : o.op = .binOp .mul xt x y yt) (hx : s.ev x = .p d (.v (.int k (a : Int)))) (hy : s.ev y = .p d' (.v (.int k (b : Int)))) : StepD γ P n o M B s { put := (.p none (.v (.int k (((a * b) % w : Nat) : Int)))) } := by
 subst hw
 have h := zKg (γ := γ) (P := P) (n := n) (M := M) (B := B) ho hx hy
 rw [← Int.natCast_mul, zB7 hs] at h
 exact h
theorem zDC (w : Nat) (hw : modU k = w) (a b : Nat) (hs : k.signed = false) (ho : o.op = .binOp .quo xt x y yt) (hx : s.ev x = .p d (.v (.int k (a : Int)))) (hy : s.ev y = .p d' (.v (.int k (b : Int)))) (hb : 0 < b) : StepD γ P n o M B s { put := (.p none (.v (.int k (((a / b) % w : Nat) : Int)))) } := by
 subst hw
 rw [← zB7 hs, Int.natCast_ediv, ← Int.tdiv_eq_ediv_of_nonneg (Int.natCast_nonneg a)]; exact zEZ ho hx hy (by omega)
theorem zBx (a b : Nat) (ho : o.op = .binOp .rem xt x y yt) (hx : s.ev x = .p d (.v (.int k (a : Int)))) (hy : s.ev y = .p d' (.v (.int k (b : Int)))) (hb : 0 < b) : StepD γ P n o M B s { put := (.p none (.v (.int k ((a % b : Nat) : Int)))) } := by
 have : ((a % b : Nat) : Int) = (a : Int).tmod (b : Int) := by rw [Int.tmod_eq_emod_of_nonneg (Int.natCast_nonneg a)]; exact Int.natCast_emod a b
 rw [this]; exact zIn ho hx hy (by omega)
theorem zFZ (w : Nat) (hw : modU k = w) (a c : Nat) (hs : k.signed = false) (ho : o.op = .binOp .shl xt x y yt) (hx : s.ev x = .p d (.v (.int k (a : Int)))) (hy : s.ev y = .p d' (.v (.int k' (c : Int)))) (hc : c ≤ k.bits) : StepD γ P n o M B s { put := (.p none (.v (.int k (((a * 2 ^ c) % w : Nat) : Int)))) } := by
 subst hw
 have h := st_shl (γ := γ) (P := P) (n := n) (M := M) (B := B) ho hx hy (Int.natCast_nonneg c)
 rw [Int.toNat_natCast, Nat.min_eq_left hc, show ((a : Int) * 2 ^ c) = ((a * 2 ^ c : Nat) : Int) by push_cast; rfl, zB7 hs] at h
 exact h
theorem zBK (a c : Nat) (ho : o.op = .binOp .shr xt x y yt) (hx : s.ev x = .p d (.v (.int k (a : Int)))) (hy : s.ev y = .p d' (.v (.int k' (c : Int)))) (hc : c ≤ k.bits) : StepD γ P n o M B s { put := (.p none (.v (.int k ((a / 2 ^ c : Nat) : Int)))) } := by
 have h := st_shr (γ := γ) (P := P) (n := n) (M := M) (B := B) ho hx hy (Int.natCast_nonneg c)
 rw [Int.toNat_natCast, Nat.min_eq_left hc, show ((a : Int).fdiv (2 ^ c)) = ((a / 2 ^ c : Nat) : Int) by rw [Int.fdiv_eq_ediv_of_nonneg _ (by exact Int.le_of_lt (Int.pow_pos (by decide)))]; push_cast; rfl] at h
 exact h
theorem st_comU (w : Nat) (hw : modU k = w) (a : Nat) (hs : k.signed = false) (ho : o.op = .unOp .xor xt x) (hx : s.ev x = .p d (.v (.int k (a : Int)))) : StepD γ P n o M B s { put := (.p none (.v (.int k ((((w - 1) ^^^ a) % w : Nat) : Int)))) } := by
 subst hw
 rw [← zH5 hs]
 have h := st_com (γ := γ) (P := P) (n := n) (M := M) (B := B) ho hx
 have hm : ((modU k - 1 : Nat) : Int) = if k.signed then -1 else k.max := by cases k <;> simp_all [IntKind.signed, IntKind.max, IntKind.bits]
 rw [hm]; exact h
theorem zAe (w : Nat) (hw : modU k' = w) (a : Nat) {t u : TypeId} {ds : TypeDesc} (hs : k'.signed = false) (ho : o.op = .convert t u x) (hx : s.ev x = .p d (.v (.int k (a : Int)))) (ht : P.underlying t = some ds) (hu : P.underlying u = some (.int k')) : StepD γ P n o M B s { put := .p none (.v (.int k' ((a % w : Nat) : Int))) } := by
 subst hw
 rw [← zB7 hs]; exact zDD ho hx ht hu
end
end Go.Rl
namespace Go.Proofs
open Go.RowKit
def Bw.Reads (Bs : Nat) (zs : List Int) (W : World) : Prop :=
 ((∃ A c, W.cell? ⟨Bs, 0, none⟩ = some (.slice A 0 c)) ∧ zs = []) ∨ ∃ b off cap, W.cell? ⟨Bs, 0, none⟩ = some (.slice (some ⟨b, off, none⟩) zs.length cap) ∧ ∀ (j : Nat) (z : Int), zs[j]? = some z → W.cell? ⟨b, off + j, none⟩ = some (.int .i64 z)
def Bw.enc (zs : List Int) (k : Fin zs.length) : Array Value := #[.int .i64 (k.1 : Int), .int .i64 (zs[k.1]'k.2)]
def Bw.upto (zs : List Int) : Nat → List (Fin zs.length)
 | 0 => []
 | k + 1 => Bw.upto zs k ++ (if h : zs.length - 1 - k < zs.length then [⟨zs.length - 1 - k, h⟩] else [])
def Bw.Contract (P : Program) (gf : Nat) : Prop :=
 ∀ (F : Fence) (n : Nat), F.fn gf → F.round = none → 1 ≤ n → ∀ (l Bs : Nat) (zs : List Int), zs.length ≤ 1000000000 → ∀ (J Jx : List (Fin zs.length) → World → Prop),
  (∀ pre x W, J pre W → pre.length < zs.length → YieldAt F (n - 1) P l (Bw.enc zs x) W fun e W' =>
   (e = .returned (.bool true) ∧ J (pre ++ [x]) W' ∧ (Bw.Reads Bs zs W → Bw.Reads Bs zs W')) ∨ (e = .returned (.bool false) ∧ Jx (pre ++ [x]) W')) →
  ∀ W : World, Bw.Reads Bs zs W → J [] W →
   CallsIn F n P gf #[.func (.yield l) #[] #[], .pointer (some ⟨Bs, 0, none⟩)] W fun e W' => (∃ v, e = .returned v) ∧
    ((∃ ys, ys = Bw.upto zs zs.length ∧ J ys W') ∨ (∃ pre, True ∧ Jx pre W'))
theorem Bw.Reads.below {Bs : Nat} {zs : List Int} {A B : World} {n₀ : Nat} (h : Below n₀ A B) (hn : A.heap.size ≤ n₀) (hr : Bw.Reads Bs zs A) : Bw.Reads Bs zs B := by
 have old : ∀ (k j : Nat) v, A.cell? ⟨k, j, none⟩ = some v → B.cell? ⟨k, j, none⟩ = some v := fun k j v hv => by
  have hk : k < A.heap.size := by
   cases e : A.heap[k]? with
   | none => simp [World.cell?, e] at hv
   | some o => exact (Array.getElem?_eq_some_iff.1 e).1
  exact (h.cell (p := ⟨k, j, none⟩) (Nat.lt_of_lt_of_le hk hn)).trans hv
 rcases hr with ⟨⟨A, c, h1⟩, h2⟩ | ⟨b, off, cap, h1, h2⟩
 · exact .inl ⟨⟨A, c, old _ _ _ h1⟩, h2⟩
 · exact .inr ⟨b, off, cap, old _ _ _ h1, fun j z hz => old _ _ _ (h2 j z hz)⟩
end Go.Proofs
namespace Go.Rl
open Go.Proofs
def older (out : List Ent) (e : Ent) : Bool := match out with
 | [] => false
 | o :: _ => decide (o.user = e.user)
def cstep (bot : Bool) (out : List Ent) (e : Ent) : List Ent := if (bot && decide (e.kind = 0) && !older out e) = true then out else e :: out
def cplace (l : List Ent) (bot : Bool) (out : List Ent) (z : Int) : List Ent := match l[z.toNat]? with
 | some e => cstep bot out e
 | none => out
def compP (l : List Ent) (bot : Bool) (zs : List Int) (pre : List (Fin zs.length)) : List Ent := pre.foldl (fun out x => cplace l bot out (zs[x.1]'x.2)) []
def compU (l : List Ent) (bot : Bool) (zs : List Int) (k : Nat) : List Ent := compP l bot zs (Bw.upto zs k)
def compactedF (l : List Ent) (s : List Int) (bot : Bool) : List Ent := if zBD l = true ∧ zIt s = true then compU l bot (zKE l (zHI s) l.length) (zKE l (zHI s) l.length).length else []
def lastU (out : List Ent) : ByteArray := match out with
 | [] => ⟨#[]⟩
 | o :: _ => o.user
def anyE (out : List Ent) : Bool := match out with
 | [] => false
 | _ :: _ => true
def pvE_rev (l : List Ent) : List (List PV) := pvE l.reverse
def Swapped (l m : List Ent) (i : Nat) : Prop := m.length = l.length ∧ ∀ k, k < l.length → m[k]? = if k < i ∨ l.length - i ≤ k then l[l.length - 1 - k]? else l[k]?
end Go.Rl
namespace Go.Rl
def pvRd (x : Value × Nat) : List (List PV) := [[.v x.1, .v (.int .i64 x.2)]]
def zKD (bs : List Nat) (p : Nat) : Nat := bs.getD p 0
def zJA (bs : List Nat) (p : Nat) : Nat := if p < bs.length then p + 1 else p
def zB5 (bs : List Nat) (p n : Nat) : Nat := if n ≤ 1 then 0 else if n ≤ 256 then zKD bs p % n else (zKD bs p * 256 + zKD bs (zJA bs p)) % n
def zBX (bs : List Nat) (p n : Nat) : Nat := if n ≤ 1 then p else if n ≤ 256 then zJA bs p else zJA bs (zJA bs p)
def zJn (x : Int) (v : Nat) : Int := zC9 .or .u64 (IntKind.u64.wrap (x * 2 ^ min (8 : Int).toNat IntKind.u64.bits)) (IntKind.u64.wrap (v : Int))
def wordF (bs : List Nat) : Nat → Int → Nat → Int × Nat
 | 0, x, p => (x, p)
 | n + 1, x, p => wordF bs n (zJn x (zKD bs p)) (zJA bs p)
def wordV (bs : List Nat) (p : Nat) : Int := (wordF bs 8 0 p).1
def wordP (bs : List Nat) (p : Nat) : Nat := (wordF bs 8 0 p).2
def nearV (bs : List Nat) (p : Nat) (low high : Int) : Int :=
 if zB5 bs p 8 = 0 then low else if zB5 bs p 8 = 1 then high else if high < low then low
 else IntKind.i64.wrap (low + IntKind.i64.wrap (((wordV bs (zBX bs p 8)).fdiv (2 ^ min (1 : Int).toNat IntKind.u64.bits)).tmod (IntKind.u64.wrap (high - low + 1))))
def nearP (bs : List Nat) (p : Nat) (low high : Int) : Nat :=
 if zB5 bs p 8 = 0 then zBX bs p 8 else if zB5 bs p 8 = 1 then zBX bs p 8 else if high < low then zBX bs p 8 else wordP bs (zBX bs p 8)
def zI9 (bs : List Nat) (p n : Nat) : Bool := decide (zB5 bs p n = n - 1)
def offL (low high : Int) : List Int := [low - 1, high + 1, -9223372036854775808, 9223372036854775807]
def offV (bs : List Nat) (p : Nat) (low high : Int) : Int :=
 if zI9 bs p 24 = true then (offL low high).getD (zB5 bs (zBX bs p 24) 4) 0 else nearV bs (zBX bs p 24) low high
def offP (bs : List Nat) (p : Nat) (low high : Int) : Nat :=
 if zI9 bs p 24 = true then zBX bs (zBX bs p 24) 4 else nearP bs (zBX bs p 24) low high
theorem getD_some {α : Type} {l : List α} {k : Nat} {d : α} (h : k < l.length) : l[k]? = some (l.getD k d) := by
 rw [List.getD_eq_getElem?_getD, List.getElem?_eq_getElem h]
 rfl
def usersL : List ByteArray := [⟨#[97]⟩, ⟨#[98]⟩, ⟨#[97, 98]⟩, ⟨#[97, 98, 99]⟩, ⟨#[97, 98, 100]⟩, ⟨#[107, 101, 121]⟩, ⟨#[107, 101, 121, 49]⟩, ⟨#[107, 101, 121, 50]⟩, ⟨#[122, 122]⟩, ⟨#[97, 0]⟩]
def userV (bs : List Nat) (p : Nat) : ByteArray := usersL.getD (zB5 bs p 10) ⟨#[]⟩
def userP (bs : List Nat) (p : Nat) : Nat := zBX bs p 10
end Go.Rl
namespace Go.Rl
section
variable {X : List (List PV)} {k : Nat} {z : List PV}
abbrev delL (X : List (List PV)) (k : Nat) : Nat := k + (X.length - (k + 1))
end
def cntF {α : Type} (p : α → Bool) (l : List α) : Nat := (l.takeWhile p).length
def MonoP {α : Type} (p : α → Bool) (l : List α) : Prop := ∀ (i j : Nat) x y, i ≤ j → l[i]? = some x → l[j]? = some y → p y = true → p x = true
def Halves {α : Type} (p : α → Bool) (l : List α) (i j : Nat) : Prop := (∀ (k : Nat) x, k < i → l[k]? = some x → p x = true) ∧ ∀ (k : Nat) x, j ≤ k → l[k]? = some x → p x = false
end Go.Rl
namespace Go.Rl
theorem zG5 (ns : List Int) : ∀ r : ByteArray, (ns.foldl (fun r n => r.push (UInt8.ofNat n.toNat)) r).size = r.size + ns.length := by
 induction ns with
 | nil => intro r; simp
 | cons n ns ih => intro r; rw [List.foldl_cons, ih, ByteArray.size_push, List.length_cons]; omega
theorem zGD (ns : List Int) : (zCc ns).size = ns.length := by
 have := zG5 ns ByteArray.empty
 simpa [zCc] using this
def pvU (l : List Int) : List (List PV) := l.map fun n => [.v (.int .u8 n)]
def zKz (bs : List Nat) : Nat → List Int → Nat → List Int × Nat
 | 0, l, p => (l, p)
 | n + 1, l, p => zKz bs n (l ++ [IntKind.u8.wrap ((zB5 bs p 256 : Nat) : Int)]) (zBX bs p 256)
def zKy (bs : List Nat) (p most : Nat) : List Int × Nat := zKz bs (zB5 bs p (most + 1)) [] (zBX bs p (most + 1))
def bytesV (bs : List Nat) (p most : Nat) : ByteArray := zCc (zKy bs p most).1
def bytesP (bs : List Nat) (p most : Nat) : Nat := (zKy bs p most).2
def valuesL : List ByteArray := [⟨#[]⟩, ⟨#[49]⟩, ⟨#[50]⟩, ⟨#[118, 97, 108, 117, 101]⟩, ⟨#[118, 118]⟩]
def valueV (bs : List Nat) (p : Nat) : ByteArray := valuesL.getD (zB5 bs p 5) ⟨#[]⟩
def key0 (bs : List Nat) (p : Nat) : Ent := ⟨userV bs p, nearV bs (userP bs p) 0 12, ((zB5 bs (nearP bs (userP bs p) 0 12) 2 : Nat) : Int), ⟨#[]⟩⟩
def zEA (bs : List Nat) (p : Nat) : Nat := zBX bs (nearP bs (userP bs p) 0 12) 2
def keyV (bs : List Nat) (p : Nat) : Ent :=
 if zB5 bs (zEA bs p) 24 = 0 then { key0 bs p with seq := offV bs (zBX bs (zEA bs p) 24) 0 1000000000000 }
 else if zB5 bs (zEA bs p) 24 = 1 then { key0 bs p with kind := offV bs (zBX bs (zEA bs p) 24) 0 1 }
 else if zB5 bs (zEA bs p) 24 = 2 then { key0 bs p with user := bytesV bs (zBX bs (zEA bs p) 24) 45 }
 else key0 bs p
def keyP (bs : List Nat) (p : Nat) : Nat :=
 if zB5 bs (zEA bs p) 24 = 0 then offP bs (zBX bs (zEA bs p) 24) 0 1000000000000
 else if zB5 bs (zEA bs p) 24 = 1 then offP bs (zBX bs (zEA bs p) 24) 0 1
 else if zB5 bs (zEA bs p) 24 = 2 then bytesP bs (zBX bs (zEA bs p) 24) 45
 else zBX bs (zEA bs p) 24
def ent0 (bs : List Nat) (p : Nat) : Ent := { keyV bs p with value := valueV bs (keyP bs p) }
def ent0P (bs : List Nat) (p : Nat) : Nat := zBX bs (keyP bs p) 5
def zKw (bs : List Nat) (p : Nat) : Ent := if (ent0 bs p).kind = 0 then (if zI9 bs (ent0P bs p) 12 = true then ent0 bs p else { ent0 bs p with value := ⟨#[]⟩ }) else ent0 bs p
def zKx (bs : List Nat) (p : Nat) : Nat := if (ent0 bs p).kind = 0 then zBX bs (ent0P bs p) 12 else ent0P bs p
def zGy (out : List Ent) (e : Ent) : Nat := cntF (fun x => decide (kcmp x e < 0)) out
def sameKey (a b : Ent) : Bool := decide (a.user = b.user ∧ a.seq = b.seq ∧ a.kind = b.kind)
def entIns (out : List Ent) (e : Ent) : List Ent :=
 if zBV e = true then (match out[zGy out e]? with
  | some x => if (x.user, x.seq, x.kind) = (e.user, e.seq, e.kind) then out else out.take (zGy out e) ++ [e] ++ out.drop (zGy out e)
  | none => out.take (zGy out e) ++ [e] ++ out.drop (zGy out e)) else out
def zJU (bs : List Nat) : Nat → List Ent × Nat → List Ent × Nat
 | 0, x => x
 | i + 1, x => zJU bs i (entIns x.1 (zKw bs x.2), zKx bs x.2)
def entBase (bs : List Nat) (p most : Nat) : List Ent × Nat := zJU bs (zB5 bs p (most + 1)) ([], zBX bs p (most + 1))
def entsR (bs : List Nat) (p most : Nat) : List Ent × Nat :=
 let x := entBase bs p most
 if zI9 bs x.2 24 = true then (x.1 ++ [zKw bs (zBX bs x.2 24)], zKx bs (zBX bs x.2 24)) else (x.1, zBX bs x.2 24)
abbrev SnSt := List Int × Int × Nat
def snLast (out : List Int) (n : Int) : Bool := match out[out.length - 1]? with
 | some x => decide (x < n)
 | none => true
def snStep (bs : List Nat) (x : SnSt) : SnSt :=
 let n := x.2.1 + ((zB5 bs x.2.2 6 : Nat) : Int)
 let q := zBX bs x.2.2 6
 if snLast x.1 n = true then (x.1 ++ [n], n, q)
 else if zI9 bs q 12 = true then (x.1 ++ [n], n, zBX bs q 12) else (x.1, n, zBX bs q 12)
def zKk (bs : List Nat) : Nat → SnSt → SnSt
 | 0, x => x
 | i + 1, x => zKk bs i (snStep bs x)
def zKj (bs : List Nat) (p : Nat) : SnSt := zKk bs (zB5 bs p 4) ([], 0, zBX bs p 4)
def snapsV (bs : List Nat) (p : Nat) : List Int := (zKj bs p).1
def snapsP (bs : List Nat) (p : Nat) : Nat := (zKj bs p).2.2
end Go.Rl
namespace Go.Rl
def putL (n : Nat) : List Int := if n < 128 then [(n : Int)] else ((n % 128 + 128 : Nat) : Int) :: putL (n / 128)
termination_by n
decreasing_by omega
theorem zHG {n : Nat} (h : n < 128) : putL n = [(n : Int)] := by rw [putL, if_pos h]
theorem zI1 {n : Nat} (h : ¬ n < 128) : putL n = ((n % 128 + 128 : Nat) : Int) :: putL (n / 128) := by rw [putL, if_neg h]
def putV (n : Nat) : ByteArray := zCc (putL n)
set_option maxRecDepth 100000 in
theorem or_128 (m : Nat) : ((m % 256) ||| 128) % 256 = m % 128 + 128 := by
 have key : ∀ r : Fin 256, (r.1 ||| 128) % 256 = r.1 % 128 + 128 := by decide
 have := key ⟨m % 256, Nat.mod_lt _ (by decide)⟩
 simp only at this
 omega
theorem zFn : ∀ (k n : Nat), n < 128 ^ (k + 1) → (putL n).length ≤ k + 1
 | 0, n, h => by rw [zHG (by simpa using h)]; simp
 | k + 1, n, h => by
  by_cases hn : n < 128
  · rw [zHG hn]; simp
  ·
   rw [zI1 hn]
   have := zFn k (n / 128) (by rw [Nat.pow_succ] at h; exact Nat.div_lt_of_lt_mul (by rw [Nat.mul_comm]; exact h))
   simp only [List.length_cons]
   omega
theorem zAl {n : Nat} (h : n < 18446744073709551616) : (putV n).size ≤ 10 := by
 rw [putV, zGD]
 exact zFn 9 n (Nat.lt_of_lt_of_le h (by decide))
def putX (s : ByteArray) : ByteArray := putV s.size ++ s
def fixL (x : Nat) : List Int := [((x % 256 : Nat) : Int), (((x / 2 ^ 8) % 256 : Nat) : Int), (((x / 2 ^ 16) % 256 : Nat) : Int), (((x / 2 ^ 24) % 256 : Nat) : Int)]
def fixV (x : Nat) : ByteArray := zCc (fixL x)
theorem zAQ (x : Nat) : (fixV x).size = 4 := by rw [fixV, zGD]; rfl
def crcB (x : Nat) : Nat := if x % 2 = 1 then ((x / 2) ^^^ 2197175160) % 4294967296 else x / 2
def crcI : Nat → Nat → Nat
 | 0, x => x
 | k + 1, x => crcB (crcI k x)
def crcS (x b : Nat) : Nat := crcI 8 ((x ^^^ (b % 4294967296)) % 4294967296)
theorem crcB_lt {x : Nat} (h : x < 4294967296) : crcB x < 4294967296 := by
 unfold crcB
 split <;> omega
theorem zF2 {x : Nat} (h : x < 4294967296) : ∀ k, crcI k x < 4294967296
 | 0 => h
 | k + 1 => crcB_lt (zF2 h k)
theorem crcS_lt (x b : Nat) : crcS x b < 4294967296 := zF2 (Nat.mod_lt _ (by decide)) 8
theorem zFS {α β : Type} {f : α → β → α} {a : α} {l : List β} {i : Nat} {b : β} (h : l[i]? = some b) : (l.take (i + 1)).foldl f a = f ((l.take i).foldl f a) b := by
 rw [List.take_add_one, h]
 simp [List.foldl_append]
def crcT (s : ByteArray) (i : Nat) : Nat := (s.data.toList.take i).foldl (fun x b => crcS x b.toNat) 4294967295
theorem zEx {s : ByteArray} {i : Nat} {b : UInt8} (h : s.data.toList[i]? = some b) : crcT s (i + 1) = crcS (crcT s i) b.toNat := zFS (f := fun (x : Nat) (b : UInt8) => crcS x b.toNat) h
theorem zHQ (s : ByteArray) : ∀ i, crcT s i < 4294967296
 | 0 => by simp [crcT]
 | i + 1 => by
  cases h : s.data.toList[i]? with
  | none =>
   have : crcT s (i + 1) = crcT s i := by unfold crcT; rw [List.take_add_one, h]; simp
   rw [this]; exact zHQ s i
  | some b => rw [zEx h]; exact crcS_lt _ _
def crcF (s : ByteArray) : Nat := (crcT s s.size ^^^ 4294967295) % 4294967296
abbrev M64 : Nat := 18446744073709551616
def zJM (h b : Nat) : Nat := (((h ^^^ (b % 18446744073709551616)) % 18446744073709551616) * 1099511628211) % 18446744073709551616
def zKI (seed : Nat) : Nat := (14695981039346656037 ^^^ (((seed % 18446744073709551616) * 11400714819323198485) % 18446744073709551616)) % 18446744073709551616
def zBc (seed : Nat) (s : ByteArray) (i : Nat) : Nat := (s.data.toList.take i).foldl (fun h b => zJM h b.toNat) (zKI seed)
theorem zFP {seed : Nat} {s : ByteArray} {i : Nat} {b : UInt8} (h : s.data.toList[i]? = some b) : zBc seed s (i + 1) = zJM (zBc seed s i) b.toNat := zFS (f := fun (x : Nat) (b : UInt8) => zJM x b.toNat) h
def mixA (h : Nat) : Nat := (((h ^^^ (h / 2 ^ 30)) % 18446744073709551616) * 13787848793156543929) % 18446744073709551616
def mixB (h : Nat) : Nat := (((h ^^^ (h / 2 ^ 27)) % 18446744073709551616) * 10723151780598845931) % 18446744073709551616
def mixC (h : Nat) : Nat := (h ^^^ (h / 2 ^ 31)) % 18446744073709551616
def zAh (seed : Nat) (s : ByteArray) : Nat := mixC (mixB (mixA (zBc seed s s.size)))
theorem zHw (seed : Nat) (s : ByteArray) : zAh seed s < 18446744073709551616 := Nat.mod_lt _ (by decide)
def zCP : List UInt8 → List UInt8 → Nat
 | a :: l, b :: m => if a = b then zCP l m + 1 else 0
 | _, _ => 0
def zA0 (a b : ByteArray) : Nat := zCP a.data.toList b.data.toList
theorem zFE : ∀ l m : List UInt8, zCP l m ≤ l.length ∧ zCP l m ≤ m.length
 | [], m => by simp [zCP]
 | a :: l, [] => by simp [zCP]
 | a :: l, b :: m => by
  have := zFE l m
  unfold zCP
  split <;> simp <;> omega
theorem zFF : ∀ {l m : List UInt8} {n : Nat}, (∀ j x y, j < n → l[j]? = some x → m[j]? = some y → x = y) → n ≤ l.length → n ≤ m.length → (n = l.length ∨ n = m.length ∨ ∃ x y, l[n]? = some x ∧ m[n]? = some y ∧ x ≠ y) → zCP l m = n
 | [], m, n, _, h1, _, _ => by simp at h1; simp [zCP, h1]
 | a :: l, [], n, _, _, h2, _ => by simp at h2; simp [zCP, h2]
 | a :: l, b :: m, 0, _, _, _, h => by
  rcases h with h | h | ⟨x, y, hx, hy, hn⟩
  · simp at h
  · simp at h
  ·
   simp at hx hy
   subst hx hy
   simp [zCP, hn]
 | a :: l, b :: m, n + 1, hG, h1, h2, h => by
  have h0 := hG 0 a b (by omega) rfl rfl
  have := zFF (l := l) (m := m) (n := n) (fun j x y hj hx hy => hG (j + 1) x y (by omega) (by simpa using hx) (by simpa using hy)) (by simpa using h1) (by simpa using h2) (by
   rcases h with h | h | ⟨x, y, hx, hy, hn⟩
   · exact .inl (by simpa using h)
   · exact .inr (.inl (by simpa using h))
   · exact .inr (.inr ⟨x, y, by simpa using hx, by simpa using hy, hn⟩))
  simp [zCP, h0, this]
end Go.Rl
namespace Go.Rl
theorem zEO (a b c : ByteArray) : a ++ b ++ c = a ++ (b ++ c) := ByteArray.append_assoc
theorem zAY (a b : ByteArray) : (a ++ b).size = a.size + b.size := ByteArray.size_append
theorem ba_all (s : ByteArray) : s.extract 0 s.size = s := by simp
theorem zDZ {s : ByteArray} {i : Nat} {c : UInt8} (h : s[i]? = some c) : s.data.toList[i]? = some c := by
 have := (getElem?_eq_some_iff.1 h)
 obtain ⟨hi, hc⟩ := this
 rw [List.getElem?_eq_some_iff]
 exact ⟨hi, hc⟩
theorem zEN (s : ByteArray) : s.data.toList.length = s.size := by simp
def keyN (e : Ent) : Nat := (2 * e.seq + e.kind).toNat
def keyT (e : Ent) : ByteArray := e.user ++ fixV (keyN e % 4294967296) ++ fixV ((keyN e / 2 ^ 32) % 4294967296)
structure Blk where
 out : ByteArray
 anew : ByteArray
 ahead : ByteArray
 many : Nat
def blkS (ev i : Nat) (b : Blk) (e : Ent) : Blk :=
 if i % ev = 0 then ⟨b.out ++ putV 0 ++ putX (keyT e) ++ putX e.value, b.anew ++ fixV (b.out.size % 4294967296), keyT e, b.many + 1⟩
 else ⟨b.out ++ putV (zA0 b.ahead (keyT e)) ++ putX ((keyT e).extract (zA0 b.ahead (keyT e)) (keyT e).size) ++ putX e.value, b.anew, keyT e, b.many⟩
def blkN (l : List Ent) (ev : Nat) : Nat → Blk
 | 0 => ⟨⟨#[]⟩, ⟨#[]⟩, ⟨#[]⟩, 0⟩
 | i + 1 => match l[i]? with
  | some e => blkS ev i (blkN l ev i) e
  | none => blkN l ev i
theorem zCG {l : List Ent} {ev i : Nat} {e : Ent} (h : l[i]? = some e) : blkN l ev (i + 1) = blkS ev i (blkN l ev i) e := by simp [blkN, h]
def blkF (l : List Ent) (ev : Nat) : ByteArray := (blkN l ev l.length).out ++ (blkN l ev l.length).anew ++ fixV (blkN l ev l.length).many ++ fixV (ev % 4294967296)
theorem zGt {l : List Ent} {ev : Nat} : ∀ {i k : Nat}, i ≤ k → blkN (l.take k) ev i = blkN l ev i
 | 0, _, _ => rfl
 | i + 1, k, h => by
  have e1 : (l.take k)[i]? = l[i]? := by rw [List.getElem?_take, if_pos (by omega)]
  simp only [blkN, e1]
  rw [zGt (by omega)]
end Go.Rl
namespace Go.Rl
def zCw (h : Nat) : Nat := ((h / 2 ^ 33) ||| ((h * 2 ^ 31) % 18446744073709551616)) % 18446744073709551616
def bloomP (u : ByteArray) (i m : Nat) : Nat := ((zAh 0 u + (i * zCw (zAh 0 u)) % 18446744073709551616) % 18446744073709551616) % m
def zKa (bits : List Int) (p : Nat) : List Int := match bits[p / 8]? with
 | some b => bits.set (p / 8) ((((b.toNat ||| ((1 * 2 ^ (p % 8)) % 256)) % 256 : Nat) : Int))
 | none => bits
def zK0 (bits : List Int) (u : ByteArray) (m : Nat) : Nat → List Int
 | 0 => bits
 | k + 1 => zKa (zK0 bits u m k) (bloomP u k m)
def zK1 (us : List ByteArray) (m n : Nat) (k : Nat) : Nat → List Int
 | 0 => List.replicate n 0
 | i + 1 => match us[i]? with
  | some u => zK0 (zK1 us m n k i) u m k
  | none => zK1 us m n k i
def zBd (x : Nat) : Nat → Nat
 | 0 => 0
 | k + 1 => if x % 2 = 0 then zBd (x / 2) k + 1 else 0
theorem zIY (x : Nat) : ∀ k, zBd x k ≤ k := by
 intro k
 induction k generalizing x with
 | zero => exact Nat.le_refl 0
 | succ k ih =>
  unfold zBd
  have := ih (x / 2)
  split <;> omega
def zBE (u : ByteArray) : Nat := zBd (zAh 7 u / 64) 57 + 1
def zCC (u : ByteArray) : Nat := zAh 7 u % 64
end Go.Rl
namespace Go.Rl
theorem zGz {a b : Nat} (ha : a % 2 = 1) (hb : b % 2 = 1) : (a ^^^ b) % 2 = 0 := by
 have := Nat.xor_mod_two_pow (a := a) (b := b) (n := 1)
 simp only [Nat.pow_one] at this
 rw [this, ha, hb]
 rfl
def zKm (m at_ row sum : Nat) (B S : List Nat) : Option (List Nat × List Nat) :=
 if h : at_ < m then
  if h0 : row = 0 then (if sum = 0 then some (B, S) else none)
  else if h1 : row % 2 = 0 then zKm m (at_ + 1) (row / 2) sum B S
  else if B.getD at_ 0 = 0 then some (B.set at_ row, S.set at_ sum)
  else if h2 : B.getD at_ 0 % 2 = 0 then none
  else zKm m at_ (row ^^^ B.getD at_ 0) (sum ^^^ S.getD at_ 0) B S
 else if row = 0 ∧ sum = 0 then some (B, S) else none
termination_by 2 * (m - at_) + row % 2
decreasing_by
 · omega
 ·
  have := zGz (a := row) (b := B.getD at_ 0) (by omega) (by omega)
  omega
end Go.Rl
namespace Go.Rl
open Go.Proofs
theorem inf5 : (Tryd.prog.info? 5).map (fun i => (i.zero, i.size, i.bytes)) = some (some (.int .u8 0), 1, 1) := by kernel_rfl
theorem en65 : ∀ vs w, (callFunc 65 vs).run Tryd.prog w = .ok (.enter 65 vs) w := zAn Tryd.func65 (by decide) rfl
theorem en14 : ∀ vs w, (callFunc 14 vs).run Tryd.prog w = .ok (.enter 14 vs) w := zAn Tryd.func14 (by decide) rfl
theorem zEl (l : List Int) (x : Int) : pvB l ++ [[PV.v (.int .u8 x)]] = pvB (l ++ [x]) := by simp [pvB]
theorem zBH (l : List Int) : (pvB l).length = l.length := by simp [pvB]
theorem zI2 {n : Nat} (h : n < 18446744073709551616) : (putL n).length ≤ 10 := zFn 9 n (Nat.lt_of_lt_of_le h (by decide))
theorem zGQ {out : List Int} {m n : Nat} (h : ¬ (m : Int) < 128) (hE : out ++ putL m = putL n) : (out ++ [((m % 128 + 128 : Nat) : Int)]) ++ putL (m / 128) = putL n := by rw [← hE, zI1 (n := m) (by omega), List.append_assoc]; rfl
theorem zGR {out : List Int} {m n : Nat} {x : Nat} (h : ¬ (128 : Int) ≤ (m : Int)) (hE : out ++ putL m = putL n) (hx : x = m) : pvB out ++ [[PV.v (.int .u8 (x : Int))]] = pvB (putL n) := by rw [← hE, zHG (by omega), hx]; exact zEl _ _
theorem zJY {c : Nat} (h : (((c &&& 1) % 4294967296 : Nat) : Int) = 1) : c % 2 = 1 := by rw [Nat.and_one_is_mod] at h; omega
theorem zJZ {c : Nat} (h : ¬ (((c &&& 1) % 4294967296 : Nat) : Int) = 1) : ¬ c % 2 = 1 := by rw [Nat.and_one_is_mod] at h; omega
theorem zJW {c : Nat} (h : ((c % 2 : Nat) : Int) = 1) : c % 2 = 1 := by omega
theorem zJX {c : Nat} (h : ¬ ((c % 2 : Nat) : Int) = 1) : ¬ c % 2 = 1 := by omega
set_option maxRecDepth 1000000 in
set_option maxHeartbeats 2000000 in
theorem zFM (n : Nat) (hn : n < 18446744073709551616) : Con Tryd.prog 65 [.one (PV.v (.int .u64 (n:Int)))] [] [.one (.v (.string (putV n)))] := by
 refine zAP Tryd.func65 rfl rfl rfl rfl ?_
 refine zAC ?_
 refine zAA rfl (.run [] [] rfl (zAD rfl) .nil) ?_
 refine zAC ?_
 refine zAA rfl (.run [400] [] rfl (zAv rfl 400 Tryd.underlying67 inf5 (nle rfl) (by decide) rfl rfl rfl .nil (by decide) rfl (by decide) rfl (by decide) rfl) (.run [] [] rfl (zAD rfl) .nil)) ?_
 refine zAC ?_
 refine zAM ?_
 refine zAU (zCe 400 1 rfl rfl (by decide)) ?_
 refine zAj (σ := Nat × List Int) (fun (m, out) => mk [(0, .p none (.v (.int .u64 (m:Int)))), (3, .sl 1 0 ((pvB out).length))] [] [(1, 1, pvB out)]) (fun (m, out) => m < 18446744073709551616 ∧ out ++ putL m = putL n) (fun (m, out) => m) (n, []) ⟨hn, rfl⟩ (zAK ⟨rfl, ⟨rfl, trivial⟩⟩ trivial ⟨(congrArg (fun x => some (1, x)) (by rfl)), trivial⟩ rfl) ?_
 rintro ⟨m, out⟩ hG
 replace hG : m < 18446744073709551616 ∧ out ++ putL m = putL n := hG
 obtain ⟨hm, hE⟩ := hG
 have hlo := congrArg List.length hE
 rw [List.length_append] at hlo
 have hln := zI2 hn
 have hob := zBH out
 refine zAC ?_
 refine zAC ?_
 refine zAA rfl (.run [] [] rfl (zAB rfl) (.run [] [] rfl (zC8 rfl rfl rfl) .nil)) ?_
 refine zAW (t := decide (128 ≤ (m:Int))) rfl (fun h1 => ?_) (fun h1 => ?_)
 ·
  replace h1 := of_decide_eq_true h1
  refine zAJ ?_
  refine zAC ?_
  refine zAM ?_
  refine zAA rfl (.run [] [] rfl (zAB rfl) (.run [] [] rfl (zAB rfl) (.run [] [] rfl (zAe (k' := .u8) 256 rfl m rfl rfl rfl Tryd.underlying43 Tryd.underlying5) (.run [] [] rfl (zEa (k := .u8) 256 rfl (m % 256) 128 rfl rfl rfl rfl) (.run [1300] [] rfl (zAv rfl 1300 Tryd.underlying67 inf5 (nle rfl) (by decide) rfl rfl rfl (.cons .v .nil) (by decide) rfl (by decide) rfl (by decide) rfl) (.run [1] [] rfl (zB8 rfl 1 (ib := 1) (len := ((pvB out) ++ [[PV.v (.int .u8 ((((m % 256) ||| 128) % 256 : Nat) : Int))]]).length) rfl rfl (.row (len := (pvB out).length) (xs := pvB out) rfl rfl (.inl rfl)) (.give (len := 1) (xs := [[PV.v (.int .u8 ((((m % 256) ||| 128) % 256 : Nat) : Int))]]) rfl rfl) Tryd.underlying67 (sk Tryd.underlying67 rfl) inf5 rfl (by decide) (by decide) (by decide) List.length_append (by simp only [maxLen, List.length_append, List.length_map, List.length_cons, List.length_nil, List.length_take, List.length_drop, zAc, zBG, zAg, zBH]; omega) (by simp only [maxLen, List.length_append, List.length_map, List.length_cons, List.length_nil, List.length_take, List.length_drop, zAc, zBG, zAg, zBH]; omega)) (.run [] [] rfl (zAD rfl) .nil))))))) ?_
  have hr2 : (pvB out) ++ [[PV.v (.int .u8 ((((m % 256) ||| 128) % 256 : Nat) : Int))]] = pvB (out ++ [((m % 128 + 128 : Nat) : Int)]) := by rw [or_128]; exact zEl _ _
  have hp3 : (.sl 1 0 (((pvB out) ++ [[PV.v (.int .u8 ((((m % 256) ||| 128) % 256 : Nat) : Int))]]).length) : AV) = .sl 1 0 ((pvB (out ++ [((m % 128 + 128 : Nat) : Int)])).length) := by simp only [hr2]
  refine zAU (s' := mk [(0, .p none (.v (.int .u64 (m:Int)))), (3, .sl 1 0 ((pvB (out ++ [((m % 128 + 128 : Nat) : Int)])).length))] [] [(1, 1, pvB (out ++ [((m % 128 + 128 : Nat) : Int)]))]) ?_ ?_
  · exact zAK ⟨rfl, ⟨hp3, trivial⟩⟩ trivial ⟨(congrArg (fun x => some (1, x)) hr2), trivial⟩ rfl
  refine zAA rfl (.run [] [] rfl (zAB rfl) (.run [] [] rfl (zBK m 7 rfl rfl rfl (by decide)) (.run [] [] rfl (zAD rfl) .nil))) ?_
  refine nxt (Q := fun _ _ => False) (z := (m, out)) (m / 128, out ++ [((m % 128 + 128 : Nat) : Int)]) ?_ ?_ ?_
  ·
   show (m / 128) < 18446744073709551616 ∧ (out ++ [((m % 128 + 128 : Nat) : Int)]) ++ putL (m / 128) = putL n
   exact ⟨by omega, zGQ (by omega) hE⟩
  ·
   show (m / 128) < m
   omega
  · exact zAK ⟨rfl, ⟨rfl, trivial⟩⟩ trivial ⟨rfl, trivial⟩ rfl
 ·
  replace h1 := of_decide_eq_false h1
  refine zAk ?_
  refine zAC ?_
  refine zAA rfl (.run [] [] rfl (zAB rfl) (.run [] [] rfl (zAB rfl) (.run [] [] rfl (zAe (k' := .u8) 256 rfl m rfl rfl rfl Tryd.underlying43 Tryd.underlying5) (.run [1800] [] rfl (zAv rfl 1800 Tryd.underlying67 inf5 (nle rfl) (by decide) rfl rfl rfl (.cons .v .nil) (by decide) rfl (by decide) rfl (by decide) rfl) (.run [1] [] rfl (zB8 rfl 1 (ib := 1) (len := ((pvB out) ++ [[PV.v (.int .u8 ((m % 256 : Nat) : Int))]]).length) rfl rfl (.row (len := (pvB out).length) (xs := pvB out) rfl rfl (.inl rfl)) (.give (len := 1) (xs := [[PV.v (.int .u8 ((m % 256 : Nat) : Int))]]) rfl rfl) Tryd.underlying67 (sk Tryd.underlying67 rfl) inf5 rfl (by decide) (by decide) (by decide) List.length_append (by simp only [maxLen, List.length_append, List.length_map, List.length_cons, List.length_nil, List.length_take, List.length_drop, zAc, zBG, zAg, zBH]; omega) (by simp only [maxLen, List.length_append, List.length_map, List.length_cons, List.length_nil, List.length_take, List.length_drop, zAc, zBG, zAg, zBH]; omega)) (.run [] [] rfl (zB2 (putL n) rfl rfl (.give (len := ((pvB out) ++ [[PV.v (.int .u8 ((m % 256 : Nat) : Int))]]).length) (xs := (pvB out) ++ [[PV.v (.int .u8 ((m % 256 : Nat) : Int))]]) rfl rfl) rfl (zGR (by assumption) hE (by omega)) Tryd.underlying67 Tryd.underlying9 Tryd.underlying5) (.run [] [] rfl (zAD rfl) .nil))))))) ?_
  refine zAL ?_
  exact ends [_] [] (.cons (.tmp rfl) .nil) (.cons (.one .v (.v _)) .nil) (by decide) trivial
set_option maxRecDepth 1000000 in
set_option maxHeartbeats 2000000 in
theorem zBT (n : Nat) (hn : n < 18446744073709551616) : Con Tryd.prog 14 [.one (PV.v (.int .u64 (n:Int)))] [] [.one (.v (.string (putV n)))] := by
 refine zAP Tryd.func14 rfl rfl rfl rfl ?_
 refine zAC ?_
 refine zAA rfl (.run [] [] rfl (zAD rfl) .nil) ?_
 refine zAC ?_
 refine zAA rfl (.run [400] [] rfl (zAv rfl 400 Tryd.underlying67 inf5 (nle rfl) (by decide) rfl rfl rfl .nil (by decide) rfl (by decide) rfl (by decide) rfl) (.run [] [] rfl (zAD rfl) .nil)) ?_
 refine zAC ?_
 refine zAM ?_
 refine zAU (zCe 400 1 rfl rfl (by decide)) ?_
 refine zAj (σ := Nat × List Int) (fun (m, out) => mk [(0, .p none (.v (.int .u64 (m:Int)))), (3, .sl 1 0 ((pvB out).length))] [] [(1, 1, pvB out)]) (fun (m, out) => m < 18446744073709551616 ∧ out ++ putL m = putL n) (fun (m, out) => m) (n, []) ⟨hn, rfl⟩ (zAK ⟨rfl, ⟨rfl, trivial⟩⟩ trivial ⟨(congrArg (fun x => some (1, x)) (by rfl)), trivial⟩ rfl) ?_
 rintro ⟨m, out⟩ hG
 replace hG : m < 18446744073709551616 ∧ out ++ putL m = putL n := hG
 obtain ⟨hm, hE⟩ := hG
 have hlo := congrArg List.length hE
 rw [List.length_append] at hlo
 have hln := zI2 hn
 have hob := zBH out
 refine zAC ?_
 refine zAC ?_
 refine zAA rfl (.run [] [] rfl (zAB rfl) (.run [] [] rfl (zC8 rfl rfl rfl) .nil)) ?_
 refine zAW (t := decide (128 ≤ (m:Int))) rfl (fun h1 => ?_) (fun h1 => ?_)
 ·
  replace h1 := of_decide_eq_true h1
  refine zAJ ?_
  refine zAM ?_
  refine zAC ?_
  refine zAA rfl (.run [] [] rfl (zAB rfl) (.run [] [] rfl (zAB rfl) (.run [] [] rfl (zBx m 128 rfl rfl rfl (by omega)) (.run [] [] rfl (zD7 (k := .u64) 18446744073709551616 rfl (m % 128) 128 rfl rfl rfl rfl) (.run [] [] rfl (zAe (k' := .u8) 256 rfl (((m % 128) + 128) % 18446744073709551616) rfl rfl rfl Tryd.underlying43 Tryd.underlying5) (.run [1200] [] rfl (zAv rfl 1200 Tryd.underlying67 inf5 (nle rfl) (by decide) rfl rfl rfl (.cons .v .nil) (by decide) rfl (by decide) rfl (by decide) rfl) (.run [1] [] rfl (zB8 rfl 1 (ib := 1) (len := ((pvB out) ++ [[PV.v (.int .u8 (((((m % 128) + 128) % 18446744073709551616) % 256 : Nat) : Int))]]).length) rfl rfl (.row (len := (pvB out).length) (xs := pvB out) rfl rfl (.inl rfl)) (.give (len := 1) (xs := [[PV.v (.int .u8 (((((m % 128) + 128) % 18446744073709551616) % 256 : Nat) : Int))]]) rfl rfl) Tryd.underlying67 (sk Tryd.underlying67 rfl) inf5 rfl (by decide) (by decide) (by decide) List.length_append (by simp only [maxLen, List.length_append, List.length_map, List.length_cons, List.length_nil, List.length_take, List.length_drop, zAc, zBG, zAg, zBH]; omega) (by simp only [maxLen, List.length_append, List.length_map, List.length_cons, List.length_nil, List.length_take, List.length_drop, zAc, zBG, zAg, zBH]; omega)) (.run [] [] rfl (zAD rfl) .nil)))))))) ?_
  have hr2 : (pvB out) ++ [[PV.v (.int .u8 (((((m % 128) + 128) % 18446744073709551616) % 256 : Nat) : Int))]] = pvB (out ++ [((m % 128 + 128 : Nat) : Int)]) := by rw [show ((m % 128 + 128) % 18446744073709551616) % 256 = m % 128 + 128 by omega]; exact zEl _ _
  have hp3 : (.sl 1 0 (((pvB out) ++ [[PV.v (.int .u8 (((((m % 128) + 128) % 18446744073709551616) % 256 : Nat) : Int))]]).length) : AV) = .sl 1 0 ((pvB (out ++ [((m % 128 + 128 : Nat) : Int)])).length) := by simp only [hr2]
  refine zAU (s' := mk [(0, .p none (.v (.int .u64 (m:Int)))), (3, .sl 1 0 ((pvB (out ++ [((m % 128 + 128 : Nat) : Int)])).length))] [] [(1, 1, pvB (out ++ [((m % 128 + 128 : Nat) : Int)]))]) ?_ ?_
  · exact zAK ⟨rfl, ⟨hp3, trivial⟩⟩ trivial ⟨(congrArg (fun x => some (1, x)) hr2), trivial⟩ rfl
  refine zAA rfl (.run [] [] rfl (zAB rfl) (.run [] [] rfl (zDC (k := .u64) 18446744073709551616 rfl m 128 rfl rfl rfl rfl (by omega)) (.run [] [] rfl (zAD rfl) .nil))) ?_
  refine nxt (Q := fun _ _ => False) (z := (m, out)) (m / 128, out ++ [((m % 128 + 128 : Nat) : Int)]) ?_ ?_ ?_
  ·
   show (m / 128) < 18446744073709551616 ∧ (out ++ [((m % 128 + 128 : Nat) : Int)]) ++ putL (m / 128) = putL n
   exact ⟨by omega, zGQ (by omega) hE⟩
  ·
   show (m / 128) < m
   omega
  · exact zAK ⟨(zAH (by omega)), ⟨rfl, trivial⟩⟩ trivial ⟨rfl, trivial⟩ rfl
 ·
  replace h1 := of_decide_eq_false h1
  refine zAk ?_
  refine zAC ?_
  refine zAA rfl (.run [] [] rfl (zAB rfl) (.run [] [] rfl (zAB rfl) (.run [] [] rfl (zAe (k' := .u8) 256 rfl m rfl rfl rfl Tryd.underlying43 Tryd.underlying5) (.run [1900] [] rfl (zAv rfl 1900 Tryd.underlying67 inf5 (nle rfl) (by decide) rfl rfl rfl (.cons .v .nil) (by decide) rfl (by decide) rfl (by decide) rfl) (.run [1] [] rfl (zB8 rfl 1 (ib := 1) (len := ((pvB out) ++ [[PV.v (.int .u8 ((m % 256 : Nat) : Int))]]).length) rfl rfl (.row (len := (pvB out).length) (xs := pvB out) rfl rfl (.inl rfl)) (.give (len := 1) (xs := [[PV.v (.int .u8 ((m % 256 : Nat) : Int))]]) rfl rfl) Tryd.underlying67 (sk Tryd.underlying67 rfl) inf5 rfl (by decide) (by decide) (by decide) List.length_append (by simp only [maxLen, List.length_append, List.length_map, List.length_cons, List.length_nil, List.length_take, List.length_drop, zAc, zBG, zAg, zBH]; omega) (by simp only [maxLen, List.length_append, List.length_map, List.length_cons, List.length_nil, List.length_take, List.length_drop, zAc, zBG, zAg, zBH]; omega)) (.run [] [] rfl (zB2 (putL n) rfl rfl (.give (len := ((pvB out) ++ [[PV.v (.int .u8 ((m % 256 : Nat) : Int))]]).length) (xs := (pvB out) ++ [[PV.v (.int .u8 ((m % 256 : Nat) : Int))]]) rfl rfl) rfl (zGR (by assumption) hE (by omega)) Tryd.underlying67 Tryd.underlying9 Tryd.underlying5) (.run [] [] rfl (zAD rfl) .nil))))))) ?_
  refine zAL ?_
  exact ends [_] [] (.cons (.tmp rfl) .nil) (.cons (.one .v (.v _)) .nil) (by decide) trivial
set_option maxRecDepth 1000000 in
set_option maxHeartbeats 2000000 in
theorem zBh (x : Nat) : Con Tryd.prog 53 [.one (PV.v (.int .u32 (x:Int)))] [] [.one (.v (.string (fixV x)))] := by
 refine zAP Tryd.func53 rfl rfl rfl rfl ?_
 refine zAC ?_
 refine zAA rfl (.run [] [] rfl (zAD rfl) .nil) ?_
 refine zAC ?_
 refine zAA rfl (.run [] [] rfl (zAB rfl) (.run [] [] rfl (zAe (k' := .u8) 256 rfl x rfl rfl rfl Tryd.underlying57 Tryd.underlying5) (.run [] [] rfl (zAB rfl) (.run [] [] rfl (zBK x 8 rfl rfl rfl (by decide)) (.run [] [] rfl (zAe (k' := .u8) 256 rfl (x / 2 ^ 8) rfl rfl rfl Tryd.underlying57 Tryd.underlying5) (.run [] [] rfl (zAB rfl) (.run [] [] rfl (zBK x 16 rfl rfl rfl (by decide)) (.run [] [] rfl (zAe (k' := .u8) 256 rfl (x / 2 ^ 16) rfl rfl rfl Tryd.underlying57 Tryd.underlying5) (.run [] [] rfl (zAB rfl) (.run [] [] rfl (zBK x 24 rfl rfl rfl (by decide)) (.run [] [] rfl (zAe (k' := .u8) 256 rfl (x / 2 ^ 24) rfl rfl rfl Tryd.underlying57 Tryd.underlying5) (.run [1400] [] rfl (zAv rfl 1400 Tryd.underlying67 inf5 (nle rfl) (by decide) rfl rfl rfl (.cons .v (.cons .v (.cons .v (.cons .v .nil)))) (by decide) rfl (by decide) rfl (by decide) rfl) (.run [] [] rfl (zB2 (fixL x) rfl rfl (.give (len := 4) (xs := [[PV.v (.int .u8 ((x % 256 : Nat) : Int))], [PV.v (.int .u8 (((x / 2 ^ 8) % 256 : Nat) : Int))], [PV.v (.int .u8 (((x / 2 ^ 16) % 256 : Nat) : Int))], [PV.v (.int .u8 (((x / 2 ^ 24) % 256 : Nat) : Int))]]) rfl rfl) rfl rfl Tryd.underlying67 Tryd.underlying9 Tryd.underlying5) (.run [] [] rfl (zAD rfl) .nil)))))))))))))) ?_
 refine zAL ?_
 exact ends [_] [] (.cons (.tmp rfl) .nil) (.cons (.one .v (.v _)) .nil) (by decide) trivial
set_option maxRecDepth 1000000 in
set_option maxHeartbeats 2000000 in
theorem zBQ (x : Nat) : Con Tryd.prog 21 [.one (PV.v (.int .u32 (x:Int)))] [] [.one (.v (.string (fixV x)))] := by
 refine zAP Tryd.func21 rfl rfl rfl rfl ?_
 refine zAC ?_
 refine zAA rfl (.run [] [] rfl (zAD rfl) .nil) ?_
 refine zAC ?_
 refine zAA rfl (.run [] [] rfl (zAB rfl) (.run [] [] rfl (zAe (k' := .u8) 256 rfl x rfl rfl rfl Tryd.underlying57 Tryd.underlying5) (.run [] [] rfl (zAB rfl) (.run [] [] rfl (zBK x 8 rfl rfl rfl (by decide)) (.run [] [] rfl (zAe (k' := .u8) 256 rfl (x / 2 ^ 8) rfl rfl rfl Tryd.underlying57 Tryd.underlying5) (.run [] [] rfl (zAB rfl) (.run [] [] rfl (zBK x 16 rfl rfl rfl (by decide)) (.run [] [] rfl (zAe (k' := .u8) 256 rfl (x / 2 ^ 16) rfl rfl rfl Tryd.underlying57 Tryd.underlying5) (.run [] [] rfl (zAB rfl) (.run [] [] rfl (zBK x 24 rfl rfl rfl (by decide)) (.run [] [] rfl (zAe (k' := .u8) 256 rfl (x / 2 ^ 24) rfl rfl rfl Tryd.underlying57 Tryd.underlying5) (.run [1400] [] rfl (zAv rfl 1400 Tryd.underlying67 inf5 (nle rfl) (by decide) rfl rfl rfl (.cons .v (.cons .v (.cons .v (.cons .v .nil)))) (by decide) rfl (by decide) rfl (by decide) rfl) (.run [] [] rfl (zB2 (fixL x) rfl rfl (.give (len := 4) (xs := [[PV.v (.int .u8 ((x % 256 : Nat) : Int))], [PV.v (.int .u8 (((x / 2 ^ 8) % 256 : Nat) : Int))], [PV.v (.int .u8 (((x / 2 ^ 16) % 256 : Nat) : Int))], [PV.v (.int .u8 (((x / 2 ^ 24) % 256 : Nat) : Int))]]) rfl rfl) rfl rfl Tryd.underlying67 Tryd.underlying9 Tryd.underlying5) (.run [] [] rfl (zAD rfl) .nil)))))))))))))) ?_
 refine zAL ?_
 exact ends [_] [] (.cons (.tmp rfl) .nil) (.cons (.one .v (.v _)) .nil) (by decide) trivial
set_option maxRecDepth 1000000 in
set_option maxHeartbeats 2000000 in
theorem crc_con (s : ByteArray) (hs : s.size ≤ 9000000000000000000) : Con Tryd.prog 66 [.one (PV.v (.string s))] [] [.one (.v (.int .u32 ((crcF s : Nat) : Int)))] := by
 refine zAP Tryd.func66 rfl rfl rfl rfl ?_
 refine zAC ?_
 refine zAA rfl (.run [] [] rfl (zAD rfl) .nil) ?_
 refine zAC ?_
 refine zAA rfl (.run [] [] rfl (zAD rfl) .nil) ?_
 refine zAC ?_
 refine zAC ?_
 refine zAA rfl (.run [] [] rfl (zAB rfl) (.run [] [] rfl (zAR rfl rfl Tryd.underlying9) (.run [] [] rfl (zAB rfl) .nil))) ?_
 refine zAM ?_
 refine zAj (σ := Nat) (fun i => mk [(0, .p none (.v (.string s))), (3, .p none (.v (.int .u32 ((crcT s i : Nat) : Int)))), (6, .p none (.v (.int .i64 (s.size : Int)))), (7, .p none (.v (.int .i64 (i:Int))))] [] []) (fun i => i ≤ s.size) (fun i => s.size - i) 0 (by simp) (zAK ⟨rfl, ⟨(zAH (by rfl)), ⟨rfl, ⟨(zAH (by omega)), trivial⟩⟩⟩⟩ trivial trivial rfl) ?_
 rintro i hG
 replace hG : i ≤ s.size := hG
 refine zAC ?_
 refine zAA rfl (.run [] [] rfl (zAu rfl rfl rfl) .nil) ?_
 refine zAC ?_
 refine zAW (t := decide ((i:Int) < (s.size : Int))) rfl (fun h1 => ?_) (fun h1 => ?_)
 ·
  replace h1 := of_decide_eq_true h1
  refine zAJ ?_
  refine zAC ?_
  refine zAM ?_
  refine zAC ?_
  refine zAA rfl (.run [] [] rfl (zAB rfl) (.run [] [] rfl (zAD rfl) .nil)) ?_
  refine zAC ?_
  obtain ⟨b, hb⟩ : ∃ b : UInt8, s[i]? = some b := ⟨_, getElem?_pos s i (by omega)⟩
  have hcl := zHQ s i
  refine zAA rfl (.run [] [] rfl (zAB rfl) (.run [] [] rfl (zAB rfl) (.run [] [] rfl (zAB rfl) (.run [] [] rfl (zCO rfl rfl rfl Tryd.underlying9 (by omega) hb) (.run [] [] rfl (zAe (k' := .u32) 4294967296 rfl b.toNat rfl rfl rfl Tryd.underlying5 Tryd.underlying57) (.run [] [] rfl (zBY (k := .u32) 4294967296 rfl (crcT s i) (b.toNat % 4294967296) rfl rfl rfl rfl) (.run [] [] rfl (zAD rfl) .nil))))))) ?_
  refine zAC ?_
  refine zAA rfl (.run [] [] rfl (zAB rfl) .nil) ?_
  refine zAM ?_
  refine zAj (σ := Nat) (fun k => mk [(0, .p none (.v (.string s))), (3, .p none (.v (.int .u32 ((crcI k ((crcT s i ^^^ (b.toNat % 4294967296)) % 4294967296) : Nat) : Int)))), (6, .p none (.v (.int .i64 (s.size : Int)))), (7, .p none (.v (.int .i64 (i:Int)))), (16, .p none (.v (.int .i64 (k:Int))))] [] []) (fun k => k ≤ 8) (fun k => 8 - k) 0 (by simp) (zAK ⟨rfl, ⟨(zAH (by rfl)), ⟨rfl, ⟨rfl, ⟨(zAH (by omega)), trivial⟩⟩⟩⟩⟩ trivial trivial rfl) ?_
  rintro k hG
  replace hG : k ≤ 8 := hG
  have hxl : crcI k ((crcT s i ^^^ (b.toNat % 4294967296)) % 4294967296) < 4294967296 := zF2 (Nat.mod_lt _ (by decide)) k
  refine zAC ?_
  refine zAA rfl (.run [] [] rfl (zAu rfl rfl rfl) .nil) ?_
  refine zAC ?_
  refine zAW (t := decide ((k:Int) < 8)) rfl (fun h2 => ?_) (fun h2 => ?_)
  ·
   replace h2 := of_decide_eq_true h2
   refine zAJ ?_
   refine zAC ?_
   refine zAM ?_
   refine zAC ?_
   refine zAA rfl (.run [] [] rfl (zAB rfl) (.run [] [] rfl (zFc (k := .u32) 4294967296 rfl (crcI k ((crcT s i ^^^ (b.toNat % 4294967296)) % 4294967296)) 1 rfl rfl rfl rfl) (.run [] [] rfl (zA6 rfl rfl rfl) .nil))) ?_
   refine zAW (t := decide (((((crcI k ((crcT s i ^^^ (b.toNat % 4294967296)) % 4294967296)) &&& 1) % 4294967296 : Nat) : Int) = 1)) rfl (fun h3 => ?_) (fun h3 => ?_)
   ·
    replace h3 := of_decide_eq_true h3
    refine zAA rfl (.run [] [] rfl (zAB rfl) (.run [] [] rfl (zBK (crcI k ((crcT s i ^^^ (b.toNat % 4294967296)) % 4294967296)) 1 rfl rfl rfl (by decide)) (.run [] [] rfl (zBY (k := .u32) 4294967296 rfl ((crcI k ((crcT s i ^^^ (b.toNat % 4294967296)) % 4294967296)) / 2 ^ 1) 2197175160 rfl rfl rfl rfl) (.run [] [] rfl (zAD rfl) .nil)))) ?_
    refine zAA rfl (.run [] [] rfl (zAX rfl rfl rfl (by omega)) (.run [] [] rfl (zAB rfl) .nil)) ?_
    refine nxt (Q := fun _ _ => False) (z := k) (k + 1) ?_ ?_ ?_
    ·
     show (k + 1) ≤ 8
     omega
    ·
     show 8 - (k + 1) < 8 - k
     omega
    · exact zAK ⟨rfl, ⟨(zAH (by rw [show crcI (k + 1) ((crcT s i ^^^ (b.toNat % 4294967296)) % 4294967296) = crcB (crcI k ((crcT s i ^^^ (b.toNat % 4294967296)) % 4294967296)) from rfl, crcB, if_pos (zJY h3)])), ⟨rfl, ⟨rfl, ⟨(zAH (by omega)), trivial⟩⟩⟩⟩⟩ trivial trivial rfl
   ·
    replace h3 := of_decide_eq_false h3
    refine zAA rfl (.run [] [] rfl (zAB rfl) (.run [] [] rfl (zBK (crcI k ((crcT s i ^^^ (b.toNat % 4294967296)) % 4294967296)) 1 rfl rfl rfl (by decide)) (.run [] [] rfl (zAD rfl) .nil))) ?_
    refine zAA rfl (.run [] [] rfl (zAX rfl rfl rfl (by omega)) (.run [] [] rfl (zAB rfl) .nil)) ?_
    refine nxt (Q := fun _ _ => False) (z := k) (k + 1) ?_ ?_ ?_
    ·
     show (k + 1) ≤ 8
     omega
    ·
     show 8 - (k + 1) < 8 - k
     omega
    · exact zAK ⟨rfl, ⟨(zAH (by rw [show crcI (k + 1) ((crcT s i ^^^ (b.toNat % 4294967296)) % 4294967296) = crcB (crcI k ((crcT s i ^^^ (b.toNat % 4294967296)) % 4294967296)) from rfl, crcB, if_neg (zJZ h3)])), ⟨rfl, ⟨rfl, ⟨(zAH (by omega)), trivial⟩⟩⟩⟩⟩ trivial trivial rfl
  ·
   replace h2 := of_decide_eq_false h2
   refine zAk ?_
   refine zAA rfl (.run [] [] rfl (zAX rfl rfl rfl (by omega)) (.run [] [] rfl (zAB rfl) .nil)) ?_
   refine nxt (Q := fun _ _ => False) (z := i) (i + 1) ?_ ?_ ?_
   ·
    show (i + 1) ≤ s.size
    omega
   ·
    show s.size - (i + 1) < s.size - i
    omega
   · exact zAK ⟨rfl, ⟨(zAH (by rw [zEx (zDZ hb), show k = 8 by omega]; rfl)), ⟨rfl, ⟨(zAH (by omega)), trivial⟩⟩⟩⟩ trivial trivial rfl
 ·
  replace h1 := of_decide_eq_false h1
  refine zAk ?_
  refine zAC ?_
  refine zAU (s' := mk [(3, .p none (.v (.int .u32 ((crcT s s.size : Nat) : Int))))] [] []) ?_ ?_
  · exact zAK ⟨(zAH (by rw [show i = s.size by omega])), trivial⟩ trivial trivial rfl
  refine zAA rfl (.run [] [] rfl (zAB rfl) (.run [] [] rfl (st_comU (k := .u32) 4294967296 rfl (crcT s s.size) rfl rfl rfl) (.run [] [] rfl (zAD rfl) .nil))) ?_
  refine zAL ?_
  exact ends [_] [] (.cons (.tmp (zAH (by rw [crcF, Nat.xor_comm]))) .nil) (.cons (.one .v (.v _)) .nil) (by decide) trivial
set_option maxRecDepth 1000000 in
set_option maxHeartbeats 2000000 in
theorem zJx (s : ByteArray) (hs : s.size ≤ 9000000000000000000) : Con Tryd.prog 34 [.one (PV.v (.string s))] [] [.one (.v (.int .u32 ((crcF s : Nat) : Int)))] := by
 refine zAP Tryd.func34 rfl rfl rfl rfl ?_
 refine zAC ?_
 refine zAA rfl (.run [] [] rfl (zAD rfl) .nil) ?_
 refine zAC ?_
 refine zAA rfl (.run [] [] rfl (zAD rfl) .nil) ?_
 refine zAC ?_
 refine zAC ?_
 refine zAA rfl (.run [] [] rfl (zAD rfl) .nil) ?_
 refine zAM ?_
 refine zAj (σ := Nat) (fun i => mk [(0, .p none (.v (.string s))), (3, .p none (.v (.int .u32 ((crcT s i : Nat) : Int)))), (4, .p none (.v (.int .i64 (i:Int))))] [] []) (fun i => i ≤ s.size) (fun i => s.size - i) 0 (by simp) (zAK ⟨rfl, ⟨(zAH (by rfl)), ⟨(zAH (by omega)), trivial⟩⟩⟩ trivial trivial rfl) ?_
 rintro i hG
 replace hG : i ≤ s.size := hG
 refine zAC ?_
 refine zAC ?_
 refine zAA rfl (.run [] [] rfl (zAB rfl) (.run [] [] rfl (zAB rfl) (.run [] [] rfl (zAR rfl rfl Tryd.underlying9) (.run [] [] rfl (zAu rfl rfl rfl) .nil)))) ?_
 refine zAW (t := decide ((i:Int) < (s.size : Int))) rfl (fun h1 => ?_) (fun h1 => ?_)
 ·
  replace h1 := of_decide_eq_true h1
  refine zAJ ?_
  refine zAC ?_
  refine zAM ?_
  refine zAC ?_
  obtain ⟨b, hb⟩ : ∃ b : UInt8, s[i]? = some b := ⟨_, getElem?_pos s i (by omega)⟩
  have hcl := zHQ s i
  refine zAA rfl (.run [] [] rfl (zAB rfl) (.run [] [] rfl (zAB rfl) (.run [] [] rfl (zAB rfl) (.run [] [] rfl (zCO rfl rfl rfl Tryd.underlying9 (by omega) hb) (.run [] [] rfl (zAe (k' := .u32) 4294967296 rfl b.toNat rfl rfl rfl Tryd.underlying5 Tryd.underlying57) (.run [] [] rfl (zBY (k := .u32) 4294967296 rfl (crcT s i) (b.toNat % 4294967296) rfl rfl rfl rfl) (.run [] [] rfl (zAD rfl) .nil))))))) ?_
  refine zAC ?_
  refine zAA rfl (.run [] [] rfl (zAD rfl) .nil) ?_
  refine zAM ?_
  refine zAj (σ := Nat) (fun k => mk [(0, .p none (.v (.string s))), (3, .p none (.v (.int .u32 ((crcI k ((crcT s i ^^^ (b.toNat % 4294967296)) % 4294967296) : Nat) : Int)))), (4, .p none (.v (.int .i64 (i:Int)))), (5, .p none (.v (.int .i64 (k:Int))))] [] []) (fun k => k ≤ 8) (fun k => 8 - k) 0 (by simp) (zAK ⟨rfl, ⟨(zAH (by rfl)), ⟨rfl, ⟨(zAH (by omega)), trivial⟩⟩⟩⟩ trivial trivial rfl) ?_
  rintro k hG
  replace hG : k ≤ 8 := hG
  have hxl : crcI k ((crcT s i ^^^ (b.toNat % 4294967296)) % 4294967296) < 4294967296 := zF2 (Nat.mod_lt _ (by decide)) k
  refine zAC ?_
  refine zAC ?_
  refine zAA rfl (.run [] [] rfl (zAB rfl) (.run [] [] rfl (zAu rfl rfl rfl) .nil)) ?_
  refine zAW (t := decide ((k:Int) < 8)) rfl (fun h2 => ?_) (fun h2 => ?_)
  ·
   replace h2 := of_decide_eq_true h2
   refine zAJ ?_
   refine zAC ?_
   refine zAM ?_
   refine zAC ?_
   refine zAA rfl (.run [] [] rfl (zAB rfl) (.run [] [] rfl (zBx (crcI k ((crcT s i ^^^ (b.toNat % 4294967296)) % 4294967296)) 2 rfl rfl rfl (by omega)) (.run [] [] rfl (zA6 rfl rfl rfl) .nil))) ?_
   refine zAW (t := decide ((((crcI k ((crcT s i ^^^ (b.toNat % 4294967296)) % 4294967296)) % 2 : Nat) : Int) = 1)) rfl (fun h3 => ?_) (fun h3 => ?_)
   ·
    replace h3 := of_decide_eq_true h3
    refine zAA rfl (.run [] [] rfl (zAB rfl) (.run [] [] rfl (zBK (crcI k ((crcT s i ^^^ (b.toNat % 4294967296)) % 4294967296)) 1 rfl rfl rfl (by decide)) (.run [] [] rfl (zBY (k := .u32) 4294967296 rfl ((crcI k ((crcT s i ^^^ (b.toNat % 4294967296)) % 4294967296)) / 2 ^ 1) 2197175160 rfl rfl rfl rfl) (.run [] [] rfl (zAD rfl) .nil)))) ?_
    refine zAA rfl (.run [] [] rfl (zAB rfl) (.run [] [] rfl (zAX rfl rfl rfl (by omega)) (.run [] [] rfl (zAD rfl) .nil))) ?_
    refine nxt (Q := fun _ _ => False) (z := k) (k + 1) ?_ ?_ ?_
    ·
     show (k + 1) ≤ 8
     omega
    ·
     show 8 - (k + 1) < 8 - k
     omega
    · exact zAK ⟨rfl, ⟨(zAH (by rw [show crcI (k + 1) ((crcT s i ^^^ (b.toNat % 4294967296)) % 4294967296) = crcB (crcI k ((crcT s i ^^^ (b.toNat % 4294967296)) % 4294967296)) from rfl, crcB, if_pos (zJW h3)])), ⟨rfl, ⟨(zAH (by omega)), trivial⟩⟩⟩⟩ trivial trivial rfl
   ·
    replace h3 := of_decide_eq_false h3
    refine zAA rfl (.run [] [] rfl (zAB rfl) (.run [] [] rfl (zBK (crcI k ((crcT s i ^^^ (b.toNat % 4294967296)) % 4294967296)) 1 rfl rfl rfl (by decide)) (.run [] [] rfl (zAD rfl) .nil))) ?_
    refine zAA rfl (.run [] [] rfl (zAB rfl) (.run [] [] rfl (zAX rfl rfl rfl (by omega)) (.run [] [] rfl (zAD rfl) .nil))) ?_
    refine nxt (Q := fun _ _ => False) (z := k) (k + 1) ?_ ?_ ?_
    ·
     show (k + 1) ≤ 8
     omega
    ·
     show 8 - (k + 1) < 8 - k
     omega
    · exact zAK ⟨rfl, ⟨(zAH (by rw [show crcI (k + 1) ((crcT s i ^^^ (b.toNat % 4294967296)) % 4294967296) = crcB (crcI k ((crcT s i ^^^ (b.toNat % 4294967296)) % 4294967296)) from rfl, crcB, if_neg (zJX h3)])), ⟨rfl, ⟨(zAH (by omega)), trivial⟩⟩⟩⟩ trivial trivial rfl
  ·
   replace h2 := of_decide_eq_false h2
   refine zAk ?_
   refine zAA rfl (.run [] [] rfl (zAB rfl) (.run [] [] rfl (zAX rfl rfl rfl (by omega)) (.run [] [] rfl (zAD rfl) .nil))) ?_
   refine nxt (Q := fun _ _ => False) (z := i) (i + 1) ?_ ?_ ?_
   ·
    show (i + 1) ≤ s.size
    omega
   ·
    show s.size - (i + 1) < s.size - i
    omega
   · exact zAK ⟨rfl, ⟨(zAH (by rw [zEx (zDZ hb), show k = 8 by omega]; rfl)), ⟨(zAH (by omega)), trivial⟩⟩⟩ trivial trivial rfl
 ·
  replace h1 := of_decide_eq_false h1
  refine zAk ?_
  refine zAC ?_
  refine zAU (s' := mk [(3, .p none (.v (.int .u32 ((crcT s s.size : Nat) : Int))))] [] []) ?_ ?_
  · exact zAK ⟨(zAH (by rw [show i = s.size by omega])), trivial⟩ trivial trivial rfl
  refine zAA rfl (.run [] [] rfl (zAB rfl) (.run [] [] rfl (zBY (k := .u32) 4294967296 rfl (crcT s s.size) 4294967295 rfl rfl rfl rfl) (.run [] [] rfl (zAD rfl) .nil))) ?_
  refine zAL ?_
  exact ends [_] [] (.cons (.tmp rfl) .nil) (.cons (.one .v (.v _)) .nil) (by decide) trivial
set_option maxRecDepth 1000000 in
set_option maxHeartbeats 2000000 in
theorem zBq (s : ByteArray) (hs : s.size ≤ 4000000000000000000) : Con Tryd.prog 46 [.one (PV.v (.string s))] [] [.one (.v (.string (putX s)))] := by
 refine zAP Tryd.func46 rfl rfl rfl rfl ?_
 refine zAC ?_
 refine zAA rfl (.run [] [] rfl (zAD rfl) .nil) ?_
 refine zAC ?_
 have hps := zAl (n := s.size) (by omega)
 refine zAA rfl (.run [] [] rfl (zAB rfl) (.run [] [] rfl (zAR rfl rfl Tryd.underlying9) (.run [] [] rfl (zAO (zAe (k' := .u64) 18446744073709551616 rfl s.size rfl rfl rfl Tryd.underlying3 Tryd.underlying43) ((zAH (show ((s.size % 18446744073709551616 : Nat) : Int) = ((s.size : Nat) : Int) by omega)))) (.run [600] [] rfl (zAG rfl 600 (X := []) en65 rfl (.val nod) (.cons (.one (.bor .v)) .nil) (by decide) all_nil .nil (zFM s.size (by omega)) rfl rfl (nle rfl)) (.run [] [] rfl (zAB rfl) (.run [] [] rfl (zAi rfl rfl rfl (by omega)) (.run [] [] rfl (zAD rfl) .nil))))))) ?_
 refine zAL ?_
 exact ends [_] [] (.cons (.tmp rfl) .nil) (.cons (.one .v (.v _)) .nil) (by decide) trivial
set_option maxRecDepth 1000000 in
set_option maxHeartbeats 2000000 in
theorem zBg (s : ByteArray) (hs : s.size ≤ 4000000000000000000) : Con Tryd.prog 15 [.one (PV.v (.string s))] [] [.one (.v (.string (putX s)))] := by
 refine zAP Tryd.func15 rfl rfl rfl rfl ?_
 refine zAC ?_
 refine zAA rfl (.run [] [] rfl (zAD rfl) .nil) ?_
 refine zAC ?_
 have hps := zAl (n := s.size) (by omega)
 refine zAA rfl (.run [] [] rfl (zAB rfl) (.run [] [] rfl (zAR rfl rfl Tryd.underlying9) (.run [] [] rfl (zAO (zAe (k' := .u64) 18446744073709551616 rfl s.size rfl rfl rfl Tryd.underlying3 Tryd.underlying43) ((zAH (show ((s.size % 18446744073709551616 : Nat) : Int) = ((s.size : Nat) : Int) by omega)))) (.run [600] [] rfl (zAG rfl 600 (X := []) en14 rfl (.val nod) (.cons (.one (.bor .v)) .nil) (by decide) all_nil .nil (zBT s.size (by omega)) rfl rfl (nle rfl)) (.run [] [] rfl (zAB rfl) (.run [] [] rfl (zAi rfl rfl rfl (by omega)) (.run [] [] rfl (zAD rfl) .nil))))))) ?_
 refine zAL ?_
 exact ends [_] [] (.cons (.tmp rfl) .nil) (.cons (.one .v (.v _)) .nil) (by decide) trivial
set_option maxRecDepth 1000000 in
set_option maxHeartbeats 2000000 in
theorem zBf (n : Int) (h0 : 0 ≤ n) (h1 : n < 9223372036854775808) : Con Tryd.prog 45 [.one (PV.v (.int .i64 n))] [] [.one (.v (.string (putV n.toNat)))] := by
 refine zAP Tryd.func45 rfl rfl rfl rfl ?_
 refine zAC ?_
 refine zAA rfl (.run [] [] rfl (zAD rfl) .nil) ?_
 refine zAC ?_
 refine zAA rfl (.run [] [] rfl (zAB rfl) (.run [] [] rfl (zAO (zDD rfl rfl Tryd.underlying2 Tryd.underlying43) ((show (AV.p none (.v (.int .u64 (IntKind.u64.wrap n)))) = AV.p none (.v (.int .u64 ((n.toNat : Nat) : Int))) from zAH (by rw [IntKind.wrap_u64]; omega)))) (.run [500] [] rfl (zAG rfl 500 (X := []) en65 rfl (.val nod) (.cons (.one (.bor .v)) .nil) (by decide) all_nil .nil (zFM n.toNat (by omega)) rfl rfl (nle rfl)) (.run [] [] rfl (zAD rfl) .nil)))) ?_
 refine zAL ?_
 exact ends [_] [] (.cons (.tmp rfl) .nil) (.cons (.one .v (.v _)) .nil) (by decide) trivial
end Go.Rl

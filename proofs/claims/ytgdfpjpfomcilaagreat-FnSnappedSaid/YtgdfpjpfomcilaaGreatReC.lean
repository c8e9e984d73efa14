/- Promises of functions, proved by walks over their operations; no conditions beyond those that each theorem states. -/
import Derived.Test.YtgdfpjpfomcilaaGreatReA
import Derived.Test.YtgdfpjpfomcilaaGreatRlT
import Derived.RangeFuncNested
import Derived.BigRegionIn
import Derived.Test.YtgdfpjpfomcilaaGreatRlP
set_option linter.unusedSimpArgs false
set_option linter.unusedVariables false
namespace Go.Rl
open Go.Proofs Go.Proofs.Tryz
set_option maxRecDepth 1000000
set_option maxHeartbeats 2000000
theorem inf2 : (Tryz.prog.info? 2).map (fun i => (i.zero, i.size, i.bytes)) = some (some (.int .i64 0), 1, 8) := by kernel_rfl
theorem en111 : En Tryz.prog 111 := zAm func111 (by decide) rfl
theorem en63 : En Tryz.prog 63 := zAm func63 (by decide) rfl
theorem zIR (l : List Int) (hl : l.length ≤ 2000000) : Con Tryz.prog 66 [.one (PV.sl false 1 (pvI l))] [] [.one (.sl true 1 (pvI l))] := by
 refine zAQ func66 rfl rfl rfl rfl ?_
 have hle := zAT l
 refine zAB (zAA rfl (.a rfl rfl .nil) ?_)
 refine zAB ?_
 refine zAB (zAA rfl (.m rfl rfl (.r rfl (zLt (v := .slice none 0 0) rfl rfl (.inl ⟨_, _, _, _, rfl, rfl⟩) underlying26) .nil)) ?_)
 refine zQf rfl (fun v h => ⟨_, h.choose_spec.1⟩) (fun h1 => ?_) (fun h1 => ?_)
 ·
  replace h1 : (pvI l).length = 0 := by obtain ⟨b, e, h⟩ := h1; cases e; exact h rfl
  have hl0 : l = [] := List.eq_nil_of_length_eq_zero (by rw [zAT] at h1; exact h1)
  subst hl0
  refine zAB (zAA rfl (.a rfl rfl .nil) ?_)
  refine zAO ?_
  exact ends [_] [] (.cons (.tmp rfl) .nil) (.cons (.one (.nil _) (.sl _ _ (fun _ h => nomatch h))) .nil) (by decide) trivial
 ·
  refine zAM ?_
  refine zAB (zAA rfl (.run [500] [] rfl (zAR rfl 500 underlying26 inf2 (nle rfl) (by decide) rfl rfl rfl .nil (by decide) rfl (by decide) rfl (by decide) rfl) (.m rfl rfl (.run [500] [] rfl (zAu rfl 500 (ib := 500) (len := ([] ++ (pvI l)).length) rfl rfl (.row (len := 0) (xs := []) rfl rfl (.inl rfl)) (.fro (zA3 _)) underlying26 (sk underlying26 rfl) inf2 rfl (by decide) (by decide) (by decide) List.length_append (by simp only [maxLen, List.length_append, List.length_cons, List.length_nil, zAT]; omega) (by simp only [maxLen, List.length_append, List.length_cons, List.length_nil, zAT]; omega)) (.a rfl rfl .nil)))) ?_)
  refine zAO ?_
  exact ends [_] [500] (.cons (.tmp rfl) .nil) (.cons (.one (.row (len := ([] ++ (pvI l)).length) (xs := [] ++ (pvI l)) rfl rfl) (.sl _ _ (FlatP.clean (zA3 l)))) .nil) (by decide) trivial
theorem zK7 (e : Ent) (u : ByteArray) (s : Int) : Con Tryz.prog 111 [.agg [PV.v (.string e.user), PV.v (.int .i64 e.seq), PV.v (.int .i64 e.kind), PV.v (.string e.value)], .fbox [PV.v (.string u)], .fbox [PV.v (.int .i64 s)]] [] [.one (.v (.bool (asOf u s e)))] := by
 refine zAQ func111 rfl rfl rfl rfl ?_
 refine zAB (zAA rfl (.run [] [3] rfl (zBO rfl 3 rfl rfl (by decide) rfl (by decide)) (.a rfl rfl .nil)) ?_)
 refine zAB ?_
 rcases bfc (decide (e.user = u)) with h1 | h1
 ·
  have h1' := h1
  replace h1' := of_decide_eq_false h1'
  refine zAA rfl (.r rfl (zAC rfl rfl underlying56 rfl sizeOf54 (by decide)) (.r rfl (zAC rfl rfl underlying54 rfl sizeOf9 (by decide)) (.r rfl (zAD rfl rfl rfl isAgg9 rfl) (.r rfl (zAg rfl rfl isAgg9 rfl) (.r rfl (zAW (zDC rfl rfl rfl) (by exact congrArg (fun b => AV.p none (.v (.bool b))) h1)) (.m rfl rfl (.not rfl (.not rfl (.not rfl (.not rfl (.not rfl (.r rfl (zAU (t := false) rfl rfl) (.a rfl rfl .nil))))))))))))) ?_
  refine zAO ?_
  exact ends [_] [] (.cons (.tmp (zAN (by simp only [asOf, h1, Bool.true_and, Bool.false_and]))) .nil) (.cons (.one .v (.v _)) .nil) (by decide) trivial
 ·
  have h1' := h1
  replace h1' := of_decide_eq_true h1'
  refine zAA rfl (.r rfl (zAC rfl rfl underlying56 rfl sizeOf54 (by decide)) (.r rfl (zAC rfl rfl underlying54 rfl sizeOf9 (by decide)) (.r rfl (zAD rfl rfl rfl isAgg9 rfl) (.r rfl (zAg rfl rfl isAgg9 rfl) (.r rfl (zAW (zDC rfl rfl rfl) (by exact congrArg (fun b => AV.p none (.v (.bool b))) h1)) (.m rfl rfl (.r rfl (zAC rfl rfl underlying56 rfl sizeOf54 (by decide)) (.r rfl (zAC rfl rfl underlying54 rfl sizeOf2 (by decide)) (.r rfl (zAD rfl rfl rfl isAgg2 rfl) (.r rfl (zAg rfl rfl isAgg2 rfl) (.r rfl (zB5 rfl rfl rfl) (.r rfl (zAU (t := true) rfl rfl) (.a rfl rfl .nil))))))))))))) ?_
  refine zAO ?_
  exact ends [_] [] (.cons (.tmp (zAN (by simp only [asOf, h1, Bool.true_and, Bool.false_and]))) .nil) (.cons (.one .v (.v _)) .nil) (by decide) trivial
theorem zEw (l : List Ent) (hl : l.length ≤ 2000000) (f : Nat) (pss : List (List PV)) (p : Ent → Bool) (hE : ∀ vs w, (callFunc f vs).run Tryz.prog w = .ok (.enter f vs) w) (hp : ∀ s ∈ l, Con Tryz.prog f ([.agg s.pv] ++ pss.map .fbox) [] [.one (.v (.bool (p s)))]) : Con Tryz.prog 63 [.one (PV.sl false 4 (pvE l)), .one (PV.clo f pss)] [] [.one (.v (.int .i64 (idxF p l)))] := by
 refine zAQ func63 rfl rfl rfl rfl ?_
 have hle := zAF l
 refine zAB (zAA rfl (.a rfl rfl .nil) ?_)
 refine zAB ?_
 refine zAB (zAA rfl (.m rfl rfl (.r rfl (zAX rfl rfl underlying24) (.m rfl rfl .nil))) ?_)
 refine zAS ?_
 refine zAp (σ := Nat) (fun i => mk [(0, .p none (.sl false 4 (pvE l))), (1, .p none (.clo f pss)), (7, .vi ((pvE l).length : Int)), (8, .vi (i:Int))] [] []) (fun i => i ≤ l.length ∧ ∀ j e, j < i → l[j]? = some e → p e = false) (fun i => l.length - i) 0 ⟨Nat.zero_le _, fun _ _ h => absurd h (Nat.not_lt_zero _)⟩ (zAJ ⟨rfl, rfl, rfl, (zAL (by omega)), trivial⟩ trivial trivial rfl) ?_
 rintro i hG
 replace hG : i ≤ l.length ∧ ∀ j e, j < i → l[j]? = some e → p e = false := hG
 obtain ⟨hi, hG⟩ := hG
 refine zAB (zAA rfl (.r rfl (zA4 rfl rfl rfl) .nil) ?_)
 refine zAB ?_
 refine zAZ (t := decide ((i:Int) < ((pvE l).length : Int))) rfl (fun h1 => ?_) (fun h1 => ?_)
 ·
  replace h1 := of_decide_eq_true h1
  refine zAM ?_
  refine zAB ?_
  refine zAS ?_
  refine zAB (zAA rfl (.m rfl rfl (.a rfl rfl .nil)) ?_)
  refine zAB ?_
  obtain ⟨e, he⟩ : ∃ e, l[i]? = some e := ⟨_, List.getElem?_eq_getElem (by (have hL := zAF l; omega))⟩
  have hlte := (List.getElem?_eq_some_iff.1 he).1
  refine zAA rfl (.m rfl rfl (.m rfl rfl (.m rfl rfl (.r rfl (zAh rfl rfl rfl underlying24 sizeOf56 rfl (by omega) (zA0 he)) (.r rfl (zA9 rfl rfl isAgg56 sizeOf56 (nle rfl)) (.run [1600] [] rfl (zAK rfl 1600 (X := []) hE rfl (.val nod) (.cons (.agg (.cons (.bor .v) (.cons (.bor .v) (.cons (.bor .v) (.cons (.bor .v) .nil))))) .nil) (by decide) all_nil .nil (hp e (List.mem_of_getElem? he)) rfl rfl (nle rfl)) .nil)))))) ?_
  refine zAZ (t := p e) rfl (fun h2 => ?_) (fun h2 => ?_)
  ·
   refine zAB (zAA rfl (.m rfl rfl (.a rfl rfl .nil)) ?_)
   refine zAO ?_
   exact ends [_] [] (.cons (.tmp (zAL (zFD hG he h2).symm)) .nil) (.cons (.one .v (.v _)) .nil) (by decide) trivial
  ·
   refine zAM ?_
   refine zAA rfl (.r rfl (zAf rfl rfl rfl (by omega)) (.m rfl rfl .nil)) ?_
   refine nxt (Q := fun _ _ => False) (z := i) (i + 1) ?_ ?_ ?_
   ·
    show (i + 1) ≤ l.length ∧ ∀ j e, j < (i + 1) → l[j]? = some e → p e = false
    exact ⟨by omega, zFb hG he h2⟩
   ·
    show l.length - (i + 1) < l.length - i
    omega
   · exact zAJ ⟨rfl, rfl, rfl, (zAL (by omega)), trivial⟩ trivial trivial rfl
 ·
  replace h1 := of_decide_eq_false h1
  refine zAx ?_
  refine zAB (zAA rfl (.a rfl rfl .nil) ?_)
  refine zAO ?_
  exact ends [_] [] (.cons (.tmp (zAL (zEi (by omega) hG).symm)) .nil) (.cons (.one .v (.v _)) .nil) (by decide) trivial
theorem zIE (l : List Ent) (u : ByteArray) (s : Int) (hl : l.length ≤ 2000000) : Con Tryz.prog 99 [.one (PV.sl false 4 (pvE l)), .one (PV.v (.string u)), .one (PV.v (.int .i64 s))] [] [.one (.v (.int .i64 (idxF (asOf u s) l)))] := by
 refine zAQ func99 rfl rfl rfl rfl ?_
 have hle := zAF l
 refine zAB (zAA rfl (.run [] [4] rfl (zBO rfl 4 rfl rfl (by decide) rfl (by decide)) (.run [] [5] rfl (zBO rfl 5 rfl rfl (by decide) rfl (by decide)) (.a rfl rfl .nil))) ?_)
 refine zAB (zAA rfl (.m rfl rfl (.r rfl (zIh (bs := [4, 5]) rfl rfl) (.run [900] [4, 5] rfl (zAK rfl 900 (X := []) en63 rfl (.val nod) (.cons (.one (.bor (.sl nod))) (.cons (.one (.bor (.clo (.cons rfl (.cons .v .nil) (.cons rfl (.cons .v .nil) .nil))))) .nil)) (by decide) all_nil .nil (zEw l hl 111 [[.v (.string u)], [.v (.int .i64 s)]] (asOf u s) en111 (fun e _ => zK7 e u s)) rfl rfl (nle rfl)) (.a rfl rfl .nil)))) ?_)
 refine zAO ?_
 exact ends [_] [] (.cons (.tmp rfl) .nil) (.cons (.one .v (.v _)) .nil) (by decide) trivial
end Go.Rl
namespace Go.Rl
open Go.Proofs Go.Proofs.Tryz
set_option maxRecDepth 1000000
set_option maxHeartbeats 2000000
theorem zI6 (l : List Ent) (s : List Int) (hl : l.length ≤ 2000000) (hs : s.length ≤ 2000000) : Con Tryz.prog 75 [.one (PV.sl false 4 (pvE l)), .one (PV.sl false 1 (pvI s))] [] [.one (.sl true 1 (pvI (zBK l (zAP s) l.length)))] := by
 refine zAQ func75 rfl rfl rfl rfl ?_
 have hle := zAF l
 have hls := zAT s
 have hlp := zAT (zAP s)
 have hpl := zH1 s
 refine zAB (zAA rfl (.a rfl rfl .nil) ?_)
 refine zAB (zAA rfl (.run [1100] [] rfl (zAR rfl 1100 underlying26 inf2 (nle rfl) (by decide) rfl rfl rfl .nil (by decide) rfl (by decide) rfl (by decide) rfl) (.a rfl rfl .nil)) ?_)
 refine zAB (zAA rfl (.run [1200] [] rfl (zAR rfl 1200 underlying26 inf2 (nle rfl) (by decide) rfl rfl rfl .nil (by decide) rfl (by decide) rfl (by decide) rfl) (.m rfl rfl (.run [1200] [] rfl (zAu rfl 1200 (ib := 1200) (len := ([] ++ (pvI s)).length) rfl rfl (.row (len := 0) (xs := []) rfl rfl (.inl rfl)) (.fro (zA3 _)) underlying26 (sk underlying26 rfl) inf2 rfl (by decide) (by decide) (by decide) List.length_append (by simp only [maxLen, List.length_append, List.length_cons, List.length_nil, zAT]; omega) (by simp only [maxLen, List.length_append, List.length_cons, List.length_nil, zAT]; omega)) (.run [1500] [] rfl (zAR rfl 1500 underlying26 inf2 (nle rfl) (by decide) rfl rfl rfl (.cons .v .nil) (by decide) rfl (by decide) rfl (by decide) rfl) (.run [1200] [] rfl (zAu rfl 1200 (ib := 1200) (len := (([] ++ (pvI s)) ++ [[PV.v (.int .i64 1000000000000)]]).length) rfl rfl (.row (len := ([] ++ (pvI s)).length) (xs := [] ++ (pvI s)) rfl rfl (.inl rfl)) (.give (len := 1) (xs := [[PV.v (.int .i64 1000000000000)]]) rfl rfl) underlying26 (sk underlying26 rfl) inf2 rfl (by decide) (by decide) (by decide) List.length_append (by simp only [maxLen, List.length_append, List.length_cons, List.length_nil, zAT]; omega) (by simp only [maxLen, List.length_append, List.length_cons, List.length_nil, zAT]; omega)) (.a rfl rfl .nil)))))) ?_)
 have hr1 : ([] ++ (pvI s)) ++ [[PV.v (.int .i64 1000000000000)]] = pvI (zAP s) := by rw [List.nil_append]; exact zF0 s
 have hp2 : (.sl 1200 0 ((([] ++ (pvI s)) ++ [[PV.v (.int .i64 1000000000000)]]).length) : AV) = .sl 1200 0 ((pvI (zAP s)).length) := by simp only [hr1]
 refine zAY (s' := mk [(0, .p none (.sl false 4 (pvE l))), (5, .sl 1100 0 0), (6, .sl 1200 0 ((pvI (zAP s)).length))] [] [(1100, 1, []), (1200, 1, pvI (zAP s))]) ?_ ?_
 · exact zAJ ⟨rfl, rfl, hp2, trivial⟩ trivial ⟨rfl, (congrArg (fun x => some (1, x)) hr1), trivial⟩ rfl
 refine zAB ?_
 refine zAB (zAA rfl (.a rfl rfl .nil) ?_)
 refine zAS ?_
 refine zAY (zBi 1100 1 rfl rfl (by decide)) ?_
 refine zAp (σ := Nat) (fun i => mk [(0, .p none (.sl false 4 (pvE l))), (5, .sl 1 0 ((pvI (zBK l (zAP s) i)).length)), (6, .sl 1200 0 ((pvI (zAP s)).length)), (7, .vi (i:Int))] [] [(1, 1, pvI (zBK l (zAP s) i)), (1200, 1, pvI (zAP s))]) (fun i => i ≤ l.length) (fun i => l.length - i) 0 (by simp) (zAJ ⟨rfl, rfl, rfl, (zAL (by omega)), trivial⟩ trivial ⟨(congrArg (fun x => some (1, x)) (by rfl)), rfl, trivial⟩ rfl) ?_
 rintro i hG
 replace hG : i ≤ l.length := hG
 have hnl := zDJ l (zAP s) i
 have hle3 := zAT (zBK l (zAP s) i)
 refine zAB ?_
 refine zAB (zAA rfl (.m rfl rfl (.m rfl rfl (.r rfl (zAX rfl rfl underlying24) (.r rfl (zA4 rfl rfl rfl) .nil)))) ?_)
 refine zAZ (t := decide ((i:Int) < ((pvE l).length : Int))) rfl (fun h3 => ?_) (fun h3 => ?_)
 ·
  replace h3 := of_decide_eq_true h3
  refine zAM ?_
  refine zAB ?_
  refine zAS ?_
  refine zAB ?_
  obtain ⟨e, he⟩ : ∃ e, l[i]? = some e := ⟨_, List.getElem?_eq_getElem (by omega)⟩
  have hlte := (List.getElem?_eq_some_iff.1 he).1
  refine zAA rfl (.a rfl rfl .nil) ?_
  refine zAB ?_
  refine zAB (zAA rfl (.a rfl rfl .nil) ?_)
  refine zAS ?_
  refine zAp (σ := Nat × Bool) (fun (k, nb) => mk [(0, .p none (.sl false 4 (pvE l))), (5, .sl 1 0 ((pvI (zBK l (zAP s) i)).length)), (6, .sl 1200 0 ((pvI (zAP s)).length)), (7, .vi (i:Int)), (8, .vb nb), (9, .vi (k:Int))] [] [(1, 1, pvI (zBK l (zAP s) i)), (1200, 1, pvI (zAP s))]) (fun (k, nb) => k ≤ (zAP s).length ∧ nb = ((zAP s).take k).any (zEH l i e)) (fun (k, nb) => (zAP s).length - k) (0, false) ⟨Nat.zero_le _, rfl⟩ (zAJ ⟨rfl, rfl, rfl, rfl, rfl, (zAL (by omega)), trivial⟩ trivial ⟨rfl, rfl, trivial⟩ rfl) ?_
  rintro ⟨k, nb⟩ hG
  replace hG : k ≤ (zAP s).length ∧ nb = ((zAP s).take k).any (zEH l i e) := hG
  obtain ⟨hk, hN⟩ := hG
  refine zAB ?_
  refine zAB (zAA rfl (.m rfl rfl (.m rfl rfl (.r rfl (zAy rfl rfl underlying26) (.r rfl (zA4 rfl rfl rfl) .nil)))) ?_)
  refine zAZ (t := decide ((k:Int) < ((pvI (zAP s)).length : Int))) rfl (fun h4 => ?_) (fun h4 => ?_)
  ·
   replace h4 := of_decide_eq_true h4
   refine zAM ?_
   refine zAB ?_
   refine zAS ?_
   refine zAB ?_
   refine zAB ?_
   obtain ⟨e2, he2⟩ : ∃ e, (zAP s)[k]? = some e := ⟨_, List.getElem?_eq_getElem (by (have hL := zAT (zAP s); omega))⟩
   have hlte2 := (List.getElem?_eq_some_iff.1 he2).1
   refine zAc zBL rfl (.m rfl rfl (.m rfl rfl (.r rfl (zAh rfl rfl rfl underlying24 sizeOf56 rfl (by omega) (zA0 he)) (.r rfl (zAo rfl rfl underlying56 rfl sizeOf54 (by decide)) (.r rfl (zAo rfl rfl underlying54 rfl sizeOf2 (by decide)) (.r rfl (zAg rfl rfl isAgg2 rfl) (.m rfl rfl (.m rfl rfl (.r rfl (zAe k rfl rfl rfl rfl underlying26 sizeOf2 rfl rfl (by omega)) (.r rfl (zA6 rfl rfl rfl (zB0 he2) isAgg2 rfl) (.r rfl (zBN rfl rfl rfl) .nil))))))))))) (by kernel_rfl) ?_
   refine zAZ (t := decide (e2 < e.seq)) rfl (fun h5 => ?_) (fun h5 => ?_)
   ·
    replace h5 := of_decide_eq_true h5
    refine zAx ?_
    refine zAY (s' := mk [(0, .p none (.sl false 4 (pvE l))), (5, .sl 1 0 ((pvI (zBK l (zAP s) i)).length)), (6, .sl 1200 0 ((pvI (zAP s)).length)), (7, .vi (i:Int)), (8, .vb nb), (9, .vi (k:Int))] [] [(1, 1, pvI (zBK l (zAP s) i)), (1200, 1, pvI (zAP s))]) ?_ ?_
    · exact zAJ ⟨rfl, rfl, rfl, rfl, rfl, rfl, trivial⟩ trivial ⟨rfl, rfl, trivial⟩ rfl
    refine zAA rfl (.m rfl rfl (.r rfl (zAf rfl rfl rfl (by omega)) (.a rfl rfl .nil))) ?_
    refine nxt (Q := fun _ _ => False) (z := (k, nb)) (k + 1, nb) ?_ ?_ ?_
    ·
     show (k + 1) ≤ (zAP s).length ∧ nb = ((zAP s).take (k + 1)).any (zEH l i e)
     exact ⟨by omega, by rw [zEE _ he2, ← hN, zP8 h5]; simp⟩
    ·
     show (zAP s).length - (k + 1) < (zAP s).length - k
     omega
    · exact zAJ ⟨rfl, rfl, rfl, rfl, rfl, (zAL (by omega)), trivial⟩ trivial ⟨rfl, rfl, trivial⟩ rfl
   ·
    replace h5 := of_decide_eq_false h5
    refine zAM ?_
    refine zAB ?_
    refine zAY (s' := mk [(0, .p none (.sl false 4 (pvE l))), (5, .sl 1 0 ((pvI (zBK l (zAP s) i)).length)), (6, .sl 1200 0 ((pvI (zAP s)).length)), (7, .vi (i:Int)), (8, .vb nb), (9, .vi (k:Int))] [] [(1, 1, pvI (zBK l (zAP s) i)), (1200, 1, pvI (zAP s))]) ?_ ?_
    · exact zAJ ⟨rfl, rfl, rfl, rfl, rfl, rfl, trivial⟩ trivial ⟨rfl, rfl, trivial⟩ rfl
    rcases bfc (decide ((i:Int) = 0)) with h6 | h6
    ·
     have h6' := h6
     replace h6' := of_decide_eq_false h6'
     obtain ⟨e3, he3⟩ : ∃ e, l[(i - 1 : Nat)]? = some e := ⟨_, List.getElem?_eq_getElem (by (have hL := zAF l; omega))⟩
     have hlte3 := (List.getElem?_eq_some_iff.1 he3).1
     rcases bfc (!(decide (e3.user = e.user))) with h7 | h7
     ·
      have h7' := h7
      replace h7' : e3.user = e.user := of_decide_eq_true (zBG h7')
      refine zAc zBL rfl (.m rfl rfl (.r rfl (zAW (zA8 rfl rfl rfl) (by exact congrArg (fun b => AV.p none (.v (.bool b))) h6)) (.m rfl rfl (.m rfl rfl (.m rfl rfl (.r rfl (zAW (zAv rfl rfl rfl (by omega)) (((show (AV.p none (.v (.int .i64 ((i:Int) - 1)))) = AV.p none (.v (.int .i64 ((i - 1 : Nat) : Int))) from zAL (by omega))))) (.r rfl (zAh rfl rfl rfl underlying24 sizeOf56 rfl (by omega) (zA0 he3)) (.r rfl (zAo rfl rfl underlying56 rfl sizeOf54 (by decide)) (.r rfl (zAo rfl rfl underlying54 rfl sizeOf9 (by decide)) (.r rfl (zAg rfl rfl isAgg9 rfl) (.m rfl rfl (.m rfl rfl (.r rfl (zAh rfl rfl rfl underlying24 sizeOf56 rfl (by omega) (zA0 he)) (.r rfl (zAo rfl rfl underlying56 rfl sizeOf54 (by decide)) (.r rfl (zAo rfl rfl underlying54 rfl sizeOf9 (by decide)) (.r rfl (zAg rfl rfl isAgg9 rfl) (.r rfl (zAW (zFv rfl rfl rfl) (by exact congrArg (fun b => AV.p none (.v (.bool b))) h7)) (.r rfl (zAU (t := false) rfl rfl) (.m rfl rfl (.m rfl rfl (.m rfl rfl (.r rfl (zAW (zAv rfl rfl rfl (by omega)) (((show (AV.p none (.v (.int .i64 ((i:Int) - 1)))) = AV.p none (.v (.int .i64 ((i - 1 : Nat) : Int))) from zAL (by omega))))) (.r rfl (zAh rfl rfl rfl underlying24 sizeOf56 rfl (by omega) (zA0 he3)) (.r rfl (zAo rfl rfl underlying56 rfl sizeOf54 (by decide)) (.r rfl (zAo rfl rfl underlying54 rfl sizeOf2 (by decide)) (.r rfl (zAg rfl rfl isAgg2 rfl) (.m rfl rfl (.m rfl rfl (.r rfl (zAe k rfl rfl rfl rfl underlying26 sizeOf2 rfl rfl (by omega)) (.r rfl (zA6 rfl rfl rfl (zB0 he2) isAgg2 rfl) (.r rfl (zBN rfl rfl rfl) (.r rfl (zAU (t := false) rfl rfl) (.a rfl rfl .nil))))))))))))))))))))))))))))))))) (by kernel_rfl) ?_
      refine zAY (s' := mk [(0, .p none (.sl false 4 (pvE l))), (5, .sl 1 0 ((pvI (zBK l (zAP s) i)).length)), (6, .sl 1200 0 ((pvI (zAP s)).length)), (7, .vi (i:Int)), (8, .vb nb), (9, .vi (k:Int)), (10, .vb (decide (e2 < e3.seq))), (43, .p none (.sl false 4 (pvE l))), (44, .vi (i:Int)), (45, .vi ((i - 1 : Nat):Int)), (46, .fea none [PV.v (.string e3.user), PV.v (.int .i64 e3.seq), PV.v (.int .i64 e3.kind), PV.v (.string e3.value)]), (47, .fea none [PV.v (.string e3.user), PV.v (.int .i64 e3.seq), PV.v (.int .i64 e3.kind), PV.v (.string e3.value)]), (48, .fea none [PV.v (.string e3.user), PV.v (.int .i64 e3.seq), PV.v (.int .i64 e3.kind), PV.v (.string e3.value)]), (49, .vs e3.user), (50, .p none (.sl false 4 (pvE l))), (51, .vi (i:Int)), (52, .fea none [PV.v (.string e.user), PV.v (.int .i64 e.seq), PV.v (.int .i64 e.kind), PV.v (.string e.value)]), (53, .fea none [PV.v (.string e.user), PV.v (.int .i64 e.seq), PV.v (.int .i64 e.kind), PV.v (.string e.value)]), (54, .fea none [PV.v (.string e.user), PV.v (.int .i64 e.seq), PV.v (.int .i64 e.kind), PV.v (.string e.value)]), (55, .vs e.user), (56, .vb false), (59, .p none (.sl false 4 (pvE l))), (60, .vi (i:Int)), (61, .vi ((i - 1 : Nat):Int)), (62, .fea none [PV.v (.string e3.user), PV.v (.int .i64 e3.seq), PV.v (.int .i64 e3.kind), PV.v (.string e3.value)]), (63, .fea none [PV.v (.string e3.user), PV.v (.int .i64 e3.seq), PV.v (.int .i64 e3.kind), PV.v (.string e3.value)]), (64, .fea none [PV.v (.int .i64 e3.seq), PV.v (.int .i64 e3.kind), PV.v (.string e3.value)]), (65, .vi e3.seq), (66, .sl 1200 0 ((pvI (zAP s)).length)), (67, .vi (k:Int)), (68, .ea 1200 k 0), (69, .vi e2), (70, .vb (decide (e2 < e3.seq)))] [] [(1, 1, pvI (zBK l (zAP s) i)), (1200, 1, pvI (zAP s))]) ?_ ?_
      · exact zAJ ⟨rfl, rfl, rfl, rfl, rfl, rfl, rfl, rfl, rfl, rfl, rfl, rfl, rfl, rfl, rfl, rfl, rfl, rfl, rfl, rfl, rfl, rfl, rfl, rfl, rfl, rfl, rfl, rfl, rfl, rfl, rfl, rfl, rfl, trivial⟩ trivial ⟨rfl, rfl, trivial⟩ rfl
      rcases bfc nb with h8 | h8
      ·
       have h8' := h8
       refine zAA rfl (.r rfl (zAW (zBJ rfl) (by exact congrArg (fun b => AV.p none (.v (.bool b))) h8)) (.m rfl rfl (.m rfl rfl (.r rfl (zAU (t := false) rfl rfl) (.a rfl rfl .nil))))) ?_
       refine zAA rfl (.m rfl rfl (.r rfl (zAf rfl rfl rfl (by omega)) (.a rfl rfl .nil))) ?_
       refine nxt (Q := fun _ _ => False) (z := (k, nb)) (k + 1, decide (e2 < e3.seq)) ?_ ?_ ?_
       ·
        show (k + 1) ≤ (zAP s).length ∧ (decide (e2 < e3.seq)) = ((zAP s).take (k + 1)).any (zEH l i e)
        exact ⟨by omega, by rw [zEE _ he2, ← hN, zJw h5 h6' he3 h7', h8]; simp⟩
       ·
        show (zAP s).length - (k + 1) < (zAP s).length - k
        omega
       · exact zAJ ⟨rfl, rfl, rfl, rfl, rfl, (zAL (by omega)), trivial⟩ trivial ⟨rfl, rfl, trivial⟩ rfl
      ·
       have h8' := h8
       refine zAA rfl (.r rfl (zAW (zBJ rfl) (by exact congrArg (fun b => AV.p none (.v (.bool b))) h8)) (.m rfl rfl (.not rfl (.r rfl (zAU (t := true) rfl rfl) (.a rfl rfl .nil))))) ?_
       refine zAA rfl (.m rfl rfl (.r rfl (zAf rfl rfl rfl (by omega)) (.a rfl rfl .nil))) ?_
       refine nxt (Q := fun _ _ => False) (z := (k, nb)) (k + 1, true) ?_ ?_ ?_
       ·
        show (k + 1) ≤ (zAP s).length ∧ true = ((zAP s).take (k + 1)).any (zEH l i e)
        exact ⟨by omega, by rw [zEE _ he2, ← hN, zJw h5 h6' he3 h7', h8]; simp⟩
       ·
        show (zAP s).length - (k + 1) < (zAP s).length - k
        omega
       · exact zAJ ⟨rfl, rfl, rfl, rfl, rfl, (zAL (by omega)), trivial⟩ trivial ⟨rfl, rfl, trivial⟩ rfl
     ·
      have h7' := h7
      replace h7' : ¬ (e3.user = e.user) := of_decide_eq_false (zBF h7')
      refine zAc zBL rfl (.m rfl rfl (.r rfl (zAW (zA8 rfl rfl rfl) (by exact congrArg (fun b => AV.p none (.v (.bool b))) h6)) (.m rfl rfl (.m rfl rfl (.m rfl rfl (.r rfl (zAW (zAv rfl rfl rfl (by omega)) (((show (AV.p none (.v (.int .i64 ((i:Int) - 1)))) = AV.p none (.v (.int .i64 ((i - 1 : Nat) : Int))) from zAL (by omega))))) (.r rfl (zAh rfl rfl rfl underlying24 sizeOf56 rfl (by omega) (zA0 he3)) (.r rfl (zAo rfl rfl underlying56 rfl sizeOf54 (by decide)) (.r rfl (zAo rfl rfl underlying54 rfl sizeOf9 (by decide)) (.r rfl (zAg rfl rfl isAgg9 rfl) (.m rfl rfl (.m rfl rfl (.r rfl (zAh rfl rfl rfl underlying24 sizeOf56 rfl (by omega) (zA0 he)) (.r rfl (zAo rfl rfl underlying56 rfl sizeOf54 (by decide)) (.r rfl (zAo rfl rfl underlying54 rfl sizeOf9 (by decide)) (.r rfl (zAg rfl rfl isAgg9 rfl) (.r rfl (zAW (zFv rfl rfl rfl) (by exact congrArg (fun b => AV.p none (.v (.bool b))) h7)) (.r rfl (zAU (t := false) rfl rfl) (.m rfl rfl (.not rfl (.not rfl (.not rfl (.not rfl (.not rfl (.not rfl (.not rfl (.not rfl (.not rfl (.not rfl (.not rfl (.not rfl (.r rfl (zAU (t := true) rfl rfl) (.a rfl rfl .nil))))))))))))))))))))))))))))))))) (by kernel_rfl) ?_
      refine zAY (s' := mk [(0, .p none (.sl false 4 (pvE l))), (5, .sl 1 0 ((pvI (zBK l (zAP s) i)).length)), (6, .sl 1200 0 ((pvI (zAP s)).length)), (7, .vi (i:Int)), (8, .vb nb), (9, .vi (k:Int)), (10, .vb true), (43, .p none (.sl false 4 (pvE l))), (44, .vi (i:Int)), (45, .vi ((i - 1 : Nat):Int)), (46, .fea none [PV.v (.string e3.user), PV.v (.int .i64 e3.seq), PV.v (.int .i64 e3.kind), PV.v (.string e3.value)]), (47, .fea none [PV.v (.string e3.user), PV.v (.int .i64 e3.seq), PV.v (.int .i64 e3.kind), PV.v (.string e3.value)]), (48, .fea none [PV.v (.string e3.user), PV.v (.int .i64 e3.seq), PV.v (.int .i64 e3.kind), PV.v (.string e3.value)]), (49, .vs e3.user), (50, .p none (.sl false 4 (pvE l))), (51, .vi (i:Int)), (52, .fea none [PV.v (.string e.user), PV.v (.int .i64 e.seq), PV.v (.int .i64 e.kind), PV.v (.string e.value)]), (53, .fea none [PV.v (.string e.user), PV.v (.int .i64 e.seq), PV.v (.int .i64 e.kind), PV.v (.string e.value)]), (54, .fea none [PV.v (.string e.user), PV.v (.int .i64 e.seq), PV.v (.int .i64 e.kind), PV.v (.string e.value)]), (55, .vs e.user), (56, .vb true)] [] [(1, 1, pvI (zBK l (zAP s) i)), (1200, 1, pvI (zAP s))]) ?_ ?_
      · exact zAJ ⟨rfl, rfl, rfl, rfl, rfl, rfl, rfl, rfl, rfl, rfl, rfl, rfl, rfl, rfl, rfl, rfl, rfl, rfl, rfl, rfl, rfl, trivial⟩ trivial ⟨rfl, rfl, trivial⟩ rfl
      rcases bfc nb with h9 | h9
      ·
       have h9' := h9
       refine zAA rfl (.r rfl (zAW (zBJ rfl) (by exact congrArg (fun b => AV.p none (.v (.bool b))) h9)) (.m rfl rfl (.m rfl rfl (.r rfl (zAU (t := false) rfl rfl) (.a rfl rfl .nil))))) ?_
       refine zAA rfl (.m rfl rfl (.r rfl (zAf rfl rfl rfl (by omega)) (.a rfl rfl .nil))) ?_
       refine nxt (Q := fun _ _ => False) (z := (k, nb)) (k + 1, true) ?_ ?_ ?_
       ·
        show (k + 1) ≤ (zAP s).length ∧ true = ((zAP s).take (k + 1)).any (zEH l i e)
        exact ⟨by omega, by rw [zEE _ he2, ← hN, zH8 h5 he3 h7', h9]; simp⟩
       ·
        show (zAP s).length - (k + 1) < (zAP s).length - k
        omega
       · exact zAJ ⟨rfl, rfl, rfl, rfl, rfl, (zAL (by omega)), trivial⟩ trivial ⟨rfl, rfl, trivial⟩ rfl
      ·
       have h9' := h9
       refine zAA rfl (.r rfl (zAW (zBJ rfl) (by exact congrArg (fun b => AV.p none (.v (.bool b))) h9)) (.m rfl rfl (.not rfl (.r rfl (zAU (t := true) rfl rfl) (.a rfl rfl .nil))))) ?_
       refine zAA rfl (.m rfl rfl (.r rfl (zAf rfl rfl rfl (by omega)) (.a rfl rfl .nil))) ?_
       refine nxt (Q := fun _ _ => False) (z := (k, nb)) (k + 1, true) ?_ ?_ ?_
       ·
        show (k + 1) ≤ (zAP s).length ∧ true = ((zAP s).take (k + 1)).any (zEH l i e)
        exact ⟨by omega, by rw [zEE _ he2, ← hN, zH8 h5 he3 h7', h9]; simp⟩
       ·
        show (zAP s).length - (k + 1) < (zAP s).length - k
        omega
       · exact zAJ ⟨rfl, rfl, rfl, rfl, rfl, (zAL (by omega)), trivial⟩ trivial ⟨rfl, rfl, trivial⟩ rfl
    ·
     have h6' := h6
     replace h6' := of_decide_eq_true h6'
     refine zAc zBL rfl (.m rfl rfl (.r rfl (zAW (zA8 rfl rfl rfl) (by exact congrArg (fun b => AV.p none (.v (.bool b))) h6)) (.m rfl rfl (.not rfl (.not rfl (.not rfl (.not rfl (.not rfl (.not rfl (.not rfl (.not rfl (.not rfl (.not rfl (.not rfl (.not rfl (.not rfl (.not rfl (.r rfl (zAU (t := true) rfl rfl) (.m rfl rfl (.not rfl (.not rfl (.not rfl (.not rfl (.not rfl (.not rfl (.not rfl (.not rfl (.not rfl (.not rfl (.not rfl (.not rfl (.r rfl (zAU (t := true) rfl rfl) (.a rfl rfl .nil))))))))))))))))))))))))))))))))) (by kernel_rfl) ?_
     refine zAY (s' := mk [(0, .p none (.sl false 4 (pvE l))), (5, .sl 1 0 ((pvI (zBK l (zAP s) i)).length)), (6, .sl 1200 0 ((pvI (zAP s)).length)), (7, .vi (i:Int)), (8, .vb nb), (9, .vi (k:Int)), (10, .vb true)] [] [(1, 1, pvI (zBK l (zAP s) i)), (1200, 1, pvI (zAP s))]) ?_ ?_
     · exact zAJ ⟨rfl, rfl, rfl, rfl, rfl, rfl, rfl, trivial⟩ trivial ⟨rfl, rfl, trivial⟩ rfl
     rcases bfc nb with h10 | h10
     ·
      have h10' := h10
      refine zAA rfl (.r rfl (zAW (zBJ rfl) (by exact congrArg (fun b => AV.p none (.v (.bool b))) h10)) (.m rfl rfl (.m rfl rfl (.r rfl (zAU (t := false) rfl rfl) (.a rfl rfl .nil))))) ?_
      refine zAA rfl (.m rfl rfl (.r rfl (zAf rfl rfl rfl (by omega)) (.a rfl rfl .nil))) ?_
      refine nxt (Q := fun _ _ => False) (z := (k, nb)) (k + 1, true) ?_ ?_ ?_
      ·
       show (k + 1) ≤ (zAP s).length ∧ true = ((zAP s).take (k + 1)).any (zEH l i e)
       exact ⟨by omega, by rw [zEE _ he2, ← hN, zH7 h5 h6', h10]; simp⟩
      ·
       show (zAP s).length - (k + 1) < (zAP s).length - k
       omega
      · exact zAJ ⟨rfl, rfl, rfl, rfl, rfl, (zAL (by omega)), trivial⟩ trivial ⟨rfl, rfl, trivial⟩ rfl
     ·
      have h10' := h10
      refine zAA rfl (.r rfl (zAW (zBJ rfl) (by exact congrArg (fun b => AV.p none (.v (.bool b))) h10)) (.m rfl rfl (.not rfl (.r rfl (zAU (t := true) rfl rfl) (.a rfl rfl .nil))))) ?_
      refine zAA rfl (.m rfl rfl (.r rfl (zAf rfl rfl rfl (by omega)) (.a rfl rfl .nil))) ?_
      refine nxt (Q := fun _ _ => False) (z := (k, nb)) (k + 1, true) ?_ ?_ ?_
      ·
       show (k + 1) ≤ (zAP s).length ∧ true = ((zAP s).take (k + 1)).any (zEH l i e)
       exact ⟨by omega, by rw [zEE _ he2, ← hN, zH7 h5 h6', h10]; simp⟩
      ·
       show (zAP s).length - (k + 1) < (zAP s).length - k
       omega
      · exact zAJ ⟨rfl, rfl, rfl, rfl, rfl, (zAL (by omega)), trivial⟩ trivial ⟨rfl, rfl, trivial⟩ rfl
  ·
   replace h4 := of_decide_eq_false h4
   refine zAx ?_
   refine zAB ?_
   have hnp0 : nb = zEo l (zAP s) i e := by rw [hN, zOP, List.take_of_length_le (by omega)]
   refine zAA rfl (.m rfl rfl .nil) ?_
   refine zAZ (t := nb) rfl (fun h11 => ?_) (fun h11 => ?_)
   ·
    have hnp : zEo l (zAP s) i e = true := by rw [← hnp0]; exact h11
    refine zAA rfl (.m rfl rfl (.m rfl rfl (.run [7900] [] rfl (zAR rfl 7900 underlying26 inf2 (nle rfl) (by decide) rfl rfl rfl (.cons .v .nil) (by decide) rfl (by decide) rfl (by decide) rfl) (.run [1] [] rfl (zAu rfl 1 (ib := 1) (len := ((pvI (zBK l (zAP s) i)) ++ [[PV.v (.int .i64 (i:Int))]]).length) rfl rfl (.row (len := (pvI (zBK l (zAP s) i)).length) (xs := pvI (zBK l (zAP s) i)) rfl rfl (.inl rfl)) (.give (len := 1) (xs := [[PV.v (.int .i64 (i:Int))]]) rfl rfl) underlying26 (sk underlying26 rfl) inf2 rfl (by decide) (by decide) (by decide) List.length_append (by simp only [maxLen, List.length_append, List.length_cons, List.length_nil, zAT]; omega) (by simp only [maxLen, List.length_append, List.length_cons, List.length_nil, zAT]; omega)) (.a rfl rfl .nil))))) ?_
    have hr12 : (pvI (zBK l (zAP s) i)) ++ [[PV.v (.int .i64 (i:Int))]] = pvI (zBK l (zAP s) (i + 1)) := by rw [zI0 he hnp]; exact zL7 _ _
    have hp13 : (.sl 1 0 (((pvI (zBK l (zAP s) i)) ++ [[PV.v (.int .i64 (i:Int))]]).length) : AV) = .sl 1 0 ((pvI (zBK l (zAP s) (i + 1))).length) := by simp only [hr12]
    refine zAY (s' := mk [(0, .p none (.sl false 4 (pvE l))), (5, .sl 1 0 ((pvI (zBK l (zAP s) (i + 1))).length)), (6, .sl 1200 0 ((pvI (zAP s)).length)), (7, .vi (i:Int))] [] [(1, 1, pvI (zBK l (zAP s) (i + 1))), (1200, 1, pvI (zAP s))]) ?_ ?_
    · exact zAJ ⟨rfl, hp13, rfl, rfl, trivial⟩ trivial ⟨(congrArg (fun x => some (1, x)) hr12), rfl, trivial⟩ rfl
    refine zAA rfl (.m rfl rfl (.r rfl (zAf rfl rfl rfl (by omega)) (.a rfl rfl .nil))) ?_
    refine nxt (Q := fun _ _ => False) (z := i) (i + 1) ?_ ?_ ?_
    ·
     show (i + 1) ≤ l.length
     omega
    ·
     show l.length - (i + 1) < l.length - i
     omega
    · exact zAJ ⟨rfl, rfl, rfl, (zAL (by omega)), trivial⟩ trivial ⟨rfl, rfl, trivial⟩ rfl
   ·
    refine zAM ?_
    have hnp : zEo l (zAP s) i e = false := by rw [← hnp0]; exact h11
    refine zAA rfl (.m rfl rfl (.r rfl (zAf rfl rfl rfl (by omega)) (.a rfl rfl .nil))) ?_
    refine nxt (Q := fun _ _ => False) (z := i) (i + 1) ?_ ?_ ?_
    ·
     show (i + 1) ≤ l.length
     omega
    ·
     show l.length - (i + 1) < l.length - i
     omega
    · exact zAJ ⟨rfl, (congrArg (fun x => AV.sl 1 0 (pvI x).length) (zI1 he hnp).symm), rfl, (zAL (by omega)), trivial⟩ trivial ⟨(congrArg (fun x => some (1, x)) (by rw [zI1 he hnp])), rfl, trivial⟩ rfl
 ·
  replace h3 := of_decide_eq_false h3
  refine zAx ?_
  refine zAB ?_
  have hil : i = l.length := (by omega)
  rw [← hil]
  refine zAA rfl (.m rfl rfl (.a rfl rfl .nil)) ?_
  refine zAO ?_
  exact ends [_] [1] (.cons (.tmp rfl) .nil) (.cons (.one (.row (len := (pvI (zBK l (zAP s) i)).length) (xs := pvI (zBK l (zAP s) i)) rfl rfl) (.sl _ _ (FlatP.clean (zA3 _)))) .nil) (by decide) trivial
end Go.Rl
namespace Go.Rl
open Go.Proofs
end Go.Rl
namespace Go.Rl
open Go.Proofs
end Go.Rl
namespace Go.Rl
open Go.Proofs
def wE (e : Ent) : Nat := e.user.size + e.value.size
end Go.Rl
namespace Go.Rl
open Go.Proofs
def markE (k i : Nat) : Ent := ⟨markT (k + 4 * i), ((k + 4 * i : Nat) : Int) + 1, ((k + 4 * i : Nat) : Int) + 1 + 1, markT (k + 4 * i + 3)⟩
end Go.Rl
namespace Go.Rl
open Go.Proofs Go.Proofs.Tryz
set_option maxRecDepth 1000000
set_option maxHeartbeats 2000000
theorem inf9 : (Tryz.prog.info? 9).map (fun i => (i.zero, i.size, i.bytes)) = some (some (.string ⟨#[]⟩), 1, 16) := by kernel_rfl
theorem zKG (l : List ByteArray) (hl : l.length ≤ 2000000) : Con Tryz.prog 101 [.one (.sl true 1 (pvT l))] [none] [.one (.sl true 1 (pvT (zB9 l)))] := by
 refine zAQ func101 rfl rfl rfl rfl ?_
 have hle := zBo l
 refine zAB (zAA rfl (.a rfl rfl .nil) ?_)
 refine zAB ?_
 refine zAB (zAA rfl (.m rfl rfl (.r rfl (zAy rfl rfl underlying105) (.r rfl (zA4 rfl rfl rfl) .nil))) ?_)
 refine zAZ (t := decide (((pvT l).length : Int) < 2)) rfl (fun h1 => ?_) (fun h1 => ?_)
 ·
  replace h1 := of_decide_eq_true h1
  refine zAB ?_
  have hs : zB9 l = l := zOu (by omega)
  rw [hs]
  refine zAA rfl (.m rfl rfl (.a rfl rfl .nil)) ?_
  refine zAO ?_
  exact ends [_] [100000] (.cons (.tmp rfl) .nil) (.cons (.one (.row (len := (pvT l).length) (xs := pvT l) rfl rfl) (.sl _ _ (FlatP.clean (zEc _)))) .nil) (by decide) ⟨trivial, trivial⟩
 ·
  replace h1 := of_decide_eq_false h1
  refine zAM ?_
  refine zAB ?_
  refine zAB (zAA rfl (.a rfl rfl .nil) ?_)
  refine zAS ?_
  refine zAp (σ := Nat) (fun k => mk [(0, .sl 100000 0 ((pvT l).length)), (3, .vi (k:Int))] [] [(100000, 1, pvT l)]) (fun k => 1 ≤ k ∧ k ≤ l.length ∧ zAn l k = l.take k) (fun k => l.length - k) 1 ⟨Nat.le_refl _, by omega, cpt_one (by omega)⟩ (zAJ ⟨rfl, (zAL (by omega)), trivial⟩ trivial ⟨rfl, trivial⟩ rfl) ?_
  rintro k hG
  replace hG : 1 ≤ k ∧ k ≤ l.length ∧ zAn l k = l.take k := hG
  obtain ⟨h1k, hkl, hC⟩ := hG
  refine zAB ?_
  refine zAB (zAA rfl (.m rfl rfl (.m rfl rfl (.r rfl (zAy rfl rfl underlying105) (.r rfl (zA4 rfl rfl rfl) .nil)))) ?_)
  refine zAZ (t := decide ((k:Int) < ((pvT l).length : Int))) rfl (fun h2 => ?_) (fun h2 => ?_)
  ·
   replace h2 := of_decide_eq_true h2
   refine zAM ?_
   refine zAB ?_
   refine zAS ?_
   refine zAB ?_
   obtain ⟨e, he⟩ : ∃ e, l[k]? = some e := ⟨_, List.getElem?_eq_getElem (by (have hL := zBo l; omega))⟩
   have hlte := (List.getElem?_eq_some_iff.1 he).1
   obtain ⟨e2, he2⟩ : ∃ e, l[k - 1]? = some e := ⟨_, List.getElem?_eq_getElem (by (have hL := zBo l; omega))⟩
   have hlte2 := (List.getElem?_eq_some_iff.1 he2).1
   refine zAc zBL rfl (.m rfl rfl (.m rfl rfl (.r rfl (zAe k rfl rfl rfl rfl underlying105 sizeOf9 rfl rfl (by omega)) (.r rfl (zA6 rfl rfl rfl (zDc he) isAgg9 rfl) (.m rfl rfl (.m rfl rfl (.r rfl (zAW (zAv rfl rfl rfl (by omega)) ((show (AV.p none (.v (.int .i64 ((k:Int) - 1)))) = AV.p none (.v (.int .i64 ((k - 1 : Nat) : Int))) from zAL (by omega)))) (.r rfl (zAe (k - 1) rfl rfl rfl rfl underlying105 sizeOf9 rfl rfl (by omega)) (.r rfl (zA6 rfl rfl rfl (zDc he2) isAgg9 rfl) (.r rfl (zDC rfl rfl rfl) .nil)))))))))) (by kernel_rfl) ?_
   refine zAZ (t := decide (e = e2)) rfl (fun h3 => ?_) (fun h3 => ?_)
   ·
    replace h3 := of_decide_eq_true h3
    refine zAB ?_
    have hd0 : zAn l (k + 1) = zAn l k := zDZ h1k he2 he h3
    refine zAY (s' := mk [(0, .sl 100000 0 ((pvT l).length)), (3, .vi (k:Int))] [] [(100000, 1, pvT l)]) ?_ ?_
    · exact zAJ ⟨rfl, rfl, trivial⟩ trivial ⟨rfl, trivial⟩ rfl
    refine zAA rfl (.m rfl rfl (.m rfl rfl (.r rfl (zCF (l := k) (h := (pvT l).length) rfl rfl rfl underlying105 sizeOf9 (.at_ rfl rfl) .no (by omega) (Nat.le_refl _) rfl) (.a rfl rfl .nil)))) ?_
    refine zAB ?_
    refine zAB (zAA rfl (.a rfl rfl .nil) ?_)
    refine zAS ?_
    refine zAp (σ := Nat) (fun q => mk [(0, .sl 100000 0 ((pvT l).length)), (3, .vi ((zAn l (k + q)).length : Int)), (4, .sl 100000 k (((pvT l).length) - k)), (5, .vi (q:Int))] [] [(100000, 1, pvT (zAn l (k + q) ++ l.drop (zAn l (k + q)).length))]) (fun q => 1 ≤ q ∧ k + q ≤ l.length ∧ (zAn l (k + q)).length + 1 ≤ k + q) (fun q => l.length - q) 1 ⟨Nat.le_refl _, by omega, by rw [hd0, hC, List.length_take]; omega⟩ (zAJ ⟨rfl, (zAL (by rw [hd0, hC, List.length_take]; omega)), rfl, (zAL (by omega)), trivial⟩ trivial ⟨(congrArg (fun x => some (1, x)) (by rw [hd0, zOt hC hkl])), trivial⟩ rfl) ?_
    rintro q hG
    replace hG : 1 ≤ q ∧ k + q ≤ l.length ∧ (zAn l (k + q)).length + 1 ≤ k + q := hG
    obtain ⟨h1q, hql, hcq⟩ := hG
    have hlr := zBo (zAn l (k + q) ++ l.drop (zAn l (k + q)).length)
    have hlc : (zAn l (k + q) ++ l.drop (zAn l (k + q)).length).length = l.length := by rw [List.length_append, List.length_drop]; omega
    refine zAB ?_
    refine zAB (zAA rfl (.m rfl rfl (.m rfl rfl (.r rfl (zAy rfl rfl underlying105) (.r rfl (zA4 rfl rfl rfl) .nil)))) ?_)
    refine zAZ (t := decide ((q:Int) < ((((pvT l).length) - k : Nat) : Int))) rfl (fun h4 => ?_) (fun h4 => ?_)
    ·
     replace h4 := of_decide_eq_true h4
     refine zAM ?_
     refine zAB ?_
     refine zAS ?_
     refine zAB ?_
     obtain ⟨y, hy⟩ : ∃ y, l[k + q]? = some y := ⟨_, List.getElem?_eq_getElem (by omega)⟩
     obtain ⟨x, hx⟩ : ∃ x, l[k + (q - 1)]? = some x := ⟨_, List.getElem?_eq_getElem (by omega)⟩
     have hx2 : l[k + q - 1]? = some x := by rw [show k + q - 1 = k + (q - 1) by omega]; exact hx
     obtain ⟨w, hw⟩ : ∃ w, l[(zAn l (k + q)).length]? = some w := ⟨_, List.getElem?_eq_getElem (by omega)⟩
     refine zAc zBL rfl (.m rfl rfl (.m rfl rfl (.r rfl (zE1 q rfl rfl rfl rfl underlying105 sizeOf9 rfl rfl (by omega)) (.r rfl (zA6 rfl rfl rfl (by exact zDc (by rw [zJK (by omega)]; exact hy)) isAgg9 rfl) (.m rfl rfl (.m rfl rfl (.r rfl (zAW (zAv rfl rfl rfl (by omega)) ((show (AV.p none (.v (.int .i64 ((q:Int) - 1)))) = AV.p none (.v (.int .i64 ((q - 1 : Nat) : Int))) from zAL (by omega)))) (.r rfl (zE1 (q - 1) rfl rfl rfl rfl underlying105 sizeOf9 rfl rfl (by omega)) (.r rfl (zA6 rfl rfl rfl (by exact zDc (by rw [zJK (by omega)]; exact hx)) isAgg9 rfl) (.r rfl (zFv rfl rfl rfl) .nil)))))))))) (by kernel_rfl) ?_
     refine zAZ (t := (!(decide (y = x)))) rfl (fun h5 => ?_) (fun h5 => ?_)
     ·
      replace h5 : ¬ (y = x) := of_decide_eq_false (zBF h5)
      refine zAB ?_
      refine zAY (s' := mk [(0, .sl 100000 0 ((pvT l).length)), (3, .vi ((zAn l (k + q)).length : Int)), (4, .sl 100000 k (((pvT l).length) - k)), (5, .vi (q:Int))] [] [(100000, 1, pvT (zAn l (k + q) ++ l.drop (zAn l (k + q)).length))]) ?_ ?_
      · exact zAJ ⟨rfl, rfl, rfl, rfl, trivial⟩ trivial ⟨rfl, trivial⟩ rfl
      refine zAA rfl (.m rfl rfl (.m rfl rfl (.m rfl rfl (.m rfl rfl (.r rfl (zE1 q rfl rfl rfl rfl underlying105 sizeOf9 rfl rfl (by omega)) (.r rfl (zA6 rfl rfl rfl (by exact zDc (by rw [zJK (by omega)]; exact hy)) isAgg9 rfl) (.r rfl (zAe ((zAn l (k + q)).length) rfl rfl rfl rfl underlying105 sizeOf9 rfl rfl (by omega)) (.r rfl (zBR rfl rfl rfl (FlatP.nf (zEc _)) (by exact zDc (by rw [zJK (Nat.le_refl _)]; exact hw)) rfl rfl (.cons .v .nil) sizeOf9 rfl (nle rfl)) .nil)))))))) ?_
      refine zAA rfl (.m rfl rfl (.r rfl (zAf rfl rfl rfl (by omega)) (.a rfl rfl .nil))) ?_
      refine zAA rfl (.m rfl rfl (.r rfl (zAf rfl rfl rfl (by omega)) (.a rfl rfl .nil))) ?_
      refine nxt (Q := fun _ _ => False) (z := q) (q + 1) ?_ ?_ ?_
      ·
       show 1 ≤ (q + 1) ∧ k + (q + 1) ≤ l.length ∧ (zAn l (k + (q + 1))).length + 1 ≤ k + (q + 1)
       exact ⟨by omega, by omega, by rw [show k + (q + 1) = k + q + 1 from rfl, zDY hx2 hy h5]; simp only [List.length_append, List.length_cons, List.length_nil]; omega⟩
      ·
       show l.length - (q + 1) < l.length - q
       omega
      · exact zAJ ⟨rfl, (zAL (by rw [show k + (q + 1) = k + q + 1 from rfl, zDY hx2 hy h5]; simp)), rfl, (zAL (by omega)), trivial⟩ trivial ⟨(congrArg (fun x => some (1, x)) (by rw [show k + (q + 1) = k + q + 1 from rfl, zDY hx2 hy h5, ← cpt_set (by omega)]; simp [pvT, List.map_set, over])), trivial⟩ rfl
     ·
      replace h5 : y = x := of_decide_eq_true (zBG h5)
      refine zAM ?_
      refine zAY (s' := mk [(0, .sl 100000 0 ((pvT l).length)), (3, .vi ((zAn l (k + q)).length : Int)), (4, .sl 100000 k (((pvT l).length) - k)), (5, .vi (q:Int))] [] [(100000, 1, pvT (zAn l (k + q) ++ l.drop (zAn l (k + q)).length))]) ?_ ?_
      · exact zAJ ⟨rfl, rfl, rfl, rfl, trivial⟩ trivial ⟨rfl, trivial⟩ rfl
      refine zAA rfl (.m rfl rfl (.r rfl (zAf rfl rfl rfl (by omega)) (.a rfl rfl .nil))) ?_
      refine nxt (Q := fun _ _ => False) (z := q) (q + 1) ?_ ?_ ?_
      ·
       show 1 ≤ (q + 1) ∧ k + (q + 1) ≤ l.length ∧ (zAn l (k + (q + 1))).length + 1 ≤ k + (q + 1)
       exact ⟨by omega, by omega, by rw [show k + (q + 1) = k + q + 1 from rfl, zDZ (by omega) hx2 hy h5]; omega⟩
      ·
       show l.length - (q + 1) < l.length - q
       omega
      · exact zAJ ⟨rfl, (zAL (by rw [show k + (q + 1) = k + q + 1 from rfl, zDZ (by omega) hx2 hy h5])), rfl, (zAL (by omega)), trivial⟩ trivial ⟨(congrArg (fun x => some (1, x)) (by rw [show k + (q + 1) = k + q + 1 from rfl, zDZ (by omega) hx2 hy h5])), trivial⟩ rfl
    ·
     replace h4 := of_decide_eq_false h4
     refine zAx ?_
     refine zAB ?_
     have hlr0 := zBo (zAn l (k + q) ++ l.drop (zAn l (k + q)).length)
     have hlc0 : (zAn l (k + q) ++ l.drop (zAn l (k + q)).length).length = l.length := by rw [List.length_append, List.length_drop]; omega
     have hkq : k + q = l.length := (by omega)
     refine zAA rfl (.m rfl rfl (.m rfl rfl (.r rfl (zCF (l := (zAn l (k + q)).length) (h := (pvT l).length) rfl rfl rfl underlying105 sizeOf9 (.at_ rfl rfl) .no (by omega) (Nat.le_refl _) rfl) (.r rfl (zIi (lo := (zAn l (k + q)).length) (len := (pvT l).length - (zAn l (k + q)).length) rfl rfl rfl (zEc _) underlying105 inf9 rfl rfl (by rw [hlr0, hlc0]; omega)) .nil)))) ?_
     refine zAB ?_
     have hs : zB9 l = zAn l (k + q) := by rw [zB9, hkq]
     rw [hs]
     refine zAA rfl (.m rfl rfl (.m rfl rfl (.r rfl (zCF (l := 0) (h := (zAn l (k + q)).length) rfl rfl rfl underlying105 sizeOf9 .no (.at_ rfl rfl) (Nat.zero_le _) (by omega) rfl) (.a rfl rfl .nil)))) ?_
     refine zAO ?_
     exact ends [_] [100000] (.cons (.tmp rfl) .nil) (.cons (.one (gv_eq (.pre (len := ((zAn l (k + q)).length) - 0) (xs := (pvT (zAn l (k + q) ++ l.drop (zAn l (k + q)).length)).take (zAn l (k + q)).length ++ List.replicate ((pvT l).length - (zAn l (k + q)).length) [PV.v (.string ⟨#[]⟩)]) rfl (by rw [List.length_append, List.length_take, hlr0, List.length_replicate]; omega) zQU) (congrArg (PV.sl true 1) (cpt_row rfl))) (.sl _ _ (FlatP.clean (zEc _)))) .nil) (by decide) ⟨trivial, trivial⟩
   ·
    replace h3 := of_decide_eq_false h3
    refine zAM ?_
    refine zAY (s' := mk [(0, .sl 100000 0 ((pvT l).length)), (3, .vi (k:Int))] [] [(100000, 1, pvT l)]) ?_ ?_
    · exact zAJ ⟨rfl, rfl, trivial⟩ trivial ⟨rfl, trivial⟩ rfl
    refine zAA rfl (.m rfl rfl (.r rfl (zAf rfl rfl rfl (by omega)) (.a rfl rfl .nil))) ?_
    refine nxt (Q := fun _ _ => False) (z := k) (k + 1) ?_ ?_ ?_
    ·
     show 1 ≤ (k + 1) ∧ (k + 1) ≤ l.length ∧ zAn l (k + 1) = l.take (k + 1)
     exact ⟨by omega, by omega, zQT hC he2 he h3⟩
    ·
     show l.length - (k + 1) < l.length - k
     omega
    · exact zAJ ⟨rfl, (zAL (by omega)), trivial⟩ trivial ⟨rfl, trivial⟩ rfl
  ·
   replace h2 := of_decide_eq_false h2
   refine zAx ?_
   refine zAB ?_
   have hkk : k = l.length := (by omega)
   have hs : zB9 l = l := by rw [zB9, ← hkk, hC, List.take_of_length_le (by omega)]
   rw [hs]
   refine zAA rfl (.m rfl rfl (.a rfl rfl .nil)) ?_
   refine zAO ?_
   exact ends [_] [100000] (.cons (.tmp rfl) .nil) (.cons (.one (.row (len := (pvT l).length) (xs := pvT l) rfl rfl) (.sl _ _ (FlatP.clean (zEc _)))) .nil) (by decide) ⟨trivial, trivial⟩
end Go.Rl
namespace Go.Rl
open Go.Proofs Go.Proofs.Tryz
set_option maxRecDepth 1000000
set_option maxHeartbeats 2000000
theorem en101 : En Tryz.prog 101 := zAm func101 (by decide) rfl
def usrN (l : List Ent) (i : Nat) : List ByteArray := (l.take i).map fun e => e.user
theorem zPS {l : List Ent} {i : Nat} (h : i ≤ l.length) : (usrN l i).length = i := by simp [usrN]; omega
theorem zPT {l : List Ent} {i : Nat} (h : l.length ≤ i) : zB9 (usrN l i) = zAt l := by rw [usrN, List.take_of_length_le h]; rfl
theorem zJT (l : List Ent) (hl : l.length ≤ 2000000) : Con Tryz.prog 79 [.one (PV.sl false 4 (pvE l))] [] [.one (.sl true 1 (pvT (zAt l)))] := by
 refine zAQ func79 rfl rfl rfl rfl ?_
 have hle := zAF l
 refine zAB (zAA rfl (.a rfl rfl .nil) ?_)
 refine zAB (zAA rfl (.run [600] [] rfl (zAR rfl 600 underlying105 inf9 (nle rfl) (by decide) rfl rfl rfl .nil (by decide) rfl (by decide) rfl (by decide) rfl) (.a rfl rfl .nil)) ?_)
 refine zAB ?_
 refine zAB (zAA rfl (.m rfl rfl (.r rfl (zAX rfl rfl underlying24) (.m rfl rfl .nil))) ?_)
 refine zAS ?_
 refine zAY (zBi 600 1 rfl rfl (by decide)) ?_
 refine zAp (σ := Nat) (fun i => mk [(3, .sl 1 0 ((pvT (usrN l i)).length)), (7, .p none (.sl false 4 (pvE l))), (8, .vi ((pvE l).length : Int)), (9, .vi (i:Int))] [] [(1, 1, pvT (usrN l i))]) (fun i => i ≤ l.length) (fun i => l.length - i) 0 (by simp) (zAJ ⟨rfl, rfl, rfl, (zAL (by omega)), trivial⟩ trivial ⟨(congrArg (fun x => some (1, x)) (by rfl)), trivial⟩ rfl) ?_
 rintro i hG
 replace hG : i ≤ l.length := hG
 have hlu := zBo (usrN l i)
 have hun := zPS hG
 refine zAB (zAA rfl (.r rfl (zA4 rfl rfl rfl) .nil) ?_)
 refine zAB ?_
 refine zAZ (t := decide ((i:Int) < ((pvE l).length : Int))) rfl (fun h1 => ?_) (fun h1 => ?_)
 ·
  replace h1 := of_decide_eq_true h1
  refine zAM ?_
  refine zAB ?_
  refine zAS ?_
  refine zAB ?_
  obtain ⟨e, he⟩ : ∃ e, l[i]? = some e := ⟨_, List.getElem?_eq_getElem (by (have hL := zAF l; omega))⟩
  have hlte := (List.getElem?_eq_some_iff.1 he).1
  refine zAA rfl (.r rfl (zAh rfl rfl rfl underlying24 sizeOf56 rfl (by omega) (zA0 he)) (.r rfl (zA9 rfl rfl isAgg56 sizeOf56 (nle rfl)) (.run [] [5] rfl (zAj rfl 5 zBb rfl (by decide) rfl (by decide)) (.r rfl (zAE rfl rfl rfl rfl rfl sizeOf56 rfl (nle rfl)) .nil)))) ?_
  refine zAA rfl (.m rfl rfl (.r rfl (zAC rfl rfl underlying56 rfl sizeOf54 (by decide)) (.r rfl (zAC rfl rfl underlying54 rfl sizeOf9 (by decide)) (.r rfl (zAD rfl rfl rfl isAgg9 rfl) (.run [1700] [] rfl (zAR rfl 1700 underlying105 inf9 (nle rfl) (by decide) rfl rfl rfl (.cons .v .nil) (by decide) rfl (by decide) rfl (by decide) rfl) (.run [1] [] rfl (zAu rfl 1 (ib := 1) (len := ((pvT (usrN l i)) ++ [[PV.v (.string e.user)]]).length) rfl rfl (.row (len := (pvT (usrN l i)).length) (xs := pvT (usrN l i)) rfl rfl (.inl rfl)) (.give (len := 1) (xs := [[PV.v (.string e.user)]]) rfl rfl) underlying105 (sk underlying105 rfl) inf9 rfl (by decide) (by decide) (by decide) List.length_append (by simp only [maxLen, List.length_append, List.length_cons, List.length_nil, zBo]; omega) (by simp only [maxLen, List.length_append, List.length_cons, List.length_nil, zBo]; omega)) (.a rfl rfl .nil))))))) ?_
  have hr2 : (pvT (usrN l i)) ++ [[PV.v (.string e.user)]] = pvT (usrN l (i + 1)) := by simp [pvT, usrN, List.take_add_one, he]
  have hp3 : (.sl 1 0 (((pvT (usrN l i)) ++ [[PV.v (.string e.user)]]).length) : AV) = .sl 1 0 ((pvT (usrN l (i + 1))).length) := by simp only [hr2]
  refine zAY (s' := mk [(3, .sl 1 0 ((pvT (usrN l (i + 1))).length)), (7, .p none (.sl false 4 (pvE l))), (8, .vi ((pvE l).length : Int)), (9, .vi (i:Int))] [] [(1, 1, pvT (usrN l (i + 1)))]) ?_ ?_
  · exact zAJ ⟨hp3, rfl, rfl, rfl, trivial⟩ trivial ⟨(congrArg (fun x => some (1, x)) hr2), trivial⟩ rfl
  refine zAA rfl (.r rfl (zAf rfl rfl rfl (by omega)) (.m rfl rfl .nil)) ?_
  refine nxt (Q := fun _ _ => False) (z := i) (i + 1) ?_ ?_ ?_
  ·
   show (i + 1) ≤ l.length
   omega
  ·
   show l.length - (i + 1) < l.length - i
   omega
  · exact zAJ ⟨rfl, rfl, rfl, (zAL (by omega)), trivial⟩ trivial ⟨rfl, trivial⟩ rfl
 ·
  replace h1 := of_decide_eq_false h1
  refine zAx ?_
  refine zAB ?_
  rw [← zPT (i := i) (by omega)]
  refine zAA rfl (.m rfl rfl (.run [1, 2100] [] rfl (zAK rfl 2100 (X := [1]) en101 rfl (.val nod) (.cons (.one (.own (len := (pvT (usrN l i)).length) (xs := pvT (usrN l i)) rfl rfl)) .nil) (by decide) (all_cons rfl all_nil) (.gone .nil) (zKG (usrN l i) (by omega)) rfl rfl (nle rfl)) (.a rfl rfl .nil))) ?_
  refine zAO ?_
  exact ends [_] [2100] (.cons (.tmp rfl) .nil) (.cons (.one (.row (len := (pvT (zB9 (usrN l i))).length) (xs := pvT (zB9 (usrN l i))) rfl rfl) (.sl _ _ (FlatP.clean (zEc _)))) .nil) (by decide) trivial
end Go.Rl
namespace Go.Rl
def pvBo (l : List Bool) : List (List PV) := l.map fun b => [.v (.bool b)]
theorem zL8 {l : List Bool} {i : Nat} {e : Bool} (h : l[i]? = some e) : (pvBo l)[i]? = some [.v (.bool e)] := by simp [pvBo, h]
theorem zN9 (l : List Bool) : FlatP (pvBo l) := fun es he p hp => by
 obtain ⟨s, _, rfl⟩ := List.mem_map.1 he
 simp only [List.mem_singleton] at hp
 subst hp; rfl
def setK (n : List Bool) (j : Int) : List Bool := if 0 ≤ j then n.set j.toNat true else n
theorem zPe (n : List Bool) (j : Int) : (setK n j).length = n.length := by
 unfold setK
 split <;> simp
theorem zPf {n : List Bool} {j : Int} {k : Nat} : (setK n j)[k]? = (n[k]?).map fun b => b || decide (j = (k : Int)) := by
 unfold setK
 split
 ·
  rw [List.getElem?_set]
  by_cases hk : j.toNat = k
  ·
   have hj : j = (k : Int) := by omega
   rw [if_pos hk]
   by_cases hl : j.toNat < n.length
   ·
    rw [if_pos hl, List.getElem?_eq_getElem (by omega : k < n.length)]
    simp [hj]
   ·
    rw [if_neg hl, List.getElem?_eq_none (by omega)]
    rfl
  ·
   have hj : ¬ j = (k : Int) := by omega
   rw [if_neg hk]
   cases n[k]? <;> simp [hj]
 ·
  have hj : ¬ j = (k : Int) := by omega
  cases n[k]? <;> simp [hj]
def zDK (l : List Ent) (u : ByteArray) (ps : List Int) (n : List Bool) : List Bool := ps.foldl (fun n s => setK n (idxF (asOf u s) l)) n
theorem zF2 (l : List Ent) (u : ByteArray) : ∀ (ps : List Int) (n : List Bool), (zDK l u ps n).length = n.length
 | [], _ => rfl
 | s :: ps, n => by
  show (zDK l u ps (setK n (idxF (asOf u s) l))).length = n.length
  rw [zF2 l u ps, zPe]
theorem zID {l : List Ent} {u : ByteArray} {k : Nat} : ∀ {ps : List Int} {n : List Bool}, (zDK l u ps n)[k]? = (n[k]?).map fun b => b || ps.any fun s => decide (idxF (asOf u s) l = (k : Int))
 | [], n => by simp [zDK]
 | s :: ps, n => by
  show (zDK l u ps (setK n (idxF (asOf u s) l)))[k]? = _
  rw [zID, zPf]
  cases n[k]? <;> simp [Bool.or_assoc]
theorem zHC {l : List Ent} {u : ByteArray} {ps : List Int} {n : List Bool} {j : Nat} {s : Int} (h : ps[j]? = some s) : zDK l u (ps.take (j + 1)) n = setK (zDK l u (ps.take j) n) (idxF (asOf u s) l) := by
 simp [zDK, List.take_add_one, h]
def zC2 (l : List Ent) (ps : List Int) (us : List ByteArray) (n : List Bool) : List Bool := us.foldl (fun n u => zDK l u ps n) n
theorem zIB (l : List Ent) (ps : List Int) : ∀ (us : List ByteArray) (n : List Bool), (zC2 l ps us n).length = n.length
 | [], _ => rfl
 | u :: us, n => by
  show (zC2 l ps us (zDK l u ps n)).length = n.length
  rw [zIB l ps us, zF2]
theorem zIC {l : List Ent} {ps : List Int} {k : Nat} : ∀ {us : List ByteArray} {n : List Bool}, (zC2 l ps us n)[k]? = (n[k]?).map fun b => b || us.any fun u => ps.any fun s => decide (idxF (asOf u s) l = (k : Int))
 | [], n => by simp [zC2]
 | u :: us, n => by
  show (zC2 l ps us (zDK l u ps n))[k]? = _
  rw [zIC, zID]
  cases n[k]? <;> simp [Bool.or_assoc]
theorem zK6 {l : List Ent} {ps : List Int} {us : List ByteArray} {n : List Bool} {j : Nat} {u : ByteArray} (h : us[j]? = some u) : zC2 l ps (us.take (j + 1)) n = zDK l u ps (zC2 l ps (us.take j) n) := by
 simp [zC2, List.take_add_one, h]
def zMS (l : List Ent) (ps : List Int) : List Bool := zC2 l ps (zAt l) (List.replicate l.length false)
theorem zNH {l : List Ent} {ps : List Int} (h : zAr l = true) {k : Nat} {e : Ent} (he : l[k]? = some e) : (zMS l ps)[k]? = some (zEo l ps k e) := by
 have hlt := (List.getElem?_eq_some_iff.1 he).1
 rw [zMS, zIC, List.getElem?_replicate, if_pos hlt, zP6 h he]
 simp
end Go.Rl
namespace Go.Rl
open Go.Proofs Go.Proofs.Tryz
set_option maxRecDepth 1000000
set_option maxHeartbeats 2000000
theorem inf4 : (Tryz.prog.info? 4).map (fun i => (i.zero, i.size, i.bytes)) = some (some (.bool false), 1, 1) := by kernel_rfl
theorem en79 : En Tryz.prog 79 := zAm func79 (by decide) rfl
theorem en66 : En Tryz.prog 66 := zAm func66 (by decide) rfl
theorem en99 : En Tryz.prog 99 := zAm func99 (by decide) rfl
theorem zOa {α : Type} {p : α → Bool} {l : List α} (h : 0 ≤ idxF p l) : (idxF p l).toNat < l.length := by
 unfold idxF at h ⊢
 cases hf : l.findIdx? p with
 | none => rw [hf] at h; simp at h
 | some q => simp only [Int.toNat_natCast]; exact (List.findIdx?_eq_some_iff_getElem.1 hf).1
theorem bo_zero {l : List Ent} {s : List Int} : List.replicate (pvE l).length [PV.v (.bool false)] = pvBo (zC2 l (zAP s) ((zAt l).take 0) (List.replicate l.length false)) := by simp [pvBo, zC2, zAF]
theorem zFH (l : List Ent) : (zAt l).length ≤ l.length := by
 have h := zGI (l.map fun e => e.user) (l.map fun e => e.user).length
 rw [List.length_map] at h
 unfold zAt zB9
 rw [List.length_map]
 exact h
theorem zNC (l : List Ent) (s : List Int) (hl : l.length ≤ 2000000) (hs : s.length ≤ 2000000) (hok : zAr l = true) : Con Tryz.prog 70 [.one (PV.sl false 4 (pvE l)), .one (PV.sl false 1 (pvI s))] [] [.one (.sl true 1 (pvI (zBK l (zAP s) l.length)))] := by
 refine zAQ func70 rfl rfl rfl rfl ?_
 have hle := zAF l
 have hls := zAT s
 have hlp := zAT (zAP s)
 have hpl := zH1 s
 have hlu := zBo (zAt l)
 have hpp : (pvI s ++ [[PV.v (.int .i64 1000000000000)]]).length = (zAP s).length := by rw [zF0]; exact hlp
 have hul := zFH l
 refine zAB (zAA rfl (.a rfl rfl .nil) ?_)
 refine zAB (zAA rfl (.m rfl rfl (.r rfl (zAX rfl rfl underlying24) (.run [1600] [] rfl (st_make rfl 1600 (l := (pvE l).length) (c := (pvE l).length) rfl rfl underlying124 inf4 rfl rfl (by decide) rfl (by decide) (Nat.le_refl _) (by omega) (by simp only [maxLen]; omega)) (.a rfl rfl .nil)))) ?_)
 refine zAB ?_
 refine zAB (zAA rfl (.m rfl rfl (.run [1800] [] rfl (zAK rfl 1800 (X := []) en79 rfl (.val nod) (.cons (.one (.bor (.sl nod))) .nil) (by decide) all_nil .nil (zJT l (by omega)) rfl rfl (nle rfl)) (.r rfl (zAy rfl rfl underlying105) (.m rfl rfl .nil)))) ?_)
 refine zAS ?_
 refine zAp (σ := Nat) (fun a => mk [(0, .p none (.sl false 4 (pvE l))), (1, .p none (.sl false 1 (pvI s))), (5, .sl 1600 0 ((pvE l).length)), (18, .sl 1800 0 ((pvT (zAt l)).length)), (19, .vi ((pvT (zAt l)).length : Int)), (20, .vi (a:Int))] [] [(1600, 1, pvBo (zC2 l (zAP s) ((zAt l).take a) (List.replicate l.length false))), (1800, 1, pvT (zAt l))]) (fun a => a ≤ (zAt l).length) (fun a => (zAt l).length - a) 0 (by simp) (zAJ ⟨rfl, rfl, rfl, rfl, rfl, (zAL (by omega)), trivial⟩ trivial ⟨(congrArg (fun x => some (1, x)) (by exact bo_zero)), rfl, trivial⟩ rfl) ?_
 rintro a hG
 replace hG : a ≤ (zAt l).length := hG
 refine zAB (zAA rfl (.r rfl (zA4 rfl rfl rfl) .nil) ?_)
 refine zAB ?_
 refine zAZ (t := decide ((a:Int) < ((pvT (zAt l)).length : Int))) rfl (fun h1 => ?_) (fun h1 => ?_)
 ·
  replace h1 := of_decide_eq_true h1
  refine zAM ?_
  refine zAB ?_
  refine zAS ?_
  refine zAB ?_
  obtain ⟨e, he⟩ : ∃ e, (zAt l)[a]? = some e := ⟨_, List.getElem?_eq_getElem (by (have hL := zBo (zAt l); omega))⟩
  have hlte := (List.getElem?_eq_some_iff.1 he).1
  refine zAA rfl (.r rfl (zAe a rfl rfl rfl rfl underlying105 sizeOf9 rfl rfl (by omega)) (.r rfl (zA6 rfl rfl rfl (zDc he) isAgg9 rfl) (.a rfl rfl .nil))) ?_
  refine zAB (zAA rfl (.m rfl rfl (.run [2500] [] rfl (zAK rfl 2500 (X := []) en66 rfl (.val nod) (.cons (.one (.bor (.sl nod))) .nil) (by decide) all_nil .nil (zIR s (by omega)) rfl rfl (nle rfl)) (.run [2600] [] rfl (zAR rfl 2600 underlying26 inf2 (nle rfl) (by decide) rfl rfl rfl (.cons .v .nil) (by decide) rfl (by decide) rfl (by decide) rfl) (.run [2500] [] rfl (zAu rfl 2500 (ib := 2500) (len := ((pvI s) ++ [[PV.v (.int .i64 1000000000000)]]).length) rfl rfl (.row (len := (pvI s).length) (xs := pvI s) rfl rfl (.inl rfl)) (.give (len := 1) (xs := [[PV.v (.int .i64 1000000000000)]]) rfl rfl) underlying26 (sk underlying26 rfl) inf2 rfl (by decide) (by decide) (by decide) List.length_append (by simp only [maxLen, List.length_append, List.length_cons, List.length_nil, zAT]; omega) (by simp only [maxLen, List.length_append, List.length_cons, List.length_nil, zAT]; omega)) (.r rfl (zAy rfl rfl underlying26) (.m rfl rfl .nil)))))) ?_)
  have hr2 : (pvI s) ++ [[PV.v (.int .i64 1000000000000)]] = pvI (zAP s) := by exact zF0 s
  have hp3 : (.sl 2500 0 (((pvI s) ++ [[PV.v (.int .i64 1000000000000)]]).length) : AV) = .sl 2500 0 ((pvI (zAP s)).length) := by simp only [hr2]
  refine zAY (s' := mk [(0, .p none (.sl false 4 (pvE l))), (1, .p none (.sl false 1 (pvI s))), (5, .sl 1600 0 ((pvE l).length)), (7, .vs e), (18, .sl 1800 0 ((pvT (zAt l)).length)), (19, .vi ((pvT (zAt l)).length : Int)), (20, .vi (a:Int)), (27, .sl 2500 0 ((pvI (zAP s)).length)), (28, .vi (((pvI s) ++ [[PV.v (.int .i64 1000000000000)]]).length : Int)), (29, .vi 0)] [] [(1600, 1, pvBo (zC2 l (zAP s) ((zAt l).take a) (List.replicate l.length false))), (1800, 1, pvT (zAt l)), (2500, 1, pvI (zAP s))]) ?_ ?_
  · exact zAJ ⟨rfl, rfl, rfl, rfl, rfl, rfl, rfl, hp3, rfl, rfl, trivial⟩ trivial ⟨rfl, rfl, (congrArg (fun x => some (1, x)) hr2), trivial⟩ rfl
  refine zAS ?_
  refine zAp (σ := Nat) (fun b => mk [(0, .p none (.sl false 4 (pvE l))), (1, .p none (.sl false 1 (pvI s))), (5, .sl 1600 0 ((pvE l).length)), (7, .vs e), (18, .sl 1800 0 ((pvT (zAt l)).length)), (19, .vi ((pvT (zAt l)).length : Int)), (20, .vi (a:Int)), (27, .sl 2500 0 ((pvI (zAP s)).length)), (28, .vi (((pvI s) ++ [[PV.v (.int .i64 1000000000000)]]).length : Int)), (29, .vi (b:Int))] [] [(1600, 1, pvBo (zDK l e ((zAP s).take b) (zC2 l (zAP s) ((zAt l).take a) (List.replicate l.length false)))), (1800, 1, pvT (zAt l)), (2500, 1, pvI (zAP s))]) (fun b => b ≤ (zAP s).length) (fun b => (zAP s).length - b) 0 (by simp) (zAJ ⟨rfl, rfl, rfl, rfl, rfl, rfl, rfl, rfl, rfl, (zAL (by omega)), trivial⟩ trivial ⟨(congrArg (fun x => some (1, x)) (by rfl)), rfl, rfl, trivial⟩ rfl) ?_
  rintro b hG
  replace hG : b ≤ (zAP s).length := hG
  refine zAB (zAA rfl (.r rfl (zA4 rfl rfl rfl) .nil) ?_)
  refine zAB ?_
  refine zAZ (t := decide ((b:Int) < (((pvI s) ++ [[PV.v (.int .i64 1000000000000)]]).length : Int))) rfl (fun h4 => ?_) (fun h4 => ?_)
  ·
   replace h4 := of_decide_eq_true h4
   refine zAM ?_
   refine zAB ?_
   refine zAS ?_
   refine zAB ?_
   obtain ⟨e2, he2⟩ : ∃ e, (zAP s)[b]? = some e := ⟨_, List.getElem?_eq_getElem (by (have hL := zAT (zAP s); omega))⟩
   have hlte2 := (List.getElem?_eq_some_iff.1 he2).1
   refine zAA rfl (.r rfl (zAe b rfl rfl rfl rfl underlying26 sizeOf2 rfl rfl (by omega)) (.r rfl (zA6 rfl rfl rfl (zB0 he2) isAgg2 rfl) (.a rfl rfl .nil))) ?_
   refine zAB (zAA rfl (.m rfl rfl (.m rfl rfl (.m rfl rfl (.run [3600] [] rfl (zAK rfl 3600 (X := []) en99 rfl (.val nod) (.cons (.one (.bor (.sl nod))) (.cons (.one (.bor .v)) (.cons (.one (.bor .v)) .nil))) (by decide) all_nil .nil (zIE l e e2 (by omega)) rfl rfl (nle rfl)) (.a rfl rfl .nil))))) ?_)
   refine zAB (zAA rfl (.m rfl rfl (.r rfl (zCQ rfl rfl rfl) .nil)) ?_)
   refine zAZ (t := decide (0 ≤ (idxF (asOf e e2) l))) rfl (fun h5 => ?_) (fun h5 => ?_)
   ·
    replace h5 := of_decide_eq_true h5
    have hib := zOa h5
    obtain ⟨w, hw⟩ : ∃ w, (zDK l e ((zAP s).take b) (zC2 l (zAP s) ((zAt l).take a) (List.replicate l.length false)))[(idxF (asOf e e2) l).toNat]? = some w := ⟨_, List.getElem?_eq_getElem (by rw [zF2, zIB, List.length_replicate]; exact hib)⟩
    refine zAA rfl (.m rfl rfl (.m rfl rfl (.r rfl (zAe ((idxF (asOf e e2) l).toNat) rfl rfl rfl rfl underlying124 sizeOf4 rfl (by omega) (by omega)) (.r rfl (zBR rfl rfl rfl (FlatP.nf (zN9 _)) (by exact zL8 hw) rfl rfl (.cons .v .nil) sizeOf4 rfl (nle rfl)) .nil)))) ?_
    refine zAY (s' := mk [(0, .p none (.sl false 4 (pvE l))), (1, .p none (.sl false 1 (pvI s))), (5, .sl 1600 0 ((pvE l).length)), (7, .vs e), (18, .sl 1800 0 ((pvT (zAt l)).length)), (19, .vi ((pvT (zAt l)).length : Int)), (20, .vi (a:Int)), (27, .sl 2500 0 ((pvI (zAP s)).length)), (28, .vi (((pvI s) ++ [[PV.v (.int .i64 1000000000000)]]).length : Int)), (29, .vi (b:Int))] [] [(1600, 1, (pvBo (zDK l e ((zAP s).take b) (zC2 l (zAP s) ((zAt l).take a) (List.replicate l.length false)))).set ((idxF (asOf e e2) l).toNat) [PV.v (.bool true)]), (1800, 1, pvT (zAt l)), (2500, 1, pvI (zAP s))]) ?_ ?_
    · exact zAJ ⟨rfl, rfl, rfl, rfl, rfl, rfl, rfl, rfl, rfl, rfl, trivial⟩ trivial ⟨rfl, rfl, rfl, trivial⟩ rfl
    refine zAA rfl (.r rfl (zAf rfl rfl rfl (by omega)) (.m rfl rfl .nil)) ?_
    refine nxt (Q := fun _ _ => False) (z := b) (b + 1) ?_ ?_ ?_
    ·
     show (b + 1) ≤ (zAP s).length
     omega
    ·
     show (zAP s).length - (b + 1) < (zAP s).length - b
     omega
    · exact zAJ ⟨rfl, rfl, rfl, rfl, rfl, rfl, rfl, rfl, rfl, (zAL (by omega)), trivial⟩ trivial ⟨(congrArg (fun x => some (1, x)) (by rw [zHC he2, setK, if_pos h5]; simp [pvBo, List.map_set, over])), rfl, rfl, trivial⟩ rfl
   ·
    replace h5 := of_decide_eq_false h5
    refine zAM ?_
    refine zAA rfl (.r rfl (zAf rfl rfl rfl (by omega)) (.m rfl rfl .nil)) ?_
    refine nxt (Q := fun _ _ => False) (z := b) (b + 1) ?_ ?_ ?_
    ·
     show (b + 1) ≤ (zAP s).length
     omega
    ·
     show (zAP s).length - (b + 1) < (zAP s).length - b
     omega
    · exact zAJ ⟨rfl, rfl, rfl, rfl, rfl, rfl, rfl, rfl, rfl, (zAL (by omega)), trivial⟩ trivial ⟨(congrArg (fun x => some (1, x)) (by rw [zHC he2, setK, if_neg h5])), rfl, rfl, trivial⟩ rfl
  ·
   replace h4 := of_decide_eq_false h4
   refine zAx ?_
   refine zAA rfl (.r rfl (zAf rfl rfl rfl (by omega)) (.m rfl rfl .nil)) ?_
   refine nxt (Q := fun _ _ => False) (z := a) (a + 1) ?_ ?_ ?_
   ·
    show (a + 1) ≤ (zAt l).length
    omega
   ·
    show (zAt l).length - (a + 1) < (zAt l).length - a
    omega
   · exact zAJ ⟨rfl, rfl, rfl, rfl, rfl, (zAL (by omega)), trivial⟩ trivial ⟨(congrArg (fun x => some (1, x)) (by rw [zK6 he, List.take_of_length_le (l := zAP s) (by omega)])), rfl, trivial⟩ rfl
 ·
  replace h1 := of_decide_eq_false h1
  refine zAx ?_
  refine zAB (zAA rfl (.run [4400] [] rfl (zAR rfl 4400 underlying26 inf2 (nle rfl) (by decide) rfl rfl rfl .nil (by decide) rfl (by decide) rfl (by decide) rfl) (.a rfl rfl .nil)) ?_)
  refine zAB ?_
  refine zAB (zAA rfl (.m rfl rfl (.r rfl (zAy rfl rfl underlying124) (.m rfl rfl .nil))) ?_)
  refine zAS ?_
  refine zAY (zBi 4400 2 rfl rfl (by decide)) ?_
  refine zAp (σ := Nat) (fun k => mk [(11, .sl 2 0 ((pvI (zBK l (zAP s) k)).length)), (45, .sl 1600 0 ((pvE l).length)), (46, .vi ((pvE l).length : Int)), (47, .vi (k:Int))] [] [(2, 1, pvI (zBK l (zAP s) k)), (1600, 1, pvBo (zMS l (zAP s)))]) (fun k => k ≤ l.length) (fun k => l.length - k) 0 (by simp) (zAJ ⟨rfl, rfl, rfl, (zAL (by omega)), trivial⟩ trivial ⟨(congrArg (fun x => some (1, x)) (by rfl)), (congrArg (fun x => some (1, x)) (by rw [List.take_of_length_le (l := zAt l) (by omega)]; rfl)), trivial⟩ rfl) ?_
  rintro k hG
  replace hG : k ≤ l.length := hG
  have hnl := zDJ l (zAP s) k
  have hle3 := zAT (zBK l (zAP s) k)
  refine zAB (zAA rfl (.r rfl (zA4 rfl rfl rfl) .nil) ?_)
  refine zAB ?_
  refine zAZ (t := decide ((k:Int) < ((pvE l).length : Int))) rfl (fun h6 => ?_) (fun h6 => ?_)
  ·
   replace h6 := of_decide_eq_true h6
   refine zAM ?_
   refine zAB ?_
   refine zAS ?_
   refine zAB ?_
   obtain ⟨e3, he3⟩ : ∃ e, l[k]? = some e := ⟨_, List.getElem?_eq_getElem (by omega)⟩
   refine zAA rfl (.m rfl rfl (.r rfl (zAe k rfl rfl rfl rfl underlying124 sizeOf4 rfl rfl (by omega)) (.r rfl (zA6 rfl rfl rfl (by exact zL8 (zNH hok he3)) isAgg4 rfl) (.a rfl rfl (.a rfl rfl .nil))))) ?_
   refine zAB (zAA rfl (.m rfl rfl .nil) ?_)
   refine zAZ (t := zEo l (zAP s) k e3) rfl (fun h7 => ?_) (fun h7 => ?_)
   ·
    refine zAA rfl (.m rfl rfl (.m rfl rfl (.run [5500] [] rfl (zAR rfl 5500 underlying26 inf2 (nle rfl) (by decide) rfl rfl rfl (.cons .v .nil) (by decide) rfl (by decide) rfl (by decide) rfl) (.run [2] [] rfl (zAu rfl 2 (ib := 2) (len := ((pvI (zBK l (zAP s) k)) ++ [[PV.v (.int .i64 (k:Int))]]).length) rfl rfl (.row (len := (pvI (zBK l (zAP s) k)).length) (xs := pvI (zBK l (zAP s) k)) rfl rfl (.inl rfl)) (.give (len := 1) (xs := [[PV.v (.int .i64 (k:Int))]]) rfl rfl) underlying26 (sk underlying26 rfl) inf2 rfl (by decide) (by decide) (by decide) List.length_append (by simp only [maxLen, List.length_append, List.length_cons, List.length_nil, zAT]; omega) (by simp only [maxLen, List.length_append, List.length_cons, List.length_nil, zAT]; omega)) (.a rfl rfl .nil))))) ?_
    have hr8 : (pvI (zBK l (zAP s) k)) ++ [[PV.v (.int .i64 (k:Int))]] = pvI (zBK l (zAP s) (k + 1)) := by rw [zI0 he3 h7]; exact zL7 _ _
    have hp9 : (.sl 2 0 (((pvI (zBK l (zAP s) k)) ++ [[PV.v (.int .i64 (k:Int))]]).length) : AV) = .sl 2 0 ((pvI (zBK l (zAP s) (k + 1))).length) := by simp only [hr8]
    refine zAY (s' := mk [(11, .sl 2 0 ((pvI (zBK l (zAP s) (k + 1))).length)), (45, .sl 1600 0 ((pvE l).length)), (46, .vi ((pvE l).length : Int)), (47, .vi (k:Int))] [] [(2, 1, pvI (zBK l (zAP s) (k + 1))), (1600, 1, pvBo (zMS l (zAP s)))]) ?_ ?_
    · exact zAJ ⟨hp9, rfl, rfl, rfl, trivial⟩ trivial ⟨(congrArg (fun x => some (1, x)) hr8), rfl, trivial⟩ rfl
    refine zAA rfl (.r rfl (zAf rfl rfl rfl (by omega)) (.m rfl rfl .nil)) ?_
    refine nxt (Q := fun _ _ => False) (z := k) (k + 1) ?_ ?_ ?_
    ·
     show (k + 1) ≤ l.length
     omega
    ·
     show l.length - (k + 1) < l.length - k
     omega
    · exact zAJ ⟨rfl, rfl, rfl, (zAL (by omega)), trivial⟩ trivial ⟨rfl, rfl, trivial⟩ rfl
   ·
    refine zAM ?_
    refine zAA rfl (.r rfl (zAf rfl rfl rfl (by omega)) (.m rfl rfl .nil)) ?_
    refine nxt (Q := fun _ _ => False) (z := k) (k + 1) ?_ ?_ ?_
    ·
     show (k + 1) ≤ l.length
     omega
    ·
     show l.length - (k + 1) < l.length - k
     omega
    · exact zAJ ⟨(congrArg (fun x => AV.sl 2 0 (pvI x).length) (zI1 he3 h7).symm), rfl, rfl, (zAL (by omega)), trivial⟩ trivial ⟨(congrArg (fun x => some (1, x)) (by rw [zI1 he3 h7])), rfl, trivial⟩ rfl
  ·
   replace h6 := of_decide_eq_false h6
   refine zAx ?_
   refine zAB ?_
   have hil : k = l.length := (by omega)
   rw [← hil]
   refine zAA rfl (.m rfl rfl (.a rfl rfl .nil)) ?_
   refine zAO ?_
   exact ends [_] [2] (.cons (.tmp rfl) .nil) (.cons (.one (.row (len := (pvI (zBK l (zAP s) k)).length) (xs := pvI (zBK l (zAP s) k)) rfl rfl) (.sl _ _ (FlatP.clean (zA3 _)))) .nil) (by decide) trivial
end Go.Rl
namespace Go.Rl
open Go.Proofs
end Go.Rl
namespace Go.Rl
open Go.Proofs
end Go.Rl
namespace Go.Proofs
open Go.RowKit
def Bw.Reads (Bs : Nat) (zs : List Int) (W : World) : Prop :=
 ((∃ A c, W.cell? ⟨Bs, 0, none⟩ = some (.slice A 0 c)) ∧ zs = []) ∨ ∃ b off cap, W.cell? ⟨Bs, 0, none⟩ = some (.slice (some ⟨b, off, none⟩) zs.length cap) ∧ ∀ (j : Nat) (z : Int), zs[j]? = some z → W.cell? ⟨b, off + j, none⟩ = some (.int .i64 z)
def Bw.enc (zs : List Int) (k : Fin zs.length) : Array Value := #[.int .i64 (k.1 : Int), .int .i64 (zs[k.1]'k.2)]
def Bw.upto (zs : List Int) : Nat → List (Fin zs.length)
 | 0 => []
 | k + 1 => Bw.upto zs k ++ (if h : zs.length - 1 - k < zs.length then [⟨zs.length - 1 - k, h⟩] else [])
theorem Bw.upto_succ (zs : List Int) (k : Nat) (h : zs.length - 1 - k < zs.length) : Bw.upto zs (k + 1) = Bw.upto zs k ++ [⟨zs.length - 1 - k, h⟩] := by rw [Bw.upto, dif_pos h]
theorem Bw.upto_length (zs : List Int) : ∀ k, k ≤ zs.length → (Bw.upto zs k).length = k
 | 0, _ => rfl
 | k + 1, h => by rw [Bw.upto_succ zs k (by omega), List.length_append, Bw.upto_length zs k (by omega)]; rfl
def Bw.Contract (P : Program) (gf : Nat) : Prop :=
 ∀ (F : Fence) (n : Nat), F.fn gf → F.round = none → 1 ≤ n → ∀ (l Bs : Nat) (zs : List Int), zs.length ≤ 1000000000 → ∀ (J Jx : List (Fin zs.length) → World → Prop),
  (∀ pre x W, J pre W → pre.length < zs.length → YieldAt F (n - 1) P l (Bw.enc zs x) W fun e W' =>
   (e = .returned (.bool true) ∧ J (pre ++ [x]) W' ∧ (Bw.Reads Bs zs W → Bw.Reads Bs zs W')) ∨ (e = .returned (.bool false) ∧ Jx (pre ++ [x]) W')) →
  ∀ W : World, Bw.Reads Bs zs W → J [] W →
   CallsIn F n P gf #[.func (.yield l) #[] #[], .pointer (some ⟨Bs, 0, none⟩)] W fun e W' => (∃ v, e = .returned v) ∧
    ((∃ ys, ys = Bw.upto zs zs.length ∧ J ys W') ∨ (∃ pre, True ∧ Jx pre W'))
theorem Bw.Reads.below {Bs : Nat} {zs : List Int} {A B : World} {n₀ : Nat} (h : Below n₀ A B) (hn : A.heap.size ≤ n₀) (hr : Bw.Reads Bs zs A) : Bw.Reads Bs zs B := by
 have old : ∀ (k j : Nat) v, A.cell? ⟨k, j, none⟩ = some v → B.cell? ⟨k, j, none⟩ = some v := fun k j v hv => by
  have hk : k < A.heap.size := by
   cases e : A.heap[k]? with
   | none => simp [World.cell?, e] at hv
   | some o => exact (Array.getElem?_eq_some_iff.1 e).1
  exact (h.cell (p := ⟨k, j, none⟩) (Nat.lt_of_lt_of_le hk hn)).trans hv
 rcases hr with ⟨⟨A, c, h1⟩, h2⟩ | ⟨b, off, cap, h1, h2⟩
 · exact .inl ⟨⟨A, c, old _ _ _ h1⟩, h2⟩
 · exact .inr ⟨b, off, cap, old _ _ _ h1, fun j z hz => old _ _ _ (h2 j z hz)⟩
theorem Bw.Contract.stops {P : Program} {gf : Nat} (hC : Bw.Contract P gf) {F : Fence} {n : Nat} (hf : F.fn gf) (hro : F.round = none) (hn : 1 ≤ n) {Bs : Nat} {zs : List Int} (hz : zs.length ≤ 1000000000) {w : World} (hr : Bw.Reads Bs zs w) :
  SeqStopsK F n P gf #[.pointer (some ⟨Bs, 0, none⟩)] (Bw.enc zs) (fun A B => Bw.Reads Bs zs A → Bw.Reads Bs zs B) (fun xs => xs = Bw.upto zs zs.length) (fun _ => True) zs.length w := fun l J Jx W hW _ _ hY h0 =>
 hC F n hf hro hn l Bs zs hz J Jx hY W (hr.below hW (Nat.le_refl _)) h0
end Go.Proofs
namespace Go.Rl
open Go.Proofs
def zG2 (out : List Ent) (e : Ent) : Bool := match out with
 | [] => false
 | o :: _ => decide (o.user = e.user)
def zEq (bot : Bool) (out : List Ent) (e : Ent) : List Ent := if (bot && decide (e.kind = 0) && !zG2 out e) = true then out else e :: out
def zIN (l : List Ent) (bot : Bool) (out : List Ent) (z : Int) : List Ent := match l[z.toNat]? with
 | some e => zEq bot out e
 | none => out
def zCx (l : List Ent) (bot : Bool) (zs : List Int) (pre : List (Fin zs.length)) : List Ent := pre.foldl (fun out x => zIN l bot out (zs[x.1]'x.2)) []
def zA2 (l : List Ent) (bot : Bool) (zs : List Int) (k : Nat) : List Ent := zCx l bot zs (Bw.upto zs k)
theorem zIQ (l : List Ent) (bot : Bool) (zs : List Int) (pre : List (Fin zs.length)) (x : Fin zs.length) {e : Ent} (he : l[(zs[x.1]'x.2).toNat]? = some e) : zCx l bot zs (pre ++ [x]) = zEq bot (zCx l bot zs pre) e := by
 simp [zCx, zIN, he]
theorem zDA {l : List Ent} {bot : Bool} {zs : List Int} {k i : Nat} {z : Int} {e : Ent} (hi : i + k + 1 = zs.length) (hz : zs[i]? = some z) (he : l[z.toNat]? = some e) : zA2 l bot zs (k + 1) = zEq bot (zA2 l bot zs k) e := by
 have hlt : zs.length - 1 - k < zs.length := by omega
 rw [zA2, Bw.upto_succ zs k hlt]
 refine zIQ l bot zs _ _ ?_
 have : zs[zs.length - 1 - k]'hlt = z := by
  obtain ⟨h1, h2⟩ := List.getElem?_eq_some_iff.1 hz
  rw [← h2]
  congr 1
  omega
 simp only [this]
 exact he
theorem zOs (bot : Bool) (out : List Ent) (e : Ent) : (zEq bot out e).length ≤ out.length + 1 := by
 unfold zEq
 split
 · omega
 · simp
theorem zKI (l : List Ent) (bot : Bool) (zs : List Int) (pre : List (Fin zs.length)) : (zCx l bot zs pre).length ≤ pre.length := by
 have h : ∀ (pre : List (Fin zs.length)) (out : List Ent), (pre.foldl (fun out x => zIN l bot out (zs[x.1]'x.2)) out).length ≤ out.length + pre.length := by
  intro pre
  induction pre with
  | nil => intro out; simp
  | cons x pre ih =>
   intro out
   rw [List.foldl_cons]
   have h1 := ih (zIN l bot out (zs[x.1]'x.2))
   have h2 : (zIN l bot out (zs[x.1]'x.2)).length ≤ out.length + 1 := by
    unfold zIN
    split
    · exact zOs _ _ _
    · omega
   simp only [List.length_cons]
   omega
 have := h pre []
 simpa [zCx] using this
theorem zFk (l : List Ent) (bot : Bool) (zs : List Int) {k : Nat} (hk : k ≤ zs.length) : (zA2 l bot zs k).length ≤ k := by
 have := zKI l bot zs (Bw.upto zs k)
 rwa [Bw.upto_length zs k hk] at this
theorem zDi {l : List Ent} {ps : List Int} {n : Nat} : ∀ {i : Nat} {z : Int}, z ∈ zBK l ps i → ∃ k : Nat, z = (k : Int) ∧ k < i ∧ k < l.length
 | 0, z, h => by simp [zBK] at h
 | i + 1, z, h => by
  rw [zBK, List.mem_append] at h
  rcases h with h | h
  ·
   obtain ⟨k, h1, h2, h3⟩ := zDi (n := n) h
   exact ⟨k, h1, by omega, h3⟩
  ·
   cases he : l[i]? with
   | none => rw [he] at h; simp at h
   | some e =>
    rw [he] at h
    simp only at h
    split at h
    ·
     rw [List.mem_singleton] at h
     exact ⟨i, h, by omega, (List.getElem?_eq_some_iff.1 he).1⟩
    · cases h
theorem need_at {l : List Ent} {ps : List Int} {n i : Nat} {z : Int} (h : (zBK l ps n)[i]? = some z) : ∃ k : Nat, z = (k : Int) ∧ k < l.length := by
 obtain ⟨k, h1, _, h3⟩ := zDi (n := n) (List.mem_of_getElem? h)
 exact ⟨k, h1, h3⟩
def zBS (l : List Ent) (s : List Int) (bot : Bool) : List Ent := if zAr l = true ∧ zBP s = true then zA2 l bot (zBK l (zAP s) l.length) (zBK l (zAP s) l.length).length else []
theorem zHj (l : List Ent) (s : List Int) (bot : Bool) : (zBS l s bot).length ≤ l.length := by
 unfold zBS
 split
 · exact Nat.le_trans (zFk _ _ _ (Nat.le_refl _)) (zDJ _ _ _)
 · exact Nat.zero_le _
def zDj (out : List Ent) : ByteArray := match out with
 | [] => ⟨#[]⟩
 | o :: _ => o.user
def anyE (out : List Ent) : Bool := match out with
 | [] => false
 | _ :: _ => true
theorem zJp (out : List Ent) (e : Ent) : (anyE out && decide (e.user = zDj out)) = zG2 out e := by
 cases out with
 | nil => rfl
 | cons o out => exact decide_eq_decide.2 eq_comm
theorem zPz {out : List Ent} {e : Ent} (h : anyE out = false) : zG2 out e = false := by rw [← zJp, h]; rfl
theorem zML {out : List Ent} {e : Ent} (h : anyE out = true) : zG2 out e = decide (e.user = zDj out) := by rw [← zJp, h]; rfl
theorem zIw {out : List Ent} {e o : Ent} (h : out[0]? = some o) : zG2 out e = decide (o.user = e.user) := by
 cases out with
 | nil => cases h
 | cons x out => cases h; rfl
theorem zJo {out : List Ent} {e : Ent} (h : ¬ 0 < out.length) : zG2 out e = false := by
 cases out with
 | nil => rfl
 | cons x out => simp at h
def pvE_rev (l : List Ent) : List (List PV) := pvE l.reverse
def zEX (l m : List Ent) (i : Nat) : Prop := m.length = l.length ∧ ∀ k, k < l.length → m[k]? = if k < i ∨ l.length - i ≤ k then l[l.length - 1 - k]? else l[k]?
theorem zJW (l : List Ent) : zEX l l 0 := ⟨rfl, fun k hk => by rw [if_neg (by omega)]⟩
theorem zGi {l m : List Ent} {i k : Nat} (h : zEX l m i) (h1 : i ≤ k) (h2 : k + i < l.length) : m[k]? = l[k]? := by rw [h.2 k (by omega), if_neg (by omega)]
theorem zJX {l m : List Ent} {i j : Nat} {x y : Ent} (h : zEX l m i) (hij : i + j + 1 = l.length) (hlt : i < j) (hx : m[i]? = some x) (hy : m[j]? = some y) : zEX l ((m.set i y).set j x) (i + 1) := by
 refine ⟨by rw [List.length_set, List.length_set]; exact h.1, fun k hk => ?_⟩
 have hl := h.1
 rw [zGi h (Nat.le_refl _) (by omega)] at hx
 rw [zGi h (by omega) (by omega)] at hy
 rw [List.getElem?_set]
 by_cases h1 : j = k
 ·
  subst h1
  rw [if_pos rfl, List.length_set, if_pos (by omega), if_pos (by omega), ← hx]
  congr 1
  omega
 ·
  rw [if_neg h1, List.getElem?_set]
  by_cases h2 : i = k
  ·
   subst h2
   rw [if_pos rfl, if_pos (by omega), if_pos (by omega), ← hy]
   congr 1
   omega
  ·
   rw [if_neg h2, h.2 k hk]
   by_cases h3 : k < i ∨ l.length - i ≤ k
   · rw [if_pos h3, if_pos (by omega)]
   · rw [if_neg h3, if_neg (by omega)]
theorem zKg {l m : List Ent} {i : Nat} (h : zEX l m i) (hi : l.length ≤ 2 * i + 1) : m = l.reverse := by
 refine List.ext_getElem? (fun k => ?_)
 by_cases hk : k < l.length
 ·
  rw [h.2 k hk, List.getElem?_reverse hk]
  by_cases h3 : k < i ∨ l.length - i ≤ k
  · rw [if_pos h3]
  ·
   rw [if_neg h3]
   congr 1
   omega
 · rw [List.getElem?_eq_none (by rw [h.1]; omega), List.getElem?_eq_none (by rw [List.length_reverse]; omega)]
theorem zPo {m : List Ent} {i j : Nat} {x y : Ent} : (((pvE m).set i y.pv).set j x.pv) = pvE ((m.set i y).set j x) := by simp [pvE, List.map_set]
theorem zCT (out : List Ent) (e : Ent) : pvE out.reverse ++ [e.pv] = pvE (e :: out).reverse := by simp [pvE]
theorem zCv {bot : Bool} {out : List Ent} {e : Ent} (h1 : bot = true) (h2 : e.kind = 0) (h3 : zG2 out e = false) : zEq bot out e = out := by simp [zEq, h1, h2, h3]
theorem zB1 {bot : Bool} {out : List Ent} {e : Ent} (h : ¬ (bot = true ∧ e.kind = 0 ∧ zG2 out e = false)) : zEq bot out e = e :: out := by
 unfold zEq
 rw [if_neg]
 intro hc
 simp only [Bool.and_eq_true, decide_eq_true_eq, Bool.not_eq_true'] at hc
 exact h ⟨hc.1.1, hc.1.2, hc.2⟩
end Go.Rl
namespace Go.Rl
open Go.RowKit
def Fw (l : Nat) : Fence := Fence.wide.inRound l
theorem rows_in {l n : Nat} {P : Program} {row : String} {args : Array Value} {w : World} {R : Value → World → Prop} (h : Rows P row args w R) : RowsIn (Fw l) n P row args w R := fun c cs _ => by
 obtain ⟨v, w', hR, hs⟩ := h c cs
 refine ⟨v, w', hR, ?_⟩
 rw [Fw, fenced_inRound]
 exact (comesIn_wide (e := .returned v)).2 hs
theorem op_in {l n : Nat} {P : Program} {o : Oper} {a : Act} {w : World} {K K' : Act → World → Prop} {Q : Exit → Act → World → Prop} (hnd : ∀ c, o.op ≠ .defer c) (h : o.wp P a w K Q) (hK : ∀ a w, K a w → K' a w) : o.wpIn (Fw l) n P a w K' Q := by
 refine ⟨fun _ _ => trivial, ?_⟩
 rw [show (Fw l).round = some l from rfl, Oper.semAt_some l _ o hnd]
 unfold Oper.wp at h
 generalize Sem.run P (execOp a.eval o) w = r at h ⊢
 match r, h with
 | .ok (.value v) w', h => exact hK _ _ h
 | .ok .skip w', h => exact hK _ _ h
 | .ok (.defer d) w', h => exact hK _ _ h
 | .ok (.enter f args) w', h =>
  refine ⟨fun hd => (by cases hd), ?_⟩
  have h2 : Calls P f args w' _ := h
  refine CallsIn.mono (CallsIn.inRound l (callsIn_wide.2 h2)) ?_
  intro e w'' he
  cases e with
  | returned v => exact hK _ _ he
  | panicked c => exact he
  | outgrown => exact he
 | .ok (.row row args) w', h =>
  refine ⟨fun hd => (by cases hd), ?_⟩
  have h2 : Rows P row args w' _ := h
  exact (rows_in h2).mono (fun v w'' hv => hK _ _ hv)
 | .halt (.panic v) w', h => exact h
def zD4 (kp : Nat → Bool) (a a' : Act) : Prop := ∀ j, kp j = true → a'.tmps.getD j undef = a.tmps.getD j undef
theorem zDl (kp : Nat → Bool) (a : Act) : zD4 kp a a := fun _ _ => rfl
theorem zHI {kp : Nat → Bool} {a b c : Act} (h : zD4 kp a b) (k : zD4 kp b c) : zD4 kp a c := fun j hj => (k j hj).trans (h j hj)
theorem zEP {kp : Nat → Bool} {a b : Act} (h : zD4 kp a b) {d : Option Tmp} {v : Value} (hd : ∀ x, d = some x → kp x = false) : zD4 kp a (b.put d v) := fun j hj => by
 rw [← h j hj]
 cases d with
 | none => rfl
 | some x =>
  have hx := hd x rfl
  have hne : x ≠ j := fun e => by rw [e, hj] at hx; cases hx
  simp only [Act.put, Array.getD_eq_getD_getElem?, Array.getElem?_setIfInBounds, if_neg hne]
def zLC (kp : Nat → Bool) (ops : Array Oper) : Bool := ops.toList.all (fun o => (match o.op with | .defer _ => false | _ => true) && (match o.dst with | some d => !kp d | none => true))
theorem zI7 {kp : Nat → Bool} {ops : Array Oper} (h : zLC kp ops = true) {i : Nat} {o : Oper} (ho : ops[i]? = some o) : (∀ c, o.op ≠ .defer c) ∧ ∀ x, o.dst = some x → kp x = false := by
 rw [zLC, List.all_eq_true] at h
 have := h o (List.mem_of_getElem? (by rw [Array.getElem?_toList]; exact ho))
 rw [Bool.and_eq_true] at this
 refine ⟨fun c e => ?_, fun x e => ?_⟩
 · rw [e] at this; cases this.1
 · rw [e] at this; simpa using this.2
section
variable {γ : Gho} {P : Program} {n : Nat} {ops : Array Oper} {w0 : World} {I : Fr} {Qm : Exit → Act → World → Prop} {Fs : List Fp} {Q : St → Prop} {l nn : Nat} {kp : Nat → Bool} {a0 : Act}
theorem zLF (hnd : zLC kp ops = true) (hG : Gh γ w0 I.I) {o : Oper} {s : St} {F : Fp} {δ : Dl} {i : Nat} (hi : ops[i]? = some o) (hd : ∀ x, o.dst = some x → x < n) (hg : Good γ P n ops o s F δ) {L : Pl} {a : Act} {w : World} (hr : Rel w0 I n L s a w) (hk : zD4 kp a0 a) {K : Act → World → Prop} (hK : ∀ L' a' w', Rel w0 I n L' (δ.app o.dst s) a' w' → zD4 kp a0 a' → K a' w') : wpOpIn (Fw l) nn P ops Qm i K a w := by
 unfold wpOpIn
 simp only [hi]
 cases hg with
 | run M B hg h _ _ =>
  rw [zD7 hr hg, if_pos rfl]
  exact op_in (zI7 hnd hi).1 (h s ⟨fun _ _ => rfl, fun _ _ _ _ _ => rfl, fun _ _ _ _ _ => rfl, fun _ _ => rfl, fun _ _ => rfl⟩ hd w0 I L a w hG hr K Qm (fun L' v w' hr' => hK L' _ w' hr' (zEP hk (zI7 hnd hi).2))) (fun _ _ h => h)
 | not hg =>
  rw [zD7 hr hg, if_neg (by simp)]
  exact ⟨fun _ _ => trivial, hK L _ w (hr.put hd (by simp only [AVR]; exact ⟨[], rfl, by simp [AVRs]⟩)) (zEP hk (zI7 hnd hi).2)⟩
theorem zN3 (hnd : zLC kp ops = true) (hG : Gh γ w0 I.I) (hdst : zEp n ops = true) (hQ : ∀ s, Q s → ∀ L a w, Rel w0 I n L s a w → zD4 kp a0 a → Qm .normal a w) : ∀ (f : Nat) (listed : Array Bool) (s : St) (L : Pl) (a : Act) (w : World), Sany γ P n ops Fs Q f listed s → Rel w0 I n L s a w → zD4 kp a0 a → wpAnyIn (Fw l) nn P .any ops Qm f listed a w
 | 0, _, _, _, _, _, h, hr, hk => ⟨h.1, hQ _ h.2 _ _ _ hr hk⟩
 | f + 1, listed, s, L, a, w, h, hr, hk => ⟨fun h0 => hQ _ (h.1 h0) _ _ _ hr hk, fun i hi => by
   cases ho : ops[i]? with
   | none => exact absurd ho (by obtain ⟨_, o, ho, _⟩ := mem_ready.1 hi; simp [ho])
   | some o =>
    obtain ⟨δ, hg, hs⟩ := h.2 i hi o ho
    exact zLF hnd hG ho (zCP hdst ho) hg hr hk (fun L' a' w' hr' hk' => zN3 hnd hG hdst hQ f _ _ L' a' w' hs hr' hk')⟩
theorem run_rnd (hnd : zLC kp ops = true) (hG : Gh γ w0 I.I) (hdst : zEp n ops = true) {s' : St} : ∀ {Fs : List Fp} {ol : List Oper} {s : St} (_ : Run γ P n ops Fs ol s s') (_ : ∀ L a w, Rel w0 I n L s' a w → zD4 kp a0 a → Qm .normal a w) (k : Nat), (∀ j, ol[j]? = ops[k + j]?) → ∀ {L : Pl} {a : Act} {w : World}, Rel w0 I n L s a w → zD4 kp a0 a → wpOpsIn (Fw l) nn P ops Qm (List.range' k ol.length) a w := by
 intro Fs ol s h
 induction h with
 | nil => intro hQ k _ L a w hr hk; exact hQ _ _ _ hr hk
 | run M B hg h _ ih =>
  rename_i o ol s s' δ hrun
  intro hQ k hl L a w hr hk
  have h0 : ops[k]? = some o := by simpa using (hl 0).symm
  rw [List.length_cons, List.range'_succ, wpOpsIn_cons]
  exact zLF hnd hG h0 (zCP hdst h0) (.run M B hg h (zQL ..) (zJB ..)) hr hk (fun L' a' w' hr' hk' => ih hQ (k + 1) (fun j => by have := hl (j + 1); simpa [Nat.add_assoc, Nat.add_comm 1 j] using this) hr' hk')
 | not hg _ ih =>
  rename_i o ol s s' hrun
  intro hQ k hl L a w hr hk
  have h0 : ops[k]? = some o := by simpa using (hl 0).symm
  rw [List.length_cons, List.range'_succ, wpOpsIn_cons]
  exact zLF (F := default) hnd hG h0 (zCP hdst h0) (.not hg) hr hk (fun L' a' w' hr' hk' => ih hQ (k + 1) (fun j => by have := hl (j + 1); simpa [Nat.add_assoc, Nat.add_comm 1 j] using this) hr' hk')
end
def TrI (kp : Nat → Bool) (l nn : Nat) (γ : Gho) (P : Program) (n : Nat) (c : Code) (s : St) (Q : Exit → St → Prop) : Prop :=
 ∀ w0 I L a w, Gh γ w0 I.I → Rel w0 I n L s a w → c.wpIn (Fw l) nn P (fun e a' w' => zD4 kp a a' ∧ ∃ s' L', Q e s' ∧ Rel w0 I n L' s' a' w') a w
section
variable {γ : Gho} {P : Program} {n : Nat} {s : St} {Q : Exit → St → Prop} {l nn : Nat} {kp : Nat → Bool}
theorem zGA {c : Code} {s' : St} (hw : Wk n s s') (h : TrI kp l nn γ P n c s' Q) : TrI kp l nn γ P n c s Q := fun w0 I L a w hG hr => by
 obtain ⟨L', h'⟩ := hw w0 I L a w hr
 exact h w0 I L' a w hG h'
theorem zFL (h : Q .normal s) : TrI kp l nn γ P n .skip s Q := fun _ _ L _ _ _ hr => wpIn_skip ⟨zDl _ _, s, L, h, hr⟩
theorem zLo {id : Nat} (h : Q (.exit id) s) : TrI kp l nn γ P n (.exit id) s Q := fun _ _ L _ _ _ hr => wpIn_exit ⟨zDl _ _, s, L, h, hr⟩
theorem zFt {x y : Code} (h : TrI kp l nn γ P n x s (thn (fun s' => TrI kp l nn γ P n y s' Q) Q)) : TrI kp l nn γ P n (.seq x y) s Q := fun w0 I L a w hG hr => by
 refine wpIn_seq (wpIn_mono (h w0 I L a w hG hr) (fun e a' w' ⟨hk, s', L', h1, h2⟩ => ?_))
 cases e with
 | normal => exact wpIn_mono (h1 w0 I L' a' w' hG h2) (fun e _ _ ⟨hk', s', L', h1, h2⟩ => ⟨zHI hk hk', s', L', h1, h2⟩)
 | _ => exact ⟨hk, s', L', h1, h2⟩
theorem zNm {id : Nat} {c : Code} (h : TrI kp l nn γ P n c s (inb id Q)) : TrI kp l nn γ P n (.block id c) s Q := fun w0 I L a w hG hr => by
 refine wpIn_block (wpIn_mono (h w0 I L a w hG hr) (fun e a' w' ⟨hk, s', L', h1, h2⟩ => ?_))
 cases e with
 | exit id' =>
  simp only [Exit.inBlock]
  by_cases hi : id' = id
  ·
   subst hi
   rw [if_pos rfl]
   simp only [inb, Nat.beq_refl] at h1
   exact ⟨hk, s', L', h1, h2⟩
  ·
   rw [if_neg hi]
   have hb : Nat.beq id' id = false := by
    cases e : Nat.beq id' id with
    | false => rfl
    | true => exact absurd (Nat.eq_of_beq_eq_true e) hi
   simp only [inb, hb] at h1
   exact ⟨hk, s', L', h1, h2⟩
 | _ => exact ⟨hk, s', L', h1, h2⟩
theorem zHs {c : Operand} {x y : Code} {d : Option Nat} {t : Bool} (hc : s.ev c = .p d (.v (.bool t))) (ht : t = true → TrI kp l nn γ P n x s Q) (hf : t = false → TrI kp l nn γ P n y s Q) : TrI kp l nn γ P n (.cond c x y) s Q := fun w0 I L a w hG hr => by
 have hv := hr.evv hc
 cases t with
 | true => exact wpIn_cond_true hv (ht rfl w0 I L a w hG hr)
 | false => exact wpIn_cond_false hv (hf rfl w0 I L a w hG hr)
theorem zCK {id : Nat} {ops : List Oper} {Fs : List Fp} {s' : St} (hnd : zLC kp ops.toArray = true) (hd : zEp n ops.toArray = true) (h : Run γ P n ops.toArray Fs ops s s') (hq : Q .normal s') : TrI kp l nn γ P n (.region id ops.toArray false) s Q := fun w0 I L a w hG hr => by
 refine wpIn_region ?_
 have := run_rnd (l := l) (nn := nn) (a0 := a) hnd hG (Qm := fun e a' w' => zD4 kp a a' ∧ ∃ s' L', Q e s' ∧ Rel w0 I n L' s' a' w') hd h (fun L' a' w' hr' hk => ⟨hk, s', L', hq, hr'⟩) 0 (fun j => by simp) hr (zDl _ _)
 rw [← List.range_eq_range'] at this
 simpa using this
theorem zDB {id : Nat} {ops : List Oper} {Fs : List Fp} {s' : St} (hnd : zLC kp ops.toArray = true) (hm : P.follows .mixedOrders = true) (hd : zEp n ops.toArray = true) (h : Run γ P n ops.toArray Fs ops s s') (hl : lexF ops.toArray Fs ops.length 0 (Array.replicate ops.length false) = true) (hq : Q .normal s') : TrI kp l nn γ P n (.region id ops.toArray true) s Q := fun w0 I L a w hG hr => by
 refine wpIn_region_any hm ?_
 have := zLy (Fs := Fs) (Q := fun s => Q .normal s) h 0 (Array.replicate ops.length false) (fun k o hk => by
  exfalso
  rw [Array.getD_eq_getD_getElem?, Array.getElem?_replicate] at hk
  split at hk <;> cases hk) (fun j => by simp) (fun j F hj => by simp [hj]) hl hq
 have := zN3 (l := l) (nn := nn) (a0 := a) hnd hG (Fs := Fs) (w0 := w0) (I := I) (Qm := fun e a' w' => zD4 kp a a' ∧ ∃ s' L', Q e s' ∧ Rel w0 I n L' s' a' w') hd (fun s1 hs L' a' w' hr' hk => ⟨hk, s1, L', hs, hr'⟩) ops.length (Array.replicate ops.length false) s L a { w with drawn := w.drawn + 1 } this (hr.drawn _) (zDl _ _)
 simpa using this
end
end Go.Rl

/- Promises of functions, proved by walks over their operations; no conditions beyond those that each theorem states. -/
import Derived.Test.YtgdfpjpfomcilaaGreatReU
set_option linter.unusedSimpArgs false
set_option linter.unusedVariables false
namespace Go.Rl
open Go.Proofs Go.Proofs.Tryz
set_option maxRecDepth 1000000
set_option maxHeartbeats 2000000
theorem en84 : En Tryz.prog 84 := zAm func84 (by decide) rfl
theorem en26 : En Tryz.prog 26 := zAm func26 (by decide) rfl
theorem en83 : En Tryz.prog 83 := zAm func83 (by decide) rfl
theorem en73 : En Tryz.prog 73 := zAm func73 (by decide) rfl
theorem en48 : En Tryz.prog 48 := zAm func48 (by decide) rfl
theorem en72 : En Tryz.prog 72 := zAm func72 (by decide) rfl
theorem en50 : En Tryz.prog 50 := zAm func50 (by decide) rfl
theorem zDt (l : List Ent) (hl : l.length ≤ 1000000000) : Con Tryz.prog 26 [.one (PV.sl false 4 (pvE l))] [] [.one (.sl true 4 (pvE l))] := by
 refine zAQ func26 rfl rfl rfl rfl ?_
 have hle := zAF l
 refine zAB (zAA rfl (.a rfl rfl .nil) ?_)
 refine zAB ?_
 refine zAB (zAA rfl (.m rfl rfl (.r rfl (zLt (v := .slice none 0 0) rfl rfl (.inl ⟨_, _, _, _, rfl, rfl⟩) underlying24) .nil)) ?_)
 refine zQf rfl (fun v h => ⟨_, h.choose_spec.1⟩) (fun h1 => ?_) (fun h1 => ?_)
 ·
  replace h1 : (pvE l).length = 0 := by obtain ⟨b, e, h⟩ := h1; cases e; exact h rfl
  have hl0 : l = [] := List.eq_nil_of_length_eq_zero (by rw [zAF] at h1; exact h1)
  subst hl0
  refine zAB (zAA rfl (.a rfl rfl .nil) ?_)
  refine zAO ?_
  exact ends [_] [] (.cons (.tmp rfl) .nil) (.cons (.one (.nil _) (.sl _ _ (fun _ h => nomatch h))) .nil) (by decide) trivial
 ·
  refine zAM ?_
  refine zAB (zAA rfl (.run [500] [] rfl (zAR rfl 500 underlying24 zBb (nle rfl) (by decide) rfl rfl rfl .nil (by decide) rfl (by decide) rfl (by decide) rfl) (.m rfl rfl (.run [500] [] rfl (zAu rfl 500 (ib := 500) (len := ([] ++ (pvE l)).length) rfl rfl (.row (len := 0) (xs := []) rfl rfl (.inl rfl)) (.fro (zAd _)) underlying24 (sk underlying24 rfl) zBb rfl (by decide) (by decide) (by decide) List.length_append (by simp only [maxLen, List.length_append, List.length_cons, List.length_nil, zAF]; omega) (by simp only [maxLen, List.length_append, List.length_cons, List.length_nil, zAF]; omega)) (.a rfl rfl .nil)))) ?_)
  refine zAO ?_
  exact ends [_] [500] (.cons (.tmp rfl) .nil) (.cons (.one (.row (len := ([] ++ (pvE l)).length) (xs := [] ++ (pvE l)) rfl rfl) (.sl _ _ (FlatP.clean (zAd l)))) .nil) (by decide) trivial
theorem zHk (a b : Ent) : Con Tryz.prog 84 [.agg [PV.v (.string a.user), PV.v (.int .i64 a.seq), PV.v (.int .i64 a.kind), PV.v (.string a.value)], .agg [PV.v (.string b.user), PV.v (.int .i64 b.seq), PV.v (.int .i64 b.kind), PV.v (.string b.value)]] [] [.one (.v (.int .i64 (cmpK a b)))] := by
 refine zAQ func84 rfl rfl rfl rfl ?_
 refine zAB (zAA rfl (.run [] [2] rfl (zBO rfl 2 rfl rfl (by decide) rfl (by decide)) (.run [] [3] rfl (zBO rfl 3 rfl rfl (by decide) rfl (by decide)) (.a rfl rfl .nil))) ?_)
 refine zAB (zAA rfl (.r rfl (zAC rfl rfl underlying56 rfl sizeOf54 (by decide)) (.r rfl (zAG rfl rfl rfl isAgg54 sizeOf54 (nle rfl)) (.r rfl (zAC rfl rfl underlying56 rfl sizeOf54 (by decide)) (.r rfl (zAG rfl rfl rfl isAgg54 sizeOf54 (nle rfl)) (.run [900] [] rfl (zAK rfl 900 (X := []) en60 rfl (.val nod) (.cons (.agg (.cons (.bor .v) (.cons (.bor .v) (.cons (.bor .v) .nil)))) (.cons (.agg (.cons (.bor .v) (.cons (.bor .v) (.cons (.bor .v) .nil)))) .nil)) (by decide) all_nil .nil (zHU a b) rfl rfl (nle rfl)) (.a rfl rfl .nil)))))) ?_)
 refine zAO ?_
 exact ends [_] [] (.cons (.tmp rfl) .nil) (.cons (.one .v (.v _)) .nil) (by decide) trivial
theorem zG0 (l : List Ent) (hl : l.length ≤ 2000000) (hd : Dist cmpK l) : Con Tryz.prog 48 [.one (PV.sl false 4 (pvE l))] [] [.one (.sl true 4 (pvE (zB4 cmpK l)))] := by
 refine zAQ func48 rfl rfl rfl rfl ?_
 have hle := zAF l
 have hli := zAF (zB4 cmpK l)
 have hli2 := zDn (c := cmpK) l
 refine zAB (zAA rfl (.a rfl rfl .nil) ?_)
 refine zAB (zAA rfl (.m rfl rfl (.run [500] [] rfl (zAK rfl 500 (X := []) en26 rfl (.val nod) (.cons (.one (.bor (.sl nod))) .nil) (by decide) all_nil .nil (zDt l (by omega)) rfl rfl (nle rfl)) (.a rfl rfl .nil))) ?_)
 refine zAB (zAA rfl (.m rfl rfl (.run [500] [] rfl (zAK rfl 700 (X := [500]) en83 rfl (.val nod) (.cons (.one (.own (len := (pvE l).length) (xs := pvE l) rfl rfl)) (.cons (.one (.bor (.cl nod))) .nil)) (by decide) (all_cons rfl all_nil) (.keep (xs := pvE l) rfl (FlatP.nf (zAd _)) .nil) (zE3 l (by omega) cmpK cmpK_ok 84 [] en84 (fun x y => zHk x y) hd) rfl rfl (nle rfl)) .nil)) ?_)
 refine zAB (zAA rfl (.m rfl rfl (.a rfl rfl .nil)) ?_)
 refine zAO ?_
 exact ends [_] [500] (.cons (.tmp rfl) .nil) (.cons (.one (.row (len := (pvE l).length) (xs := pvE (zB4 cmpK l)) rfl (by omega)) (.sl _ _ (FlatP.clean (zAd _)))) .nil) (by decide) trivial
theorem zGR (l : List Ent) (hl : l.length ≤ 2000000) (f : Nat) (pss : List (List PV)) (p : Ent → Ent → Bool) (hE : ∀ vs w, (callFunc f vs).run Tryz.prog w = .ok (.enter f vs) w) (hp : ∀ x y : Ent, Con Tryz.prog f ([.agg x.pv, .agg y.pv] ++ pss.map .fbox) [] [.one (.v (.bool (p x y)))]) (hn : ∀ i x y, l[i]? = some x → l[i + 1]? = some y → p y x = false) : Con Tryz.prog 72 [.one (.sl true 4 (pvE l)), .one (PV.clo f pss)] [none] [.one (.sl true 4 (pvE l))] := by
 refine zAQ func72 rfl rfl rfl rfl ?_
 have hle := zAF l
 refine zAB (zAA rfl (.a rfl rfl .nil) ?_)
 refine zAB ?_
 refine zAB (zAA rfl (.m rfl rfl (.r rfl (zAy rfl rfl underlying24) (.r rfl (zA4 rfl rfl rfl) .nil))) ?_)
 refine zAZ (t := decide (((pvE l).length : Int) < 2)) rfl (fun h1 => ?_) (fun h1 => ?_)
 ·
  replace h1 := of_decide_eq_true h1
  refine zAB (zAA rfl (.m rfl rfl (.a rfl rfl .nil)) ?_)
  refine zAO ?_
  exact ends [_] [100000] (.cons (.tmp rfl) .nil) (.cons (.one (.row (len := (pvE l).length) (xs := pvE l) rfl rfl) (.sl _ _ (FlatP.clean (zAd _)))) .nil) (by decide) ⟨trivial, trivial⟩
 ·
  replace h1 := of_decide_eq_false h1
  refine zAM ?_
  refine zAB ?_
  refine zAB (zAA rfl (.a rfl rfl .nil) ?_)
  refine zAS ?_
  refine zAp (σ := Nat) (fun k => mk [(0, .sl 100000 0 ((pvE l).length)), (1, .p none (.clo f pss)), (5, .vi (k:Int))] [] [(100000, 4, pvE l)]) (fun k => 1 ≤ k ∧ k ≤ l.length) (fun k => l.length - k) 1 ⟨Nat.le_refl _, by omega⟩ (zAJ ⟨rfl, rfl, (zAL (by omega)), trivial⟩ trivial ⟨rfl, trivial⟩ rfl) ?_
  rintro k hG
  replace hG : 1 ≤ k ∧ k ≤ l.length := hG
  obtain ⟨h1k, hkl⟩ := hG
  refine zAB ?_
  refine zAB (zAA rfl (.m rfl rfl (.m rfl rfl (.r rfl (zAy rfl rfl underlying24) (.r rfl (zA4 rfl rfl rfl) .nil)))) ?_)
  refine zAZ (t := decide ((k:Int) < ((pvE l).length : Int))) rfl (fun h2 => ?_) (fun h2 => ?_)
  ·
   replace h2 := of_decide_eq_true h2
   refine zAM ?_
   refine zAB ?_
   refine zAS ?_
   refine zAB ?_
   obtain ⟨y, hy⟩ : ∃ y, l[k]? = some y := ⟨_, List.getElem?_eq_getElem (by omega)⟩
   obtain ⟨x, hx⟩ : ∃ x, l[k - 1]? = some x := ⟨_, List.getElem?_eq_getElem (by omega)⟩
   have hpn : p y x = false := hn (k - 1) x y hx (by rw [Nat.sub_add_cancel h1k]; exact hy)
   refine zAc zBL rfl (.m rfl rfl (.m rfl rfl (.m rfl rfl (.r rfl (zAe k rfl rfl rfl rfl underlying24 sizeOf56 rfl rfl (by omega)) (.r rfl (zBB rfl rfl rfl (zA0 hy) isAgg56 sizeOf56 (nle rfl)) (.m rfl rfl (.m rfl rfl (.r rfl (zAW (zAv rfl rfl rfl (by omega)) (((show (AV.p none (.v (.int .i64 ((k:Int) - 1)))) = AV.p none (.v (.int .i64 ((k - 1 : Nat) : Int))) from zAL (by omega))))) (.r rfl (zAe (k - 1) rfl rfl rfl rfl underlying24 sizeOf56 rfl rfl (by omega)) (.r rfl (zBB rfl rfl rfl (zA0 hx) isAgg56 sizeOf56 (nle rfl)) (.run [2800] [] rfl (zAK rfl 2800 (X := []) hE rfl (.val nod) (.cons (.agg (.cons (.bor .v) (.cons (.bor .v) (.cons (.bor .v) (.cons (.bor .v) .nil))))) (.cons (.agg (.cons (.bor .v) (.cons (.bor .v) (.cons (.bor .v) (.cons (.bor .v) .nil))))) .nil)) (by decide) all_nil .nil (hp y x) rfl rfl (nle rfl)) .nil))))))))))) (by kernel_rfl) ?_
   refine zAZ (t := p y x) rfl (fun h3 => ?_) (fun h3 => ?_)
   ·
    exact absurd (hpn.symm.trans h3) (by decide)
   ·
    refine zAM ?_
    refine zAY (s' := mk [(0, .sl 100000 0 ((pvE l).length)), (1, .p none (.clo f pss)), (5, .vi (k:Int))] [] [(100000, 4, pvE l)]) ?_ ?_
    · exact zAJ ⟨rfl, rfl, rfl, trivial⟩ trivial ⟨rfl, trivial⟩ rfl
    refine zAA rfl (.m rfl rfl (.r rfl (zAf rfl rfl rfl (by omega)) (.a rfl rfl .nil))) ?_
    refine nxt (Q := fun _ _ => False) (z := k) (k + 1) ?_ ?_ ?_
    ·
     show 1 ≤ (k + 1) ∧ (k + 1) ≤ l.length
     exact ⟨by omega, by omega⟩
    ·
     show l.length - (k + 1) < l.length - k
     omega
    · exact zAJ ⟨rfl, rfl, (zAL (by omega)), trivial⟩ trivial ⟨rfl, trivial⟩ rfl
  ·
   replace h2 := of_decide_eq_false h2
   refine zAx ?_
   refine zAB (zAA rfl (.m rfl rfl (.a rfl rfl .nil)) ?_)
   refine zAO ?_
   exact ends [_] [100000] (.cons (.tmp rfl) .nil) (.cons (.one (.row (len := (pvE l).length) (xs := pvE l) rfl rfl) (.sl _ _ (FlatP.clean (zAd _)))) .nil) (by decide) ⟨trivial, trivial⟩
theorem zK3 (a b : Ent) : Con Tryz.prog 73 [.agg [PV.v (.string a.user), PV.v (.int .i64 a.seq), PV.v (.int .i64 a.kind), PV.v (.string a.value)], .agg [PV.v (.string b.user), PV.v (.int .i64 b.seq), PV.v (.int .i64 b.kind), PV.v (.string b.value)]] [] [.one (.v (.bool (zFy a b)))] := by
 refine zAQ func73 rfl rfl rfl rfl ?_
 refine zAB (zAA rfl (.run [] [2] rfl (zBO rfl 2 rfl rfl (by decide) rfl (by decide)) (.run [] [3] rfl (zBO rfl 3 rfl rfl (by decide) rfl (by decide)) (.a rfl rfl .nil))) ?_)
 refine zAB (zAA rfl (.r rfl (zAC rfl rfl underlying56 rfl sizeOf54 (by decide)) (.r rfl (zAG rfl rfl rfl isAgg54 sizeOf54 (nle rfl)) (.r rfl (zAC rfl rfl underlying56 rfl sizeOf54 (by decide)) (.r rfl (zAG rfl rfl rfl isAgg54 sizeOf54 (nle rfl)) (.r rfl (zNt rfl rfl rfl rfl rfl Tryz.eqGuardType54 (fun w => zMV (a.user, a.seq, a.kind) (b.user, b.seq, b.kind) w)) (.a rfl rfl .nil)))))) ?_)
 refine zAO ?_
 exact ends [_] [] (.cons (.tmp (zAN (by simp [zFy]))) .nil) (.cons (.one .v (.v _)) .nil) (by decide) trivial
theorem zH9 (l : List Ent) (hl : l.length ≤ 2000000) (hd : Dist cmpK l) : Con Tryz.prog 37 [.one (PV.sl false 4 (pvE l))] [] [.one (.sl true 4 (pvE (zB4 cmpK l)))] := by
 refine zAQ func37 rfl rfl rfl rfl ?_
 have hle := zAF l
 have hli := zAF (zB4 cmpK l)
 have hli2 := zDn (c := cmpK) l
 refine zAB (zAA rfl (.a rfl rfl .nil) ?_)
 refine zAB (zAA rfl (.m rfl rfl (.run [400] [] rfl (zAK rfl 400 (X := []) en48 rfl (.val nod) (.cons (.one (.bor (.sl nod))) .nil) (by decide) all_nil .nil (zG0 l (by omega) hd) rfl rfl (nle rfl)) (.run [400, 500] [] rfl (zAK rfl 500 (X := [400]) en72 rfl (.val nod) (.cons (.one (.own (len := (pvE (zB4 cmpK l)).length) (xs := pvE (zB4 cmpK l)) rfl rfl)) (.cons (.one (.bor (.cl nod))) .nil)) (by decide) (all_cons rfl all_nil) (.gone .nil) (zGR (zB4 cmpK l) (by rw [zDn]; exact hl) 73 [] zFy en73 (fun x y => zK3 x y) (fun i x y hx hy => zPb (zDO cmpK_ok hd) hx hy)) rfl rfl (nle rfl)) (.a rfl rfl .nil)))) ?_)
 refine zAO ?_
 exact ends [_] [500] (.cons (.tmp rfl) .nil) (.cons (.one (.row (len := (pvE (zB4 cmpK l)).length) (xs := pvE (zB4 cmpK l)) rfl rfl) (.sl _ _ (FlatP.clean (zAd _)))) .nil) (by decide) trivial
theorem zDs (l : List Ent) (hl : l.length ≤ 2000000) (f : Nat) (pss : List (List PV)) (p : Ent → Bool) (hE : ∀ vs w, (callFunc f vs).run Tryz.prog w = .ok (.enter f vs) w) (hp : ∀ s ∈ l, Con Tryz.prog f ([.agg s.pv] ++ pss.map .fbox) [] [.one (.v (.bool (p s)))]) : Con Tryz.prog 27 [.one (PV.sl false 4 (pvE l)), .one (PV.clo f pss)] [] [.one (.v (.bool (decide (0 ≤ idxF p l))))] := by
 refine zAQ func27 rfl rfl rfl rfl ?_
 have hle := zAF l
 refine zAB (zAA rfl (.a rfl rfl .nil) ?_)
 refine zAB (zAA rfl (.m rfl rfl (.m rfl rfl (.run [700] [] rfl (zAK rfl 700 (X := []) en63 rfl (.val nod) (.cons (.one (.bor (.sl nod))) (.cons (.one (.bor (.cl nod))) .nil)) (by decide) all_nil .nil (zEw l hl f pss p hE hp) rfl rfl (nle rfl)) (.r rfl (zCQ rfl rfl rfl) (.a rfl rfl .nil))))) ?_)
 refine zAO ?_
 exact ends [_] [] (.cons (.tmp rfl) .nil) (.cons (.one .v (.v _)) .nil) (by decide) trivial
theorem zIG (l : List Int) (v : Int) (hl : l.length ≤ 2000000) : Con Tryz.prog 50 [.one (PV.sl false 1 (pvI l)), .one (PV.v (.int .i64 v))] [] [.one (.v (.int .i64 (idxF (fun x => decide (v = x)) l)))] := by
 refine zAQ func50 rfl rfl rfl rfl ?_
 have hle := zAT l
 refine zAB (zAA rfl (.a rfl rfl .nil) ?_)
 refine zAB ?_
 refine zAB (zAA rfl (.m rfl rfl (.r rfl (zAX rfl rfl underlying26) (.m rfl rfl .nil))) ?_)
 refine zAS ?_
 refine zAp (σ := Nat) (fun i => mk [(0, .p none (.sl false 1 (pvI l))), (1, .vi v), (7, .vi ((pvI l).length : Int)), (8, .vi (i:Int))] [] []) (fun i => i ≤ l.length ∧ ∀ j e, j < i → l[j]? = some e → decide (v = e) = false) (fun i => l.length - i) 0 ⟨Nat.zero_le _, fun _ _ h => absurd h (Nat.not_lt_zero _)⟩ (zAJ ⟨rfl, rfl, rfl, (zAL (by omega)), trivial⟩ trivial trivial rfl) ?_
 rintro i hG
 replace hG : i ≤ l.length ∧ ∀ j e, j < i → l[j]? = some e → decide (v = e) = false := hG
 obtain ⟨hi, hG⟩ := hG
 refine zAB (zAA rfl (.r rfl (zA4 rfl rfl rfl) .nil) ?_)
 refine zAB ?_
 refine zAZ (t := decide ((i:Int) < ((pvI l).length : Int))) rfl (fun h1 => ?_) (fun h1 => ?_)
 ·
  replace h1 := of_decide_eq_true h1
  refine zAM ?_
  refine zAB ?_
  refine zAS ?_
  refine zAB (zAA rfl (.m rfl rfl (.a rfl rfl .nil)) ?_)
  refine zAB ?_
  obtain ⟨e, he⟩ : ∃ e, l[i]? = some e := ⟨_, List.getElem?_eq_getElem (by (have hL := zAT l; omega))⟩
  have hlte := (List.getElem?_eq_some_iff.1 he).1
  refine zAA rfl (.m rfl rfl (.m rfl rfl (.m rfl rfl (.r rfl (zAh rfl rfl rfl underlying26 sizeOf2 rfl (by omega) (zB0 he)) (.r rfl (zAg rfl rfl isAgg2 rfl) (.r rfl (zA8 rfl rfl rfl) .nil)))))) ?_
  refine zAZ (t := decide (v = e)) rfl (fun h2 => ?_) (fun h2 => ?_)
  ·
   replace h2 := of_decide_eq_true h2
   refine zAB (zAA rfl (.m rfl rfl (.a rfl rfl .nil)) ?_)
   refine zAO ?_
   exact ends [_] [] (.cons (.tmp (zAL (zFD hG he (decide_eq_true h2)).symm)) .nil) (.cons (.one .v (.v _)) .nil) (by decide) trivial
  ·
   replace h2 := of_decide_eq_false h2
   refine zAM ?_
   refine zAA rfl (.r rfl (zAf rfl rfl rfl (by omega)) (.m rfl rfl .nil)) ?_
   refine nxt (Q := fun _ _ => False) (z := i) (i + 1) ?_ ?_ ?_
   ·
    show (i + 1) ≤ l.length ∧ ∀ j e, j < (i + 1) → l[j]? = some e → decide (v = e) = false
    exact ⟨by omega, zFb hG he (decide_eq_false h2)⟩
   ·
    show l.length - (i + 1) < l.length - i
    omega
   · exact zAJ ⟨rfl, rfl, rfl, (zAL (by omega)), trivial⟩ trivial trivial rfl
 ·
  replace h1 := of_decide_eq_false h1
  refine zAx ?_
  refine zAB (zAA rfl (.a rfl rfl .nil) ?_)
  refine zAO ?_
  exact ends [_] [] (.cons (.tmp (zAL (zEi (by omega) hG).symm)) .nil) (.cons (.one .v (.v _)) .nil) (by decide) trivial
theorem zFi (l : List Int) (v : Int) (hl : l.length ≤ 2000000) : Con Tryz.prog 46 [.one (PV.sl false 1 (pvI l)), .one (PV.v (.int .i64 v))] [] [.one (.v (.bool (decide (0 ≤ idxF (fun x => decide (v = x)) l))))] := by
 refine zAQ func46 rfl rfl rfl rfl ?_
 have hle := zAT l
 refine zAB (zAA rfl (.a rfl rfl .nil) ?_)
 refine zAB (zAA rfl (.m rfl rfl (.m rfl rfl (.run [700] [] rfl (zAK rfl 700 (X := []) en50 rfl (.val nod) (.cons (.one (.bor (.sl nod))) (.cons (.one (.bor .v)) .nil)) (by decide) all_nil .nil (zIG l v (by omega)) rfl rfl (nle rfl)) (.r rfl (zCQ rfl rfl rfl) (.a rfl rfl .nil))))) ?_)
 refine zAO ?_
 exact ends [_] [] (.cons (.tmp rfl) .nil) (.cons (.one .v (.v _)) .nil) (by decide) trivial
theorem zJ1 (l : List Ent) (e : Ent) (hl : l.length ≤ 2000000) : Con Tryz.prog 76 [.one (PV.sl false 4 (pvE l)), .agg [PV.v (.string e.user), PV.v (.int .i64 e.seq), PV.v (.int .i64 e.kind), PV.v (.string e.value)]] [] [.one (.sl true 4 (pvE (putF l e)))] := by
 refine zAQ func76 rfl rfl rfl rfl ?_
 have hle := zAF l
 refine zAB (zAA rfl (.run [] [3] rfl (zBO rfl 3 rfl rfl (by decide) rfl (by decide)) (.a rfl rfl .nil)) ?_)
 refine zAB (zAA rfl (.run [900] [] rfl (zAR rfl 900 underlying24 zBb (nle rfl) (by decide) rfl rfl rfl .nil (by decide) rfl (by decide) rfl (by decide) rfl) (.a rfl rfl .nil)) ?_)
 refine zAB (zAA rfl (.a rfl rfl .nil) ?_)
 refine zAB ?_
 refine zAB (zAA rfl (.a rfl rfl .nil) ?_)
 refine zAS ?_
 refine zAY (zBi 900 1 rfl rfl (by decide)) ?_
 refine zAp (σ := Nat) (fun i => mk [(0, .p none (.sl false 4 (pvE l))), (3, .ptr 3 0), (5, .sl 1 0 ((pvE (putN l e i).1).length)), (6, .vb ((putN l e i).2)), (7, .vi (i:Int))] [(3, [.vs e.user, .vi e.seq, .vi e.kind, .vs e.value])] [(1, 4, pvE (putN l e i).1)]) (fun i => i ≤ l.length) (fun i => l.length - i) 0 (by simp) (zAJ ⟨rfl, rfl, rfl, (zAN (by rfl)), (zAL (by omega)), trivial⟩ ⟨rfl, trivial⟩ ⟨(congrArg (fun x => some (4, x)) (by rfl)), trivial⟩ rfl) ?_
 rintro i hG
 replace hG : i ≤ l.length := hG
 have hpl := zGW l e i
 have hpq : (putN l e i).1.length ≤ i + 1 := by omega
 have hpv := zAF (putN l e i).1
 refine zAB ?_
 refine zAB (zAA rfl (.m rfl rfl (.m rfl rfl (.r rfl (zAX rfl rfl underlying24) (.r rfl (zA4 rfl rfl rfl) .nil)))) ?_)
 refine zAZ (t := decide ((i:Int) < ((pvE l).length : Int))) rfl (fun h1 => ?_) (fun h1 => ?_)
 ·
  replace h1 := of_decide_eq_true h1
  refine zAM ?_
  refine zAB ?_
  refine zAS ?_
  refine zAB ?_
  obtain ⟨x, hx⟩ : ∃ x, l[i]? = some x := ⟨_, List.getElem?_eq_getElem (by omega)⟩
  refine zAc zBL rfl (.m rfl rfl (.m rfl rfl (.r rfl (zAh rfl rfl rfl underlying24 sizeOf56 rfl (by omega) (zA0 hx)) (.r rfl (zAo rfl rfl underlying56 rfl sizeOf54 (by decide)) (.r rfl (zA9 rfl rfl isAgg54 sizeOf54 (nle rfl)) (.r rfl (zAC rfl rfl underlying56 rfl sizeOf54 (by decide)) (.r rfl (zAG rfl rfl rfl isAgg54 sizeOf54 (nle rfl)) (.run [2300] [] rfl (zAK rfl 2300 (X := []) en65 rfl (.val nod) (.cons (.agg (.cons (.bor .v) (.cons (.bor .v) (.cons (.bor .v) .nil)))) (.cons (.agg (.cons (.bor .v) (.cons (.bor .v) (.cons (.bor .v) .nil)))) .nil)) (by decide) all_nil .nil (zEs x e) rfl rfl (nle rfl)) (.a rfl rfl .nil))))))))) (by kernel_rfl) ?_
  refine zDx (σ := List Ent × Bool) (fun (o, dn) => mk [(0, .p none (.sl false 4 (pvE l))), (3, .ptr 3 0), (5, .sl 1 0 ((pvE o).length)), (6, .vb dn), (7, .vi (i:Int)), (8, .vi (kcmp x e))] [(3, [.vs e.user, .vi e.seq, .vi e.kind, .vs e.value])] [(1, 4, pvE o)]) (fun (o, dn) => (o, dn) = (if (!(putN l e i).2 && decide (0 ≤ kcmp x e)) = true then ((putN l e i).1 ++ [e], true) else (putN l e i))) ?_ ?_
  ·
   refine zAB ?_
   refine zAY (s' := mk [(0, .p none (.sl false 4 (pvE l))), (3, .ptr 3 0), (5, .sl 1 0 ((pvE (putN l e i).1).length)), (6, .vb ((putN l e i).2)), (7, .vi (i:Int)), (8, .vi (kcmp x e))] [(3, [.vs e.user, .vi e.seq, .vi e.kind, .vs e.value])] [(1, 4, pvE (putN l e i).1)]) ?_ ?_
   · exact zAJ ⟨rfl, rfl, rfl, rfl, rfl, rfl, trivial⟩ ⟨rfl, trivial⟩ ⟨rfl, trivial⟩ rfl
   rcases bfc (!((putN l e i).2)) with h2 | h2
   ·
    have h2' := h2
    replace h2' : ((putN l e i).2) = true := zBG h2'
    refine zAA rfl (.m rfl rfl (.r rfl (zAW (zA5 (b := (putN l e i).2) rfl rfl) (zAN h2)) (.m rfl rfl (.not rfl (.not rfl (.r rfl (zAU (t := false) rfl rfl) .nil)))))) ?_
    refine zAZ (t := false) rfl (fun h => nomatch h) (fun _ => ?_)
    refine zAM ?_
    refine ⟨((putN l e i).1, (putN l e i).2), ?_, ?_⟩
    ·
     show (((putN l e i).1), ((putN l e i).2)) = (if (!(putN l e i).2 && decide (0 ≤ kcmp x e)) = true then ((putN l e i).1 ++ [e], true) else (putN l e i))
     first | exact put_a (by assumption) | exact put_b (by omega) | exact put_c (by assumption) (by omega)
    · exact zAJ ⟨rfl, rfl, rfl, rfl, rfl, rfl, trivial⟩ ⟨rfl, trivial⟩ ⟨rfl, trivial⟩ rfl
   ·
    have h2' := h2
    replace h2' : ((putN l e i).2) = false := zBF h2'
    refine zAA rfl (.m rfl rfl (.r rfl (zAW (zA5 (b := (putN l e i).2) rfl rfl) (zAN h2)) (.m rfl rfl (.m rfl rfl (.r rfl (zCQ rfl rfl rfl) (.r rfl (zAU (t := true) rfl rfl) .nil)))))) ?_
    refine zAZ (t := decide (0 ≤ (kcmp x e))) rfl (fun h3 => ?_) (fun h3 => ?_)
    ·
     replace h3 := of_decide_eq_true h3
     refine zAB (zAA rfl (.m rfl rfl (.r rfl (zAG rfl rfl rfl isAgg56 sizeOf56 (nle rfl)) (.run [3200] [] rfl (zAR rfl 3200 underlying24 zBb (nle rfl) (by decide) rfl rfl rfl (.cons .v (.cons .v (.cons .v (.cons .v .nil)))) (by decide) rfl (by decide) rfl (by decide) rfl) (.run [1] [] rfl (zAu rfl 1 (ib := 1) (len := ((pvE (putN l e i).1) ++ [[PV.v (.string e.user), PV.v (.int .i64 e.seq), PV.v (.int .i64 e.kind), PV.v (.string e.value)]]).length) rfl rfl (.row (len := (pvE (putN l e i).1).length) (xs := pvE (putN l e i).1) rfl rfl (.inl rfl)) (.give (len := 1) (xs := [[PV.v (.string e.user), PV.v (.int .i64 e.seq), PV.v (.int .i64 e.kind), PV.v (.string e.value)]]) rfl rfl) underlying24 (sk underlying24 rfl) zBb rfl (by decide) (by decide) (by decide) List.length_append (by simp only [maxLen, List.length_append, List.length_cons, List.length_nil, zAF]; omega) (by simp only [maxLen, List.length_append, List.length_cons, List.length_nil, zAF]; omega)) (.a rfl rfl .nil))))) ?_)
     have hr4 : (pvE (putN l e i).1) ++ [[PV.v (.string e.user), PV.v (.int .i64 e.seq), PV.v (.int .i64 e.kind), PV.v (.string e.value)]] = pvE ((putN l e i).1 ++ [e]) := by exact zDz _ _
     have hp5 : (.sl 1 0 (((pvE (putN l e i).1) ++ [[PV.v (.string e.user), PV.v (.int .i64 e.seq), PV.v (.int .i64 e.kind), PV.v (.string e.value)]]).length) : AV) = .sl 1 0 ((pvE ((putN l e i).1 ++ [e])).length) := by simp only [hr4]
     refine zAY (s' := mk [(0, .p none (.sl false 4 (pvE l))), (3, .ptr 3 0), (5, .sl 1 0 ((pvE ((putN l e i).1 ++ [e])).length)), (7, .vi (i:Int)), (8, .vi (kcmp x e)), (27, .vi (kcmp x e)), (28, .vb (decide (0 ≤ (kcmp x e))))] [(3, [.vs e.user, .vi e.seq, .vi e.kind, .vs e.value])] [(1, 4, pvE ((putN l e i).1 ++ [e]))]) ?_ ?_
     · exact zAJ ⟨rfl, rfl, hp5, rfl, rfl, rfl, rfl, trivial⟩ ⟨rfl, trivial⟩ ⟨(congrArg (fun x => some (4, x)) hr4), trivial⟩ rfl
     refine zAA rfl (.a rfl rfl .nil) ?_
     refine ⟨((putN l e i).1 ++ [e], true), ?_, ?_⟩
     ·
      show (((putN l e i).1 ++ [e]), true) = (if (!(putN l e i).2 && decide (0 ≤ kcmp x e)) = true then ((putN l e i).1 ++ [e], true) else (putN l e i))
      first | exact put_a (by assumption) | exact put_b (by omega) | exact put_c (by assumption) (by omega)
     · exact zAJ ⟨rfl, rfl, rfl, rfl, rfl, rfl, trivial⟩ ⟨rfl, trivial⟩ ⟨rfl, trivial⟩ rfl
    ·
     replace h3 := of_decide_eq_false h3
     refine zAM ?_
     refine ⟨((putN l e i).1, (putN l e i).2), ?_, ?_⟩
     ·
      show (((putN l e i).1), ((putN l e i).2)) = (if (!(putN l e i).2 && decide (0 ≤ kcmp x e)) = true then ((putN l e i).1 ++ [e], true) else (putN l e i))
      first | exact put_a (by assumption) | exact put_b (by omega) | exact put_c (by assumption) (by omega)
     · exact zAJ ⟨rfl, rfl, rfl, rfl, rfl, rfl, trivial⟩ ⟨rfl, trivial⟩ ⟨rfl, trivial⟩ rfl
  ·
   rintro ⟨o, dn⟩ hG
   replace hG : (o, dn) = (if (!(putN l e i).2 && decide (0 ≤ kcmp x e)) = true then ((putN l e i).1 ++ [e], true) else (putN l e i)) := hG
   have hst := zOC hx hG
   have hol := zPq hG hpl
   have hov := zAF o
   refine zAB (zAA rfl (.m rfl rfl (.r rfl (zCg rfl rfl rfl) .nil)) ?_)
   refine zAZ (t := (!(decide ((kcmp x e) = 0)))) rfl (fun h6 => ?_) (fun h6 => ?_)
   ·
    replace h6 : ¬ ((kcmp x e) = 0) := of_decide_eq_false (zBF h6)
    refine zAA rfl (.m rfl rfl (.m rfl rfl (.m rfl rfl (.r rfl (zAh rfl rfl rfl underlying24 sizeOf56 rfl (by omega) (zA0 hx)) (.r rfl (zA9 rfl rfl isAgg56 sizeOf56 (nle rfl)) (.run [4100] [] rfl (zAR rfl 4100 underlying24 zBb (nle rfl) (by decide) rfl rfl rfl (.cons .v (.cons .v (.cons .v (.cons .v .nil)))) (by decide) rfl (by decide) rfl (by decide) rfl) (.run [1] [] rfl (zAu rfl 1 (ib := 1) (len := ((pvE o) ++ [[PV.v (.string x.user), PV.v (.int .i64 x.seq), PV.v (.int .i64 x.kind), PV.v (.string x.value)]]).length) rfl rfl (.row (len := (pvE o).length) (xs := pvE o) rfl rfl (.inl rfl)) (.give (len := 1) (xs := [[PV.v (.string x.user), PV.v (.int .i64 x.seq), PV.v (.int .i64 x.kind), PV.v (.string x.value)]]) rfl rfl) underlying24 (sk underlying24 rfl) zBb rfl (by decide) (by decide) (by decide) List.length_append (by simp only [maxLen, List.length_append, List.length_cons, List.length_nil, zAF]; omega) (by simp only [maxLen, List.length_append, List.length_cons, List.length_nil, zAF]; omega)) (.a rfl rfl .nil)))))))) ?_
    have hr7 : (pvE o) ++ [[PV.v (.string x.user), PV.v (.int .i64 x.seq), PV.v (.int .i64 x.kind), PV.v (.string x.value)]] = pvE (o ++ [x]) := by exact zDz _ _
    have hp8 : (.sl 1 0 (((pvE o) ++ [[PV.v (.string x.user), PV.v (.int .i64 x.seq), PV.v (.int .i64 x.kind), PV.v (.string x.value)]]).length) : AV) = .sl 1 0 ((pvE (o ++ [x])).length) := by simp only [hr7]
    refine zAY (s' := mk [(0, .p none (.sl false 4 (pvE l))), (3, .ptr 3 0), (5, .sl 1 0 ((pvE (o ++ [x])).length)), (6, .vb dn), (7, .vi (i:Int))] [(3, [.vs e.user, .vi e.seq, .vi e.kind, .vs e.value])] [(1, 4, pvE (o ++ [x]))]) ?_ ?_
    · exact zAJ ⟨rfl, rfl, hp8, rfl, rfl, trivial⟩ ⟨rfl, trivial⟩ ⟨(congrArg (fun x => some (4, x)) hr7), trivial⟩ rfl
    refine zAA rfl (.m rfl rfl (.r rfl (zAf rfl rfl rfl (by omega)) (.a rfl rfl .nil))) ?_
    refine nxt (Q := fun _ _ => False) (z := i) (i + 1) ?_ ?_ ?_
    ·
     show (i + 1) ≤ l.length
     omega
    ·
     show l.length - (i + 1) < l.length - i
     omega
    · exact zAJ ⟨rfl, rfl, (congrArg (fun z => AV.sl 1 0 (pvE z).length) (show _ = (putN l e (i + 1)).1 by rw [hst, if_pos h6])), (zAN (by rw [hst, if_pos h6])), (zAL (by omega)), trivial⟩ ⟨rfl, trivial⟩ ⟨(congrArg (fun x => some (4, x)) (by rw [hst, if_pos h6])), trivial⟩ rfl
   ·
    replace h6 : (kcmp x e) = 0 := of_decide_eq_true (zBG h6)
    refine zAM ?_
    refine zAA rfl (.m rfl rfl (.r rfl (zAf rfl rfl rfl (by omega)) (.a rfl rfl .nil))) ?_
    refine nxt (Q := fun _ _ => False) (z := i) (i + 1) ?_ ?_ ?_
    ·
     show (i + 1) ≤ l.length
     omega
    ·
     show l.length - (i + 1) < l.length - i
     omega
    · exact zAJ ⟨rfl, rfl, (congrArg (fun z => AV.sl 1 0 (pvE z).length) (show _ = (putN l e (i + 1)).1 by rw [hst, if_neg (fun hh => hh h6)])), (zAN (by rw [hst, if_neg (fun hh => hh h6)])), (zAL (by omega)), trivial⟩ ⟨rfl, trivial⟩ ⟨(congrArg (fun x => some (4, x)) (by rw [hst, if_neg (fun hh => hh h6)])), trivial⟩ rfl
 ·
  replace h1 := of_decide_eq_false h1
  refine zAx ?_
  refine zDx (σ := Unit) (fun _ => mk [(5, .sl 1 0 ((pvE (putF l e)).length))] [] [(1, 4, pvE (putF l e))]) (fun _ => True) ?_ ?_
  ·
   refine zAB ?_
   have hil : i = l.length := (by omega)
   refine zAA rfl (.m rfl rfl (.r rfl (zA5 (b := (putN l e i).2) rfl rfl) .nil)) ?_
   refine zAZ (t := (!((putN l e i).2))) rfl (fun h9 => ?_) (fun h9 => ?_)
   ·
    replace h9 : ((putN l e i).2) = false := zBF h9
    refine zAA rfl (.m rfl rfl (.r rfl (zAG rfl rfl rfl isAgg56 sizeOf56 (nle rfl)) (.run [4700] [] rfl (zAR rfl 4700 underlying24 zBb (nle rfl) (by decide) rfl rfl rfl (.cons .v (.cons .v (.cons .v (.cons .v .nil)))) (by decide) rfl (by decide) rfl (by decide) rfl) (.run [1] [] rfl (zAu rfl 1 (ib := 1) (len := ((pvE (putN l e i).1) ++ [[PV.v (.string e.user), PV.v (.int .i64 e.seq), PV.v (.int .i64 e.kind), PV.v (.string e.value)]]).length) rfl rfl (.row (len := (pvE (putN l e i).1).length) (xs := pvE (putN l e i).1) rfl rfl (.inl rfl)) (.give (len := 1) (xs := [[PV.v (.string e.user), PV.v (.int .i64 e.seq), PV.v (.int .i64 e.kind), PV.v (.string e.value)]]) rfl rfl) underlying24 (sk underlying24 rfl) zBb rfl (by decide) (by decide) (by decide) List.length_append (by simp only [maxLen, List.length_append, List.length_cons, List.length_nil, zAF]; omega) (by simp only [maxLen, List.length_append, List.length_cons, List.length_nil, zAF]; omega)) (.a rfl rfl .nil))))) ?_
    refine ⟨(), ?_, ?_⟩
    ·
     show True
     trivial
    · exact zAJ ⟨(congrArg (fun z => AV.sl 1 0 (List.length z)) ((zDz _ e).trans (congrArg pvE (show _ = putF l e by rw [putF, ← hil, if_neg (by simp_all)])))), trivial⟩ trivial ⟨(congrArg (fun x => some (4, x)) (by exact (zDz _ e).trans (congrArg pvE (show _ = putF l e by rw [putF, ← hil, if_neg (by simp_all)])))), trivial⟩ rfl
   ·
    replace h9 : ((putN l e i).2) = true := zBG h9
    refine zAM ?_
    refine ⟨(), ?_, ?_⟩
    ·
     show True
     trivial
    · exact zAJ ⟨(congrArg (fun z => AV.sl 1 0 (List.length z)) (congrArg pvE (show _ = putF l e by rw [putF, ← hil, if_pos (by simp_all)]))), trivial⟩ trivial ⟨(congrArg (fun x => some (4, x)) (by exact congrArg pvE (show _ = putF l e by rw [putF, ← hil, if_pos (by simp_all)]))), trivial⟩ rfl
  ·
   rintro _ hG
   replace hG : True := hG
   refine zAB (zAA rfl (.m rfl rfl (.a rfl rfl .nil)) ?_)
   refine zAO ?_
   exact ends [_] [1] (.cons (.tmp rfl) .nil) (.cons (.one (.row (len := (pvE (putF l e)).length) (xs := pvE (putF l e)) rfl rfl) (.sl _ _ (FlatP.clean (zAd _)))) .nil) (by decide) trivial
end Go.Rl
namespace Go.Rl
open Go.Proofs Go.Proofs.Tryz
set_option maxRecDepth 1000000
set_option maxHeartbeats 2000000
theorem en100 : En Tryz.prog 100 := zAm func100 (by decide) rfl
theorem en78 : En Tryz.prog 78 := zAm func78 (by decide) rfl
theorem en77 : En Tryz.prog 77 := zAm func77 (by decide) rfl
theorem zHh (l : List Pr) (hl : l.length ≤ 2000000) (f : Nat) (pss : List (List PV)) (p : Pr → Bool) (hE : ∀ vs w, (callFunc f vs).run Tryz.prog w = .ok (.enter f vs) w) (hp : ∀ s : Pr, Con Tryz.prog f ([.agg s.pv] ++ pss.map .fbox) [] [.one (.v (.bool (p s)))]) : Con Tryz.prog 100 [.one (PV.sl false 2 (pvP l)), .one (PV.clo f pss)] [] [.one (.v (.int .i64 (idxF p l)))] := by
 refine zAQ func100 rfl rfl rfl rfl ?_
 have hle := zBl l
 refine zAB (zAA rfl (.a rfl rfl .nil) ?_)
 refine zAB ?_
 refine zAB (zAA rfl (.m rfl rfl (.r rfl (zAX rfl rfl underlying33) (.m rfl rfl .nil))) ?_)
 refine zAS ?_
 refine zAp (σ := Nat) (fun i => mk [(0, .p none (.sl false 2 (pvP l))), (1, .p none (.clo f pss)), (7, .vi ((pvP l).length : Int)), (8, .vi (i:Int))] [] []) (fun i => i ≤ l.length ∧ ∀ j e, j < i → l[j]? = some e → p e = false) (fun i => l.length - i) 0 ⟨Nat.zero_le _, fun _ _ h => absurd h (Nat.not_lt_zero _)⟩ (zAJ ⟨rfl, rfl, rfl, (zAL (by omega)), trivial⟩ trivial trivial rfl) ?_
 rintro i hG
 replace hG : i ≤ l.length ∧ ∀ j e, j < i → l[j]? = some e → p e = false := hG
 obtain ⟨hi, hG⟩ := hG
 refine zAB (zAA rfl (.r rfl (zA4 rfl rfl rfl) .nil) ?_)
 refine zAB ?_
 refine zAZ (t := decide ((i:Int) < ((pvP l).length : Int))) rfl (fun h1 => ?_) (fun h1 => ?_)
 ·
  replace h1 := of_decide_eq_true h1
  refine zAM ?_
  refine zAB ?_
  refine zAS ?_
  refine zAB (zAA rfl (.m rfl rfl (.a rfl rfl .nil)) ?_)
  refine zAB ?_
  obtain ⟨e, he⟩ : ∃ e, l[i]? = some e := ⟨_, List.getElem?_eq_getElem (by omega)⟩
  refine zAA rfl (.m rfl rfl (.m rfl rfl (.m rfl rfl (.r rfl (zAh rfl rfl rfl underlying33 sizeOf72 rfl (by omega) (zGx he)) (.r rfl (zA9 rfl rfl isAgg72 sizeOf72 (nle rfl)) (.run [1600] [] rfl (zAK rfl 1600 (X := []) hE rfl (.val nod) (.cons (.agg (.cons (.bor .v) (.cons (.bor .v) .nil))) .nil) (by decide) all_nil .nil (hp e) rfl rfl (nle rfl)) .nil)))))) ?_
  refine zAZ (t := p e) rfl (fun h2 => ?_) (fun h2 => ?_)
  ·
   refine zAB (zAA rfl (.m rfl rfl (.a rfl rfl .nil)) ?_)
   refine zAO ?_
   exact ends [_] [] (.cons (.tmp (zAL (zFD hG he h2).symm)) .nil) (.cons (.one .v (.v _)) .nil) (by decide) trivial
  ·
   refine zAM ?_
   refine zAA rfl (.r rfl (zAf rfl rfl rfl (by omega)) (.m rfl rfl .nil)) ?_
   refine nxt (Q := fun _ _ => False) (z := i) (i + 1) ?_ ?_ ?_
   ·
    show (i + 1) ≤ l.length ∧ ∀ j e, j < (i + 1) → l[j]? = some e → p e = false
    exact ⟨by omega, zFb hG he h2⟩
   ·
    show l.length - (i + 1) < l.length - i
    omega
   · exact zAJ ⟨rfl, rfl, rfl, (zAL (by omega)), trivial⟩ trivial trivial rfl
 ·
  replace h1 := of_decide_eq_false h1
  refine zAx ?_
  refine zAB (zAA rfl (.a rfl rfl .nil) ?_)
  refine zAO ?_
  exact ends [_] [] (.cons (.tmp (zAL (zEi (by omega) hG).symm)) .nil) (.cons (.one .v (.v _)) .nil) (by decide) trivial
theorem zHS (l : List Pr) (hl : l.length ≤ 2000000) (f : Nat) (pss : List (List PV)) (p : Pr → Bool) (hE : ∀ vs w, (callFunc f vs).run Tryz.prog w = .ok (.enter f vs) w) (hp : ∀ s : Pr, Con Tryz.prog f ([.agg s.pv] ++ pss.map .fbox) [] [.one (.v (.bool (p s)))]) : Con Tryz.prog 77 [.one (.sl true 2 (pvP l)), .one (PV.clo f pss)] [none] [.one (.sl true 2 (pvP (l.filter (fun x => !p x))))] := by
 refine zAQ func77 rfl rfl rfl rfl ?_
 have hle := zBl l
 refine zAB (zAA rfl (.a rfl rfl .nil) ?_)
 refine zAB (zAA rfl (.m rfl rfl (.m rfl rfl (.run [100000, 1000] [] rfl (zAK rfl 1000 (X := []) en100 rfl (.val nod) (.cons (.one (.bor (.all (len := (pvP l).length) (xs := pvP l) rfl rfl (by decide)))) (.cons (.one (.bor (.cl nod))) .nil)) (by decide) all_nil .nil (zHh l hl f pss p hE hp) rfl rfl (nle rfl)) (.a rfl rfl .nil)))) ?_)
 refine zAB ?_
 refine zAB (zAA rfl (.m rfl rfl (.r rfl (zA8 rfl rfl rfl) .nil)) ?_)
 refine zAZ (t := decide ((idxF p l) = (-1))) rfl (fun h1 => ?_) (fun h1 => ?_)
 ·
  replace h1 := of_decide_eq_true h1
  refine zAB ?_
  rw [zLH h1]
  refine zAA rfl (.m rfl rfl (.a rfl rfl .nil)) ?_
  refine zAO ?_
  exact ends [_] [100000] (.cons (.tmp rfl) .nil) (.cons (.one (.row (len := (pvP l).length) (xs := pvP l) rfl rfl) (.sl _ _ (FlatP.clean (zDV _)))) .nil) (by decide) ⟨trivial, trivial⟩
 ·
  replace h1 := of_decide_eq_false h1
  refine zAM ?_
  refine zAB ?_
  refine zAB ?_
  obtain ⟨k, hk, hkl, hfirst, x0, hx0, hp0⟩ := zFc h1
  have hk1 : zBv p l (k + 1) = l.take k := (zGZ hx0 hp0).trans (zLB hfirst)
  refine zAY (s' := mk [(0, .sl 100000 0 ((pvP l).length)), (1, .p none (.clo f pss)), (5, .vi (k:Int))] [] [(100000, 2, pvP l)]) ?_ ?_
  · exact zAJ ⟨rfl, rfl, (zAL hk), trivial⟩ trivial ⟨rfl, trivial⟩ rfl
  refine zAA rfl (.m rfl rfl (.r rfl (zAf rfl rfl rfl (by omega)) (.a rfl rfl .nil))) ?_
  refine zAS ?_
  refine zAp (σ := Nat) (fun j => mk [(0, .sl 100000 0 ((pvP l).length)), (1, .p none (.clo f pss)), (5, .vi ((zBv p l j).length : Int)), (6, .vi (j:Int))] [] [(100000, 2, pvP (zBv p l j ++ l.drop (zBv p l j).length))]) (fun j => k < j ∧ j ≤ l.length ∧ (zBv p l j).length + 1 ≤ j) (fun j => l.length - j) (k + 1) ⟨by omega, by omega, by rw [hk1, List.length_take]; omega⟩ (zAJ ⟨rfl, rfl, (zAL (by rw [hk1, List.length_take]; omega)), (zAL (by omega)), trivial⟩ trivial ⟨(congrArg (fun x => some (2, x)) (by rw [hk1, List.length_take, Nat.min_eq_left (by omega), List.take_append_drop])), trivial⟩ rfl) ?_
  rintro j hG
  replace hG : k < j ∧ j ≤ l.length ∧ (zBv p l j).length + 1 ≤ j := hG
  obtain ⟨hkj, hjl, hcj⟩ := hG
  have hkn := zJ3 p l j
  have hlr := zBl (zBv p l j ++ l.drop (zBv p l j).length)
  have hlc : (zBv p l j ++ l.drop (zBv p l j).length).length = l.length := by rw [List.length_append, List.length_drop]; omega
  refine zAB ?_
  refine zAB (zAA rfl (.m rfl rfl (.m rfl rfl (.r rfl (zAy rfl rfl underlying33) (.r rfl (zA4 rfl rfl rfl) .nil)))) ?_)
  refine zAZ (t := decide ((j:Int) < ((pvP l).length : Int))) rfl (fun h2 => ?_) (fun h2 => ?_)
  ·
   replace h2 := of_decide_eq_true h2
   refine zAM ?_
   refine zAB ?_
   refine zAS ?_
   refine zAB ?_
   obtain ⟨x, hx⟩ : ∃ x, l[j]? = some x := ⟨_, List.getElem?_eq_getElem (by omega)⟩
   obtain ⟨w, hw⟩ : ∃ w, l[(zBv p l j).length]? = some w := ⟨_, List.getElem?_eq_getElem (by omega)⟩
   refine zAA rfl (.m rfl rfl (.m rfl rfl (.r rfl (zAe j rfl rfl rfl rfl underlying33 sizeOf72 rfl rfl (by omega)) (.r rfl (zBB rfl rfl rfl (by exact zGx (by rw [zOm (by omega)]; exact hx)) isAgg72 sizeOf72 (nle rfl)) (.run [] [7] rfl (zAj rfl 7 zNM rfl (by decide) rfl (by decide)) (.r rfl (zAE rfl rfl rfl rfl rfl sizeOf72 rfl (nle rfl)) .nil)))))) ?_
   refine zAB (zAA rfl (.m rfl rfl (.r rfl (zAG rfl rfl rfl isAgg72 sizeOf72 (nle rfl)) (.run [2800] [] rfl (zAK rfl 2800 (X := []) hE rfl (.val nod) (.cons (.agg (.cons (.bor .v) (.cons (.bor .v) .nil))) .nil) (by decide) all_nil .nil (hp x) rfl rfl (nle rfl)) (.r rfl (zA5 (b := p x) rfl rfl) .nil)))) ?_)
   refine zAZ (t := (!(p x))) rfl (fun h3 => ?_) (fun h3 => ?_)
   ·
    replace h3 : (p x) = false := zBF h3
    refine zAB ?_
    refine zAY (s' := mk [(0, .sl 100000 0 ((pvP l).length)), (1, .p none (.clo f pss)), (5, .vi ((zBv p l j).length : Int)), (6, .vi (j:Int)), (7, .ptr 7 0)] [(7, [.vs x.user, .vs x.value])] [(100000, 2, pvP (zBv p l j ++ l.drop (zBv p l j).length))]) ?_ ?_
    · exact zAJ ⟨rfl, rfl, rfl, rfl, rfl, trivial⟩ ⟨rfl, trivial⟩ ⟨rfl, trivial⟩ rfl
    refine zAA rfl (.m rfl rfl (.m rfl rfl (.r rfl (zAG rfl rfl rfl isAgg72 sizeOf72 (nle rfl)) (.r rfl (zAe ((zBv p l j).length) rfl rfl rfl rfl underlying33 sizeOf72 rfl rfl (by omega)) (.r rfl (zBR rfl rfl rfl (FlatP.nf (zDV _)) (by exact zGx (by rw [zOm (Nat.le_refl _)]; exact hw)) rfl rfl (.cons .v (.cons .v .nil)) sizeOf72 rfl (nle rfl)) .nil))))) ?_
    refine zAA rfl (.m rfl rfl (.r rfl (zAf rfl rfl rfl (by omega)) (.a rfl rfl .nil))) ?_
    refine zAA rfl (.m rfl rfl (.r rfl (zAf rfl rfl rfl (by omega)) (.a rfl rfl .nil))) ?_
    refine nxt (Q := fun _ _ => False) (z := j) (j + 1) ?_ ?_ ?_
    ·
     show k < (j + 1) ∧ (j + 1) ≤ l.length ∧ (zBv p l (j + 1)).length + 1 ≤ (j + 1)
     exact ⟨by omega, by omega, by rw [zHJ hx h3]; simp only [List.length_append, List.length_cons, List.length_nil]; omega⟩
    ·
     show l.length - (j + 1) < l.length - j
     omega
    · exact zAJ ⟨rfl, rfl, (zAL (by rw [zHJ hx h3]; simp)), (zAL (by omega)), trivial⟩ trivial ⟨(congrArg (fun x => some (2, x)) (by rw [zHJ hx h3, ← del_set (by omega)]; exact pvP_set)), trivial⟩ rfl
   ·
    replace h3 : (p x) = true := zBG h3
    refine zAM ?_
    refine zAY (s' := mk [(0, .sl 100000 0 ((pvP l).length)), (1, .p none (.clo f pss)), (5, .vi ((zBv p l j).length : Int)), (6, .vi (j:Int))] [] [(100000, 2, pvP (zBv p l j ++ l.drop (zBv p l j).length))]) ?_ ?_
    · exact zAJ ⟨rfl, rfl, rfl, rfl, trivial⟩ trivial ⟨rfl, trivial⟩ rfl
    refine zAA rfl (.m rfl rfl (.r rfl (zAf rfl rfl rfl (by omega)) (.a rfl rfl .nil))) ?_
    refine nxt (Q := fun _ _ => False) (z := j) (j + 1) ?_ ?_ ?_
    ·
     show k < (j + 1) ∧ (j + 1) ≤ l.length ∧ (zBv p l (j + 1)).length + 1 ≤ (j + 1)
     exact ⟨by omega, by omega, by rw [zGZ hx h3]; omega⟩
    ·
     show l.length - (j + 1) < l.length - j
     omega
    · exact zAJ ⟨rfl, rfl, (zAL (by rw [zGZ hx h3])), (zAL (by omega)), trivial⟩ trivial ⟨(congrArg (fun x => some (2, x)) (by rw [zGZ hx h3])), trivial⟩ rfl
  ·
   replace h2 := of_decide_eq_false h2
   refine zAx ?_
   refine zAB ?_
   have hjl2 : j = l.length := (by omega)
   have hkn0 := zJ3 p l j
   have hlr0 := zBl (zBv p l j ++ l.drop (zBv p l j).length)
   have hlc0 : (zBv p l j ++ l.drop (zBv p l j).length).length = l.length := by rw [List.length_append, List.length_drop]; omega
   refine zAA rfl (.m rfl rfl (.m rfl rfl (.r rfl (zCF (l := (zBv p l j).length) (h := (pvP l).length) rfl rfl rfl underlying33 sizeOf72 (.at_ rfl rfl) .no (by omega) (Nat.le_refl _) rfl) (.r rfl (zIi (lo := (zBv p l j).length) (len := (pvP l).length - (zBv p l j).length) rfl rfl rfl (zDV _) underlying33 zNM rfl rfl (by rw [hlr0, hlc0]; omega)) .nil)))) ?_
   refine zAB ?_
   have hfin : l.filter (fun x => !p x) = zBv p l j := (zOX (by omega)).symm
   rw [hfin]
   refine zAA rfl (.m rfl rfl (.m rfl rfl (.r rfl (zCF (l := 0) (h := (zBv p l j).length) rfl rfl rfl underlying33 sizeOf72 .no (.at_ rfl rfl) (Nat.zero_le _) (by omega) rfl) (.a rfl rfl .nil)))) ?_
   refine zAO ?_
   exact ends [_] [100000] (.cons (.tmp rfl) .nil) (.cons (.one (gv_eq (.pre (len := ((zBv p l j).length) - 0) (xs := (pvP (zBv p l j ++ l.drop (zBv p l j).length)).take (zBv p l j).length ++ List.replicate ((pvP l).length - (zBv p l j).length) [PV.v (.string ⟨#[]⟩), PV.v (.string ⟨#[]⟩)]) rfl (by rw [List.length_append, List.length_take, hlr0, List.length_replicate]; omega) (pr_flat (by simp [PV.isV]))) (congrArg (PV.sl true 2) (pr_row rfl))) (.sl _ _ (FlatP.clean (zDV _)))) .nil) (by decide) ⟨trivial, trivial⟩
theorem zKP (q : Pr) (f t : ByteArray) : Con Tryz.prog 78 [.agg [PV.v (.string q.user), PV.v (.string q.value)], .fbox [PV.v (.string f)], .fbox [PV.v (.string t)]] [] [.one (.v (.bool (outP f t q)))] := by
 refine zAQ func78 rfl rfl rfl rfl ?_
 refine zAB (zAA rfl (.run [] [3] rfl (zBO rfl 3 rfl rfl (by decide) rfl (by decide)) (.a rfl rfl .nil)) ?_)
 refine zAB ?_
 refine zAY (s' := mk [(1, .fea none [PV.v (.string f)]), (2, .fea none [PV.v (.string t)]), (3, .ptr 3 0)] [(3, [.vs q.user, .vs q.value])] []) ?_ ?_
 · exact zAJ ⟨rfl, rfl, rfl, trivial⟩ ⟨rfl, trivial⟩ trivial rfl
 rcases bfc (ltB q.user f) with h1 | h1
 ·
  have h1' := h1
  rcases bfc (!(decide (t = ⟨#[]⟩))) with h2 | h2
  ·
   have h2' := h2
   replace h2' : t = ⟨#[]⟩ := of_decide_eq_true (zBG h2')
   refine zAA rfl (.r rfl (zAC rfl rfl underlying72 rfl sizeOf9 (by decide)) (.r rfl (zAD rfl rfl rfl isAgg9 rfl) (.r rfl (zAg rfl rfl isAgg9 rfl) (.r rfl (zAW (zDy rfl rfl rfl) (zAN h1)) (.m rfl rfl (.r rfl (zAg rfl rfl isAgg9 rfl) (.r rfl (zAW (zFv rfl rfl rfl) (zAN h2)) (.m rfl rfl (.not rfl (.not rfl (.not rfl (.not rfl (.r rfl (zAU (t := false) rfl rfl) (.r rfl (zAU (t := false) rfl rfl) (.a rfl rfl .nil))))))))))))))) ?_
   refine zAO ?_
   exact ends [_] [] (.cons (.tmp (zAN (by simp [outP, h1, h2]))) .nil) (.cons (.one .v (.v _)) .nil) (by decide) trivial
  ·
   have h2' := h2
   replace h2' : ¬ (t = ⟨#[]⟩) := of_decide_eq_false (zBF h2')
   refine zAA rfl (.r rfl (zAC rfl rfl underlying72 rfl sizeOf9 (by decide)) (.r rfl (zAD rfl rfl rfl isAgg9 rfl) (.r rfl (zAg rfl rfl isAgg9 rfl) (.r rfl (zAW (zDy rfl rfl rfl) (zAN h1)) (.m rfl rfl (.r rfl (zAg rfl rfl isAgg9 rfl) (.r rfl (zAW (zFv rfl rfl rfl) (zAN h2)) (.m rfl rfl (.r rfl (zAC rfl rfl underlying72 rfl sizeOf9 (by decide)) (.r rfl (zAD rfl rfl rfl isAgg9 rfl) (.r rfl (zAg rfl rfl isAgg9 rfl) (.r rfl (st_sgeq rfl rfl rfl) (.r rfl (zAU (t := true) rfl rfl) (.r rfl (zAU (t := false) rfl rfl) (.a rfl rfl .nil))))))))))))))) ?_
   refine zAO ?_
   exact ends [_] [] (.cons (.tmp (zAN (by simp [outP, h1, h2]))) .nil) (.cons (.one .v (.v _)) .nil) (by decide) trivial
 ·
  have h1' := h1
  refine zAA rfl (.r rfl (zAC rfl rfl underlying72 rfl sizeOf9 (by decide)) (.r rfl (zAD rfl rfl rfl isAgg9 rfl) (.r rfl (zAg rfl rfl isAgg9 rfl) (.r rfl (zAW (zDy rfl rfl rfl) (zAN h1)) (.m rfl rfl (.not rfl (.not rfl (.not rfl (.not rfl (.not rfl (.not rfl (.not rfl (.not rfl (.r rfl (zAU (t := true) rfl rfl) (.a rfl rfl .nil))))))))))))))) ?_
  refine zAO ?_
  exact ends [_] [] (.cons (.tmp (zAN (by simp [outP, h1]))) .nil) (.cons (.one .v (.v _)) .nil) (by decide) trivial
theorem zLP (l : List Pr) (a b : ByteArray) (hl : l.length ≤ 2000000) : Con Tryz.prog 42 [.one (.sl true 2 (pvP l)), .one (PV.v (.string a)), .one (PV.v (.string b))] [none] [.one (.sl true 2 (pvP (l.filter (fun x => !outP a b x))))] := by
 refine zAQ func42 rfl rfl rfl rfl ?_
 have hle := zBl l
 refine zAB (zAA rfl (.run [] [4] rfl (zBO rfl 4 rfl rfl (by decide) rfl (by decide)) (.run [] [5] rfl (zBO rfl 5 rfl rfl (by decide) rfl (by decide)) (.a rfl rfl .nil))) ?_)
 refine zAB (zAA rfl (.m rfl rfl (.r rfl (zIh (bs := [4, 5]) rfl rfl) (.run [100000, 900] [4, 5] rfl (zAK rfl 900 (X := [100000]) en77 rfl (.val nod) (.cons (.one (.own (len := (pvP l).length) (xs := pvP l) rfl rfl)) (.cons (.one (.bor (.clo (.cons rfl (.cons .v .nil) (.cons rfl (.cons .v .nil) .nil))))) .nil)) (by decide) (all_cons rfl all_nil) (.gone .nil) (zHS l hl 78 [[.v (.string a)], [.v (.string b)]] (outP a b) en78 (fun q => zKP q a b)) rfl rfl (nle rfl)) (.a rfl rfl .nil)))) ?_)
 refine zAO ?_
 exact ends [_] [900] (.cons (.tmp rfl) .nil) (.cons (.one (.row (len := (pvP (l.filter (fun x => !outP a b x))).length) (xs := pvP (l.filter (fun x => !outP a b x))) rfl rfl) (.sl _ _ (FlatP.clean (zDV _)))) .nil) (by decide) ⟨trivial, trivial⟩
end Go.Rl
namespace Go.Rl
abbrev RunL := List (Bool × List Ent)
def pvR (rs : RunL) : List (List PV) := rs.map fun r => [.sl r.1 4 (pvE r.2)]
theorem zAi (rs : RunL) : (pvR rs).length = rs.length := by simp [pvR]
theorem zDH {rs : RunL} {i : Nat} {r : Bool × List Ent} (h : rs[i]? = some r) : (pvR rs)[i]? = some [.sl r.1 4 (pvE r.2)] := by simp [pvR, h]
def rows (rs : RunL) : List (List Ent) := rs.map (·.2)
def zBt (ls : List (List Ent)) : List Ent := ls.flatten
def ents (rs : RunL) : List Ent := zBt (rows rs)
theorem zGy (a b : List Ent) : pvE a ++ pvE b = pvE (a ++ b) := by simp [pvE]
theorem zES {rs : RunL} {i : Nat} {r : Bool × List Ent} (h : rs[i]? = some r) : ents (rs.take (i + 1)) = ents (rs.take i) ++ r.2 := by
 rw [List.take_add_one, h]
 simp [ents, rows, zBt]
theorem zD8 (rs : RunL) (i : Nat) : (ents (rs.take i)).length ≤ (ents rs).length := by
 have : ents rs = ents (rs.take i) ++ ents (rs.drop i) := by rw [ents, ents, ents, rows, rows, rows, zBt, zBt, zBt, ← List.flatten_append, ← List.map_append, List.take_append_drop]
 rw [this, List.length_append]; omega
def zBQ (rs : RunL) : Bool := decide (rs.length ≤ 20) && (decide (idxF (fun r : Bool × List Ent => !zAr r.2) rs < 0) && decide ((ents rs).length ≤ 400))
theorem zPi {rs : RunL} {i : Nat} {r : Bool × List Ent} (h : rs[i]? = some r) (hG : ∀ j e, j < i → rs[j]? = some e → (!zAr e.2) = false) (hr : zAr r.2 = false) : zBQ rs = false := by
 have := zFD (p := fun r : Bool × List Ent => !zAr r.2) hG h (by simp [hr])
 have h2 : ¬ ((i : Int) < 0) := by omega
 unfold zBQ
 rw [this, decide_eq_false h2, Bool.false_and, Bool.and_false]
theorem zN4 {rs : RunL} {i : Nat} (hi : rs.length ≤ i) (hG : ∀ j e, j < i → rs[j]? = some e → (!zAr e.2) = false) (h : rs.length ≤ 20) : zBQ rs = decide ((ents rs).length ≤ 400) := by
 have := zEi (p := fun r : Bool × List Ent => !zAr r.2) hi hG
 simp [zBQ, this, h]
theorem zDq {l : List Ent} (h : zAr l = true) : l.length ≤ 400 := by
 simp only [zAr, Bool.and_eq_true, decide_eq_true_eq] at h
 exact h.1
theorem zF6 {rs : RunL} : ∀ i, (∀ j e, j < i → rs[j]? = some e → (!zAr e.2) = false) → (ents (rs.take i)).length ≤ 400 * i
 | 0, _ => by simp [ents, rows, zBt]
 | i + 1, h => by
  have ih := zF6 i (fun j e hj => h j e (by omega))
  cases hx : rs[i]? with
  | none =>
   rw [List.take_add_one, hx]
   simpa using Nat.le_trans ih (by omega)
  | some r =>
   rw [zES hx, List.length_append]
   have := zDq (l := r.2) (by simpa using h i r (by omega) hx)
   omega
theorem zM2 {rs : RunL} (h : rs.length ≤ 20) (_ : ∀ r ∈ rs, r.2.length ≤ 2000000) (hn : ¬ 0 ≤ idxF (fun r : Bool × List Ent => !zAr r.2) rs) : (ents rs).length ≤ 2000000 := by
 have h1 : ∀ j e, j < rs.length → rs[j]? = some e → (!zAr e.2) = false := fun j e hj he => by
  cases hc : (!zAr e.2) with
  | false => rfl
  | true =>
   exfalso
   have hm := List.mem_of_getElem? he
   have : idxF (fun r : Bool × List Ent => !zAr r.2) rs ≠ -1 := by
    unfold idxF
    cases e2 : rs.findIdx? (fun r : Bool × List Ent => !zAr r.2) with
    | some k => simp
    | none => rw [List.findIdx?_eq_none_iff] at e2; have := e2 _ hm; rw [hc] at this; cases this
   obtain ⟨k, hk, _⟩ := zFc this
   omega
 have := zF6 rs.length h1
 rw [List.take_length] at this
 omega
theorem zKt {rs : RunL} (h : ¬ rs.length ≤ 20) : false = zBQ rs := by unfold zBQ; rw [decide_eq_false h, Bool.false_and]
theorem zKs {rs : RunL} (h : 0 ≤ idxF (fun r : Bool × List Ent => !zAr r.2) rs) : false = zBQ rs := by
 have h2 : ¬ idxF (fun r : Bool × List Ent => !zAr r.2) rs < 0 := by omega
 unfold zBQ; rw [decide_eq_false h2, Bool.false_and, Bool.and_false]
theorem zKr {rs : RunL} (h1 : rs.length ≤ 20) (h : ¬ 0 ≤ idxF (fun r : Bool × List Ent => !zAr r.2) rs) {m : Int} (hm : m = ((ents rs).length : Int)) : decide (m ≤ 400) = zBQ rs := by
 have h2 : idxF (fun r : Bool × List Ent => !zAr r.2) rs < 0 := by omega
 unfold zBQ; rw [decide_eq_true h2, decide_eq_true h1, Bool.true_and, Bool.true_and, hm]
 simp only [decide_eq_decide]; omega
def zBp (out l : List Ent) : List Ent := l.foldl putF out
def zA1 : List (List Ent) → List Ent
 | [] => []
 | l :: ls => zBp (zA1 ls) l
theorem zEd {out l : List Ent} {k : Nat} {e : Ent} (h : l[k]? = some e) : zBp out (l.take (k + 1)) = putF (zBp out (l.take k)) e := by
 unfold zBp
 rw [List.take_add_one, h]
 simp [List.foldl_append]
theorem zDW : ∀ (l out : List Ent), (zBp out l).length ≤ out.length + l.length
 | [], out => by simp [zBp]
 | e :: l, out => by
  have := zDW l (putF out e)
  have h2 := zMC out e
  show (zBp (putF out e) l).length ≤ _
  simp only [List.length_cons]
  omega
theorem zC9 : ∀ ls, (zA1 ls).length ≤ (zBt ls).length
 | [] => by simp [zA1]
 | l :: ls => by
  have := zC9 ls
  have h2 := zDW l (zA1 ls)
  simp only [zA1, zBt, List.flatten_cons, List.length_append] at this h2 ⊢
  omega
theorem zK5 {rs : RunL} {i : Nat} {r : Bool × List Ent} (h : rs[i]? = some r) : zA1 (rows (rs.drop i)) = zBp (zA1 (rows (rs.drop (i + 1)))) r.2 := by
 obtain ⟨hi, rfl⟩ := List.getElem?_eq_some_iff.1 h
 rw [List.drop_eq_getElem_cons hi]
 rfl
theorem zIo (rs : RunL) (i : Nat) : (zBt (rows (rs.drop i))).length ≤ (ents rs).length := by
 have : ents rs = ents (rs.take i) ++ ents (rs.drop i) := by rw [ents, ents, ents, rows, rows, rows, zBt, zBt, zBt, ← List.flatten_append, ← List.map_append, List.take_append_drop]
 rw [this, List.length_append]
 show _ ≤ (ents (rs.take i)).length + (zBt (rows (rs.drop i))).length
 omega
theorem zE6 {rs : RunL} {i : Nat} {r : Bool × List Ent} (h : rs[i]? = some r) : r.2.length ≤ (ents rs).length := by
 have h1 := zES h
 have h2 := zD8 rs (i + 1)
 rw [h1, List.length_append] at h2
 omega
def allS (mem : List Ent) (rs : RunL) : List Ent := zA1 (mem :: rows rs)
theorem pvR_all (mem : List Ent) (rs : RunL) : [[PV.sl false 4 (pvE mem)]] ++ (pvR rs).map (fun es => es.map PV.shr) = pvR ((false, mem) :: rs.map fun r => (false, r.2)) := by
 simp [pvR, PV.shr]
theorem zL0 (mem : List Ent) (rs : RunL) : rows ((false, mem) :: rs.map fun r => (false, r.2)) = mem :: rows rs := by simp [rows]
end Go.Rl
namespace Go.Rl
open Go.Proofs Go.Proofs.Tryz
set_option maxRecDepth 1000000
set_option maxHeartbeats 2000000
theorem zDP : (Tryz.prog.info? 61).map (fun i => (i.zero, i.size, i.bytes)) = some (some (.agg #[.slice none 0 0]), 1, 24) := by kernel_rfl
theorem en30 : En Tryz.prog 30 := zAm func30 (by decide) rfl
theorem en22 : En Tryz.prog 22 := zAm func22 (by decide) rfl
theorem en62 : En Tryz.prog 62 := zAm func62 (by decide) rfl
theorem en95 : En Tryz.prog 95 := zAm func95 (by decide) rfl
theorem en61 : En Tryz.prog 61 := zAm func61 (by decide) rfl
theorem en25 : En Tryz.prog 25 := zAm func25 (by decide) rfl
theorem en76 : En Tryz.prog 76 := zAm func76 (by decide) rfl
theorem en40 : En Tryz.prog 40 := zAm func40 (by decide) rfl
theorem zDm (rs : RunL) (hn : (ents rs).length ≤ 2000000) (hl : rs.length ≤ 2000000) : Con Tryz.prog 25 [.one (PV.sl false 1 (pvR rs))] [] [.one (.sl true 4 (pvE (ents rs)))] := by
 refine zAQ func25 rfl rfl rfl rfl ?_
 have hle := zAi rs
 refine zAB (zAA rfl (.a rfl rfl .nil) ?_)
 refine zAB (zAA rfl (.run [600] [] rfl (zAR rfl 600 underlying24 zBb (nle rfl) (by decide) rfl rfl rfl .nil (by decide) rfl (by decide) rfl (by decide) rfl) (.a rfl rfl .nil)) ?_)
 refine zAB ?_
 refine zAB (zAA rfl (.m rfl rfl (.r rfl (zAX rfl rfl underlying25) (.m rfl rfl .nil))) ?_)
 refine zAS ?_
 refine zAY (zBi 600 1 rfl rfl (by decide)) ?_
 refine zAp (σ := Nat) (fun i => mk [(3, .sl 1 0 ((pvE (ents (rs.take i))).length)), (7, .p none (.sl false 1 (pvR rs))), (8, .vi ((pvR rs).length : Int)), (9, .vi (i:Int))] [] [(1, 4, pvE (ents (rs.take i)))]) (fun i => i ≤ rs.length) (fun i => rs.length - i) 0 (by simp) (zAJ ⟨rfl, rfl, rfl, (zAL (by omega)), trivial⟩ trivial ⟨(congrArg (fun x => some (4, x)) (by rfl)), trivial⟩ rfl) ?_
 rintro i hG
 replace hG : i ≤ rs.length := hG
 have hti := zD8 rs i
 have hvi := zAF (ents (rs.take i))
 refine zAB (zAA rfl (.r rfl (zA4 rfl rfl rfl) .nil) ?_)
 refine zAB ?_
 refine zAZ (t := decide ((i:Int) < ((pvR rs).length : Int))) rfl (fun h1 => ?_) (fun h1 => ?_)
 ·
  replace h1 := of_decide_eq_true h1
  refine zAM ?_
  refine zAB ?_
  refine zAS ?_
  refine zAB ?_
  obtain ⟨e, he⟩ : ∃ e, rs[i]? = some e := ⟨_, List.getElem?_eq_getElem (by (have hL := zAi rs; omega))⟩
  have hlte := (List.getElem?_eq_some_iff.1 he).1
  refine zAA rfl (.r rfl (zAh rfl rfl rfl underlying25 sizeOf61 rfl (by omega) (zDH he)) (.r rfl (zA9 rfl rfl isAgg61 sizeOf61 (nle rfl)) (.run [] [5] rfl (zAj rfl 5 zDP rfl (by decide) rfl (by decide)) (.r rfl (zAE rfl rfl rfl rfl rfl sizeOf61 rfl (nle rfl)) .nil)))) ?_
  have hrl := zE6 he
  have hrv := zAF e.2
  refine zAA rfl (.m rfl rfl (.r rfl (zAC rfl rfl underlying61 rfl sizeOf24 (by decide)) (.r rfl (zAD rfl rfl rfl isAgg24 rfl) (.run [1] [] rfl (zAu rfl 1 (ib := 1) (len := ((pvE (ents (rs.take i))) ++ (pvE e.2)).length) rfl rfl (.row (len := (pvE (ents (rs.take i))).length) (xs := pvE (ents (rs.take i))) rfl rfl (.inl rfl)) (.fro (zAd _)) underlying24 (sk underlying24 rfl) zBb rfl (by decide) (by decide) (by decide) List.length_append (by simp only [maxLen, List.length_append, List.length_cons, List.length_nil, List.length_take, zAF]; omega) (by simp only [maxLen, List.length_append, List.length_cons, List.length_nil, List.length_take, zAF]; omega)) (.a rfl rfl .nil))))) ?_
  have hr2 : (pvE (ents (rs.take i))) ++ (pvE e.2) = pvE (ents (rs.take (i + 1))) := by rw [zES he, ← zGy]
  have hp3 : (.sl 1 0 (((pvE (ents (rs.take i))) ++ (pvE e.2)).length) : AV) = .sl 1 0 ((pvE (ents (rs.take (i + 1)))).length) := by simp only [hr2]
  refine zAY (s' := mk [(3, .sl 1 0 ((pvE (ents (rs.take (i + 1)))).length)), (7, .p none (.sl false 1 (pvR rs))), (8, .vi ((pvR rs).length : Int)), (9, .vi (i:Int))] [] [(1, 4, pvE (ents (rs.take (i + 1))))]) ?_ ?_
  · exact zAJ ⟨hp3, rfl, rfl, rfl, trivial⟩ trivial ⟨(congrArg (fun x => some (4, x)) hr2), trivial⟩ rfl
  refine zAA rfl (.r rfl (zAf rfl rfl rfl (by omega)) (.m rfl rfl .nil)) ?_
  refine nxt (Q := fun _ _ => False) (z := i) (i + 1) ?_ ?_ ?_
  ·
   show (i + 1) ≤ rs.length
   omega
  ·
   show rs.length - (i + 1) < rs.length - i
   omega
  · exact zAJ ⟨rfl, rfl, rfl, (zAL (by omega)), trivial⟩ trivial ⟨rfl, trivial⟩ rfl
 ·
  replace h1 := of_decide_eq_false h1
  refine zAx ?_
  refine zAB (zAA rfl (.m rfl rfl (.a rfl rfl .nil)) ?_)
  have hr4 : pvE (ents (rs.take i)) = pvE (ents rs) := by rw [List.take_of_length_le (by omega)]
  have hp5 : (.sl 1 0 ((pvE (ents (rs.take i))).length) : AV) = .sl 1 0 ((pvE (ents rs)).length) := by simp only [hr4]
  refine zAY (s' := mk [(2, .sl 1 0 ((pvE (ents rs)).length))] [] [(1, 4, pvE (ents rs))]) ?_ ?_
  · exact zAJ ⟨hp5, trivial⟩ trivial ⟨(congrArg (fun x => some (4, x)) hr4), trivial⟩ rfl
  refine zAO ?_
  exact ends [_] [1] (.cons (.tmp rfl) .nil) (.cons (.one (.row (len := (pvE (ents rs)).length) (xs := pvE (ents rs)) rfl rfl) (.sl _ _ (FlatP.clean (zAd _)))) .nil) (by decide) trivial
theorem zEr (rs : RunL) (hl : rs.length ≤ 2000000) (hb : ∀ r ∈ rs, r.2.length ≤ 2000000) : Con Tryz.prog 31 [.one (PV.sl false 1 (pvR rs))] [] [.one (.v (.bool (zBQ rs)))] := by
 refine zAQ func31 rfl rfl rfl rfl ?_
 have hle := zAi rs
 refine zAB (zAA rfl (.a rfl rfl .nil) ?_)
 refine zAB ?_
 refine zAB (zAA rfl (.m rfl rfl (.r rfl (zAX rfl rfl underlying25) (.r rfl (zBN rfl rfl rfl) .nil))) ?_)
 refine zAZ (t := decide (20 < ((pvR rs).length : Int))) rfl (fun h1 => ?_) (fun h1 => ?_)
 ·
  replace h1 := of_decide_eq_true h1
  refine zAB (zAA rfl (.a rfl rfl .nil) ?_)
  refine zAO ?_
  exact ends [_] [] (.cons (.tmp (zAN (by simp [zBQ]; omega))) .nil) (.cons (.one .v (.v _)) .nil) (by decide) trivial
 ·
  replace h1 := of_decide_eq_false h1
  refine zAM ?_
  refine zAB (zAA rfl (.a rfl rfl .nil) ?_)
  refine zAB ?_
  refine zAB (zAA rfl (.a rfl rfl .nil) ?_)
  refine zAS ?_
  refine zAp (σ := Nat) (fun i => mk [(0, .p none (.sl false 1 (pvR rs))), (3, .vi ((ents (rs.take i)).length : Int)), (4, .vi (i:Int))] [] []) (fun i => i ≤ rs.length ∧ ∀ j e, j < i → rs[j]? = some e → (!zAr e.2) = false) (fun i => rs.length - i) 0 ⟨Nat.zero_le _, fun _ _ h => absurd h (Nat.not_lt_zero _)⟩ (zAJ ⟨rfl, (zAL (by rfl)), (zAL (by omega)), trivial⟩ trivial trivial rfl) ?_
  rintro i hG
  replace hG : i ≤ rs.length ∧ ∀ j e, j < i → rs[j]? = some e → (!zAr e.2) = false := hG
  obtain ⟨hi, hG⟩ := hG
  have hbi := zF6 i hG
  refine zAB ?_
  refine zAB (zAA rfl (.m rfl rfl (.m rfl rfl (.r rfl (zAX rfl rfl underlying25) (.r rfl (zA4 rfl rfl rfl) .nil)))) ?_)
  refine zAZ (t := decide ((i:Int) < ((pvR rs).length : Int))) rfl (fun h2 => ?_) (fun h2 => ?_)
  ·
   replace h2 := of_decide_eq_true h2
   refine zAM ?_
   refine zAB ?_
   refine zAS ?_
   refine zAB ?_
   refine zAB ?_
   obtain ⟨e, he⟩ : ∃ e, rs[i]? = some e := ⟨_, List.getElem?_eq_getElem (by omega)⟩
   have hb1 := hb _ (List.mem_of_getElem? he)
   refine zAA rfl (.m rfl rfl (.m rfl rfl (.r rfl (zAh rfl rfl rfl underlying25 sizeOf61 rfl (by omega) (zDH he)) (.r rfl (zAo rfl rfl underlying61 rfl sizeOf24 (by decide)) (.r rfl (zAg rfl rfl isAgg24 rfl) (.run [1900] [] rfl (zAK rfl 1900 (X := []) en30 rfl (.val nod) (.cons (.one (.bor (.sl nod))) .nil) (by decide) all_nil .nil (zCL e.2 (by omega)) rfl rfl (nle rfl)) (.r rfl (zA5 (b := zAr e.2) rfl rfl) .nil))))))) ?_
   refine zAZ (t := (!(zAr e.2))) rfl (fun h3 => ?_) (fun h3 => ?_)
   ·
    replace h3 : (zAr e.2) = false := zBF h3
    refine zAB (zAA rfl (.a rfl rfl .nil) ?_)
    refine zAO ?_
    exact ends [_] [] (.cons (.tmp (zAN (by rw [zPi he hG h3]))) .nil) (.cons (.one .v (.v _)) .nil) (by decide) trivial
   ·
    replace h3 : (zAr e.2) = true := zBG h3
    refine zAM ?_
    have hrv := zAF e.2
    refine zAY (s' := mk [(0, .p none (.sl false 1 (pvR rs))), (3, .vi ((ents (rs.take i)).length : Int)), (4, .vi (i:Int))] [] []) ?_ ?_
    · exact zAJ ⟨rfl, rfl, rfl, trivial⟩ trivial trivial rfl
    refine zAA rfl (.m rfl rfl (.m rfl rfl (.m rfl rfl (.r rfl (zAh rfl rfl rfl underlying25 sizeOf61 rfl (by omega) (zDH he)) (.r rfl (zAo rfl rfl underlying61 rfl sizeOf24 (by decide)) (.r rfl (zAg rfl rfl isAgg24 rfl) (.r rfl (zAX rfl rfl underlying24) (.r rfl (zAf rfl rfl rfl (by omega)) (.a rfl rfl .nil))))))))) ?_
    refine zAA rfl (.m rfl rfl (.r rfl (zAf rfl rfl rfl (by omega)) (.a rfl rfl .nil))) ?_
    refine nxt (Q := fun _ _ => False) (z := i) (i + 1) ?_ ?_ ?_
    ·
     show (i + 1) ≤ rs.length ∧ ∀ j e, j < (i + 1) → rs[j]? = some e → (!zAr e.2) = false
     exact ⟨by omega, zFb hG he (by simp [h3])⟩
    ·
     show rs.length - (i + 1) < rs.length - i
     omega
    · exact zAJ ⟨rfl, (zAL (by rw [zES he, List.length_append, zAF]; omega)), (zAL (by omega)), trivial⟩ trivial trivial rfl
  ·
   replace h2 := of_decide_eq_false h2
   refine zAx ?_
   refine zAB (zAA rfl (.m rfl rfl (.r rfl (zB5 rfl rfl rfl) (.a rfl rfl .nil))) ?_)
   refine zAO ?_
   exact ends [_] [] (.cons (.tmp (zAN (by rw [zN4 (by omega) hG (by omega), List.take_of_length_le (by omega)]; simp only [decide_eq_decide]; omega))) .nil) (.cons (.one .v (.v _)) .nil) (by decide) trivial
theorem zGt (r : Bool × List Ent) (hb : r.2.length ≤ 2000000) : Con Tryz.prog 62 [.agg [PV.sl false 4 (pvE r.2)]] [] [.one (.v (.bool (!zAr r.2)))] := by
 refine zAQ func62 rfl rfl rfl rfl ?_
 have hle := zAF r.2
 refine zAB (zAA rfl (.run [] [1] rfl (zBO rfl 1 rfl rfl (by decide) rfl (by decide)) (.a rfl rfl .nil)) ?_)
 refine zAB (zAA rfl (.r rfl (zAC rfl rfl underlying61 rfl sizeOf24 (by decide)) (.r rfl (zAD rfl rfl rfl isAgg24 rfl) (.run [500] [] rfl (zAK rfl 500 (X := []) en22 rfl (.val nod) (.cons (.one (.bor (.sl nod))) .nil) (by decide) all_nil .nil (zC6 r.2 (by omega)) rfl rfl (nle rfl)) (.r rfl (zA5 (b := zAr r.2) rfl rfl) (.a rfl rfl .nil))))) ?_)
 refine zAO ?_
 exact ends [_] [] (.cons (.tmp rfl) .nil) (.cons (.one .v (.v _)) .nil) (by decide) trivial
theorem zHg (rs : RunL) (hl : rs.length ≤ 2000000) (f : Nat) (pss : List (List PV)) (p : Bool × List Ent → Bool) (hE : ∀ vs w, (callFunc f vs).run Tryz.prog w = .ok (.enter f vs) w) (hp : ∀ r ∈ rs, Con Tryz.prog f ([.agg [.sl false 4 (pvE r.2)]] ++ pss.map .fbox) [] [.one (.v (.bool (p r)))]) : Con Tryz.prog 95 [.one (PV.sl false 1 (pvR rs)), .one (PV.clo f pss)] [] [.one (.v (.int .i64 (idxF p rs)))] := by
 refine zAQ func95 rfl rfl rfl rfl ?_
 have hle := zAi rs
 refine zAB (zAA rfl (.a rfl rfl .nil) ?_)
 refine zAB ?_
 refine zAB (zAA rfl (.m rfl rfl (.r rfl (zAX rfl rfl underlying25) (.m rfl rfl .nil))) ?_)
 refine zAS ?_
 refine zAp (σ := Nat) (fun i => mk [(0, .p none (.sl false 1 (pvR rs))), (1, .p none (.clo f pss)), (7, .vi ((pvR rs).length : Int)), (8, .vi (i:Int))] [] []) (fun i => i ≤ rs.length ∧ ∀ j e, j < i → rs[j]? = some e → p e = false) (fun i => rs.length - i) 0 ⟨Nat.zero_le _, fun _ _ h => absurd h (Nat.not_lt_zero _)⟩ (zAJ ⟨rfl, rfl, rfl, (zAL (by omega)), trivial⟩ trivial trivial rfl) ?_
 rintro i hG
 replace hG : i ≤ rs.length ∧ ∀ j e, j < i → rs[j]? = some e → p e = false := hG
 obtain ⟨hi, hG⟩ := hG
 refine zAB (zAA rfl (.r rfl (zA4 rfl rfl rfl) .nil) ?_)
 refine zAB ?_
 refine zAZ (t := decide ((i:Int) < ((pvR rs).length : Int))) rfl (fun h1 => ?_) (fun h1 => ?_)
 ·
  replace h1 := of_decide_eq_true h1
  refine zAM ?_
  refine zAB ?_
  refine zAS ?_
  refine zAB (zAA rfl (.m rfl rfl (.a rfl rfl .nil)) ?_)
  refine zAB ?_
  obtain ⟨e, he⟩ : ∃ e, rs[i]? = some e := ⟨_, List.getElem?_eq_getElem (by (have hL := zAi rs; omega))⟩
  have hlte := (List.getElem?_eq_some_iff.1 he).1
  refine zAA rfl (.m rfl rfl (.m rfl rfl (.m rfl rfl (.r rfl (zAh rfl rfl rfl underlying25 sizeOf61 rfl (by omega) (zDH he)) (.r rfl (zA9 rfl rfl isAgg61 sizeOf61 (nle rfl)) (.run [1600] [] rfl (zAK rfl 1600 (X := []) hE rfl (.val nod) (.cons (.agg (.cons (.bor (.sl nod)) .nil)) .nil) (by decide) all_nil .nil (hp e (List.mem_of_getElem? he)) rfl rfl (nle rfl)) .nil)))))) ?_
  refine zAZ (t := p e) rfl (fun h2 => ?_) (fun h2 => ?_)
  ·
   refine zAB (zAA rfl (.m rfl rfl (.a rfl rfl .nil)) ?_)
   refine zAO ?_
   exact ends [_] [] (.cons (.tmp (zAL (zFD hG he h2).symm)) .nil) (.cons (.one .v (.v _)) .nil) (by decide) trivial
  ·
   refine zAM ?_
   refine zAA rfl (.r rfl (zAf rfl rfl rfl (by omega)) (.m rfl rfl .nil)) ?_
   refine nxt (Q := fun _ _ => False) (z := i) (i + 1) ?_ ?_ ?_
   ·
    show (i + 1) ≤ rs.length ∧ ∀ j e, j < (i + 1) → rs[j]? = some e → p e = false
    exact ⟨by omega, zFb hG he h2⟩
   ·
    show rs.length - (i + 1) < rs.length - i
    omega
   · exact zAJ ⟨rfl, rfl, rfl, (zAL (by omega)), trivial⟩ trivial trivial rfl
 ·
  replace h1 := of_decide_eq_false h1
  refine zAx ?_
  refine zAB (zAA rfl (.a rfl rfl .nil) ?_)
  refine zAO ?_
  exact ends [_] [] (.cons (.tmp (zAL (zEi (by omega) hG).symm)) .nil) (.cons (.one .v (.v _)) .nil) (by decide) trivial
theorem zDr (rs : RunL) (hl : rs.length ≤ 2000000) (f : Nat) (pss : List (List PV)) (p : Bool × List Ent → Bool) (hE : ∀ vs w, (callFunc f vs).run Tryz.prog w = .ok (.enter f vs) w) (hp : ∀ r ∈ rs, Con Tryz.prog f ([.agg [.sl false 4 (pvE r.2)]] ++ pss.map .fbox) [] [.one (.v (.bool (p r)))]) : Con Tryz.prog 61 [.one (PV.sl false 1 (pvR rs)), .one (PV.clo f pss)] [] [.one (.v (.bool (decide (0 ≤ idxF p rs))))] := by
 refine zAQ func61 rfl rfl rfl rfl ?_
 have hle := zAi rs
 refine zAB (zAA rfl (.a rfl rfl .nil) ?_)
 refine zAB (zAA rfl (.m rfl rfl (.m rfl rfl (.run [700] [] rfl (zAK rfl 700 (X := []) en95 rfl (.val nod) (.cons (.one (.bor (.sl nod))) (.cons (.one (.bor (.cl nod))) .nil)) (by decide) all_nil .nil (zHg rs hl f pss p hE hp) rfl rfl (nle rfl)) (.r rfl (zCQ rfl rfl rfl) (.a rfl rfl .nil))))) ?_)
 refine zAO ?_
 exact ends [_] [] (.cons (.tmp rfl) .nil) (.cons (.one .v (.v _)) .nil) (by decide) trivial
theorem zHx (rs : RunL) (hl : rs.length ≤ 2000000) (hb : ∀ r ∈ rs, r.2.length ≤ 2000000) : Con Tryz.prog 23 [.one (PV.sl false 1 (pvR rs))] [] [.one (.v (.bool (zBQ rs)))] := by
 refine zAQ func23 rfl rfl rfl rfl ?_
 have hle := zAi rs
 have hje := zAF (ents rs)
 refine zAB (zAA rfl (.a rfl rfl .nil) ?_)
 refine zAB ?_
 rcases bfc (decide (((pvR rs).length : Int) ≤ 20)) with h1 | h1
 ·
  have h1' := h1
  replace h1' := of_decide_eq_false h1'
  refine zAA rfl (.m rfl rfl (.r rfl (zAX rfl rfl underlying25) (.r rfl (zAW (zB5 rfl rfl rfl) (zAN h1)) (.m rfl rfl (.not rfl (.not rfl (.not rfl (.r rfl (zAU (t := false) rfl rfl) (.m rfl rfl (.not rfl (.not rfl (.not rfl (.not rfl (.r rfl (zAU (t := false) rfl rfl) (.a rfl rfl .nil))))))))))))))) ?_
  refine zAO ?_
  exact ends [_] [] (.cons (.tmp (zAN (by first | exact zKt (by omega) | exact zKs (by omega) | exact zKr (by omega) (by omega) (by omega)))) .nil) (.cons (.one .v (.v _)) .nil) (by decide) trivial
 ·
  have h1' := h1
  replace h1' := of_decide_eq_true h1'
  rcases bfc (!(decide (0 ≤ idxF (fun r : Bool × List Ent => !zAr r.2) rs))) with h2 | h2
  ·
   have h2' := h2
   replace h2' : 0 ≤ idxF (fun r : Bool × List Ent => !zAr r.2) rs := of_decide_eq_true (zBG h2')
   refine zAA rfl (.m rfl rfl (.r rfl (zAX rfl rfl underlying25) (.r rfl (zAW (zB5 rfl rfl rfl) (zAN h1)) (.m rfl rfl (.m rfl rfl (.run [800] [] rfl (zAK rfl 800 (X := []) en61 rfl (.val nod) (.cons (.one (.bor (.sl nod))) (.cons (.one (.bor (.cl nod))) .nil)) (by decide) all_nil .nil (zDr rs hl 62 [] (fun r : Bool × List Ent => !zAr r.2) en62 (fun r hr => zGt r (hb r hr))) rfl rfl (nle rfl)) (.r rfl (zAW (zA5 (b := decide (0 ≤ idxF (fun r : Bool × List Ent => !zAr r.2) rs)) rfl rfl) (zAN h2)) (.r rfl (zAU (t := true) rfl rfl) (.m rfl rfl (.not rfl (.not rfl (.not rfl (.not rfl (.r rfl (zAU (t := false) rfl rfl) (.a rfl rfl .nil))))))))))))))) ?_
   refine zAO ?_
   exact ends [_] [] (.cons (.tmp (zAN (by first | exact zKt (by omega) | exact zKs (by omega) | exact zKr (by omega) (by omega) (by omega)))) .nil) (.cons (.one .v (.v _)) .nil) (by decide) trivial
  ·
   have h2' := h2
   replace h2' : ¬ (0 ≤ idxF (fun r : Bool × List Ent => !zAr r.2) rs) := of_decide_eq_false (zBF h2')
   refine zAA rfl (.m rfl rfl (.r rfl (zAX rfl rfl underlying25) (.r rfl (zAW (zB5 rfl rfl rfl) (zAN h1)) (.m rfl rfl (.m rfl rfl (.run [800] [] rfl (zAK rfl 800 (X := []) en61 rfl (.val nod) (.cons (.one (.bor (.sl nod))) (.cons (.one (.bor (.cl nod))) .nil)) (by decide) all_nil .nil (zDr rs hl 62 [] (fun r : Bool × List Ent => !zAr r.2) en62 (fun r hr => zGt r (hb r hr))) rfl rfl (nle rfl)) (.r rfl (zAW (zA5 (b := decide (0 ≤ idxF (fun r : Bool × List Ent => !zAr r.2) rs)) rfl rfl) (zAN h2)) (.r rfl (zAU (t := true) rfl rfl) (.m rfl rfl (.m rfl rfl (.run [1300] [] rfl (zAK rfl 1300 (X := []) en25 rfl (.val nod) (.cons (.one (.bor (.sl nod))) .nil) (by decide) all_nil .nil (zDm rs (zM2 (by omega) hb (by omega)) hl) rfl rfl (nle rfl)) (.r rfl (zAy rfl rfl underlying24) (.r rfl (zB5 rfl rfl rfl) (.r rfl (zAU (t := true) rfl rfl) (.a rfl rfl .nil))))))))))))))) ?_
   refine zAO ?_
   exact ends [_] [] (.cons (.tmp (zAN (by first | exact zKt (by omega) | exact zKs (by omega) | exact zKr (by omega) (by omega) (by omega)))) .nil) (.cons (.one .v (.v _)) .nil) (by decide) trivial
theorem zGG (rs : RunL) (hn : (ents rs).length ≤ 900000) (hl : rs.length ≤ 2000000) : Con Tryz.prog 40 [.one (PV.sl false 1 (pvR rs))] [] [.one (.sl true 4 (pvE (zA1 (rows rs))))] := by
 refine zAQ func40 rfl rfl rfl rfl ?_
 have hle := zAi rs
 refine zAB (zAA rfl (.a rfl rfl .nil) ?_)
 refine zAB (zAA rfl (.run [600] [] rfl (zAR rfl 600 underlying24 zBb (nle rfl) (by decide) rfl rfl rfl .nil (by decide) rfl (by decide) rfl (by decide) rfl) (.a rfl rfl .nil)) ?_)
 refine zAB ?_
 refine zAB (zAA rfl (.m rfl rfl (.r rfl (zAX rfl rfl underlying25) (.r rfl (zAv rfl rfl rfl (by omega)) (.a rfl rfl .nil)))) ?_)
 refine zAS ?_
 refine zAY (zBi 600 1 rfl rfl (by decide)) ?_
 refine zAp (σ := Nat) (fun i => mk [(0, .p none (.sl false 1 (pvR rs))), (3, .sl 1 0 ((pvE (zA1 (rows (rs.drop i)))).length)), (4, .vi ((i:Int) - 1))] [] [(1, 4, pvE (zA1 (rows (rs.drop i))))]) (fun i => i ≤ rs.length) (fun i => i) rs.length (by simp) (zAJ ⟨rfl, (congrArg (AV.sl 1 0) (show 0 = (pvE (zA1 (rows (rs.drop rs.length)))).length by rw [List.drop_length] <;> rfl)), (zAL (by omega)), trivial⟩ trivial ⟨(congrArg (fun x => some (4, x)) (by rw [List.drop_length] <;> rfl)), trivial⟩ rfl) ?_
 rintro i hG
 replace hG : i ≤ rs.length := hG
 refine zAB ?_
 refine zAB (zAA rfl (.m rfl rfl (.r rfl (zCQ rfl rfl rfl) .nil)) ?_)
 refine zAZ (t := decide (0 ≤ ((i:Int) - 1))) rfl (fun h1 => ?_) (fun h1 => ?_)
 ·
  replace h1 := of_decide_eq_true h1
  refine zAM ?_
  refine zAB ?_
  refine zAS ?_
  refine zAB ?_
  obtain ⟨r, hr⟩ : ∃ r, rs[i - 1]? = some r := ⟨_, List.getElem?_eq_getElem (by omega)⟩
  have hrl := zE6 hr
  have hrv := zAF r.2
  have hml := zC9 (rows (rs.drop i))
  have hdl := zIo rs i
  refine zAA rfl (.a rfl rfl .nil) ?_
  refine zAS ?_
  refine zAp (σ := Nat) (fun k => mk [(0, .p none (.sl false 1 (pvR rs))), (3, .sl 1 0 ((pvE (zBp (zA1 (rows (rs.drop i))) (r.2.take k))).length)), (4, .vi ((i:Int) - 1)), (5, .vi (k:Int))] [] [(1, 4, pvE (zBp (zA1 (rows (rs.drop i))) (r.2.take k)))]) (fun k => k ≤ r.2.length) (fun k => r.2.length - k) 0 (by simp) (zAJ ⟨rfl, rfl, rfl, (zAL (by omega)), trivial⟩ trivial ⟨(congrArg (fun x => some (4, x)) (by rfl)), trivial⟩ rfl) ?_
  rintro k hG
  replace hG : k ≤ r.2.length := hG
  have hpl := zDW (r.2.take k) (zA1 (rows (rs.drop i)))
  have htl := List.length_take_le k r.2
  have hpv := zAF (zBp (zA1 (rows (rs.drop i))) (r.2.take k))
  refine zAB ?_
  refine zAB (zAA rfl (.m rfl rfl (.m rfl rfl (.r rfl (zAW (zBJ rfl) (((show (AV.p none (.v (.int .i64 ((i:Int) - 1)))) = AV.p none (.v (.int .i64 ((i - 1 : Nat) : Int))) from zAL (by omega))))) (.r rfl (zAh rfl rfl rfl underlying25 sizeOf61 rfl (by omega) (zDH hr)) (.r rfl (zAo rfl rfl underlying61 rfl sizeOf24 (by decide)) (.r rfl (zAg rfl rfl isAgg24 rfl) (.r rfl (zAX rfl rfl underlying24) (.r rfl (zA4 rfl rfl rfl) .nil)))))))) ?_)
  refine zAZ (t := decide ((k:Int) < ((pvE r.2).length : Int))) rfl (fun h2 => ?_) (fun h2 => ?_)
  ·
   replace h2 := of_decide_eq_true h2
   refine zAM ?_
   refine zAB ?_
   refine zAS ?_
   refine zAY (s' := mk [(0, .p none (.sl false 1 (pvR rs))), (3, .sl 1 0 ((pvE (zBp (zA1 (rows (rs.drop i))) (r.2.take k))).length)), (4, .vi ((i:Int) - 1)), (5, .vi (k:Int))] [] [(1, 4, pvE (zBp (zA1 (rows (rs.drop i))) (r.2.take k)))]) ?_ ?_
   · exact zAJ ⟨rfl, rfl, rfl, rfl, trivial⟩ trivial ⟨rfl, trivial⟩ rfl
   obtain ⟨e, he⟩ : ∃ e, r.2[k]? = some e := ⟨_, List.getElem?_eq_getElem (by (have hL := zAF r.2; omega))⟩
   have hlte := (List.getElem?_eq_some_iff.1 he).1
   refine zAA rfl (.m rfl rfl (.m rfl rfl (.r rfl (zAW (zBJ rfl) (((show (AV.p none (.v (.int .i64 ((i:Int) - 1)))) = AV.p none (.v (.int .i64 ((i - 1 : Nat) : Int))) from zAL (by omega))))) (.r rfl (zAh rfl rfl rfl underlying25 sizeOf61 rfl (by omega) (zDH hr)) (.r rfl (zAo rfl rfl underlying61 rfl sizeOf24 (by decide)) (.r rfl (zAg rfl rfl isAgg24 rfl) (.m rfl rfl (.r rfl (zAh rfl rfl rfl underlying24 sizeOf56 rfl (by omega) (zA0 he)) (.r rfl (zA9 rfl rfl isAgg56 sizeOf56 (nle rfl)) (.run [1, 3300] [] rfl (zAK rfl 3300 (X := []) en76 rfl (.val nod) (.cons (.one (.bor (.all (len := (pvE (zBp (zA1 (rows (rs.drop i))) (r.2.take k))).length) (xs := pvE (zBp (zA1 (rows (rs.drop i))) (r.2.take k))) rfl rfl (by decide)))) (.cons (.agg (.cons (.bor .v) (.cons (.bor .v) (.cons (.bor .v) (.cons (.bor .v) .nil))))) .nil)) (by decide) all_nil .nil (zJ1 (zBp (zA1 (rows (rs.drop i))) (r.2.take k)) e (by omega)) rfl rfl (nle rfl)) (.a rfl rfl .nil))))))))))) ?_
   refine zAA rfl (.m rfl rfl (.r rfl (zAf rfl rfl rfl (by omega)) (.a rfl rfl .nil))) ?_
   refine nxt (Q := fun _ _ => False) (z := k) (k + 1) ?_ ?_ ?_
   ·
    show (k + 1) ≤ r.2.length
    omega
   ·
    show r.2.length - (k + 1) < r.2.length - k
    omega
   · exact (show Wk _ _ (mk [(0, .p none (.sl false 1 (pvR rs))), (3, .sl 3300 0 ((pvE (putF (zBp (zA1 (rows (rs.drop i))) (r.2.take k)) e)).length)), (4, .vi ((i:Int) - 1)), (5, .vi ((k:Int) + 1))] [] [(3300, 4, pvE (putF (zBp (zA1 (rows (rs.drop i))) (r.2.take k)) e))]) from zAJ ⟨rfl, rfl, rfl, rfl, trivial⟩ trivial ⟨rfl, trivial⟩ rfl).trans ((zBi 3300 1 rfl rfl (by decide)).trans (zAJ ⟨rfl, (congrArg (fun z => AV.sl 1 0 (pvE z).length) (zEd he).symm), rfl, (zAL (by omega)), trivial⟩ trivial ⟨(congrArg (fun x => some (4, x)) (by rw [zEd he])), trivial⟩ rfl))
  ·
   replace h2 := of_decide_eq_false h2
   refine zAx ?_
   refine zAA rfl (.m rfl rfl (.r rfl (zAv rfl rfl rfl (by omega)) (.a rfl rfl .nil))) ?_
   have hend : (zBp (zA1 (rows (rs.drop i))) (r.2.take k)) = (zA1 (rows (rs.drop (i - 1)))) := by rw [List.take_of_length_le (by omega), zK5 hr, Nat.sub_add_cancel (by omega)]
   refine nxt (Q := fun _ _ => False) (z := i) (i - 1) ?_ ?_ ?_
   ·
    show (i - 1) ≤ rs.length
    omega
   ·
    show (i - 1) < i
    omega
   · exact zAJ ⟨rfl, (congrArg (fun z => AV.sl 1 0 (pvE z).length) hend), (zAL (by omega)), trivial⟩ trivial ⟨(congrArg (fun x => some (4, x)) (by rw [hend])), trivial⟩ rfl
 ·
  replace h1 := of_decide_eq_false h1
  refine zAx ?_
  refine zAB (zAA rfl (.m rfl rfl (.a rfl rfl .nil)) ?_)
  have hr3 : pvE (zA1 (rows (rs.drop i))) = pvE (zA1 (rows rs)) := by rw [show i = 0 by omega, List.drop_zero]
  have hp4 : (.sl 1 0 ((pvE (zA1 (rows (rs.drop i)))).length) : AV) = .sl 1 0 ((pvE (zA1 (rows rs))).length) := by simp only [hr3]
  refine zAY (s' := mk [(2, .sl 1 0 ((pvE (zA1 (rows rs))).length))] [] [(1, 4, pvE (zA1 (rows rs)))]) ?_ ?_
  · exact zAJ ⟨hp4, trivial⟩ trivial ⟨(congrArg (fun x => some (4, x)) hr3), trivial⟩ rfl
  refine zAO ?_
  exact ends [_] [1] (.cons (.tmp rfl) .nil) (.cons (.one (.row (len := (pvE (zA1 (rows rs))).length) (xs := pvE (zA1 (rows rs))) rfl rfl) (.sl _ _ (FlatP.clean (zAd _)))) .nil) (by decide) trivial
theorem zJ2 (mem : List Ent) (rs : RunL) (hn : mem.length + (ents rs).length ≤ 900000) (hl : rs.length ≤ 1000000) : Con Tryz.prog 40 [.one (PV.sl false 1 ([[PV.sl false 4 (pvE mem)]] ++ ((pvR rs).map fun es => es.map PV.shr)))] [] [.one (.sl true 4 (pvE (allS mem rs)))] := by
 rw [pvR_all]
 have h := zGG ((false, mem) :: rs.map fun r => (false, r.2)) (by rw [ents, zL0]; simpa [zBt, ents] using hn) (by simp; omega)
 rw [zL0] at h
 exact h
theorem zIF (sq : Int) (mem : List Ent) (rs : RunL) (sn : List Int) (hn : mem.length + (ents rs).length ≤ 900000) (hl : rs.length ≤ 1000000) : Con Tryz.prog 33 [.agg [PV.v (.int .i64 sq), PV.sl false 4 (pvE mem), PV.sl false 1 (pvR rs), PV.sl false 1 (pvI sn)]] [] [.one (.sl true 4 (pvE (allS mem rs)))] := by
 refine zAQ func33 rfl rfl rfl rfl ?_
 have hle := zAi rs
 refine zAB (zAA rfl (.run [] [1] rfl (zBO rfl 1 rfl rfl (by decide) rfl (by decide)) (.a rfl rfl .nil)) ?_)
 refine zAB (zAA rfl (.r rfl (zAC rfl rfl underlying28 rfl sizeOf24 (by decide)) (.r rfl (zAD rfl rfl rfl isAgg24 rfl) (.r rfl (zBC (pl := [(0, 1)]) rfl underlying61 zDP (by kernel_rfl) rfl rfl) (.run [600] [] rfl (zAR rfl 600 underlying25 zDP (nle rfl) (by decide) rfl rfl rfl (.cons .fro .nil) (by decide) rfl (by decide) rfl (by decide) rfl) (.r rfl (zAC rfl rfl underlying28 rfl sizeOf25 (by decide)) (.r rfl (zAD rfl rfl rfl isAgg25 rfl) (.run [600] [] rfl (zAu rfl 600 (ib := 600) (len := ([[PV.sl false 4 (pvE mem)]] ++ ((pvR rs).map fun es => es.map PV.shr)).length) rfl rfl (.row (len := 1) (xs := [[PV.sl false 4 (pvE mem)]]) rfl rfl (.inl rfl)) .frn underlying25 (sk underlying25 rfl) zDP rfl (by decide) (by decide) (by decide) List.length_append (by simp only [maxLen, List.length_append, List.length_map, List.length_cons, List.length_nil, zAF, zAi]; omega) (by simp only [maxLen, List.length_append, List.length_map, List.length_cons, List.length_nil, zAF, zAi]; omega)) (.run [600, 1000] [] rfl (zAK rfl 1000 (X := []) en40 rfl (.val nod) (.cons (.one (.bor (.all (len := ([[PV.sl false 4 (pvE mem)]] ++ ((pvR rs).map fun es => es.map PV.shr)).length) (xs := [[PV.sl false 4 (pvE mem)]] ++ ((pvR rs).map fun es => es.map PV.shr)) rfl rfl (by decide)))) .nil) (by decide) all_nil .nil (zJ2 mem rs hn hl) rfl rfl (nle rfl)) (.a rfl rfl .nil))))))))) ?_)
 refine zAO ?_
 exact ends [_] [1000] (.cons (.tmp rfl) .nil) (.cons (.one (.row (len := (pvE (allS mem rs)).length) (xs := pvE (allS mem rs)) rfl rfl) (.sl _ _ (FlatP.clean (zAd _)))) .nil) (by decide) trivial
end Go.Rl
namespace Go.Rl
structure Bop where
 kind : Int
 user : ByteArray
 value : ByteArray
def Bop.pv (e : Bop) : List PV := [.v (.int .i64 e.kind), .v (.string e.user), .v (.string e.value)]
def pvO (l : List Bop) : List (List PV) := l.map Bop.pv
theorem zBz (l : List Bop) : (pvO l).length = l.length := by simp [pvO]
theorem zIs {l : List Bop} {i : Nat} {e : Bop} (h : l[i]? = some e) : (pvO l)[i]? = some [.v (.int .i64 e.kind), .v (.string e.user), .v (.string e.value)] := by simp [pvO, h, Bop.pv]
theorem zL6 (l : List Bop) : FlatP (pvO l) := fun es he p hp => by
 obtain ⟨e, _, rfl⟩ := List.mem_map.1 he
 simp only [Bop.pv, List.mem_cons, List.not_mem_nil, or_false] at hp
 rcases hp with rfl | rfl | rfl <;> rfl
theorem zPn (l : List Bop) (e : Bop) : pvO l ++ [e.pv] = pvO (l ++ [e]) := by simp [pvO]
def bent (s : Int) (i : Nat) (o : Bop) : Ent := ⟨o.user, s + (i : Int), o.kind, o.value⟩
def zAq (s : Int) (ops : List Bop) : List Ent := ops.mapIdx (bent s)
theorem zB2 (s : Int) (ops : List Bop) : (zAq s ops).length = ops.length := by simp [zAq]
theorem zDv {s : Int} {ops : List Bop} {i : Nat} {o : Bop} (h : ops[i]? = some o) : (zAq s ops)[i]? = some (bent s i o) := by simp [zAq, h]
theorem zLW {s : Int} {ops : List Bop} {i : Nat} {o : Bop} (h : ops[i]? = some o) : zAq s (ops.take (i + 1)) = zAq s (ops.take i) ++ [bent s i o] := by
 have hi := (List.getElem?_eq_some_iff.1 h).1
 rw [List.take_add_one, h]
 simp only [zAq, Option.toList_some, List.mapIdx_append, List.mapIdx_cons, List.mapIdx_nil, List.length_take]
 rw [Nat.min_eq_left (by omega), Nat.zero_add]
def zA7 (s : Int) (ops : List Bop) : Bool := zAs (ops.length : Int) 1 20 && (zAs s 1 999999999980 && decide (idxF (fun e => !zBc e) (zAq s ops) < 0))
theorem zO7 {s : Int} {ops : List Bop} {i : Nat} {o : Bop} (h : ops[i]? = some o) (hG : ∀ j o, j < i → ops[j]? = some o → zBc (bent s j o) = true) (hr : zBc (bent s i o) = false) : zA7 s ops = false := by
 have := zFD (p := fun e => !zBc e) (l := zAq s ops) (i := i) (fun j e hj he => by
  have hi := (List.getElem?_eq_some_iff.1 h).1
  have h2 := zDv (s := s) (List.getElem?_eq_getElem (show j < ops.length by omega))
  rw [h2] at he
  cases he
  rw [hG j _ hj (List.getElem?_eq_getElem (by omega))]; rfl) (zDv h) (by simp [hr])
 have h2 : ¬ ((i : Int) < 0) := by omega
 unfold zA7
 rw [this, decide_eq_false h2, Bool.and_false, Bool.and_false]
theorem zNZ {s : Int} {ops : List Bop} {i : Nat} (hi : ops.length ≤ i) (hG : ∀ j o, j < i → ops[j]? = some o → zBc (bent s j o) = true) (h1 : zAs (ops.length : Int) 1 20 = true) (h2 : zAs s 1 999999999980 = true) : zA7 s ops = true := by
 have := zEi (p := fun e => !zBc e) (l := zAq s ops) (i := i) (by rw [zB2]; exact hi) (fun j e hj he => by
  have hl := (List.getElem?_eq_some_iff.1 he).1
  rw [zB2] at hl
  have h2 := zDv (s := s) (List.getElem?_eq_getElem hl)
  rw [h2] at he
  cases he
  rw [hG j _ hj (List.getElem?_eq_getElem hl)]; rfl)
 unfold zA7
 rw [this, h1, h2]
 rfl
theorem zJN {s : Int} {ops : List Bop} (h : zAs (ops.length : Int) 1 20 = false) : false = zA7 s ops := by unfold zA7; rw [h]; rfl
theorem zMn {s : Int} {ops : List Bop} (h : zAs s 1 999999999980 = false) : false = zA7 s ops := by unfold zA7; rw [h, Bool.false_and, Bool.and_false]
theorem zQa {s : Int} {ops : List Bop} (h1 : zAs (ops.length : Int) 1 20 = true) (h2 : zAs s 1 999999999980 = true) : (!decide (0 ≤ idxF (fun e => !zBc e) (zAq s ops))) = zA7 s ops := by
 unfold zA7
 rw [h1, h2, Bool.true_and, Bool.true_and]
 by_cases h : idxF (fun e => !zBc e) (zAq s ops) < 0
 · rw [decide_eq_true h, decide_eq_false (by omega)]; rfl
 · rw [decide_eq_false h, decide_eq_true (by omega)]; rfl
theorem zC7 {n : Nat} : zAs (n : Int) 1 20 = true ↔ 1 ≤ n ∧ n ≤ 20 := by
 simp only [zAs, Bool.and_eq_true, decide_eq_true_eq]; omega
def ownR (rs : RunL) : RunL := rs.map fun r => (true, r.2)
theorem zMI (rs : RunL) : (ownR rs).length = rs.length := by simp [ownR]
theorem zJm {rs : RunL} {i : Nat} {r : Bool × List Ent} (h : rs[i]? = some r) : pvR (ownR (rs.take i)) ++ [[.sl true 4 (pvE r.2)]] = pvR (ownR (rs.take (i + 1))) := by
 rw [List.take_add_one, h]
 simp [pvR, ownR]
theorem zC4 (rs : RunL) : Clean (.sl true 1 (pvR (ownR rs))) := by
 refine .sl _ _ (fun es he p hp => ?_)
 obtain ⟨r, hr, rfl⟩ := List.mem_map.1 he
 obtain ⟨r', _, rfl⟩ := List.mem_map.1 hr
 simp only [List.mem_singleton] at hp
 subst hp
 exact .sl _ _ (FlatP.clean (zAd _))
def atI (sn : List Int) (at_ : Int) : Bool := decide (0 ≤ idxF (fun x => decide (at_ = x)) sn)
end Go.Rl

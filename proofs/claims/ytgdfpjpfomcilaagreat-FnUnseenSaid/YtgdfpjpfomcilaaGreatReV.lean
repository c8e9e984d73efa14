/- Promises of functions, proved by walks over their operations; no conditions beyond those that each theorem states. -/
import Derived.Test.YtgdfpjpfomcilaaGreatReU
set_option linter.unusedSimpArgs false
set_option linter.unusedVariables false
namespace Go.Rl
open Go.Proofs Go.Proofs.Tryz
set_option maxRecDepth 1000000
set_option maxHeartbeats 2000000
theorem en84 : En Tryz.prog 84 := zAn func84 (by decide) rfl
theorem en26 : En Tryz.prog 26 := zAn func26 (by decide) rfl
theorem en83 : En Tryz.prog 83 := zAn func83 (by decide) rfl
theorem en73 : En Tryz.prog 73 := zAn func73 (by decide) rfl
theorem en48 : En Tryz.prog 48 := zAn func48 (by decide) rfl
theorem en72 : En Tryz.prog 72 := zAn func72 (by decide) rfl
theorem en50 : En Tryz.prog 50 := zAn func50 (by decide) rfl
theorem zDi (l : List Ent) (hl : l.length ≤ 1000000000) : Con Tryz.prog 26 [.one (PV.sl false 4 (pvE l))] [] [.one (.sl true 4 (pvE l))] := by
 refine zAS func26 rfl rfl rfl rfl ?_
 have hle := zAF l
 refine zAB (zAA rfl (.a rfl rfl .nil) ?_)
 refine zAB ?_
 refine zAB (zAA rfl (.m rfl rfl (.r rfl (zLF (v := .slice none 0 0) rfl rfl (.inl ⟨_, _, _, _, rfl, rfl⟩) underlying24) .nil)) ?_)
 refine zPl rfl (fun v h => ⟨_, h.choose_spec.1⟩) (fun h1 => ?_) (fun h1 => ?_)
 ·
  replace h1 : (pvE l).length = 0 := by obtain ⟨b, e, h⟩ := h1; cases e; exact h rfl
  have hl0 : l = [] := List.eq_nil_of_length_eq_zero (by rw [zAF] at h1; exact h1)
  subst hl0
  refine zAB (zAA rfl (.a rfl rfl .nil) ?_)
  refine zAO ?_
  exact ends [_] [] (.cons (.tmp rfl) .nil) (.cons (.one (.nil _) (.sl _ _ (fun _ h => nomatch h))) .nil) (by decide) trivial
 ·
  refine zAL ?_
  refine zAB (zAA rfl (.run [500] [] rfl (zAQ rfl 500 underlying24 zBb (nle rfl) (by decide) rfl rfl rfl .nil (by decide) rfl (by decide) rfl (by decide) rfl) (.m rfl rfl (.run [500] [] rfl (zAq rfl 500 (ib := 500) (len := ([] ++ (pvE l)).length) rfl rfl (.row (len := 0) (xs := []) rfl rfl (.inl rfl)) (.fro (zAg _)) underlying24 (sk underlying24 rfl) zBb rfl (by decide) (by decide) (by decide) List.length_append (by simp only [maxLen, List.length_append, List.length_cons, List.length_nil, zAF]; omega) (by simp only [maxLen, List.length_append, List.length_cons, List.length_nil, zAF]; omega)) (.a rfl rfl .nil)))) ?_)
  refine zAO ?_
  exact ends [_] [500] (.cons (.tmp rfl) .nil) (.cons (.one (.row (len := ([] ++ (pvE l)).length) (xs := [] ++ (pvE l)) rfl rfl) (.sl _ _ (FlatP.clean (zAg l)))) .nil) (by decide) trivial
theorem zHL (a b : Ent) : Con Tryz.prog 84 [.agg [PV.v (.string a.user), PV.v (.int .i64 a.seq), PV.v (.int .i64 a.kind), PV.v (.string a.value)], .agg [PV.v (.string b.user), PV.v (.int .i64 b.seq), PV.v (.int .i64 b.kind), PV.v (.string b.value)]] [] [.one (.v (.int .i64 (cmpK a b)))] := by
 refine zAS func84 rfl rfl rfl rfl ?_
 refine zAB (zAA rfl (.run [] [2] rfl (zBT rfl 2 rfl rfl (by decide) rfl (by decide)) (.run [] [3] rfl (zBT rfl 3 rfl rfl (by decide) rfl (by decide)) (.a rfl rfl .nil))) ?_)
 refine zAB (zAA rfl (.r rfl (zAC rfl rfl underlying56 rfl sizeOf54 (by decide)) (.r rfl (zAG rfl rfl rfl isAgg54 sizeOf54 (nle rfl)) (.r rfl (zAC rfl rfl underlying56 rfl sizeOf54 (by decide)) (.r rfl (zAG rfl rfl rfl isAgg54 sizeOf54 (nle rfl)) (.run [900] [] rfl (zAK rfl 900 (X := []) en60 rfl (.val nod) (.cons (.agg (.cons (.bor .v) (.cons (.bor .v) (.cons (.bor .v) .nil)))) (.cons (.agg (.cons (.bor .v) (.cons (.bor .v) (.cons (.bor .v) .nil)))) .nil)) (by decide) all_nil .nil (zG6 a b) rfl rfl (nle rfl)) (.a rfl rfl .nil)))))) ?_)
 refine zAO ?_
 exact ends [_] [] (.cons (.tmp rfl) .nil) (.cons (.one .v (.v _)) .nil) (by decide) trivial
theorem zKT (l : List Ent) (hl : l.length ≤ 2000000) (hd : Dist cmpK l) : Con Tryz.prog 48 [.one (PV.sl false 4 (pvE l))] [] [.one (.sl true 4 (pvE (zCR cmpK l)))] := by
 refine zAS func48 rfl rfl rfl rfl ?_
 have hle := zAF l
 have hli := zAF (zCR cmpK l)
 have hli2 := zEF (c := cmpK) l
 refine zAB (zAA rfl (.a rfl rfl .nil) ?_)
 refine zAB (zAA rfl (.m rfl rfl (.run [500] [] rfl (zAK rfl 500 (X := []) en26 rfl (.val nod) (.cons (.one (.bor (.sl nod))) .nil) (by decide) all_nil .nil (zDi l (by omega)) rfl rfl (nle rfl)) (.a rfl rfl .nil))) ?_)
 refine zAB (zAA rfl (.m rfl rfl (.run [500] [] rfl (zAK rfl 700 (X := [500]) en83 rfl (.val nod) (.cons (.one (.own (len := (pvE l).length) (xs := pvE l) rfl rfl)) (.cons (.one (.bor (.cl nod))) .nil)) (by decide) (all_cons rfl all_nil) (.keep (xs := pvE l) rfl (FlatP.nf (zAg _)) .nil) (zEr l (by omega) cmpK cmpK_ok 84 [] en84 (fun x y => zHL x y) hd) rfl rfl (nle rfl)) .nil)) ?_)
 refine zAB (zAA rfl (.m rfl rfl (.a rfl rfl .nil)) ?_)
 refine zAO ?_
 exact ends [_] [500] (.cons (.tmp rfl) .nil) (.cons (.one (.row (len := (pvE l).length) (xs := pvE (zCR cmpK l)) rfl (by omega)) (.sl _ _ (FlatP.clean (zAg _)))) .nil) (by decide) trivial
theorem zF7 (l : List Ent) (hl : l.length ≤ 2000000) (f : Nat) (pss : List (List PV)) (p : Ent → Ent → Bool) (hE : ∀ vs w, (callFunc f vs).run Tryz.prog w = .ok (.enter f vs) w) (hp : ∀ x y : Ent, Con Tryz.prog f ([.agg x.pv, .agg y.pv] ++ pss.map .fbox) [] [.one (.v (.bool (p x y)))]) (hn : ∀ i x y, l[i]? = some x → l[i + 1]? = some y → p y x = false) : Con Tryz.prog 72 [.one (.sl true 4 (pvE l)), .one (PV.clo f pss)] [none] [.one (.sl true 4 (pvE l))] := by
 refine zAS func72 rfl rfl rfl rfl ?_
 have hle := zAF l
 refine zAB (zAA rfl (.a rfl rfl .nil) ?_)
 refine zAB ?_
 refine zAB (zAA rfl (.m rfl rfl (.r rfl (zA2 rfl rfl underlying24) (.r rfl (zA4 rfl rfl rfl) .nil))) ?_)
 refine zAb (t := decide (((pvE l).length : Int) < 2)) rfl (fun h1 => ?_) (fun h1 => ?_)
 ·
  replace h1 := of_decide_eq_true h1
  refine zAB (zAA rfl (.m rfl rfl (.a rfl rfl .nil)) ?_)
  refine zAO ?_
  exact ends [_] [100000] (.cons (.tmp rfl) .nil) (.cons (.one (.row (len := (pvE l).length) (xs := pvE l) rfl rfl) (.sl _ _ (FlatP.clean (zAg _)))) .nil) (by decide) ⟨trivial, trivial⟩
 ·
  replace h1 := of_decide_eq_false h1
  refine zAL ?_
  refine zAB ?_
  refine zAB (zAA rfl (.a rfl rfl .nil) ?_)
  refine zAR ?_
  refine zAo (σ := Nat) (fun k => mk [(0, .sl 100000 0 ((pvE l).length)), (1, .p none (.clo f pss)), (5, .vi (k:Int))] [] [(100000, 4, pvE l)]) (fun k => 1 ≤ k ∧ k ≤ l.length) (fun k => l.length - k) 1 ⟨Nat.le_refl _, by omega⟩ (zAI ⟨rfl, rfl, (zAJ (by omega)), trivial⟩ trivial ⟨rfl, trivial⟩ rfl) ?_
  rintro k hG
  replace hG : 1 ≤ k ∧ k ≤ l.length := hG
  obtain ⟨h1k, hkl⟩ := hG
  refine zAB ?_
  refine zAB (zAA rfl (.m rfl rfl (.m rfl rfl (.r rfl (zA2 rfl rfl underlying24) (.r rfl (zA4 rfl rfl rfl) .nil)))) ?_)
  refine zAb (t := decide ((k:Int) < ((pvE l).length : Int))) rfl (fun h2 => ?_) (fun h2 => ?_)
  ·
   replace h2 := of_decide_eq_true h2
   refine zAL ?_
   refine zAB ?_
   refine zAR ?_
   refine zAB ?_
   obtain ⟨y, hy⟩ : ∃ y, l[k]? = some y := ⟨_, List.getElem?_eq_getElem (by omega)⟩
   obtain ⟨x, hx⟩ : ∃ x, l[k - 1]? = some x := ⟨_, List.getElem?_eq_getElem (by omega)⟩
   have hpn : p y x = false := hn (k - 1) x y hx (by rw [Nat.sub_add_cancel h1k]; exact hy)
   refine zAZ zBD rfl (.m rfl rfl (.m rfl rfl (.m rfl rfl (.r rfl (zAW k rfl rfl rfl rfl underlying24 sizeOf56 rfl rfl (by omega)) (.r rfl (zBB rfl rfl rfl (zAw hy) isAgg56 sizeOf56 (nle rfl)) (.m rfl rfl (.m rfl rfl (.r rfl (zAX (zAs rfl rfl rfl (by omega)) (((show (AV.p none (.v (.int .i64 ((k:Int) - 1)))) = AV.p none (.v (.int .i64 ((k - 1 : Nat) : Int))) from zAJ (by omega))))) (.r rfl (zAW (k - 1) rfl rfl rfl rfl underlying24 sizeOf56 rfl rfl (by omega)) (.r rfl (zBB rfl rfl rfl (zAw hx) isAgg56 sizeOf56 (nle rfl)) (.run [2800] [] rfl (zAK rfl 2800 (X := []) hE rfl (.val nod) (.cons (.agg (.cons (.bor .v) (.cons (.bor .v) (.cons (.bor .v) (.cons (.bor .v) .nil))))) (.cons (.agg (.cons (.bor .v) (.cons (.bor .v) (.cons (.bor .v) (.cons (.bor .v) .nil))))) .nil)) (by decide) all_nil .nil (hp y x) rfl rfl (nle rfl)) .nil))))))))))) (by kernel_rfl) ?_
   refine zAb (t := p y x) rfl (fun h3 => ?_) (fun h3 => ?_)
   ·
    exact absurd (hpn.symm.trans h3) (by decide)
   ·
    refine zAL ?_
    refine zAV (s' := mk [(0, .sl 100000 0 ((pvE l).length)), (1, .p none (.clo f pss)), (5, .vi (k:Int))] [] [(100000, 4, pvE l)]) ?_ ?_
    · exact zAI ⟨rfl, rfl, rfl, trivial⟩ trivial ⟨rfl, trivial⟩ rfl
    refine zAA rfl (.m rfl rfl (.r rfl (zAe rfl rfl rfl (by omega)) (.a rfl rfl .nil))) ?_
    refine nxt (Q := fun _ _ => False) (z := k) (k + 1) ?_ ?_ ?_
    ·
     show 1 ≤ (k + 1) ∧ (k + 1) ≤ l.length
     exact ⟨by omega, by omega⟩
    ·
     show l.length - (k + 1) < l.length - k
     omega
    · exact zAI ⟨rfl, rfl, (zAJ (by omega)), trivial⟩ trivial ⟨rfl, trivial⟩ rfl
  ·
   replace h2 := of_decide_eq_false h2
   refine zAu ?_
   refine zAB (zAA rfl (.m rfl rfl (.a rfl rfl .nil)) ?_)
   refine zAO ?_
   exact ends [_] [100000] (.cons (.tmp rfl) .nil) (.cons (.one (.row (len := (pvE l).length) (xs := pvE l) rfl rfl) (.sl _ _ (FlatP.clean (zAg _)))) .nil) (by decide) ⟨trivial, trivial⟩
theorem zKW (a b : Ent) : Con Tryz.prog 73 [.agg [PV.v (.string a.user), PV.v (.int .i64 a.seq), PV.v (.int .i64 a.kind), PV.v (.string a.value)], .agg [PV.v (.string b.user), PV.v (.int .i64 b.seq), PV.v (.int .i64 b.kind), PV.v (.string b.value)]] [] [.one (.v (.bool (zFf a b)))] := by
 refine zAS func73 rfl rfl rfl rfl ?_
 refine zAB (zAA rfl (.run [] [2] rfl (zBT rfl 2 rfl rfl (by decide) rfl (by decide)) (.run [] [3] rfl (zBT rfl 3 rfl rfl (by decide) rfl (by decide)) (.a rfl rfl .nil))) ?_)
 refine zAB (zAA rfl (.r rfl (zAC rfl rfl underlying56 rfl sizeOf54 (by decide)) (.r rfl (zAG rfl rfl rfl isAgg54 sizeOf54 (nle rfl)) (.r rfl (zAC rfl rfl underlying56 rfl sizeOf54 (by decide)) (.r rfl (zAG rfl rfl rfl isAgg54 sizeOf54 (nle rfl)) (.r rfl (zM7 rfl rfl rfl rfl rfl Tryz.eqGuardType54 (fun w => zLq (a.user, a.seq, a.kind) (b.user, b.seq, b.kind) w)) (.a rfl rfl .nil)))))) ?_)
 refine zAO ?_
 exact ends [_] [] (.cons (.tmp (zAM (by simp [zFf]))) .nil) (.cons (.one .v (.v _)) .nil) (by decide) trivial
theorem zHg (l : List Ent) (hl : l.length ≤ 2000000) (hd : Dist cmpK l) : Con Tryz.prog 37 [.one (PV.sl false 4 (pvE l))] [] [.one (.sl true 4 (pvE (zCR cmpK l)))] := by
 refine zAS func37 rfl rfl rfl rfl ?_
 have hle := zAF l
 have hli := zAF (zCR cmpK l)
 have hli2 := zEF (c := cmpK) l
 refine zAB (zAA rfl (.a rfl rfl .nil) ?_)
 refine zAB (zAA rfl (.m rfl rfl (.run [400] [] rfl (zAK rfl 400 (X := []) en48 rfl (.val nod) (.cons (.one (.bor (.sl nod))) .nil) (by decide) all_nil .nil (zKT l (by omega) hd) rfl rfl (nle rfl)) (.run [400, 500] [] rfl (zAK rfl 500 (X := [400]) en72 rfl (.val nod) (.cons (.one (.own (len := (pvE (zCR cmpK l)).length) (xs := pvE (zCR cmpK l)) rfl rfl)) (.cons (.one (.bor (.cl nod))) .nil)) (by decide) (all_cons rfl all_nil) (.gone .nil) (zF7 (zCR cmpK l) (by rw [zEF]; exact hl) 73 [] zFf en73 (fun x y => zKW x y) (fun i x y hx hy => zOi (zDd cmpK_ok hd) hx hy)) rfl rfl (nle rfl)) (.a rfl rfl .nil)))) ?_)
 refine zAO ?_
 exact ends [_] [500] (.cons (.tmp rfl) .nil) (.cons (.one (.row (len := (pvE (zCR cmpK l)).length) (xs := pvE (zCR cmpK l)) rfl rfl) (.sl _ _ (FlatP.clean (zAg _)))) .nil) (by decide) trivial
theorem zFq (l : List Ent) (hl : l.length ≤ 2000000) (f : Nat) (pss : List (List PV)) (p : Ent → Bool) (hE : ∀ vs w, (callFunc f vs).run Tryz.prog w = .ok (.enter f vs) w) (hp : ∀ s ∈ l, Con Tryz.prog f ([.agg s.pv] ++ pss.map .fbox) [] [.one (.v (.bool (p s)))]) : Con Tryz.prog 27 [.one (PV.sl false 4 (pvE l)), .one (PV.clo f pss)] [] [.one (.v (.bool (decide (0 ≤ idxF p l))))] := by
 refine zAS func27 rfl rfl rfl rfl ?_
 have hle := zAF l
 refine zAB (zAA rfl (.a rfl rfl .nil) ?_)
 refine zAB (zAA rfl (.m rfl rfl (.m rfl rfl (.run [700] [] rfl (zAK rfl 700 (X := []) en63 rfl (.val nod) (.cons (.one (.bor (.sl nod))) (.cons (.one (.bor (.cl nod))) .nil)) (by decide) all_nil .nil (zEk l hl f pss p hE hp) rfl rfl (nle rfl)) (.r rfl (zCM rfl rfl rfl) (.a rfl rfl .nil))))) ?_)
 refine zAO ?_
 exact ends [_] [] (.cons (.tmp rfl) .nil) (.cons (.one .v (.v _)) .nil) (by decide) trivial
theorem zMd (l : List Int) (v : Int) (hl : l.length ≤ 2000000) : Con Tryz.prog 50 [.one (PV.sl false 1 (pvI l)), .one (PV.v (.int .i64 v))] [] [.one (.v (.int .i64 (idxF (fun x => decide (v = x)) l)))] := by
 refine zAS func50 rfl rfl rfl rfl ?_
 have hle := zAU l
 refine zAB (zAA rfl (.a rfl rfl .nil) ?_)
 refine zAB ?_
 refine zAB (zAA rfl (.m rfl rfl (.r rfl (zAa rfl rfl underlying26) (.m rfl rfl .nil))) ?_)
 refine zAR ?_
 refine zAo (σ := Nat) (fun i => mk [(0, .p none (.sl false 1 (pvI l))), (1, .vi v), (7, .vi ((pvI l).length : Int)), (8, .vi (i:Int))] [] []) (fun i => i ≤ l.length ∧ ∀ j e, j < i → l[j]? = some e → decide (v = e) = false) (fun i => l.length - i) 0 ⟨Nat.zero_le _, fun _ _ h => absurd h (Nat.not_lt_zero _)⟩ (zAI ⟨rfl, rfl, rfl, (zAJ (by omega)), trivial⟩ trivial trivial rfl) ?_
 rintro i hG
 replace hG : i ≤ l.length ∧ ∀ j e, j < i → l[j]? = some e → decide (v = e) = false := hG
 obtain ⟨hi, hG⟩ := hG
 refine zAB (zAA rfl (.r rfl (zA4 rfl rfl rfl) .nil) ?_)
 refine zAB ?_
 refine zAb (t := decide ((i:Int) < ((pvI l).length : Int))) rfl (fun h1 => ?_) (fun h1 => ?_)
 ·
  replace h1 := of_decide_eq_true h1
  refine zAL ?_
  refine zAB ?_
  refine zAR ?_
  refine zAB (zAA rfl (.m rfl rfl (.a rfl rfl .nil)) ?_)
  refine zAB ?_
  obtain ⟨e, he⟩ : ∃ e, l[i]? = some e := ⟨_, List.getElem?_eq_getElem (by (have hL := zAU l; omega))⟩
  have hlte := (List.getElem?_eq_some_iff.1 he).1
  refine zAA rfl (.m rfl rfl (.m rfl rfl (.m rfl rfl (.r rfl (zAf rfl rfl rfl underlying26 sizeOf2 rfl (by omega) (zBe he)) (.r rfl (zAd rfl rfl isAgg2 rfl) (.r rfl (zA9 rfl rfl rfl) .nil)))))) ?_
  refine zAb (t := decide (v = e)) rfl (fun h2 => ?_) (fun h2 => ?_)
  ·
   replace h2 := of_decide_eq_true h2
   refine zAB (zAA rfl (.m rfl rfl (.a rfl rfl .nil)) ?_)
   refine zAO ?_
   exact ends [_] [] (.cons (.tmp (zAJ (zE0 hG he (decide_eq_true h2)).symm)) .nil) (.cons (.one .v (.v _)) .nil) (by decide) trivial
  ·
   replace h2 := of_decide_eq_false h2
   refine zAL ?_
   refine zAA rfl (.r rfl (zAe rfl rfl rfl (by omega)) (.m rfl rfl .nil)) ?_
   refine nxt (Q := fun _ _ => False) (z := i) (i + 1) ?_ ?_ ?_
   ·
    show (i + 1) ≤ l.length ∧ ∀ j e, j < (i + 1) → l[j]? = some e → decide (v = e) = false
    exact ⟨by omega, zFK hG he (decide_eq_false h2)⟩
   ·
    show l.length - (i + 1) < l.length - i
    omega
   · exact zAI ⟨rfl, rfl, rfl, (zAJ (by omega)), trivial⟩ trivial trivial rfl
 ·
  replace h1 := of_decide_eq_false h1
  refine zAu ?_
  refine zAB (zAA rfl (.a rfl rfl .nil) ?_)
  refine zAO ?_
  exact ends [_] [] (.cons (.tmp (zAJ (zEa (by omega) hG).symm)) .nil) (.cons (.one .v (.v _)) .nil) (by decide) trivial
theorem zIs (l : List Int) (v : Int) (hl : l.length ≤ 2000000) : Con Tryz.prog 46 [.one (PV.sl false 1 (pvI l)), .one (PV.v (.int .i64 v))] [] [.one (.v (.bool (decide (0 ≤ idxF (fun x => decide (v = x)) l))))] := by
 refine zAS func46 rfl rfl rfl rfl ?_
 have hle := zAU l
 refine zAB (zAA rfl (.a rfl rfl .nil) ?_)
 refine zAB (zAA rfl (.m rfl rfl (.m rfl rfl (.run [700] [] rfl (zAK rfl 700 (X := []) en50 rfl (.val nod) (.cons (.one (.bor (.sl nod))) (.cons (.one (.bor .v)) .nil)) (by decide) all_nil .nil (zMd l v (by omega)) rfl rfl (nle rfl)) (.r rfl (zCM rfl rfl rfl) (.a rfl rfl .nil))))) ?_)
 refine zAO ?_
 exact ends [_] [] (.cons (.tmp rfl) .nil) (.cons (.one .v (.v _)) .nil) (by decide) trivial
theorem zJZ (l : List Ent) (e : Ent) (hl : l.length ≤ 2000000) : Con Tryz.prog 76 [.one (PV.sl false 4 (pvE l)), .agg [PV.v (.string e.user), PV.v (.int .i64 e.seq), PV.v (.int .i64 e.kind), PV.v (.string e.value)]] [] [.one (.sl true 4 (pvE (putF l e)))] := by
 refine zAS func76 rfl rfl rfl rfl ?_
 have hle := zAF l
 refine zAB (zAA rfl (.run [] [3] rfl (zBT rfl 3 rfl rfl (by decide) rfl (by decide)) (.a rfl rfl .nil)) ?_)
 refine zAB (zAA rfl (.run [900] [] rfl (zAQ rfl 900 underlying24 zBb (nle rfl) (by decide) rfl rfl rfl .nil (by decide) rfl (by decide) rfl (by decide) rfl) (.a rfl rfl .nil)) ?_)
 refine zAB (zAA rfl (.a rfl rfl .nil) ?_)
 refine zAB ?_
 refine zAB (zAA rfl (.a rfl rfl .nil) ?_)
 refine zAR ?_
 refine zAV (zBi 900 1 rfl rfl (by decide)) ?_
 refine zAo (σ := Nat) (fun i => mk [(0, .p none (.sl false 4 (pvE l))), (3, .ptr 3 0), (5, .sl 1 0 ((pvE (putN l e i).1).length)), (6, .vb ((putN l e i).2)), (7, .vi (i:Int))] [(3, [.vs e.user, .vi e.seq, .vi e.kind, .vs e.value])] [(1, 4, pvE (putN l e i).1)]) (fun i => i ≤ l.length) (fun i => l.length - i) 0 (by simp) (zAI ⟨rfl, rfl, rfl, (zAM (by rfl)), (zAJ (by omega)), trivial⟩ ⟨rfl, trivial⟩ ⟨(congrArg (fun x => some (4, x)) (by rfl)), trivial⟩ rfl) ?_
 rintro i hG
 replace hG : i ≤ l.length := hG
 have hpl := zGC l e i
 have hpq : (putN l e i).1.length ≤ i + 1 := by omega
 have hpv := zAF (putN l e i).1
 refine zAB ?_
 refine zAB (zAA rfl (.m rfl rfl (.m rfl rfl (.r rfl (zAa rfl rfl underlying24) (.r rfl (zA4 rfl rfl rfl) .nil)))) ?_)
 refine zAb (t := decide ((i:Int) < ((pvE l).length : Int))) rfl (fun h1 => ?_) (fun h1 => ?_)
 ·
  replace h1 := of_decide_eq_true h1
  refine zAL ?_
  refine zAB ?_
  refine zAR ?_
  refine zAB ?_
  obtain ⟨x, hx⟩ : ∃ x, l[i]? = some x := ⟨_, List.getElem?_eq_getElem (by omega)⟩
  refine zAZ zBD rfl (.m rfl rfl (.m rfl rfl (.r rfl (zAf rfl rfl rfl underlying24 sizeOf56 rfl (by omega) (zAw hx)) (.r rfl (zAj rfl rfl underlying56 rfl sizeOf54 (by decide)) (.r rfl (zBA rfl rfl isAgg54 sizeOf54 (nle rfl)) (.r rfl (zAC rfl rfl underlying56 rfl sizeOf54 (by decide)) (.r rfl (zAG rfl rfl rfl isAgg54 sizeOf54 (nle rfl)) (.run [2300] [] rfl (zAK rfl 2300 (X := []) en65 rfl (.val nod) (.cons (.agg (.cons (.bor .v) (.cons (.bor .v) (.cons (.bor .v) .nil)))) (.cons (.agg (.cons (.bor .v) (.cons (.bor .v) (.cons (.bor .v) .nil)))) .nil)) (by decide) all_nil .nil (zEi x e) rfl rfl (nle rfl)) (.a rfl rfl .nil))))))))) (by kernel_rfl) ?_
  refine zDl (σ := List Ent × Bool) (fun (o, dn) => mk [(0, .p none (.sl false 4 (pvE l))), (3, .ptr 3 0), (5, .sl 1 0 ((pvE o).length)), (6, .vb dn), (7, .vi (i:Int)), (8, .vi (kcmp x e))] [(3, [.vs e.user, .vi e.seq, .vi e.kind, .vs e.value])] [(1, 4, pvE o)]) (fun (o, dn) => (o, dn) = (if (!(putN l e i).2 && decide (0 ≤ kcmp x e)) = true then ((putN l e i).1 ++ [e], true) else (putN l e i))) ?_ ?_
  ·
   refine zAB ?_
   refine zAV (s' := mk [(0, .p none (.sl false 4 (pvE l))), (3, .ptr 3 0), (5, .sl 1 0 ((pvE (putN l e i).1).length)), (6, .vb ((putN l e i).2)), (7, .vi (i:Int)), (8, .vi (kcmp x e))] [(3, [.vs e.user, .vi e.seq, .vi e.kind, .vs e.value])] [(1, 4, pvE (putN l e i).1)]) ?_ ?_
   · exact zAI ⟨rfl, rfl, rfl, rfl, rfl, rfl, trivial⟩ ⟨rfl, trivial⟩ ⟨rfl, trivial⟩ rfl
   rcases bfc (!((putN l e i).2)) with h2 | h2
   ·
    have h2' := h2
    replace h2' : ((putN l e i).2) = true := zBI h2'
    refine zAA rfl (.m rfl rfl (.r rfl (zAX (zA3 (b := (putN l e i).2) rfl rfl) (zAM h2)) (.m rfl rfl (.not rfl (.not rfl (.r rfl (zAT (t := false) rfl rfl) .nil)))))) ?_
    refine zAb (t := false) rfl (fun h => nomatch h) (fun _ => ?_)
    refine zAL ?_
    refine ⟨((putN l e i).1, (putN l e i).2), ?_, ?_⟩
    ·
     show (((putN l e i).1), ((putN l e i).2)) = (if (!(putN l e i).2 && decide (0 ≤ kcmp x e)) = true then ((putN l e i).1 ++ [e], true) else (putN l e i))
     first | exact put_a (by assumption) | exact put_b (by omega) | exact put_c (by assumption) (by omega)
    · exact zAI ⟨rfl, rfl, rfl, rfl, rfl, rfl, trivial⟩ ⟨rfl, trivial⟩ ⟨rfl, trivial⟩ rfl
   ·
    have h2' := h2
    replace h2' : ((putN l e i).2) = false := zBH h2'
    refine zAA rfl (.m rfl rfl (.r rfl (zAX (zA3 (b := (putN l e i).2) rfl rfl) (zAM h2)) (.m rfl rfl (.m rfl rfl (.r rfl (zCM rfl rfl rfl) (.r rfl (zAT (t := true) rfl rfl) .nil)))))) ?_
    refine zAb (t := decide (0 ≤ (kcmp x e))) rfl (fun h3 => ?_) (fun h3 => ?_)
    ·
     replace h3 := of_decide_eq_true h3
     refine zAB (zAA rfl (.m rfl rfl (.r rfl (zAG rfl rfl rfl isAgg56 sizeOf56 (nle rfl)) (.run [3200] [] rfl (zAQ rfl 3200 underlying24 zBb (nle rfl) (by decide) rfl rfl rfl (.cons .v (.cons .v (.cons .v (.cons .v .nil)))) (by decide) rfl (by decide) rfl (by decide) rfl) (.run [1] [] rfl (zAq rfl 1 (ib := 1) (len := ((pvE (putN l e i).1) ++ [[PV.v (.string e.user), PV.v (.int .i64 e.seq), PV.v (.int .i64 e.kind), PV.v (.string e.value)]]).length) rfl rfl (.row (len := (pvE (putN l e i).1).length) (xs := pvE (putN l e i).1) rfl rfl (.inl rfl)) (.give (len := 1) (xs := [[PV.v (.string e.user), PV.v (.int .i64 e.seq), PV.v (.int .i64 e.kind), PV.v (.string e.value)]]) rfl rfl) underlying24 (sk underlying24 rfl) zBb rfl (by decide) (by decide) (by decide) List.length_append (by simp only [maxLen, List.length_append, List.length_cons, List.length_nil, zAF]; omega) (by simp only [maxLen, List.length_append, List.length_cons, List.length_nil, zAF]; omega)) (.a rfl rfl .nil))))) ?_)
     have hr4 : (pvE (putN l e i).1) ++ [[PV.v (.string e.user), PV.v (.int .i64 e.seq), PV.v (.int .i64 e.kind), PV.v (.string e.value)]] = pvE ((putN l e i).1 ++ [e]) := by exact zEV _ _
     have hp5 : (.sl 1 0 (((pvE (putN l e i).1) ++ [[PV.v (.string e.user), PV.v (.int .i64 e.seq), PV.v (.int .i64 e.kind), PV.v (.string e.value)]]).length) : AV) = .sl 1 0 ((pvE ((putN l e i).1 ++ [e])).length) := by simp only [hr4]
     refine zAV (s' := mk [(0, .p none (.sl false 4 (pvE l))), (3, .ptr 3 0), (5, .sl 1 0 ((pvE ((putN l e i).1 ++ [e])).length)), (7, .vi (i:Int)), (8, .vi (kcmp x e)), (27, .vi (kcmp x e)), (28, .vb (decide (0 ≤ (kcmp x e))))] [(3, [.vs e.user, .vi e.seq, .vi e.kind, .vs e.value])] [(1, 4, pvE ((putN l e i).1 ++ [e]))]) ?_ ?_
     · exact zAI ⟨rfl, rfl, hp5, rfl, rfl, rfl, rfl, trivial⟩ ⟨rfl, trivial⟩ ⟨(congrArg (fun x => some (4, x)) hr4), trivial⟩ rfl
     refine zAA rfl (.a rfl rfl .nil) ?_
     refine ⟨((putN l e i).1 ++ [e], true), ?_, ?_⟩
     ·
      show (((putN l e i).1 ++ [e]), true) = (if (!(putN l e i).2 && decide (0 ≤ kcmp x e)) = true then ((putN l e i).1 ++ [e], true) else (putN l e i))
      first | exact put_a (by assumption) | exact put_b (by omega) | exact put_c (by assumption) (by omega)
     · exact zAI ⟨rfl, rfl, rfl, rfl, rfl, rfl, trivial⟩ ⟨rfl, trivial⟩ ⟨rfl, trivial⟩ rfl
    ·
     replace h3 := of_decide_eq_false h3
     refine zAL ?_
     refine ⟨((putN l e i).1, (putN l e i).2), ?_, ?_⟩
     ·
      show (((putN l e i).1), ((putN l e i).2)) = (if (!(putN l e i).2 && decide (0 ≤ kcmp x e)) = true then ((putN l e i).1 ++ [e], true) else (putN l e i))
      first | exact put_a (by assumption) | exact put_b (by omega) | exact put_c (by assumption) (by omega)
     · exact zAI ⟨rfl, rfl, rfl, rfl, rfl, rfl, trivial⟩ ⟨rfl, trivial⟩ ⟨rfl, trivial⟩ rfl
  ·
   rintro ⟨o, dn⟩ hG
   replace hG : (o, dn) = (if (!(putN l e i).2 && decide (0 ≤ kcmp x e)) = true then ((putN l e i).1 ++ [e], true) else (putN l e i)) := hG
   have hst := zNN hx hG
   have hol := zOv hG hpl
   have hov := zAF o
   refine zAB (zAA rfl (.m rfl rfl (.r rfl (zCl rfl rfl rfl) .nil)) ?_)
   refine zAb (t := (!(decide ((kcmp x e) = 0)))) rfl (fun h6 => ?_) (fun h6 => ?_)
   ·
    replace h6 : ¬ ((kcmp x e) = 0) := of_decide_eq_false (zBH h6)
    refine zAA rfl (.m rfl rfl (.m rfl rfl (.m rfl rfl (.r rfl (zAf rfl rfl rfl underlying24 sizeOf56 rfl (by omega) (zAw hx)) (.r rfl (zBA rfl rfl isAgg56 sizeOf56 (nle rfl)) (.run [4100] [] rfl (zAQ rfl 4100 underlying24 zBb (nle rfl) (by decide) rfl rfl rfl (.cons .v (.cons .v (.cons .v (.cons .v .nil)))) (by decide) rfl (by decide) rfl (by decide) rfl) (.run [1] [] rfl (zAq rfl 1 (ib := 1) (len := ((pvE o) ++ [[PV.v (.string x.user), PV.v (.int .i64 x.seq), PV.v (.int .i64 x.kind), PV.v (.string x.value)]]).length) rfl rfl (.row (len := (pvE o).length) (xs := pvE o) rfl rfl (.inl rfl)) (.give (len := 1) (xs := [[PV.v (.string x.user), PV.v (.int .i64 x.seq), PV.v (.int .i64 x.kind), PV.v (.string x.value)]]) rfl rfl) underlying24 (sk underlying24 rfl) zBb rfl (by decide) (by decide) (by decide) List.length_append (by simp only [maxLen, List.length_append, List.length_cons, List.length_nil, zAF]; omega) (by simp only [maxLen, List.length_append, List.length_cons, List.length_nil, zAF]; omega)) (.a rfl rfl .nil)))))))) ?_
    have hr7 : (pvE o) ++ [[PV.v (.string x.user), PV.v (.int .i64 x.seq), PV.v (.int .i64 x.kind), PV.v (.string x.value)]] = pvE (o ++ [x]) := by exact zEV _ _
    have hp8 : (.sl 1 0 (((pvE o) ++ [[PV.v (.string x.user), PV.v (.int .i64 x.seq), PV.v (.int .i64 x.kind), PV.v (.string x.value)]]).length) : AV) = .sl 1 0 ((pvE (o ++ [x])).length) := by simp only [hr7]
    refine zAV (s' := mk [(0, .p none (.sl false 4 (pvE l))), (3, .ptr 3 0), (5, .sl 1 0 ((pvE (o ++ [x])).length)), (6, .vb dn), (7, .vi (i:Int))] [(3, [.vs e.user, .vi e.seq, .vi e.kind, .vs e.value])] [(1, 4, pvE (o ++ [x]))]) ?_ ?_
    · exact zAI ⟨rfl, rfl, hp8, rfl, rfl, trivial⟩ ⟨rfl, trivial⟩ ⟨(congrArg (fun x => some (4, x)) hr7), trivial⟩ rfl
    refine zAA rfl (.m rfl rfl (.r rfl (zAe rfl rfl rfl (by omega)) (.a rfl rfl .nil))) ?_
    refine nxt (Q := fun _ _ => False) (z := i) (i + 1) ?_ ?_ ?_
    ·
     show (i + 1) ≤ l.length
     omega
    ·
     show l.length - (i + 1) < l.length - i
     omega
    · exact zAI ⟨rfl, rfl, (congrArg (fun z => AV.sl 1 0 (pvE z).length) (show _ = (putN l e (i + 1)).1 by rw [hst, if_pos h6])), (zAM (by rw [hst, if_pos h6])), (zAJ (by omega)), trivial⟩ ⟨rfl, trivial⟩ ⟨(congrArg (fun x => some (4, x)) (by rw [hst, if_pos h6])), trivial⟩ rfl
   ·
    replace h6 : (kcmp x e) = 0 := of_decide_eq_true (zBI h6)
    refine zAL ?_
    refine zAA rfl (.m rfl rfl (.r rfl (zAe rfl rfl rfl (by omega)) (.a rfl rfl .nil))) ?_
    refine nxt (Q := fun _ _ => False) (z := i) (i + 1) ?_ ?_ ?_
    ·
     show (i + 1) ≤ l.length
     omega
    ·
     show l.length - (i + 1) < l.length - i
     omega
    · exact zAI ⟨rfl, rfl, (congrArg (fun z => AV.sl 1 0 (pvE z).length) (show _ = (putN l e (i + 1)).1 by rw [hst, if_neg (fun hh => hh h6)])), (zAM (by rw [hst, if_neg (fun hh => hh h6)])), (zAJ (by omega)), trivial⟩ ⟨rfl, trivial⟩ ⟨(congrArg (fun x => some (4, x)) (by rw [hst, if_neg (fun hh => hh h6)])), trivial⟩ rfl
 ·
  replace h1 := of_decide_eq_false h1
  refine zAu ?_
  refine zDl (σ := Unit) (fun _ => mk [(5, .sl 1 0 ((pvE (putF l e)).length))] [] [(1, 4, pvE (putF l e))]) (fun _ => True) ?_ ?_
  ·
   refine zAB ?_
   have hil : i = l.length := (by omega)
   refine zAA rfl (.m rfl rfl (.r rfl (zA3 (b := (putN l e i).2) rfl rfl) .nil)) ?_
   refine zAb (t := (!((putN l e i).2))) rfl (fun h9 => ?_) (fun h9 => ?_)
   ·
    replace h9 : ((putN l e i).2) = false := zBH h9
    refine zAA rfl (.m rfl rfl (.r rfl (zAG rfl rfl rfl isAgg56 sizeOf56 (nle rfl)) (.run [4700] [] rfl (zAQ rfl 4700 underlying24 zBb (nle rfl) (by decide) rfl rfl rfl (.cons .v (.cons .v (.cons .v (.cons .v .nil)))) (by decide) rfl (by decide) rfl (by decide) rfl) (.run [1] [] rfl (zAq rfl 1 (ib := 1) (len := ((pvE (putN l e i).1) ++ [[PV.v (.string e.user), PV.v (.int .i64 e.seq), PV.v (.int .i64 e.kind), PV.v (.string e.value)]]).length) rfl rfl (.row (len := (pvE (putN l e i).1).length) (xs := pvE (putN l e i).1) rfl rfl (.inl rfl)) (.give (len := 1) (xs := [[PV.v (.string e.user), PV.v (.int .i64 e.seq), PV.v (.int .i64 e.kind), PV.v (.string e.value)]]) rfl rfl) underlying24 (sk underlying24 rfl) zBb rfl (by decide) (by decide) (by decide) List.length_append (by simp only [maxLen, List.length_append, List.length_cons, List.length_nil, zAF]; omega) (by simp only [maxLen, List.length_append, List.length_cons, List.length_nil, zAF]; omega)) (.a rfl rfl .nil))))) ?_
    refine ⟨(), ?_, ?_⟩
    ·
     show True
     trivial
    · exact zAI ⟨(congrArg (fun z => AV.sl 1 0 (List.length z)) ((zEV _ e).trans (congrArg pvE (show _ = putF l e by rw [putF, ← hil, if_neg (by simp_all)])))), trivial⟩ trivial ⟨(congrArg (fun x => some (4, x)) (by exact (zEV _ e).trans (congrArg pvE (show _ = putF l e by rw [putF, ← hil, if_neg (by simp_all)])))), trivial⟩ rfl
   ·
    replace h9 : ((putN l e i).2) = true := zBI h9
    refine zAL ?_
    refine ⟨(), ?_, ?_⟩
    ·
     show True
     trivial
    · exact zAI ⟨(congrArg (fun z => AV.sl 1 0 (List.length z)) (congrArg pvE (show _ = putF l e by rw [putF, ← hil, if_pos (by simp_all)]))), trivial⟩ trivial ⟨(congrArg (fun x => some (4, x)) (by exact congrArg pvE (show _ = putF l e by rw [putF, ← hil, if_pos (by simp_all)]))), trivial⟩ rfl
  ·
   rintro _ hG
   replace hG : True := hG
   refine zAB (zAA rfl (.m rfl rfl (.a rfl rfl .nil)) ?_)
   refine zAO ?_
   exact ends [_] [1] (.cons (.tmp rfl) .nil) (.cons (.one (.row (len := (pvE (putF l e)).length) (xs := pvE (putF l e)) rfl rfl) (.sl _ _ (FlatP.clean (zAg _)))) .nil) (by decide) trivial
end Go.Rl
namespace Go.Rl
open Go.Proofs Go.Proofs.Tryz
set_option maxRecDepth 1000000
set_option maxHeartbeats 2000000
theorem en100 : En Tryz.prog 100 := zAn func100 (by decide) rfl
theorem en78 : En Tryz.prog 78 := zAn func78 (by decide) rfl
theorem en77 : En Tryz.prog 77 := zAn func77 (by decide) rfl
theorem zHJ (l : List Pr) (hl : l.length ≤ 2000000) (f : Nat) (pss : List (List PV)) (p : Pr → Bool) (hE : ∀ vs w, (callFunc f vs).run Tryz.prog w = .ok (.enter f vs) w) (hp : ∀ s : Pr, Con Tryz.prog f ([.agg s.pv] ++ pss.map .fbox) [] [.one (.v (.bool (p s)))]) : Con Tryz.prog 100 [.one (PV.sl false 2 (pvP l)), .one (PV.clo f pss)] [] [.one (.v (.int .i64 (idxF p l)))] := by
 refine zAS func100 rfl rfl rfl rfl ?_
 have hle := zBa l
 refine zAB (zAA rfl (.a rfl rfl .nil) ?_)
 refine zAB ?_
 refine zAB (zAA rfl (.m rfl rfl (.r rfl (zAa rfl rfl underlying33) (.m rfl rfl .nil))) ?_)
 refine zAR ?_
 refine zAo (σ := Nat) (fun i => mk [(0, .p none (.sl false 2 (pvP l))), (1, .p none (.clo f pss)), (7, .vi ((pvP l).length : Int)), (8, .vi (i:Int))] [] []) (fun i => i ≤ l.length ∧ ∀ j e, j < i → l[j]? = some e → p e = false) (fun i => l.length - i) 0 ⟨Nat.zero_le _, fun _ _ h => absurd h (Nat.not_lt_zero _)⟩ (zAI ⟨rfl, rfl, rfl, (zAJ (by omega)), trivial⟩ trivial trivial rfl) ?_
 rintro i hG
 replace hG : i ≤ l.length ∧ ∀ j e, j < i → l[j]? = some e → p e = false := hG
 obtain ⟨hi, hG⟩ := hG
 refine zAB (zAA rfl (.r rfl (zA4 rfl rfl rfl) .nil) ?_)
 refine zAB ?_
 refine zAb (t := decide ((i:Int) < ((pvP l).length : Int))) rfl (fun h1 => ?_) (fun h1 => ?_)
 ·
  replace h1 := of_decide_eq_true h1
  refine zAL ?_
  refine zAB ?_
  refine zAR ?_
  refine zAB (zAA rfl (.m rfl rfl (.a rfl rfl .nil)) ?_)
  refine zAB ?_
  obtain ⟨e, he⟩ : ∃ e, l[i]? = some e := ⟨_, List.getElem?_eq_getElem (by omega)⟩
  refine zAA rfl (.m rfl rfl (.m rfl rfl (.m rfl rfl (.r rfl (zAf rfl rfl rfl underlying33 sizeOf72 rfl (by omega) (zGb he)) (.r rfl (zBA rfl rfl isAgg72 sizeOf72 (nle rfl)) (.run [1600] [] rfl (zAK rfl 1600 (X := []) hE rfl (.val nod) (.cons (.agg (.cons (.bor .v) (.cons (.bor .v) .nil))) .nil) (by decide) all_nil .nil (hp e) rfl rfl (nle rfl)) .nil)))))) ?_
  refine zAb (t := p e) rfl (fun h2 => ?_) (fun h2 => ?_)
  ·
   refine zAB (zAA rfl (.m rfl rfl (.a rfl rfl .nil)) ?_)
   refine zAO ?_
   exact ends [_] [] (.cons (.tmp (zAJ (zE0 hG he h2).symm)) .nil) (.cons (.one .v (.v _)) .nil) (by decide) trivial
  ·
   refine zAL ?_
   refine zAA rfl (.r rfl (zAe rfl rfl rfl (by omega)) (.m rfl rfl .nil)) ?_
   refine nxt (Q := fun _ _ => False) (z := i) (i + 1) ?_ ?_ ?_
   ·
    show (i + 1) ≤ l.length ∧ ∀ j e, j < (i + 1) → l[j]? = some e → p e = false
    exact ⟨by omega, zFK hG he h2⟩
   ·
    show l.length - (i + 1) < l.length - i
    omega
   · exact zAI ⟨rfl, rfl, rfl, (zAJ (by omega)), trivial⟩ trivial trivial rfl
 ·
  replace h1 := of_decide_eq_false h1
  refine zAu ?_
  refine zAB (zAA rfl (.a rfl rfl .nil) ?_)
  refine zAO ?_
  exact ends [_] [] (.cons (.tmp (zAJ (zEa (by omega) hG).symm)) .nil) (.cons (.one .v (.v _)) .nil) (by decide) trivial
theorem zG3 (l : List Pr) (hl : l.length ≤ 2000000) (f : Nat) (pss : List (List PV)) (p : Pr → Bool) (hE : ∀ vs w, (callFunc f vs).run Tryz.prog w = .ok (.enter f vs) w) (hp : ∀ s : Pr, Con Tryz.prog f ([.agg s.pv] ++ pss.map .fbox) [] [.one (.v (.bool (p s)))]) : Con Tryz.prog 77 [.one (.sl true 2 (pvP l)), .one (PV.clo f pss)] [none] [.one (.sl true 2 (pvP (l.filter (fun x => !p x))))] := by
 refine zAS func77 rfl rfl rfl rfl ?_
 have hle := zBa l
 refine zAB (zAA rfl (.a rfl rfl .nil) ?_)
 refine zAB (zAA rfl (.m rfl rfl (.m rfl rfl (.run [100000, 1000] [] rfl (zAK rfl 1000 (X := []) en100 rfl (.val nod) (.cons (.one (.bor (.all (len := (pvP l).length) (xs := pvP l) rfl rfl (by decide)))) (.cons (.one (.bor (.cl nod))) .nil)) (by decide) all_nil .nil (zHJ l hl f pss p hE hp) rfl rfl (nle rfl)) (.a rfl rfl .nil)))) ?_)
 refine zAB ?_
 refine zAB (zAA rfl (.m rfl rfl (.r rfl (zA9 rfl rfl rfl) .nil)) ?_)
 refine zAb (t := decide ((idxF p l) = (-1))) rfl (fun h1 => ?_) (fun h1 => ?_)
 ·
  replace h1 := of_decide_eq_true h1
  refine zAB ?_
  rw [zKj h1]
  refine zAA rfl (.m rfl rfl (.a rfl rfl .nil)) ?_
  refine zAO ?_
  exact ends [_] [100000] (.cons (.tmp rfl) .nil) (.cons (.one (.row (len := (pvP l).length) (xs := pvP l) rfl rfl) (.sl _ _ (FlatP.clean (zDO _)))) .nil) (by decide) ⟨trivial, trivial⟩
 ·
  replace h1 := of_decide_eq_false h1
  refine zAL ?_
  refine zAB ?_
  refine zAB ?_
  obtain ⟨k, hk, hkl, hfirst, x0, hx0, hp0⟩ := zJd h1
  have hk1 : zBr p l (k + 1) = l.take k := (zGH hx0 hp0).trans (zKe hfirst)
  refine zAV (s' := mk [(0, .sl 100000 0 ((pvP l).length)), (1, .p none (.clo f pss)), (5, .vi (k:Int))] [] [(100000, 2, pvP l)]) ?_ ?_
  · exact zAI ⟨rfl, rfl, (zAJ hk), trivial⟩ trivial ⟨rfl, trivial⟩ rfl
  refine zAA rfl (.m rfl rfl (.r rfl (zAe rfl rfl rfl (by omega)) (.a rfl rfl .nil))) ?_
  refine zAR ?_
  refine zAo (σ := Nat) (fun j => mk [(0, .sl 100000 0 ((pvP l).length)), (1, .p none (.clo f pss)), (5, .vi ((zBr p l j).length : Int)), (6, .vi (j:Int))] [] [(100000, 2, pvP (zBr p l j ++ l.drop (zBr p l j).length))]) (fun j => k < j ∧ j ≤ l.length ∧ (zBr p l j).length + 1 ≤ j) (fun j => l.length - j) (k + 1) ⟨by omega, by omega, by rw [hk1, List.length_take]; omega⟩ (zAI ⟨rfl, rfl, (zAJ (by rw [hk1, List.length_take]; omega)), (zAJ (by omega)), trivial⟩ trivial ⟨(congrArg (fun x => some (2, x)) (by rw [hk1, List.length_take, Nat.min_eq_left (by omega), List.take_append_drop])), trivial⟩ rfl) ?_
  rintro j hG
  replace hG : k < j ∧ j ≤ l.length ∧ (zBr p l j).length + 1 ≤ j := hG
  obtain ⟨hkj, hjl, hcj⟩ := hG
  have hkn := zJb p l j
  have hlr := zBa (zBr p l j ++ l.drop (zBr p l j).length)
  have hlc : (zBr p l j ++ l.drop (zBr p l j).length).length = l.length := by rw [List.length_append, List.length_drop]; omega
  refine zAB ?_
  refine zAB (zAA rfl (.m rfl rfl (.m rfl rfl (.r rfl (zA2 rfl rfl underlying33) (.r rfl (zA4 rfl rfl rfl) .nil)))) ?_)
  refine zAb (t := decide ((j:Int) < ((pvP l).length : Int))) rfl (fun h2 => ?_) (fun h2 => ?_)
  ·
   replace h2 := of_decide_eq_true h2
   refine zAL ?_
   refine zAB ?_
   refine zAR ?_
   refine zAB ?_
   obtain ⟨x, hx⟩ : ∃ x, l[j]? = some x := ⟨_, List.getElem?_eq_getElem (by omega)⟩
   obtain ⟨w, hw⟩ : ∃ w, l[(zBr p l j).length]? = some w := ⟨_, List.getElem?_eq_getElem (by omega)⟩
   refine zAA rfl (.m rfl rfl (.m rfl rfl (.r rfl (zAW j rfl rfl rfl rfl underlying33 sizeOf72 rfl rfl (by omega)) (.r rfl (zBB rfl rfl rfl (by exact zGb (by rw [zNx (by omega)]; exact hx)) isAgg72 sizeOf72 (nle rfl)) (.run [] [7] rfl (zAl rfl 7 zMc rfl (by decide) rfl (by decide)) (.r rfl (zAE rfl rfl rfl rfl rfl sizeOf72 rfl (nle rfl)) .nil)))))) ?_
   refine zAB (zAA rfl (.m rfl rfl (.r rfl (zAG rfl rfl rfl isAgg72 sizeOf72 (nle rfl)) (.run [2800] [] rfl (zAK rfl 2800 (X := []) hE rfl (.val nod) (.cons (.agg (.cons (.bor .v) (.cons (.bor .v) .nil))) .nil) (by decide) all_nil .nil (hp x) rfl rfl (nle rfl)) (.r rfl (zA3 (b := p x) rfl rfl) .nil)))) ?_)
   refine zAb (t := (!(p x))) rfl (fun h3 => ?_) (fun h3 => ?_)
   ·
    replace h3 : (p x) = false := zBH h3
    refine zAB ?_
    refine zAV (s' := mk [(0, .sl 100000 0 ((pvP l).length)), (1, .p none (.clo f pss)), (5, .vi ((zBr p l j).length : Int)), (6, .vi (j:Int)), (7, .ptr 7 0)] [(7, [.vs x.user, .vs x.value])] [(100000, 2, pvP (zBr p l j ++ l.drop (zBr p l j).length))]) ?_ ?_
    · exact zAI ⟨rfl, rfl, rfl, rfl, rfl, trivial⟩ ⟨rfl, trivial⟩ ⟨rfl, trivial⟩ rfl
    refine zAA rfl (.m rfl rfl (.m rfl rfl (.r rfl (zAG rfl rfl rfl isAgg72 sizeOf72 (nle rfl)) (.r rfl (zAW ((zBr p l j).length) rfl rfl rfl rfl underlying33 sizeOf72 rfl rfl (by omega)) (.r rfl (zBL rfl rfl rfl (FlatP.nf (zDO _)) (by exact zGb (by rw [zNx (Nat.le_refl _)]; exact hw)) rfl rfl (.cons .v (.cons .v .nil)) sizeOf72 rfl (nle rfl)) .nil))))) ?_
    refine zAA rfl (.m rfl rfl (.r rfl (zAe rfl rfl rfl (by omega)) (.a rfl rfl .nil))) ?_
    refine zAA rfl (.m rfl rfl (.r rfl (zAe rfl rfl rfl (by omega)) (.a rfl rfl .nil))) ?_
    refine nxt (Q := fun _ _ => False) (z := j) (j + 1) ?_ ?_ ?_
    ·
     show k < (j + 1) ∧ (j + 1) ≤ l.length ∧ (zBr p l (j + 1)).length + 1 ≤ (j + 1)
     exact ⟨by omega, by omega, by rw [zGu hx h3]; simp only [List.length_append, List.length_cons, List.length_nil]; omega⟩
    ·
     show l.length - (j + 1) < l.length - j
     omega
    · exact zAI ⟨rfl, rfl, (zAJ (by rw [zGu hx h3]; simp)), (zAJ (by omega)), trivial⟩ trivial ⟨(congrArg (fun x => some (2, x)) (by rw [zGu hx h3, ← del_set (by omega)]; exact pvP_set)), trivial⟩ rfl
   ·
    replace h3 : (p x) = true := zBI h3
    refine zAL ?_
    refine zAV (s' := mk [(0, .sl 100000 0 ((pvP l).length)), (1, .p none (.clo f pss)), (5, .vi ((zBr p l j).length : Int)), (6, .vi (j:Int))] [] [(100000, 2, pvP (zBr p l j ++ l.drop (zBr p l j).length))]) ?_ ?_
    · exact zAI ⟨rfl, rfl, rfl, rfl, trivial⟩ trivial ⟨rfl, trivial⟩ rfl
    refine zAA rfl (.m rfl rfl (.r rfl (zAe rfl rfl rfl (by omega)) (.a rfl rfl .nil))) ?_
    refine nxt (Q := fun _ _ => False) (z := j) (j + 1) ?_ ?_ ?_
    ·
     show k < (j + 1) ∧ (j + 1) ≤ l.length ∧ (zBr p l (j + 1)).length + 1 ≤ (j + 1)
     exact ⟨by omega, by omega, by rw [zGH hx h3]; omega⟩
    ·
     show l.length - (j + 1) < l.length - j
     omega
    · exact zAI ⟨rfl, rfl, (zAJ (by rw [zGH hx h3])), (zAJ (by omega)), trivial⟩ trivial ⟨(congrArg (fun x => some (2, x)) (by rw [zGH hx h3])), trivial⟩ rfl
  ·
   replace h2 := of_decide_eq_false h2
   refine zAu ?_
   refine zAB ?_
   have hjl2 : j = l.length := (by omega)
   have hkn0 := zJb p l j
   have hlr0 := zBa (zBr p l j ++ l.drop (zBr p l j).length)
   have hlc0 : (zBr p l j ++ l.drop (zBr p l j).length).length = l.length := by rw [List.length_append, List.length_drop]; omega
   refine zAA rfl (.m rfl rfl (.m rfl rfl (.r rfl (zCo (l := (zBr p l j).length) (h := (pvP l).length) rfl rfl rfl underlying33 sizeOf72 (.at_ rfl rfl) .no (by omega) (Nat.le_refl _) rfl) (.r rfl (zLG (lo := (zBr p l j).length) (len := (pvP l).length - (zBr p l j).length) rfl rfl rfl (zDO _) underlying33 zMc rfl rfl (by rw [hlr0, hlc0]; omega)) .nil)))) ?_
   refine zAB ?_
   have hfin : l.filter (fun x => !p x) = zBr p l j := (zNi (by omega)).symm
   rw [hfin]
   refine zAA rfl (.m rfl rfl (.m rfl rfl (.r rfl (zCo (l := 0) (h := (zBr p l j).length) rfl rfl rfl underlying33 sizeOf72 .no (.at_ rfl rfl) (Nat.zero_le _) (by omega) rfl) (.a rfl rfl .nil)))) ?_
   refine zAO ?_
   exact ends [_] [100000] (.cons (.tmp rfl) .nil) (.cons (.one (gv_eq (.pre (len := ((zBr p l j).length) - 0) (xs := (pvP (zBr p l j ++ l.drop (zBr p l j).length)).take (zBr p l j).length ++ List.replicate ((pvP l).length - (zBr p l j).length) [PV.v (.string ⟨#[]⟩), PV.v (.string ⟨#[]⟩)]) rfl (by rw [List.length_append, List.length_take, hlr0, List.length_replicate]; omega) (pr_flat (by simp [PV.isV]))) (congrArg (PV.sl true 2) (pr_row rfl))) (.sl _ _ (FlatP.clean (zDO _)))) .nil) (by decide) ⟨trivial, trivial⟩
theorem zJw (q : Pr) (f t : ByteArray) : Con Tryz.prog 78 [.agg [PV.v (.string q.user), PV.v (.string q.value)], .fbox [PV.v (.string f)], .fbox [PV.v (.string t)]] [] [.one (.v (.bool (outP f t q)))] := by
 refine zAS func78 rfl rfl rfl rfl ?_
 refine zAB (zAA rfl (.run [] [3] rfl (zBT rfl 3 rfl rfl (by decide) rfl (by decide)) (.a rfl rfl .nil)) ?_)
 refine zAB ?_
 refine zAV (s' := mk [(1, .fea none [PV.v (.string f)]), (2, .fea none [PV.v (.string t)]), (3, .ptr 3 0)] [(3, [.vs q.user, .vs q.value])] []) ?_ ?_
 · exact zAI ⟨rfl, rfl, rfl, trivial⟩ ⟨rfl, trivial⟩ trivial rfl
 rcases bfc (ltB q.user f) with h1 | h1
 ·
  have h1' := h1
  rcases bfc (!(decide (t = ⟨#[]⟩))) with h2 | h2
  ·
   have h2' := h2
   replace h2' : t = ⟨#[]⟩ := of_decide_eq_true (zBI h2')
   refine zAA rfl (.r rfl (zAC rfl rfl underlying72 rfl sizeOf9 (by decide)) (.r rfl (zAD rfl rfl rfl isAgg9 rfl) (.r rfl (zAd rfl rfl isAgg9 rfl) (.r rfl (zAX (zDm rfl rfl rfl) (zAM h1)) (.m rfl rfl (.r rfl (zAd rfl rfl isAgg9 rfl) (.r rfl (zAX (zFc rfl rfl rfl) (zAM h2)) (.m rfl rfl (.not rfl (.not rfl (.not rfl (.not rfl (.r rfl (zAT (t := false) rfl rfl) (.r rfl (zAT (t := false) rfl rfl) (.a rfl rfl .nil))))))))))))))) ?_
   refine zAO ?_
   exact ends [_] [] (.cons (.tmp (zAM (by simp [outP, h1, h2]))) .nil) (.cons (.one .v (.v _)) .nil) (by decide) trivial
  ·
   have h2' := h2
   replace h2' : ¬ (t = ⟨#[]⟩) := of_decide_eq_false (zBH h2')
   refine zAA rfl (.r rfl (zAC rfl rfl underlying72 rfl sizeOf9 (by decide)) (.r rfl (zAD rfl rfl rfl isAgg9 rfl) (.r rfl (zAd rfl rfl isAgg9 rfl) (.r rfl (zAX (zDm rfl rfl rfl) (zAM h1)) (.m rfl rfl (.r rfl (zAd rfl rfl isAgg9 rfl) (.r rfl (zAX (zFc rfl rfl rfl) (zAM h2)) (.m rfl rfl (.r rfl (zAC rfl rfl underlying72 rfl sizeOf9 (by decide)) (.r rfl (zAD rfl rfl rfl isAgg9 rfl) (.r rfl (zAd rfl rfl isAgg9 rfl) (.r rfl (st_sgeq rfl rfl rfl) (.r rfl (zAT (t := true) rfl rfl) (.r rfl (zAT (t := false) rfl rfl) (.a rfl rfl .nil))))))))))))))) ?_
   refine zAO ?_
   exact ends [_] [] (.cons (.tmp (zAM (by simp [outP, h1, h2]))) .nil) (.cons (.one .v (.v _)) .nil) (by decide) trivial
 ·
  have h1' := h1
  refine zAA rfl (.r rfl (zAC rfl rfl underlying72 rfl sizeOf9 (by decide)) (.r rfl (zAD rfl rfl rfl isAgg9 rfl) (.r rfl (zAd rfl rfl isAgg9 rfl) (.r rfl (zAX (zDm rfl rfl rfl) (zAM h1)) (.m rfl rfl (.not rfl (.not rfl (.not rfl (.not rfl (.not rfl (.not rfl (.not rfl (.not rfl (.r rfl (zAT (t := true) rfl rfl) (.a rfl rfl .nil))))))))))))))) ?_
  refine zAO ?_
  exact ends [_] [] (.cons (.tmp (zAM (by simp [outP, h1]))) .nil) (.cons (.one .v (.v _)) .nil) (by decide) trivial
theorem zKq (l : List Pr) (a b : ByteArray) (hl : l.length ≤ 2000000) : Con Tryz.prog 42 [.one (.sl true 2 (pvP l)), .one (PV.v (.string a)), .one (PV.v (.string b))] [none] [.one (.sl true 2 (pvP (l.filter (fun x => !outP a b x))))] := by
 refine zAS func42 rfl rfl rfl rfl ?_
 have hle := zBa l
 refine zAB (zAA rfl (.run [] [4] rfl (zBT rfl 4 rfl rfl (by decide) rfl (by decide)) (.run [] [5] rfl (zBT rfl 5 rfl rfl (by decide) rfl (by decide)) (.a rfl rfl .nil))) ?_)
 refine zAB (zAA rfl (.m rfl rfl (.r rfl (zIE (bs := [4, 5]) rfl rfl) (.run [100000, 900] [4, 5] rfl (zAK rfl 900 (X := [100000]) en77 rfl (.val nod) (.cons (.one (.own (len := (pvP l).length) (xs := pvP l) rfl rfl)) (.cons (.one (.bor (.clo (.cons rfl (.cons .v .nil) (.cons rfl (.cons .v .nil) .nil))))) .nil)) (by decide) (all_cons rfl all_nil) (.gone .nil) (zG3 l hl 78 [[.v (.string a)], [.v (.string b)]] (outP a b) en78 (fun q => zJw q a b)) rfl rfl (nle rfl)) (.a rfl rfl .nil)))) ?_)
 refine zAO ?_
 exact ends [_] [900] (.cons (.tmp rfl) .nil) (.cons (.one (.row (len := (pvP (l.filter (fun x => !outP a b x))).length) (xs := pvP (l.filter (fun x => !outP a b x))) rfl rfl) (.sl _ _ (FlatP.clean (zDO _)))) .nil) (by decide) ⟨trivial, trivial⟩
end Go.Rl
namespace Go.Rl
abbrev RunL := List (Bool × List Ent)
def pvR (rs : RunL) : List (List PV) := rs.map fun r => [.sl r.1 4 (pvE r.2)]
theorem zAk (rs : RunL) : (pvR rs).length = rs.length := by simp [pvR]
theorem zDB {rs : RunL} {i : Nat} {r : Bool × List Ent} (h : rs[i]? = some r) : (pvR rs)[i]? = some [.sl r.1 4 (pvE r.2)] := by simp [pvR, h]
def rows (rs : RunL) : List (List Ent) := rs.map (·.2)
def zBp (ls : List (List Ent)) : List Ent := ls.flatten
def ents (rs : RunL) : List Ent := zBp (rows rs)
theorem zIO (a b : List Ent) : pvE a ++ pvE b = pvE (a ++ b) := by simp [pvE]
theorem zEI {rs : RunL} {i : Nat} {r : Bool × List Ent} (h : rs[i]? = some r) : ents (rs.take (i + 1)) = ents (rs.take i) ++ r.2 := by
 rw [List.take_add_one, h]
 simp [ents, rows, zBp]
theorem zDu (rs : RunL) (i : Nat) : (ents (rs.take i)).length ≤ (ents rs).length := by
 have : ents rs = ents (rs.take i) ++ ents (rs.drop i) := by rw [ents, ents, ents, rows, rows, rows, zBp, zBp, zBp, ← List.flatten_append, ← List.map_append, List.take_append_drop]
 rw [this, List.length_append]; omega
def zBG (rs : RunL) : Bool := decide (rs.length ≤ 20) && (decide (idxF (fun r : Bool × List Ent => !zAp r.2) rs < 0) && decide ((ents rs).length ≤ 400))
theorem zOn {rs : RunL} {i : Nat} {r : Bool × List Ent} (h : rs[i]? = some r) (hG : ∀ j e, j < i → rs[j]? = some e → (!zAp e.2) = false) (hr : zAp r.2 = false) : zBG rs = false := by
 have := zE0 (p := fun r : Bool × List Ent => !zAp r.2) hG h (by simp [hr])
 have h2 : ¬ ((i : Int) < 0) := by omega
 unfold zBG
 rw [this, decide_eq_false h2, Bool.false_and, Bool.and_false]
theorem zNG {rs : RunL} {i : Nat} (hi : rs.length ≤ i) (hG : ∀ j e, j < i → rs[j]? = some e → (!zAp e.2) = false) (h : rs.length ≤ 20) : zBG rs = decide ((ents rs).length ≤ 400) := by
 have := zEa (p := fun r : Bool × List Ent => !zAp r.2) hi hG
 simp [zBG, this, h]
theorem zDg {l : List Ent} (h : zAp l = true) : l.length ≤ 400 := by
 simp only [zAp, Bool.and_eq_true, decide_eq_true_eq] at h
 exact h.1
theorem zFo {rs : RunL} : ∀ i, (∀ j e, j < i → rs[j]? = some e → (!zAp e.2) = false) → (ents (rs.take i)).length ≤ 400 * i
 | 0, _ => by simp [ents, rows, zBp]
 | i + 1, h => by
  have ih := zFo i (fun j e hj => h j e (by omega))
  cases hx : rs[i]? with
  | none =>
   rw [List.take_add_one, hx]
   simpa using Nat.le_trans ih (by omega)
  | some r =>
   rw [zEI hx, List.length_append]
   have := zDg (l := r.2) (by simpa using h i r (by omega) hx)
   omega
theorem zMK {rs : RunL} (h : rs.length ≤ 20) (_ : ∀ r ∈ rs, r.2.length ≤ 2000000) (hn : ¬ 0 ≤ idxF (fun r : Bool × List Ent => !zAp r.2) rs) : (ents rs).length ≤ 2000000 := by
 have h1 : ∀ j e, j < rs.length → rs[j]? = some e → (!zAp e.2) = false := fun j e hj he => by
  cases hc : (!zAp e.2) with
  | false => rfl
  | true =>
   exfalso
   have hm := List.mem_of_getElem? he
   have : idxF (fun r : Bool × List Ent => !zAp r.2) rs ≠ -1 := by
    unfold idxF
    cases e2 : rs.findIdx? (fun r : Bool × List Ent => !zAp r.2) with
    | some k => simp
    | none => rw [List.findIdx?_eq_none_iff] at e2; have := e2 _ hm; rw [hc] at this; cases this
   obtain ⟨k, hk, _⟩ := zJd this
   omega
 have := zFo rs.length h1
 rw [List.take_length] at this
 omega
theorem zKL {rs : RunL} (h : ¬ rs.length ≤ 20) : false = zBG rs := by unfold zBG; rw [decide_eq_false h, Bool.false_and]
theorem zKK {rs : RunL} (h : 0 ≤ idxF (fun r : Bool × List Ent => !zAp r.2) rs) : false = zBG rs := by
 have h2 : ¬ idxF (fun r : Bool × List Ent => !zAp r.2) rs < 0 := by omega
 unfold zBG; rw [decide_eq_false h2, Bool.false_and, Bool.and_false]
theorem zKJ {rs : RunL} (h1 : rs.length ≤ 20) (h : ¬ 0 ≤ idxF (fun r : Bool × List Ent => !zAp r.2) rs) {m : Int} (hm : m = ((ents rs).length : Int)) : decide (m ≤ 400) = zBG rs := by
 have h2 : idxF (fun r : Bool × List Ent => !zAp r.2) rs < 0 := by omega
 unfold zBG; rw [decide_eq_true h2, decide_eq_true h1, Bool.true_and, Bool.true_and, hm]
 simp only [decide_eq_decide]; omega
def zBl (out l : List Ent) : List Ent := l.foldl putF out
def zAy : List (List Ent) → List Ent
 | [] => []
 | l :: ls => zBl (zAy ls) l
theorem zEW {out l : List Ent} {k : Nat} {e : Ent} (h : l[k]? = some e) : zBl out (l.take (k + 1)) = putF (zBl out (l.take k)) e := by
 unfold zBl
 rw [List.take_add_one, h]
 simp [List.foldl_append]
theorem zDP : ∀ (l out : List Ent), (zBl out l).length ≤ out.length + l.length
 | [], out => by simp [zBl]
 | e :: l, out => by
  have := zDP l (putF out e)
  have h2 := zLX out e
  show (zBl (putF out e) l).length ≤ _
  simp only [List.length_cons]
  omega
theorem zC3 : ∀ ls, (zAy ls).length ≤ (zBp ls).length
 | [] => by simp [zAy]
 | l :: ls => by
  have := zC3 ls
  have h2 := zDP l (zAy ls)
  simp only [zAy, zBp, List.flatten_cons, List.length_append] at this h2 ⊢
  omega
theorem zKY {rs : RunL} {i : Nat} {r : Bool × List Ent} (h : rs[i]? = some r) : zAy (rows (rs.drop i)) = zBl (zAy (rows (rs.drop (i + 1)))) r.2 := by
 obtain ⟨hi, rfl⟩ := List.getElem?_eq_some_iff.1 h
 rw [List.drop_eq_getElem_cons hi]
 rfl
theorem zIK (rs : RunL) (i : Nat) : (zBp (rows (rs.drop i))).length ≤ (ents rs).length := by
 have : ents rs = ents (rs.take i) ++ ents (rs.drop i) := by rw [ents, ents, ents, rows, rows, rows, zBp, zBp, zBp, ← List.flatten_append, ← List.map_append, List.take_append_drop]
 rw [this, List.length_append]
 show _ ≤ (ents (rs.take i)).length + (zBp (rows (rs.drop i))).length
 omega
theorem zEt {rs : RunL} {i : Nat} {r : Bool × List Ent} (h : rs[i]? = some r) : r.2.length ≤ (ents rs).length := by
 have h1 := zEI h
 have h2 := zDu rs (i + 1)
 rw [h1, List.length_append] at h2
 omega
def allS (mem : List Ent) (rs : RunL) : List Ent := zAy (mem :: rows rs)
theorem pvR_all (mem : List Ent) (rs : RunL) : [[PV.sl false 4 (pvE mem)]] ++ (pvR rs).map (fun es => es.map PV.shr) = pvR ((false, mem) :: rs.map fun r => (false, r.2)) := by
 simp [pvR, PV.shr]
theorem zLM (mem : List Ent) (rs : RunL) : rows ((false, mem) :: rs.map fun r => (false, r.2)) = mem :: rows rs := by simp [rows]
end Go.Rl
namespace Go.Rl
open Go.Proofs Go.Proofs.Tryz
set_option maxRecDepth 1000000
set_option maxHeartbeats 2000000
theorem zDH : (Tryz.prog.info? 61).map (fun i => (i.zero, i.size, i.bytes)) = some (some (.agg #[.slice none 0 0]), 1, 24) := by kernel_rfl
theorem en30 : En Tryz.prog 30 := zAn func30 (by decide) rfl
theorem en22 : En Tryz.prog 22 := zAn func22 (by decide) rfl
theorem en62 : En Tryz.prog 62 := zAn func62 (by decide) rfl
theorem en95 : En Tryz.prog 95 := zAn func95 (by decide) rfl
theorem en61 : En Tryz.prog 61 := zAn func61 (by decide) rfl
theorem en25 : En Tryz.prog 25 := zAn func25 (by decide) rfl
theorem en76 : En Tryz.prog 76 := zAn func76 (by decide) rfl
theorem en40 : En Tryz.prog 40 := zAn func40 (by decide) rfl
theorem zDc (rs : RunL) (hn : (ents rs).length ≤ 2000000) (hl : rs.length ≤ 2000000) : Con Tryz.prog 25 [.one (PV.sl false 1 (pvR rs))] [] [.one (.sl true 4 (pvE (ents rs)))] := by
 refine zAS func25 rfl rfl rfl rfl ?_
 have hle := zAk rs
 refine zAB (zAA rfl (.a rfl rfl .nil) ?_)
 refine zAB (zAA rfl (.run [600] [] rfl (zAQ rfl 600 underlying24 zBb (nle rfl) (by decide) rfl rfl rfl .nil (by decide) rfl (by decide) rfl (by decide) rfl) (.a rfl rfl .nil)) ?_)
 refine zAB ?_
 refine zAB (zAA rfl (.m rfl rfl (.r rfl (zAa rfl rfl underlying25) (.m rfl rfl .nil))) ?_)
 refine zAR ?_
 refine zAV (zBi 600 1 rfl rfl (by decide)) ?_
 refine zAo (σ := Nat) (fun i => mk [(3, .sl 1 0 ((pvE (ents (rs.take i))).length)), (7, .p none (.sl false 1 (pvR rs))), (8, .vi ((pvR rs).length : Int)), (9, .vi (i:Int))] [] [(1, 4, pvE (ents (rs.take i)))]) (fun i => i ≤ rs.length) (fun i => rs.length - i) 0 (by simp) (zAI ⟨rfl, rfl, rfl, (zAJ (by omega)), trivial⟩ trivial ⟨(congrArg (fun x => some (4, x)) (by rfl)), trivial⟩ rfl) ?_
 rintro i hG
 replace hG : i ≤ rs.length := hG
 have hti := zDu rs i
 have hvi := zAF (ents (rs.take i))
 refine zAB (zAA rfl (.r rfl (zA4 rfl rfl rfl) .nil) ?_)
 refine zAB ?_
 refine zAb (t := decide ((i:Int) < ((pvR rs).length : Int))) rfl (fun h1 => ?_) (fun h1 => ?_)
 ·
  replace h1 := of_decide_eq_true h1
  refine zAL ?_
  refine zAB ?_
  refine zAR ?_
  refine zAB ?_
  obtain ⟨e, he⟩ : ∃ e, rs[i]? = some e := ⟨_, List.getElem?_eq_getElem (by (have hL := zAk rs; omega))⟩
  have hlte := (List.getElem?_eq_some_iff.1 he).1
  refine zAA rfl (.r rfl (zAf rfl rfl rfl underlying25 sizeOf61 rfl (by omega) (zDB he)) (.r rfl (zBA rfl rfl isAgg61 sizeOf61 (nle rfl)) (.run [] [5] rfl (zAl rfl 5 zDH rfl (by decide) rfl (by decide)) (.r rfl (zAE rfl rfl rfl rfl rfl sizeOf61 rfl (nle rfl)) .nil)))) ?_
  have hrl := zEt he
  have hrv := zAF e.2
  refine zAA rfl (.m rfl rfl (.r rfl (zAC rfl rfl underlying61 rfl sizeOf24 (by decide)) (.r rfl (zAD rfl rfl rfl isAgg24 rfl) (.run [1] [] rfl (zAq rfl 1 (ib := 1) (len := ((pvE (ents (rs.take i))) ++ (pvE e.2)).length) rfl rfl (.row (len := (pvE (ents (rs.take i))).length) (xs := pvE (ents (rs.take i))) rfl rfl (.inl rfl)) (.fro (zAg _)) underlying24 (sk underlying24 rfl) zBb rfl (by decide) (by decide) (by decide) List.length_append (by simp only [maxLen, List.length_append, List.length_cons, List.length_nil, List.length_take, zAF]; omega) (by simp only [maxLen, List.length_append, List.length_cons, List.length_nil, List.length_take, zAF]; omega)) (.a rfl rfl .nil))))) ?_
  have hr2 : (pvE (ents (rs.take i))) ++ (pvE e.2) = pvE (ents (rs.take (i + 1))) := by rw [zEI he, ← zIO]
  have hp3 : (.sl 1 0 (((pvE (ents (rs.take i))) ++ (pvE e.2)).length) : AV) = .sl 1 0 ((pvE (ents (rs.take (i + 1)))).length) := by simp only [hr2]
  refine zAV (s' := mk [(3, .sl 1 0 ((pvE (ents (rs.take (i + 1)))).length)), (7, .p none (.sl false 1 (pvR rs))), (8, .vi ((pvR rs).length : Int)), (9, .vi (i:Int))] [] [(1, 4, pvE (ents (rs.take (i + 1))))]) ?_ ?_
  · exact zAI ⟨hp3, rfl, rfl, rfl, trivial⟩ trivial ⟨(congrArg (fun x => some (4, x)) hr2), trivial⟩ rfl
  refine zAA rfl (.r rfl (zAe rfl rfl rfl (by omega)) (.m rfl rfl .nil)) ?_
  refine nxt (Q := fun _ _ => False) (z := i) (i + 1) ?_ ?_ ?_
  ·
   show (i + 1) ≤ rs.length
   omega
  ·
   show rs.length - (i + 1) < rs.length - i
   omega
  · exact zAI ⟨rfl, rfl, rfl, (zAJ (by omega)), trivial⟩ trivial ⟨rfl, trivial⟩ rfl
 ·
  replace h1 := of_decide_eq_false h1
  refine zAu ?_
  refine zAB (zAA rfl (.m rfl rfl (.a rfl rfl .nil)) ?_)
  have hr4 : pvE (ents (rs.take i)) = pvE (ents rs) := by rw [List.take_of_length_le (by omega)]
  have hp5 : (.sl 1 0 ((pvE (ents (rs.take i))).length) : AV) = .sl 1 0 ((pvE (ents rs)).length) := by simp only [hr4]
  refine zAV (s' := mk [(2, .sl 1 0 ((pvE (ents rs)).length))] [] [(1, 4, pvE (ents rs))]) ?_ ?_
  · exact zAI ⟨hp5, trivial⟩ trivial ⟨(congrArg (fun x => some (4, x)) hr4), trivial⟩ rfl
  refine zAO ?_
  exact ends [_] [1] (.cons (.tmp rfl) .nil) (.cons (.one (.row (len := (pvE (ents rs)).length) (xs := pvE (ents rs)) rfl rfl) (.sl _ _ (FlatP.clean (zAg _)))) .nil) (by decide) trivial
theorem zEh (rs : RunL) (hl : rs.length ≤ 2000000) (hb : ∀ r ∈ rs, r.2.length ≤ 2000000) : Con Tryz.prog 31 [.one (PV.sl false 1 (pvR rs))] [] [.one (.v (.bool (zBG rs)))] := by
 refine zAS func31 rfl rfl rfl rfl ?_
 have hle := zAk rs
 refine zAB (zAA rfl (.a rfl rfl .nil) ?_)
 refine zAB ?_
 refine zAB (zAA rfl (.m rfl rfl (.r rfl (zAa rfl rfl underlying25) (.r rfl (zBF rfl rfl rfl) .nil))) ?_)
 refine zAb (t := decide (20 < ((pvR rs).length : Int))) rfl (fun h1 => ?_) (fun h1 => ?_)
 ·
  replace h1 := of_decide_eq_true h1
  refine zAB (zAA rfl (.a rfl rfl .nil) ?_)
  refine zAO ?_
  exact ends [_] [] (.cons (.tmp (zAM (by simp [zBG]; omega))) .nil) (.cons (.one .v (.v _)) .nil) (by decide) trivial
 ·
  replace h1 := of_decide_eq_false h1
  refine zAL ?_
  refine zAB (zAA rfl (.a rfl rfl .nil) ?_)
  refine zAB ?_
  refine zAB (zAA rfl (.a rfl rfl .nil) ?_)
  refine zAR ?_
  refine zAo (σ := Nat) (fun i => mk [(0, .p none (.sl false 1 (pvR rs))), (3, .vi ((ents (rs.take i)).length : Int)), (4, .vi (i:Int))] [] []) (fun i => i ≤ rs.length ∧ ∀ j e, j < i → rs[j]? = some e → (!zAp e.2) = false) (fun i => rs.length - i) 0 ⟨Nat.zero_le _, fun _ _ h => absurd h (Nat.not_lt_zero _)⟩ (zAI ⟨rfl, (zAJ (by rfl)), (zAJ (by omega)), trivial⟩ trivial trivial rfl) ?_
  rintro i hG
  replace hG : i ≤ rs.length ∧ ∀ j e, j < i → rs[j]? = some e → (!zAp e.2) = false := hG
  obtain ⟨hi, hG⟩ := hG
  have hbi := zFo i hG
  refine zAB ?_
  refine zAB (zAA rfl (.m rfl rfl (.m rfl rfl (.r rfl (zAa rfl rfl underlying25) (.r rfl (zA4 rfl rfl rfl) .nil)))) ?_)
  refine zAb (t := decide ((i:Int) < ((pvR rs).length : Int))) rfl (fun h2 => ?_) (fun h2 => ?_)
  ·
   replace h2 := of_decide_eq_true h2
   refine zAL ?_
   refine zAB ?_
   refine zAR ?_
   refine zAB ?_
   refine zAB ?_
   obtain ⟨e, he⟩ : ∃ e, rs[i]? = some e := ⟨_, List.getElem?_eq_getElem (by omega)⟩
   have hb1 := hb _ (List.mem_of_getElem? he)
   refine zAA rfl (.m rfl rfl (.m rfl rfl (.r rfl (zAf rfl rfl rfl underlying25 sizeOf61 rfl (by omega) (zDB he)) (.r rfl (zAj rfl rfl underlying61 rfl sizeOf24 (by decide)) (.r rfl (zAd rfl rfl isAgg24 rfl) (.run [1900] [] rfl (zAK rfl 1900 (X := []) en30 rfl (.val nod) (.cons (.one (.bor (.sl nod))) .nil) (by decide) all_nil .nil (zCH e.2 (by omega)) rfl rfl (nle rfl)) (.r rfl (zA3 (b := zAp e.2) rfl rfl) .nil))))))) ?_
   refine zAb (t := (!(zAp e.2))) rfl (fun h3 => ?_) (fun h3 => ?_)
   ·
    replace h3 : (zAp e.2) = false := zBH h3
    refine zAB (zAA rfl (.a rfl rfl .nil) ?_)
    refine zAO ?_
    exact ends [_] [] (.cons (.tmp (zAM (by rw [zOn he hG h3]))) .nil) (.cons (.one .v (.v _)) .nil) (by decide) trivial
   ·
    replace h3 : (zAp e.2) = true := zBI h3
    refine zAL ?_
    have hrv := zAF e.2
    refine zAV (s' := mk [(0, .p none (.sl false 1 (pvR rs))), (3, .vi ((ents (rs.take i)).length : Int)), (4, .vi (i:Int))] [] []) ?_ ?_
    · exact zAI ⟨rfl, rfl, rfl, trivial⟩ trivial trivial rfl
    refine zAA rfl (.m rfl rfl (.m rfl rfl (.m rfl rfl (.r rfl (zAf rfl rfl rfl underlying25 sizeOf61 rfl (by omega) (zDB he)) (.r rfl (zAj rfl rfl underlying61 rfl sizeOf24 (by decide)) (.r rfl (zAd rfl rfl isAgg24 rfl) (.r rfl (zAa rfl rfl underlying24) (.r rfl (zAe rfl rfl rfl (by omega)) (.a rfl rfl .nil))))))))) ?_
    refine zAA rfl (.m rfl rfl (.r rfl (zAe rfl rfl rfl (by omega)) (.a rfl rfl .nil))) ?_
    refine nxt (Q := fun _ _ => False) (z := i) (i + 1) ?_ ?_ ?_
    ·
     show (i + 1) ≤ rs.length ∧ ∀ j e, j < (i + 1) → rs[j]? = some e → (!zAp e.2) = false
     exact ⟨by omega, zFK hG he (by simp [h3])⟩
    ·
     show rs.length - (i + 1) < rs.length - i
     omega
    · exact zAI ⟨rfl, (zAJ (by rw [zEI he, List.length_append, zAF]; omega)), (zAJ (by omega)), trivial⟩ trivial trivial rfl
  ·
   replace h2 := of_decide_eq_false h2
   refine zAu ?_
   refine zAB (zAA rfl (.m rfl rfl (.r rfl (zBz rfl rfl rfl) (.a rfl rfl .nil))) ?_)
   refine zAO ?_
   exact ends [_] [] (.cons (.tmp (zAM (by rw [zNG (by omega) hG (by omega), List.take_of_length_le (by omega)]; simp only [decide_eq_decide]; omega))) .nil) (.cons (.one .v (.v _)) .nil) (by decide) trivial
theorem zGX (r : Bool × List Ent) (hb : r.2.length ≤ 2000000) : Con Tryz.prog 62 [.agg [PV.sl false 4 (pvE r.2)]] [] [.one (.v (.bool (!zAp r.2)))] := by
 refine zAS func62 rfl rfl rfl rfl ?_
 have hle := zAF r.2
 refine zAB (zAA rfl (.run [] [1] rfl (zBT rfl 1 rfl rfl (by decide) rfl (by decide)) (.a rfl rfl .nil)) ?_)
 refine zAB (zAA rfl (.r rfl (zAC rfl rfl underlying61 rfl sizeOf24 (by decide)) (.r rfl (zAD rfl rfl rfl isAgg24 rfl) (.run [500] [] rfl (zAK rfl 500 (X := []) en22 rfl (.val nod) (.cons (.one (.bor (.sl nod))) .nil) (by decide) all_nil .nil (zC1 r.2 (by omega)) rfl rfl (nle rfl)) (.r rfl (zA3 (b := zAp r.2) rfl rfl) (.a rfl rfl .nil))))) ?_)
 refine zAO ?_
 exact ends [_] [] (.cons (.tmp rfl) .nil) (.cons (.one .v (.v _)) .nil) (by decide) trivial
theorem zHI (rs : RunL) (hl : rs.length ≤ 2000000) (f : Nat) (pss : List (List PV)) (p : Bool × List Ent → Bool) (hE : ∀ vs w, (callFunc f vs).run Tryz.prog w = .ok (.enter f vs) w) (hp : ∀ r ∈ rs, Con Tryz.prog f ([.agg [.sl false 4 (pvE r.2)]] ++ pss.map .fbox) [] [.one (.v (.bool (p r)))]) : Con Tryz.prog 95 [.one (PV.sl false 1 (pvR rs)), .one (PV.clo f pss)] [] [.one (.v (.int .i64 (idxF p rs)))] := by
 refine zAS func95 rfl rfl rfl rfl ?_
 have hle := zAk rs
 refine zAB (zAA rfl (.a rfl rfl .nil) ?_)
 refine zAB ?_
 refine zAB (zAA rfl (.m rfl rfl (.r rfl (zAa rfl rfl underlying25) (.m rfl rfl .nil))) ?_)
 refine zAR ?_
 refine zAo (σ := Nat) (fun i => mk [(0, .p none (.sl false 1 (pvR rs))), (1, .p none (.clo f pss)), (7, .vi ((pvR rs).length : Int)), (8, .vi (i:Int))] [] []) (fun i => i ≤ rs.length ∧ ∀ j e, j < i → rs[j]? = some e → p e = false) (fun i => rs.length - i) 0 ⟨Nat.zero_le _, fun _ _ h => absurd h (Nat.not_lt_zero _)⟩ (zAI ⟨rfl, rfl, rfl, (zAJ (by omega)), trivial⟩ trivial trivial rfl) ?_
 rintro i hG
 replace hG : i ≤ rs.length ∧ ∀ j e, j < i → rs[j]? = some e → p e = false := hG
 obtain ⟨hi, hG⟩ := hG
 refine zAB (zAA rfl (.r rfl (zA4 rfl rfl rfl) .nil) ?_)
 refine zAB ?_
 refine zAb (t := decide ((i:Int) < ((pvR rs).length : Int))) rfl (fun h1 => ?_) (fun h1 => ?_)
 ·
  replace h1 := of_decide_eq_true h1
  refine zAL ?_
  refine zAB ?_
  refine zAR ?_
  refine zAB (zAA rfl (.m rfl rfl (.a rfl rfl .nil)) ?_)
  refine zAB ?_
  obtain ⟨e, he⟩ : ∃ e, rs[i]? = some e := ⟨_, List.getElem?_eq_getElem (by (have hL := zAk rs; omega))⟩
  have hlte := (List.getElem?_eq_some_iff.1 he).1
  refine zAA rfl (.m rfl rfl (.m rfl rfl (.m rfl rfl (.r rfl (zAf rfl rfl rfl underlying25 sizeOf61 rfl (by omega) (zDB he)) (.r rfl (zBA rfl rfl isAgg61 sizeOf61 (nle rfl)) (.run [1600] [] rfl (zAK rfl 1600 (X := []) hE rfl (.val nod) (.cons (.agg (.cons (.bor (.sl nod)) .nil)) .nil) (by decide) all_nil .nil (hp e (List.mem_of_getElem? he)) rfl rfl (nle rfl)) .nil)))))) ?_
  refine zAb (t := p e) rfl (fun h2 => ?_) (fun h2 => ?_)
  ·
   refine zAB (zAA rfl (.m rfl rfl (.a rfl rfl .nil)) ?_)
   refine zAO ?_
   exact ends [_] [] (.cons (.tmp (zAJ (zE0 hG he h2).symm)) .nil) (.cons (.one .v (.v _)) .nil) (by decide) trivial
  ·
   refine zAL ?_
   refine zAA rfl (.r rfl (zAe rfl rfl rfl (by omega)) (.m rfl rfl .nil)) ?_
   refine nxt (Q := fun _ _ => False) (z := i) (i + 1) ?_ ?_ ?_
   ·
    show (i + 1) ≤ rs.length ∧ ∀ j e, j < (i + 1) → rs[j]? = some e → p e = false
    exact ⟨by omega, zFK hG he h2⟩
   ·
    show rs.length - (i + 1) < rs.length - i
    omega
   · exact zAI ⟨rfl, rfl, rfl, (zAJ (by omega)), trivial⟩ trivial trivial rfl
 ·
  replace h1 := of_decide_eq_false h1
  refine zAu ?_
  refine zAB (zAA rfl (.a rfl rfl .nil) ?_)
  refine zAO ?_
  exact ends [_] [] (.cons (.tmp (zAJ (zEa (by omega) hG).symm)) .nil) (.cons (.one .v (.v _)) .nil) (by decide) trivial
theorem zDh (rs : RunL) (hl : rs.length ≤ 2000000) (f : Nat) (pss : List (List PV)) (p : Bool × List Ent → Bool) (hE : ∀ vs w, (callFunc f vs).run Tryz.prog w = .ok (.enter f vs) w) (hp : ∀ r ∈ rs, Con Tryz.prog f ([.agg [.sl false 4 (pvE r.2)]] ++ pss.map .fbox) [] [.one (.v (.bool (p r)))]) : Con Tryz.prog 61 [.one (PV.sl false 1 (pvR rs)), .one (PV.clo f pss)] [] [.one (.v (.bool (decide (0 ≤ idxF p rs))))] := by
 refine zAS func61 rfl rfl rfl rfl ?_
 have hle := zAk rs
 refine zAB (zAA rfl (.a rfl rfl .nil) ?_)
 refine zAB (zAA rfl (.m rfl rfl (.m rfl rfl (.run [700] [] rfl (zAK rfl 700 (X := []) en95 rfl (.val nod) (.cons (.one (.bor (.sl nod))) (.cons (.one (.bor (.cl nod))) .nil)) (by decide) all_nil .nil (zHI rs hl f pss p hE hp) rfl rfl (nle rfl)) (.r rfl (zCM rfl rfl rfl) (.a rfl rfl .nil))))) ?_)
 refine zAO ?_
 exact ends [_] [] (.cons (.tmp rfl) .nil) (.cons (.one .v (.v _)) .nil) (by decide) trivial
theorem zHU (rs : RunL) (hl : rs.length ≤ 2000000) (hb : ∀ r ∈ rs, r.2.length ≤ 2000000) : Con Tryz.prog 23 [.one (PV.sl false 1 (pvR rs))] [] [.one (.v (.bool (zBG rs)))] := by
 refine zAS func23 rfl rfl rfl rfl ?_
 have hle := zAk rs
 have hje := zAF (ents rs)
 refine zAB (zAA rfl (.a rfl rfl .nil) ?_)
 refine zAB ?_
 rcases bfc (decide (((pvR rs).length : Int) ≤ 20)) with h1 | h1
 ·
  have h1' := h1
  replace h1' := of_decide_eq_false h1'
  refine zAA rfl (.m rfl rfl (.r rfl (zAa rfl rfl underlying25) (.r rfl (zAX (zBz rfl rfl rfl) (zAM h1)) (.m rfl rfl (.not rfl (.not rfl (.not rfl (.r rfl (zAT (t := false) rfl rfl) (.m rfl rfl (.not rfl (.not rfl (.not rfl (.not rfl (.r rfl (zAT (t := false) rfl rfl) (.a rfl rfl .nil))))))))))))))) ?_
  refine zAO ?_
  exact ends [_] [] (.cons (.tmp (zAM (by first | exact zKL (by omega) | exact zKK (by omega) | exact zKJ (by omega) (by omega) (by omega)))) .nil) (.cons (.one .v (.v _)) .nil) (by decide) trivial
 ·
  have h1' := h1
  replace h1' := of_decide_eq_true h1'
  rcases bfc (!(decide (0 ≤ idxF (fun r : Bool × List Ent => !zAp r.2) rs))) with h2 | h2
  ·
   have h2' := h2
   replace h2' : 0 ≤ idxF (fun r : Bool × List Ent => !zAp r.2) rs := of_decide_eq_true (zBI h2')
   refine zAA rfl (.m rfl rfl (.r rfl (zAa rfl rfl underlying25) (.r rfl (zAX (zBz rfl rfl rfl) (zAM h1)) (.m rfl rfl (.m rfl rfl (.run [800] [] rfl (zAK rfl 800 (X := []) en61 rfl (.val nod) (.cons (.one (.bor (.sl nod))) (.cons (.one (.bor (.cl nod))) .nil)) (by decide) all_nil .nil (zDh rs hl 62 [] (fun r : Bool × List Ent => !zAp r.2) en62 (fun r hr => zGX r (hb r hr))) rfl rfl (nle rfl)) (.r rfl (zAX (zA3 (b := decide (0 ≤ idxF (fun r : Bool × List Ent => !zAp r.2) rs)) rfl rfl) (zAM h2)) (.r rfl (zAT (t := true) rfl rfl) (.m rfl rfl (.not rfl (.not rfl (.not rfl (.not rfl (.r rfl (zAT (t := false) rfl rfl) (.a rfl rfl .nil))))))))))))))) ?_
   refine zAO ?_
   exact ends [_] [] (.cons (.tmp (zAM (by first | exact zKL (by omega) | exact zKK (by omega) | exact zKJ (by omega) (by omega) (by omega)))) .nil) (.cons (.one .v (.v _)) .nil) (by decide) trivial
  ·
   have h2' := h2
   replace h2' : ¬ (0 ≤ idxF (fun r : Bool × List Ent => !zAp r.2) rs) := of_decide_eq_false (zBH h2')
   refine zAA rfl (.m rfl rfl (.r rfl (zAa rfl rfl underlying25) (.r rfl (zAX (zBz rfl rfl rfl) (zAM h1)) (.m rfl rfl (.m rfl rfl (.run [800] [] rfl (zAK rfl 800 (X := []) en61 rfl (.val nod) (.cons (.one (.bor (.sl nod))) (.cons (.one (.bor (.cl nod))) .nil)) (by decide) all_nil .nil (zDh rs hl 62 [] (fun r : Bool × List Ent => !zAp r.2) en62 (fun r hr => zGX r (hb r hr))) rfl rfl (nle rfl)) (.r rfl (zAX (zA3 (b := decide (0 ≤ idxF (fun r : Bool × List Ent => !zAp r.2) rs)) rfl rfl) (zAM h2)) (.r rfl (zAT (t := true) rfl rfl) (.m rfl rfl (.m rfl rfl (.run [1300] [] rfl (zAK rfl 1300 (X := []) en25 rfl (.val nod) (.cons (.one (.bor (.sl nod))) .nil) (by decide) all_nil .nil (zDc rs (zMK (by omega) hb (by omega)) hl) rfl rfl (nle rfl)) (.r rfl (zA2 rfl rfl underlying24) (.r rfl (zBz rfl rfl rfl) (.r rfl (zAT (t := true) rfl rfl) (.a rfl rfl .nil))))))))))))))) ?_
   refine zAO ?_
   exact ends [_] [] (.cons (.tmp (zAM (by first | exact zKL (by omega) | exact zKK (by omega) | exact zKJ (by omega) (by omega) (by omega)))) .nil) (.cons (.one .v (.v _)) .nil) (by decide) trivial
theorem zFy (rs : RunL) (hn : (ents rs).length ≤ 900000) (hl : rs.length ≤ 2000000) : Con Tryz.prog 40 [.one (PV.sl false 1 (pvR rs))] [] [.one (.sl true 4 (pvE (zAy (rows rs))))] := by
 refine zAS func40 rfl rfl rfl rfl ?_
 have hle := zAk rs
 refine zAB (zAA rfl (.a rfl rfl .nil) ?_)
 refine zAB (zAA rfl (.run [600] [] rfl (zAQ rfl 600 underlying24 zBb (nle rfl) (by decide) rfl rfl rfl .nil (by decide) rfl (by decide) rfl (by decide) rfl) (.a rfl rfl .nil)) ?_)
 refine zAB ?_
 refine zAB (zAA rfl (.m rfl rfl (.r rfl (zAa rfl rfl underlying25) (.r rfl (zAs rfl rfl rfl (by omega)) (.a rfl rfl .nil)))) ?_)
 refine zAR ?_
 refine zAV (zBi 600 1 rfl rfl (by decide)) ?_
 refine zAo (σ := Nat) (fun i => mk [(0, .p none (.sl false 1 (pvR rs))), (3, .sl 1 0 ((pvE (zAy (rows (rs.drop i)))).length)), (4, .vi ((i:Int) - 1))] [] [(1, 4, pvE (zAy (rows (rs.drop i))))]) (fun i => i ≤ rs.length) (fun i => i) rs.length (by simp) (zAI ⟨rfl, (congrArg (AV.sl 1 0) (show 0 = (pvE (zAy (rows (rs.drop rs.length)))).length by rw [List.drop_length] <;> rfl)), (zAJ (by omega)), trivial⟩ trivial ⟨(congrArg (fun x => some (4, x)) (by rw [List.drop_length] <;> rfl)), trivial⟩ rfl) ?_
 rintro i hG
 replace hG : i ≤ rs.length := hG
 refine zAB ?_
 refine zAB (zAA rfl (.m rfl rfl (.r rfl (zCM rfl rfl rfl) .nil)) ?_)
 refine zAb (t := decide (0 ≤ ((i:Int) - 1))) rfl (fun h1 => ?_) (fun h1 => ?_)
 ·
  replace h1 := of_decide_eq_true h1
  refine zAL ?_
  refine zAB ?_
  refine zAR ?_
  refine zAB ?_
  obtain ⟨r, hr⟩ : ∃ r, rs[i - 1]? = some r := ⟨_, List.getElem?_eq_getElem (by omega)⟩
  have hrl := zEt hr
  have hrv := zAF r.2
  have hml := zC3 (rows (rs.drop i))
  have hdl := zIK rs i
  refine zAA rfl (.a rfl rfl .nil) ?_
  refine zAR ?_
  refine zAo (σ := Nat) (fun k => mk [(0, .p none (.sl false 1 (pvR rs))), (3, .sl 1 0 ((pvE (zBl (zAy (rows (rs.drop i))) (r.2.take k))).length)), (4, .vi ((i:Int) - 1)), (5, .vi (k:Int))] [] [(1, 4, pvE (zBl (zAy (rows (rs.drop i))) (r.2.take k)))]) (fun k => k ≤ r.2.length) (fun k => r.2.length - k) 0 (by simp) (zAI ⟨rfl, rfl, rfl, (zAJ (by omega)), trivial⟩ trivial ⟨(congrArg (fun x => some (4, x)) (by rfl)), trivial⟩ rfl) ?_
  rintro k hG
  replace hG : k ≤ r.2.length := hG
  have hpl := zDP (r.2.take k) (zAy (rows (rs.drop i)))
  have htl := List.length_take_le k r.2
  have hpv := zAF (zBl (zAy (rows (rs.drop i))) (r.2.take k))
  refine zAB ?_
  refine zAB (zAA rfl (.m rfl rfl (.m rfl rfl (.r rfl (zAX (zBJ rfl) (((show (AV.p none (.v (.int .i64 ((i:Int) - 1)))) = AV.p none (.v (.int .i64 ((i - 1 : Nat) : Int))) from zAJ (by omega))))) (.r rfl (zAf rfl rfl rfl underlying25 sizeOf61 rfl (by omega) (zDB hr)) (.r rfl (zAj rfl rfl underlying61 rfl sizeOf24 (by decide)) (.r rfl (zAd rfl rfl isAgg24 rfl) (.r rfl (zAa rfl rfl underlying24) (.r rfl (zA4 rfl rfl rfl) .nil)))))))) ?_)
  refine zAb (t := decide ((k:Int) < ((pvE r.2).length : Int))) rfl (fun h2 => ?_) (fun h2 => ?_)
  ·
   replace h2 := of_decide_eq_true h2
   refine zAL ?_
   refine zAB ?_
   refine zAR ?_
   refine zAV (s' := mk [(0, .p none (.sl false 1 (pvR rs))), (3, .sl 1 0 ((pvE (zBl (zAy (rows (rs.drop i))) (r.2.take k))).length)), (4, .vi ((i:Int) - 1)), (5, .vi (k:Int))] [] [(1, 4, pvE (zBl (zAy (rows (rs.drop i))) (r.2.take k)))]) ?_ ?_
   · exact zAI ⟨rfl, rfl, rfl, rfl, trivial⟩ trivial ⟨rfl, trivial⟩ rfl
   obtain ⟨e, he⟩ : ∃ e, r.2[k]? = some e := ⟨_, List.getElem?_eq_getElem (by (have hL := zAF r.2; omega))⟩
   have hlte := (List.getElem?_eq_some_iff.1 he).1
   refine zAA rfl (.m rfl rfl (.m rfl rfl (.r rfl (zAX (zBJ rfl) (((show (AV.p none (.v (.int .i64 ((i:Int) - 1)))) = AV.p none (.v (.int .i64 ((i - 1 : Nat) : Int))) from zAJ (by omega))))) (.r rfl (zAf rfl rfl rfl underlying25 sizeOf61 rfl (by omega) (zDB hr)) (.r rfl (zAj rfl rfl underlying61 rfl sizeOf24 (by decide)) (.r rfl (zAd rfl rfl isAgg24 rfl) (.m rfl rfl (.r rfl (zAf rfl rfl rfl underlying24 sizeOf56 rfl (by omega) (zAw he)) (.r rfl (zBA rfl rfl isAgg56 sizeOf56 (nle rfl)) (.run [1, 3300] [] rfl (zAK rfl 3300 (X := []) en76 rfl (.val nod) (.cons (.one (.bor (.all (len := (pvE (zBl (zAy (rows (rs.drop i))) (r.2.take k))).length) (xs := pvE (zBl (zAy (rows (rs.drop i))) (r.2.take k))) rfl rfl (by decide)))) (.cons (.agg (.cons (.bor .v) (.cons (.bor .v) (.cons (.bor .v) (.cons (.bor .v) .nil))))) .nil)) (by decide) all_nil .nil (zJZ (zBl (zAy (rows (rs.drop i))) (r.2.take k)) e (by omega)) rfl rfl (nle rfl)) (.a rfl rfl .nil))))))))))) ?_
   refine zAA rfl (.m rfl rfl (.r rfl (zAe rfl rfl rfl (by omega)) (.a rfl rfl .nil))) ?_
   refine nxt (Q := fun _ _ => False) (z := k) (k + 1) ?_ ?_ ?_
   ·
    show (k + 1) ≤ r.2.length
    omega
   ·
    show r.2.length - (k + 1) < r.2.length - k
    omega
   · exact (show Wk _ _ (mk [(0, .p none (.sl false 1 (pvR rs))), (3, .sl 3300 0 ((pvE (putF (zBl (zAy (rows (rs.drop i))) (r.2.take k)) e)).length)), (4, .vi ((i:Int) - 1)), (5, .vi ((k:Int) + 1))] [] [(3300, 4, pvE (putF (zBl (zAy (rows (rs.drop i))) (r.2.take k)) e))]) from zAI ⟨rfl, rfl, rfl, rfl, trivial⟩ trivial ⟨rfl, trivial⟩ rfl).trans ((zBi 3300 1 rfl rfl (by decide)).trans (zAI ⟨rfl, (congrArg (fun z => AV.sl 1 0 (pvE z).length) (zEW he).symm), rfl, (zAJ (by omega)), trivial⟩ trivial ⟨(congrArg (fun x => some (4, x)) (by rw [zEW he])), trivial⟩ rfl))
  ·
   replace h2 := of_decide_eq_false h2
   refine zAu ?_
   refine zAA rfl (.m rfl rfl (.r rfl (zAs rfl rfl rfl (by omega)) (.a rfl rfl .nil))) ?_
   have hend : (zBl (zAy (rows (rs.drop i))) (r.2.take k)) = (zAy (rows (rs.drop (i - 1)))) := by rw [List.take_of_length_le (by omega), zKY hr, Nat.sub_add_cancel (by omega)]
   refine nxt (Q := fun _ _ => False) (z := i) (i - 1) ?_ ?_ ?_
   ·
    show (i - 1) ≤ rs.length
    omega
   ·
    show (i - 1) < i
    omega
   · exact zAI ⟨rfl, (congrArg (fun z => AV.sl 1 0 (pvE z).length) hend), (zAJ (by omega)), trivial⟩ trivial ⟨(congrArg (fun x => some (4, x)) (by rw [hend])), trivial⟩ rfl
 ·
  replace h1 := of_decide_eq_false h1
  refine zAu ?_
  refine zAB (zAA rfl (.m rfl rfl (.a rfl rfl .nil)) ?_)
  have hr3 : pvE (zAy (rows (rs.drop i))) = pvE (zAy (rows rs)) := by rw [show i = 0 by omega, List.drop_zero]
  have hp4 : (.sl 1 0 ((pvE (zAy (rows (rs.drop i)))).length) : AV) = .sl 1 0 ((pvE (zAy (rows rs))).length) := by simp only [hr3]
  refine zAV (s' := mk [(2, .sl 1 0 ((pvE (zAy (rows rs))).length))] [] [(1, 4, pvE (zAy (rows rs)))]) ?_ ?_
  · exact zAI ⟨hp4, trivial⟩ trivial ⟨(congrArg (fun x => some (4, x)) hr3), trivial⟩ rfl
  refine zAO ?_
  exact ends [_] [1] (.cons (.tmp rfl) .nil) (.cons (.one (.row (len := (pvE (zAy (rows rs))).length) (xs := pvE (zAy (rows rs))) rfl rfl) (.sl _ _ (FlatP.clean (zAg _)))) .nil) (by decide) trivial
theorem zJa (mem : List Ent) (rs : RunL) (hn : mem.length + (ents rs).length ≤ 900000) (hl : rs.length ≤ 1000000) : Con Tryz.prog 40 [.one (PV.sl false 1 ([[PV.sl false 4 (pvE mem)]] ++ ((pvR rs).map fun es => es.map PV.shr)))] [] [.one (.sl true 4 (pvE (allS mem rs)))] := by
 rw [pvR_all]
 have h := zFy ((false, mem) :: rs.map fun r => (false, r.2)) (by rw [ents, zLM]; simpa [zBp, ents] using hn) (by simp; omega)
 rw [zLM] at h
 exact h
theorem zHm (sq : Int) (mem : List Ent) (rs : RunL) (sn : List Int) (hn : mem.length + (ents rs).length ≤ 900000) (hl : rs.length ≤ 1000000) : Con Tryz.prog 33 [.agg [PV.v (.int .i64 sq), PV.sl false 4 (pvE mem), PV.sl false 1 (pvR rs), PV.sl false 1 (pvI sn)]] [] [.one (.sl true 4 (pvE (allS mem rs)))] := by
 refine zAS func33 rfl rfl rfl rfl ?_
 have hle := zAk rs
 refine zAB (zAA rfl (.run [] [1] rfl (zBT rfl 1 rfl rfl (by decide) rfl (by decide)) (.a rfl rfl .nil)) ?_)
 refine zAB (zAA rfl (.r rfl (zAC rfl rfl underlying28 rfl sizeOf24 (by decide)) (.r rfl (zAD rfl rfl rfl isAgg24 rfl) (.r rfl (zBM (pl := [(0, 1)]) rfl underlying61 zDH (by kernel_rfl) rfl rfl) (.run [600] [] rfl (zAQ rfl 600 underlying25 zDH (nle rfl) (by decide) rfl rfl rfl (.cons .fro .nil) (by decide) rfl (by decide) rfl (by decide) rfl) (.r rfl (zAC rfl rfl underlying28 rfl sizeOf25 (by decide)) (.r rfl (zAD rfl rfl rfl isAgg25 rfl) (.run [600] [] rfl (zAq rfl 600 (ib := 600) (len := ([[PV.sl false 4 (pvE mem)]] ++ ((pvR rs).map fun es => es.map PV.shr)).length) rfl rfl (.row (len := 1) (xs := [[PV.sl false 4 (pvE mem)]]) rfl rfl (.inl rfl)) .frn underlying25 (sk underlying25 rfl) zDH rfl (by decide) (by decide) (by decide) List.length_append (by simp only [maxLen, List.length_append, List.length_map, List.length_cons, List.length_nil, zAF, zAk]; omega) (by simp only [maxLen, List.length_append, List.length_map, List.length_cons, List.length_nil, zAF, zAk]; omega)) (.run [600, 1000] [] rfl (zAK rfl 1000 (X := []) en40 rfl (.val nod) (.cons (.one (.bor (.all (len := ([[PV.sl false 4 (pvE mem)]] ++ ((pvR rs).map fun es => es.map PV.shr)).length) (xs := [[PV.sl false 4 (pvE mem)]] ++ ((pvR rs).map fun es => es.map PV.shr)) rfl rfl (by decide)))) .nil) (by decide) all_nil .nil (zJa mem rs hn hl) rfl rfl (nle rfl)) (.a rfl rfl .nil))))))))) ?_)
 refine zAO ?_
 exact ends [_] [1000] (.cons (.tmp rfl) .nil) (.cons (.one (.row (len := (pvE (allS mem rs)).length) (xs := pvE (allS mem rs)) rfl rfl) (.sl _ _ (FlatP.clean (zAg _)))) .nil) (by decide) trivial
end Go.Rl
namespace Go.Rl
structure Bop where
 kind : Int
 user : ByteArray
 value : ByteArray
def Bop.pv (e : Bop) : List PV := [.v (.int .i64 e.kind), .v (.string e.user), .v (.string e.value)]
def pvO (l : List Bop) : List (List PV) := l.map Bop.pv
theorem zC2 (l : List Bop) : (pvO l).length = l.length := by simp [pvO]
theorem zKO {l : List Bop} {i : Nat} {e : Bop} (h : l[i]? = some e) : (pvO l)[i]? = some [.v (.int .i64 e.kind), .v (.string e.user), .v (.string e.value)] := by simp [pvO, h, Bop.pv]
theorem zOs (l : List Bop) : FlatP (pvO l) := fun es he p hp => by
 obtain ⟨e, _, rfl⟩ := List.mem_map.1 he
 simp only [Bop.pv, List.mem_cons, List.not_mem_nil, or_false] at hp
 rcases hp with rfl | rfl | rfl <;> rfl
theorem zOr (l : List Bop) (e : Bop) : pvO l ++ [e.pv] = pvO (l ++ [e]) := by simp [pvO]
def bent (s : Int) (i : Nat) (o : Bop) : Ent := ⟨o.user, s + (i : Int), o.kind, o.value⟩
def zBg (s : Int) (ops : List Bop) : List Ent := ops.mapIdx (bent s)
theorem zC5 (s : Int) (ops : List Bop) : (zBg s ops).length = ops.length := by simp [zBg]
theorem zDj {s : Int} {ops : List Bop} {i : Nat} {o : Bop} (h : ops[i]? = some o) : (zBg s ops)[i]? = some (bent s i o) := by simp [zBg, h]
def zBX (s : Int) (ops : List Bop) : Bool := zA1 (ops.length : Int) 1 20 && (zA1 s 1 999999999980 && decide (idxF (fun e => !zBh e) (zBg s ops) < 0))
theorem zOI {s : Int} {ops : List Bop} {i : Nat} {o : Bop} (h : ops[i]? = some o) (hG : ∀ j o, j < i → ops[j]? = some o → zBh (bent s j o) = true) (hr : zBh (bent s i o) = false) : zBX s ops = false := by
 have := zE0 (p := fun e => !zBh e) (l := zBg s ops) (i := i) (fun j e hj he => by
  have hi := (List.getElem?_eq_some_iff.1 h).1
  have h2 := zDj (s := s) (List.getElem?_eq_getElem (show j < ops.length by omega))
  rw [h2] at he
  cases he
  rw [hG j _ hj (List.getElem?_eq_getElem (by omega))]; rfl) (zDj h) (by simp [hr])
 have h2 : ¬ ((i : Int) < 0) := by omega
 unfold zBX
 rw [this, decide_eq_false h2, Bool.and_false, Bool.and_false]
theorem zMp {s : Int} {ops : List Bop} {i : Nat} (hi : ops.length ≤ i) (hG : ∀ j o, j < i → ops[j]? = some o → zBh (bent s j o) = true) (h1 : zA1 (ops.length : Int) 1 20 = true) (h2 : zA1 s 1 999999999980 = true) : zBX s ops = true := by
 have := zEa (p := fun e => !zBh e) (l := zBg s ops) (i := i) (by rw [zC5]; exact hi) (fun j e hj he => by
  have hl := (List.getElem?_eq_some_iff.1 he).1
  rw [zC5] at hl
  have h2 := zDj (s := s) (List.getElem?_eq_getElem hl)
  rw [h2] at he
  cases he
  rw [hG j _ hj (List.getElem?_eq_getElem hl)]; rfl)
 unfold zBX
 rw [this, h1, h2]
 rfl
theorem zL5 {s : Int} {ops : List Bop} (h : zA1 (ops.length : Int) 1 20 = false) : false = zBX s ops := by unfold zBX; rw [h]; rfl
theorem zPg {s : Int} {ops : List Bop} (h : zA1 s 1 999999999980 = false) : false = zBX s ops := by unfold zBX; rw [h, Bool.false_and, Bool.and_false]
theorem zEP {n : Nat} : zA1 (n : Int) 1 20 = true ↔ 1 ≤ n ∧ n ≤ 20 := by
 simp only [zA1, Bool.and_eq_true, decide_eq_true_eq]; omega
def ownR (rs : RunL) : RunL := rs.map fun r => (true, r.2)
theorem zLd (rs : RunL) : (ownR rs).length = rs.length := by simp [ownR]
theorem zJK {rs : RunL} {i : Nat} {r : Bool × List Ent} (h : rs[i]? = some r) : pvR (ownR (rs.take i)) ++ [[.sl true 4 (pvE r.2)]] = pvR (ownR (rs.take (i + 1))) := by
 rw [List.take_add_one, h]
 simp [pvR, ownR]
theorem zC0 (rs : RunL) : Clean (.sl true 1 (pvR (ownR rs))) := by
 refine .sl _ _ (fun es he p hp => ?_)
 obtain ⟨r, hr, rfl⟩ := List.mem_map.1 he
 obtain ⟨r', _, rfl⟩ := List.mem_map.1 hr
 simp only [List.mem_singleton] at hp
 subst hp
 exact .sl _ _ (FlatP.clean (zAg _))
def atI (sn : List Int) (at_ : Int) : Bool := decide (0 ≤ idxF (fun x => decide (at_ = x)) sn)
end Go.Rl

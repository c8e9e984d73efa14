/- Promises of functions, proved by walks over their operations; no conditions beyond those that each theorem states. -/
import Derived.Test.YtgdfpjpfomcilaaGreatReC
import Derived.Test.YtgdfpjpfomcilaaGreatRnC
import Derived.RangeFuncBox
import Derived.RangeFuncLeaves
import Derived.Shelf.Abstract
import Derived.WalkKit
import Derived.OwnWalkIn
import Derived.TacticsInMore
import Derived.LoopNIn
import Derived.LoopIn
import Derived.Test.YtgdfpjpfomcilaaGreatProg
import Derived.Test.YtgdfpjpfomcilaaGreatRlT
set_option linter.unusedSimpArgs false
set_option linter.unusedVariables false
namespace Go.Rl
open Go.Proofs Go.Proofs.Tryz
set_option maxRecDepth 1000000
set_option maxHeartbeats 2000000
theorem en75 : En Tryz.prog 75 := zAm func75 (by decide) rfl
theorem zJj (l : List Ent) (hl : l.length ≤ 2000000) : Con Tryz.prog 71 [.one (.sl true 4 (pvE l))] [some (pvE l.reverse)] [] := by
 refine zAQ func71 rfl rfl rfl rfl ?_
 have hle := zAF l
 refine zAB (zAA rfl (.m rfl rfl (.r rfl (zAy rfl rfl underlying24) (.r rfl (zAv rfl rfl rfl (by omega)) (.a rfl rfl (.a rfl rfl .nil))))) ?_)
 refine zAS ?_
 refine zAp (σ := Nat × Nat × List Ent) (fun (i, k, m) => mk [(0, .sl 100000 0 ((pvE l).length)), (2, .vi (i:Int)), (3, .vi ((k:Int) - 1))] [] [(100000, 4, pvE m)]) (fun (i, k, m) => i + k = l.length ∧ i ≤ l.length ∧ (i ≤ k ∨ i = k + 1) ∧ zEX l m i) (fun (i, k, m) => l.length - i) (0, l.length, l) ⟨by omega, Nat.zero_le _, .inl (Nat.zero_le _), zJW l⟩ (zAJ ⟨rfl, (zAL (by omega)), (zAL (by omega)), trivial⟩ trivial ⟨(congrArg (fun x => some (4, x)) (by rfl)), trivial⟩ rfl) ?_
 rintro ⟨i, k, m⟩ hG
 replace hG : i + k = l.length ∧ i ≤ l.length ∧ (i ≤ k ∨ i = k + 1) ∧ zEX l m i := hG
 obtain ⟨hik, hi, hw, hS⟩ := hG
 have hml := hS.1
 have hle2 := zAF m
 refine zAB ?_
 refine zAB (zAA rfl (.m rfl rfl (.m rfl rfl (.r rfl (zA4 rfl rfl rfl) .nil))) ?_)
 refine zAZ (t := decide ((i:Int) < ((k:Int) - 1))) rfl (fun h1 => ?_) (fun h1 => ?_)
 ·
  replace h1 := of_decide_eq_true h1
  refine zAM ?_
  refine zAB ?_
  refine zAS ?_
  obtain ⟨x, hx⟩ : ∃ x, m[i]? = some x := ⟨_, List.getElem?_eq_getElem (by omega)⟩
  obtain ⟨y, hy⟩ : ∃ y, m[k - 1]? = some y := ⟨_, List.getElem?_eq_getElem (by omega)⟩
  refine zAY (s' := mk [(0, .sl 100000 0 ((pvE l).length)), (2, .vi (i:Int)), (3, .vi ((k:Int) - 1))] [] [(100000, 4, pvE m)]) ?_ ?_
  · exact zAJ ⟨rfl, rfl, rfl, trivial⟩ trivial ⟨rfl, trivial⟩ rfl
  refine zAc zBL rfl (.m rfl rfl (.m rfl rfl (.m rfl rfl (.r rfl (zAW (zBJ rfl) (((show (AV.p none (.v (.int .i64 ((k:Int) - 1)))) = AV.p none (.v (.int .i64 ((k - 1 : Nat) : Int))) from zAL (by omega))))) (.m rfl rfl (.r rfl (zAW (zBJ rfl) (((show (AV.p none (.v (.int .i64 ((k:Int) - 1)))) = AV.p none (.v (.int .i64 ((k - 1 : Nat) : Int))) from zAL (by omega))))) (.r rfl (zAe (k - 1) rfl rfl rfl rfl underlying24 sizeOf56 rfl rfl (by omega)) (.r rfl (zBB rfl rfl rfl (zA0 hy) isAgg56 sizeOf56 (nle rfl)) (.m rfl rfl (.m rfl rfl (.r rfl (zAe i rfl rfl rfl rfl underlying24 sizeOf56 rfl rfl (by omega)) (.r rfl (zBB rfl rfl rfl (zA0 hx) isAgg56 sizeOf56 (nle rfl)) (.r rfl (zAe i rfl rfl rfl rfl underlying24 sizeOf56 rfl rfl (by omega)) (.r rfl (zBR rfl rfl rfl (FlatP.nf (zAd _)) (zA0 hx) rfl rfl (.cons .v (.cons .v (.cons .v (.cons .v .nil)))) sizeOf56 rfl (nle rfl)) (.r rfl (zAe (k - 1) rfl rfl rfl rfl underlying24 sizeOf56 rfl rfl (by omega)) (.r rfl (zBR rfl rfl rfl (FlatP.nf (FlatP.set (i := i) (cs := [PV.v (.string y.user), PV.v (.int .i64 y.seq), PV.v (.int .i64 y.kind), PV.v (.string y.value)]) (zAd m) rfl)) (by rw [List.getElem?_set_ne (by omega)]; exact zA0 hy) rfl rfl (.cons .v (.cons .v (.cons .v (.cons .v .nil)))) sizeOf56 rfl (nle rfl)) .nil)))))))))))))))) (by kernel_rfl) ?_
  refine zAY (s' := mk [(0, .sl 100000 0 ((pvE l).length)), (2, .vi (i:Int)), (3, .vi ((k:Int) - 1))] [] [(100000, 4, ((pvE m).set i [PV.v (.string y.user), PV.v (.int .i64 y.seq), PV.v (.int .i64 y.kind), PV.v (.string y.value)]).set (k - 1) [PV.v (.string x.user), PV.v (.int .i64 x.seq), PV.v (.int .i64 x.kind), PV.v (.string x.value)])]) ?_ ?_
  · exact zAJ ⟨rfl, rfl, rfl, trivial⟩ trivial ⟨rfl, trivial⟩ rfl
  refine zAA rfl (.m rfl rfl (.r rfl (zAf rfl rfl rfl (by omega)) (.m rfl rfl (.r rfl (zAv rfl rfl rfl (by omega)) (.a rfl rfl (.a rfl rfl .nil)))))) ?_
  refine nxt (Q := fun _ _ => False) (z := (i, k, m)) (i + 1, k - 1, (m.set i y).set (k - 1) x) ?_ ?_ ?_
  ·
   show (i + 1) + (k - 1) = l.length ∧ (i + 1) ≤ l.length ∧ ((i + 1) ≤ (k - 1) ∨ (i + 1) = (k - 1) + 1) ∧ zEX l ((m.set i y).set (k - 1) x) (i + 1)
   exact ⟨by omega, by omega, by omega, zJX hS (by omega) (by omega) hx hy⟩
  ·
   show l.length - (i + 1) < l.length - i
   omega
  · exact zAJ ⟨rfl, (zAL (by omega)), (zAL (by omega)), trivial⟩ trivial ⟨(congrArg (fun x => some (4, x)) (by exact zPo)), trivial⟩ rfl
 ·
  replace h1 := of_decide_eq_false h1
  refine zAx ?_
  exact zJJ [] [] .nil .nil (by decide) (zB7 (congrArg (fun x => some (4, x)) (congrArg pvE (zKg hS (by omega)))) (zAd _) (by decide))
theorem zGP (l : List Ent) (s : List Int) (b : Bool) (zs : List Int) (hzs : zs = zBK l (zAP s) l.length) (hl : l.length ≤ 2000000) (hs : s.length ≤ 2000000) : Con Tryz.prog 39 [.one (PV.sl false 4 (pvE l)), .one (PV.sl false 1 (pvI s)), .one (PV.v (.bool b))] [] [.one (.sl true 4 (pvE (zA2 l b zs zs.length)))] := by
 refine zAQ func39 rfl rfl rfl rfl ?_
 have hle := zAF l
 have hls := zAT s
 have hlz := zAT zs
 have hzl : zs.length ≤ l.length := by rw [hzs]; exact zDJ _ _ _
 refine zAB (zAA rfl (.a rfl rfl .nil) ?_)
 refine zAB (zAA rfl (.m rfl rfl (.m rfl rfl (.run [1400] [] rfl (zAK rfl 1400 (X := []) en75 rfl (.val nod) (.cons (.one (.bor (.sl nod))) (.cons (.one (.bor (.sl nod))) .nil)) (by decide) all_nil .nil ((by have h := zI6 l s (by omega) (by omega); rw [← hzs] at h; exact h)) rfl rfl (nle rfl)) (.a rfl rfl .nil)))) ?_)
 refine zAB (zAA rfl (.run [1500] [] rfl (zAR rfl 1500 underlying24 zBb (nle rfl) (by decide) rfl rfl rfl .nil (by decide) rfl (by decide) rfl (by decide) rfl) (.a rfl rfl .nil)) ?_)
 refine zAB ?_
 refine zAB (zAA rfl (.m rfl rfl (.r rfl (zAy rfl rfl underlying26) (.r rfl (zAv rfl rfl rfl (by omega)) (.a rfl rfl .nil)))) ?_)
 refine zAS ?_
 refine zAY (zBi 1500 1 rfl rfl (by decide)) ?_
 refine zAp (σ := Nat) (fun i => mk [(0, .p none (.sl false 4 (pvE l))), (2, .vb b), (7, .sl 1400 0 ((pvI zs).length)), (8, .sl 1 0 ((pvE (zA2 l b zs (zs.length - i))).length)), (9, .vi ((i:Int) - 1))] [] [(1, 4, pvE (zA2 l b zs (zs.length - i))), (1400, 1, pvI zs)]) (fun i => i ≤ zs.length) (fun i => i) zs.length (by simp) (zAJ ⟨rfl, rfl, rfl, (congrArg (fun k => AV.sl 1 0 (pvE (zA2 l b zs k)).length) (Nat.sub_self _).symm), (zAL (by rw [hlz])), trivial⟩ trivial ⟨(congrArg (fun x => some (4, x)) (by rw [Nat.sub_self]; rfl)), rfl, trivial⟩ rfl) ?_
 rintro i hG
 replace hG : i ≤ zs.length := hG
 refine zAB ?_
 refine zAB (zAA rfl (.m rfl rfl (.r rfl (zCQ rfl rfl rfl) .nil)) ?_)
 refine zAZ (t := decide (0 ≤ ((i:Int) - 1))) rfl (fun h1 => ?_) (fun h1 => ?_)
 ·
  replace h1 := of_decide_eq_true h1
  refine zAM ?_
  refine zAB ?_
  refine zAS ?_
  refine zAB ?_
  obtain ⟨z, hz⟩ : ∃ z, zs[i - 1]? = some z := ⟨_, List.getElem?_eq_getElem (by omega)⟩
  obtain ⟨q, rfl, hql⟩ : ∃ q : Nat, z = (q : Int) ∧ q < l.length := by rw [hzs] at hz; exact need_at hz
  obtain ⟨e, he⟩ : ∃ e, l[q]? = some e := ⟨_, List.getElem?_eq_getElem hql⟩
  have hstep : zA2 l b zs (zs.length - i + 1) = zEq b (zA2 l b zs (zs.length - i)) e := zDA (i := i - 1) (by omega) hz (by simpa using he)
  have hol := zFk l b zs (k := zs.length - i) (by omega)
  have hle5 := zAF (zA2 l b zs (zs.length - i))
  refine zAA rfl (.m rfl rfl (.m rfl rfl (.r rfl (zAW (zBJ rfl) (((show (AV.p none (.v (.int .i64 ((i:Int) - 1)))) = AV.p none (.v (.int .i64 ((i - 1 : Nat) : Int))) from zAL (by omega))))) (.r rfl (zAe (i - 1) rfl rfl rfl rfl underlying26 sizeOf2 rfl rfl (by omega)) (.r rfl (zA6 rfl rfl rfl (zB0 hz) isAgg2 rfl) (.r rfl (zAh rfl rfl rfl underlying24 sizeOf56 rfl (by omega) (zA0 he)) (.r rfl (zA9 rfl rfl isAgg56 sizeOf56 (nle rfl)) (.run [] [10] rfl (zAj rfl 10 zBb rfl (by decide) rfl (by decide)) (.r rfl (zAE rfl rfl rfl rfl rfl sizeOf56 rfl (nle rfl)) .nil))))))))) ?_
  refine zAB ?_
  refine zAY (s' := mk [(0, .p none (.sl false 4 (pvE l))), (2, .vb b), (7, .sl 1400 0 ((pvI zs).length)), (8, .sl 1 0 ((pvE (zA2 l b zs (zs.length - i))).length)), (9, .vi ((i:Int) - 1)), (10, .ptr 10 0)] [(10, [.vs e.user, .vi e.seq, .vi e.kind, .vs e.value])] [(1, 4, pvE (zA2 l b zs (zs.length - i))), (1400, 1, pvI zs)]) ?_ ?_
  · exact zAJ ⟨rfl, rfl, rfl, rfl, rfl, rfl, trivial⟩ ⟨rfl, trivial⟩ ⟨rfl, rfl, trivial⟩ rfl
  rcases bfc (decide (0 < ((pvE (zA2 l b zs (zs.length - i))).length : Int))) with h2 | h2
  ·
   have h2' := h2
   replace h2' := of_decide_eq_false h2'
   refine zAc zBL rfl (.m rfl rfl (.r rfl (zAy rfl rfl underlying24) (.r rfl (zAW (zBN rfl rfl rfl) (zAN h2)) (.m rfl rfl (.not rfl (.not rfl (.not rfl (.not rfl (.not rfl (.not rfl (.not rfl (.not rfl (.not rfl (.r rfl (zAU (t := false) rfl rfl) (.a rfl rfl .nil))))))))))))))) (by kernel_rfl) ?_
   refine zAB ?_
   refine zAB ?_
   refine zAY (s' := mk [(0, .p none (.sl false 4 (pvE l))), (2, .vb b), (7, .sl 1400 0 ((pvI zs).length)), (8, .sl 1 0 ((pvE (zA2 l b zs (zs.length - i))).length)), (9, .vi ((i:Int) - 1)), (10, .ptr 10 0), (11, .vb false)] [(10, [.vs e.user, .vi e.seq, .vi e.kind, .vs e.value])] [(1, 4, pvE (zA2 l b zs (zs.length - i))), (1400, 1, pvI zs)]) ?_ ?_
   · exact zAJ ⟨rfl, rfl, rfl, rfl, rfl, rfl, rfl, trivial⟩ ⟨rfl, trivial⟩ ⟨rfl, rfl, trivial⟩ rfl
   rcases bfc (decide (e.kind = 0)) with h3 | h3
   ·
    have h3' := h3
    replace h3' := of_decide_eq_false h3'
    refine zAA rfl (.r rfl (zAC rfl rfl underlying56 rfl sizeOf54 (by decide)) (.r rfl (zAC rfl rfl underlying54 rfl sizeOf2 (by decide)) (.r rfl (zAD rfl rfl rfl isAgg2 rfl) (.r rfl (zAW (zA8 rfl rfl rfl) (zAN h3)) (.m rfl rfl (.not rfl (.r rfl (zAU (t := false) rfl rfl) (.m rfl rfl (.not rfl (.not rfl (.r rfl (zAU (t := false) rfl rfl) .nil))))))))))) ?_
    refine zAZ (t := false) rfl (fun h => nomatch h) (fun _ => ?_)
    refine zAM ?_
    refine zAA rfl (.r rfl (zAG rfl rfl rfl isAgg56 sizeOf56 (nle rfl)) (.run [5600] [] rfl (zAR rfl 5600 underlying24 zBb (nle rfl) (by decide) rfl rfl rfl (.cons .v (.cons .v (.cons .v (.cons .v .nil)))) (by decide) rfl (by decide) rfl (by decide) rfl) (.m rfl rfl (.run [5600] [] rfl (zAu rfl 5600 (ib := 5600) (len := ([[PV.v (.string e.user), PV.v (.int .i64 e.seq), PV.v (.int .i64 e.kind), PV.v (.string e.value)]] ++ (pvE (zA2 l b zs (zs.length - i)))).length) rfl rfl (.row (len := 1) (xs := [[PV.v (.string e.user), PV.v (.int .i64 e.seq), PV.v (.int .i64 e.kind), PV.v (.string e.value)]]) rfl rfl (.inl rfl)) (.give (len := (pvE (zA2 l b zs (zs.length - i))).length) (xs := pvE (zA2 l b zs (zs.length - i))) rfl rfl) underlying24 (sk underlying24 rfl) zBb rfl (by decide) (by decide) (by decide) List.length_append (by simp only [maxLen, List.length_append, List.length_cons, List.length_nil, zAF]; omega) (by simp only [maxLen, List.length_append, List.length_cons, List.length_nil, zAF]; omega)) (.a rfl rfl .nil))))) ?_
    have hr4 : [[PV.v (.string e.user), PV.v (.int .i64 e.seq), PV.v (.int .i64 e.kind), PV.v (.string e.value)]] ++ (pvE (zA2 l b zs (zs.length - i))) = pvE (zA2 l b zs (zs.length - i + 1)) := by rw [hstep, zB1 (fun hc => h3' hc.2.1)]; rfl
    have hp5 : (.sl 5600 0 (([[PV.v (.string e.user), PV.v (.int .i64 e.seq), PV.v (.int .i64 e.kind), PV.v (.string e.value)]] ++ (pvE (zA2 l b zs (zs.length - i)))).length) : AV) = .sl 5600 0 ((pvE (zA2 l b zs (zs.length - i + 1))).length) := by simp only [hr4]
    refine zAY (s' := mk [(0, .p none (.sl false 4 (pvE l))), (2, .vb b), (7, .sl 1400 0 ((pvI zs).length)), (8, .sl 5600 0 ((pvE (zA2 l b zs (zs.length - i + 1))).length)), (9, .vi ((i:Int) - 1))] [] [(1400, 1, pvI zs), (5600, 4, pvE (zA2 l b zs (zs.length - i + 1)))]) ?_ ?_
    · exact zAJ ⟨rfl, rfl, rfl, hp5, rfl, trivial⟩ trivial ⟨rfl, (congrArg (fun x => some (4, x)) hr4), trivial⟩ rfl
    refine zAA rfl (.m rfl rfl (.r rfl (zAv rfl rfl rfl (by omega)) (.a rfl rfl .nil))) ?_
    refine nxt (Q := fun _ _ => False) (z := i) (i - 1) ?_ ?_ ?_
    ·
     show (i - 1) ≤ zs.length
     omega
    ·
     show (i - 1) < i
     omega
    · exact (zBi 5600 1 rfl rfl (by decide)).trans (zAJ ⟨rfl, rfl, rfl, (congrArg (fun k => AV.sl 1 0 (pvE (zA2 l b zs k)).length) (show zs.length - i + 1 = zs.length - (i - 1) by omega)), (zAL (by omega)), trivial⟩ trivial ⟨(congrArg (fun x => some (4, x)) (by rw [show zs.length - (i - 1) = zs.length - i + 1 by omega])), rfl, trivial⟩ rfl)
   ·
    have h3' := h3
    replace h3' := of_decide_eq_true h3'
    rcases bfc b with h6 | h6
    ·
     have h6' := h6
     refine zAA rfl (.r rfl (zAC rfl rfl underlying56 rfl sizeOf54 (by decide)) (.r rfl (zAC rfl rfl underlying54 rfl sizeOf2 (by decide)) (.r rfl (zAD rfl rfl rfl isAgg2 rfl) (.r rfl (zAW (zA8 rfl rfl rfl) (zAN h3)) (.m rfl rfl (.r rfl (zAW (zBJ rfl) (zAN h6)) (.r rfl (zAU (t := true) rfl rfl) (.m rfl rfl (.not rfl (.not rfl (.r rfl (zAU (t := false) rfl rfl) .nil))))))))))) ?_
     refine zAZ (t := false) rfl (fun h => nomatch h) (fun _ => ?_)
     refine zAM ?_
     refine zAA rfl (.r rfl (zAG rfl rfl rfl isAgg56 sizeOf56 (nle rfl)) (.run [5600] [] rfl (zAR rfl 5600 underlying24 zBb (nle rfl) (by decide) rfl rfl rfl (.cons .v (.cons .v (.cons .v (.cons .v .nil)))) (by decide) rfl (by decide) rfl (by decide) rfl) (.m rfl rfl (.run [5600] [] rfl (zAu rfl 5600 (ib := 5600) (len := ([[PV.v (.string e.user), PV.v (.int .i64 e.seq), PV.v (.int .i64 e.kind), PV.v (.string e.value)]] ++ (pvE (zA2 l b zs (zs.length - i)))).length) rfl rfl (.row (len := 1) (xs := [[PV.v (.string e.user), PV.v (.int .i64 e.seq), PV.v (.int .i64 e.kind), PV.v (.string e.value)]]) rfl rfl (.inl rfl)) (.give (len := (pvE (zA2 l b zs (zs.length - i))).length) (xs := pvE (zA2 l b zs (zs.length - i))) rfl rfl) underlying24 (sk underlying24 rfl) zBb rfl (by decide) (by decide) (by decide) List.length_append (by simp only [maxLen, List.length_append, List.length_cons, List.length_nil, zAF]; omega) (by simp only [maxLen, List.length_append, List.length_cons, List.length_nil, zAF]; omega)) (.a rfl rfl .nil))))) ?_
     have hr7 : [[PV.v (.string e.user), PV.v (.int .i64 e.seq), PV.v (.int .i64 e.kind), PV.v (.string e.value)]] ++ (pvE (zA2 l b zs (zs.length - i))) = pvE (zA2 l b zs (zs.length - i + 1)) := by rw [hstep, zB1 (fun hc => by rw [h6'] at hc; cases hc.1)]; rfl
     have hp8 : (.sl 5600 0 (([[PV.v (.string e.user), PV.v (.int .i64 e.seq), PV.v (.int .i64 e.kind), PV.v (.string e.value)]] ++ (pvE (zA2 l b zs (zs.length - i)))).length) : AV) = .sl 5600 0 ((pvE (zA2 l b zs (zs.length - i + 1))).length) := by simp only [hr7]
     refine zAY (s' := mk [(0, .p none (.sl false 4 (pvE l))), (2, .vb b), (7, .sl 1400 0 ((pvI zs).length)), (8, .sl 5600 0 ((pvE (zA2 l b zs (zs.length - i + 1))).length)), (9, .vi ((i:Int) - 1)), (49, .vb false)] [] [(1400, 1, pvI zs), (5600, 4, pvE (zA2 l b zs (zs.length - i + 1)))]) ?_ ?_
     · exact zAJ ⟨rfl, rfl, rfl, hp8, rfl, rfl, trivial⟩ trivial ⟨rfl, (congrArg (fun x => some (4, x)) hr7), trivial⟩ rfl
     refine zAA rfl (.m rfl rfl (.r rfl (zAv rfl rfl rfl (by omega)) (.a rfl rfl .nil))) ?_
     refine nxt (Q := fun _ _ => False) (z := i) (i - 1) ?_ ?_ ?_
     ·
      show (i - 1) ≤ zs.length
      omega
     ·
      show (i - 1) < i
      omega
     · exact (zBi 5600 1 rfl rfl (by decide)).trans (zAJ ⟨rfl, rfl, rfl, (congrArg (fun k => AV.sl 1 0 (pvE (zA2 l b zs k)).length) (show zs.length - i + 1 = zs.length - (i - 1) by omega)), (zAL (by omega)), trivial⟩ trivial ⟨(congrArg (fun x => some (4, x)) (by rw [show zs.length - (i - 1) = zs.length - i + 1 by omega])), rfl, trivial⟩ rfl)
    ·
     have h6' := h6
     refine zAA rfl (.r rfl (zAC rfl rfl underlying56 rfl sizeOf54 (by decide)) (.r rfl (zAC rfl rfl underlying54 rfl sizeOf2 (by decide)) (.r rfl (zAD rfl rfl rfl isAgg2 rfl) (.r rfl (zAW (zA8 rfl rfl rfl) (zAN h3)) (.m rfl rfl (.r rfl (zAW (zBJ rfl) (zAN h6)) (.r rfl (zAU (t := true) rfl rfl) (.m rfl rfl (.m rfl rfl (.r rfl (zA5 (b := false) rfl rfl) (.r rfl (zAU (t := true) rfl rfl) .nil))))))))))) ?_
     refine zAZ (t := true) rfl (fun _ => ?_) (fun h => nomatch h)
     refine zAx ?_
     refine zAA rfl (.m rfl rfl (.r rfl (zAv rfl rfl rfl (by omega)) (.a rfl rfl .nil))) ?_
     refine nxt (Q := fun _ _ => False) (z := i) (i - 1) ?_ ?_ ?_
     ·
      show (i - 1) ≤ zs.length
      omega
     ·
      show (i - 1) < i
      omega
     · exact zAJ ⟨rfl, rfl, rfl, (congrArg (fun x => AV.sl 1 0 (pvE x).length) (by rw [show zs.length - (i - 1) = zs.length - i + 1 by omega, hstep, zCv h6' h3' (zJo (by omega))])), (zAL (by omega)), trivial⟩ trivial ⟨(congrArg (fun x => some (4, x)) (by rw [show zs.length - (i - 1) = zs.length - i + 1 by omega, hstep, zCv h6' h3' (zJo (by omega))])), rfl, trivial⟩ rfl
  ·
   have h2' := h2
   replace h2' := of_decide_eq_true h2'
   obtain ⟨e2, he2⟩ : ∃ e, (zA2 l b zs (zs.length - i))[0]? = some e := ⟨_, List.getElem?_eq_getElem (by (have hL := zAF (zA2 l b zs (zs.length - i)); omega))⟩
   have hlte2 := (List.getElem?_eq_some_iff.1 he2).1
   refine zAc zBL rfl (.m rfl rfl (.r rfl (zAy rfl rfl underlying24) (.r rfl (zAW (zBN rfl rfl rfl) (zAN h2)) (.m rfl rfl (.m rfl rfl (.r rfl (zAe 0 rfl rfl rfl rfl underlying24 sizeOf56 rfl rfl (by omega)) (.r rfl (zBa rfl rfl underlying56 rfl sizeOf54 (by decide)) (.r rfl (zBa rfl rfl underlying54 rfl sizeOf9 (by decide)) (.r rfl (zA6 rfl rfl rfl (zA0 he2) isAgg9 rfl) (.r rfl (zAC rfl rfl underlying56 rfl sizeOf54 (by decide)) (.r rfl (zAC rfl rfl underlying54 rfl sizeOf9 (by decide)) (.r rfl (zAD rfl rfl rfl isAgg9 rfl) (.r rfl (zDC rfl rfl rfl) (.r rfl (zAU (t := true) rfl rfl) (.a rfl rfl .nil))))))))))))))) (by kernel_rfl) ?_
   refine zAB ?_
   refine zAB ?_
   refine zAY (s' := mk [(0, .p none (.sl false 4 (pvE l))), (2, .vb b), (7, .sl 1400 0 ((pvI zs).length)), (8, .sl 1 0 ((pvE (zA2 l b zs (zs.length - i))).length)), (9, .vi ((i:Int) - 1)), (10, .ptr 10 0), (11, .vb (decide (e2.user = e.user))), (34, .sl 1 0 ((pvE (zA2 l b zs (zs.length - i))).length)), (35, .ea 1 0 0), (36, .ea 1 0 0), (37, .ea 1 0 0), (38, .vs e2.user), (39, .ptr 10 0), (40, .ptr 10 0), (41, .vs e.user), (42, .vb (decide (e2.user = e.user)))] [(10, [.vs e.user, .vi e.seq, .vi e.kind, .vs e.value])] [(1, 4, pvE (zA2 l b zs (zs.length - i))), (1400, 1, pvI zs)]) ?_ ?_
   · exact zAJ ⟨rfl, rfl, rfl, rfl, rfl, rfl, rfl, rfl, rfl, rfl, rfl, rfl, rfl, rfl, rfl, rfl, trivial⟩ ⟨rfl, trivial⟩ ⟨rfl, rfl, trivial⟩ rfl
   rcases bfc (decide (e.kind = 0)) with h9 | h9
   ·
    have h9' := h9
    replace h9' := of_decide_eq_false h9'
    refine zAA rfl (.r rfl (zAC rfl rfl underlying56 rfl sizeOf54 (by decide)) (.r rfl (zAC rfl rfl underlying54 rfl sizeOf2 (by decide)) (.r rfl (zAD rfl rfl rfl isAgg2 rfl) (.r rfl (zAW (zA8 rfl rfl rfl) (zAN h9)) (.m rfl rfl (.not rfl (.r rfl (zAU (t := false) rfl rfl) (.m rfl rfl (.not rfl (.not rfl (.r rfl (zAU (t := false) rfl rfl) .nil))))))))))) ?_
    refine zAZ (t := false) rfl (fun h => nomatch h) (fun _ => ?_)
    refine zAM ?_
    refine zAA rfl (.r rfl (zAG rfl rfl rfl isAgg56 sizeOf56 (nle rfl)) (.run [5600] [] rfl (zAR rfl 5600 underlying24 zBb (nle rfl) (by decide) rfl rfl rfl (.cons .v (.cons .v (.cons .v (.cons .v .nil)))) (by decide) rfl (by decide) rfl (by decide) rfl) (.m rfl rfl (.run [5600] [] rfl (zAu rfl 5600 (ib := 5600) (len := ([[PV.v (.string e.user), PV.v (.int .i64 e.seq), PV.v (.int .i64 e.kind), PV.v (.string e.value)]] ++ (pvE (zA2 l b zs (zs.length - i)))).length) rfl rfl (.row (len := 1) (xs := [[PV.v (.string e.user), PV.v (.int .i64 e.seq), PV.v (.int .i64 e.kind), PV.v (.string e.value)]]) rfl rfl (.inl rfl)) (.give (len := (pvE (zA2 l b zs (zs.length - i))).length) (xs := pvE (zA2 l b zs (zs.length - i))) rfl rfl) underlying24 (sk underlying24 rfl) zBb rfl (by decide) (by decide) (by decide) List.length_append (by simp only [maxLen, List.length_append, List.length_cons, List.length_nil, zAF]; omega) (by simp only [maxLen, List.length_append, List.length_cons, List.length_nil, zAF]; omega)) (.a rfl rfl .nil))))) ?_
    have hr10 : [[PV.v (.string e.user), PV.v (.int .i64 e.seq), PV.v (.int .i64 e.kind), PV.v (.string e.value)]] ++ (pvE (zA2 l b zs (zs.length - i))) = pvE (zA2 l b zs (zs.length - i + 1)) := by rw [hstep, zB1 (fun hc => h9' hc.2.1)]; rfl
    have hp11 : (.sl 5600 0 (([[PV.v (.string e.user), PV.v (.int .i64 e.seq), PV.v (.int .i64 e.kind), PV.v (.string e.value)]] ++ (pvE (zA2 l b zs (zs.length - i)))).length) : AV) = .sl 5600 0 ((pvE (zA2 l b zs (zs.length - i + 1))).length) := by simp only [hr10]
    refine zAY (s' := mk [(0, .p none (.sl false 4 (pvE l))), (2, .vb b), (7, .sl 1400 0 ((pvI zs).length)), (8, .sl 5600 0 ((pvE (zA2 l b zs (zs.length - i + 1))).length)), (9, .vi ((i:Int) - 1)), (38, .vs e2.user), (39, .ptr 10 0), (40, .ptr 10 0), (41, .vs e.user), (42, .vb (decide (e2.user = e.user)))] [(10, [.vs e.user, .vi e.seq, .vi e.kind, .vs e.value])] [(1400, 1, pvI zs), (5600, 4, pvE (zA2 l b zs (zs.length - i + 1)))]) ?_ ?_
    · exact zAJ ⟨rfl, rfl, rfl, hp11, rfl, rfl, rfl, rfl, rfl, rfl, trivial⟩ ⟨rfl, trivial⟩ ⟨rfl, (congrArg (fun x => some (4, x)) hr10), trivial⟩ rfl
    refine zAA rfl (.m rfl rfl (.r rfl (zAv rfl rfl rfl (by omega)) (.a rfl rfl .nil))) ?_
    refine nxt (Q := fun _ _ => False) (z := i) (i - 1) ?_ ?_ ?_
    ·
     show (i - 1) ≤ zs.length
     omega
    ·
     show (i - 1) < i
     omega
    · exact (zBi 5600 1 rfl rfl (by decide)).trans (zAJ ⟨rfl, rfl, rfl, (congrArg (fun k => AV.sl 1 0 (pvE (zA2 l b zs k)).length) (show zs.length - i + 1 = zs.length - (i - 1) by omega)), (zAL (by omega)), trivial⟩ trivial ⟨(congrArg (fun x => some (4, x)) (by rw [show zs.length - (i - 1) = zs.length - i + 1 by omega])), rfl, trivial⟩ rfl)
   ·
    have h9' := h9
    replace h9' := of_decide_eq_true h9'
    rcases bfc b with h12 | h12
    ·
     have h12' := h12
     refine zAA rfl (.r rfl (zAC rfl rfl underlying56 rfl sizeOf54 (by decide)) (.r rfl (zAC rfl rfl underlying54 rfl sizeOf2 (by decide)) (.r rfl (zAD rfl rfl rfl isAgg2 rfl) (.r rfl (zAW (zA8 rfl rfl rfl) (zAN h9)) (.m rfl rfl (.r rfl (zAW (zBJ rfl) (zAN h12)) (.r rfl (zAU (t := true) rfl rfl) (.m rfl rfl (.not rfl (.not rfl (.r rfl (zAU (t := false) rfl rfl) .nil))))))))))) ?_
     refine zAZ (t := false) rfl (fun h => nomatch h) (fun _ => ?_)
     refine zAM ?_
     refine zAA rfl (.r rfl (zAG rfl rfl rfl isAgg56 sizeOf56 (nle rfl)) (.run [5600] [] rfl (zAR rfl 5600 underlying24 zBb (nle rfl) (by decide) rfl rfl rfl (.cons .v (.cons .v (.cons .v (.cons .v .nil)))) (by decide) rfl (by decide) rfl (by decide) rfl) (.m rfl rfl (.run [5600] [] rfl (zAu rfl 5600 (ib := 5600) (len := ([[PV.v (.string e.user), PV.v (.int .i64 e.seq), PV.v (.int .i64 e.kind), PV.v (.string e.value)]] ++ (pvE (zA2 l b zs (zs.length - i)))).length) rfl rfl (.row (len := 1) (xs := [[PV.v (.string e.user), PV.v (.int .i64 e.seq), PV.v (.int .i64 e.kind), PV.v (.string e.value)]]) rfl rfl (.inl rfl)) (.give (len := (pvE (zA2 l b zs (zs.length - i))).length) (xs := pvE (zA2 l b zs (zs.length - i))) rfl rfl) underlying24 (sk underlying24 rfl) zBb rfl (by decide) (by decide) (by decide) List.length_append (by simp only [maxLen, List.length_append, List.length_cons, List.length_nil, zAF]; omega) (by simp only [maxLen, List.length_append, List.length_cons, List.length_nil, zAF]; omega)) (.a rfl rfl .nil))))) ?_
     have hr13 : [[PV.v (.string e.user), PV.v (.int .i64 e.seq), PV.v (.int .i64 e.kind), PV.v (.string e.value)]] ++ (pvE (zA2 l b zs (zs.length - i))) = pvE (zA2 l b zs (zs.length - i + 1)) := by rw [hstep, zB1 (fun hc => by rw [h12'] at hc; cases hc.1)]; rfl
     have hp14 : (.sl 5600 0 (([[PV.v (.string e.user), PV.v (.int .i64 e.seq), PV.v (.int .i64 e.kind), PV.v (.string e.value)]] ++ (pvE (zA2 l b zs (zs.length - i)))).length) : AV) = .sl 5600 0 ((pvE (zA2 l b zs (zs.length - i + 1))).length) := by simp only [hr13]
     refine zAY (s' := mk [(0, .p none (.sl false 4 (pvE l))), (2, .vb b), (7, .sl 1400 0 ((pvI zs).length)), (8, .sl 5600 0 ((pvE (zA2 l b zs (zs.length - i + 1))).length)), (9, .vi ((i:Int) - 1)), (38, .vs e2.user), (39, .ptr 10 0), (40, .ptr 10 0), (41, .vs e.user), (42, .vb (decide (e2.user = e.user))), (49, .vb false)] [(10, [.vs e.user, .vi e.seq, .vi e.kind, .vs e.value])] [(1400, 1, pvI zs), (5600, 4, pvE (zA2 l b zs (zs.length - i + 1)))]) ?_ ?_
     · exact zAJ ⟨rfl, rfl, rfl, hp14, rfl, rfl, rfl, rfl, rfl, rfl, rfl, trivial⟩ ⟨rfl, trivial⟩ ⟨rfl, (congrArg (fun x => some (4, x)) hr13), trivial⟩ rfl
     refine zAA rfl (.m rfl rfl (.r rfl (zAv rfl rfl rfl (by omega)) (.a rfl rfl .nil))) ?_
     refine nxt (Q := fun _ _ => False) (z := i) (i - 1) ?_ ?_ ?_
     ·
      show (i - 1) ≤ zs.length
      omega
     ·
      show (i - 1) < i
      omega
     · exact (zBi 5600 1 rfl rfl (by decide)).trans (zAJ ⟨rfl, rfl, rfl, (congrArg (fun k => AV.sl 1 0 (pvE (zA2 l b zs k)).length) (show zs.length - i + 1 = zs.length - (i - 1) by omega)), (zAL (by omega)), trivial⟩ trivial ⟨(congrArg (fun x => some (4, x)) (by rw [show zs.length - (i - 1) = zs.length - i + 1 by omega])), rfl, trivial⟩ rfl)
    ·
     have h12' := h12
     refine zAA rfl (.r rfl (zAC rfl rfl underlying56 rfl sizeOf54 (by decide)) (.r rfl (zAC rfl rfl underlying54 rfl sizeOf2 (by decide)) (.r rfl (zAD rfl rfl rfl isAgg2 rfl) (.r rfl (zAW (zA8 rfl rfl rfl) (zAN h9)) (.m rfl rfl (.r rfl (zAW (zBJ rfl) (zAN h12)) (.r rfl (zAU (t := true) rfl rfl) (.m rfl rfl (.m rfl rfl (.r rfl (zA5 (b := decide (e2.user = e.user)) rfl rfl) (.r rfl (zAU (t := true) rfl rfl) .nil))))))))))) ?_
     refine zAZ (t := (!(decide (e2.user = e.user)))) rfl (fun h15 => ?_) (fun h15 => ?_)
     ·
      replace h15 : ¬ (e2.user = e.user) := of_decide_eq_false (zBF h15)
      refine zAx ?_
      refine zAA rfl (.m rfl rfl (.r rfl (zAv rfl rfl rfl (by omega)) (.a rfl rfl .nil))) ?_
      refine nxt (Q := fun _ _ => False) (z := i) (i - 1) ?_ ?_ ?_
      ·
       show (i - 1) ≤ zs.length
       omega
      ·
       show (i - 1) < i
       omega
      · exact zAJ ⟨rfl, rfl, rfl, (congrArg (fun x => AV.sl 1 0 (pvE x).length) (by rw [show zs.length - (i - 1) = zs.length - i + 1 by omega, hstep, zCv h12' h9' ((zIw he2).trans (decide_eq_false h15))])), (zAL (by omega)), trivial⟩ trivial ⟨(congrArg (fun x => some (4, x)) (by rw [show zs.length - (i - 1) = zs.length - i + 1 by omega, hstep, zCv h12' h9' ((zIw he2).trans (decide_eq_false h15))])), rfl, trivial⟩ rfl
     ·
      replace h15 : e2.user = e.user := of_decide_eq_true (zBG h15)
      refine zAM ?_
      refine zAA rfl (.r rfl (zAG rfl rfl rfl isAgg56 sizeOf56 (nle rfl)) (.run [5600] [] rfl (zAR rfl 5600 underlying24 zBb (nle rfl) (by decide) rfl rfl rfl (.cons .v (.cons .v (.cons .v (.cons .v .nil)))) (by decide) rfl (by decide) rfl (by decide) rfl) (.m rfl rfl (.run [5600] [] rfl (zAu rfl 5600 (ib := 5600) (len := ([[PV.v (.string e.user), PV.v (.int .i64 e.seq), PV.v (.int .i64 e.kind), PV.v (.string e.value)]] ++ (pvE (zA2 l b zs (zs.length - i)))).length) rfl rfl (.row (len := 1) (xs := [[PV.v (.string e.user), PV.v (.int .i64 e.seq), PV.v (.int .i64 e.kind), PV.v (.string e.value)]]) rfl rfl (.inl rfl)) (.give (len := (pvE (zA2 l b zs (zs.length - i))).length) (xs := pvE (zA2 l b zs (zs.length - i))) rfl rfl) underlying24 (sk underlying24 rfl) zBb rfl (by decide) (by decide) (by decide) List.length_append (by simp only [maxLen, List.length_append, List.length_cons, List.length_nil, zAF]; omega) (by simp only [maxLen, List.length_append, List.length_cons, List.length_nil, zAF]; omega)) (.a rfl rfl .nil))))) ?_
      have hr16 : [[PV.v (.string e.user), PV.v (.int .i64 e.seq), PV.v (.int .i64 e.kind), PV.v (.string e.value)]] ++ (pvE (zA2 l b zs (zs.length - i))) = pvE (zA2 l b zs (zs.length - i + 1)) := by rw [hstep, zB1 (fun hc => by rw [((zIw he2).trans (decide_eq_true h15))] at hc; cases hc.2.2)]; rfl
      have hp17 : (.sl 5600 0 (([[PV.v (.string e.user), PV.v (.int .i64 e.seq), PV.v (.int .i64 e.kind), PV.v (.string e.value)]] ++ (pvE (zA2 l b zs (zs.length - i)))).length) : AV) = .sl 5600 0 ((pvE (zA2 l b zs (zs.length - i + 1))).length) := by simp only [hr16]
      refine zAY (s' := mk [(0, .p none (.sl false 4 (pvE l))), (2, .vb b), (7, .sl 1400 0 ((pvI zs).length)), (8, .sl 5600 0 ((pvE (zA2 l b zs (zs.length - i + 1))).length)), (9, .vi ((i:Int) - 1)), (38, .vs e2.user), (39, .ptr 10 0), (40, .ptr 10 0), (41, .vs e.user), (42, .vb (decide (e2.user = e.user))), (49, .vb true), (52, .vb (decide (e2.user = e.user))), (53, .vb (!(decide (e2.user = e.user))))] [(10, [.vs e.user, .vi e.seq, .vi e.kind, .vs e.value])] [(1400, 1, pvI zs), (5600, 4, pvE (zA2 l b zs (zs.length - i + 1)))]) ?_ ?_
      · exact zAJ ⟨rfl, rfl, rfl, hp17, rfl, rfl, rfl, rfl, rfl, rfl, rfl, rfl, rfl, trivial⟩ ⟨rfl, trivial⟩ ⟨rfl, (congrArg (fun x => some (4, x)) hr16), trivial⟩ rfl
      refine zAA rfl (.m rfl rfl (.r rfl (zAv rfl rfl rfl (by omega)) (.a rfl rfl .nil))) ?_
      refine nxt (Q := fun _ _ => False) (z := i) (i - 1) ?_ ?_ ?_
      ·
       show (i - 1) ≤ zs.length
       omega
      ·
       show (i - 1) < i
       omega
      · exact (zBi 5600 1 rfl rfl (by decide)).trans (zAJ ⟨rfl, rfl, rfl, (congrArg (fun k => AV.sl 1 0 (pvE (zA2 l b zs k)).length) (show zs.length - i + 1 = zs.length - (i - 1) by omega)), (zAL (by omega)), trivial⟩ trivial ⟨(congrArg (fun x => some (4, x)) (by rw [show zs.length - (i - 1) = zs.length - i + 1 by omega])), rfl, trivial⟩ rfl)
 ·
  replace h1 := of_decide_eq_false h1
  refine zAx ?_
  refine zAB (zAA rfl (.m rfl rfl (.a rfl rfl .nil)) ?_)
  have hr18 : pvE (zA2 l b zs (zs.length - i)) = pvE (zA2 l b zs zs.length) := by rw [show i = 0 by omega, Nat.sub_zero]
  have hp19 : (.sl 1 0 ((pvE (zA2 l b zs (zs.length - i))).length) : AV) = .sl 1 0 ((pvE (zA2 l b zs zs.length)).length) := by simp only [hr18]
  refine zAY (s' := mk [(6, .sl 1 0 ((pvE (zA2 l b zs zs.length)).length))] [] [(1, 4, pvE (zA2 l b zs zs.length))]) ?_ ?_
  · exact zAJ ⟨hp19, trivial⟩ trivial ⟨(congrArg (fun x => some (4, x)) hr18), trivial⟩ rfl
  refine zAO ?_
  exact ends [_] [1] (.cons (.tmp rfl) .nil) (.cons (.one (.row (len := (pvE (zA2 l b zs zs.length)).length) (xs := pvE (zA2 l b zs zs.length)) rfl rfl) (.sl _ _ (FlatP.clean (zAd _)))) .nil) (by decide) trivial
end Go.Rl
namespace Go.Proofs
open Go.RowKit Go.Shelf
attribute [local go_sem] Oper.semAt_some
set_option maxRecDepth 100000 in
set_option maxHeartbeats 2000000 in
theorem Bw.back1_in (F : Fence) (n : Nat) (h7 : F.fn 98) (hro : F.round = none) (hn : 1 ≤ n) (l Bs : Nat) (zs : List Int) (hreach : zs.length ≤ 1000000000) (J Jx : List (Fin zs.length) → World → Prop)
  (hY : ∀ pre x W, J pre W → pre.length < zs.length → YieldAt F (n - 1) Tryz.prog l (Bw.enc zs x) W fun e W' =>
   (e = .returned (.bool true) ∧ J (pre ++ [x]) W' ∧ (Bw.Reads Bs zs W → Bw.Reads Bs zs W')) ∨ (e = .returned (.bool false) ∧ Jx (pre ++ [x]) W'))
  (W : World) (hR : Bw.Reads Bs zs W) (h0 : J [] W) :
  CallsIn F n Tryz.prog 98 #[.func (.yield l) #[] #[], .pointer (some ⟨Bs, 0, none⟩)] W fun e W' => (∃ v, e = .returned v) ∧
   ((∃ ys, ys = Bw.upto zs zs.length ∧ J ys W') ∨ (∃ pre, True ∧ Jx pre W')) := by
 obtain ⟨a, len, cap, hbox, hlen⟩ : ∃ a len cap, W.cell? ⟨Bs, 0, none⟩ = some (.slice a len cap) ∧ len = zs.length := by
  rcases hR with ⟨⟨A, c, h⟩, rfl⟩ | ⟨b, off, cap, h, _⟩
  · exact ⟨_, _, _, h, rfl⟩
  · exact ⟨_, _, _, h, rfl⟩
 subst hlen
 refine callsIn_of_wp Tryz.func98 rfl h7 ?_ hro
 simp only [Tryz.ntmps98, List.size_toArray, List.length_cons, List.length_nil, Nat.reduceAdd, Nat.reduceSub, Array.replicate_succ, Array.replicate_zero, List.push_toArray, List.append_toArray, List.nil_append, List.cons_append]
 gi_wp2
 gi_loopw [3] (fun i wr => ∃ k : Nat, k ≤ zs.length ∧ i = .int .i64 ((zs.length : Int) - 1 - k) ∧ J (Bw.upto zs k) wr ∧ Bw.Reads Bs zs wr)
  (fun i _ => (intOf i + 1).toNat)
 case atStart => exact ⟨0, Nat.zero_le _, by simp, h0, hR⟩
 case round =>
  obtain ⟨k, hk, rfl, hJs, hnx⟩ := hrel
  by_cases hlt : k < zs.length
  ·
   have hd : zs.length - 1 - k < zs.length := by omega
   obtain ⟨m, z, x, hml, hmi, hmu, hmx, hmc⟩ : ∃ (m : Nat) (z : Int) (x : Fin zs.length), m < zs.length ∧ ((zs.length : Int) - 1 - k) = (m : Int) ∧ Bw.upto zs (k + 1) = Bw.upto zs k ++ [x] ∧ Bw.enc zs x = #[.int .i64 (m : Int), .int .i64 z] ∧ zs[m]? = some z :=
    ⟨zs.length - 1 - k, zs[zs.length - 1 - k]'hd, ⟨zs.length - 1 - k, hd⟩, hd, by omega, Bw.upto_succ zs k hd, rfl, List.getElem?_eq_getElem hd⟩
   have hYx := hY _ x wr hJs (by rw [Bw.upto_length zs k hk]; exact hlt)
   rw [hmx] at hYx
   obtain ⟨fn, tmps, assign, body, hy, hRr⟩ := hYx
   obtain ⟨b, off, cap, hbx, hcs⟩ : ∃ b off cap, wr.cell? ⟨Bs, 0, none⟩ = some (.slice (some ⟨b, off, none⟩) zs.length cap) ∧ ∀ (j : Nat) (z : Int), zs[j]? = some z → wr.cell? ⟨b, off + j, none⟩ = some (.int .i64 z) := by
    rcases hnx with ⟨_, h⟩ | h
    · rw [h] at hlt; simp at hlt
    · exact h
   have hcx := hcs m _ hmc
   clear hmc hcs
   rw [hmi]
   gi_wp2
   refine hRr.mono ?_
   rintro e W3 (⟨rfl, hJ3, hk3⟩ | ⟨rfl, hJx3⟩)
   ·
    gi_wp2
    go_roundw
    case rel => exact ⟨k + 1, by omega, by simp; omega, by rw [hmu]; exact hJ3, hk3 hnx⟩
    case measure => simp [intOf]
   ·
    gi_wp2
    refine bodyPost_ret (results_none rfl _ _ _) rfl ?_
    exact ⟨⟨_, rfl⟩, .inr ⟨_, trivial, hJx3⟩⟩
  ·
   obtain rfl : k = zs.length := by omega
   gi_wp2
   go_end0
   exact ⟨⟨_, rfl⟩, .inl ⟨_, rfl, hJs⟩⟩
theorem Bw.try : Bw.Contract Tryz.prog 98 := fun F n h7 hro hn l Bs zs hreach J Jx hY W hR h0 => Bw.back1_in F n h7 hro hn l Bs zs hreach J Jx hY W hR h0
end Go.Proofs
namespace Go.Rl
open Go.Proofs Go.Proofs.Tryz
set_option maxRecDepth 1000000
set_option maxHeartbeats 2000000
theorem inf24 : (Tryz.prog.info? 24).map (fun i => (i.zero, i.size, i.bytes)) = some (some (.slice none 0 0), 1, 24) := by kernel_rfl
theorem en98 : En Tryz.prog 98 := zAm func98 (by decide) rfl
theorem en70 : En Tryz.prog 70 := zAm func70 (by decide) rfl
theorem en69 : En Tryz.prog 69 := zAm func69 (by decide) rfl
theorem en71 : En Tryz.prog 71 := zAm func71 (by decide) rfl
theorem zKW (zs : List Int) : ConS Tryz.prog 69 [.one (PV.sl false 1 (pvI zs))] [.one (.clo 98 [[PV.sl false 1 (pvI zs)]])] := by
 refine zNV func69 rfl rfl rfl rfl ?_
 refine zAB (zAA rfl (.run [] [1] rfl (zBO rfl 1 rfl rfl (by decide) rfl (by decide)) (.a rfl rfl .nil)) ?_)
 refine zAB (zAA rfl (.r rfl (zIh (bs := [1]) rfl rfl) (.a rfl rfl .nil)) ?_)
 refine zAY (wk_frb 1 rfl rfl) ?_
 refine zAY (s' := mk [(2, .p none (.clo 98 [[PV.sl false 1 (pvI zs)]]))] [] []) ?_ ?_
 · exact zAJ ⟨rfl, trivial⟩ trivial trivial rfl
 refine zAO ?_
 exact endsS [_] [] (.cons (.tmp rfl) .nil) (.cons (.one (.of .clo)) .nil) (by decide)
theorem zJL (l : List Ent) (s : List Int) (b : Bool) (zs : List Int) (hzs : zs = zBK l (zAP s) l.length) (hl : l.length ≤ 2000000) (hs : s.length ≤ 2000000) (hok : zAr l = true) : ConSG none Tryz.prog 36 [.one (PV.sl false 4 (pvE l)), .one (PV.sl false 1 (pvI s)), .one (.v (.bool b))] [] [.one (.sl true 4 (pvE (zA2 l b zs zs.length)))] := by
 have hle := zAF l
 have hls := zAT s
 have hlz := zAT zs
 have hzl : zs.length ≤ l.length := by rw [hzs]; exact zDJ _ _ _
 refine zNW func36 rfl rfl rfl rfl ?_
 refine zNo ?_
 refine zAA rfl (.run [] [3] rfl (zBO rfl 3 rfl rfl (by decide) rfl (by decide)) (.run [] [5] rfl (zBO rfl 5 rfl rfl (by decide) rfl (by decide)) (.a rfl rfl .nil))) ?_
 refine zNo ?_
 refine zAA rfl (.run [1400] [] rfl (zAR rfl 1400 underlying24 zBb (nle rfl) (by decide) rfl rfl rfl .nil (by decide) rfl (by decide) rfl (by decide) rfl) (.run [] [7] rfl (zAj rfl 7 inf24 rfl (by decide) rfl (by decide)) (.run [] [8] rfl (zAj rfl 8 inf9 rfl (by decide) rfl (by decide)) (.run [] [9] rfl (zAj rfl 9 inf4 rfl (by decide) rfl (by decide)) (.r rfl (zAE rfl rfl rfl rfl rfl sizeOf24 rfl (nle rfl)) (.r rfl (zAE rfl rfl rfl rfl rfl sizeOf9 rfl (nle rfl)) (.r rfl (zAE rfl rfl rfl rfl rfl sizeOf4 rfl (nle rfl)) .nil))))))) ?_
 refine zId Bw.try en98 (zs := zs) (o := false) (by omega) (fun pre => mk [(3, .ptr 3 0), (5, .ptr 5 0), (7, .ptr 7 0), (8, .ptr 8 0), (9, .ptr 9 0), (18, .p none (.clo 98 [[PV.sl false 1 (pvI zs)]]))] [(3, [.p none (.sl false 4 (pvE l))]), (5, [.vb b]), (7, [.sl 1400 0 ((pvE (zCx l b zs pre).reverse).length)]), (8, [.vs (zDj (zCx l b zs pre))]), (9, [.vb (anyE (zCx l b zs pre))])] [(1400, 4, pvE (zCx l b zs pre).reverse)]) (fun pre x => St.bw (mk [(3, .ptr 3 0), (5, .ptr 5 0), (7, .ptr 7 0), (8, .ptr 8 0), (9, .ptr 9 0), (18, .p none (.clo 98 [[PV.sl false 1 (pvI zs)]]))] [(3, [.p none (.sl false 4 (pvE l))]), (5, [.vb b]), (7, [.sl 1400 0 ((pvE (zCx l b zs pre).reverse).length)]), (8, [.vs (zDj (zCx l b zs pre))]), (9, [.vb (anyE (zCx l b zs pre))])] [(1400, 4, pvE (zCx l b zs pre).reverse)]) 19 20 11 zs x) (fun j => Nat.ble j 9 || Nat.beq j 18) (asgT 20 11) (fun pre => rfl) (fun l nn a0 W K hK => zNf rfl rfl rfl a0 W K hK) (fun pre x w0 I L a W hd h => rel_bw hd h (Nat.le_of_ble_eq_true rfl) (Nat.le_of_ble_eq_true rfl) (Nat.le_of_ble_eq_true rfl)) (fun a x => zQE rfl rfl rfl) ?_ ?_ ?_
 ·
  intro l0 nn pre x hpl
  show TrI _ _ _ _ _ _ _ (St.bw (mk [(3, .ptr 3 0), (5, .ptr 5 0), (7, .ptr 7 0), (8, .ptr 8 0), (9, .ptr 9 0), (18, .p none (.clo 98 [[PV.sl false 1 (pvI zs)]]))] [(3, [.p none (.sl false 4 (pvE l))]), (5, [.vb b]), (7, [.sl 1400 0 ((pvE (zCx l b zs pre).reverse).length)]), (8, [.vs (zDj (zCx l b zs pre))]), (9, [.vb (anyE (zCx l b zs pre))])] [(1400, 4, pvE (zCx l b zs pre).reverse)]) 19 20 11 zs x) (fun e s' => e = .normal ∧ Wk _ (s'.keepT _) (mk [(3, .ptr 3 0), (5, .ptr 5 0), (7, .ptr 7 0), (8, .ptr 8 0), (9, .ptr 9 0), (18, .p none (.clo 98 [[PV.sl false 1 (pvI zs)]]))] [(3, [.p none (.sl false 4 (pvE l))]), (5, [.vb b]), (7, [.sl 1400 0 ((pvE (zCx l b zs (pre ++ [x])).reverse).length)]), (8, [.vs (zDj (zCx l b zs (pre ++ [x])))]), (9, [.vb (anyE (zCx l b zs (pre ++ [x])))])] [(1400, 4, pvE (zCx l b zs (pre ++ [x])).reverse)]))
  have hx0 : zs[x.1]? = some (zs[x.1]'x.2) := List.getElem?_eq_getElem x.2
  obtain ⟨q, hq, hql⟩ : ∃ q : Nat, zs[x.1]'x.2 = (q : Int) ∧ q < l.length := by have hm : zs[x.1]'x.2 ∈ zBK l (zAP s) l.length := (by rw [← hzs]; exact List.mem_of_getElem? hx0); obtain ⟨k, h1, _, h3⟩ := zDi (n := l.length) hm; exact ⟨k, h1, h3⟩
  obtain ⟨e, he⟩ : ∃ e, l[q]? = some e := ⟨_, List.getElem?_eq_getElem hql⟩
  have hc0 : zCx l b zs (pre ++ [x]) = zEq b (zCx l b zs pre) e := zIQ l b zs pre x (by rw [hq]; exact he)
  rw [hc0]
  have hol := zKI l b zs pre
  generalize zCx l b zs pre = out at hol ⊢
  have hle5 := zAF out.reverse
  have hle6 : out.reverse.length = out.length := List.length_reverse
  refine zGA (s' := mk [(3, .ptr 3 0), (5, .ptr 5 0), (7, .ptr 7 0), (8, .ptr 8 0), (9, .ptr 9 0), (11, .vi (q:Int)), (18, .p none (.clo 98 [[PV.sl false 1 (pvI zs)]]))] [(3, [.p none (.sl false 4 (pvE l))]), (5, [.vb b]), (7, [.sl 1400 0 ((pvE out.reverse).length)]), (8, [.vs (zDj out)]), (9, [.vb (anyE out)])] [(1400, 4, pvE out.reverse)]) (zAJ ⟨rfl, rfl, rfl, rfl, rfl, (zAL hq), rfl, trivial⟩ ⟨rfl, rfl, rfl, rfl, rfl, trivial⟩ ⟨rfl, trivial⟩ rfl) ?_
  refine zNm ?_
  refine zFt ?_
  refine zCK rfl rfl (.r rfl (zAD rfl rfl rfl isAgg24 rfl) (.m rfl rfl (.r rfl (zAh rfl rfl rfl underlying24 sizeOf56 rfl (by omega) (zA0 he)) (.r rfl (zA9 rfl rfl isAgg56 sizeOf56 (nle rfl)) (.run [] [12] rfl (zAj rfl 12 zBb rfl (by decide) rfl (by decide)) (.r rfl (zAE rfl rfl rfl rfl rfl sizeOf56 rfl (nle rfl)) .nil)))))) ?_
  refine zFt ?_
  rcases bfc (anyE out) with h1 | h1
  ·
   have h1' := h1
   refine zCK rfl rfl (.r rfl (zAW (zAD rfl rfl rfl isAgg4 rfl) (zAN h1)) (.m rfl rfl (.not rfl (.not rfl (.not rfl (.not rfl (.not rfl (.r rfl (zAU (t := false) rfl rfl) (.a rfl rfl .nil))))))))) ?_
   refine zFt ?_
   refine zFt ?_
   refine zGA (s' := mk [(3, .ptr 3 0), (5, .ptr 5 0), (7, .ptr 7 0), (8, .ptr 8 0), (9, .ptr 9 0), (12, .ptr 12 0), (13, .vb false), (18, .p none (.clo 98 [[PV.sl false 1 (pvI zs)]]))] [(3, [.p none (.sl false 4 (pvE l))]), (5, [.vb b]), (7, [.sl 1400 0 ((pvE out.reverse).length)]), (8, [.vs (zDj out)]), (9, [.vb (anyE out)]), (12, [.vs e.user, .vi e.seq, .vi e.kind, .vs e.value])] [(1400, 4, pvE out.reverse)]) ?_ ?_
   · exact zAJ ⟨rfl, rfl, rfl, rfl, rfl, rfl, rfl, rfl, trivial⟩ ⟨rfl, rfl, rfl, rfl, rfl, rfl, trivial⟩ ⟨rfl, trivial⟩ rfl
   rcases bfc b with h2 | h2
   ·
    have h2' := h2
    refine zCK rfl rfl (.r rfl (zAW (zAD rfl rfl rfl isAgg4 rfl) (zAN h2)) (.m rfl rfl (.not rfl (.not rfl (.not rfl (.not rfl (.r rfl (zAU (t := false) rfl rfl) (.m rfl rfl (.not rfl (.not rfl (.r rfl (zAU (t := false) rfl rfl) .nil))))))))))) ?_
    refine zHs (t := false) rfl (fun h => nomatch h) (fun _ => ?_)
    refine zFL ?_
    refine zGA (s' := mk [(3, .ptr 3 0), (5, .ptr 5 0), (7, .ptr 7 0), (8, .ptr 8 0), (9, .ptr 9 0), (12, .ptr 12 0), (18, .p none (.clo 98 [[PV.sl false 1 (pvI zs)]]))] [(3, [.p none (.sl false 4 (pvE l))]), (5, [.vb b]), (7, [.sl 1400 0 ((pvE out.reverse).length)]), (8, [.vs (zDj out)]), (9, [.vb (anyE out)]), (12, [.vs e.user, .vi e.seq, .vi e.kind, .vs e.value])] [(1400, 4, pvE out.reverse)]) ?_ ?_
    · exact zAJ ⟨rfl, rfl, rfl, rfl, rfl, rfl, rfl, trivial⟩ ⟨rfl, rfl, rfl, rfl, rfl, rfl, trivial⟩ ⟨rfl, trivial⟩ rfl
    refine zDB rfl zBL rfl (.r rfl (zAD rfl rfl rfl isAgg24 rfl) (.r rfl (zAG rfl rfl rfl isAgg56 sizeOf56 (nle rfl)) (.run [4600] [] rfl (zAR rfl 4600 underlying24 zBb (nle rfl) (by decide) rfl rfl rfl (.cons .v (.cons .v (.cons .v (.cons .v .nil)))) (by decide) rfl (by decide) rfl (by decide) rfl) (.run [1400] [] rfl (zAu rfl 1400 (ib := 1400) (len := ((pvE out.reverse) ++ [[PV.v (.string e.user), PV.v (.int .i64 e.seq), PV.v (.int .i64 e.kind), PV.v (.string e.value)]]).length) rfl rfl (.row (len := (pvE out.reverse).length) (xs := pvE out.reverse) rfl rfl (.inl rfl)) (.give (len := 1) (xs := [[PV.v (.string e.user), PV.v (.int .i64 e.seq), PV.v (.int .i64 e.kind), PV.v (.string e.value)]]) rfl rfl) underlying24 (sk underlying24 rfl) zBb rfl (by decide) (by decide) (by decide) List.length_append (by simp only [maxLen, List.length_append, List.length_cons, List.length_nil, zAF]; omega) (by simp only [maxLen, List.length_append, List.length_cons, List.length_nil, zAF]; omega)) (.r rfl (zAC rfl rfl underlying56 rfl sizeOf54 (by decide)) (.r rfl (zAC rfl rfl underlying54 rfl sizeOf9 (by decide)) (.r rfl (zAD rfl rfl rfl isAgg9 rfl) (.r rfl (zAE rfl rfl rfl rfl rfl sizeOf24 rfl (nle rfl)) (.r rfl (zAE rfl rfl rfl rfl rfl sizeOf9 rfl (nle rfl)) (.r rfl (zAE rfl rfl rfl rfl rfl sizeOf4 rfl (nle rfl)) .nil)))))))))) (by kernel_rfl) ?_
    refine ⟨rfl, ?_⟩
    rw [zB1 (fun hc => by rw [h2'] at hc; cases hc.1)]
    exact zAJ ⟨rfl, rfl, rfl, rfl, rfl, rfl, trivial⟩ ⟨rfl, rfl, (congrArg (fun x : List (List PV) => some [AV.sl 1400 0 x.length]) (zCT out e)), rfl, rfl, trivial⟩ ⟨(congrArg (fun x => some (4, x)) (zCT out e)), trivial⟩ rfl
   ·
    have h2' := h2
    rcases bfc (decide (e.kind = 0)) with h3 | h3
    ·
     have h3' := h3
     replace h3' := of_decide_eq_false h3'
     refine zCK rfl rfl (.r rfl (zAW (zAD rfl rfl rfl isAgg4 rfl) (zAN h2)) (.m rfl rfl (.r rfl (zAC rfl rfl underlying56 rfl sizeOf54 (by decide)) (.r rfl (zAC rfl rfl underlying54 rfl sizeOf2 (by decide)) (.r rfl (zAD rfl rfl rfl isAgg2 rfl) (.r rfl (zAW (zA8 rfl rfl rfl) (zAN h3)) (.r rfl (zAU (t := true) rfl rfl) (.m rfl rfl (.not rfl (.not rfl (.r rfl (zAU (t := false) rfl rfl) .nil))))))))))) ?_
     refine zHs (t := false) rfl (fun h => nomatch h) (fun _ => ?_)
     refine zFL ?_
     refine zGA (s' := mk [(3, .ptr 3 0), (5, .ptr 5 0), (7, .ptr 7 0), (8, .ptr 8 0), (9, .ptr 9 0), (12, .ptr 12 0), (18, .p none (.clo 98 [[PV.sl false 1 (pvI zs)]]))] [(3, [.p none (.sl false 4 (pvE l))]), (5, [.vb b]), (7, [.sl 1400 0 ((pvE out.reverse).length)]), (8, [.vs (zDj out)]), (9, [.vb (anyE out)]), (12, [.vs e.user, .vi e.seq, .vi e.kind, .vs e.value])] [(1400, 4, pvE out.reverse)]) ?_ ?_
     · exact zAJ ⟨rfl, rfl, rfl, rfl, rfl, rfl, rfl, trivial⟩ ⟨rfl, rfl, rfl, rfl, rfl, rfl, trivial⟩ ⟨rfl, trivial⟩ rfl
     refine zDB rfl zBL rfl (.r rfl (zAD rfl rfl rfl isAgg24 rfl) (.r rfl (zAG rfl rfl rfl isAgg56 sizeOf56 (nle rfl)) (.run [4600] [] rfl (zAR rfl 4600 underlying24 zBb (nle rfl) (by decide) rfl rfl rfl (.cons .v (.cons .v (.cons .v (.cons .v .nil)))) (by decide) rfl (by decide) rfl (by decide) rfl) (.run [1400] [] rfl (zAu rfl 1400 (ib := 1400) (len := ((pvE out.reverse) ++ [[PV.v (.string e.user), PV.v (.int .i64 e.seq), PV.v (.int .i64 e.kind), PV.v (.string e.value)]]).length) rfl rfl (.row (len := (pvE out.reverse).length) (xs := pvE out.reverse) rfl rfl (.inl rfl)) (.give (len := 1) (xs := [[PV.v (.string e.user), PV.v (.int .i64 e.seq), PV.v (.int .i64 e.kind), PV.v (.string e.value)]]) rfl rfl) underlying24 (sk underlying24 rfl) zBb rfl (by decide) (by decide) (by decide) List.length_append (by simp only [maxLen, List.length_append, List.length_cons, List.length_nil, zAF]; omega) (by simp only [maxLen, List.length_append, List.length_cons, List.length_nil, zAF]; omega)) (.r rfl (zAC rfl rfl underlying56 rfl sizeOf54 (by decide)) (.r rfl (zAC rfl rfl underlying54 rfl sizeOf9 (by decide)) (.r rfl (zAD rfl rfl rfl isAgg9 rfl) (.r rfl (zAE rfl rfl rfl rfl rfl sizeOf24 rfl (nle rfl)) (.r rfl (zAE rfl rfl rfl rfl rfl sizeOf9 rfl (nle rfl)) (.r rfl (zAE rfl rfl rfl rfl rfl sizeOf4 rfl (nle rfl)) .nil)))))))))) (by kernel_rfl) ?_
     refine ⟨rfl, ?_⟩
     rw [zB1 (fun hc => h3' hc.2.1)]
     exact zAJ ⟨rfl, rfl, rfl, rfl, rfl, rfl, trivial⟩ ⟨rfl, rfl, (congrArg (fun x : List (List PV) => some [AV.sl 1400 0 x.length]) (zCT out e)), rfl, rfl, trivial⟩ ⟨(congrArg (fun x => some (4, x)) (zCT out e)), trivial⟩ rfl
    ·
     have h3' := h3
     replace h3' := of_decide_eq_true h3'
     refine zCK rfl rfl (.r rfl (zAW (zAD rfl rfl rfl isAgg4 rfl) (zAN h2)) (.m rfl rfl (.r rfl (zAC rfl rfl underlying56 rfl sizeOf54 (by decide)) (.r rfl (zAC rfl rfl underlying54 rfl sizeOf2 (by decide)) (.r rfl (zAD rfl rfl rfl isAgg2 rfl) (.r rfl (zAW (zA8 rfl rfl rfl) (zAN h3)) (.r rfl (zAU (t := true) rfl rfl) (.m rfl rfl (.m rfl rfl (.r rfl (zA5 (b := false) rfl rfl) (.r rfl (zAU (t := true) rfl rfl) .nil))))))))))) ?_
     refine zHs (t := true) rfl (fun _ => ?_) (fun h => nomatch h)
     refine zLo ?_
     refine ⟨rfl, ?_⟩
     rw [zCv h2' h3' (zPz h1')]
     exact zAJ ⟨rfl, rfl, rfl, rfl, rfl, rfl, trivial⟩ ⟨rfl, rfl, rfl, rfl, rfl, trivial⟩ ⟨rfl, trivial⟩ rfl
  ·
   have h1' := h1
   refine zCK rfl rfl (.r rfl (zAW (zAD rfl rfl rfl isAgg4 rfl) (zAN h1)) (.m rfl rfl (.r rfl (zAC rfl rfl underlying56 rfl sizeOf54 (by decide)) (.r rfl (zAC rfl rfl underlying54 rfl sizeOf9 (by decide)) (.r rfl (zAD rfl rfl rfl isAgg9 rfl) (.r rfl (zAD rfl rfl rfl isAgg9 rfl) (.r rfl (zDC rfl rfl rfl) (.r rfl (zAU (t := true) rfl rfl) (.a rfl rfl .nil))))))))) ?_
   refine zFt ?_
   refine zFt ?_
   refine zGA (s' := mk [(3, .ptr 3 0), (5, .ptr 5 0), (7, .ptr 7 0), (8, .ptr 8 0), (9, .ptr 9 0), (12, .ptr 12 0), (13, .vb (decide (e.user = (zDj out)))), (18, .p none (.clo 98 [[PV.sl false 1 (pvI zs)]]))] [(3, [.p none (.sl false 4 (pvE l))]), (5, [.vb b]), (7, [.sl 1400 0 ((pvE out.reverse).length)]), (8, [.vs (zDj out)]), (9, [.vb (anyE out)]), (12, [.vs e.user, .vi e.seq, .vi e.kind, .vs e.value])] [(1400, 4, pvE out.reverse)]) ?_ ?_
   · exact zAJ ⟨rfl, rfl, rfl, rfl, rfl, rfl, rfl, rfl, trivial⟩ ⟨rfl, rfl, rfl, rfl, rfl, rfl, trivial⟩ ⟨rfl, trivial⟩ rfl
   rcases bfc b with h4 | h4
   ·
    have h4' := h4
    refine zCK rfl rfl (.r rfl (zAW (zAD rfl rfl rfl isAgg4 rfl) (zAN h4)) (.m rfl rfl (.not rfl (.not rfl (.not rfl (.not rfl (.r rfl (zAU (t := false) rfl rfl) (.m rfl rfl (.not rfl (.not rfl (.r rfl (zAU (t := false) rfl rfl) .nil))))))))))) ?_
    refine zHs (t := false) rfl (fun h => nomatch h) (fun _ => ?_)
    refine zFL ?_
    refine zGA (s' := mk [(3, .ptr 3 0), (5, .ptr 5 0), (7, .ptr 7 0), (8, .ptr 8 0), (9, .ptr 9 0), (12, .ptr 12 0), (18, .p none (.clo 98 [[PV.sl false 1 (pvI zs)]]))] [(3, [.p none (.sl false 4 (pvE l))]), (5, [.vb b]), (7, [.sl 1400 0 ((pvE out.reverse).length)]), (8, [.vs (zDj out)]), (9, [.vb (anyE out)]), (12, [.vs e.user, .vi e.seq, .vi e.kind, .vs e.value])] [(1400, 4, pvE out.reverse)]) ?_ ?_
    · exact zAJ ⟨rfl, rfl, rfl, rfl, rfl, rfl, rfl, trivial⟩ ⟨rfl, rfl, rfl, rfl, rfl, rfl, trivial⟩ ⟨rfl, trivial⟩ rfl
    refine zDB rfl zBL rfl (.r rfl (zAD rfl rfl rfl isAgg24 rfl) (.r rfl (zAG rfl rfl rfl isAgg56 sizeOf56 (nle rfl)) (.run [4600] [] rfl (zAR rfl 4600 underlying24 zBb (nle rfl) (by decide) rfl rfl rfl (.cons .v (.cons .v (.cons .v (.cons .v .nil)))) (by decide) rfl (by decide) rfl (by decide) rfl) (.run [1400] [] rfl (zAu rfl 1400 (ib := 1400) (len := ((pvE out.reverse) ++ [[PV.v (.string e.user), PV.v (.int .i64 e.seq), PV.v (.int .i64 e.kind), PV.v (.string e.value)]]).length) rfl rfl (.row (len := (pvE out.reverse).length) (xs := pvE out.reverse) rfl rfl (.inl rfl)) (.give (len := 1) (xs := [[PV.v (.string e.user), PV.v (.int .i64 e.seq), PV.v (.int .i64 e.kind), PV.v (.string e.value)]]) rfl rfl) underlying24 (sk underlying24 rfl) zBb rfl (by decide) (by decide) (by decide) List.length_append (by simp only [maxLen, List.length_append, List.length_cons, List.length_nil, zAF]; omega) (by simp only [maxLen, List.length_append, List.length_cons, List.length_nil, zAF]; omega)) (.r rfl (zAC rfl rfl underlying56 rfl sizeOf54 (by decide)) (.r rfl (zAC rfl rfl underlying54 rfl sizeOf9 (by decide)) (.r rfl (zAD rfl rfl rfl isAgg9 rfl) (.r rfl (zAE rfl rfl rfl rfl rfl sizeOf24 rfl (nle rfl)) (.r rfl (zAE rfl rfl rfl rfl rfl sizeOf9 rfl (nle rfl)) (.r rfl (zAE rfl rfl rfl rfl rfl sizeOf4 rfl (nle rfl)) .nil)))))))))) (by kernel_rfl) ?_
    refine ⟨rfl, ?_⟩
    rw [zB1 (fun hc => by rw [h4'] at hc; cases hc.1)]
    exact zAJ ⟨rfl, rfl, rfl, rfl, rfl, rfl, trivial⟩ ⟨rfl, rfl, (congrArg (fun x : List (List PV) => some [AV.sl 1400 0 x.length]) (zCT out e)), rfl, rfl, trivial⟩ ⟨(congrArg (fun x => some (4, x)) (zCT out e)), trivial⟩ rfl
   ·
    have h4' := h4
    rcases bfc (decide (e.kind = 0)) with h5 | h5
    ·
     have h5' := h5
     replace h5' := of_decide_eq_false h5'
     refine zCK rfl rfl (.r rfl (zAW (zAD rfl rfl rfl isAgg4 rfl) (zAN h4)) (.m rfl rfl (.r rfl (zAC rfl rfl underlying56 rfl sizeOf54 (by decide)) (.r rfl (zAC rfl rfl underlying54 rfl sizeOf2 (by decide)) (.r rfl (zAD rfl rfl rfl isAgg2 rfl) (.r rfl (zAW (zA8 rfl rfl rfl) (zAN h5)) (.r rfl (zAU (t := true) rfl rfl) (.m rfl rfl (.not rfl (.not rfl (.r rfl (zAU (t := false) rfl rfl) .nil))))))))))) ?_
     refine zHs (t := false) rfl (fun h => nomatch h) (fun _ => ?_)
     refine zFL ?_
     refine zGA (s' := mk [(3, .ptr 3 0), (5, .ptr 5 0), (7, .ptr 7 0), (8, .ptr 8 0), (9, .ptr 9 0), (12, .ptr 12 0), (18, .p none (.clo 98 [[PV.sl false 1 (pvI zs)]]))] [(3, [.p none (.sl false 4 (pvE l))]), (5, [.vb b]), (7, [.sl 1400 0 ((pvE out.reverse).length)]), (8, [.vs (zDj out)]), (9, [.vb (anyE out)]), (12, [.vs e.user, .vi e.seq, .vi e.kind, .vs e.value])] [(1400, 4, pvE out.reverse)]) ?_ ?_
     · exact zAJ ⟨rfl, rfl, rfl, rfl, rfl, rfl, rfl, trivial⟩ ⟨rfl, rfl, rfl, rfl, rfl, rfl, trivial⟩ ⟨rfl, trivial⟩ rfl
     refine zDB rfl zBL rfl (.r rfl (zAD rfl rfl rfl isAgg24 rfl) (.r rfl (zAG rfl rfl rfl isAgg56 sizeOf56 (nle rfl)) (.run [4600] [] rfl (zAR rfl 4600 underlying24 zBb (nle rfl) (by decide) rfl rfl rfl (.cons .v (.cons .v (.cons .v (.cons .v .nil)))) (by decide) rfl (by decide) rfl (by decide) rfl) (.run [1400] [] rfl (zAu rfl 1400 (ib := 1400) (len := ((pvE out.reverse) ++ [[PV.v (.string e.user), PV.v (.int .i64 e.seq), PV.v (.int .i64 e.kind), PV.v (.string e.value)]]).length) rfl rfl (.row (len := (pvE out.reverse).length) (xs := pvE out.reverse) rfl rfl (.inl rfl)) (.give (len := 1) (xs := [[PV.v (.string e.user), PV.v (.int .i64 e.seq), PV.v (.int .i64 e.kind), PV.v (.string e.value)]]) rfl rfl) underlying24 (sk underlying24 rfl) zBb rfl (by decide) (by decide) (by decide) List.length_append (by simp only [maxLen, List.length_append, List.length_cons, List.length_nil, zAF]; omega) (by simp only [maxLen, List.length_append, List.length_cons, List.length_nil, zAF]; omega)) (.r rfl (zAC rfl rfl underlying56 rfl sizeOf54 (by decide)) (.r rfl (zAC rfl rfl underlying54 rfl sizeOf9 (by decide)) (.r rfl (zAD rfl rfl rfl isAgg9 rfl) (.r rfl (zAE rfl rfl rfl rfl rfl sizeOf24 rfl (nle rfl)) (.r rfl (zAE rfl rfl rfl rfl rfl sizeOf9 rfl (nle rfl)) (.r rfl (zAE rfl rfl rfl rfl rfl sizeOf4 rfl (nle rfl)) .nil)))))))))) (by kernel_rfl) ?_
     refine ⟨rfl, ?_⟩
     rw [zB1 (fun hc => h5' hc.2.1)]
     exact zAJ ⟨rfl, rfl, rfl, rfl, rfl, rfl, trivial⟩ ⟨rfl, rfl, (congrArg (fun x : List (List PV) => some [AV.sl 1400 0 x.length]) (zCT out e)), rfl, rfl, trivial⟩ ⟨(congrArg (fun x => some (4, x)) (zCT out e)), trivial⟩ rfl
    ·
     have h5' := h5
     replace h5' := of_decide_eq_true h5'
     refine zCK rfl rfl (.r rfl (zAW (zAD rfl rfl rfl isAgg4 rfl) (zAN h4)) (.m rfl rfl (.r rfl (zAC rfl rfl underlying56 rfl sizeOf54 (by decide)) (.r rfl (zAC rfl rfl underlying54 rfl sizeOf2 (by decide)) (.r rfl (zAD rfl rfl rfl isAgg2 rfl) (.r rfl (zAW (zA8 rfl rfl rfl) (zAN h5)) (.r rfl (zAU (t := true) rfl rfl) (.m rfl rfl (.m rfl rfl (.r rfl (zA5 (b := decide (e.user = (zDj out))) rfl rfl) (.r rfl (zAU (t := true) rfl rfl) .nil))))))))))) ?_
     refine zHs (t := (!(decide (e.user = (zDj out))))) rfl (fun h6 => ?_) (fun h6 => ?_)
     ·
      replace h6 : ¬ (e.user = (zDj out)) := of_decide_eq_false (zBF h6)
      refine zLo ?_
      refine ⟨rfl, ?_⟩
      rw [zCv h4' h5' ((zML h1').trans (decide_eq_false h6))]
      exact zAJ ⟨rfl, rfl, rfl, rfl, rfl, rfl, trivial⟩ ⟨rfl, rfl, rfl, rfl, rfl, trivial⟩ ⟨rfl, trivial⟩ rfl
     ·
      replace h6 : e.user = (zDj out) := of_decide_eq_true (zBG h6)
      refine zFL ?_
      refine zGA (s' := mk [(3, .ptr 3 0), (5, .ptr 5 0), (7, .ptr 7 0), (8, .ptr 8 0), (9, .ptr 9 0), (12, .ptr 12 0), (18, .p none (.clo 98 [[PV.sl false 1 (pvI zs)]]))] [(3, [.p none (.sl false 4 (pvE l))]), (5, [.vb b]), (7, [.sl 1400 0 ((pvE out.reverse).length)]), (8, [.vs (zDj out)]), (9, [.vb (anyE out)]), (12, [.vs e.user, .vi e.seq, .vi e.kind, .vs e.value])] [(1400, 4, pvE out.reverse)]) ?_ ?_
      · exact zAJ ⟨rfl, rfl, rfl, rfl, rfl, rfl, rfl, trivial⟩ ⟨rfl, rfl, rfl, rfl, rfl, rfl, trivial⟩ ⟨rfl, trivial⟩ rfl
      refine zDB rfl zBL rfl (.r rfl (zAD rfl rfl rfl isAgg24 rfl) (.r rfl (zAG rfl rfl rfl isAgg56 sizeOf56 (nle rfl)) (.run [4600] [] rfl (zAR rfl 4600 underlying24 zBb (nle rfl) (by decide) rfl rfl rfl (.cons .v (.cons .v (.cons .v (.cons .v .nil)))) (by decide) rfl (by decide) rfl (by decide) rfl) (.run [1400] [] rfl (zAu rfl 1400 (ib := 1400) (len := ((pvE out.reverse) ++ [[PV.v (.string e.user), PV.v (.int .i64 e.seq), PV.v (.int .i64 e.kind), PV.v (.string e.value)]]).length) rfl rfl (.row (len := (pvE out.reverse).length) (xs := pvE out.reverse) rfl rfl (.inl rfl)) (.give (len := 1) (xs := [[PV.v (.string e.user), PV.v (.int .i64 e.seq), PV.v (.int .i64 e.kind), PV.v (.string e.value)]]) rfl rfl) underlying24 (sk underlying24 rfl) zBb rfl (by decide) (by decide) (by decide) List.length_append (by simp only [maxLen, List.length_append, List.length_cons, List.length_nil, zAF]; omega) (by simp only [maxLen, List.length_append, List.length_cons, List.length_nil, zAF]; omega)) (.r rfl (zAC rfl rfl underlying56 rfl sizeOf54 (by decide)) (.r rfl (zAC rfl rfl underlying54 rfl sizeOf9 (by decide)) (.r rfl (zAD rfl rfl rfl isAgg9 rfl) (.r rfl (zAE rfl rfl rfl rfl rfl sizeOf24 rfl (nle rfl)) (.r rfl (zAE rfl rfl rfl rfl rfl sizeOf9 rfl (nle rfl)) (.r rfl (zAE rfl rfl rfl rfl rfl sizeOf4 rfl (nle rfl)) .nil)))))))))) (by kernel_rfl) ?_
      refine ⟨rfl, ?_⟩
      rw [zB1 (fun hc => by rw [((zML h1').trans (decide_eq_true h6))] at hc; cases hc.2.2)]
      exact zAJ ⟨rfl, rfl, rfl, rfl, rfl, rfl, trivial⟩ ⟨rfl, rfl, (congrArg (fun x : List (List PV) => some [AV.sl 1400 0 x.length]) (zCT out e)), rfl, rfl, trivial⟩ ⟨(congrArg (fun x => some (4, x)) (zCT out e)), trivial⟩ rfl
 ·
  refine zAA rfl (.r rfl (zAD rfl rfl rfl isAgg24 rfl) (.m rfl rfl (.run [1700] [] rfl (zLu rfl 1700 (X := []) en70 rfl (.cons (.one .sl) (.cons (.one .sl) .nil)) (by decide) all_nil (con_frz (by have h := zNC l s (by omega) (by omega) hok; rw [← hzs] at h; exact h)) rfl (nle rfl)) (.run [1800] [] rfl (zLu rfl 1800 (X := []) en69 rfl (.cons (.one .sl) .nil) (by decide) all_nil (zKW zs) rfl (nle rfl)) .nil)))) ?_
  exact zAJ ⟨rfl, rfl, rfl, rfl, rfl, rfl, trivial⟩ ⟨rfl, rfl, rfl, rfl, rfl, trivial⟩ ⟨rfl, trivial⟩ rfl
 ·
  show Tr _ _ _ _ (mk [(3, .ptr 3 0), (5, .ptr 5 0), (7, .ptr 7 0), (8, .ptr 8 0), (9, .ptr 9 0), (18, .p none (.clo 98 [[PV.sl false 1 (pvI zs)]]))] [(3, [.p none (.sl false 4 (pvE l))]), (5, [.vb b]), (7, [.sl 1400 0 ((pvE (zA2 l b zs zs.length).reverse).length)]), (8, [.vs (zDj (zA2 l b zs zs.length))]), (9, [.vb (anyE (zA2 l b zs zs.length))])] [(1400, 4, pvE (zA2 l b zs zs.length).reverse)]) _
  have hcl := zFk l b zs (k := zs.length) (Nat.le_refl _)
  have hle5 := zAF (zA2 l b zs zs.length).reverse
  have hle6 : (zA2 l b zs zs.length).reverse.length = (zA2 l b zs zs.length).length := List.length_reverse
  refine zAB (zAA rfl (.r rfl (zAD rfl rfl rfl isAgg24 rfl) (.run [1400] [] rfl (zAK rfl 5200 (X := [1400]) en71 rfl (.val nod) (.cons (.one (.own (len := (pvE (zA2 l b zs zs.length).reverse).length) (xs := pvE (zA2 l b zs zs.length).reverse) rfl rfl)) .nil) (by decide) (all_cons rfl all_nil) (.keep (xs := pvE (zA2 l b zs zs.length).reverse) rfl (FlatP.nf (zAd _)) .nil) (zJj ((zA2 l b zs zs.length).reverse) (by omega)) rfl rfl (nle rfl)) .nil)) ?_)
  refine zAB (zAA rfl (.r rfl (zAD rfl rfl rfl isAgg24 rfl) (.a rfl rfl .nil)) ?_)
  refine zAO ?_
  exact endsSG [_] [1400] (.cons (.tmp rfl) .nil) (.cons (.one (.of (.row (len := (pvE (zA2 l b zs zs.length).reverse).length) (xs := pvE (zA2 l b zs zs.length)) (congrArg (fun x => some (4, pvE x)) (List.reverse_reverse _)) (by rw [hle5, hle6, zAF])))) .nil) (by decide) trivial
end Go.Rl
namespace Go.Rl
open Go.Proofs
end Go.Rl
namespace Go.Rl
def pvRd (x : Value × Nat) : List (List PV) := [[.v x.1, .v (.int .i64 x.2)]]
theorem zAb (x : Value × Nat) : FlatP (pvRd x) := fun es he p hp => by
 simp only [pvRd, List.mem_singleton] at he
 subst he
 simp only [List.mem_cons, List.not_mem_nil, or_false] at hp
 rcases hp with rfl | rfl <;> rfl
theorem zM6 {a b : Value} : ∀ p ∈ ([.v a, .v b] : List PV), Clean p := fun p hp => by
 simp only [List.mem_cons, List.not_mem_nil, or_false] at hp
 rcases hp with rfl | rfl <;> exact .v _
def zD2 (bs : List Nat) (p : Nat) : Nat := bs.getD p 0
def zCq (bs : List Nat) (p : Nat) : Nat := if p < bs.length then p + 1 else p
theorem zP5 {bs : List Nat} {p : Nat} (h : bs.length ≤ p) : zD2 bs p = 0 ∧ zCq bs p = p := by
 refine ⟨?_, by rw [zCq, if_neg (by omega)]⟩
 simp [zD2, List.getD_eq_getElem?_getD, List.getElem?_eq_none h]
theorem next_in {bs : List Nat} {p : Nat} {b : Nat} (h : bs[p]? = some b) : zD2 bs p = b ∧ zCq bs p = p + 1 := by
 refine ⟨by simp [zD2, List.getD_eq_getElem?_getD, h], by rw [zCq, if_pos (List.getElem?_eq_some_iff.1 h).1]⟩
theorem zEg {bs : List Nat} {p : Nat} (h : p ≤ bs.length) : zCq bs p ≤ bs.length := by unfold zCq; split <;> omega
theorem zF9 {γ : Gho} {cv : Value} {bs : List Nat} (h : zCe γ cv bs) : ∀ b ∈ bs, b < 256 := fun b hb => by
 obtain ⟨A, c, _, h⟩ := h
 rcases h with rfl | ⟨k, off, cur, ty, fz, _, _, h⟩
 · cases hb
 ·
  obtain ⟨i, hi⟩ := List.getElem?_of_mem hb
  exact (h i b hi).1
theorem zIz {bs : List Nat} (h : ∀ b ∈ bs, b < 256) (p : Nat) : zD2 bs p < 256 := by
 unfold zD2
 rw [List.getD_eq_getElem?_getD]
 cases hp : bs[p]? with
 | none => decide
 | some b => exact h b (List.mem_of_getElem? hp)
def zAk (bs : List Nat) (p n : Nat) : Nat := if n ≤ 1 then 0 else if n ≤ 256 then zD2 bs p % n else (zD2 bs p * 256 + zD2 bs (zCq bs p)) % n
def zAH (bs : List Nat) (p n : Nat) : Nat := if n ≤ 1 then p else if n ≤ 256 then zCq bs p else zCq bs (zCq bs p)
theorem zAV {bs : List Nat} {p n : Nat} (h : p ≤ bs.length) : zAH bs p n ≤ bs.length := by
 unfold zAH
 split
 · exact h
 ·
  split
  · exact zEg h
  · exact zEg (zEg h)
theorem zCC {bs : List Nat} {p n : Nat} (h : 0 < n) : zAk bs p n < n := by
 unfold zAk
 split
 · exact h
 · split <;> exact Nat.mod_lt _ h
theorem below_1 {bs : List Nat} {p n : Nat} (h : n ≤ 1) : zAk bs p n = 0 ∧ zAH bs p n = p := by simp [zAk, zAH, h]
theorem below_2 {bs : List Nat} {p n : Nat} (h1 : ¬ n ≤ 1) (h : n ≤ 256) : zAk bs p n = zD2 bs p % n ∧ zAH bs p n = zCq bs p := by simp [zAk, zAH, h, h1]
theorem below_3 {bs : List Nat} {p n : Nat} (h1 : ¬ n ≤ 1) (h : ¬ n ≤ 256) : zAk bs p n = (zD2 bs p * 256 + zD2 bs (zCq bs p)) % n ∧ zAH bs p n = zCq bs (zCq bs p) := by simp [zAk, zAH, h, h1]
def zIb (x : Int) (v : Nat) : Int := zO3 .or .u64 (IntKind.u64.wrap (x * 2 ^ min (8 : Int).toNat IntKind.u64.bits)) (IntKind.u64.wrap (v : Int))
def zHf (bs : List Nat) : Nat → Int → Nat → Int × Nat
 | 0, x, p => (x, p)
 | n + 1, x, p => zHf bs n (zIb x (zD2 bs p)) (zCq bs p)
theorem zLi {bs : List Nat} : ∀ (n : Nat) (x : Int) (p : Nat), p ≤ bs.length → (zHf bs n x p).2 ≤ bs.length
 | 0, _, _, h => h
 | n + 1, x, p, h => zLi n _ _ (zEg h)
def wordV (bs : List Nat) (p : Nat) : Int := (zHf bs 8 0 p).1
def zPQ (bs : List Nat) (p : Nat) : Nat := (zHf bs 8 0 p).2
theorem zPP {bs : List Nat} {p : Nat} (h : p ≤ bs.length) : zPQ bs p ≤ bs.length := zLi 8 0 p h
def zFX (bs : List Nat) (p : Nat) (low high : Int) : Int :=
 if zAk bs p 8 = 0 then low else if zAk bs p 8 = 1 then high else if high < low then low
 else IntKind.i64.wrap (low + IntKind.i64.wrap (((wordV bs (zAH bs p 8)).fdiv (2 ^ min (1 : Int).toNat IntKind.u64.bits)).tmod (IntKind.u64.wrap (high - low + 1))))
def zCN (bs : List Nat) (p : Nat) (low high : Int) : Nat :=
 if zAk bs p 8 = 0 then zAH bs p 8 else if zAk bs p 8 = 1 then zAH bs p 8 else if high < low then zAH bs p 8 else zPQ bs (zAH bs p 8)
theorem near_a {bs : List Nat} {p : Nat} {low high : Int} (h : zAk bs p 8 = 0) : zFX bs p low high = low ∧ zCN bs p low high = zAH bs p 8 := by simp [zFX, zCN, h]
theorem near_b {bs : List Nat} {p : Nat} {low high : Int} (h : zAk bs p 8 = 1) : zFX bs p low high = high ∧ zCN bs p low high = zAH bs p 8 := by simp [zFX, zCN, h]
theorem near_c {bs : List Nat} {p : Nat} {low high : Int} (h0 : zAk bs p 8 ≠ 0) (h1 : zAk bs p 8 ≠ 1) (h : high < low) : zFX bs p low high = low ∧ zCN bs p low high = zAH bs p 8 := by simp [zFX, zCN, h, h0, h1]
theorem near_d {bs : List Nat} {p : Nat} {low high : Int} (h0 : zAk bs p 8 ≠ 0) (h1 : zAk bs p 8 ≠ 1) (h : ¬ high < low) : zFX bs p low high = IntKind.i64.wrap (low + IntKind.i64.wrap (((wordV bs (zAH bs p 8)).fdiv (2 ^ min (1 : Int).toNat IntKind.u64.bits)).tmod (IntKind.u64.wrap (high - low + 1)))) ∧ zCN bs p low high = zPQ bs (zAH bs p 8) := by
 simp only [zFX, zCN, if_neg h0, if_neg h1, if_neg h, and_self]
theorem zD3 {bs : List Nat} {p : Nat} {low high : Int} (h : p ≤ bs.length) : zCN bs p low high ≤ bs.length := by
 have h1 := zAV (n := 8) h
 unfold zCN
 split
 · exact h1
 ·
  split
  · exact h1
  ·
   split
   · exact h1
   · exact zPP h1
def zCl (bs : List Nat) (p n : Nat) : Bool := decide (zAk bs p n = n - 1)
def offL (low high : Int) : List Int := [low - 1, high + 1, -9223372036854775808, 9223372036854775807]
def offV (bs : List Nat) (p : Nat) (low high : Int) : Int :=
 if zCl bs p 24 = true then (offL low high).getD (zAk bs (zAH bs p 24) 4) 0 else zFX bs (zAH bs p 24) low high
def offP (bs : List Nat) (p : Nat) (low high : Int) : Nat :=
 if zCl bs p 24 = true then zAH bs (zAH bs p 24) 4 else zCN bs (zAH bs p 24) low high
theorem zFB {bs : List Nat} {p : Nat} {low high : Int} (h : p ≤ bs.length) : offP bs p low high ≤ bs.length := by
 unfold offP
 split
 · exact zAV (zAV h)
 · exact zD3 (zAV h)
theorem getD_some {α : Type} {l : List α} {k : Nat} {d : α} (h : k < l.length) : l[k]? = some (l.getD k d) := by
 rw [List.getD_eq_getElem?_getD, List.getElem?_eq_getElem h]
 rfl
def usersL : List ByteArray := [⟨#[97]⟩, ⟨#[98]⟩, ⟨#[97, 98]⟩, ⟨#[97, 98, 99]⟩, ⟨#[97, 98, 100]⟩, ⟨#[107, 101, 121]⟩, ⟨#[107, 101, 121, 49]⟩, ⟨#[107, 101, 121, 50]⟩, ⟨#[122, 122]⟩, ⟨#[97, 0]⟩]
def zKc (bs : List Nat) (p : Nat) : ByteArray := usersL.getD (zAk bs p 10) ⟨#[]⟩
def zBy (bs : List Nat) (p : Nat) : Nat := zAH bs p 10
theorem zPV (bs : List Nat) (p : Nat) : usersL[zAk bs p 10]? = some (zKc bs p) := getD_some (zCC (n := 10) (by decide))
theorem off_get (bs : List Nat) (p : Nat) (low high : Int) : (offL low high)[zAk bs p 4]? = some ((offL low high).getD (zAk bs p 4) 0) := getD_some (zCC (n := 4) (by decide))
end Go.Rl
namespace Go.Rl
section
variable {X : List (List PV)} {k : Nat} {z : List PV}
abbrev delL (X : List (List PV)) (k : Nat) : Nat := k + (X.length - (k + 1))
theorem zMZ (hk : k < X.length) : (X.take k ++ X.drop (k + 1) ++ X.drop (k + (X.length - (k + 1)))).length = X.length := by
 simp only [List.length_append, List.length_take, List.length_drop]
 omega
theorem zJ6 {a b c : Nat} (hX : FlatP X) : FlatP (X.take a ++ X.drop b ++ X.drop c) := fun es he p hp => by
 rcases List.mem_append.1 he with he | he
 ·
  rcases List.mem_append.1 he with he | he
  · exact hX es (List.mem_of_mem_take he) p hp
  · exact hX es (List.mem_of_mem_drop he) p hp
 · exact hX es (List.mem_of_mem_drop he) p hp
theorem zNO {a b c d n : Nat} (hX : FlatP X) (hz : ∀ p ∈ z, PV.isV p = true) : ∀ es ∈ (X.take a ++ X.drop b ++ X.drop c).take d ++ List.replicate n z, ∀ p ∈ es, (match p with | .v _ => true | _ => false) = true := fun es he p hp => by
 have : PV.isV p = true := by
  rcases List.mem_append.1 he with he | he
  · exact zJ6 hX es (List.mem_of_mem_take he) p hp
  ·
   rw [List.eq_of_mem_replicate he] at hp
   exact hz p hp
 cases p <;> first | rfl | cases this
theorem gdel_le (hk : k < X.length) : k + (X.length - (k + 1)) ≤ ((X.take k ++ X.drop (k + 1) ++ X.drop (k + (X.length - (k + 1)))).take (k + (X.length - (k + 1))) ++ List.replicate (X.length - (k + (X.length - (k + 1)))) z).length := by
 simp only [List.length_append, List.length_take, List.length_drop, List.length_replicate]
 omega
theorem gdel_eq (hk : k < X.length) : ((X.take k ++ X.drop (k + 1) ++ X.drop (k + (X.length - (k + 1)))).take (k + (X.length - (k + 1))) ++ List.replicate (X.length - (k + (X.length - (k + 1)))) z).take (k + (X.length - (k + 1))) = X.eraseIdx k := by
 have hA : (X.take k ++ X.drop (k + 1)).length = k + (X.length - (k + 1)) := by
  simp only [List.length_append, List.length_take, List.length_drop]; omega
 have hB : ((X.take k ++ X.drop (k + 1) ++ X.drop (k + (X.length - (k + 1)))).take (k + (X.length - (k + 1)))) = X.take k ++ X.drop (k + 1) := by
  rw [← hA, List.take_left]
 rw [hB, List.take_append_of_le_length (by omega), List.take_of_length_le (by omega), List.eraseIdx_eq_take_drop_succ]
end
theorem zOU {α β : Type} (f : α → β) (l : List α) (k : Nat) : (l.map f).eraseIdx k = (l.eraseIdx k).map f := by
 simp [List.eraseIdx_eq_take_drop_succ, List.map_take, List.map_drop]
def cntF {α : Type} (p : α → Bool) (l : List α) : Nat := (l.takeWhile p).length
def MonoP {α : Type} (p : α → Bool) (l : List α) : Prop := ∀ (i j : Nat) x y, i ≤ j → l[i]? = some x → l[j]? = some y → p y = true → p x = true
def Halves {α : Type} (p : α → Bool) (l : List α) (i j : Nat) : Prop := (∀ (k : Nat) x, k < i → l[k]? = some x → p x = true) ∧ ∀ (k : Nat) x, j ≤ k → l[k]? = some x → p x = false
theorem zIk (n : Nat) (h : n ≤ 9000000000000000000) : IntKind.i64.wrap (Int.fdiv (IntKind.u64.wrap (n : Int)) (2 ^ min (1:Int).toNat IntKind.u64.bits)) = ((n / 2 : Nat) : Int) := by
 have h1 : IntKind.u64.wrap (n : Int) = (n : Int) := by
  simp [IntKind.wrap, IntKind.signed, IntKind.bits]
  omega
 rw [h1]
 have h2 : ((2 : Int) ^ min (1:Int).toNat IntKind.u64.bits) = 2 := by decide
 rw [h2]
 have h3 : Int.fdiv (n : Int) 2 = ((n / 2 : Nat) : Int) := by
  rw [Int.fdiv_eq_ediv_of_nonneg _ (by decide)]
  omega
 rw [h3, IntKind.wrap_i64]
 omega
end Go.Rl
namespace Go.Rl
def pvU (l : List Int) : List (List PV) := l.map fun n => [.v (.int .u8 n)]
theorem zFz (l : List Int) : (pvU l).length = l.length := by simp [pvU]
def zGK (bs : List Nat) : Nat → List Int → Nat → List Int × Nat
 | 0, l, p => (l, p)
 | n + 1, l, p => zGK bs n (l ++ [IntKind.u8.wrap ((zAk bs p 256 : Nat) : Int)]) (zAH bs p 256)
theorem zKN {bs : List Nat} : ∀ (n : Nat) (l : List Int) (p : Nat), p ≤ bs.length → (zGK bs n l p).2 ≤ bs.length
 | 0, _, _, h => h
 | n + 1, _, _, h => zKN n _ _ (zAV h)
theorem zO2 {bs : List Nat} {n : Nat} {l : List Int} {p : Nat} {z : List Int × Nat} (h : 0 < n) (he : zGK bs n l p = z) : zGK bs (n - 1) (l ++ [IntKind.u8.wrap ((zAk bs p 256 : Nat) : Int)]) (zAH bs p 256) = z := by
 obtain ⟨j, rfl⟩ : ∃ j, n = j + 1 := ⟨n - 1, by omega⟩
 exact he
def zIT (bs : List Nat) (p most : Nat) : List Int × Nat := zGK bs (zAk bs p (most + 1)) [] (zAH bs p (most + 1))
def zIS (bs : List Nat) (p most : Nat) : ByteArray := zKh (zIT bs p most).1
def zEy (bs : List Nat) (p most : Nat) : Nat := (zIT bs p most).2
theorem zFo {bs : List Nat} {p most : Nat} (h : p ≤ bs.length) : zEy bs p most ≤ bs.length := zKN _ _ _ (zAV h)
def valuesL : List ByteArray := [⟨#[]⟩, ⟨#[49]⟩, ⟨#[50]⟩, ⟨#[118, 97, 108, 117, 101]⟩, ⟨#[118, 118]⟩]
def zJS (bs : List Nat) (p : Nat) : ByteArray := valuesL.getD (zAk bs p 5) ⟨#[]⟩
theorem zNh (bs : List Nat) (p : Nat) : valuesL[zAk bs p 5]? = some (zJS bs p) := getD_some (zCC (n := 5) (by decide))
def key0 (bs : List Nat) (p : Nat) : Ent := ⟨zKc bs p, zFX bs (zBy bs p) 0 12, ((zAk bs (zCN bs (zBy bs p) 0 12) 2 : Nat) : Int), ⟨#[]⟩⟩
def zBq (bs : List Nat) (p : Nat) : Nat := zAH bs (zCN bs (zBy bs p) 0 12) 2
def keyV (bs : List Nat) (p : Nat) : Ent :=
 if zAk bs (zBq bs p) 24 = 0 then { key0 bs p with seq := offV bs (zAH bs (zBq bs p) 24) 0 1000000000000 }
 else if zAk bs (zBq bs p) 24 = 1 then { key0 bs p with kind := offV bs (zAH bs (zBq bs p) 24) 0 1 }
 else if zAk bs (zBq bs p) 24 = 2 then { key0 bs p with user := zIS bs (zAH bs (zBq bs p) 24) 45 }
 else key0 bs p
def keyP (bs : List Nat) (p : Nat) : Nat :=
 if zAk bs (zBq bs p) 24 = 0 then offP bs (zAH bs (zBq bs p) 24) 0 1000000000000
 else if zAk bs (zBq bs p) 24 = 1 then offP bs (zAH bs (zBq bs p) 24) 0 1
 else if zAk bs (zBq bs p) 24 = 2 then zEy bs (zAH bs (zBq bs p) 24) 45
 else zAH bs (zBq bs p) 24
theorem zQD {bs : List Nat} {p : Nat} (h : p ≤ bs.length) : zBq bs p ≤ bs.length := zAV (zD3 (zAV h))
theorem zLA {bs : List Nat} {p : Nat} (h : p ≤ bs.length) : keyP bs p ≤ bs.length := by
 have h2 := zAV (n := 24) (zQD h)
 unfold keyP
 split
 · exact zFB h2
 ·
  split
  · exact zFB h2
  ·
   split
   · exact zFo h2
   · exact h2
theorem key_0 {bs : List Nat} {p : Nat} (h : zAk bs (zBq bs p) 24 = 0) : keyV bs p = { key0 bs p with seq := offV bs (zAH bs (zBq bs p) 24) 0 1000000000000 } ∧ keyP bs p = offP bs (zAH bs (zBq bs p) 24) 0 1000000000000 := by simp [keyV, keyP, h]
theorem key_1 {bs : List Nat} {p : Nat} (h0 : ¬ zAk bs (zBq bs p) 24 = 0) (h : zAk bs (zBq bs p) 24 = 1) : keyV bs p = { key0 bs p with kind := offV bs (zAH bs (zBq bs p) 24) 0 1 } ∧ keyP bs p = offP bs (zAH bs (zBq bs p) 24) 0 1 := by simp [keyV, keyP, h]
theorem key_2 {bs : List Nat} {p : Nat} (h0 : ¬ zAk bs (zBq bs p) 24 = 0) (h1 : ¬ zAk bs (zBq bs p) 24 = 1) (h : zAk bs (zBq bs p) 24 = 2) : keyV bs p = { key0 bs p with user := zIS bs (zAH bs (zBq bs p) 24) 45 } ∧ keyP bs p = zEy bs (zAH bs (zBq bs p) 24) 45 := by simp [keyV, keyP, h]
theorem key_3 {bs : List Nat} {p : Nat} (h0 : ¬ zAk bs (zBq bs p) 24 = 0) (h1 : ¬ zAk bs (zBq bs p) 24 = 1) (h2 : ¬ zAk bs (zBq bs p) 24 = 2) : keyV bs p = key0 bs p ∧ keyP bs p = zAH bs (zBq bs p) 24 := by simp [keyV, keyP, h0, h1, h2]
def ent0 (bs : List Nat) (p : Nat) : Ent := { keyV bs p with value := zJS bs (keyP bs p) }
def zJI (bs : List Nat) (p : Nat) : Nat := zAH bs (keyP bs p) 5
def zCI (bs : List Nat) (p : Nat) : Ent := if (ent0 bs p).kind = 0 then (if zCl bs (zJI bs p) 12 = true then ent0 bs p else { ent0 bs p with value := ⟨#[]⟩ }) else ent0 bs p
def zC3 (bs : List Nat) (p : Nat) : Nat := if (ent0 bs p).kind = 0 then zAH bs (zJI bs p) 12 else zJI bs p
theorem zMh {bs : List Nat} {p : Nat} (h : p ≤ bs.length) : zJI bs p ≤ bs.length := zAV (zLA h)
theorem zKB {bs : List Nat} {p : Nat} (h : p ≤ bs.length) : zC3 bs p ≤ bs.length := by
 unfold zC3
 split
 · exact zAV (zMh h)
 · exact zMh h
theorem ent_0 {bs : List Nat} {p : Nat} (h : (ent0 bs p).kind = 0) (h2 : zCl bs (zJI bs p) 12 = true) : zCI bs p = ent0 bs p ∧ zC3 bs p = zAH bs (zJI bs p) 12 := by simp [zCI, zC3, h, h2]
theorem ent_1 {bs : List Nat} {p : Nat} (h : (ent0 bs p).kind = 0) (h2 : zCl bs (zJI bs p) 12 = false) : zCI bs p = { ent0 bs p with value := ⟨#[]⟩ } ∧ zC3 bs p = zAH bs (zJI bs p) 12 := by simp [zCI, zC3, h, h2]
theorem ent_2 {bs : List Nat} {p : Nat} (h : ¬ (ent0 bs p).kind = 0) : zCI bs p = ent0 bs p ∧ zC3 bs p = zJI bs p := by simp [zCI, zC3, h]
def zKX (out : List Ent) (e : Ent) : Nat := cntF (fun x => decide (kcmp x e < 0)) out
def zFy (a b : Ent) : Bool := decide (a.user = b.user ∧ a.seq = b.seq ∧ a.kind = b.kind)
def entIns (out : List Ent) (e : Ent) : List Ent :=
 if zBc e = true then (match out[zKX out e]? with
  | some x => if (x.user, x.seq, x.kind) = (e.user, e.seq, e.kind) then out else out.take (zKX out e) ++ [e] ++ out.drop (zKX out e)
  | none => out.take (zKX out e) ++ [e] ++ out.drop (zKX out e)) else out
def zOl (bs : List Nat) : Nat → List Ent × Nat → List Ent × Nat
 | 0, x => x
 | i + 1, x => zOl bs i (entIns x.1 (zCI bs x.2), zC3 bs x.2)
def entBase (bs : List Nat) (p most : Nat) : List Ent × Nat := zOl bs (zAk bs p (most + 1)) ([], zAH bs p (most + 1))
def entsR (bs : List Nat) (p most : Nat) : List Ent × Nat :=
 let x := entBase bs p most
 if zCl bs x.2 24 = true then (x.1 ++ [zCI bs (zAH bs x.2 24)], zC3 bs (zAH bs x.2 24)) else (x.1, zAH bs x.2 24)
abbrev SnSt := List Int × Int × Nat
def snLast (out : List Int) (n : Int) : Bool := match out[out.length - 1]? with
 | some x => decide (x < n)
 | none => true
def snStep (bs : List Nat) (x : SnSt) : SnSt :=
 let n := x.2.1 + ((zAk bs x.2.2 6 : Nat) : Int)
 let q := zAH bs x.2.2 6
 if snLast x.1 n = true then (x.1 ++ [n], n, q)
 else if zCl bs q 12 = true then (x.1 ++ [n], n, zAH bs q 12) else (x.1, n, zAH bs q 12)
def zQl (bs : List Nat) : Nat → SnSt → SnSt
 | 0, x => x
 | i + 1, x => zQl bs i (snStep bs x)
def zQi (bs : List Nat) (p : Nat) : SnSt := zQl bs (zAk bs p 4) ([], 0, zAH bs p 4)
def snapsV (bs : List Nat) (p : Nat) : List Int := (zQi bs p).1
def snapsP (bs : List Nat) (p : Nat) : Nat := (zQi bs p).2.2
end Go.Rl

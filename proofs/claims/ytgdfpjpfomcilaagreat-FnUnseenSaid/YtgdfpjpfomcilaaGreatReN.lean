/- Promises of functions, proved by walks over their operations; no conditions beyond those that each theorem states. -/
import Derived.Test.YtgdfpjpfomcilaaGreatReC
import Derived.Test.YtgdfpjpfomcilaaGreatRnC
import Derived.RangeFuncBox
import Derived.RangeFuncLeaves
import Derived.Shelf.Abstract
import Derived.WalkKit
import Derived.OwnWalkIn
import Derived.TacticsInMore
import Derived.LoopNIn
import Derived.LoopIn
import Derived.Test.YtgdfpjpfomcilaaGreatProg
import Derived.Test.YtgdfpjpfomcilaaGreatRlT
set_option linter.unusedSimpArgs false
set_option linter.unusedVariables false
namespace Go.Rl
open Go.Proofs Go.Proofs.Tryz
set_option maxRecDepth 1000000
set_option maxHeartbeats 2000000
theorem en75 : En Tryz.prog 75 := zAn func75 (by decide) rfl
theorem zJG (l : List Ent) (hl : l.length ≤ 2000000) : Con Tryz.prog 71 [.one (.sl true 4 (pvE l))] [some (pvE l.reverse)] [] := by
 refine zAS func71 rfl rfl rfl rfl ?_
 have hle := zAF l
 refine zAB (zAA rfl (.m rfl rfl (.r rfl (zA2 rfl rfl underlying24) (.r rfl (zAs rfl rfl rfl (by omega)) (.a rfl rfl (.a rfl rfl .nil))))) ?_)
 refine zAR ?_
 refine zAo (σ := Nat × Nat × List Ent) (fun (i, k, m) => mk [(0, .sl 100000 0 ((pvE l).length)), (2, .vi (i:Int)), (3, .vi ((k:Int) - 1))] [] [(100000, 4, pvE m)]) (fun (i, k, m) => i + k = l.length ∧ i ≤ l.length ∧ (i ≤ k ∨ i = k + 1) ∧ zEO l m i) (fun (i, k, m) => l.length - i) (0, l.length, l) ⟨by omega, Nat.zero_le _, .inl (Nat.zero_le _), zI3 l⟩ (zAI ⟨rfl, (zAJ (by omega)), (zAJ (by omega)), trivial⟩ trivial ⟨(congrArg (fun x => some (4, x)) (by rfl)), trivial⟩ rfl) ?_
 rintro ⟨i, k, m⟩ hG
 replace hG : i + k = l.length ∧ i ≤ l.length ∧ (i ≤ k ∨ i = k + 1) ∧ zEO l m i := hG
 obtain ⟨hik, hi, hw, hS⟩ := hG
 have hml := hS.1
 have hle2 := zAF m
 refine zAB ?_
 refine zAB (zAA rfl (.m rfl rfl (.m rfl rfl (.r rfl (zA4 rfl rfl rfl) .nil))) ?_)
 refine zAb (t := decide ((i:Int) < ((k:Int) - 1))) rfl (fun h1 => ?_) (fun h1 => ?_)
 ·
  replace h1 := of_decide_eq_true h1
  refine zAL ?_
  refine zAB ?_
  refine zAR ?_
  obtain ⟨x, hx⟩ : ∃ x, m[i]? = some x := ⟨_, List.getElem?_eq_getElem (by omega)⟩
  obtain ⟨y, hy⟩ : ∃ y, m[k - 1]? = some y := ⟨_, List.getElem?_eq_getElem (by omega)⟩
  refine zAV (s' := mk [(0, .sl 100000 0 ((pvE l).length)), (2, .vi (i:Int)), (3, .vi ((k:Int) - 1))] [] [(100000, 4, pvE m)]) ?_ ?_
  · exact zAI ⟨rfl, rfl, rfl, trivial⟩ trivial ⟨rfl, trivial⟩ rfl
  refine zAZ zBD rfl (.m rfl rfl (.m rfl rfl (.m rfl rfl (.r rfl (zAX (zBJ rfl) (((show (AV.p none (.v (.int .i64 ((k:Int) - 1)))) = AV.p none (.v (.int .i64 ((k - 1 : Nat) : Int))) from zAJ (by omega))))) (.m rfl rfl (.r rfl (zAX (zBJ rfl) (((show (AV.p none (.v (.int .i64 ((k:Int) - 1)))) = AV.p none (.v (.int .i64 ((k - 1 : Nat) : Int))) from zAJ (by omega))))) (.r rfl (zAW (k - 1) rfl rfl rfl rfl underlying24 sizeOf56 rfl rfl (by omega)) (.r rfl (zBB rfl rfl rfl (zAw hy) isAgg56 sizeOf56 (nle rfl)) (.m rfl rfl (.m rfl rfl (.r rfl (zAW i rfl rfl rfl rfl underlying24 sizeOf56 rfl rfl (by omega)) (.r rfl (zBB rfl rfl rfl (zAw hx) isAgg56 sizeOf56 (nle rfl)) (.r rfl (zAW i rfl rfl rfl rfl underlying24 sizeOf56 rfl rfl (by omega)) (.r rfl (zBL rfl rfl rfl (FlatP.nf (zAg _)) (zAw hx) rfl rfl (.cons .v (.cons .v (.cons .v (.cons .v .nil)))) sizeOf56 rfl (nle rfl)) (.r rfl (zAW (k - 1) rfl rfl rfl rfl underlying24 sizeOf56 rfl rfl (by omega)) (.r rfl (zBL rfl rfl rfl (FlatP.nf (FlatP.set (i := i) (cs := [PV.v (.string y.user), PV.v (.int .i64 y.seq), PV.v (.int .i64 y.kind), PV.v (.string y.value)]) (zAg m) rfl)) (by rw [List.getElem?_set_ne (by omega)]; exact zAw hy) rfl rfl (.cons .v (.cons .v (.cons .v (.cons .v .nil)))) sizeOf56 rfl (nle rfl)) .nil)))))))))))))))) (by kernel_rfl) ?_
  refine zAV (s' := mk [(0, .sl 100000 0 ((pvE l).length)), (2, .vi (i:Int)), (3, .vi ((k:Int) - 1))] [] [(100000, 4, ((pvE m).set i [PV.v (.string y.user), PV.v (.int .i64 y.seq), PV.v (.int .i64 y.kind), PV.v (.string y.value)]).set (k - 1) [PV.v (.string x.user), PV.v (.int .i64 x.seq), PV.v (.int .i64 x.kind), PV.v (.string x.value)])]) ?_ ?_
  · exact zAI ⟨rfl, rfl, rfl, trivial⟩ trivial ⟨rfl, trivial⟩ rfl
  refine zAA rfl (.m rfl rfl (.r rfl (zAe rfl rfl rfl (by omega)) (.m rfl rfl (.r rfl (zAs rfl rfl rfl (by omega)) (.a rfl rfl (.a rfl rfl .nil)))))) ?_
  refine nxt (Q := fun _ _ => False) (z := (i, k, m)) (i + 1, k - 1, (m.set i y).set (k - 1) x) ?_ ?_ ?_
  ·
   show (i + 1) + (k - 1) = l.length ∧ (i + 1) ≤ l.length ∧ ((i + 1) ≤ (k - 1) ∨ (i + 1) = (k - 1) + 1) ∧ zEO l ((m.set i y).set (k - 1) x) (i + 1)
   exact ⟨by omega, by omega, by omega, zI4 hS (by omega) (by omega) hx hy⟩
  ·
   show l.length - (i + 1) < l.length - i
   omega
  · exact zAI ⟨rfl, (zAJ (by omega)), (zAJ (by omega)), trivial⟩ trivial ⟨(congrArg (fun x => some (4, x)) (by exact zOt)), trivial⟩ rfl
 ·
  replace h1 := of_decide_eq_false h1
  refine zAu ?_
  exact zIp [] [] .nil .nil (by decide) (zB1 (congrArg (fun x => some (4, x)) (congrArg pvE (zKB hS (by omega)))) (zAg _) (by decide))
theorem zF6 (l : List Ent) (s : List Int) (b : Bool) (zs : List Int) (hzs : zs = zBE l (zAP s) l.length) (hl : l.length ≤ 2000000) (hs : s.length ≤ 2000000) : Con Tryz.prog 39 [.one (PV.sl false 4 (pvE l)), .one (PV.sl false 1 (pvI s)), .one (PV.v (.bool b))] [] [.one (.sl true 4 (pvE (zA0 l b zs zs.length)))] := by
 refine zAS func39 rfl rfl rfl rfl ?_
 have hle := zAF l
 have hls := zAU s
 have hlz := zAU zs
 have hzl : zs.length ≤ l.length := by rw [hzs]; exact zDD _ _ _
 refine zAB (zAA rfl (.a rfl rfl .nil) ?_)
 refine zAB (zAA rfl (.m rfl rfl (.m rfl rfl (.run [1400] [] rfl (zAK rfl 1400 (X := []) en75 rfl (.val nod) (.cons (.one (.bor (.sl nod))) (.cons (.one (.bor (.sl nod))) .nil)) (by decide) all_nil .nil ((by have h := zIb l s (by omega) (by omega); rw [← hzs] at h; exact h)) rfl rfl (nle rfl)) (.a rfl rfl .nil)))) ?_)
 refine zAB (zAA rfl (.run [1500] [] rfl (zAQ rfl 1500 underlying24 zBb (nle rfl) (by decide) rfl rfl rfl .nil (by decide) rfl (by decide) rfl (by decide) rfl) (.a rfl rfl .nil)) ?_)
 refine zAB ?_
 refine zAB (zAA rfl (.m rfl rfl (.r rfl (zA2 rfl rfl underlying26) (.r rfl (zAs rfl rfl rfl (by omega)) (.a rfl rfl .nil)))) ?_)
 refine zAR ?_
 refine zAV (zBi 1500 1 rfl rfl (by decide)) ?_
 refine zAo (σ := Nat) (fun i => mk [(0, .p none (.sl false 4 (pvE l))), (2, .vb b), (7, .sl 1400 0 ((pvI zs).length)), (8, .sl 1 0 ((pvE (zA0 l b zs (zs.length - i))).length)), (9, .vi ((i:Int) - 1))] [] [(1, 4, pvE (zA0 l b zs (zs.length - i))), (1400, 1, pvI zs)]) (fun i => i ≤ zs.length) (fun i => i) zs.length (by simp) (zAI ⟨rfl, rfl, rfl, (congrArg (fun k => AV.sl 1 0 (pvE (zA0 l b zs k)).length) (Nat.sub_self _).symm), (zAJ (by rw [hlz])), trivial⟩ trivial ⟨(congrArg (fun x => some (4, x)) (by rw [Nat.sub_self]; rfl)), rfl, trivial⟩ rfl) ?_
 rintro i hG
 replace hG : i ≤ zs.length := hG
 refine zAB ?_
 refine zAB (zAA rfl (.m rfl rfl (.r rfl (zCM rfl rfl rfl) .nil)) ?_)
 refine zAb (t := decide (0 ≤ ((i:Int) - 1))) rfl (fun h1 => ?_) (fun h1 => ?_)
 ·
  replace h1 := of_decide_eq_true h1
  refine zAL ?_
  refine zAB ?_
  refine zAR ?_
  refine zAB ?_
  obtain ⟨z, hz⟩ : ∃ z, zs[i - 1]? = some z := ⟨_, List.getElem?_eq_getElem (by omega)⟩
  obtain ⟨q, rfl, hql⟩ : ∃ q : Nat, z = (q : Int) ∧ q < l.length := by rw [hzs] at hz; exact need_at hz
  obtain ⟨e, he⟩ : ∃ e, l[q]? = some e := ⟨_, List.getElem?_eq_getElem hql⟩
  have hstep : zA0 l b zs (zs.length - i + 1) = zEg b (zA0 l b zs (zs.length - i)) e := zC4 (i := i - 1) (by omega) hz (by simpa using he)
  have hol := zFP l b zs (k := zs.length - i) (by omega)
  have hle5 := zAF (zA0 l b zs (zs.length - i))
  refine zAA rfl (.m rfl rfl (.m rfl rfl (.r rfl (zAX (zBJ rfl) (((show (AV.p none (.v (.int .i64 ((i:Int) - 1)))) = AV.p none (.v (.int .i64 ((i - 1 : Nat) : Int))) from zAJ (by omega))))) (.r rfl (zAW (i - 1) rfl rfl rfl rfl underlying26 sizeOf2 rfl rfl (by omega)) (.r rfl (zAt rfl rfl rfl (zBe hz) isAgg2 rfl) (.r rfl (zAf rfl rfl rfl underlying24 sizeOf56 rfl (by omega) (zAw he)) (.r rfl (zBA rfl rfl isAgg56 sizeOf56 (nle rfl)) (.run [] [10] rfl (zAl rfl 10 zBb rfl (by decide) rfl (by decide)) (.r rfl (zAE rfl rfl rfl rfl rfl sizeOf56 rfl (nle rfl)) .nil))))))))) ?_
  refine zAB ?_
  refine zAV (s' := mk [(0, .p none (.sl false 4 (pvE l))), (2, .vb b), (7, .sl 1400 0 ((pvI zs).length)), (8, .sl 1 0 ((pvE (zA0 l b zs (zs.length - i))).length)), (9, .vi ((i:Int) - 1)), (10, .ptr 10 0)] [(10, [.vs e.user, .vi e.seq, .vi e.kind, .vs e.value])] [(1, 4, pvE (zA0 l b zs (zs.length - i))), (1400, 1, pvI zs)]) ?_ ?_
  · exact zAI ⟨rfl, rfl, rfl, rfl, rfl, rfl, trivial⟩ ⟨rfl, trivial⟩ ⟨rfl, rfl, trivial⟩ rfl
  rcases bfc (decide (0 < ((pvE (zA0 l b zs (zs.length - i))).length : Int))) with h2 | h2
  ·
   have h2' := h2
   replace h2' := of_decide_eq_false h2'
   refine zAZ zBD rfl (.m rfl rfl (.r rfl (zA2 rfl rfl underlying24) (.r rfl (zAX (zBF rfl rfl rfl) (zAM h2)) (.m rfl rfl (.not rfl (.not rfl (.not rfl (.not rfl (.not rfl (.not rfl (.not rfl (.not rfl (.not rfl (.r rfl (zAT (t := false) rfl rfl) (.a rfl rfl .nil))))))))))))))) (by kernel_rfl) ?_
   refine zAB ?_
   refine zAB ?_
   refine zAV (s' := mk [(0, .p none (.sl false 4 (pvE l))), (2, .vb b), (7, .sl 1400 0 ((pvI zs).length)), (8, .sl 1 0 ((pvE (zA0 l b zs (zs.length - i))).length)), (9, .vi ((i:Int) - 1)), (10, .ptr 10 0), (11, .vb false)] [(10, [.vs e.user, .vi e.seq, .vi e.kind, .vs e.value])] [(1, 4, pvE (zA0 l b zs (zs.length - i))), (1400, 1, pvI zs)]) ?_ ?_
   · exact zAI ⟨rfl, rfl, rfl, rfl, rfl, rfl, rfl, trivial⟩ ⟨rfl, trivial⟩ ⟨rfl, rfl, trivial⟩ rfl
   rcases bfc (decide (e.kind = 0)) with h3 | h3
   ·
    have h3' := h3
    replace h3' := of_decide_eq_false h3'
    refine zAA rfl (.r rfl (zAC rfl rfl underlying56 rfl sizeOf54 (by decide)) (.r rfl (zAC rfl rfl underlying54 rfl sizeOf2 (by decide)) (.r rfl (zAD rfl rfl rfl isAgg2 rfl) (.r rfl (zAX (zA9 rfl rfl rfl) (zAM h3)) (.m rfl rfl (.not rfl (.r rfl (zAT (t := false) rfl rfl) (.m rfl rfl (.not rfl (.not rfl (.r rfl (zAT (t := false) rfl rfl) .nil))))))))))) ?_
    refine zAb (t := false) rfl (fun h => nomatch h) (fun _ => ?_)
    refine zAL ?_
    refine zAA rfl (.r rfl (zAG rfl rfl rfl isAgg56 sizeOf56 (nle rfl)) (.run [5600] [] rfl (zAQ rfl 5600 underlying24 zBb (nle rfl) (by decide) rfl rfl rfl (.cons .v (.cons .v (.cons .v (.cons .v .nil)))) (by decide) rfl (by decide) rfl (by decide) rfl) (.m rfl rfl (.run [5600] [] rfl (zAq rfl 5600 (ib := 5600) (len := ([[PV.v (.string e.user), PV.v (.int .i64 e.seq), PV.v (.int .i64 e.kind), PV.v (.string e.value)]] ++ (pvE (zA0 l b zs (zs.length - i)))).length) rfl rfl (.row (len := 1) (xs := [[PV.v (.string e.user), PV.v (.int .i64 e.seq), PV.v (.int .i64 e.kind), PV.v (.string e.value)]]) rfl rfl (.inl rfl)) (.give (len := (pvE (zA0 l b zs (zs.length - i))).length) (xs := pvE (zA0 l b zs (zs.length - i))) rfl rfl) underlying24 (sk underlying24 rfl) zBb rfl (by decide) (by decide) (by decide) List.length_append (by simp only [maxLen, List.length_append, List.length_cons, List.length_nil, zAF]; omega) (by simp only [maxLen, List.length_append, List.length_cons, List.length_nil, zAF]; omega)) (.a rfl rfl .nil))))) ?_
    have hr4 : [[PV.v (.string e.user), PV.v (.int .i64 e.seq), PV.v (.int .i64 e.kind), PV.v (.string e.value)]] ++ (pvE (zA0 l b zs (zs.length - i))) = pvE (zA0 l b zs (zs.length - i + 1)) := by rw [hstep, zBw (fun hc => h3' hc.2.1)]; rfl
    have hp5 : (.sl 5600 0 (([[PV.v (.string e.user), PV.v (.int .i64 e.seq), PV.v (.int .i64 e.kind), PV.v (.string e.value)]] ++ (pvE (zA0 l b zs (zs.length - i)))).length) : AV) = .sl 5600 0 ((pvE (zA0 l b zs (zs.length - i + 1))).length) := by simp only [hr4]
    refine zAV (s' := mk [(0, .p none (.sl false 4 (pvE l))), (2, .vb b), (7, .sl 1400 0 ((pvI zs).length)), (8, .sl 5600 0 ((pvE (zA0 l b zs (zs.length - i + 1))).length)), (9, .vi ((i:Int) - 1))] [] [(1400, 1, pvI zs), (5600, 4, pvE (zA0 l b zs (zs.length - i + 1)))]) ?_ ?_
    · exact zAI ⟨rfl, rfl, rfl, hp5, rfl, trivial⟩ trivial ⟨rfl, (congrArg (fun x => some (4, x)) hr4), trivial⟩ rfl
    refine zAA rfl (.m rfl rfl (.r rfl (zAs rfl rfl rfl (by omega)) (.a rfl rfl .nil))) ?_
    refine nxt (Q := fun _ _ => False) (z := i) (i - 1) ?_ ?_ ?_
    ·
     show (i - 1) ≤ zs.length
     omega
    ·
     show (i - 1) < i
     omega
    · exact (zBi 5600 1 rfl rfl (by decide)).trans (zAI ⟨rfl, rfl, rfl, (congrArg (fun k => AV.sl 1 0 (pvE (zA0 l b zs k)).length) (show zs.length - i + 1 = zs.length - (i - 1) by omega)), (zAJ (by omega)), trivial⟩ trivial ⟨(congrArg (fun x => some (4, x)) (by rw [show zs.length - (i - 1) = zs.length - i + 1 by omega])), rfl, trivial⟩ rfl)
   ·
    have h3' := h3
    replace h3' := of_decide_eq_true h3'
    rcases bfc b with h6 | h6
    ·
     have h6' := h6
     refine zAA rfl (.r rfl (zAC rfl rfl underlying56 rfl sizeOf54 (by decide)) (.r rfl (zAC rfl rfl underlying54 rfl sizeOf2 (by decide)) (.r rfl (zAD rfl rfl rfl isAgg2 rfl) (.r rfl (zAX (zA9 rfl rfl rfl) (zAM h3)) (.m rfl rfl (.r rfl (zAX (zBJ rfl) (zAM h6)) (.r rfl (zAT (t := true) rfl rfl) (.m rfl rfl (.not rfl (.not rfl (.r rfl (zAT (t := false) rfl rfl) .nil))))))))))) ?_
     refine zAb (t := false) rfl (fun h => nomatch h) (fun _ => ?_)
     refine zAL ?_
     refine zAA rfl (.r rfl (zAG rfl rfl rfl isAgg56 sizeOf56 (nle rfl)) (.run [5600] [] rfl (zAQ rfl 5600 underlying24 zBb (nle rfl) (by decide) rfl rfl rfl (.cons .v (.cons .v (.cons .v (.cons .v .nil)))) (by decide) rfl (by decide) rfl (by decide) rfl) (.m rfl rfl (.run [5600] [] rfl (zAq rfl 5600 (ib := 5600) (len := ([[PV.v (.string e.user), PV.v (.int .i64 e.seq), PV.v (.int .i64 e.kind), PV.v (.string e.value)]] ++ (pvE (zA0 l b zs (zs.length - i)))).length) rfl rfl (.row (len := 1) (xs := [[PV.v (.string e.user), PV.v (.int .i64 e.seq), PV.v (.int .i64 e.kind), PV.v (.string e.value)]]) rfl rfl (.inl rfl)) (.give (len := (pvE (zA0 l b zs (zs.length - i))).length) (xs := pvE (zA0 l b zs (zs.length - i))) rfl rfl) underlying24 (sk underlying24 rfl) zBb rfl (by decide) (by decide) (by decide) List.length_append (by simp only [maxLen, List.length_append, List.length_cons, List.length_nil, zAF]; omega) (by simp only [maxLen, List.length_append, List.length_cons, List.length_nil, zAF]; omega)) (.a rfl rfl .nil))))) ?_
     have hr7 : [[PV.v (.string e.user), PV.v (.int .i64 e.seq), PV.v (.int .i64 e.kind), PV.v (.string e.value)]] ++ (pvE (zA0 l b zs (zs.length - i))) = pvE (zA0 l b zs (zs.length - i + 1)) := by rw [hstep, zBw (fun hc => by rw [h6'] at hc; cases hc.1)]; rfl
     have hp8 : (.sl 5600 0 (([[PV.v (.string e.user), PV.v (.int .i64 e.seq), PV.v (.int .i64 e.kind), PV.v (.string e.value)]] ++ (pvE (zA0 l b zs (zs.length - i)))).length) : AV) = .sl 5600 0 ((pvE (zA0 l b zs (zs.length - i + 1))).length) := by simp only [hr7]
     refine zAV (s' := mk [(0, .p none (.sl false 4 (pvE l))), (2, .vb b), (7, .sl 1400 0 ((pvI zs).length)), (8, .sl 5600 0 ((pvE (zA0 l b zs (zs.length - i + 1))).length)), (9, .vi ((i:Int) - 1)), (49, .vb false)] [] [(1400, 1, pvI zs), (5600, 4, pvE (zA0 l b zs (zs.length - i + 1)))]) ?_ ?_
     · exact zAI ⟨rfl, rfl, rfl, hp8, rfl, rfl, trivial⟩ trivial ⟨rfl, (congrArg (fun x => some (4, x)) hr7), trivial⟩ rfl
     refine zAA rfl (.m rfl rfl (.r rfl (zAs rfl rfl rfl (by omega)) (.a rfl rfl .nil))) ?_
     refine nxt (Q := fun _ _ => False) (z := i) (i - 1) ?_ ?_ ?_
     ·
      show (i - 1) ≤ zs.length
      omega
     ·
      show (i - 1) < i
      omega
     · exact (zBi 5600 1 rfl rfl (by decide)).trans (zAI ⟨rfl, rfl, rfl, (congrArg (fun k => AV.sl 1 0 (pvE (zA0 l b zs k)).length) (show zs.length - i + 1 = zs.length - (i - 1) by omega)), (zAJ (by omega)), trivial⟩ trivial ⟨(congrArg (fun x => some (4, x)) (by rw [show zs.length - (i - 1) = zs.length - i + 1 by omega])), rfl, trivial⟩ rfl)
    ·
     have h6' := h6
     refine zAA rfl (.r rfl (zAC rfl rfl underlying56 rfl sizeOf54 (by decide)) (.r rfl (zAC rfl rfl underlying54 rfl sizeOf2 (by decide)) (.r rfl (zAD rfl rfl rfl isAgg2 rfl) (.r rfl (zAX (zA9 rfl rfl rfl) (zAM h3)) (.m rfl rfl (.r rfl (zAX (zBJ rfl) (zAM h6)) (.r rfl (zAT (t := true) rfl rfl) (.m rfl rfl (.m rfl rfl (.r rfl (zA3 (b := false) rfl rfl) (.r rfl (zAT (t := true) rfl rfl) .nil))))))))))) ?_
     refine zAb (t := true) rfl (fun _ => ?_) (fun h => nomatch h)
     refine zAu ?_
     refine zAA rfl (.m rfl rfl (.r rfl (zAs rfl rfl rfl (by omega)) (.a rfl rfl .nil))) ?_
     refine nxt (Q := fun _ _ => False) (z := i) (i - 1) ?_ ?_ ?_
     ·
      show (i - 1) ≤ zs.length
      omega
     ·
      show (i - 1) < i
      omega
     · exact zAI ⟨rfl, rfl, rfl, (congrArg (fun x => AV.sl 1 0 (pvE x).length) (by rw [show zs.length - (i - 1) = zs.length - i + 1 by omega, hstep, zCr h6' h3' (zJM (by omega))])), (zAJ (by omega)), trivial⟩ trivial ⟨(congrArg (fun x => some (4, x)) (by rw [show zs.length - (i - 1) = zs.length - i + 1 by omega, hstep, zCr h6' h3' (zJM (by omega))])), rfl, trivial⟩ rfl
  ·
   have h2' := h2
   replace h2' := of_decide_eq_true h2'
   obtain ⟨e2, he2⟩ : ∃ e, (zA0 l b zs (zs.length - i))[0]? = some e := ⟨_, List.getElem?_eq_getElem (by (have hL := zAF (zA0 l b zs (zs.length - i)); omega))⟩
   have hlte2 := (List.getElem?_eq_some_iff.1 he2).1
   refine zAZ zBD rfl (.m rfl rfl (.r rfl (zA2 rfl rfl underlying24) (.r rfl (zAX (zBF rfl rfl rfl) (zAM h2)) (.m rfl rfl (.m rfl rfl (.r rfl (zAW 0 rfl rfl rfl rfl underlying24 sizeOf56 rfl rfl (by omega)) (.r rfl (zBW rfl rfl underlying56 rfl sizeOf54 (by decide)) (.r rfl (zBW rfl rfl underlying54 rfl sizeOf9 (by decide)) (.r rfl (zAt rfl rfl rfl (zAw he2) isAgg9 rfl) (.r rfl (zAC rfl rfl underlying56 rfl sizeOf54 (by decide)) (.r rfl (zAC rfl rfl underlying54 rfl sizeOf9 (by decide)) (.r rfl (zAD rfl rfl rfl isAgg9 rfl) (.r rfl (zC7 rfl rfl rfl) (.r rfl (zAT (t := true) rfl rfl) (.a rfl rfl .nil))))))))))))))) (by kernel_rfl) ?_
   refine zAB ?_
   refine zAB ?_
   refine zAV (s' := mk [(0, .p none (.sl false 4 (pvE l))), (2, .vb b), (7, .sl 1400 0 ((pvI zs).length)), (8, .sl 1 0 ((pvE (zA0 l b zs (zs.length - i))).length)), (9, .vi ((i:Int) - 1)), (10, .ptr 10 0), (11, .vb (decide (e2.user = e.user))), (34, .sl 1 0 ((pvE (zA0 l b zs (zs.length - i))).length)), (35, .ea 1 0 0), (36, .ea 1 0 0), (37, .ea 1 0 0), (38, .vs e2.user), (39, .ptr 10 0), (40, .ptr 10 0), (41, .vs e.user), (42, .vb (decide (e2.user = e.user)))] [(10, [.vs e.user, .vi e.seq, .vi e.kind, .vs e.value])] [(1, 4, pvE (zA0 l b zs (zs.length - i))), (1400, 1, pvI zs)]) ?_ ?_
   · exact zAI ⟨rfl, rfl, rfl, rfl, rfl, rfl, rfl, rfl, rfl, rfl, rfl, rfl, rfl, rfl, rfl, rfl, trivial⟩ ⟨rfl, trivial⟩ ⟨rfl, rfl, trivial⟩ rfl
   rcases bfc (decide (e.kind = 0)) with h9 | h9
   ·
    have h9' := h9
    replace h9' := of_decide_eq_false h9'
    refine zAA rfl (.r rfl (zAC rfl rfl underlying56 rfl sizeOf54 (by decide)) (.r rfl (zAC rfl rfl underlying54 rfl sizeOf2 (by decide)) (.r rfl (zAD rfl rfl rfl isAgg2 rfl) (.r rfl (zAX (zA9 rfl rfl rfl) (zAM h9)) (.m rfl rfl (.not rfl (.r rfl (zAT (t := false) rfl rfl) (.m rfl rfl (.not rfl (.not rfl (.r rfl (zAT (t := false) rfl rfl) .nil))))))))))) ?_
    refine zAb (t := false) rfl (fun h => nomatch h) (fun _ => ?_)
    refine zAL ?_
    refine zAA rfl (.r rfl (zAG rfl rfl rfl isAgg56 sizeOf56 (nle rfl)) (.run [5600] [] rfl (zAQ rfl 5600 underlying24 zBb (nle rfl) (by decide) rfl rfl rfl (.cons .v (.cons .v (.cons .v (.cons .v .nil)))) (by decide) rfl (by decide) rfl (by decide) rfl) (.m rfl rfl (.run [5600] [] rfl (zAq rfl 5600 (ib := 5600) (len := ([[PV.v (.string e.user), PV.v (.int .i64 e.seq), PV.v (.int .i64 e.kind), PV.v (.string e.value)]] ++ (pvE (zA0 l b zs (zs.length - i)))).length) rfl rfl (.row (len := 1) (xs := [[PV.v (.string e.user), PV.v (.int .i64 e.seq), PV.v (.int .i64 e.kind), PV.v (.string e.value)]]) rfl rfl (.inl rfl)) (.give (len := (pvE (zA0 l b zs (zs.length - i))).length) (xs := pvE (zA0 l b zs (zs.length - i))) rfl rfl) underlying24 (sk underlying24 rfl) zBb rfl (by decide) (by decide) (by decide) List.length_append (by simp only [maxLen, List.length_append, List.length_cons, List.length_nil, zAF]; omega) (by simp only [maxLen, List.length_append, List.length_cons, List.length_nil, zAF]; omega)) (.a rfl rfl .nil))))) ?_
    have hr10 : [[PV.v (.string e.user), PV.v (.int .i64 e.seq), PV.v (.int .i64 e.kind), PV.v (.string e.value)]] ++ (pvE (zA0 l b zs (zs.length - i))) = pvE (zA0 l b zs (zs.length - i + 1)) := by rw [hstep, zBw (fun hc => h9' hc.2.1)]; rfl
    have hp11 : (.sl 5600 0 (([[PV.v (.string e.user), PV.v (.int .i64 e.seq), PV.v (.int .i64 e.kind), PV.v (.string e.value)]] ++ (pvE (zA0 l b zs (zs.length - i)))).length) : AV) = .sl 5600 0 ((pvE (zA0 l b zs (zs.length - i + 1))).length) := by simp only [hr10]
    refine zAV (s' := mk [(0, .p none (.sl false 4 (pvE l))), (2, .vb b), (7, .sl 1400 0 ((pvI zs).length)), (8, .sl 5600 0 ((pvE (zA0 l b zs (zs.length - i + 1))).length)), (9, .vi ((i:Int) - 1)), (38, .vs e2.user), (39, .ptr 10 0), (40, .ptr 10 0), (41, .vs e.user), (42, .vb (decide (e2.user = e.user)))] [(10, [.vs e.user, .vi e.seq, .vi e.kind, .vs e.value])] [(1400, 1, pvI zs), (5600, 4, pvE (zA0 l b zs (zs.length - i + 1)))]) ?_ ?_
    · exact zAI ⟨rfl, rfl, rfl, hp11, rfl, rfl, rfl, rfl, rfl, rfl, trivial⟩ ⟨rfl, trivial⟩ ⟨rfl, (congrArg (fun x => some (4, x)) hr10), trivial⟩ rfl
    refine zAA rfl (.m rfl rfl (.r rfl (zAs rfl rfl rfl (by omega)) (.a rfl rfl .nil))) ?_
    refine nxt (Q := fun _ _ => False) (z := i) (i - 1) ?_ ?_ ?_
    ·
     show (i - 1) ≤ zs.length
     omega
    ·
     show (i - 1) < i
     omega
    · exact (zBi 5600 1 rfl rfl (by decide)).trans (zAI ⟨rfl, rfl, rfl, (congrArg (fun k => AV.sl 1 0 (pvE (zA0 l b zs k)).length) (show zs.length - i + 1 = zs.length - (i - 1) by omega)), (zAJ (by omega)), trivial⟩ trivial ⟨(congrArg (fun x => some (4, x)) (by rw [show zs.length - (i - 1) = zs.length - i + 1 by omega])), rfl, trivial⟩ rfl)
   ·
    have h9' := h9
    replace h9' := of_decide_eq_true h9'
    rcases bfc b with h12 | h12
    ·
     have h12' := h12
     refine zAA rfl (.r rfl (zAC rfl rfl underlying56 rfl sizeOf54 (by decide)) (.r rfl (zAC rfl rfl underlying54 rfl sizeOf2 (by decide)) (.r rfl (zAD rfl rfl rfl isAgg2 rfl) (.r rfl (zAX (zA9 rfl rfl rfl) (zAM h9)) (.m rfl rfl (.r rfl (zAX (zBJ rfl) (zAM h12)) (.r rfl (zAT (t := true) rfl rfl) (.m rfl rfl (.not rfl (.not rfl (.r rfl (zAT (t := false) rfl rfl) .nil))))))))))) ?_
     refine zAb (t := false) rfl (fun h => nomatch h) (fun _ => ?_)
     refine zAL ?_
     refine zAA rfl (.r rfl (zAG rfl rfl rfl isAgg56 sizeOf56 (nle rfl)) (.run [5600] [] rfl (zAQ rfl 5600 underlying24 zBb (nle rfl) (by decide) rfl rfl rfl (.cons .v (.cons .v (.cons .v (.cons .v .nil)))) (by decide) rfl (by decide) rfl (by decide) rfl) (.m rfl rfl (.run [5600] [] rfl (zAq rfl 5600 (ib := 5600) (len := ([[PV.v (.string e.user), PV.v (.int .i64 e.seq), PV.v (.int .i64 e.kind), PV.v (.string e.value)]] ++ (pvE (zA0 l b zs (zs.length - i)))).length) rfl rfl (.row (len := 1) (xs := [[PV.v (.string e.user), PV.v (.int .i64 e.seq), PV.v (.int .i64 e.kind), PV.v (.string e.value)]]) rfl rfl (.inl rfl)) (.give (len := (pvE (zA0 l b zs (zs.length - i))).length) (xs := pvE (zA0 l b zs (zs.length - i))) rfl rfl) underlying24 (sk underlying24 rfl) zBb rfl (by decide) (by decide) (by decide) List.length_append (by simp only [maxLen, List.length_append, List.length_cons, List.length_nil, zAF]; omega) (by simp only [maxLen, List.length_append, List.length_cons, List.length_nil, zAF]; omega)) (.a rfl rfl .nil))))) ?_
     have hr13 : [[PV.v (.string e.user), PV.v (.int .i64 e.seq), PV.v (.int .i64 e.kind), PV.v (.string e.value)]] ++ (pvE (zA0 l b zs (zs.length - i))) = pvE (zA0 l b zs (zs.length - i + 1)) := by rw [hstep, zBw (fun hc => by rw [h12'] at hc; cases hc.1)]; rfl
     have hp14 : (.sl 5600 0 (([[PV.v (.string e.user), PV.v (.int .i64 e.seq), PV.v (.int .i64 e.kind), PV.v (.string e.value)]] ++ (pvE (zA0 l b zs (zs.length - i)))).length) : AV) = .sl 5600 0 ((pvE (zA0 l b zs (zs.length - i + 1))).length) := by simp only [hr13]
     refine zAV (s' := mk [(0, .p none (.sl false 4 (pvE l))), (2, .vb b), (7, .sl 1400 0 ((pvI zs).length)), (8, .sl 5600 0 ((pvE (zA0 l b zs (zs.length - i + 1))).length)), (9, .vi ((i:Int) - 1)), (38, .vs e2.user), (39, .ptr 10 0), (40, .ptr 10 0), (41, .vs e.user), (42, .vb (decide (e2.user = e.user))), (49, .vb false)] [(10, [.vs e.user, .vi e.seq, .vi e.kind, .vs e.value])] [(1400, 1, pvI zs), (5600, 4, pvE (zA0 l b zs (zs.length - i + 1)))]) ?_ ?_
     · exact zAI ⟨rfl, rfl, rfl, hp14, rfl, rfl, rfl, rfl, rfl, rfl, rfl, trivial⟩ ⟨rfl, trivial⟩ ⟨rfl, (congrArg (fun x => some (4, x)) hr13), trivial⟩ rfl
     refine zAA rfl (.m rfl rfl (.r rfl (zAs rfl rfl rfl (by omega)) (.a rfl rfl .nil))) ?_
     refine nxt (Q := fun _ _ => False) (z := i) (i - 1) ?_ ?_ ?_
     ·
      show (i - 1) ≤ zs.length
      omega
     ·
      show (i - 1) < i
      omega
     · exact (zBi 5600 1 rfl rfl (by decide)).trans (zAI ⟨rfl, rfl, rfl, (congrArg (fun k => AV.sl 1 0 (pvE (zA0 l b zs k)).length) (show zs.length - i + 1 = zs.length - (i - 1) by omega)), (zAJ (by omega)), trivial⟩ trivial ⟨(congrArg (fun x => some (4, x)) (by rw [show zs.length - (i - 1) = zs.length - i + 1 by omega])), rfl, trivial⟩ rfl)
    ·
     have h12' := h12
     refine zAA rfl (.r rfl (zAC rfl rfl underlying56 rfl sizeOf54 (by decide)) (.r rfl (zAC rfl rfl underlying54 rfl sizeOf2 (by decide)) (.r rfl (zAD rfl rfl rfl isAgg2 rfl) (.r rfl (zAX (zA9 rfl rfl rfl) (zAM h9)) (.m rfl rfl (.r rfl (zAX (zBJ rfl) (zAM h12)) (.r rfl (zAT (t := true) rfl rfl) (.m rfl rfl (.m rfl rfl (.r rfl (zA3 (b := decide (e2.user = e.user)) rfl rfl) (.r rfl (zAT (t := true) rfl rfl) .nil))))))))))) ?_
     refine zAb (t := (!(decide (e2.user = e.user)))) rfl (fun h15 => ?_) (fun h15 => ?_)
     ·
      replace h15 : ¬ (e2.user = e.user) := of_decide_eq_false (zBH h15)
      refine zAu ?_
      refine zAA rfl (.m rfl rfl (.r rfl (zAs rfl rfl rfl (by omega)) (.a rfl rfl .nil))) ?_
      refine nxt (Q := fun _ _ => False) (z := i) (i - 1) ?_ ?_ ?_
      ·
       show (i - 1) ≤ zs.length
       omega
      ·
       show (i - 1) < i
       omega
      · exact zAI ⟨rfl, rfl, rfl, (congrArg (fun x => AV.sl 1 0 (pvE x).length) (by rw [show zs.length - (i - 1) = zs.length - i + 1 by omega, hstep, zCr h12' h9' ((zIS he2).trans (decide_eq_false h15))])), (zAJ (by omega)), trivial⟩ trivial ⟨(congrArg (fun x => some (4, x)) (by rw [show zs.length - (i - 1) = zs.length - i + 1 by omega, hstep, zCr h12' h9' ((zIS he2).trans (decide_eq_false h15))])), rfl, trivial⟩ rfl
     ·
      replace h15 : e2.user = e.user := of_decide_eq_true (zBI h15)
      refine zAL ?_
      refine zAA rfl (.r rfl (zAG rfl rfl rfl isAgg56 sizeOf56 (nle rfl)) (.run [5600] [] rfl (zAQ rfl 5600 underlying24 zBb (nle rfl) (by decide) rfl rfl rfl (.cons .v (.cons .v (.cons .v (.cons .v .nil)))) (by decide) rfl (by decide) rfl (by decide) rfl) (.m rfl rfl (.run [5600] [] rfl (zAq rfl 5600 (ib := 5600) (len := ([[PV.v (.string e.user), PV.v (.int .i64 e.seq), PV.v (.int .i64 e.kind), PV.v (.string e.value)]] ++ (pvE (zA0 l b zs (zs.length - i)))).length) rfl rfl (.row (len := 1) (xs := [[PV.v (.string e.user), PV.v (.int .i64 e.seq), PV.v (.int .i64 e.kind), PV.v (.string e.value)]]) rfl rfl (.inl rfl)) (.give (len := (pvE (zA0 l b zs (zs.length - i))).length) (xs := pvE (zA0 l b zs (zs.length - i))) rfl rfl) underlying24 (sk underlying24 rfl) zBb rfl (by decide) (by decide) (by decide) List.length_append (by simp only [maxLen, List.length_append, List.length_cons, List.length_nil, zAF]; omega) (by simp only [maxLen, List.length_append, List.length_cons, List.length_nil, zAF]; omega)) (.a rfl rfl .nil))))) ?_
      have hr16 : [[PV.v (.string e.user), PV.v (.int .i64 e.seq), PV.v (.int .i64 e.kind), PV.v (.string e.value)]] ++ (pvE (zA0 l b zs (zs.length - i))) = pvE (zA0 l b zs (zs.length - i + 1)) := by rw [hstep, zBw (fun hc => by rw [((zIS he2).trans (decide_eq_true h15))] at hc; cases hc.2.2)]; rfl
      have hp17 : (.sl 5600 0 (([[PV.v (.string e.user), PV.v (.int .i64 e.seq), PV.v (.int .i64 e.kind), PV.v (.string e.value)]] ++ (pvE (zA0 l b zs (zs.length - i)))).length) : AV) = .sl 5600 0 ((pvE (zA0 l b zs (zs.length - i + 1))).length) := by simp only [hr16]
      refine zAV (s' := mk [(0, .p none (.sl false 4 (pvE l))), (2, .vb b), (7, .sl 1400 0 ((pvI zs).length)), (8, .sl 5600 0 ((pvE (zA0 l b zs (zs.length - i + 1))).length)), (9, .vi ((i:Int) - 1)), (38, .vs e2.user), (39, .ptr 10 0), (40, .ptr 10 0), (41, .vs e.user), (42, .vb (decide (e2.user = e.user))), (49, .vb true), (52, .vb (decide (e2.user = e.user))), (53, .vb (!(decide (e2.user = e.user))))] [(10, [.vs e.user, .vi e.seq, .vi e.kind, .vs e.value])] [(1400, 1, pvI zs), (5600, 4, pvE (zA0 l b zs (zs.length - i + 1)))]) ?_ ?_
      · exact zAI ⟨rfl, rfl, rfl, hp17, rfl, rfl, rfl, rfl, rfl, rfl, rfl, rfl, rfl, trivial⟩ ⟨rfl, trivial⟩ ⟨rfl, (congrArg (fun x => some (4, x)) hr16), trivial⟩ rfl
      refine zAA rfl (.m rfl rfl (.r rfl (zAs rfl rfl rfl (by omega)) (.a rfl rfl .nil))) ?_
      refine nxt (Q := fun _ _ => False) (z := i) (i - 1) ?_ ?_ ?_
      ·
       show (i - 1) ≤ zs.length
       omega
      ·
       show (i - 1) < i
       omega
      · exact (zBi 5600 1 rfl rfl (by decide)).trans (zAI ⟨rfl, rfl, rfl, (congrArg (fun k => AV.sl 1 0 (pvE (zA0 l b zs k)).length) (show zs.length - i + 1 = zs.length - (i - 1) by omega)), (zAJ (by omega)), trivial⟩ trivial ⟨(congrArg (fun x => some (4, x)) (by rw [show zs.length - (i - 1) = zs.length - i + 1 by omega])), rfl, trivial⟩ rfl)
 ·
  replace h1 := of_decide_eq_false h1
  refine zAu ?_
  refine zAB (zAA rfl (.m rfl rfl (.a rfl rfl .nil)) ?_)
  have hr18 : pvE (zA0 l b zs (zs.length - i)) = pvE (zA0 l b zs zs.length) := by rw [show i = 0 by omega, Nat.sub_zero]
  have hp19 : (.sl 1 0 ((pvE (zA0 l b zs (zs.length - i))).length) : AV) = .sl 1 0 ((pvE (zA0 l b zs zs.length)).length) := by simp only [hr18]
  refine zAV (s' := mk [(6, .sl 1 0 ((pvE (zA0 l b zs zs.length)).length))] [] [(1, 4, pvE (zA0 l b zs zs.length))]) ?_ ?_
  · exact zAI ⟨hp19, trivial⟩ trivial ⟨(congrArg (fun x => some (4, x)) hr18), trivial⟩ rfl
  refine zAO ?_
  exact ends [_] [1] (.cons (.tmp rfl) .nil) (.cons (.one (.row (len := (pvE (zA0 l b zs zs.length)).length) (xs := pvE (zA0 l b zs zs.length)) rfl rfl) (.sl _ _ (FlatP.clean (zAg _)))) .nil) (by decide) trivial
end Go.Rl
namespace Go.Proofs
open Go.RowKit Go.Shelf
attribute [local go_sem] Oper.semAt_some
set_option maxRecDepth 100000 in
set_option maxHeartbeats 2000000 in
theorem Bw.back1_in (F : Fence) (n : Nat) (h7 : F.fn 98) (hro : F.round = none) (hn : 1 ≤ n) (l Bs : Nat) (zs : List Int) (hreach : zs.length ≤ 1000000000) (J Jx : List (Fin zs.length) → World → Prop)
  (hY : ∀ pre x W, J pre W → pre.length < zs.length → YieldAt F (n - 1) Tryz.prog l (Bw.enc zs x) W fun e W' =>
   (e = .returned (.bool true) ∧ J (pre ++ [x]) W' ∧ (Bw.Reads Bs zs W → Bw.Reads Bs zs W')) ∨ (e = .returned (.bool false) ∧ Jx (pre ++ [x]) W'))
  (W : World) (hR : Bw.Reads Bs zs W) (h0 : J [] W) :
  CallsIn F n Tryz.prog 98 #[.func (.yield l) #[] #[], .pointer (some ⟨Bs, 0, none⟩)] W fun e W' => (∃ v, e = .returned v) ∧
   ((∃ ys, ys = Bw.upto zs zs.length ∧ J ys W') ∨ (∃ pre, True ∧ Jx pre W')) := by
 obtain ⟨a, len, cap, hbox, hlen⟩ : ∃ a len cap, W.cell? ⟨Bs, 0, none⟩ = some (.slice a len cap) ∧ len = zs.length := by
  rcases hR with ⟨⟨A, c, h⟩, rfl⟩ | ⟨b, off, cap, h, _⟩
  · exact ⟨_, _, _, h, rfl⟩
  · exact ⟨_, _, _, h, rfl⟩
 subst hlen
 refine callsIn_of_wp Tryz.func98 rfl h7 ?_ hro
 simp only [Tryz.ntmps98, List.size_toArray, List.length_cons, List.length_nil, Nat.reduceAdd, Nat.reduceSub, Array.replicate_succ, Array.replicate_zero, List.push_toArray, List.append_toArray, List.nil_append, List.cons_append]
 gi_wp2
 gi_loopw [3] (fun i wr => ∃ k : Nat, k ≤ zs.length ∧ i = .int .i64 ((zs.length : Int) - 1 - k) ∧ J (Bw.upto zs k) wr ∧ Bw.Reads Bs zs wr)
  (fun i _ => (intOf i + 1).toNat)
 case atStart => exact ⟨0, Nat.zero_le _, by simp, h0, hR⟩
 case round =>
  obtain ⟨k, hk, rfl, hJs, hnx⟩ := hrel
  by_cases hlt : k < zs.length
  ·
   have hd : zs.length - 1 - k < zs.length := by omega
   obtain ⟨m, z, x, hml, hmi, hmu, hmx, hmc⟩ : ∃ (m : Nat) (z : Int) (x : Fin zs.length), m < zs.length ∧ ((zs.length : Int) - 1 - k) = (m : Int) ∧ Bw.upto zs (k + 1) = Bw.upto zs k ++ [x] ∧ Bw.enc zs x = #[.int .i64 (m : Int), .int .i64 z] ∧ zs[m]? = some z :=
    ⟨zs.length - 1 - k, zs[zs.length - 1 - k]'hd, ⟨zs.length - 1 - k, hd⟩, hd, by omega, Bw.upto_succ zs k hd, rfl, List.getElem?_eq_getElem hd⟩
   have hYx := hY _ x wr hJs (by rw [Bw.upto_length zs k hk]; exact hlt)
   rw [hmx] at hYx
   obtain ⟨fn, tmps, assign, body, hy, hRr⟩ := hYx
   obtain ⟨b, off, cap, hbx, hcs⟩ : ∃ b off cap, wr.cell? ⟨Bs, 0, none⟩ = some (.slice (some ⟨b, off, none⟩) zs.length cap) ∧ ∀ (j : Nat) (z : Int), zs[j]? = some z → wr.cell? ⟨b, off + j, none⟩ = some (.int .i64 z) := by
    rcases hnx with ⟨_, h⟩ | h
    · rw [h] at hlt; simp at hlt
    · exact h
   have hcx := hcs m _ hmc
   clear hmc hcs
   rw [hmi]
   gi_wp2
   refine hRr.mono ?_
   rintro e W3 (⟨rfl, hJ3, hk3⟩ | ⟨rfl, hJx3⟩)
   ·
    gi_wp2
    go_roundw
    case rel => exact ⟨k + 1, by omega, by simp; omega, by rw [hmu]; exact hJ3, hk3 hnx⟩
    case measure => simp [intOf]
   ·
    gi_wp2
    refine bodyPost_ret (results_none rfl _ _ _) rfl ?_
    exact ⟨⟨_, rfl⟩, .inr ⟨_, trivial, hJx3⟩⟩
  ·
   obtain rfl : k = zs.length := by omega
   gi_wp2
   go_end0
   exact ⟨⟨_, rfl⟩, .inl ⟨_, rfl, hJs⟩⟩
theorem Bw.try : Bw.Contract Tryz.prog 98 := fun F n h7 hro hn l Bs zs hreach J Jx hY W hR h0 => Bw.back1_in F n h7 hro hn l Bs zs hreach J Jx hY W hR h0
end Go.Proofs
namespace Go.Rl
open Go.Proofs Go.Proofs.Tryz
set_option maxRecDepth 1000000
set_option maxHeartbeats 2000000
theorem inf24 : (Tryz.prog.info? 24).map (fun i => (i.zero, i.size, i.bytes)) = some (some (.slice none 0 0), 1, 24) := by kernel_rfl
theorem en98 : En Tryz.prog 98 := zAn func98 (by decide) rfl
theorem en70 : En Tryz.prog 70 := zAn func70 (by decide) rfl
theorem en69 : En Tryz.prog 69 := zAn func69 (by decide) rfl
theorem en71 : En Tryz.prog 71 := zAn func71 (by decide) rfl
theorem zJ0 (zs : List Int) : ConS Tryz.prog 69 [.one (PV.sl false 1 (pvI zs))] [.one (.clo 98 [[PV.sl false 1 (pvI zs)]])] := by
 refine zMl func69 rfl rfl rfl rfl ?_
 refine zAB (zAA rfl (.run [] [1] rfl (zBT rfl 1 rfl rfl (by decide) rfl (by decide)) (.a rfl rfl .nil)) ?_)
 refine zAB (zAA rfl (.r rfl (zIE (bs := [1]) rfl rfl) (.a rfl rfl .nil)) ?_)
 refine zAV (wk_frb 1 rfl rfl) ?_
 refine zAV (s' := mk [(2, .p none (.clo 98 [[PV.sl false 1 (pvI zs)]]))] [] []) ?_ ?_
 · exact zAI ⟨rfl, trivial⟩ trivial trivial rfl
 refine zAO ?_
 exact endsS [_] [] (.cons (.tmp rfl) .nil) (.cons (.one (.of .clo)) .nil) (by decide)
theorem zIt (l : List Ent) (s : List Int) (b : Bool) (zs : List Int) (hzs : zs = zBE l (zAP s) l.length) (hl : l.length ≤ 2000000) (hs : s.length ≤ 2000000) (hok : zAp l = true) : ConSG none Tryz.prog 36 [.one (PV.sl false 4 (pvE l)), .one (PV.sl false 1 (pvI s)), .one (.v (.bool b))] [] [.one (.sl true 4 (pvE (zA0 l b zs zs.length)))] := by
 have hle := zAF l
 have hls := zAU s
 have hlz := zAU zs
 have hzl : zs.length ≤ l.length := by rw [hzs]; exact zDD _ _ _
 refine zMm func36 rfl rfl rfl rfl ?_
 refine zM3 ?_
 refine zAA rfl (.run [] [3] rfl (zBT rfl 3 rfl rfl (by decide) rfl (by decide)) (.run [] [5] rfl (zBT rfl 5 rfl rfl (by decide) rfl (by decide)) (.a rfl rfl .nil))) ?_
 refine zM3 ?_
 refine zAA rfl (.run [1400] [] rfl (zAQ rfl 1400 underlying24 zBb (nle rfl) (by decide) rfl rfl rfl .nil (by decide) rfl (by decide) rfl (by decide) rfl) (.run [] [7] rfl (zAl rfl 7 inf24 rfl (by decide) rfl (by decide)) (.run [] [8] rfl (zAl rfl 8 inf9 rfl (by decide) rfl (by decide)) (.run [] [9] rfl (zAl rfl 9 inf4 rfl (by decide) rfl (by decide)) (.r rfl (zAE rfl rfl rfl rfl rfl sizeOf24 rfl (nle rfl)) (.r rfl (zAE rfl rfl rfl rfl rfl sizeOf9 rfl (nle rfl)) (.r rfl (zAE rfl rfl rfl rfl rfl sizeOf4 rfl (nle rfl)) .nil))))))) ?_
 refine zIA Bw.try en98 (zs := zs) (o := false) (by omega) (fun pre => mk [(3, .ptr 3 0), (5, .ptr 5 0), (7, .ptr 7 0), (8, .ptr 8 0), (9, .ptr 9 0), (18, .p none (.clo 98 [[PV.sl false 1 (pvI zs)]]))] [(3, [.p none (.sl false 4 (pvE l))]), (5, [.vb b]), (7, [.sl 1400 0 ((pvE (zCt l b zs pre).reverse).length)]), (8, [.vs (zDZ (zCt l b zs pre))]), (9, [.vb (anyE (zCt l b zs pre))])] [(1400, 4, pvE (zCt l b zs pre).reverse)]) (fun pre x => St.bw (mk [(3, .ptr 3 0), (5, .ptr 5 0), (7, .ptr 7 0), (8, .ptr 8 0), (9, .ptr 9 0), (18, .p none (.clo 98 [[PV.sl false 1 (pvI zs)]]))] [(3, [.p none (.sl false 4 (pvE l))]), (5, [.vb b]), (7, [.sl 1400 0 ((pvE (zCt l b zs pre).reverse).length)]), (8, [.vs (zDZ (zCt l b zs pre))]), (9, [.vb (anyE (zCt l b zs pre))])] [(1400, 4, pvE (zCt l b zs pre).reverse)]) 19 20 11 zs x) (fun j => Nat.ble j 9 || Nat.beq j 18) (asgT 20 11) (fun pre => rfl) (fun l nn a0 W K hK => zMu rfl rfl rfl a0 W K hK) (fun pre x w0 I L a W hd h => rel_bw hd h (Nat.le_of_ble_eq_true rfl) (Nat.le_of_ble_eq_true rfl) (Nat.le_of_ble_eq_true rfl)) (fun a x => zPI rfl rfl rfl) ?_ ?_ ?_
 ·
  intro l0 nn pre x hpl
  show TrI _ _ _ _ _ _ _ (St.bw (mk [(3, .ptr 3 0), (5, .ptr 5 0), (7, .ptr 7 0), (8, .ptr 8 0), (9, .ptr 9 0), (18, .p none (.clo 98 [[PV.sl false 1 (pvI zs)]]))] [(3, [.p none (.sl false 4 (pvE l))]), (5, [.vb b]), (7, [.sl 1400 0 ((pvE (zCt l b zs pre).reverse).length)]), (8, [.vs (zDZ (zCt l b zs pre))]), (9, [.vb (anyE (zCt l b zs pre))])] [(1400, 4, pvE (zCt l b zs pre).reverse)]) 19 20 11 zs x) (fun e s' => e = .normal ∧ Wk _ (s'.keepT _) (mk [(3, .ptr 3 0), (5, .ptr 5 0), (7, .ptr 7 0), (8, .ptr 8 0), (9, .ptr 9 0), (18, .p none (.clo 98 [[PV.sl false 1 (pvI zs)]]))] [(3, [.p none (.sl false 4 (pvE l))]), (5, [.vb b]), (7, [.sl 1400 0 ((pvE (zCt l b zs (pre ++ [x])).reverse).length)]), (8, [.vs (zDZ (zCt l b zs (pre ++ [x])))]), (9, [.vb (anyE (zCt l b zs (pre ++ [x])))])] [(1400, 4, pvE (zCt l b zs (pre ++ [x])).reverse)]))
  have hx0 : zs[x.1]? = some (zs[x.1]'x.2) := List.getElem?_eq_getElem x.2
  obtain ⟨q, hq, hql⟩ : ∃ q : Nat, zs[x.1]'x.2 = (q : Int) ∧ q < l.length := by have hm : zs[x.1]'x.2 ∈ zBE l (zAP s) l.length := (by rw [← hzs]; exact List.mem_of_getElem? hx0); obtain ⟨k, h1, _, h3⟩ := zDY (n := l.length) hm; exact ⟨k, h1, h3⟩
  obtain ⟨e, he⟩ : ∃ e, l[q]? = some e := ⟨_, List.getElem?_eq_getElem hql⟩
  have hc0 : zCt l b zs (pre ++ [x]) = zEg b (zCt l b zs pre) e := zHx l b zs pre x (by rw [hq]; exact he)
  rw [hc0]
  have hol := zJp l b zs pre
  generalize zCt l b zs pre = out at hol ⊢
  have hle5 := zAF out.reverse
  have hle6 : out.reverse.length = out.length := List.length_reverse
  refine zFs (s' := mk [(3, .ptr 3 0), (5, .ptr 5 0), (7, .ptr 7 0), (8, .ptr 8 0), (9, .ptr 9 0), (11, .vi (q:Int)), (18, .p none (.clo 98 [[PV.sl false 1 (pvI zs)]]))] [(3, [.p none (.sl false 4 (pvE l))]), (5, [.vb b]), (7, [.sl 1400 0 ((pvE out.reverse).length)]), (8, [.vs (zDZ out)]), (9, [.vb (anyE out)])] [(1400, 4, pvE out.reverse)]) (zAI ⟨rfl, rfl, rfl, rfl, rfl, (zAJ hq), rfl, trivial⟩ ⟨rfl, rfl, rfl, rfl, rfl, trivial⟩ ⟨rfl, trivial⟩ rfl) ?_
  refine zM1 ?_
  refine zFa ?_
  refine zCG rfl rfl (.r rfl (zAD rfl rfl rfl isAgg24 rfl) (.m rfl rfl (.r rfl (zAf rfl rfl rfl underlying24 sizeOf56 rfl (by omega) (zAw he)) (.r rfl (zBA rfl rfl isAgg56 sizeOf56 (nle rfl)) (.run [] [12] rfl (zAl rfl 12 zBb rfl (by decide) rfl (by decide)) (.r rfl (zAE rfl rfl rfl rfl rfl sizeOf56 rfl (nle rfl)) .nil)))))) ?_
  refine zFa ?_
  rcases bfc (anyE out) with h1 | h1
  ·
   have h1' := h1
   refine zCG rfl rfl (.r rfl (zAX (zAD rfl rfl rfl isAgg4 rfl) (zAM h1)) (.m rfl rfl (.not rfl (.not rfl (.not rfl (.not rfl (.not rfl (.r rfl (zAT (t := false) rfl rfl) (.a rfl rfl .nil))))))))) ?_
   refine zFa ?_
   refine zFa ?_
   refine zFs (s' := mk [(3, .ptr 3 0), (5, .ptr 5 0), (7, .ptr 7 0), (8, .ptr 8 0), (9, .ptr 9 0), (12, .ptr 12 0), (13, .vb false), (18, .p none (.clo 98 [[PV.sl false 1 (pvI zs)]]))] [(3, [.p none (.sl false 4 (pvE l))]), (5, [.vb b]), (7, [.sl 1400 0 ((pvE out.reverse).length)]), (8, [.vs (zDZ out)]), (9, [.vb (anyE out)]), (12, [.vs e.user, .vi e.seq, .vi e.kind, .vs e.value])] [(1400, 4, pvE out.reverse)]) ?_ ?_
   · exact zAI ⟨rfl, rfl, rfl, rfl, rfl, rfl, rfl, rfl, trivial⟩ ⟨rfl, rfl, rfl, rfl, rfl, rfl, trivial⟩ ⟨rfl, trivial⟩ rfl
   rcases bfc b with h2 | h2
   ·
    have h2' := h2
    refine zCG rfl rfl (.r rfl (zAX (zAD rfl rfl rfl isAgg4 rfl) (zAM h2)) (.m rfl rfl (.not rfl (.not rfl (.not rfl (.not rfl (.r rfl (zAT (t := false) rfl rfl) (.m rfl rfl (.not rfl (.not rfl (.r rfl (zAT (t := false) rfl rfl) .nil))))))))))) ?_
    refine zHP (t := false) rfl (fun h => nomatch h) (fun _ => ?_)
    refine zE7 ?_
    refine zFs (s' := mk [(3, .ptr 3 0), (5, .ptr 5 0), (7, .ptr 7 0), (8, .ptr 8 0), (9, .ptr 9 0), (12, .ptr 12 0), (18, .p none (.clo 98 [[PV.sl false 1 (pvI zs)]]))] [(3, [.p none (.sl false 4 (pvE l))]), (5, [.vb b]), (7, [.sl 1400 0 ((pvE out.reverse).length)]), (8, [.vs (zDZ out)]), (9, [.vb (anyE out)]), (12, [.vs e.user, .vi e.seq, .vi e.kind, .vs e.value])] [(1400, 4, pvE out.reverse)]) ?_ ?_
    · exact zAI ⟨rfl, rfl, rfl, rfl, rfl, rfl, rfl, trivial⟩ ⟨rfl, rfl, rfl, rfl, rfl, rfl, trivial⟩ ⟨rfl, trivial⟩ rfl
    refine zC6 rfl zBD rfl (.r rfl (zAD rfl rfl rfl isAgg24 rfl) (.r rfl (zAG rfl rfl rfl isAgg56 sizeOf56 (nle rfl)) (.run [4600] [] rfl (zAQ rfl 4600 underlying24 zBb (nle rfl) (by decide) rfl rfl rfl (.cons .v (.cons .v (.cons .v (.cons .v .nil)))) (by decide) rfl (by decide) rfl (by decide) rfl) (.run [1400] [] rfl (zAq rfl 1400 (ib := 1400) (len := ((pvE out.reverse) ++ [[PV.v (.string e.user), PV.v (.int .i64 e.seq), PV.v (.int .i64 e.kind), PV.v (.string e.value)]]).length) rfl rfl (.row (len := (pvE out.reverse).length) (xs := pvE out.reverse) rfl rfl (.inl rfl)) (.give (len := 1) (xs := [[PV.v (.string e.user), PV.v (.int .i64 e.seq), PV.v (.int .i64 e.kind), PV.v (.string e.value)]]) rfl rfl) underlying24 (sk underlying24 rfl) zBb rfl (by decide) (by decide) (by decide) List.length_append (by simp only [maxLen, List.length_append, List.length_cons, List.length_nil, zAF]; omega) (by simp only [maxLen, List.length_append, List.length_cons, List.length_nil, zAF]; omega)) (.r rfl (zAC rfl rfl underlying56 rfl sizeOf54 (by decide)) (.r rfl (zAC rfl rfl underlying54 rfl sizeOf9 (by decide)) (.r rfl (zAD rfl rfl rfl isAgg9 rfl) (.r rfl (zAE rfl rfl rfl rfl rfl sizeOf24 rfl (nle rfl)) (.r rfl (zAE rfl rfl rfl rfl rfl sizeOf9 rfl (nle rfl)) (.r rfl (zAE rfl rfl rfl rfl rfl sizeOf4 rfl (nle rfl)) .nil)))))))))) (by kernel_rfl) ?_
    refine ⟨rfl, ?_⟩
    rw [zBw (fun hc => by rw [h2'] at hc; cases hc.1)]
    exact zAI ⟨rfl, rfl, rfl, rfl, rfl, rfl, trivial⟩ ⟨rfl, rfl, (congrArg (fun x : List (List PV) => some [AV.sl 1400 0 x.length]) (zCO out e)), rfl, rfl, trivial⟩ ⟨(congrArg (fun x => some (4, x)) (zCO out e)), trivial⟩ rfl
   ·
    have h2' := h2
    rcases bfc (decide (e.kind = 0)) with h3 | h3
    ·
     have h3' := h3
     replace h3' := of_decide_eq_false h3'
     refine zCG rfl rfl (.r rfl (zAX (zAD rfl rfl rfl isAgg4 rfl) (zAM h2)) (.m rfl rfl (.r rfl (zAC rfl rfl underlying56 rfl sizeOf54 (by decide)) (.r rfl (zAC rfl rfl underlying54 rfl sizeOf2 (by decide)) (.r rfl (zAD rfl rfl rfl isAgg2 rfl) (.r rfl (zAX (zA9 rfl rfl rfl) (zAM h3)) (.r rfl (zAT (t := true) rfl rfl) (.m rfl rfl (.not rfl (.not rfl (.r rfl (zAT (t := false) rfl rfl) .nil))))))))))) ?_
     refine zHP (t := false) rfl (fun h => nomatch h) (fun _ => ?_)
     refine zE7 ?_
     refine zFs (s' := mk [(3, .ptr 3 0), (5, .ptr 5 0), (7, .ptr 7 0), (8, .ptr 8 0), (9, .ptr 9 0), (12, .ptr 12 0), (18, .p none (.clo 98 [[PV.sl false 1 (pvI zs)]]))] [(3, [.p none (.sl false 4 (pvE l))]), (5, [.vb b]), (7, [.sl 1400 0 ((pvE out.reverse).length)]), (8, [.vs (zDZ out)]), (9, [.vb (anyE out)]), (12, [.vs e.user, .vi e.seq, .vi e.kind, .vs e.value])] [(1400, 4, pvE out.reverse)]) ?_ ?_
     · exact zAI ⟨rfl, rfl, rfl, rfl, rfl, rfl, rfl, trivial⟩ ⟨rfl, rfl, rfl, rfl, rfl, rfl, trivial⟩ ⟨rfl, trivial⟩ rfl
     refine zC6 rfl zBD rfl (.r rfl (zAD rfl rfl rfl isAgg24 rfl) (.r rfl (zAG rfl rfl rfl isAgg56 sizeOf56 (nle rfl)) (.run [4600] [] rfl (zAQ rfl 4600 underlying24 zBb (nle rfl) (by decide) rfl rfl rfl (.cons .v (.cons .v (.cons .v (.cons .v .nil)))) (by decide) rfl (by decide) rfl (by decide) rfl) (.run [1400] [] rfl (zAq rfl 1400 (ib := 1400) (len := ((pvE out.reverse) ++ [[PV.v (.string e.user), PV.v (.int .i64 e.seq), PV.v (.int .i64 e.kind), PV.v (.string e.value)]]).length) rfl rfl (.row (len := (pvE out.reverse).length) (xs := pvE out.reverse) rfl rfl (.inl rfl)) (.give (len := 1) (xs := [[PV.v (.string e.user), PV.v (.int .i64 e.seq), PV.v (.int .i64 e.kind), PV.v (.string e.value)]]) rfl rfl) underlying24 (sk underlying24 rfl) zBb rfl (by decide) (by decide) (by decide) List.length_append (by simp only [maxLen, List.length_append, List.length_cons, List.length_nil, zAF]; omega) (by simp only [maxLen, List.length_append, List.length_cons, List.length_nil, zAF]; omega)) (.r rfl (zAC rfl rfl underlying56 rfl sizeOf54 (by decide)) (.r rfl (zAC rfl rfl underlying54 rfl sizeOf9 (by decide)) (.r rfl (zAD rfl rfl rfl isAgg9 rfl) (.r rfl (zAE rfl rfl rfl rfl rfl sizeOf24 rfl (nle rfl)) (.r rfl (zAE rfl rfl rfl rfl rfl sizeOf9 rfl (nle rfl)) (.r rfl (zAE rfl rfl rfl rfl rfl sizeOf4 rfl (nle rfl)) .nil)))))))))) (by kernel_rfl) ?_
     refine ⟨rfl, ?_⟩
     rw [zBw (fun hc => h3' hc.2.1)]
     exact zAI ⟨rfl, rfl, rfl, rfl, rfl, rfl, trivial⟩ ⟨rfl, rfl, (congrArg (fun x : List (List PV) => some [AV.sl 1400 0 x.length]) (zCO out e)), rfl, rfl, trivial⟩ ⟨(congrArg (fun x => some (4, x)) (zCO out e)), trivial⟩ rfl
    ·
     have h3' := h3
     replace h3' := of_decide_eq_true h3'
     refine zCG rfl rfl (.r rfl (zAX (zAD rfl rfl rfl isAgg4 rfl) (zAM h2)) (.m rfl rfl (.r rfl (zAC rfl rfl underlying56 rfl sizeOf54 (by decide)) (.r rfl (zAC rfl rfl underlying54 rfl sizeOf2 (by decide)) (.r rfl (zAD rfl rfl rfl isAgg2 rfl) (.r rfl (zAX (zA9 rfl rfl rfl) (zAM h3)) (.r rfl (zAT (t := true) rfl rfl) (.m rfl rfl (.m rfl rfl (.r rfl (zA3 (b := false) rfl rfl) (.r rfl (zAT (t := true) rfl rfl) .nil))))))))))) ?_
     refine zHP (t := true) rfl (fun _ => ?_) (fun h => nomatch h)
     refine zLA ?_
     refine ⟨rfl, ?_⟩
     rw [zCr h2' h3' (zO4 h1')]
     exact zAI ⟨rfl, rfl, rfl, rfl, rfl, rfl, trivial⟩ ⟨rfl, rfl, rfl, rfl, rfl, trivial⟩ ⟨rfl, trivial⟩ rfl
  ·
   have h1' := h1
   refine zCG rfl rfl (.r rfl (zAX (zAD rfl rfl rfl isAgg4 rfl) (zAM h1)) (.m rfl rfl (.r rfl (zAC rfl rfl underlying56 rfl sizeOf54 (by decide)) (.r rfl (zAC rfl rfl underlying54 rfl sizeOf9 (by decide)) (.r rfl (zAD rfl rfl rfl isAgg9 rfl) (.r rfl (zAD rfl rfl rfl isAgg9 rfl) (.r rfl (zC7 rfl rfl rfl) (.r rfl (zAT (t := true) rfl rfl) (.a rfl rfl .nil))))))))) ?_
   refine zFa ?_
   refine zFa ?_
   refine zFs (s' := mk [(3, .ptr 3 0), (5, .ptr 5 0), (7, .ptr 7 0), (8, .ptr 8 0), (9, .ptr 9 0), (12, .ptr 12 0), (13, .vb (decide (e.user = (zDZ out)))), (18, .p none (.clo 98 [[PV.sl false 1 (pvI zs)]]))] [(3, [.p none (.sl false 4 (pvE l))]), (5, [.vb b]), (7, [.sl 1400 0 ((pvE out.reverse).length)]), (8, [.vs (zDZ out)]), (9, [.vb (anyE out)]), (12, [.vs e.user, .vi e.seq, .vi e.kind, .vs e.value])] [(1400, 4, pvE out.reverse)]) ?_ ?_
   · exact zAI ⟨rfl, rfl, rfl, rfl, rfl, rfl, rfl, rfl, trivial⟩ ⟨rfl, rfl, rfl, rfl, rfl, rfl, trivial⟩ ⟨rfl, trivial⟩ rfl
   rcases bfc b with h4 | h4
   ·
    have h4' := h4
    refine zCG rfl rfl (.r rfl (zAX (zAD rfl rfl rfl isAgg4 rfl) (zAM h4)) (.m rfl rfl (.not rfl (.not rfl (.not rfl (.not rfl (.r rfl (zAT (t := false) rfl rfl) (.m rfl rfl (.not rfl (.not rfl (.r rfl (zAT (t := false) rfl rfl) .nil))))))))))) ?_
    refine zHP (t := false) rfl (fun h => nomatch h) (fun _ => ?_)
    refine zE7 ?_
    refine zFs (s' := mk [(3, .ptr 3 0), (5, .ptr 5 0), (7, .ptr 7 0), (8, .ptr 8 0), (9, .ptr 9 0), (12, .ptr 12 0), (18, .p none (.clo 98 [[PV.sl false 1 (pvI zs)]]))] [(3, [.p none (.sl false 4 (pvE l))]), (5, [.vb b]), (7, [.sl 1400 0 ((pvE out.reverse).length)]), (8, [.vs (zDZ out)]), (9, [.vb (anyE out)]), (12, [.vs e.user, .vi e.seq, .vi e.kind, .vs e.value])] [(1400, 4, pvE out.reverse)]) ?_ ?_
    · exact zAI ⟨rfl, rfl, rfl, rfl, rfl, rfl, rfl, trivial⟩ ⟨rfl, rfl, rfl, rfl, rfl, rfl, trivial⟩ ⟨rfl, trivial⟩ rfl
    refine zC6 rfl zBD rfl (.r rfl (zAD rfl rfl rfl isAgg24 rfl) (.r rfl (zAG rfl rfl rfl isAgg56 sizeOf56 (nle rfl)) (.run [4600] [] rfl (zAQ rfl 4600 underlying24 zBb (nle rfl) (by decide) rfl rfl rfl (.cons .v (.cons .v (.cons .v (.cons .v .nil)))) (by decide) rfl (by decide) rfl (by decide) rfl) (.run [1400] [] rfl (zAq rfl 1400 (ib := 1400) (len := ((pvE out.reverse) ++ [[PV.v (.string e.user), PV.v (.int .i64 e.seq), PV.v (.int .i64 e.kind), PV.v (.string e.value)]]).length) rfl rfl (.row (len := (pvE out.reverse).length) (xs := pvE out.reverse) rfl rfl (.inl rfl)) (.give (len := 1) (xs := [[PV.v (.string e.user), PV.v (.int .i64 e.seq), PV.v (.int .i64 e.kind), PV.v (.string e.value)]]) rfl rfl) underlying24 (sk underlying24 rfl) zBb rfl (by decide) (by decide) (by decide) List.length_append (by simp only [maxLen, List.length_append, List.length_cons, List.length_nil, zAF]; omega) (by simp only [maxLen, List.length_append, List.length_cons, List.length_nil, zAF]; omega)) (.r rfl (zAC rfl rfl underlying56 rfl sizeOf54 (by decide)) (.r rfl (zAC rfl rfl underlying54 rfl sizeOf9 (by decide)) (.r rfl (zAD rfl rfl rfl isAgg9 rfl) (.r rfl (zAE rfl rfl rfl rfl rfl sizeOf24 rfl (nle rfl)) (.r rfl (zAE rfl rfl rfl rfl rfl sizeOf9 rfl (nle rfl)) (.r rfl (zAE rfl rfl rfl rfl rfl sizeOf4 rfl (nle rfl)) .nil)))))))))) (by kernel_rfl) ?_
    refine ⟨rfl, ?_⟩
    rw [zBw (fun hc => by rw [h4'] at hc; cases hc.1)]
    exact zAI ⟨rfl, rfl, rfl, rfl, rfl, rfl, trivial⟩ ⟨rfl, rfl, (congrArg (fun x : List (List PV) => some [AV.sl 1400 0 x.length]) (zCO out e)), rfl, rfl, trivial⟩ ⟨(congrArg (fun x => some (4, x)) (zCO out e)), trivial⟩ rfl
   ·
    have h4' := h4
    rcases bfc (decide (e.kind = 0)) with h5 | h5
    ·
     have h5' := h5
     replace h5' := of_decide_eq_false h5'
     refine zCG rfl rfl (.r rfl (zAX (zAD rfl rfl rfl isAgg4 rfl) (zAM h4)) (.m rfl rfl (.r rfl (zAC rfl rfl underlying56 rfl sizeOf54 (by decide)) (.r rfl (zAC rfl rfl underlying54 rfl sizeOf2 (by decide)) (.r rfl (zAD rfl rfl rfl isAgg2 rfl) (.r rfl (zAX (zA9 rfl rfl rfl) (zAM h5)) (.r rfl (zAT (t := true) rfl rfl) (.m rfl rfl (.not rfl (.not rfl (.r rfl (zAT (t := false) rfl rfl) .nil))))))))))) ?_
     refine zHP (t := false) rfl (fun h => nomatch h) (fun _ => ?_)
     refine zE7 ?_
     refine zFs (s' := mk [(3, .ptr 3 0), (5, .ptr 5 0), (7, .ptr 7 0), (8, .ptr 8 0), (9, .ptr 9 0), (12, .ptr 12 0), (18, .p none (.clo 98 [[PV.sl false 1 (pvI zs)]]))] [(3, [.p none (.sl false 4 (pvE l))]), (5, [.vb b]), (7, [.sl 1400 0 ((pvE out.reverse).length)]), (8, [.vs (zDZ out)]), (9, [.vb (anyE out)]), (12, [.vs e.user, .vi e.seq, .vi e.kind, .vs e.value])] [(1400, 4, pvE out.reverse)]) ?_ ?_
     · exact zAI ⟨rfl, rfl, rfl, rfl, rfl, rfl, rfl, trivial⟩ ⟨rfl, rfl, rfl, rfl, rfl, rfl, trivial⟩ ⟨rfl, trivial⟩ rfl
     refine zC6 rfl zBD rfl (.r rfl (zAD rfl rfl rfl isAgg24 rfl) (.r rfl (zAG rfl rfl rfl isAgg56 sizeOf56 (nle rfl)) (.run [4600] [] rfl (zAQ rfl 4600 underlying24 zBb (nle rfl) (by decide) rfl rfl rfl (.cons .v (.cons .v (.cons .v (.cons .v .nil)))) (by decide) rfl (by decide) rfl (by decide) rfl) (.run [1400] [] rfl (zAq rfl 1400 (ib := 1400) (len := ((pvE out.reverse) ++ [[PV.v (.string e.user), PV.v (.int .i64 e.seq), PV.v (.int .i64 e.kind), PV.v (.string e.value)]]).length) rfl rfl (.row (len := (pvE out.reverse).length) (xs := pvE out.reverse) rfl rfl (.inl rfl)) (.give (len := 1) (xs := [[PV.v (.string e.user), PV.v (.int .i64 e.seq), PV.v (.int .i64 e.kind), PV.v (.string e.value)]]) rfl rfl) underlying24 (sk underlying24 rfl) zBb rfl (by decide) (by decide) (by decide) List.length_append (by simp only [maxLen, List.length_append, List.length_cons, List.length_nil, zAF]; omega) (by simp only [maxLen, List.length_append, List.length_cons, List.length_nil, zAF]; omega)) (.r rfl (zAC rfl rfl underlying56 rfl sizeOf54 (by decide)) (.r rfl (zAC rfl rfl underlying54 rfl sizeOf9 (by decide)) (.r rfl (zAD rfl rfl rfl isAgg9 rfl) (.r rfl (zAE rfl rfl rfl rfl rfl sizeOf24 rfl (nle rfl)) (.r rfl (zAE rfl rfl rfl rfl rfl sizeOf9 rfl (nle rfl)) (.r rfl (zAE rfl rfl rfl rfl rfl sizeOf4 rfl (nle rfl)) .nil)))))))))) (by kernel_rfl) ?_
     refine ⟨rfl, ?_⟩
     rw [zBw (fun hc => h5' hc.2.1)]
     exact zAI ⟨rfl, rfl, rfl, rfl, rfl, rfl, trivial⟩ ⟨rfl, rfl, (congrArg (fun x : List (List PV) => some [AV.sl 1400 0 x.length]) (zCO out e)), rfl, rfl, trivial⟩ ⟨(congrArg (fun x => some (4, x)) (zCO out e)), trivial⟩ rfl
    ·
     have h5' := h5
     replace h5' := of_decide_eq_true h5'
     refine zCG rfl rfl (.r rfl (zAX (zAD rfl rfl rfl isAgg4 rfl) (zAM h4)) (.m rfl rfl (.r rfl (zAC rfl rfl underlying56 rfl sizeOf54 (by decide)) (.r rfl (zAC rfl rfl underlying54 rfl sizeOf2 (by decide)) (.r rfl (zAD rfl rfl rfl isAgg2 rfl) (.r rfl (zAX (zA9 rfl rfl rfl) (zAM h5)) (.r rfl (zAT (t := true) rfl rfl) (.m rfl rfl (.m rfl rfl (.r rfl (zA3 (b := decide (e.user = (zDZ out))) rfl rfl) (.r rfl (zAT (t := true) rfl rfl) .nil))))))))))) ?_
     refine zHP (t := (!(decide (e.user = (zDZ out))))) rfl (fun h6 => ?_) (fun h6 => ?_)
     ·
      replace h6 : ¬ (e.user = (zDZ out)) := of_decide_eq_false (zBH h6)
      refine zLA ?_
      refine ⟨rfl, ?_⟩
      rw [zCr h4' h5' ((zLg h1').trans (decide_eq_false h6))]
      exact zAI ⟨rfl, rfl, rfl, rfl, rfl, rfl, trivial⟩ ⟨rfl, rfl, rfl, rfl, rfl, trivial⟩ ⟨rfl, trivial⟩ rfl
     ·
      replace h6 : e.user = (zDZ out) := of_decide_eq_true (zBI h6)
      refine zE7 ?_
      refine zFs (s' := mk [(3, .ptr 3 0), (5, .ptr 5 0), (7, .ptr 7 0), (8, .ptr 8 0), (9, .ptr 9 0), (12, .ptr 12 0), (18, .p none (.clo 98 [[PV.sl false 1 (pvI zs)]]))] [(3, [.p none (.sl false 4 (pvE l))]), (5, [.vb b]), (7, [.sl 1400 0 ((pvE out.reverse).length)]), (8, [.vs (zDZ out)]), (9, [.vb (anyE out)]), (12, [.vs e.user, .vi e.seq, .vi e.kind, .vs e.value])] [(1400, 4, pvE out.reverse)]) ?_ ?_
      · exact zAI ⟨rfl, rfl, rfl, rfl, rfl, rfl, rfl, trivial⟩ ⟨rfl, rfl, rfl, rfl, rfl, rfl, trivial⟩ ⟨rfl, trivial⟩ rfl
      refine zC6 rfl zBD rfl (.r rfl (zAD rfl rfl rfl isAgg24 rfl) (.r rfl (zAG rfl rfl rfl isAgg56 sizeOf56 (nle rfl)) (.run [4600] [] rfl (zAQ rfl 4600 underlying24 zBb (nle rfl) (by decide) rfl rfl rfl (.cons .v (.cons .v (.cons .v (.cons .v .nil)))) (by decide) rfl (by decide) rfl (by decide) rfl) (.run [1400] [] rfl (zAq rfl 1400 (ib := 1400) (len := ((pvE out.reverse) ++ [[PV.v (.string e.user), PV.v (.int .i64 e.seq), PV.v (.int .i64 e.kind), PV.v (.string e.value)]]).length) rfl rfl (.row (len := (pvE out.reverse).length) (xs := pvE out.reverse) rfl rfl (.inl rfl)) (.give (len := 1) (xs := [[PV.v (.string e.user), PV.v (.int .i64 e.seq), PV.v (.int .i64 e.kind), PV.v (.string e.value)]]) rfl rfl) underlying24 (sk underlying24 rfl) zBb rfl (by decide) (by decide) (by decide) List.length_append (by simp only [maxLen, List.length_append, List.length_cons, List.length_nil, zAF]; omega) (by simp only [maxLen, List.length_append, List.length_cons, List.length_nil, zAF]; omega)) (.r rfl (zAC rfl rfl underlying56 rfl sizeOf54 (by decide)) (.r rfl (zAC rfl rfl underlying54 rfl sizeOf9 (by decide)) (.r rfl (zAD rfl rfl rfl isAgg9 rfl) (.r rfl (zAE rfl rfl rfl rfl rfl sizeOf24 rfl (nle rfl)) (.r rfl (zAE rfl rfl rfl rfl rfl sizeOf9 rfl (nle rfl)) (.r rfl (zAE rfl rfl rfl rfl rfl sizeOf4 rfl (nle rfl)) .nil)))))))))) (by kernel_rfl) ?_
      refine ⟨rfl, ?_⟩
      rw [zBw (fun hc => by rw [((zLg h1').trans (decide_eq_true h6))] at hc; cases hc.2.2)]
      exact zAI ⟨rfl, rfl, rfl, rfl, rfl, rfl, trivial⟩ ⟨rfl, rfl, (congrArg (fun x : List (List PV) => some [AV.sl 1400 0 x.length]) (zCO out e)), rfl, rfl, trivial⟩ ⟨(congrArg (fun x => some (4, x)) (zCO out e)), trivial⟩ rfl
 ·
  refine zAA rfl (.r rfl (zAD rfl rfl rfl isAgg24 rfl) (.m rfl rfl (.run [1700] [] rfl (zLH rfl 1700 (X := []) en70 rfl (.cons (.one .sl) (.cons (.one .sl) .nil)) (by decide) all_nil (con_frz (by have h := zMT l s (by omega) (by omega) hok; rw [← hzs] at h; exact h)) rfl (nle rfl)) (.run [1800] [] rfl (zLH rfl 1800 (X := []) en69 rfl (.cons (.one .sl) .nil) (by decide) all_nil (zJ0 zs) rfl (nle rfl)) .nil)))) ?_
  exact zAI ⟨rfl, rfl, rfl, rfl, rfl, rfl, trivial⟩ ⟨rfl, rfl, rfl, rfl, rfl, trivial⟩ ⟨rfl, trivial⟩ rfl
 ·
  show Tr _ _ _ _ (mk [(3, .ptr 3 0), (5, .ptr 5 0), (7, .ptr 7 0), (8, .ptr 8 0), (9, .ptr 9 0), (18, .p none (.clo 98 [[PV.sl false 1 (pvI zs)]]))] [(3, [.p none (.sl false 4 (pvE l))]), (5, [.vb b]), (7, [.sl 1400 0 ((pvE (zA0 l b zs zs.length).reverse).length)]), (8, [.vs (zDZ (zA0 l b zs zs.length))]), (9, [.vb (anyE (zA0 l b zs zs.length))])] [(1400, 4, pvE (zA0 l b zs zs.length).reverse)]) _
  have hcl := zFP l b zs (k := zs.length) (Nat.le_refl _)
  have hle5 := zAF (zA0 l b zs zs.length).reverse
  have hle6 : (zA0 l b zs zs.length).reverse.length = (zA0 l b zs zs.length).length := List.length_reverse
  refine zAB (zAA rfl (.r rfl (zAD rfl rfl rfl isAgg24 rfl) (.run [1400] [] rfl (zAK rfl 5200 (X := [1400]) en71 rfl (.val nod) (.cons (.one (.own (len := (pvE (zA0 l b zs zs.length).reverse).length) (xs := pvE (zA0 l b zs zs.length).reverse) rfl rfl)) .nil) (by decide) (all_cons rfl all_nil) (.keep (xs := pvE (zA0 l b zs zs.length).reverse) rfl (FlatP.nf (zAg _)) .nil) (zJG ((zA0 l b zs zs.length).reverse) (by omega)) rfl rfl (nle rfl)) .nil)) ?_)
  refine zAB (zAA rfl (.r rfl (zAD rfl rfl rfl isAgg24 rfl) (.a rfl rfl .nil)) ?_)
  refine zAO ?_
  exact endsSG [_] [1400] (.cons (.tmp rfl) .nil) (.cons (.one (.of (.row (len := (pvE (zA0 l b zs zs.length).reverse).length) (xs := pvE (zA0 l b zs zs.length)) (congrArg (fun x => some (4, pvE x)) (List.reverse_reverse _)) (by rw [hle5, hle6, zAF])))) .nil) (by decide) trivial
end Go.Rl
namespace Go.Rl
open Go.Proofs
end Go.Rl
namespace Go.Rl
def pvRd (x : Value × Nat) : List (List PV) := [[.v x.1, .v (.int .i64 x.2)]]
theorem zAc (x : Value × Nat) : FlatP (pvRd x) := fun es he p hp => by
 simp only [pvRd, List.mem_singleton] at he
 subst he
 simp only [List.mem_cons, List.not_mem_nil, or_false] at hp
 rcases hp with rfl | rfl <;> rfl
theorem zMO {a b : Value} : ∀ p ∈ ([.v a, .v b] : List PV), Clean p := fun p hp => by
 simp only [List.mem_cons, List.not_mem_nil, or_false] at hp
 rcases hp with rfl | rfl <;> exact .v _
def zDq (bs : List Nat) (p : Nat) : Nat := bs.getD p 0
def zCj (bs : List Nat) (p : Nat) : Nat := if p < bs.length then p + 1 else p
theorem zO9 {bs : List Nat} {p : Nat} (h : bs.length ≤ p) : zDq bs p = 0 ∧ zCj bs p = p := by
 refine ⟨?_, by rw [zCj, if_neg (by omega)]⟩
 simp [zDq, List.getD_eq_getElem?_getD, List.getElem?_eq_none h]
theorem next_in {bs : List Nat} {p : Nat} {b : Nat} (h : bs[p]? = some b) : zDq bs p = b ∧ zCj bs p = p + 1 := by
 refine ⟨by simp [zDq, List.getD_eq_getElem?_getD, h], by rw [zCj, if_pos (List.getElem?_eq_some_iff.1 h).1]⟩
theorem zEY {bs : List Nat} {p : Nat} (h : p ≤ bs.length) : zCj bs p ≤ bs.length := by unfold zCj; split <;> omega
theorem zFr {γ : Gho} {cv : Value} {bs : List Nat} (h : zCW γ cv bs) : ∀ b ∈ bs, b < 256 := fun b hb => by
 obtain ⟨A, c, _, h⟩ := h
 rcases h with rfl | ⟨k, off, cur, ty, fz, _, _, h⟩
 · cases hb
 ·
  obtain ⟨i, hi⟩ := List.getElem?_of_mem hb
  exact (h i b hi).1
theorem zIU {bs : List Nat} (h : ∀ b ∈ bs, b < 256) (p : Nat) : zDq bs p < 256 := by
 unfold zDq
 rw [List.getD_eq_getElem?_getD]
 cases hp : bs[p]? with
 | none => decide
 | some b => exact h b (List.mem_of_getElem? hp)
def zAh (bs : List Nat) (p n : Nat) : Nat := if n ≤ 1 then 0 else if n ≤ 256 then zDq bs p % n else (zDq bs p * 256 + zDq bs (zCj bs p)) % n
def zAH (bs : List Nat) (p n : Nat) : Nat := if n ≤ 1 then p else if n ≤ 256 then zCj bs p else zCj bs (zCj bs p)
theorem zAY {bs : List Nat} {p n : Nat} (h : p ≤ bs.length) : zAH bs p n ≤ bs.length := by
 unfold zAH
 split
 · exact h
 ·
  split
  · exact zEY h
  · exact zEY (zEY h)
theorem zB3 {bs : List Nat} {p n : Nat} (h : 0 < n) : zAh bs p n < n := by
 unfold zAh
 split
 · exact h
 · split <;> exact Nat.mod_lt _ h
theorem below_1 {bs : List Nat} {p n : Nat} (h : n ≤ 1) : zAh bs p n = 0 ∧ zAH bs p n = p := by simp [zAh, zAH, h]
theorem below_2 {bs : List Nat} {p n : Nat} (h1 : ¬ n ≤ 1) (h : n ≤ 256) : zAh bs p n = zDq bs p % n ∧ zAH bs p n = zCj bs p := by simp [zAh, zAH, h, h1]
theorem below_3 {bs : List Nat} {p n : Nat} (h1 : ¬ n ≤ 1) (h : ¬ n ≤ 256) : zAh bs p n = (zDq bs p * 256 + zDq bs (zCj bs p)) % n ∧ zAH bs p n = zCj bs (zCj bs p) := by simp [zAh, zAH, h, h1]
def zH8 (x : Int) (v : Nat) : Int := zOC .or .u64 (IntKind.u64.wrap (x * 2 ^ min (8 : Int).toNat IntKind.u64.bits)) (IntKind.u64.wrap (v : Int))
def zHG (bs : List Nat) : Nat → Int → Nat → Int × Nat
 | 0, x, p => (x, p)
 | n + 1, x, p => zHG bs n (zH8 x (zDq bs p)) (zCj bs p)
theorem zK4 {bs : List Nat} : ∀ (n : Nat) (x : Int) (p : Nat), p ≤ bs.length → (zHG bs n x p).2 ≤ bs.length
 | 0, _, _, h => h
 | n + 1, x, p, h => zK4 n _ _ (zEY h)
def wordV (bs : List Nat) (p : Nat) : Int := (zHG bs 8 0 p).1
def zOX (bs : List Nat) (p : Nat) : Nat := (zHG bs 8 0 p).2
theorem zOW {bs : List Nat} {p : Nat} (h : p ≤ bs.length) : zOX bs p ≤ bs.length := zK4 8 0 p h
def zFH (bs : List Nat) (p : Nat) (low high : Int) : Int :=
 if zAh bs p 8 = 0 then low else if zAh bs p 8 = 1 then high else if high < low then low
 else IntKind.i64.wrap (low + IntKind.i64.wrap (((wordV bs (zAH bs p 8)).fdiv (2 ^ min (1 : Int).toNat IntKind.u64.bits)).tmod (IntKind.u64.wrap (high - low + 1))))
def zCI (bs : List Nat) (p : Nat) (low high : Int) : Nat :=
 if zAh bs p 8 = 0 then zAH bs p 8 else if zAh bs p 8 = 1 then zAH bs p 8 else if high < low then zAH bs p 8 else zOX bs (zAH bs p 8)
theorem near_a {bs : List Nat} {p : Nat} {low high : Int} (h : zAh bs p 8 = 0) : zFH bs p low high = low ∧ zCI bs p low high = zAH bs p 8 := by simp [zFH, zCI, h]
theorem near_b {bs : List Nat} {p : Nat} {low high : Int} (h : zAh bs p 8 = 1) : zFH bs p low high = high ∧ zCI bs p low high = zAH bs p 8 := by simp [zFH, zCI, h]
theorem near_c {bs : List Nat} {p : Nat} {low high : Int} (h0 : zAh bs p 8 ≠ 0) (h1 : zAh bs p 8 ≠ 1) (h : high < low) : zFH bs p low high = low ∧ zCI bs p low high = zAH bs p 8 := by simp [zFH, zCI, h, h0, h1]
theorem near_d {bs : List Nat} {p : Nat} {low high : Int} (h0 : zAh bs p 8 ≠ 0) (h1 : zAh bs p 8 ≠ 1) (h : ¬ high < low) : zFH bs p low high = IntKind.i64.wrap (low + IntKind.i64.wrap (((wordV bs (zAH bs p 8)).fdiv (2 ^ min (1 : Int).toNat IntKind.u64.bits)).tmod (IntKind.u64.wrap (high - low + 1)))) ∧ zCI bs p low high = zOX bs (zAH bs p 8) := by
 simp only [zFH, zCI, if_neg h0, if_neg h1, if_neg h, and_self]
theorem zDr {bs : List Nat} {p : Nat} {low high : Int} (h : p ≤ bs.length) : zCI bs p low high ≤ bs.length := by
 have h1 := zAY (n := 8) h
 unfold zCI
 split
 · exact h1
 ·
  split
  · exact h1
  ·
   split
   · exact h1
   · exact zOW h1
def zCe (bs : List Nat) (p n : Nat) : Bool := decide (zAh bs p n = n - 1)
def offL (low high : Int) : List Int := [low - 1, high + 1, -9223372036854775808, 9223372036854775807]
def offV (bs : List Nat) (p : Nat) (low high : Int) : Int :=
 if zCe bs p 24 = true then (offL low high).getD (zAh bs (zAH bs p 24) 4) 0 else zFH bs (zAH bs p 24) low high
def offP (bs : List Nat) (p : Nat) (low high : Int) : Nat :=
 if zCe bs p 24 = true then zAH bs (zAH bs p 24) 4 else zCI bs (zAH bs p 24) low high
theorem zFi {bs : List Nat} {p : Nat} {low high : Int} (h : p ≤ bs.length) : offP bs p low high ≤ bs.length := by
 unfold offP
 split
 · exact zAY (zAY h)
 · exact zDr (zAY h)
theorem getD_some {α : Type} {l : List α} {k : Nat} {d : α} (h : k < l.length) : l[k]? = some (l.getD k d) := by
 rw [List.getD_eq_getElem?_getD, List.getElem?_eq_getElem h]
 rfl
def usersL : List ByteArray := [⟨#[97]⟩, ⟨#[98]⟩, ⟨#[97, 98]⟩, ⟨#[97, 98, 99]⟩, ⟨#[97, 98, 100]⟩, ⟨#[107, 101, 121]⟩, ⟨#[107, 101, 121, 49]⟩, ⟨#[107, 101, 121, 50]⟩, ⟨#[122, 122]⟩, ⟨#[97, 0]⟩]
def zJ6 (bs : List Nat) (p : Nat) : ByteArray := usersL.getD (zAh bs p 10) ⟨#[]⟩
def zBu (bs : List Nat) (p : Nat) : Nat := zAH bs p 10
theorem zOc (bs : List Nat) (p : Nat) : usersL[zAh bs p 10]? = some (zJ6 bs p) := getD_some (zB3 (n := 10) (by decide))
theorem off_get (bs : List Nat) (p : Nat) (low high : Int) : (offL low high)[zAh bs p 4]? = some ((offL low high).getD (zAh bs p 4) 0) := getD_some (zB3 (n := 4) (by decide))
end Go.Rl
namespace Go.Rl
section
variable {X : List (List PV)} {k : Nat} {z : List PV}
abbrev delL (X : List (List PV)) (k : Nat) : Nat := k + (X.length - (k + 1))
end
def cntF {α : Type} (p : α → Bool) (l : List α) : Nat := (l.takeWhile p).length
def MonoP {α : Type} (p : α → Bool) (l : List α) : Prop := ∀ (i j : Nat) x y, i ≤ j → l[i]? = some x → l[j]? = some y → p y = true → p x = true
def Halves {α : Type} (p : α → Bool) (l : List α) (i j : Nat) : Prop := (∀ (k : Nat) x, k < i → l[k]? = some x → p x = true) ∧ ∀ (k : Nat) x, j ≤ k → l[k]? = some x → p x = false
theorem zIG (n : Nat) (h : n ≤ 9000000000000000000) : IntKind.i64.wrap (Int.fdiv (IntKind.u64.wrap (n : Int)) (2 ^ min (1:Int).toNat IntKind.u64.bits)) = ((n / 2 : Nat) : Int) := by
 have h1 : IntKind.u64.wrap (n : Int) = (n : Int) := by
  simp [IntKind.wrap, IntKind.signed, IntKind.bits]
  omega
 rw [h1]
 have h2 : ((2 : Int) ^ min (1:Int).toNat IntKind.u64.bits) = 2 := by decide
 rw [h2]
 have h3 : Int.fdiv (n : Int) 2 = ((n / 2 : Nat) : Int) := by
  rw [Int.fdiv_eq_ediv_of_nonneg _ (by decide)]
  omega
 rw [h3, IntKind.wrap_i64]
 omega
end Go.Rl
namespace Go.Rl
def pvU (l : List Int) : List (List PV) := l.map fun n => [.v (.int .u8 n)]
theorem zFg (l : List Int) : (pvU l).length = l.length := by simp [pvU]
def zF1 (bs : List Nat) : Nat → List Int → Nat → List Int × Nat
 | 0, l, p => (l, p)
 | n + 1, l, p => zF1 bs n (l ++ [IntKind.u8.wrap ((zAh bs p 256 : Nat) : Int)]) (zAH bs p 256)
theorem zJu {bs : List Nat} : ∀ (n : Nat) (l : List Int) (p : Nat), p ≤ bs.length → (zF1 bs n l p).2 ≤ bs.length
 | 0, _, _, h => h
 | n + 1, _, _, h => zJu n _ _ (zAY h)
theorem zOB {bs : List Nat} {n : Nat} {l : List Int} {p : Nat} {z : List Int × Nat} (h : 0 < n) (he : zF1 bs n l p = z) : zF1 bs (n - 1) (l ++ [IntKind.u8.wrap ((zAh bs p 256 : Nat) : Int)]) (zAH bs p 256) = z := by
 obtain ⟨j, rfl⟩ : ∃ j, n = j + 1 := ⟨n - 1, by omega⟩
 exact he
def zH0 (bs : List Nat) (p most : Nat) : List Int × Nat := zF1 bs (zAh bs p (most + 1)) [] (zAH bs p (most + 1))
def zHz (bs : List Nat) (p most : Nat) : ByteArray := zKC (zH0 bs p most).1
def zEm (bs : List Nat) (p most : Nat) : Nat := (zH0 bs p most).2
theorem zFT {bs : List Nat} {p most : Nat} (h : p ≤ bs.length) : zEm bs p most ≤ bs.length := zJu _ _ _ (zAY h)
def valuesL : List ByteArray := [⟨#[]⟩, ⟨#[49]⟩, ⟨#[50]⟩, ⟨#[118, 97, 108, 117, 101]⟩, ⟨#[118, 118]⟩]
def zIz (bs : List Nat) (p : Nat) : ByteArray := valuesL.getD (zAh bs p 5) ⟨#[]⟩
theorem zMw (bs : List Nat) (p : Nat) : valuesL[zAh bs p 5]? = some (zIz bs p) := getD_some (zB3 (n := 5) (by decide))
def key0 (bs : List Nat) (p : Nat) : Ent := ⟨zJ6 bs p, zFH bs (zBu bs p) 0 12, ((zAh bs (zCI bs (zBu bs p) 0 12) 2 : Nat) : Int), ⟨#[]⟩⟩
def zBm (bs : List Nat) (p : Nat) : Nat := zAH bs (zCI bs (zBu bs p) 0 12) 2
def keyV (bs : List Nat) (p : Nat) : Ent :=
 if zAh bs (zBm bs p) 24 = 0 then { key0 bs p with seq := offV bs (zAH bs (zBm bs p) 24) 0 1000000000000 }
 else if zAh bs (zBm bs p) 24 = 1 then { key0 bs p with kind := offV bs (zAH bs (zBm bs p) 24) 0 1 }
 else if zAh bs (zBm bs p) 24 = 2 then { key0 bs p with user := zHz bs (zAH bs (zBm bs p) 24) 45 }
 else key0 bs p
def keyP (bs : List Nat) (p : Nat) : Nat :=
 if zAh bs (zBm bs p) 24 = 0 then offP bs (zAH bs (zBm bs p) 24) 0 1000000000000
 else if zAh bs (zBm bs p) 24 = 1 then offP bs (zAH bs (zBm bs p) 24) 0 1
 else if zAh bs (zBm bs p) 24 = 2 then zEm bs (zAH bs (zBm bs p) 24) 45
 else zAH bs (zBm bs p) 24
theorem zPH {bs : List Nat} {p : Nat} (h : p ≤ bs.length) : zBm bs p ≤ bs.length := zAY (zDr (zAY h))
theorem zKd {bs : List Nat} {p : Nat} (h : p ≤ bs.length) : keyP bs p ≤ bs.length := by
 have h2 := zAY (n := 24) (zPH h)
 unfold keyP
 split
 · exact zFi h2
 ·
  split
  · exact zFi h2
  ·
   split
   · exact zFT h2
   · exact h2
theorem key_0 {bs : List Nat} {p : Nat} (h : zAh bs (zBm bs p) 24 = 0) : keyV bs p = { key0 bs p with seq := offV bs (zAH bs (zBm bs p) 24) 0 1000000000000 } ∧ keyP bs p = offP bs (zAH bs (zBm bs p) 24) 0 1000000000000 := by simp [keyV, keyP, h]
theorem key_1 {bs : List Nat} {p : Nat} (h0 : ¬ zAh bs (zBm bs p) 24 = 0) (h : zAh bs (zBm bs p) 24 = 1) : keyV bs p = { key0 bs p with kind := offV bs (zAH bs (zBm bs p) 24) 0 1 } ∧ keyP bs p = offP bs (zAH bs (zBm bs p) 24) 0 1 := by simp [keyV, keyP, h]
theorem key_2 {bs : List Nat} {p : Nat} (h0 : ¬ zAh bs (zBm bs p) 24 = 0) (h1 : ¬ zAh bs (zBm bs p) 24 = 1) (h : zAh bs (zBm bs p) 24 = 2) : keyV bs p = { key0 bs p with user := zHz bs (zAH bs (zBm bs p) 24) 45 } ∧ keyP bs p = zEm bs (zAH bs (zBm bs p) 24) 45 := by simp [keyV, keyP, h]
theorem key_3 {bs : List Nat} {p : Nat} (h0 : ¬ zAh bs (zBm bs p) 24 = 0) (h1 : ¬ zAh bs (zBm bs p) 24 = 1) (h2 : ¬ zAh bs (zBm bs p) 24 = 2) : keyV bs p = key0 bs p ∧ keyP bs p = zAH bs (zBm bs p) 24 := by simp [keyV, keyP, h0, h1, h2]
def ent0 (bs : List Nat) (p : Nat) : Ent := { keyV bs p with value := zIz bs (keyP bs p) }
def zIo (bs : List Nat) (p : Nat) : Nat := zAH bs (keyP bs p) 5
def zCE (bs : List Nat) (p : Nat) : Ent := if (ent0 bs p).kind = 0 then (if zCe bs (zIo bs p) 12 = true then ent0 bs p else { ent0 bs p with value := ⟨#[]⟩ }) else ent0 bs p
def zDI (bs : List Nat) (p : Nat) : Nat := if (ent0 bs p).kind = 0 then zAH bs (zIo bs p) 12 else zIo bs p
theorem zL0 {bs : List Nat} {p : Nat} (h : p ≤ bs.length) : zIo bs p ≤ bs.length := zAY (zKd h)
theorem zNv {bs : List Nat} {p : Nat} (h : p ≤ bs.length) : zDI bs p ≤ bs.length := by
 unfold zDI
 split
 · exact zAY (zL0 h)
 · exact zL0 h
theorem ent_0 {bs : List Nat} {p : Nat} (h : (ent0 bs p).kind = 0) (h2 : zCe bs (zIo bs p) 12 = true) : zCE bs p = ent0 bs p ∧ zDI bs p = zAH bs (zIo bs p) 12 := by simp [zCE, zDI, h, h2]
theorem ent_1 {bs : List Nat} {p : Nat} (h : (ent0 bs p).kind = 0) (h2 : zCe bs (zIo bs p) 12 = false) : zCE bs p = { ent0 bs p with value := ⟨#[]⟩ } ∧ zDI bs p = zAH bs (zIo bs p) 12 := by simp [zCE, zDI, h, h2]
theorem ent_2 {bs : List Nat} {p : Nat} (h : ¬ (ent0 bs p).kind = 0) : zCE bs p = ent0 bs p ∧ zDI bs p = zIo bs p := by simp [zCE, zDI, h]
def zJ1 (out : List Ent) (e : Ent) : Nat := cntF (fun x => decide (kcmp x e < 0)) out
def zFf (a b : Ent) : Bool := decide (a.user = b.user ∧ a.seq = b.seq ∧ a.kind = b.kind)
def entIns (out : List Ent) (e : Ent) : List Ent :=
 if zBh e = true then (match out[zJ1 out e]? with
  | some x => if (x.user, x.seq, x.kind) = (e.user, e.seq, e.kind) then out else out.take (zJ1 out e) ++ [e] ++ out.drop (zJ1 out e)
  | none => out.take (zJ1 out e) ++ [e] ++ out.drop (zJ1 out e)) else out
def zNw (bs : List Nat) : Nat → List Ent × Nat → List Ent × Nat
 | 0, x => x
 | i + 1, x => zNw bs i (entIns x.1 (zCE bs x.2), zDI bs x.2)
def entBase (bs : List Nat) (p most : Nat) : List Ent × Nat := zNw bs (zAh bs p (most + 1)) ([], zAH bs p (most + 1))
def entsR (bs : List Nat) (p most : Nat) : List Ent × Nat :=
 let x := entBase bs p most
 if zCe bs x.2 24 = true then (x.1 ++ [zCE bs (zAH bs x.2 24)], zDI bs (zAH bs x.2 24)) else (x.1, zAH bs x.2 24)
abbrev SnSt := List Int × Int × Nat
def snLast (out : List Int) (n : Int) : Bool := match out[out.length - 1]? with
 | some x => decide (x < n)
 | none => true
def snStep (bs : List Nat) (x : SnSt) : SnSt :=
 let n := x.2.1 + ((zAh bs x.2.2 6 : Nat) : Int)
 let q := zAH bs x.2.2 6
 if snLast x.1 n = true then (x.1 ++ [n], n, q)
 else if zCe bs q 12 = true then (x.1 ++ [n], n, zAH bs q 12) else (x.1, n, zAH bs q 12)
def zPq (bs : List Nat) : Nat → SnSt → SnSt
 | 0, x => x
 | i + 1, x => zPq bs i (snStep bs x)
def zPn (bs : List Nat) (p : Nat) : SnSt := zPq bs (zAh bs p 4) ([], 0, zAH bs p 4)
def snapsV (bs : List Nat) (p : Nat) : List Int := (zPn bs p).1
def snapsP (bs : List Nat) (p : Nat) : Nat := (zPn bs p).2.2
end Go.Rl

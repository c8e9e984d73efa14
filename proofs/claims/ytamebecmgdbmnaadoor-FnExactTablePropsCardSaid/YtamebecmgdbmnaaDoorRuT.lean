/- Promises of functions, proved by walks over their operations; no conditions beyond those that each theorem states. -/
import Derived.Test.YtamebecmgdbmnaaDoorRtSo
import Derived.Test.YtamebecmgdbmnaaDoorRtTf
set_option linter.unusedSimpArgs false
set_option linter.unusedVariables false
namespace Go.Rl
open Go.Proofs Go.Proofs.Tryd
set_option maxRecDepth 1000000
set_option maxHeartbeats 2000000
theorem en46 : En Tryd.prog 46 := zAh func46 (by decide) rfl
theorem en47 : En Tryd.prog 47 := zAh func47 (by decide) rfl
theorem en43 : En Tryd.prog 43 := zAh func43 (by decide) rfl
theorem en48 : En Tryd.prog 48 := zAh func48 (by decide) rfl
theorem en8 : En Tryd.prog 8 := zAh func8 (by decide) rfl
theorem en18 : En Tryd.prog 18 := zAh func18 (by decide) rfl
theorem en40 : En Tryd.prog 40 := zAh func40 (by decide) rfl
theorem zLG {s : ByteArray} (h : footB s = true) : (pvI (zDa s))[0]? = some [.v (.int .i64 ((tAt0 s : Nat) : Int))] ∧ (pvI (zDa s))[1]? = some [.v (.int .i64 ((tAt1 s : Nat) : Int))] ∧ (pvI (zDa s))[2]? = some [.v (.int .i64 ((tAt2 s : Nat) : Int))] ∧ (pvI (zDa s)).length = 4 := by
 rw [(zNM h).2.2]
 exact ⟨rfl, rfl, rfl, rfl⟩
theorem zFm (s : ByteArray) (o : Option (Nat × ByteArray × Nat × Nat × Nat)) (ho : propsF s = o) (hs : s.size ≤ 9000000000000000000) : Con Tryd.prog 43 [.one (PV.v (.string s))] [] [.one (.v (.int .i64 (((o.getD pz).1 : Nat) : Int))), .one (.v (.string ((o.getD pz).2.1))), .agg [.v (.int .i64 (((o.getD pz).2.2.1 : Nat) : Int)), .v (.int .i64 (((o.getD pz).2.2.2.1 : Nat) : Int)), .v (.int .i64 (((o.getD pz).2.2.2.2 : Nat) : Int))], .one (.v (.bool o.isSome))] := by
 refine zAR func43 rfl rfl rfl rfl ?_
 refine zAB (zAA rfl (.a rfl rfl (.a rfl rfl (.run [] [4] rfl (zBA rfl 4 zDZ rfl (by decide) rfl (by decide)) (.a rfl rfl .nil)))) ?_)
 refine zAB (zAA rfl (.m rfl rfl (.run [2400, 2401] [] rfl (zAF rfl 2400 (X := []) en46 rfl (.val nod) (.cons (.one (.bor .v)) .nil) (by decide) all_nil .nil (zGr s (by omega)) rfl rfl (nle rfl)) (.m rfl rfl (.r rfl (zAH rfl rfl rfl) (.r rfl (zAH rfl rfl rfl) (.a rfl rfl (.a rfl rfl .nil))))))) ?_)
 refine zAB ?_
 refine zAB (zAA rfl (.m rfl rfl (.r rfl (zAa (b := footB s) rfl rfl) .nil)) ?_)
 refine zAT (t := (!(footB s))) rfl (fun h1 => ?_) (fun h1 => ?_)
 ·
  replace h1 : (footB s) = false := zAm h1
  refine zAB ?_
  refine zAO (s' := mk [(4, .ptr 4 0)] [(4, [.vi 0, .vi 0, .vi 0])] []) ?_ ?_
  · exact zAJ ⟨rfl, trivial⟩ ⟨rfl, trivial⟩ trivial rfl
  obtain rfl := ho.symm.trans (zCN (s := s) (fun q => by rw [q.foot] at h1; cases h1))
  refine zAA rfl (.r rfl (zAw (pl := [(0, 1), (1, 1), (2, 1)]) rfl underlying30 zDZ (by kernel_rfl) rfl rfl) (.a rfl rfl (.a rfl rfl (.r rfl (zAN rfl rfl rfl rfl rfl sizeOf30 rfl (nle rfl)) (.a rfl rfl .nil))))) ?_
  refine zAI ?_
  exact ends [_, _, _, _] [] (.cons (.tmp rfl) (.cons (.tmp rfl) (.cons (.cell rfl rfl isAgg30 sizeOf30 (nle rfl)) (.cons (.tmp rfl) .nil)))) (.cons (.one .v (.v _)) (.cons (.one .v (.v _)) (.cons (.agg (.cons .v (.cons .v (.cons .v .nil))) (zAM (.v _) (zAM (.v _) (zAM (.v _) zBQ)))) (.cons (.one .v (.v _)) .nil)))) (by decide) trivial
 ·
  replace h1 : (footB s) = true := zAn h1
  refine zAK ?_
  refine zAB ?_
  refine zAO (s' := mk [(0, .vs s), (4, .ptr 4 0), (6, .sl 2400 0 ((pvI (zDa s)).length))] [(4, [.vi 0, .vi 0, .vi 0])] [(2400, 1, pvI (zDa s))]) ?_ ?_
  · exact zAJ ⟨rfl, rfl, rfl, trivial⟩ ⟨rfl, trivial⟩ ⟨rfl, trivial⟩ rfl
  have hfg := zLG h1
  have hfl := hfg.2.2.2
  have hat := at_lt s
  refine zAA rfl (.m rfl rfl (.m rfl rfl (.r rfl (zA1 2 rfl rfl rfl rfl underlying80 sizeOf2 rfl rfl (by omega)) (.r rfl (zBl (.int .i64 ((tAt2 s : Nat) : Int)) rfl rfl rfl hfg.2.2.1 isAgg2 rfl) (.run [3500, 3501] [] rfl (zAF rfl 3500 (X := []) en47 rfl (.val nod) (.cons (.one (.bor .v)) (.cons (.one (.bor .v)) .nil)) (by decide) all_nil .nil (zGq s (tAt2 s) (by omega) (by omega)) rfl rfl (nle rfl)) (.m rfl rfl (.r rfl (zAH rfl rfl rfl) (.r rfl (zAH rfl rfl rfl) (.a rfl rfl (.a rfl rfl .nil)))))))))) ?_
  refine zAB ?_
  refine zAO (s' := mk [(4, .ptr 4 0), (8, .vs (txX (zBD s (tAt2 s)))), (9, .vb ((zBD s (tAt2 s)).isSome))] [(4, [.vi 0, .vi 0, .vi 0])] []) ?_ ?_
  · exact zAJ ⟨rfl, rfl, rfl, trivial⟩ ⟨rfl, trivial⟩ trivial rfl
  have hpb : (pB s).size ≤ 60000 := zMV _ _
  refine zAO (s' := mk [(4, .ptr 4 0), (8, .vs (pB s)), (9, .vb ((zBD s (tAt2 s)).isSome))] [(4, [.vi 0, .vi 0, .vi 0])] []) ?_ ?_
  · exact zAJ ⟨rfl, rfl, rfl, trivial⟩ ⟨rfl, trivial⟩ trivial rfl
  refine zAA rfl (.m rfl rfl (.run [4000, 4001, 4002] [] rfl (zAF rfl 4000 (X := []) en83 rfl (.val nod) (.cons (.one (.bor .v)) .nil) (by decide) all_nil .nil (zCo (pB s) (by omega)) rfl rfl (nle rfl)) (.m rfl rfl (.r rfl (zAH rfl rfl rfl) (.r rfl (zAH rfl rfl rfl) (.r rfl (zAH rfl rfl rfl) (.a rfl rfl (.a rfl rfl (.a rfl rfl .nil))))))))) ?_
  refine zAB ?_
  refine zAB ?_
  refine zAO (s' := mk [(4, .ptr 4 0), (9, .vb ((zBD s (tAt2 s)).isSome)), (10, .p none (.v (.int .u64 ((tvN (zAQ (pB s)) : Nat) : Int)))), (11, .vs (tvR (zAQ (pB s)))), (12, .vb ((zAQ (pB s)).isSome))] [(4, [.vi 0, .vi 0, .vi 0])] []) ?_ ?_
  · exact zAJ ⟨rfl, rfl, rfl, rfl, rfl, trivial⟩ ⟨rfl, trivial⟩ trivial rfl
  obtain ⟨n0, c1⟩ : ∃ x, Is (tvN (pV s)) x := ⟨_, ⟨rfl⟩⟩
  obtain ⟨r0, c2⟩ : ∃ x, Is (tvR (pV s)) x := ⟨_, ⟨rfl⟩⟩
  have hv1 : r0.size ≤ 60000 := by rw [← c2.h]; exact Nat.le_trans (zFh _) hpb
  clear hpb
  refine zAO (s' := mk [(4, .ptr 4 0), (9, .vb ((zBD s (tAt2 s)).isSome)), (10, .p none (.v (.int .u64 ((n0 : Nat) : Int)))), (11, .vs r0), (12, .vb ((pV s).isSome))] [(4, [.vi 0, .vi 0, .vi 0])] []) ?_ ?_
  · exact zAJ ⟨rfl, rfl, (zAE (congrArg Nat.cast c1.h)), (zA3 c2.h), rfl, trivial⟩ ⟨rfl, trivial⟩ trivial rfl
  rcases bfc (!((zBD s (tAt2 s)).isSome)) with h2 | h2
  ·
   have h2' := h2
   replace h2' : ((zBD s (tAt2 s)).isSome) = true := zAn h2'
   rcases bfc (!((pV s).isSome)) with h3 | h3
   ·
    have h3' := h3
    replace h3' : ((pV s).isSome) = true := zAn h3'
    rcases bfc (decide ((r0.size : Int) < 64)) with h4 | h4
    ·
     have h4' := h4
     replace h4' := of_decide_eq_false h4'
     refine zAA rfl (.m rfl rfl (.r rfl (zAL (zAa (b := (zBD s (tAt2 s)).isSome) rfl rfl) (zAG h2)) (.m rfl rfl (.m rfl rfl (.r rfl (zAL (zAa (b := (pV s).isSome) rfl rfl) (zAG h3)) (.r rfl (zAg rfl rfl) (.m rfl rfl (.m rfl rfl (.r rfl (zAP rfl rfl underlying9) (.r rfl (zAL (zAt rfl rfl rfl) (zAG h4)) (.r rfl (zAg rfl rfl) (.m rfl rfl (.m rfl rfl (.r rfl (zBE rfl rfl rfl) (.r rfl (zAg rfl rfl) .nil))))))))))))))) ?_
     refine zAT (t := decide (400 < ((n0 : Nat) : Int))) rfl (fun h5 => ?_) (fun h5 => ?_)
     ·
      replace h5 := of_decide_eq_true h5
      refine zAB ?_
      refine zAO (s' := mk [(4, .ptr 4 0)] [(4, [.vi 0, .vi 0, .vi 0])] []) ?_ ?_
      · exact zAJ ⟨rfl, trivial⟩ ⟨rfl, trivial⟩ trivial rfl
      obtain rfl := ho.symm.trans (zCN (s := s) (fun q => by have q2 := q.many; rw [c1.h] at q2; omega))
      refine zAA rfl (.r rfl (zAw (pl := [(0, 1), (1, 1), (2, 1)]) rfl underlying30 zDZ (by kernel_rfl) rfl rfl) (.a rfl rfl (.a rfl rfl (.r rfl (zAN rfl rfl rfl rfl rfl sizeOf30 rfl (nle rfl)) (.a rfl rfl .nil))))) ?_
      refine zAI ?_
      exact ends [_, _, _, _] [] (.cons (.tmp rfl) (.cons (.tmp rfl) (.cons (.cell rfl rfl isAgg30 sizeOf30 (nle rfl)) (.cons (.tmp rfl) .nil)))) (.cons (.one .v (.v _)) (.cons (.one .v (.v _)) (.cons (.agg (.cons .v (.cons .v (.cons .v .nil))) (zAM (.v _) (zAM (.v _) (zAM (.v _) zBQ)))) (.cons (.one .v (.v _)) .nil)))) (by decide) trivial
     ·
      replace h5 := of_decide_eq_false h5
      refine zAK ?_
      refine zAB ?_
      refine zAO (s' := mk [(4, .ptr 4 0), (10, .p none (.v (.int .u64 ((n0 : Nat) : Int)))), (11, .vs r0)] [(4, [.vi 0, .vi 0, .vi 0])] []) ?_ ?_
      · exact zAJ ⟨rfl, rfl, rfl, trivial⟩ ⟨rfl, trivial⟩ trivial rfl
      have hex := zC6 r0 64
      refine zAA rfl (.m rfl rfl (.r rfl (zA0 rfl rfl underlying9 (.at_ rfl (show (64 : Int) = ((64 : Nat) : Int) from rfl)) .no (by omega) (Nat.le_refl _)) (.run [6300, 6301, 6302] [] rfl (zAF rfl 6300 (X := []) en83 rfl (.val nod) (.cons (.one (.bor .v)) .nil) (by decide) all_nil .nil (zCo (r0.extract 64 r0.size) (by omega)) rfl rfl (nle rfl)) (.m rfl rfl (.r rfl (zAH rfl rfl rfl) (.r rfl (zAH rfl rfl rfl) (.r rfl (zAH rfl rfl rfl) (.a rfl rfl (.a rfl rfl (.a rfl rfl .nil)))))))))) ?_
      refine zAB ?_
      refine zAO (s' := mk [(4, .ptr 4 0), (10, .p none (.v (.int .u64 ((n0 : Nat) : Int)))), (11, .vs r0), (13, .p none (.v (.int .u64 ((tvN (zAQ (r0.extract 64 r0.size)) : Nat) : Int)))), (14, .vs (tvR (zAQ (r0.extract 64 r0.size)))), (15, .vb ((zAQ (r0.extract 64 r0.size)).isSome))] [(4, [.vi 0, .vi 0, .vi 0])] []) ?_ ?_
      · exact zAJ ⟨rfl, rfl, rfl, rfl, rfl, rfl, trivial⟩ ⟨rfl, trivial⟩ trivial rfl
      have hq1 : pQ1 s = zAQ (r0.extract 64 r0.size) := by rw [pQ1, c2.h]
      obtain ⟨e1, c3⟩ : ∃ x, Is (tvN (pQ1 s)) x := ⟨_, ⟨rfl⟩⟩
      obtain ⟨r1, c7⟩ : ∃ x, Is (tvR (pQ1 s)) x := ⟨_, ⟨rfl⟩⟩
      have hv2 : r1.size ≤ 60000 := by rw [← c7.h, hq1]; exact Nat.le_trans (zFh _) (Nat.le_trans hex hv1)
      clear hex
      refine zAO (s' := mk [(4, .ptr 4 0), (10, .p none (.v (.int .u64 ((n0 : Nat) : Int)))), (11, .vs r0), (13, .p none (.v (.int .u64 ((e1 : Nat) : Int)))), (14, .vs r1), (15, .vb ((pQ1 s).isSome))] [(4, [.vi 0, .vi 0, .vi 0])] []) ?_ ?_
      · exact zAJ ⟨rfl, rfl, rfl, (zAE (congrArg Nat.cast (by rw [← hq1]; exact c3.h))), (zA3 (by rw [← hq1]; exact c7.h)), (zAG (by rw [hq1])), trivial⟩ ⟨rfl, trivial⟩ trivial rfl
      refine zAA rfl (.m rfl rfl (.run [6900, 6901, 6902] [] rfl (zAF rfl 6900 (X := []) en83 rfl (.val nod) (.cons (.one (.bor .v)) .nil) (by decide) all_nil .nil (zCo r1 (by omega)) rfl rfl (nle rfl)) (.m rfl rfl (.r rfl (zAH rfl rfl rfl) (.r rfl (zAH rfl rfl rfl) (.r rfl (zAH rfl rfl rfl) (.a rfl rfl (.a rfl rfl (.a rfl rfl .nil))))))))) ?_
      refine zAB ?_
      refine zAO (s' := mk [(4, .ptr 4 0), (10, .p none (.v (.int .u64 ((n0 : Nat) : Int)))), (11, .vs r0), (13, .p none (.v (.int .u64 ((e1 : Nat) : Int)))), (15, .vb ((pQ1 s).isSome)), (16, .p none (.v (.int .u64 ((tvN (zAQ r1) : Nat) : Int)))), (17, .vs (tvR (zAQ r1))), (18, .vb ((zAQ r1).isSome))] [(4, [.vi 0, .vi 0, .vi 0])] []) ?_ ?_
      · exact zAJ ⟨rfl, rfl, rfl, rfl, rfl, rfl, rfl, rfl, trivial⟩ ⟨rfl, trivial⟩ trivial rfl
      have hq2 : pQ2 s = zAQ r1 := by rw [pQ2, c7.h]
      obtain ⟨e2, c4⟩ : ∃ x, Is (tvN (pQ2 s)) x := ⟨_, ⟨rfl⟩⟩
      obtain ⟨r2, c8⟩ : ∃ x, Is (tvR (pQ2 s)) x := ⟨_, ⟨rfl⟩⟩
      have hv3 : r2.size ≤ 60000 := by rw [← c8.h, hq2]; exact Nat.le_trans (zFh _) hv2
      refine zAO (s' := mk [(4, .ptr 4 0), (10, .p none (.v (.int .u64 ((n0 : Nat) : Int)))), (11, .vs r0), (13, .p none (.v (.int .u64 ((e1 : Nat) : Int)))), (15, .vb ((pQ1 s).isSome)), (16, .p none (.v (.int .u64 ((e2 : Nat) : Int)))), (17, .vs r2), (18, .vb ((pQ2 s).isSome))] [(4, [.vi 0, .vi 0, .vi 0])] []) ?_ ?_
      · exact zAJ ⟨rfl, rfl, rfl, rfl, rfl, (zAE (congrArg Nat.cast (by rw [← hq2]; exact c4.h))), (zA3 (by rw [← hq2]; exact c8.h)), (zAG (by rw [hq2])), trivial⟩ ⟨rfl, trivial⟩ trivial rfl
      refine zAA rfl (.m rfl rfl (.run [7500, 7501, 7502] [] rfl (zAF rfl 7500 (X := []) en83 rfl (.val nod) (.cons (.one (.bor .v)) .nil) (by decide) all_nil .nil (zCo r2 (by omega)) rfl rfl (nle rfl)) (.m rfl rfl (.r rfl (zAH rfl rfl rfl) (.r rfl (zAH rfl rfl rfl) (.r rfl (zAH rfl rfl rfl) (.a rfl rfl (.a rfl rfl (.a rfl rfl .nil))))))))) ?_
      refine zAB ?_
      refine zAB ?_
      refine zAO (s' := mk [(4, .ptr 4 0), (10, .p none (.v (.int .u64 ((n0 : Nat) : Int)))), (11, .vs r0), (13, .p none (.v (.int .u64 ((e1 : Nat) : Int)))), (15, .vb ((pQ1 s).isSome)), (16, .p none (.v (.int .u64 ((e2 : Nat) : Int)))), (18, .vb ((pQ2 s).isSome)), (19, .p none (.v (.int .u64 ((tvN (zAQ r2) : Nat) : Int)))), (20, .vs (tvR (zAQ r2))), (21, .vb ((zAQ r2).isSome))] [(4, [.vi 0, .vi 0, .vi 0])] []) ?_ ?_
      · exact zAJ ⟨rfl, rfl, rfl, rfl, rfl, rfl, rfl, rfl, rfl, rfl, trivial⟩ ⟨rfl, trivial⟩ trivial rfl
      have hq3 : pQ3 s = zAQ r2 := by rw [pQ3, c8.h]
      obtain ⟨e3, c5⟩ : ∃ x, Is (tvN (pQ3 s)) x := ⟨_, ⟨rfl⟩⟩
      obtain ⟨r3, c9⟩ : ∃ x, Is (tvR (pQ3 s)) x := ⟨_, ⟨rfl⟩⟩
      refine zAO (s' := mk [(4, .ptr 4 0), (10, .p none (.v (.int .u64 ((n0 : Nat) : Int)))), (11, .vs r0), (13, .p none (.v (.int .u64 ((e1 : Nat) : Int)))), (15, .vb ((pQ1 s).isSome)), (16, .p none (.v (.int .u64 ((e2 : Nat) : Int)))), (18, .vb ((pQ2 s).isSome)), (19, .p none (.v (.int .u64 ((e3 : Nat) : Int)))), (20, .vs r3), (21, .vb ((pQ3 s).isSome))] [(4, [.vi 0, .vi 0, .vi 0])] []) ?_ ?_
      · exact zAJ ⟨rfl, rfl, rfl, rfl, rfl, rfl, rfl, (zAE (congrArg Nat.cast (by rw [← hq3]; exact c5.h))), (zA3 (by rw [← hq3]; exact c9.h)), (zAG (by rw [hq3])), trivial⟩ ⟨rfl, trivial⟩ trivial rfl
      rcases bfc (!((pQ1 s).isSome)) with h6 | h6
      ·
       have h6' := h6
       replace h6' : ((pQ1 s).isSome) = true := zAn h6'
       rcases bfc (!((pQ2 s).isSome)) with h7 | h7
       ·
        have h7' := h7
        replace h7' : ((pQ2 s).isSome) = true := zAn h7'
        rcases bfc (!((pQ3 s).isSome)) with h8 | h8
        ·
         have h8' := h8
         replace h8' : ((pQ3 s).isSome) = true := zAn h8'
         rcases bfc (!(decide (r3 = ⟨#[]⟩))) with h9 | h9
         ·
          have h9' := h9
          replace h9' : r3 = ⟨#[]⟩ := of_decide_eq_true (zAn h9')
          rcases bfc (decide (100 < ((e1 : Nat) : Int))) with h10 | h10
          ·
           have h10' := h10
           replace h10' := of_decide_eq_false h10'
           rcases bfc (decide (10000 < ((e2 : Nat) : Int))) with h11 | h11
           ·
            have h11' := h11
            replace h11' := of_decide_eq_false h11'
            refine zAA rfl (.m rfl rfl (.r rfl (zAL (zAa (b := (pQ1 s).isSome) rfl rfl) (zAG h6)) (.m rfl rfl (.m rfl rfl (.r rfl (zAL (zAa (b := (pQ2 s).isSome) rfl rfl) (zAG h7)) (.r rfl (zAg rfl rfl) (.m rfl rfl (.m rfl rfl (.r rfl (zAL (zAa (b := (pQ3 s).isSome) rfl rfl) (zAG h8)) (.r rfl (zAg rfl rfl) (.m rfl rfl (.m rfl rfl (.r rfl (zAL (zCC rfl rfl rfl) (zAG h9)) (.r rfl (zAg rfl rfl) (.m rfl rfl (.m rfl rfl (.r rfl (zAL (zBE rfl rfl rfl) (zAG h10)) (.r rfl (zAg rfl rfl) (.m rfl rfl (.m rfl rfl (.r rfl (zAL (zBE rfl rfl rfl) (zAG h11)) (.r rfl (zAg rfl rfl) (.m rfl rfl (.m rfl rfl (.r rfl (zBE rfl rfl rfl) (.r rfl (zAg rfl rfl) .nil)))))))))))))))))))))))))) ?_
            refine zAT (t := decide (2 < ((e3 : Nat) : Int))) rfl (fun h12 => ?_) (fun h12 => ?_)
            ·
             replace h12 := of_decide_eq_true h12
             refine zAB ?_
             refine zAO (s' := mk [(4, .ptr 4 0)] [(4, [.vi 0, .vi 0, .vi 0])] []) ?_ ?_
             · exact zAJ ⟨rfl, trivial⟩ ⟨rfl, trivial⟩ trivial rfl
             obtain rfl := ho.symm.trans (zCN (s := s) (fun q => by have q2 := q.n3; rw [c5.h] at q2; omega))
             refine zAA rfl (.r rfl (zAw (pl := [(0, 1), (1, 1), (2, 1)]) rfl underlying30 zDZ (by kernel_rfl) rfl rfl) (.a rfl rfl (.a rfl rfl (.r rfl (zAN rfl rfl rfl rfl rfl sizeOf30 rfl (nle rfl)) (.a rfl rfl .nil))))) ?_
             refine zAI ?_
             exact ends [_, _, _, _] [] (.cons (.tmp rfl) (.cons (.tmp rfl) (.cons (.cell rfl rfl isAgg30 sizeOf30 (nle rfl)) (.cons (.tmp rfl) .nil)))) (.cons (.one .v (.v _)) (.cons (.one .v (.v _)) (.cons (.agg (.cons .v (.cons .v (.cons .v .nil))) (zAM (.v _) (zAM (.v _) (zAM (.v _) zBQ)))) (.cons (.one .v (.v _)) .nil)))) (by decide) trivial
            ·
             replace h12 := of_decide_eq_false h12
             refine zAK ?_
             refine zAB ?_
             refine zAO (s' := mk [(4, .ptr 4 0), (10, .p none (.v (.int .u64 ((n0 : Nat) : Int)))), (11, .vs r0), (13, .p none (.v (.int .u64 ((e1 : Nat) : Int)))), (16, .p none (.v (.int .u64 ((e2 : Nat) : Int)))), (19, .p none (.v (.int .u64 ((e3 : Nat) : Int))))] [(4, [.vi 0, .vi 0, .vi 0])] []) ?_ ?_
             · exact zAJ ⟨rfl, rfl, rfl, rfl, rfl, rfl, trivial⟩ ⟨rfl, trivial⟩ trivial rfl
             have hP : POk s := ⟨h1, h2', h3', by rw [c2.h]; omega, by rw [c1.h]; omega, h6', h7', h8', c9.h.trans h9', by rw [c3.h]; omega, by rw [c4.h]; omega, by rw [c5.h]; omega⟩
             have hY : propsF s = some (n0, r0.extract 0 64, e1, e2, e3) := by rw [zHc hP, c1.h, c2.h, c3.h, c4.h, c5.h]
             obtain rfl := ho.symm.trans hY
             refine zAb zBh rfl (.m rfl rfl (.r rfl (zBn rfl rfl underlying53 underlying2 (by omega)) (.m rfl rfl (.r rfl (zA0 rfl rfl underlying9 .no (.at_ rfl (show (64 : Int) = ((64 : Nat) : Int) from rfl)) (Nat.zero_le _) (by omega)) (.m rfl rfl (.r rfl (zBn rfl rfl underlying53 underlying2 (by omega)) (.m rfl rfl (.r rfl (zBn rfl rfl underlying53 underlying2 (by omega)) (.m rfl rfl (.r rfl (zBn rfl rfl underlying53 underlying2 (by omega)) (.r rfl (zAw (pl := [(0, 1), (1, 1), (2, 1)]) rfl underlying30 zDZ (by kernel_rfl) rfl rfl) (.a rfl rfl (.a rfl rfl (.r rfl (zAN rfl rfl rfl rfl rfl sizeOf30 rfl (nle rfl)) (.a rfl rfl .nil))))))))))))))) (by kernel_rfl) ?_
             refine zAI ?_
             exact ends [_, _, _, _] [] (.cons (.tmp rfl) (.cons (.tmp rfl) (.cons (.cell rfl rfl isAgg30 sizeOf30 (nle rfl)) (.cons (.tmp rfl) .nil)))) (.cons (.one .v (.v _)) (.cons (.one .v (.v _)) (.cons (.agg (.cons .v (.cons .v (.cons .v .nil))) (zAM (.v _) (zAM (.v _) (zAM (.v _) zBQ)))) (.cons (.one .v (.v _)) .nil)))) (by decide) trivial
           ·
            have h11' := h11
            replace h11' := of_decide_eq_true h11'
            refine zAA rfl (.m rfl rfl (.r rfl (zAL (zAa (b := (pQ1 s).isSome) rfl rfl) (zAG h6)) (.m rfl rfl (.m rfl rfl (.r rfl (zAL (zAa (b := (pQ2 s).isSome) rfl rfl) (zAG h7)) (.r rfl (zAg rfl rfl) (.m rfl rfl (.m rfl rfl (.r rfl (zAL (zAa (b := (pQ3 s).isSome) rfl rfl) (zAG h8)) (.r rfl (zAg rfl rfl) (.m rfl rfl (.m rfl rfl (.r rfl (zAL (zCC rfl rfl rfl) (zAG h9)) (.r rfl (zAg rfl rfl) (.m rfl rfl (.m rfl rfl (.r rfl (zAL (zBE rfl rfl rfl) (zAG h10)) (.r rfl (zAg rfl rfl) (.m rfl rfl (.m rfl rfl (.r rfl (zAL (zBE rfl rfl rfl) (zAG h11)) (.r rfl (zAg rfl rfl) (.m rfl rfl (.not rfl (.not rfl (.r rfl (zAo rfl rfl) .nil)))))))))))))))))))))))))) ?_
            refine zAT (t := true) rfl (fun _ => ?_) (fun h => nomatch h)
            refine zAB ?_
            refine zAO (s' := mk [(4, .ptr 4 0)] [(4, [.vi 0, .vi 0, .vi 0])] []) ?_ ?_
            · exact zAJ ⟨rfl, trivial⟩ ⟨rfl, trivial⟩ trivial rfl
            obtain rfl := ho.symm.trans (zCN (s := s) (fun q => by have q2 := q.n2; rw [c4.h] at q2; omega))
            refine zAA rfl (.r rfl (zAw (pl := [(0, 1), (1, 1), (2, 1)]) rfl underlying30 zDZ (by kernel_rfl) rfl rfl) (.a rfl rfl (.a rfl rfl (.r rfl (zAN rfl rfl rfl rfl rfl sizeOf30 rfl (nle rfl)) (.a rfl rfl .nil))))) ?_
            refine zAI ?_
            exact ends [_, _, _, _] [] (.cons (.tmp rfl) (.cons (.tmp rfl) (.cons (.cell rfl rfl isAgg30 sizeOf30 (nle rfl)) (.cons (.tmp rfl) .nil)))) (.cons (.one .v (.v _)) (.cons (.one .v (.v _)) (.cons (.agg (.cons .v (.cons .v (.cons .v .nil))) (zAM (.v _) (zAM (.v _) (zAM (.v _) zBQ)))) (.cons (.one .v (.v _)) .nil)))) (by decide) trivial
          ·
           have h10' := h10
           replace h10' := of_decide_eq_true h10'
           refine zAA rfl (.m rfl rfl (.r rfl (zAL (zAa (b := (pQ1 s).isSome) rfl rfl) (zAG h6)) (.m rfl rfl (.m rfl rfl (.r rfl (zAL (zAa (b := (pQ2 s).isSome) rfl rfl) (zAG h7)) (.r rfl (zAg rfl rfl) (.m rfl rfl (.m rfl rfl (.r rfl (zAL (zAa (b := (pQ3 s).isSome) rfl rfl) (zAG h8)) (.r rfl (zAg rfl rfl) (.m rfl rfl (.m rfl rfl (.r rfl (zAL (zCC rfl rfl rfl) (zAG h9)) (.r rfl (zAg rfl rfl) (.m rfl rfl (.m rfl rfl (.r rfl (zAL (zBE rfl rfl rfl) (zAG h10)) (.r rfl (zAg rfl rfl) (.m rfl rfl (.not rfl (.not rfl (.r rfl (zAo rfl rfl) (.m rfl rfl (.not rfl (.not rfl (.r rfl (zAo rfl rfl) .nil)))))))))))))))))))))))))) ?_
           refine zAT (t := true) rfl (fun _ => ?_) (fun h => nomatch h)
           refine zAB ?_
           refine zAO (s' := mk [(4, .ptr 4 0)] [(4, [.vi 0, .vi 0, .vi 0])] []) ?_ ?_
           · exact zAJ ⟨rfl, trivial⟩ ⟨rfl, trivial⟩ trivial rfl
           obtain rfl := ho.symm.trans (zCN (s := s) (fun q => by have q2 := q.n1; rw [c3.h] at q2; omega))
           refine zAA rfl (.r rfl (zAw (pl := [(0, 1), (1, 1), (2, 1)]) rfl underlying30 zDZ (by kernel_rfl) rfl rfl) (.a rfl rfl (.a rfl rfl (.r rfl (zAN rfl rfl rfl rfl rfl sizeOf30 rfl (nle rfl)) (.a rfl rfl .nil))))) ?_
           refine zAI ?_
           exact ends [_, _, _, _] [] (.cons (.tmp rfl) (.cons (.tmp rfl) (.cons (.cell rfl rfl isAgg30 sizeOf30 (nle rfl)) (.cons (.tmp rfl) .nil)))) (.cons (.one .v (.v _)) (.cons (.one .v (.v _)) (.cons (.agg (.cons .v (.cons .v (.cons .v .nil))) (zAM (.v _) (zAM (.v _) (zAM (.v _) zBQ)))) (.cons (.one .v (.v _)) .nil)))) (by decide) trivial
         ·
          have h9' := h9
          replace h9' : ¬ (r3 = ⟨#[]⟩) := of_decide_eq_false (zAm h9')
          refine zAA rfl (.m rfl rfl (.r rfl (zAL (zAa (b := (pQ1 s).isSome) rfl rfl) (zAG h6)) (.m rfl rfl (.m rfl rfl (.r rfl (zAL (zAa (b := (pQ2 s).isSome) rfl rfl) (zAG h7)) (.r rfl (zAg rfl rfl) (.m rfl rfl (.m rfl rfl (.r rfl (zAL (zAa (b := (pQ3 s).isSome) rfl rfl) (zAG h8)) (.r rfl (zAg rfl rfl) (.m rfl rfl (.m rfl rfl (.r rfl (zAL (zCC rfl rfl rfl) (zAG h9)) (.r rfl (zAg rfl rfl) (.m rfl rfl (.not rfl (.not rfl (.r rfl (zAo rfl rfl) (.m rfl rfl (.not rfl (.not rfl (.r rfl (zAo rfl rfl) (.m rfl rfl (.not rfl (.not rfl (.r rfl (zAo rfl rfl) .nil)))))))))))))))))))))))))) ?_
          refine zAT (t := true) rfl (fun _ => ?_) (fun h => nomatch h)
          refine zAB ?_
          refine zAO (s' := mk [(4, .ptr 4 0)] [(4, [.vi 0, .vi 0, .vi 0])] []) ?_ ?_
          · exact zAJ ⟨rfl, trivial⟩ ⟨rfl, trivial⟩ trivial rfl
          obtain rfl := ho.symm.trans (zCN (s := s) (fun q => h9' (c9.h.symm.trans q.end_)))
          refine zAA rfl (.r rfl (zAw (pl := [(0, 1), (1, 1), (2, 1)]) rfl underlying30 zDZ (by kernel_rfl) rfl rfl) (.a rfl rfl (.a rfl rfl (.r rfl (zAN rfl rfl rfl rfl rfl sizeOf30 rfl (nle rfl)) (.a rfl rfl .nil))))) ?_
          refine zAI ?_
          exact ends [_, _, _, _] [] (.cons (.tmp rfl) (.cons (.tmp rfl) (.cons (.cell rfl rfl isAgg30 sizeOf30 (nle rfl)) (.cons (.tmp rfl) .nil)))) (.cons (.one .v (.v _)) (.cons (.one .v (.v _)) (.cons (.agg (.cons .v (.cons .v (.cons .v .nil))) (zAM (.v _) (zAM (.v _) (zAM (.v _) zBQ)))) (.cons (.one .v (.v _)) .nil)))) (by decide) trivial
        ·
         have h8' := h8
         replace h8' : ((pQ3 s).isSome) = false := zAm h8'
         refine zAA rfl (.m rfl rfl (.r rfl (zAL (zAa (b := (pQ1 s).isSome) rfl rfl) (zAG h6)) (.m rfl rfl (.m rfl rfl (.r rfl (zAL (zAa (b := (pQ2 s).isSome) rfl rfl) (zAG h7)) (.r rfl (zAg rfl rfl) (.m rfl rfl (.m rfl rfl (.r rfl (zAL (zAa (b := (pQ3 s).isSome) rfl rfl) (zAG h8)) (.r rfl (zAg rfl rfl) (.m rfl rfl (.not rfl (.not rfl (.r rfl (zAo rfl rfl) (.m rfl rfl (.not rfl (.not rfl (.r rfl (zAo rfl rfl) (.m rfl rfl (.not rfl (.not rfl (.r rfl (zAo rfl rfl) (.m rfl rfl (.not rfl (.not rfl (.r rfl (zAo rfl rfl) .nil)))))))))))))))))))))))))) ?_
         refine zAT (t := true) rfl (fun _ => ?_) (fun h => nomatch h)
         refine zAB ?_
         refine zAO (s' := mk [(4, .ptr 4 0)] [(4, [.vi 0, .vi 0, .vi 0])] []) ?_ ?_
         · exact zAJ ⟨rfl, trivial⟩ ⟨rfl, trivial⟩ trivial rfl
         obtain rfl := ho.symm.trans (zCN (s := s) (fun q => by rw [q.q3] at h8'; cases h8'))
         refine zAA rfl (.r rfl (zAw (pl := [(0, 1), (1, 1), (2, 1)]) rfl underlying30 zDZ (by kernel_rfl) rfl rfl) (.a rfl rfl (.a rfl rfl (.r rfl (zAN rfl rfl rfl rfl rfl sizeOf30 rfl (nle rfl)) (.a rfl rfl .nil))))) ?_
         refine zAI ?_
         exact ends [_, _, _, _] [] (.cons (.tmp rfl) (.cons (.tmp rfl) (.cons (.cell rfl rfl isAgg30 sizeOf30 (nle rfl)) (.cons (.tmp rfl) .nil)))) (.cons (.one .v (.v _)) (.cons (.one .v (.v _)) (.cons (.agg (.cons .v (.cons .v (.cons .v .nil))) (zAM (.v _) (zAM (.v _) (zAM (.v _) zBQ)))) (.cons (.one .v (.v _)) .nil)))) (by decide) trivial
       ·
        have h7' := h7
        replace h7' : ((pQ2 s).isSome) = false := zAm h7'
        refine zAA rfl (.m rfl rfl (.r rfl (zAL (zAa (b := (pQ1 s).isSome) rfl rfl) (zAG h6)) (.m rfl rfl (.m rfl rfl (.r rfl (zAL (zAa (b := (pQ2 s).isSome) rfl rfl) (zAG h7)) (.r rfl (zAg rfl rfl) (.m rfl rfl (.not rfl (.not rfl (.r rfl (zAo rfl rfl) (.m rfl rfl (.not rfl (.not rfl (.r rfl (zAo rfl rfl) (.m rfl rfl (.not rfl (.not rfl (.r rfl (zAo rfl rfl) (.m rfl rfl (.not rfl (.not rfl (.r rfl (zAo rfl rfl) (.m rfl rfl (.not rfl (.not rfl (.r rfl (zAo rfl rfl) .nil)))))))))))))))))))))))))) ?_
        refine zAT (t := true) rfl (fun _ => ?_) (fun h => nomatch h)
        refine zAB ?_
        refine zAO (s' := mk [(4, .ptr 4 0)] [(4, [.vi 0, .vi 0, .vi 0])] []) ?_ ?_
        · exact zAJ ⟨rfl, trivial⟩ ⟨rfl, trivial⟩ trivial rfl
        obtain rfl := ho.symm.trans (zCN (s := s) (fun q => by rw [q.q2] at h7'; cases h7'))
        refine zAA rfl (.r rfl (zAw (pl := [(0, 1), (1, 1), (2, 1)]) rfl underlying30 zDZ (by kernel_rfl) rfl rfl) (.a rfl rfl (.a rfl rfl (.r rfl (zAN rfl rfl rfl rfl rfl sizeOf30 rfl (nle rfl)) (.a rfl rfl .nil))))) ?_
        refine zAI ?_
        exact ends [_, _, _, _] [] (.cons (.tmp rfl) (.cons (.tmp rfl) (.cons (.cell rfl rfl isAgg30 sizeOf30 (nle rfl)) (.cons (.tmp rfl) .nil)))) (.cons (.one .v (.v _)) (.cons (.one .v (.v _)) (.cons (.agg (.cons .v (.cons .v (.cons .v .nil))) (zAM (.v _) (zAM (.v _) (zAM (.v _) zBQ)))) (.cons (.one .v (.v _)) .nil)))) (by decide) trivial
      ·
       have h6' := h6
       replace h6' : ((pQ1 s).isSome) = false := zAm h6'
       refine zAA rfl (.m rfl rfl (.r rfl (zAL (zAa (b := (pQ1 s).isSome) rfl rfl) (zAG h6)) (.m rfl rfl (.not rfl (.not rfl (.r rfl (zAo rfl rfl) (.m rfl rfl (.not rfl (.not rfl (.r rfl (zAo rfl rfl) (.m rfl rfl (.not rfl (.not rfl (.r rfl (zAo rfl rfl) (.m rfl rfl (.not rfl (.not rfl (.r rfl (zAo rfl rfl) (.m rfl rfl (.not rfl (.not rfl (.r rfl (zAo rfl rfl) (.m rfl rfl (.not rfl (.not rfl (.r rfl (zAo rfl rfl) .nil)))))))))))))))))))))))))) ?_
       refine zAT (t := true) rfl (fun _ => ?_) (fun h => nomatch h)
       refine zAB ?_
       refine zAO (s' := mk [(4, .ptr 4 0)] [(4, [.vi 0, .vi 0, .vi 0])] []) ?_ ?_
       · exact zAJ ⟨rfl, trivial⟩ ⟨rfl, trivial⟩ trivial rfl
       obtain rfl := ho.symm.trans (zCN (s := s) (fun q => by rw [q.q1] at h6'; cases h6'))
       refine zAA rfl (.r rfl (zAw (pl := [(0, 1), (1, 1), (2, 1)]) rfl underlying30 zDZ (by kernel_rfl) rfl rfl) (.a rfl rfl (.a rfl rfl (.r rfl (zAN rfl rfl rfl rfl rfl sizeOf30 rfl (nle rfl)) (.a rfl rfl .nil))))) ?_
       refine zAI ?_
       exact ends [_, _, _, _] [] (.cons (.tmp rfl) (.cons (.tmp rfl) (.cons (.cell rfl rfl isAgg30 sizeOf30 (nle rfl)) (.cons (.tmp rfl) .nil)))) (.cons (.one .v (.v _)) (.cons (.one .v (.v _)) (.cons (.agg (.cons .v (.cons .v (.cons .v .nil))) (zAM (.v _) (zAM (.v _) (zAM (.v _) zBQ)))) (.cons (.one .v (.v _)) .nil)))) (by decide) trivial
    ·
     have h4' := h4
     replace h4' := of_decide_eq_true h4'
     refine zAA rfl (.m rfl rfl (.r rfl (zAL (zAa (b := (zBD s (tAt2 s)).isSome) rfl rfl) (zAG h2)) (.m rfl rfl (.m rfl rfl (.r rfl (zAL (zAa (b := (pV s).isSome) rfl rfl) (zAG h3)) (.r rfl (zAg rfl rfl) (.m rfl rfl (.m rfl rfl (.r rfl (zAP rfl rfl underlying9) (.r rfl (zAL (zAt rfl rfl rfl) (zAG h4)) (.r rfl (zAg rfl rfl) (.m rfl rfl (.not rfl (.not rfl (.r rfl (zAo rfl rfl) .nil))))))))))))))) ?_
     refine zAT (t := true) rfl (fun _ => ?_) (fun h => nomatch h)
     refine zAB ?_
     refine zAO (s' := mk [(4, .ptr 4 0)] [(4, [.vi 0, .vi 0, .vi 0])] []) ?_ ?_
     · exact zAJ ⟨rfl, trivial⟩ ⟨rfl, trivial⟩ trivial rfl
     obtain rfl := ho.symm.trans (zCN (s := s) (fun q => by have q2 := q.regs; rw [c2.h] at q2; omega))
     refine zAA rfl (.r rfl (zAw (pl := [(0, 1), (1, 1), (2, 1)]) rfl underlying30 zDZ (by kernel_rfl) rfl rfl) (.a rfl rfl (.a rfl rfl (.r rfl (zAN rfl rfl rfl rfl rfl sizeOf30 rfl (nle rfl)) (.a rfl rfl .nil))))) ?_
     refine zAI ?_
     exact ends [_, _, _, _] [] (.cons (.tmp rfl) (.cons (.tmp rfl) (.cons (.cell rfl rfl isAgg30 sizeOf30 (nle rfl)) (.cons (.tmp rfl) .nil)))) (.cons (.one .v (.v _)) (.cons (.one .v (.v _)) (.cons (.agg (.cons .v (.cons .v (.cons .v .nil))) (zAM (.v _) (zAM (.v _) (zAM (.v _) zBQ)))) (.cons (.one .v (.v _)) .nil)))) (by decide) trivial
   ·
    have h3' := h3
    replace h3' : ((pV s).isSome) = false := zAm h3'
    refine zAA rfl (.m rfl rfl (.r rfl (zAL (zAa (b := (zBD s (tAt2 s)).isSome) rfl rfl) (zAG h2)) (.m rfl rfl (.m rfl rfl (.r rfl (zAL (zAa (b := (pV s).isSome) rfl rfl) (zAG h3)) (.r rfl (zAg rfl rfl) (.m rfl rfl (.not rfl (.not rfl (.not rfl (.r rfl (zAo rfl rfl) (.m rfl rfl (.not rfl (.not rfl (.r rfl (zAo rfl rfl) .nil))))))))))))))) ?_
    refine zAT (t := true) rfl (fun _ => ?_) (fun h => nomatch h)
    refine zAB ?_
    refine zAO (s' := mk [(4, .ptr 4 0)] [(4, [.vi 0, .vi 0, .vi 0])] []) ?_ ?_
    · exact zAJ ⟨rfl, trivial⟩ ⟨rfl, trivial⟩ trivial rfl
    obtain rfl := ho.symm.trans (zCN (s := s) (fun q => by rw [q.v] at h3'; cases h3'))
    refine zAA rfl (.r rfl (zAw (pl := [(0, 1), (1, 1), (2, 1)]) rfl underlying30 zDZ (by kernel_rfl) rfl rfl) (.a rfl rfl (.a rfl rfl (.r rfl (zAN rfl rfl rfl rfl rfl sizeOf30 rfl (nle rfl)) (.a rfl rfl .nil))))) ?_
    refine zAI ?_
    exact ends [_, _, _, _] [] (.cons (.tmp rfl) (.cons (.tmp rfl) (.cons (.cell rfl rfl isAgg30 sizeOf30 (nle rfl)) (.cons (.tmp rfl) .nil)))) (.cons (.one .v (.v _)) (.cons (.one .v (.v _)) (.cons (.agg (.cons .v (.cons .v (.cons .v .nil))) (zAM (.v _) (zAM (.v _) (zAM (.v _) zBQ)))) (.cons (.one .v (.v _)) .nil)))) (by decide) trivial
  ·
   have h2' := h2
   replace h2' : ((zBD s (tAt2 s)).isSome) = false := zAm h2'
   refine zAA rfl (.m rfl rfl (.r rfl (zAL (zAa (b := (zBD s (tAt2 s)).isSome) rfl rfl) (zAG h2)) (.m rfl rfl (.not rfl (.not rfl (.r rfl (zAo rfl rfl) (.m rfl rfl (.not rfl (.not rfl (.not rfl (.r rfl (zAo rfl rfl) (.m rfl rfl (.not rfl (.not rfl (.r rfl (zAo rfl rfl) .nil))))))))))))))) ?_
   refine zAT (t := true) rfl (fun _ => ?_) (fun h => nomatch h)
   refine zAB ?_
   refine zAO (s' := mk [(4, .ptr 4 0)] [(4, [.vi 0, .vi 0, .vi 0])] []) ?_ ?_
   · exact zAJ ⟨rfl, trivial⟩ ⟨rfl, trivial⟩ trivial rfl
   obtain rfl := ho.symm.trans (zCN (s := s) (fun q => by rw [q.sec] at h2'; cases h2'))
   refine zAA rfl (.r rfl (zAw (pl := [(0, 1), (1, 1), (2, 1)]) rfl underlying30 zDZ (by kernel_rfl) rfl rfl) (.a rfl rfl (.a rfl rfl (.r rfl (zAN rfl rfl rfl rfl rfl sizeOf30 rfl (nle rfl)) (.a rfl rfl .nil))))) ?_
   refine zAI ?_
   exact ends [_, _, _, _] [] (.cons (.tmp rfl) (.cons (.tmp rfl) (.cons (.cell rfl rfl isAgg30 sizeOf30 (nle rfl)) (.cons (.tmp rfl) .nil)))) (.cons (.one .v (.v _)) (.cons (.one .v (.v _)) (.cons (.agg (.cons .v (.cons .v (.cons .v .nil))) (zAM (.v _) (zAM (.v _) (zAM (.v _) zBQ)))) (.cons (.one .v (.v _)) .nil)))) (by decide) trivial
theorem zDk (s : ByteArray) (hs : s.size ≤ 9000000000000000000) : Con Tryd.prog 18 [.one (PV.v (.string s))] [] [.one (.sl true 4 (pvE (tabL s))), .one (.v (.bool ((zBq s).isSome)))] := by
 refine zAR func18 rfl rfl rfl rfl ?_
 refine zAB (zAA rfl (.a rfl rfl (.a rfl rfl .nil)) ?_)
 refine zAB (zAA rfl (.m rfl rfl (.run [2000, 2001, 2002, 2003, 2004, 2005] [] rfl (zAF rfl 2000 (X := []) en43 rfl (.val nod) (.cons (.one (.bor .v)) .nil) (by decide) all_nil .nil (zFm s _ rfl (by omega)) rfl rfl (nle rfl)) (.m rfl rfl (.r rfl (zAH rfl rfl rfl) (.r rfl (zAH rfl rfl rfl) (.r rfl (zAH rfl rfl rfl) (.r rfl (zAH rfl rfl rfl) (.run [] [6] rfl (zBA rfl 6 zDZ rfl (by decide) rfl (by decide)) (.a rfl rfl (.a rfl rfl (.r rfl (zAN rfl rfl rfl rfl rfl sizeOf30 rfl (nle rfl)) (.a rfl rfl .nil)))))))))))) ?_)
 refine zAB ?_
 refine zAB (zAA rfl (.m rfl rfl (.r rfl (zAa (b := (propsF s).isSome) rfl rfl) .nil)) ?_)
 refine zAT (t := (!((propsF s).isSome))) rfl (fun h1 => ?_) (fun h1 => ?_)
 ·
  replace h1 : ((propsF s).isSome) = false := zAm h1
  refine zAB ?_
  refine zAO (s' := mk [] [] []) ?_ ?_
  · exact zAJ trivial trivial trivial rfl
  have hz := zKA h1
  rw [zD6 hz, hz]
  refine zAA rfl (.a rfl rfl (.a rfl rfl .nil)) ?_
  refine zAI ?_
  exact ends [_, _] [] (.cons (.tmp rfl) (.cons (.tmp rfl) .nil)) (.cons (.one (.nil _) (.sl _ _ (fun _ h => nomatch h))) (.cons (.one .v (.v _)) .nil)) (by decide) trivial
 ·
  replace h1 : ((propsF s).isSome) = true := zAn h1
  refine zAK ?_
  refine zAB ?_
  refine zAO (s' := mk [(0, .vs s), (6, .ptr 6 0)] [(6, [.vi ((((propsF s).getD pz).2.2.1 : Nat) : Int), .vi ((((propsF s).getD pz).2.2.2.1 : Nat) : Int), .vi ((((propsF s).getD pz).2.2.2.2 : Nat) : Int)])] []) ?_ ?_
  · exact zAJ ⟨rfl, rfl, trivial⟩ ⟨rfl, trivial⟩ trivial rfl
  have hpq := zDT (d := pz) h1
  have hpn := zGh hpq
  have hfb := zKE hpq
  refine zAA rfl (.m rfl rfl (.run [2900, 2901] [] rfl (zAF rfl 2900 (X := []) en46 rfl (.val nod) (.cons (.one (.bor .v)) .nil) (by decide) all_nil .nil (zGr s (by omega)) rfl rfl (nle rfl)) (.m rfl rfl (.r rfl (zAH rfl rfl rfl) (.r rfl (zAH rfl rfl rfl) (.a rfl rfl (.a rfl rfl .nil))))))) ?_
  refine zAB ?_
  have hfg := zLG hfb
  have hfl := hfg.2.2.2
  have hat := at_lt s
  refine zAA rfl (.run [3200] [] rfl (zAv rfl 3200 underlying28 zEH (nle rfl) (by decide) rfl rfl rfl .nil (by decide) rfl (by decide) rfl (by decide) rfl) (.a rfl rfl .nil)) ?_
  refine zAB (zAA rfl (.a rfl rfl .nil) ?_)
  refine zAB ?_
  refine zAS ?_
  refine zAO (zCd 2700 1 rfl rfl (by decide)) ?_
  refine zAO (zCd 3200 2 rfl rfl (by decide)) ?_
  refine zAj (σ := Nat × List Ent) (fun (a, out) => mk [(0, .vs s), (6, .ptr 6 0), (8, .sl 2900 0 ((pvI (zDa s)).length)), (10, .sl 2 0 ((pvE out).length)), (11, .vi ((a : Nat) : Int))] [(6, [.vi ((((propsF s).getD pz).2.2.1 : Nat) : Int), .vi ((((propsF s).getD pz).2.2.2.1 : Nat) : Int), .vi ((((propsF s).getD pz).2.2.2.2 : Nat) : Int)])] [(2, 4, pvE out), (2900, 1, pvI (zDa s))]) (fun (a, out) => (a ≤ 5000000000 ∧ out.length ≤ 400) ∧ TA s a out) (fun (a, out) => tAt0 s - a) (0, []) ⟨⟨by decide, by decide⟩, TA.start s⟩ (zAJ ⟨rfl, rfl, rfl, rfl, rfl, trivial⟩ ⟨rfl, trivial⟩ ⟨(congrArg (fun x => some (4, x)) (by rfl)), rfl, trivial⟩ rfl) ?_
  rintro ⟨a, out⟩ hG
  replace hG : (a ≤ 5000000000 ∧ out.length ≤ 400) ∧ TA s a out := hG
  obtain ⟨⟨ha, hlo⟩, hT⟩ := hG
  have hvo := zAf out
  refine zAB ?_
  refine zAB (zAA rfl (.m rfl rfl (.m rfl rfl (.r rfl (zA1 0 rfl rfl rfl rfl underlying80 sizeOf2 rfl rfl (by omega)) (.r rfl (zBl (.int .i64 ((tAt0 s : Nat) : Int)) rfl rfl rfl hfg.1 isAgg2 rfl) (.r rfl (zAt rfl rfl rfl) .nil))))) ?_)
  refine zAT (t := decide (((a : Nat) : Int) < ((tAt0 s : Nat) : Int))) rfl (fun h2 => ?_) (fun h2 => ?_)
  ·
   replace h2 := of_decide_eq_true h2
   refine zAK ?_
   refine zAS ?_
   refine zAB ?_
   have hlt : a < tAt0 s := by omega
   refine zAA rfl (.m rfl rfl (.m rfl rfl (.run [4100, 4101] [] rfl (zAF rfl 4100 (X := []) en47 rfl (.val nod) (.cons (.one (.bor .v)) (.cons (.one (.bor .v)) .nil)) (by decide) all_nil .nil (zGq s a (by omega) (by omega)) rfl rfl (nle rfl)) (.m rfl rfl (.r rfl (zAH rfl rfl rfl) (.r rfl (zAH rfl rfl rfl) (.a rfl rfl (.a rfl rfl .nil)))))))) ?_
   refine zAB ?_
   refine zAO (s' := mk [(0, .vs s), (6, .ptr 6 0), (8, .sl 2900 0 ((pvI (zDa s)).length)), (10, .sl 2 0 ((pvE out).length)), (11, .vi ((a : Nat) : Int)), (12, .vs (txX (zBD s a))), (13, .vb ((zBD s a).isSome))] [(6, [.vi ((((propsF s).getD pz).2.2.1 : Nat) : Int), .vi ((((propsF s).getD pz).2.2.2.1 : Nat) : Int), .vi ((((propsF s).getD pz).2.2.2.2 : Nat) : Int)])] [(2, 4, pvE out), (2900, 1, pvI (zDa s))]) ?_ ?_
   · exact zAJ ⟨rfl, rfl, rfl, rfl, rfl, rfl, rfl, trivial⟩ ⟨rfl, trivial⟩ ⟨rfl, rfl, trivial⟩ rfl
   have hsx := zMV s a
   have hse := zDV (s := txX (zBD s a)) (by omega)
   have hsp := zNz (txX (zBD s a))
   refine zAA rfl (.m rfl rfl (.run [4600, 4601] [] rfl (zAF rfl 4600 (X := []) en48 rfl (.val nod) (.cons (.one (.bor .v)) .nil) (by decide) all_nil .nil (zHC (txX (zBD s a)) (by omega)) rfl rfl (nle rfl)) (.m rfl rfl (.r rfl (zAH rfl rfl rfl) (.r rfl (zAH rfl rfl rfl) (.a rfl rfl (.a rfl rfl .nil))))))) ?_
   refine zAB ?_
   refine zAB ?_
   have hvr := zAf ((zBI (txX (zBD s a))).getD [])
   have hrl := zMe (txX (zBD s a))
   refine zAO (s' := mk [(0, .vs s), (6, .ptr 6 0), (8, .sl 2900 0 ((pvI (zDa s)).length)), (10, .sl 2 0 ((pvE out).length)), (11, .vi ((a : Nat) : Int)), (12, .vs (txX (zBD s a))), (13, .vb ((zBD s a).isSome)), (14, .sl 4600 0 ((pvE ((zBI (txX (zBD s a))).getD [])).length)), (15, .vb ((zBI (txX (zBD s a))).isSome))] [(6, [.vi ((((propsF s).getD pz).2.2.1 : Nat) : Int), .vi ((((propsF s).getD pz).2.2.2.1 : Nat) : Int), .vi ((((propsF s).getD pz).2.2.2.2 : Nat) : Int)])] [(2, 4, pvE out), (2900, 1, pvI (zDa s)), (4600, 4, pvE ((zBI (txX (zBD s a))).getD []))]) ?_ ?_
   · exact zAJ ⟨rfl, rfl, rfl, rfl, rfl, rfl, rfl, rfl, rfl, trivial⟩ ⟨rfl, trivial⟩ ⟨rfl, rfl, rfl, trivial⟩ rfl
   rcases bfc (!((zBD s a).isSome)) with h3 | h3
   ·
    have h3' := h3
    replace h3' : ((zBD s a).isSome) = true := zAn h3'
    rcases bfc (!((zBI (txX (zBD s a))).isSome)) with h4 | h4
    ·
     have h4' := h4
     replace h4' : ((zBI (txX (zBD s a))).isSome) = true := zAn h4'
     refine zAA rfl (.m rfl rfl (.r rfl (zAL (zAa (b := (zBD s a).isSome) rfl rfl) (zAG h3)) (.m rfl rfl (.m rfl rfl (.r rfl (zAL (zAa (b := (zBI (txX (zBD s a))).isSome) rfl rfl) (zAG h4)) (.r rfl (zAg rfl rfl) (.m rfl rfl (.m rfl rfl (.r rfl (zB5 rfl rfl underlying28) (.m rfl rfl (.r rfl (zB5 rfl rfl underlying28) (.r rfl (zAW rfl rfl rfl (by omega)) (.r rfl (zBE rfl rfl rfl) (.r rfl (zAg rfl rfl) .nil)))))))))))))) ?_
     refine zAT (t := decide (400 < (((pvE out).length : Int) + ((pvE ((zBI (txX (zBD s a))).getD [])).length : Int)))) rfl (fun h5 => ?_) (fun h5 => ?_)
     ·
      replace h5 := of_decide_eq_true h5
      refine zAB ?_
      refine zAO (s' := mk [] [] []) ?_ ?_
      · exact zAJ trivial trivial trivial rfl
      have hz := hT.stop hlt (.inr (.inr (by have := zAf ((zBI (txX (zBD s a))).getD []); omega)))
      rw [zD6 hz, hz]
      refine zAA rfl (.a rfl rfl (.a rfl rfl .nil)) ?_
      refine zAI ?_
      exact ends [_, _] [] (.cons (.tmp rfl) (.cons (.tmp rfl) .nil)) (.cons (.one (.nil _) (.sl _ _ (fun _ h => nomatch h))) (.cons (.one .v (.v _)) .nil)) (by decide) trivial
     ·
      replace h5 := of_decide_eq_false h5
      refine zAK ?_
      refine zAB ?_
      refine zAO (s' := mk [(0, .vs s), (6, .ptr 6 0), (8, .sl 2900 0 ((pvI (zDa s)).length)), (10, .sl 2 0 ((pvE out).length)), (11, .vi ((a : Nat) : Int)), (12, .vs (txX (zBD s a))), (14, .sl 4600 0 ((pvE ((zBI (txX (zBD s a))).getD [])).length)), (52, .vb ((zBI (txX (zBD s a))).isSome)), (53, .vb false), (56, .sl 2 0 ((pvE out).length)), (57, .vi ((pvE out).length : Int)), (58, .sl 4600 0 ((pvE ((zBI (txX (zBD s a))).getD [])).length)), (59, .vi ((pvE ((zBI (txX (zBD s a))).getD [])).length : Int)), (60, .vi (((pvE out).length : Int) + ((pvE ((zBI (txX (zBD s a))).getD [])).length : Int))), (61, .vb (decide (400 < (((pvE out).length : Int) + ((pvE ((zBI (txX (zBD s a))).getD [])).length : Int)))))] [(6, [.vi ((((propsF s).getD pz).2.2.1 : Nat) : Int), .vi ((((propsF s).getD pz).2.2.2.1 : Nat) : Int), .vi ((((propsF s).getD pz).2.2.2.2 : Nat) : Int)])] [(2, 4, pvE out), (2900, 1, pvI (zDa s)), (4600, 4, pvE ((zBI (txX (zBD s a))).getD []))]) ?_ ?_
      · exact zAJ ⟨rfl, rfl, rfl, rfl, rfl, rfl, rfl, rfl, rfl, rfl, rfl, rfl, rfl, rfl, rfl, trivial⟩ ⟨rfl, trivial⟩ ⟨rfl, rfl, rfl, trivial⟩ rfl
      refine zAA rfl (.m rfl rfl (.m rfl rfl (.run [2] [] rfl (zB6 rfl 2 (ib := 2) (len := ((pvE out) ++ (pvE ((zBI (txX (zBD s a))).getD []))).length) rfl rfl (.row (len := (pvE out).length) (xs := pvE out) rfl rfl (.inl rfl)) (.give (len := (pvE ((zBI (txX (zBD s a))).getD [])).length) (xs := pvE ((zBI (txX (zBD s a))).getD [])) rfl rfl) underlying28 (sk underlying28 rfl) zEH rfl (by decide) (by decide) (by decide) List.length_append (by simp only [maxLen, List.length_append, List.length_cons, List.length_nil, zAf]; omega) (by simp only [maxLen, List.length_append, List.length_cons, List.length_nil, zAf]; omega)) (.a rfl rfl .nil)))) ?_
      have hr6 : (pvE out) ++ (pvE ((zBI (txX (zBD s a))).getD [])) = pvE (out ++ (zBI (txX (zBD s a))).getD []) := by exact zMj _ _
      have hp7 : (.sl 2 0 (((pvE out) ++ (pvE ((zBI (txX (zBD s a))).getD []))).length) : AV) = .sl 2 0 ((pvE (out ++ (zBI (txX (zBD s a))).getD [])).length) := by simp only [hr6]
      refine zAO (s' := mk [(0, .vs s), (6, .ptr 6 0), (8, .sl 2900 0 ((pvI (zDa s)).length)), (10, .sl 2 0 ((pvE (out ++ (zBI (txX (zBD s a))).getD [])).length)), (11, .vi ((a : Nat) : Int)), (12, .vs (txX (zBD s a))), (52, .vb ((zBI (txX (zBD s a))).isSome)), (53, .vb false), (57, .vi ((pvE out).length : Int)), (59, .vi ((pvE ((zBI (txX (zBD s a))).getD [])).length : Int)), (60, .vi (((pvE out).length : Int) + ((pvE ((zBI (txX (zBD s a))).getD [])).length : Int))), (61, .vb (decide (400 < (((pvE out).length : Int) + ((pvE ((zBI (txX (zBD s a))).getD [])).length : Int)))))] [(6, [.vi ((((propsF s).getD pz).2.2.1 : Nat) : Int), .vi ((((propsF s).getD pz).2.2.2.1 : Nat) : Int), .vi ((((propsF s).getD pz).2.2.2.2 : Nat) : Int)])] [(2, 4, pvE (out ++ (zBI (txX (zBD s a))).getD [])), (2900, 1, pvI (zDa s))]) ?_ ?_
      · exact zAJ ⟨rfl, rfl, rfl, hp7, rfl, rfl, rfl, rfl, rfl, rfl, rfl, rfl, trivial⟩ ⟨rfl, trivial⟩ ⟨(congrArg (fun x => some (4, x)) hr6), rfl, trivial⟩ rfl
      refine zAA rfl (.m rfl rfl (.m rfl rfl (.run [6800] [] rfl (zAF rfl 6800 (X := []) en29 rfl (.val nod) (.cons (.one (.bor .v)) .nil) (by decide) all_nil .nil (zCp (txX (zBD s a)) (by omega)) rfl rfl (nle rfl)) (.r rfl (zAP rfl rfl underlying9) (.r rfl (zAL (zAW rfl rfl rfl (by omega)) ((zAE (show ((a : Nat) : Int) + (((secF (txX (zBD s a))).size : Nat) : Int) = ((a + (secF (txX (zBD s a))).size : Nat) : Int) by omega)))) (.a rfl rfl .nil)))))) ?_
      refine nxt (Q := fun _ _ => False) (z := (a, out)) (a + (secF (txX (zBD s a))).size, out ++ (zBI (txX (zBD s a))).getD []) ?_ ?_ ?_
      ·
       show ((a + (secF (txX (zBD s a))).size) ≤ 5000000000 ∧ (out ++ (zBI (txX (zBD s a))).getD []).length ≤ 400) ∧ TA s (a + (secF (txX (zBD s a))).size) (out ++ (zBI (txX (zBD s a))).getD [])
       exact ⟨⟨by omega, by rw [List.length_append]; omega⟩, hT.go hlt h3' h4'⟩
      ·
       show tAt0 s - (a + (secF (txX (zBD s a))).size) < tAt0 s - a
       omega
      · exact zAJ ⟨rfl, rfl, rfl, rfl, rfl, trivial⟩ ⟨rfl, trivial⟩ ⟨rfl, rfl, trivial⟩ rfl
    ·
     have h4' := h4
     replace h4' : ((zBI (txX (zBD s a))).isSome) = false := zAm h4'
     refine zAA rfl (.m rfl rfl (.r rfl (zAL (zAa (b := (zBD s a).isSome) rfl rfl) (zAG h3)) (.m rfl rfl (.m rfl rfl (.r rfl (zAL (zAa (b := (zBI (txX (zBD s a))).isSome) rfl rfl) (zAG h4)) (.r rfl (zAg rfl rfl) (.m rfl rfl (.not rfl (.not rfl (.not rfl (.not rfl (.not rfl (.not rfl (.r rfl (zAo rfl rfl) .nil)))))))))))))) ?_
     refine zAT (t := true) rfl (fun _ => ?_) (fun h => nomatch h)
     refine zAB ?_
     refine zAO (s' := mk [] [] []) ?_ ?_
     · exact zAJ trivial trivial trivial rfl
     have hz := hT.stop hlt (.inr (.inl h4'))
     rw [zD6 hz, hz]
     refine zAA rfl (.a rfl rfl (.a rfl rfl .nil)) ?_
     refine zAI ?_
     exact ends [_, _] [] (.cons (.tmp rfl) (.cons (.tmp rfl) .nil)) (.cons (.one (.nil _) (.sl _ _ (fun _ h => nomatch h))) (.cons (.one .v (.v _)) .nil)) (by decide) trivial
   ·
    have h3' := h3
    replace h3' : ((zBD s a).isSome) = false := zAm h3'
    refine zAA rfl (.m rfl rfl (.r rfl (zAL (zAa (b := (zBD s a).isSome) rfl rfl) (zAG h3)) (.m rfl rfl (.not rfl (.not rfl (.r rfl (zAo rfl rfl) (.m rfl rfl (.not rfl (.not rfl (.not rfl (.not rfl (.not rfl (.not rfl (.r rfl (zAo rfl rfl) .nil)))))))))))))) ?_
    refine zAT (t := true) rfl (fun _ => ?_) (fun h => nomatch h)
    refine zAB ?_
    refine zAO (s' := mk [] [] []) ?_ ?_
    · exact zAJ trivial trivial trivial rfl
    have hz := hT.stop hlt (.inl h3')
    rw [zD6 hz, hz]
    refine zAA rfl (.a rfl rfl (.a rfl rfl .nil)) ?_
    refine zAI ?_
    exact ends [_, _] [] (.cons (.tmp rfl) (.cons (.tmp rfl) .nil)) (.cons (.one (.nil _) (.sl _ _ (fun _ h => nomatch h))) (.cons (.one .v (.v _)) .nil)) (by decide) trivial
  ·
   replace h2 := of_decide_eq_false h2
   refine zAi ?_
   refine zAB ?_
   have hge : ¬ a < tAt0 s := by omega
   refine zAA rfl (.m rfl rfl (.r rfl (zAZ rfl rfl rfl isAgg30 sizeOf30 (nle rfl)) (.run [2, 7400, 7401] [] rfl (zAF rfl 7400 (X := []) en8 rfl (.val nod) (.cons (.one (.bor (.all (len := (pvE out).length) (xs := pvE out) rfl rfl (by decide)))) (.cons (.agg (.cons (.bor .v) (.cons (.bor .v) (.cons (.bor .v) .nil)))) .nil)) (by decide) all_nil .nil (zIu out ((((propsF s).getD pz).2.2.1 : Nat) : Int) ((((propsF s).getD pz).2.2.2.1 : Nat) : Int) ((((propsF s).getD pz).2.2.2.2 : Nat) : Int) (by omega)) rfl rfl (nle rfl)) (.m rfl rfl (.r rfl (zAH rfl rfl rfl) (.r rfl (zAH rfl rfl rfl) (.a rfl rfl (.a rfl rfl .nil)))))))) ?_
   refine zAB ?_
   refine zAB ?_
   refine zAO (s' := mk [(0, .vs s), (10, .sl 2 0 ((pvE out).length)), (16, .vs ((zBb out ⟨((((propsF s).getD pz).2.2.1 : Nat) : Int), ((((propsF s).getD pz).2.2.2.1 : Nat) : Int), ((((propsF s).getD pz).2.2.2.2 : Nat) : Int)⟩).getD ⟨#[]⟩)), (17, .vb ((zBb out ⟨((((propsF s).getD pz).2.2.1 : Nat) : Int), ((((propsF s).getD pz).2.2.2.1 : Nat) : Int), ((((propsF s).getD pz).2.2.2.2 : Nat) : Int)⟩).isSome))] [] [(2, 4, pvE out)]) ?_ ?_
   · exact zAJ ⟨rfl, rfl, rfl, rfl, trivial⟩ trivial ⟨rfl, trivial⟩ rfl
   rcases bfc (!((zBb out ⟨((((propsF s).getD pz).2.2.1 : Nat) : Int), ((((propsF s).getD pz).2.2.2.1 : Nat) : Int), ((((propsF s).getD pz).2.2.2.2 : Nat) : Int)⟩).isSome)) with h8 | h8
   ·
    have h8' := h8
    replace h8' : ((zBb out ⟨((((propsF s).getD pz).2.2.1 : Nat) : Int), ((((propsF s).getD pz).2.2.2.1 : Nat) : Int), ((((propsF s).getD pz).2.2.2.2 : Nat) : Int)⟩).isSome) = true := zAn h8'
    refine zAA rfl (.m rfl rfl (.r rfl (zAL (zAa (b := (zBb out ⟨((((propsF s).getD pz).2.2.1 : Nat) : Int), ((((propsF s).getD pz).2.2.2.1 : Nat) : Int), ((((propsF s).getD pz).2.2.2.2 : Nat) : Int)⟩).isSome) rfl rfl) (zAG h8)) (.m rfl rfl (.m rfl rfl (.m rfl rfl (.r rfl (zCC rfl rfl rfl) (.r rfl (zAg rfl rfl) .nil))))))) ?_
    refine zAT (t := (!(decide (((zBb out ⟨((((propsF s).getD pz).2.2.1 : Nat) : Int), ((((propsF s).getD pz).2.2.2.1 : Nat) : Int), ((((propsF s).getD pz).2.2.2.2 : Nat) : Int)⟩).getD ⟨#[]⟩) = s)))) rfl (fun h9 => ?_) (fun h9 => ?_)
    ·
     replace h9 : ¬ (((zBb out ⟨((((propsF s).getD pz).2.2.1 : Nat) : Int), ((((propsF s).getD pz).2.2.2.1 : Nat) : Int), ((((propsF s).getD pz).2.2.2.2 : Nat) : Int)⟩).getD ⟨#[]⟩) = s) := of_decide_eq_false (zAm h9)
     refine zAB ?_
     have hz := hT.end2 hge h1 (fun q => h9 (by have q2 : zBb out (⟨((((propsF s).getD pz).2.2.1 : Nat) : Int), ((((propsF s).getD pz).2.2.2.1 : Nat) : Int), ((((propsF s).getD pz).2.2.2.2 : Nat) : Int)⟩ : Shp) = some s := q; rw [q2]; rfl))
     rw [zD6 hz, hz]
     refine zAA rfl (.a rfl rfl (.a rfl rfl .nil)) ?_
     refine zAI ?_
     exact ends [_, _] [] (.cons (.tmp rfl) (.cons (.tmp rfl) .nil)) (.cons (.one (.nil _) (.sl _ _ (fun _ h => nomatch h))) (.cons (.one .v (.v _)) .nil)) (by decide) trivial
    ·
     replace h9 : ((zBb out ⟨((((propsF s).getD pz).2.2.1 : Nat) : Int), ((((propsF s).getD pz).2.2.2.1 : Nat) : Int), ((((propsF s).getD pz).2.2.2.2 : Nat) : Int)⟩).getD ⟨#[]⟩) = s := of_decide_eq_true (zAn h9)
     refine zAK ?_
     refine zAB ?_
     have hI := zIk (L := out) (show zBb out (shpN ((propsF s).getD pz).2.2.1 ((propsF s).getD pz).2.2.2.1 ((propsF s).getD pz).2.2.2.2) = some s from zHy h8' h9)
     have hz := zEU hI
     rw [hz.1, hz.2]
     refine zAA rfl (.m rfl rfl (.a rfl rfl (.a rfl rfl .nil))) ?_
     refine zAI ?_
     exact ends [_, _] [2] (.cons (.tmp rfl) (.cons (.tmp rfl) .nil)) (.cons (.one (.row (len := (pvE out).length) (xs := pvE out) rfl rfl) (.sl _ _ (FlatP.clean (zCf _)))) (.cons (.one .v (.v _)) .nil)) (by decide) trivial
   ·
    have h8' := h8
    replace h8' : ((zBb out ⟨((((propsF s).getD pz).2.2.1 : Nat) : Int), ((((propsF s).getD pz).2.2.2.1 : Nat) : Int), ((((propsF s).getD pz).2.2.2.2 : Nat) : Int)⟩).isSome) = false := zAm h8'
    refine zAA rfl (.m rfl rfl (.r rfl (zAL (zAa (b := (zBb out ⟨((((propsF s).getD pz).2.2.1 : Nat) : Int), ((((propsF s).getD pz).2.2.2.1 : Nat) : Int), ((((propsF s).getD pz).2.2.2.2 : Nat) : Int)⟩).isSome) rfl rfl) (zAG h8)) (.m rfl rfl (.not rfl (.not rfl (.not rfl (.r rfl (zAo rfl rfl) .nil))))))) ?_
    refine zAT (t := true) rfl (fun _ => ?_) (fun h => nomatch h)
    refine zAB ?_
    have hz := hT.end2 hge h1 (fun q => by have q2 : zBb out (⟨((((propsF s).getD pz).2.2.1 : Nat) : Int), ((((propsF s).getD pz).2.2.2.1 : Nat) : Int), ((((propsF s).getD pz).2.2.2.2 : Nat) : Int)⟩ : Shp) = some s := q; rw [q2] at h8'; cases h8')
    rw [zD6 hz, hz]
    refine zAA rfl (.a rfl rfl (.a rfl rfl .nil)) ?_
    refine zAI ?_
    exact ends [_, _] [] (.cons (.tmp rfl) (.cons (.tmp rfl) .nil)) (.cons (.one (.nil _) (.sl _ _ (fun _ h => nomatch h))) (.cons (.one .v (.v _)) .nil)) (by decide) trivial
theorem zH0 (s u : ByteArray) (p : Int) (hs : s.size ≤ 9000000000000000000) : Con Tryd.prog 13 [.one (PV.v (.string s)), .one (PV.v (.string u)), .one (PV.v (.int .i64 p))] [] [.one (.v (.int .i64 (tgC s u p))), .one (.v (.string (tgV s u p)))] := by
 refine zAR func13 rfl rfl rfl rfl ?_
 refine zAB (zAA rfl (.a rfl rfl (.a rfl rfl .nil)) ?_)
 refine zAB (zAA rfl (.m rfl rfl (.run [1200, 1201] [] rfl (zAF rfl 1200 (X := []) en18 rfl (.val nod) (.cons (.one (.bor .v)) .nil) (by decide) all_nil .nil (zDk s (by omega)) rfl rfl (nle rfl)) (.m rfl rfl (.r rfl (zAH rfl rfl rfl) (.r rfl (zAH rfl rfl rfl) (.a rfl rfl (.a rfl rfl .nil))))))) ?_)
 refine zAB ?_
 refine zAB (zAA rfl (.m rfl rfl (.r rfl (zAa (b := (zBq s).isSome) rfl rfl) .nil)) ?_)
 refine zAT (t := (!((zBq s).isSome))) rfl (fun h1 => ?_) (fun h1 => ?_)
 ·
  replace h1 : ((zBq s).isSome) = false := zAm h1
  refine zAB ?_
  refine zAO (s' := mk [] [] []) ?_ ?_
  · exact zAJ trivial trivial trivial rfl
  rw [(zNs (u := u) (p := p) h1).1, (zNs (u := u) (p := p) h1).2]
  refine zAA rfl (.a rfl rfl (.a rfl rfl .nil)) ?_
  refine zAI ?_
  exact ends [_, _] [] (.cons (.tmp rfl) (.cons (.tmp rfl) .nil)) (.cons (.one .v (.v _)) (.cons (.one .v (.v _)) .nil)) (by decide) trivial
 ·
  replace h1 : ((zBq s).isSome) = true := zAn h1
  refine zAK ?_
  refine zAB ?_
  refine zAO (s' := mk [(1, .vs u), (2, .vi p), (8, .sl 1200 0 ((pvE (tabL s)).length))] [] [(1200, 4, pvE (tabL s))]) ?_ ?_
  · exact zAJ ⟨rfl, rfl, rfl, trivial⟩ trivial ⟨rfl, trivial⟩ rfl
  rw [(zKe (u := u) (p := p) h1).1, (zKe (u := u) (p := p) h1).2]
  have htl := zKh s
  have htv := zAf (tabL s)
  refine zAA rfl (.m rfl rfl (.m rfl rfl (.m rfl rfl (.run [1200, 2000, 2001] [] rfl (zAF rfl 2000 (X := []) en40 rfl (.val nod) (.cons (.one (.bor (.all (len := (pvE (tabL s)).length) (xs := pvE (tabL s)) rfl rfl (by decide)))) (.cons (.one (.bor .v)) (.cons (.one (.bor .v)) .nil))) (by decide) all_nil .nil (zM2 (tabL s) u p (by omega)) rfl rfl (nle rfl)) (.r rfl (zAH rfl rfl rfl) (.r rfl (zAH rfl rfl rfl) (.a rfl rfl (.a rfl rfl .nil)))))))) ?_
  refine zAI ?_
  exact ends [_, _] [] (.cons (.tmp rfl) (.cons (.tmp rfl) .nil)) (.cons (.one .v (.v _)) (.cons (.one .v (.v _)) .nil)) (by decide) trivial
end Go.Rl
namespace Go.Rl
open Go.RowKit
section
variable {γ : Gho} {P : Program} {n : Nat} {o : Oper} {M B : List Nat} {s : St}
theorem st_max3 {x y z : Operand} {ats : Array TypeId} (ho : o.op = .call { callee := .builtin .max, args := #[x, y, z], argTypes := ats }) {d d' d'' : Option Nat} {k : IntKind} {a b c : Int} (hx : s.ev x = .p d (.v (.int k a))) (hy : s.ev y = .p d' (.v (.int k b))) (hz : s.ev z = .p d'' (.v (.int k c))) :
  StepD γ P n o M B s { put := .p none (.v (.int k (max (max a b) c))) } :=
 zA7 fun s' ag w0 I L ac w hr => by
  have h1 := hr.evv ((ag.ev1 ho (by simp [Op.operands, Call.operands])).trans hx)
  have h2 := hr.evv ((ag.ev1 ho (by simp [Op.operands, Call.operands])).trans hy)
  have h3 := hr.evv ((ag.ev1 ho (by simp [Op.operands, Call.operands])).trans hz)
  have key : ∀ p q : Int, (Builtin.max2 (.int k p) (.int k q)).run P w = .ok (.int k (max p q)) w := fun p q => by
   by_cases hlt : p < q
   ·
    have : max p q = q := by omega
    simp [Builtin.max2, hlt, this]
   ·
    have : max p q = p := by omega
    simp [Builtin.max2, hlt, this]
  refine ⟨_, ?_, zCM L w s' rfl⟩
  simp [execOp, ho, resolve, invoke, builtin, Builtin.max_, h1, h2, h3, key]
end
theorem foot3 {s : ByteArray} (h : 16 ≤ s.size) : fV (zCQ s) = tAt0 s ∧ fV (fS (zCQ s) false).1 = tAt1 s ∧ fV (fS (fS (zCQ s) false).1 (fS (zCQ s) false).2).1 = tAt2 s := by
 have h0 := zFN h (show 0 < 4 by decide)
 have h1 := zFN h (show 1 < 4 by decide)
 have h2 := zFN h (show 2 < 4 by decide)
 obtain ⟨a1, a2⟩ := zNP (b := false) h0
 obtain ⟨b1, b2⟩ := zNP (b := false) h1
 obtain ⟨c1, c2⟩ := zNP (b := false) h2
 have a2' : fS (zCQ s) false = (cutN s 1, false) := a2
 rw [a2']
 have b2' : fS (cutN s 1, false).1 (cutN s 1, false).2 = (cutN s 2, false) := b2
 rw [b2']
 exact ⟨a1, b1, c1⟩
theorem zLr {s : ByteArray} {l : List Ent} (h : OOk s) (hp : pT ((s.extract 0 (tAt0 s)).size + 1) (s.extract 0 (tAt0 s)) [] = some l) : zE1 s = some ⟨l, ⟨nV (oR s), nV (nS (oR s) (oA s).2).1, nV (nS (nS (oR s) (oA s).2).1 (nS (oR s) (oA s).2).2).1⟩, (zBP (xV (s.extract (tAt1 s) (s.size - 16)))).getD .zero, (oA s).1.extract 0 64⟩ := by
 rw [zI8 h hp, oS, oF, oB2, oB1, oN]
theorem open_v {s : ByteArray} {l : List Ent} {p : Shp} {f : Flt} {r : ByteArray} (h : zE1 s = some ⟨l, p, f, r⟩) : zBO s = ⟨l, p, f, r⟩ := (zFG h).1
theorem zOJ {s : ByteArray} {l : List Ent} {p : Shp} {f : Flt} {r : ByteArray} (h : zE1 s = some ⟨l, p, f, r⟩) (hb : (zBb l p).isSome = false) : zDJ s = false := by
 rw [(zFG h).2]
 refine decide_eq_false fun q => ?_
 have q2 : zBb l p = some s := q
 rw [q2] at hb
 cases hb
theorem zMs {s : ByteArray} {l : List Ent} {p : Shp} {f : Flt} {r : ByteArray} (h : zE1 s = some ⟨l, p, f, r⟩) (hb : (zBb l p).isSome = true) : zDJ s = decide ((zBb l p).getD ⟨#[]⟩ = s) := by
 rw [(zFG h).2]
 refine decide_eq_decide.2 ⟨fun q => ?_, fun e => zHy hb e⟩
 have q2 : zBb l p = some s := q
 rw [q2]
 rfl
theorem opn_inj {l out : List Ent} {pe ps pk fk fs fp a b c : Int} {fb rg r : ByteArray} {F : Flt} (h : (⟨l, ⟨pe, ps, pk⟩, ⟨fk, fs, fp, fb⟩, rg⟩ : Opn) = ⟨out, ⟨a, b, c⟩, F, r⟩) : out = l ∧ a = pe ∧ b = ps ∧ c = pk ∧ F.kind = fk ∧ F.seed = fs ∧ F.probes = fp ∧ F.bits = fb ∧ r = rg := by
 cases h
 exact ⟨rfl, rfl, rfl, rfl, rfl, rfl, rfl, rfl, rfl⟩
theorem zEe {l : List Ent} {pe ps pk fk fs fp : Int} {fb rg : ByteArray} (h : (⟨l, ⟨pe, ps, pk⟩, ⟨fk, fs, fp, fb⟩, rg⟩ : Opn) = .zero) : [] = l ∧ 0 = pe ∧ 0 = ps ∧ 0 = pk ∧ 0 = fk ∧ 0 = fs ∧ 0 = fp ∧ ⟨#[]⟩ = fb ∧ ⟨#[]⟩ = rg := by
 cases h
 exact ⟨rfl, rfl, rfl, rfl, rfl, rfl, rfl, rfl, rfl⟩
theorem zKp {L : List Ent} {ev : Nat} : ∀ k i, i + k = L.length → k ≤ (zEK L ev i k).size
 | 0, _, _ => Nat.zero_le _
 | k + 1, i, h => by
  obtain ⟨e, he⟩ : ∃ e, L[i]? = some e := ⟨_, List.getElem?_eq_getElem (by omega)⟩
  have ih := zKp (L := L) (ev := ev) k (i + 1) (by omega)
  have hp := zF9 ev i (blkN L ev i).ahead e
  rw [zDA he, zAY]
  omega
theorem zMf (x : ByteArray) : ((zBI x).getD []).length ≤ x.size := by
 cases h : zBI x with
 | none => exact Nat.zero_le _
 | some m =>
  obtain ⟨ev, hb⟩ := zHY h
  have h1 := zKp (L := m) (ev := ev) m.length 0 (by omega)
  have h2 := hb.start.2.2.2
  have h3 := congrArg ByteArray.size h2
  rw [ByteArray.size_extract] at h3
  show m.length ≤ x.size
  omega
theorem sS_few {left : ByteArray} (h1 : (sS left false).2 = false) : (xV left).size + (sS left false).1.size ≤ left.size := by
 have := zF0 (zMY h1).2
 omega
theorem zIG {s : ByteArray} (h : zDJ s = false) : zBq s = none := zF3 fun L ev sz kd hL => by
 rw [(zK4 hL).2] at h
 cases h
theorem zJA {s : ByteArray} (h : zDJ s = true) : ∃ ev sz kd, IsTab s (zBO s).list ev sz kd ∧ (zBO s).shp = shpN ev sz kd ∧ (zBO s).regs = hllF (zAz (zBO s).list) := by
 cases q : zE1 s with
 | none => rw [(zE0 q).2] at h; cases h
 | some o =>
  rw [(zFG q).2] at h
  have hT := isTab (of_decide_eq_true h)
  have hO := (zK4 hT.1).1
  refine ⟨o.shp.every.toNat, o.shp.size.toNat, o.shp.kind.toNat, ?_⟩
  rw [hO]
  exact ⟨hT.1, rfl, rfl⟩
theorem zI7 {s : ByteArray} (h : zDJ s = true) : tabL s = (zBO s).list ∧ (zBq s).isSome = true ∧ (zBO s).list.length ≤ 400 := by
 obtain ⟨ev, sz, kd, hI, _, _⟩ := zJA h
 exact ⟨(zEU hI).1, (zEU hI).2, zBj hI.ok⟩
theorem zLq {s : ByteArray} (h : zDJ s = true) : tpS s = (zBO s).shp ∧ tpN s = (((zBO s).list.length : Nat) : Int) ∧ tpH s = hllC (zBO s).regs ∧ (zBq s).isSome = true ∧ (zBO s).regs.size = 64 := by
 obtain ⟨ev, sz, kd, hI, h2, h3⟩ := zJA h
 obtain ⟨e1, e2, e3⟩ := zOv hI
 exact ⟨by rw [e1, h2], e2, by rw [e3, h3], (zEU hI).2, by rw [h3]; exact zDl (zEE _ _)⟩
theorem zNr {s : ByteArray} (h : (zBq s).isSome = true) : tpS s = shpN ((propsF s).getD pz).2.2.1 ((propsF s).getD pz).2.2.2.1 ((propsF s).getD pz).2.2.2.2 ∧ tpN s = ((((propsF s).getD pz).1 : Nat) : Int) ∧ tpH s = hllC ((propsF s).getD pz).2.1 ∧ ((propsF s).getD pz).2.1.size = 64 := by
 obtain ⟨L, ev, sz, kd, hI⟩ := zKs h
 obtain ⟨e1, e2, e3⟩ := zOv hI
 have hp := hI.propsF
 generalize hllF (zAz L) = H at *
 have hs : H.size = 64 := (zGh hp).2.1
 rw [e1, e2, e3, hp]
 exact ⟨rfl, rfl, rfl, hs⟩
end Go.Rl

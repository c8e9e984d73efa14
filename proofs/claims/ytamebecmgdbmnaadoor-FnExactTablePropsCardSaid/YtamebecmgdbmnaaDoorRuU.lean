/- Promises of functions, proved by walks over their operations; no conditions beyond those that each theorem states. -/
import Derived.Test.YtamebecmgdbmnaaDoorRuT
set_option linter.unusedSimpArgs false
set_option linter.unusedVariables false
namespace Go.Rl
open Go.Proofs Go.Proofs.Tryd
set_option maxRecDepth 1000000
set_option maxHeartbeats 2000000
theorem zFx : (Tryd.prog.info? 74).map (fun i => (i.zero, i.size, i.bytes)) = some (some (.agg #[.slice none 0 0, .int .i64 0, .int .i64 0, .int .i64 0, .int .i64 0, .int .i64 0, .int .i64 0, .string ⟨#[]⟩, .string ⟨#[]⟩]), 9, 104) := by kernel_rfl
theorem en44 : En Tryd.prog 44 := zAh func44 (by decide) rfl
theorem en108 : En Tryd.prog 108 := zAh func108 (by decide) rfl
theorem en79 : En Tryd.prog 79 := zAh func79 (by decide) rfl
theorem en78 : En Tryd.prog 78 := zAh func78 (by decide) rfl
theorem en81 : En Tryd.prog 81 := zAh func81 (by decide) rfl
theorem en11 : En Tryd.prog 11 := zAh func11 (by decide) rfl
theorem zGQ (s : ByteArray) (hs : s.size ≤ 9000000000000000000) : Con Tryd.prog 15 [.one (PV.v (.string s))] [] [.agg [.v (.int .i64 (tpS s).every), .v (.int .i64 (tpS s).size), .v (.int .i64 (tpS s).kind)], .one (.v (.int .i64 (tpN s))), .one (.v (.int .i64 (tpH s))), .one (.v (.bool ((zBq s).isSome)))] := by
 refine zAR func15 rfl rfl rfl rfl ?_
 refine zAB (zAA rfl (.run [] [2] rfl (zBA rfl 2 zDZ rfl (by decide) rfl (by decide)) (.a rfl rfl (.a rfl rfl (.a rfl rfl .nil)))) ?_)
 refine zAB (zAA rfl (.m rfl rfl (.run [1400, 1401] [] rfl (zAF rfl 1400 (X := []) en18 rfl (.val nod) (.cons (.one (.bor .v)) .nil) (by decide) all_nil .nil (zDk s (by omega)) rfl rfl (nle rfl)) (.m rfl rfl (.r rfl (zAH rfl rfl rfl) (.r rfl (zAH rfl rfl rfl) (.a rfl rfl (.a rfl rfl .nil))))))) ?_)
 refine zAB ?_
 refine zAB (zAA rfl (.m rfl rfl (.r rfl (zAa (b := (zBq s).isSome) rfl rfl) .nil)) ?_)
 refine zAT (t := (!((zBq s).isSome))) rfl (fun h1 => ?_) (fun h1 => ?_)
 ·
  replace h1 : ((zBq s).isSome) = false := zAm h1
  refine zAB ?_
  refine zAO (s' := mk [(2, .ptr 2 0)] [(2, [.vi 0, .vi 0, .vi 0])] []) ?_ ?_
  · exact zAJ ⟨rfl, trivial⟩ ⟨rfl, trivial⟩ trivial rfl
  have hz := tp_no h1
  rw [hz.1, hz.2.1, hz.2.2, h1]
  refine zAA rfl (.r rfl (zAw (pl := [(0, 1), (1, 1), (2, 1)]) rfl underlying30 zDZ (by kernel_rfl) rfl rfl) (.r rfl (zAN rfl rfl rfl rfl rfl sizeOf30 rfl (nle rfl)) (.a rfl rfl (.a rfl rfl (.a rfl rfl .nil))))) ?_
  refine zAI ?_
  exact ends [_, _, _, _] [] (.cons (.cell rfl rfl isAgg30 sizeOf30 (nle rfl)) (.cons (.tmp rfl) (.cons (.tmp rfl) (.cons (.tmp rfl) .nil)))) (.cons (.agg (.cons .v (.cons .v (.cons .v .nil))) (zAM (.v _) (zAM (.v _) (zAM (.v _) zBQ)))) (.cons (.one .v (.v _)) (.cons (.one .v (.v _)) (.cons (.one .v (.v _)) .nil)))) (by decide) trivial
 ·
  replace h1 : ((zBq s).isSome) = true := zAn h1
  refine zAK ?_
  refine zAB ?_
  refine zAO (s' := mk [(0, .vs s), (2, .ptr 2 0)] [(2, [.vi 0, .vi 0, .vi 0])] []) ?_ ?_
  · exact zAJ ⟨rfl, rfl, trivial⟩ ⟨rfl, trivial⟩ trivial rfl
  refine zAA rfl (.m rfl rfl (.run [2200, 2201, 2202, 2203, 2204, 2205] [] rfl (zAF rfl 2200 (X := []) en43 rfl (.val nod) (.cons (.one (.bor .v)) .nil) (by decide) all_nil .nil (zFm s _ rfl (by omega)) rfl rfl (nle rfl)) (.m rfl rfl (.r rfl (zAH rfl rfl rfl) (.r rfl (zAH rfl rfl rfl) (.r rfl (zAH rfl rfl rfl) (.r rfl (zAH rfl rfl rfl) (.run [] [10] rfl (zBA rfl 10 zDZ rfl (by decide) rfl (by decide)) (.a rfl rfl (.a rfl rfl (.r rfl (zAN rfl rfl rfl rfl rfl sizeOf30 rfl (nle rfl)) (.a rfl rfl .nil)))))))))))) ?_
  refine zAB ?_
  refine zAO (s' := mk [(2, .ptr 2 0), (8, .vi ((((propsF s).getD pz).1 : Nat) : Int)), (9, .vs (((propsF s).getD pz).2.1)), (10, .ptr 10 0)] [(2, [.vi 0, .vi 0, .vi 0]), (10, [.vi ((((propsF s).getD pz).2.2.1 : Nat) : Int), .vi ((((propsF s).getD pz).2.2.2.1 : Nat) : Int), .vi ((((propsF s).getD pz).2.2.2.2 : Nat) : Int)])] []) ?_ ?_
  · exact zAJ ⟨rfl, rfl, rfl, rfl, trivial⟩ ⟨rfl, rfl, trivial⟩ trivial rfl
  have hz := zNr h1
  have hz4 := hz.2.2.2
  rw [hz.1, hz.2.1, hz.2.2.1, h1]
  refine zAb zBh rfl (.r rfl (zAZ rfl rfl rfl isAgg30 sizeOf30 (nle rfl)) (.m rfl rfl (.m rfl rfl (.run [3000] [] rfl (zAF rfl 3000 (X := []) en44 rfl (.val nod) (.cons (.one (.bor .v)) .nil) (by decide) all_nil .nil (zH3 (((propsF s).getD pz).2.1) (by omega)) rfl rfl (nle rfl)) (.r rfl (zAN rfl rfl rfl rfl rfl sizeOf30 rfl (nle rfl)) (.a rfl rfl (.a rfl rfl (.a rfl rfl .nil)))))))) (by kernel_rfl) ?_
  refine zAI ?_
  exact ends [_, _, _, _] [] (.cons (.cell rfl rfl isAgg30 sizeOf30 (nle rfl)) (.cons (.tmp rfl) (.cons (.tmp rfl) (.cons (.tmp rfl) .nil)))) (.cons (.agg (.cons .v (.cons .v (.cons .v .nil))) (zAM (.v _) (zAM (.v _) (zAM (.v _) zBQ)))) (.cons (.one .v (.v _)) (.cons (.one .v (.v _)) (.cons (.one .v (.v _)) .nil)))) (by decide) trivial
theorem zHD (s : ByteArray) (hs : s.size ≤ 9000000000000000000) : Con Tryd.prog 78 [.one (PV.v (.string s))] [] [.agg [.v (.int .i64 ((zBP s).getD .zero).kind), .v (.int .i64 ((zBP s).getD .zero).seed), .v (.int .i64 ((zBP s).getD .zero).probes), .v (.string ((zBP s).getD .zero).bits)], .one (.v (.bool ((zBP s).isSome)))] := by
 refine zAR func78 rfl rfl rfl rfl ?_
 refine zAB (zAA rfl (.run [] [2] rfl (zBA rfl 2 zC5 rfl (by decide) rfl (by decide)) (.a rfl rfl .nil)) ?_)
 refine zAB (zAA rfl (.m rfl rfl (.r rfl (zAw (pl := [(0, 1), (1, 1)]) rfl underlying104 zFn (by kernel_rfl) rfl rfl) (.run [800] [] rfl (zCm rfl 800 rfl rfl rfl (by decide) rfl (by decide)) (.a rfl rfl .nil)))) ?_)
 refine zAB ?_
 have hn1 := zGl s false
 have hn2 := zGl (nS s false).1 (nS s false).2
 have hn3 := zGl (nS (nS s false).1 (nS s false).2).1 (nS (nS s false).1 (nS s false).2).2
 have hn4 := zJq (nS (nS (nS s false).1 (nS s false).2).1 (nS (nS s false).1 (nS s false).2).2).1 (nS (nS (nS s false).1 (nS s false).2).1 (nS (nS s false).1 (nS s false).2).2).2
 refine zAO (s' := mk [(2, .ptr 2 0), (4, .ea 800 0 0)] [(2, [.vi 0, .vi 0, .vi 0, .vs ⟨#[]⟩])] [(800, 2, pvTk (s, false))]) ?_ ?_
 · exact zAJ ⟨rfl, rfl, trivial⟩ ⟨rfl, trivial⟩ ⟨rfl, trivial⟩ rfl
 refine zAA rfl (.m rfl rfl (.run [800, 1000] [] rfl (zAF rfl 1000 (X := [800]) en80 rfl (.val nod) (.cons (.rptr rfl) .nil) (by decide) (all_cons rfl all_nil) (.keep (xs := pvTk (s, false)) rfl (FlatP.nf (zAy _)) .nil) (zCH s false (by omega)) rfl rfl (nle rfl)) (.m rfl rfl (.run [800, 1200] [] rfl (zAF rfl 1200 (X := [800]) en80 rfl (.val nod) (.cons (.rptr rfl) .nil) (by decide) (all_cons rfl all_nil) (.keep (xs := pvTk (nS s false)) rfl (FlatP.nf (zAy _)) .nil) (zCH ((nS s false).1) ((nS s false).2) (by omega)) rfl rfl (nle rfl)) (.m rfl rfl (.run [800, 1400] [] rfl (zAF rfl 1400 (X := [800]) en80 rfl (.val nod) (.cons (.rptr rfl) .nil) (by decide) (all_cons rfl all_nil) (.keep (xs := pvTk (nS ((nS s false).1) ((nS s false).2))) rfl (FlatP.nf (zAy _)) .nil) (zCH ((nS ((nS s false).1) ((nS s false).2)).1) ((nS ((nS s false).1) ((nS s false).2)).2) (by omega)) rfl rfl (nle rfl)) (.m rfl rfl (.run [800, 1600] [] rfl (zAF rfl 1600 (X := [800]) zOb rfl (.val nod) (.cons (.rptr rfl) .nil) (by decide) (all_cons rfl all_nil) (.keep (xs := pvTk (nS ((nS ((nS s false).1) ((nS s false).2)).1) ((nS ((nS s false).1) ((nS s false).2)).2))) rfl (FlatP.nf (zAy _)) .nil) (zES ((nS ((nS ((nS s false).1) ((nS s false).2)).1) ((nS ((nS s false).1) ((nS s false).2)).2)).1) ((nS ((nS ((nS s false).1) ((nS s false).2)).1) ((nS ((nS s false).1) ((nS s false).2)).2)).2) (by omega)) rfl rfl (nle rfl)) (.r rfl (zAw (pl := [(0, 1), (1, 1), (2, 1), (3, 1)]) rfl underlying62 zC5 (by kernel_rfl) rfl rfl) (.run [] [5] rfl (zBA rfl 5 zC5 rfl (by decide) rfl (by decide)) (.r rfl (zAN rfl rfl rfl rfl rfl sizeOf62 rfl (nle rfl)) .nil))))))))))) ?_
 have hr1 : pvTk (xS ((nS ((nS ((nS s false).1) ((nS s false).2)).1) ((nS ((nS s false).1) ((nS s false).2)).2)).1) ((nS ((nS ((nS s false).1) ((nS s false).2)).1) ((nS ((nS s false).1) ((nS s false).2)).2)).2)) = pvTk (q4 s) := by rfl
 refine zAO (s' := mk [(2, .ptr 2 0), (4, .ea 800 0 0), (5, .ptr 5 0)] [(2, [.vi 0, .vi 0, .vi 0, .vs ⟨#[]⟩]), (5, [.vi (nV s), .vi (nV ((nS s false).1)), .vi (nV ((nS ((nS s false).1) ((nS s false).2)).1)), .vs (xV ((nS ((nS ((nS s false).1) ((nS s false).2)).1) ((nS ((nS s false).1) ((nS s false).2)).2)).1))])] [(800, 2, pvTk (q4 s))]) ?_ ?_
 · exact zAJ ⟨rfl, rfl, rfl, trivial⟩ ⟨rfl, rfl, trivial⟩ ⟨(congrArg (fun x => some (2, x)) hr1), trivial⟩ rfl
 refine zAB ?_
 refine zAB ?_
 have hq4 : (q4 s).1.size ≤ s.size := Nat.le_trans (zJq _ _) (Nat.le_trans (zGl _ _) (Nat.le_trans (zGl _ _) (zGl _ _)))
 have hxv := zLb (q3 s).1
 have hxw : (xV (nS (nS (nS s false).1 (nS s false).2).1 (nS (nS s false).1 (nS s false).2).2).1).size ≤ 60000 := hxv
 rcases bfc (!(!((q4 s).2) && decide (((q4 s).1) = ⟨#[]⟩))) with h2 | h2
 ·
  have h2' := h2
  replace h2' : (!((q4 s).2) && decide (((q4 s).1) = ⟨#[]⟩)) = true := zAn h2'
  refine zAA rfl (.m rfl rfl (.run [800, 1900] [] rfl (zAF rfl 1900 (X := [800]) en108 rfl (.val nod) (.cons (.rptr rfl) .nil) (by decide) (all_cons rfl all_nil) (.keep (xs := pvTk (q4 s)) rfl (FlatP.nf (zAy _)) .nil) (zGG ((q4 s).1) ((q4 s).2) (by omega)) rfl rfl (nle rfl)) (.r rfl (zAL (zAa (b := (!((q4 s).2) && decide (((q4 s).1) = ⟨#[]⟩))) rfl rfl) (zAG h2)) (.m rfl rfl (.r rfl (zAZ rfl rfl rfl isAgg62 sizeOf62 (nle rfl)) (.run [2300] [] rfl (zAF rfl 2300 (X := []) en104 rfl (.val nod) (.cons (.agg (.cons (.bor .v) (.cons (.bor .v) (.cons (.bor .v) (.cons (.bor .v) .nil))))) .nil) (by decide) all_nil .nil (zFo (⟨nV s, nV ((nS s false).1), nV ((nS ((nS s false).1) ((nS s false).2)).1), xV ((nS ((nS ((nS s false).1) ((nS s false).2)).1) ((nS ((nS s false).1) ((nS s false).2)).2)).1)⟩ : Flt) (Nat.le_trans (show _ ≤ 60000 from hxw) (by decide))) rfl rfl (nle rfl)) (.r rfl (zAa (b := zBF (⟨nV s, nV ((nS s false).1), nV ((nS ((nS s false).1) ((nS s false).2)).1), xV ((nS ((nS ((nS s false).1) ((nS s false).2)).1) ((nS ((nS s false).1) ((nS s false).2)).2)).1)⟩ : Flt)) rfl rfl) (.r rfl (zAg rfl rfl) .nil)))))))) ?_
  refine zAT (t := (!(zBF (⟨nV s, nV ((nS s false).1), nV ((nS ((nS s false).1) ((nS s false).2)).1), xV ((nS ((nS ((nS s false).1) ((nS s false).2)).1) ((nS ((nS s false).1) ((nS s false).2)).2)).1)⟩ : Flt)))) rfl (fun h3 => ?_) (fun h3 => ?_)
  ·
   replace h3 : (zBF (⟨nV s, nV ((nS s false).1), nV ((nS ((nS s false).1) ((nS s false).2)).1), xV ((nS ((nS ((nS s false).1) ((nS s false).2)).1) ((nS ((nS s false).1) ((nS s false).2)).2)).1)⟩ : Flt)) = false := zAm h3
   refine zAB ?_
   rw [zN5 (s := s) (show zBF (zKC s) = false from h3)]
   refine zAA rfl (.r rfl (zAw (pl := [(0, 1), (1, 1), (2, 1), (3, 1)]) rfl underlying62 zC5 (by kernel_rfl) rfl rfl) (.r rfl (zAN rfl rfl rfl rfl rfl sizeOf62 rfl (nle rfl)) (.a rfl rfl .nil))) ?_
   refine zAI ?_
   exact ends [_, _] [] (.cons (.cell rfl rfl isAgg62 sizeOf62 (nle rfl)) (.cons (.tmp rfl) .nil)) (.cons (.agg (.cons .v (.cons .v (.cons .v (.cons .v .nil)))) (zAM (.v _) (zAM (.v _) (zAM (.v _) (zAM (.v _) zBQ))))) (.cons (.one .v (.v _)) .nil)) (by decide) trivial
  ·
   replace h3 : (zBF (⟨nV s, nV ((nS s false).1), nV ((nS ((nS s false).1) ((nS s false).2)).1), xV ((nS ((nS ((nS s false).1) ((nS s false).2)).1) ((nS ((nS s false).1) ((nS s false).2)).2)).1)⟩ : Flt)) = true := zAn h3
   refine zAK ?_
   refine zAB ?_
   rw [zN4 (s := s) h2' (show zBF (zKC s) = true from h3)]
   refine zAA rfl (.r rfl (zAZ rfl rfl rfl isAgg62 sizeOf62 (nle rfl)) (.r rfl (zAN rfl rfl rfl rfl rfl sizeOf62 rfl (nle rfl)) (.a rfl rfl .nil))) ?_
   refine zAI ?_
   exact ends [_, _] [] (.cons (.cell rfl rfl isAgg62 sizeOf62 (nle rfl)) (.cons (.tmp rfl) .nil)) (.cons (.agg (.cons .v (.cons .v (.cons .v (.cons .v .nil)))) (zAM (.v _) (zAM (.v _) (zAM (.v _) (zAM (.v _) zBQ))))) (.cons (.one .v (.v _)) .nil)) (by decide) trivial
 ·
  have h2' := h2
  replace h2' : (!((q4 s).2) && decide (((q4 s).1) = ⟨#[]⟩)) = false := zAm h2'
  refine zAA rfl (.m rfl rfl (.run [800, 1900] [] rfl (zAF rfl 1900 (X := [800]) en108 rfl (.val nod) (.cons (.rptr rfl) .nil) (by decide) (all_cons rfl all_nil) (.keep (xs := pvTk (q4 s)) rfl (FlatP.nf (zAy _)) .nil) (zGG ((q4 s).1) ((q4 s).2) (by omega)) rfl rfl (nle rfl)) (.r rfl (zAL (zAa (b := (!((q4 s).2) && decide (((q4 s).1) = ⟨#[]⟩))) rfl rfl) (zAG h2)) (.m rfl rfl (.not rfl (.not rfl (.not rfl (.r rfl (zAo rfl rfl) .nil)))))))) ?_
  refine zAT (t := true) rfl (fun _ => ?_) (fun h => nomatch h)
  refine zAB ?_
  rw [zN6 (s := s) h2']
  refine zAA rfl (.r rfl (zAw (pl := [(0, 1), (1, 1), (2, 1), (3, 1)]) rfl underlying62 zC5 (by kernel_rfl) rfl rfl) (.r rfl (zAN rfl rfl rfl rfl rfl sizeOf62 rfl (nle rfl)) (.a rfl rfl .nil))) ?_
  refine zAI ?_
  exact ends [_, _] [] (.cons (.cell rfl rfl isAgg62 sizeOf62 (nle rfl)) (.cons (.tmp rfl) .nil)) (.cons (.agg (.cons .v (.cons .v (.cons .v (.cons .v .nil)))) (zAM (.v _) (zAM (.v _) (zAM (.v _) (zAM (.v _) zBQ))))) (.cons (.one .v (.v _)) .nil)) (by decide) trivial
theorem zIF {γ : Gho} (ht : TabG γ) (s : ByteArray) (l : List Ent) (pe ps pk fk fs fp : Int) (fb rg : ByteArray) (ho : zBO s = ⟨l, ⟨pe, ps, pk⟩, ⟨fk, fs, fp, fb⟩, rg⟩) (hs : s.size ≤ 9000000000000000000) : ConG γ Tryd.prog 41 [.one (PV.v (.string s))] [] [.agg [.sl true 4 (pvE l), .v (.int .i64 pe), .v (.int .i64 ps), .v (.int .i64 pk), .v (.int .i64 fk), .v (.int .i64 fs), .v (.int .i64 fp), .v (.string fb), .v (.string rg)], .one (.v (.bool (zDJ s)))] := by
 refine zAR func41 rfl rfl rfl rfl ?_
 refine zAB (zAA rfl (.run [] [2] rfl (zBA rfl 2 zFx rfl (by decide) rfl (by decide)) (.a rfl rfl .nil)) ?_)
 refine zAB (zAA rfl (.m rfl rfl (.r rfl (zAP rfl rfl underlying9) (.r rfl (zBw rfl rfl rfl (by omega)) (.a rfl rfl .nil)))) ?_)
 refine zAB ?_
 refine zAB ?_
 rcases bfc (decide (((s.size : Int) - 16) < 0)) with h1 | h1
 ·
  have h1' := h1
  replace h1' := of_decide_eq_false h1'
  refine zAA rfl (.m rfl rfl (.r rfl (zAL (zAt rfl rfl rfl) (zAG h1)) (.m rfl rfl (.m rfl rfl (.r rfl (zAP rfl rfl underlying9) (.r rfl (zBE rfl rfl rfl) (.r rfl (zAg rfl rfl) .nil))))))) ?_
  refine zAT (t := decide (60000 < (s.size : Int))) rfl (fun h2 => ?_) (fun h2 => ?_)
  ·
   replace h2 := of_decide_eq_true h2
   refine zAB ?_
   refine zAO (s' := mk [(2, .ptr 2 0)] [(2, [.nils, .vi 0, .vi 0, .vi 0, .vi 0, .vi 0, .vi 0, .vs ⟨#[]⟩, .vs ⟨#[]⟩])] []) ?_ ?_
   · exact zAJ ⟨rfl, trivial⟩ ⟨rfl, trivial⟩ trivial rfl
   have hz := zE0 (zF4 (s := s) (fun q => by have q1 := q.big; have q2 := q.small; omega))
   obtain ⟨rfl, rfl, rfl, rfl, rfl, rfl, rfl, rfl, rfl⟩ := zEe (ho.symm.trans hz.1)
   rw [hz.2]
   refine zAA rfl (.r rfl (zAw (pl := [(0, 1), (1, 3), (4, 4), (8, 1)]) rfl underlying74 zFx (by kernel_rfl) rfl rfl) (.r rfl (zAN rfl rfl rfl rfl rfl sizeOf74 rfl (nle rfl)) (.a rfl rfl .nil))) ?_
   refine zAI ?_
   exact ends [_, _] [] (.cons (.cell rfl rfl isAgg74 sizeOf74 (nle rfl)) (.cons (.tmp rfl) .nil)) (.cons (.agg (.cons (.nil _) (.cons .v (.cons .v (.cons .v (.cons .v (.cons .v (.cons .v (.cons .v (.cons .v .nil))))))))) (zAM (.sl _ _ (fun _ h => nomatch h)) (zAM (.v _) (zAM (.v _) (zAM (.v _) (zAM (.v _) (zAM (.v _) (zAM (.v _) (zAM (.v _) (zAM (.v _) zBQ)))))))))) (.cons (.one .v (.v _)) .nil)) (by decide) trivial
  ·
   replace h2 := of_decide_eq_false h2
   refine zAK ?_
   refine zAB ?_
   refine zAO (s' := mk [(0, .vs s), (2, .ptr 2 0), (4, .vi ((s.size : Int) - 16))] [(2, [.nils, .vi 0, .vi 0, .vi 0, .vi 0, .vi 0, .vi 0, .vs ⟨#[]⟩, .vs ⟨#[]⟩])] []) ?_ ?_
   · exact zAJ ⟨rfl, rfl, rfl, trivial⟩ ⟨rfl, trivial⟩ trivial rfl
   have htl := zFU (s := s) (by omega)
   have hat := at_lt s
   refine zAO (s' := mk [(0, .vs s), (2, .ptr 2 0), (4, .vi ((s.size - 16 : Nat) : Int))] [(2, [.nils, .vi 0, .vi 0, .vi 0, .vi 0, .vi 0, .vi 0, .vs ⟨#[]⟩, .vs ⟨#[]⟩])] []) ?_ ?_
   · exact zAJ ⟨rfl, rfl, (zAE (by omega)), trivial⟩ ⟨rfl, trivial⟩ trivial rfl
   refine zAA rfl (.m rfl rfl (.m rfl rfl (.r rfl (zAL (zA0 rfl rfl underlying9 (.at_ rfl rfl) .no (by omega) (Nat.le_refl _)) ((zA3 (show s.extract (s.size - 16) s.size = zCQ s from rfl)))) (.r rfl (zAw (pl := [(0, 1), (1, 1)]) rfl underlying104 zFn (by kernel_rfl) rfl rfl) (.run [3100] [] rfl (zCm rfl 3100 rfl rfl rfl (by decide) rfl (by decide)) (.a rfl rfl .nil)))))) ?_
   refine zAB ?_
   have hf1 := zOZ (zCQ s) false
   have hf2 := zOZ (fS (zCQ s) false).1 (fS (zCQ s) false).2
   have hf3 := foot3 (s := s) (by omega)
   refine zAA rfl (.m rfl rfl (.run [3100, 3300] [] rfl (zAF rfl 3300 (X := [3100]) en77 rfl (.val nod) (.cons (.rptr rfl) .nil) (by decide) (all_cons rfl all_nil) (.keep (xs := pvTk (zCQ s, false)) rfl (FlatP.nf (zAy _)) .nil) (zCh (zCQ s) false (by omega)) rfl rfl (nle rfl)) (.m rfl rfl (.run [3100, 3500] [] rfl (zAF rfl 3500 (X := [3100]) en77 rfl (.val nod) (.cons (.rptr rfl) .nil) (by decide) (all_cons rfl all_nil) (.keep (xs := pvTk (fS (zCQ s) false)) rfl (FlatP.nf (zAy _)) .nil) (zCh ((fS (zCQ s) false).1) ((fS (zCQ s) false).2) (by omega)) rfl rfl (nle rfl)) (.m rfl rfl (.run [3100, 3700] [] rfl (zAF rfl 3700 (X := [3100]) en77 rfl (.val nod) (.cons (.rptr rfl) .nil) (by decide) (all_cons rfl all_nil) (.keep (xs := pvTk (fS ((fS (zCQ s) false).1) ((fS (zCQ s) false).2))) rfl (FlatP.nf (zAy _)) .nil) (zCh ((fS ((fS (zCQ s) false).1) ((fS (zCQ s) false).2)).1) ((fS ((fS (zCQ s) false).1) ((fS (zCQ s) false).2)).2) (by omega)) rfl rfl (nle rfl)) (.a rfl rfl (.a rfl rfl (.a rfl rfl .nil))))))))) ?_
   refine zAB ?_
   refine zAB ?_
   refine zAO (s' := mk [(0, .vs s), (2, .ptr 2 0), (4, .vi ((s.size - 16 : Nat) : Int)), (6, .vi ((fV (zCQ s) : Nat) : Int)), (7, .vi ((fV ((fS (zCQ s) false).1) : Nat) : Int)), (8, .vi ((fV ((fS ((fS (zCQ s) false).1) ((fS (zCQ s) false).2)).1) : Nat) : Int))] [(2, [.nils, .vi 0, .vi 0, .vi 0, .vi 0, .vi 0, .vi 0, .vs ⟨#[]⟩, .vs ⟨#[]⟩])] []) ?_ ?_
   · exact zAJ ⟨rfl, rfl, rfl, rfl, rfl, rfl, trivial⟩ ⟨rfl, trivial⟩ trivial rfl
   clear hf1 hf2
   refine zAO (s' := mk [(0, .vs s), (2, .ptr 2 0), (4, .vi ((s.size - 16 : Nat) : Int)), (6, .vi ((tAt0 s : Nat) : Int)), (7, .vi ((tAt1 s : Nat) : Int)), (8, .vi ((tAt2 s : Nat) : Int))] [(2, [.nils, .vi 0, .vi 0, .vi 0, .vi 0, .vi 0, .vi 0, .vs ⟨#[]⟩, .vs ⟨#[]⟩])] []) ?_ ?_
   · exact zAJ ⟨rfl, rfl, rfl, (zAE (congrArg Nat.cast hf3.1)), (zAE (congrArg Nat.cast hf3.2.1)), (zAE (congrArg Nat.cast hf3.2.2)), trivial⟩ ⟨rfl, trivial⟩ trivial rfl
   refine zAA rfl (.m rfl rfl (.m rfl rfl (.m rfl rfl (.r rfl (zAL (st_max3 rfl rfl rfl rfl) ((zAE (max3 _ _ _)))) (.m rfl rfl (.r rfl (zBE rfl rfl rfl) .nil)))))) ?_
   refine zAT (t := decide (((s.size - 16 : Nat) : Int) < ((max (max (tAt0 s) (tAt1 s)) (tAt2 s) : Nat) : Int))) rfl (fun h3 => ?_) (fun h3 => ?_)
   ·
    replace h3 := of_decide_eq_true h3
    refine zAB ?_
    have hz := zE0 (zF4 (s := s) (fun q => by have q1 := q.in_; rw [oN] at q1; omega))
    obtain ⟨rfl, rfl, rfl, rfl, rfl, rfl, rfl, rfl, rfl⟩ := zEe (ho.symm.trans hz.1)
    rw [hz.2]
    refine zAA rfl (.r rfl (zAw (pl := [(0, 1), (1, 3), (4, 4), (8, 1)]) rfl underlying74 zFx (by kernel_rfl) rfl rfl) (.r rfl (zAN rfl rfl rfl rfl rfl sizeOf74 rfl (nle rfl)) (.a rfl rfl .nil))) ?_
    refine zAI ?_
    exact ends [_, _] [] (.cons (.cell rfl rfl isAgg74 sizeOf74 (nle rfl)) (.cons (.tmp rfl) .nil)) (.cons (.agg (.cons (.nil _) (.cons .v (.cons .v (.cons .v (.cons .v (.cons .v (.cons .v (.cons .v (.cons .v .nil))))))))) (zAM (.sl _ _ (fun _ h => nomatch h)) (zAM (.v _) (zAM (.v _) (zAM (.v _) (zAM (.v _) (zAM (.v _) (zAM (.v _) (zAM (.v _) (zAM (.v _) zBQ)))))))))) (.cons (.one .v (.v _)) .nil)) (by decide) trivial
   ·
    replace h3 := of_decide_eq_false h3
    refine zAK ?_
    refine zAB (zAA rfl (.r rfl (zAw (pl := [(0, 1), (1, 3), (4, 4), (8, 1)]) rfl underlying74 zFx (by kernel_rfl) rfl rfl) (.run [] [9] rfl (zBA rfl 9 zFx rfl (by decide) rfl (by decide)) (.r rfl (zAN rfl rfl rfl rfl rfl sizeOf74 rfl (nle rfl)) .nil))) ?_)
    refine zAB ?_
    refine zAO (s' := mk [(0, .vs s), (2, .ptr 2 0), (4, .vi ((s.size - 16 : Nat) : Int)), (6, .vi ((tAt0 s : Nat) : Int)), (7, .vi ((tAt1 s : Nat) : Int)), (8, .vi ((tAt2 s : Nat) : Int)), (9, .ptr 9 0)] [(2, [.nils, .vi 0, .vi 0, .vi 0, .vi 0, .vi 0, .vi 0, .vs ⟨#[]⟩, .vs ⟨#[]⟩]), (9, [.nils, .vi 0, .vi 0, .vi 0, .vi 0, .vi 0, .vi 0, .vs ⟨#[]⟩, .vs ⟨#[]⟩])] []) ?_ ?_
    · exact zAJ ⟨rfl, rfl, rfl, rfl, rfl, rfl, rfl, trivial⟩ ⟨rfl, rfl, trivial⟩ trivial rfl
    have hxa : (s.extract (tAt1 s) (s.size - 16)).size ≤ s.size := by rw [ByteArray.size_extract]; omega
    have hxb := zLb (s.extract (tAt1 s) (s.size - 16))
    refine zAA rfl (.m rfl rfl (.m rfl rfl (.m rfl rfl (.r rfl (zA0 rfl rfl underlying9 (.at_ rfl rfl) (.at_ rfl rfl) (by omega) (by omega)) (.r rfl (zAw (pl := [(0, 1), (1, 1)]) rfl underlying104 zFn (by kernel_rfl) rfl rfl) (.run [5200] [] rfl (zCm rfl 5200 rfl rfl rfl (by decide) rfl (by decide)) (.run [5200, 5300] [] rfl (zAF rfl 5300 (X := [5200]) en79 rfl (.val nod) (.cons (.rptr rfl) .nil) (by decide) (all_cons rfl all_nil) (.keep (xs := pvTk (s.extract (tAt1 s) (s.size - 16), false)) rfl (FlatP.nf (zAy _)) .nil) (zD2 (s.extract (tAt1 s) (s.size - 16)) false (by omega)) rfl rfl (nle rfl)) (.run [5400, 5401, 5402, 5403, 5404] [] rfl (zAF rfl 5400 (X := []) en78 rfl (.val nod) (.cons (.one (.bor .v)) .nil) (by decide) all_nil .nil (zHD (xV (s.extract (tAt1 s) (s.size - 16))) (by omega)) rfl rfl (nle rfl)) (.m rfl rfl (.r rfl (zAH rfl rfl rfl) (.r rfl (zAH rfl rfl rfl) (.r rfl (zAC rfl rfl underlying74 rfl sizeOf62 (by decide)) (.r rfl (zAN rfl rfl rfl rfl rfl sizeOf62 rfl (nle rfl)) .nil))))))))))))) ?_
    refine zAB ?_
    refine zAO (s' := mk [(0, .vs s), (2, .ptr 2 0), (4, .vi ((s.size - 16 : Nat) : Int)), (6, .vi ((tAt0 s : Nat) : Int)), (8, .vi ((tAt2 s : Nat) : Int)), (9, .ptr 9 0)] [(2, [.nils, .vi 0, .vi 0, .vi 0, .vi 0, .vi 0, .vi 0, .vs ⟨#[]⟩, .vs ⟨#[]⟩]), (9, [.nils, .vi 0, .vi 0, .vi 0, .vi (((zBP (xV (s.extract (tAt1 s) (s.size - 16)))).getD .zero).kind), .vi (((zBP (xV (s.extract (tAt1 s) (s.size - 16)))).getD .zero).seed), .vi (((zBP (xV (s.extract (tAt1 s) (s.size - 16)))).getD .zero).probes), .vs (((zBP (xV (s.extract (tAt1 s) (s.size - 16)))).getD .zero).bits), .vs ⟨#[]⟩])] []) ?_ ?_
    · exact zAJ ⟨rfl, rfl, rfl, rfl, rfl, rfl, trivial⟩ ⟨rfl, rfl, trivial⟩ trivial rfl
    have hxc : (s.extract (tAt2 s) (s.size - 16)).size ≤ s.size := by rw [ByteArray.size_extract]; omega
    have hop : (oP s).size ≤ 60000 := zLb _
    refine zAA rfl (.m rfl rfl (.m rfl rfl (.m rfl rfl (.r rfl (zA0 rfl rfl underlying9 (.at_ rfl rfl) (.at_ rfl rfl) (by omega) (by omega)) (.r rfl (zAw (pl := [(0, 1), (1, 1)]) rfl underlying104 zFn (by kernel_rfl) rfl rfl) (.run [6300] [] rfl (zCm rfl 6300 rfl rfl rfl (by decide) rfl (by decide)) (.run [6300, 6400] [] rfl (zAF rfl 6400 (X := [6300]) en79 rfl (.val nod) (.cons (.rptr rfl) .nil) (by decide) (all_cons rfl all_nil) (.keep (xs := pvTk (s.extract (tAt2 s) (s.size - 16), false)) rfl (FlatP.nf (zAy _)) .nil) (zD2 (s.extract (tAt2 s) (s.size - 16)) false (by omega)) rfl rfl (nle rfl)) (.r rfl (zAw (pl := [(0, 1), (1, 1)]) rfl underlying104 zFn (by kernel_rfl) rfl rfl) (.run [6600] [] rfl (zCm rfl 6600 rfl rfl rfl (by decide) rfl (by decide)) (.a rfl rfl .nil)))))))))) ?_
    refine zAB (zAA rfl (.m rfl rfl (.run [6600, 6800] [] rfl (zAF rfl 6800 (X := [6600]) en80 rfl (.val nod) (.cons (.rptr rfl) .nil) (by decide) (all_cons rfl all_nil) (.keep (xs := pvTk (oP s, false)) rfl (FlatP.nf (zAy _)) .nil) (zCH (oP s) false (by omega)) rfl rfl (nle rfl)) .nil)) ?_)
    have hr4 : pvTk (nS (oP s) false) = pvTk (oA s) := by rfl
    refine zAO (s' := mk [(0, .vs s), (2, .ptr 2 0), (6, .vi ((tAt0 s : Nat) : Int)), (9, .ptr 9 0), (10, .ea 6600 0 0)] [(2, [.nils, .vi 0, .vi 0, .vi 0, .vi 0, .vi 0, .vi 0, .vs ⟨#[]⟩, .vs ⟨#[]⟩]), (9, [.nils, .vi 0, .vi 0, .vi 0, .vi (((zBP (xV (s.extract (tAt1 s) (s.size - 16)))).getD .zero).kind), .vi (((zBP (xV (s.extract (tAt1 s) (s.size - 16)))).getD .zero).seed), .vi (((zBP (xV (s.extract (tAt1 s) (s.size - 16)))).getD .zero).probes), .vs (((zBP (xV (s.extract (tAt1 s) (s.size - 16)))).getD .zero).bits), .vs ⟨#[]⟩])] [(6600, 2, pvTk (oA s))]) ?_ ?_
    · exact zAJ ⟨rfl, rfl, rfl, rfl, rfl, trivial⟩ ⟨rfl, rfl, trivial⟩ ⟨(congrArg (fun x => some (2, x)) hr4), trivial⟩ rfl
    refine zAB ?_
    refine zAB ?_
    have hoa : (oA s).1.size ≤ 60000 := Nat.le_trans (zGl _ _) hop
    refine zAA rfl (.m rfl rfl (.r rfl (zAd rfl rfl) (.r rfl (zAs rfl rfl underlying104 rfl sizeOf9 (by decide)) (.r rfl (zBl (.string ((oA s).1)) rfl rfl rfl rfl isAgg9 rfl) (.r rfl (zAP rfl rfl underlying9) (.r rfl (zAt rfl rfl rfl) .nil)))))) ?_
    refine zAT (t := decide ((((oA s).1).size : Int) < 64)) rfl (fun h5 => ?_) (fun h5 => ?_)
    ·
     replace h5 := of_decide_eq_true h5
     refine zAB ?_
     have hz := zE0 (zF4 (s := s) (fun q => by have q1 := q.regs; omega))
     obtain ⟨rfl, rfl, rfl, rfl, rfl, rfl, rfl, rfl, rfl⟩ := zEe (ho.symm.trans hz.1)
     rw [hz.2]
     refine zAA rfl (.r rfl (zAw (pl := [(0, 1), (1, 3), (4, 4), (8, 1)]) rfl underlying74 zFx (by kernel_rfl) rfl rfl) (.r rfl (zAN rfl rfl rfl rfl rfl sizeOf74 rfl (nle rfl)) (.a rfl rfl .nil))) ?_
     refine zAI ?_
     exact ends [_, _] [] (.cons (.cell rfl rfl isAgg74 sizeOf74 (nle rfl)) (.cons (.tmp rfl) .nil)) (.cons (.agg (.cons (.nil _) (.cons .v (.cons .v (.cons .v (.cons .v (.cons .v (.cons .v (.cons .v (.cons .v .nil))))))))) (zAM (.sl _ _ (fun _ h => nomatch h)) (zAM (.v _) (zAM (.v _) (zAM (.v _) (zAM (.v _) (zAM (.v _) (zAM (.v _) (zAM (.v _) (zAM (.v _) zBQ)))))))))) (.cons (.one .v (.v _)) .nil)) (by decide) trivial
    ·
     replace h5 := of_decide_eq_false h5
     refine zAK ?_
     refine zAB ?_
     refine zAO (s' := mk [(0, .vs s), (2, .ptr 2 0), (6, .vi ((tAt0 s : Nat) : Int)), (9, .ptr 9 0), (10, .ea 6600 0 0)] [(2, [.nils, .vi 0, .vi 0, .vi 0, .vi 0, .vi 0, .vi 0, .vs ⟨#[]⟩, .vs ⟨#[]⟩]), (9, [.nils, .vi 0, .vi 0, .vi 0, .vi (((zBP (xV (s.extract (tAt1 s) (s.size - 16)))).getD .zero).kind), .vi (((zBP (xV (s.extract (tAt1 s) (s.size - 16)))).getD .zero).seed), .vi (((zBP (xV (s.extract (tAt1 s) (s.size - 16)))).getD .zero).probes), .vs (((zBP (xV (s.extract (tAt1 s) (s.size - 16)))).getD .zero).bits), .vs ⟨#[]⟩])] [(6600, 2, pvTk (oA s))]) ?_ ?_
     · exact zAJ ⟨rfl, rfl, rfl, rfl, rfl, trivial⟩ ⟨rfl, rfl, trivial⟩ ⟨rfl, trivial⟩ rfl
     refine zAb zBh rfl (.m rfl rfl (.m rfl rfl (.r rfl (zAd rfl rfl) (.r rfl (zAs rfl rfl underlying104 rfl sizeOf9 (by decide)) (.r rfl (zBl (.string ((oA s).1)) rfl rfl rfl rfl isAgg9 rfl) (.r rfl (zA0 rfl rfl underlying9 .no (.at_ rfl (show (64 : Int) = ((64 : Nat) : Int) from rfl)) (Nat.zero_le _) (by omega)) (.m rfl rfl (.r rfl (zAd rfl rfl) (.r rfl (zAs rfl rfl underlying104 rfl sizeOf9 (by decide)) (.r rfl (zBl (.string ((oA s).1)) rfl rfl rfl rfl isAgg9 rfl) (.r rfl (zA0 rfl rfl underlying9 (.at_ rfl (show (64 : Int) = ((64 : Nat) : Int) from rfl)) .no (by omega) (Nat.le_refl _)) (.r rfl (zAC rfl rfl underlying74 rfl sizeOf9 (by decide)) (.r rfl (zAN rfl rfl rfl rfl rfl sizeOf9 rfl (nle rfl)) (.r rfl (zAd rfl rfl) (.r rfl (zAs rfl rfl underlying104 rfl sizeOf9 (by decide)) (.r rfl (zA9 rfl rfl rfl (FlatP.nf (zAy _)) rfl rfl rfl (.cons .v .nil) sizeOf9 rfl (nle rfl)) .nil)))))))))))))))) (by kernel_rfl) ?_
     have hr6 : (pvTk (oA s)).set 0 [PV.v (.string (((oA s).1).extract 64 (((oA s).1).size))), PV.v (.bool ((oA s).2))] = pvTk (oR s, (oA s).2) := by rfl
     refine zAO (s' := mk [(0, .vs s), (2, .ptr 2 0), (6, .vi ((tAt0 s : Nat) : Int)), (9, .ptr 9 0), (10, .ea 6600 0 0)] [(2, [.nils, .vi 0, .vi 0, .vi 0, .vi 0, .vi 0, .vi 0, .vs ⟨#[]⟩, .vs ⟨#[]⟩]), (9, [.nils, .vi 0, .vi 0, .vi 0, .vi (((zBP (xV (s.extract (tAt1 s) (s.size - 16)))).getD .zero).kind), .vi (((zBP (xV (s.extract (tAt1 s) (s.size - 16)))).getD .zero).seed), .vi (((zBP (xV (s.extract (tAt1 s) (s.size - 16)))).getD .zero).probes), .vs (((zBP (xV (s.extract (tAt1 s) (s.size - 16)))).getD .zero).bits), .vs (((oA s).1).extract 0 64)])] [(6600, 2, pvTk (oR s, (oA s).2))]) ?_ ?_
     · exact zAJ ⟨rfl, rfl, rfl, rfl, rfl, trivial⟩ ⟨rfl, rfl, trivial⟩ ⟨(congrArg (fun x => some (2, x)) hr6), trivial⟩ rfl
     refine zAB ?_
     have hor : (oR s).size ≤ 60000 := Nat.le_trans (zC6 _ _) hoa
     have hn1 := zGl (oR s) (oA s).2
     have hn2 := zGl (nS (oR s) (oA s).2).1 (nS (oR s) (oA s).2).2
     refine zAA rfl (.m rfl rfl (.run [6600, 9100] [] rfl (zAF rfl 9100 (X := [6600]) en80 rfl (.val nod) (.cons (.rptr rfl) .nil) (by decide) (all_cons rfl all_nil) (.keep (xs := pvTk (oR s, (oA s).2)) rfl (FlatP.nf (zAy _)) .nil) (zCH (oR s) ((oA s).2) (by omega)) rfl rfl (nle rfl)) (.m rfl rfl (.run [6600, 9300] [] rfl (zAF rfl 9300 (X := [6600]) en80 rfl (.val nod) (.cons (.rptr rfl) .nil) (by decide) (all_cons rfl all_nil) (.keep (xs := pvTk (nS (oR s) ((oA s).2))) rfl (FlatP.nf (zAy _)) .nil) (zCH ((nS (oR s) ((oA s).2)).1) ((nS (oR s) ((oA s).2)).2) (by omega)) rfl rfl (nle rfl)) (.m rfl rfl (.run [6600, 9500] [] rfl (zAF rfl 9500 (X := [6600]) en80 rfl (.val nod) (.cons (.rptr rfl) .nil) (by decide) (all_cons rfl all_nil) (.keep (xs := pvTk (nS ((nS (oR s) ((oA s).2)).1) ((nS (oR s) ((oA s).2)).2))) rfl (FlatP.nf (zAy _)) .nil) (zCH ((nS ((nS (oR s) ((oA s).2)).1) ((nS (oR s) ((oA s).2)).2)).1) ((nS ((nS (oR s) ((oA s).2)).1) ((nS (oR s) ((oA s).2)).2)).2) (by omega)) rfl rfl (nle rfl)) (.r rfl (zAw (pl := [(0, 1), (1, 1), (2, 1)]) rfl underlying30 zDZ (by kernel_rfl) rfl rfl) (.r rfl (zAC rfl rfl underlying74 rfl sizeOf30 (by decide)) (.r rfl (zAN rfl rfl rfl rfl rfl sizeOf30 rfl (nle rfl)) .nil))))))))) ?_
     refine zAB ?_
     refine zAB ?_
     refine zAO (s' := mk [(0, .vs s), (2, .ptr 2 0), (6, .vi ((tAt0 s : Nat) : Int)), (9, .ptr 9 0)] [(2, [.nils, .vi 0, .vi 0, .vi 0, .vi 0, .vi 0, .vi 0, .vs ⟨#[]⟩, .vs ⟨#[]⟩]), (9, [.nils, .vi (nV (oR s)), .vi (nV ((nS (oR s) ((oA s).2)).1)), .vi (nV ((nS ((nS (oR s) ((oA s).2)).1) ((nS (oR s) ((oA s).2)).2)).1)), .vi (((zBP (xV (s.extract (tAt1 s) (s.size - 16)))).getD .zero).kind), .vi (((zBP (xV (s.extract (tAt1 s) (s.size - 16)))).getD .zero).seed), .vi (((zBP (xV (s.extract (tAt1 s) (s.size - 16)))).getD .zero).probes), .vs (((zBP (xV (s.extract (tAt1 s) (s.size - 16)))).getD .zero).bits), .vs (((oA s).1).extract 0 64)])] []) ?_ ?_
     · exact zAJ ⟨rfl, rfl, rfl, rfl, trivial⟩ ⟨rfl, rfl, trivial⟩ trivial rfl
     have hx0 : (s.extract 0 (tAt0 s)).size ≤ s.size := by rw [ByteArray.size_extract]; omega
     clear hn1 hn2
     refine zAA rfl (.m rfl rfl (.m rfl rfl (.r rfl (zA0 rfl rfl underlying9 .no (.at_ rfl rfl) (Nat.zero_le _) (by omega)) (.r rfl (zAw (pl := [(0, 1), (1, 1)]) rfl underlying104 zFn (by kernel_rfl) rfl rfl) (.run [10200] [] rfl (zCm rfl 10200 rfl rfl rfl (by decide) rfl (by decide)) (.a rfl rfl .nil)))))) ?_
     refine zAS ?_
     refine zAO (wk_nil 9 0 3 4 rfl rfl rfl (by decide)) ?_
     refine zAO (zCd 10200 1 rfl rfl (by decide)) ?_
     refine zAj (σ := ByteArray × List Ent) (fun (left, out) => mk [(0, .vs s), (2, .ptr 2 0), (9, .ptr 9 0), (11, .ea 1 0 0)] [(2, [.nils, .vi 0, .vi 0, .vi 0, .vi 0, .vi 0, .vi 0, .vs ⟨#[]⟩, .vs ⟨#[]⟩]), (9, [.sl 3 0 ((pvE out).length), .vi (nV (oR s)), .vi (nV (nS (oR s) (oA s).2).1), .vi (nV (nS (nS (oR s) (oA s).2).1 (nS (oR s) (oA s).2).2).1), .vi (((zBP (xV (s.extract (tAt1 s) (s.size - 16)))).getD .zero).kind), .vi (((zBP (xV (s.extract (tAt1 s) (s.size - 16)))).getD .zero).seed), .vi (((zBP (xV (s.extract (tAt1 s) (s.size - 16)))).getD .zero).probes), .vs (((zBP (xV (s.extract (tAt1 s) (s.size - 16)))).getD .zero).bits), .vs ((oA s).1.extract 0 64)])] [(1, 2, pvTk (left, false)), (3, 4, pvE out)]) (fun (left, out) => (left.size ≤ s.size ∧ out.length + left.size ≤ s.size) ∧ pT (left.size + 1) left out = pT ((s.extract 0 (tAt0 s)).size + 1) (s.extract 0 (tAt0 s)) []) (fun (left, out) => left.size) (s.extract 0 (tAt0 s), []) ⟨⟨hx0, by rw [List.length_nil, Nat.zero_add]; exact hx0⟩, rfl⟩ (zAJ ⟨rfl, rfl, rfl, rfl, trivial⟩ ⟨rfl, rfl, trivial⟩ ⟨(congrArg (fun x => some (2, x)) (by rfl)), (congrArg (fun x => some (4, x)) (by rfl)), trivial⟩ rfl) ?_
     rintro ⟨left, out⟩ hG
     replace hG : (left.size ≤ s.size ∧ out.length + left.size ≤ s.size) ∧ pT (left.size + 1) left out = pT ((s.extract 0 (tAt0 s)).size + 1) (s.extract 0 (tAt0 s)) [] := hG
     obtain ⟨⟨hls, hlo⟩, hE⟩ := hG
     have hvo := zAf out
     refine zAB ?_
     refine zAB (zAA rfl (.m rfl rfl (.r rfl (zAd rfl rfl) (.r rfl (zAs rfl rfl underlying104 rfl sizeOf9 (by decide)) (.r rfl (zBl (.string left) rfl rfl rfl rfl isAgg9 rfl) (.r rfl (zCC rfl rfl rfl) .nil))))) ?_)
     refine zAT (t := (!(decide (left = ⟨#[]⟩)))) rfl (fun h7 => ?_) (fun h7 => ?_)
     ·
      replace h7 : ¬ (left = ⟨#[]⟩) := of_decide_eq_false (zAm h7)
      refine zAK ?_
      refine zAS ?_
      refine zAB ?_
      have hne := h7
      have hxv := zLb left
      refine zAA rfl (.m rfl rfl (.run [1, 11000] [] rfl (zAF rfl 11000 (X := [1]) en79 rfl (.val nod) (.cons (.rptr rfl) .nil) (by decide) (all_cons rfl all_nil) (.keep (xs := pvTk (left, false)) rfl (FlatP.nf (zAy _)) .nil) (zD2 left false (by omega)) rfl rfl (nle rfl)) (.run [11100, 11101] [] rfl (zAF rfl 11100 (X := []) en81 rfl (.val nod) (.cons (.one (.bor .v)) .nil) (by decide) all_nil .nil (zH7 (xV left) (by omega)) rfl rfl (nle rfl)) (.m rfl rfl (.r rfl (zAH rfl rfl rfl) (.r rfl (zAH rfl rfl rfl) (.a rfl rfl (.a rfl rfl .nil)))))))) ?_
      refine zAB ?_
      refine zAB ?_
      refine zAO (s' := mk [(0, .vs s), (2, .ptr 2 0), (9, .ptr 9 0), (11, .ea 1 0 0), (12, .sl 11100 0 ((pvE ((zBI (xV left)).getD [])).length)), (13, .vb ((zBI (xV left)).isSome))] [(2, [.nils, .vi 0, .vi 0, .vi 0, .vi 0, .vi 0, .vi 0, .vs ⟨#[]⟩, .vs ⟨#[]⟩]), (9, [.sl 3 0 ((pvE out).length), .vi (nV (oR s)), .vi (nV (nS (oR s) (oA s).2).1), .vi (nV (nS (nS (oR s) (oA s).2).1 (nS (oR s) (oA s).2).2).1), .vi (((zBP (xV (s.extract (tAt1 s) (s.size - 16)))).getD .zero).kind), .vi (((zBP (xV (s.extract (tAt1 s) (s.size - 16)))).getD .zero).seed), .vi (((zBP (xV (s.extract (tAt1 s) (s.size - 16)))).getD .zero).probes), .vs (((zBP (xV (s.extract (tAt1 s) (s.size - 16)))).getD .zero).bits), .vs ((oA s).1.extract 0 64)])] [(1, 2, pvTk (sS left false)), (3, 4, pvE out), (11100, 4, pvE ((zBI (xV left)).getD []))]) ?_ ?_
      · exact zAJ ⟨rfl, rfl, rfl, rfl, rfl, rfl, trivial⟩ ⟨rfl, rfl, trivial⟩ ⟨rfl, rfl, rfl, trivial⟩ rfl
      rcases bfc ((sS left false).2) with h8 | h8
      ·
       have h8' := h8
       refine zAA rfl (.m rfl rfl (.r rfl (zAd rfl rfl) (.r rfl (zAs rfl rfl underlying104 rfl sizeOf4 (by decide)) (.r rfl (zAL (zBl (.bool ((sS left false).2)) rfl rfl rfl rfl isAgg4 rfl) (zAG h8)) (.m rfl rfl (.m rfl rfl (.r rfl (zAa (b := (zBI (xV left)).isSome) rfl rfl) (.r rfl (zAg rfl rfl) .nil)))))))) ?_
       refine zAT (t := (!((zBI (xV left)).isSome))) rfl (fun h9 => ?_) (fun h9 => ?_)
       ·
        replace h9 : ((zBI (xV left)).isSome) = false := zAm h9
        refine zAB ?_
        have hz := zE0 (zI9 (hE.symm.trans (zHd hne (.inr h9))))
        obtain ⟨rfl, rfl, rfl, rfl, rfl, rfl, rfl, rfl, rfl⟩ := zEe (ho.symm.trans hz.1)
        rw [hz.2]
        refine zAA rfl (.r rfl (zAw (pl := [(0, 1), (1, 3), (4, 4), (8, 1)]) rfl underlying74 zFx (by kernel_rfl) rfl rfl) (.r rfl (zAN rfl rfl rfl rfl rfl sizeOf74 rfl (nle rfl)) (.a rfl rfl .nil))) ?_
        refine zAI ?_
        exact ends [_, _] [] (.cons (.cell rfl rfl isAgg74 sizeOf74 (nle rfl)) (.cons (.tmp rfl) .nil)) (.cons (.agg (.cons (.nil _) (.cons .v (.cons .v (.cons .v (.cons .v (.cons .v (.cons .v (.cons .v (.cons .v .nil))))))))) (zAM (.sl _ _ (fun _ h => nomatch h)) (zAM (.v _) (zAM (.v _) (zAM (.v _) (zAM (.v _) (zAM (.v _) (zAM (.v _) (zAM (.v _) (zAM (.v _) zBQ)))))))))) (.cons (.one .v (.v _)) .nil)) (by decide) trivial
       ·
        replace h9 : ((zBI (xV left)).isSome) = true := zAn h9
        refine zAK ?_
        have hbd := h8'
        have hrd := h9
        have hfw := zMf (xV left)
        have hsf := sS_few hbd
        have hsl := sS_lt hbd
        have hvr := zAf ((zBI (xV left)).getD [])
        refine zAA rfl (.r rfl (zAC rfl rfl underlying74 rfl sizeOf28 (by decide)) (.r rfl (zAD rfl rfl rfl isAgg28 rfl) (.m rfl rfl (.run [3] [] rfl (zB6 rfl 3 (ib := 3) (len := ((pvE out) ++ (pvE ((zBI (xV left)).getD []))).length) rfl rfl (.row (len := (pvE out).length) (xs := pvE out) rfl rfl (.inl rfl)) (.give (len := (pvE ((zBI (xV left)).getD [])).length) (xs := pvE ((zBI (xV left)).getD [])) rfl rfl) underlying28 (sk underlying28 rfl) zEH rfl (by decide) (by decide) (by decide) List.length_append (by simp only [maxLen, List.length_append, List.length_cons, List.length_nil, zAf]; omega) (by simp only [maxLen, List.length_append, List.length_cons, List.length_nil, zAf]; omega)) (.r rfl (zAC rfl rfl underlying74 rfl sizeOf28 (by decide)) (.r rfl (zAN rfl rfl rfl rfl rfl sizeOf28 rfl (nle rfl)) .nil)))))) ?_
        have hr10 : (pvE out) ++ (pvE ((zBI (xV left)).getD [])) = pvE (out ++ (zBI (xV left)).getD []) := by exact zMj _ _
        have hp11 : (some [.sl 3 0 (((pvE out) ++ (pvE ((zBI (xV left)).getD []))).length), .vi (nV (oR s)), .vi (nV (nS (oR s) (oA s).2).1), .vi (nV (nS (nS (oR s) (oA s).2).1 (nS (oR s) (oA s).2).2).1), .vi (((zBP (xV (s.extract (tAt1 s) (s.size - 16)))).getD .zero).kind), .vi (((zBP (xV (s.extract (tAt1 s) (s.size - 16)))).getD .zero).seed), .vi (((zBP (xV (s.extract (tAt1 s) (s.size - 16)))).getD .zero).probes), .vs (((zBP (xV (s.extract (tAt1 s) (s.size - 16)))).getD .zero).bits), .vs ((oA s).1.extract 0 64)] : Option (List AV)) = some [.sl 3 0 ((pvE (out ++ (zBI (xV left)).getD [])).length), .vi (nV (oR s)), .vi (nV (nS (oR s) (oA s).2).1), .vi (nV (nS (nS (oR s) (oA s).2).1 (nS (oR s) (oA s).2).2).1), .vi (((zBP (xV (s.extract (tAt1 s) (s.size - 16)))).getD .zero).kind), .vi (((zBP (xV (s.extract (tAt1 s) (s.size - 16)))).getD .zero).seed), .vi (((zBP (xV (s.extract (tAt1 s) (s.size - 16)))).getD .zero).probes), .vs (((zBP (xV (s.extract (tAt1 s) (s.size - 16)))).getD .zero).bits), .vs ((oA s).1.extract 0 64)] := by rw [hr10]
        refine nxt (Q := fun _ _ => False) (z := (left, out)) ((sS left false).1, out ++ (zBI (xV left)).getD []) ?_ ?_ ?_
        ·
         show (((sS left false).1).size ≤ s.size ∧ (out ++ (zBI (xV left)).getD []).length + ((sS left false).1).size ≤ s.size) ∧ pT (((sS left false).1).size + 1) ((sS left false).1) (out ++ (zBI (xV left)).getD []) = pT ((s.extract 0 (tAt0 s)).size + 1) (s.extract 0 (tAt0 s)) []
         exact ⟨⟨by have := sS_le left false; omega, by rw [List.length_append]; omega⟩, (zMn (by omega) (by omega)).trans ((zOH hne hbd hrd).symm.trans hE)⟩
        ·
         show ((sS left false).1).size < left.size
         exact sS_lt hbd
        · exact zAJ ⟨rfl, rfl, rfl, rfl, trivial⟩ ⟨rfl, hp11, trivial⟩ ⟨(congrArg (fun x => some (2, x)) (by exact congrArg pvTk (Prod.ext rfl hbd))), (congrArg (fun x => some (4, x)) hr10), trivial⟩ rfl
      ·
       have h8' := h8
       refine zAA rfl (.m rfl rfl (.r rfl (zAd rfl rfl) (.r rfl (zAs rfl rfl underlying104 rfl sizeOf4 (by decide)) (.r rfl (zAL (zBl (.bool ((sS left false).2)) rfl rfl rfl rfl isAgg4 rfl) (zAG h8)) (.m rfl rfl (.not rfl (.not rfl (.r rfl (zAo rfl rfl) .nil)))))))) ?_
       refine zAT (t := true) rfl (fun _ => ?_) (fun h => nomatch h)
       refine zAB ?_
       have hz := zE0 (zI9 (hE.symm.trans (zHd hne (.inl h8'))))
       obtain ⟨rfl, rfl, rfl, rfl, rfl, rfl, rfl, rfl, rfl⟩ := zEe (ho.symm.trans hz.1)
       rw [hz.2]
       refine zAA rfl (.r rfl (zAw (pl := [(0, 1), (1, 3), (4, 4), (8, 1)]) rfl underlying74 zFx (by kernel_rfl) rfl rfl) (.r rfl (zAN rfl rfl rfl rfl rfl sizeOf74 rfl (nle rfl)) (.a rfl rfl .nil))) ?_
       refine zAI ?_
       exact ends [_, _] [] (.cons (.cell rfl rfl isAgg74 sizeOf74 (nle rfl)) (.cons (.tmp rfl) .nil)) (.cons (.agg (.cons (.nil _) (.cons .v (.cons .v (.cons .v (.cons .v (.cons .v (.cons .v (.cons .v (.cons .v .nil))))))))) (zAM (.sl _ _ (fun _ h => nomatch h)) (zAM (.v _) (zAM (.v _) (zAM (.v _) (zAM (.v _) (zAM (.v _) (zAM (.v _) (zAM (.v _) (zAM (.v _) zBQ)))))))))) (.cons (.one .v (.v _)) .nil)) (by decide) trivial
     ·
      replace h7 : left = ⟨#[]⟩ := of_decide_eq_true (zAn h7)
      refine zAi ?_
      refine zAB (zAA rfl (.r rfl (zAC rfl rfl underlying74 rfl sizeOf28 (by decide)) (.r rfl (zAD rfl rfl rfl isAgg28 rfl) (.r rfl (zAC rfl rfl underlying74 rfl sizeOf30 (by decide)) (.r rfl (zAZ rfl rfl rfl isAgg30 sizeOf30 (nle rfl)) (.run [3, 13300, 13301] [] rfl (zCX (.inr rfl) rfl 13300 (X := []) en11 rfl (.val nod) (.cons (.one (.bor (.all (len := (pvE out).length) (xs := pvE out) rfl rfl (by decide)))) (.cons (.agg (.cons (.bor .v) (.cons (.bor .v) (.cons (.bor .v) .nil)))) .nil)) (by decide) all_nil .nil (zJv ht out (nV (oR s)) (nV (nS (oR s) (oA s).2).1) (nV (nS (nS (oR s) (oA s).2).1 (nS (oR s) (oA s).2).2).1) (by omega)) rfl rfl (nle rfl)) (.m rfl rfl (.r rfl (zAH rfl rfl rfl) (.r rfl (zAH rfl rfl rfl) (.a rfl rfl (.a rfl rfl .nil)))))))))) ?_)
      refine zAB ?_
      refine zAO (s' := mk [(0, .vs s), (2, .ptr 2 0), (9, .ptr 9 0), (14, .vs ((zBb out ⟨nV (oR s), nV (nS (oR s) (oA s).2).1, nV (nS (nS (oR s) (oA s).2).1 (nS (oR s) (oA s).2).2).1⟩).getD ⟨#[]⟩)), (15, .vb ((zBb out ⟨nV (oR s), nV (nS (oR s) (oA s).2).1, nV (nS (nS (oR s) (oA s).2).1 (nS (oR s) (oA s).2).2).1⟩).isSome))] [(2, [.nils, .vi 0, .vi 0, .vi 0, .vi 0, .vi 0, .vi 0, .vs ⟨#[]⟩, .vs ⟨#[]⟩]), (9, [.sl 3 0 ((pvE out).length), .vi (nV (oR s)), .vi (nV (nS (oR s) (oA s).2).1), .vi (nV (nS (nS (oR s) (oA s).2).1 (nS (oR s) (oA s).2).2).1), .vi (((zBP (xV (s.extract (tAt1 s) (s.size - 16)))).getD .zero).kind), .vi (((zBP (xV (s.extract (tAt1 s) (s.size - 16)))).getD .zero).seed), .vi (((zBP (xV (s.extract (tAt1 s) (s.size - 16)))).getD .zero).probes), .vs (((zBP (xV (s.extract (tAt1 s) (s.size - 16)))).getD .zero).bits), .vs ((oA s).1.extract 0 64)])] [(3, 4, pvE out)]) ?_ ?_
      · exact zAJ ⟨rfl, rfl, rfl, rfl, rfl, trivial⟩ ⟨rfl, rfl, trivial⟩ ⟨rfl, trivial⟩ rfl
      have hp : pT ((s.extract 0 (tAt0 s)).size + 1) (s.extract 0 (tAt0 s)) [] = some out := hE.symm.trans (by rw [show left = ⟨#[]⟩ from h7]; exact zK1)
      have hok : OOk s := ⟨by omega, by omega, by rw [oN]; omega, by omega⟩
      have hz := zLr hok hp
      obtain ⟨rfl, rfl, rfl, rfl, rfl, rfl, rfl, rfl, rfl⟩ := opn_inj (ho.symm.trans (open_v hz))
      rcases bfc ((zBb out ⟨nV (oR s), nV (nS (oR s) (oA s).2).1, nV (nS (nS (oR s) (oA s).2).1 (nS (oR s) (oA s).2).2).1⟩).isSome) with h12 | h12
      ·
       have h12' := h12
       refine zAA rfl (.r rfl (zAZ rfl rfl rfl isAgg74 sizeOf74 (nle rfl)) (.r rfl (zAL (zBM rfl) (zAG h12)) (.m rfl rfl (.not rfl (.not rfl (.not rfl (.r rfl (zAg rfl rfl) (.r rfl (zAN rfl rfl rfl rfl rfl sizeOf74 rfl (nle rfl)) (.a rfl rfl .nil))))))))) ?_
       refine zAI ?_
       exact ends [_, _] [3] (.cons (.cell rfl rfl isAgg74 sizeOf74 (nle rfl)) (.cons (.tmp (zAG (zOJ hz h12').symm)) .nil)) (.cons (.agg (.cons (.row (len := (pvE out).length) (xs := pvE out) rfl rfl) (.cons .v (.cons .v (.cons .v (.cons .v (.cons .v (.cons .v (.cons .v (.cons .v .nil))))))))) (zAM (.sl _ _ (FlatP.clean (zCf _))) (zAM (.v _) (zAM (.v _) (zAM (.v _) (zAM (.v _) (zAM (.v _) (zAM (.v _) (zAM (.v _) (zAM (.v _) zBQ)))))))))) (.cons (.one .v (.v _)) .nil)) (by decide) trivial
      ·
       have h12' := h12
       refine zAA rfl (.r rfl (zAZ rfl rfl rfl isAgg74 sizeOf74 (nle rfl)) (.r rfl (zAL (zBM rfl) (zAG h12)) (.m rfl rfl (.m rfl rfl (.m rfl rfl (.r rfl (zDQ rfl rfl rfl) (.r rfl (zAo rfl rfl) (.r rfl (zAN rfl rfl rfl rfl rfl sizeOf74 rfl (nle rfl)) (.a rfl rfl .nil))))))))) ?_
       refine zAI ?_
       exact ends [_, _] [3] (.cons (.cell rfl rfl isAgg74 sizeOf74 (nle rfl)) (.cons (.tmp (zAG (zMs hz h12').symm)) .nil)) (.cons (.agg (.cons (.row (len := (pvE out).length) (xs := pvE out) rfl rfl) (.cons .v (.cons .v (.cons .v (.cons .v (.cons .v (.cons .v (.cons .v (.cons .v .nil))))))))) (zAM (.sl _ _ (FlatP.clean (zCf _))) (zAM (.v _) (zAM (.v _) (zAM (.v _) (zAM (.v _) (zAM (.v _) (zAM (.v _) (zAM (.v _) (zAM (.v _) zBQ)))))))))) (.cons (.one .v (.v _)) .nil)) (by decide) trivial
 ·
  have h1' := h1
  replace h1' := of_decide_eq_true h1'
  refine zAA rfl (.m rfl rfl (.r rfl (zAL (zAt rfl rfl rfl) (zAG h1)) (.m rfl rfl (.not rfl (.not rfl (.not rfl (.r rfl (zAo rfl rfl) .nil))))))) ?_
  refine zAT (t := true) rfl (fun _ => ?_) (fun h => nomatch h)
  refine zAB ?_
  refine zAO (s' := mk [(2, .ptr 2 0)] [(2, [.nils, .vi 0, .vi 0, .vi 0, .vi 0, .vi 0, .vi 0, .vs ⟨#[]⟩, .vs ⟨#[]⟩])] []) ?_ ?_
  · exact zAJ ⟨rfl, trivial⟩ ⟨rfl, trivial⟩ trivial rfl
  have hz := zE0 (zF4 (s := s) (fun q => by have q1 := q.big; have q2 := q.small; omega))
  obtain ⟨rfl, rfl, rfl, rfl, rfl, rfl, rfl, rfl, rfl⟩ := zEe (ho.symm.trans hz.1)
  rw [hz.2]
  refine zAA rfl (.r rfl (zAw (pl := [(0, 1), (1, 3), (4, 4), (8, 1)]) rfl underlying74 zFx (by kernel_rfl) rfl rfl) (.r rfl (zAN rfl rfl rfl rfl rfl sizeOf74 rfl (nle rfl)) (.a rfl rfl .nil))) ?_
  refine zAI ?_
  exact ends [_, _] [] (.cons (.cell rfl rfl isAgg74 sizeOf74 (nle rfl)) (.cons (.tmp rfl) .nil)) (.cons (.agg (.cons (.nil _) (.cons .v (.cons .v (.cons .v (.cons .v (.cons .v (.cons .v (.cons .v (.cons .v .nil))))))))) (zAM (.sl _ _ (fun _ h => nomatch h)) (zAM (.v _) (zAM (.v _) (zAM (.v _) (zAM (.v _) (zAM (.v _) (zAM (.v _) (zAM (.v _) (zAM (.v _) zBQ)))))))))) (.cons (.one .v (.v _)) .nil)) (by decide) trivial
end Go.Rl
namespace Go.Rl
open Go.Proofs Go.Proofs.Tryd
set_option maxRecDepth 1000000
set_option maxHeartbeats 2000000
theorem en41 : En Tryd.prog 41 := zAh func41 (by decide) rfl
theorem en42 : En Tryd.prog 42 := zAh func42 (by decide) rfl
theorem en45 : En Tryd.prog 45 := zAh func45 (by decide) rfl
theorem en13 : En Tryd.prog 13 := zAh func13 (by decide) rfl
theorem en14 : En Tryd.prog 14 := zAh func14 (by decide) rfl
theorem en15 : En Tryd.prog 15 := zAh func15 (by decide) rfl
theorem en16 : En Tryd.prog 16 := zAh func16 (by decide) rfl
theorem en17 : En Tryd.prog 17 := zAh func17 (by decide) rfl
theorem en19 : En Tryd.prog 19 := zAh func19 (by decide) rfl
theorem en12 : En Tryd.prog 12 := zAh func12 (by decide) rfl
theorem en20 : En Tryd.prog 20 := zAh func20 (by decide) rfl
theorem en21 : En Tryd.prog 21 := zAh func21 (by decide) rfl
theorem zMx {e : Ent} {x0 x1 x2 x3} (h0 : e.user = x0) (h1 : e.seq = x1) (h2 : e.kind = x2) (h3 : e.value = x3) : e = ⟨x0, x1, x2, x3⟩ := by cases e; simp_all
theorem zFH {ps : List PV} (h : Fits [.str] ps) : ∃ b : ByteArray, ps = [.v (.string b)] ∧ b.size ≤ 9223372036854775807 := by
 obtain ⟨p0, e0, rfl, f0, h⟩ := zGx h
 obtain rfl := zLJ h
 obtain ⟨b, rfl, hb⟩ := fit_str f0
 exact ⟨b, rfl, Nat.le_trans hb zMg⟩
theorem zMr {ps : List PV} (h : Fits [.int .i64] ps) : ∃ n : Int, ps = [.v (.int .i64 n)] := by
 obtain ⟨p0, e0, rfl, f0, h⟩ := zGx h
 obtain rfl := zLJ h
 obtain ⟨n, rfl, hn⟩ := fit_int f0
 exact ⟨n, rfl⟩
theorem zFC {γ : Gho} (ht : TabG γ) (s : ByteArray) (hs : s.size ≤ 9000000000000000000) : ConG γ Tryd.prog 19 [.one (PV.v (.string s))] [] [.one (.sl true 4 (pvE (tabL s))), .one (.v (.bool ((zBq s).isSome)))] := by
 refine zAR func19 rfl rfl rfl rfl ?_
 refine zAB (zAA rfl (.a rfl rfl (.a rfl rfl .nil)) ?_)
 refine zAB (zAA rfl (.m rfl rfl (.run [800, 801, 802, 803, 804, 805, 806, 807, 808, 809] [] rfl (zCX (.inr rfl) rfl 800 (X := []) en41 rfl (.val nod) (.cons (.one (.bor .v)) .nil) (by decide) all_nil .nil (zIF ht s _ _ _ _ _ _ _ _ _ (show zBO s = ⟨(zBO s).list, ⟨(zBO s).shp.every, (zBO s).shp.size, (zBO s).shp.kind⟩, ⟨(zBO s).flt.kind, (zBO s).flt.seed, (zBO s).flt.probes, (zBO s).flt.bits⟩, (zBO s).regs⟩ from rfl) (by omega)) rfl rfl (nle rfl)) (.m rfl rfl (.r rfl (zAH rfl rfl rfl) (.r rfl (zAH rfl rfl rfl) (.run [] [4] rfl (zBA rfl 4 zFx rfl (by decide) rfl (by decide)) (.r rfl (zAN rfl rfl rfl rfl rfl sizeOf74 rfl (nle rfl)) (.a rfl rfl .nil)))))))) ?_)
 refine zAB ?_
 refine zAB (zAA rfl (.m rfl rfl (.r rfl (zAa (b := zDJ s) rfl rfl) .nil)) ?_)
 refine zAT (t := (!(zDJ s))) rfl (fun h1 => ?_) (fun h1 => ?_)
 ·
  replace h1 : (zDJ s) = false := zAm h1
  refine zAB ?_
  refine zAO (s' := mk [] [] []) ?_ ?_
  · exact zAJ trivial trivial trivial rfl
  have hz := zIG h1
  rw [zD6 hz, hz]
  refine zAA rfl (.a rfl rfl (.a rfl rfl .nil)) ?_
  refine zAI ?_
  exact ends [_, _] [] (.cons (.tmp rfl) (.cons (.tmp rfl) .nil)) (.cons (.one (.nil _) (.sl _ _ (fun _ h => nomatch h))) (.cons (.one .v (.v _)) .nil)) (by decide) trivial
 ·
  replace h1 : (zDJ s) = true := zAn h1
  refine zAK ?_
  refine zAB ?_
  refine zAO (s' := mk [(4, .ptr 4 0)] [(4, [.sl 800 0 ((pvE ((zBO s).list)).length), .vi ((zBO s).shp.every), .vi ((zBO s).shp.size), .vi ((zBO s).shp.kind), .vi ((zBO s).flt.kind), .vi ((zBO s).flt.seed), .vi ((zBO s).flt.probes), .vs ((zBO s).flt.bits), .vs ((zBO s).regs)])] [(800, 4, pvE ((zBO s).list))]) ?_ ?_
  · exact zAJ ⟨rfl, trivial⟩ ⟨rfl, trivial⟩ ⟨rfl, trivial⟩ rfl
  have hz := zI7 h1
  rw [hz.1, hz.2.1]
  refine zAA rfl (.r rfl (zAC rfl rfl underlying74 rfl sizeOf28 (by decide)) (.r rfl (zAD rfl rfl rfl isAgg28 rfl) (.a rfl rfl (.a rfl rfl .nil)))) ?_
  refine zAI ?_
  exact ends [_, _] [800] (.cons (.tmp rfl) (.cons (.tmp rfl) .nil)) (.cons (.one (.row (len := (pvE ((zBO s).list)).length) (xs := pvE ((zBO s).list)) rfl rfl) (.sl _ _ (FlatP.clean (zCf _)))) (.cons (.one .v (.v _)) .nil)) (by decide) trivial
theorem zIj {γ : Gho} (ht : TabG γ) (s u : ByteArray) (p : Int) (hs : s.size ≤ 9000000000000000000) : ConG γ Tryd.prog 14 [.one (PV.v (.string s)), .one (PV.v (.string u)), .one (PV.v (.int .i64 p))] [] [.one (.v (.int .i64 (tgC s u p))), .one (.v (.string (tgV s u p)))] := by
 refine zAR func14 rfl rfl rfl rfl ?_
 refine zAB (zAA rfl (.a rfl rfl (.a rfl rfl .nil)) ?_)
 refine zAB (zAA rfl (.m rfl rfl (.run [1200, 1201, 1202, 1203, 1204, 1205, 1206, 1207, 1208, 1209] [] rfl (zCX (.inr rfl) rfl 1200 (X := []) en41 rfl (.val nod) (.cons (.one (.bor .v)) .nil) (by decide) all_nil .nil (zIF ht s _ _ _ _ _ _ _ _ _ (show zBO s = ⟨(zBO s).list, ⟨(zBO s).shp.every, (zBO s).shp.size, (zBO s).shp.kind⟩, ⟨(zBO s).flt.kind, (zBO s).flt.seed, (zBO s).flt.probes, (zBO s).flt.bits⟩, (zBO s).regs⟩ from rfl) (by omega)) rfl rfl (nle rfl)) (.m rfl rfl (.r rfl (zAH rfl rfl rfl) (.r rfl (zAH rfl rfl rfl) (.run [] [8] rfl (zBA rfl 8 zFx rfl (by decide) rfl (by decide)) (.r rfl (zAN rfl rfl rfl rfl rfl sizeOf74 rfl (nle rfl)) (.a rfl rfl .nil)))))))) ?_)
 refine zAB ?_
 refine zAB (zAA rfl (.m rfl rfl (.r rfl (zAa (b := zDJ s) rfl rfl) .nil)) ?_)
 refine zAT (t := (!(zDJ s))) rfl (fun h1 => ?_) (fun h1 => ?_)
 ·
  replace h1 : (zDJ s) = false := zAm h1
  refine zAB ?_
  refine zAO (s' := mk [] [] []) ?_ ?_
  · exact zAJ trivial trivial trivial rfl
  have hz := zIG h1
  have hi : (zBq s).isSome = false := by rw [hz]; rfl
  rw [(zNs (u := u) (p := p) hi).1, (zNs (u := u) (p := p) hi).2]
  refine zAA rfl (.a rfl rfl (.a rfl rfl .nil)) ?_
  refine zAI ?_
  exact ends [_, _] [] (.cons (.tmp rfl) (.cons (.tmp rfl) .nil)) (.cons (.one .v (.v _)) (.cons (.one .v (.v _)) .nil)) (by decide) trivial
 ·
  replace h1 : (zDJ s) = true := zAn h1
  refine zAK ?_
  refine zAB ?_
  refine zAO (s' := mk [(1, .vs u), (2, .vi p), (8, .ptr 8 0)] [(8, [.sl 1200 0 ((pvE ((zBO s).list)).length), .vi ((zBO s).shp.every), .vi ((zBO s).shp.size), .vi ((zBO s).shp.kind), .vi ((zBO s).flt.kind), .vi ((zBO s).flt.seed), .vi ((zBO s).flt.probes), .vs ((zBO s).flt.bits), .vs ((zBO s).regs)])] [(1200, 4, pvE ((zBO s).list))]) ?_ ?_
  · exact zAJ ⟨rfl, rfl, rfl, trivial⟩ ⟨rfl, trivial⟩ ⟨rfl, trivial⟩ rfl
  have hz := zI7 h1
  have hzl := hz.2.2
  have hzv := zAf (zBO s).list
  rw [(zKe (u := u) (p := p) hz.2.1).1, (zKe (u := u) (p := p) hz.2.1).2, hz.1]
  refine zAA rfl (.r rfl (zAC rfl rfl underlying74 rfl sizeOf28 (by decide)) (.r rfl (zAD rfl rfl rfl isAgg28 rfl) (.m rfl rfl (.m rfl rfl (.run [1200, 2100, 2101] [] rfl (zAF rfl 2100 (X := []) en42 rfl (.val nod) (.cons (.one (.bor (.all (len := (pvE ((zBO s).list)).length) (xs := pvE ((zBO s).list)) rfl rfl (by decide)))) (.cons (.one (.bor .v)) (.cons (.one (.bor .v)) .nil))) (by decide) all_nil .nil (get_con ((zBO s).list) u p (by omega)) rfl rfl (nle rfl)) (.r rfl (zAH rfl rfl rfl) (.r rfl (zAH rfl rfl rfl) (.a rfl rfl (.a rfl rfl .nil))))))))) ?_
  refine zAI ?_
  exact ends [_, _] [] (.cons (.tmp rfl) (.cons (.tmp rfl) .nil)) (.cons (.one .v (.v _)) (.cons (.one .v (.v _)) .nil)) (by decide) trivial
theorem zHA {γ : Gho} (ht : TabG γ) (s : ByteArray) (hs : s.size ≤ 9000000000000000000) : ConG γ Tryd.prog 16 [.one (PV.v (.string s))] [] [.agg [.v (.int .i64 (tpS s).every), .v (.int .i64 (tpS s).size), .v (.int .i64 (tpS s).kind)], .one (.v (.int .i64 (tpN s))), .one (.v (.int .i64 (tpH s))), .one (.v (.bool ((zBq s).isSome)))] := by
 refine zAR func16 rfl rfl rfl rfl ?_
 refine zAB (zAA rfl (.run [] [2] rfl (zBA rfl 2 zDZ rfl (by decide) rfl (by decide)) (.a rfl rfl (.a rfl rfl (.a rfl rfl .nil)))) ?_)
 refine zAB (zAA rfl (.m rfl rfl (.run [1000, 1001, 1002, 1003, 1004, 1005, 1006, 1007, 1008, 1009] [] rfl (zCX (.inr rfl) rfl 1000 (X := []) en41 rfl (.val nod) (.cons (.one (.bor .v)) .nil) (by decide) all_nil .nil (zIF ht s _ _ _ _ _ _ _ _ _ (show zBO s = ⟨(zBO s).list, ⟨(zBO s).shp.every, (zBO s).shp.size, (zBO s).shp.kind⟩, ⟨(zBO s).flt.kind, (zBO s).flt.seed, (zBO s).flt.probes, (zBO s).flt.bits⟩, (zBO s).regs⟩ from rfl) (by omega)) rfl rfl (nle rfl)) (.m rfl rfl (.r rfl (zAH rfl rfl rfl) (.r rfl (zAH rfl rfl rfl) (.run [] [6] rfl (zBA rfl 6 zFx rfl (by decide) rfl (by decide)) (.r rfl (zAN rfl rfl rfl rfl rfl sizeOf74 rfl (nle rfl)) (.a rfl rfl .nil)))))))) ?_)
 refine zAB ?_
 refine zAB (zAA rfl (.m rfl rfl (.r rfl (zAa (b := zDJ s) rfl rfl) .nil)) ?_)
 refine zAT (t := (!(zDJ s))) rfl (fun h1 => ?_) (fun h1 => ?_)
 ·
  replace h1 : (zDJ s) = false := zAm h1
  refine zAB ?_
  refine zAO (s' := mk [(2, .ptr 2 0)] [(2, [.vi 0, .vi 0, .vi 0])] []) ?_ ?_
  · exact zAJ ⟨rfl, trivial⟩ ⟨rfl, trivial⟩ trivial rfl
  have hz0 := zIG h1
  have hi : (zBq s).isSome = false := by rw [hz0]; rfl
  have hz := tp_no hi
  rw [hz.1, hz.2.1, hz.2.2, hi]
  refine zAA rfl (.r rfl (zAw (pl := [(0, 1), (1, 1), (2, 1)]) rfl underlying30 zDZ (by kernel_rfl) rfl rfl) (.r rfl (zAN rfl rfl rfl rfl rfl sizeOf30 rfl (nle rfl)) (.a rfl rfl (.a rfl rfl (.a rfl rfl .nil))))) ?_
  refine zAI ?_
  exact ends [_, _, _, _] [] (.cons (.cell rfl rfl isAgg30 sizeOf30 (nle rfl)) (.cons (.tmp rfl) (.cons (.tmp rfl) (.cons (.tmp rfl) .nil)))) (.cons (.agg (.cons .v (.cons .v (.cons .v .nil))) (zAM (.v _) (zAM (.v _) (zAM (.v _) zBQ)))) (.cons (.one .v (.v _)) (.cons (.one .v (.v _)) (.cons (.one .v (.v _)) .nil)))) (by decide) trivial
 ·
  replace h1 : (zDJ s) = true := zAn h1
  refine zAK ?_
  refine zAB ?_
  refine zAO (s' := mk [(2, .ptr 2 0), (6, .ptr 6 0)] [(2, [.vi 0, .vi 0, .vi 0]), (6, [.sl 1000 0 ((pvE ((zBO s).list)).length), .vi ((zBO s).shp.every), .vi ((zBO s).shp.size), .vi ((zBO s).shp.kind), .vi ((zBO s).flt.kind), .vi ((zBO s).flt.seed), .vi ((zBO s).flt.probes), .vs ((zBO s).flt.bits), .vs ((zBO s).regs)])] [(1000, 4, pvE ((zBO s).list))]) ?_ ?_
  · exact zAJ ⟨rfl, rfl, trivial⟩ ⟨rfl, rfl, trivial⟩ ⟨rfl, trivial⟩ rfl
  have hz := zLq h1
  have hz5 := hz.2.2.2.2
  have hzv := zAf (zBO s).list
  rw [hz.1, hz.2.1, hz.2.2.1, hz.2.2.2.1]
  refine zAb zBh rfl (.r rfl (zAC rfl rfl underlying74 rfl sizeOf30 (by decide)) (.r rfl (zAZ rfl rfl rfl isAgg30 sizeOf30 (nle rfl)) (.r rfl (zAC rfl rfl underlying74 rfl sizeOf28 (by decide)) (.r rfl (zAD rfl rfl rfl isAgg28 rfl) (.r rfl (zAL (zB5 rfl rfl underlying28) ((zAE (congrArg Nat.cast hzv)))) (.r rfl (zAC rfl rfl underlying74 rfl sizeOf9 (by decide)) (.r rfl (zAD rfl rfl rfl isAgg9 rfl) (.run [2300] [] rfl (zAF rfl 2300 (X := []) en45 rfl (.val nod) (.cons (.one (.bor .v)) .nil) (by decide) all_nil .nil (zJK ((zBO s).regs) (by omega)) rfl rfl (nle rfl)) (.r rfl (zAN rfl rfl rfl rfl rfl sizeOf30 rfl (nle rfl)) (.a rfl rfl (.a rfl rfl (.a rfl rfl .nil)))))))))))) (by kernel_rfl) ?_
  refine zAI ?_
  exact ends [_, _, _, _] [] (.cons (.cell rfl rfl isAgg30 sizeOf30 (nle rfl)) (.cons (.tmp rfl) (.cons (.tmp rfl) (.cons (.tmp rfl) .nil)))) (.cons (.agg (.cons .v (.cons .v (.cons .v .nil))) (zAM (.v _) (zAM (.v _) (zAM (.v _) zBQ)))) (.cons (.one .v (.v _)) (.cons (.one .v (.v _)) (.cons (.one .v (.v _)) .nil)))) (by decide) trivial
theorem zFw {γ : Gho} (ht : TabG γ) (s u : ByteArray) (p : Int) (hs : s.size ≤ 9223372036854775807) (hu : u.size ≤ 9223372036854775807) : ConG γ Tryd.prog 4 [.one (PV.v (.string s)), .one (PV.v (.string u)), .one (PV.v (.int .i64 p))] [] [.one (.v (.bool true))] := by
 refine zAR func4 rfl rfl rfl rfl ?_
 refine zAB (zAA rfl (.a rfl rfl .nil) ?_)
 refine zAB ?_
 refine zAB (zAA rfl (.m rfl rfl (.r rfl (zAP rfl rfl underlying9) (.r rfl (zBE rfl rfl rfl) .nil))) ?_)
 refine zAT (t := decide (1048576 < (s.size : Int))) rfl (fun h1 => ?_) (fun h1 => ?_)
 ·
  replace h1 := of_decide_eq_true h1
  refine zAB (zAA rfl (.a rfl rfl .nil) ?_)
  refine zAI ?_
  exact ends [_] [] (.cons (.tmp rfl) .nil) (.cons (.one .v (.v _)) .nil) (by decide) trivial
 ·
  replace h1 := of_decide_eq_false h1
  refine zAK ?_
  refine zAB ?_
  refine zAB (zAA rfl (.m rfl rfl (.r rfl (zAP rfl rfl underlying9) (.r rfl (zBE rfl rfl rfl) .nil))) ?_)
  refine zAT (t := decide (1048576 < (u.size : Int))) rfl (fun h2 => ?_) (fun h2 => ?_)
  ·
   replace h2 := of_decide_eq_true h2
   refine zAB (zAA rfl (.a rfl rfl .nil) ?_)
   refine zAI ?_
   exact ends [_] [] (.cons (.tmp rfl) .nil) (.cons (.one .v (.v _)) .nil) (by decide) trivial
  ·
   replace h2 := of_decide_eq_false h2
   refine zAK ?_
   refine zAB (zAA rfl (.m rfl rfl (.m rfl rfl (.m rfl rfl (.run [2100, 2101] [] rfl (zAF rfl 2100 (X := []) en13 rfl (.val nod) (.cons (.one (.bor .v)) (.cons (.one (.bor .v)) (.cons (.one (.bor .v)) .nil))) (by decide) all_nil .nil (zH0 s u p (by omega)) rfl rfl (nle rfl)) (.m rfl rfl (.r rfl (zAH rfl rfl rfl) (.r rfl (zAH rfl rfl rfl) (.a rfl rfl (.a rfl rfl .nil))))))))) ?_)
   refine zAB ?_
   refine zAO (s' := mk [(0, .vs s), (1, .vs u), (2, .vi p), (7, .vi (tgC s u p)), (8, .vs (tgV s u p))] [] []) ?_ ?_
   · exact zAJ ⟨rfl, rfl, rfl, rfl, rfl, trivial⟩ trivial trivial rfl
   refine zAA rfl (.m rfl rfl (.m rfl rfl (.m rfl rfl (.run [2800, 2801] [] rfl (zCX (.inr rfl) rfl 2800 (X := []) en14 rfl (.val nod) (.cons (.one (.bor .v)) (.cons (.one (.bor .v)) (.cons (.one (.bor .v)) .nil))) (by decide) all_nil .nil (zIj ht s u p (by omega)) rfl rfl (nle rfl)) (.m rfl rfl (.r rfl (zAH rfl rfl rfl) (.r rfl (zAH rfl rfl rfl) (.a rfl rfl (.a rfl rfl .nil))))))))) ?_
   refine zAB ?_
   refine zAB ?_
   refine zAO (s' := mk [(7, .vi (tgC s u p)), (8, .vs (tgV s u p)), (9, .vi (tgC s u p)), (10, .vs (tgV s u p))] [] []) ?_ ?_
   · exact zAJ ⟨rfl, rfl, rfl, rfl, trivial⟩ trivial trivial rfl
   refine zAA rfl (.m rfl rfl (.m rfl rfl (.r rfl (zAL (zB2 rfl rfl rfl) (zAG (congrArg Bool.not (decide_eq_true (by simp))))) (.m rfl rfl (.m rfl rfl (.m rfl rfl (.r rfl (zAL (zCC rfl rfl rfl) (zAG (congrArg Bool.not (decide_eq_true (by simp))))) (.r rfl (zAg rfl rfl) .nil)))))))) ?_
   refine zAT (t := false) rfl (fun h => nomatch h) (fun _ => ?_)
   refine zAK ?_
   refine zAB (zAA rfl (.a rfl rfl .nil) ?_)
   refine zAI ?_
   exact ends [_] [] (.cons (.tmp rfl) .nil) (.cons (.one .v (.v _)) .nil) (by decide) trivial
theorem zKM (a b : Shp) : Con Tryd.prog 17 [.agg [PV.v (.int .i64 a.every), PV.v (.int .i64 a.size), PV.v (.int .i64 a.kind)], .agg [PV.v (.int .i64 b.every), PV.v (.int .i64 b.size), PV.v (.int .i64 b.kind)]] [] [.one (.v (.bool (decide (a = b))))] := by
 refine zAR func17 rfl rfl rfl rfl ?_
 refine zAB (zAA rfl (.run [] [2] rfl (zB9 rfl 2 rfl rfl (by decide) rfl (by decide)) (.run [] [3] rfl (zB9 rfl 3 rfl rfl (by decide) rfl (by decide)) (.a rfl rfl .nil))) ?_)
 refine zAB ?_
 refine zAB (zAA rfl (.r rfl (zAC rfl rfl underlying30 rfl sizeOf2 (by decide)) (.r rfl (zAD rfl rfl rfl isAgg2 rfl) (.r rfl (zAC rfl rfl underlying30 rfl sizeOf2 (by decide)) (.r rfl (zAD rfl rfl rfl isAgg2 rfl) (.r rfl (zB2 rfl rfl rfl) .nil))))) ?_)
 refine zAT (t := (!(decide (a.every = b.every)))) rfl (fun h1 => ?_) (fun h1 => ?_)
 ·
  replace h1 : ¬ (a.every = b.every) := of_decide_eq_false (zAm h1)
  refine zAB (zAA rfl (.a rfl rfl .nil) ?_)
  refine zAI ?_
  exact ends [_] [] (.cons (.tmp (zAG (decide_eq_false (fun h => h1 (by subst h; rfl))).symm)) .nil) (.cons (.one .v (.v _)) .nil) (by decide) trivial
 ·
  replace h1 : a.every = b.every := of_decide_eq_true (zAn h1)
  refine zAK ?_
  refine zAB ?_
  refine zAB (zAA rfl (.r rfl (zAC rfl rfl underlying30 rfl sizeOf2 (by decide)) (.r rfl (zAD rfl rfl rfl isAgg2 rfl) (.r rfl (zAC rfl rfl underlying30 rfl sizeOf2 (by decide)) (.r rfl (zAD rfl rfl rfl isAgg2 rfl) (.r rfl (zB2 rfl rfl rfl) .nil))))) ?_)
  refine zAT (t := (!(decide (a.size = b.size)))) rfl (fun h2 => ?_) (fun h2 => ?_)
  ·
   replace h2 : ¬ (a.size = b.size) := of_decide_eq_false (zAm h2)
   refine zAB (zAA rfl (.a rfl rfl .nil) ?_)
   refine zAI ?_
   exact ends [_] [] (.cons (.tmp (zAG (decide_eq_false (fun h => h2 (by subst h; rfl))).symm)) .nil) (.cons (.one .v (.v _)) .nil) (by decide) trivial
  ·
   replace h2 : a.size = b.size := of_decide_eq_true (zAn h2)
   refine zAK ?_
   refine zAB ?_
   refine zAB ?_
   refine zAO (s' := mk [(2, .ptr 2 0), (3, .ptr 3 0)] [(2, [.vi a.every, .vi a.size, .vi a.kind]), (3, [.vi b.every, .vi b.size, .vi b.kind])] []) ?_ ?_
   · exact zAJ ⟨rfl, rfl, trivial⟩ ⟨rfl, rfl, trivial⟩ trivial rfl
   refine zAA rfl (.r rfl (zAC rfl rfl underlying30 rfl sizeOf2 (by decide)) (.r rfl (zAD rfl rfl rfl isAgg2 rfl) (.r rfl (zAC rfl rfl underlying30 rfl sizeOf2 (by decide)) (.r rfl (zAD rfl rfl rfl isAgg2 rfl) (.r rfl (zB2 rfl rfl rfl) .nil))))) ?_
   refine zAT (t := (!(decide (a.kind = b.kind)))) rfl (fun h3 => ?_) (fun h3 => ?_)
   ·
    replace h3 : ¬ (a.kind = b.kind) := of_decide_eq_false (zAm h3)
    refine zAB (zAA rfl (.a rfl rfl .nil) ?_)
    refine zAI ?_
    exact ends [_] [] (.cons (.tmp (zAG (decide_eq_false (fun h => h3 (by subst h; rfl))).symm)) .nil) (.cons (.one .v (.v _)) .nil) (by decide) trivial
   ·
    replace h3 : a.kind = b.kind := of_decide_eq_true (zAn h3)
    refine zAK ?_
    refine zAB (zAA rfl (.a rfl rfl .nil) ?_)
    refine zAI ?_
    exact ends [_] [] (.cons (.tmp (zAG (decide_eq_true (by cases a; cases b; simp_all)).symm)) .nil) (.cons (.one .v (.v _)) .nil) (by decide) trivial
theorem zFI {γ : Gho} (ht : TabG γ) (s : ByteArray) (hs : s.size ≤ 9223372036854775807) : ConG γ Tryd.prog 5 [.one (PV.v (.string s))] [] [.one (.v (.bool true))] := by
 refine zAR func5 rfl rfl rfl rfl ?_
 refine zAB (zAA rfl (.a rfl rfl .nil) ?_)
 refine zAB ?_
 refine zAB (zAA rfl (.m rfl rfl (.r rfl (zAP rfl rfl underlying9) (.r rfl (zBE rfl rfl rfl) .nil))) ?_)
 refine zAT (t := decide (1048576 < (s.size : Int))) rfl (fun h1 => ?_) (fun h1 => ?_)
 ·
  replace h1 := of_decide_eq_true h1
  refine zAB (zAA rfl (.a rfl rfl .nil) ?_)
  refine zAI ?_
  exact ends [_] [] (.cons (.tmp rfl) .nil) (.cons (.one .v (.v _)) .nil) (by decide) trivial
 ·
  replace h1 := of_decide_eq_false h1
  refine zAK ?_
  refine zAB (zAA rfl (.m rfl rfl (.run [1600, 1601, 1602, 1603, 1604, 1605] [] rfl (zAF rfl 1600 (X := []) en15 rfl (.val nod) (.cons (.one (.bor .v)) .nil) (by decide) all_nil .nil (zGQ s (by omega)) rfl rfl (nle rfl)) (.m rfl rfl (.r rfl (zAH rfl rfl rfl) (.r rfl (zAH rfl rfl rfl) (.r rfl (zAH rfl rfl rfl) (.r rfl (zAH rfl rfl rfl) (.run [] [3] rfl (zBA rfl 3 zDZ rfl (by decide) rfl (by decide)) (.r rfl (zAN rfl rfl rfl rfl rfl sizeOf30 rfl (nle rfl)) (.a rfl rfl (.a rfl rfl (.a rfl rfl .nil)))))))))))) ?_)
  refine zAB ?_
  refine zAO (s' := mk [(0, .vs s), (3, .ptr 3 0), (4, .vi (tpN s)), (5, .vi (tpH s)), (6, .vb ((zBq s).isSome))] [(3, [.vi ((tpS s).every), .vi ((tpS s).size), .vi ((tpS s).kind)])] []) ?_ ?_
  · exact zAJ ⟨rfl, rfl, rfl, rfl, rfl, trivial⟩ ⟨rfl, trivial⟩ trivial rfl
  refine zAA rfl (.m rfl rfl (.run [2300, 2301, 2302, 2303, 2304, 2305] [] rfl (zCX (.inr rfl) rfl 2300 (X := []) en16 rfl (.val nod) (.cons (.one (.bor .v)) .nil) (by decide) all_nil .nil (zHA ht s (by omega)) rfl rfl (nle rfl)) (.m rfl rfl (.r rfl (zAH rfl rfl rfl) (.r rfl (zAH rfl rfl rfl) (.r rfl (zAH rfl rfl rfl) (.r rfl (zAH rfl rfl rfl) (.run [] [7] rfl (zBA rfl 7 zDZ rfl (by decide) rfl (by decide)) (.r rfl (zAN rfl rfl rfl rfl rfl sizeOf30 rfl (nle rfl)) (.a rfl rfl (.a rfl rfl (.a rfl rfl .nil)))))))))))) ?_
  refine zAB ?_
  refine zAB ?_
  refine zAO (s' := mk [(3, .ptr 3 0), (4, .vi (tpN s)), (5, .vi (tpH s)), (6, .vb ((zBq s).isSome)), (7, .ptr 7 0), (8, .vi (tpN s)), (9, .vi (tpH s)), (10, .vb ((zBq s).isSome))] [(3, [.vi ((tpS s).every), .vi ((tpS s).size), .vi ((tpS s).kind)]), (7, [.vi ((tpS s).every), .vi ((tpS s).size), .vi ((tpS s).kind)])] []) ?_ ?_
  · exact zAJ ⟨rfl, rfl, rfl, rfl, rfl, rfl, rfl, rfl, trivial⟩ ⟨rfl, rfl, trivial⟩ trivial rfl
  refine zAA rfl (.r rfl (zAZ rfl rfl rfl isAgg30 sizeOf30 (nle rfl)) (.r rfl (zAZ rfl rfl rfl isAgg30 sizeOf30 (nle rfl)) (.run [3000] [] rfl (zAL (zAF rfl 3000 (X := []) en17 rfl (.val nod) (.cons (.agg (.cons (.bor .v) (.cons (.bor .v) (.cons (.bor .v) .nil)))) (.cons (.agg (.cons (.bor .v) (.cons (.bor .v) (.cons (.bor .v) .nil)))) .nil)) (by decide) all_nil .nil (zKM (tpS s) (tpS s)) rfl rfl (nle rfl)) (zAG (decide_eq_true (by simp)))) (.r rfl (zAa (b := true) rfl rfl) (.m rfl rfl (.m rfl rfl (.m rfl rfl (.r rfl (zAL (zB2 rfl rfl rfl) (zAG (congrArg Bool.not (decide_eq_true (by simp))))) (.r rfl (zAg rfl rfl) (.m rfl rfl (.m rfl rfl (.m rfl rfl (.r rfl (zAL (zB2 rfl rfl rfl) (zAG (congrArg Bool.not (decide_eq_true (by simp))))) (.r rfl (zAg rfl rfl) (.m rfl rfl (.m rfl rfl (.m rfl rfl (.r rfl (zAL (zJz rfl rfl rfl underlying4) (zAG (show (!(((zBq s).isSome) == ((zBq s).isSome))) = false from by simp))) (.r rfl (zAg rfl rfl) .nil))))))))))))))))))) ?_
  refine zAT (t := false) rfl (fun h => nomatch h) (fun _ => ?_)
  refine zAK ?_
  refine zAB ?_
  refine zAO (s' := mk [] [] []) ?_ ?_
  · exact zAJ trivial trivial trivial rfl
  refine zAA rfl (.a rfl rfl .nil) ?_
  refine zAI ?_
  exact ends [_] [] (.cons (.tmp rfl) .nil) (.cons (.one .v (.v _)) .nil) (by decide) trivial
theorem zHG (l : List Ent) (k : Nat) (hk : k + 4 * l.length ≤ 1099511627776) : Con Tryd.prog 21 [.one (PV.sl false 4 (pvE l)), .one (PV.v (.int .i64 (k:Int)))] [] [.one (.v (.int .i64 (zJL zCs 4 k l)))] := by
 refine zAR func21 rfl rfl rfl rfl ?_
 have hle := zAf l
 refine zAB (zAA rfl (.a rfl rfl .nil) ?_)
 refine zAB ?_
 refine zAB (zAA rfl (.a rfl rfl .nil) ?_)
 refine zAS ?_
 refine zAj (σ := Nat) (fun i => mk [(0, .p none (.sl false 4 (pvE l))), (1, .vi ((k + 4 * i : Nat) : Int)), (5, .vi (i:Int))] [] []) (fun i => i ≤ l.length ∧ ∀ j (e : Ent), j < i → l[j]? = some e → e = zCs k j) (fun i => l.length - i) 0 ⟨Nat.zero_le _, fun _ _ h => absurd h (Nat.not_lt_zero _)⟩ (zAJ ⟨rfl, (zAE (by omega)), (zAE (by omega)), trivial⟩ trivial trivial rfl) ?_
 rintro i hG
 replace hG : i ≤ l.length ∧ ∀ j (e : Ent), j < i → l[j]? = some e → e = zCs k j := hG
 obtain ⟨hi, hG⟩ := hG
 refine zAB ?_
 refine zAB (zAA rfl (.m rfl rfl (.m rfl rfl (.r rfl (zAp rfl rfl underlying28) (.r rfl (zAt rfl rfl rfl) .nil)))) ?_)
 refine zAT (t := decide ((i:Int) < ((pvE l).length : Int))) rfl (fun h1 => ?_) (fun h1 => ?_)
 ·
  replace h1 := of_decide_eq_true h1
  refine zAK ?_
  refine zAB ?_
  refine zAS ?_
  refine zAB ?_
  refine zAB ?_
  obtain ⟨e, he⟩ : ∃ e, l[i]? = some e := ⟨_, List.getElem?_eq_getElem (by (have hL := zAf l; omega))⟩
  have hlte := (List.getElem?_eq_some_iff.1 he).1
  refine zAb zBh rfl (.m rfl rfl (.m rfl rfl (.r rfl (zAq rfl rfl rfl underlying28 sizeOf58 rfl (by omega) (zBZ he)) (.r rfl (zAk rfl rfl underlying58 rfl sizeOf56 (by decide)) (.r rfl (zAk rfl rfl underlying56 rfl sizeOf9 (by decide)) (.r rfl (zAx rfl rfl isAgg9 rfl) (.m rfl rfl (.run [1900] [] rfl (zAF rfl 1900 (X := []) en49 rfl (.val nod) (.cons (.one (.bor .v)) .nil) (by decide) all_nil .nil (zDg (k + 4 * i) (by omega)) rfl rfl (nle rfl)) (.r rfl (zCC rfl rfl rfl) .nil))))))))) (by kernel_rfl) ?_
  refine zAT (t := (!(decide (e.user = (zCr (k + 4 * i)))))) rfl (fun h2 => ?_) (fun h2 => ?_)
  ·
   replace h2 : ¬ (e.user = (zCr (k + 4 * i))) := of_decide_eq_false (zAm h2)
   refine zAB (zAA rfl (.a rfl rfl .nil) ?_)
   refine zAI ?_
   exact ends [_] [] (.cons (.tmp (zAE (by rw [zJL, if_neg (zF7 he (fun h => h2 (congrArg Ent.user h)))]))) .nil) (.cons (.one .v (.v _)) .nil) (by decide) trivial
  ·
   replace h2 : e.user = (zCr (k + 4 * i)) := of_decide_eq_true (zAn h2)
   refine zAK ?_
   refine zAB (zAA rfl (.m rfl rfl (.r rfl (zAW rfl rfl rfl (by omega)) (.a rfl rfl .nil))) ?_)
   refine zAB ?_
   refine zAB ?_
   refine zAO (s' := mk [(0, .p none (.sl false 4 (pvE l))), (1, .vi (((k + 4 * i : Nat) : Int) + 1)), (5, .vi (i:Int))] [] []) ?_ ?_
   · exact zAJ ⟨rfl, rfl, rfl, trivial⟩ trivial trivial rfl
   refine zAA rfl (.m rfl rfl (.m rfl rfl (.r rfl (zAq rfl rfl rfl underlying28 sizeOf58 rfl (by omega) (zBZ he)) (.r rfl (zAk rfl rfl underlying58 rfl sizeOf56 (by decide)) (.r rfl (zAk rfl rfl underlying56 rfl sizeOf2 (by decide)) (.r rfl (zAx rfl rfl isAgg2 rfl) (.m rfl rfl (.r rfl (zB2 rfl rfl rfl) .nil)))))))) ?_
   refine zAT (t := (!(decide (e.seq = (((k + 4 * i : Nat) : Int) + 1))))) rfl (fun h3 => ?_) (fun h3 => ?_)
   ·
    replace h3 : ¬ (e.seq = (((k + 4 * i : Nat) : Int) + 1)) := of_decide_eq_false (zAm h3)
    refine zAB (zAA rfl (.a rfl rfl .nil) ?_)
    refine zAI ?_
    exact ends [_] [] (.cons (.tmp (zAE (by rw [zJL, if_neg (zF7 he (fun h => h3 (congrArg Ent.seq h)))]))) .nil) (.cons (.one .v (.v _)) .nil) (by decide) trivial
   ·
    replace h3 : e.seq = (((k + 4 * i : Nat) : Int) + 1) := of_decide_eq_true (zAn h3)
    refine zAK ?_
    refine zAB (zAA rfl (.m rfl rfl (.r rfl (zAW rfl rfl rfl (by omega)) (.a rfl rfl .nil))) ?_)
    refine zAB ?_
    refine zAB ?_
    refine zAO (s' := mk [(0, .p none (.sl false 4 (pvE l))), (1, .vi ((((k + 4 * i : Nat) : Int) + 1) + 1)), (5, .vi (i:Int))] [] []) ?_ ?_
    · exact zAJ ⟨rfl, rfl, rfl, trivial⟩ trivial trivial rfl
    refine zAA rfl (.m rfl rfl (.m rfl rfl (.r rfl (zAq rfl rfl rfl underlying28 sizeOf58 rfl (by omega) (zBZ he)) (.r rfl (zAk rfl rfl underlying58 rfl sizeOf56 (by decide)) (.r rfl (zAk rfl rfl underlying56 rfl sizeOf2 (by decide)) (.r rfl (zAx rfl rfl isAgg2 rfl) (.m rfl rfl (.r rfl (zB2 rfl rfl rfl) .nil)))))))) ?_
    refine zAT (t := (!(decide (e.kind = ((((k + 4 * i : Nat) : Int) + 1) + 1))))) rfl (fun h4 => ?_) (fun h4 => ?_)
    ·
     replace h4 : ¬ (e.kind = ((((k + 4 * i : Nat) : Int) + 1) + 1)) := of_decide_eq_false (zAm h4)
     refine zAB (zAA rfl (.a rfl rfl .nil) ?_)
     refine zAI ?_
     exact ends [_] [] (.cons (.tmp (zAE (by rw [zJL, if_neg (zF7 he (fun h => h4 (congrArg Ent.kind h)))]))) .nil) (.cons (.one .v (.v _)) .nil) (by decide) trivial
    ·
     replace h4 : e.kind = ((((k + 4 * i : Nat) : Int) + 1) + 1) := of_decide_eq_true (zAn h4)
     refine zAK ?_
     refine zAB (zAA rfl (.m rfl rfl (.r rfl (zAL (zAW rfl rfl rfl (by omega)) ((show (AV.p none (.v (.int .i64 (((k + 4 * i : Nat) : Int) + 1 + 1 + 1)))) = AV.p none (.v (.int .i64 ((k + 4 * i + 3 : Nat) : Int))) from zAE (by omega)))) (.a rfl rfl .nil))) ?_)
     refine zAB ?_
     refine zAB ?_
     refine zAO (s' := mk [(0, .p none (.sl false 4 (pvE l))), (1, .vi ((k + 4 * i + 3 : Nat) : Int)), (5, .vi (i:Int))] [] []) ?_ ?_
     · exact zAJ ⟨rfl, rfl, rfl, trivial⟩ trivial trivial rfl
     refine zAb zBh rfl (.m rfl rfl (.m rfl rfl (.r rfl (zAq rfl rfl rfl underlying28 sizeOf58 rfl (by omega) (zBZ he)) (.r rfl (zAk rfl rfl underlying58 rfl sizeOf9 (by decide)) (.r rfl (zAx rfl rfl isAgg9 rfl) (.m rfl rfl (.run [4900] [] rfl (zAF rfl 4900 (X := []) en49 rfl (.val nod) (.cons (.one (.bor .v)) .nil) (by decide) all_nil .nil (zDg (k + 4 * i + 3) (by omega)) rfl rfl (nle rfl)) (.r rfl (zCC rfl rfl rfl) .nil)))))))) (by kernel_rfl) ?_
     refine zAT (t := (!(decide (e.value = (zCr (k + 4 * i + 3)))))) rfl (fun h5 => ?_) (fun h5 => ?_)
     ·
      replace h5 : ¬ (e.value = (zCr (k + 4 * i + 3))) := of_decide_eq_false (zAm h5)
      refine zAB (zAA rfl (.a rfl rfl .nil) ?_)
      refine zAI ?_
      exact ends [_] [] (.cons (.tmp (zAE (by rw [zJL, if_neg (zF7 he (fun h => h5 (congrArg Ent.value h)))]))) .nil) (.cons (.one .v (.v _)) .nil) (by decide) trivial
     ·
      replace h5 : e.value = (zCr (k + 4 * i + 3)) := of_decide_eq_true (zAn h5)
      refine zAK ?_
      refine zAA rfl (.m rfl rfl (.r rfl (zAW rfl rfl rfl (by omega)) (.a rfl rfl .nil))) ?_
      refine zAA rfl (.m rfl rfl (.r rfl (zAW rfl rfl rfl (by omega)) (.a rfl rfl .nil))) ?_
      refine nxt (Q := fun _ _ => False) (z := i) (i + 1) ?_ ?_ ?_
      ·
       show (i + 1) ≤ l.length ∧ ∀ j (e : Ent), j < (i + 1) → l[j]? = some e → e = zCs k j
       exact ⟨by omega, zLy hG he (zMx h2 h3 h4 h5)⟩
      ·
       show l.length - (i + 1) < l.length - i
       omega
      · exact zAJ ⟨rfl, (zAE (by omega)), (zAE (by omega)), trivial⟩ trivial trivial rfl
 ·
  replace h1 := of_decide_eq_false h1
  refine zAi ?_
  refine zAB (zAA rfl (.m rfl rfl (.a rfl rfl .nil)) ?_)
  refine zAI ?_
  exact ends [_] [] (.cons (.tmp (zAE (by rw [zJL, if_pos (zNF (by omega) hG)]; omega))) .nil) (.cons (.one .v (.v _)) .nil) (by decide) trivial
theorem zHi (k n : Nat) (hk : k + 4 * n ≤ 1099511627776) : Con Tryd.prog 21 [.one (PV.sl false 4 (pvE (zBr zCs k n))), .one (.v (.int .i64 (k:Int)))] [] [.one (.v (.int .i64 ((k + 4 * n : Nat) : Int)))] := by
 have := zHG (zBr zCs k n) k (by rw [zGu]; exact hk)
 rwa [zLz] at this
theorem zFZ {γ : Gho} (ht : TabG γ) (s : ByteArray) (hs : s.size ≤ 9223372036854775807) : ConG γ Tryd.prog 6 [.one (PV.v (.string s))] [] [.one (.v (.bool true))] := by
 refine zAR func6 rfl rfl rfl rfl ?_
 refine zAB (zAA rfl (.a rfl rfl .nil) ?_)
 refine zAB ?_
 refine zAB (zAA rfl (.m rfl rfl (.r rfl (zAP rfl rfl underlying9) (.r rfl (zBE rfl rfl rfl) .nil))) ?_)
 refine zAT (t := decide (1048576 < (s.size : Int))) rfl (fun h1 => ?_) (fun h1 => ?_)
 ·
  replace h1 := of_decide_eq_true h1
  refine zAB (zAA rfl (.a rfl rfl .nil) ?_)
  refine zAI ?_
  exact ends [_] [] (.cons (.tmp rfl) .nil) (.cons (.one .v (.v _)) .nil) (by decide) trivial
 ·
  replace h1 := of_decide_eq_false h1
  refine zAK ?_
  refine zAB (zAA rfl (.m rfl rfl (.run [1600, 1601] [] rfl (zAF rfl 1600 (X := []) en18 rfl (.val nod) (.cons (.one (.bor .v)) .nil) (by decide) all_nil .nil (zDk s (by omega)) rfl rfl (nle rfl)) (.m rfl rfl (.r rfl (zAH rfl rfl rfl) (.r rfl (zAH rfl rfl rfl) (.a rfl rfl (.a rfl rfl .nil))))))) ?_)
  refine zAB ?_
  refine zAO (s' := mk [(0, .vs s), (3, .sl 1600 0 ((pvE (tabL s)).length)), (4, .vb ((zBq s).isSome))] [] [(1600, 4, pvE (tabL s))]) ?_ ?_
  · exact zAJ ⟨rfl, rfl, rfl, trivial⟩ trivial ⟨rfl, trivial⟩ rfl
  refine zAA rfl (.m rfl rfl (.run [2100, 2101] [] rfl (zCX (.inr rfl) rfl 2100 (X := []) en19 rfl (.val nod) (.cons (.one (.bor .v)) .nil) (by decide) all_nil .nil (zFC ht s (by omega)) rfl rfl (nle rfl)) (.m rfl rfl (.r rfl (zAH rfl rfl rfl) (.r rfl (zAH rfl rfl rfl) (.a rfl rfl (.a rfl rfl .nil))))))) ?_
  refine zAB ?_
  refine zAB ?_
  have htl := zKh s
  have htv := zAf (tabL s)
  refine zAA rfl (.m rfl rfl (.m rfl rfl (.run [1600, 2100, 2600] [] rfl (zAF rfl 2600 (X := []) en12 rfl (.val nod) (.cons (.one (.bor (.all (len := (pvE (tabL s)).length) (xs := pvE (tabL s)) rfl rfl (by decide)))) (.cons (.one (.bor (.all (len := (pvE (tabL s)).length) (xs := pvE (tabL s)) rfl rfl (by decide)))) .nil)) (by decide) all_nil .nil (zLL (tabL s) (by omega)) rfl rfl (nle rfl)) (.r rfl (zAa (b := true) rfl rfl) (.m rfl rfl (.m rfl rfl (.m rfl rfl (.r rfl (zAL (zJz rfl rfl rfl underlying4) (zAG (show (!(((zBq s).isSome) == ((zBq s).isSome))) = false from by simp))) (.r rfl (zAg rfl rfl) .nil))))))))) ?_
  refine zAT (t := false) rfl (fun h => nomatch h) (fun _ => ?_)
  refine zAK ?_
  refine zAB ?_
  refine zAO (s' := mk [(0, .vs s), (3, .sl 1600 0 ((pvE (tabL s)).length)), (4, .vb ((zBq s).isSome)), (5, .sl 2100 0 ((pvE (tabL s)).length))] [] [(1600, 4, pvE (tabL s)), (2100, 4, pvE (tabL s))]) ?_ ?_
  · exact zAJ ⟨rfl, rfl, rfl, rfl, trivial⟩ trivial ⟨rfl, rfl, trivial⟩ rfl
  refine zAA rfl (.a rfl rfl .nil) ?_
  refine zAB (zAA rfl (.m rfl rfl (.m rfl rfl (.run [2100, 3500] [] rfl (zAF rfl 3500 (X := [2100]) en20 rfl (.val nod) (.cons (.one (.own (len := (pvE (tabL s)).length) (xs := pvE (tabL s)) rfl rfl)) (.cons (.one (.bor .v)) .nil)) (by decide) (all_cons rfl all_nil) (.keep (xs := pvE (tabL s)) rfl (FlatP.nf (zCf _)) .nil) (zHE (tabL s) 1 (by omega)) rfl rfl (nle rfl)) (.a rfl rfl .nil)))) ?_)
  have hr2 : pvE (zBr zCs 1 (tabL s).length) = pvE (zBr zCs 1 (tabL s).length) := by rfl
  have hl3 : (pvE (tabL s)).length = (pvE (zBr zCs 1 (tabL s).length)).length := by first | (rw [← hr2, List.length_set]; done) | simp [zAf, zGu]
  have hp4 : (.sl 2100 0 ((pvE (tabL s)).length) : AV) = .sl 2100 0 ((pvE (zBr zCs 1 (tabL s).length)).length) := by first | exact congrArg (AV.sl 2100 0) hl3 | simp only [hr2, hl3]
  refine zAO (s' := mk [(0, .vs s), (3, .sl 1600 0 ((pvE (tabL s)).length)), (4, .vb ((zBq s).isSome)), (5, .sl 2100 0 ((pvE (zBr zCs 1 (tabL s).length)).length)), (7, .vi ((1 + 4 * (tabL s).length : Nat) : Int))] [] [(1600, 4, pvE (tabL s)), (2100, 4, pvE (zBr zCs 1 (tabL s).length))]) ?_ ?_
  · exact zAJ ⟨rfl, rfl, rfl, hp4, rfl, trivial⟩ trivial ⟨rfl, (congrArg (fun x => some (4, x)) hr2), trivial⟩ rfl
  refine zAB (zAA rfl (.a rfl rfl .nil) ?_)
  refine zAB (zAA rfl (.m rfl rfl (.m rfl rfl (.run [2100, 3800] [] rfl (zAF rfl 3800 (X := []) en21 rfl (.val nod) (.cons (.one (.bor (.all (len := (pvE (zBr zCs 1 (tabL s).length)).length) (xs := pvE (zBr zCs 1 (tabL s).length)) rfl rfl (by decide)))) (.cons (.one (.bor .v)) .nil)) (by decide) all_nil .nil (zHi 1 (tabL s).length (by omega)) rfl rfl (nle rfl)) (.a rfl rfl .nil)))) ?_)
  refine zAB ?_
  refine zAB (zAA rfl (.m rfl rfl (.r rfl (zAL (zAt rfl rfl rfl) (zAG (decide_eq_false (by omega)))) .nil)) ?_)
  refine zAT (t := false) rfl (fun h => nomatch h) (fun _ => ?_)
  refine zAK ?_
  refine zAB ?_
  refine zAB (zAA rfl (.m rfl rfl (.m rfl rfl (.r rfl (zAL (zB2 rfl rfl rfl) (zAG (congrArg Bool.not (decide_eq_true (by simp))))) .nil))) ?_)
  refine zAT (t := false) rfl (fun h => nomatch h) (fun _ => ?_)
  refine zAK ?_
  refine zAB ?_
  refine zAO (s' := mk [(0, .vs s), (3, .sl 1600 0 ((pvE (tabL s)).length)), (4, .vb ((zBq s).isSome)), (5, .sl 2100 0 ((pvE (zBr zCs 1 (tabL s).length)).length)), (7, .vi ((1 + 4 * (tabL s).length : Nat) : Int))] [] [(1600, 4, pvE (tabL s)), (2100, 4, pvE (zBr zCs 1 (tabL s).length))]) ?_ ?_
  · exact zAJ ⟨rfl, rfl, rfl, rfl, rfl, trivial⟩ trivial ⟨rfl, rfl, trivial⟩ rfl
  refine zAA rfl (.m rfl rfl (.run [4600, 4601] [] rfl (zCX (.inr rfl) rfl 4600 (X := []) en19 rfl (.val nod) (.cons (.one (.bor .v)) .nil) (by decide) all_nil .nil (zFC ht s (by omega)) rfl rfl (nle rfl)) (.m rfl rfl (.r rfl (zAH rfl rfl rfl) (.r rfl (zAH rfl rfl rfl) (.a rfl rfl (.a rfl rfl .nil))))))) ?_
  refine zAB ?_
  refine zAB (zAA rfl (.m rfl rfl (.m rfl rfl (.run [1600, 4600, 5100] [] rfl (zAF rfl 5100 (X := []) en12 rfl (.val nod) (.cons (.one (.bor (.all (len := (pvE (tabL s)).length) (xs := pvE (tabL s)) rfl rfl (by decide)))) (.cons (.one (.bor (.all (len := (pvE (tabL s)).length) (xs := pvE (tabL s)) rfl rfl (by decide)))) .nil)) (by decide) all_nil .nil (zLL (tabL s) (by omega)) rfl rfl (nle rfl)) (.r rfl (zAa (b := true) rfl rfl) (.m rfl rfl (.m rfl rfl (.m rfl rfl (.r rfl (zAL (zJz rfl rfl rfl underlying4) (zAG (show (!(((zBq s).isSome) == ((zBq s).isSome))) = false from by simp))) (.r rfl (zAg rfl rfl) .nil))))))))) ?_)
  refine zAT (t := false) rfl (fun h => nomatch h) (fun _ => ?_)
  refine zAK ?_
  refine zAB ?_
  refine zAO (s' := mk [(5, .sl 2100 0 ((pvE (zBr zCs 1 (tabL s).length)).length)), (7, .vi ((1 + 4 * (tabL s).length : Nat) : Int))] [] [(2100, 4, pvE (zBr zCs 1 (tabL s).length))]) ?_ ?_
  · exact zAJ ⟨rfl, rfl, trivial⟩ trivial ⟨rfl, trivial⟩ rfl
  refine zAA rfl (.a rfl rfl .nil) ?_
  refine zAB (zAA rfl (.m rfl rfl (.m rfl rfl (.run [2100, 6000] [] rfl (zAF rfl 6000 (X := []) en21 rfl (.val nod) (.cons (.one (.bor (.all (len := (pvE (zBr zCs 1 (tabL s).length)).length) (xs := pvE (zBr zCs 1 (tabL s).length)) rfl rfl (by decide)))) (.cons (.one (.bor .v)) .nil)) (by decide) all_nil .nil (zHi 1 (tabL s).length (by omega)) rfl rfl (nle rfl)) (.a rfl rfl .nil)))) ?_)
  refine zAB ?_
  refine zAB (zAA rfl (.m rfl rfl (.r rfl (zAL (zAt rfl rfl rfl) (zAG (decide_eq_false (by omega)))) .nil)) ?_)
  refine zAT (t := false) rfl (fun h => nomatch h) (fun _ => ?_)
  refine zAK ?_
  refine zAB ?_
  refine zAB (zAA rfl (.m rfl rfl (.m rfl rfl (.r rfl (zAL (zB2 rfl rfl rfl) (zAG (congrArg Bool.not (decide_eq_true (by simp))))) .nil))) ?_)
  refine zAT (t := false) rfl (fun h => nomatch h) (fun _ => ?_)
  refine zAK ?_
  refine zAB (zAA rfl (.a rfl rfl .nil) ?_)
  refine zAI ?_
  exact ends [_] [] (.cons (.tmp rfl) .nil) (.cons (.one .v (.v _)) .nil) (by decide) trivial
end Go.Rl

/- Promises of functions, proved by walks over their operations; no conditions beyond those that each theorem states. -/
import Derived.Test.YtgdfpjpfomcilaaGreatReV
import Derived.Test.YtgdfpjpfomcilaaGreatRnC
set_option linter.unusedSimpArgs false
set_option linter.unusedVariables false
namespace Go.Rl
open Go.Proofs Go.Proofs.Tryz
set_option maxRecDepth 1000000
set_option maxHeartbeats 2000000
theorem zFa : (Tryz.prog.info? 110).map (fun i => (i.zero, i.size, i.bytes)) = some (some (.agg #[.int .i64 0, .string ⟨#[]⟩, .string ⟨#[]⟩]), 3, 40) := by kernel_rfl
theorem zBk : (Tryz.prog.info? 28).map (fun i => (i.zero, i.size, i.bytes)) = some (some (.agg #[.int .i64 0, .slice none 0 0, .slice none 0 0, .slice none 0 0]), 4, 80) := by kernel_rfl
theorem en82 : En Tryz.prog 82 := zAm func82 (by decide) rfl
theorem en49 : En Tryz.prog 49 := zAm func49 (by decide) rfl
theorem en27 : En Tryz.prog 27 := zAm func27 (by decide) rfl
theorem en87 : En Tryz.prog 87 := zAm func87 (by decide) rfl
theorem en46 : En Tryz.prog 46 := zAm func46 (by decide) rfl
theorem en74 : En Tryz.prog 74 := zAm func74 (by decide) rfl
theorem zHp {s : Int} (h : zAs s 1 999999999980 = true) : 1 ≤ s ∧ s ≤ 999999999980 := by simpa [zAs] using h
theorem zO4 {s : Int} {ops : List Bop} {i : Nat} {o : Bop} (hG : ∀ j o, j < i → ops[j]? = some o → zBc (bent s j o) = true) (ho : ops[i]? = some o) (h : zBc (bent s i o) = true) : ∀ j o, j < i + 1 → ops[j]? = some o → zBc (bent s j o) = true := fun j o2 hj h2 => by
 by_cases hji : j = i
 · subst hji; rw [ho] at h2; cases h2; exact h
 · exact hG j o2 (by omega) h2
theorem zEG (s : Int) (ops : List Bop) (hl : ops.length ≤ 2000) (hs : zAs s 1 999999999980 = true) : Con Tryz.prog 49 [.agg [PV.v (.int .i64 s), PV.sl false 3 (pvO ops)]] [] [.one (.sl true 4 (pvE (zAq s ops)))] := by
 refine zAQ func49 rfl rfl rfl rfl ?_
 have hle := zBz ops
 have hs2 := zHp hs
 refine zAB (zAA rfl (.run [] [1] rfl (zBO rfl 1 rfl rfl (by decide) rfl (by decide)) (.a rfl rfl .nil)) ?_)
 refine zAB (zAA rfl (.run [600] [] rfl (zAR rfl 600 underlying24 zBb (nle rfl) (by decide) rfl rfl rfl .nil (by decide) rfl (by decide) rfl (by decide) rfl) (.a rfl rfl .nil)) ?_)
 refine zAB ?_
 refine zAB (zAA rfl (.r rfl (zAC rfl rfl underlying76 rfl sizeOf37 (by decide)) (.r rfl (zAD rfl rfl rfl isAgg37 rfl) (.r rfl (zAX rfl rfl underlying37) (.m rfl rfl .nil)))) ?_)
 refine zAS ?_
 refine zAY (zBi 600 1 rfl rfl (by decide)) ?_
 refine zAp (σ := Nat) (fun i => mk [(1, .ptr 1 0), (3, .sl 1 0 ((pvE (zAq s (ops.take i))).length)), (8, .p none (.sl false 3 (pvO ops))), (9, .vi ((pvO ops).length : Int)), (10, .vi (i:Int))] [(1, [.vi s, .p none (.sl false 3 (pvO ops))])] [(1, 4, pvE (zAq s (ops.take i)))]) (fun i => i ≤ ops.length) (fun i => ops.length - i) 0 (by simp) (zAJ ⟨rfl, rfl, rfl, rfl, (zAL (by omega)), trivial⟩ ⟨rfl, trivial⟩ ⟨(congrArg (fun x => some (4, x)) (by rfl)), trivial⟩ rfl) ?_
 rintro i hG
 replace hG : i ≤ ops.length := hG
 have hbl := zB2 s (ops.take i)
 have hvi := zAF (zAq s (ops.take i))
 have htl := List.length_take_le i ops
 refine zAB (zAA rfl (.r rfl (zA4 rfl rfl rfl) .nil) ?_)
 refine zAB ?_
 refine zAZ (t := decide ((i:Int) < ((pvO ops).length : Int))) rfl (fun h1 => ?_) (fun h1 => ?_)
 ·
  replace h1 := of_decide_eq_true h1
  refine zAM ?_
  refine zAB ?_
  refine zAS ?_
  refine zAB ?_
  obtain ⟨e, he⟩ : ∃ e, ops[i]? = some e := ⟨_, List.getElem?_eq_getElem (by (have hL := zBz ops; omega))⟩
  have hlte := (List.getElem?_eq_some_iff.1 he).1
  refine zAA rfl (.m rfl rfl (.r rfl (zAh rfl rfl rfl underlying37 sizeOf110 rfl (by omega) (zIs he)) (.r rfl (zA9 rfl rfl isAgg110 sizeOf110 (nle rfl)) (.run [] [5] rfl (zAj rfl 5 zFa rfl (by decide) rfl (by decide)) (.a rfl rfl (.r rfl (zAE rfl rfl rfl rfl rfl sizeOf110 rfl (nle rfl)) .nil)))))) ?_
  refine zAY (s' := mk [(1, .ptr 1 0), (3, .sl 1 0 ((pvE (zAq s (ops.take i))).length)), (4, .vi (i:Int)), (5, .ptr 5 0), (8, .p none (.sl false 3 (pvO ops))), (9, .vi ((pvO ops).length : Int)), (10, .vi (i:Int))] [(1, [.vi s, .p none (.sl false 3 (pvO ops))]), (5, [.vi e.kind, .vs e.user, .vs e.value])] [(1, 4, pvE (zAq s (ops.take i)))]) ?_ ?_
  · exact zAJ ⟨rfl, rfl, rfl, rfl, rfl, rfl, rfl, trivial⟩ ⟨rfl, rfl, trivial⟩ ⟨rfl, trivial⟩ rfl
  refine zAA rfl (.m rfl rfl (.r rfl (zAC rfl rfl underlying110 rfl sizeOf9 (by decide)) (.r rfl (zAD rfl rfl rfl isAgg9 rfl) (.r rfl (zAC rfl rfl underlying76 rfl sizeOf2 (by decide)) (.r rfl (zAD rfl rfl rfl isAgg2 rfl) (.m rfl rfl (.r rfl (zAf rfl rfl rfl (by omega)) (.r rfl (zAC rfl rfl underlying110 rfl sizeOf2 (by decide)) (.r rfl (zAD rfl rfl rfl isAgg2 rfl) (.r rfl (zBC (pl := [(0, 1), (1, 1), (2, 1)]) rfl underlying54 zOZ (by kernel_rfl) rfl rfl) (.r rfl (zAC rfl rfl underlying110 rfl sizeOf9 (by decide)) (.r rfl (zAD rfl rfl rfl isAgg9 rfl) (.r rfl (zBC (pl := [(0, 3), (3, 1)]) rfl underlying56 zBb (by kernel_rfl) rfl rfl) (.run [2800] [] rfl (zAR rfl 2800 underlying24 zBb (nle rfl) (by decide) rfl rfl rfl (.cons .v (.cons .v (.cons .v (.cons .v .nil)))) (by decide) rfl (by decide) rfl (by decide) rfl) (.run [1] [] rfl (zAu rfl 1 (ib := 1) (len := ((pvE (zAq s (ops.take i))) ++ [[PV.v (.string e.user), PV.v (.int .i64 (s + (i:Int))), PV.v (.int .i64 e.kind), PV.v (.string e.value)]]).length) rfl rfl (.row (len := (pvE (zAq s (ops.take i))).length) (xs := pvE (zAq s (ops.take i))) rfl rfl (.inl rfl)) (.give (len := 1) (xs := [[PV.v (.string e.user), PV.v (.int .i64 (s + (i:Int))), PV.v (.int .i64 e.kind), PV.v (.string e.value)]]) rfl rfl) underlying24 (sk underlying24 rfl) zBb rfl (by decide) (by decide) (by decide) List.length_append (by simp only [maxLen, List.length_append, List.length_cons, List.length_nil, List.length_take, zAF]; omega) (by simp only [maxLen, List.length_append, List.length_cons, List.length_nil, List.length_take, zAF]; omega)) (.a rfl rfl .nil)))))))))))))))) ?_
  have hr2 : (pvE (zAq s (ops.take i))) ++ [[PV.v (.string e.user), PV.v (.int .i64 (s + (i:Int))), PV.v (.int .i64 e.kind), PV.v (.string e.value)]] = pvE (zAq s (ops.take (i + 1))) := by rw [zLW he]; exact zDz _ (bent s i e)
  have hp3 : (.sl 1 0 (((pvE (zAq s (ops.take i))) ++ [[PV.v (.string e.user), PV.v (.int .i64 (s + (i:Int))), PV.v (.int .i64 e.kind), PV.v (.string e.value)]]).length) : AV) = .sl 1 0 ((pvE (zAq s (ops.take (i + 1)))).length) := by simp only [hr2]
  refine zAY (s' := mk [(1, .ptr 1 0), (3, .sl 1 0 ((pvE (zAq s (ops.take (i + 1)))).length)), (8, .p none (.sl false 3 (pvO ops))), (9, .vi ((pvO ops).length : Int)), (10, .vi (i:Int))] [(1, [.vi s, .p none (.sl false 3 (pvO ops))])] [(1, 4, pvE (zAq s (ops.take (i + 1))))]) ?_ ?_
  · exact zAJ ⟨rfl, hp3, rfl, rfl, rfl, trivial⟩ ⟨rfl, trivial⟩ ⟨(congrArg (fun x => some (4, x)) hr2), trivial⟩ rfl
  refine zAA rfl (.r rfl (zAf rfl rfl rfl (by omega)) (.m rfl rfl .nil)) ?_
  refine nxt (Q := fun _ _ => False) (z := i) (i + 1) ?_ ?_ ?_
  ·
   show (i + 1) ≤ ops.length
   omega
  ·
   show ops.length - (i + 1) < ops.length - i
   omega
  · exact zAJ ⟨rfl, rfl, rfl, rfl, (zAL (by omega)), trivial⟩ ⟨rfl, trivial⟩ ⟨rfl, trivial⟩ rfl
 ·
  replace h1 := of_decide_eq_false h1
  refine zAx ?_
  refine zAB (zAA rfl (.m rfl rfl (.a rfl rfl .nil)) ?_)
  have hr4 : pvE (zAq s (ops.take i)) = pvE (zAq s ops) := by rw [List.take_of_length_le (by omega)]
  have hp5 : (.sl 1 0 ((pvE (zAq s (ops.take i))).length) : AV) = .sl 1 0 ((pvE (zAq s ops)).length) := by simp only [hr4]
  refine zAY (s' := mk [(2, .sl 1 0 ((pvE (zAq s ops)).length))] [] [(1, 4, pvE (zAq s ops))]) ?_ ?_
  · exact zAJ ⟨hp5, trivial⟩ trivial ⟨(congrArg (fun x => some (4, x)) hr4), trivial⟩ rfl
  refine zAO ?_
  exact ends [_] [1] (.cons (.tmp rfl) .nil) (.cons (.one (.row (len := (pvE (zAq s ops)).length) (xs := pvE (zAq s ops)) rfl rfl) (.sl _ _ (FlatP.clean (zAd _)))) .nil) (by decide) trivial
theorem zHH (s : Int) (ops : List Bop) (i : Nat) (o : Bop) (ho : ops[i]? = some o) (hl : ops.length ≤ 2000) (hs : zAs s 1 999999999980 = true) : Con Tryz.prog 87 [.agg [PV.v (.int .i64 s), PV.sl false 3 (pvO ops)], .one (PV.v (.int .i64 (i:Int)))] [] [.agg [.v (.string (bent s i o).user), .v (.int .i64 (bent s i o).seq), .v (.int .i64 (bent s i o).kind), .v (.string (bent s i o).value)]] := by
 refine zAQ func87 rfl rfl rfl rfl ?_
 have hle := zBz ops
 have hs2 := zHp hs
 have hil := (List.getElem?_eq_some_iff.1 ho).1
 refine zAB (zAA rfl (.run [] [2] rfl (zBO rfl 2 rfl rfl (by decide) rfl (by decide)) (.run [] [4] rfl (zAj rfl 4 zBb rfl (by decide) rfl (by decide)) .nil)) ?_)
 refine zAB ?_
 refine zAY (s' := mk [(1, .vi (i:Int)), (2, .ptr 2 0), (4, .ptr 4 0)] [(2, [.vi s, .p none (.sl false 3 (pvO ops))]), (4, [.vs ⟨#[]⟩, .vi 0, .vi 0, .vs ⟨#[]⟩])] []) ?_ ?_
 · exact zAJ ⟨rfl, rfl, rfl, trivial⟩ ⟨rfl, rfl, trivial⟩ trivial rfl
 refine zAc zBL rfl (.r rfl (zAC rfl rfl underlying76 rfl sizeOf37 (by decide)) (.r rfl (zAD rfl rfl rfl isAgg37 rfl) (.m rfl rfl (.r rfl (zAh rfl rfl rfl underlying37 sizeOf110 rfl (by omega) (zIs ho)) (.r rfl (zAo rfl rfl underlying110 rfl sizeOf9 (by decide)) (.r rfl (zAg rfl rfl isAgg9 rfl) (.r rfl (zAC rfl rfl underlying76 rfl sizeOf2 (by decide)) (.r rfl (zAD rfl rfl rfl isAgg2 rfl) (.m rfl rfl (.r rfl (zAf rfl rfl rfl (by omega)) (.r rfl (zAC rfl rfl underlying76 rfl sizeOf37 (by decide)) (.r rfl (zAD rfl rfl rfl isAgg37 rfl) (.m rfl rfl (.r rfl (zAh rfl rfl rfl underlying37 sizeOf110 rfl (by omega) (zIs ho)) (.r rfl (zAo rfl rfl underlying110 rfl sizeOf2 (by decide)) (.r rfl (zAg rfl rfl isAgg2 rfl) (.r rfl (zBC (pl := [(0, 1), (1, 1), (2, 1)]) rfl underlying54 zOZ (by kernel_rfl) rfl rfl) (.r rfl (zAC rfl rfl underlying76 rfl sizeOf37 (by decide)) (.r rfl (zAD rfl rfl rfl isAgg37 rfl) (.m rfl rfl (.r rfl (zAh rfl rfl rfl underlying37 sizeOf110 rfl (by omega) (zIs ho)) (.r rfl (zAo rfl rfl underlying110 rfl sizeOf9 (by decide)) (.r rfl (zAg rfl rfl isAgg9 rfl) (.r rfl (zBC (pl := [(0, 3), (3, 1)]) rfl underlying56 zBb (by kernel_rfl) rfl rfl) (.r rfl (zAE rfl rfl rfl rfl rfl sizeOf56 rfl (nle rfl)) .nil))))))))))))))))))))))))) (by kernel_rfl) ?_
 refine zAO ?_
 exact ends [_] [] (.cons (.cell rfl rfl isAgg56 sizeOf56 (nle rfl)) .nil) (.cons (.agg (.cons .v (.cons .v (.cons .v (.cons .v .nil)))) (zAI (.v _) (zAI (.v _) (zAI (.v _) (zAI (.v _) zBE))))) .nil) (by decide) trivial
theorem zKV (e : Ent) : Con Tryz.prog 82 [.agg [PV.v (.string e.user), PV.v (.int .i64 e.seq), PV.v (.int .i64 e.kind), PV.v (.string e.value)]] [] [.one (.v (.bool (!zBc e)))] := by
 refine zAQ func82 rfl rfl rfl rfl ?_
 refine zAB (zAA rfl (.run [] [1] rfl (zBO rfl 1 rfl rfl (by decide) rfl (by decide)) (.a rfl rfl .nil)) ?_)
 refine zAB (zAA rfl (.r rfl (zAG rfl rfl rfl isAgg56 sizeOf56 (nle rfl)) (.run [400] [] rfl (zAK rfl 400 (X := []) en59 rfl (.val nod) (.cons (.agg (.cons (.bor .v) (.cons (.bor .v) (.cons (.bor .v) (.cons (.bor .v) .nil))))) .nil) (by decide) all_nil .nil (zEA e) rfl rfl (nle rfl)) (.r rfl (zA5 (b := zBc e) rfl rfl) (.a rfl rfl .nil)))) ?_)
 refine zAO ?_
 exact ends [_] [] (.cons (.tmp rfl) .nil) (.cons (.one .v (.v _)) .nil) (by decide) trivial
theorem zLV (s : Int) (ops : List Bop) (hl : ops.length ≤ 2000000) : Con Tryz.prog 47 [.agg [PV.v (.int .i64 s), PV.sl false 3 (pvO ops)]] [] [.one (.v (.bool (zA7 s ops)))] := by
 refine zAQ func47 rfl rfl rfl rfl ?_
 have hle := zBz ops
 refine zAB (zAA rfl (.run [] [1] rfl (zBO rfl 1 rfl rfl (by decide) rfl (by decide)) (.a rfl rfl .nil)) ?_)
 refine zAB ?_
 refine zAY (s' := mk [(1, .ptr 1 0)] [(1, [.vi s, .p none (.sl false 3 (pvO ops))])] []) ?_ ?_
 · exact zAJ ⟨rfl, trivial⟩ ⟨rfl, trivial⟩ trivial rfl
 rcases bfc (zAs (ops.length : Int) 1 20) with h1 | h1
 ·
  have h1' := h1
  refine zAA rfl (.r rfl (zAC rfl rfl underlying76 rfl sizeOf37 (by decide)) (.r rfl (zAD rfl rfl rfl isAgg37 rfl) (.r rfl (zAW (zAX rfl rfl underlying37) ((show (AV.p none (.v (.int .i64 ((pvO ops).length : Int)))) = AV.p none (.v (.int .i64 (ops.length : Int))) from zAL (by omega)))) (.run [600] [] rfl (zAK rfl 600 (X := []) en21 rfl (.val nod) (.cons (.one (.bor .v)) (.cons (.one (.bor .v)) (.cons (.one (.bor .v)) .nil))) (by decide) all_nil .nil (zBf (ops.length : Int) 1 20) rfl rfl (nle rfl)) (.r rfl (zAW (zBJ rfl) (zAN h1)) (.not rfl (.not rfl (.not rfl (.r rfl (zBI rfl rfl) (.m rfl rfl (.not rfl (.not rfl (.not rfl (.not rfl (.r rfl (zBI rfl rfl) (.a rfl rfl .nil)))))))))))))))) ?_
  refine zAO ?_
  exact ends [_] [] (.cons (.tmp (zAN (zJN h1))) .nil) (.cons (.one .v (.v _)) .nil) (by decide) trivial
 ·
  have h1' := h1
  rcases bfc (zAs s 1 999999999980) with h2 | h2
  ·
   have h2' := h2
   refine zAA rfl (.r rfl (zAC rfl rfl underlying76 rfl sizeOf37 (by decide)) (.r rfl (zAD rfl rfl rfl isAgg37 rfl) (.r rfl (zAW (zAX rfl rfl underlying37) ((show (AV.p none (.v (.int .i64 ((pvO ops).length : Int)))) = AV.p none (.v (.int .i64 (ops.length : Int))) from zAL (by omega)))) (.run [600] [] rfl (zAK rfl 600 (X := []) en21 rfl (.val nod) (.cons (.one (.bor .v)) (.cons (.one (.bor .v)) (.cons (.one (.bor .v)) .nil))) (by decide) all_nil .nil (zBf (ops.length : Int) 1 20) rfl rfl (nle rfl)) (.r rfl (zAW (zBJ rfl) (zAN h1)) (.r rfl (zAC rfl rfl underlying76 rfl sizeOf2 (by decide)) (.r rfl (zAD rfl rfl rfl isAgg2 rfl) (.run [1000] [] rfl (zAK rfl 1000 (X := []) en21 rfl (.val nod) (.cons (.one (.bor .v)) (.cons (.one (.bor .v)) (.cons (.one (.bor .v)) .nil))) (by decide) all_nil .nil (zBf s 1 999999999980) rfl rfl (nle rfl)) (.r rfl (zBM rfl rfl) (.r rfl (zAW (zBJ rfl) (zAN h2)) (.not rfl (.not rfl (.not rfl (.not rfl (.r rfl (zBI rfl rfl) (.a rfl rfl .nil)))))))))))))))) ?_
   refine zAO ?_
   exact ends [_] [] (.cons (.tmp (zAN (zMn h2))) .nil) (.cons (.one .v (.v _)) .nil) (by decide) trivial
  ·
   have h2' := h2
   refine zAA rfl (.r rfl (zAC rfl rfl underlying76 rfl sizeOf37 (by decide)) (.r rfl (zAD rfl rfl rfl isAgg37 rfl) (.r rfl (zAW (zAX rfl rfl underlying37) ((show (AV.p none (.v (.int .i64 ((pvO ops).length : Int)))) = AV.p none (.v (.int .i64 (ops.length : Int))) from zAL (by omega)))) (.run [600] [] rfl (zAK rfl 600 (X := []) en21 rfl (.val nod) (.cons (.one (.bor .v)) (.cons (.one (.bor .v)) (.cons (.one (.bor .v)) .nil))) (by decide) all_nil .nil (zBf (ops.length : Int) 1 20) rfl rfl (nle rfl)) (.r rfl (zAW (zBJ rfl) (zAN h1)) (.r rfl (zAC rfl rfl underlying76 rfl sizeOf2 (by decide)) (.r rfl (zAD rfl rfl rfl isAgg2 rfl) (.run [1000] [] rfl (zAK rfl 1000 (X := []) en21 rfl (.val nod) (.cons (.one (.bor .v)) (.cons (.one (.bor .v)) (.cons (.one (.bor .v)) .nil))) (by decide) all_nil .nil (zBf s 1 999999999980) rfl rfl (nle rfl)) (.r rfl (zBM rfl rfl) (.r rfl (zAW (zBJ rfl) (zAN h2)) (.r rfl (zAG rfl rfl rfl isAgg76 sizeOf76 (nle rfl)) (.run [1400] [] rfl (zAK rfl 1400 (X := []) en49 rfl (.val nod) (.cons (.agg (.cons (.bor .v) (.cons (.bor (.sl nod)) .nil))) .nil) (by decide) all_nil .nil (zEG s ops (by have q := zC7.1 h1; omega) h2) rfl rfl (nle rfl)) (.run [1400, 1500] [] rfl (zAK rfl 1500 (X := []) en27 rfl (.val nod) (.cons (.one (.bor (.all (len := (pvE (zAq s ops)).length) (xs := pvE (zAq s ops)) rfl rfl (by decide)))) (.cons (.one (.bor (.cl nod))) .nil)) (by decide) all_nil .nil (zDs (zAq s ops) (by rw [zB2]; omega) 82 [] (fun e => !zBc e) en82 (fun e _ => zKV e)) rfl rfl (nle rfl)) (.r rfl (zA5 (b := decide (0 ≤ idxF (fun e => !zBc e) (zAq s ops))) rfl rfl) (.r rfl (zBM rfl rfl) (.a rfl rfl .nil)))))))))))))))) ?_
   refine zAO ?_
   exact ends [_] [] (.cons (.tmp (zAN (zQa h1 h2))) .nil) (.cons (.one .v (.v _)) .nil) (by decide) trivial
theorem zGp (s : Int) (ops : List Bop) (hl : ops.length ≤ 2000000) : Con Tryz.prog 86 [.agg [PV.v (.int .i64 s), PV.sl false 3 (pvO ops)]] [] [.one (.v (.bool (zA7 s ops)))] := by
 refine zAQ func86 rfl rfl rfl rfl ?_
 have hle := zBz ops
 refine zAB (zAA rfl (.run [] [1] rfl (zBO rfl 1 rfl rfl (by decide) rfl (by decide)) (.a rfl rfl .nil)) ?_)
 refine zAB ?_
 refine zAB ?_
 refine zAY (s' := mk [(1, .ptr 1 0)] [(1, [.vi s, .p none (.sl false 3 (pvO ops))])] []) ?_ ?_
 · exact zAJ ⟨rfl, trivial⟩ ⟨rfl, trivial⟩ trivial rfl
 rcases bfc (decide (((pvO ops).length : Int) < 1)) with h1 | h1
 ·
  have h1' := h1
  replace h1' := of_decide_eq_false h1'
  rcases bfc (decide (20 < ((pvO ops).length : Int))) with h2 | h2
  ·
   have h2' := h2
   replace h2' := of_decide_eq_false h2'
   refine zAA rfl (.r rfl (zAC rfl rfl underlying76 rfl sizeOf37 (by decide)) (.r rfl (zAD rfl rfl rfl isAgg37 rfl) (.r rfl (zAX rfl rfl underlying37) (.r rfl (zAW (zA4 rfl rfl rfl) (zAN h1)) (.m rfl rfl (.r rfl (zAC rfl rfl underlying76 rfl sizeOf37 (by decide)) (.r rfl (zAD rfl rfl rfl isAgg37 rfl) (.r rfl (zAX rfl rfl underlying37) (.r rfl (zAW (zBN rfl rfl rfl) (zAN h2)) (.r rfl (zBI rfl rfl) (.m rfl rfl (.r rfl (zAC rfl rfl underlying76 rfl sizeOf2 (by decide)) (.r rfl (zAD rfl rfl rfl isAgg2 rfl) (.run [1700] [] rfl (zAK rfl 1700 (X := []) en29 rfl (.val nod) (.cons (.one (.bor .v)) (.cons (.one (.bor .v)) (.cons (.one (.bor .v)) .nil))) (by decide) all_nil .nil (zCm s 1 999999999980) rfl rfl (nle rfl)) (.r rfl (zA5 (b := zAs s 1 999999999980) rfl rfl) (.r rfl (zBI rfl rfl) .nil)))))))))))))))) ?_
   refine zAZ (t := (!(zAs s 1 999999999980))) rfl (fun h3 => ?_) (fun h3 => ?_)
   ·
    replace h3 : (zAs s 1 999999999980) = false := zBF h3
    refine zAB ?_
    refine zAY (s' := mk [] [] []) ?_ ?_
    · exact zAJ trivial trivial trivial rfl
    refine zAA rfl (.a rfl rfl .nil) ?_
    refine zAO ?_
    exact ends [_] [] (.cons (.tmp (zAN (zMn h3))) .nil) (.cons (.one .v (.v _)) .nil) (by decide) trivial
   ·
    replace h3 : (zAs s 1 999999999980) = true := zBG h3
    refine zAM ?_
    refine zAB ?_
    refine zAB ?_
    have hs : zAs s 1 999999999980 = true := by assumption
    have hwl : zAs (ops.length : Int) 1 20 = true := zC7.2 ⟨by omega, by omega⟩
    refine zAY (s' := mk [(1, .ptr 1 0)] [(1, [.vi s, .p none (.sl false 3 (pvO ops))])] []) ?_ ?_
    · exact zAJ ⟨rfl, trivial⟩ ⟨rfl, trivial⟩ trivial rfl
    refine zAA rfl (.a rfl rfl .nil) ?_
    refine zAS ?_
    refine zAp (σ := Nat) (fun i => mk [(1, .ptr 1 0), (3, .vi (i:Int))] [(1, [.vi s, .p none (.sl false 3 (pvO ops))])] []) (fun i => i ≤ ops.length ∧ ∀ j o, j < i → ops[j]? = some o → zBc (bent s j o) = true) (fun i => ops.length - i) 0 ⟨Nat.zero_le _, fun _ _ h => absurd h (Nat.not_lt_zero _)⟩ (zAJ ⟨rfl, (zAL (by omega)), trivial⟩ ⟨rfl, trivial⟩ trivial rfl) ?_
    rintro i hG
    replace hG : i ≤ ops.length ∧ ∀ j o, j < i → ops[j]? = some o → zBc (bent s j o) = true := hG
    obtain ⟨hi, hG⟩ := hG
    refine zAB ?_
    refine zAB (zAA rfl (.m rfl rfl (.r rfl (zAC rfl rfl underlying76 rfl sizeOf37 (by decide)) (.r rfl (zAD rfl rfl rfl isAgg37 rfl) (.r rfl (zAX rfl rfl underlying37) (.r rfl (zA4 rfl rfl rfl) .nil))))) ?_)
    refine zAZ (t := decide ((i:Int) < ((pvO ops).length : Int))) rfl (fun h4 => ?_) (fun h4 => ?_)
    ·
     replace h4 := of_decide_eq_true h4
     refine zAM ?_
     refine zAB ?_
     refine zAS ?_
     refine zAB ?_
     obtain ⟨o, ho⟩ : ∃ o, ops[i]? = some o := ⟨_, List.getElem?_eq_getElem (by omega)⟩
     refine zAA rfl (.r rfl (zAG rfl rfl rfl isAgg76 sizeOf76 (nle rfl)) (.m rfl rfl (.run [2900, 2901, 2902, 2903] [] rfl (zAK rfl 2900 (X := []) en87 rfl (.val nod) (.cons (.agg (.cons (.bor .v) (.cons (.bor (.sl nod)) .nil))) (.cons (.one (.bor .v)) .nil)) (by decide) all_nil .nil (zHH s ops i o ho (by omega) hs) rfl rfl (nle rfl)) (.run [3000] [] rfl (zAK rfl 3000 (X := []) en64 rfl (.val nod) (.cons (.agg (.cons (.bor .v) (.cons (.bor .v) (.cons (.bor .v) (.cons (.bor .v) .nil))))) .nil) (by decide) all_nil .nil (zCi (bent s i o)) rfl rfl (nle rfl)) (.r rfl (zA5 (b := zBc (bent s i o)) rfl rfl) .nil))))) ?_
     refine zAZ (t := (!(zBc (bent s i o)))) rfl (fun h5 => ?_) (fun h5 => ?_)
     ·
      replace h5 : (zBc (bent s i o)) = false := zBF h5
      refine zAB (zAA rfl (.a rfl rfl .nil) ?_)
      refine zAO ?_
      exact ends [_] [] (.cons (.tmp (zAN ((zO7 ho hG h5).symm))) .nil) (.cons (.one .v (.v _)) .nil) (by decide) trivial
     ·
      replace h5 : (zBc (bent s i o)) = true := zBG h5
      refine zAM ?_
      refine zAA rfl (.m rfl rfl (.r rfl (zAf rfl rfl rfl (by omega)) (.a rfl rfl .nil))) ?_
      refine nxt (Q := fun _ _ => False) (z := i) (i + 1) ?_ ?_ ?_
      ·
       show (i + 1) ≤ ops.length ∧ ∀ j o, j < (i + 1) → ops[j]? = some o → zBc (bent s j o) = true
       exact ⟨by omega, zO4 hG ho h5⟩
      ·
       show ops.length - (i + 1) < ops.length - i
       omega
      · exact zAJ ⟨rfl, (zAL (by omega)), trivial⟩ ⟨rfl, trivial⟩ trivial rfl
    ·
     replace h4 := of_decide_eq_false h4
     refine zAx ?_
     refine zAB (zAA rfl (.a rfl rfl .nil) ?_)
     refine zAO ?_
     exact ends [_] [] (.cons (.tmp (zAN ((zNZ (by omega) hG hwl hs).symm))) .nil) (.cons (.one .v (.v _)) .nil) (by decide) trivial
  ·
   have h2' := h2
   replace h2' := of_decide_eq_true h2'
   refine zAA rfl (.r rfl (zAC rfl rfl underlying76 rfl sizeOf37 (by decide)) (.r rfl (zAD rfl rfl rfl isAgg37 rfl) (.r rfl (zAX rfl rfl underlying37) (.r rfl (zAW (zA4 rfl rfl rfl) (zAN h1)) (.m rfl rfl (.r rfl (zAC rfl rfl underlying76 rfl sizeOf37 (by decide)) (.r rfl (zAD rfl rfl rfl isAgg37 rfl) (.r rfl (zAX rfl rfl underlying37) (.r rfl (zAW (zBN rfl rfl rfl) (zAN h2)) (.r rfl (zBI rfl rfl) (.m rfl rfl (.not rfl (.not rfl (.not rfl (.not rfl (.r rfl (zBM rfl rfl) .nil)))))))))))))))) ?_
   refine zAZ (t := true) rfl (fun _ => ?_) (fun h => nomatch h)
   refine zAB ?_
   refine zAY (s' := mk [] [] []) ?_ ?_
   · exact zAJ trivial trivial trivial rfl
   refine zAA rfl (.a rfl rfl .nil) ?_
   refine zAO ?_
   exact ends [_] [] (.cons (.tmp (zAN (zJN (by cases q : zAs (ops.length : Int) 1 20 with | false => rfl | true => have := zC7.1 q; omega)))) .nil) (.cons (.one .v (.v _)) .nil) (by decide) trivial
 ·
  have h1' := h1
  replace h1' := of_decide_eq_true h1'
  refine zAA rfl (.r rfl (zAC rfl rfl underlying76 rfl sizeOf37 (by decide)) (.r rfl (zAD rfl rfl rfl isAgg37 rfl) (.r rfl (zAX rfl rfl underlying37) (.r rfl (zAW (zA4 rfl rfl rfl) (zAN h1)) (.m rfl rfl (.not rfl (.not rfl (.not rfl (.not rfl (.r rfl (zBM rfl rfl) (.m rfl rfl (.not rfl (.not rfl (.not rfl (.not rfl (.r rfl (zBM rfl rfl) .nil)))))))))))))))) ?_
  refine zAZ (t := true) rfl (fun _ => ?_) (fun h => nomatch h)
  refine zAB ?_
  refine zAY (s' := mk [] [] []) ?_ ?_
  · exact zAJ trivial trivial trivial rfl
  refine zAA rfl (.a rfl rfl .nil) ?_
  refine zAO ?_
  exact ends [_] [] (.cons (.tmp (zAN (zJN (by cases q : zAs (ops.length : Int) 1 20 with | false => rfl | true => have := zC7.1 q; omega)))) .nil) (.cons (.one .v (.v _)) .nil) (by decide) trivial
theorem zQb (sq : Int) (mem : List Ent) (rs : RunL) (sn : List Int) (a : Int) (hl : sn.length ≤ 2000000) : Con Tryz.prog 41 [.agg [PV.v (.int .i64 sq), PV.sl false 4 (pvE mem), PV.sl false 1 (pvR rs), PV.sl false 1 (pvI sn)], .one (PV.v (.int .i64 a))] [] [.one (.v (.int .i64 (if a = -1 then sq else a))), .one (.v (.bool (decide (a = -1) || atI sn a)))] := by
 refine zAQ func41 rfl rfl rfl rfl ?_
 have hle := zAT sn
 refine zAB (zAA rfl (.run [] [2] rfl (zBO rfl 2 rfl rfl (by decide) rfl (by decide)) (.a rfl rfl (.a rfl rfl .nil))) ?_)
 refine zAB ?_
 refine zAB (zAA rfl (.m rfl rfl (.r rfl (zA8 rfl rfl rfl) .nil)) ?_)
 refine zAZ (t := decide (a = (-1))) rfl (fun h1 => ?_) (fun h1 => ?_)
 ·
  replace h1 := of_decide_eq_true h1
  refine zAB (zAA rfl (.r rfl (zAC rfl rfl underlying28 rfl sizeOf2 (by decide)) (.r rfl (zAD rfl rfl rfl isAgg2 rfl) (.a rfl rfl (.a rfl rfl .nil)))) ?_)
  refine zAO ?_
  exact ends [_, _] [] (.cons (.tmp (zAL (if_pos h1).symm)) (.cons (.tmp (zAN (by simp [h1]))) .nil)) (.cons (.one .v (.v _)) (.cons (.one .v (.v _)) .nil)) (by decide) trivial
 ·
  replace h1 := of_decide_eq_false h1
  refine zAM ?_
  refine zAB (zAA rfl (.m rfl rfl (.r rfl (zAC rfl rfl underlying28 rfl sizeOf26 (by decide)) (.r rfl (zAD rfl rfl rfl isAgg26 rfl) (.m rfl rfl (.run [1400] [] rfl (zAK rfl 1400 (X := []) en46 rfl (.val nod) (.cons (.one (.bor (.sl nod))) (.cons (.one (.bor .v)) .nil)) (by decide) all_nil .nil (zFi sn a (by omega)) rfl rfl (nle rfl)) (.a rfl rfl (.a rfl rfl .nil))))))) ?_)
  refine zAO ?_
  exact ends [_, _] [] (.cons (.tmp (zAL (if_neg h1).symm)) (.cons (.tmp (zAN (by simp [h1, atI]))) .nil)) (.cons (.one .v (.v _)) (.cons (.one .v (.v _)) .nil)) (by decide) trivial
theorem zK8 (rs : RunL) (hn : (ents rs).length ≤ 900000) (hl : rs.length ≤ 1000000) : Con Tryz.prog 74 [.one (PV.sl false 1 (pvR rs))] [] [.one (.sl true 1 (pvR (ownR rs)))] := by
 refine zAQ func74 rfl rfl rfl rfl ?_
 have hle := zAi rs
 refine zAB (zAA rfl (.a rfl rfl .nil) ?_)
 refine zAB (zAA rfl (.run [500] [] rfl (zAR rfl 500 underlying25 zDP (nle rfl) (by decide) rfl rfl rfl .nil (by decide) rfl (by decide) rfl (by decide) rfl) (.a rfl rfl .nil)) ?_)
 refine zAB ?_
 refine zAB (zAA rfl (.a rfl rfl .nil) ?_)
 refine zAS ?_
 refine zAY (zBi 500 1 rfl rfl (by decide)) ?_
 refine zAp (σ := Nat) (fun i => mk [(0, .p none (.sl false 1 (pvR rs))), (3, .sl 1 0 ((pvR (ownR (rs.take i))).length)), (4, .vi (i:Int))] [] [(1, 1, pvR (ownR (rs.take i)))]) (fun i => i ≤ rs.length) (fun i => rs.length - i) 0 (by simp) (zAJ ⟨rfl, rfl, (zAL (by omega)), trivial⟩ trivial ⟨(congrArg (fun x => some (1, x)) (by rfl)), trivial⟩ rfl) ?_
 rintro i hG
 replace hG : i ≤ rs.length := hG
 have hol := zMI (rs.take i)
 have hvi := zAi (ownR (rs.take i))
 have htl := List.length_take_le i rs
 refine zAB ?_
 refine zAB (zAA rfl (.m rfl rfl (.m rfl rfl (.r rfl (zAX rfl rfl underlying25) (.r rfl (zA4 rfl rfl rfl) .nil)))) ?_)
 refine zAZ (t := decide ((i:Int) < ((pvR rs).length : Int))) rfl (fun h1 => ?_) (fun h1 => ?_)
 ·
  replace h1 := of_decide_eq_true h1
  refine zAM ?_
  refine zAB ?_
  refine zAS ?_
  obtain ⟨e, he⟩ : ∃ e, rs[i]? = some e := ⟨_, List.getElem?_eq_getElem (by omega)⟩
  have hrl := zE6 he
  have hrv := zAF e.2
  refine zAA rfl (.m rfl rfl (.run [1300] [] rfl (zAR rfl 1300 underlying24 zBb (nle rfl) (by decide) rfl rfl rfl .nil (by decide) rfl (by decide) rfl (by decide) rfl) (.m rfl rfl (.m rfl rfl (.r rfl (zAh rfl rfl rfl underlying25 sizeOf61 rfl (by omega) (zDH he)) (.r rfl (zAo rfl rfl underlying61 rfl sizeOf24 (by decide)) (.r rfl (zAg rfl rfl isAgg24 rfl) (.run [1300] [] rfl (zAu rfl 1300 (ib := 1300) (len := ([] ++ (pvE e.2)).length) rfl rfl (.row (len := 0) (xs := []) rfl rfl (.inl rfl)) (.fro (zAd _)) underlying24 (sk underlying24 rfl) zBb rfl (by decide) (by decide) (by decide) List.length_append (by simp only [maxLen, List.length_append, List.length_cons, List.length_nil, List.length_take, zAF, zAi]; omega) (by simp only [maxLen, List.length_append, List.length_cons, List.length_nil, List.length_take, zAF, zAi]; omega)) (.r rfl (zBC (pl := [(0, 1)]) rfl underlying61 zDP (by kernel_rfl) rfl rfl) (.run [2100, 1300] [] rfl (zAR rfl 2100 underlying25 zDP (nle rfl) (by decide) rfl rfl rfl (.cons (.row rfl rfl) .nil) (by decide) rfl (by decide) rfl (by decide) rfl) (.run [1] [] rfl (zAu rfl 1 (ib := 1) (len := ((pvR (ownR (rs.take i))) ++ [[PV.sl true 4 ([] ++ (pvE e.2))]]).length) rfl rfl (.row (len := (pvR (ownR (rs.take i))).length) (xs := pvR (ownR (rs.take i))) rfl rfl (.inl rfl)) (.give (len := 1) (xs := [[PV.sl true 4 ([] ++ (pvE e.2))]]) rfl rfl) underlying25 (sk underlying25 rfl) zDP rfl (by decide) (by decide) (by decide) List.length_append (by simp only [maxLen, List.length_append, List.length_cons, List.length_nil, List.length_take, zAF, zAi]; omega) (by simp only [maxLen, List.length_append, List.length_cons, List.length_nil, List.length_take, zAF, zAi]; omega)) (.a rfl rfl .nil)))))))))))) ?_
  have hr2 : (pvR (ownR (rs.take i))) ++ [[PV.sl true 4 ([] ++ (pvE e.2))]] = pvR (ownR (rs.take (i + 1))) := by exact zJm he
  have hp3 : (.sl 1 0 (((pvR (ownR (rs.take i))) ++ [[PV.sl true 4 ([] ++ (pvE e.2))]]).length) : AV) = .sl 1 0 ((pvR (ownR (rs.take (i + 1)))).length) := by simp only [hr2]
  refine zAY (s' := mk [(0, .p none (.sl false 1 (pvR rs))), (3, .sl 1 0 ((pvR (ownR (rs.take (i + 1)))).length)), (4, .vi (i:Int))] [] [(1, 1, pvR (ownR (rs.take (i + 1))))]) ?_ ?_
  · exact zAJ ⟨rfl, hp3, rfl, trivial⟩ trivial ⟨(congrArg (fun x => some (1, x)) hr2), trivial⟩ rfl
  refine zAA rfl (.m rfl rfl (.r rfl (zAf rfl rfl rfl (by omega)) (.a rfl rfl .nil))) ?_
  refine nxt (Q := fun _ _ => False) (z := i) (i + 1) ?_ ?_ ?_
  ·
   show (i + 1) ≤ rs.length
   omega
  ·
   show rs.length - (i + 1) < rs.length - i
   omega
  · exact zAJ ⟨rfl, rfl, (zAL (by omega)), trivial⟩ trivial ⟨rfl, trivial⟩ rfl
 ·
  replace h1 := of_decide_eq_false h1
  refine zAx ?_
  refine zAB (zAA rfl (.m rfl rfl (.a rfl rfl .nil)) ?_)
  have hr4 : pvR (ownR (rs.take i)) = pvR (ownR rs) := by rw [List.take_of_length_le (by omega)]
  have hp5 : (.sl 1 0 ((pvR (ownR (rs.take i))).length) : AV) = .sl 1 0 ((pvR (ownR rs)).length) := by simp only [hr4]
  refine zAY (s' := mk [(2, .sl 1 0 ((pvR (ownR rs)).length))] [] [(1, 1, pvR (ownR rs))]) ?_ ?_
  · exact zAJ ⟨hp5, trivial⟩ trivial ⟨(congrArg (fun x => some (1, x)) hr4), trivial⟩ rfl
  refine zAO ?_
  exact ends [_] [1] (.cons (.tmp rfl) .nil) (.cons (.one (.row (len := (pvR (ownR rs)).length) (xs := pvR (ownR rs)) rfl rfl) (zC4 _)) .nil) (by decide) trivial
theorem zK9 (sq : Int) (mem : List Ent) (rs : RunL) (sn : List Int) (hn : mem.length + (ents rs).length ≤ 900000) (hl : rs.length ≤ 1000000) (hsn : sn.length ≤ 1000000) : Con Tryz.prog 38 [.agg [PV.v (.int .i64 sq), PV.sl false 4 (pvE mem), PV.sl false 1 (pvR rs), PV.sl false 1 (pvI sn)]] [] [.agg [.v (.int .i64 sq), .sl true 4 (pvE mem), .sl true 1 (pvR (ownR rs)), .sl true 1 (pvI sn)]] := by
 refine zAQ func38 rfl rfl rfl rfl ?_
 have hle := zAi rs
 have hlm := zAF mem
 have hls := zAT sn
 refine zAB (zAA rfl (.run [] [1] rfl (zBO rfl 1 rfl rfl (by decide) rfl (by decide)) (.run [] [2] rfl (zAj rfl 2 zBk rfl (by decide) rfl (by decide)) .nil)) ?_)
 refine zAB ?_
 refine zAY (s' := mk [(1, .ptr 1 0), (2, .ptr 2 0)] [(1, [.vi sq, .p none (.sl false 4 (pvE mem)), .p none (.sl false 1 (pvR rs)), .p none (.sl false 1 (pvI sn))]), (2, [.vi 0, .nils, .nils, .nils])] []) ?_ ?_
 · exact zAJ ⟨rfl, rfl, trivial⟩ ⟨rfl, rfl, trivial⟩ trivial rfl
 refine zAc zBL rfl (.r rfl (zAC rfl rfl underlying28 rfl sizeOf2 (by decide)) (.r rfl (zAD rfl rfl rfl isAgg2 rfl) (.run [500] [] rfl (zAR rfl 500 underlying24 zBb (nle rfl) (by decide) rfl rfl rfl .nil (by decide) rfl (by decide) rfl (by decide) rfl) (.r rfl (zAC rfl rfl underlying28 rfl sizeOf24 (by decide)) (.r rfl (zAD rfl rfl rfl isAgg24 rfl) (.run [500] [] rfl (zAu rfl 500 (ib := 500) (len := ([] ++ (pvE mem)).length) rfl rfl (.row (len := 0) (xs := []) rfl rfl (.inl rfl)) (.fro (zAd _)) underlying24 (sk underlying24 rfl) zBb rfl (by decide) (by decide) (by decide) List.length_append (by simp only [maxLen, List.length_append, List.length_cons, List.length_nil, zAF, zAT]; omega) (by simp only [maxLen, List.length_append, List.length_cons, List.length_nil, zAF, zAT]; omega)) (.r rfl (zAC rfl rfl underlying28 rfl sizeOf25 (by decide)) (.r rfl (zAD rfl rfl rfl isAgg25 rfl) (.run [1100] [] rfl (zAK rfl 1100 (X := []) en74 rfl (.val nod) (.cons (.one (.bor (.sl nod))) .nil) (by decide) all_nil .nil (zK8 rs (by omega) (by omega)) rfl rfl (nle rfl)) (.run [1200] [] rfl (zAR rfl 1200 underlying26 inf2 (nle rfl) (by decide) rfl rfl rfl .nil (by decide) rfl (by decide) rfl (by decide) rfl) (.r rfl (zAC rfl rfl underlying28 rfl sizeOf26 (by decide)) (.r rfl (zAD rfl rfl rfl isAgg26 rfl) (.run [1200] [] rfl (zAu rfl 1200 (ib := 1200) (len := ([] ++ (pvI sn)).length) rfl rfl (.row (len := 0) (xs := []) rfl rfl (.inl rfl)) (.fro (zA3 _)) underlying26 (sk underlying26 rfl) inf2 rfl (by decide) (by decide) (by decide) List.length_append (by simp only [maxLen, List.length_append, List.length_cons, List.length_nil, zAF, zAT]; omega) (by simp only [maxLen, List.length_append, List.length_cons, List.length_nil, zAF, zAT]; omega)) (.r rfl (zBC (pl := [(0, 1), (1, 1), (2, 1), (3, 1)]) rfl underlying28 zBk (by kernel_rfl) rfl rfl) (.r rfl (zAE rfl rfl rfl rfl rfl sizeOf28 rfl (nle rfl)) .nil))))))))))))))) (by kernel_rfl) ?_
 refine zAO ?_
 exact ends [_] [500, 1100, 1200] (.cons (.cell rfl rfl isAgg28 sizeOf28 (nle rfl)) .nil) (.cons (.agg (.cons .v (.cons (.row (len := ([] ++ (pvE mem)).length) (xs := [] ++ (pvE mem)) rfl rfl) (.cons (.row (len := (pvR (ownR rs)).length) (xs := pvR (ownR rs)) rfl rfl) (.cons (.row (len := ([] ++ (pvI sn)).length) (xs := [] ++ (pvI sn)) rfl rfl) .nil)))) (zAI (.v _) (zAI (.sl _ _ (FlatP.clean (zAd _))) (zAI (zC4 _) (zAI (.sl _ _ (FlatP.clean (zA3 _))) zBE))))) .nil) (by decide) trivial
end Go.Rl
namespace Go.Rl
def zBe (sq : Int) (mem : List Ent) (rs : RunL) (sn : List Int) : Bool := zAs sq 0 1000000000000 && (zAr mem && (zBQ rs && zBP sn))
theorem zO8 {sq : Int} {mem : List Ent} {rs : RunL} {sn : List Int} (h1 : zAs sq 0 1000000000000 = true) (h2 : zAr mem = true) (h3 : zBQ rs = true) (h4 : zBP sn = true) : zBe sq mem rs sn = true := by simp [zBe, h1, h2, h3, h4]
theorem zPC {sq : Int} {mem : List Ent} {rs : RunL} {sn : List Int} (h : zAs sq 0 1000000000000 = false) : zBe sq mem rs sn = false := by simp [zBe, h]
theorem zPB {sq : Int} {mem : List Ent} {rs : RunL} {sn : List Int} (h : zAr mem = false) : zBe sq mem rs sn = false := by simp [zBe, h]
theorem zPA {sq : Int} {mem : List Ent} {rs : RunL} {sn : List Int} (h : zBQ rs = false) : zBe sq mem rs sn = false := by simp [zBe, h]
theorem zO9 {sq : Int} {mem : List Ent} {rs : RunL} {sn : List Int} (h : zBP sn = false) : zBe sq mem rs sn = false := by simp [zBe, h]
theorem zFS {rs : RunL} (h : zBQ rs = true) : rs.length ≤ 20 ∧ (ents rs).length ≤ 400 := by
 simp only [zBQ, Bool.and_eq_true, decide_eq_true_eq] at h
 exact ⟨h.1, h.2.2⟩
theorem zFQ {sn : List Int} (h : zBP sn = true) : sn.length ≤ 20 := by
 simp only [zBP, Bool.and_eq_true, decide_eq_true_eq] at h
 exact h.1
def zCb (mem : List Ent) : Int := mem.foldl (fun a e => min a e.seq) 1000000000000
theorem zNI {mem : List Ent} {i : Nat} {e : Ent} (h : mem[i]? = some e) : zCb (mem.take (i + 1)) = min (zCb (mem.take i)) e.seq := by
 unfold zCb
 rw [List.take_add_one, h]
 simp [List.foldl_append]
def Seqs (sq : Int) (l : List Ent) (i : Nat) : Prop := ∀ (j : Nat) (x : Ent), j < i → l[j]? = some x → x.seq ≤ sq ∧ ∀ (k : Nat) (y : Ent), k < j → l[k]? = some y → y.seq ≠ x.seq
theorem zJg (sq : Int) (l : List Ent) : Seqs sq l 0 := fun _ _ h => absurd h (Nat.not_lt_zero _)
def zGM (l : List Ent) (x : Ent) (k : Nat) : Prop := ∀ (k' : Nat) (y : Ent), k' < k → l[k']? = some y → y.seq ≠ x.seq
theorem zKd (l : List Ent) (x : Ent) : zGM l x 0 := fun _ _ h => absurd h (Nat.not_lt_zero _)
theorem zKe {l : List Ent} {x y : Ent} {k : Nat} (h : zGM l x k) (hy : l[k]? = some y) (hn : ¬ y.seq = x.seq) : zGM l x (k + 1) := fun k' z hk hz => by
 by_cases e : k' = k
 · subst e; rw [hy] at hz; cases hz; exact hn
 · exact h k' z (by omega) hz
theorem zJh {sq : Int} {l : List Ent} {x : Ent} {i : Nat} (h : Seqs sq l i) (hx : l[i]? = some x) (h1 : ¬ sq < x.seq) (h2 : zGM l x i) : Seqs sq l (i + 1) := fun j y hj hy => by
 by_cases e : j = i
 · subst e; rw [hx] at hy; cases hy; exact ⟨by omega, h2⟩
 · exact h j y (by omega) hy
def UpTo (sq : Int) (sn : List Int) (i : Nat) : Prop := ∀ (j : Nat) (x : Int), j < i → sn[j]? = some x → x ≤ sq
theorem zNi (sq : Int) (sn : List Int) : UpTo sq sn 0 := fun _ _ h => absurd h (Nat.not_lt_zero _)
theorem zNj {sq : Int} {sn : List Int} {i : Nat} {x : Int} (h : UpTo sq sn i) (hx : sn[i]? = some x) (hn : ¬ sq < x) : UpTo sq sn (i + 1) := fun j y hj hy => by
 by_cases e : j = i
 · subst e; rw [hx] at hy; cases hy; omega
 · exact h j y (by omega) hy
def zGO (z : Int) (l : List Ent) (k : Nat) : Prop := ∀ (j : Nat) (x : Ent), j < k → l[j]? = some x → x.seq < z
theorem zLT (z : Int) (l : List Ent) : zGO z l 0 := fun _ _ h => absurd h (Nat.not_lt_zero _)
theorem zLU {z : Int} {l : List Ent} {k : Nat} {x : Ent} (h : zGO z l k) (hx : l[k]? = some x) (hn : ¬ z ≤ x.seq) : zGO z l (k + 1) := fun j y hj hy => by
 by_cases e : j = k
 · subst e; rw [hx] at hy; cases hy; omega
 · exact h j y (by omega) hy
def zGN (z : Int) (rs : RunL) (i : Nat) : Prop := ∀ (j : Nat) (r : Bool × List Ent), j < i → rs[j]? = some r → zGO z r.2 r.2.length
theorem zLQ (z : Int) (rs : RunL) : zGN z rs 0 := fun _ _ h => absurd h (Nat.not_lt_zero _)
theorem zLR {z : Int} {rs : RunL} {i k : Nat} {r : Bool × List Ent} (h : zGN z rs i) (hr : rs[i]? = some r) (hk : zGO z r.2 k) (hl : r.2.length ≤ k) : zGN z rs (i + 1) := fun j y hj hy => by
 by_cases e : j = i
 · subst e; rw [hr] at hy; cases hy; exact fun q x hq hx => hk q x (by omega) hx
 · exact h j y (by omega) hy
structure SOk (sq : Int) (mem : List Ent) (rs : RunL) (sn : List Int) : Prop where
 few : mem.length + (ents rs).length ≤ 400
 all : mem.length + (ents rs).length = (allS mem rs).length
 seqs : Seqs sq (allS mem rs) (allS mem rs).length
 upto : UpTo sq sn sn.length
 below : zGN (zCb mem) rs rs.length
noncomputable instance decSOk (sq : Int) (mem : List Ent) (rs : RunL) (sn : List Int) : Decidable (SOk sq mem rs sn) := Classical.propDecidable _
noncomputable def zBV (sq : Int) (mem : List Ent) (rs : RunL) (sn : List Int) : Bool := zBe sq mem rs sn && decide (SOk sq mem rs sn)
variable {sq : Int} {mem : List Ent} {rs : RunL} {sn : List Int}
theorem zGd (h : zBe sq mem rs sn = false) : false = zBV sq mem rs sn := by unfold zBV; rw [h]; rfl
theorem zIM (h : ¬ SOk sq mem rs sn) : false = zBV sq mem rs sn := by unfold zBV; rw [decide_eq_false h, Bool.and_false]
theorem dbs_yes (hb : zBe sq mem rs sn = true) (h : SOk sq mem rs sn) : true = zBV sq mem rs sn := by unfold zBV; rw [decide_eq_true h, hb]; rfl
theorem dbs_of (h : zBV sq mem rs sn = true) : zBe sq mem rs sn = true ∧ SOk sq mem rs sn := by
 unfold zBV at h
 rw [Bool.and_eq_true] at h
 exact ⟨h.1, of_decide_eq_true h.2⟩
theorem no_seq {i : Nat} {x : Ent} (hx : (allS mem rs)[i]? = some x) (h : sq < x.seq) : ¬ SOk sq mem rs sn := fun q => by
 have := (q.seqs i x (List.getElem?_eq_some_iff.1 hx).1 hx).1
 omega
theorem no_like {i k : Nat} {x y : Ent} (hx : (allS mem rs)[i]? = some x) (hy : (allS mem rs)[k]? = some y) (hk : k < i) (h : y.seq = x.seq) : ¬ SOk sq mem rs sn := fun q => (q.seqs i x (List.getElem?_eq_some_iff.1 hx).1 hx).2 k y hk hy h
theorem no_snap {i : Nat} {x : Int} (hx : sn[i]? = some x) (h : sq < x) : ¬ SOk sq mem rs sn := fun q => by
 have := q.upto i x (List.getElem?_eq_some_iff.1 hx).1 hx
 omega
theorem zP4 {i k : Nat} {r : Bool × List Ent} {x : Ent} (hr : rs[i]? = some r) (hx : r.2[k]? = some x) (h : zCb mem ≤ x.seq) : ¬ SOk sq mem rs sn := fun q => by
 have := q.below i r (List.getElem?_eq_some_iff.1 hr).1 hr k x (List.getElem?_eq_some_iff.1 hx).1 hx
 omega
end Go.Rl
namespace Go.Rl
open Go.RowKit
section
variable {γ : Gho} {P : Program} {n : Nat} {o : Oper} {M B : List Nat} {s : St}
theorem st_min {x y : Operand} {ats : Array TypeId} (ho : o.op = .call { callee := .builtin .min, args := #[x, y], argTypes := ats }) {d d' : Option Nat} {k : IntKind} {a b : Int} (hx : s.ev x = .p d (.v (.int k a))) (hy : s.ev y = .p d' (.v (.int k b))) :
  StepD γ P n o M B s { put := .p none (.v (.int k (min a b))) } :=
 zAw fun s' ag w0 I L ac w hr => by
  have h1 := hr.evv ((ag.ev1 ho (by simp [Op.operands, Call.operands])).trans hx)
  have h2 := hr.evv ((ag.ev1 ho (by simp [Op.operands, Call.operands])).trans hy)
  refine ⟨_, ?_, zBs L w s' rfl⟩
  by_cases hlt : b < a
  ·
   have : min a b = b := by omega
   simp [execOp, ho, resolve, invoke, builtin, Builtin.min_, Builtin.min2, h1, h2, hlt, this]
  ·
   have : min a b = a := by omega
   simp [execOp, ho, resolve, invoke, builtin, Builtin.min_, Builtin.min2, h1, h2, hlt, this]
theorem st_max {x y : Operand} {ats : Array TypeId} (ho : o.op = .call { callee := .builtin .max, args := #[x, y], argTypes := ats }) {d d' : Option Nat} {k : IntKind} {a b : Int} (hx : s.ev x = .p d (.v (.int k a))) (hy : s.ev y = .p d' (.v (.int k b))) :
  StepD γ P n o M B s { put := .p none (.v (.int k (max a b))) } :=
 zAw fun s' ag w0 I L ac w hr => by
  have h1 := hr.evv ((ag.ev1 ho (by simp [Op.operands, Call.operands])).trans hx)
  have h2 := hr.evv ((ag.ev1 ho (by simp [Op.operands, Call.operands])).trans hy)
  refine ⟨_, ?_, zBs L w s' rfl⟩
  by_cases hlt : a < b
  ·
   have : max a b = b := by omega
   simp [execOp, ho, resolve, invoke, builtin, Builtin.max_, Builtin.max2, h1, h2, hlt, this]
  ·
   have : max a b = a := by omega
   simp [execOp, ho, resolve, invoke, builtin, Builtin.max_, Builtin.max2, h1, h2, hlt, this]
end
end Go.Rl
namespace Go.Rl
open Go.Proofs Go.Proofs.Tryz
set_option maxRecDepth 1000000
set_option maxHeartbeats 2000000
theorem en37 : En Tryz.prog 37 := zAm func37 (by decide) rfl
theorem en31 : En Tryz.prog 31 := zAm func31 (by decide) rfl
theorem en32 : En Tryz.prog 32 := zAm func32 (by decide) rfl
theorem en33 : En Tryz.prog 33 := zAm func33 (by decide) rfl
theorem zNU (sq : Int) (mem : List Ent) (rs : RunL) (sn : List Int) (hn : mem.length + (ents rs).length ≤ 900000) (hl : rs.length ≤ 1000000) (hsn : sn.length ≤ 1000000) : Con Tryz.prog 34 [.agg [PV.v (.int .i64 sq), PV.sl false 4 (pvE mem), PV.sl false 1 (pvR rs), PV.sl false 1 (pvI sn)]] [] [.agg [.v (.int .i64 sq), .sl true 4 (pvE mem), .sl true 1 (pvR (ownR rs)), .sl true 1 (pvI sn)]] := by
 refine zAQ func34 rfl rfl rfl rfl ?_
 have hle := zAi rs
 have hlm := zAF mem
 have hls := zAT sn
 refine zAB (zAA rfl (.run [] [1] rfl (zBO rfl 1 rfl rfl (by decide) rfl (by decide)) (.run [] [2] rfl (zAj rfl 2 zBk rfl (by decide) rfl (by decide)) .nil)) ?_)
 refine zAB (zAc zBL rfl (.r rfl (zAC rfl rfl underlying28 rfl sizeOf2 (by decide)) (.r rfl (zAD rfl rfl rfl isAgg2 rfl) (.r rfl (zAC rfl rfl underlying28 rfl sizeOf24 (by decide)) (.r rfl (zAD rfl rfl rfl isAgg24 rfl) (.run [1000] [] rfl (zAK rfl 1000 (X := []) en26 rfl (.val nod) (.cons (.one (.bor (.sl nod))) .nil) (by decide) all_nil .nil (zDt mem (by omega)) rfl rfl (nle rfl)) (.r rfl (zAC rfl rfl underlying28 rfl sizeOf26 (by decide)) (.r rfl (zAD rfl rfl rfl isAgg26 rfl) (.run [1300] [] rfl (zAK rfl 1300 (X := []) en66 rfl (.val nod) (.cons (.one (.bor (.sl nod))) .nil) (by decide) all_nil .nil (zIR sn (by omega)) rfl rfl (nle rfl)) (.r rfl (zBC (pl := [(0, 1), (1, 1), (2, 1), (3, 1)]) rfl underlying28 zBk (by kernel_rfl) rfl rfl) (.run [] [3] rfl (zAj rfl 3 zBk rfl (by decide) rfl (by decide)) (.r rfl (zAE rfl rfl rfl rfl rfl sizeOf28 rfl (nle rfl)) .nil))))))))))) (by kernel_rfl) ?_)
 refine zAB ?_
 refine zAB ?_
 refine zAY (s' := mk [(1, .ptr 1 0), (2, .ptr 2 0), (3, .ptr 3 0)] [(1, [.vi sq, .p none (.sl false 4 (pvE mem)), .p none (.sl false 1 (pvR rs)), .p none (.sl false 1 (pvI sn))]), (2, [.vi 0, .nils, .nils, .nils]), (3, [.vi sq, .sl 1000 0 ((pvE mem).length), .nils, .sl 1300 0 ((pvI sn).length)])] [(1000, 4, pvE mem), (1300, 1, pvI sn)]) ?_ ?_
 · exact zAJ ⟨rfl, rfl, rfl, trivial⟩ ⟨rfl, rfl, rfl, trivial⟩ ⟨rfl, rfl, trivial⟩ rfl
 refine zAA rfl (.r rfl (zAC rfl rfl underlying28 rfl sizeOf25 (by decide)) (.r rfl (zAD rfl rfl rfl isAgg25 rfl) (.r rfl (zAX rfl rfl underlying25) (.m rfl rfl .nil)))) ?_
 refine zAS ?_
 refine zAY (zLj 3 2 1 1 rfl rfl rfl (by decide)) ?_
 refine zAp (σ := Nat) (fun i => mk [(2, .ptr 2 0), (3, .ptr 3 0), (16, .p none (.sl false 1 (pvR rs))), (17, .vi ((pvR rs).length : Int)), (18, .vi (i:Int))] [(2, [.vi 0, .nils, .nils, .nils]), (3, [.vi sq, .sl 1000 0 ((pvE mem).length), .sl 1 0 ((pvR (ownR (rs.take i))).length), .sl 1300 0 ((pvI sn).length)])] [(1, 1, pvR (ownR (rs.take i))), (1000, 4, pvE mem), (1300, 1, pvI sn)]) (fun i => i ≤ rs.length) (fun i => rs.length - i) 0 (by simp) (zAJ ⟨rfl, rfl, rfl, rfl, (zAL (by omega)), trivial⟩ ⟨rfl, rfl, trivial⟩ ⟨(congrArg (fun x => some (1, x)) (by rfl)), rfl, rfl, trivial⟩ rfl) ?_
 rintro i hG
 replace hG : i ≤ rs.length := hG
 have hol := zMI (rs.take i)
 have hvi := zAi (ownR (rs.take i))
 have htl := List.length_take_le i rs
 refine zAB (zAA rfl (.r rfl (zA4 rfl rfl rfl) .nil) ?_)
 refine zAB ?_
 refine zAZ (t := decide ((i:Int) < ((pvR rs).length : Int))) rfl (fun h1 => ?_) (fun h1 => ?_)
 ·
  replace h1 := of_decide_eq_true h1
  refine zAM ?_
  refine zAB ?_
  refine zAS ?_
  refine zAB ?_
  obtain ⟨e, he⟩ : ∃ e, rs[i]? = some e := ⟨_, List.getElem?_eq_getElem (by (have hL := zAi rs; omega))⟩
  have hlte := (List.getElem?_eq_some_iff.1 he).1
  refine zAA rfl (.r rfl (zAh rfl rfl rfl underlying25 sizeOf61 rfl (by omega) (zDH he)) (.r rfl (zA9 rfl rfl isAgg61 sizeOf61 (nle rfl)) (.run [] [5] rfl (zAj rfl 5 zDP rfl (by decide) rfl (by decide)) (.r rfl (zAE rfl rfl rfl rfl rfl sizeOf61 rfl (nle rfl)) .nil)))) ?_
  have hrl := zE6 he
  have hrv := zAF e.2
  refine zAc zBL rfl (.r rfl (zAC rfl rfl underlying28 rfl sizeOf25 (by decide)) (.r rfl (zAD rfl rfl rfl isAgg25 rfl) (.r rfl (zAC rfl rfl underlying61 rfl sizeOf24 (by decide)) (.r rfl (zAD rfl rfl rfl isAgg24 rfl) (.run [2600] [] rfl (zAK rfl 2600 (X := []) en26 rfl (.val nod) (.cons (.one (.bor (.sl nod))) .nil) (by decide) all_nil .nil (zDt e.2 (by omega)) rfl rfl (nle rfl)) (.r rfl (zBC (pl := [(0, 1)]) rfl underlying61 zDP (by kernel_rfl) rfl rfl) (.run [2800, 2600] [] rfl (zAR rfl 2800 underlying25 zDP (nle rfl) (by decide) rfl rfl rfl (.cons (.row rfl rfl) .nil) (by decide) rfl (by decide) rfl (by decide) rfl) (.run [1] [] rfl (zAu rfl 1 (ib := 1) (len := ((pvR (ownR (rs.take i))) ++ [[PV.sl true 4 (pvE e.2)]]).length) rfl rfl (.row (len := (pvR (ownR (rs.take i))).length) (xs := pvR (ownR (rs.take i))) rfl rfl (.inl rfl)) (.give (len := 1) (xs := [[PV.sl true 4 (pvE e.2)]]) rfl rfl) underlying25 (sk underlying25 rfl) zDP rfl (by decide) (by decide) (by decide) List.length_append (by simp only [maxLen, List.length_append, List.length_cons, List.length_nil, List.length_take, zAF, zAi]; omega) (by simp only [maxLen, List.length_append, List.length_cons, List.length_nil, List.length_take, zAF, zAi]; omega)) (.r rfl (zAC rfl rfl underlying28 rfl sizeOf25 (by decide)) (.r rfl (zAE rfl rfl rfl rfl rfl sizeOf25 rfl (nle rfl)) .nil)))))))))) (by kernel_rfl) ?_
  have hr2 : (pvR (ownR (rs.take i))) ++ [[PV.sl true 4 (pvE e.2)]] = pvR (ownR (rs.take (i + 1))) := by exact zJm he
  have hp3 : (some [.vi sq, .sl 1000 0 ((pvE mem).length), .sl 1 0 (((pvR (ownR (rs.take i))) ++ [[PV.sl true 4 (pvE e.2)]]).length), .sl 1300 0 ((pvI sn).length)] : Option (List AV)) = some [.vi sq, .sl 1000 0 ((pvE mem).length), .sl 1 0 ((pvR (ownR (rs.take (i + 1)))).length), .sl 1300 0 ((pvI sn).length)] := by simp only [hr2]
  refine zAY (s' := mk [(2, .ptr 2 0), (3, .ptr 3 0), (16, .p none (.sl false 1 (pvR rs))), (17, .vi ((pvR rs).length : Int)), (18, .vi (i:Int))] [(2, [.vi 0, .nils, .nils, .nils]), (3, [.vi sq, .sl 1000 0 ((pvE mem).length), .sl 1 0 ((pvR (ownR (rs.take (i + 1)))).length), .sl 1300 0 ((pvI sn).length)])] [(1, 1, pvR (ownR (rs.take (i + 1)))), (1000, 4, pvE mem), (1300, 1, pvI sn)]) ?_ ?_
  · exact zAJ ⟨rfl, rfl, rfl, rfl, rfl, trivial⟩ ⟨rfl, hp3, trivial⟩ ⟨(congrArg (fun x => some (1, x)) hr2), rfl, rfl, trivial⟩ rfl
  refine zAA rfl (.r rfl (zAf rfl rfl rfl (by omega)) (.m rfl rfl .nil)) ?_
  refine nxt (Q := fun _ _ => False) (z := i) (i + 1) ?_ ?_ ?_
  ·
   show (i + 1) ≤ rs.length
   omega
  ·
   show rs.length - (i + 1) < rs.length - i
   omega
  · exact zAJ ⟨rfl, rfl, rfl, rfl, (zAL (by omega)), trivial⟩ ⟨rfl, rfl, trivial⟩ ⟨rfl, rfl, rfl, trivial⟩ rfl
 ·
  replace h1 := of_decide_eq_false h1
  refine zAx ?_
  refine zAB (zAA rfl (.r rfl (zAG rfl rfl rfl isAgg28 sizeOf28 (nle rfl)) (.r rfl (zAE rfl rfl rfl rfl rfl sizeOf28 rfl (nle rfl)) .nil)) ?_)
  have hr4 : pvR (ownR (rs.take i)) = pvR (ownR rs) := by rw [List.take_of_length_le (by omega)]
  have hp5 : (some [.vi sq, .sl 1000 0 ((pvE mem).length), .sl 1 0 ((pvR (ownR (rs.take i))).length), .sl 1300 0 ((pvI sn).length)] : Option (List AV)) = some [.vi sq, .sl 1000 0 ((pvE mem).length), .sl 1 0 ((pvR (ownR rs)).length), .sl 1300 0 ((pvI sn).length)] := by simp only [hr4]
  refine zAY (s' := mk [(2, .ptr 2 0)] [(2, [.vi sq, .sl 1000 0 ((pvE mem).length), .sl 1 0 ((pvR (ownR rs)).length), .sl 1300 0 ((pvI sn).length)])] [(1, 1, pvR (ownR rs)), (1000, 4, pvE mem), (1300, 1, pvI sn)]) ?_ ?_
  · exact zAJ ⟨rfl, trivial⟩ ⟨hp5, trivial⟩ ⟨(congrArg (fun x => some (1, x)) hr4), rfl, rfl, trivial⟩ rfl
  refine zAO ?_
  exact ends [_] [1000, 1, 1300] (.cons (.cell rfl rfl isAgg28 sizeOf28 (nle rfl)) .nil) (.cons (.agg (.cons .v (.cons (.row (len := (pvE mem).length) (xs := pvE mem) rfl rfl) (.cons (.row (len := (pvR (ownR rs)).length) (xs := pvR (ownR rs)) rfl rfl) (.cons (.row (len := (pvI sn).length) (xs := pvI sn) rfl rfl) .nil)))) (zAI (.v _) (zAI (.sl _ _ (FlatP.clean (zAd _))) (zAI (zC4 _) (zAI (.sl _ _ (FlatP.clean (zA3 _))) zBE))))) .nil) (by decide) trivial
theorem zNF (a b : List Ent) (hl : (a ++ b).length ≤ 2000000) (hd : Dist cmpK (a ++ b)) : Con Tryz.prog 37 [.one (PV.sl false 4 (pvE a ++ pvE b))] [] [.one (.sl true 4 (pvE (zB4 cmpK (a ++ b))))] := by
 rw [zGy]
 exact zH9 (a ++ b) hl hd
theorem zOr (sq : Int) (mem : List Ent) (rs : RunL) (sn : List Int) (hn : mem.length + (ents rs).length ≤ 900000) (hl : rs.length ≤ 1000000) (hsn : sn.length ≤ 1000000) (hd : Dist cmpK (mem ++ ents rs)) : Con Tryz.prog 44 [.agg [PV.v (.int .i64 sq), PV.sl false 4 (pvE mem), PV.sl false 1 (pvR rs), PV.sl false 1 (pvI sn)]] [] [.one (.sl true 4 (pvE (zB4 cmpK (mem ++ ents rs))))] := by
 refine zAQ func44 rfl rfl rfl rfl ?_
 have hle := zAi rs
 have hlm := zAF mem
 have hls := zAT sn
 have hle2 := zAF (ents rs)
 refine zAB (zAA rfl (.run [] [1] rfl (zBO rfl 1 rfl rfl (by decide) rfl (by decide)) (.a rfl rfl .nil)) ?_)
 refine zAB (zAc zBL rfl (.r rfl (zAC rfl rfl underlying28 rfl sizeOf24 (by decide)) (.r rfl (zAD rfl rfl rfl isAgg24 rfl) (.run [500] [] rfl (zAK rfl 500 (X := []) en26 rfl (.val nod) (.cons (.one (.bor (.sl nod))) .nil) (by decide) all_nil .nil (zDt mem (by omega)) rfl rfl (nle rfl)) (.r rfl (zAC rfl rfl underlying28 rfl sizeOf25 (by decide)) (.r rfl (zAD rfl rfl rfl isAgg25 rfl) (.run [800] [] rfl (zAK rfl 800 (X := []) en25 rfl (.val nod) (.cons (.one (.bor (.sl nod))) .nil) (by decide) all_nil .nil (zDm rs (by omega) (by omega)) rfl rfl (nle rfl)) (.run [500] [] rfl (zAu rfl 500 (ib := 500) (len := ((pvE mem) ++ (pvE (ents rs))).length) rfl rfl (.row (len := (pvE mem).length) (xs := pvE mem) rfl rfl (.inl rfl)) (.give (len := (pvE (ents rs)).length) (xs := pvE (ents rs)) rfl rfl) underlying24 (sk underlying24 rfl) zBb rfl (by decide) (by decide) (by decide) List.length_append (by simp only [maxLen, List.length_append, List.length_cons, List.length_nil, zAF]; omega) (by simp only [maxLen, List.length_append, List.length_cons, List.length_nil, zAF]; omega)) (.run [500, 1000] [] rfl (zAK rfl 1000 (X := []) en37 rfl (.val nod) (.cons (.one (.bor (.all (len := ((pvE mem) ++ (pvE (ents rs))).length) (xs := (pvE mem) ++ (pvE (ents rs))) rfl rfl (by decide)))) .nil) (by decide) all_nil .nil (zNF mem (ents rs) (by rw [List.length_append]; omega) hd) rfl rfl (nle rfl)) (.a rfl rfl .nil))))))))) (by kernel_rfl) ?_)
 refine zAO ?_
 exact ends [_] [1000] (.cons (.tmp rfl) .nil) (.cons (.one (.row (len := (pvE (zB4 cmpK (mem ++ ents rs))).length) (xs := pvE (zB4 cmpK (mem ++ ents rs))) rfl rfl) (.sl _ _ (FlatP.clean (zAd _)))) .nil) (by decide) trivial
theorem zJe (sq : Int) (mem : List Ent) (rs : RunL) (sn : List Int) (hm : mem.length ≤ 2000000) (hl : rs.length ≤ 1000000) (hb : ∀ r ∈ rs, r.2.length ≤ 2000000) (hsn : sn.length ≤ 1000000) : Con Tryz.prog 8 [.agg [PV.v (.int .i64 sq), PV.sl false 4 (pvE mem), PV.sl false 1 (pvR rs), PV.sl false 1 (pvI sn)]] [] [.one (.v (.bool (zBV sq mem rs sn)))] := by
 refine zAQ func8 rfl rfl rfl rfl ?_
 have hle := zAi rs
 have hlm := zAF mem
 have hls := zAT sn
 refine zAB (zAA rfl (.run [] [1] rfl (zBO rfl 1 rfl rfl (by decide) rfl (by decide)) (.a rfl rfl .nil)) ?_)
 refine zAB ?_
 refine zAB ?_
 refine zAY (s' := mk [(1, .ptr 1 0)] [(1, [.vi sq, .p none (.sl false 4 (pvE mem)), .p none (.sl false 1 (pvR rs)), .p none (.sl false 1 (pvI sn))])] []) ?_ ?_
 · exact zAJ ⟨rfl, trivial⟩ ⟨rfl, trivial⟩ trivial rfl
 rcases bfc (!(zAs sq 0 1000000000000)) with h1 | h1
 ·
  have h1' := h1
  replace h1' : (zAs sq 0 1000000000000) = true := zBG h1'
  rcases bfc (!(zAr mem)) with h2 | h2
  ·
   have h2' := h2
   replace h2' : (zAr mem) = true := zBG h2'
   rcases bfc (!(zBQ rs)) with h3 | h3
   ·
    have h3' := h3
    replace h3' : (zBQ rs) = true := zBG h3'
    refine zAA rfl (.r rfl (zAC rfl rfl underlying28 rfl sizeOf2 (by decide)) (.r rfl (zAD rfl rfl rfl isAgg2 rfl) (.run [1500] [] rfl (zAK rfl 1500 (X := []) en29 rfl (.val nod) (.cons (.one (.bor .v)) (.cons (.one (.bor .v)) (.cons (.one (.bor .v)) .nil))) (by decide) all_nil .nil (zCm sq 0 1000000000000) rfl rfl (nle rfl)) (.r rfl (zAW (zA5 (b := zAs sq 0 1000000000000) rfl rfl) (zAN h1)) (.m rfl rfl (.r rfl (zAC rfl rfl underlying28 rfl sizeOf24 (by decide)) (.r rfl (zAD rfl rfl rfl isAgg24 rfl) (.run [2000] [] rfl (zAK rfl 2000 (X := []) en30 rfl (.val nod) (.cons (.one (.bor (.sl nod))) .nil) (by decide) all_nil .nil (zCL mem (by omega)) rfl rfl (nle rfl)) (.r rfl (zAW (zA5 (b := zAr mem) rfl rfl) (zAN h2)) (.r rfl (zBI rfl rfl) (.m rfl rfl (.r rfl (zAC rfl rfl underlying28 rfl sizeOf25 (by decide)) (.r rfl (zAD rfl rfl rfl isAgg25 rfl) (.run [2600] [] rfl (zAK rfl 2600 (X := []) en31 rfl (.val nod) (.cons (.one (.bor (.sl nod))) .nil) (by decide) all_nil .nil (zEr rs (by omega) hb) rfl rfl (nle rfl)) (.r rfl (zAW (zA5 (b := zBQ rs) rfl rfl) (zAN h3)) (.r rfl (zBI rfl rfl) (.m rfl rfl (.r rfl (zAC rfl rfl underlying28 rfl sizeOf26 (by decide)) (.r rfl (zAD rfl rfl rfl isAgg26 rfl) (.run [3200] [] rfl (zAK rfl 3200 (X := []) en32 rfl (.val nod) (.cons (.one (.bor (.sl nod))) .nil) (by decide) all_nil .nil (zGo sn (by omega)) rfl rfl (nle rfl)) (.r rfl (zA5 (b := zBP sn) rfl rfl) (.r rfl (zBI rfl rfl) .nil)))))))))))))))))))))) ?_
    refine zAZ (t := (!(zBP sn))) rfl (fun h4 => ?_) (fun h4 => ?_)
    ·
     replace h4 : (zBP sn) = false := zBF h4
     refine zAB ?_
     refine zAY (s' := mk [] [] []) ?_ ?_
     · exact zAJ trivial trivial trivial rfl
     refine zAA rfl (.a rfl rfl .nil) ?_
     refine zAO ?_
     exact ends [_] [] (.cons (.tmp (zAN (zGd (zO9 (by simpa using h4))))) .nil) (.cons (.one .v (.v _)) .nil) (by decide) trivial
    ·
     replace h4 : (zBP sn) = true := zBG h4
     refine zAM ?_
     refine zAB ?_
     have hbase : zBe sq mem rs sn = true := by simp_all [zBe]
     have hbm := zDq (l := mem) (by assumption)
     have hbr := zFS (rs := rs) (by assumption)
     have hbs := zFQ (sn := sn) (by assumption)
     refine zAY (s' := mk [(1, .ptr 1 0)] [(1, [.vi sq, .p none (.sl false 4 (pvE mem)), .p none (.sl false 1 (pvR rs)), .p none (.sl false 1 (pvI sn))])] []) ?_ ?_
     · exact zAJ ⟨rfl, trivial⟩ ⟨rfl, trivial⟩ trivial rfl
     refine zAA rfl (.r rfl (zAC rfl rfl underlying28 rfl sizeOf24 (by decide)) (.r rfl (zAD rfl rfl rfl isAgg24 rfl) (.r rfl (zAX rfl rfl underlying24) (.a rfl rfl .nil)))) ?_
     refine zAB ?_
     refine zAB (zAA rfl (.a rfl rfl .nil) ?_)
     refine zAS ?_
     refine zAp (σ := Nat) (fun i => mk [(1, .ptr 1 0), (3, .vi ((mem.length + (ents (rs.take i)).length : Nat) : Int)), (4, .vi (i:Int))] [(1, [.vi sq, .p none (.sl false 4 (pvE mem)), .p none (.sl false 1 (pvR rs)), .p none (.sl false 1 (pvI sn))])] []) (fun i => i ≤ rs.length) (fun i => rs.length - i) 0 (by simp) (zAJ ⟨rfl, (zAL (by rw [zAF]; rfl)), (zAL (by omega)), trivial⟩ ⟨rfl, trivial⟩ trivial rfl) ?_
     rintro i hG
     replace hG : i ≤ rs.length := hG
     have hti := zD8 rs i
     refine zAB ?_
     refine zAB (zAA rfl (.m rfl rfl (.r rfl (zAC rfl rfl underlying28 rfl sizeOf25 (by decide)) (.r rfl (zAD rfl rfl rfl isAgg25 rfl) (.r rfl (zAX rfl rfl underlying25) (.r rfl (zA4 rfl rfl rfl) .nil))))) ?_)
     refine zAZ (t := decide ((i:Int) < ((pvR rs).length : Int))) rfl (fun h5 => ?_) (fun h5 => ?_)
     ·
      replace h5 := of_decide_eq_true h5
      refine zAM ?_
      refine zAB ?_
      refine zAS ?_
      obtain ⟨e, he⟩ : ∃ e, rs[i]? = some e := ⟨_, List.getElem?_eq_getElem (by omega)⟩
      have hrl := zE6 he
      have hrv := zAF e.2
      refine zAA rfl (.m rfl rfl (.r rfl (zAC rfl rfl underlying28 rfl sizeOf25 (by decide)) (.r rfl (zAD rfl rfl rfl isAgg25 rfl) (.m rfl rfl (.r rfl (zAh rfl rfl rfl underlying25 sizeOf61 rfl (by omega) (zDH he)) (.r rfl (zAo rfl rfl underlying61 rfl sizeOf24 (by decide)) (.r rfl (zAg rfl rfl isAgg24 rfl) (.r rfl (zAX rfl rfl underlying24) (.r rfl (zAf rfl rfl rfl (by omega)) (.a rfl rfl .nil)))))))))) ?_
      refine zAY (s' := mk [(1, .ptr 1 0), (3, .vi (((mem.length + (ents (rs.take i)).length : Nat) : Int) + ((pvE e.2).length : Int))), (4, .vi (i:Int))] [(1, [.vi sq, .p none (.sl false 4 (pvE mem)), .p none (.sl false 1 (pvR rs)), .p none (.sl false 1 (pvI sn))])] []) ?_ ?_
      · exact zAJ ⟨rfl, rfl, rfl, trivial⟩ ⟨rfl, trivial⟩ trivial rfl
      refine zAA rfl (.m rfl rfl (.r rfl (zAf rfl rfl rfl (by omega)) (.a rfl rfl .nil))) ?_
      refine nxt (Q := fun _ _ => False) (z := i) (i + 1) ?_ ?_ ?_
      ·
       show (i + 1) ≤ rs.length
       omega
      ·
       show rs.length - (i + 1) < rs.length - i
       omega
      · exact zAJ ⟨rfl, (zAL (by rw [zES he, List.length_append, zAF]; omega)), (zAL (by omega)), trivial⟩ ⟨rfl, trivial⟩ trivial rfl
     ·
      replace h5 := of_decide_eq_false h5
      refine zAx ?_
      refine zAB ?_
      have hall : ents (rs.take i) = ents rs := by rw [List.take_of_length_le (by omega)]
      have hal := congrArg List.length hall
      have hva := zAF (allS mem rs)
      refine zAA rfl (.r rfl (zAG rfl rfl rfl isAgg28 sizeOf28 (nle rfl)) (.run [5500] [] rfl (zAK rfl 5500 (X := []) en33 rfl (.val nod) (.cons (.agg (.cons (.bor .v) (.cons (.bor (.sl nod)) (.cons (.bor (.sl nod)) (.cons (.bor (.sl nod)) .nil))))) .nil) (by decide) all_nil .nil (zIF sq mem rs sn (by omega) hl) rfl rfl (nle rfl)) (.a rfl rfl .nil))) ?_
      refine zAB ?_
      refine zAB ?_
      rcases bfc (decide (400 < ((mem.length + (ents (rs.take i)).length : Nat) : Int))) with h6 | h6
      ·
       have h6' := h6
       replace h6' := of_decide_eq_false h6'
       refine zAA rfl (.m rfl rfl (.r rfl (zAW (zBN rfl rfl rfl) (zAN h6)) (.m rfl rfl (.m rfl rfl (.m rfl rfl (.r rfl (zAy rfl rfl underlying24) (.r rfl (zCg rfl rfl rfl) (.r rfl (zBI rfl rfl) .nil)))))))) ?_
       refine zAZ (t := (!(decide (((mem.length + (ents (rs.take i)).length : Nat) : Int) = ((pvE (allS mem rs)).length : Int))))) rfl (fun h7 => ?_) (fun h7 => ?_)
       ·
        replace h7 : ¬ (((mem.length + (ents (rs.take i)).length : Nat) : Int) = ((pvE (allS mem rs)).length : Int)) := of_decide_eq_false (zBF h7)
        refine zAB ?_
        refine zAY (s' := mk [] [] []) ?_ ?_
        · exact zAJ trivial trivial trivial rfl
        refine zAA rfl (.a rfl rfl .nil) ?_
        refine zAO ?_
        exact ends [_] [] (.cons (.tmp (zAN (zIM (fun q => by have := q.all; omega)))) .nil) (.cons (.one .v (.v _)) .nil) (by decide) trivial
       ·
        replace h7 : ((mem.length + (ents (rs.take i)).length : Nat) : Int) = ((pvE (allS mem rs)).length : Int) := of_decide_eq_true (zBG h7)
        refine zAM ?_
        refine zAB ?_
        refine zAB ?_
        refine zAY (s' := mk [(1, .ptr 1 0), (5, .sl 5500 0 ((pvE (allS mem rs)).length))] [(1, [.vi sq, .p none (.sl false 4 (pvE mem)), .p none (.sl false 1 (pvR rs)), .p none (.sl false 1 (pvI sn))])] [(5500, 4, pvE (allS mem rs))]) ?_ ?_
        · exact zAJ ⟨rfl, rfl, trivial⟩ ⟨rfl, trivial⟩ ⟨rfl, trivial⟩ rfl
        refine zAA rfl (.a rfl rfl .nil) ?_
        refine zAS ?_
        refine zAp (σ := Nat) (fun i1 => mk [(1, .ptr 1 0), (5, .sl 5500 0 ((pvE (allS mem rs)).length)), (6, .vi (i1:Int))] [(1, [.vi sq, .p none (.sl false 4 (pvE mem)), .p none (.sl false 1 (pvR rs)), .p none (.sl false 1 (pvI sn))])] [(5500, 4, pvE (allS mem rs))]) (fun i1 => i1 ≤ (allS mem rs).length ∧ Seqs sq (allS mem rs) i1) (fun i1 => (allS mem rs).length - i1) 0 ⟨Nat.zero_le _, zJg _ _⟩ (zAJ ⟨rfl, rfl, (zAL (by omega)), trivial⟩ ⟨rfl, trivial⟩ ⟨rfl, trivial⟩ rfl) ?_
        rintro i1 hG
        replace hG : i1 ≤ (allS mem rs).length ∧ Seqs sq (allS mem rs) i1 := hG
        obtain ⟨hi1, hS⟩ := hG
        refine zAB ?_
        refine zAB (zAA rfl (.m rfl rfl (.m rfl rfl (.r rfl (zAy rfl rfl underlying24) (.r rfl (zA4 rfl rfl rfl) .nil)))) ?_)
        refine zAZ (t := decide ((i1:Int) < ((pvE (allS mem rs)).length : Int))) rfl (fun h8 => ?_) (fun h8 => ?_)
        ·
         replace h8 := of_decide_eq_true h8
         refine zAM ?_
         refine zAB ?_
         refine zAS ?_
         refine zAB ?_
         refine zAB ?_
         obtain ⟨x, hx⟩ : ∃ x, (allS mem rs)[i1]? = some x := ⟨_, List.getElem?_eq_getElem (by omega)⟩
         refine zAc zBL rfl (.m rfl rfl (.m rfl rfl (.r rfl (zAe i1 rfl rfl rfl rfl underlying24 sizeOf56 rfl rfl (by omega)) (.r rfl (zBa rfl rfl underlying56 rfl sizeOf54 (by decide)) (.r rfl (zBa rfl rfl underlying54 rfl sizeOf2 (by decide)) (.r rfl (zA6 rfl rfl rfl (zA0 hx) isAgg2 rfl) (.r rfl (zAC rfl rfl underlying28 rfl sizeOf2 (by decide)) (.r rfl (zAD rfl rfl rfl isAgg2 rfl) (.r rfl (zBN rfl rfl rfl) .nil))))))))) (by kernel_rfl) ?_
         refine zAZ (t := decide (sq < x.seq)) rfl (fun h9 => ?_) (fun h9 => ?_)
         ·
          replace h9 := of_decide_eq_true h9
          refine zAB (zAA rfl (.a rfl rfl .nil) ?_)
          refine zAO ?_
          exact ends [_] [] (.cons (.tmp (zAN (zIM (no_seq hx h9)))) .nil) (.cons (.one .v (.v _)) .nil) (by decide) trivial
         ·
          replace h9 := of_decide_eq_false h9
          refine zAM ?_
          refine zAB (zAA rfl (.a rfl rfl .nil) ?_)
          refine zAS ?_
          refine zAp (σ := Nat) (fun k => mk [(1, .ptr 1 0), (5, .sl 5500 0 ((pvE (allS mem rs)).length)), (6, .vi (i1:Int)), (7, .vi (k:Int))] [(1, [.vi sq, .p none (.sl false 4 (pvE mem)), .p none (.sl false 1 (pvR rs)), .p none (.sl false 1 (pvI sn))])] [(5500, 4, pvE (allS mem rs))]) (fun k => k ≤ i1 ∧ zGM (allS mem rs) x k) (fun k => i1 - k) 0 ⟨Nat.zero_le _, zKd _ _⟩ (zAJ ⟨rfl, rfl, rfl, (zAL (by omega)), trivial⟩ ⟨rfl, trivial⟩ ⟨rfl, trivial⟩ rfl) ?_
          rintro k hG
          replace hG : k ≤ i1 ∧ zGM (allS mem rs) x k := hG
          obtain ⟨hk, hUn⟩ := hG
          refine zAB ?_
          refine zAB (zAA rfl (.m rfl rfl (.m rfl rfl (.r rfl (zA4 rfl rfl rfl) .nil))) ?_)
          refine zAZ (t := decide ((k:Int) < (i1:Int))) rfl (fun h10 => ?_) (fun h10 => ?_)
          ·
           replace h10 := of_decide_eq_true h10
           refine zAM ?_
           refine zAB ?_
           refine zAS ?_
           refine zAB ?_
           obtain ⟨y, hy⟩ : ∃ y, (allS mem rs)[k]? = some y := ⟨_, List.getElem?_eq_getElem (by omega)⟩
           refine zAc zBL rfl (.m rfl rfl (.m rfl rfl (.r rfl (zAe k rfl rfl rfl rfl underlying24 sizeOf56 rfl rfl (by omega)) (.r rfl (zBa rfl rfl underlying56 rfl sizeOf54 (by decide)) (.r rfl (zBa rfl rfl underlying54 rfl sizeOf2 (by decide)) (.r rfl (zA6 rfl rfl rfl (zA0 hy) isAgg2 rfl) (.m rfl rfl (.m rfl rfl (.r rfl (zAe i1 rfl rfl rfl rfl underlying24 sizeOf56 rfl rfl (by omega)) (.r rfl (zBa rfl rfl underlying56 rfl sizeOf54 (by decide)) (.r rfl (zBa rfl rfl underlying54 rfl sizeOf2 (by decide)) (.r rfl (zA6 rfl rfl rfl (zA0 hx) isAgg2 rfl) (.r rfl (zA8 rfl rfl rfl) .nil))))))))))))) (by kernel_rfl) ?_
           refine zAZ (t := decide (y.seq = x.seq)) rfl (fun h11 => ?_) (fun h11 => ?_)
           ·
            replace h11 := of_decide_eq_true h11
            refine zAB ?_
            refine zAY (s' := mk [] [] []) ?_ ?_
            · exact zAJ trivial trivial trivial rfl
            refine zAA rfl (.a rfl rfl .nil) ?_
            refine zAO ?_
            exact ends [_] [] (.cons (.tmp (zAN (zIM (no_like hx hy (by omega) h11)))) .nil) (.cons (.one .v (.v _)) .nil) (by decide) trivial
           ·
            replace h11 := of_decide_eq_false h11
            refine zAM ?_
            refine zAY (s' := mk [(1, .ptr 1 0), (5, .sl 5500 0 ((pvE (allS mem rs)).length)), (6, .vi (i1:Int)), (7, .vi (k:Int))] [(1, [.vi sq, .p none (.sl false 4 (pvE mem)), .p none (.sl false 1 (pvR rs)), .p none (.sl false 1 (pvI sn))])] [(5500, 4, pvE (allS mem rs))]) ?_ ?_
            · exact zAJ ⟨rfl, rfl, rfl, rfl, trivial⟩ ⟨rfl, trivial⟩ ⟨rfl, trivial⟩ rfl
            refine zAA rfl (.m rfl rfl (.r rfl (zAf rfl rfl rfl (by omega)) (.a rfl rfl .nil))) ?_
            refine nxt (Q := fun _ _ => False) (z := k) (k + 1) ?_ ?_ ?_
            ·
             show (k + 1) ≤ i1 ∧ zGM (allS mem rs) x (k + 1)
             exact ⟨by omega, zKe hUn hy h11⟩
            ·
             show i1 - (k + 1) < i1 - k
             omega
            · exact zAJ ⟨rfl, rfl, rfl, (zAL (by omega)), trivial⟩ ⟨rfl, trivial⟩ ⟨rfl, trivial⟩ rfl
          ·
           replace h10 := of_decide_eq_false h10
           refine zAx ?_
           refine zAA rfl (.m rfl rfl (.r rfl (zAf rfl rfl rfl (by omega)) (.a rfl rfl .nil))) ?_
           refine nxt (Q := fun _ _ => False) (z := i1) (i1 + 1) ?_ ?_ ?_
           ·
            show (i1 + 1) ≤ (allS mem rs).length ∧ Seqs sq (allS mem rs) (i1 + 1)
            exact ⟨by omega, zJh hS hx h9 (fun k2 y hk2 hy2 => hUn k2 y (by omega) hy2)⟩
           ·
            show (allS mem rs).length - (i1 + 1) < (allS mem rs).length - i1
            omega
           · exact zAJ ⟨rfl, rfl, (zAL (by omega)), trivial⟩ ⟨rfl, trivial⟩ ⟨rfl, trivial⟩ rfl
        ·
         replace h8 := of_decide_eq_false h8
         refine zAx ?_
         refine zAB ?_
         refine zAB (zAA rfl (.a rfl rfl .nil) ?_)
         refine zAS ?_
         refine zAp (σ := Nat) (fun i3 => mk [(1, .ptr 1 0), (8, .vi (i3:Int))] [(1, [.vi sq, .p none (.sl false 4 (pvE mem)), .p none (.sl false 1 (pvR rs)), .p none (.sl false 1 (pvI sn))])] []) (fun i3 => i3 ≤ sn.length ∧ UpTo sq sn i3) (fun i3 => sn.length - i3) 0 ⟨Nat.zero_le _, zNi _ _⟩ (zAJ ⟨rfl, (zAL (by omega)), trivial⟩ ⟨rfl, trivial⟩ trivial rfl) ?_
         rintro i3 hG
         replace hG : i3 ≤ sn.length ∧ UpTo sq sn i3 := hG
         obtain ⟨hi3, hU⟩ := hG
         refine zAB ?_
         refine zAB (zAA rfl (.m rfl rfl (.r rfl (zAC rfl rfl underlying28 rfl sizeOf26 (by decide)) (.r rfl (zAD rfl rfl rfl isAgg26 rfl) (.r rfl (zAX rfl rfl underlying26) (.r rfl (zA4 rfl rfl rfl) .nil))))) ?_)
         refine zAZ (t := decide ((i3:Int) < ((pvI sn).length : Int))) rfl (fun h12 => ?_) (fun h12 => ?_)
         ·
          replace h12 := of_decide_eq_true h12
          refine zAM ?_
          refine zAB ?_
          refine zAS ?_
          refine zAB ?_
          obtain ⟨e, he⟩ : ∃ e, sn[i3]? = some e := ⟨_, List.getElem?_eq_getElem (by omega)⟩
          refine zAc zBL rfl (.r rfl (zAC rfl rfl underlying28 rfl sizeOf26 (by decide)) (.r rfl (zAD rfl rfl rfl isAgg26 rfl) (.m rfl rfl (.r rfl (zAh rfl rfl rfl underlying26 sizeOf2 rfl (by omega) (zB0 he)) (.r rfl (zAg rfl rfl isAgg2 rfl) (.r rfl (zAC rfl rfl underlying28 rfl sizeOf2 (by decide)) (.r rfl (zAD rfl rfl rfl isAgg2 rfl) (.r rfl (zBN rfl rfl rfl) .nil)))))))) (by kernel_rfl) ?_
          refine zAZ (t := decide (sq < e)) rfl (fun h13 => ?_) (fun h13 => ?_)
          ·
           replace h13 := of_decide_eq_true h13
           refine zAB (zAA rfl (.a rfl rfl .nil) ?_)
           refine zAO ?_
           exact ends [_] [] (.cons (.tmp (zAN (zIM (no_snap he h13)))) .nil) (.cons (.one .v (.v _)) .nil) (by decide) trivial
          ·
           replace h13 := of_decide_eq_false h13
           refine zAM ?_
           refine zAA rfl (.m rfl rfl (.r rfl (zAf rfl rfl rfl (by omega)) (.a rfl rfl .nil))) ?_
           refine nxt (Q := fun _ _ => False) (z := i3) (i3 + 1) ?_ ?_ ?_
           ·
            show (i3 + 1) ≤ sn.length ∧ UpTo sq sn (i3 + 1)
            exact ⟨by omega, zNj hU he h13⟩
           ·
            show sn.length - (i3 + 1) < sn.length - i3
            omega
           · exact zAJ ⟨rfl, (zAL (by omega)), trivial⟩ ⟨rfl, trivial⟩ trivial rfl
         ·
          replace h12 := of_decide_eq_false h12
          refine zAx ?_
          refine zAB (zAA rfl (.a rfl rfl .nil) ?_)
          refine zAB ?_
          refine zAB (zAA rfl (.a rfl rfl .nil) ?_)
          refine zAS ?_
          refine zAp (σ := Nat) (fun i4 => mk [(1, .ptr 1 0), (9, .vi (zCb (mem.take i4))), (10, .vi (i4:Int))] [(1, [.vi sq, .p none (.sl false 4 (pvE mem)), .p none (.sl false 1 (pvR rs)), .p none (.sl false 1 (pvI sn))])] []) (fun i4 => i4 ≤ mem.length) (fun i4 => mem.length - i4) 0 (by simp) (zAJ ⟨rfl, (zAL (by rfl)), (zAL (by omega)), trivial⟩ ⟨rfl, trivial⟩ trivial rfl) ?_
          rintro i4 hG
          replace hG : i4 ≤ mem.length := hG
          refine zAB ?_
          refine zAB (zAA rfl (.m rfl rfl (.r rfl (zAC rfl rfl underlying28 rfl sizeOf24 (by decide)) (.r rfl (zAD rfl rfl rfl isAgg24 rfl) (.r rfl (zAX rfl rfl underlying24) (.r rfl (zA4 rfl rfl rfl) .nil))))) ?_)
          refine zAZ (t := decide ((i4:Int) < ((pvE mem).length : Int))) rfl (fun h14 => ?_) (fun h14 => ?_)
          ·
           replace h14 := of_decide_eq_true h14
           refine zAM ?_
           refine zAB ?_
           refine zAS ?_
           obtain ⟨e, he⟩ : ∃ e, mem[i4]? = some e := ⟨_, List.getElem?_eq_getElem (by omega)⟩
           refine zAA rfl (.m rfl rfl (.r rfl (zAC rfl rfl underlying28 rfl sizeOf24 (by decide)) (.r rfl (zAD rfl rfl rfl isAgg24 rfl) (.m rfl rfl (.r rfl (zAh rfl rfl rfl underlying24 sizeOf56 rfl (by omega) (zA0 he)) (.r rfl (zAo rfl rfl underlying56 rfl sizeOf54 (by decide)) (.r rfl (zAo rfl rfl underlying54 rfl sizeOf2 (by decide)) (.r rfl (zAg rfl rfl isAgg2 rfl) (.r rfl (st_min rfl rfl rfl) (.a rfl rfl .nil)))))))))) ?_
           refine zAY (s' := mk [(1, .ptr 1 0), (9, .vi (min (zCb (mem.take i4)) e.seq)), (10, .vi (i4:Int))] [(1, [.vi sq, .p none (.sl false 4 (pvE mem)), .p none (.sl false 1 (pvR rs)), .p none (.sl false 1 (pvI sn))])] []) ?_ ?_
           · exact zAJ ⟨rfl, rfl, rfl, trivial⟩ ⟨rfl, trivial⟩ trivial rfl
           refine zAA rfl (.m rfl rfl (.r rfl (zAf rfl rfl rfl (by omega)) (.a rfl rfl .nil))) ?_
           refine nxt (Q := fun _ _ => False) (z := i4) (i4 + 1) ?_ ?_ ?_
           ·
            show (i4 + 1) ≤ mem.length
            omega
           ·
            show mem.length - (i4 + 1) < mem.length - i4
            omega
           · exact zAJ ⟨rfl, (zAL (by rw [zNI he])), (zAL (by omega)), trivial⟩ ⟨rfl, trivial⟩ trivial rfl
          ·
           replace h14 := of_decide_eq_false h14
           refine zAx ?_
           refine zAB ?_
           refine zAB ?_
           have hlst : zCb (mem.take i4) = zCb mem := by rw [List.take_of_length_le (by omega)]
           refine zAA rfl (.a rfl rfl .nil) ?_
           refine zAS ?_
           refine zAp (σ := Nat) (fun i5 => mk [(1, .ptr 1 0), (9, .vi (zCb (mem.take i4))), (11, .vi (i5:Int))] [(1, [.vi sq, .p none (.sl false 4 (pvE mem)), .p none (.sl false 1 (pvR rs)), .p none (.sl false 1 (pvI sn))])] []) (fun i5 => i5 ≤ rs.length ∧ zGN (zCb mem) rs i5) (fun i5 => rs.length - i5) 0 ⟨Nat.zero_le _, zLQ _ _⟩ (zAJ ⟨rfl, rfl, (zAL (by omega)), trivial⟩ ⟨rfl, trivial⟩ trivial rfl) ?_
           rintro i5 hG
           replace hG : i5 ≤ rs.length ∧ zGN (zCb mem) rs i5 := hG
           obtain ⟨hi5, hB⟩ := hG
           refine zAB ?_
           refine zAB (zAA rfl (.m rfl rfl (.r rfl (zAC rfl rfl underlying28 rfl sizeOf25 (by decide)) (.r rfl (zAD rfl rfl rfl isAgg25 rfl) (.r rfl (zAX rfl rfl underlying25) (.r rfl (zA4 rfl rfl rfl) .nil))))) ?_)
           refine zAZ (t := decide ((i5:Int) < ((pvR rs).length : Int))) rfl (fun h15 => ?_) (fun h15 => ?_)
           ·
            replace h15 := of_decide_eq_true h15
            refine zAM ?_
            refine zAB ?_
            refine zAS ?_
            refine zAB ?_
            obtain ⟨r, hr⟩ : ∃ r, rs[i5]? = some r := ⟨_, List.getElem?_eq_getElem (by omega)⟩
            have hrv := zAF r.2
            have hrl := zE6 hr
            refine zAA rfl (.a rfl rfl .nil) ?_
            refine zAS ?_
            refine zAp (σ := Nat) (fun k6 => mk [(1, .ptr 1 0), (9, .vi (zCb (mem.take i4))), (11, .vi (i5:Int)), (12, .vi (k6:Int))] [(1, [.vi sq, .p none (.sl false 4 (pvE mem)), .p none (.sl false 1 (pvR rs)), .p none (.sl false 1 (pvI sn))])] []) (fun k6 => k6 ≤ r.2.length ∧ zGO (zCb mem) r.2 k6) (fun k6 => r.2.length - k6) 0 ⟨Nat.zero_le _, zLT _ _⟩ (zAJ ⟨rfl, rfl, rfl, (zAL (by omega)), trivial⟩ ⟨rfl, trivial⟩ trivial rfl) ?_
            rintro k6 hG
            replace hG : k6 ≤ r.2.length ∧ zGO (zCb mem) r.2 k6 := hG
            obtain ⟨hk6, hB1⟩ := hG
            refine zAB ?_
            refine zAB (zAA rfl (.m rfl rfl (.r rfl (zAC rfl rfl underlying28 rfl sizeOf25 (by decide)) (.r rfl (zAD rfl rfl rfl isAgg25 rfl) (.m rfl rfl (.r rfl (zAh rfl rfl rfl underlying25 sizeOf61 rfl (by omega) (zDH hr)) (.r rfl (zAo rfl rfl underlying61 rfl sizeOf24 (by decide)) (.r rfl (zAg rfl rfl isAgg24 rfl) (.r rfl (zAX rfl rfl underlying24) (.r rfl (zA4 rfl rfl rfl) .nil))))))))) ?_)
            refine zAZ (t := decide ((k6:Int) < ((pvE r.2).length : Int))) rfl (fun h16 => ?_) (fun h16 => ?_)
            ·
             replace h16 := of_decide_eq_true h16
             refine zAM ?_
             refine zAB ?_
             refine zAS ?_
             refine zAB ?_
             obtain ⟨x, hx⟩ : ∃ x, r.2[k6]? = some x := ⟨_, List.getElem?_eq_getElem (by omega)⟩
             refine zAY (s' := mk [(1, .ptr 1 0), (9, .vi (zCb (mem.take i4))), (11, .vi (i5:Int)), (12, .vi (k6:Int))] [(1, [.vi sq, .p none (.sl false 4 (pvE mem)), .p none (.sl false 1 (pvR rs)), .p none (.sl false 1 (pvI sn))])] []) ?_ ?_
             · exact zAJ ⟨rfl, rfl, rfl, rfl, trivial⟩ ⟨rfl, trivial⟩ trivial rfl
             refine zAA rfl (.r rfl (zAC rfl rfl underlying28 rfl sizeOf25 (by decide)) (.r rfl (zAD rfl rfl rfl isAgg25 rfl) (.m rfl rfl (.r rfl (zAh rfl rfl rfl underlying25 sizeOf61 rfl (by omega) (zDH hr)) (.r rfl (zAo rfl rfl underlying61 rfl sizeOf24 (by decide)) (.r rfl (zAg rfl rfl isAgg24 rfl) (.m rfl rfl (.r rfl (zAh rfl rfl rfl underlying24 sizeOf56 rfl (by omega) (zA0 hx)) (.r rfl (zAo rfl rfl underlying56 rfl sizeOf54 (by decide)) (.r rfl (zAo rfl rfl underlying54 rfl sizeOf2 (by decide)) (.r rfl (zAg rfl rfl isAgg2 rfl) (.m rfl rfl (.r rfl (zCQ rfl rfl rfl) .nil))))))))))))) ?_
             refine zAZ (t := decide ((zCb (mem.take i4)) ≤ x.seq)) rfl (fun h17 => ?_) (fun h17 => ?_)
             ·
              replace h17 := of_decide_eq_true h17
              refine zAB (zAA rfl (.a rfl rfl .nil) ?_)
              refine zAO ?_
              exact ends [_] [] (.cons (.tmp (zAN (zIM (zP4 hr hx (by rw [← hlst]; exact h17))))) .nil) (.cons (.one .v (.v _)) .nil) (by decide) trivial
             ·
              replace h17 := of_decide_eq_false h17
              refine zAM ?_
              refine zAA rfl (.m rfl rfl (.r rfl (zAf rfl rfl rfl (by omega)) (.a rfl rfl .nil))) ?_
              refine nxt (Q := fun _ _ => False) (z := k6) (k6 + 1) ?_ ?_ ?_
              ·
               show (k6 + 1) ≤ r.2.length ∧ zGO (zCb mem) r.2 (k6 + 1)
               exact ⟨by omega, zLU hB1 hx (by rw [← hlst]; exact h17)⟩
              ·
               show r.2.length - (k6 + 1) < r.2.length - k6
               omega
              · exact zAJ ⟨rfl, rfl, rfl, (zAL (by omega)), trivial⟩ ⟨rfl, trivial⟩ trivial rfl
            ·
             replace h16 := of_decide_eq_false h16
             refine zAx ?_
             refine zAA rfl (.m rfl rfl (.r rfl (zAf rfl rfl rfl (by omega)) (.a rfl rfl .nil))) ?_
             refine nxt (Q := fun _ _ => False) (z := i5) (i5 + 1) ?_ ?_ ?_
             ·
              show (i5 + 1) ≤ rs.length ∧ zGN (zCb mem) rs (i5 + 1)
              exact ⟨by omega, zLR hB hr hB1 (by omega)⟩
             ·
              show rs.length - (i5 + 1) < rs.length - i5
              omega
             · exact zAJ ⟨rfl, rfl, (zAL (by omega)), trivial⟩ ⟨rfl, trivial⟩ trivial rfl
           ·
            replace h15 := of_decide_eq_false h15
            refine zAx ?_
            refine zAB (zAA rfl (.a rfl rfl .nil) ?_)
            refine zAO ?_
            exact ends [_] [] (.cons (.tmp (zAN (dbs_yes hbase ⟨by omega, by omega, fun j x hj hx => hS j x (by omega) hx, fun j x hj hx => hU j x (by omega) hx, fun j r hj hr => hB j r (by omega) hr⟩))) .nil) (.cons (.one .v (.v _)) .nil) (by decide) trivial
      ·
       have h6' := h6
       replace h6' := of_decide_eq_true h6'
       refine zAA rfl (.m rfl rfl (.r rfl (zAW (zBN rfl rfl rfl) (zAN h6)) (.m rfl rfl (.not rfl (.not rfl (.not rfl (.not rfl (.r rfl (zBM rfl rfl) .nil)))))))) ?_
       refine zAZ (t := true) rfl (fun _ => ?_) (fun h => nomatch h)
       refine zAB ?_
       refine zAY (s' := mk [] [] []) ?_ ?_
       · exact zAJ trivial trivial trivial rfl
       refine zAA rfl (.a rfl rfl .nil) ?_
       refine zAO ?_
       exact ends [_] [] (.cons (.tmp (zAN (zIM (fun q => by have := q.few; omega)))) .nil) (.cons (.one .v (.v _)) .nil) (by decide) trivial
   ·
    have h3' := h3
    replace h3' : (zBQ rs) = false := zBF h3'
    refine zAA rfl (.r rfl (zAC rfl rfl underlying28 rfl sizeOf2 (by decide)) (.r rfl (zAD rfl rfl rfl isAgg2 rfl) (.run [1500] [] rfl (zAK rfl 1500 (X := []) en29 rfl (.val nod) (.cons (.one (.bor .v)) (.cons (.one (.bor .v)) (.cons (.one (.bor .v)) .nil))) (by decide) all_nil .nil (zCm sq 0 1000000000000) rfl rfl (nle rfl)) (.r rfl (zAW (zA5 (b := zAs sq 0 1000000000000) rfl rfl) (zAN h1)) (.m rfl rfl (.r rfl (zAC rfl rfl underlying28 rfl sizeOf24 (by decide)) (.r rfl (zAD rfl rfl rfl isAgg24 rfl) (.run [2000] [] rfl (zAK rfl 2000 (X := []) en30 rfl (.val nod) (.cons (.one (.bor (.sl nod))) .nil) (by decide) all_nil .nil (zCL mem (by omega)) rfl rfl (nle rfl)) (.r rfl (zAW (zA5 (b := zAr mem) rfl rfl) (zAN h2)) (.r rfl (zBI rfl rfl) (.m rfl rfl (.r rfl (zAC rfl rfl underlying28 rfl sizeOf25 (by decide)) (.r rfl (zAD rfl rfl rfl isAgg25 rfl) (.run [2600] [] rfl (zAK rfl 2600 (X := []) en31 rfl (.val nod) (.cons (.one (.bor (.sl nod))) .nil) (by decide) all_nil .nil (zEr rs (by omega) hb) rfl rfl (nle rfl)) (.r rfl (zAW (zA5 (b := zBQ rs) rfl rfl) (zAN h3)) (.r rfl (zBI rfl rfl) (.m rfl rfl (.not rfl (.not rfl (.not rfl (.not rfl (.r rfl (zBM rfl rfl) .nil)))))))))))))))))))))) ?_
    refine zAZ (t := true) rfl (fun _ => ?_) (fun h => nomatch h)
    refine zAB ?_
    refine zAY (s' := mk [] [] []) ?_ ?_
    · exact zAJ trivial trivial trivial rfl
    refine zAA rfl (.a rfl rfl .nil) ?_
    refine zAO ?_
    exact ends [_] [] (.cons (.tmp (zAN (zGd (zPA (by simpa using h3))))) .nil) (.cons (.one .v (.v _)) .nil) (by decide) trivial
  ·
   have h2' := h2
   replace h2' : (zAr mem) = false := zBF h2'
   refine zAA rfl (.r rfl (zAC rfl rfl underlying28 rfl sizeOf2 (by decide)) (.r rfl (zAD rfl rfl rfl isAgg2 rfl) (.run [1500] [] rfl (zAK rfl 1500 (X := []) en29 rfl (.val nod) (.cons (.one (.bor .v)) (.cons (.one (.bor .v)) (.cons (.one (.bor .v)) .nil))) (by decide) all_nil .nil (zCm sq 0 1000000000000) rfl rfl (nle rfl)) (.r rfl (zAW (zA5 (b := zAs sq 0 1000000000000) rfl rfl) (zAN h1)) (.m rfl rfl (.r rfl (zAC rfl rfl underlying28 rfl sizeOf24 (by decide)) (.r rfl (zAD rfl rfl rfl isAgg24 rfl) (.run [2000] [] rfl (zAK rfl 2000 (X := []) en30 rfl (.val nod) (.cons (.one (.bor (.sl nod))) .nil) (by decide) all_nil .nil (zCL mem (by omega)) rfl rfl (nle rfl)) (.r rfl (zAW (zA5 (b := zAr mem) rfl rfl) (zAN h2)) (.r rfl (zBI rfl rfl) (.m rfl rfl (.not rfl (.not rfl (.not rfl (.not rfl (.r rfl (zBM rfl rfl) (.m rfl rfl (.not rfl (.not rfl (.not rfl (.not rfl (.r rfl (zBM rfl rfl) .nil)))))))))))))))))))))) ?_
   refine zAZ (t := true) rfl (fun _ => ?_) (fun h => nomatch h)
   refine zAB ?_
   refine zAY (s' := mk [] [] []) ?_ ?_
   · exact zAJ trivial trivial trivial rfl
   refine zAA rfl (.a rfl rfl .nil) ?_
   refine zAO ?_
   exact ends [_] [] (.cons (.tmp (zAN (zGd (zPB (by simpa using h2))))) .nil) (.cons (.one .v (.v _)) .nil) (by decide) trivial
 ·
  have h1' := h1
  replace h1' : (zAs sq 0 1000000000000) = false := zBF h1'
  refine zAA rfl (.r rfl (zAC rfl rfl underlying28 rfl sizeOf2 (by decide)) (.r rfl (zAD rfl rfl rfl isAgg2 rfl) (.run [1500] [] rfl (zAK rfl 1500 (X := []) en29 rfl (.val nod) (.cons (.one (.bor .v)) (.cons (.one (.bor .v)) (.cons (.one (.bor .v)) .nil))) (by decide) all_nil .nil (zCm sq 0 1000000000000) rfl rfl (nle rfl)) (.r rfl (zAW (zA5 (b := zAs sq 0 1000000000000) rfl rfl) (zAN h1)) (.m rfl rfl (.not rfl (.not rfl (.not rfl (.not rfl (.r rfl (zBM rfl rfl) (.m rfl rfl (.not rfl (.not rfl (.not rfl (.not rfl (.r rfl (zBM rfl rfl) (.m rfl rfl (.not rfl (.not rfl (.not rfl (.not rfl (.r rfl (zBM rfl rfl) .nil)))))))))))))))))))))) ?_
  refine zAZ (t := true) rfl (fun _ => ?_) (fun h => nomatch h)
  refine zAB ?_
  refine zAY (s' := mk [] [] []) ?_ ?_
  · exact zAJ trivial trivial trivial rfl
  refine zAA rfl (.a rfl rfl .nil) ?_
  refine zAO ?_
  exact ends [_] [] (.cons (.tmp (zAN (zGd (zPC (by simpa using h1))))) .nil) (.cons (.one .v (.v _)) .nil) (by decide) trivial
end Go.Rl
